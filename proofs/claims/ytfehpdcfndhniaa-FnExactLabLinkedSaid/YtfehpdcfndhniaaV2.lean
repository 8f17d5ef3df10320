/- the walks of functions -/
import Derived.Test.YtfehpdcfndhniaaRows
import Derived.Test.YtfehpdcfndhniaaV1
namespace Go.Proofs.Ytfehpdcfndhniaa
open Go.RowKit Go.ChangeShapes Go.WideShapes Go.ChangeAt
set_option maxRecDepth 100000
set_option linter.unusedSimpArgs false
set_option linter.unusedVariables false
theorem Out.eqT72 {E : Sl} {w : World} {x y : Operand} {d ty pos af g T} {x0 y0 : Int} { x1 y1 : Int} (hx : evL E x = .agg #[.int .i64 x0, .int .i64 x1]) (hy : evL E y = .agg #[.int .i64 y0, .int .i64 y1]) :
    Out Try.prog (fun v' w' => v' = .bool (((x0 == y0) && (x1 == y1))) ∧ Below w.heap.size w w') ((execOp (evL E) ⟨d, .binOp .eql 72 x y T, ty, pos, af, g⟩).run Try.prog w) := by
  refine Out.of_run ?_
  by_cases h0 : x0 = y0
  case neg => simp [execOp, hx, hy, go_sem, h0]
  by_cases h1 : x1 = y1
  case neg => simp [execOp, hx, hy, go_sem, h0, h1]
  simp [execOp, hx, hy, go_sem, h0, h1]
theorem Out.neT72 {E : Sl} {w : World} {x y : Operand} {d ty pos af g T} {x0 y0 : Int} { x1 y1 : Int} (hx : evL E x = .agg #[.int .i64 x0, .int .i64 x1]) (hy : evL E y = .agg #[.int .i64 y0, .int .i64 y1]) :
    Out Try.prog (fun v' w' => v' = .bool (!((x0 == y0) && (x1 == y1))) ∧ Below w.heap.size w w') ((execOp (evL E) ⟨d, .binOp .neq 72 x y T, ty, pos, af, g⟩).run Try.prog w) := by
  refine Out.of_run ?_
  by_cases h0 : x0 = y0
  case neg => simp [execOp, hx, hy, go_sem, h0]
  by_cases h1 : x1 = y1
  case neg => simp [execOp, hx, hy, go_sem, h0, h1]
  simp [execOp, hx, hy, go_sem, h0, h1]
def within (n : Int) (low : Int) (high : Int) : Bool := (decide (low ≤ n)) && (decide (n ≤ high))
/-- impl.within -/
theorem c_impl_within (w : World) (n : Int) (low : Int) (high : Int) :
    Calls Try.prog 52 #[.int .i64 n, .int .i64 low, .int .i64 high] w fun e w' => ∃ rv, e = .returned rv ∧ (rv = .bool (within n low high) ∧ Below w.heap.size w w') := by
  refine enter [(0, .int .i64 n), (1, .int .i64 low), (2, .int .i64 high)] Try.func52 rfl (by kernel_rfl) (by kernel_rfl) ?_
  have e0 := brefl w
  refine GC.seq ?_
  refine GC.regW [W (.bool false)] [(0, .int .i64 n), (1, .int .i64 low), (2, .int .i64 high)] mixed rfl (fun vs w => by kernel_rfl) rfl (fun vs => by kernel_rfl) ?_
  refine GQ.on ?_
  refine GC.seq ?_
  refine GC.abs [(6, .bool ((decide (low ≤ n)) && (decide (n ≤ high))))] (fun w' => Below w.heap.size w w') (fun Q' hQ3 => ?_) (fun w1 hE2 => ?_)
  · skip
    cases hB4 : (decide (low ≤ n))
    · skip
      have hB4' := hB4
      try simp only [bs] at hB4'
      refine GC.reg 9 [W (.int .i64 low), W (.int .i64 n), D (.bool false), W (.bool false), S, S, S, W (.bool false), W (.bool false)] mixed (fun vs w => by kernel_rfl) (⟨fun vs lo hi wx hB hK => Out.asB (Out.of_run (by kernel_rfl)) hB4, trivial⟩) ?_
      rintro vs5 lo5 hi5 w5 hU5
      exact Rest.nil (GQ.sub [(6, .bool ((decide (low ≤ n)) && (decide (n ≤ high))))] (by (try simp only [hB4]); kernel_rfl) (hQ3 _ hU5.1))
    · skip
      have hB4' := hB4
      try simp only [bs] at hB4'
      refine GC.reg 9 [W (.int .i64 low), W (.int .i64 n), D (.bool true), W (.bool true), W (.int .i64 n), W (.int .i64 high), W (.bool (decide (n ≤ high))), W (.bool (decide (n ≤ high))), W (.bool (decide (n ≤ high)))] mixed (fun vs w => by kernel_rfl) (⟨fun vs lo hi wx hB hK => Out.asB (Out.of_run (by kernel_rfl)) hB4, trivial⟩) ?_
      rintro vs6 lo6 hi6 w6 hU6
      exact Rest.nil (GQ.sub [(6, .bool ((decide (low ≤ n)) && (decide (n ≤ high))))] (by (try simp only [hB4]); kernel_rfl) (hQ3 _ hU6.1))
  · skip
    have e7 := btr e0 hE2
    refine GQ.on ?_
    refine GC.ret ?_
    refine GQ.ret1 (.bool ((decide (low ≤ n)) && (decide (n ≤ high)))) rfl rfl ?_
    exact ⟨_, rfl, congrArg (Value.bool) rfl, e7⟩
def before (addr : Int) (length : Int) (otherAddr : Int) (otherLen : Int) : Bool := (decide (addr < otherAddr)) || ((addr == otherAddr) && (decide (length < otherLen)))
/-- impl.before -/
theorem c_impl_before (w : World) (addr : Int) (length : Int) (otherAddr : Int) (otherLen : Int) :
    Calls Try.prog 99 #[.int .i64 addr, .int .i64 length, .int .i64 otherAddr, .int .i64 otherLen] w fun e w' => ∃ rv, e = .returned rv ∧ (rv = .bool (before addr length otherAddr otherLen) ∧ Below w.heap.size w w') := by
  refine enter [(0, .int .i64 addr), (1, .int .i64 length), (2, .int .i64 otherAddr), (3, .int .i64 otherLen)] Try.func99 rfl (by kernel_rfl) (by kernel_rfl) ?_
  have e0 := brefl w
  refine GC.seq ?_
  refine GC.regW [W (.bool false)] [(0, .int .i64 addr), (1, .int .i64 length), (2, .int .i64 otherAddr), (3, .int .i64 otherLen)] mixed rfl (fun vs w => by kernel_rfl) rfl (fun vs => by kernel_rfl) ?_
  refine GQ.on ?_
  refine GC.seq ?_
  refine GC.abs [(8, .bool ((decide (addr < otherAddr)) || ((addr == otherAddr) && (decide (length < otherLen)))))] (fun w' => Below w.heap.size w w') (fun Q' hQ3 => ?_) (fun w1 hE2 => ?_)
  · skip
    cases hB4 : (decide (addr < otherAddr))
    · skip
      have hB4' := hB4
      try simp only [bs, within] at hB4'
      cases hB5 : (addr == otherAddr)
      · skip
        have hB5' := hB5
        try simp only [bs, within] at hB5'
        refine GC.reg 14 [W (.int .i64 addr), W (.int .i64 otherAddr), D (.bool false), W (.bool false), W (.int .i64 addr), W (.int .i64 otherAddr), D (.bool false), W (.bool false), S, S, S, W (.bool false), W (.bool false), W (.bool false)] mixed (fun vs w => by kernel_rfl) (⟨fun vs lo hi wx hB hK => Out.asB (Out.of_run (by kernel_rfl)) hB4, fun vs lo hi wx hB hK => Out.asB (Out.of_run (by kernel_rfl)) hB5, trivial⟩) ?_
        rintro vs6 lo6 hi6 w6 hU6
        exact Rest.nil (GQ.sub [(8, .bool ((decide (addr < otherAddr)) || ((addr == otherAddr) && (decide (length < otherLen)))))] (by (try simp only [hB4]); (try simp only [hB5]); kernel_rfl) (hQ3 _ hU6.1))
      · skip
        have hB5' := hB5
        try simp only [bs, within] at hB5'
        refine GC.reg 14 [W (.int .i64 addr), W (.int .i64 otherAddr), D (.bool false), W (.bool false), W (.int .i64 addr), W (.int .i64 otherAddr), D (.bool true), W (.bool true), W (.int .i64 length), W (.int .i64 otherLen), W (.bool (decide (length < otherLen))), W (.bool (decide (length < otherLen))), W (.bool (decide (length < otherLen))), W (.bool (decide (length < otherLen)))] mixed (fun vs w => by kernel_rfl) (⟨fun vs lo hi wx hB hK => Out.asB (Out.of_run (by kernel_rfl)) hB4, fun vs lo hi wx hB hK => Out.asB (Out.of_run (by kernel_rfl)) hB5, trivial⟩) ?_
        rintro vs7 lo7 hi7 w7 hU7
        exact Rest.nil (GQ.sub [(8, .bool ((decide (addr < otherAddr)) || ((addr == otherAddr) && (decide (length < otherLen)))))] (by (try simp only [hB4]); (try simp only [hB5]); kernel_rfl) (hQ3 _ hU7.1))
    · skip
      have hB4' := hB4
      try simp only [bs, within] at hB4'
      refine GC.reg 14 [W (.int .i64 addr), W (.int .i64 otherAddr), D (.bool true), W (.bool true), S, S, S, S, S, S, S, S, W (.bool true), W (.bool true)] mixed (fun vs w => by kernel_rfl) (⟨fun vs lo hi wx hB hK => Out.asB (Out.of_run (by kernel_rfl)) hB4, trivial⟩) ?_
      rintro vs8 lo8 hi8 w8 hU8
      exact Rest.nil (GQ.sub [(8, .bool ((decide (addr < otherAddr)) || ((addr == otherAddr) && (decide (length < otherLen)))))] (by (try simp only [hB4]); kernel_rfl) (hQ3 _ hU8.1))
  · skip
    have e9 := btr e0 hE2
    refine GQ.on ?_
    refine GC.ret ?_
    refine GQ.ret1 (.bool ((decide (addr < otherAddr)) || ((addr == otherAddr) && (decide (length < otherLen))))) rfl rfl ?_
    exact ⟨_, rfl, congrArg (Value.bool) rfl, e9⟩
def f_impl_LabNet__linksOk_s0 (n : LabNet) : Nat → Lp Nat Bool := fun v => bif (decide ((v : Int) < (n.Links.length : Int))) then (bif ((decide (((n.Links.getD v default).A) < (0 : Int))) || ((decide (((n.Links.getD v default).A) ≥ ((n.Links.getD v default).B))) || (decide (((n.Links.getD v default).B) ≥ (n.Boxes.length : Int))))) then (Lp.ret false) else (bif ((decide ((v : Int) > (0 : Int))) && (!(before ((n.Links.getD (Int.toNat ((v : Int) - 1)) default).A) ((n.Links.getD (Int.toNat ((v : Int) - 1)) default).B) ((n.Links.getD v default).A) ((n.Links.getD v default).B)))) then (Lp.ret false) else (Lp.next (v + 1)))) else (Lp.done v)
def f_impl_LabNet__linksOk (n : LabNet) : Bool := Lp.fin (runL (f_impl_LabNet__linksOk_s0 n) ((Int.toNat ((n.Links.length : Int) - (0 : Int))) + 1) 0) id (fun v => decide ((n.Links.length : Int) ≤ (14 : Int)))
/-- (impl.LabNet).linksOk -/
theorem c_impl_LabNet__linksOk (w : World) (n : LabNet) (cs_n : List Value) (h_n : rpLabNet.rd w cs_n n) :
    Calls Try.prog 62 #[.agg cs_n.toArray] w fun e w' => ∃ rv, e = .returned rv ∧ (rv = .bool (f_impl_LabNet__linksOk n) ∧ Below w.heap.size w w') := by
  obtain ⟨a_n_Links, c_n_Links, a_n_Boxes, c_n_Boxes, rfl, h_n_Links, h_n_Boxes⟩ := h_n
  have lh_n_Links := h_n_Links.2.1
  have lh_n_Boxes := h_n_Boxes.2.1
  refine enter [(0, .agg #[.slice a_n_Links n.Links.length c_n_Links, .slice a_n_Boxes n.Boxes.length c_n_Boxes])] Try.func62 rfl (by kernel_rfl) (by kernel_rfl) ?_
  have e0 := brefl w
  refine GC.seq ?_
  refine GC.reg 2 [RB 0 27 [.slice a_n_Links n.Links.length c_n_Links, .slice a_n_Boxes n.Boxes.length c_n_Boxes], W (.bool false)] mixed (fun vs w => by kernel_rfl) (⟨fun vs lo hi wx hB hK => Out.box rfl, trivial⟩) ?_
  rintro vs1 lo1 hi1 w1 hU1
  have e2 := btr e0 hU1.1
  obtain ⟨⟨hv1_0, hp1_0, hb1_0⟩, hl1_0, -, -⟩ := hU1.2.1 0 _ rfl trivial
  have hl1_0b := Nat.le_trans e0.size hl1_0
  refine Rest.nil (GQ.sub [(1, .pointer (some ⟨(lo1 0), 0, none⟩))] (by rw [← hv1_0]; kernel_rfl) ?_)
  refine GQ.on ?_
  refine GC.seq ?_
  refine GC.seq ?_
  refine GC.reg 4 [W (.pointer (some ⟨(lo1 0), 0, none⟩)), D (.slice a_n_Links n.Links.length c_n_Links), W (.int .i64 (n.Links.length : Int)), W (.int .i64 0)] mixed (fun vs w => by kernel_rfl) (⟨fun vs lo hi wx hB hK => Out.load1 rfl agg_24 ((hb1_0.to hB).cell 0 _ rfl), trivial⟩) ?_
  rintro vs3 lo3 hi3 w3 hU3
  have e4 := btr e2 hU3.1
  replace hb1_0 := hb1_0.to hU3.1
  refine Rest.nil (GQ.sub [(1, .pointer (some ⟨(lo1 0), 0, none⟩)), (6, .slice a_n_Links n.Links.length c_n_Links), (7, .int .i64 (n.Links.length : Int)), (8, .int .i64 0)] (by kernel_rfl) ?_)
  refine GQ.on ?_
  refine GC.join (ι := Nat) (fun i => [(1, .pointer (some ⟨(lo1 0), 0, none⟩))]) (fun i w' => Chg (fun _ : Nat => False) w3 w' ∧ (runL (f_impl_LabNet__linksOk_s0 n) ((Int.toNat ((n.Links.length : Int) - (0 : Int))) + 1) 0) = Lp.done i ∧ (decide ((i : Int) < (n.Links.length : Int))) = false) (fun hq0 => ?_) ?_
  · skip
    refine GC.block ?_
    refine GC.loop (ι := Nat × Nat) (fun i => [(1, .pointer (some ⟨(lo1 0), 0, none⟩)), (6, .slice a_n_Links n.Links.length c_n_Links), (7, .int .i64 (n.Links.length : Int)), (8, .int .i64 (i.2 : Int))]) (fun i w' => Chg (fun _ : Nat => False) w3 w' ∧ runL (f_impl_LabNet__linksOk_s0 n) i.1 i.2 = (runL (f_impl_LabNet__linksOk_s0 n) ((Int.toNat ((n.Links.length : Int) - (0 : Int))) + 1) 0) ∧ Int.toNat ((n.Links.length : Int) - (i.2 : Int)) < i.1) (fun i => i.1) (((Int.toNat ((n.Links.length : Int) - (0 : Int))) + 1), 0) (by kernel_rfl) ⟨chg_refl _ _, rfl, Nat.lt_succ_self _⟩ ?_
    rintro ⟨m, v⟩ w5 ⟨hw6, hI0, hm0⟩
    obtain ⟨m, rfl⟩ := prev_of_lt hm0
    have e7 := chg_below e4 (Nat.le_refl _) hw6 (fun _ h => h.elim)
    replace hb1_0 := hb1_0.chg hw6 (fun h => h)
    refine GC.seq ?_
    refine GC.regW [W (.bool (decide ((v : Int) < (n.Links.length : Int))))] [(1, .pointer (some ⟨(lo1 0), 0, none⟩)), (6, .slice a_n_Links n.Links.length c_n_Links), (7, .int .i64 (n.Links.length : Int)), (8, .int .i64 (v : Int)), (9, .bool (decide ((v : Int) < (n.Links.length : Int))))] mixed rfl (fun vs w => by kernel_rfl) rfl (fun vs => by kernel_rfl) ?_
    refine GQ.on ?_
    refine GC.seq ?_
    refine GC.cond (decide ((v : Int) < (n.Links.length : Int))) rfl (fun hc0 => ?_) (fun hc0 => ?_)
    · skip
      have hc0' := hc0
      try simp only [bs, within] at hc0'
      refine GC.skip ?_
      refine GQ.on ?_
      refine GC.seq ?_
      refine GC.block ?_
      refine GC.seq ?_
      have hx_8 : n.Links[v]? = some (n.Links.getD v default) := getD_some (by omega)
      obtain ⟨ha_8, hb_8, cs_8, hl_8, hh_8, hr_8⟩ := h_n_Links.2.2 v (n.Links.getD v default) hx_8
      obtain rfl := hr_8
      refine GC.reg 5 [W (.int .i64 (v : Int)), D (.pointer (some ⟨(ab a_n_Links), ao a_n_Links + v * 2, none⟩)), D (.agg #[.int .i64 ((n.Links.getD v default).A), .int .i64 ((n.Links.getD v default).B)]), RB 3 72 [.int .i64 0, .int .i64 0], W (.int .i64 (v : Int))] mixed (fun vs w => by kernel_rfl) (⟨fun vs lo hi wx hB hK => Out.idxS v rfl rfl (ltg hx_8) ha_8 Try.underlying24 size_72, fun vs lo hi wx hB hK => Out.loadA rfl agg_72 size_72 ((hh_8.below hb_8 (btr e7 hB)).sub 0 _ rfl), fun vs lo hi wx hB hK => Out.alloc (z := .agg #[.int .i64 0, .int .i64 0]) (by kernel_rfl) rfl, trivial⟩) ?_
      rintro vs9 lo9 hi9 w9 hU9
      have hlt10 := hb1_0.lt
      have e11 := btr e7 hU9.1
      replace hb1_0 := hb1_0.to hU9.1
      have hw12 := chg_trb hw6 hU9.1
      obtain ⟨⟨hv9_3, hp9_3, hb9_3⟩, hl9_3, -, -⟩ := hU9.2.1 3 _ rfl trivial
      have hne13 := Nat.ne_of_lt (Nat.lt_of_lt_of_le hlt10 hl9_3)
      have hl9_3w := Nat.le_trans hw6.size hl9_3
      have hl9_3b := Nat.le_trans e7.size hl9_3
      refine Rest.sub [(1, .pointer (some ⟨(lo1 0), 0, none⟩)), (3, .int .i64 (v : Int)), (4, .pointer (some ⟨(lo9 3), 0, none⟩)), (6, .slice a_n_Links n.Links.length c_n_Links), (7, .int .i64 (n.Links.length : Int)), (8, .int .i64 (v : Int)), (12, .agg #[.int .i64 ((n.Links.getD v default).A), .int .i64 ((n.Links.getD v default).B)])] (by rw [← hv9_3]; kernel_rfl) ?_
      refine Rest.store [.int .i64 ((n.Links.getD v default).A), .int .i64 ((n.Links.getD v default).B)] [.int .i64 ((n.Links.getD v default).A), .int .i64 ((n.Links.getD v default).B)] rfl rfl hb9_3 size_72 rfl rfl rfl ?_
      intro w14 hC15 hb16
      have e17 := bchg1 e11 (Nat.le_refl _) hC15 hl9_3b
      have hw18 := chg_tr1 hw12 hC15 (.inl hl9_3w)
      replace hb1_0 := hb1_0.chg hC15 hne13
      refine Rest.nil (GQ.sub [(1, .pointer (some ⟨(lo1 0), 0, none⟩)), (3, .int .i64 (v : Int)), (4, .pointer (some ⟨(lo9 3), 0, none⟩)), (6, .slice a_n_Links n.Links.length c_n_Links), (7, .int .i64 (n.Links.length : Int)), (8, .int .i64 (v : Int))] (by kernel_rfl) ?_)
      refine GQ.on ?_
      refine GC.seq ?_
      refine GC.seq ?_
      refine GC.abs [(1, .pointer (some ⟨(lo1 0), 0, none⟩)), (3, .int .i64 (v : Int)), (4, .pointer (some ⟨(lo9 3), 0, none⟩)), (6, .slice a_n_Links n.Links.length c_n_Links), (7, .int .i64 (n.Links.length : Int)), (8, .int .i64 (v : Int)), (30, .bool ((decide (((n.Links.getD v default).A) < (0 : Int))) || ((decide (((n.Links.getD v default).A) ≥ ((n.Links.getD v default).B))) || (decide (((n.Links.getD v default).B) ≥ (n.Boxes.length : Int))))))] (fun w' => Below w14.heap.size w14 w') (fun Q' hQ21 => ?_) (fun w19 hE20 => ?_)
      · skip
        cases hB22 : (decide (((n.Links.getD v default).A) < (0 : Int)))
        · skip
          have hB22' := hB22
          try simp only [bs, within] at hB22'
          cases hB23 : (decide (((n.Links.getD v default).A) ≥ ((n.Links.getD v default).B)))
          · skip
            have hB23' := hB23
            try simp only [bs, within] at hB23'
            refine GC.reg 18 [W (.pointer (some ⟨(lo9 3), 0, none⟩)), D (.int .i64 ((n.Links.getD v default).A)), D (.bool false), W (.bool false), W (.pointer (some ⟨(lo9 3), 0, none⟩)), D (.int .i64 ((n.Links.getD v default).A)), W (.pointer (some ⟨(lo9 3), 1, none⟩)), D (.int .i64 ((n.Links.getD v default).B)), D (.bool false), W (.bool false), W (.bool false), W (.pointer (some ⟨(lo9 3), 1, none⟩)), D (.int .i64 ((n.Links.getD v default).B)), W (.pointer (some ⟨(lo1 0), 1, none⟩)), D (.slice a_n_Boxes n.Boxes.length c_n_Boxes), W (.int .i64 (n.Boxes.length : Int)), W (.bool (decide (((n.Links.getD v default).B) ≥ (n.Boxes.length : Int)))), W (.bool (decide (((n.Links.getD v default).B) ≥ (n.Boxes.length : Int))))] mixed (fun vs w => by kernel_rfl) (⟨fun vs lo hi wx hB hK => Out.load1 rfl agg_3 ((hb16.to hB).cell 0 _ rfl), fun vs lo hi wx hB hK => Out.asB (Out.of_run (by kernel_rfl)) hB22, fun vs lo hi wx hB hK => Out.load1 rfl agg_3 ((hb16.to hB).cell 0 _ rfl), fun vs lo hi wx hB hK => Out.load1 rfl agg_3 ((hb16.to hB).cell 1 _ rfl), fun vs lo hi wx hB hK => Out.asB (Out.of_run (by kernel_rfl)) hB23, fun vs lo hi wx hB hK => Out.load1 rfl agg_3 ((hb16.to hB).cell 1 _ rfl), fun vs lo hi wx hB hK => Out.load1 rfl agg_25 ((hb1_0.to hB).cell 1 _ rfl), trivial⟩) ?_
            rintro vs24 lo24 hi24 w24 hU24
            exact Rest.nil (GQ.sub [(1, .pointer (some ⟨(lo1 0), 0, none⟩)), (3, .int .i64 (v : Int)), (4, .pointer (some ⟨(lo9 3), 0, none⟩)), (6, .slice a_n_Links n.Links.length c_n_Links), (7, .int .i64 (n.Links.length : Int)), (8, .int .i64 (v : Int)), (30, .bool ((decide (((n.Links.getD v default).A) < (0 : Int))) || ((decide (((n.Links.getD v default).A) ≥ ((n.Links.getD v default).B))) || (decide (((n.Links.getD v default).B) ≥ (n.Boxes.length : Int))))))] (by (try simp only [hB22]); (try simp only [hB23]); kernel_rfl) (hQ21 _ hU24.1))
          · skip
            have hB23' := hB23
            try simp only [bs, within] at hB23'
            refine GC.reg 18 [W (.pointer (some ⟨(lo9 3), 0, none⟩)), D (.int .i64 ((n.Links.getD v default).A)), D (.bool false), W (.bool false), W (.pointer (some ⟨(lo9 3), 0, none⟩)), D (.int .i64 ((n.Links.getD v default).A)), W (.pointer (some ⟨(lo9 3), 1, none⟩)), D (.int .i64 ((n.Links.getD v default).B)), D (.bool true), W (.bool true), W (.bool true), S, S, S, S, S, S, W (.bool true)] mixed (fun vs w => by kernel_rfl) (⟨fun vs lo hi wx hB hK => Out.load1 rfl agg_3 ((hb16.to hB).cell 0 _ rfl), fun vs lo hi wx hB hK => Out.asB (Out.of_run (by kernel_rfl)) hB22, fun vs lo hi wx hB hK => Out.load1 rfl agg_3 ((hb16.to hB).cell 0 _ rfl), fun vs lo hi wx hB hK => Out.load1 rfl agg_3 ((hb16.to hB).cell 1 _ rfl), fun vs lo hi wx hB hK => Out.asB (Out.of_run (by kernel_rfl)) hB23, trivial⟩) ?_
            rintro vs25 lo25 hi25 w25 hU25
            exact Rest.nil (GQ.sub [(1, .pointer (some ⟨(lo1 0), 0, none⟩)), (3, .int .i64 (v : Int)), (4, .pointer (some ⟨(lo9 3), 0, none⟩)), (6, .slice a_n_Links n.Links.length c_n_Links), (7, .int .i64 (n.Links.length : Int)), (8, .int .i64 (v : Int)), (30, .bool ((decide (((n.Links.getD v default).A) < (0 : Int))) || ((decide (((n.Links.getD v default).A) ≥ ((n.Links.getD v default).B))) || (decide (((n.Links.getD v default).B) ≥ (n.Boxes.length : Int))))))] (by (try simp only [hB22]); (try simp only [hB23]); kernel_rfl) (hQ21 _ hU25.1))
        · skip
          have hB22' := hB22
          try simp only [bs, within] at hB22'
          refine GC.reg 18 [W (.pointer (some ⟨(lo9 3), 0, none⟩)), D (.int .i64 ((n.Links.getD v default).A)), D (.bool true), W (.bool true), S, S, S, S, S, W (.bool true), W (.bool true), S, S, S, S, S, S, W (.bool true)] mixed (fun vs w => by kernel_rfl) (⟨fun vs lo hi wx hB hK => Out.load1 rfl agg_3 ((hb16.to hB).cell 0 _ rfl), fun vs lo hi wx hB hK => Out.asB (Out.of_run (by kernel_rfl)) hB22, trivial⟩) ?_
          rintro vs26 lo26 hi26 w26 hU26
          exact Rest.nil (GQ.sub [(1, .pointer (some ⟨(lo1 0), 0, none⟩)), (3, .int .i64 (v : Int)), (4, .pointer (some ⟨(lo9 3), 0, none⟩)), (6, .slice a_n_Links n.Links.length c_n_Links), (7, .int .i64 (n.Links.length : Int)), (8, .int .i64 (v : Int)), (30, .bool ((decide (((n.Links.getD v default).A) < (0 : Int))) || ((decide (((n.Links.getD v default).A) ≥ ((n.Links.getD v default).B))) || (decide (((n.Links.getD v default).B) ≥ (n.Boxes.length : Int))))))] (by (try simp only [hB22]); kernel_rfl) (hQ21 _ hU26.1))
      · skip
        have e27 := btr e17 hE20
        replace hb1_0 := hb1_0.to hE20
        replace hb16 := hb16.to hE20
        have hw28 := chg_trb hw18 hE20
        refine GQ.on ?_
        refine GC.cond ((decide (((n.Links.getD v default).A) < (0 : Int))) || ((decide (((n.Links.getD v default).A) ≥ ((n.Links.getD v default).B))) || (decide (((n.Links.getD v default).B) ≥ (n.Boxes.length : Int))))) rfl (fun hc1 => ?_) (fun hc1 => ?_)
        · skip
          have hc1' := hc1
          try simp only [bs, within] at hc1'
          refine GC.seq ?_
          refine GC.regW [W (.bool false)] [(2, .bool false)] mixed rfl (fun vs w => by kernel_rfl) rfl (fun vs => by kernel_rfl) ?_
          refine GQ.on ?_
          refine GC.ret ?_
          refine GQ.passRet ?_
          refine GQ.blockRet ?_
          refine GQ.passRet ?_
          refine GQ.passRet ?_
          refine GQ.blockRet ?_
          refine GQ.passRet ?_
          refine GQ.ret1 (.bool false) rfl rfl ?_
          exact ⟨_, rfl, congrArg (Value.bool) (finR (runL_ret hI0 (cndT hc0 (cndT hc1 rfl))) rfl), e27⟩
        · skip
          have hc1' := hc1
          try simp only [bs, within] at hc1'
          refine GC.skip ?_
          refine GQ.on ?_
          refine GC.seq ?_
          have hx_29 : n.Links[Int.toNat ((v : Int) - 1)]? = some (n.Links.getD (Int.toNat ((v : Int) - 1)) default) := getD_some (by omega)
          obtain ⟨ha_29, hb_29, cs_29, hl_29, hh_29, hr_29⟩ := h_n_Links.2.2 (Int.toNat ((v : Int) - 1)) (n.Links.getD (Int.toNat ((v : Int) - 1)) default) hx_29
          obtain rfl := hr_29
          refine GC.abs [(1, .pointer (some ⟨(lo1 0), 0, none⟩)), (6, .slice a_n_Links n.Links.length c_n_Links), (7, .int .i64 (n.Links.length : Int)), (8, .int .i64 (v : Int)), (54, .bool ((decide ((v : Int) > (0 : Int))) && (!(before ((n.Links.getD (Int.toNat ((v : Int) - 1)) default).A) ((n.Links.getD (Int.toNat ((v : Int) - 1)) default).B) ((n.Links.getD v default).A) ((n.Links.getD v default).B)))))] (fun w' => Below w19.heap.size w19 w') (fun Q' hQ32 => ?_) (fun w30 hE31 => ?_)
          · skip
            cases hB33 : (decide ((v : Int) > (0 : Int)))
            · skip
              have hB33' := hB33
              try simp only [bs, within] at hB33'
              refine GC.reg 24 [W (.int .i64 (v : Int)), D (.bool false), W (.bool false), S, S, S, S, S, S, S, S, S, S, S, S, S, S, S, S, S, S, S, S, W (.bool false)] mixed (fun vs w => by kernel_rfl) (⟨fun vs lo hi wx hB hK => Out.asB (Out.of_run (by kernel_rfl)) hB33, trivial⟩) ?_
              rintro vs34 lo34 hi34 w34 hU34
              exact Rest.nil (GQ.sub [(1, .pointer (some ⟨(lo1 0), 0, none⟩)), (6, .slice a_n_Links n.Links.length c_n_Links), (7, .int .i64 (n.Links.length : Int)), (8, .int .i64 (v : Int)), (54, .bool ((decide ((v : Int) > (0 : Int))) && (!(before ((n.Links.getD (Int.toNat ((v : Int) - 1)) default).A) ((n.Links.getD (Int.toNat ((v : Int) - 1)) default).B) ((n.Links.getD v default).A) ((n.Links.getD v default).B)))))] (by (try simp only [hB33]); kernel_rfl) (hQ32 _ hU34.1))
            · skip
              have hB33' := hB33
              try simp only [bs, within] at hB33'
              refine GC.reg 24 [W (.int .i64 (v : Int)), D (.bool true), W (.bool true), W (.pointer (some ⟨(lo1 0), 0, none⟩)), D (.slice a_n_Links n.Links.length c_n_Links), W (.int .i64 (v : Int)), D (.int .i64 ((v : Int) - 1)), D (.pointer (some ⟨(ab a_n_Links), ao a_n_Links + (Int.toNat ((v : Int) - 1)) * 2, none⟩)), W (.pointer (some ⟨(ab a_n_Links), ao a_n_Links + (Int.toNat ((v : Int) - 1)) * 2, none⟩)), D (.int .i64 ((n.Links.getD (Int.toNat ((v : Int) - 1)) default).A)), W (.pointer (some ⟨(lo1 0), 0, none⟩)), D (.slice a_n_Links n.Links.length c_n_Links), W (.int .i64 (v : Int)), D (.int .i64 ((v : Int) - 1)), D (.pointer (some ⟨(ab a_n_Links), ao a_n_Links + (Int.toNat ((v : Int) - 1)) * 2, none⟩)), W (.pointer (some ⟨(ab a_n_Links), ao a_n_Links + (Int.toNat ((v : Int) - 1)) * 2 + 1, none⟩)), D (.int .i64 ((n.Links.getD (Int.toNat ((v : Int) - 1)) default).B)), W (.pointer (some ⟨(lo9 3), 0, none⟩)), D (.int .i64 ((n.Links.getD v default).A)), W (.pointer (some ⟨(lo9 3), 1, none⟩)), D (.int .i64 ((n.Links.getD v default).B)), D (.bool (before ((n.Links.getD (Int.toNat ((v : Int) - 1)) default).A) ((n.Links.getD (Int.toNat ((v : Int) - 1)) default).B) ((n.Links.getD v default).A) ((n.Links.getD v default).B))), W (.bool (!(before ((n.Links.getD (Int.toNat ((v : Int) - 1)) default).A) ((n.Links.getD (Int.toNat ((v : Int) - 1)) default).B) ((n.Links.getD v default).A) ((n.Links.getD v default).B)))), W (.bool (!(before ((n.Links.getD (Int.toNat ((v : Int) - 1)) default).A) ((n.Links.getD (Int.toNat ((v : Int) - 1)) default).B) ((n.Links.getD v default).A) ((n.Links.getD v default).B))))] mixed (fun vs w => by kernel_rfl) (⟨fun vs lo hi wx hB hK => Out.asB (Out.of_run (by kernel_rfl)) hB33, fun vs lo hi wx hB hK => Out.load1 rfl agg_24 ((hb1_0.to hB).cell 0 _ rfl), fun vs lo hi wx hB hK => Out.subI rfl rfl (by omega) (by omega), fun vs lo hi wx hB hK => Out.idxE (Int.toNat ((v : Int) - 1)) rfl rfl (by omega) (ltg hx_29) ha_29 Try.underlying24 size_72, fun vs lo hi wx hB hK => Out.load1 rfl agg_3 ((hh_29.below hb_29 (btr e27 hB)) 0 _ rfl), fun vs lo hi wx hB hK => Out.load1 rfl agg_24 ((hb1_0.to hB).cell 0 _ rfl), fun vs lo hi wx hB hK => Out.subI rfl rfl (by omega) (by omega), fun vs lo hi wx hB hK => Out.idxE (Int.toNat ((v : Int) - 1)) rfl rfl (by omega) (ltg hx_29) ha_29 Try.underlying24 size_72, fun vs lo hi wx hB hK => Out.load1 rfl agg_3 ((hh_29.below hb_29 (btr e27 hB)) 1 _ rfl), fun vs lo hi wx hB hK => Out.load1 rfl agg_3 ((hb16.to hB).cell 0 _ rfl), fun vs lo hi wx hB hK => Out.load1 rfl agg_3 ((hb16.to hB).cell 1 _ rfl), fun vs lo hi wx hB hK => Out.call (by kernel_rfl) (c_impl_before _ ((n.Links.getD (Int.toNat ((v : Int) - 1)) default).A) ((n.Links.getD (Int.toNat ((v : Int) - 1)) default).B) ((n.Links.getD v default).A) ((n.Links.getD v default).B)) (fun _ _ h => h), trivial⟩) ?_
              rintro vs35 lo35 hi35 w35 hU35
              exact Rest.nil (GQ.sub [(1, .pointer (some ⟨(lo1 0), 0, none⟩)), (6, .slice a_n_Links n.Links.length c_n_Links), (7, .int .i64 (n.Links.length : Int)), (8, .int .i64 (v : Int)), (54, .bool ((decide ((v : Int) > (0 : Int))) && (!(before ((n.Links.getD (Int.toNat ((v : Int) - 1)) default).A) ((n.Links.getD (Int.toNat ((v : Int) - 1)) default).B) ((n.Links.getD v default).A) ((n.Links.getD v default).B)))))] (by (try simp only [hB33]); kernel_rfl) (hQ32 _ hU35.1))
          · skip
            have e36 := btr e27 hE31
            replace hb1_0 := hb1_0.to hE31
            replace hb16 := hb16.to hE31
            have hw37 := chg_trb hw28 hE31
            refine GQ.on ?_
            refine GC.cond ((decide ((v : Int) > (0 : Int))) && (!(before ((n.Links.getD (Int.toNat ((v : Int) - 1)) default).A) ((n.Links.getD (Int.toNat ((v : Int) - 1)) default).B) ((n.Links.getD v default).A) ((n.Links.getD v default).B)))) rfl (fun hc2 => ?_) (fun hc2 => ?_)
            · skip
              have hc2' := hc2
              try simp only [bs, within] at hc2'
              refine GC.seq ?_
              refine GC.regW [W (.bool false)] [(2, .bool false)] mixed rfl (fun vs w => by kernel_rfl) rfl (fun vs => by kernel_rfl) ?_
              refine GQ.on ?_
              refine GC.ret ?_
              refine GQ.blockRet ?_
              refine GQ.passRet ?_
              refine GQ.passRet ?_
              refine GQ.blockRet ?_
              refine GQ.passRet ?_
              refine GQ.ret1 (.bool false) rfl rfl ?_
              exact ⟨_, rfl, congrArg (Value.bool) (finR (runL_ret hI0 (cndT hc0 (cndF hc1 (cndT hc2 rfl)))) rfl), e36⟩
            · skip
              have hc2' := hc2
              try simp only [bs, within] at hc2'
              refine GC.skip ?_
              refine GQ.blockEnd ?_
              refine GQ.on ?_
              refine GC.reg 2 [D (.int .i64 ((v : Int) + 1)), W (.int .i64 ((v : Int) + 1))] mixed (fun vs w => by kernel_rfl) (⟨fun vs lo hi wx hB hK => Out.add rfl rfl (by omega) (by omega), trivial⟩) ?_
              rintro vs38 lo38 hi38 w38 hU38
              have e39 := btr e36 hU38.1
              replace hb1_0 := hb1_0.to hU38.1
              replace hb16 := hb16.to hU38.1
              have hw40 := chg_trb hw37 hU38.1
              refine Rest.nil (GQ.sub [(1, .pointer (some ⟨(lo1 0), 0, none⟩)), (6, .slice a_n_Links n.Links.length c_n_Links), (7, .int .i64 (n.Links.length : Int)), (8, .int .i64 ((v : Int) + 1))] (by kernel_rfl) ?_)
              exact GQ.next (m, v + 1) (by kernel_rfl) ⟨hw40, runL_next hI0 (cndT hc0 (cndF hc1 (cndF hc2 rfl))), (by omega)⟩ (Nat.lt_succ_self _)
    · skip
      have hc0' := hc0
      try simp only [bs, within] at hc0'
      refine GC.exit ?_
      refine GQ.pass ?_
      refine GQ.pass ?_
      refine GQ.blockOut ?_
      exact GQ.sub [(1, .pointer (some ⟨(lo1 0), 0, none⟩))] (by kernel_rfl) (hq0 v _ ⟨hw6, runL_done hI0 (cndF hc0 rfl), hc0⟩)
  · skip
    rintro v w41 ⟨hw42, hD0, hx0_0⟩
    have e43 := chg_below e4 (Nat.le_refl _) hw42 (fun _ h => h.elim)
    replace hb1_0 := hb1_0.chg hw42 (fun h => h)
    have hx0_0' := hx0_0
    try simp only [bs, within] at hx0_0'
    refine GQ.on ?_
    refine GC.seq ?_
    refine GC.reg 5 [W (.pointer (some ⟨(lo1 0), 0, none⟩)), D (.slice a_n_Links n.Links.length c_n_Links), W (.int .i64 (n.Links.length : Int)), W (.bool (decide ((n.Links.length : Int) ≤ (14 : Int)))), W (.bool (decide ((n.Links.length : Int) ≤ (14 : Int))))] mixed (fun vs w => by kernel_rfl) (⟨fun vs lo hi wx hB hK => Out.load1 rfl agg_24 ((hb1_0.to hB).cell 0 _ rfl), trivial⟩) ?_
    rintro vs44 lo44 hi44 w44 hU44
    have e45 := btr e43 hU44.1
    replace hb1_0 := hb1_0.to hU44.1
    refine Rest.nil (GQ.sub [(2, .bool (decide ((n.Links.length : Int) ≤ (14 : Int))))] (by kernel_rfl) ?_)
    refine GQ.on ?_
    refine GC.ret ?_
    refine GQ.ret1 (.bool (decide ((n.Links.length : Int) ≤ (14 : Int)))) rfl rfl ?_
    exact ⟨_, rfl, congrArg (Value.bool) (finD hD0 rfl), e45⟩
def isLabel (label : Int) : Bool := within label 1 60
/-- impl.isLabel -/
theorem c_impl_isLabel (w : World) (label : Int) :
    Calls Try.prog 100 #[.int .i64 label] w fun e w' => ∃ rv, e = .returned rv ∧ (rv = .bool (isLabel label) ∧ Below w.heap.size w w') := by
  refine enter [(0, .int .i64 label)] Try.func100 rfl (by kernel_rfl) (by kernel_rfl) ?_
  have e0 := brefl w
  refine GC.seq ?_
  refine GC.regW [W (.bool false)] [(0, .int .i64 label)] mixed rfl (fun vs w => by kernel_rfl) rfl (fun vs => by kernel_rfl) ?_
  refine GQ.on ?_
  refine GC.seq ?_
  refine GC.reg 3 [W (.int .i64 label), D (.bool (within label 1 60)), W (.bool (within label 1 60))] mixed (fun vs w => by kernel_rfl) (⟨fun vs lo hi wx hB hK => Out.call (by kernel_rfl) (c_impl_within _ label 1 60) (fun _ _ h => h), trivial⟩) ?_
  rintro vs1 lo1 hi1 w1 hU1
  have e2 := btr e0 hU1.1
  refine Rest.nil (GQ.sub [(2, .bool (within label 1 60))] (by kernel_rfl) ?_)
  refine GQ.on ?_
  refine GC.ret ?_
  refine GQ.ret1 (.bool (within label 1 60)) rfl rfl ?_
  exact ⟨_, rfl, congrArg (Value.bool) rfl, e2⟩
def f_slices_Index___impl_LabLink_impl_LabLink_s0 (s : List LabLink) (v : LabLink) : Nat → Lp Nat Int := fun v2 => bif (decide ((v2 : Int) < (s.length : Int))) then (bif ((v.A == ((s.getD v2 default).A)) && (v.B == ((s.getD v2 default).B))) then (Lp.ret (v2 : Int)) else (Lp.next (v2 + 1))) else (Lp.done v2)
def f_slices_Index___impl_LabLink_impl_LabLink (s : List LabLink) (v : LabLink) : Int := Lp.fin (runL (f_slices_Index___impl_LabLink_impl_LabLink_s0 s v) ((Int.toNat ((s.length : Int) - (0 : Int))) + 1) 0) id (fun v2 => -1)
/-- slices.Index[[]impl.LabLink,impl.LabLink] -/
theorem c_slices_Index___impl_LabLink_impl_LabLink (w : World) (a_s : Option Addr) (c_s : Nat) (s : List LabLink) (h_s : SlR rpLabLink w a_s c_s s) (v : LabLink) (cs_v : List Value) (h_v : rpLabLink.rd w cs_v v) :
    Calls Try.prog 101 #[.slice a_s s.length c_s, .agg cs_v.toArray] w fun e w' => ∃ rv, e = .returned rv ∧ (rv = .int .i64 (f_slices_Index___impl_LabLink_impl_LabLink s v) ∧ Below w.heap.size w w') := by
  have lh_s := h_s.2.1
  obtain rfl := h_v
  refine enter [(0, .slice a_s s.length c_s), (1, .agg #[.int .i64 v.A, .int .i64 v.B])] Try.func101 rfl (by kernel_rfl) (by kernel_rfl) ?_
  have e0 := brefl w
  refine GC.seq ?_
  refine GC.reg 2 [RB 0 72 [.int .i64 v.A, .int .i64 v.B], W (.int .i64 0)] mixed (fun vs w => by kernel_rfl) (⟨fun vs lo hi wx hB hK => Out.box rfl, trivial⟩) ?_
  rintro vs1 lo1 hi1 w1 hU1
  have e2 := btr e0 hU1.1
  obtain ⟨⟨hv1_0, hp1_0, hb1_0⟩, hl1_0, -, -⟩ := hU1.2.1 0 _ rfl trivial
  have hl1_0b := Nat.le_trans e0.size hl1_0
  refine Rest.nil (GQ.sub [(0, .slice a_s s.length c_s), (3, .pointer (some ⟨(lo1 0), 0, none⟩))] (by rw [← hv1_0]; kernel_rfl) ?_)
  refine GQ.on ?_
  refine GC.seq ?_
  refine GC.seq ?_
  refine GC.regW [W (.slice a_s s.length c_s), W (.int .i64 (s.length : Int)), W (.int .i64 0)] [(0, .slice a_s s.length c_s), (3, .pointer (some ⟨(lo1 0), 0, none⟩)), (7, .int .i64 (s.length : Int)), (8, .int .i64 0)] mixed rfl (fun vs w => by kernel_rfl) rfl (fun vs => by kernel_rfl) ?_
  refine GQ.on ?_
  refine GC.join (ι := Nat) (fun i => []) (fun i w' => Chg (fun _ : Nat => False) w1 w' ∧ (runL (f_slices_Index___impl_LabLink_impl_LabLink_s0 s v) ((Int.toNat ((s.length : Int) - (0 : Int))) + 1) 0) = Lp.done i ∧ (decide ((i : Int) < (s.length : Int))) = false) (fun hq0 => ?_) ?_
  · skip
    refine GC.block ?_
    refine GC.loop (ι := Nat × Nat) (fun i => [(0, .slice a_s s.length c_s), (3, .pointer (some ⟨(lo1 0), 0, none⟩)), (7, .int .i64 (s.length : Int)), (8, .int .i64 (i.2 : Int))]) (fun i w' => Chg (fun _ : Nat => False) w1 w' ∧ runL (f_slices_Index___impl_LabLink_impl_LabLink_s0 s v) i.1 i.2 = (runL (f_slices_Index___impl_LabLink_impl_LabLink_s0 s v) ((Int.toNat ((s.length : Int) - (0 : Int))) + 1) 0) ∧ Int.toNat ((s.length : Int) - (i.2 : Int)) < i.1) (fun i => i.1) (((Int.toNat ((s.length : Int) - (0 : Int))) + 1), 0) (by kernel_rfl) ⟨chg_refl _ _, rfl, Nat.lt_succ_self _⟩ ?_
    rintro ⟨m, v2⟩ w3 ⟨hw4, hI0, hm0⟩
    obtain ⟨m, rfl⟩ := prev_of_lt hm0
    have e5 := chg_below e2 (Nat.le_refl _) hw4 (fun _ h => h.elim)
    replace hb1_0 := hb1_0.chg hw4 (fun h => h)
    refine GC.seq ?_
    refine GC.regW [W (.bool (decide ((v2 : Int) < (s.length : Int))))] [(0, .slice a_s s.length c_s), (3, .pointer (some ⟨(lo1 0), 0, none⟩)), (7, .int .i64 (s.length : Int)), (8, .int .i64 (v2 : Int)), (9, .bool (decide ((v2 : Int) < (s.length : Int))))] mixed rfl (fun vs w => by kernel_rfl) rfl (fun vs => by kernel_rfl) ?_
    refine GQ.on ?_
    refine GC.seq ?_
    refine GC.cond (decide ((v2 : Int) < (s.length : Int))) rfl (fun hc0 => ?_) (fun hc0 => ?_)
    · skip
      have hc0' := hc0
      try simp only [bs, within, isLabel] at hc0'
      refine GC.skip ?_
      refine GQ.on ?_
      refine GC.seq ?_
      refine GC.block ?_
      refine GC.seq ?_
      refine GC.regW [W (.int .i64 (v2 : Int)), W (.int .i64 (v2 : Int))] [(0, .slice a_s s.length c_s), (3, .pointer (some ⟨(lo1 0), 0, none⟩)), (5, .int .i64 (v2 : Int)), (7, .int .i64 (s.length : Int)), (8, .int .i64 (v2 : Int))] mixed rfl (fun vs w => by kernel_rfl) rfl (fun vs => by kernel_rfl) ?_
      refine GQ.on ?_
      refine GC.seq ?_
      have hx_6 : s[v2]? = some (s.getD v2 default) := getD_some (by omega)
      obtain ⟨ha_6, hb_6, cs_6, hl_6, hh_6, hr_6⟩ := h_s.2.2 v2 (s.getD v2 default) hx_6
      obtain rfl := hr_6
      refine GC.reg 6 [D (.agg #[.int .i64 v.A, .int .i64 v.B]), W (.slice a_s s.length c_s), W (.int .i64 (v2 : Int)), D (.pointer (some ⟨(ab a_s), ao a_s + v2 * 2, none⟩)), D (.agg #[.int .i64 ((s.getD v2 default).A), .int .i64 ((s.getD v2 default).B)]), D (.bool ((v.A == ((s.getD v2 default).A)) && (v.B == ((s.getD v2 default).B))))] mixed (fun vs w => by kernel_rfl) (⟨fun vs lo hi wx hB hK => Out.loadA rfl agg_72 size_72 ((hb1_0.to hB).has 0 _ rfl), fun vs lo hi wx hB hK => Out.idxS v2 rfl rfl (ltg hx_6) ha_6 Try.underlying24 size_72, fun vs lo hi wx hB hK => Out.loadA rfl agg_72 size_72 ((hh_6.below hb_6 (btr e5 hB)).sub 0 _ rfl), fun vs lo hi wx hB hK => Out.eqT72 rfl rfl, trivial⟩) ?_
      rintro vs7 lo7 hi7 w7 hU7
      have e8 := btr e5 hU7.1
      replace hb1_0 := hb1_0.to hU7.1
      have hw9 := chg_trb hw4 hU7.1
      refine Rest.nil (GQ.sub [(0, .slice a_s s.length c_s), (3, .pointer (some ⟨(lo1 0), 0, none⟩)), (5, .int .i64 (v2 : Int)), (7, .int .i64 (s.length : Int)), (8, .int .i64 (v2 : Int)), (16, .bool ((v.A == ((s.getD v2 default).A)) && (v.B == ((s.getD v2 default).B))))] (by kernel_rfl) ?_)
      refine GQ.on ?_
      refine GC.cond ((v.A == ((s.getD v2 default).A)) && (v.B == ((s.getD v2 default).B))) rfl (fun hc1 => ?_) (fun hc1 => ?_)
      · skip
        have hc1' := hc1
        try simp only [bs, within, isLabel] at hc1'
        refine GC.seq ?_
        refine GC.regW [W (.int .i64 (v2 : Int)), W (.int .i64 (v2 : Int))] [(4, .int .i64 (v2 : Int))] mixed rfl (fun vs w => by kernel_rfl) rfl (fun vs => by kernel_rfl) ?_
        refine GQ.on ?_
        refine GC.ret ?_
        refine GQ.blockRet ?_
        refine GQ.passRet ?_
        refine GQ.passRet ?_
        refine GQ.blockRet ?_
        refine GQ.passRet ?_
        refine GQ.ret1 (.int .i64 (v2 : Int)) rfl rfl ?_
        exact ⟨_, rfl, congrArg (Value.int .i64) (finR (runL_ret hI0 (cndT hc0 (cndT hc1 rfl))) rfl), e8⟩
      · skip
        have hc1' := hc1
        try simp only [bs, within, isLabel] at hc1'
        refine GC.skip ?_
        refine GQ.blockEnd ?_
        refine GQ.on ?_
        refine GC.reg 2 [D (.int .i64 ((v2 : Int) + 1)), W (.int .i64 ((v2 : Int) + 1))] mixed (fun vs w => by kernel_rfl) (⟨fun vs lo hi wx hB hK => Out.add rfl rfl (by omega) (by omega), trivial⟩) ?_
        rintro vs10 lo10 hi10 w10 hU10
        have e11 := btr e8 hU10.1
        replace hb1_0 := hb1_0.to hU10.1
        have hw12 := chg_trb hw9 hU10.1
        refine Rest.nil (GQ.sub [(0, .slice a_s s.length c_s), (3, .pointer (some ⟨(lo1 0), 0, none⟩)), (7, .int .i64 (s.length : Int)), (8, .int .i64 ((v2 : Int) + 1))] (by kernel_rfl) ?_)
        exact GQ.next (m, v2 + 1) (by kernel_rfl) ⟨hw12, runL_next hI0 (cndT hc0 (cndF hc1 rfl)), (by omega)⟩ (Nat.lt_succ_self _)
    · skip
      have hc0' := hc0
      try simp only [bs, within, isLabel] at hc0'
      refine GC.exit ?_
      refine GQ.pass ?_
      refine GQ.pass ?_
      refine GQ.blockOut ?_
      exact GQ.sub [] (by kernel_rfl) (hq0 v2 _ ⟨hw4, runL_done hI0 (cndF hc0 rfl), hc0⟩)
  · skip
    rintro v2 w13 ⟨hw14, hD0, hx0_0⟩
    have e15 := chg_below e2 (Nat.le_refl _) hw14 (fun _ h => h.elim)
    replace hb1_0 := hb1_0.chg hw14 (fun h => h)
    have hx0_0' := hx0_0
    try simp only [bs, within, isLabel] at hx0_0'
    refine GQ.on ?_
    refine GC.seq ?_
    refine GC.regW [W (.int .i64 (-1))] [(4, .int .i64 (-1))] mixed rfl (fun vs w => by kernel_rfl) rfl (fun vs => by kernel_rfl) ?_
    refine GQ.on ?_
    refine GC.ret ?_
    refine GQ.ret1 (.int .i64 (-1)) rfl rfl ?_
    exact ⟨_, rfl, congrArg (Value.int .i64) (finD hD0 rfl), e15⟩
def f_impl_LabNet__link (n : LabNet) (a : Int) (b : Int) : Int := f_slices_Index___impl_LabLink_impl_LabLink n.Links (⟨if b < a then b else a, if a < b then b else a⟩ : LabLink)
/-- (impl.LabNet).link -/
theorem c_impl_LabNet__link (w : World) (n : LabNet) (cs_n : List Value) (h_n : rpLabNet.rd w cs_n n) (a : Int) (b : Int) :
    Calls Try.prog 65 #[.agg cs_n.toArray, .int .i64 a, .int .i64 b] w fun e w' => ∃ rv, e = .returned rv ∧ (rv = .int .i64 (f_impl_LabNet__link n a b) ∧ Below w.heap.size w w') := by
  obtain ⟨a_n_Links, c_n_Links, a_n_Boxes, c_n_Boxes, rfl, h_n_Links, h_n_Boxes⟩ := h_n
  have lh_n_Links := h_n_Links.2.1
  have lh_n_Boxes := h_n_Boxes.2.1
  refine enter [(0, .agg #[.slice a_n_Links n.Links.length c_n_Links, .slice a_n_Boxes n.Boxes.length c_n_Boxes]), (1, .int .i64 a), (2, .int .i64 b)] Try.func65 rfl (by kernel_rfl) (by kernel_rfl) ?_
  have e0 := brefl w
  refine GC.seq ?_
  refine GC.reg 2 [RB 0 27 [.slice a_n_Links n.Links.length c_n_Links, .slice a_n_Boxes n.Boxes.length c_n_Boxes], W (.int .i64 0)] mixed (fun vs w => by kernel_rfl) (⟨fun vs lo hi wx hB hK => Out.box rfl, trivial⟩) ?_
  rintro vs1 lo1 hi1 w1 hU1
  have e2 := btr e0 hU1.1
  obtain ⟨⟨hv1_0, hp1_0, hb1_0⟩, hl1_0, -, -⟩ := hU1.2.1 0 _ rfl trivial
  have hl1_0b := Nat.le_trans e0.size hl1_0
  refine Rest.nil (GQ.sub [(1, .int .i64 a), (2, .int .i64 b), (3, .pointer (some ⟨(lo1 0), 0, none⟩))] (by rw [← hv1_0]; kernel_rfl) ?_)
  refine GQ.on ?_
  refine GC.seq ?_
  refine GC.reg 11 [W (.pointer (some ⟨(lo1 0), 0, none⟩)), D (.slice a_n_Links n.Links.length c_n_Links), W (.int .i64 a), W (.int .i64 b), W (.int .i64 (if b < a then b else a)), W (.int .i64 a), W (.int .i64 b), W (.int .i64 (if a < b then b else a)), W (.agg #[.int .i64 (if b < a then b else a), .int .i64 (if a < b then b else a)]), D (.int .i64 (f_slices_Index___impl_LabLink_impl_LabLink n.Links (⟨if b < a then b else a, if a < b then b else a⟩ : LabLink))), W (.int .i64 (f_slices_Index___impl_LabLink_impl_LabLink n.Links (⟨if b < a then b else a, if a < b then b else a⟩ : LabLink)))] mixed (fun vs w => by kernel_rfl) (⟨fun vs lo hi wx hB hK => Out.load1 rfl agg_24 ((hb1_0.to hB).cell 0 _ rfl), fun vs lo hi wx hB hK => Out.call (by kernel_rfl) (c_slices_Index___impl_LabLink_impl_LabLink _ a_n_Links c_n_Links n.Links (h_n_Links.below (btr e2 hB)) (⟨if b < a then b else a, if a < b then b else a⟩ : LabLink) ([.int .i64 (if b < a then b else a), .int .i64 (if a < b then b else a)]) (show rpLabLink.rd _ _ _ from rfl)) (fun _ _ h => h), trivial⟩) ?_
  rintro vs3 lo3 hi3 w3 hU3
  have e4 := btr e2 hU3.1
  replace hb1_0 := hb1_0.to hU3.1
  refine Rest.nil (GQ.sub [(6, .int .i64 (f_slices_Index___impl_LabLink_impl_LabLink n.Links (⟨if b < a then b else a, if a < b then b else a⟩ : LabLink)))] (by kernel_rfl) ?_)
  refine GQ.on ?_
  refine GC.ret ?_
  refine GQ.ret1 (.int .i64 (f_slices_Index___impl_LabLink_impl_LabLink n.Links (⟨if b < a then b else a, if a < b then b else a⟩ : LabLink))) rfl rfl ?_
  exact ⟨_, rfl, congrArg (Value.int .i64) rfl, e4⟩
def f_impl_LabNet__boxOk_s0 (n : LabNet) (at_ : Int) : Nat → Lp Nat Bool := fun v => bif (decide ((v : Int) < (((n.Boxes.getD (Int.toNat at_) default).Rows).length : Int))) then (bif ((!(isLabel ((((n.Boxes.getD (Int.toNat at_) default).Rows).getD v default).In))) || (bif (!((((((n.Boxes.getD (Int.toNat at_) default).Rows).getD v default).Next) == (-1 : Int)) && (((((n.Boxes.getD (Int.toNat at_) default).Rows).getD v default).Out) == (0 : Int)))) then ((decide ((f_impl_LabNet__link n at_ ((((n.Boxes.getD (Int.toNat at_) default).Rows).getD v default).Next)) < (0 : Int))) || ((!(isLabel ((((n.Boxes.getD (Int.toNat at_) default).Rows).getD v default).Out))) || ((decide ((v : Int) > (0 : Int))) && (decide (((((n.Boxes.getD (Int.toNat at_) default).Rows).getD (Int.toNat ((v : Int) - 1)) default).In) ≥ ((((n.Boxes.getD (Int.toNat at_) default).Rows).getD v default).In)))))) else ((decide ((v : Int) > (0 : Int))) && (decide (((((n.Boxes.getD (Int.toNat at_) default).Rows).getD (Int.toNat ((v : Int) - 1)) default).In) ≥ ((((n.Boxes.getD (Int.toNat at_) default).Rows).getD v default).In)))))) then (Lp.ret false) else (Lp.next (v + 1))) else (Lp.done v)
def f_impl_LabNet__boxOk_s1 (n : LabNet) (at_ : Int) (v : Nat) : Nat → Lp Nat Bool := fun v2 => bif (decide ((v2 : Int) < (((n.Boxes.getD (Int.toNat at_) default).Guards).length : Int))) then (bif ((((((n.Boxes.getD (Int.toNat at_) default).Guards).getD v2 default).To) == ((((n.Boxes.getD (Int.toNat at_) default).Guards).getD v2 default).Via)) || ((decide ((f_impl_LabNet__link n at_ ((((n.Boxes.getD (Int.toNat at_) default).Guards).getD v2 default).To)) < (0 : Int))) || ((decide ((f_impl_LabNet__link n at_ ((((n.Boxes.getD (Int.toNat at_) default).Guards).getD v2 default).Via)) < (0 : Int))) || ((!(isLabel ((((n.Boxes.getD (Int.toNat at_) default).Guards).getD v2 default).Push))) || ((decide ((v2 : Int) > (0 : Int))) && (decide (((((n.Boxes.getD (Int.toNat at_) default).Guards).getD (Int.toNat ((v2 : Int) - 1)) default).To) ≥ ((((n.Boxes.getD (Int.toNat at_) default).Guards).getD v2 default).To)))))))) then (Lp.ret false) else (Lp.next (v2 + 1))) else (Lp.done v2)
def f_impl_LabNet__boxOk (n : LabNet) (at_ : Int) : Bool := Lp.fin (runL (f_impl_LabNet__boxOk_s0 n at_) ((Int.toNat ((((n.Boxes.getD (Int.toNat at_) default).Rows).length : Int) - (0 : Int))) + 1) 0) id (fun v => Lp.fin (runL (f_impl_LabNet__boxOk_s1 n at_ v) ((Int.toNat ((((n.Boxes.getD (Int.toNat at_) default).Guards).length : Int) - (0 : Int))) + 1) 0) id (fun v2 => true))
/-- (impl.LabNet).boxOk -/
theorem c_impl_LabNet__boxOk (w : World) (n : LabNet) (cs_n : List Value) (h_n : rpLabNet.rd w cs_n n) (at_ : Int) (hat : 0 ≤ at_ ∧ at_ < n.Boxes.length) :
    Calls Try.prog 63 #[.agg cs_n.toArray, .int .i64 at_] w fun e w' => ∃ rv, e = .returned rv ∧ (rv = .bool (f_impl_LabNet__boxOk n at_) ∧ Below w.heap.size w w') := by
  obtain ⟨a_n_Links, c_n_Links, a_n_Boxes, c_n_Boxes, rfl, h_n_Links, h_n_Boxes⟩ := h_n
  have lh_n_Links := h_n_Links.2.1
  have lh_n_Boxes := h_n_Boxes.2.1
  refine enter [(0, .agg #[.slice a_n_Links n.Links.length c_n_Links, .slice a_n_Boxes n.Boxes.length c_n_Boxes]), (1, .int .i64 at_)] Try.func63 rfl (by kernel_rfl) (by kernel_rfl) ?_
  have e0 := brefl w
  refine GC.seq ?_
  refine GC.reg 2 [RB 0 27 [.slice a_n_Links n.Links.length c_n_Links, .slice a_n_Boxes n.Boxes.length c_n_Boxes], W (.bool false)] mixed (fun vs w => by kernel_rfl) (⟨fun vs lo hi wx hB hK => Out.box rfl, trivial⟩) ?_
  rintro vs1 lo1 hi1 w1 hU1
  have e2 := btr e0 hU1.1
  obtain ⟨⟨hv1_0, hp1_0, hb1_0⟩, hl1_0, -, -⟩ := hU1.2.1 0 _ rfl trivial
  have hl1_0b := Nat.le_trans e0.size hl1_0
  refine Rest.nil (GQ.sub [(1, .int .i64 at_), (2, .pointer (some ⟨(lo1 0), 0, none⟩))] (by rw [← hv1_0]; kernel_rfl) ?_)
  refine GQ.on ?_
  refine GC.seq ?_
  have hx_3 : n.Boxes[Int.toNat at_]? = some (n.Boxes.getD (Int.toNat at_) default) := getD_some (by omega)
  obtain ⟨ha_3, hb_3, cs_3, hl_3, hh_3, hr_3⟩ := h_n_Boxes.2.2 (Int.toNat at_) (n.Boxes.getD (Int.toNat at_) default) hx_3
  obtain ⟨a__3_1, c__3_1, a__3_2, c__3_2, rfl, h__3_1, h__3_2⟩ := hr_3
  have lh__3_1 := h__3_1.2.1
  have lh__3_2 := h__3_2.2.1
  refine GC.reg 6 [W (.pointer (some ⟨(lo1 0), 1, none⟩)), D (.slice a_n_Boxes n.Boxes.length c_n_Boxes), W (.int .i64 at_), D (.pointer (some ⟨(ab a_n_Boxes), ao a_n_Boxes + (Int.toNat at_) * 2, none⟩)), D (.agg #[.slice a__3_1 (((n.Boxes.getD (Int.toNat at_) default).Rows).length) c__3_1, .slice a__3_2 (((n.Boxes.getD (Int.toNat at_) default).Guards).length) c__3_2]), RB 5 90 [.slice none 0 0, .slice none 0 0]] mixed (fun vs w => by kernel_rfl) (⟨fun vs lo hi wx hB hK => Out.load1 rfl agg_25 ((hb1_0.to hB).cell 1 _ rfl), fun vs lo hi wx hB hK => Out.idxE (Int.toNat at_) rfl rfl (by omega) (ltg hx_3) ha_3 Try.underlying25 size_90, fun vs lo hi wx hB hK => Out.loadA rfl agg_90 size_90 ((hh_3.below hb_3 (btr e2 hB)).sub 0 _ rfl), fun vs lo hi wx hB hK => Out.alloc (z := .agg #[.slice none 0 0, .slice none 0 0]) (by kernel_rfl) rfl, trivial⟩) ?_
  rintro vs4 lo4 hi4 w4 hU4
  have hlt5 := hb1_0.lt
  have e6 := btr e2 hU4.1
  replace hb1_0 := hb1_0.to hU4.1
  obtain ⟨⟨hv4_5, hp4_5, hb4_5⟩, hl4_5, -, -⟩ := hU4.2.1 5 _ rfl trivial
  have hne7 := Nat.ne_of_lt (Nat.lt_of_lt_of_le hlt5 hl4_5)
  have hl4_5b := Nat.le_trans e2.size hl4_5
  refine Rest.sub [(1, .int .i64 at_), (2, .pointer (some ⟨(lo1 0), 0, none⟩)), (5, .pointer (some ⟨(lo4 5), 0, none⟩)), (15, .agg #[.slice a__3_1 (((n.Boxes.getD (Int.toNat at_) default).Rows).length) c__3_1, .slice a__3_2 (((n.Boxes.getD (Int.toNat at_) default).Guards).length) c__3_2])] (by rw [← hv4_5]; kernel_rfl) ?_
  refine Rest.store [.slice a__3_1 (((n.Boxes.getD (Int.toNat at_) default).Rows).length) c__3_1, .slice a__3_2 (((n.Boxes.getD (Int.toNat at_) default).Guards).length) c__3_2] [.slice a__3_1 (((n.Boxes.getD (Int.toNat at_) default).Rows).length) c__3_1, .slice a__3_2 (((n.Boxes.getD (Int.toNat at_) default).Guards).length) c__3_2] rfl rfl hb4_5 size_90 rfl rfl rfl ?_
  intro w8 hC9 hb10
  have e11 := bchg1 e6 (Nat.le_refl _) hC9 hl4_5b
  replace hb1_0 := hb1_0.chg hC9 hne7
  refine Rest.nil (GQ.sub [(1, .int .i64 at_), (2, .pointer (some ⟨(lo1 0), 0, none⟩)), (5, .pointer (some ⟨(lo4 5), 0, none⟩))] (by kernel_rfl) ?_)
  refine GQ.on ?_
  refine GC.seq ?_
  refine GC.seq ?_
  refine GC.reg 4 [W (.pointer (some ⟨(lo4 5), 0, none⟩)), D (.slice a__3_1 (((n.Boxes.getD (Int.toNat at_) default).Rows).length) c__3_1), W (.int .i64 (((n.Boxes.getD (Int.toNat at_) default).Rows).length : Int)), W (.int .i64 0)] mixed (fun vs w => by kernel_rfl) (⟨fun vs lo hi wx hB hK => Out.load1 rfl agg_87 ((hb10.to hB).cell 0 _ rfl), trivial⟩) ?_
  rintro vs12 lo12 hi12 w12 hU12
  have e13 := btr e11 hU12.1
  replace hb1_0 := hb1_0.to hU12.1
  replace hb10 := hb10.to hU12.1
  refine Rest.nil (GQ.sub [(1, .int .i64 at_), (2, .pointer (some ⟨(lo1 0), 0, none⟩)), (5, .pointer (some ⟨(lo4 5), 0, none⟩)), (17, .slice a__3_1 (((n.Boxes.getD (Int.toNat at_) default).Rows).length) c__3_1), (18, .int .i64 (((n.Boxes.getD (Int.toNat at_) default).Rows).length : Int)), (19, .int .i64 0)] (by kernel_rfl) ?_)
  refine GQ.on ?_
  refine GC.join (ι := Nat) (fun i => [(1, .int .i64 at_), (2, .pointer (some ⟨(lo1 0), 0, none⟩)), (5, .pointer (some ⟨(lo4 5), 0, none⟩))]) (fun i w' => Chg (fun _ : Nat => False) w12 w' ∧ (runL (f_impl_LabNet__boxOk_s0 n at_) ((Int.toNat ((((n.Boxes.getD (Int.toNat at_) default).Rows).length : Int) - (0 : Int))) + 1) 0) = Lp.done i ∧ (decide ((i : Int) < (((n.Boxes.getD (Int.toNat at_) default).Rows).length : Int))) = false) (fun hq0 => ?_) ?_
  · skip
    refine GC.block ?_
    refine GC.loop (ι := Nat × Nat) (fun i => [(1, .int .i64 at_), (2, .pointer (some ⟨(lo1 0), 0, none⟩)), (5, .pointer (some ⟨(lo4 5), 0, none⟩)), (17, .slice a__3_1 (((n.Boxes.getD (Int.toNat at_) default).Rows).length) c__3_1), (18, .int .i64 (((n.Boxes.getD (Int.toNat at_) default).Rows).length : Int)), (19, .int .i64 (i.2 : Int))]) (fun i w' => Chg (fun _ : Nat => False) w12 w' ∧ runL (f_impl_LabNet__boxOk_s0 n at_) i.1 i.2 = (runL (f_impl_LabNet__boxOk_s0 n at_) ((Int.toNat ((((n.Boxes.getD (Int.toNat at_) default).Rows).length : Int) - (0 : Int))) + 1) 0) ∧ Int.toNat ((((n.Boxes.getD (Int.toNat at_) default).Rows).length : Int) - (i.2 : Int)) < i.1) (fun i => i.1) (((Int.toNat ((((n.Boxes.getD (Int.toNat at_) default).Rows).length : Int) - (0 : Int))) + 1), 0) (by kernel_rfl) ⟨chg_refl _ _, rfl, Nat.lt_succ_self _⟩ ?_
    rintro ⟨m, v⟩ w14 ⟨hw15, hI0, hm0⟩
    obtain ⟨m, rfl⟩ := prev_of_lt hm0
    have e16 := chg_below e13 (Nat.le_refl _) hw15 (fun _ h => h.elim)
    replace hb1_0 := hb1_0.chg hw15 (fun h => h)
    replace hb10 := hb10.chg hw15 (fun h => h)
    refine GC.seq ?_
    refine GC.regW [W (.bool (decide ((v : Int) < (((n.Boxes.getD (Int.toNat at_) default).Rows).length : Int))))] [(1, .int .i64 at_), (2, .pointer (some ⟨(lo1 0), 0, none⟩)), (5, .pointer (some ⟨(lo4 5), 0, none⟩)), (17, .slice a__3_1 (((n.Boxes.getD (Int.toNat at_) default).Rows).length) c__3_1), (18, .int .i64 (((n.Boxes.getD (Int.toNat at_) default).Rows).length : Int)), (19, .int .i64 (v : Int)), (20, .bool (decide ((v : Int) < (((n.Boxes.getD (Int.toNat at_) default).Rows).length : Int))))] mixed rfl (fun vs w => by kernel_rfl) rfl (fun vs => by kernel_rfl) ?_
    refine GQ.on ?_
    refine GC.seq ?_
    refine GC.cond (decide ((v : Int) < (((n.Boxes.getD (Int.toNat at_) default).Rows).length : Int))) rfl (fun hc0 => ?_) (fun hc0 => ?_)
    · skip
      have hc0' := hc0
      try simp only [bs, within, isLabel] at hc0'
      refine GC.skip ?_
      refine GQ.on ?_
      refine GC.seq ?_
      refine GC.block ?_
      refine GC.seq ?_
      have hx_17 : ((n.Boxes.getD (Int.toNat at_) default).Rows)[v]? = some (((n.Boxes.getD (Int.toNat at_) default).Rows).getD v default) := getD_some (by omega)
      obtain ⟨ha_17, hb_17, cs_17, hl_17, hh_17, hr_17⟩ := h__3_1.2.2 v (((n.Boxes.getD (Int.toNat at_) default).Rows).getD v default) hx_17
      obtain rfl := hr_17
      refine GC.reg 5 [W (.int .i64 (v : Int)), D (.pointer (some ⟨(ab a__3_1), ao a__3_1 + v * 3, none⟩)), D (.agg #[.int .i64 ((((n.Boxes.getD (Int.toNat at_) default).Rows).getD v default).In), .int .i64 ((((n.Boxes.getD (Int.toNat at_) default).Rows).getD v default).Next), .int .i64 ((((n.Boxes.getD (Int.toNat at_) default).Rows).getD v default).Out)]), RB 3 92 [.int .i64 0, .int .i64 0, .int .i64 0], W (.int .i64 (v : Int))] mixed (fun vs w => by kernel_rfl) (⟨fun vs lo hi wx hB hK => Out.idxS v rfl rfl (ltg hx_17) ha_17 Try.underlying87 size_92, fun vs lo hi wx hB hK => Out.loadA rfl agg_92 size_92 ((hh_17.below hb_17 (btr e16 hB)).sub 0 _ rfl), fun vs lo hi wx hB hK => Out.alloc (z := .agg #[.int .i64 0, .int .i64 0, .int .i64 0]) (by kernel_rfl) rfl, trivial⟩) ?_
      rintro vs18 lo18 hi18 w18 hU18
      have hlt19 := hb1_0.lt
      have hlt20 := hb10.lt
      have e21 := btr e16 hU18.1
      replace hb1_0 := hb1_0.to hU18.1
      replace hb10 := hb10.to hU18.1
      have hw22 := chg_trb hw15 hU18.1
      obtain ⟨⟨hv18_3, hp18_3, hb18_3⟩, hl18_3, -, -⟩ := hU18.2.1 3 _ rfl trivial
      have hne23 := Nat.ne_of_lt (Nat.lt_of_lt_of_le hlt19 hl18_3)
      have hne24 := Nat.ne_of_lt (Nat.lt_of_lt_of_le hlt20 hl18_3)
      have hl18_3w := Nat.le_trans hw15.size hl18_3
      have hl18_3b := Nat.le_trans e16.size hl18_3
      refine Rest.sub [(1, .int .i64 at_), (2, .pointer (some ⟨(lo1 0), 0, none⟩)), (5, .pointer (some ⟨(lo4 5), 0, none⟩)), (6, .int .i64 (v : Int)), (7, .pointer (some ⟨(lo18 3), 0, none⟩)), (17, .slice a__3_1 (((n.Boxes.getD (Int.toNat at_) default).Rows).length) c__3_1), (18, .int .i64 (((n.Boxes.getD (Int.toNat at_) default).Rows).length : Int)), (19, .int .i64 (v : Int)), (23, .agg #[.int .i64 ((((n.Boxes.getD (Int.toNat at_) default).Rows).getD v default).In), .int .i64 ((((n.Boxes.getD (Int.toNat at_) default).Rows).getD v default).Next), .int .i64 ((((n.Boxes.getD (Int.toNat at_) default).Rows).getD v default).Out)])] (by rw [← hv18_3]; kernel_rfl) ?_
      refine Rest.store [.int .i64 ((((n.Boxes.getD (Int.toNat at_) default).Rows).getD v default).In), .int .i64 ((((n.Boxes.getD (Int.toNat at_) default).Rows).getD v default).Next), .int .i64 ((((n.Boxes.getD (Int.toNat at_) default).Rows).getD v default).Out)] [.int .i64 ((((n.Boxes.getD (Int.toNat at_) default).Rows).getD v default).In), .int .i64 ((((n.Boxes.getD (Int.toNat at_) default).Rows).getD v default).Next), .int .i64 ((((n.Boxes.getD (Int.toNat at_) default).Rows).getD v default).Out)] rfl rfl hb18_3 size_92 rfl rfl rfl ?_
      intro w25 hC26 hb27
      have e28 := bchg1 e21 (Nat.le_refl _) hC26 hl18_3b
      have hw29 := chg_tr1 hw22 hC26 (.inl hl18_3w)
      replace hb1_0 := hb1_0.chg hC26 hne23
      replace hb10 := hb10.chg hC26 hne24
      refine Rest.nil (GQ.sub [(1, .int .i64 at_), (2, .pointer (some ⟨(lo1 0), 0, none⟩)), (5, .pointer (some ⟨(lo4 5), 0, none⟩)), (6, .int .i64 (v : Int)), (7, .pointer (some ⟨(lo18 3), 0, none⟩)), (17, .slice a__3_1 (((n.Boxes.getD (Int.toNat at_) default).Rows).length) c__3_1), (18, .int .i64 (((n.Boxes.getD (Int.toNat at_) default).Rows).length : Int)), (19, .int .i64 (v : Int))] (by kernel_rfl) ?_)
      refine GQ.on ?_
      refine GC.seq ?_
      refine GC.abs [(1, .int .i64 at_), (2, .pointer (some ⟨(lo1 0), 0, none⟩)), (5, .pointer (some ⟨(lo4 5), 0, none⟩)), (6, .int .i64 (v : Int)), (7, .pointer (some ⟨(lo18 3), 0, none⟩)), (8, .bool ((((((n.Boxes.getD (Int.toNat at_) default).Rows).getD v default).Next) == (-1 : Int)) && (((((n.Boxes.getD (Int.toNat at_) default).Rows).getD v default).Out) == (0 : Int)))), (17, .slice a__3_1 (((n.Boxes.getD (Int.toNat at_) default).Rows).length) c__3_1), (18, .int .i64 (((n.Boxes.getD (Int.toNat at_) default).Rows).length : Int)), (19, .int .i64 (v : Int))] (fun w' => Below w25.heap.size w25 w') (fun Q' hQ32 => ?_) (fun w30 hE31 => ?_)
      · skip
        cases hB33 : (((((n.Boxes.getD (Int.toNat at_) default).Rows).getD v default).Next) == (-1 : Int))
        · skip
          have hB33' := hB33
          try simp only [bs, within, isLabel] at hB33'
          refine GC.reg 9 [W (.pointer (some ⟨(lo18 3), 1, none⟩)), D (.int .i64 ((((n.Boxes.getD (Int.toNat at_) default).Rows).getD v default).Next)), D (.bool false), W (.bool false), S, S, S, W (.bool false), W (.bool false)] mixed (fun vs w => by kernel_rfl) (⟨fun vs lo hi wx hB hK => Out.load1 rfl agg_3 ((hb27.to hB).cell 1 _ rfl), fun vs lo hi wx hB hK => Out.asB (Out.of_run (by kernel_rfl)) hB33, trivial⟩) ?_
          rintro vs34 lo34 hi34 w34 hU34
          exact Rest.nil (GQ.sub [(1, .int .i64 at_), (2, .pointer (some ⟨(lo1 0), 0, none⟩)), (5, .pointer (some ⟨(lo4 5), 0, none⟩)), (6, .int .i64 (v : Int)), (7, .pointer (some ⟨(lo18 3), 0, none⟩)), (8, .bool ((((((n.Boxes.getD (Int.toNat at_) default).Rows).getD v default).Next) == (-1 : Int)) && (((((n.Boxes.getD (Int.toNat at_) default).Rows).getD v default).Out) == (0 : Int)))), (17, .slice a__3_1 (((n.Boxes.getD (Int.toNat at_) default).Rows).length) c__3_1), (18, .int .i64 (((n.Boxes.getD (Int.toNat at_) default).Rows).length : Int)), (19, .int .i64 (v : Int))] (by (try simp only [hB33]); kernel_rfl) (hQ32 _ hU34.1))
        · skip
          have hB33' := hB33
          try simp only [bs, within, isLabel] at hB33'
          refine GC.reg 9 [W (.pointer (some ⟨(lo18 3), 1, none⟩)), D (.int .i64 ((((n.Boxes.getD (Int.toNat at_) default).Rows).getD v default).Next)), D (.bool true), W (.bool true), W (.pointer (some ⟨(lo18 3), 2, none⟩)), D (.int .i64 ((((n.Boxes.getD (Int.toNat at_) default).Rows).getD v default).Out)), W (.bool (((((n.Boxes.getD (Int.toNat at_) default).Rows).getD v default).Out) == (0 : Int))), W (.bool (((((n.Boxes.getD (Int.toNat at_) default).Rows).getD v default).Out) == (0 : Int))), W (.bool (((((n.Boxes.getD (Int.toNat at_) default).Rows).getD v default).Out) == (0 : Int)))] mixed (fun vs w => by kernel_rfl) (⟨fun vs lo hi wx hB hK => Out.load1 rfl agg_3 ((hb27.to hB).cell 1 _ rfl), fun vs lo hi wx hB hK => Out.asB (Out.of_run (by kernel_rfl)) hB33, fun vs lo hi wx hB hK => Out.load1 rfl agg_3 ((hb27.to hB).cell 2 _ rfl), trivial⟩) ?_
          rintro vs35 lo35 hi35 w35 hU35
          exact Rest.nil (GQ.sub [(1, .int .i64 at_), (2, .pointer (some ⟨(lo1 0), 0, none⟩)), (5, .pointer (some ⟨(lo4 5), 0, none⟩)), (6, .int .i64 (v : Int)), (7, .pointer (some ⟨(lo18 3), 0, none⟩)), (8, .bool ((((((n.Boxes.getD (Int.toNat at_) default).Rows).getD v default).Next) == (-1 : Int)) && (((((n.Boxes.getD (Int.toNat at_) default).Rows).getD v default).Out) == (0 : Int)))), (17, .slice a__3_1 (((n.Boxes.getD (Int.toNat at_) default).Rows).length) c__3_1), (18, .int .i64 (((n.Boxes.getD (Int.toNat at_) default).Rows).length : Int)), (19, .int .i64 (v : Int))] (by (try simp only [hB33]); kernel_rfl) (hQ32 _ hU35.1))
      · skip
        have e36 := btr e28 hE31
        replace hb1_0 := hb1_0.to hE31
        replace hb10 := hb10.to hE31
        replace hb27 := hb27.to hE31
        have hw37 := chg_trb hw29 hE31
        refine GQ.on ?_
        refine GC.seq ?_
        have hx_38 : ((n.Boxes.getD (Int.toNat at_) default).Rows)[Int.toNat ((v : Int) - 1)]? = some (((n.Boxes.getD (Int.toNat at_) default).Rows).getD (Int.toNat ((v : Int) - 1)) default) := getD_some (by omega)
        obtain ⟨ha_38, hb_38, cs_38, hl_38, hh_38, hr_38⟩ := h__3_1.2.2 (Int.toNat ((v : Int) - 1)) (((n.Boxes.getD (Int.toNat at_) default).Rows).getD (Int.toNat ((v : Int) - 1)) default) hx_38
        obtain rfl := hr_38
        refine GC.abs [(1, .int .i64 at_), (2, .pointer (some ⟨(lo1 0), 0, none⟩)), (5, .pointer (some ⟨(lo4 5), 0, none⟩)), (17, .slice a__3_1 (((n.Boxes.getD (Int.toNat at_) default).Rows).length) c__3_1), (18, .int .i64 (((n.Boxes.getD (Int.toNat at_) default).Rows).length : Int)), (19, .int .i64 (v : Int)), (69, .bool ((!(isLabel ((((n.Boxes.getD (Int.toNat at_) default).Rows).getD v default).In))) || (bif (!((((((n.Boxes.getD (Int.toNat at_) default).Rows).getD v default).Next) == (-1 : Int)) && (((((n.Boxes.getD (Int.toNat at_) default).Rows).getD v default).Out) == (0 : Int)))) then ((decide ((f_impl_LabNet__link n at_ ((((n.Boxes.getD (Int.toNat at_) default).Rows).getD v default).Next)) < (0 : Int))) || ((!(isLabel ((((n.Boxes.getD (Int.toNat at_) default).Rows).getD v default).Out))) || ((decide ((v : Int) > (0 : Int))) && (decide (((((n.Boxes.getD (Int.toNat at_) default).Rows).getD (Int.toNat ((v : Int) - 1)) default).In) ≥ ((((n.Boxes.getD (Int.toNat at_) default).Rows).getD v default).In)))))) else ((decide ((v : Int) > (0 : Int))) && (decide (((((n.Boxes.getD (Int.toNat at_) default).Rows).getD (Int.toNat ((v : Int) - 1)) default).In) ≥ ((((n.Boxes.getD (Int.toNat at_) default).Rows).getD v default).In)))))))] (fun w' => Below w30.heap.size w30 w') (fun Q' hQ41 => ?_) (fun w39 hE40 => ?_)
        · skip
          cases hB42 : (!(isLabel ((((n.Boxes.getD (Int.toNat at_) default).Rows).getD v default).In)))
          · skip
            have hB42' := hB42
            try simp only [bs, within, isLabel] at hB42'
            cases hB43 : (!((((((n.Boxes.getD (Int.toNat at_) default).Rows).getD v default).Next) == (-1 : Int)) && (((((n.Boxes.getD (Int.toNat at_) default).Rows).getD v default).Out) == (0 : Int))))
            · skip
              have hB43' := hB43
              try simp only [bs, within, isLabel] at hB43'
              cases hB44 : (decide ((v : Int) > (0 : Int)))
              · skip
                have hB44' := hB44
                try simp only [bs, within, isLabel] at hB44'
                refine GC.reg 38 [W (.pointer (some ⟨(lo18 3), 0, none⟩)), D (.int .i64 ((((n.Boxes.getD (Int.toNat at_) default).Rows).getD v default).In)), D (.bool (isLabel ((((n.Boxes.getD (Int.toNat at_) default).Rows).getD v default).In))), D (.bool false), W (.bool false), W (.bool ((((((n.Boxes.getD (Int.toNat at_) default).Rows).getD v default).Next) == (-1 : Int)) && (((((n.Boxes.getD (Int.toNat at_) default).Rows).getD v default).Out) == (0 : Int)))), D (.bool false), W (.bool false), S, S, S, S, S, S, S, S, S, S, S, S, W (.bool false), W (.bool false), W (.bool false), W (.int .i64 (v : Int)), D (.bool false), W (.bool false), S, S, S, S, S, S, S, S, S, S, W (.bool false), W (.bool false)] mixed (fun vs w => by kernel_rfl) (⟨fun vs lo hi wx hB hK => Out.load1 rfl agg_3 ((hb27.to hB).cell 0 _ rfl), fun vs lo hi wx hB hK => Out.call (by kernel_rfl) (c_impl_isLabel _ ((((n.Boxes.getD (Int.toNat at_) default).Rows).getD v default).In)) (fun _ _ h => h), fun vs lo hi wx hB hK => Out.asB (Out.of_run (by kernel_rfl)) hB42, fun vs lo hi wx hB hK => Out.asB (Out.of_run (by kernel_rfl)) hB43, fun vs lo hi wx hB hK => Out.asB (Out.of_run (by kernel_rfl)) hB44, trivial⟩) ?_
                rintro vs45 lo45 hi45 w45 hU45
                exact Rest.nil (GQ.sub [(1, .int .i64 at_), (2, .pointer (some ⟨(lo1 0), 0, none⟩)), (5, .pointer (some ⟨(lo4 5), 0, none⟩)), (17, .slice a__3_1 (((n.Boxes.getD (Int.toNat at_) default).Rows).length) c__3_1), (18, .int .i64 (((n.Boxes.getD (Int.toNat at_) default).Rows).length : Int)), (19, .int .i64 (v : Int)), (69, .bool ((!(isLabel ((((n.Boxes.getD (Int.toNat at_) default).Rows).getD v default).In))) || (bif (!((((((n.Boxes.getD (Int.toNat at_) default).Rows).getD v default).Next) == (-1 : Int)) && (((((n.Boxes.getD (Int.toNat at_) default).Rows).getD v default).Out) == (0 : Int)))) then ((decide ((f_impl_LabNet__link n at_ ((((n.Boxes.getD (Int.toNat at_) default).Rows).getD v default).Next)) < (0 : Int))) || ((!(isLabel ((((n.Boxes.getD (Int.toNat at_) default).Rows).getD v default).Out))) || ((decide ((v : Int) > (0 : Int))) && (decide (((((n.Boxes.getD (Int.toNat at_) default).Rows).getD (Int.toNat ((v : Int) - 1)) default).In) ≥ ((((n.Boxes.getD (Int.toNat at_) default).Rows).getD v default).In)))))) else ((decide ((v : Int) > (0 : Int))) && (decide (((((n.Boxes.getD (Int.toNat at_) default).Rows).getD (Int.toNat ((v : Int) - 1)) default).In) ≥ ((((n.Boxes.getD (Int.toNat at_) default).Rows).getD v default).In)))))))] (by (try simp only [hB42]); (try simp only [hB43]); (try simp only [hB44]); kernel_rfl) (hQ41 _ hU45.1))
              · skip
                have hB44' := hB44
                try simp only [bs, within, isLabel] at hB44'
                refine GC.reg 38 [W (.pointer (some ⟨(lo18 3), 0, none⟩)), D (.int .i64 ((((n.Boxes.getD (Int.toNat at_) default).Rows).getD v default).In)), D (.bool (isLabel ((((n.Boxes.getD (Int.toNat at_) default).Rows).getD v default).In))), D (.bool false), W (.bool false), W (.bool ((((((n.Boxes.getD (Int.toNat at_) default).Rows).getD v default).Next) == (-1 : Int)) && (((((n.Boxes.getD (Int.toNat at_) default).Rows).getD v default).Out) == (0 : Int)))), D (.bool false), W (.bool false), S, S, S, S, S, S, S, S, S, S, S, S, W (.bool false), W (.bool false), W (.bool false), W (.int .i64 (v : Int)), D (.bool true), W (.bool true), W (.pointer (some ⟨(lo4 5), 0, none⟩)), D (.slice a__3_1 (((n.Boxes.getD (Int.toNat at_) default).Rows).length) c__3_1), W (.int .i64 (v : Int)), D (.int .i64 ((v : Int) - 1)), D (.pointer (some ⟨(ab a__3_1), ao a__3_1 + (Int.toNat ((v : Int) - 1)) * 3, none⟩)), W (.pointer (some ⟨(ab a__3_1), ao a__3_1 + (Int.toNat ((v : Int) - 1)) * 3, none⟩)), D (.int .i64 ((((n.Boxes.getD (Int.toNat at_) default).Rows).getD (Int.toNat ((v : Int) - 1)) default).In)), W (.pointer (some ⟨(lo18 3), 0, none⟩)), D (.int .i64 ((((n.Boxes.getD (Int.toNat at_) default).Rows).getD v default).In)), W (.bool (decide (((((n.Boxes.getD (Int.toNat at_) default).Rows).getD (Int.toNat ((v : Int) - 1)) default).In) ≥ ((((n.Boxes.getD (Int.toNat at_) default).Rows).getD v default).In)))), W (.bool (decide (((((n.Boxes.getD (Int.toNat at_) default).Rows).getD (Int.toNat ((v : Int) - 1)) default).In) ≥ ((((n.Boxes.getD (Int.toNat at_) default).Rows).getD v default).In)))), W (.bool (decide (((((n.Boxes.getD (Int.toNat at_) default).Rows).getD (Int.toNat ((v : Int) - 1)) default).In) ≥ ((((n.Boxes.getD (Int.toNat at_) default).Rows).getD v default).In))))] mixed (fun vs w => by kernel_rfl) (⟨fun vs lo hi wx hB hK => Out.load1 rfl agg_3 ((hb27.to hB).cell 0 _ rfl), fun vs lo hi wx hB hK => Out.call (by kernel_rfl) (c_impl_isLabel _ ((((n.Boxes.getD (Int.toNat at_) default).Rows).getD v default).In)) (fun _ _ h => h), fun vs lo hi wx hB hK => Out.asB (Out.of_run (by kernel_rfl)) hB42, fun vs lo hi wx hB hK => Out.asB (Out.of_run (by kernel_rfl)) hB43, fun vs lo hi wx hB hK => Out.asB (Out.of_run (by kernel_rfl)) hB44, fun vs lo hi wx hB hK => Out.load1 rfl agg_87 ((hb10.to hB).cell 0 _ rfl), fun vs lo hi wx hB hK => Out.subI rfl rfl (by omega) (by omega), fun vs lo hi wx hB hK => Out.idxE (Int.toNat ((v : Int) - 1)) rfl rfl (by omega) (ltg hx_38) ha_38 Try.underlying87 size_92, fun vs lo hi wx hB hK => Out.load1 rfl agg_3 ((hh_38.below hb_38 (btr e36 hB)) 0 _ rfl), fun vs lo hi wx hB hK => Out.load1 rfl agg_3 ((hb27.to hB).cell 0 _ rfl), trivial⟩) ?_
                rintro vs46 lo46 hi46 w46 hU46
                exact Rest.nil (GQ.sub [(1, .int .i64 at_), (2, .pointer (some ⟨(lo1 0), 0, none⟩)), (5, .pointer (some ⟨(lo4 5), 0, none⟩)), (17, .slice a__3_1 (((n.Boxes.getD (Int.toNat at_) default).Rows).length) c__3_1), (18, .int .i64 (((n.Boxes.getD (Int.toNat at_) default).Rows).length : Int)), (19, .int .i64 (v : Int)), (69, .bool ((!(isLabel ((((n.Boxes.getD (Int.toNat at_) default).Rows).getD v default).In))) || (bif (!((((((n.Boxes.getD (Int.toNat at_) default).Rows).getD v default).Next) == (-1 : Int)) && (((((n.Boxes.getD (Int.toNat at_) default).Rows).getD v default).Out) == (0 : Int)))) then ((decide ((f_impl_LabNet__link n at_ ((((n.Boxes.getD (Int.toNat at_) default).Rows).getD v default).Next)) < (0 : Int))) || ((!(isLabel ((((n.Boxes.getD (Int.toNat at_) default).Rows).getD v default).Out))) || ((decide ((v : Int) > (0 : Int))) && (decide (((((n.Boxes.getD (Int.toNat at_) default).Rows).getD (Int.toNat ((v : Int) - 1)) default).In) ≥ ((((n.Boxes.getD (Int.toNat at_) default).Rows).getD v default).In)))))) else ((decide ((v : Int) > (0 : Int))) && (decide (((((n.Boxes.getD (Int.toNat at_) default).Rows).getD (Int.toNat ((v : Int) - 1)) default).In) ≥ ((((n.Boxes.getD (Int.toNat at_) default).Rows).getD v default).In)))))))] (by (try simp only [hB42]); (try simp only [hB43]); (try simp only [hB44]); kernel_rfl) (hQ41 _ hU46.1))
            · skip
              have hB43' := hB43
              try simp only [bs, within, isLabel] at hB43'
              cases hB47 : (decide ((f_impl_LabNet__link n at_ ((((n.Boxes.getD (Int.toNat at_) default).Rows).getD v default).Next)) < (0 : Int)))
              · skip
                have hB47' := hB47
                try simp only [bs, within, isLabel] at hB47'
                cases hB48 : (!(isLabel ((((n.Boxes.getD (Int.toNat at_) default).Rows).getD v default).Out)))
                · skip
                  have hB48' := hB48
                  try simp only [bs, within, isLabel] at hB48'
                  cases hB49 : (decide ((v : Int) > (0 : Int)))
                  · skip
                    have hB49' := hB49
                    try simp only [bs, within, isLabel] at hB49'
                    refine GC.reg 38 [W (.pointer (some ⟨(lo18 3), 0, none⟩)), D (.int .i64 ((((n.Boxes.getD (Int.toNat at_) default).Rows).getD v default).In)), D (.bool (isLabel ((((n.Boxes.getD (Int.toNat at_) default).Rows).getD v default).In))), D (.bool false), W (.bool false), W (.bool ((((((n.Boxes.getD (Int.toNat at_) default).Rows).getD v default).Next) == (-1 : Int)) && (((((n.Boxes.getD (Int.toNat at_) default).Rows).getD v default).Out) == (0 : Int)))), D (.bool true), W (.bool true), D (.agg #[.slice a_n_Links n.Links.length c_n_Links, .slice a_n_Boxes n.Boxes.length c_n_Boxes]), W (.int .i64 at_), W (.pointer (some ⟨(lo18 3), 1, none⟩)), D (.int .i64 ((((n.Boxes.getD (Int.toNat at_) default).Rows).getD v default).Next)), D (.int .i64 (f_impl_LabNet__link n at_ ((((n.Boxes.getD (Int.toNat at_) default).Rows).getD v default).Next))), D (.bool false), W (.bool false), W (.pointer (some ⟨(lo18 3), 2, none⟩)), D (.int .i64 ((((n.Boxes.getD (Int.toNat at_) default).Rows).getD v default).Out)), D (.bool (isLabel ((((n.Boxes.getD (Int.toNat at_) default).Rows).getD v default).Out))), D (.bool false), W (.bool false), W (.bool false), W (.bool false), W (.bool false), W (.int .i64 (v : Int)), D (.bool false), W (.bool false), S, S, S, S, S, S, S, S, S, S, W (.bool false), W (.bool false)] mixed (fun vs w => by kernel_rfl) (⟨fun vs lo hi wx hB hK => Out.load1 rfl agg_3 ((hb27.to hB).cell 0 _ rfl), fun vs lo hi wx hB hK => Out.call (by kernel_rfl) (c_impl_isLabel _ ((((n.Boxes.getD (Int.toNat at_) default).Rows).getD v default).In)) (fun _ _ h => h), fun vs lo hi wx hB hK => Out.asB (Out.of_run (by kernel_rfl)) hB42, fun vs lo hi wx hB hK => Out.asB (Out.of_run (by kernel_rfl)) hB43, fun vs lo hi wx hB hK => Out.loadA rfl agg_27 size_27 ((hb1_0.to hB).has 0 _ rfl), fun vs lo hi wx hB hK => Out.load1 rfl agg_3 ((hb27.to hB).cell 1 _ rfl), fun vs lo hi wx hB hK => Out.call (by kernel_rfl) (c_impl_LabNet__link _ n ([.slice a_n_Links n.Links.length c_n_Links, .slice a_n_Boxes n.Boxes.length c_n_Boxes]) (show rpLabNet.rd _ _ _ from ⟨_, _, _, _, rfl, h_n_Links.below (btr e36 hB), h_n_Boxes.below (btr e36 hB)⟩) at_ ((((n.Boxes.getD (Int.toNat at_) default).Rows).getD v default).Next)) (fun _ _ h => h), fun vs lo hi wx hB hK => Out.asB (Out.of_run (by kernel_rfl)) hB47, fun vs lo hi wx hB hK => Out.load1 rfl agg_3 ((hb27.to hB).cell 2 _ rfl), fun vs lo hi wx hB hK => Out.call (by kernel_rfl) (c_impl_isLabel _ ((((n.Boxes.getD (Int.toNat at_) default).Rows).getD v default).Out)) (fun _ _ h => h), fun vs lo hi wx hB hK => Out.asB (Out.of_run (by kernel_rfl)) hB48, fun vs lo hi wx hB hK => Out.asB (Out.of_run (by kernel_rfl)) hB49, trivial⟩) ?_
                    rintro vs50 lo50 hi50 w50 hU50
                    exact Rest.nil (GQ.sub [(1, .int .i64 at_), (2, .pointer (some ⟨(lo1 0), 0, none⟩)), (5, .pointer (some ⟨(lo4 5), 0, none⟩)), (17, .slice a__3_1 (((n.Boxes.getD (Int.toNat at_) default).Rows).length) c__3_1), (18, .int .i64 (((n.Boxes.getD (Int.toNat at_) default).Rows).length : Int)), (19, .int .i64 (v : Int)), (69, .bool ((!(isLabel ((((n.Boxes.getD (Int.toNat at_) default).Rows).getD v default).In))) || (bif (!((((((n.Boxes.getD (Int.toNat at_) default).Rows).getD v default).Next) == (-1 : Int)) && (((((n.Boxes.getD (Int.toNat at_) default).Rows).getD v default).Out) == (0 : Int)))) then ((decide ((f_impl_LabNet__link n at_ ((((n.Boxes.getD (Int.toNat at_) default).Rows).getD v default).Next)) < (0 : Int))) || ((!(isLabel ((((n.Boxes.getD (Int.toNat at_) default).Rows).getD v default).Out))) || ((decide ((v : Int) > (0 : Int))) && (decide (((((n.Boxes.getD (Int.toNat at_) default).Rows).getD (Int.toNat ((v : Int) - 1)) default).In) ≥ ((((n.Boxes.getD (Int.toNat at_) default).Rows).getD v default).In)))))) else ((decide ((v : Int) > (0 : Int))) && (decide (((((n.Boxes.getD (Int.toNat at_) default).Rows).getD (Int.toNat ((v : Int) - 1)) default).In) ≥ ((((n.Boxes.getD (Int.toNat at_) default).Rows).getD v default).In)))))))] (by (try simp only [hB42]); (try simp only [hB43]); (try simp only [hB47]); (try simp only [hB48]); (try simp only [hB49]); kernel_rfl) (hQ41 _ hU50.1))
                  · skip
                    have hB49' := hB49
                    try simp only [bs, within, isLabel] at hB49'
                    refine GC.reg 38 [W (.pointer (some ⟨(lo18 3), 0, none⟩)), D (.int .i64 ((((n.Boxes.getD (Int.toNat at_) default).Rows).getD v default).In)), D (.bool (isLabel ((((n.Boxes.getD (Int.toNat at_) default).Rows).getD v default).In))), D (.bool false), W (.bool false), W (.bool ((((((n.Boxes.getD (Int.toNat at_) default).Rows).getD v default).Next) == (-1 : Int)) && (((((n.Boxes.getD (Int.toNat at_) default).Rows).getD v default).Out) == (0 : Int)))), D (.bool true), W (.bool true), D (.agg #[.slice a_n_Links n.Links.length c_n_Links, .slice a_n_Boxes n.Boxes.length c_n_Boxes]), W (.int .i64 at_), W (.pointer (some ⟨(lo18 3), 1, none⟩)), D (.int .i64 ((((n.Boxes.getD (Int.toNat at_) default).Rows).getD v default).Next)), D (.int .i64 (f_impl_LabNet__link n at_ ((((n.Boxes.getD (Int.toNat at_) default).Rows).getD v default).Next))), D (.bool false), W (.bool false), W (.pointer (some ⟨(lo18 3), 2, none⟩)), D (.int .i64 ((((n.Boxes.getD (Int.toNat at_) default).Rows).getD v default).Out)), D (.bool (isLabel ((((n.Boxes.getD (Int.toNat at_) default).Rows).getD v default).Out))), D (.bool false), W (.bool false), W (.bool false), W (.bool false), W (.bool false), W (.int .i64 (v : Int)), D (.bool true), W (.bool true), W (.pointer (some ⟨(lo4 5), 0, none⟩)), D (.slice a__3_1 (((n.Boxes.getD (Int.toNat at_) default).Rows).length) c__3_1), W (.int .i64 (v : Int)), D (.int .i64 ((v : Int) - 1)), D (.pointer (some ⟨(ab a__3_1), ao a__3_1 + (Int.toNat ((v : Int) - 1)) * 3, none⟩)), W (.pointer (some ⟨(ab a__3_1), ao a__3_1 + (Int.toNat ((v : Int) - 1)) * 3, none⟩)), D (.int .i64 ((((n.Boxes.getD (Int.toNat at_) default).Rows).getD (Int.toNat ((v : Int) - 1)) default).In)), W (.pointer (some ⟨(lo18 3), 0, none⟩)), D (.int .i64 ((((n.Boxes.getD (Int.toNat at_) default).Rows).getD v default).In)), W (.bool (decide (((((n.Boxes.getD (Int.toNat at_) default).Rows).getD (Int.toNat ((v : Int) - 1)) default).In) ≥ ((((n.Boxes.getD (Int.toNat at_) default).Rows).getD v default).In)))), W (.bool (decide (((((n.Boxes.getD (Int.toNat at_) default).Rows).getD (Int.toNat ((v : Int) - 1)) default).In) ≥ ((((n.Boxes.getD (Int.toNat at_) default).Rows).getD v default).In)))), W (.bool (decide (((((n.Boxes.getD (Int.toNat at_) default).Rows).getD (Int.toNat ((v : Int) - 1)) default).In) ≥ ((((n.Boxes.getD (Int.toNat at_) default).Rows).getD v default).In))))] mixed (fun vs w => by kernel_rfl) (⟨fun vs lo hi wx hB hK => Out.load1 rfl agg_3 ((hb27.to hB).cell 0 _ rfl), fun vs lo hi wx hB hK => Out.call (by kernel_rfl) (c_impl_isLabel _ ((((n.Boxes.getD (Int.toNat at_) default).Rows).getD v default).In)) (fun _ _ h => h), fun vs lo hi wx hB hK => Out.asB (Out.of_run (by kernel_rfl)) hB42, fun vs lo hi wx hB hK => Out.asB (Out.of_run (by kernel_rfl)) hB43, fun vs lo hi wx hB hK => Out.loadA rfl agg_27 size_27 ((hb1_0.to hB).has 0 _ rfl), fun vs lo hi wx hB hK => Out.load1 rfl agg_3 ((hb27.to hB).cell 1 _ rfl), fun vs lo hi wx hB hK => Out.call (by kernel_rfl) (c_impl_LabNet__link _ n ([.slice a_n_Links n.Links.length c_n_Links, .slice a_n_Boxes n.Boxes.length c_n_Boxes]) (show rpLabNet.rd _ _ _ from ⟨_, _, _, _, rfl, h_n_Links.below (btr e36 hB), h_n_Boxes.below (btr e36 hB)⟩) at_ ((((n.Boxes.getD (Int.toNat at_) default).Rows).getD v default).Next)) (fun _ _ h => h), fun vs lo hi wx hB hK => Out.asB (Out.of_run (by kernel_rfl)) hB47, fun vs lo hi wx hB hK => Out.load1 rfl agg_3 ((hb27.to hB).cell 2 _ rfl), fun vs lo hi wx hB hK => Out.call (by kernel_rfl) (c_impl_isLabel _ ((((n.Boxes.getD (Int.toNat at_) default).Rows).getD v default).Out)) (fun _ _ h => h), fun vs lo hi wx hB hK => Out.asB (Out.of_run (by kernel_rfl)) hB48, fun vs lo hi wx hB hK => Out.asB (Out.of_run (by kernel_rfl)) hB49, fun vs lo hi wx hB hK => Out.load1 rfl agg_87 ((hb10.to hB).cell 0 _ rfl), fun vs lo hi wx hB hK => Out.subI rfl rfl (by omega) (by omega), fun vs lo hi wx hB hK => Out.idxE (Int.toNat ((v : Int) - 1)) rfl rfl (by omega) (ltg hx_38) ha_38 Try.underlying87 size_92, fun vs lo hi wx hB hK => Out.load1 rfl agg_3 ((hh_38.below hb_38 (btr e36 hB)) 0 _ rfl), fun vs lo hi wx hB hK => Out.load1 rfl agg_3 ((hb27.to hB).cell 0 _ rfl), trivial⟩) ?_
                    rintro vs51 lo51 hi51 w51 hU51
                    exact Rest.nil (GQ.sub [(1, .int .i64 at_), (2, .pointer (some ⟨(lo1 0), 0, none⟩)), (5, .pointer (some ⟨(lo4 5), 0, none⟩)), (17, .slice a__3_1 (((n.Boxes.getD (Int.toNat at_) default).Rows).length) c__3_1), (18, .int .i64 (((n.Boxes.getD (Int.toNat at_) default).Rows).length : Int)), (19, .int .i64 (v : Int)), (69, .bool ((!(isLabel ((((n.Boxes.getD (Int.toNat at_) default).Rows).getD v default).In))) || (bif (!((((((n.Boxes.getD (Int.toNat at_) default).Rows).getD v default).Next) == (-1 : Int)) && (((((n.Boxes.getD (Int.toNat at_) default).Rows).getD v default).Out) == (0 : Int)))) then ((decide ((f_impl_LabNet__link n at_ ((((n.Boxes.getD (Int.toNat at_) default).Rows).getD v default).Next)) < (0 : Int))) || ((!(isLabel ((((n.Boxes.getD (Int.toNat at_) default).Rows).getD v default).Out))) || ((decide ((v : Int) > (0 : Int))) && (decide (((((n.Boxes.getD (Int.toNat at_) default).Rows).getD (Int.toNat ((v : Int) - 1)) default).In) ≥ ((((n.Boxes.getD (Int.toNat at_) default).Rows).getD v default).In)))))) else ((decide ((v : Int) > (0 : Int))) && (decide (((((n.Boxes.getD (Int.toNat at_) default).Rows).getD (Int.toNat ((v : Int) - 1)) default).In) ≥ ((((n.Boxes.getD (Int.toNat at_) default).Rows).getD v default).In)))))))] (by (try simp only [hB42]); (try simp only [hB43]); (try simp only [hB47]); (try simp only [hB48]); (try simp only [hB49]); kernel_rfl) (hQ41 _ hU51.1))
                · skip
                  have hB48' := hB48
                  try simp only [bs, within, isLabel] at hB48'
                  refine GC.reg 38 [W (.pointer (some ⟨(lo18 3), 0, none⟩)), D (.int .i64 ((((n.Boxes.getD (Int.toNat at_) default).Rows).getD v default).In)), D (.bool (isLabel ((((n.Boxes.getD (Int.toNat at_) default).Rows).getD v default).In))), D (.bool false), W (.bool false), W (.bool ((((((n.Boxes.getD (Int.toNat at_) default).Rows).getD v default).Next) == (-1 : Int)) && (((((n.Boxes.getD (Int.toNat at_) default).Rows).getD v default).Out) == (0 : Int)))), D (.bool true), W (.bool true), D (.agg #[.slice a_n_Links n.Links.length c_n_Links, .slice a_n_Boxes n.Boxes.length c_n_Boxes]), W (.int .i64 at_), W (.pointer (some ⟨(lo18 3), 1, none⟩)), D (.int .i64 ((((n.Boxes.getD (Int.toNat at_) default).Rows).getD v default).Next)), D (.int .i64 (f_impl_LabNet__link n at_ ((((n.Boxes.getD (Int.toNat at_) default).Rows).getD v default).Next))), D (.bool false), W (.bool false), W (.pointer (some ⟨(lo18 3), 2, none⟩)), D (.int .i64 ((((n.Boxes.getD (Int.toNat at_) default).Rows).getD v default).Out)), D (.bool (isLabel ((((n.Boxes.getD (Int.toNat at_) default).Rows).getD v default).Out))), D (.bool true), W (.bool true), W (.bool true), W (.bool true), W (.bool true), S, S, S, S, S, S, S, S, S, S, S, S, S, S, W (.bool true)] mixed (fun vs w => by kernel_rfl) (⟨fun vs lo hi wx hB hK => Out.load1 rfl agg_3 ((hb27.to hB).cell 0 _ rfl), fun vs lo hi wx hB hK => Out.call (by kernel_rfl) (c_impl_isLabel _ ((((n.Boxes.getD (Int.toNat at_) default).Rows).getD v default).In)) (fun _ _ h => h), fun vs lo hi wx hB hK => Out.asB (Out.of_run (by kernel_rfl)) hB42, fun vs lo hi wx hB hK => Out.asB (Out.of_run (by kernel_rfl)) hB43, fun vs lo hi wx hB hK => Out.loadA rfl agg_27 size_27 ((hb1_0.to hB).has 0 _ rfl), fun vs lo hi wx hB hK => Out.load1 rfl agg_3 ((hb27.to hB).cell 1 _ rfl), fun vs lo hi wx hB hK => Out.call (by kernel_rfl) (c_impl_LabNet__link _ n ([.slice a_n_Links n.Links.length c_n_Links, .slice a_n_Boxes n.Boxes.length c_n_Boxes]) (show rpLabNet.rd _ _ _ from ⟨_, _, _, _, rfl, h_n_Links.below (btr e36 hB), h_n_Boxes.below (btr e36 hB)⟩) at_ ((((n.Boxes.getD (Int.toNat at_) default).Rows).getD v default).Next)) (fun _ _ h => h), fun vs lo hi wx hB hK => Out.asB (Out.of_run (by kernel_rfl)) hB47, fun vs lo hi wx hB hK => Out.load1 rfl agg_3 ((hb27.to hB).cell 2 _ rfl), fun vs lo hi wx hB hK => Out.call (by kernel_rfl) (c_impl_isLabel _ ((((n.Boxes.getD (Int.toNat at_) default).Rows).getD v default).Out)) (fun _ _ h => h), fun vs lo hi wx hB hK => Out.asB (Out.of_run (by kernel_rfl)) hB48, trivial⟩) ?_
                  rintro vs52 lo52 hi52 w52 hU52
                  exact Rest.nil (GQ.sub [(1, .int .i64 at_), (2, .pointer (some ⟨(lo1 0), 0, none⟩)), (5, .pointer (some ⟨(lo4 5), 0, none⟩)), (17, .slice a__3_1 (((n.Boxes.getD (Int.toNat at_) default).Rows).length) c__3_1), (18, .int .i64 (((n.Boxes.getD (Int.toNat at_) default).Rows).length : Int)), (19, .int .i64 (v : Int)), (69, .bool ((!(isLabel ((((n.Boxes.getD (Int.toNat at_) default).Rows).getD v default).In))) || (bif (!((((((n.Boxes.getD (Int.toNat at_) default).Rows).getD v default).Next) == (-1 : Int)) && (((((n.Boxes.getD (Int.toNat at_) default).Rows).getD v default).Out) == (0 : Int)))) then ((decide ((f_impl_LabNet__link n at_ ((((n.Boxes.getD (Int.toNat at_) default).Rows).getD v default).Next)) < (0 : Int))) || ((!(isLabel ((((n.Boxes.getD (Int.toNat at_) default).Rows).getD v default).Out))) || ((decide ((v : Int) > (0 : Int))) && (decide (((((n.Boxes.getD (Int.toNat at_) default).Rows).getD (Int.toNat ((v : Int) - 1)) default).In) ≥ ((((n.Boxes.getD (Int.toNat at_) default).Rows).getD v default).In)))))) else ((decide ((v : Int) > (0 : Int))) && (decide (((((n.Boxes.getD (Int.toNat at_) default).Rows).getD (Int.toNat ((v : Int) - 1)) default).In) ≥ ((((n.Boxes.getD (Int.toNat at_) default).Rows).getD v default).In)))))))] (by (try simp only [hB42]); (try simp only [hB43]); (try simp only [hB47]); (try simp only [hB48]); kernel_rfl) (hQ41 _ hU52.1))
              · skip
                have hB47' := hB47
                try simp only [bs, within, isLabel] at hB47'
                refine GC.reg 38 [W (.pointer (some ⟨(lo18 3), 0, none⟩)), D (.int .i64 ((((n.Boxes.getD (Int.toNat at_) default).Rows).getD v default).In)), D (.bool (isLabel ((((n.Boxes.getD (Int.toNat at_) default).Rows).getD v default).In))), D (.bool false), W (.bool false), W (.bool ((((((n.Boxes.getD (Int.toNat at_) default).Rows).getD v default).Next) == (-1 : Int)) && (((((n.Boxes.getD (Int.toNat at_) default).Rows).getD v default).Out) == (0 : Int)))), D (.bool true), W (.bool true), D (.agg #[.slice a_n_Links n.Links.length c_n_Links, .slice a_n_Boxes n.Boxes.length c_n_Boxes]), W (.int .i64 at_), W (.pointer (some ⟨(lo18 3), 1, none⟩)), D (.int .i64 ((((n.Boxes.getD (Int.toNat at_) default).Rows).getD v default).Next)), D (.int .i64 (f_impl_LabNet__link n at_ ((((n.Boxes.getD (Int.toNat at_) default).Rows).getD v default).Next))), D (.bool true), W (.bool true), S, S, S, S, W (.bool true), W (.bool true), W (.bool true), W (.bool true), S, S, S, S, S, S, S, S, S, S, S, S, S, S, W (.bool true)] mixed (fun vs w => by kernel_rfl) (⟨fun vs lo hi wx hB hK => Out.load1 rfl agg_3 ((hb27.to hB).cell 0 _ rfl), fun vs lo hi wx hB hK => Out.call (by kernel_rfl) (c_impl_isLabel _ ((((n.Boxes.getD (Int.toNat at_) default).Rows).getD v default).In)) (fun _ _ h => h), fun vs lo hi wx hB hK => Out.asB (Out.of_run (by kernel_rfl)) hB42, fun vs lo hi wx hB hK => Out.asB (Out.of_run (by kernel_rfl)) hB43, fun vs lo hi wx hB hK => Out.loadA rfl agg_27 size_27 ((hb1_0.to hB).has 0 _ rfl), fun vs lo hi wx hB hK => Out.load1 rfl agg_3 ((hb27.to hB).cell 1 _ rfl), fun vs lo hi wx hB hK => Out.call (by kernel_rfl) (c_impl_LabNet__link _ n ([.slice a_n_Links n.Links.length c_n_Links, .slice a_n_Boxes n.Boxes.length c_n_Boxes]) (show rpLabNet.rd _ _ _ from ⟨_, _, _, _, rfl, h_n_Links.below (btr e36 hB), h_n_Boxes.below (btr e36 hB)⟩) at_ ((((n.Boxes.getD (Int.toNat at_) default).Rows).getD v default).Next)) (fun _ _ h => h), fun vs lo hi wx hB hK => Out.asB (Out.of_run (by kernel_rfl)) hB47, trivial⟩) ?_
                rintro vs53 lo53 hi53 w53 hU53
                exact Rest.nil (GQ.sub [(1, .int .i64 at_), (2, .pointer (some ⟨(lo1 0), 0, none⟩)), (5, .pointer (some ⟨(lo4 5), 0, none⟩)), (17, .slice a__3_1 (((n.Boxes.getD (Int.toNat at_) default).Rows).length) c__3_1), (18, .int .i64 (((n.Boxes.getD (Int.toNat at_) default).Rows).length : Int)), (19, .int .i64 (v : Int)), (69, .bool ((!(isLabel ((((n.Boxes.getD (Int.toNat at_) default).Rows).getD v default).In))) || (bif (!((((((n.Boxes.getD (Int.toNat at_) default).Rows).getD v default).Next) == (-1 : Int)) && (((((n.Boxes.getD (Int.toNat at_) default).Rows).getD v default).Out) == (0 : Int)))) then ((decide ((f_impl_LabNet__link n at_ ((((n.Boxes.getD (Int.toNat at_) default).Rows).getD v default).Next)) < (0 : Int))) || ((!(isLabel ((((n.Boxes.getD (Int.toNat at_) default).Rows).getD v default).Out))) || ((decide ((v : Int) > (0 : Int))) && (decide (((((n.Boxes.getD (Int.toNat at_) default).Rows).getD (Int.toNat ((v : Int) - 1)) default).In) ≥ ((((n.Boxes.getD (Int.toNat at_) default).Rows).getD v default).In)))))) else ((decide ((v : Int) > (0 : Int))) && (decide (((((n.Boxes.getD (Int.toNat at_) default).Rows).getD (Int.toNat ((v : Int) - 1)) default).In) ≥ ((((n.Boxes.getD (Int.toNat at_) default).Rows).getD v default).In)))))))] (by (try simp only [hB42]); (try simp only [hB43]); (try simp only [hB47]); kernel_rfl) (hQ41 _ hU53.1))
          · skip
            have hB42' := hB42
            try simp only [bs, within, isLabel] at hB42'
            refine GC.reg 38 [W (.pointer (some ⟨(lo18 3), 0, none⟩)), D (.int .i64 ((((n.Boxes.getD (Int.toNat at_) default).Rows).getD v default).In)), D (.bool (isLabel ((((n.Boxes.getD (Int.toNat at_) default).Rows).getD v default).In))), D (.bool true), W (.bool true), S, S, S, S, S, S, S, S, S, S, S, S, S, S, S, S, W (.bool true), W (.bool true), S, S, S, S, S, S, S, S, S, S, S, S, S, S, W (.bool true)] mixed (fun vs w => by kernel_rfl) (⟨fun vs lo hi wx hB hK => Out.load1 rfl agg_3 ((hb27.to hB).cell 0 _ rfl), fun vs lo hi wx hB hK => Out.call (by kernel_rfl) (c_impl_isLabel _ ((((n.Boxes.getD (Int.toNat at_) default).Rows).getD v default).In)) (fun _ _ h => h), fun vs lo hi wx hB hK => Out.asB (Out.of_run (by kernel_rfl)) hB42, trivial⟩) ?_
            rintro vs54 lo54 hi54 w54 hU54
            exact Rest.nil (GQ.sub [(1, .int .i64 at_), (2, .pointer (some ⟨(lo1 0), 0, none⟩)), (5, .pointer (some ⟨(lo4 5), 0, none⟩)), (17, .slice a__3_1 (((n.Boxes.getD (Int.toNat at_) default).Rows).length) c__3_1), (18, .int .i64 (((n.Boxes.getD (Int.toNat at_) default).Rows).length : Int)), (19, .int .i64 (v : Int)), (69, .bool ((!(isLabel ((((n.Boxes.getD (Int.toNat at_) default).Rows).getD v default).In))) || (bif (!((((((n.Boxes.getD (Int.toNat at_) default).Rows).getD v default).Next) == (-1 : Int)) && (((((n.Boxes.getD (Int.toNat at_) default).Rows).getD v default).Out) == (0 : Int)))) then ((decide ((f_impl_LabNet__link n at_ ((((n.Boxes.getD (Int.toNat at_) default).Rows).getD v default).Next)) < (0 : Int))) || ((!(isLabel ((((n.Boxes.getD (Int.toNat at_) default).Rows).getD v default).Out))) || ((decide ((v : Int) > (0 : Int))) && (decide (((((n.Boxes.getD (Int.toNat at_) default).Rows).getD (Int.toNat ((v : Int) - 1)) default).In) ≥ ((((n.Boxes.getD (Int.toNat at_) default).Rows).getD v default).In)))))) else ((decide ((v : Int) > (0 : Int))) && (decide (((((n.Boxes.getD (Int.toNat at_) default).Rows).getD (Int.toNat ((v : Int) - 1)) default).In) ≥ ((((n.Boxes.getD (Int.toNat at_) default).Rows).getD v default).In)))))))] (by (try simp only [hB42]); kernel_rfl) (hQ41 _ hU54.1))
        · skip
          have e55 := btr e36 hE40
          replace hb1_0 := hb1_0.to hE40
          replace hb10 := hb10.to hE40
          replace hb27 := hb27.to hE40
          have hw56 := chg_trb hw37 hE40
          refine GQ.on ?_
          refine GC.cond ((!(isLabel ((((n.Boxes.getD (Int.toNat at_) default).Rows).getD v default).In))) || (bif (!((((((n.Boxes.getD (Int.toNat at_) default).Rows).getD v default).Next) == (-1 : Int)) && (((((n.Boxes.getD (Int.toNat at_) default).Rows).getD v default).Out) == (0 : Int)))) then ((decide ((f_impl_LabNet__link n at_ ((((n.Boxes.getD (Int.toNat at_) default).Rows).getD v default).Next)) < (0 : Int))) || ((!(isLabel ((((n.Boxes.getD (Int.toNat at_) default).Rows).getD v default).Out))) || ((decide ((v : Int) > (0 : Int))) && (decide (((((n.Boxes.getD (Int.toNat at_) default).Rows).getD (Int.toNat ((v : Int) - 1)) default).In) ≥ ((((n.Boxes.getD (Int.toNat at_) default).Rows).getD v default).In)))))) else ((decide ((v : Int) > (0 : Int))) && (decide (((((n.Boxes.getD (Int.toNat at_) default).Rows).getD (Int.toNat ((v : Int) - 1)) default).In) ≥ ((((n.Boxes.getD (Int.toNat at_) default).Rows).getD v default).In)))))) rfl (fun hc1 => ?_) (fun hc1 => ?_)
          · skip
            have hc1' := hc1
            try simp only [bs, within, isLabel] at hc1'
            refine GC.seq ?_
            refine GC.regW [W (.bool false)] [(4, .bool false)] mixed rfl (fun vs w => by kernel_rfl) rfl (fun vs => by kernel_rfl) ?_
            refine GQ.on ?_
            refine GC.ret ?_
            refine GQ.blockRet ?_
            refine GQ.passRet ?_
            refine GQ.passRet ?_
            refine GQ.blockRet ?_
            refine GQ.passRet ?_
            refine GQ.ret1 (.bool false) rfl rfl ?_
            exact ⟨_, rfl, congrArg (Value.bool) (finR (runL_ret hI0 (cndT hc0 (cndT hc1 rfl))) rfl), e55⟩
          · skip
            have hc1' := hc1
            try simp only [bs, within, isLabel] at hc1'
            refine GC.skip ?_
            refine GQ.blockEnd ?_
            refine GQ.on ?_
            refine GC.reg 2 [D (.int .i64 ((v : Int) + 1)), W (.int .i64 ((v : Int) + 1))] mixed (fun vs w => by kernel_rfl) (⟨fun vs lo hi wx hB hK => Out.add rfl rfl (by omega) (by omega), trivial⟩) ?_
            rintro vs57 lo57 hi57 w57 hU57
            have e58 := btr e55 hU57.1
            replace hb1_0 := hb1_0.to hU57.1
            replace hb10 := hb10.to hU57.1
            replace hb27 := hb27.to hU57.1
            have hw59 := chg_trb hw56 hU57.1
            refine Rest.nil (GQ.sub [(1, .int .i64 at_), (2, .pointer (some ⟨(lo1 0), 0, none⟩)), (5, .pointer (some ⟨(lo4 5), 0, none⟩)), (17, .slice a__3_1 (((n.Boxes.getD (Int.toNat at_) default).Rows).length) c__3_1), (18, .int .i64 (((n.Boxes.getD (Int.toNat at_) default).Rows).length : Int)), (19, .int .i64 ((v : Int) + 1))] (by kernel_rfl) ?_)
            exact GQ.next (m, v + 1) (by kernel_rfl) ⟨hw59, runL_next hI0 (cndT hc0 (cndF hc1 rfl)), (by omega)⟩ (Nat.lt_succ_self _)
    · skip
      have hc0' := hc0
      try simp only [bs, within, isLabel] at hc0'
      refine GC.exit ?_
      refine GQ.pass ?_
      refine GQ.pass ?_
      refine GQ.blockOut ?_
      exact GQ.sub [(1, .int .i64 at_), (2, .pointer (some ⟨(lo1 0), 0, none⟩)), (5, .pointer (some ⟨(lo4 5), 0, none⟩))] (by kernel_rfl) (hq0 v _ ⟨hw15, runL_done hI0 (cndF hc0 rfl), hc0⟩)
  · skip
    rintro v w60 ⟨hw61, hD0, hx0_0⟩
    have e62 := chg_below e13 (Nat.le_refl _) hw61 (fun _ h => h.elim)
    replace hb1_0 := hb1_0.chg hw61 (fun h => h)
    replace hb10 := hb10.chg hw61 (fun h => h)
    have hx0_0' := hx0_0
    try simp only [bs, within, isLabel] at hx0_0'
    refine GQ.on ?_
    refine GC.seq ?_
    refine GC.seq ?_
    refine GC.reg 4 [W (.pointer (some ⟨(lo4 5), 1, none⟩)), D (.slice a__3_2 (((n.Boxes.getD (Int.toNat at_) default).Guards).length) c__3_2), W (.int .i64 (((n.Boxes.getD (Int.toNat at_) default).Guards).length : Int)), W (.int .i64 0)] mixed (fun vs w => by kernel_rfl) (⟨fun vs lo hi wx hB hK => Out.load1 rfl agg_88 ((hb10.to hB).cell 1 _ rfl), trivial⟩) ?_
    rintro vs63 lo63 hi63 w63 hU63
    have e64 := btr e62 hU63.1
    replace hb1_0 := hb1_0.to hU63.1
    replace hb10 := hb10.to hU63.1
    refine Rest.nil (GQ.sub [(1, .int .i64 at_), (2, .pointer (some ⟨(lo1 0), 0, none⟩)), (5, .pointer (some ⟨(lo4 5), 0, none⟩)), (72, .slice a__3_2 (((n.Boxes.getD (Int.toNat at_) default).Guards).length) c__3_2), (73, .int .i64 (((n.Boxes.getD (Int.toNat at_) default).Guards).length : Int)), (74, .int .i64 0)] (by kernel_rfl) ?_)
    refine GQ.on ?_
    refine GC.join (ι := Nat) (fun i => []) (fun i w' => Chg (fun _ : Nat => False) w63 w' ∧ (runL (f_impl_LabNet__boxOk_s1 n at_ v) ((Int.toNat ((((n.Boxes.getD (Int.toNat at_) default).Guards).length : Int) - (0 : Int))) + 1) 0) = Lp.done i ∧ (decide ((i : Int) < (((n.Boxes.getD (Int.toNat at_) default).Guards).length : Int))) = false) (fun hq1 => ?_) ?_
    · skip
      refine GC.block ?_
      refine GC.loop (ι := Nat × Nat) (fun i => [(1, .int .i64 at_), (2, .pointer (some ⟨(lo1 0), 0, none⟩)), (5, .pointer (some ⟨(lo4 5), 0, none⟩)), (72, .slice a__3_2 (((n.Boxes.getD (Int.toNat at_) default).Guards).length) c__3_2), (73, .int .i64 (((n.Boxes.getD (Int.toNat at_) default).Guards).length : Int)), (74, .int .i64 (i.2 : Int))]) (fun i w' => Chg (fun _ : Nat => False) w63 w' ∧ runL (f_impl_LabNet__boxOk_s1 n at_ v) i.1 i.2 = (runL (f_impl_LabNet__boxOk_s1 n at_ v) ((Int.toNat ((((n.Boxes.getD (Int.toNat at_) default).Guards).length : Int) - (0 : Int))) + 1) 0) ∧ Int.toNat ((((n.Boxes.getD (Int.toNat at_) default).Guards).length : Int) - (i.2 : Int)) < i.1) (fun i => i.1) (((Int.toNat ((((n.Boxes.getD (Int.toNat at_) default).Guards).length : Int) - (0 : Int))) + 1), 0) (by kernel_rfl) ⟨chg_refl _ _, rfl, Nat.lt_succ_self _⟩ ?_
      rintro ⟨m, v2⟩ w65 ⟨hw66, hI1, hm1⟩
      obtain ⟨m, rfl⟩ := prev_of_lt hm1
      have e67 := chg_below e64 (Nat.le_refl _) hw66 (fun _ h => h.elim)
      replace hb1_0 := hb1_0.chg hw66 (fun h => h)
      replace hb10 := hb10.chg hw66 (fun h => h)
      refine GC.seq ?_
      refine GC.regW [W (.bool (decide ((v2 : Int) < (((n.Boxes.getD (Int.toNat at_) default).Guards).length : Int))))] [(1, .int .i64 at_), (2, .pointer (some ⟨(lo1 0), 0, none⟩)), (5, .pointer (some ⟨(lo4 5), 0, none⟩)), (72, .slice a__3_2 (((n.Boxes.getD (Int.toNat at_) default).Guards).length) c__3_2), (73, .int .i64 (((n.Boxes.getD (Int.toNat at_) default).Guards).length : Int)), (74, .int .i64 (v2 : Int)), (75, .bool (decide ((v2 : Int) < (((n.Boxes.getD (Int.toNat at_) default).Guards).length : Int))))] mixed rfl (fun vs w => by kernel_rfl) rfl (fun vs => by kernel_rfl) ?_
      refine GQ.on ?_
      refine GC.seq ?_
      refine GC.cond (decide ((v2 : Int) < (((n.Boxes.getD (Int.toNat at_) default).Guards).length : Int))) rfl (fun hc2 => ?_) (fun hc2 => ?_)
      · skip
        have hc2' := hc2
        try simp only [bs, within, isLabel] at hc2'
        refine GC.skip ?_
        refine GQ.on ?_
        refine GC.seq ?_
        refine GC.block ?_
        refine GC.seq ?_
        have hx_68 : ((n.Boxes.getD (Int.toNat at_) default).Guards)[v2]? = some (((n.Boxes.getD (Int.toNat at_) default).Guards).getD v2 default) := getD_some (by omega)
        obtain ⟨ha_68, hb_68, cs_68, hl_68, hh_68, hr_68⟩ := h__3_2.2.2 v2 (((n.Boxes.getD (Int.toNat at_) default).Guards).getD v2 default) hx_68
        obtain rfl := hr_68
        refine GC.reg 5 [W (.int .i64 (v2 : Int)), D (.pointer (some ⟨(ab a__3_2), ao a__3_2 + v2 * 3, none⟩)), D (.agg #[.int .i64 ((((n.Boxes.getD (Int.toNat at_) default).Guards).getD v2 default).To), .int .i64 ((((n.Boxes.getD (Int.toNat at_) default).Guards).getD v2 default).Via), .int .i64 ((((n.Boxes.getD (Int.toNat at_) default).Guards).getD v2 default).Push)]), RB 3 119 [.int .i64 0, .int .i64 0, .int .i64 0], W (.int .i64 (v2 : Int))] mixed (fun vs w => by kernel_rfl) (⟨fun vs lo hi wx hB hK => Out.idxS v2 rfl rfl (ltg hx_68) ha_68 Try.underlying88 size_119, fun vs lo hi wx hB hK => Out.loadA rfl agg_119 size_119 ((hh_68.below hb_68 (btr e67 hB)).sub 0 _ rfl), fun vs lo hi wx hB hK => Out.alloc (z := .agg #[.int .i64 0, .int .i64 0, .int .i64 0]) (by kernel_rfl) rfl, trivial⟩) ?_
        rintro vs69 lo69 hi69 w69 hU69
        have hlt70 := hb1_0.lt
        have hlt71 := hb10.lt
        have e72 := btr e67 hU69.1
        replace hb1_0 := hb1_0.to hU69.1
        replace hb10 := hb10.to hU69.1
        have hw73 := chg_trb hw66 hU69.1
        obtain ⟨⟨hv69_3, hp69_3, hb69_3⟩, hl69_3, -, -⟩ := hU69.2.1 3 _ rfl trivial
        have hne74 := Nat.ne_of_lt (Nat.lt_of_lt_of_le hlt70 hl69_3)
        have hne75 := Nat.ne_of_lt (Nat.lt_of_lt_of_le hlt71 hl69_3)
        have hl69_3w := Nat.le_trans hw66.size hl69_3
        have hl69_3b := Nat.le_trans e67.size hl69_3
        refine Rest.sub [(1, .int .i64 at_), (2, .pointer (some ⟨(lo1 0), 0, none⟩)), (5, .pointer (some ⟨(lo4 5), 0, none⟩)), (9, .int .i64 (v2 : Int)), (10, .pointer (some ⟨(lo69 3), 0, none⟩)), (72, .slice a__3_2 (((n.Boxes.getD (Int.toNat at_) default).Guards).length) c__3_2), (73, .int .i64 (((n.Boxes.getD (Int.toNat at_) default).Guards).length : Int)), (74, .int .i64 (v2 : Int)), (78, .agg #[.int .i64 ((((n.Boxes.getD (Int.toNat at_) default).Guards).getD v2 default).To), .int .i64 ((((n.Boxes.getD (Int.toNat at_) default).Guards).getD v2 default).Via), .int .i64 ((((n.Boxes.getD (Int.toNat at_) default).Guards).getD v2 default).Push)])] (by rw [← hv69_3]; kernel_rfl) ?_
        refine Rest.store [.int .i64 ((((n.Boxes.getD (Int.toNat at_) default).Guards).getD v2 default).To), .int .i64 ((((n.Boxes.getD (Int.toNat at_) default).Guards).getD v2 default).Via), .int .i64 ((((n.Boxes.getD (Int.toNat at_) default).Guards).getD v2 default).Push)] [.int .i64 ((((n.Boxes.getD (Int.toNat at_) default).Guards).getD v2 default).To), .int .i64 ((((n.Boxes.getD (Int.toNat at_) default).Guards).getD v2 default).Via), .int .i64 ((((n.Boxes.getD (Int.toNat at_) default).Guards).getD v2 default).Push)] rfl rfl hb69_3 size_119 rfl rfl rfl ?_
        intro w76 hC77 hb78
        have e79 := bchg1 e72 (Nat.le_refl _) hC77 hl69_3b
        have hw80 := chg_tr1 hw73 hC77 (.inl hl69_3w)
        replace hb1_0 := hb1_0.chg hC77 hne74
        replace hb10 := hb10.chg hC77 hne75
        refine Rest.nil (GQ.sub [(1, .int .i64 at_), (2, .pointer (some ⟨(lo1 0), 0, none⟩)), (5, .pointer (some ⟨(lo4 5), 0, none⟩)), (9, .int .i64 (v2 : Int)), (10, .pointer (some ⟨(lo69 3), 0, none⟩)), (72, .slice a__3_2 (((n.Boxes.getD (Int.toNat at_) default).Guards).length) c__3_2), (73, .int .i64 (((n.Boxes.getD (Int.toNat at_) default).Guards).length : Int)), (74, .int .i64 (v2 : Int))] (by kernel_rfl) ?_)
        refine GQ.on ?_
        refine GC.seq ?_
        have hx_81 : ((n.Boxes.getD (Int.toNat at_) default).Guards)[Int.toNat ((v2 : Int) - 1)]? = some (((n.Boxes.getD (Int.toNat at_) default).Guards).getD (Int.toNat ((v2 : Int) - 1)) default) := getD_some (by omega)
        obtain ⟨ha_81, hb_81, cs_81, hl_81, hh_81, hr_81⟩ := h__3_2.2.2 (Int.toNat ((v2 : Int) - 1)) (((n.Boxes.getD (Int.toNat at_) default).Guards).getD (Int.toNat ((v2 : Int) - 1)) default) hx_81
        obtain rfl := hr_81
        refine GC.abs [(1, .int .i64 at_), (2, .pointer (some ⟨(lo1 0), 0, none⟩)), (5, .pointer (some ⟨(lo4 5), 0, none⟩)), (72, .slice a__3_2 (((n.Boxes.getD (Int.toNat at_) default).Guards).length) c__3_2), (73, .int .i64 (((n.Boxes.getD (Int.toNat at_) default).Guards).length : Int)), (74, .int .i64 (v2 : Int)), (121, .bool ((((((n.Boxes.getD (Int.toNat at_) default).Guards).getD v2 default).To) == ((((n.Boxes.getD (Int.toNat at_) default).Guards).getD v2 default).Via)) || ((decide ((f_impl_LabNet__link n at_ ((((n.Boxes.getD (Int.toNat at_) default).Guards).getD v2 default).To)) < (0 : Int))) || ((decide ((f_impl_LabNet__link n at_ ((((n.Boxes.getD (Int.toNat at_) default).Guards).getD v2 default).Via)) < (0 : Int))) || ((!(isLabel ((((n.Boxes.getD (Int.toNat at_) default).Guards).getD v2 default).Push))) || ((decide ((v2 : Int) > (0 : Int))) && (decide (((((n.Boxes.getD (Int.toNat at_) default).Guards).getD (Int.toNat ((v2 : Int) - 1)) default).To) ≥ ((((n.Boxes.getD (Int.toNat at_) default).Guards).getD v2 default).To)))))))))] (fun w' => Below w76.heap.size w76 w') (fun Q' hQ84 => ?_) (fun w82 hE83 => ?_)
        · skip
          cases hB85 : (((((n.Boxes.getD (Int.toNat at_) default).Guards).getD v2 default).To) == ((((n.Boxes.getD (Int.toNat at_) default).Guards).getD v2 default).Via))
          · skip
            have hB85' := hB85
            try simp only [bs, within, isLabel] at hB85'
            cases hB86 : (decide ((f_impl_LabNet__link n at_ ((((n.Boxes.getD (Int.toNat at_) default).Guards).getD v2 default).To)) < (0 : Int)))
            · skip
              have hB86' := hB86
              try simp only [bs, within, isLabel] at hB86'
              cases hB87 : (decide ((f_impl_LabNet__link n at_ ((((n.Boxes.getD (Int.toNat at_) default).Guards).getD v2 default).Via)) < (0 : Int)))
              · skip
                have hB87' := hB87
                try simp only [bs, within, isLabel] at hB87'
                cases hB88 : (!(isLabel ((((n.Boxes.getD (Int.toNat at_) default).Guards).getD v2 default).Push)))
                · skip
                  have hB88' := hB88
                  try simp only [bs, within, isLabel] at hB88'
                  cases hB89 : (decide ((v2 : Int) > (0 : Int)))
                  · skip
                    have hB89' := hB89
                    try simp only [bs, within, isLabel] at hB89'
                    refine GC.reg 43 [W (.pointer (some ⟨(lo69 3), 0, none⟩)), D (.int .i64 ((((n.Boxes.getD (Int.toNat at_) default).Guards).getD v2 default).To)), W (.pointer (some ⟨(lo69 3), 1, none⟩)), D (.int .i64 ((((n.Boxes.getD (Int.toNat at_) default).Guards).getD v2 default).Via)), D (.bool false), W (.bool false), D (.agg #[.slice a_n_Links n.Links.length c_n_Links, .slice a_n_Boxes n.Boxes.length c_n_Boxes]), W (.int .i64 at_), W (.pointer (some ⟨(lo69 3), 0, none⟩)), D (.int .i64 ((((n.Boxes.getD (Int.toNat at_) default).Guards).getD v2 default).To)), D (.int .i64 (f_impl_LabNet__link n at_ ((((n.Boxes.getD (Int.toNat at_) default).Guards).getD v2 default).To))), D (.bool false), W (.bool false), W (.bool false), D (.agg #[.slice a_n_Links n.Links.length c_n_Links, .slice a_n_Boxes n.Boxes.length c_n_Boxes]), W (.int .i64 at_), W (.pointer (some ⟨(lo69 3), 1, none⟩)), D (.int .i64 ((((n.Boxes.getD (Int.toNat at_) default).Guards).getD v2 default).Via)), D (.int .i64 (f_impl_LabNet__link n at_ ((((n.Boxes.getD (Int.toNat at_) default).Guards).getD v2 default).Via))), D (.bool false), W (.bool false), W (.bool false), W (.pointer (some ⟨(lo69 3), 2, none⟩)), D (.int .i64 ((((n.Boxes.getD (Int.toNat at_) default).Guards).getD v2 default).Push)), D (.bool (isLabel ((((n.Boxes.getD (Int.toNat at_) default).Guards).getD v2 default).Push))), D (.bool false), W (.bool false), W (.bool false), W (.int .i64 (v2 : Int)), D (.bool false), W (.bool false), S, S, S, S, S, S, S, S, S, S, W (.bool false), W (.bool false)] mixed (fun vs w => by kernel_rfl) (⟨fun vs lo hi wx hB hK => Out.load1 rfl agg_3 ((hb78.to hB).cell 0 _ rfl), fun vs lo hi wx hB hK => Out.load1 rfl agg_3 ((hb78.to hB).cell 1 _ rfl), fun vs lo hi wx hB hK => Out.asB (Out.of_run (by kernel_rfl)) hB85, fun vs lo hi wx hB hK => Out.loadA rfl agg_27 size_27 ((hb1_0.to hB).has 0 _ rfl), fun vs lo hi wx hB hK => Out.load1 rfl agg_3 ((hb78.to hB).cell 0 _ rfl), fun vs lo hi wx hB hK => Out.call (by kernel_rfl) (c_impl_LabNet__link _ n ([.slice a_n_Links n.Links.length c_n_Links, .slice a_n_Boxes n.Boxes.length c_n_Boxes]) (show rpLabNet.rd _ _ _ from ⟨_, _, _, _, rfl, h_n_Links.below (btr e79 hB), h_n_Boxes.below (btr e79 hB)⟩) at_ ((((n.Boxes.getD (Int.toNat at_) default).Guards).getD v2 default).To)) (fun _ _ h => h), fun vs lo hi wx hB hK => Out.asB (Out.of_run (by kernel_rfl)) hB86, fun vs lo hi wx hB hK => Out.loadA rfl agg_27 size_27 ((hb1_0.to hB).has 0 _ rfl), fun vs lo hi wx hB hK => Out.load1 rfl agg_3 ((hb78.to hB).cell 1 _ rfl), fun vs lo hi wx hB hK => Out.call (by kernel_rfl) (c_impl_LabNet__link _ n ([.slice a_n_Links n.Links.length c_n_Links, .slice a_n_Boxes n.Boxes.length c_n_Boxes]) (show rpLabNet.rd _ _ _ from ⟨_, _, _, _, rfl, h_n_Links.below (btr e79 hB), h_n_Boxes.below (btr e79 hB)⟩) at_ ((((n.Boxes.getD (Int.toNat at_) default).Guards).getD v2 default).Via)) (fun _ _ h => h), fun vs lo hi wx hB hK => Out.asB (Out.of_run (by kernel_rfl)) hB87, fun vs lo hi wx hB hK => Out.load1 rfl agg_3 ((hb78.to hB).cell 2 _ rfl), fun vs lo hi wx hB hK => Out.call (by kernel_rfl) (c_impl_isLabel _ ((((n.Boxes.getD (Int.toNat at_) default).Guards).getD v2 default).Push)) (fun _ _ h => h), fun vs lo hi wx hB hK => Out.asB (Out.of_run (by kernel_rfl)) hB88, fun vs lo hi wx hB hK => Out.asB (Out.of_run (by kernel_rfl)) hB89, trivial⟩) ?_
                    rintro vs90 lo90 hi90 w90 hU90
                    exact Rest.nil (GQ.sub [(1, .int .i64 at_), (2, .pointer (some ⟨(lo1 0), 0, none⟩)), (5, .pointer (some ⟨(lo4 5), 0, none⟩)), (72, .slice a__3_2 (((n.Boxes.getD (Int.toNat at_) default).Guards).length) c__3_2), (73, .int .i64 (((n.Boxes.getD (Int.toNat at_) default).Guards).length : Int)), (74, .int .i64 (v2 : Int)), (121, .bool ((((((n.Boxes.getD (Int.toNat at_) default).Guards).getD v2 default).To) == ((((n.Boxes.getD (Int.toNat at_) default).Guards).getD v2 default).Via)) || ((decide ((f_impl_LabNet__link n at_ ((((n.Boxes.getD (Int.toNat at_) default).Guards).getD v2 default).To)) < (0 : Int))) || ((decide ((f_impl_LabNet__link n at_ ((((n.Boxes.getD (Int.toNat at_) default).Guards).getD v2 default).Via)) < (0 : Int))) || ((!(isLabel ((((n.Boxes.getD (Int.toNat at_) default).Guards).getD v2 default).Push))) || ((decide ((v2 : Int) > (0 : Int))) && (decide (((((n.Boxes.getD (Int.toNat at_) default).Guards).getD (Int.toNat ((v2 : Int) - 1)) default).To) ≥ ((((n.Boxes.getD (Int.toNat at_) default).Guards).getD v2 default).To)))))))))] (by (try simp only [hB85]); (try simp only [hB86]); (try simp only [hB87]); (try simp only [hB88]); (try simp only [hB89]); kernel_rfl) (hQ84 _ hU90.1))
                  · skip
                    have hB89' := hB89
                    try simp only [bs, within, isLabel] at hB89'
                    refine GC.reg 43 [W (.pointer (some ⟨(lo69 3), 0, none⟩)), D (.int .i64 ((((n.Boxes.getD (Int.toNat at_) default).Guards).getD v2 default).To)), W (.pointer (some ⟨(lo69 3), 1, none⟩)), D (.int .i64 ((((n.Boxes.getD (Int.toNat at_) default).Guards).getD v2 default).Via)), D (.bool false), W (.bool false), D (.agg #[.slice a_n_Links n.Links.length c_n_Links, .slice a_n_Boxes n.Boxes.length c_n_Boxes]), W (.int .i64 at_), W (.pointer (some ⟨(lo69 3), 0, none⟩)), D (.int .i64 ((((n.Boxes.getD (Int.toNat at_) default).Guards).getD v2 default).To)), D (.int .i64 (f_impl_LabNet__link n at_ ((((n.Boxes.getD (Int.toNat at_) default).Guards).getD v2 default).To))), D (.bool false), W (.bool false), W (.bool false), D (.agg #[.slice a_n_Links n.Links.length c_n_Links, .slice a_n_Boxes n.Boxes.length c_n_Boxes]), W (.int .i64 at_), W (.pointer (some ⟨(lo69 3), 1, none⟩)), D (.int .i64 ((((n.Boxes.getD (Int.toNat at_) default).Guards).getD v2 default).Via)), D (.int .i64 (f_impl_LabNet__link n at_ ((((n.Boxes.getD (Int.toNat at_) default).Guards).getD v2 default).Via))), D (.bool false), W (.bool false), W (.bool false), W (.pointer (some ⟨(lo69 3), 2, none⟩)), D (.int .i64 ((((n.Boxes.getD (Int.toNat at_) default).Guards).getD v2 default).Push)), D (.bool (isLabel ((((n.Boxes.getD (Int.toNat at_) default).Guards).getD v2 default).Push))), D (.bool false), W (.bool false), W (.bool false), W (.int .i64 (v2 : Int)), D (.bool true), W (.bool true), W (.pointer (some ⟨(lo4 5), 1, none⟩)), D (.slice a__3_2 (((n.Boxes.getD (Int.toNat at_) default).Guards).length) c__3_2), W (.int .i64 (v2 : Int)), D (.int .i64 ((v2 : Int) - 1)), D (.pointer (some ⟨(ab a__3_2), ao a__3_2 + (Int.toNat ((v2 : Int) - 1)) * 3, none⟩)), W (.pointer (some ⟨(ab a__3_2), ao a__3_2 + (Int.toNat ((v2 : Int) - 1)) * 3, none⟩)), D (.int .i64 ((((n.Boxes.getD (Int.toNat at_) default).Guards).getD (Int.toNat ((v2 : Int) - 1)) default).To)), W (.pointer (some ⟨(lo69 3), 0, none⟩)), D (.int .i64 ((((n.Boxes.getD (Int.toNat at_) default).Guards).getD v2 default).To)), W (.bool (decide (((((n.Boxes.getD (Int.toNat at_) default).Guards).getD (Int.toNat ((v2 : Int) - 1)) default).To) ≥ ((((n.Boxes.getD (Int.toNat at_) default).Guards).getD v2 default).To)))), W (.bool (decide (((((n.Boxes.getD (Int.toNat at_) default).Guards).getD (Int.toNat ((v2 : Int) - 1)) default).To) ≥ ((((n.Boxes.getD (Int.toNat at_) default).Guards).getD v2 default).To)))), W (.bool (decide (((((n.Boxes.getD (Int.toNat at_) default).Guards).getD (Int.toNat ((v2 : Int) - 1)) default).To) ≥ ((((n.Boxes.getD (Int.toNat at_) default).Guards).getD v2 default).To))))] mixed (fun vs w => by kernel_rfl) (⟨fun vs lo hi wx hB hK => Out.load1 rfl agg_3 ((hb78.to hB).cell 0 _ rfl), fun vs lo hi wx hB hK => Out.load1 rfl agg_3 ((hb78.to hB).cell 1 _ rfl), fun vs lo hi wx hB hK => Out.asB (Out.of_run (by kernel_rfl)) hB85, fun vs lo hi wx hB hK => Out.loadA rfl agg_27 size_27 ((hb1_0.to hB).has 0 _ rfl), fun vs lo hi wx hB hK => Out.load1 rfl agg_3 ((hb78.to hB).cell 0 _ rfl), fun vs lo hi wx hB hK => Out.call (by kernel_rfl) (c_impl_LabNet__link _ n ([.slice a_n_Links n.Links.length c_n_Links, .slice a_n_Boxes n.Boxes.length c_n_Boxes]) (show rpLabNet.rd _ _ _ from ⟨_, _, _, _, rfl, h_n_Links.below (btr e79 hB), h_n_Boxes.below (btr e79 hB)⟩) at_ ((((n.Boxes.getD (Int.toNat at_) default).Guards).getD v2 default).To)) (fun _ _ h => h), fun vs lo hi wx hB hK => Out.asB (Out.of_run (by kernel_rfl)) hB86, fun vs lo hi wx hB hK => Out.loadA rfl agg_27 size_27 ((hb1_0.to hB).has 0 _ rfl), fun vs lo hi wx hB hK => Out.load1 rfl agg_3 ((hb78.to hB).cell 1 _ rfl), fun vs lo hi wx hB hK => Out.call (by kernel_rfl) (c_impl_LabNet__link _ n ([.slice a_n_Links n.Links.length c_n_Links, .slice a_n_Boxes n.Boxes.length c_n_Boxes]) (show rpLabNet.rd _ _ _ from ⟨_, _, _, _, rfl, h_n_Links.below (btr e79 hB), h_n_Boxes.below (btr e79 hB)⟩) at_ ((((n.Boxes.getD (Int.toNat at_) default).Guards).getD v2 default).Via)) (fun _ _ h => h), fun vs lo hi wx hB hK => Out.asB (Out.of_run (by kernel_rfl)) hB87, fun vs lo hi wx hB hK => Out.load1 rfl agg_3 ((hb78.to hB).cell 2 _ rfl), fun vs lo hi wx hB hK => Out.call (by kernel_rfl) (c_impl_isLabel _ ((((n.Boxes.getD (Int.toNat at_) default).Guards).getD v2 default).Push)) (fun _ _ h => h), fun vs lo hi wx hB hK => Out.asB (Out.of_run (by kernel_rfl)) hB88, fun vs lo hi wx hB hK => Out.asB (Out.of_run (by kernel_rfl)) hB89, fun vs lo hi wx hB hK => Out.load1 rfl agg_88 ((hb10.to hB).cell 1 _ rfl), fun vs lo hi wx hB hK => Out.subI rfl rfl (by omega) (by omega), fun vs lo hi wx hB hK => Out.idxE (Int.toNat ((v2 : Int) - 1)) rfl rfl (by omega) (ltg hx_81) ha_81 Try.underlying88 size_119, fun vs lo hi wx hB hK => Out.load1 rfl agg_3 ((hh_81.below hb_81 (btr e79 hB)) 0 _ rfl), fun vs lo hi wx hB hK => Out.load1 rfl agg_3 ((hb78.to hB).cell 0 _ rfl), trivial⟩) ?_
                    rintro vs91 lo91 hi91 w91 hU91
                    exact Rest.nil (GQ.sub [(1, .int .i64 at_), (2, .pointer (some ⟨(lo1 0), 0, none⟩)), (5, .pointer (some ⟨(lo4 5), 0, none⟩)), (72, .slice a__3_2 (((n.Boxes.getD (Int.toNat at_) default).Guards).length) c__3_2), (73, .int .i64 (((n.Boxes.getD (Int.toNat at_) default).Guards).length : Int)), (74, .int .i64 (v2 : Int)), (121, .bool ((((((n.Boxes.getD (Int.toNat at_) default).Guards).getD v2 default).To) == ((((n.Boxes.getD (Int.toNat at_) default).Guards).getD v2 default).Via)) || ((decide ((f_impl_LabNet__link n at_ ((((n.Boxes.getD (Int.toNat at_) default).Guards).getD v2 default).To)) < (0 : Int))) || ((decide ((f_impl_LabNet__link n at_ ((((n.Boxes.getD (Int.toNat at_) default).Guards).getD v2 default).Via)) < (0 : Int))) || ((!(isLabel ((((n.Boxes.getD (Int.toNat at_) default).Guards).getD v2 default).Push))) || ((decide ((v2 : Int) > (0 : Int))) && (decide (((((n.Boxes.getD (Int.toNat at_) default).Guards).getD (Int.toNat ((v2 : Int) - 1)) default).To) ≥ ((((n.Boxes.getD (Int.toNat at_) default).Guards).getD v2 default).To)))))))))] (by (try simp only [hB85]); (try simp only [hB86]); (try simp only [hB87]); (try simp only [hB88]); (try simp only [hB89]); kernel_rfl) (hQ84 _ hU91.1))
                · skip
                  have hB88' := hB88
                  try simp only [bs, within, isLabel] at hB88'
                  refine GC.reg 43 [W (.pointer (some ⟨(lo69 3), 0, none⟩)), D (.int .i64 ((((n.Boxes.getD (Int.toNat at_) default).Guards).getD v2 default).To)), W (.pointer (some ⟨(lo69 3), 1, none⟩)), D (.int .i64 ((((n.Boxes.getD (Int.toNat at_) default).Guards).getD v2 default).Via)), D (.bool false), W (.bool false), D (.agg #[.slice a_n_Links n.Links.length c_n_Links, .slice a_n_Boxes n.Boxes.length c_n_Boxes]), W (.int .i64 at_), W (.pointer (some ⟨(lo69 3), 0, none⟩)), D (.int .i64 ((((n.Boxes.getD (Int.toNat at_) default).Guards).getD v2 default).To)), D (.int .i64 (f_impl_LabNet__link n at_ ((((n.Boxes.getD (Int.toNat at_) default).Guards).getD v2 default).To))), D (.bool false), W (.bool false), W (.bool false), D (.agg #[.slice a_n_Links n.Links.length c_n_Links, .slice a_n_Boxes n.Boxes.length c_n_Boxes]), W (.int .i64 at_), W (.pointer (some ⟨(lo69 3), 1, none⟩)), D (.int .i64 ((((n.Boxes.getD (Int.toNat at_) default).Guards).getD v2 default).Via)), D (.int .i64 (f_impl_LabNet__link n at_ ((((n.Boxes.getD (Int.toNat at_) default).Guards).getD v2 default).Via))), D (.bool false), W (.bool false), W (.bool false), W (.pointer (some ⟨(lo69 3), 2, none⟩)), D (.int .i64 ((((n.Boxes.getD (Int.toNat at_) default).Guards).getD v2 default).Push)), D (.bool (isLabel ((((n.Boxes.getD (Int.toNat at_) default).Guards).getD v2 default).Push))), D (.bool true), W (.bool true), W (.bool true), S, S, S, S, S, S, S, S, S, S, S, S, S, S, W (.bool true)] mixed (fun vs w => by kernel_rfl) (⟨fun vs lo hi wx hB hK => Out.load1 rfl agg_3 ((hb78.to hB).cell 0 _ rfl), fun vs lo hi wx hB hK => Out.load1 rfl agg_3 ((hb78.to hB).cell 1 _ rfl), fun vs lo hi wx hB hK => Out.asB (Out.of_run (by kernel_rfl)) hB85, fun vs lo hi wx hB hK => Out.loadA rfl agg_27 size_27 ((hb1_0.to hB).has 0 _ rfl), fun vs lo hi wx hB hK => Out.load1 rfl agg_3 ((hb78.to hB).cell 0 _ rfl), fun vs lo hi wx hB hK => Out.call (by kernel_rfl) (c_impl_LabNet__link _ n ([.slice a_n_Links n.Links.length c_n_Links, .slice a_n_Boxes n.Boxes.length c_n_Boxes]) (show rpLabNet.rd _ _ _ from ⟨_, _, _, _, rfl, h_n_Links.below (btr e79 hB), h_n_Boxes.below (btr e79 hB)⟩) at_ ((((n.Boxes.getD (Int.toNat at_) default).Guards).getD v2 default).To)) (fun _ _ h => h), fun vs lo hi wx hB hK => Out.asB (Out.of_run (by kernel_rfl)) hB86, fun vs lo hi wx hB hK => Out.loadA rfl agg_27 size_27 ((hb1_0.to hB).has 0 _ rfl), fun vs lo hi wx hB hK => Out.load1 rfl agg_3 ((hb78.to hB).cell 1 _ rfl), fun vs lo hi wx hB hK => Out.call (by kernel_rfl) (c_impl_LabNet__link _ n ([.slice a_n_Links n.Links.length c_n_Links, .slice a_n_Boxes n.Boxes.length c_n_Boxes]) (show rpLabNet.rd _ _ _ from ⟨_, _, _, _, rfl, h_n_Links.below (btr e79 hB), h_n_Boxes.below (btr e79 hB)⟩) at_ ((((n.Boxes.getD (Int.toNat at_) default).Guards).getD v2 default).Via)) (fun _ _ h => h), fun vs lo hi wx hB hK => Out.asB (Out.of_run (by kernel_rfl)) hB87, fun vs lo hi wx hB hK => Out.load1 rfl agg_3 ((hb78.to hB).cell 2 _ rfl), fun vs lo hi wx hB hK => Out.call (by kernel_rfl) (c_impl_isLabel _ ((((n.Boxes.getD (Int.toNat at_) default).Guards).getD v2 default).Push)) (fun _ _ h => h), fun vs lo hi wx hB hK => Out.asB (Out.of_run (by kernel_rfl)) hB88, trivial⟩) ?_
                  rintro vs92 lo92 hi92 w92 hU92
                  exact Rest.nil (GQ.sub [(1, .int .i64 at_), (2, .pointer (some ⟨(lo1 0), 0, none⟩)), (5, .pointer (some ⟨(lo4 5), 0, none⟩)), (72, .slice a__3_2 (((n.Boxes.getD (Int.toNat at_) default).Guards).length) c__3_2), (73, .int .i64 (((n.Boxes.getD (Int.toNat at_) default).Guards).length : Int)), (74, .int .i64 (v2 : Int)), (121, .bool ((((((n.Boxes.getD (Int.toNat at_) default).Guards).getD v2 default).To) == ((((n.Boxes.getD (Int.toNat at_) default).Guards).getD v2 default).Via)) || ((decide ((f_impl_LabNet__link n at_ ((((n.Boxes.getD (Int.toNat at_) default).Guards).getD v2 default).To)) < (0 : Int))) || ((decide ((f_impl_LabNet__link n at_ ((((n.Boxes.getD (Int.toNat at_) default).Guards).getD v2 default).Via)) < (0 : Int))) || ((!(isLabel ((((n.Boxes.getD (Int.toNat at_) default).Guards).getD v2 default).Push))) || ((decide ((v2 : Int) > (0 : Int))) && (decide (((((n.Boxes.getD (Int.toNat at_) default).Guards).getD (Int.toNat ((v2 : Int) - 1)) default).To) ≥ ((((n.Boxes.getD (Int.toNat at_) default).Guards).getD v2 default).To)))))))))] (by (try simp only [hB85]); (try simp only [hB86]); (try simp only [hB87]); (try simp only [hB88]); kernel_rfl) (hQ84 _ hU92.1))
              · skip
                have hB87' := hB87
                try simp only [bs, within, isLabel] at hB87'
                refine GC.reg 43 [W (.pointer (some ⟨(lo69 3), 0, none⟩)), D (.int .i64 ((((n.Boxes.getD (Int.toNat at_) default).Guards).getD v2 default).To)), W (.pointer (some ⟨(lo69 3), 1, none⟩)), D (.int .i64 ((((n.Boxes.getD (Int.toNat at_) default).Guards).getD v2 default).Via)), D (.bool false), W (.bool false), D (.agg #[.slice a_n_Links n.Links.length c_n_Links, .slice a_n_Boxes n.Boxes.length c_n_Boxes]), W (.int .i64 at_), W (.pointer (some ⟨(lo69 3), 0, none⟩)), D (.int .i64 ((((n.Boxes.getD (Int.toNat at_) default).Guards).getD v2 default).To)), D (.int .i64 (f_impl_LabNet__link n at_ ((((n.Boxes.getD (Int.toNat at_) default).Guards).getD v2 default).To))), D (.bool false), W (.bool false), W (.bool false), D (.agg #[.slice a_n_Links n.Links.length c_n_Links, .slice a_n_Boxes n.Boxes.length c_n_Boxes]), W (.int .i64 at_), W (.pointer (some ⟨(lo69 3), 1, none⟩)), D (.int .i64 ((((n.Boxes.getD (Int.toNat at_) default).Guards).getD v2 default).Via)), D (.int .i64 (f_impl_LabNet__link n at_ ((((n.Boxes.getD (Int.toNat at_) default).Guards).getD v2 default).Via))), D (.bool true), W (.bool true), W (.bool true), S, S, S, S, W (.bool true), W (.bool true), S, S, S, S, S, S, S, S, S, S, S, S, S, S, W (.bool true)] mixed (fun vs w => by kernel_rfl) (⟨fun vs lo hi wx hB hK => Out.load1 rfl agg_3 ((hb78.to hB).cell 0 _ rfl), fun vs lo hi wx hB hK => Out.load1 rfl agg_3 ((hb78.to hB).cell 1 _ rfl), fun vs lo hi wx hB hK => Out.asB (Out.of_run (by kernel_rfl)) hB85, fun vs lo hi wx hB hK => Out.loadA rfl agg_27 size_27 ((hb1_0.to hB).has 0 _ rfl), fun vs lo hi wx hB hK => Out.load1 rfl agg_3 ((hb78.to hB).cell 0 _ rfl), fun vs lo hi wx hB hK => Out.call (by kernel_rfl) (c_impl_LabNet__link _ n ([.slice a_n_Links n.Links.length c_n_Links, .slice a_n_Boxes n.Boxes.length c_n_Boxes]) (show rpLabNet.rd _ _ _ from ⟨_, _, _, _, rfl, h_n_Links.below (btr e79 hB), h_n_Boxes.below (btr e79 hB)⟩) at_ ((((n.Boxes.getD (Int.toNat at_) default).Guards).getD v2 default).To)) (fun _ _ h => h), fun vs lo hi wx hB hK => Out.asB (Out.of_run (by kernel_rfl)) hB86, fun vs lo hi wx hB hK => Out.loadA rfl agg_27 size_27 ((hb1_0.to hB).has 0 _ rfl), fun vs lo hi wx hB hK => Out.load1 rfl agg_3 ((hb78.to hB).cell 1 _ rfl), fun vs lo hi wx hB hK => Out.call (by kernel_rfl) (c_impl_LabNet__link _ n ([.slice a_n_Links n.Links.length c_n_Links, .slice a_n_Boxes n.Boxes.length c_n_Boxes]) (show rpLabNet.rd _ _ _ from ⟨_, _, _, _, rfl, h_n_Links.below (btr e79 hB), h_n_Boxes.below (btr e79 hB)⟩) at_ ((((n.Boxes.getD (Int.toNat at_) default).Guards).getD v2 default).Via)) (fun _ _ h => h), fun vs lo hi wx hB hK => Out.asB (Out.of_run (by kernel_rfl)) hB87, trivial⟩) ?_
                rintro vs93 lo93 hi93 w93 hU93
                exact Rest.nil (GQ.sub [(1, .int .i64 at_), (2, .pointer (some ⟨(lo1 0), 0, none⟩)), (5, .pointer (some ⟨(lo4 5), 0, none⟩)), (72, .slice a__3_2 (((n.Boxes.getD (Int.toNat at_) default).Guards).length) c__3_2), (73, .int .i64 (((n.Boxes.getD (Int.toNat at_) default).Guards).length : Int)), (74, .int .i64 (v2 : Int)), (121, .bool ((((((n.Boxes.getD (Int.toNat at_) default).Guards).getD v2 default).To) == ((((n.Boxes.getD (Int.toNat at_) default).Guards).getD v2 default).Via)) || ((decide ((f_impl_LabNet__link n at_ ((((n.Boxes.getD (Int.toNat at_) default).Guards).getD v2 default).To)) < (0 : Int))) || ((decide ((f_impl_LabNet__link n at_ ((((n.Boxes.getD (Int.toNat at_) default).Guards).getD v2 default).Via)) < (0 : Int))) || ((!(isLabel ((((n.Boxes.getD (Int.toNat at_) default).Guards).getD v2 default).Push))) || ((decide ((v2 : Int) > (0 : Int))) && (decide (((((n.Boxes.getD (Int.toNat at_) default).Guards).getD (Int.toNat ((v2 : Int) - 1)) default).To) ≥ ((((n.Boxes.getD (Int.toNat at_) default).Guards).getD v2 default).To)))))))))] (by (try simp only [hB85]); (try simp only [hB86]); (try simp only [hB87]); kernel_rfl) (hQ84 _ hU93.1))
            · skip
              have hB86' := hB86
              try simp only [bs, within, isLabel] at hB86'
              refine GC.reg 43 [W (.pointer (some ⟨(lo69 3), 0, none⟩)), D (.int .i64 ((((n.Boxes.getD (Int.toNat at_) default).Guards).getD v2 default).To)), W (.pointer (some ⟨(lo69 3), 1, none⟩)), D (.int .i64 ((((n.Boxes.getD (Int.toNat at_) default).Guards).getD v2 default).Via)), D (.bool false), W (.bool false), D (.agg #[.slice a_n_Links n.Links.length c_n_Links, .slice a_n_Boxes n.Boxes.length c_n_Boxes]), W (.int .i64 at_), W (.pointer (some ⟨(lo69 3), 0, none⟩)), D (.int .i64 ((((n.Boxes.getD (Int.toNat at_) default).Guards).getD v2 default).To)), D (.int .i64 (f_impl_LabNet__link n at_ ((((n.Boxes.getD (Int.toNat at_) default).Guards).getD v2 default).To))), D (.bool true), W (.bool true), W (.bool true), S, S, S, S, S, S, W (.bool true), W (.bool true), S, S, S, S, W (.bool true), W (.bool true), S, S, S, S, S, S, S, S, S, S, S, S, S, S, W (.bool true)] mixed (fun vs w => by kernel_rfl) (⟨fun vs lo hi wx hB hK => Out.load1 rfl agg_3 ((hb78.to hB).cell 0 _ rfl), fun vs lo hi wx hB hK => Out.load1 rfl agg_3 ((hb78.to hB).cell 1 _ rfl), fun vs lo hi wx hB hK => Out.asB (Out.of_run (by kernel_rfl)) hB85, fun vs lo hi wx hB hK => Out.loadA rfl agg_27 size_27 ((hb1_0.to hB).has 0 _ rfl), fun vs lo hi wx hB hK => Out.load1 rfl agg_3 ((hb78.to hB).cell 0 _ rfl), fun vs lo hi wx hB hK => Out.call (by kernel_rfl) (c_impl_LabNet__link _ n ([.slice a_n_Links n.Links.length c_n_Links, .slice a_n_Boxes n.Boxes.length c_n_Boxes]) (show rpLabNet.rd _ _ _ from ⟨_, _, _, _, rfl, h_n_Links.below (btr e79 hB), h_n_Boxes.below (btr e79 hB)⟩) at_ ((((n.Boxes.getD (Int.toNat at_) default).Guards).getD v2 default).To)) (fun _ _ h => h), fun vs lo hi wx hB hK => Out.asB (Out.of_run (by kernel_rfl)) hB86, trivial⟩) ?_
              rintro vs94 lo94 hi94 w94 hU94
              exact Rest.nil (GQ.sub [(1, .int .i64 at_), (2, .pointer (some ⟨(lo1 0), 0, none⟩)), (5, .pointer (some ⟨(lo4 5), 0, none⟩)), (72, .slice a__3_2 (((n.Boxes.getD (Int.toNat at_) default).Guards).length) c__3_2), (73, .int .i64 (((n.Boxes.getD (Int.toNat at_) default).Guards).length : Int)), (74, .int .i64 (v2 : Int)), (121, .bool ((((((n.Boxes.getD (Int.toNat at_) default).Guards).getD v2 default).To) == ((((n.Boxes.getD (Int.toNat at_) default).Guards).getD v2 default).Via)) || ((decide ((f_impl_LabNet__link n at_ ((((n.Boxes.getD (Int.toNat at_) default).Guards).getD v2 default).To)) < (0 : Int))) || ((decide ((f_impl_LabNet__link n at_ ((((n.Boxes.getD (Int.toNat at_) default).Guards).getD v2 default).Via)) < (0 : Int))) || ((!(isLabel ((((n.Boxes.getD (Int.toNat at_) default).Guards).getD v2 default).Push))) || ((decide ((v2 : Int) > (0 : Int))) && (decide (((((n.Boxes.getD (Int.toNat at_) default).Guards).getD (Int.toNat ((v2 : Int) - 1)) default).To) ≥ ((((n.Boxes.getD (Int.toNat at_) default).Guards).getD v2 default).To)))))))))] (by (try simp only [hB85]); (try simp only [hB86]); kernel_rfl) (hQ84 _ hU94.1))
          · skip
            have hB85' := hB85
            try simp only [bs, within, isLabel] at hB85'
            refine GC.reg 43 [W (.pointer (some ⟨(lo69 3), 0, none⟩)), D (.int .i64 ((((n.Boxes.getD (Int.toNat at_) default).Guards).getD v2 default).To)), W (.pointer (some ⟨(lo69 3), 1, none⟩)), D (.int .i64 ((((n.Boxes.getD (Int.toNat at_) default).Guards).getD v2 default).Via)), D (.bool true), W (.bool true), S, S, S, S, S, S, W (.bool true), W (.bool true), S, S, S, S, S, S, W (.bool true), W (.bool true), S, S, S, S, W (.bool true), W (.bool true), S, S, S, S, S, S, S, S, S, S, S, S, S, S, W (.bool true)] mixed (fun vs w => by kernel_rfl) (⟨fun vs lo hi wx hB hK => Out.load1 rfl agg_3 ((hb78.to hB).cell 0 _ rfl), fun vs lo hi wx hB hK => Out.load1 rfl agg_3 ((hb78.to hB).cell 1 _ rfl), fun vs lo hi wx hB hK => Out.asB (Out.of_run (by kernel_rfl)) hB85, trivial⟩) ?_
            rintro vs95 lo95 hi95 w95 hU95
            exact Rest.nil (GQ.sub [(1, .int .i64 at_), (2, .pointer (some ⟨(lo1 0), 0, none⟩)), (5, .pointer (some ⟨(lo4 5), 0, none⟩)), (72, .slice a__3_2 (((n.Boxes.getD (Int.toNat at_) default).Guards).length) c__3_2), (73, .int .i64 (((n.Boxes.getD (Int.toNat at_) default).Guards).length : Int)), (74, .int .i64 (v2 : Int)), (121, .bool ((((((n.Boxes.getD (Int.toNat at_) default).Guards).getD v2 default).To) == ((((n.Boxes.getD (Int.toNat at_) default).Guards).getD v2 default).Via)) || ((decide ((f_impl_LabNet__link n at_ ((((n.Boxes.getD (Int.toNat at_) default).Guards).getD v2 default).To)) < (0 : Int))) || ((decide ((f_impl_LabNet__link n at_ ((((n.Boxes.getD (Int.toNat at_) default).Guards).getD v2 default).Via)) < (0 : Int))) || ((!(isLabel ((((n.Boxes.getD (Int.toNat at_) default).Guards).getD v2 default).Push))) || ((decide ((v2 : Int) > (0 : Int))) && (decide (((((n.Boxes.getD (Int.toNat at_) default).Guards).getD (Int.toNat ((v2 : Int) - 1)) default).To) ≥ ((((n.Boxes.getD (Int.toNat at_) default).Guards).getD v2 default).To)))))))))] (by (try simp only [hB85]); kernel_rfl) (hQ84 _ hU95.1))
        · skip
          have e96 := btr e79 hE83
          replace hb1_0 := hb1_0.to hE83
          replace hb10 := hb10.to hE83
          replace hb78 := hb78.to hE83
          have hw97 := chg_trb hw80 hE83
          refine GQ.on ?_
          refine GC.cond ((((((n.Boxes.getD (Int.toNat at_) default).Guards).getD v2 default).To) == ((((n.Boxes.getD (Int.toNat at_) default).Guards).getD v2 default).Via)) || ((decide ((f_impl_LabNet__link n at_ ((((n.Boxes.getD (Int.toNat at_) default).Guards).getD v2 default).To)) < (0 : Int))) || ((decide ((f_impl_LabNet__link n at_ ((((n.Boxes.getD (Int.toNat at_) default).Guards).getD v2 default).Via)) < (0 : Int))) || ((!(isLabel ((((n.Boxes.getD (Int.toNat at_) default).Guards).getD v2 default).Push))) || ((decide ((v2 : Int) > (0 : Int))) && (decide (((((n.Boxes.getD (Int.toNat at_) default).Guards).getD (Int.toNat ((v2 : Int) - 1)) default).To) ≥ ((((n.Boxes.getD (Int.toNat at_) default).Guards).getD v2 default).To)))))))) rfl (fun hc3 => ?_) (fun hc3 => ?_)
          · skip
            have hc3' := hc3
            try simp only [bs, within, isLabel] at hc3'
            refine GC.seq ?_
            refine GC.regW [W (.bool false)] [(4, .bool false)] mixed rfl (fun vs w => by kernel_rfl) rfl (fun vs => by kernel_rfl) ?_
            refine GQ.on ?_
            refine GC.ret ?_
            refine GQ.blockRet ?_
            refine GQ.passRet ?_
            refine GQ.passRet ?_
            refine GQ.blockRet ?_
            refine GQ.passRet ?_
            refine GQ.ret1 (.bool false) rfl rfl ?_
            exact ⟨_, rfl, congrArg (Value.bool) (finD hD0 (finR (runL_ret hI1 (cndT hc2 (cndT hc3 rfl))) rfl)), e96⟩
          · skip
            have hc3' := hc3
            try simp only [bs, within, isLabel] at hc3'
            refine GC.skip ?_
            refine GQ.blockEnd ?_
            refine GQ.on ?_
            refine GC.reg 2 [D (.int .i64 ((v2 : Int) + 1)), W (.int .i64 ((v2 : Int) + 1))] mixed (fun vs w => by kernel_rfl) (⟨fun vs lo hi wx hB hK => Out.add rfl rfl (by omega) (by omega), trivial⟩) ?_
            rintro vs98 lo98 hi98 w98 hU98
            have e99 := btr e96 hU98.1
            replace hb1_0 := hb1_0.to hU98.1
            replace hb10 := hb10.to hU98.1
            replace hb78 := hb78.to hU98.1
            have hw100 := chg_trb hw97 hU98.1
            refine Rest.nil (GQ.sub [(1, .int .i64 at_), (2, .pointer (some ⟨(lo1 0), 0, none⟩)), (5, .pointer (some ⟨(lo4 5), 0, none⟩)), (72, .slice a__3_2 (((n.Boxes.getD (Int.toNat at_) default).Guards).length) c__3_2), (73, .int .i64 (((n.Boxes.getD (Int.toNat at_) default).Guards).length : Int)), (74, .int .i64 ((v2 : Int) + 1))] (by kernel_rfl) ?_)
            exact GQ.next (m, v2 + 1) (by kernel_rfl) ⟨hw100, runL_next hI1 (cndT hc2 (cndF hc3 rfl)), (by omega)⟩ (Nat.lt_succ_self _)
      · skip
        have hc2' := hc2
        try simp only [bs, within, isLabel] at hc2'
        refine GC.exit ?_
        refine GQ.pass ?_
        refine GQ.pass ?_
        refine GQ.blockOut ?_
        exact GQ.sub [] (by kernel_rfl) (hq1 v2 _ ⟨hw66, runL_done hI1 (cndF hc2 rfl), hc2⟩)
    · skip
      rintro v2 w101 ⟨hw102, hD1, hx1_0⟩
      have e103 := chg_below e64 (Nat.le_refl _) hw102 (fun _ h => h.elim)
      replace hb1_0 := hb1_0.chg hw102 (fun h => h)
      replace hb10 := hb10.chg hw102 (fun h => h)
      have hx1_0' := hx1_0
      try simp only [bs, within, isLabel] at hx1_0'
      refine GQ.on ?_
      refine GC.seq ?_
      refine GC.regW [W (.bool true)] [(4, .bool true)] mixed rfl (fun vs w => by kernel_rfl) rfl (fun vs => by kernel_rfl) ?_
      refine GQ.on ?_
      refine GC.ret ?_
      refine GQ.ret1 (.bool true) rfl rfl ?_
      exact ⟨_, rfl, congrArg (Value.bool) (finD hD0 (finD hD1 rfl)), e103⟩
def f_impl_LabNetOk_s0 (n : LabNet) : Nat → Lp Nat Bool := fun v => bif (decide ((v : Int) < (n.Boxes.length : Int))) then (bif (!(f_impl_LabNet__boxOk n (v : Int))) then (Lp.ret false) else (Lp.next (v + 1))) else (Lp.done v)
def f_impl_LabNetOk (n : LabNet) : Bool := bif ((!(within (n.Boxes.length : Int) 1 8)) || (!(f_impl_LabNet__linksOk n))) then false else (Lp.fin (runL (f_impl_LabNetOk_s0 n) ((Int.toNat ((n.Boxes.length : Int) - (0 : Int))) + 1) 0) id (fun v => true))
/-- impl.LabNetOk -/
theorem c_impl_LabNetOk (w : World) (n : LabNet) (cs_n : List Value) (h_n : rpLabNet.rd w cs_n n) :
    Calls Try.prog 24 #[.agg cs_n.toArray] w fun e w' => ∃ rv, e = .returned rv ∧ (rv = .bool (f_impl_LabNetOk n) ∧ Below w.heap.size w w') := by
  obtain ⟨a_n_Links, c_n_Links, a_n_Boxes, c_n_Boxes, rfl, h_n_Links, h_n_Boxes⟩ := h_n
  have lh_n_Links := h_n_Links.2.1
  have lh_n_Boxes := h_n_Boxes.2.1
  refine enter [(0, .agg #[.slice a_n_Links n.Links.length c_n_Links, .slice a_n_Boxes n.Boxes.length c_n_Boxes])] Try.func24 rfl (by kernel_rfl) (by kernel_rfl) ?_
  have e0 := brefl w
  refine GC.seq ?_
  refine GC.reg 2 [RB 0 27 [.slice a_n_Links n.Links.length c_n_Links, .slice a_n_Boxes n.Boxes.length c_n_Boxes], W (.bool false)] mixed (fun vs w => by kernel_rfl) (⟨fun vs lo hi wx hB hK => Out.box rfl, trivial⟩) ?_
  rintro vs1 lo1 hi1 w1 hU1
  have e2 := btr e0 hU1.1
  obtain ⟨⟨hv1_0, hp1_0, hb1_0⟩, hl1_0, -, -⟩ := hU1.2.1 0 _ rfl trivial
  have hl1_0b := Nat.le_trans e0.size hl1_0
  refine Rest.nil (GQ.sub [(1, .pointer (some ⟨(lo1 0), 0, none⟩))] (by rw [← hv1_0]; kernel_rfl) ?_)
  refine GQ.on ?_
  refine GC.seq ?_
  refine GC.seq ?_
  refine GC.abs [(1, .pointer (some ⟨(lo1 0), 0, none⟩)), (13, .bool ((!(within (n.Boxes.length : Int) 1 8)) || (!(f_impl_LabNet__linksOk n))))] (fun w' => Below w1.heap.size w1 w') (fun Q' hQ5 => ?_) (fun w3 hE4 => ?_)
  · skip
    cases hB6 : (!(within (n.Boxes.length : Int) 1 8))
    · skip
      have hB6' := hB6
      try simp only [bs, within, isLabel] at hB6'
      refine GC.reg 10 [W (.pointer (some ⟨(lo1 0), 1, none⟩)), D (.slice a_n_Boxes n.Boxes.length c_n_Boxes), W (.int .i64 (n.Boxes.length : Int)), D (.bool (within (n.Boxes.length : Int) 1 8)), D (.bool false), W (.bool false), D (.agg #[.slice a_n_Links n.Links.length c_n_Links, .slice a_n_Boxes n.Boxes.length c_n_Boxes]), D (.bool (f_impl_LabNet__linksOk n)), W (.bool (!(f_impl_LabNet__linksOk n))), W (.bool (!(f_impl_LabNet__linksOk n)))] mixed (fun vs w => by kernel_rfl) (⟨fun vs lo hi wx hB hK => Out.load1 rfl agg_25 ((hb1_0.to hB).cell 1 _ rfl), fun vs lo hi wx hB hK => Out.call (by kernel_rfl) (c_impl_within _ (n.Boxes.length : Int) 1 8) (fun _ _ h => h), fun vs lo hi wx hB hK => Out.asB (Out.of_run (by kernel_rfl)) hB6, fun vs lo hi wx hB hK => Out.loadA rfl agg_27 size_27 ((hb1_0.to hB).has 0 _ rfl), fun vs lo hi wx hB hK => Out.call (by kernel_rfl) (c_impl_LabNet__linksOk _ n ([.slice a_n_Links n.Links.length c_n_Links, .slice a_n_Boxes n.Boxes.length c_n_Boxes]) (show rpLabNet.rd _ _ _ from ⟨_, _, _, _, rfl, h_n_Links.below (btr e2 hB), h_n_Boxes.below (btr e2 hB)⟩)) (fun _ _ h => h), trivial⟩) ?_
      rintro vs7 lo7 hi7 w7 hU7
      exact Rest.nil (GQ.sub [(1, .pointer (some ⟨(lo1 0), 0, none⟩)), (13, .bool ((!(within (n.Boxes.length : Int) 1 8)) || (!(f_impl_LabNet__linksOk n))))] (by (try simp only [hB6]); kernel_rfl) (hQ5 _ hU7.1))
    · skip
      have hB6' := hB6
      try simp only [bs, within, isLabel] at hB6'
      refine GC.reg 10 [W (.pointer (some ⟨(lo1 0), 1, none⟩)), D (.slice a_n_Boxes n.Boxes.length c_n_Boxes), W (.int .i64 (n.Boxes.length : Int)), D (.bool (within (n.Boxes.length : Int) 1 8)), D (.bool true), W (.bool true), S, S, S, W (.bool true)] mixed (fun vs w => by kernel_rfl) (⟨fun vs lo hi wx hB hK => Out.load1 rfl agg_25 ((hb1_0.to hB).cell 1 _ rfl), fun vs lo hi wx hB hK => Out.call (by kernel_rfl) (c_impl_within _ (n.Boxes.length : Int) 1 8) (fun _ _ h => h), fun vs lo hi wx hB hK => Out.asB (Out.of_run (by kernel_rfl)) hB6, trivial⟩) ?_
      rintro vs8 lo8 hi8 w8 hU8
      exact Rest.nil (GQ.sub [(1, .pointer (some ⟨(lo1 0), 0, none⟩)), (13, .bool ((!(within (n.Boxes.length : Int) 1 8)) || (!(f_impl_LabNet__linksOk n))))] (by (try simp only [hB6]); kernel_rfl) (hQ5 _ hU8.1))
  · skip
    have e9 := btr e2 hE4
    replace hb1_0 := hb1_0.to hE4
    refine GQ.on ?_
    refine GC.cond ((!(within (n.Boxes.length : Int) 1 8)) || (!(f_impl_LabNet__linksOk n))) rfl (fun hc0 => ?_) (fun hc0 => ?_)
    · skip
      have hc0' := hc0
      try simp only [bs, within, isLabel] at hc0'
      refine GC.seq ?_
      refine GC.regW [W (.bool false)] [(2, .bool false)] mixed rfl (fun vs w => by kernel_rfl) rfl (fun vs => by kernel_rfl) ?_
      refine GQ.on ?_
      refine GC.ret ?_
      refine GQ.passRet ?_
      refine GQ.ret1 (.bool false) rfl rfl ?_
      exact ⟨_, rfl, congrArg (Value.bool) (cndT hc0 rfl), e9⟩
    · skip
      have hc0' := hc0
      try simp only [bs, within, isLabel] at hc0'
      refine GC.skip ?_
      refine GQ.on ?_
      refine GC.seq ?_
      refine GC.seq ?_
      refine GC.reg 4 [W (.pointer (some ⟨(lo1 0), 1, none⟩)), D (.slice a_n_Boxes n.Boxes.length c_n_Boxes), W (.int .i64 (n.Boxes.length : Int)), W (.int .i64 0)] mixed (fun vs w => by kernel_rfl) (⟨fun vs lo hi wx hB hK => Out.load1 rfl agg_25 ((hb1_0.to hB).cell 1 _ rfl), trivial⟩) ?_
      rintro vs10 lo10 hi10 w10 hU10
      have e11 := btr e9 hU10.1
      replace hb1_0 := hb1_0.to hU10.1
      refine Rest.nil (GQ.sub [(1, .pointer (some ⟨(lo1 0), 0, none⟩)), (16, .int .i64 (n.Boxes.length : Int)), (17, .int .i64 0)] (by kernel_rfl) ?_)
      refine GQ.on ?_
      refine GC.join (ι := Nat) (fun i => []) (fun i w' => Chg (fun _ : Nat => False) w10 w' ∧ (runL (f_impl_LabNetOk_s0 n) ((Int.toNat ((n.Boxes.length : Int) - (0 : Int))) + 1) 0) = Lp.done i ∧ (decide ((i : Int) < (n.Boxes.length : Int))) = false) (fun hq0 => ?_) ?_
      · skip
        refine GC.block ?_
        refine GC.loop (ι := Nat × Nat) (fun i => [(1, .pointer (some ⟨(lo1 0), 0, none⟩)), (16, .int .i64 (n.Boxes.length : Int)), (17, .int .i64 (i.2 : Int))]) (fun i w' => Chg (fun _ : Nat => False) w10 w' ∧ runL (f_impl_LabNetOk_s0 n) i.1 i.2 = (runL (f_impl_LabNetOk_s0 n) ((Int.toNat ((n.Boxes.length : Int) - (0 : Int))) + 1) 0) ∧ Int.toNat ((n.Boxes.length : Int) - (i.2 : Int)) < i.1) (fun i => i.1) (((Int.toNat ((n.Boxes.length : Int) - (0 : Int))) + 1), 0) (by kernel_rfl) ⟨chg_refl _ _, rfl, Nat.lt_succ_self _⟩ ?_
        rintro ⟨m, v⟩ w12 ⟨hw13, hI0, hm0⟩
        obtain ⟨m, rfl⟩ := prev_of_lt hm0
        have e14 := chg_below e11 (Nat.le_refl _) hw13 (fun _ h => h.elim)
        replace hb1_0 := hb1_0.chg hw13 (fun h => h)
        refine GC.seq ?_
        refine GC.regW [W (.bool (decide ((v : Int) < (n.Boxes.length : Int))))] [(1, .pointer (some ⟨(lo1 0), 0, none⟩)), (16, .int .i64 (n.Boxes.length : Int)), (17, .int .i64 (v : Int)), (18, .bool (decide ((v : Int) < (n.Boxes.length : Int))))] mixed rfl (fun vs w => by kernel_rfl) rfl (fun vs => by kernel_rfl) ?_
        refine GQ.on ?_
        refine GC.seq ?_
        refine GC.cond (decide ((v : Int) < (n.Boxes.length : Int))) rfl (fun hc1 => ?_) (fun hc1 => ?_)
        · skip
          have hc1' := hc1
          try simp only [bs, within, isLabel] at hc1'
          refine GC.skip ?_
          refine GQ.on ?_
          refine GC.seq ?_
          refine GC.block ?_
          refine GC.seq ?_
          refine GC.regW [W (.int .i64 (v : Int)), W (.int .i64 (v : Int))] [(1, .pointer (some ⟨(lo1 0), 0, none⟩)), (3, .int .i64 (v : Int)), (16, .int .i64 (n.Boxes.length : Int)), (17, .int .i64 (v : Int))] mixed rfl (fun vs w => by kernel_rfl) rfl (fun vs => by kernel_rfl) ?_
          refine GQ.on ?_
          refine GC.seq ?_
          refine GC.reg 4 [D (.agg #[.slice a_n_Links n.Links.length c_n_Links, .slice a_n_Boxes n.Boxes.length c_n_Boxes]), W (.int .i64 (v : Int)), D (.bool (f_impl_LabNet__boxOk n (v : Int))), W (.bool (!(f_impl_LabNet__boxOk n (v : Int))))] mixed (fun vs w => by kernel_rfl) (⟨fun vs lo hi wx hB hK => Out.loadA rfl agg_27 size_27 ((hb1_0.to hB).has 0 _ rfl), fun vs lo hi wx hB hK => Out.call (by kernel_rfl) (c_impl_LabNet__boxOk _ n ([.slice a_n_Links n.Links.length c_n_Links, .slice a_n_Boxes n.Boxes.length c_n_Boxes]) (show rpLabNet.rd _ _ _ from ⟨_, _, _, _, rfl, h_n_Links.below (btr e14 hB), h_n_Boxes.below (btr e14 hB)⟩) (v : Int) (by omega)) (fun _ _ h => h), trivial⟩) ?_
          rintro vs15 lo15 hi15 w15 hU15
          have e16 := btr e14 hU15.1
          replace hb1_0 := hb1_0.to hU15.1
          have hw17 := chg_trb hw13 hU15.1
          refine Rest.nil (GQ.sub [(1, .pointer (some ⟨(lo1 0), 0, none⟩)), (16, .int .i64 (n.Boxes.length : Int)), (17, .int .i64 (v : Int)), (23, .bool (!(f_impl_LabNet__boxOk n (v : Int))))] (by kernel_rfl) ?_)
          refine GQ.on ?_
          refine GC.cond (!(f_impl_LabNet__boxOk n (v : Int))) rfl (fun hc2 => ?_) (fun hc2 => ?_)
          · skip
            have hc2' := hc2
            try simp only [bs, within, isLabel] at hc2'
            refine GC.seq ?_
            refine GC.regW [W (.bool false)] [(2, .bool false)] mixed rfl (fun vs w => by kernel_rfl) rfl (fun vs => by kernel_rfl) ?_
            refine GQ.on ?_
            refine GC.ret ?_
            refine GQ.blockRet ?_
            refine GQ.passRet ?_
            refine GQ.passRet ?_
            refine GQ.blockRet ?_
            refine GQ.passRet ?_
            refine GQ.ret1 (.bool false) rfl rfl ?_
            exact ⟨_, rfl, congrArg (Value.bool) (cndF hc0 (finR (runL_ret hI0 (cndT hc1 (cndT hc2 rfl))) rfl)), e16⟩
          · skip
            have hc2' := hc2
            try simp only [bs, within, isLabel] at hc2'
            refine GC.skip ?_
            refine GQ.blockEnd ?_
            refine GQ.on ?_
            refine GC.reg 2 [D (.int .i64 ((v : Int) + 1)), W (.int .i64 ((v : Int) + 1))] mixed (fun vs w => by kernel_rfl) (⟨fun vs lo hi wx hB hK => Out.add rfl rfl (by omega) (by omega), trivial⟩) ?_
            rintro vs18 lo18 hi18 w18 hU18
            have e19 := btr e16 hU18.1
            replace hb1_0 := hb1_0.to hU18.1
            have hw20 := chg_trb hw17 hU18.1
            refine Rest.nil (GQ.sub [(1, .pointer (some ⟨(lo1 0), 0, none⟩)), (16, .int .i64 (n.Boxes.length : Int)), (17, .int .i64 ((v : Int) + 1))] (by kernel_rfl) ?_)
            exact GQ.next (m, v + 1) (by kernel_rfl) ⟨hw20, runL_next hI0 (cndT hc1 (cndF hc2 rfl)), (by omega)⟩ (Nat.lt_succ_self _)
        · skip
          have hc1' := hc1
          try simp only [bs, within, isLabel] at hc1'
          refine GC.exit ?_
          refine GQ.pass ?_
          refine GQ.pass ?_
          refine GQ.blockOut ?_
          exact GQ.sub [] (by kernel_rfl) (hq0 v _ ⟨hw13, runL_done hI0 (cndF hc1 rfl), hc1⟩)
      · skip
        rintro v w21 ⟨hw22, hD0, hx0_0⟩
        have e23 := chg_below e11 (Nat.le_refl _) hw22 (fun _ h => h.elim)
        replace hb1_0 := hb1_0.chg hw22 (fun h => h)
        have hx0_0' := hx0_0
        try simp only [bs, within, isLabel] at hx0_0'
        refine GQ.on ?_
        refine GC.seq ?_
        refine GC.regW [W (.bool true)] [(2, .bool true)] mixed rfl (fun vs w => by kernel_rfl) rfl (fun vs => by kernel_rfl) ?_
        refine GQ.on ?_
        refine GC.ret ?_
        refine GQ.ret1 (.bool true) rfl rfl ?_
        exact ⟨_, rfl, congrArg (Value.bool) (cndF hc0 (finD hD0 rfl)), e23⟩
def l71In (n : Int) (low : Int) (high : Int) : Bool := (decide (n ≥ low)) && (decide (n ≤ high))
/-- spec.l71In -/
theorem c_spec_l71In (w : World) (n : Int) (low : Int) (high : Int) :
    Calls Try.prog 48 #[.int .i64 n, .int .i64 low, .int .i64 high] w fun e w' => ∃ rv, e = .returned rv ∧ (rv = .bool (l71In n low high) ∧ Below w.heap.size w w') := by
  refine enter [(0, .int .i64 n), (1, .int .i64 low), (2, .int .i64 high)] Try.func48 rfl (by kernel_rfl) (by kernel_rfl) ?_
  have e0 := brefl w
  refine GC.seq ?_
  refine GC.regW [W (.bool false)] [(0, .int .i64 n), (1, .int .i64 low), (2, .int .i64 high)] mixed rfl (fun vs w => by kernel_rfl) rfl (fun vs => by kernel_rfl) ?_
  refine GQ.on ?_
  refine GC.seq ?_
  refine GC.abs [(6, .bool ((decide (n ≥ low)) && (decide (n ≤ high))))] (fun w' => Below w.heap.size w w') (fun Q' hQ3 => ?_) (fun w1 hE2 => ?_)
  · skip
    cases hB4 : (decide (n ≥ low))
    · skip
      have hB4' := hB4
      try simp only [bs, within, isLabel] at hB4'
      refine GC.reg 9 [W (.int .i64 n), W (.int .i64 low), D (.bool false), W (.bool false), S, S, S, W (.bool false), W (.bool false)] mixed (fun vs w => by kernel_rfl) (⟨fun vs lo hi wx hB hK => Out.asB (Out.of_run (by kernel_rfl)) hB4, trivial⟩) ?_
      rintro vs5 lo5 hi5 w5 hU5
      exact Rest.nil (GQ.sub [(6, .bool ((decide (n ≥ low)) && (decide (n ≤ high))))] (by (try simp only [hB4]); kernel_rfl) (hQ3 _ hU5.1))
    · skip
      have hB4' := hB4
      try simp only [bs, within, isLabel] at hB4'
      refine GC.reg 9 [W (.int .i64 n), W (.int .i64 low), D (.bool true), W (.bool true), W (.int .i64 n), W (.int .i64 high), W (.bool (decide (n ≤ high))), W (.bool (decide (n ≤ high))), W (.bool (decide (n ≤ high)))] mixed (fun vs w => by kernel_rfl) (⟨fun vs lo hi wx hB hK => Out.asB (Out.of_run (by kernel_rfl)) hB4, trivial⟩) ?_
      rintro vs6 lo6 hi6 w6 hU6
      exact Rest.nil (GQ.sub [(6, .bool ((decide (n ≥ low)) && (decide (n ≤ high))))] (by (try simp only [hB4]); kernel_rfl) (hQ3 _ hU6.1))
  · skip
    have e7 := btr e0 hE2
    refine GQ.on ?_
    refine GC.ret ?_
    refine GQ.ret1 (.bool ((decide (n ≥ low)) && (decide (n ≤ high)))) rfl rfl ?_
    exact ⟨_, rfl, congrArg (Value.bool) rfl, e7⟩
def f_spec_l71Frame_s0 (n : LabNet) : Nat → Lp Nat Bool := fun i0 => bif (decide ((i0 : Int) < (n.Links.length : Int))) then (bif ((decide (((n.Links.getD i0 default).A) < (0 : Int))) || ((decide (((n.Links.getD i0 default).A) ≥ ((n.Links.getD i0 default).B))) || (decide (((n.Links.getD i0 default).B) ≥ (n.Boxes.length : Int))))) then (Lp.ret false) else (bif ((decide ((i0 : Int) > (0 : Int))) && ((decide (((n.Links.getD (Int.toNat ((i0 : Int) - 1)) default).A) > ((n.Links.getD i0 default).A))) || ((((n.Links.getD (Int.toNat ((i0 : Int) - 1)) default).A) == ((n.Links.getD i0 default).A)) && (decide (((n.Links.getD (Int.toNat ((i0 : Int) - 1)) default).B) ≥ ((n.Links.getD i0 default).B)))))) then (Lp.ret false) else (Lp.next (i0 + 1)))) else (Lp.done i0)
def f_spec_l71Frame (n : LabNet) : Bool := bif ((!(l71In (n.Boxes.length : Int) 1 8)) || (decide ((n.Links.length : Int) > (14 : Int)))) then false else (Lp.fin (runL (f_spec_l71Frame_s0 n) ((Int.toNat ((n.Links.length : Int) - (0 : Int))) + 1) 0) id (fun i0 => true))
/-- spec.l71Frame -/
theorem c_spec_l71Frame (w : World) (n : LabNet) (cs_n : List Value) (h_n : rpLabNet.rd w cs_n n) :
    Calls Try.prog 49 #[.agg cs_n.toArray] w fun e w' => ∃ rv, e = .returned rv ∧ (rv = .bool (f_spec_l71Frame n) ∧ Below w.heap.size w w') := by
  obtain ⟨a_n_Links, c_n_Links, a_n_Boxes, c_n_Boxes, rfl, h_n_Links, h_n_Boxes⟩ := h_n
  have lh_n_Links := h_n_Links.2.1
  have lh_n_Boxes := h_n_Boxes.2.1
  refine enter [(0, .agg #[.slice a_n_Links n.Links.length c_n_Links, .slice a_n_Boxes n.Boxes.length c_n_Boxes])] Try.func49 rfl (by kernel_rfl) (by kernel_rfl) ?_
  have e0 := brefl w
  refine GC.seq ?_
  refine GC.reg 2 [RB 0 27 [.slice a_n_Links n.Links.length c_n_Links, .slice a_n_Boxes n.Boxes.length c_n_Boxes], W (.bool false)] mixed (fun vs w => by kernel_rfl) (⟨fun vs lo hi wx hB hK => Out.box rfl, trivial⟩) ?_
  rintro vs1 lo1 hi1 w1 hU1
  have e2 := btr e0 hU1.1
  obtain ⟨⟨hv1_0, hp1_0, hb1_0⟩, hl1_0, -, -⟩ := hU1.2.1 0 _ rfl trivial
  have hl1_0b := Nat.le_trans e0.size hl1_0
  refine Rest.nil (GQ.sub [(1, .pointer (some ⟨(lo1 0), 0, none⟩))] (by rw [← hv1_0]; kernel_rfl) ?_)
  refine GQ.on ?_
  refine GC.seq ?_
  refine GC.seq ?_
  refine GC.abs [(1, .pointer (some ⟨(lo1 0), 0, none⟩)), (15, .bool ((!(l71In (n.Boxes.length : Int) 1 8)) || (decide ((n.Links.length : Int) > (14 : Int)))))] (fun w' => Below w1.heap.size w1 w') (fun Q' hQ5 => ?_) (fun w3 hE4 => ?_)
  · skip
    cases hB6 : (!(l71In (n.Boxes.length : Int) 1 8))
    · skip
      have hB6' := hB6
      try simp only [bs, within, l71In, isLabel] at hB6'
      refine GC.reg 11 [W (.pointer (some ⟨(lo1 0), 1, none⟩)), D (.slice a_n_Boxes n.Boxes.length c_n_Boxes), W (.int .i64 (n.Boxes.length : Int)), D (.bool (l71In (n.Boxes.length : Int) 1 8)), D (.bool false), W (.bool false), W (.pointer (some ⟨(lo1 0), 0, none⟩)), D (.slice a_n_Links n.Links.length c_n_Links), W (.int .i64 (n.Links.length : Int)), W (.bool (decide ((n.Links.length : Int) > (14 : Int)))), W (.bool (decide ((n.Links.length : Int) > (14 : Int))))] mixed (fun vs w => by kernel_rfl) (⟨fun vs lo hi wx hB hK => Out.load1 rfl agg_25 ((hb1_0.to hB).cell 1 _ rfl), fun vs lo hi wx hB hK => Out.call (by kernel_rfl) (c_spec_l71In _ (n.Boxes.length : Int) 1 8) (fun _ _ h => h), fun vs lo hi wx hB hK => Out.asB (Out.of_run (by kernel_rfl)) hB6, fun vs lo hi wx hB hK => Out.load1 rfl agg_24 ((hb1_0.to hB).cell 0 _ rfl), trivial⟩) ?_
      rintro vs7 lo7 hi7 w7 hU7
      exact Rest.nil (GQ.sub [(1, .pointer (some ⟨(lo1 0), 0, none⟩)), (15, .bool ((!(l71In (n.Boxes.length : Int) 1 8)) || (decide ((n.Links.length : Int) > (14 : Int)))))] (by (try simp only [hB6]); kernel_rfl) (hQ5 _ hU7.1))
    · skip
      have hB6' := hB6
      try simp only [bs, within, l71In, isLabel] at hB6'
      refine GC.reg 11 [W (.pointer (some ⟨(lo1 0), 1, none⟩)), D (.slice a_n_Boxes n.Boxes.length c_n_Boxes), W (.int .i64 (n.Boxes.length : Int)), D (.bool (l71In (n.Boxes.length : Int) 1 8)), D (.bool true), W (.bool true), S, S, S, S, W (.bool true)] mixed (fun vs w => by kernel_rfl) (⟨fun vs lo hi wx hB hK => Out.load1 rfl agg_25 ((hb1_0.to hB).cell 1 _ rfl), fun vs lo hi wx hB hK => Out.call (by kernel_rfl) (c_spec_l71In _ (n.Boxes.length : Int) 1 8) (fun _ _ h => h), fun vs lo hi wx hB hK => Out.asB (Out.of_run (by kernel_rfl)) hB6, trivial⟩) ?_
      rintro vs8 lo8 hi8 w8 hU8
      exact Rest.nil (GQ.sub [(1, .pointer (some ⟨(lo1 0), 0, none⟩)), (15, .bool ((!(l71In (n.Boxes.length : Int) 1 8)) || (decide ((n.Links.length : Int) > (14 : Int)))))] (by (try simp only [hB6]); kernel_rfl) (hQ5 _ hU8.1))
  · skip
    have e9 := btr e2 hE4
    replace hb1_0 := hb1_0.to hE4
    refine GQ.on ?_
    refine GC.cond ((!(l71In (n.Boxes.length : Int) 1 8)) || (decide ((n.Links.length : Int) > (14 : Int)))) rfl (fun hc0 => ?_) (fun hc0 => ?_)
    · skip
      have hc0' := hc0
      try simp only [bs, within, l71In, isLabel] at hc0'
      refine GC.seq ?_
      refine GC.regW [W (.bool false)] [(2, .bool false)] mixed rfl (fun vs w => by kernel_rfl) rfl (fun vs => by kernel_rfl) ?_
      refine GQ.on ?_
      refine GC.ret ?_
      refine GQ.passRet ?_
      refine GQ.ret1 (.bool false) rfl rfl ?_
      exact ⟨_, rfl, congrArg (Value.bool) (cndT hc0 rfl), e9⟩
    · skip
      have hc0' := hc0
      try simp only [bs, within, l71In, isLabel] at hc0'
      refine GC.skip ?_
      refine GQ.on ?_
      refine GC.seq ?_
      refine GC.seq ?_
      refine GC.regW [W (.int .i64 0)] [(1, .pointer (some ⟨(lo1 0), 0, none⟩)), (3, .int .i64 0)] mixed rfl (fun vs w => by kernel_rfl) rfl (fun vs => by kernel_rfl) ?_
      refine GQ.on ?_
      refine GC.join (ι := Nat) (fun i => []) (fun i w' => Chg (fun _ : Nat => False) w3 w' ∧ (runL (f_spec_l71Frame_s0 n) ((Int.toNat ((n.Links.length : Int) - (0 : Int))) + 1) 0) = Lp.done i ∧ (decide ((i : Int) < (n.Links.length : Int))) = false) (fun hq0 => ?_) ?_
      · skip
        refine GC.block ?_
        refine GC.loop (ι := Nat × Nat) (fun i => [(1, .pointer (some ⟨(lo1 0), 0, none⟩)), (3, .int .i64 (i.2 : Int))]) (fun i w' => Chg (fun _ : Nat => False) w3 w' ∧ runL (f_spec_l71Frame_s0 n) i.1 i.2 = (runL (f_spec_l71Frame_s0 n) ((Int.toNat ((n.Links.length : Int) - (0 : Int))) + 1) 0) ∧ Int.toNat ((n.Links.length : Int) - (i.2 : Int)) < i.1) (fun i => i.1) (((Int.toNat ((n.Links.length : Int) - (0 : Int))) + 1), 0) (by kernel_rfl) ⟨chg_refl _ _, rfl, Nat.lt_succ_self _⟩ ?_
        rintro ⟨m, i0⟩ w10 ⟨hw11, hI0, hm0⟩
        obtain ⟨m, rfl⟩ := prev_of_lt hm0
        have e12 := chg_below e9 (Nat.le_refl _) hw11 (fun _ h => h.elim)
        replace hb1_0 := hb1_0.chg hw11 (fun h => h)
        refine GC.seq ?_
        refine GC.seq ?_
        refine GC.reg 5 [W (.int .i64 (i0 : Int)), W (.pointer (some ⟨(lo1 0), 0, none⟩)), D (.slice a_n_Links n.Links.length c_n_Links), W (.int .i64 (n.Links.length : Int)), W (.bool (decide ((i0 : Int) < (n.Links.length : Int))))] mixed (fun vs w => by kernel_rfl) (⟨fun vs lo hi wx hB hK => Out.load1 rfl agg_24 ((hb1_0.to hB).cell 0 _ rfl), trivial⟩) ?_
        rintro vs13 lo13 hi13 w13 hU13
        have e14 := btr e12 hU13.1
        replace hb1_0 := hb1_0.to hU13.1
        have hw15 := chg_trb hw11 hU13.1
        refine Rest.nil (GQ.sub [(1, .pointer (some ⟨(lo1 0), 0, none⟩)), (3, .int .i64 (i0 : Int)), (20, .bool (decide ((i0 : Int) < (n.Links.length : Int))))] (by kernel_rfl) ?_)
        refine GQ.on ?_
        refine GC.cond (decide ((i0 : Int) < (n.Links.length : Int))) rfl (fun hc1 => ?_) (fun hc1 => ?_)
        · skip
          have hc1' := hc1
          try simp only [bs, within, l71In, isLabel] at hc1'
          refine GC.skip ?_
          refine GQ.on ?_
          refine GC.seq ?_
          refine GC.block ?_
          refine GC.seq ?_
          have hx_16 : n.Links[i0]? = some (n.Links.getD i0 default) := getD_some (by omega)
          obtain ⟨ha_16, hb_16, cs_16, hl_16, hh_16, hr_16⟩ := h_n_Links.2.2 i0 (n.Links.getD i0 default) hx_16
          obtain rfl := hr_16
          refine GC.reg 6 [W (.pointer (some ⟨(lo1 0), 0, none⟩)), D (.slice a_n_Links n.Links.length c_n_Links), W (.int .i64 (i0 : Int)), D (.pointer (some ⟨(ab a_n_Links), ao a_n_Links + i0 * 2, none⟩)), D (.agg #[.int .i64 ((n.Links.getD i0 default).A), .int .i64 ((n.Links.getD i0 default).B)]), RB 5 72 [.int .i64 0, .int .i64 0]] mixed (fun vs w => by kernel_rfl) (⟨fun vs lo hi wx hB hK => Out.load1 rfl agg_24 ((hb1_0.to hB).cell 0 _ rfl), fun vs lo hi wx hB hK => Out.idxS i0 rfl rfl (ltg hx_16) ha_16 Try.underlying24 size_72, fun vs lo hi wx hB hK => Out.loadA rfl agg_72 size_72 ((hh_16.below hb_16 (btr e14 hB)).sub 0 _ rfl), fun vs lo hi wx hB hK => Out.alloc (z := .agg #[.int .i64 0, .int .i64 0]) (by kernel_rfl) rfl, trivial⟩) ?_
          rintro vs17 lo17 hi17 w17 hU17
          have hlt18 := hb1_0.lt
          have e19 := btr e14 hU17.1
          replace hb1_0 := hb1_0.to hU17.1
          have hw20 := chg_trb hw15 hU17.1
          obtain ⟨⟨hv17_5, hp17_5, hb17_5⟩, hl17_5, -, -⟩ := hU17.2.1 5 _ rfl trivial
          have hne21 := Nat.ne_of_lt (Nat.lt_of_lt_of_le hlt18 hl17_5)
          have hl17_5w := Nat.le_trans hw15.size hl17_5
          have hl17_5b := Nat.le_trans e14.size hl17_5
          refine Rest.sub [(1, .pointer (some ⟨(lo1 0), 0, none⟩)), (3, .int .i64 (i0 : Int)), (4, .pointer (some ⟨(lo17 5), 0, none⟩)), (27, .agg #[.int .i64 ((n.Links.getD i0 default).A), .int .i64 ((n.Links.getD i0 default).B)])] (by rw [← hv17_5]; kernel_rfl) ?_
          refine Rest.store [.int .i64 ((n.Links.getD i0 default).A), .int .i64 ((n.Links.getD i0 default).B)] [.int .i64 ((n.Links.getD i0 default).A), .int .i64 ((n.Links.getD i0 default).B)] rfl rfl hb17_5 size_72 rfl rfl rfl ?_
          intro w22 hC23 hb24
          have e25 := bchg1 e19 (Nat.le_refl _) hC23 hl17_5b
          have hw26 := chg_tr1 hw20 hC23 (.inl hl17_5w)
          replace hb1_0 := hb1_0.chg hC23 hne21
          refine Rest.nil (GQ.sub [(1, .pointer (some ⟨(lo1 0), 0, none⟩)), (3, .int .i64 (i0 : Int)), (4, .pointer (some ⟨(lo17 5), 0, none⟩))] (by kernel_rfl) ?_)
          refine GQ.on ?_
          refine GC.seq ?_
          refine GC.seq ?_
          refine GC.abs [(1, .pointer (some ⟨(lo1 0), 0, none⟩)), (3, .int .i64 (i0 : Int)), (4, .pointer (some ⟨(lo17 5), 0, none⟩)), (45, .bool ((decide (((n.Links.getD i0 default).A) < (0 : Int))) || ((decide (((n.Links.getD i0 default).A) ≥ ((n.Links.getD i0 default).B))) || (decide (((n.Links.getD i0 default).B) ≥ (n.Boxes.length : Int))))))] (fun w' => Below w22.heap.size w22 w') (fun Q' hQ29 => ?_) (fun w27 hE28 => ?_)
          · skip
            cases hB30 : (decide (((n.Links.getD i0 default).A) < (0 : Int)))
            · skip
              have hB30' := hB30
              try simp only [bs, within, l71In, isLabel] at hB30'
              cases hB31 : (decide (((n.Links.getD i0 default).A) ≥ ((n.Links.getD i0 default).B)))
              · skip
                have hB31' := hB31
                try simp only [bs, within, l71In, isLabel] at hB31'
                refine GC.reg 18 [W (.pointer (some ⟨(lo17 5), 0, none⟩)), D (.int .i64 ((n.Links.getD i0 default).A)), D (.bool false), W (.bool false), W (.pointer (some ⟨(lo17 5), 0, none⟩)), D (.int .i64 ((n.Links.getD i0 default).A)), W (.pointer (some ⟨(lo17 5), 1, none⟩)), D (.int .i64 ((n.Links.getD i0 default).B)), D (.bool false), W (.bool false), W (.bool false), W (.pointer (some ⟨(lo17 5), 1, none⟩)), D (.int .i64 ((n.Links.getD i0 default).B)), W (.pointer (some ⟨(lo1 0), 1, none⟩)), D (.slice a_n_Boxes n.Boxes.length c_n_Boxes), W (.int .i64 (n.Boxes.length : Int)), W (.bool (decide (((n.Links.getD i0 default).B) ≥ (n.Boxes.length : Int)))), W (.bool (decide (((n.Links.getD i0 default).B) ≥ (n.Boxes.length : Int))))] mixed (fun vs w => by kernel_rfl) (⟨fun vs lo hi wx hB hK => Out.load1 rfl agg_3 ((hb24.to hB).cell 0 _ rfl), fun vs lo hi wx hB hK => Out.asB (Out.of_run (by kernel_rfl)) hB30, fun vs lo hi wx hB hK => Out.load1 rfl agg_3 ((hb24.to hB).cell 0 _ rfl), fun vs lo hi wx hB hK => Out.load1 rfl agg_3 ((hb24.to hB).cell 1 _ rfl), fun vs lo hi wx hB hK => Out.asB (Out.of_run (by kernel_rfl)) hB31, fun vs lo hi wx hB hK => Out.load1 rfl agg_3 ((hb24.to hB).cell 1 _ rfl), fun vs lo hi wx hB hK => Out.load1 rfl agg_25 ((hb1_0.to hB).cell 1 _ rfl), trivial⟩) ?_
                rintro vs32 lo32 hi32 w32 hU32
                exact Rest.nil (GQ.sub [(1, .pointer (some ⟨(lo1 0), 0, none⟩)), (3, .int .i64 (i0 : Int)), (4, .pointer (some ⟨(lo17 5), 0, none⟩)), (45, .bool ((decide (((n.Links.getD i0 default).A) < (0 : Int))) || ((decide (((n.Links.getD i0 default).A) ≥ ((n.Links.getD i0 default).B))) || (decide (((n.Links.getD i0 default).B) ≥ (n.Boxes.length : Int))))))] (by (try simp only [hB30]); (try simp only [hB31]); kernel_rfl) (hQ29 _ hU32.1))
              · skip
                have hB31' := hB31
                try simp only [bs, within, l71In, isLabel] at hB31'
                refine GC.reg 18 [W (.pointer (some ⟨(lo17 5), 0, none⟩)), D (.int .i64 ((n.Links.getD i0 default).A)), D (.bool false), W (.bool false), W (.pointer (some ⟨(lo17 5), 0, none⟩)), D (.int .i64 ((n.Links.getD i0 default).A)), W (.pointer (some ⟨(lo17 5), 1, none⟩)), D (.int .i64 ((n.Links.getD i0 default).B)), D (.bool true), W (.bool true), W (.bool true), S, S, S, S, S, S, W (.bool true)] mixed (fun vs w => by kernel_rfl) (⟨fun vs lo hi wx hB hK => Out.load1 rfl agg_3 ((hb24.to hB).cell 0 _ rfl), fun vs lo hi wx hB hK => Out.asB (Out.of_run (by kernel_rfl)) hB30, fun vs lo hi wx hB hK => Out.load1 rfl agg_3 ((hb24.to hB).cell 0 _ rfl), fun vs lo hi wx hB hK => Out.load1 rfl agg_3 ((hb24.to hB).cell 1 _ rfl), fun vs lo hi wx hB hK => Out.asB (Out.of_run (by kernel_rfl)) hB31, trivial⟩) ?_
                rintro vs33 lo33 hi33 w33 hU33
                exact Rest.nil (GQ.sub [(1, .pointer (some ⟨(lo1 0), 0, none⟩)), (3, .int .i64 (i0 : Int)), (4, .pointer (some ⟨(lo17 5), 0, none⟩)), (45, .bool ((decide (((n.Links.getD i0 default).A) < (0 : Int))) || ((decide (((n.Links.getD i0 default).A) ≥ ((n.Links.getD i0 default).B))) || (decide (((n.Links.getD i0 default).B) ≥ (n.Boxes.length : Int))))))] (by (try simp only [hB30]); (try simp only [hB31]); kernel_rfl) (hQ29 _ hU33.1))
            · skip
              have hB30' := hB30
              try simp only [bs, within, l71In, isLabel] at hB30'
              refine GC.reg 18 [W (.pointer (some ⟨(lo17 5), 0, none⟩)), D (.int .i64 ((n.Links.getD i0 default).A)), D (.bool true), W (.bool true), S, S, S, S, S, W (.bool true), W (.bool true), S, S, S, S, S, S, W (.bool true)] mixed (fun vs w => by kernel_rfl) (⟨fun vs lo hi wx hB hK => Out.load1 rfl agg_3 ((hb24.to hB).cell 0 _ rfl), fun vs lo hi wx hB hK => Out.asB (Out.of_run (by kernel_rfl)) hB30, trivial⟩) ?_
              rintro vs34 lo34 hi34 w34 hU34
              exact Rest.nil (GQ.sub [(1, .pointer (some ⟨(lo1 0), 0, none⟩)), (3, .int .i64 (i0 : Int)), (4, .pointer (some ⟨(lo17 5), 0, none⟩)), (45, .bool ((decide (((n.Links.getD i0 default).A) < (0 : Int))) || ((decide (((n.Links.getD i0 default).A) ≥ ((n.Links.getD i0 default).B))) || (decide (((n.Links.getD i0 default).B) ≥ (n.Boxes.length : Int))))))] (by (try simp only [hB30]); kernel_rfl) (hQ29 _ hU34.1))
          · skip
            have e35 := btr e25 hE28
            replace hb1_0 := hb1_0.to hE28
            replace hb24 := hb24.to hE28
            have hw36 := chg_trb hw26 hE28
            refine GQ.on ?_
            refine GC.cond ((decide (((n.Links.getD i0 default).A) < (0 : Int))) || ((decide (((n.Links.getD i0 default).A) ≥ ((n.Links.getD i0 default).B))) || (decide (((n.Links.getD i0 default).B) ≥ (n.Boxes.length : Int))))) rfl (fun hc2 => ?_) (fun hc2 => ?_)
            · skip
              have hc2' := hc2
              try simp only [bs, within, l71In, isLabel] at hc2'
              refine GC.seq ?_
              refine GC.regW [W (.bool false)] [(2, .bool false)] mixed rfl (fun vs w => by kernel_rfl) rfl (fun vs => by kernel_rfl) ?_
              refine GQ.on ?_
              refine GC.ret ?_
              refine GQ.passRet ?_
              refine GQ.blockRet ?_
              refine GQ.passRet ?_
              refine GQ.passRet ?_
              refine GQ.blockRet ?_
              refine GQ.passRet ?_
              refine GQ.ret1 (.bool false) rfl rfl ?_
              exact ⟨_, rfl, congrArg (Value.bool) (cndF hc0 (finR (runL_ret hI0 (cndT hc1 (cndT hc2 rfl))) rfl)), e35⟩
            · skip
              have hc2' := hc2
              try simp only [bs, within, l71In, isLabel] at hc2'
              refine GC.skip ?_
              refine GQ.on ?_
              refine GC.seq ?_
              have hx_37 : n.Links[Int.toNat ((i0 : Int) - 1)]? = some (n.Links.getD (Int.toNat ((i0 : Int) - 1)) default) := getD_some (by omega)
              obtain ⟨ha_37, hb_37, cs_37, hl_37, hh_37, hr_37⟩ := h_n_Links.2.2 (Int.toNat ((i0 : Int) - 1)) (n.Links.getD (Int.toNat ((i0 : Int) - 1)) default) hx_37
              obtain rfl := hr_37
              refine GC.abs [(1, .pointer (some ⟨(lo1 0), 0, none⟩)), (3, .int .i64 (i0 : Int)), (83, .bool ((decide ((i0 : Int) > (0 : Int))) && ((decide (((n.Links.getD (Int.toNat ((i0 : Int) - 1)) default).A) > ((n.Links.getD i0 default).A))) || ((((n.Links.getD (Int.toNat ((i0 : Int) - 1)) default).A) == ((n.Links.getD i0 default).A)) && (decide (((n.Links.getD (Int.toNat ((i0 : Int) - 1)) default).B) ≥ ((n.Links.getD i0 default).B)))))))] (fun w' => Below w27.heap.size w27 w') (fun Q' hQ40 => ?_) (fun w38 hE39 => ?_)
              · skip
                cases hB41 : (decide ((i0 : Int) > (0 : Int)))
                · skip
                  have hB41' := hB41
                  try simp only [bs, within, l71In, isLabel] at hB41'
                  refine GC.reg 38 [W (.int .i64 (i0 : Int)), D (.bool false), W (.bool false), S, S, S, S, S, S, S, S, S, S, S, S, S, S, S, S, S, S, S, S, S, S, S, S, S, S, S, S, S, S, S, S, S, S, W (.bool false)] mixed (fun vs w => by kernel_rfl) (⟨fun vs lo hi wx hB hK => Out.asB (Out.of_run (by kernel_rfl)) hB41, trivial⟩) ?_
                  rintro vs42 lo42 hi42 w42 hU42
                  exact Rest.nil (GQ.sub [(1, .pointer (some ⟨(lo1 0), 0, none⟩)), (3, .int .i64 (i0 : Int)), (83, .bool ((decide ((i0 : Int) > (0 : Int))) && ((decide (((n.Links.getD (Int.toNat ((i0 : Int) - 1)) default).A) > ((n.Links.getD i0 default).A))) || ((((n.Links.getD (Int.toNat ((i0 : Int) - 1)) default).A) == ((n.Links.getD i0 default).A)) && (decide (((n.Links.getD (Int.toNat ((i0 : Int) - 1)) default).B) ≥ ((n.Links.getD i0 default).B)))))))] (by (try simp only [hB41]); kernel_rfl) (hQ40 _ hU42.1))
                · skip
                  have hB41' := hB41
                  try simp only [bs, within, l71In, isLabel] at hB41'
                  cases hB43 : (decide (((n.Links.getD (Int.toNat ((i0 : Int) - 1)) default).A) > ((n.Links.getD i0 default).A)))
                  · skip
                    have hB43' := hB43
                    try simp only [bs, within, l71In, isLabel] at hB43'
                    cases hB44 : (((n.Links.getD (Int.toNat ((i0 : Int) - 1)) default).A) == ((n.Links.getD i0 default).A))
                    · skip
                      have hB44' := hB44
                      try simp only [bs, within, l71In, isLabel] at hB44'
                      refine GC.reg 38 [W (.int .i64 (i0 : Int)), D (.bool true), W (.bool true), W (.pointer (some ⟨(lo1 0), 0, none⟩)), D (.slice a_n_Links n.Links.length c_n_Links), W (.int .i64 (i0 : Int)), D (.int .i64 ((i0 : Int) - 1)), D (.pointer (some ⟨(ab a_n_Links), ao a_n_Links + (Int.toNat ((i0 : Int) - 1)) * 2, none⟩)), W (.pointer (some ⟨(ab a_n_Links), ao a_n_Links + (Int.toNat ((i0 : Int) - 1)) * 2, none⟩)), D (.int .i64 ((n.Links.getD (Int.toNat ((i0 : Int) - 1)) default).A)), W (.pointer (some ⟨(lo17 5), 0, none⟩)), D (.int .i64 ((n.Links.getD i0 default).A)), D (.bool false), W (.bool false), W (.pointer (some ⟨(lo1 0), 0, none⟩)), D (.slice a_n_Links n.Links.length c_n_Links), W (.int .i64 (i0 : Int)), D (.int .i64 ((i0 : Int) - 1)), D (.pointer (some ⟨(ab a_n_Links), ao a_n_Links + (Int.toNat ((i0 : Int) - 1)) * 2, none⟩)), W (.pointer (some ⟨(ab a_n_Links), ao a_n_Links + (Int.toNat ((i0 : Int) - 1)) * 2, none⟩)), D (.int .i64 ((n.Links.getD (Int.toNat ((i0 : Int) - 1)) default).A)), W (.pointer (some ⟨(lo17 5), 0, none⟩)), D (.int .i64 ((n.Links.getD i0 default).A)), D (.bool false), W (.bool false), S, S, S, S, S, S, S, S, S, S, W (.bool false), W (.bool false), W (.bool false)] mixed (fun vs w => by kernel_rfl) (⟨fun vs lo hi wx hB hK => Out.asB (Out.of_run (by kernel_rfl)) hB41, fun vs lo hi wx hB hK => Out.load1 rfl agg_24 ((hb1_0.to hB).cell 0 _ rfl), fun vs lo hi wx hB hK => Out.subI rfl rfl (by omega) (by omega), fun vs lo hi wx hB hK => Out.idxE (Int.toNat ((i0 : Int) - 1)) rfl rfl (by omega) (ltg hx_37) ha_37 Try.underlying24 size_72, fun vs lo hi wx hB hK => Out.load1 rfl agg_3 ((hh_37.below hb_37 (btr e35 hB)) 0 _ rfl), fun vs lo hi wx hB hK => Out.load1 rfl agg_3 ((hb24.to hB).cell 0 _ rfl), fun vs lo hi wx hB hK => Out.asB (Out.of_run (by kernel_rfl)) hB43, fun vs lo hi wx hB hK => Out.load1 rfl agg_24 ((hb1_0.to hB).cell 0 _ rfl), fun vs lo hi wx hB hK => Out.subI rfl rfl (by omega) (by omega), fun vs lo hi wx hB hK => Out.idxE (Int.toNat ((i0 : Int) - 1)) rfl rfl (by omega) (ltg hx_37) ha_37 Try.underlying24 size_72, fun vs lo hi wx hB hK => Out.load1 rfl agg_3 ((hh_37.below hb_37 (btr e35 hB)) 0 _ rfl), fun vs lo hi wx hB hK => Out.load1 rfl agg_3 ((hb24.to hB).cell 0 _ rfl), fun vs lo hi wx hB hK => Out.asB (Out.of_run (by kernel_rfl)) hB44, trivial⟩) ?_
                      rintro vs45 lo45 hi45 w45 hU45
                      exact Rest.nil (GQ.sub [(1, .pointer (some ⟨(lo1 0), 0, none⟩)), (3, .int .i64 (i0 : Int)), (83, .bool ((decide ((i0 : Int) > (0 : Int))) && ((decide (((n.Links.getD (Int.toNat ((i0 : Int) - 1)) default).A) > ((n.Links.getD i0 default).A))) || ((((n.Links.getD (Int.toNat ((i0 : Int) - 1)) default).A) == ((n.Links.getD i0 default).A)) && (decide (((n.Links.getD (Int.toNat ((i0 : Int) - 1)) default).B) ≥ ((n.Links.getD i0 default).B)))))))] (by (try simp only [hB41]); (try simp only [hB43]); (try simp only [hB44]); kernel_rfl) (hQ40 _ hU45.1))
                    · skip
                      have hB44' := hB44
                      try simp only [bs, within, l71In, isLabel] at hB44'
                      refine GC.reg 38 [W (.int .i64 (i0 : Int)), D (.bool true), W (.bool true), W (.pointer (some ⟨(lo1 0), 0, none⟩)), D (.slice a_n_Links n.Links.length c_n_Links), W (.int .i64 (i0 : Int)), D (.int .i64 ((i0 : Int) - 1)), D (.pointer (some ⟨(ab a_n_Links), ao a_n_Links + (Int.toNat ((i0 : Int) - 1)) * 2, none⟩)), W (.pointer (some ⟨(ab a_n_Links), ao a_n_Links + (Int.toNat ((i0 : Int) - 1)) * 2, none⟩)), D (.int .i64 ((n.Links.getD (Int.toNat ((i0 : Int) - 1)) default).A)), W (.pointer (some ⟨(lo17 5), 0, none⟩)), D (.int .i64 ((n.Links.getD i0 default).A)), D (.bool false), W (.bool false), W (.pointer (some ⟨(lo1 0), 0, none⟩)), D (.slice a_n_Links n.Links.length c_n_Links), W (.int .i64 (i0 : Int)), D (.int .i64 ((i0 : Int) - 1)), D (.pointer (some ⟨(ab a_n_Links), ao a_n_Links + (Int.toNat ((i0 : Int) - 1)) * 2, none⟩)), W (.pointer (some ⟨(ab a_n_Links), ao a_n_Links + (Int.toNat ((i0 : Int) - 1)) * 2, none⟩)), D (.int .i64 ((n.Links.getD (Int.toNat ((i0 : Int) - 1)) default).A)), W (.pointer (some ⟨(lo17 5), 0, none⟩)), D (.int .i64 ((n.Links.getD i0 default).A)), D (.bool true), W (.bool true), W (.pointer (some ⟨(lo1 0), 0, none⟩)), D (.slice a_n_Links n.Links.length c_n_Links), W (.int .i64 (i0 : Int)), D (.int .i64 ((i0 : Int) - 1)), D (.pointer (some ⟨(ab a_n_Links), ao a_n_Links + (Int.toNat ((i0 : Int) - 1)) * 2, none⟩)), W (.pointer (some ⟨(ab a_n_Links), ao a_n_Links + (Int.toNat ((i0 : Int) - 1)) * 2 + 1, none⟩)), D (.int .i64 ((n.Links.getD (Int.toNat ((i0 : Int) - 1)) default).B)), W (.pointer (some ⟨(lo17 5), 1, none⟩)), D (.int .i64 ((n.Links.getD i0 default).B)), W (.bool (decide (((n.Links.getD (Int.toNat ((i0 : Int) - 1)) default).B) ≥ ((n.Links.getD i0 default).B)))), W (.bool (decide (((n.Links.getD (Int.toNat ((i0 : Int) - 1)) default).B) ≥ ((n.Links.getD i0 default).B)))), W (.bool (decide (((n.Links.getD (Int.toNat ((i0 : Int) - 1)) default).B) ≥ ((n.Links.getD i0 default).B)))), W (.bool (decide (((n.Links.getD (Int.toNat ((i0 : Int) - 1)) default).B) ≥ ((n.Links.getD i0 default).B))))] mixed (fun vs w => by kernel_rfl) (⟨fun vs lo hi wx hB hK => Out.asB (Out.of_run (by kernel_rfl)) hB41, fun vs lo hi wx hB hK => Out.load1 rfl agg_24 ((hb1_0.to hB).cell 0 _ rfl), fun vs lo hi wx hB hK => Out.subI rfl rfl (by omega) (by omega), fun vs lo hi wx hB hK => Out.idxE (Int.toNat ((i0 : Int) - 1)) rfl rfl (by omega) (ltg hx_37) ha_37 Try.underlying24 size_72, fun vs lo hi wx hB hK => Out.load1 rfl agg_3 ((hh_37.below hb_37 (btr e35 hB)) 0 _ rfl), fun vs lo hi wx hB hK => Out.load1 rfl agg_3 ((hb24.to hB).cell 0 _ rfl), fun vs lo hi wx hB hK => Out.asB (Out.of_run (by kernel_rfl)) hB43, fun vs lo hi wx hB hK => Out.load1 rfl agg_24 ((hb1_0.to hB).cell 0 _ rfl), fun vs lo hi wx hB hK => Out.subI rfl rfl (by omega) (by omega), fun vs lo hi wx hB hK => Out.idxE (Int.toNat ((i0 : Int) - 1)) rfl rfl (by omega) (ltg hx_37) ha_37 Try.underlying24 size_72, fun vs lo hi wx hB hK => Out.load1 rfl agg_3 ((hh_37.below hb_37 (btr e35 hB)) 0 _ rfl), fun vs lo hi wx hB hK => Out.load1 rfl agg_3 ((hb24.to hB).cell 0 _ rfl), fun vs lo hi wx hB hK => Out.asB (Out.of_run (by kernel_rfl)) hB44, fun vs lo hi wx hB hK => Out.load1 rfl agg_24 ((hb1_0.to hB).cell 0 _ rfl), fun vs lo hi wx hB hK => Out.subI rfl rfl (by omega) (by omega), fun vs lo hi wx hB hK => Out.idxE (Int.toNat ((i0 : Int) - 1)) rfl rfl (by omega) (ltg hx_37) ha_37 Try.underlying24 size_72, fun vs lo hi wx hB hK => Out.load1 rfl agg_3 ((hh_37.below hb_37 (btr e35 hB)) 1 _ rfl), fun vs lo hi wx hB hK => Out.load1 rfl agg_3 ((hb24.to hB).cell 1 _ rfl), trivial⟩) ?_
                      rintro vs46 lo46 hi46 w46 hU46
                      exact Rest.nil (GQ.sub [(1, .pointer (some ⟨(lo1 0), 0, none⟩)), (3, .int .i64 (i0 : Int)), (83, .bool ((decide ((i0 : Int) > (0 : Int))) && ((decide (((n.Links.getD (Int.toNat ((i0 : Int) - 1)) default).A) > ((n.Links.getD i0 default).A))) || ((((n.Links.getD (Int.toNat ((i0 : Int) - 1)) default).A) == ((n.Links.getD i0 default).A)) && (decide (((n.Links.getD (Int.toNat ((i0 : Int) - 1)) default).B) ≥ ((n.Links.getD i0 default).B)))))))] (by (try simp only [hB41]); (try simp only [hB43]); (try simp only [hB44]); kernel_rfl) (hQ40 _ hU46.1))
                  · skip
                    have hB43' := hB43
                    try simp only [bs, within, l71In, isLabel] at hB43'
                    refine GC.reg 38 [W (.int .i64 (i0 : Int)), D (.bool true), W (.bool true), W (.pointer (some ⟨(lo1 0), 0, none⟩)), D (.slice a_n_Links n.Links.length c_n_Links), W (.int .i64 (i0 : Int)), D (.int .i64 ((i0 : Int) - 1)), D (.pointer (some ⟨(ab a_n_Links), ao a_n_Links + (Int.toNat ((i0 : Int) - 1)) * 2, none⟩)), W (.pointer (some ⟨(ab a_n_Links), ao a_n_Links + (Int.toNat ((i0 : Int) - 1)) * 2, none⟩)), D (.int .i64 ((n.Links.getD (Int.toNat ((i0 : Int) - 1)) default).A)), W (.pointer (some ⟨(lo17 5), 0, none⟩)), D (.int .i64 ((n.Links.getD i0 default).A)), D (.bool true), W (.bool true), S, S, S, S, S, S, S, S, S, S, S, S, S, S, S, S, S, S, S, S, S, S, W (.bool true), W (.bool true)] mixed (fun vs w => by kernel_rfl) (⟨fun vs lo hi wx hB hK => Out.asB (Out.of_run (by kernel_rfl)) hB41, fun vs lo hi wx hB hK => Out.load1 rfl agg_24 ((hb1_0.to hB).cell 0 _ rfl), fun vs lo hi wx hB hK => Out.subI rfl rfl (by omega) (by omega), fun vs lo hi wx hB hK => Out.idxE (Int.toNat ((i0 : Int) - 1)) rfl rfl (by omega) (ltg hx_37) ha_37 Try.underlying24 size_72, fun vs lo hi wx hB hK => Out.load1 rfl agg_3 ((hh_37.below hb_37 (btr e35 hB)) 0 _ rfl), fun vs lo hi wx hB hK => Out.load1 rfl agg_3 ((hb24.to hB).cell 0 _ rfl), fun vs lo hi wx hB hK => Out.asB (Out.of_run (by kernel_rfl)) hB43, trivial⟩) ?_
                    rintro vs47 lo47 hi47 w47 hU47
                    exact Rest.nil (GQ.sub [(1, .pointer (some ⟨(lo1 0), 0, none⟩)), (3, .int .i64 (i0 : Int)), (83, .bool ((decide ((i0 : Int) > (0 : Int))) && ((decide (((n.Links.getD (Int.toNat ((i0 : Int) - 1)) default).A) > ((n.Links.getD i0 default).A))) || ((((n.Links.getD (Int.toNat ((i0 : Int) - 1)) default).A) == ((n.Links.getD i0 default).A)) && (decide (((n.Links.getD (Int.toNat ((i0 : Int) - 1)) default).B) ≥ ((n.Links.getD i0 default).B)))))))] (by (try simp only [hB41]); (try simp only [hB43]); kernel_rfl) (hQ40 _ hU47.1))
              · skip
                have e48 := btr e35 hE39
                replace hb1_0 := hb1_0.to hE39
                replace hb24 := hb24.to hE39
                have hw49 := chg_trb hw36 hE39
                refine GQ.on ?_
                refine GC.cond ((decide ((i0 : Int) > (0 : Int))) && ((decide (((n.Links.getD (Int.toNat ((i0 : Int) - 1)) default).A) > ((n.Links.getD i0 default).A))) || ((((n.Links.getD (Int.toNat ((i0 : Int) - 1)) default).A) == ((n.Links.getD i0 default).A)) && (decide (((n.Links.getD (Int.toNat ((i0 : Int) - 1)) default).B) ≥ ((n.Links.getD i0 default).B)))))) rfl (fun hc3 => ?_) (fun hc3 => ?_)
                · skip
                  have hc3' := hc3
                  try simp only [bs, within, l71In, isLabel] at hc3'
                  refine GC.seq ?_
                  refine GC.regW [W (.bool false)] [(2, .bool false)] mixed rfl (fun vs w => by kernel_rfl) rfl (fun vs => by kernel_rfl) ?_
                  refine GQ.on ?_
                  refine GC.ret ?_
                  refine GQ.blockRet ?_
                  refine GQ.passRet ?_
                  refine GQ.passRet ?_
                  refine GQ.blockRet ?_
                  refine GQ.passRet ?_
                  refine GQ.ret1 (.bool false) rfl rfl ?_
                  exact ⟨_, rfl, congrArg (Value.bool) (cndF hc0 (finR (runL_ret hI0 (cndT hc1 (cndF hc2 (cndT hc3 rfl)))) rfl)), e48⟩
                · skip
                  have hc3' := hc3
                  try simp only [bs, within, l71In, isLabel] at hc3'
                  refine GC.skip ?_
                  refine GQ.blockEnd ?_
                  refine GQ.on ?_
                  refine GC.reg 3 [W (.int .i64 (i0 : Int)), D (.int .i64 ((i0 : Int) + 1)), W (.int .i64 ((i0 : Int) + 1))] mixed (fun vs w => by kernel_rfl) (⟨fun vs lo hi wx hB hK => Out.add rfl rfl (by omega) (by omega), trivial⟩) ?_
                  rintro vs50 lo50 hi50 w50 hU50
                  have e51 := btr e48 hU50.1
                  replace hb1_0 := hb1_0.to hU50.1
                  replace hb24 := hb24.to hU50.1
                  have hw52 := chg_trb hw49 hU50.1
                  refine Rest.nil (GQ.sub [(1, .pointer (some ⟨(lo1 0), 0, none⟩)), (3, .int .i64 ((i0 : Int) + 1))] (by kernel_rfl) ?_)
                  exact GQ.next (m, i0 + 1) (by kernel_rfl) ⟨hw52, runL_next hI0 (cndT hc1 (cndF hc2 (cndF hc3 rfl))), (by omega)⟩ (Nat.lt_succ_self _)
        · skip
          have hc1' := hc1
          try simp only [bs, within, l71In, isLabel] at hc1'
          refine GC.exit ?_
          refine GQ.pass ?_
          refine GQ.pass ?_
          refine GQ.blockOut ?_
          exact GQ.sub [] (by kernel_rfl) (hq0 i0 _ ⟨hw15, runL_done hI0 (cndF hc1 rfl), hc1⟩)
      · skip
        rintro i0 w53 ⟨hw54, hD0, hx0_0⟩
        have e55 := chg_below e9 (Nat.le_refl _) hw54 (fun _ h => h.elim)
        replace hb1_0 := hb1_0.chg hw54 (fun h => h)
        have hx0_0' := hx0_0
        try simp only [bs, within, l71In, isLabel] at hx0_0'
        refine GQ.on ?_
        refine GC.seq ?_
        refine GC.regW [W (.bool true)] [(2, .bool true)] mixed rfl (fun vs w => by kernel_rfl) rfl (fun vs => by kernel_rfl) ?_
        refine GQ.on ?_
        refine GC.ret ?_
        refine GQ.ret1 (.bool true) rfl rfl ?_
        exact ⟨_, rfl, congrArg (Value.bool) (cndF hc0 (finD hD0 rfl)), e55⟩
def f_spec_l71Link_s0 (n : LabNet) (a : Int) (b : Int) : Nat → Lp Nat Int := fun i0 => bif (decide ((i0 : Int) < (n.Links.length : Int))) then (bif (bif (((n.Links.getD i0 default).A) == a) then ((((n.Links.getD i0 default).B) == b) || ((((n.Links.getD i0 default).A) == b) && (((n.Links.getD i0 default).B) == a))) else ((((n.Links.getD i0 default).A) == b) && (((n.Links.getD i0 default).B) == a))) then (Lp.ret (i0 : Int)) else (Lp.next (i0 + 1))) else (Lp.done i0)
def f_spec_l71Link (n : LabNet) (a : Int) (b : Int) : Int := Lp.fin (runL (f_spec_l71Link_s0 n a b) ((Int.toNat ((n.Links.length : Int) - (0 : Int))) + 1) 0) id (fun i0 => -1)
/-- spec.l71Link -/
theorem c_spec_l71Link (w : World) (n : LabNet) (cs_n : List Value) (h_n : rpLabNet.rd w cs_n n) (a : Int) (b : Int) :
    Calls Try.prog 64 #[.agg cs_n.toArray, .int .i64 a, .int .i64 b] w fun e w' => ∃ rv, e = .returned rv ∧ (rv = .int .i64 (f_spec_l71Link n a b) ∧ Below w.heap.size w w') := by
  obtain ⟨a_n_Links, c_n_Links, a_n_Boxes, c_n_Boxes, rfl, h_n_Links, h_n_Boxes⟩ := h_n
  have lh_n_Links := h_n_Links.2.1
  have lh_n_Boxes := h_n_Boxes.2.1
  refine enter [(0, .agg #[.slice a_n_Links n.Links.length c_n_Links, .slice a_n_Boxes n.Boxes.length c_n_Boxes]), (1, .int .i64 a), (2, .int .i64 b)] Try.func64 rfl (by kernel_rfl) (by kernel_rfl) ?_
  have e0 := brefl w
  refine GC.seq ?_
  refine GC.reg 2 [RB 0 27 [.slice a_n_Links n.Links.length c_n_Links, .slice a_n_Boxes n.Boxes.length c_n_Boxes], W (.int .i64 0)] mixed (fun vs w => by kernel_rfl) (⟨fun vs lo hi wx hB hK => Out.box rfl, trivial⟩) ?_
  rintro vs1 lo1 hi1 w1 hU1
  have e2 := btr e0 hU1.1
  obtain ⟨⟨hv1_0, hp1_0, hb1_0⟩, hl1_0, -, -⟩ := hU1.2.1 0 _ rfl trivial
  have hl1_0b := Nat.le_trans e0.size hl1_0
  refine Rest.nil (GQ.sub [(1, .int .i64 a), (2, .int .i64 b), (3, .pointer (some ⟨(lo1 0), 0, none⟩))] (by rw [← hv1_0]; kernel_rfl) ?_)
  refine GQ.on ?_
  refine GC.seq ?_
  refine GC.seq ?_
  refine GC.regW [W (.int .i64 0)] [(1, .int .i64 a), (2, .int .i64 b), (3, .pointer (some ⟨(lo1 0), 0, none⟩)), (7, .int .i64 0)] mixed rfl (fun vs w => by kernel_rfl) rfl (fun vs => by kernel_rfl) ?_
  refine GQ.on ?_
  refine GC.join (ι := Nat) (fun i => []) (fun i w' => Chg (fun _ : Nat => False) w1 w' ∧ (runL (f_spec_l71Link_s0 n a b) ((Int.toNat ((n.Links.length : Int) - (0 : Int))) + 1) 0) = Lp.done i ∧ (decide ((i : Int) < (n.Links.length : Int))) = false) (fun hq0 => ?_) ?_
  · skip
    refine GC.block ?_
    refine GC.loop (ι := Nat × Nat) (fun i => [(1, .int .i64 a), (2, .int .i64 b), (3, .pointer (some ⟨(lo1 0), 0, none⟩)), (7, .int .i64 (i.2 : Int))]) (fun i w' => Chg (fun _ : Nat => False) w1 w' ∧ runL (f_spec_l71Link_s0 n a b) i.1 i.2 = (runL (f_spec_l71Link_s0 n a b) ((Int.toNat ((n.Links.length : Int) - (0 : Int))) + 1) 0) ∧ Int.toNat ((n.Links.length : Int) - (i.2 : Int)) < i.1) (fun i => i.1) (((Int.toNat ((n.Links.length : Int) - (0 : Int))) + 1), 0) (by kernel_rfl) ⟨chg_refl _ _, rfl, Nat.lt_succ_self _⟩ ?_
    rintro ⟨m, i0⟩ w3 ⟨hw4, hI0, hm0⟩
    obtain ⟨m, rfl⟩ := prev_of_lt hm0
    have e5 := chg_below e2 (Nat.le_refl _) hw4 (fun _ h => h.elim)
    replace hb1_0 := hb1_0.chg hw4 (fun h => h)
    refine GC.seq ?_
    refine GC.seq ?_
    refine GC.reg 5 [W (.int .i64 (i0 : Int)), W (.pointer (some ⟨(lo1 0), 0, none⟩)), D (.slice a_n_Links n.Links.length c_n_Links), W (.int .i64 (n.Links.length : Int)), W (.bool (decide ((i0 : Int) < (n.Links.length : Int))))] mixed (fun vs w => by kernel_rfl) (⟨fun vs lo hi wx hB hK => Out.load1 rfl agg_24 ((hb1_0.to hB).cell 0 _ rfl), trivial⟩) ?_
    rintro vs6 lo6 hi6 w6 hU6
    have e7 := btr e5 hU6.1
    replace hb1_0 := hb1_0.to hU6.1
    have hw8 := chg_trb hw4 hU6.1
    refine Rest.nil (GQ.sub [(1, .int .i64 a), (2, .int .i64 b), (3, .pointer (some ⟨(lo1 0), 0, none⟩)), (7, .int .i64 (i0 : Int)), (13, .bool (decide ((i0 : Int) < (n.Links.length : Int))))] (by kernel_rfl) ?_)
    refine GQ.on ?_
    refine GC.cond (decide ((i0 : Int) < (n.Links.length : Int))) rfl (fun hc0 => ?_) (fun hc0 => ?_)
    · skip
      have hc0' := hc0
      try simp only [bs, within, l71In, isLabel] at hc0'
      refine GC.skip ?_
      refine GQ.on ?_
      refine GC.seq ?_
      refine GC.block ?_
      refine GC.seq ?_
      have hx_9 : n.Links[i0]? = some (n.Links.getD i0 default) := getD_some (by omega)
      obtain ⟨ha_9, hb_9, cs_9, hl_9, hh_9, hr_9⟩ := h_n_Links.2.2 i0 (n.Links.getD i0 default) hx_9
      obtain rfl := hr_9
      refine GC.reg 6 [W (.pointer (some ⟨(lo1 0), 0, none⟩)), D (.slice a_n_Links n.Links.length c_n_Links), W (.int .i64 (i0 : Int)), D (.pointer (some ⟨(ab a_n_Links), ao a_n_Links + i0 * 2, none⟩)), D (.agg #[.int .i64 ((n.Links.getD i0 default).A), .int .i64 ((n.Links.getD i0 default).B)]), RB 5 72 [.int .i64 0, .int .i64 0]] mixed (fun vs w => by kernel_rfl) (⟨fun vs lo hi wx hB hK => Out.load1 rfl agg_24 ((hb1_0.to hB).cell 0 _ rfl), fun vs lo hi wx hB hK => Out.idxS i0 rfl rfl (ltg hx_9) ha_9 Try.underlying24 size_72, fun vs lo hi wx hB hK => Out.loadA rfl agg_72 size_72 ((hh_9.below hb_9 (btr e7 hB)).sub 0 _ rfl), fun vs lo hi wx hB hK => Out.alloc (z := .agg #[.int .i64 0, .int .i64 0]) (by kernel_rfl) rfl, trivial⟩) ?_
      rintro vs10 lo10 hi10 w10 hU10
      have hlt11 := hb1_0.lt
      have e12 := btr e7 hU10.1
      replace hb1_0 := hb1_0.to hU10.1
      have hw13 := chg_trb hw8 hU10.1
      obtain ⟨⟨hv10_5, hp10_5, hb10_5⟩, hl10_5, -, -⟩ := hU10.2.1 5 _ rfl trivial
      have hne14 := Nat.ne_of_lt (Nat.lt_of_lt_of_le hlt11 hl10_5)
      have hl10_5w := Nat.le_trans hw8.size hl10_5
      have hl10_5b := Nat.le_trans e7.size hl10_5
      refine Rest.sub [(1, .int .i64 a), (2, .int .i64 b), (3, .pointer (some ⟨(lo1 0), 0, none⟩)), (7, .int .i64 (i0 : Int)), (8, .pointer (some ⟨(lo10 5), 0, none⟩)), (20, .agg #[.int .i64 ((n.Links.getD i0 default).A), .int .i64 ((n.Links.getD i0 default).B)])] (by rw [← hv10_5]; kernel_rfl) ?_
      refine Rest.store [.int .i64 ((n.Links.getD i0 default).A), .int .i64 ((n.Links.getD i0 default).B)] [.int .i64 ((n.Links.getD i0 default).A), .int .i64 ((n.Links.getD i0 default).B)] rfl rfl hb10_5 size_72 rfl rfl rfl ?_
      intro w15 hC16 hb17
      have e18 := bchg1 e12 (Nat.le_refl _) hC16 hl10_5b
      have hw19 := chg_tr1 hw13 hC16 (.inl hl10_5w)
      replace hb1_0 := hb1_0.chg hC16 hne14
      refine Rest.nil (GQ.sub [(1, .int .i64 a), (2, .int .i64 b), (3, .pointer (some ⟨(lo1 0), 0, none⟩)), (7, .int .i64 (i0 : Int)), (8, .pointer (some ⟨(lo10 5), 0, none⟩))] (by kernel_rfl) ?_)
      refine GQ.on ?_
      refine GC.seq ?_
      refine GC.abs [(1, .int .i64 a), (2, .int .i64 b), (3, .pointer (some ⟨(lo1 0), 0, none⟩)), (7, .int .i64 (i0 : Int)), (42, .bool (bif (((n.Links.getD i0 default).A) == a) then ((((n.Links.getD i0 default).B) == b) || ((((n.Links.getD i0 default).A) == b) && (((n.Links.getD i0 default).B) == a))) else ((((n.Links.getD i0 default).A) == b) && (((n.Links.getD i0 default).B) == a))))] (fun w' => Below w15.heap.size w15 w') (fun Q' hQ22 => ?_) (fun w20 hE21 => ?_)
      · skip
        cases hB23 : (((n.Links.getD i0 default).A) == a)
        · skip
          have hB23' := hB23
          try simp only [bs, within, l71In, isLabel] at hB23'
          cases hB24 : (((n.Links.getD i0 default).A) == b)
          · skip
            have hB24' := hB24
            try simp only [bs, within, l71In, isLabel] at hB24'
            refine GC.reg 22 [W (.pointer (some ⟨(lo10 5), 0, none⟩)), D (.int .i64 ((n.Links.getD i0 default).A)), W (.int .i64 a), D (.bool false), W (.bool false), S, S, S, S, W (.bool false), W (.bool false), W (.pointer (some ⟨(lo10 5), 0, none⟩)), D (.int .i64 ((n.Links.getD i0 default).A)), W (.int .i64 b), D (.bool false), W (.bool false), S, S, S, S, W (.bool false), W (.bool false)] mixed (fun vs w => by kernel_rfl) (⟨fun vs lo hi wx hB hK => Out.load1 rfl agg_3 ((hb17.to hB).cell 0 _ rfl), fun vs lo hi wx hB hK => Out.asB (Out.of_run (by kernel_rfl)) hB23, fun vs lo hi wx hB hK => Out.load1 rfl agg_3 ((hb17.to hB).cell 0 _ rfl), fun vs lo hi wx hB hK => Out.asB (Out.of_run (by kernel_rfl)) hB24, trivial⟩) ?_
            rintro vs25 lo25 hi25 w25 hU25
            exact Rest.nil (GQ.sub [(1, .int .i64 a), (2, .int .i64 b), (3, .pointer (some ⟨(lo1 0), 0, none⟩)), (7, .int .i64 (i0 : Int)), (42, .bool (bif (((n.Links.getD i0 default).A) == a) then ((((n.Links.getD i0 default).B) == b) || ((((n.Links.getD i0 default).A) == b) && (((n.Links.getD i0 default).B) == a))) else ((((n.Links.getD i0 default).A) == b) && (((n.Links.getD i0 default).B) == a))))] (by (try simp only [hB23]); (try simp only [hB24]); kernel_rfl) (hQ22 _ hU25.1))
          · skip
            have hB24' := hB24
            try simp only [bs, within, l71In, isLabel] at hB24'
            refine GC.reg 22 [W (.pointer (some ⟨(lo10 5), 0, none⟩)), D (.int .i64 ((n.Links.getD i0 default).A)), W (.int .i64 a), D (.bool false), W (.bool false), S, S, S, S, W (.bool false), W (.bool false), W (.pointer (some ⟨(lo10 5), 0, none⟩)), D (.int .i64 ((n.Links.getD i0 default).A)), W (.int .i64 b), D (.bool true), W (.bool true), W (.pointer (some ⟨(lo10 5), 1, none⟩)), D (.int .i64 ((n.Links.getD i0 default).B)), W (.int .i64 a), W (.bool (((n.Links.getD i0 default).B) == a)), W (.bool (((n.Links.getD i0 default).B) == a)), W (.bool (((n.Links.getD i0 default).B) == a))] mixed (fun vs w => by kernel_rfl) (⟨fun vs lo hi wx hB hK => Out.load1 rfl agg_3 ((hb17.to hB).cell 0 _ rfl), fun vs lo hi wx hB hK => Out.asB (Out.of_run (by kernel_rfl)) hB23, fun vs lo hi wx hB hK => Out.load1 rfl agg_3 ((hb17.to hB).cell 0 _ rfl), fun vs lo hi wx hB hK => Out.asB (Out.of_run (by kernel_rfl)) hB24, fun vs lo hi wx hB hK => Out.load1 rfl agg_3 ((hb17.to hB).cell 1 _ rfl), trivial⟩) ?_
            rintro vs26 lo26 hi26 w26 hU26
            exact Rest.nil (GQ.sub [(1, .int .i64 a), (2, .int .i64 b), (3, .pointer (some ⟨(lo1 0), 0, none⟩)), (7, .int .i64 (i0 : Int)), (42, .bool (bif (((n.Links.getD i0 default).A) == a) then ((((n.Links.getD i0 default).B) == b) || ((((n.Links.getD i0 default).A) == b) && (((n.Links.getD i0 default).B) == a))) else ((((n.Links.getD i0 default).A) == b) && (((n.Links.getD i0 default).B) == a))))] (by (try simp only [hB23]); (try simp only [hB24]); kernel_rfl) (hQ22 _ hU26.1))
        · skip
          have hB23' := hB23
          try simp only [bs, within, l71In, isLabel] at hB23'
          cases hB27 : (((n.Links.getD i0 default).B) == b)
          · skip
            have hB27' := hB27
            try simp only [bs, within, l71In, isLabel] at hB27'
            cases hB28 : (((n.Links.getD i0 default).A) == b)
            · skip
              have hB28' := hB28
              try simp only [bs, within, l71In, isLabel] at hB28'
              refine GC.reg 22 [W (.pointer (some ⟨(lo10 5), 0, none⟩)), D (.int .i64 ((n.Links.getD i0 default).A)), W (.int .i64 a), D (.bool true), W (.bool true), W (.pointer (some ⟨(lo10 5), 1, none⟩)), D (.int .i64 ((n.Links.getD i0 default).B)), W (.int .i64 b), D (.bool false), W (.bool false), W (.bool false), W (.pointer (some ⟨(lo10 5), 0, none⟩)), D (.int .i64 ((n.Links.getD i0 default).A)), W (.int .i64 b), D (.bool false), W (.bool false), S, S, S, S, W (.bool false), W (.bool false)] mixed (fun vs w => by kernel_rfl) (⟨fun vs lo hi wx hB hK => Out.load1 rfl agg_3 ((hb17.to hB).cell 0 _ rfl), fun vs lo hi wx hB hK => Out.asB (Out.of_run (by kernel_rfl)) hB23, fun vs lo hi wx hB hK => Out.load1 rfl agg_3 ((hb17.to hB).cell 1 _ rfl), fun vs lo hi wx hB hK => Out.asB (Out.of_run (by kernel_rfl)) hB27, fun vs lo hi wx hB hK => Out.load1 rfl agg_3 ((hb17.to hB).cell 0 _ rfl), fun vs lo hi wx hB hK => Out.asB (Out.of_run (by kernel_rfl)) hB28, trivial⟩) ?_
              rintro vs29 lo29 hi29 w29 hU29
              exact Rest.nil (GQ.sub [(1, .int .i64 a), (2, .int .i64 b), (3, .pointer (some ⟨(lo1 0), 0, none⟩)), (7, .int .i64 (i0 : Int)), (42, .bool (bif (((n.Links.getD i0 default).A) == a) then ((((n.Links.getD i0 default).B) == b) || ((((n.Links.getD i0 default).A) == b) && (((n.Links.getD i0 default).B) == a))) else ((((n.Links.getD i0 default).A) == b) && (((n.Links.getD i0 default).B) == a))))] (by (try simp only [hB23]); (try simp only [hB27]); (try simp only [hB28]); kernel_rfl) (hQ22 _ hU29.1))
            · skip
              have hB28' := hB28
              try simp only [bs, within, l71In, isLabel] at hB28'
              refine GC.reg 22 [W (.pointer (some ⟨(lo10 5), 0, none⟩)), D (.int .i64 ((n.Links.getD i0 default).A)), W (.int .i64 a), D (.bool true), W (.bool true), W (.pointer (some ⟨(lo10 5), 1, none⟩)), D (.int .i64 ((n.Links.getD i0 default).B)), W (.int .i64 b), D (.bool false), W (.bool false), W (.bool false), W (.pointer (some ⟨(lo10 5), 0, none⟩)), D (.int .i64 ((n.Links.getD i0 default).A)), W (.int .i64 b), D (.bool true), W (.bool true), W (.pointer (some ⟨(lo10 5), 1, none⟩)), D (.int .i64 ((n.Links.getD i0 default).B)), W (.int .i64 a), W (.bool (((n.Links.getD i0 default).B) == a)), W (.bool (((n.Links.getD i0 default).B) == a)), W (.bool (((n.Links.getD i0 default).B) == a))] mixed (fun vs w => by kernel_rfl) (⟨fun vs lo hi wx hB hK => Out.load1 rfl agg_3 ((hb17.to hB).cell 0 _ rfl), fun vs lo hi wx hB hK => Out.asB (Out.of_run (by kernel_rfl)) hB23, fun vs lo hi wx hB hK => Out.load1 rfl agg_3 ((hb17.to hB).cell 1 _ rfl), fun vs lo hi wx hB hK => Out.asB (Out.of_run (by kernel_rfl)) hB27, fun vs lo hi wx hB hK => Out.load1 rfl agg_3 ((hb17.to hB).cell 0 _ rfl), fun vs lo hi wx hB hK => Out.asB (Out.of_run (by kernel_rfl)) hB28, fun vs lo hi wx hB hK => Out.load1 rfl agg_3 ((hb17.to hB).cell 1 _ rfl), trivial⟩) ?_
              rintro vs30 lo30 hi30 w30 hU30
              exact Rest.nil (GQ.sub [(1, .int .i64 a), (2, .int .i64 b), (3, .pointer (some ⟨(lo1 0), 0, none⟩)), (7, .int .i64 (i0 : Int)), (42, .bool (bif (((n.Links.getD i0 default).A) == a) then ((((n.Links.getD i0 default).B) == b) || ((((n.Links.getD i0 default).A) == b) && (((n.Links.getD i0 default).B) == a))) else ((((n.Links.getD i0 default).A) == b) && (((n.Links.getD i0 default).B) == a))))] (by (try simp only [hB23]); (try simp only [hB27]); (try simp only [hB28]); kernel_rfl) (hQ22 _ hU30.1))
          · skip
            have hB27' := hB27
            try simp only [bs, within, l71In, isLabel] at hB27'
            refine GC.reg 22 [W (.pointer (some ⟨(lo10 5), 0, none⟩)), D (.int .i64 ((n.Links.getD i0 default).A)), W (.int .i64 a), D (.bool true), W (.bool true), W (.pointer (some ⟨(lo10 5), 1, none⟩)), D (.int .i64 ((n.Links.getD i0 default).B)), W (.int .i64 b), D (.bool true), W (.bool true), W (.bool true), S, S, S, S, S, S, S, S, S, S, W (.bool true)] mixed (fun vs w => by kernel_rfl) (⟨fun vs lo hi wx hB hK => Out.load1 rfl agg_3 ((hb17.to hB).cell 0 _ rfl), fun vs lo hi wx hB hK => Out.asB (Out.of_run (by kernel_rfl)) hB23, fun vs lo hi wx hB hK => Out.load1 rfl agg_3 ((hb17.to hB).cell 1 _ rfl), fun vs lo hi wx hB hK => Out.asB (Out.of_run (by kernel_rfl)) hB27, trivial⟩) ?_
            rintro vs31 lo31 hi31 w31 hU31
            exact Rest.nil (GQ.sub [(1, .int .i64 a), (2, .int .i64 b), (3, .pointer (some ⟨(lo1 0), 0, none⟩)), (7, .int .i64 (i0 : Int)), (42, .bool (bif (((n.Links.getD i0 default).A) == a) then ((((n.Links.getD i0 default).B) == b) || ((((n.Links.getD i0 default).A) == b) && (((n.Links.getD i0 default).B) == a))) else ((((n.Links.getD i0 default).A) == b) && (((n.Links.getD i0 default).B) == a))))] (by (try simp only [hB23]); (try simp only [hB27]); kernel_rfl) (hQ22 _ hU31.1))
      · skip
        have e32 := btr e18 hE21
        replace hb1_0 := hb1_0.to hE21
        replace hb17 := hb17.to hE21
        have hw33 := chg_trb hw19 hE21
        refine GQ.on ?_
        refine GC.cond (bif (((n.Links.getD i0 default).A) == a) then ((((n.Links.getD i0 default).B) == b) || ((((n.Links.getD i0 default).A) == b) && (((n.Links.getD i0 default).B) == a))) else ((((n.Links.getD i0 default).A) == b) && (((n.Links.getD i0 default).B) == a))) rfl (fun hc1 => ?_) (fun hc1 => ?_)
        · skip
          have hc1' := hc1
          try simp only [bs, within, l71In, isLabel] at hc1'
          refine GC.seq ?_
          refine GC.regW [W (.int .i64 (i0 : Int)), W (.int .i64 (i0 : Int))] [(6, .int .i64 (i0 : Int))] mixed rfl (fun vs w => by kernel_rfl) rfl (fun vs => by kernel_rfl) ?_
          refine GQ.on ?_
          refine GC.ret ?_
          refine GQ.blockRet ?_
          refine GQ.passRet ?_
          refine GQ.passRet ?_
          refine GQ.blockRet ?_
          refine GQ.passRet ?_
          refine GQ.ret1 (.int .i64 (i0 : Int)) rfl rfl ?_
          exact ⟨_, rfl, congrArg (Value.int .i64) (finR (runL_ret hI0 (cndT hc0 (cndT hc1 rfl))) rfl), e32⟩
        · skip
          have hc1' := hc1
          try simp only [bs, within, l71In, isLabel] at hc1'
          refine GC.skip ?_
          refine GQ.blockEnd ?_
          refine GQ.on ?_
          refine GC.reg 3 [W (.int .i64 (i0 : Int)), D (.int .i64 ((i0 : Int) + 1)), W (.int .i64 ((i0 : Int) + 1))] mixed (fun vs w => by kernel_rfl) (⟨fun vs lo hi wx hB hK => Out.add rfl rfl (by omega) (by omega), trivial⟩) ?_
          rintro vs34 lo34 hi34 w34 hU34
          have e35 := btr e32 hU34.1
          replace hb1_0 := hb1_0.to hU34.1
          replace hb17 := hb17.to hU34.1
          have hw36 := chg_trb hw33 hU34.1
          refine Rest.nil (GQ.sub [(1, .int .i64 a), (2, .int .i64 b), (3, .pointer (some ⟨(lo1 0), 0, none⟩)), (7, .int .i64 ((i0 : Int) + 1))] (by kernel_rfl) ?_)
          exact GQ.next (m, i0 + 1) (by kernel_rfl) ⟨hw36, runL_next hI0 (cndT hc0 (cndF hc1 rfl)), (by omega)⟩ (Nat.lt_succ_self _)
    · skip
      have hc0' := hc0
      try simp only [bs, within, l71In, isLabel] at hc0'
      refine GC.exit ?_
      refine GQ.pass ?_
      refine GQ.pass ?_
      refine GQ.blockOut ?_
      exact GQ.sub [] (by kernel_rfl) (hq0 i0 _ ⟨hw8, runL_done hI0 (cndF hc0 rfl), hc0⟩)
  · skip
    rintro i0 w37 ⟨hw38, hD0, hx0_0⟩
    have e39 := chg_below e2 (Nat.le_refl _) hw38 (fun _ h => h.elim)
    replace hb1_0 := hb1_0.chg hw38 (fun h => h)
    have hx0_0' := hx0_0
    try simp only [bs, within, l71In, isLabel] at hx0_0'
    refine GQ.on ?_
    refine GC.seq ?_
    refine GC.regW [W (.int .i64 (-1))] [(6, .int .i64 (-1))] mixed rfl (fun vs w => by kernel_rfl) rfl (fun vs => by kernel_rfl) ?_
    refine GQ.on ?_
    refine GC.ret ?_
    refine GQ.ret1 (.int .i64 (-1)) rfl rfl ?_
    exact ⟨_, rfl, congrArg (Value.int .i64) (finD hD0 rfl), e39⟩
def f_spec_l71RowOk (n : LabNet) (box : Int) (r : LabRow) : Bool := bif (!(l71In r.In 1 60)) then false else (bif (r.Next == (-1 : Int)) then (r.Out == (0 : Int)) else ((decide ((f_spec_l71Link n box r.Next) ≥ (0 : Int))) && (l71In r.Out 1 60)))
/-- spec.l71RowOk -/
theorem c_spec_l71RowOk (w : World) (n : LabNet) (cs_n : List Value) (h_n : rpLabNet.rd w cs_n n) (box : Int) (r : LabRow) (cs_r : List Value) (h_r : rpLabRow.rd w cs_r r) :
    Calls Try.prog 96 #[.agg cs_n.toArray, .int .i64 box, .agg cs_r.toArray] w fun e w' => ∃ rv, e = .returned rv ∧ (rv = .bool (f_spec_l71RowOk n box r) ∧ Below w.heap.size w w') := by
  obtain ⟨a_n_Links, c_n_Links, a_n_Boxes, c_n_Boxes, rfl, h_n_Links, h_n_Boxes⟩ := h_n
  have lh_n_Links := h_n_Links.2.1
  have lh_n_Boxes := h_n_Boxes.2.1
  obtain rfl := h_r
  refine enter [(0, .agg #[.slice a_n_Links n.Links.length c_n_Links, .slice a_n_Boxes n.Boxes.length c_n_Boxes]), (1, .int .i64 box), (2, .agg #[.int .i64 r.In, .int .i64 r.Next, .int .i64 r.Out])] Try.func96 rfl (by kernel_rfl) (by kernel_rfl) ?_
  have e0 := brefl w
  refine GC.seq ?_
  refine GC.reg 3 [RB 0 27 [.slice a_n_Links n.Links.length c_n_Links, .slice a_n_Boxes n.Boxes.length c_n_Boxes], RB 1 92 [.int .i64 r.In, .int .i64 r.Next, .int .i64 r.Out], W (.bool false)] mixed (fun vs w => by kernel_rfl) (⟨fun vs lo hi wx hB hK => Out.box rfl, fun vs lo hi wx hB hK => Out.box rfl, trivial⟩) ?_
  rintro vs1 lo1 hi1 w1 hU1
  have e2 := btr e0 hU1.1
  obtain ⟨⟨hv1_0, hp1_0, hb1_0⟩, hl1_0, -, -⟩ := hU1.2.1 0 _ rfl trivial
  have hl1_0b := Nat.le_trans e0.size hl1_0
  obtain ⟨⟨hv1_1, hp1_1, hb1_1⟩, hl1_1, -, -⟩ := hU1.2.1 1 _ rfl trivial
  have hne3 := hU1.ne 0 1 rfl rfl trivial trivial (by decide) hp1_0 hp1_1
  have hl1_1b := Nat.le_trans e0.size hl1_1
  refine Rest.nil (GQ.sub [(1, .int .i64 box), (3, .pointer (some ⟨(lo1 0), 0, none⟩)), (5, .pointer (some ⟨(lo1 1), 0, none⟩))] (by rw [← hv1_0, ← hv1_1]; kernel_rfl) ?_)
  refine GQ.on ?_
  refine GC.seq ?_
  refine GC.seq ?_
  refine GC.reg 4 [W (.pointer (some ⟨(lo1 1), 0, none⟩)), D (.int .i64 r.In), D (.bool (l71In r.In 1 60)), W (.bool (!(l71In r.In 1 60)))] mixed (fun vs w => by kernel_rfl) (⟨fun vs lo hi wx hB hK => Out.load1 rfl agg_3 ((hb1_1.to hB).cell 0 _ rfl), fun vs lo hi wx hB hK => Out.call (by kernel_rfl) (c_spec_l71In _ r.In 1 60) (fun _ _ h => h), trivial⟩) ?_
  rintro vs4 lo4 hi4 w4 hU4
  have e5 := btr e2 hU4.1
  replace hb1_0 := hb1_0.to hU4.1
  replace hb1_1 := hb1_1.to hU4.1
  refine Rest.nil (GQ.sub [(1, .int .i64 box), (3, .pointer (some ⟨(lo1 0), 0, none⟩)), (5, .pointer (some ⟨(lo1 1), 0, none⟩)), (10, .bool (!(l71In r.In 1 60)))] (by kernel_rfl) ?_)
  refine GQ.on ?_
  refine GC.cond (!(l71In r.In 1 60)) rfl (fun hc0 => ?_) (fun hc0 => ?_)
  · skip
    have hc0' := hc0
    try simp only [bs, within, l71In, isLabel] at hc0'
    refine GC.seq ?_
    refine GC.regW [W (.bool false)] [(6, .bool false)] mixed rfl (fun vs w => by kernel_rfl) rfl (fun vs => by kernel_rfl) ?_
    refine GQ.on ?_
    refine GC.ret ?_
    refine GQ.passRet ?_
    refine GQ.ret1 (.bool false) rfl rfl ?_
    exact ⟨_, rfl, congrArg (Value.bool) (cndT hc0 rfl), e5⟩
  · skip
    have hc0' := hc0
    try simp only [bs, within, l71In, isLabel] at hc0'
    refine GC.skip ?_
    refine GQ.on ?_
    refine GC.seq ?_
    refine GC.seq ?_
    refine GC.reg 3 [W (.pointer (some ⟨(lo1 1), 1, none⟩)), D (.int .i64 r.Next), W (.bool (r.Next == (-1 : Int)))] mixed (fun vs w => by kernel_rfl) (⟨fun vs lo hi wx hB hK => Out.load1 rfl agg_3 ((hb1_1.to hB).cell 1 _ rfl), trivial⟩) ?_
    rintro vs6 lo6 hi6 w6 hU6
    have e7 := btr e5 hU6.1
    replace hb1_0 := hb1_0.to hU6.1
    replace hb1_1 := hb1_1.to hU6.1
    refine Rest.nil (GQ.sub [(1, .int .i64 box), (3, .pointer (some ⟨(lo1 0), 0, none⟩)), (5, .pointer (some ⟨(lo1 1), 0, none⟩)), (13, .bool (r.Next == (-1 : Int)))] (by kernel_rfl) ?_)
    refine GQ.on ?_
    refine GC.cond (r.Next == (-1 : Int)) rfl (fun hc1 => ?_) (fun hc1 => ?_)
    · skip
      have hc1' := hc1
      try simp only [bs, within, l71In, isLabel] at hc1'
      refine GC.seq ?_
      refine GC.reg 4 [W (.pointer (some ⟨(lo1 1), 2, none⟩)), D (.int .i64 r.Out), W (.bool (r.Out == (0 : Int))), W (.bool (r.Out == (0 : Int)))] mixed (fun vs w => by kernel_rfl) (⟨fun vs lo hi wx hB hK => Out.load1 rfl agg_3 ((hb1_1.to hB).cell 2 _ rfl), trivial⟩) ?_
      rintro vs8 lo8 hi8 w8 hU8
      have e9 := btr e7 hU8.1
      replace hb1_0 := hb1_0.to hU8.1
      replace hb1_1 := hb1_1.to hU8.1
      refine Rest.nil (GQ.sub [(6, .bool (r.Out == (0 : Int)))] (by kernel_rfl) ?_)
      refine GQ.on ?_
      refine GC.ret ?_
      refine GQ.passRet ?_
      refine GQ.ret1 (.bool (r.Out == (0 : Int))) rfl rfl ?_
      exact ⟨_, rfl, congrArg (Value.bool) (cndF hc0 (cndT hc1 rfl)), e9⟩
    · skip
      have hc1' := hc1
      try simp only [bs, within, l71In, isLabel] at hc1'
      refine GC.skip ?_
      refine GQ.on ?_
      refine GC.seq ?_
      refine GC.abs [(6, .bool ((decide ((f_spec_l71Link n box r.Next) ≥ (0 : Int))) && (l71In r.Out 1 60)))] (fun w' => Below w6.heap.size w6 w') (fun Q' hQ12 => ?_) (fun w10 hE11 => ?_)
      · skip
        cases hB13 : (decide ((f_spec_l71Link n box r.Next) ≥ (0 : Int)))
        · skip
          have hB13' := hB13
          try simp only [bs, within, l71In, isLabel] at hB13'
          refine GC.reg 12 [D (.agg #[.slice a_n_Links n.Links.length c_n_Links, .slice a_n_Boxes n.Boxes.length c_n_Boxes]), W (.int .i64 box), W (.pointer (some ⟨(lo1 1), 1, none⟩)), D (.int .i64 r.Next), D (.int .i64 (f_spec_l71Link n box r.Next)), D (.bool false), W (.bool false), S, S, S, W (.bool false), W (.bool false)] mixed (fun vs w => by kernel_rfl) (⟨fun vs lo hi wx hB hK => Out.loadA rfl agg_27 size_27 ((hb1_0.to hB).has 0 _ rfl), fun vs lo hi wx hB hK => Out.load1 rfl agg_3 ((hb1_1.to hB).cell 1 _ rfl), fun vs lo hi wx hB hK => Out.call (by kernel_rfl) (c_spec_l71Link _ n ([.slice a_n_Links n.Links.length c_n_Links, .slice a_n_Boxes n.Boxes.length c_n_Boxes]) (show rpLabNet.rd _ _ _ from ⟨_, _, _, _, rfl, h_n_Links.below (btr e7 hB), h_n_Boxes.below (btr e7 hB)⟩) box r.Next) (fun _ _ h => h), fun vs lo hi wx hB hK => Out.asB (Out.of_run (by kernel_rfl)) hB13, trivial⟩) ?_
          rintro vs14 lo14 hi14 w14 hU14
          exact Rest.nil (GQ.sub [(6, .bool ((decide ((f_spec_l71Link n box r.Next) ≥ (0 : Int))) && (l71In r.Out 1 60)))] (by (try simp only [hB13]); kernel_rfl) (hQ12 _ hU14.1))
        · skip
          have hB13' := hB13
          try simp only [bs, within, l71In, isLabel] at hB13'
          refine GC.reg 12 [D (.agg #[.slice a_n_Links n.Links.length c_n_Links, .slice a_n_Boxes n.Boxes.length c_n_Boxes]), W (.int .i64 box), W (.pointer (some ⟨(lo1 1), 1, none⟩)), D (.int .i64 r.Next), D (.int .i64 (f_spec_l71Link n box r.Next)), D (.bool true), W (.bool true), W (.pointer (some ⟨(lo1 1), 2, none⟩)), D (.int .i64 r.Out), D (.bool (l71In r.Out 1 60)), W (.bool (l71In r.Out 1 60)), W (.bool (l71In r.Out 1 60))] mixed (fun vs w => by kernel_rfl) (⟨fun vs lo hi wx hB hK => Out.loadA rfl agg_27 size_27 ((hb1_0.to hB).has 0 _ rfl), fun vs lo hi wx hB hK => Out.load1 rfl agg_3 ((hb1_1.to hB).cell 1 _ rfl), fun vs lo hi wx hB hK => Out.call (by kernel_rfl) (c_spec_l71Link _ n ([.slice a_n_Links n.Links.length c_n_Links, .slice a_n_Boxes n.Boxes.length c_n_Boxes]) (show rpLabNet.rd _ _ _ from ⟨_, _, _, _, rfl, h_n_Links.below (btr e7 hB), h_n_Boxes.below (btr e7 hB)⟩) box r.Next) (fun _ _ h => h), fun vs lo hi wx hB hK => Out.asB (Out.of_run (by kernel_rfl)) hB13, fun vs lo hi wx hB hK => Out.load1 rfl agg_3 ((hb1_1.to hB).cell 2 _ rfl), fun vs lo hi wx hB hK => Out.call (by kernel_rfl) (c_spec_l71In _ r.Out 1 60) (fun _ _ h => h), trivial⟩) ?_
          rintro vs15 lo15 hi15 w15 hU15
          exact Rest.nil (GQ.sub [(6, .bool ((decide ((f_spec_l71Link n box r.Next) ≥ (0 : Int))) && (l71In r.Out 1 60)))] (by (try simp only [hB13]); kernel_rfl) (hQ12 _ hU15.1))
      · skip
        have e16 := btr e7 hE11
        replace hb1_0 := hb1_0.to hE11
        replace hb1_1 := hb1_1.to hE11
        refine GQ.on ?_
        refine GC.ret ?_
        refine GQ.ret1 (.bool ((decide ((f_spec_l71Link n box r.Next) ≥ (0 : Int))) && (l71In r.Out 1 60))) rfl rfl ?_
        exact ⟨_, rfl, congrArg (Value.bool) (cndF hc0 (cndF hc1 rfl)), e16⟩
def f_spec_l71ViaOk (n : LabNet) (box : Int) (v : LabVia) : Bool := (decide ((f_spec_l71Link n box v.To) ≥ (0 : Int))) && ((decide ((f_spec_l71Link n box v.Via) ≥ (0 : Int))) && ((v.To != v.Via) && (l71In v.Push 1 60)))
/-- spec.l71ViaOk -/
theorem c_spec_l71ViaOk (w : World) (n : LabNet) (cs_n : List Value) (h_n : rpLabNet.rd w cs_n n) (box : Int) (v : LabVia) (cs_v : List Value) (h_v : rpLabVia.rd w cs_v v) :
    Calls Try.prog 97 #[.agg cs_n.toArray, .int .i64 box, .agg cs_v.toArray] w fun e w' => ∃ rv, e = .returned rv ∧ (rv = .bool (f_spec_l71ViaOk n box v) ∧ Below w.heap.size w w') := by
  obtain ⟨a_n_Links, c_n_Links, a_n_Boxes, c_n_Boxes, rfl, h_n_Links, h_n_Boxes⟩ := h_n
  have lh_n_Links := h_n_Links.2.1
  have lh_n_Boxes := h_n_Boxes.2.1
  obtain rfl := h_v
  refine enter [(0, .agg #[.slice a_n_Links n.Links.length c_n_Links, .slice a_n_Boxes n.Boxes.length c_n_Boxes]), (1, .int .i64 box), (2, .agg #[.int .i64 v.To, .int .i64 v.Via, .int .i64 v.Push])] Try.func97 rfl (by kernel_rfl) (by kernel_rfl) ?_
  have e0 := brefl w
  refine GC.seq ?_
  refine GC.reg 3 [RB 0 27 [.slice a_n_Links n.Links.length c_n_Links, .slice a_n_Boxes n.Boxes.length c_n_Boxes], RB 1 119 [.int .i64 v.To, .int .i64 v.Via, .int .i64 v.Push], W (.bool false)] mixed (fun vs w => by kernel_rfl) (⟨fun vs lo hi wx hB hK => Out.box rfl, fun vs lo hi wx hB hK => Out.box rfl, trivial⟩) ?_
  rintro vs1 lo1 hi1 w1 hU1
  have e2 := btr e0 hU1.1
  obtain ⟨⟨hv1_0, hp1_0, hb1_0⟩, hl1_0, -, -⟩ := hU1.2.1 0 _ rfl trivial
  have hl1_0b := Nat.le_trans e0.size hl1_0
  obtain ⟨⟨hv1_1, hp1_1, hb1_1⟩, hl1_1, -, -⟩ := hU1.2.1 1 _ rfl trivial
  have hne3 := hU1.ne 0 1 rfl rfl trivial trivial (by decide) hp1_0 hp1_1
  have hl1_1b := Nat.le_trans e0.size hl1_1
  refine Rest.nil (GQ.sub [(1, .int .i64 box), (3, .pointer (some ⟨(lo1 0), 0, none⟩)), (5, .pointer (some ⟨(lo1 1), 0, none⟩))] (by rw [← hv1_0, ← hv1_1]; kernel_rfl) ?_)
  refine GQ.on ?_
  refine GC.seq ?_
  refine GC.abs [(6, .bool ((decide ((f_spec_l71Link n box v.To) ≥ (0 : Int))) && ((decide ((f_spec_l71Link n box v.Via) ≥ (0 : Int))) && ((v.To != v.Via) && (l71In v.Push 1 60)))))] (fun w' => Below w1.heap.size w1 w') (fun Q' hQ6 => ?_) (fun w4 hE5 => ?_)
  · skip
    cases hB7 : (decide ((f_spec_l71Link n box v.To) ≥ (0 : Int)))
    · skip
      have hB7' := hB7
      try simp only [bs, within, l71In, isLabel] at hB7'
      refine GC.reg 27 [D (.agg #[.slice a_n_Links n.Links.length c_n_Links, .slice a_n_Boxes n.Boxes.length c_n_Boxes]), W (.int .i64 box), W (.pointer (some ⟨(lo1 1), 0, none⟩)), D (.int .i64 v.To), D (.int .i64 (f_spec_l71Link n box v.To)), D (.bool false), W (.bool false), S, S, S, S, S, S, W (.bool false), W (.bool false), S, S, S, S, S, W (.bool false), W (.bool false), S, S, S, W (.bool false), W (.bool false)] mixed (fun vs w => by kernel_rfl) (⟨fun vs lo hi wx hB hK => Out.loadA rfl agg_27 size_27 ((hb1_0.to hB).has 0 _ rfl), fun vs lo hi wx hB hK => Out.load1 rfl agg_3 ((hb1_1.to hB).cell 0 _ rfl), fun vs lo hi wx hB hK => Out.call (by kernel_rfl) (c_spec_l71Link _ n ([.slice a_n_Links n.Links.length c_n_Links, .slice a_n_Boxes n.Boxes.length c_n_Boxes]) (show rpLabNet.rd _ _ _ from ⟨_, _, _, _, rfl, h_n_Links.below (btr e2 hB), h_n_Boxes.below (btr e2 hB)⟩) box v.To) (fun _ _ h => h), fun vs lo hi wx hB hK => Out.asB (Out.of_run (by kernel_rfl)) hB7, trivial⟩) ?_
      rintro vs8 lo8 hi8 w8 hU8
      exact Rest.nil (GQ.sub [(6, .bool ((decide ((f_spec_l71Link n box v.To) ≥ (0 : Int))) && ((decide ((f_spec_l71Link n box v.Via) ≥ (0 : Int))) && ((v.To != v.Via) && (l71In v.Push 1 60)))))] (by (try simp only [hB7]); kernel_rfl) (hQ6 _ hU8.1))
    · skip
      have hB7' := hB7
      try simp only [bs, within, l71In, isLabel] at hB7'
      cases hB9 : (decide ((f_spec_l71Link n box v.Via) ≥ (0 : Int)))
      · skip
        have hB9' := hB9
        try simp only [bs, within, l71In, isLabel] at hB9'
        refine GC.reg 27 [D (.agg #[.slice a_n_Links n.Links.length c_n_Links, .slice a_n_Boxes n.Boxes.length c_n_Boxes]), W (.int .i64 box), W (.pointer (some ⟨(lo1 1), 0, none⟩)), D (.int .i64 v.To), D (.int .i64 (f_spec_l71Link n box v.To)), D (.bool true), W (.bool true), D (.agg #[.slice a_n_Links n.Links.length c_n_Links, .slice a_n_Boxes n.Boxes.length c_n_Boxes]), W (.int .i64 box), W (.pointer (some ⟨(lo1 1), 1, none⟩)), D (.int .i64 v.Via), D (.int .i64 (f_spec_l71Link n box v.Via)), D (.bool false), W (.bool false), W (.bool false), S, S, S, S, S, W (.bool false), W (.bool false), S, S, S, W (.bool false), W (.bool false)] mixed (fun vs w => by kernel_rfl) (⟨fun vs lo hi wx hB hK => Out.loadA rfl agg_27 size_27 ((hb1_0.to hB).has 0 _ rfl), fun vs lo hi wx hB hK => Out.load1 rfl agg_3 ((hb1_1.to hB).cell 0 _ rfl), fun vs lo hi wx hB hK => Out.call (by kernel_rfl) (c_spec_l71Link _ n ([.slice a_n_Links n.Links.length c_n_Links, .slice a_n_Boxes n.Boxes.length c_n_Boxes]) (show rpLabNet.rd _ _ _ from ⟨_, _, _, _, rfl, h_n_Links.below (btr e2 hB), h_n_Boxes.below (btr e2 hB)⟩) box v.To) (fun _ _ h => h), fun vs lo hi wx hB hK => Out.asB (Out.of_run (by kernel_rfl)) hB7, fun vs lo hi wx hB hK => Out.loadA rfl agg_27 size_27 ((hb1_0.to hB).has 0 _ rfl), fun vs lo hi wx hB hK => Out.load1 rfl agg_3 ((hb1_1.to hB).cell 1 _ rfl), fun vs lo hi wx hB hK => Out.call (by kernel_rfl) (c_spec_l71Link _ n ([.slice a_n_Links n.Links.length c_n_Links, .slice a_n_Boxes n.Boxes.length c_n_Boxes]) (show rpLabNet.rd _ _ _ from ⟨_, _, _, _, rfl, h_n_Links.below (btr e2 hB), h_n_Boxes.below (btr e2 hB)⟩) box v.Via) (fun _ _ h => h), fun vs lo hi wx hB hK => Out.asB (Out.of_run (by kernel_rfl)) hB9, trivial⟩) ?_
        rintro vs10 lo10 hi10 w10 hU10
        exact Rest.nil (GQ.sub [(6, .bool ((decide ((f_spec_l71Link n box v.To) ≥ (0 : Int))) && ((decide ((f_spec_l71Link n box v.Via) ≥ (0 : Int))) && ((v.To != v.Via) && (l71In v.Push 1 60)))))] (by (try simp only [hB7]); (try simp only [hB9]); kernel_rfl) (hQ6 _ hU10.1))
      · skip
        have hB9' := hB9
        try simp only [bs, within, l71In, isLabel] at hB9'
        cases hB11 : (v.To != v.Via)
        · skip
          have hB11' := hB11
          try simp only [bs, within, l71In, isLabel] at hB11'
          refine GC.reg 27 [D (.agg #[.slice a_n_Links n.Links.length c_n_Links, .slice a_n_Boxes n.Boxes.length c_n_Boxes]), W (.int .i64 box), W (.pointer (some ⟨(lo1 1), 0, none⟩)), D (.int .i64 v.To), D (.int .i64 (f_spec_l71Link n box v.To)), D (.bool true), W (.bool true), D (.agg #[.slice a_n_Links n.Links.length c_n_Links, .slice a_n_Boxes n.Boxes.length c_n_Boxes]), W (.int .i64 box), W (.pointer (some ⟨(lo1 1), 1, none⟩)), D (.int .i64 v.Via), D (.int .i64 (f_spec_l71Link n box v.Via)), D (.bool true), W (.bool true), W (.bool true), W (.pointer (some ⟨(lo1 1), 0, none⟩)), D (.int .i64 v.To), W (.pointer (some ⟨(lo1 1), 1, none⟩)), D (.int .i64 v.Via), D (.bool false), W (.bool false), W (.bool false), S, S, S, W (.bool false), W (.bool false)] mixed (fun vs w => by kernel_rfl) (⟨fun vs lo hi wx hB hK => Out.loadA rfl agg_27 size_27 ((hb1_0.to hB).has 0 _ rfl), fun vs lo hi wx hB hK => Out.load1 rfl agg_3 ((hb1_1.to hB).cell 0 _ rfl), fun vs lo hi wx hB hK => Out.call (by kernel_rfl) (c_spec_l71Link _ n ([.slice a_n_Links n.Links.length c_n_Links, .slice a_n_Boxes n.Boxes.length c_n_Boxes]) (show rpLabNet.rd _ _ _ from ⟨_, _, _, _, rfl, h_n_Links.below (btr e2 hB), h_n_Boxes.below (btr e2 hB)⟩) box v.To) (fun _ _ h => h), fun vs lo hi wx hB hK => Out.asB (Out.of_run (by kernel_rfl)) hB7, fun vs lo hi wx hB hK => Out.loadA rfl agg_27 size_27 ((hb1_0.to hB).has 0 _ rfl), fun vs lo hi wx hB hK => Out.load1 rfl agg_3 ((hb1_1.to hB).cell 1 _ rfl), fun vs lo hi wx hB hK => Out.call (by kernel_rfl) (c_spec_l71Link _ n ([.slice a_n_Links n.Links.length c_n_Links, .slice a_n_Boxes n.Boxes.length c_n_Boxes]) (show rpLabNet.rd _ _ _ from ⟨_, _, _, _, rfl, h_n_Links.below (btr e2 hB), h_n_Boxes.below (btr e2 hB)⟩) box v.Via) (fun _ _ h => h), fun vs lo hi wx hB hK => Out.asB (Out.of_run (by kernel_rfl)) hB9, fun vs lo hi wx hB hK => Out.load1 rfl agg_3 ((hb1_1.to hB).cell 0 _ rfl), fun vs lo hi wx hB hK => Out.load1 rfl agg_3 ((hb1_1.to hB).cell 1 _ rfl), fun vs lo hi wx hB hK => Out.asB (Out.of_run (by kernel_rfl)) hB11, trivial⟩) ?_
          rintro vs12 lo12 hi12 w12 hU12
          exact Rest.nil (GQ.sub [(6, .bool ((decide ((f_spec_l71Link n box v.To) ≥ (0 : Int))) && ((decide ((f_spec_l71Link n box v.Via) ≥ (0 : Int))) && ((v.To != v.Via) && (l71In v.Push 1 60)))))] (by (try simp only [hB7]); (try simp only [hB9]); (try simp only [hB11]); kernel_rfl) (hQ6 _ hU12.1))
        · skip
          have hB11' := hB11
          try simp only [bs, within, l71In, isLabel] at hB11'
          refine GC.reg 27 [D (.agg #[.slice a_n_Links n.Links.length c_n_Links, .slice a_n_Boxes n.Boxes.length c_n_Boxes]), W (.int .i64 box), W (.pointer (some ⟨(lo1 1), 0, none⟩)), D (.int .i64 v.To), D (.int .i64 (f_spec_l71Link n box v.To)), D (.bool true), W (.bool true), D (.agg #[.slice a_n_Links n.Links.length c_n_Links, .slice a_n_Boxes n.Boxes.length c_n_Boxes]), W (.int .i64 box), W (.pointer (some ⟨(lo1 1), 1, none⟩)), D (.int .i64 v.Via), D (.int .i64 (f_spec_l71Link n box v.Via)), D (.bool true), W (.bool true), W (.bool true), W (.pointer (some ⟨(lo1 1), 0, none⟩)), D (.int .i64 v.To), W (.pointer (some ⟨(lo1 1), 1, none⟩)), D (.int .i64 v.Via), D (.bool true), W (.bool true), W (.bool true), W (.pointer (some ⟨(lo1 1), 2, none⟩)), D (.int .i64 v.Push), D (.bool (l71In v.Push 1 60)), W (.bool (l71In v.Push 1 60)), W (.bool (l71In v.Push 1 60))] mixed (fun vs w => by kernel_rfl) (⟨fun vs lo hi wx hB hK => Out.loadA rfl agg_27 size_27 ((hb1_0.to hB).has 0 _ rfl), fun vs lo hi wx hB hK => Out.load1 rfl agg_3 ((hb1_1.to hB).cell 0 _ rfl), fun vs lo hi wx hB hK => Out.call (by kernel_rfl) (c_spec_l71Link _ n ([.slice a_n_Links n.Links.length c_n_Links, .slice a_n_Boxes n.Boxes.length c_n_Boxes]) (show rpLabNet.rd _ _ _ from ⟨_, _, _, _, rfl, h_n_Links.below (btr e2 hB), h_n_Boxes.below (btr e2 hB)⟩) box v.To) (fun _ _ h => h), fun vs lo hi wx hB hK => Out.asB (Out.of_run (by kernel_rfl)) hB7, fun vs lo hi wx hB hK => Out.loadA rfl agg_27 size_27 ((hb1_0.to hB).has 0 _ rfl), fun vs lo hi wx hB hK => Out.load1 rfl agg_3 ((hb1_1.to hB).cell 1 _ rfl), fun vs lo hi wx hB hK => Out.call (by kernel_rfl) (c_spec_l71Link _ n ([.slice a_n_Links n.Links.length c_n_Links, .slice a_n_Boxes n.Boxes.length c_n_Boxes]) (show rpLabNet.rd _ _ _ from ⟨_, _, _, _, rfl, h_n_Links.below (btr e2 hB), h_n_Boxes.below (btr e2 hB)⟩) box v.Via) (fun _ _ h => h), fun vs lo hi wx hB hK => Out.asB (Out.of_run (by kernel_rfl)) hB9, fun vs lo hi wx hB hK => Out.load1 rfl agg_3 ((hb1_1.to hB).cell 0 _ rfl), fun vs lo hi wx hB hK => Out.load1 rfl agg_3 ((hb1_1.to hB).cell 1 _ rfl), fun vs lo hi wx hB hK => Out.asB (Out.of_run (by kernel_rfl)) hB11, fun vs lo hi wx hB hK => Out.load1 rfl agg_3 ((hb1_1.to hB).cell 2 _ rfl), fun vs lo hi wx hB hK => Out.call (by kernel_rfl) (c_spec_l71In _ v.Push 1 60) (fun _ _ h => h), trivial⟩) ?_
          rintro vs13 lo13 hi13 w13 hU13
          exact Rest.nil (GQ.sub [(6, .bool ((decide ((f_spec_l71Link n box v.To) ≥ (0 : Int))) && ((decide ((f_spec_l71Link n box v.Via) ≥ (0 : Int))) && ((v.To != v.Via) && (l71In v.Push 1 60)))))] (by (try simp only [hB7]); (try simp only [hB9]); (try simp only [hB11]); kernel_rfl) (hQ6 _ hU13.1))
  · skip
    have e14 := btr e2 hE5
    replace hb1_0 := hb1_0.to hE5
    replace hb1_1 := hb1_1.to hE5
    refine GQ.on ?_
    refine GC.ret ?_
    refine GQ.ret1 (.bool ((decide ((f_spec_l71Link n box v.To) ≥ (0 : Int))) && ((decide ((f_spec_l71Link n box v.Via) ≥ (0 : Int))) && ((v.To != v.Via) && (l71In v.Push 1 60))))) rfl rfl ?_
    exact ⟨_, rfl, congrArg (Value.bool) rfl, e14⟩
def f_spec_l71BoxOk_s0 (n : LabNet) (box : Int) : Nat → Lp Nat Bool := fun i0 => bif (decide ((i0 : Int) < (((n.Boxes.getD (Int.toNat box) default).Rows).length : Int))) then (bif ((!(f_spec_l71RowOk n box (((n.Boxes.getD (Int.toNat box) default).Rows).getD i0 default))) || ((decide ((i0 : Int) > (0 : Int))) && (decide (((((n.Boxes.getD (Int.toNat box) default).Rows).getD (Int.toNat ((i0 : Int) - 1)) default).In) ≥ ((((n.Boxes.getD (Int.toNat box) default).Rows).getD i0 default).In))))) then (Lp.ret false) else (Lp.next (i0 + 1))) else (Lp.done i0)
def f_spec_l71BoxOk_s1 (n : LabNet) (box : Int) (i0 : Nat) : Nat → Lp Nat Bool := fun i02 => bif (decide ((i02 : Int) < (((n.Boxes.getD (Int.toNat box) default).Guards).length : Int))) then (bif ((!(f_spec_l71ViaOk n box (((n.Boxes.getD (Int.toNat box) default).Guards).getD i02 default))) || ((decide ((i02 : Int) > (0 : Int))) && (decide (((((n.Boxes.getD (Int.toNat box) default).Guards).getD (Int.toNat ((i02 : Int) - 1)) default).To) ≥ ((((n.Boxes.getD (Int.toNat box) default).Guards).getD i02 default).To))))) then (Lp.ret false) else (Lp.next (i02 + 1))) else (Lp.done i02)
def f_spec_l71BoxOk (n : LabNet) (box : Int) : Bool := Lp.fin (runL (f_spec_l71BoxOk_s0 n box) ((Int.toNat ((((n.Boxes.getD (Int.toNat box) default).Rows).length : Int) - (0 : Int))) + 1) 0) id (fun i0 => Lp.fin (runL (f_spec_l71BoxOk_s1 n box i0) ((Int.toNat ((((n.Boxes.getD (Int.toNat box) default).Guards).length : Int) - (0 : Int))) + 1) 0) id (fun i02 => true))
/-- spec.l71BoxOk -/
theorem c_spec_l71BoxOk (w : World) (n : LabNet) (cs_n : List Value) (h_n : rpLabNet.rd w cs_n n) (box : Int) (hat : 0 ≤ box ∧ box < n.Boxes.length) :
    Calls Try.prog 60 #[.agg cs_n.toArray, .int .i64 box] w fun e w' => ∃ rv, e = .returned rv ∧ (rv = .bool (f_spec_l71BoxOk n box) ∧ Below w.heap.size w w') := by
  obtain ⟨a_n_Links, c_n_Links, a_n_Boxes, c_n_Boxes, rfl, h_n_Links, h_n_Boxes⟩ := h_n
  have lh_n_Links := h_n_Links.2.1
  have lh_n_Boxes := h_n_Boxes.2.1
  refine enter [(0, .agg #[.slice a_n_Links n.Links.length c_n_Links, .slice a_n_Boxes n.Boxes.length c_n_Boxes]), (1, .int .i64 box)] Try.func60 rfl (by kernel_rfl) (by kernel_rfl) ?_
  have e0 := brefl w
  refine GC.seq ?_
  refine GC.reg 2 [RB 0 27 [.slice a_n_Links n.Links.length c_n_Links, .slice a_n_Boxes n.Boxes.length c_n_Boxes], W (.bool false)] mixed (fun vs w => by kernel_rfl) (⟨fun vs lo hi wx hB hK => Out.box rfl, trivial⟩) ?_
  rintro vs1 lo1 hi1 w1 hU1
  have e2 := btr e0 hU1.1
  obtain ⟨⟨hv1_0, hp1_0, hb1_0⟩, hl1_0, -, -⟩ := hU1.2.1 0 _ rfl trivial
  have hl1_0b := Nat.le_trans e0.size hl1_0
  refine Rest.nil (GQ.sub [(1, .int .i64 box), (2, .pointer (some ⟨(lo1 0), 0, none⟩))] (by rw [← hv1_0]; kernel_rfl) ?_)
  refine GQ.on ?_
  refine GC.seq ?_
  have hx_3 : n.Boxes[Int.toNat box]? = some (n.Boxes.getD (Int.toNat box) default) := getD_some (by omega)
  obtain ⟨ha_3, hb_3, cs_3, hl_3, hh_3, hr_3⟩ := h_n_Boxes.2.2 (Int.toNat box) (n.Boxes.getD (Int.toNat box) default) hx_3
  obtain ⟨a__3_1, c__3_1, a__3_2, c__3_2, rfl, h__3_1, h__3_2⟩ := hr_3
  have lh__3_1 := h__3_1.2.1
  have lh__3_2 := h__3_2.2.1
  refine GC.reg 6 [W (.pointer (some ⟨(lo1 0), 1, none⟩)), D (.slice a_n_Boxes n.Boxes.length c_n_Boxes), W (.int .i64 box), D (.pointer (some ⟨(ab a_n_Boxes), ao a_n_Boxes + (Int.toNat box) * 2, none⟩)), D (.agg #[.slice a__3_1 (((n.Boxes.getD (Int.toNat box) default).Rows).length) c__3_1, .slice a__3_2 (((n.Boxes.getD (Int.toNat box) default).Guards).length) c__3_2]), RB 5 90 [.slice none 0 0, .slice none 0 0]] mixed (fun vs w => by kernel_rfl) (⟨fun vs lo hi wx hB hK => Out.load1 rfl agg_25 ((hb1_0.to hB).cell 1 _ rfl), fun vs lo hi wx hB hK => Out.idxE (Int.toNat box) rfl rfl (by omega) (ltg hx_3) ha_3 Try.underlying25 size_90, fun vs lo hi wx hB hK => Out.loadA rfl agg_90 size_90 ((hh_3.below hb_3 (btr e2 hB)).sub 0 _ rfl), fun vs lo hi wx hB hK => Out.alloc (z := .agg #[.slice none 0 0, .slice none 0 0]) (by kernel_rfl) rfl, trivial⟩) ?_
  rintro vs4 lo4 hi4 w4 hU4
  have hlt5 := hb1_0.lt
  have e6 := btr e2 hU4.1
  replace hb1_0 := hb1_0.to hU4.1
  obtain ⟨⟨hv4_5, hp4_5, hb4_5⟩, hl4_5, -, -⟩ := hU4.2.1 5 _ rfl trivial
  have hne7 := Nat.ne_of_lt (Nat.lt_of_lt_of_le hlt5 hl4_5)
  have hl4_5b := Nat.le_trans e2.size hl4_5
  refine Rest.sub [(1, .int .i64 box), (2, .pointer (some ⟨(lo1 0), 0, none⟩)), (5, .pointer (some ⟨(lo4 5), 0, none⟩)), (12, .agg #[.slice a__3_1 (((n.Boxes.getD (Int.toNat box) default).Rows).length) c__3_1, .slice a__3_2 (((n.Boxes.getD (Int.toNat box) default).Guards).length) c__3_2])] (by rw [← hv4_5]; kernel_rfl) ?_
  refine Rest.store [.slice a__3_1 (((n.Boxes.getD (Int.toNat box) default).Rows).length) c__3_1, .slice a__3_2 (((n.Boxes.getD (Int.toNat box) default).Guards).length) c__3_2] [.slice a__3_1 (((n.Boxes.getD (Int.toNat box) default).Rows).length) c__3_1, .slice a__3_2 (((n.Boxes.getD (Int.toNat box) default).Guards).length) c__3_2] rfl rfl hb4_5 size_90 rfl rfl rfl ?_
  intro w8 hC9 hb10
  have e11 := bchg1 e6 (Nat.le_refl _) hC9 hl4_5b
  replace hb1_0 := hb1_0.chg hC9 hne7
  refine Rest.nil (GQ.sub [(1, .int .i64 box), (2, .pointer (some ⟨(lo1 0), 0, none⟩)), (5, .pointer (some ⟨(lo4 5), 0, none⟩))] (by kernel_rfl) ?_)
  refine GQ.on ?_
  refine GC.seq ?_
  refine GC.seq ?_
  refine GC.regW [W (.int .i64 0)] [(1, .int .i64 box), (2, .pointer (some ⟨(lo1 0), 0, none⟩)), (5, .pointer (some ⟨(lo4 5), 0, none⟩)), (6, .int .i64 0)] mixed rfl (fun vs w => by kernel_rfl) rfl (fun vs => by kernel_rfl) ?_
  refine GQ.on ?_
  refine GC.join (ι := Nat) (fun i => [(1, .int .i64 box), (2, .pointer (some ⟨(lo1 0), 0, none⟩)), (5, .pointer (some ⟨(lo4 5), 0, none⟩))]) (fun i w' => Chg (fun _ : Nat => False) w8 w' ∧ (runL (f_spec_l71BoxOk_s0 n box) ((Int.toNat ((((n.Boxes.getD (Int.toNat box) default).Rows).length : Int) - (0 : Int))) + 1) 0) = Lp.done i ∧ (decide ((i : Int) < (((n.Boxes.getD (Int.toNat box) default).Rows).length : Int))) = false) (fun hq0 => ?_) ?_
  · skip
    refine GC.block ?_
    refine GC.loop (ι := Nat × Nat) (fun i => [(1, .int .i64 box), (2, .pointer (some ⟨(lo1 0), 0, none⟩)), (5, .pointer (some ⟨(lo4 5), 0, none⟩)), (6, .int .i64 (i.2 : Int))]) (fun i w' => Chg (fun _ : Nat => False) w8 w' ∧ runL (f_spec_l71BoxOk_s0 n box) i.1 i.2 = (runL (f_spec_l71BoxOk_s0 n box) ((Int.toNat ((((n.Boxes.getD (Int.toNat box) default).Rows).length : Int) - (0 : Int))) + 1) 0) ∧ Int.toNat ((((n.Boxes.getD (Int.toNat box) default).Rows).length : Int) - (i.2 : Int)) < i.1) (fun i => i.1) (((Int.toNat ((((n.Boxes.getD (Int.toNat box) default).Rows).length : Int) - (0 : Int))) + 1), 0) (by kernel_rfl) ⟨chg_refl _ _, rfl, Nat.lt_succ_self _⟩ ?_
    rintro ⟨m, i0⟩ w12 ⟨hw13, hI0, hm0⟩
    obtain ⟨m, rfl⟩ := prev_of_lt hm0
    have e14 := chg_below e11 (Nat.le_refl _) hw13 (fun _ h => h.elim)
    replace hb1_0 := hb1_0.chg hw13 (fun h => h)
    replace hb10 := hb10.chg hw13 (fun h => h)
    refine GC.seq ?_
    refine GC.seq ?_
    refine GC.reg 5 [W (.int .i64 (i0 : Int)), W (.pointer (some ⟨(lo4 5), 0, none⟩)), D (.slice a__3_1 (((n.Boxes.getD (Int.toNat box) default).Rows).length) c__3_1), W (.int .i64 (((n.Boxes.getD (Int.toNat box) default).Rows).length : Int)), W (.bool (decide ((i0 : Int) < (((n.Boxes.getD (Int.toNat box) default).Rows).length : Int))))] mixed (fun vs w => by kernel_rfl) (⟨fun vs lo hi wx hB hK => Out.load1 rfl agg_87 ((hb10.to hB).cell 0 _ rfl), trivial⟩) ?_
    rintro vs15 lo15 hi15 w15 hU15
    have e16 := btr e14 hU15.1
    replace hb1_0 := hb1_0.to hU15.1
    replace hb10 := hb10.to hU15.1
    have hw17 := chg_trb hw13 hU15.1
    refine Rest.nil (GQ.sub [(1, .int .i64 box), (2, .pointer (some ⟨(lo1 0), 0, none⟩)), (5, .pointer (some ⟨(lo4 5), 0, none⟩)), (6, .int .i64 (i0 : Int)), (17, .bool (decide ((i0 : Int) < (((n.Boxes.getD (Int.toNat box) default).Rows).length : Int))))] (by kernel_rfl) ?_)
    refine GQ.on ?_
    refine GC.cond (decide ((i0 : Int) < (((n.Boxes.getD (Int.toNat box) default).Rows).length : Int))) rfl (fun hc0 => ?_) (fun hc0 => ?_)
    · skip
      have hc0' := hc0
      try simp only [bs, within, l71In, isLabel] at hc0'
      refine GC.skip ?_
      refine GQ.on ?_
      refine GC.seq ?_
      refine GC.block ?_
      refine GC.seq ?_
      have hx_18 : ((n.Boxes.getD (Int.toNat box) default).Rows)[i0]? = some (((n.Boxes.getD (Int.toNat box) default).Rows).getD i0 default) := getD_some (by omega)
      obtain ⟨ha_18, hb_18, cs_18, hl_18, hh_18, hr_18⟩ := h__3_1.2.2 i0 (((n.Boxes.getD (Int.toNat box) default).Rows).getD i0 default) hx_18
      obtain rfl := hr_18
      have hx_19 : ((n.Boxes.getD (Int.toNat box) default).Rows)[Int.toNat ((i0 : Int) - 1)]? = some (((n.Boxes.getD (Int.toNat box) default).Rows).getD (Int.toNat ((i0 : Int) - 1)) default) := getD_some (by omega)
      obtain ⟨ha_19, hb_19, cs_19, hl_19, hh_19, hr_19⟩ := h__3_1.2.2 (Int.toNat ((i0 : Int) - 1)) (((n.Boxes.getD (Int.toNat box) default).Rows).getD (Int.toNat ((i0 : Int) - 1)) default) hx_19
      obtain rfl := hr_19
      refine GC.abs [(1, .int .i64 box), (2, .pointer (some ⟨(lo1 0), 0, none⟩)), (5, .pointer (some ⟨(lo4 5), 0, none⟩)), (6, .int .i64 (i0 : Int)), (48, .bool ((!(f_spec_l71RowOk n box (((n.Boxes.getD (Int.toNat box) default).Rows).getD i0 default))) || ((decide ((i0 : Int) > (0 : Int))) && (decide (((((n.Boxes.getD (Int.toNat box) default).Rows).getD (Int.toNat ((i0 : Int) - 1)) default).In) ≥ ((((n.Boxes.getD (Int.toNat box) default).Rows).getD i0 default).In))))))] (fun w' => Below w15.heap.size w15 w') (fun Q' hQ22 => ?_) (fun w20 hE21 => ?_)
      · skip
        cases hB23 : (!(f_spec_l71RowOk n box (((n.Boxes.getD (Int.toNat box) default).Rows).getD i0 default)))
        · skip
          have hB23' := hB23
          try simp only [bs, within, l71In, isLabel] at hB23'
          cases hB24 : (decide ((i0 : Int) > (0 : Int)))
          · skip
            have hB24' := hB24
            try simp only [bs, within, l71In, isLabel] at hB24'
            refine GC.reg 29 [D (.agg #[.slice a_n_Links n.Links.length c_n_Links, .slice a_n_Boxes n.Boxes.length c_n_Boxes]), W (.int .i64 box), W (.pointer (some ⟨(lo4 5), 0, none⟩)), D (.slice a__3_1 (((n.Boxes.getD (Int.toNat box) default).Rows).length) c__3_1), W (.int .i64 (i0 : Int)), D (.pointer (some ⟨(ab a__3_1), ao a__3_1 + i0 * 3, none⟩)), D (.agg #[.int .i64 ((((n.Boxes.getD (Int.toNat box) default).Rows).getD i0 default).In), .int .i64 ((((n.Boxes.getD (Int.toNat box) default).Rows).getD i0 default).Next), .int .i64 ((((n.Boxes.getD (Int.toNat box) default).Rows).getD i0 default).Out)]), D (.bool (f_spec_l71RowOk n box (((n.Boxes.getD (Int.toNat box) default).Rows).getD i0 default))), D (.bool false), W (.bool false), W (.int .i64 (i0 : Int)), D (.bool false), W (.bool false), S, S, S, S, S, S, S, S, S, S, S, S, S, S, W (.bool false), W (.bool false)] mixed (fun vs w => by kernel_rfl) (⟨fun vs lo hi wx hB hK => Out.loadA rfl agg_27 size_27 ((hb1_0.to hB).has 0 _ rfl), fun vs lo hi wx hB hK => Out.load1 rfl agg_87 ((hb10.to hB).cell 0 _ rfl), fun vs lo hi wx hB hK => Out.idxS i0 rfl rfl (ltg hx_18) ha_18 Try.underlying87 size_92, fun vs lo hi wx hB hK => Out.loadA rfl agg_92 size_92 ((hh_18.below hb_18 (btr e16 hB)).sub 0 _ rfl), fun vs lo hi wx hB hK => Out.call (by kernel_rfl) (c_spec_l71RowOk _ n ([.slice a_n_Links n.Links.length c_n_Links, .slice a_n_Boxes n.Boxes.length c_n_Boxes]) (show rpLabNet.rd _ _ _ from ⟨_, _, _, _, rfl, h_n_Links.below (btr e16 hB), h_n_Boxes.below (btr e16 hB)⟩) box (((n.Boxes.getD (Int.toNat box) default).Rows).getD i0 default) ([.int .i64 ((((n.Boxes.getD (Int.toNat box) default).Rows).getD i0 default).In), .int .i64 ((((n.Boxes.getD (Int.toNat box) default).Rows).getD i0 default).Next), .int .i64 ((((n.Boxes.getD (Int.toNat box) default).Rows).getD i0 default).Out)]) (show rpLabRow.rd _ _ _ from rfl)) (fun _ _ h => h), fun vs lo hi wx hB hK => Out.asB (Out.of_run (by kernel_rfl)) hB23, fun vs lo hi wx hB hK => Out.asB (Out.of_run (by kernel_rfl)) hB24, trivial⟩) ?_
            rintro vs25 lo25 hi25 w25 hU25
            exact Rest.nil (GQ.sub [(1, .int .i64 box), (2, .pointer (some ⟨(lo1 0), 0, none⟩)), (5, .pointer (some ⟨(lo4 5), 0, none⟩)), (6, .int .i64 (i0 : Int)), (48, .bool ((!(f_spec_l71RowOk n box (((n.Boxes.getD (Int.toNat box) default).Rows).getD i0 default))) || ((decide ((i0 : Int) > (0 : Int))) && (decide (((((n.Boxes.getD (Int.toNat box) default).Rows).getD (Int.toNat ((i0 : Int) - 1)) default).In) ≥ ((((n.Boxes.getD (Int.toNat box) default).Rows).getD i0 default).In))))))] (by (try simp only [hB23]); (try simp only [hB24]); kernel_rfl) (hQ22 _ hU25.1))
          · skip
            have hB24' := hB24
            try simp only [bs, within, l71In, isLabel] at hB24'
            refine GC.reg 29 [D (.agg #[.slice a_n_Links n.Links.length c_n_Links, .slice a_n_Boxes n.Boxes.length c_n_Boxes]), W (.int .i64 box), W (.pointer (some ⟨(lo4 5), 0, none⟩)), D (.slice a__3_1 (((n.Boxes.getD (Int.toNat box) default).Rows).length) c__3_1), W (.int .i64 (i0 : Int)), D (.pointer (some ⟨(ab a__3_1), ao a__3_1 + i0 * 3, none⟩)), D (.agg #[.int .i64 ((((n.Boxes.getD (Int.toNat box) default).Rows).getD i0 default).In), .int .i64 ((((n.Boxes.getD (Int.toNat box) default).Rows).getD i0 default).Next), .int .i64 ((((n.Boxes.getD (Int.toNat box) default).Rows).getD i0 default).Out)]), D (.bool (f_spec_l71RowOk n box (((n.Boxes.getD (Int.toNat box) default).Rows).getD i0 default))), D (.bool false), W (.bool false), W (.int .i64 (i0 : Int)), D (.bool true), W (.bool true), W (.pointer (some ⟨(lo4 5), 0, none⟩)), D (.slice a__3_1 (((n.Boxes.getD (Int.toNat box) default).Rows).length) c__3_1), W (.int .i64 (i0 : Int)), D (.int .i64 ((i0 : Int) - 1)), D (.pointer (some ⟨(ab a__3_1), ao a__3_1 + (Int.toNat ((i0 : Int) - 1)) * 3, none⟩)), W (.pointer (some ⟨(ab a__3_1), ao a__3_1 + (Int.toNat ((i0 : Int) - 1)) * 3, none⟩)), D (.int .i64 ((((n.Boxes.getD (Int.toNat box) default).Rows).getD (Int.toNat ((i0 : Int) - 1)) default).In)), W (.pointer (some ⟨(lo4 5), 0, none⟩)), D (.slice a__3_1 (((n.Boxes.getD (Int.toNat box) default).Rows).length) c__3_1), W (.int .i64 (i0 : Int)), D (.pointer (some ⟨(ab a__3_1), ao a__3_1 + i0 * 3, none⟩)), W (.pointer (some ⟨(ab a__3_1), ao a__3_1 + i0 * 3, none⟩)), D (.int .i64 ((((n.Boxes.getD (Int.toNat box) default).Rows).getD i0 default).In)), W (.bool (decide (((((n.Boxes.getD (Int.toNat box) default).Rows).getD (Int.toNat ((i0 : Int) - 1)) default).In) ≥ ((((n.Boxes.getD (Int.toNat box) default).Rows).getD i0 default).In)))), W (.bool (decide (((((n.Boxes.getD (Int.toNat box) default).Rows).getD (Int.toNat ((i0 : Int) - 1)) default).In) ≥ ((((n.Boxes.getD (Int.toNat box) default).Rows).getD i0 default).In)))), W (.bool (decide (((((n.Boxes.getD (Int.toNat box) default).Rows).getD (Int.toNat ((i0 : Int) - 1)) default).In) ≥ ((((n.Boxes.getD (Int.toNat box) default).Rows).getD i0 default).In))))] mixed (fun vs w => by kernel_rfl) (⟨fun vs lo hi wx hB hK => Out.loadA rfl agg_27 size_27 ((hb1_0.to hB).has 0 _ rfl), fun vs lo hi wx hB hK => Out.load1 rfl agg_87 ((hb10.to hB).cell 0 _ rfl), fun vs lo hi wx hB hK => Out.idxS i0 rfl rfl (ltg hx_18) ha_18 Try.underlying87 size_92, fun vs lo hi wx hB hK => Out.loadA rfl agg_92 size_92 ((hh_18.below hb_18 (btr e16 hB)).sub 0 _ rfl), fun vs lo hi wx hB hK => Out.call (by kernel_rfl) (c_spec_l71RowOk _ n ([.slice a_n_Links n.Links.length c_n_Links, .slice a_n_Boxes n.Boxes.length c_n_Boxes]) (show rpLabNet.rd _ _ _ from ⟨_, _, _, _, rfl, h_n_Links.below (btr e16 hB), h_n_Boxes.below (btr e16 hB)⟩) box (((n.Boxes.getD (Int.toNat box) default).Rows).getD i0 default) ([.int .i64 ((((n.Boxes.getD (Int.toNat box) default).Rows).getD i0 default).In), .int .i64 ((((n.Boxes.getD (Int.toNat box) default).Rows).getD i0 default).Next), .int .i64 ((((n.Boxes.getD (Int.toNat box) default).Rows).getD i0 default).Out)]) (show rpLabRow.rd _ _ _ from rfl)) (fun _ _ h => h), fun vs lo hi wx hB hK => Out.asB (Out.of_run (by kernel_rfl)) hB23, fun vs lo hi wx hB hK => Out.asB (Out.of_run (by kernel_rfl)) hB24, fun vs lo hi wx hB hK => Out.load1 rfl agg_87 ((hb10.to hB).cell 0 _ rfl), fun vs lo hi wx hB hK => Out.subI rfl rfl (by omega) (by omega), fun vs lo hi wx hB hK => Out.idxE (Int.toNat ((i0 : Int) - 1)) rfl rfl (by omega) (ltg hx_19) ha_19 Try.underlying87 size_92, fun vs lo hi wx hB hK => Out.load1 rfl agg_3 ((hh_19.below hb_19 (btr e16 hB)) 0 _ rfl), fun vs lo hi wx hB hK => Out.load1 rfl agg_87 ((hb10.to hB).cell 0 _ rfl), fun vs lo hi wx hB hK => Out.idxS i0 rfl rfl (ltg hx_18) ha_18 Try.underlying87 size_92, fun vs lo hi wx hB hK => Out.load1 rfl agg_3 ((hh_18.below hb_18 (btr e16 hB)) 0 _ rfl), trivial⟩) ?_
            rintro vs26 lo26 hi26 w26 hU26
            exact Rest.nil (GQ.sub [(1, .int .i64 box), (2, .pointer (some ⟨(lo1 0), 0, none⟩)), (5, .pointer (some ⟨(lo4 5), 0, none⟩)), (6, .int .i64 (i0 : Int)), (48, .bool ((!(f_spec_l71RowOk n box (((n.Boxes.getD (Int.toNat box) default).Rows).getD i0 default))) || ((decide ((i0 : Int) > (0 : Int))) && (decide (((((n.Boxes.getD (Int.toNat box) default).Rows).getD (Int.toNat ((i0 : Int) - 1)) default).In) ≥ ((((n.Boxes.getD (Int.toNat box) default).Rows).getD i0 default).In))))))] (by (try simp only [hB23]); (try simp only [hB24]); kernel_rfl) (hQ22 _ hU26.1))
        · skip
          have hB23' := hB23
          try simp only [bs, within, l71In, isLabel] at hB23'
          refine GC.reg 29 [D (.agg #[.slice a_n_Links n.Links.length c_n_Links, .slice a_n_Boxes n.Boxes.length c_n_Boxes]), W (.int .i64 box), W (.pointer (some ⟨(lo4 5), 0, none⟩)), D (.slice a__3_1 (((n.Boxes.getD (Int.toNat box) default).Rows).length) c__3_1), W (.int .i64 (i0 : Int)), D (.pointer (some ⟨(ab a__3_1), ao a__3_1 + i0 * 3, none⟩)), D (.agg #[.int .i64 ((((n.Boxes.getD (Int.toNat box) default).Rows).getD i0 default).In), .int .i64 ((((n.Boxes.getD (Int.toNat box) default).Rows).getD i0 default).Next), .int .i64 ((((n.Boxes.getD (Int.toNat box) default).Rows).getD i0 default).Out)]), D (.bool (f_spec_l71RowOk n box (((n.Boxes.getD (Int.toNat box) default).Rows).getD i0 default))), D (.bool true), W (.bool true), S, S, S, S, S, S, S, S, S, S, S, S, S, S, S, S, S, S, W (.bool true)] mixed (fun vs w => by kernel_rfl) (⟨fun vs lo hi wx hB hK => Out.loadA rfl agg_27 size_27 ((hb1_0.to hB).has 0 _ rfl), fun vs lo hi wx hB hK => Out.load1 rfl agg_87 ((hb10.to hB).cell 0 _ rfl), fun vs lo hi wx hB hK => Out.idxS i0 rfl rfl (ltg hx_18) ha_18 Try.underlying87 size_92, fun vs lo hi wx hB hK => Out.loadA rfl agg_92 size_92 ((hh_18.below hb_18 (btr e16 hB)).sub 0 _ rfl), fun vs lo hi wx hB hK => Out.call (by kernel_rfl) (c_spec_l71RowOk _ n ([.slice a_n_Links n.Links.length c_n_Links, .slice a_n_Boxes n.Boxes.length c_n_Boxes]) (show rpLabNet.rd _ _ _ from ⟨_, _, _, _, rfl, h_n_Links.below (btr e16 hB), h_n_Boxes.below (btr e16 hB)⟩) box (((n.Boxes.getD (Int.toNat box) default).Rows).getD i0 default) ([.int .i64 ((((n.Boxes.getD (Int.toNat box) default).Rows).getD i0 default).In), .int .i64 ((((n.Boxes.getD (Int.toNat box) default).Rows).getD i0 default).Next), .int .i64 ((((n.Boxes.getD (Int.toNat box) default).Rows).getD i0 default).Out)]) (show rpLabRow.rd _ _ _ from rfl)) (fun _ _ h => h), fun vs lo hi wx hB hK => Out.asB (Out.of_run (by kernel_rfl)) hB23, trivial⟩) ?_
          rintro vs27 lo27 hi27 w27 hU27
          exact Rest.nil (GQ.sub [(1, .int .i64 box), (2, .pointer (some ⟨(lo1 0), 0, none⟩)), (5, .pointer (some ⟨(lo4 5), 0, none⟩)), (6, .int .i64 (i0 : Int)), (48, .bool ((!(f_spec_l71RowOk n box (((n.Boxes.getD (Int.toNat box) default).Rows).getD i0 default))) || ((decide ((i0 : Int) > (0 : Int))) && (decide (((((n.Boxes.getD (Int.toNat box) default).Rows).getD (Int.toNat ((i0 : Int) - 1)) default).In) ≥ ((((n.Boxes.getD (Int.toNat box) default).Rows).getD i0 default).In))))))] (by (try simp only [hB23]); kernel_rfl) (hQ22 _ hU27.1))
      · skip
        have e28 := btr e16 hE21
        replace hb1_0 := hb1_0.to hE21
        replace hb10 := hb10.to hE21
        have hw29 := chg_trb hw17 hE21
        refine GQ.on ?_
        refine GC.cond ((!(f_spec_l71RowOk n box (((n.Boxes.getD (Int.toNat box) default).Rows).getD i0 default))) || ((decide ((i0 : Int) > (0 : Int))) && (decide (((((n.Boxes.getD (Int.toNat box) default).Rows).getD (Int.toNat ((i0 : Int) - 1)) default).In) ≥ ((((n.Boxes.getD (Int.toNat box) default).Rows).getD i0 default).In))))) rfl (fun hc1 => ?_) (fun hc1 => ?_)
        · skip
          have hc1' := hc1
          try simp only [bs, within, l71In, isLabel] at hc1'
          refine GC.seq ?_
          refine GC.regW [W (.bool false)] [(4, .bool false)] mixed rfl (fun vs w => by kernel_rfl) rfl (fun vs => by kernel_rfl) ?_
          refine GQ.on ?_
          refine GC.ret ?_
          refine GQ.blockRet ?_
          refine GQ.passRet ?_
          refine GQ.passRet ?_
          refine GQ.blockRet ?_
          refine GQ.passRet ?_
          refine GQ.ret1 (.bool false) rfl rfl ?_
          exact ⟨_, rfl, congrArg (Value.bool) (finR (runL_ret hI0 (cndT hc0 (cndT hc1 rfl))) rfl), e28⟩
        · skip
          have hc1' := hc1
          try simp only [bs, within, l71In, isLabel] at hc1'
          refine GC.skip ?_
          refine GQ.blockEnd ?_
          refine GQ.on ?_
          refine GC.reg 3 [W (.int .i64 (i0 : Int)), D (.int .i64 ((i0 : Int) + 1)), W (.int .i64 ((i0 : Int) + 1))] mixed (fun vs w => by kernel_rfl) (⟨fun vs lo hi wx hB hK => Out.add rfl rfl (by omega) (by omega), trivial⟩) ?_
          rintro vs30 lo30 hi30 w30 hU30
          have e31 := btr e28 hU30.1
          replace hb1_0 := hb1_0.to hU30.1
          replace hb10 := hb10.to hU30.1
          have hw32 := chg_trb hw29 hU30.1
          refine Rest.nil (GQ.sub [(1, .int .i64 box), (2, .pointer (some ⟨(lo1 0), 0, none⟩)), (5, .pointer (some ⟨(lo4 5), 0, none⟩)), (6, .int .i64 ((i0 : Int) + 1))] (by kernel_rfl) ?_)
          exact GQ.next (m, i0 + 1) (by kernel_rfl) ⟨hw32, runL_next hI0 (cndT hc0 (cndF hc1 rfl)), (by omega)⟩ (Nat.lt_succ_self _)
    · skip
      have hc0' := hc0
      try simp only [bs, within, l71In, isLabel] at hc0'
      refine GC.exit ?_
      refine GQ.pass ?_
      refine GQ.pass ?_
      refine GQ.blockOut ?_
      exact GQ.sub [(1, .int .i64 box), (2, .pointer (some ⟨(lo1 0), 0, none⟩)), (5, .pointer (some ⟨(lo4 5), 0, none⟩))] (by kernel_rfl) (hq0 i0 _ ⟨hw17, runL_done hI0 (cndF hc0 rfl), hc0⟩)
  · skip
    rintro i0 w33 ⟨hw34, hD0, hx0_0⟩
    have e35 := chg_below e11 (Nat.le_refl _) hw34 (fun _ h => h.elim)
    replace hb1_0 := hb1_0.chg hw34 (fun h => h)
    replace hb10 := hb10.chg hw34 (fun h => h)
    have hx0_0' := hx0_0
    try simp only [bs, within, l71In, isLabel] at hx0_0'
    refine GQ.on ?_
    refine GC.seq ?_
    refine GC.seq ?_
    refine GC.regW [W (.int .i64 0)] [(1, .int .i64 box), (2, .pointer (some ⟨(lo1 0), 0, none⟩)), (5, .pointer (some ⟨(lo4 5), 0, none⟩)), (7, .int .i64 0)] mixed rfl (fun vs w => by kernel_rfl) rfl (fun vs => by kernel_rfl) ?_
    refine GQ.on ?_
    refine GC.join (ι := Nat) (fun i => []) (fun i w' => Chg (fun _ : Nat => False) w33 w' ∧ (runL (f_spec_l71BoxOk_s1 n box i0) ((Int.toNat ((((n.Boxes.getD (Int.toNat box) default).Guards).length : Int) - (0 : Int))) + 1) 0) = Lp.done i ∧ (decide ((i : Int) < (((n.Boxes.getD (Int.toNat box) default).Guards).length : Int))) = false) (fun hq1 => ?_) ?_
    · skip
      refine GC.block ?_
      refine GC.loop (ι := Nat × Nat) (fun i => [(1, .int .i64 box), (2, .pointer (some ⟨(lo1 0), 0, none⟩)), (5, .pointer (some ⟨(lo4 5), 0, none⟩)), (7, .int .i64 (i.2 : Int))]) (fun i w' => Chg (fun _ : Nat => False) w33 w' ∧ runL (f_spec_l71BoxOk_s1 n box i0) i.1 i.2 = (runL (f_spec_l71BoxOk_s1 n box i0) ((Int.toNat ((((n.Boxes.getD (Int.toNat box) default).Guards).length : Int) - (0 : Int))) + 1) 0) ∧ Int.toNat ((((n.Boxes.getD (Int.toNat box) default).Guards).length : Int) - (i.2 : Int)) < i.1) (fun i => i.1) (((Int.toNat ((((n.Boxes.getD (Int.toNat box) default).Guards).length : Int) - (0 : Int))) + 1), 0) (by kernel_rfl) ⟨chg_refl _ _, rfl, Nat.lt_succ_self _⟩ ?_
      rintro ⟨m, i02⟩ w36 ⟨hw37, hI1, hm1⟩
      obtain ⟨m, rfl⟩ := prev_of_lt hm1
      have e38 := chg_below e35 (Nat.le_refl _) hw37 (fun _ h => h.elim)
      replace hb1_0 := hb1_0.chg hw37 (fun h => h)
      replace hb10 := hb10.chg hw37 (fun h => h)
      refine GC.seq ?_
      refine GC.seq ?_
      refine GC.reg 5 [W (.int .i64 (i02 : Int)), W (.pointer (some ⟨(lo4 5), 1, none⟩)), D (.slice a__3_2 (((n.Boxes.getD (Int.toNat box) default).Guards).length) c__3_2), W (.int .i64 (((n.Boxes.getD (Int.toNat box) default).Guards).length : Int)), W (.bool (decide ((i02 : Int) < (((n.Boxes.getD (Int.toNat box) default).Guards).length : Int))))] mixed (fun vs w => by kernel_rfl) (⟨fun vs lo hi wx hB hK => Out.load1 rfl agg_88 ((hb10.to hB).cell 1 _ rfl), trivial⟩) ?_
      rintro vs39 lo39 hi39 w39 hU39
      have e40 := btr e38 hU39.1
      replace hb1_0 := hb1_0.to hU39.1
      replace hb10 := hb10.to hU39.1
      have hw41 := chg_trb hw37 hU39.1
      refine Rest.nil (GQ.sub [(1, .int .i64 box), (2, .pointer (some ⟨(lo1 0), 0, none⟩)), (5, .pointer (some ⟨(lo4 5), 0, none⟩)), (7, .int .i64 (i02 : Int)), (53, .bool (decide ((i02 : Int) < (((n.Boxes.getD (Int.toNat box) default).Guards).length : Int))))] (by kernel_rfl) ?_)
      refine GQ.on ?_
      refine GC.cond (decide ((i02 : Int) < (((n.Boxes.getD (Int.toNat box) default).Guards).length : Int))) rfl (fun hc2 => ?_) (fun hc2 => ?_)
      · skip
        have hc2' := hc2
        try simp only [bs, within, l71In, isLabel] at hc2'
        refine GC.skip ?_
        refine GQ.on ?_
        refine GC.seq ?_
        refine GC.block ?_
        refine GC.seq ?_
        have hx_42 : ((n.Boxes.getD (Int.toNat box) default).Guards)[i02]? = some (((n.Boxes.getD (Int.toNat box) default).Guards).getD i02 default) := getD_some (by omega)
        obtain ⟨ha_42, hb_42, cs_42, hl_42, hh_42, hr_42⟩ := h__3_2.2.2 i02 (((n.Boxes.getD (Int.toNat box) default).Guards).getD i02 default) hx_42
        obtain rfl := hr_42
        have hx_43 : ((n.Boxes.getD (Int.toNat box) default).Guards)[Int.toNat ((i02 : Int) - 1)]? = some (((n.Boxes.getD (Int.toNat box) default).Guards).getD (Int.toNat ((i02 : Int) - 1)) default) := getD_some (by omega)
        obtain ⟨ha_43, hb_43, cs_43, hl_43, hh_43, hr_43⟩ := h__3_2.2.2 (Int.toNat ((i02 : Int) - 1)) (((n.Boxes.getD (Int.toNat box) default).Guards).getD (Int.toNat ((i02 : Int) - 1)) default) hx_43
        obtain rfl := hr_43
        refine GC.abs [(1, .int .i64 box), (2, .pointer (some ⟨(lo1 0), 0, none⟩)), (5, .pointer (some ⟨(lo4 5), 0, none⟩)), (7, .int .i64 (i02 : Int)), (84, .bool ((!(f_spec_l71ViaOk n box (((n.Boxes.getD (Int.toNat box) default).Guards).getD i02 default))) || ((decide ((i02 : Int) > (0 : Int))) && (decide (((((n.Boxes.getD (Int.toNat box) default).Guards).getD (Int.toNat ((i02 : Int) - 1)) default).To) ≥ ((((n.Boxes.getD (Int.toNat box) default).Guards).getD i02 default).To))))))] (fun w' => Below w39.heap.size w39 w') (fun Q' hQ46 => ?_) (fun w44 hE45 => ?_)
        · skip
          cases hB47 : (!(f_spec_l71ViaOk n box (((n.Boxes.getD (Int.toNat box) default).Guards).getD i02 default)))
          · skip
            have hB47' := hB47
            try simp only [bs, within, l71In, isLabel] at hB47'
            cases hB48 : (decide ((i02 : Int) > (0 : Int)))
            · skip
              have hB48' := hB48
              try simp only [bs, within, l71In, isLabel] at hB48'
              refine GC.reg 29 [D (.agg #[.slice a_n_Links n.Links.length c_n_Links, .slice a_n_Boxes n.Boxes.length c_n_Boxes]), W (.int .i64 box), W (.pointer (some ⟨(lo4 5), 1, none⟩)), D (.slice a__3_2 (((n.Boxes.getD (Int.toNat box) default).Guards).length) c__3_2), W (.int .i64 (i02 : Int)), D (.pointer (some ⟨(ab a__3_2), ao a__3_2 + i02 * 3, none⟩)), D (.agg #[.int .i64 ((((n.Boxes.getD (Int.toNat box) default).Guards).getD i02 default).To), .int .i64 ((((n.Boxes.getD (Int.toNat box) default).Guards).getD i02 default).Via), .int .i64 ((((n.Boxes.getD (Int.toNat box) default).Guards).getD i02 default).Push)]), D (.bool (f_spec_l71ViaOk n box (((n.Boxes.getD (Int.toNat box) default).Guards).getD i02 default))), D (.bool false), W (.bool false), W (.int .i64 (i02 : Int)), D (.bool false), W (.bool false), S, S, S, S, S, S, S, S, S, S, S, S, S, S, W (.bool false), W (.bool false)] mixed (fun vs w => by kernel_rfl) (⟨fun vs lo hi wx hB hK => Out.loadA rfl agg_27 size_27 ((hb1_0.to hB).has 0 _ rfl), fun vs lo hi wx hB hK => Out.load1 rfl agg_88 ((hb10.to hB).cell 1 _ rfl), fun vs lo hi wx hB hK => Out.idxS i02 rfl rfl (ltg hx_42) ha_42 Try.underlying88 size_119, fun vs lo hi wx hB hK => Out.loadA rfl agg_119 size_119 ((hh_42.below hb_42 (btr e40 hB)).sub 0 _ rfl), fun vs lo hi wx hB hK => Out.call (by kernel_rfl) (c_spec_l71ViaOk _ n ([.slice a_n_Links n.Links.length c_n_Links, .slice a_n_Boxes n.Boxes.length c_n_Boxes]) (show rpLabNet.rd _ _ _ from ⟨_, _, _, _, rfl, h_n_Links.below (btr e40 hB), h_n_Boxes.below (btr e40 hB)⟩) box (((n.Boxes.getD (Int.toNat box) default).Guards).getD i02 default) ([.int .i64 ((((n.Boxes.getD (Int.toNat box) default).Guards).getD i02 default).To), .int .i64 ((((n.Boxes.getD (Int.toNat box) default).Guards).getD i02 default).Via), .int .i64 ((((n.Boxes.getD (Int.toNat box) default).Guards).getD i02 default).Push)]) (show rpLabVia.rd _ _ _ from rfl)) (fun _ _ h => h), fun vs lo hi wx hB hK => Out.asB (Out.of_run (by kernel_rfl)) hB47, fun vs lo hi wx hB hK => Out.asB (Out.of_run (by kernel_rfl)) hB48, trivial⟩) ?_
              rintro vs49 lo49 hi49 w49 hU49
              exact Rest.nil (GQ.sub [(1, .int .i64 box), (2, .pointer (some ⟨(lo1 0), 0, none⟩)), (5, .pointer (some ⟨(lo4 5), 0, none⟩)), (7, .int .i64 (i02 : Int)), (84, .bool ((!(f_spec_l71ViaOk n box (((n.Boxes.getD (Int.toNat box) default).Guards).getD i02 default))) || ((decide ((i02 : Int) > (0 : Int))) && (decide (((((n.Boxes.getD (Int.toNat box) default).Guards).getD (Int.toNat ((i02 : Int) - 1)) default).To) ≥ ((((n.Boxes.getD (Int.toNat box) default).Guards).getD i02 default).To))))))] (by (try simp only [hB47]); (try simp only [hB48]); kernel_rfl) (hQ46 _ hU49.1))
            · skip
              have hB48' := hB48
              try simp only [bs, within, l71In, isLabel] at hB48'
              refine GC.reg 29 [D (.agg #[.slice a_n_Links n.Links.length c_n_Links, .slice a_n_Boxes n.Boxes.length c_n_Boxes]), W (.int .i64 box), W (.pointer (some ⟨(lo4 5), 1, none⟩)), D (.slice a__3_2 (((n.Boxes.getD (Int.toNat box) default).Guards).length) c__3_2), W (.int .i64 (i02 : Int)), D (.pointer (some ⟨(ab a__3_2), ao a__3_2 + i02 * 3, none⟩)), D (.agg #[.int .i64 ((((n.Boxes.getD (Int.toNat box) default).Guards).getD i02 default).To), .int .i64 ((((n.Boxes.getD (Int.toNat box) default).Guards).getD i02 default).Via), .int .i64 ((((n.Boxes.getD (Int.toNat box) default).Guards).getD i02 default).Push)]), D (.bool (f_spec_l71ViaOk n box (((n.Boxes.getD (Int.toNat box) default).Guards).getD i02 default))), D (.bool false), W (.bool false), W (.int .i64 (i02 : Int)), D (.bool true), W (.bool true), W (.pointer (some ⟨(lo4 5), 1, none⟩)), D (.slice a__3_2 (((n.Boxes.getD (Int.toNat box) default).Guards).length) c__3_2), W (.int .i64 (i02 : Int)), D (.int .i64 ((i02 : Int) - 1)), D (.pointer (some ⟨(ab a__3_2), ao a__3_2 + (Int.toNat ((i02 : Int) - 1)) * 3, none⟩)), W (.pointer (some ⟨(ab a__3_2), ao a__3_2 + (Int.toNat ((i02 : Int) - 1)) * 3, none⟩)), D (.int .i64 ((((n.Boxes.getD (Int.toNat box) default).Guards).getD (Int.toNat ((i02 : Int) - 1)) default).To)), W (.pointer (some ⟨(lo4 5), 1, none⟩)), D (.slice a__3_2 (((n.Boxes.getD (Int.toNat box) default).Guards).length) c__3_2), W (.int .i64 (i02 : Int)), D (.pointer (some ⟨(ab a__3_2), ao a__3_2 + i02 * 3, none⟩)), W (.pointer (some ⟨(ab a__3_2), ao a__3_2 + i02 * 3, none⟩)), D (.int .i64 ((((n.Boxes.getD (Int.toNat box) default).Guards).getD i02 default).To)), W (.bool (decide (((((n.Boxes.getD (Int.toNat box) default).Guards).getD (Int.toNat ((i02 : Int) - 1)) default).To) ≥ ((((n.Boxes.getD (Int.toNat box) default).Guards).getD i02 default).To)))), W (.bool (decide (((((n.Boxes.getD (Int.toNat box) default).Guards).getD (Int.toNat ((i02 : Int) - 1)) default).To) ≥ ((((n.Boxes.getD (Int.toNat box) default).Guards).getD i02 default).To)))), W (.bool (decide (((((n.Boxes.getD (Int.toNat box) default).Guards).getD (Int.toNat ((i02 : Int) - 1)) default).To) ≥ ((((n.Boxes.getD (Int.toNat box) default).Guards).getD i02 default).To))))] mixed (fun vs w => by kernel_rfl) (⟨fun vs lo hi wx hB hK => Out.loadA rfl agg_27 size_27 ((hb1_0.to hB).has 0 _ rfl), fun vs lo hi wx hB hK => Out.load1 rfl agg_88 ((hb10.to hB).cell 1 _ rfl), fun vs lo hi wx hB hK => Out.idxS i02 rfl rfl (ltg hx_42) ha_42 Try.underlying88 size_119, fun vs lo hi wx hB hK => Out.loadA rfl agg_119 size_119 ((hh_42.below hb_42 (btr e40 hB)).sub 0 _ rfl), fun vs lo hi wx hB hK => Out.call (by kernel_rfl) (c_spec_l71ViaOk _ n ([.slice a_n_Links n.Links.length c_n_Links, .slice a_n_Boxes n.Boxes.length c_n_Boxes]) (show rpLabNet.rd _ _ _ from ⟨_, _, _, _, rfl, h_n_Links.below (btr e40 hB), h_n_Boxes.below (btr e40 hB)⟩) box (((n.Boxes.getD (Int.toNat box) default).Guards).getD i02 default) ([.int .i64 ((((n.Boxes.getD (Int.toNat box) default).Guards).getD i02 default).To), .int .i64 ((((n.Boxes.getD (Int.toNat box) default).Guards).getD i02 default).Via), .int .i64 ((((n.Boxes.getD (Int.toNat box) default).Guards).getD i02 default).Push)]) (show rpLabVia.rd _ _ _ from rfl)) (fun _ _ h => h), fun vs lo hi wx hB hK => Out.asB (Out.of_run (by kernel_rfl)) hB47, fun vs lo hi wx hB hK => Out.asB (Out.of_run (by kernel_rfl)) hB48, fun vs lo hi wx hB hK => Out.load1 rfl agg_88 ((hb10.to hB).cell 1 _ rfl), fun vs lo hi wx hB hK => Out.subI rfl rfl (by omega) (by omega), fun vs lo hi wx hB hK => Out.idxE (Int.toNat ((i02 : Int) - 1)) rfl rfl (by omega) (ltg hx_43) ha_43 Try.underlying88 size_119, fun vs lo hi wx hB hK => Out.load1 rfl agg_3 ((hh_43.below hb_43 (btr e40 hB)) 0 _ rfl), fun vs lo hi wx hB hK => Out.load1 rfl agg_88 ((hb10.to hB).cell 1 _ rfl), fun vs lo hi wx hB hK => Out.idxS i02 rfl rfl (ltg hx_42) ha_42 Try.underlying88 size_119, fun vs lo hi wx hB hK => Out.load1 rfl agg_3 ((hh_42.below hb_42 (btr e40 hB)) 0 _ rfl), trivial⟩) ?_
              rintro vs50 lo50 hi50 w50 hU50
              exact Rest.nil (GQ.sub [(1, .int .i64 box), (2, .pointer (some ⟨(lo1 0), 0, none⟩)), (5, .pointer (some ⟨(lo4 5), 0, none⟩)), (7, .int .i64 (i02 : Int)), (84, .bool ((!(f_spec_l71ViaOk n box (((n.Boxes.getD (Int.toNat box) default).Guards).getD i02 default))) || ((decide ((i02 : Int) > (0 : Int))) && (decide (((((n.Boxes.getD (Int.toNat box) default).Guards).getD (Int.toNat ((i02 : Int) - 1)) default).To) ≥ ((((n.Boxes.getD (Int.toNat box) default).Guards).getD i02 default).To))))))] (by (try simp only [hB47]); (try simp only [hB48]); kernel_rfl) (hQ46 _ hU50.1))
          · skip
            have hB47' := hB47
            try simp only [bs, within, l71In, isLabel] at hB47'
            refine GC.reg 29 [D (.agg #[.slice a_n_Links n.Links.length c_n_Links, .slice a_n_Boxes n.Boxes.length c_n_Boxes]), W (.int .i64 box), W (.pointer (some ⟨(lo4 5), 1, none⟩)), D (.slice a__3_2 (((n.Boxes.getD (Int.toNat box) default).Guards).length) c__3_2), W (.int .i64 (i02 : Int)), D (.pointer (some ⟨(ab a__3_2), ao a__3_2 + i02 * 3, none⟩)), D (.agg #[.int .i64 ((((n.Boxes.getD (Int.toNat box) default).Guards).getD i02 default).To), .int .i64 ((((n.Boxes.getD (Int.toNat box) default).Guards).getD i02 default).Via), .int .i64 ((((n.Boxes.getD (Int.toNat box) default).Guards).getD i02 default).Push)]), D (.bool (f_spec_l71ViaOk n box (((n.Boxes.getD (Int.toNat box) default).Guards).getD i02 default))), D (.bool true), W (.bool true), S, S, S, S, S, S, S, S, S, S, S, S, S, S, S, S, S, S, W (.bool true)] mixed (fun vs w => by kernel_rfl) (⟨fun vs lo hi wx hB hK => Out.loadA rfl agg_27 size_27 ((hb1_0.to hB).has 0 _ rfl), fun vs lo hi wx hB hK => Out.load1 rfl agg_88 ((hb10.to hB).cell 1 _ rfl), fun vs lo hi wx hB hK => Out.idxS i02 rfl rfl (ltg hx_42) ha_42 Try.underlying88 size_119, fun vs lo hi wx hB hK => Out.loadA rfl agg_119 size_119 ((hh_42.below hb_42 (btr e40 hB)).sub 0 _ rfl), fun vs lo hi wx hB hK => Out.call (by kernel_rfl) (c_spec_l71ViaOk _ n ([.slice a_n_Links n.Links.length c_n_Links, .slice a_n_Boxes n.Boxes.length c_n_Boxes]) (show rpLabNet.rd _ _ _ from ⟨_, _, _, _, rfl, h_n_Links.below (btr e40 hB), h_n_Boxes.below (btr e40 hB)⟩) box (((n.Boxes.getD (Int.toNat box) default).Guards).getD i02 default) ([.int .i64 ((((n.Boxes.getD (Int.toNat box) default).Guards).getD i02 default).To), .int .i64 ((((n.Boxes.getD (Int.toNat box) default).Guards).getD i02 default).Via), .int .i64 ((((n.Boxes.getD (Int.toNat box) default).Guards).getD i02 default).Push)]) (show rpLabVia.rd _ _ _ from rfl)) (fun _ _ h => h), fun vs lo hi wx hB hK => Out.asB (Out.of_run (by kernel_rfl)) hB47, trivial⟩) ?_
            rintro vs51 lo51 hi51 w51 hU51
            exact Rest.nil (GQ.sub [(1, .int .i64 box), (2, .pointer (some ⟨(lo1 0), 0, none⟩)), (5, .pointer (some ⟨(lo4 5), 0, none⟩)), (7, .int .i64 (i02 : Int)), (84, .bool ((!(f_spec_l71ViaOk n box (((n.Boxes.getD (Int.toNat box) default).Guards).getD i02 default))) || ((decide ((i02 : Int) > (0 : Int))) && (decide (((((n.Boxes.getD (Int.toNat box) default).Guards).getD (Int.toNat ((i02 : Int) - 1)) default).To) ≥ ((((n.Boxes.getD (Int.toNat box) default).Guards).getD i02 default).To))))))] (by (try simp only [hB47]); kernel_rfl) (hQ46 _ hU51.1))
        · skip
          have e52 := btr e40 hE45
          replace hb1_0 := hb1_0.to hE45
          replace hb10 := hb10.to hE45
          have hw53 := chg_trb hw41 hE45
          refine GQ.on ?_
          refine GC.cond ((!(f_spec_l71ViaOk n box (((n.Boxes.getD (Int.toNat box) default).Guards).getD i02 default))) || ((decide ((i02 : Int) > (0 : Int))) && (decide (((((n.Boxes.getD (Int.toNat box) default).Guards).getD (Int.toNat ((i02 : Int) - 1)) default).To) ≥ ((((n.Boxes.getD (Int.toNat box) default).Guards).getD i02 default).To))))) rfl (fun hc3 => ?_) (fun hc3 => ?_)
          · skip
            have hc3' := hc3
            try simp only [bs, within, l71In, isLabel] at hc3'
            refine GC.seq ?_
            refine GC.regW [W (.bool false)] [(4, .bool false)] mixed rfl (fun vs w => by kernel_rfl) rfl (fun vs => by kernel_rfl) ?_
            refine GQ.on ?_
            refine GC.ret ?_
            refine GQ.blockRet ?_
            refine GQ.passRet ?_
            refine GQ.passRet ?_
            refine GQ.blockRet ?_
            refine GQ.passRet ?_
            refine GQ.ret1 (.bool false) rfl rfl ?_
            exact ⟨_, rfl, congrArg (Value.bool) (finD hD0 (finR (runL_ret hI1 (cndT hc2 (cndT hc3 rfl))) rfl)), e52⟩
          · skip
            have hc3' := hc3
            try simp only [bs, within, l71In, isLabel] at hc3'
            refine GC.skip ?_
            refine GQ.blockEnd ?_
            refine GQ.on ?_
            refine GC.reg 3 [W (.int .i64 (i02 : Int)), D (.int .i64 ((i02 : Int) + 1)), W (.int .i64 ((i02 : Int) + 1))] mixed (fun vs w => by kernel_rfl) (⟨fun vs lo hi wx hB hK => Out.add rfl rfl (by omega) (by omega), trivial⟩) ?_
            rintro vs54 lo54 hi54 w54 hU54
            have e55 := btr e52 hU54.1
            replace hb1_0 := hb1_0.to hU54.1
            replace hb10 := hb10.to hU54.1
            have hw56 := chg_trb hw53 hU54.1
            refine Rest.nil (GQ.sub [(1, .int .i64 box), (2, .pointer (some ⟨(lo1 0), 0, none⟩)), (5, .pointer (some ⟨(lo4 5), 0, none⟩)), (7, .int .i64 ((i02 : Int) + 1))] (by kernel_rfl) ?_)
            exact GQ.next (m, i02 + 1) (by kernel_rfl) ⟨hw56, runL_next hI1 (cndT hc2 (cndF hc3 rfl)), (by omega)⟩ (Nat.lt_succ_self _)
      · skip
        have hc2' := hc2
        try simp only [bs, within, l71In, isLabel] at hc2'
        refine GC.exit ?_
        refine GQ.pass ?_
        refine GQ.pass ?_
        refine GQ.blockOut ?_
        exact GQ.sub [] (by kernel_rfl) (hq1 i02 _ ⟨hw41, runL_done hI1 (cndF hc2 rfl), hc2⟩)
    · skip
      rintro i02 w57 ⟨hw58, hD1, hx1_0⟩
      have e59 := chg_below e35 (Nat.le_refl _) hw58 (fun _ h => h.elim)
      replace hb1_0 := hb1_0.chg hw58 (fun h => h)
      replace hb10 := hb10.chg hw58 (fun h => h)
      have hx1_0' := hx1_0
      try simp only [bs, within, l71In, isLabel] at hx1_0'
      refine GQ.on ?_
      refine GC.seq ?_
      refine GC.regW [W (.bool true)] [(4, .bool true)] mixed rfl (fun vs w => by kernel_rfl) rfl (fun vs => by kernel_rfl) ?_
      refine GQ.on ?_
      refine GC.ret ?_
      refine GQ.ret1 (.bool true) rfl rfl ?_
      exact ⟨_, rfl, congrArg (Value.bool) (finD hD0 (finD hD1 rfl)), e59⟩
def f_spec_LabNetOk_s0 (n : LabNet) : Nat → Lp Nat Bool := fun i0 => bif (decide ((i0 : Int) < (n.Boxes.length : Int))) then (bif (!(f_spec_l71BoxOk n (i0 : Int))) then (Lp.ret false) else (Lp.next (i0 + 1))) else (Lp.done i0)
def f_spec_LabNetOk (n : LabNet) : Bool := bif (!(f_spec_l71Frame n)) then false else (Lp.fin (runL (f_spec_LabNetOk_s0 n) ((Int.toNat ((n.Boxes.length : Int) - (0 : Int))) + 1) 0) id (fun i0 => true))
/-- spec.LabNetOk -/
theorem c_spec_LabNetOk (w : World) (n : LabNet) (cs_n : List Value) (h_n : rpLabNet.rd w cs_n n) :
    Calls Try.prog 22 #[.agg cs_n.toArray] w fun e w' => ∃ rv, e = .returned rv ∧ (rv = .bool (f_spec_LabNetOk n) ∧ Below w.heap.size w w') := by
  obtain ⟨a_n_Links, c_n_Links, a_n_Boxes, c_n_Boxes, rfl, h_n_Links, h_n_Boxes⟩ := h_n
  have lh_n_Links := h_n_Links.2.1
  have lh_n_Boxes := h_n_Boxes.2.1
  refine enter [(0, .agg #[.slice a_n_Links n.Links.length c_n_Links, .slice a_n_Boxes n.Boxes.length c_n_Boxes])] Try.func22 rfl (by kernel_rfl) (by kernel_rfl) ?_
  have e0 := brefl w
  refine GC.seq ?_
  refine GC.reg 2 [RB 0 27 [.slice a_n_Links n.Links.length c_n_Links, .slice a_n_Boxes n.Boxes.length c_n_Boxes], W (.bool false)] mixed (fun vs w => by kernel_rfl) (⟨fun vs lo hi wx hB hK => Out.box rfl, trivial⟩) ?_
  rintro vs1 lo1 hi1 w1 hU1
  have e2 := btr e0 hU1.1
  obtain ⟨⟨hv1_0, hp1_0, hb1_0⟩, hl1_0, -, -⟩ := hU1.2.1 0 _ rfl trivial
  have hl1_0b := Nat.le_trans e0.size hl1_0
  refine Rest.nil (GQ.sub [(1, .pointer (some ⟨(lo1 0), 0, none⟩))] (by rw [← hv1_0]; kernel_rfl) ?_)
  refine GQ.on ?_
  refine GC.seq ?_
  refine GC.seq ?_
  refine GC.reg 3 [D (.agg #[.slice a_n_Links n.Links.length c_n_Links, .slice a_n_Boxes n.Boxes.length c_n_Boxes]), D (.bool (f_spec_l71Frame n)), W (.bool (!(f_spec_l71Frame n)))] mixed (fun vs w => by kernel_rfl) (⟨fun vs lo hi wx hB hK => Out.loadA rfl agg_27 size_27 ((hb1_0.to hB).has 0 _ rfl), fun vs lo hi wx hB hK => Out.call (by kernel_rfl) (c_spec_l71Frame _ n ([.slice a_n_Links n.Links.length c_n_Links, .slice a_n_Boxes n.Boxes.length c_n_Boxes]) (show rpLabNet.rd _ _ _ from ⟨_, _, _, _, rfl, h_n_Links.below (btr e2 hB), h_n_Boxes.below (btr e2 hB)⟩)) (fun _ _ h => h), trivial⟩) ?_
  rintro vs3 lo3 hi3 w3 hU3
  have e4 := btr e2 hU3.1
  replace hb1_0 := hb1_0.to hU3.1
  refine Rest.nil (GQ.sub [(1, .pointer (some ⟨(lo1 0), 0, none⟩)), (6, .bool (!(f_spec_l71Frame n)))] (by kernel_rfl) ?_)
  refine GQ.on ?_
  refine GC.cond (!(f_spec_l71Frame n)) rfl (fun hc0 => ?_) (fun hc0 => ?_)
  · skip
    have hc0' := hc0
    try simp only [bs, within, l71In, isLabel] at hc0'
    refine GC.seq ?_
    refine GC.regW [W (.bool false)] [(2, .bool false)] mixed rfl (fun vs w => by kernel_rfl) rfl (fun vs => by kernel_rfl) ?_
    refine GQ.on ?_
    refine GC.ret ?_
    refine GQ.passRet ?_
    refine GQ.ret1 (.bool false) rfl rfl ?_
    exact ⟨_, rfl, congrArg (Value.bool) (cndT hc0 rfl), e4⟩
  · skip
    have hc0' := hc0
    try simp only [bs, within, l71In, isLabel] at hc0'
    refine GC.skip ?_
    refine GQ.on ?_
    refine GC.seq ?_
    refine GC.seq ?_
    refine GC.regW [W (.int .i64 0)] [(1, .pointer (some ⟨(lo1 0), 0, none⟩)), (3, .int .i64 0)] mixed rfl (fun vs w => by kernel_rfl) rfl (fun vs => by kernel_rfl) ?_
    refine GQ.on ?_
    refine GC.join (ι := Nat) (fun i => []) (fun i w' => Chg (fun _ : Nat => False) w3 w' ∧ (runL (f_spec_LabNetOk_s0 n) ((Int.toNat ((n.Boxes.length : Int) - (0 : Int))) + 1) 0) = Lp.done i ∧ (decide ((i : Int) < (n.Boxes.length : Int))) = false) (fun hq0 => ?_) ?_
    · skip
      refine GC.block ?_
      refine GC.loop (ι := Nat × Nat) (fun i => [(1, .pointer (some ⟨(lo1 0), 0, none⟩)), (3, .int .i64 (i.2 : Int))]) (fun i w' => Chg (fun _ : Nat => False) w3 w' ∧ runL (f_spec_LabNetOk_s0 n) i.1 i.2 = (runL (f_spec_LabNetOk_s0 n) ((Int.toNat ((n.Boxes.length : Int) - (0 : Int))) + 1) 0) ∧ Int.toNat ((n.Boxes.length : Int) - (i.2 : Int)) < i.1) (fun i => i.1) (((Int.toNat ((n.Boxes.length : Int) - (0 : Int))) + 1), 0) (by kernel_rfl) ⟨chg_refl _ _, rfl, Nat.lt_succ_self _⟩ ?_
      rintro ⟨m, i0⟩ w5 ⟨hw6, hI0, hm0⟩
      obtain ⟨m, rfl⟩ := prev_of_lt hm0
      have e7 := chg_below e4 (Nat.le_refl _) hw6 (fun _ h => h.elim)
      replace hb1_0 := hb1_0.chg hw6 (fun h => h)
      refine GC.seq ?_
      refine GC.seq ?_
      refine GC.reg 5 [W (.int .i64 (i0 : Int)), W (.pointer (some ⟨(lo1 0), 1, none⟩)), D (.slice a_n_Boxes n.Boxes.length c_n_Boxes), W (.int .i64 (n.Boxes.length : Int)), W (.bool (decide ((i0 : Int) < (n.Boxes.length : Int))))] mixed (fun vs w => by kernel_rfl) (⟨fun vs lo hi wx hB hK => Out.load1 rfl agg_25 ((hb1_0.to hB).cell 1 _ rfl), trivial⟩) ?_
      rintro vs8 lo8 hi8 w8 hU8
      have e9 := btr e7 hU8.1
      replace hb1_0 := hb1_0.to hU8.1
      have hw10 := chg_trb hw6 hU8.1
      refine Rest.nil (GQ.sub [(1, .pointer (some ⟨(lo1 0), 0, none⟩)), (3, .int .i64 (i0 : Int)), (11, .bool (decide ((i0 : Int) < (n.Boxes.length : Int))))] (by kernel_rfl) ?_)
      refine GQ.on ?_
      refine GC.cond (decide ((i0 : Int) < (n.Boxes.length : Int))) rfl (fun hc1 => ?_) (fun hc1 => ?_)
      · skip
        have hc1' := hc1
        try simp only [bs, within, l71In, isLabel] at hc1'
        refine GC.skip ?_
        refine GQ.on ?_
        refine GC.seq ?_
        refine GC.block ?_
        refine GC.seq ?_
        refine GC.reg 4 [D (.agg #[.slice a_n_Links n.Links.length c_n_Links, .slice a_n_Boxes n.Boxes.length c_n_Boxes]), W (.int .i64 (i0 : Int)), D (.bool (f_spec_l71BoxOk n (i0 : Int))), W (.bool (!(f_spec_l71BoxOk n (i0 : Int))))] mixed (fun vs w => by kernel_rfl) (⟨fun vs lo hi wx hB hK => Out.loadA rfl agg_27 size_27 ((hb1_0.to hB).has 0 _ rfl), fun vs lo hi wx hB hK => Out.call (by kernel_rfl) (c_spec_l71BoxOk _ n ([.slice a_n_Links n.Links.length c_n_Links, .slice a_n_Boxes n.Boxes.length c_n_Boxes]) (show rpLabNet.rd _ _ _ from ⟨_, _, _, _, rfl, h_n_Links.below (btr e9 hB), h_n_Boxes.below (btr e9 hB)⟩) (i0 : Int) (by omega)) (fun _ _ h => h), trivial⟩) ?_
        rintro vs11 lo11 hi11 w11 hU11
        have e12 := btr e9 hU11.1
        replace hb1_0 := hb1_0.to hU11.1
        have hw13 := chg_trb hw10 hU11.1
        refine Rest.nil (GQ.sub [(1, .pointer (some ⟨(lo1 0), 0, none⟩)), (3, .int .i64 (i0 : Int)), (17, .bool (!(f_spec_l71BoxOk n (i0 : Int))))] (by kernel_rfl) ?_)
        refine GQ.on ?_
        refine GC.cond (!(f_spec_l71BoxOk n (i0 : Int))) rfl (fun hc2 => ?_) (fun hc2 => ?_)
        · skip
          have hc2' := hc2
          try simp only [bs, within, l71In, isLabel] at hc2'
          refine GC.seq ?_
          refine GC.regW [W (.bool false)] [(2, .bool false)] mixed rfl (fun vs w => by kernel_rfl) rfl (fun vs => by kernel_rfl) ?_
          refine GQ.on ?_
          refine GC.ret ?_
          refine GQ.blockRet ?_
          refine GQ.passRet ?_
          refine GQ.passRet ?_
          refine GQ.blockRet ?_
          refine GQ.passRet ?_
          refine GQ.ret1 (.bool false) rfl rfl ?_
          exact ⟨_, rfl, congrArg (Value.bool) (cndF hc0 (finR (runL_ret hI0 (cndT hc1 (cndT hc2 rfl))) rfl)), e12⟩
        · skip
          have hc2' := hc2
          try simp only [bs, within, l71In, isLabel] at hc2'
          refine GC.skip ?_
          refine GQ.blockEnd ?_
          refine GQ.on ?_
          refine GC.reg 3 [W (.int .i64 (i0 : Int)), D (.int .i64 ((i0 : Int) + 1)), W (.int .i64 ((i0 : Int) + 1))] mixed (fun vs w => by kernel_rfl) (⟨fun vs lo hi wx hB hK => Out.add rfl rfl (by omega) (by omega), trivial⟩) ?_
          rintro vs14 lo14 hi14 w14 hU14
          have e15 := btr e12 hU14.1
          replace hb1_0 := hb1_0.to hU14.1
          have hw16 := chg_trb hw13 hU14.1
          refine Rest.nil (GQ.sub [(1, .pointer (some ⟨(lo1 0), 0, none⟩)), (3, .int .i64 ((i0 : Int) + 1))] (by kernel_rfl) ?_)
          exact GQ.next (m, i0 + 1) (by kernel_rfl) ⟨hw16, runL_next hI0 (cndT hc1 (cndF hc2 rfl)), (by omega)⟩ (Nat.lt_succ_self _)
      · skip
        have hc1' := hc1
        try simp only [bs, within, l71In, isLabel] at hc1'
        refine GC.exit ?_
        refine GQ.pass ?_
        refine GQ.pass ?_
        refine GQ.blockOut ?_
        exact GQ.sub [] (by kernel_rfl) (hq0 i0 _ ⟨hw10, runL_done hI0 (cndF hc1 rfl), hc1⟩)
    · skip
      rintro i0 w17 ⟨hw18, hD0, hx0_0⟩
      have e19 := chg_below e4 (Nat.le_refl _) hw18 (fun _ h => h.elim)
      replace hb1_0 := hb1_0.chg hw18 (fun h => h)
      have hx0_0' := hx0_0
      try simp only [bs, within, l71In, isLabel] at hx0_0'
      refine GQ.on ?_
      refine GC.seq ?_
      refine GC.regW [W (.bool true)] [(2, .bool true)] mixed rfl (fun vs w => by kernel_rfl) rfl (fun vs => by kernel_rfl) ?_
      refine GQ.on ?_
      refine GC.ret ?_
      refine GQ.ret1 (.bool true) rfl rfl ?_
      exact ⟨_, rfl, congrArg (Value.bool) (cndF hc0 (finD hD0 rfl)), e19⟩
def f_impl_LabLinked (n : LabNet) (a : Int) (b : Int) : Bool := (f_impl_LabNetOk n) && (decide ((f_impl_LabNet__link n a b) ≥ (0 : Int)))
/-- impl.LabLinked -/
theorem c_impl_LabLinked (w : World) (n : LabNet) (cs_n : List Value) (h_n : rpLabNet.rd w cs_n n) (a : Int) (b : Int) :
    Calls Try.prog 26 #[.agg cs_n.toArray, .int .i64 a, .int .i64 b] w fun e w' => ∃ rv, e = .returned rv ∧ (rv = .bool (f_impl_LabLinked n a b) ∧ Below w.heap.size w w') := by
  obtain ⟨a_n_Links, c_n_Links, a_n_Boxes, c_n_Boxes, rfl, h_n_Links, h_n_Boxes⟩ := h_n
  have lh_n_Links := h_n_Links.2.1
  have lh_n_Boxes := h_n_Boxes.2.1
  refine enter [(0, .agg #[.slice a_n_Links n.Links.length c_n_Links, .slice a_n_Boxes n.Boxes.length c_n_Boxes]), (1, .int .i64 a), (2, .int .i64 b)] Try.func26 rfl (by kernel_rfl) (by kernel_rfl) ?_
  have e0 := brefl w
  refine GC.seq ?_
  refine GC.reg 2 [RB 0 27 [.slice a_n_Links n.Links.length c_n_Links, .slice a_n_Boxes n.Boxes.length c_n_Boxes], W (.bool false)] mixed (fun vs w => by kernel_rfl) (⟨fun vs lo hi wx hB hK => Out.box rfl, trivial⟩) ?_
  rintro vs1 lo1 hi1 w1 hU1
  have e2 := btr e0 hU1.1
  obtain ⟨⟨hv1_0, hp1_0, hb1_0⟩, hl1_0, -, -⟩ := hU1.2.1 0 _ rfl trivial
  have hl1_0b := Nat.le_trans e0.size hl1_0
  refine Rest.nil (GQ.sub [(1, .int .i64 a), (2, .int .i64 b), (3, .pointer (some ⟨(lo1 0), 0, none⟩))] (by rw [← hv1_0]; kernel_rfl) ?_)
  refine GQ.on ?_
  refine GC.seq ?_
  refine GC.abs [(6, .bool ((f_impl_LabNetOk n) && (decide ((f_impl_LabNet__link n a b) ≥ (0 : Int)))))] (fun w' => Below w1.heap.size w1 w') (fun Q' hQ5 => ?_) (fun w3 hE4 => ?_)
  · skip
    cases hB6 : (f_impl_LabNetOk n)
    · skip
      have hB6' := hB6
      try simp only [bs, within, l71In, isLabel] at hB6'
      refine GC.reg 10 [D (.agg #[.slice a_n_Links n.Links.length c_n_Links, .slice a_n_Boxes n.Boxes.length c_n_Boxes]), D (.bool false), W (.bool false), S, S, S, S, S, W (.bool false), W (.bool false)] mixed (fun vs w => by kernel_rfl) (⟨fun vs lo hi wx hB hK => Out.loadA rfl agg_27 size_27 ((hb1_0.to hB).has 0 _ rfl), fun vs lo hi wx hB hK => Out.asB (Out.call (by kernel_rfl) (c_impl_LabNetOk _ n ([.slice a_n_Links n.Links.length c_n_Links, .slice a_n_Boxes n.Boxes.length c_n_Boxes]) (show rpLabNet.rd _ _ _ from ⟨_, _, _, _, rfl, h_n_Links.below (btr e2 hB), h_n_Boxes.below (btr e2 hB)⟩)) (fun _ _ h => h)) hB6, trivial⟩) ?_
      rintro vs7 lo7 hi7 w7 hU7
      exact Rest.nil (GQ.sub [(6, .bool ((f_impl_LabNetOk n) && (decide ((f_impl_LabNet__link n a b) ≥ (0 : Int)))))] (by (try simp only [hB6]); kernel_rfl) (hQ5 _ hU7.1))
    · skip
      have hB6' := hB6
      try simp only [bs, within, l71In, isLabel] at hB6'
      refine GC.reg 10 [D (.agg #[.slice a_n_Links n.Links.length c_n_Links, .slice a_n_Boxes n.Boxes.length c_n_Boxes]), D (.bool true), W (.bool true), D (.agg #[.slice a_n_Links n.Links.length c_n_Links, .slice a_n_Boxes n.Boxes.length c_n_Boxes]), W (.int .i64 a), W (.int .i64 b), D (.int .i64 (f_impl_LabNet__link n a b)), W (.bool (decide ((f_impl_LabNet__link n a b) ≥ (0 : Int)))), W (.bool (decide ((f_impl_LabNet__link n a b) ≥ (0 : Int)))), W (.bool (decide ((f_impl_LabNet__link n a b) ≥ (0 : Int))))] mixed (fun vs w => by kernel_rfl) (⟨fun vs lo hi wx hB hK => Out.loadA rfl agg_27 size_27 ((hb1_0.to hB).has 0 _ rfl), fun vs lo hi wx hB hK => Out.asB (Out.call (by kernel_rfl) (c_impl_LabNetOk _ n ([.slice a_n_Links n.Links.length c_n_Links, .slice a_n_Boxes n.Boxes.length c_n_Boxes]) (show rpLabNet.rd _ _ _ from ⟨_, _, _, _, rfl, h_n_Links.below (btr e2 hB), h_n_Boxes.below (btr e2 hB)⟩)) (fun _ _ h => h)) hB6, fun vs lo hi wx hB hK => Out.loadA rfl agg_27 size_27 ((hb1_0.to hB).has 0 _ rfl), fun vs lo hi wx hB hK => Out.call (by kernel_rfl) (c_impl_LabNet__link _ n ([.slice a_n_Links n.Links.length c_n_Links, .slice a_n_Boxes n.Boxes.length c_n_Boxes]) (show rpLabNet.rd _ _ _ from ⟨_, _, _, _, rfl, h_n_Links.below (btr e2 hB), h_n_Boxes.below (btr e2 hB)⟩) a b) (fun _ _ h => h), trivial⟩) ?_
      rintro vs8 lo8 hi8 w8 hU8
      exact Rest.nil (GQ.sub [(6, .bool ((f_impl_LabNetOk n) && (decide ((f_impl_LabNet__link n a b) ≥ (0 : Int)))))] (by (try simp only [hB6]); kernel_rfl) (hQ5 _ hU8.1))
  · skip
    have e9 := btr e2 hE4
    replace hb1_0 := hb1_0.to hE4
    refine GQ.on ?_
    refine GC.ret ?_
    refine GQ.ret1 (.bool ((f_impl_LabNetOk n) && (decide ((f_impl_LabNet__link n a b) ≥ (0 : Int))))) rfl rfl ?_
    exact ⟨_, rfl, congrArg (Value.bool) rfl, e9⟩
def f_spec_LabLinked (n : LabNet) (a : Int) (b : Int) : Bool := (f_spec_LabNetOk n) && (decide ((f_spec_l71Link n a b) ≥ (0 : Int)))
/-- spec.LabLinked -/
theorem c_spec_LabLinked (w : World) (n : LabNet) (cs_n : List Value) (h_n : rpLabNet.rd w cs_n n) (a : Int) (b : Int) :
    Calls Try.prog 25 #[.agg cs_n.toArray, .int .i64 a, .int .i64 b] w fun e w' => ∃ rv, e = .returned rv ∧ (rv = .bool (f_spec_LabLinked n a b) ∧ Below w.heap.size w w') := by
  obtain ⟨a_n_Links, c_n_Links, a_n_Boxes, c_n_Boxes, rfl, h_n_Links, h_n_Boxes⟩ := h_n
  have lh_n_Links := h_n_Links.2.1
  have lh_n_Boxes := h_n_Boxes.2.1
  refine enter [(0, .agg #[.slice a_n_Links n.Links.length c_n_Links, .slice a_n_Boxes n.Boxes.length c_n_Boxes]), (1, .int .i64 a), (2, .int .i64 b)] Try.func25 rfl (by kernel_rfl) (by kernel_rfl) ?_
  have e0 := brefl w
  refine GC.seq ?_
  refine GC.reg 2 [RB 0 27 [.slice a_n_Links n.Links.length c_n_Links, .slice a_n_Boxes n.Boxes.length c_n_Boxes], W (.bool false)] mixed (fun vs w => by kernel_rfl) (⟨fun vs lo hi wx hB hK => Out.box rfl, trivial⟩) ?_
  rintro vs1 lo1 hi1 w1 hU1
  have e2 := btr e0 hU1.1
  obtain ⟨⟨hv1_0, hp1_0, hb1_0⟩, hl1_0, -, -⟩ := hU1.2.1 0 _ rfl trivial
  have hl1_0b := Nat.le_trans e0.size hl1_0
  refine Rest.nil (GQ.sub [(1, .int .i64 a), (2, .int .i64 b), (3, .pointer (some ⟨(lo1 0), 0, none⟩))] (by rw [← hv1_0]; kernel_rfl) ?_)
  refine GQ.on ?_
  refine GC.seq ?_
  refine GC.abs [(6, .bool ((f_spec_LabNetOk n) && (decide ((f_spec_l71Link n a b) ≥ (0 : Int)))))] (fun w' => Below w1.heap.size w1 w') (fun Q' hQ5 => ?_) (fun w3 hE4 => ?_)
  · skip
    cases hB6 : (f_spec_LabNetOk n)
    · skip
      have hB6' := hB6
      try simp only [bs, within, l71In, isLabel] at hB6'
      refine GC.reg 10 [D (.agg #[.slice a_n_Links n.Links.length c_n_Links, .slice a_n_Boxes n.Boxes.length c_n_Boxes]), D (.bool false), W (.bool false), S, S, S, S, S, W (.bool false), W (.bool false)] mixed (fun vs w => by kernel_rfl) (⟨fun vs lo hi wx hB hK => Out.loadA rfl agg_27 size_27 ((hb1_0.to hB).has 0 _ rfl), fun vs lo hi wx hB hK => Out.asB (Out.call (by kernel_rfl) (c_spec_LabNetOk _ n ([.slice a_n_Links n.Links.length c_n_Links, .slice a_n_Boxes n.Boxes.length c_n_Boxes]) (show rpLabNet.rd _ _ _ from ⟨_, _, _, _, rfl, h_n_Links.below (btr e2 hB), h_n_Boxes.below (btr e2 hB)⟩)) (fun _ _ h => h)) hB6, trivial⟩) ?_
      rintro vs7 lo7 hi7 w7 hU7
      exact Rest.nil (GQ.sub [(6, .bool ((f_spec_LabNetOk n) && (decide ((f_spec_l71Link n a b) ≥ (0 : Int)))))] (by (try simp only [hB6]); kernel_rfl) (hQ5 _ hU7.1))
    · skip
      have hB6' := hB6
      try simp only [bs, within, l71In, isLabel] at hB6'
      refine GC.reg 10 [D (.agg #[.slice a_n_Links n.Links.length c_n_Links, .slice a_n_Boxes n.Boxes.length c_n_Boxes]), D (.bool true), W (.bool true), D (.agg #[.slice a_n_Links n.Links.length c_n_Links, .slice a_n_Boxes n.Boxes.length c_n_Boxes]), W (.int .i64 a), W (.int .i64 b), D (.int .i64 (f_spec_l71Link n a b)), W (.bool (decide ((f_spec_l71Link n a b) ≥ (0 : Int)))), W (.bool (decide ((f_spec_l71Link n a b) ≥ (0 : Int)))), W (.bool (decide ((f_spec_l71Link n a b) ≥ (0 : Int))))] mixed (fun vs w => by kernel_rfl) (⟨fun vs lo hi wx hB hK => Out.loadA rfl agg_27 size_27 ((hb1_0.to hB).has 0 _ rfl), fun vs lo hi wx hB hK => Out.asB (Out.call (by kernel_rfl) (c_spec_LabNetOk _ n ([.slice a_n_Links n.Links.length c_n_Links, .slice a_n_Boxes n.Boxes.length c_n_Boxes]) (show rpLabNet.rd _ _ _ from ⟨_, _, _, _, rfl, h_n_Links.below (btr e2 hB), h_n_Boxes.below (btr e2 hB)⟩)) (fun _ _ h => h)) hB6, fun vs lo hi wx hB hK => Out.loadA rfl agg_27 size_27 ((hb1_0.to hB).has 0 _ rfl), fun vs lo hi wx hB hK => Out.call (by kernel_rfl) (c_spec_l71Link _ n ([.slice a_n_Links n.Links.length c_n_Links, .slice a_n_Boxes n.Boxes.length c_n_Boxes]) (show rpLabNet.rd _ _ _ from ⟨_, _, _, _, rfl, h_n_Links.below (btr e2 hB), h_n_Boxes.below (btr e2 hB)⟩) a b) (fun _ _ h => h), trivial⟩) ?_
      rintro vs8 lo8 hi8 w8 hU8
      exact Rest.nil (GQ.sub [(6, .bool ((f_spec_LabNetOk n) && (decide ((f_spec_l71Link n a b) ≥ (0 : Int)))))] (by (try simp only [hB6]); kernel_rfl) (hQ5 _ hU8.1))
  · skip
    have e9 := btr e2 hE4
    replace hb1_0 := hb1_0.to hE4
    refine GQ.on ?_
    refine GC.ret ?_
    refine GQ.ret1 (.bool ((f_spec_LabNetOk n) && (decide ((f_spec_l71Link n a b) ≥ (0 : Int))))) rfl rfl ?_
    exact ⟨_, rfl, congrArg (Value.bool) rfl, e9⟩
end Go.Proofs.Ytfehpdcfndhniaa
