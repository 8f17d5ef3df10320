import Derived.Test.YtjobanclhkjniaaRows
import Derived.Test.YtjobanclhkjniaaK3
import Derived.Test.YtjobanclhkjniaaK4
namespace Go.Proofs.Ytjobanclhkjniaa
open Go.RowKit Go.ChangeShapes Go.WideShapes Go.ChangeAt
theorem mixed : Try.prog.follows .mixedOrders = true := Checked.mixed Try.checked
structure FragPacket where
  Src : Int
  Dst : Int
  Kind : Int
  Id : Int
  Hops : Int
  Whole : Bool
  Off : Int
  More : Bool
  Data : List UInt8
  deriving DecidableEq
def rpFragPacket : Rp FragPacket where
  sz := 9
  rd w cs x := ∃ a1 c1, cs = [.int .i64 x.Src, .int .i64 x.Dst, .int .i64 x.Kind, .int .i64 x.Id, .int .i64 x.Hops, .bool x.Whole, .int .i64 x.Off, .bool x.More, .slice a1 x.Data.length c1] ∧ SlR rpByte w a1 c1 x.Data
  mono e h := by obtain ⟨a1, c1, rfl, h1⟩ := h; exact ⟨_, _, rfl, h1.below e⟩
  own w cs x fp := ∃ a1 c1 f1, cs = [.int .i64 x.Src, .int .i64 x.Dst, .int .i64 x.Kind, .int .i64 x.Id, .int .i64 x.Hops, .bool x.Whole, .int .i64 x.Off, .bool x.More, .slice a1 x.Data.length c1] ∧ SlO rpByte w a1 c1 x.Data f1 ∧ fp = f1 ∧ fp.Nodup
  own_rd h := by obtain ⟨a1, c1, f1, rfl, h1, -, -⟩ := h; exact ⟨_, _, rfl, h1.read⟩
  own_keep h hk := by obtain ⟨a1, c1, f1, rfl, h1, rfl, nd⟩ := h; exact ⟨_, _, _, rfl, h1.keep (fun b hb => hk b hb), rfl, nd⟩
  own_lt h := by
    obtain ⟨a1, c1, f1, rfl, h1, rfl, -⟩ := h
    intro b hb
    exact h1.lt b hb
  own_nd h := by obtain ⟨a1, c1, f1, -, -, -, nd⟩ := h; exact nd
  rd_len h := by obtain ⟨a1, c1, rfl, -⟩ := h; rfl
  own_one h := by obtain ⟨a1, c1, f1, rfl, -⟩ := h; rfl
theorem agg_3 : aggOf Try.prog 3 = some false := by kernel_rfl
theorem size_3 : (Try.prog.info? 3).map (·.size) = some 1 := by kernel_rfl
theorem agg_4 : aggOf Try.prog 4 = some false := by kernel_rfl
theorem size_4 : (Try.prog.info? 4).map (·.size) = some 1 := by kernel_rfl
theorem agg_5 : aggOf Try.prog 5 = some false := by kernel_rfl
theorem size_5 : (Try.prog.info? 5).map (·.size) = some 1 := by kernel_rfl
theorem agg_28 : aggOf Try.prog 28 = some false := by kernel_rfl
theorem size_28 : (Try.prog.info? 28).map (·.size) = some 1 := by kernel_rfl
theorem agg_30 : aggOf Try.prog 30 = some true := by kernel_rfl
theorem size_30 : (Try.prog.info? 30).map (·.size) = some 9 := by kernel_rfl
theorem agg_33 : aggOf Try.prog 33 = some true := by kernel_rfl
theorem size_33 : (Try.prog.info? 33).map (·.size) = some 9 := by kernel_rfl
def within (n : Int) (lo : Int) (hi : Int) : Bool := (decide (lo ≤ n)) && (decide (n ≤ hi))
/-- impl.within -/
theorem c_impl_within (w : World) (n : Int) (lo : Int) (hi : Int) :
    Calls Try.prog 25 #[.int .i64 n, .int .i64 lo, .int .i64 hi] w fun e w' => ∃ rv, e = .returned rv ∧ (rv = .bool (within n lo hi) ∧ Below w.heap.size w w') := by
  refine enter [(0, .int .i64 n), (1, .int .i64 lo), (2, .int .i64 hi)] Try.func25 rfl (by kernel_rfl) (by kernel_rfl) ?_
  have e0 := brefl w
  refine GC.seq ?_
  refine GC.regW [W (.bool false)] [(0, .int .i64 n), (1, .int .i64 lo), (2, .int .i64 hi)] mixed rfl (fun vs w => by kernel_rfl) rfl (fun vs => by kernel_rfl) ?_
  refine GQ.on ?_
  refine GC.seq ?_
  refine GC.abs [(6, .bool ((decide (lo ≤ n)) && (decide (n ≤ hi))))] (fun w' => Below w.heap.size w w') (fun Q' hQ3 => ?_) (fun w1 hE2 => ?_)
  · skip
    cases hB4 : (decide (lo ≤ n))
    · skip
      have hB4' := hB4
      try simp at hB4'
      refine GC.reg 9 [W (.int .i64 lo), W (.int .i64 n), D (.bool false), W (.bool false), S, S, S, W (.bool false), W (.bool false)] mixed (fun vs w => by kernel_rfl) (⟨fun vs lo hi wx hB hK => Out.asB (Out.of_run (by kernel_rfl)) hB4, trivial⟩) ?_
      rintro vs5 lo5 hi5 w5 hU5
      exact Rest.nil (GQ.sub [(6, .bool ((decide (lo ≤ n)) && (decide (n ≤ hi))))] (by (try simp only [hB4]); kernel_rfl) (hQ3 _ hU5.1))
    · skip
      have hB4' := hB4
      try simp at hB4'
      refine GC.reg 9 [W (.int .i64 lo), W (.int .i64 n), D (.bool true), W (.bool true), W (.int .i64 n), W (.int .i64 hi), W (.bool (decide (n ≤ hi))), W (.bool (decide (n ≤ hi))), W (.bool (decide (n ≤ hi)))] mixed (fun vs w => by kernel_rfl) (⟨fun vs lo hi wx hB hK => Out.asB (Out.of_run (by kernel_rfl)) hB4, trivial⟩) ?_
      rintro vs6 lo6 hi6 w6 hU6
      exact Rest.nil (GQ.sub [(6, .bool ((decide (lo ≤ n)) && (decide (n ≤ hi))))] (by (try simp only [hB4]); kernel_rfl) (hQ3 _ hU6.1))
  · skip
    have e7 := btr e0 hE2
    refine GQ.on ?_
    refine GC.ret ?_
    refine GQ.ret1 (.bool ((decide (lo ≤ n)) && (decide (n ≤ hi)))) rfl rfl ?_
    exact ⟨_, rfl, congrArg (Value.bool) rfl, e7⟩
def l11In (n : Int) (lo : Int) (hi : Int) : Bool := (decide (n ≥ lo)) && (decide (n ≤ hi))
/-- spec.l11In -/
theorem c_spec_l11In (w : World) (n : Int) (lo : Int) (hi : Int) :
    Calls Try.prog 42 #[.int .i64 n, .int .i64 lo, .int .i64 hi] w fun e w' => ∃ rv, e = .returned rv ∧ (rv = .bool (l11In n lo hi) ∧ Below w.heap.size w w') := by
  refine enter [(0, .int .i64 n), (1, .int .i64 lo), (2, .int .i64 hi)] Try.func42 rfl (by kernel_rfl) (by kernel_rfl) ?_
  have e0 := brefl w
  refine GC.seq ?_
  refine GC.regW [W (.bool false)] [(0, .int .i64 n), (1, .int .i64 lo), (2, .int .i64 hi)] mixed rfl (fun vs w => by kernel_rfl) rfl (fun vs => by kernel_rfl) ?_
  refine GQ.on ?_
  refine GC.seq ?_
  refine GC.abs [(6, .bool ((decide (n ≥ lo)) && (decide (n ≤ hi))))] (fun w' => Below w.heap.size w w') (fun Q' hQ3 => ?_) (fun w1 hE2 => ?_)
  · skip
    cases hB4 : (decide (n ≥ lo))
    · skip
      have hB4' := hB4
      try simp at hB4'
      refine GC.reg 9 [W (.int .i64 n), W (.int .i64 lo), D (.bool false), W (.bool false), S, S, S, W (.bool false), W (.bool false)] mixed (fun vs w => by kernel_rfl) (⟨fun vs lo hi wx hB hK => Out.asB (Out.of_run (by kernel_rfl)) hB4, trivial⟩) ?_
      rintro vs5 lo5 hi5 w5 hU5
      exact Rest.nil (GQ.sub [(6, .bool ((decide (n ≥ lo)) && (decide (n ≤ hi))))] (by (try simp only [hB4]); kernel_rfl) (hQ3 _ hU5.1))
    · skip
      have hB4' := hB4
      try simp at hB4'
      refine GC.reg 9 [W (.int .i64 n), W (.int .i64 lo), D (.bool true), W (.bool true), W (.int .i64 n), W (.int .i64 hi), W (.bool (decide (n ≤ hi))), W (.bool (decide (n ≤ hi))), W (.bool (decide (n ≤ hi)))] mixed (fun vs w => by kernel_rfl) (⟨fun vs lo hi wx hB hK => Out.asB (Out.of_run (by kernel_rfl)) hB4, trivial⟩) ?_
      rintro vs6 lo6 hi6 w6 hU6
      exact Rest.nil (GQ.sub [(6, .bool ((decide (n ≥ lo)) && (decide (n ≤ hi))))] (by (try simp only [hB4]); kernel_rfl) (hQ3 _ hU6.1))
  · skip
    have e7 := btr e0 hE2
    refine GQ.on ?_
    refine GC.ret ?_
    refine GQ.ret1 (.bool ((decide (n ≥ lo)) && (decide (n ≤ hi)))) rfl rfl ?_
    exact ⟨_, rfl, congrArg (Value.bool) rfl, e7⟩
def szByteS (a : List UInt8) (left : Int) : Int := bif (decide ((left - (a.length : Int)) < (0 : Int))) then (-1) else (left - (a.length : Int))
/-- laws.szByteS -/
theorem c_laws_szByteS (w : World) (a_a : Option Addr) (c_a : Nat) (a : List UInt8) (h_a : SlR rpByte w a_a c_a a) (left : Int) (hl : 0 ≤ left ∧ left ≤ 1048576) :
    Calls Try.prog 26 #[.slice a_a a.length c_a, .int .i64 left] w fun e w' => ∃ rv, e = .returned rv ∧ (rv = .int .i64 (szByteS a left) ∧ Below w.heap.size w w') := by
  refine enter [(0, .slice a_a a.length c_a), (1, .int .i64 left)] Try.func26 rfl (by kernel_rfl) (by kernel_rfl) ?_
  have e0 := brefl w
  have ha := h_a.2.1
  refine GC.seq ?_
  refine GC.regW [W (.int .i64 0)] [(0, .slice a_a a.length c_a), (1, .int .i64 left)] mixed rfl (fun vs w => by kernel_rfl) rfl (fun vs => by kernel_rfl) ?_
  refine GQ.on ?_
  refine GC.seq ?_
  refine GC.reg 5 [W (.int .i64 left), W (.slice a_a a.length c_a), W (.int .i64 (a.length : Int)), D (.int .i64 (left - (a.length : Int))), W (.int .i64 (left - (a.length : Int)))] mixed (fun vs w => by kernel_rfl) (⟨fun vs lo hi wx hB hK => Out.subI rfl rfl (by omega) (by omega), trivial⟩) ?_
  rintro vs1 lo1 hi1 w1 hU1
  have e2 := btr e0 hU1.1
  refine Rest.nil (GQ.sub [(1, .int .i64 (left - (a.length : Int)))] (by kernel_rfl) ?_)
  refine GQ.on ?_
  refine GC.seq ?_
  refine GC.seq ?_
  refine GC.regW [W (.int .i64 (left - (a.length : Int))), W (.bool (decide ((left - (a.length : Int)) < (0 : Int))))] [(1, .int .i64 (left - (a.length : Int))), (10, .bool (decide ((left - (a.length : Int)) < (0 : Int))))] mixed rfl (fun vs w => by kernel_rfl) rfl (fun vs => by kernel_rfl) ?_
  refine GQ.on ?_
  refine GC.cond (decide ((left - (a.length : Int)) < (0 : Int))) rfl (fun hc0 => ?_) (fun hc0 => ?_)
  · skip
    have hc0' := hc0
    try simp at hc0'
    refine GC.seq ?_
    refine GC.regW [W (.int .i64 (-1))] [(4, .int .i64 (-1))] mixed rfl (fun vs w => by kernel_rfl) rfl (fun vs => by kernel_rfl) ?_
    refine GQ.on ?_
    refine GC.ret ?_
    refine GQ.passRet ?_
    refine GQ.ret1 (.int .i64 (-1)) rfl rfl ?_
    exact ⟨_, rfl, congrArg (Value.int .i64) (cndT hc0 rfl), e2⟩
  · skip
    have hc0' := hc0
    try simp at hc0'
    refine GC.skip ?_
    refine GQ.on ?_
    refine GC.seq ?_
    refine GC.regW [W (.int .i64 (left - (a.length : Int))), W (.int .i64 (left - (a.length : Int)))] [(4, .int .i64 (left - (a.length : Int)))] mixed rfl (fun vs w => by kernel_rfl) rfl (fun vs => by kernel_rfl) ?_
    refine GQ.on ?_
    refine GC.ret ?_
    refine GQ.ret1 (.int .i64 (left - (a.length : Int))) rfl rfl ?_
    exact ⟨_, rfl, congrArg (Value.int .i64) (cndF hc0 rfl), e2⟩
def szFragPacket (a : FragPacket) (left : Int) : Int := bif (decide ((szByteS a.Data left) < (0 : Int))) then (-1) else (szByteS a.Data left)
/-- laws.szFragPacket -/
theorem c_laws_szFragPacket (w : World) (a : FragPacket) (cs_a : List Value) (h_a : rpFragPacket.rd w cs_a a) (left : Int) (hl : 0 ≤ left ∧ left ≤ 1048576) :
    Calls Try.prog 9 #[.agg cs_a.toArray, .int .i64 left] w fun e w' => ∃ rv, e = .returned rv ∧ (rv = .int .i64 (szFragPacket a left) ∧ Below w.heap.size w w') := by
  obtain ⟨a_a_Data, c_a_Data, rfl, h_a_Data⟩ := h_a
  refine enter [(0, .agg #[.int .i64 a.Src, .int .i64 a.Dst, .int .i64 a.Kind, .int .i64 a.Id, .int .i64 a.Hops, .bool a.Whole, .int .i64 a.Off, .bool a.More, .slice a_a_Data a.Data.length c_a_Data]), (1, .int .i64 left)] Try.func9 rfl (by kernel_rfl) (by kernel_rfl) ?_
  have e0 := brefl w
  refine GC.seq ?_
  refine GC.reg 2 [RB 0 30 [.int .i64 a.Src, .int .i64 a.Dst, .int .i64 a.Kind, .int .i64 a.Id, .int .i64 a.Hops, .bool a.Whole, .int .i64 a.Off, .bool a.More, .slice a_a_Data a.Data.length c_a_Data], W (.int .i64 0)] mixed (fun vs w => by kernel_rfl) (⟨fun vs lo hi wx hB hK => Out.box rfl, trivial⟩) ?_
  rintro vs1 lo1 hi1 w1 hU1
  have e2 := btr e0 hU1.1
  obtain ⟨⟨hv1_0, hp1_0, hb1_0⟩, hl1_0, -, -⟩ := hU1.2.1 0 _ rfl trivial
  have hl1_0b := Nat.le_trans e0.size hl1_0
  refine Rest.nil (GQ.sub [(1, .int .i64 left), (2, .pointer (some ⟨(lo1 0), 0, none⟩))] (by rw [← hv1_0]; kernel_rfl) ?_)
  refine GQ.on ?_
  refine GC.seq ?_
  refine GC.reg 5 [W (.pointer (some ⟨(lo1 0), 8, none⟩)), D (.slice a_a_Data a.Data.length c_a_Data), W (.int .i64 left), D (.int .i64 (szByteS a.Data left)), W (.int .i64 (szByteS a.Data left))] mixed (fun vs w => by kernel_rfl) (⟨fun vs lo hi wx hB hK => Out.load1 rfl agg_28 ((hb1_0.to hB).cell 8 _ rfl), fun vs lo hi wx hB hK => Out.call (by kernel_rfl) (c_laws_szByteS _ a_a_Data c_a_Data a.Data (h_a_Data.below (btr e2 hB)) left (by omega)) (fun _ _ h => h), trivial⟩) ?_
  rintro vs3 lo3 hi3 w3 hU3
  have e4 := btr e2 hU3.1
  replace hb1_0 := hb1_0.to hU3.1
  refine Rest.nil (GQ.sub [(1, .int .i64 (szByteS a.Data left))] (by kernel_rfl) ?_)
  refine GQ.on ?_
  refine GC.seq ?_
  refine GC.seq ?_
  refine GC.regW [W (.int .i64 (szByteS a.Data left)), W (.bool (decide ((szByteS a.Data left) < (0 : Int))))] [(1, .int .i64 (szByteS a.Data left)), (10, .bool (decide ((szByteS a.Data left) < (0 : Int))))] mixed rfl (fun vs w => by kernel_rfl) rfl (fun vs => by kernel_rfl) ?_
  refine GQ.on ?_
  refine GC.cond (decide ((szByteS a.Data left) < (0 : Int))) rfl (fun hc0 => ?_) (fun hc0 => ?_)
  · skip
    have hc0' := hc0
    try simp at hc0'
    refine GC.seq ?_
    refine GC.regW [W (.int .i64 (-1))] [(4, .int .i64 (-1))] mixed rfl (fun vs w => by kernel_rfl) rfl (fun vs => by kernel_rfl) ?_
    refine GQ.on ?_
    refine GC.ret ?_
    refine GQ.passRet ?_
    refine GQ.ret1 (.int .i64 (-1)) rfl rfl ?_
    exact ⟨_, rfl, congrArg (Value.int .i64) (cndT hc0 rfl), e4⟩
  · skip
    have hc0' := hc0
    try simp at hc0'
    refine GC.skip ?_
    refine GQ.on ?_
    refine GC.seq ?_
    refine GC.regW [W (.int .i64 (szByteS a.Data left)), W (.int .i64 (szByteS a.Data left))] [(4, .int .i64 (szByteS a.Data left))] mixed rfl (fun vs w => by kernel_rfl) rfl (fun vs => by kernel_rfl) ?_
    refine GQ.on ?_
    refine GC.ret ?_
    refine GQ.ret1 (.int .i64 (szByteS a.Data left)) rfl rfl ?_
    exact ⟨_, rfl, congrArg (Value.int .i64) (cndF hc0 rfl), e4⟩
/-- laws.toByteS -/
theorem c_laws_toByteS (w : World) (a_a : Option Addr) (c_a : Nat) (a : List UInt8) (h_a : SlR rpByte w a_a c_a a) (hr : a.length ≤ 1048576) :
    Calls Try.prog 28 #[.slice a_a a.length c_a] w fun e w' => ∃ rv, e = .returned rv ∧ (Below w.heap.size w w' ∧ FreshL rpByte (a : List UInt8) rv w.heap.size w'.heap.size w') := by
  refine enter [(0, .slice a_a a.length c_a)] Try.func28 rfl (by kernel_rfl) (by kernel_rfl) ?_
  have e0 := brefl w
  refine GC.seq ?_
  refine GC.regW [W (.slice none 0 0)] [(0, .slice a_a a.length c_a)] mixed rfl (fun vs w => by kernel_rfl) rfl (fun vs => by kernel_rfl) ?_
  refine GQ.on ?_
  refine GC.seq ?_
  refine GC.reg 4 [W (.slice a_a a.length c_a), W (.int .i64 (a.length : Int)), RM 2 rpByte (0 : UInt8) a.length, WR [2] (fun l => l.headD undef)] mixed (fun vs w => by kernel_rfl) (⟨fun vs lo hi wx hB hK => Out.make (by' := 1) rpByte (0 : UInt8) (zv := .int .u8 0) rfl rfl Try.underlying28 (by kernel_rfl) (⟨rfl, rfl⟩) (by decide) (by omega) (by omega), trivial⟩) ?_
  rintro vs1 lo1 hi1 w1 hU1
  have e2 := btr e0 hU1.1
  obtain ⟨⟨hv1_2, hp1_2, fp1_2, hO1_2, hf1_2⟩, hl1_2, -, -⟩ := hU1.2.1 2 _ rfl trivial
  have hl1_2b := Nat.le_trans e0.size hl1_2
  have hlo3 := low_of hf1_2 hl1_2b
  refine Rest.nil (GQ.sub [(0, .slice a_a a.length c_a), (3, .slice (some ⟨(lo1 2), 0, none⟩) a.length a.length)] (by rw [← hv1_2]; kernel_rfl) ?_)
  refine GQ.on ?_
  refine GC.seq ?_
  refine GC.seq ?_
  refine GC.regW [W (.int .i64 0)] [(0, .slice a_a a.length c_a), (3, .slice (some ⟨(lo1 2), 0, none⟩) a.length a.length), (4, .int .i64 0)] mixed rfl (fun vs w => by kernel_rfl) rfl (fun vs => by kernel_rfl) ?_
  refine GQ.on ?_
  refine GC.block ?_
  refine GC.loop (ι := Nat) (fun k => [(0, .slice a_a a.length c_a), (3, .slice (some ⟨(lo1 2), 0, none⟩) a.length a.length), (4, .int .i64 (k : Int))]) (fun k w' => Chg (fun b' : Nat => b' = (lo1 2)) w1 w' ∧ (∃ fp, SlO rpByte w' (some ⟨(lo1 2), 0, none⟩) a.length (a.take k ++ List.replicate (a.length - k) 0) fp ∧ (∀ b' ∈ fp, w.heap.size ≤ b')) ∧ (k ≤ a.length)) (fun k => a.length - k) 0 (by kernel_rfl) ⟨chg_refl _ _, ⟨_, (set_start a 0).symm ▸ hO1_2, hlo3⟩, by omega⟩ ?_
  rintro k w4 ⟨hw6, ⟨fp7, hO7, hlo7⟩, hi0_0⟩
  have e5 := chg_below e2 (Nat.le_refl _) hw6 (fun k (h : k = (lo1 2)) => h ▸ hl1_2b)
  refine GC.seq ?_
  refine GC.seq ?_
  refine GC.regW [W (.int .i64 (k : Int)), W (.slice a_a a.length c_a), W (.int .i64 (a.length : Int)), W (.bool (decide ((k : Int) < (a.length : Int))))] [(0, .slice a_a a.length c_a), (3, .slice (some ⟨(lo1 2), 0, none⟩) a.length a.length), (4, .int .i64 (k : Int)), (11, .bool (decide ((k : Int) < (a.length : Int))))] mixed rfl (fun vs w => by kernel_rfl) rfl (fun vs => by kernel_rfl) ?_
  refine GQ.on ?_
  refine GC.cond (decide ((k : Int) < (a.length : Int))) rfl (fun hc0 => ?_) (fun hc0 => ?_)
  · skip
    have hc0' := hc0
    try simp at hc0'
    refine GC.skip ?_
    refine GQ.on ?_
    refine GC.seq ?_
    refine GC.block ?_
    obtain ⟨x_a_k, hx_x_a_k⟩ : ∃ x, a[k]? = some x := ⟨_, List.getElem?_eq_getElem (by omega)⟩
    obtain ⟨ha_x_a_k, hb_x_a_k, cs_x_a_k, hl_x_a_k, hh_x_a_k, hr_x_a_k⟩ := h_a.2.2 k x_a_k hx_x_a_k
    obtain rfl := hr_x_a_k
    refine GC.reg 7 [W (.slice (some ⟨(lo1 2), 0, none⟩) a.length a.length), W (.int .i64 (k : Int)), W (.slice a_a a.length c_a), W (.int .i64 (k : Int)), D (.pointer (some ⟨(ab a_a), ao a_a + k * 1, none⟩)), D (.int .u8 (x_a_k.toNat : Int)), D (.pointer (some ⟨(lo1 2), 0 + k * 1, none⟩))] mixed (fun vs w => by kernel_rfl) (⟨fun vs lo hi wx hB hK => Out.idxS k rfl rfl (ltg hx_x_a_k) ha_x_a_k Try.underlying28 size_5, fun vs lo hi wx hB hK => Out.load1 rfl agg_5 ((hh_x_a_k.below hb_x_a_k (btr e5 hB)) 0 _ rfl), fun vs lo hi wx hB hK => Out.idx rfl rfl (by have := ltg hx_x_a_k; first | omega | (simp; omega)) Try.underlying28 size_5, trivial⟩) ?_
    rintro vs8 lo8 hi8 w8 hU8
    have e9 := btr e5 hU8.1
    replace hO7 := hO7.below hU8.1
    have hw10 := chg_trb hw6 hU8.1
    refine Rest.sub [(0, .slice a_a a.length c_a), (3, .slice (some ⟨(lo1 2), 0, none⟩) a.length a.length), (4, .int .i64 (k : Int)), (19, .int .u8 (x_a_k.toNat : Int)), (20, .pointer (some ⟨(lo1 2), 0 + k * 1, none⟩))] (by kernel_rfl) ?_
    refine Rest.storeO k x_a_k [.int .u8 (x_a_k.toNat : Int)] [] hO7 (by have := ltg hx_x_a_k; first | omega | (simp; omega)) rfl (Nat.zero_add _) rfl size_5 (⟨rfl, rfl⟩) (mem_nil) ?_
    intro w11 fp11 hC11 hO11 hs11
    have hlo11 := mem_sub hs11 hlo7 mem_nil
    have e12 := bchg1 e9 (Nat.le_refl _) hC11 hl1_2b
    have hw13 := chg_tr1 hw10 hC11 (.inr rfl)
    refine Rest.nil (GQ.sub [(0, .slice a_a a.length c_a), (3, .slice (some ⟨(lo1 2), 0, none⟩) a.length a.length), (4, .int .i64 (k : Int))] (by kernel_rfl) ?_)
    refine GQ.blockEnd ?_
    refine GQ.on ?_
    refine GC.reg 3 [W (.int .i64 (k : Int)), D (.int .i64 ((k : Int) + 1)), W (.int .i64 ((k : Int) + 1))] mixed (fun vs w => by kernel_rfl) (⟨fun vs lo hi wx hB hK => Out.add rfl rfl (by omega) (by omega), trivial⟩) ?_
    rintro vs14 lo14 hi14 w14 hU14
    have e15 := btr e12 hU14.1
    replace hO11 := hO11.below hU14.1
    have hw16 := chg_trb hw13 hU14.1
    refine Rest.nil (GQ.sub [(0, .slice a_a a.length c_a), (3, .slice (some ⟨(lo1 2), 0, none⟩) a.length a.length), (4, .int .i64 ((k : Int) + 1))] (by kernel_rfl) ?_)
    exact GQ.next (k + 1) (by kernel_rfl) ⟨hw16, ⟨_, set_take hx_x_a_k ▸ hO11, hlo11⟩, by have := ltg hx_x_a_k; omega⟩ (by have := ltg hx_x_a_k; omega)
  · skip
    have hc0' := hc0
    try simp at hc0'
    refine GC.exit ?_
    refine GQ.pass ?_
    refine GQ.pass ?_
    refine GQ.blockOut ?_
    refine GQ.on ?_
    refine GC.seq ?_
    refine GC.regW [W (.slice (some ⟨(lo1 2), 0, none⟩) a.length a.length), W (.slice (some ⟨(lo1 2), 0, none⟩) a.length a.length)] [(2, .slice (some ⟨(lo1 2), 0, none⟩) a.length a.length)] mixed rfl (fun vs w => by kernel_rfl) rfl (fun vs => by kernel_rfl) ?_
    refine GQ.on ?_
    refine GC.ret ?_
    refine GQ.ret1 (.slice (some ⟨(lo1 2), 0, none⟩) a.length a.length) rfl rfl ?_
    exact ⟨_, rfl, e5, FreshL.mk (rfl) (by have h := hO7; rwa [show k = a.length by omega, set_end] at h) hlo7⟩
/-- laws.toFragPacket -/
theorem c_laws_toFragPacket (w : World) (a : FragPacket) (cs_a : List Value) (h_a : rpFragPacket.rd w cs_a a) (hr : a.Data.length ≤ 1048576) :
    Calls Try.prog 11 #[.agg cs_a.toArray] w fun e w' => ∃ rv, e = .returned rv ∧ (Below w.heap.size w w' ∧ FreshS rpFragPacket (a) rv w.heap.size w'.heap.size w') := by
  obtain ⟨a_a_Data, c_a_Data, rfl, h_a_Data⟩ := h_a
  refine enter [(0, .agg #[.int .i64 a.Src, .int .i64 a.Dst, .int .i64 a.Kind, .int .i64 a.Id, .int .i64 a.Hops, .bool a.Whole, .int .i64 a.Off, .bool a.More, .slice a_a_Data a.Data.length c_a_Data])] Try.func11 rfl (by kernel_rfl) (by kernel_rfl) ?_
  have e0 := brefl w
  refine GC.seq ?_
  refine GC.reg 2 [RB 0 30 [.int .i64 a.Src, .int .i64 a.Dst, .int .i64 a.Kind, .int .i64 a.Id, .int .i64 a.Hops, .bool a.Whole, .int .i64 a.Off, .bool a.More, .slice a_a_Data a.Data.length c_a_Data], RB 1 33 [.int .i64 0, .int .i64 0, .int .i64 0, .int .i64 0, .int .i64 0, .bool false, .int .i64 0, .bool false, .slice none 0 0]] mixed (fun vs w => by kernel_rfl) (⟨fun vs lo hi wx hB hK => Out.box rfl, fun vs lo hi wx hB hK => Out.alloc (z := .agg #[.int .i64 0, .int .i64 0, .int .i64 0, .int .i64 0, .int .i64 0, .bool false, .int .i64 0, .bool false, .slice none 0 0]) (by kernel_rfl) rfl, trivial⟩) ?_
  rintro vs1 lo1 hi1 w1 hU1
  have e2 := btr e0 hU1.1
  obtain ⟨⟨hv1_0, hp1_0, hb1_0⟩, hl1_0, -, -⟩ := hU1.2.1 0 _ rfl trivial
  have hl1_0b := Nat.le_trans e0.size hl1_0
  obtain ⟨⟨hv1_1, hp1_1, hb1_1⟩, hl1_1, -, -⟩ := hU1.2.1 1 _ rfl trivial
  have hne3 := hU1.ne 0 1 rfl rfl trivial trivial (by decide) hp1_0 hp1_1
  have hl1_1b := Nat.le_trans e0.size hl1_1
  refine Rest.nil (GQ.sub [(1, .pointer (some ⟨(lo1 0), 0, none⟩)), (2, .pointer (some ⟨(lo1 1), 0, none⟩))] (by rw [← hv1_0, ← hv1_1]; kernel_rfl) ?_)
  refine GQ.on ?_
  refine GC.seq ?_
  refine GC.reg 1 [RB 0 33 [.int .i64 0, .int .i64 0, .int .i64 0, .int .i64 0, .int .i64 0, .bool false, .int .i64 0, .bool false, .slice none 0 0]] mixed (fun vs w => by kernel_rfl) (⟨fun vs lo hi wx hB hK => Out.alloc (z := .agg #[.int .i64 0, .int .i64 0, .int .i64 0, .int .i64 0, .int .i64 0, .bool false, .int .i64 0, .bool false, .slice none 0 0]) (by kernel_rfl) rfl, trivial⟩) ?_
  rintro vs4 lo4 hi4 w4 hU4
  have hlt5 := hb1_0.lt
  have hlt6 := hb1_1.lt
  have e7 := btr e2 hU4.1
  replace hb1_0 := hb1_0.to hU4.1
  replace hb1_1 := hb1_1.to hU4.1
  obtain ⟨⟨hv4_0, hp4_0, hb4_0⟩, hl4_0, -, -⟩ := hU4.2.1 0 _ rfl trivial
  have hne8 := Nat.ne_of_lt (Nat.lt_of_lt_of_le hlt5 hl4_0)
  have hne9 := Nat.ne_of_lt (Nat.lt_of_lt_of_le hlt6 hl4_0)
  have hl4_0b := Nat.le_trans e2.size hl4_0
  refine Rest.nil (GQ.sub [(1, .pointer (some ⟨(lo1 0), 0, none⟩)), (2, .pointer (some ⟨(lo1 1), 0, none⟩)), (3, .pointer (some ⟨(lo4 0), 0, none⟩))] (by rw [← hv4_0]; kernel_rfl) ?_)
  refine GQ.on ?_
  refine GC.seq ?_
  refine GC.reg 3 [W (.pointer (some ⟨(lo1 0), 0, none⟩)), D (.int .i64 a.Src), W (.pointer (some ⟨(lo4 0), 0, none⟩))] mixed (fun vs w => by kernel_rfl) (⟨fun vs lo hi wx hB hK => Out.load1 rfl agg_3 ((hb1_0.to hB).cell 0 _ rfl), trivial⟩) ?_
  rintro vs10 lo10 hi10 w10 hU10
  have e11 := btr e7 hU10.1
  replace hb1_0 := hb1_0.to hU10.1
  replace hb1_1 := hb1_1.to hU10.1
  replace hb4_0 := hb4_0.to hU10.1
  refine Rest.sub [(1, .pointer (some ⟨(lo1 0), 0, none⟩)), (2, .pointer (some ⟨(lo1 1), 0, none⟩)), (3, .pointer (some ⟨(lo4 0), 0, none⟩)), (5, .int .i64 a.Src), (6, .pointer (some ⟨(lo4 0), 0, none⟩))] (by kernel_rfl) ?_
  refine Rest.store [.int .i64 a.Src] [.int .i64 a.Src, .int .i64 0, .int .i64 0, .int .i64 0, .int .i64 0, .bool false, .int .i64 0, .bool false, .slice none 0 0] rfl rfl hb4_0 size_3 rfl rfl rfl ?_
  intro w12 hC13 hb14
  have e15 := bchg1 e11 (Nat.le_refl _) hC13 hl4_0b
  replace hb1_0 := hb1_0.chg hC13 hne8
  replace hb1_1 := hb1_1.chg hC13 hne9
  refine Rest.nil (GQ.sub [(1, .pointer (some ⟨(lo1 0), 0, none⟩)), (2, .pointer (some ⟨(lo1 1), 0, none⟩)), (3, .pointer (some ⟨(lo4 0), 0, none⟩))] (by kernel_rfl) ?_)
  refine GQ.on ?_
  refine GC.seq ?_
  refine GC.reg 3 [W (.pointer (some ⟨(lo1 0), 1, none⟩)), D (.int .i64 a.Dst), W (.pointer (some ⟨(lo4 0), 1, none⟩))] mixed (fun vs w => by kernel_rfl) (⟨fun vs lo hi wx hB hK => Out.load1 rfl agg_3 ((hb1_0.to hB).cell 1 _ rfl), trivial⟩) ?_
  rintro vs16 lo16 hi16 w16 hU16
  have e17 := btr e15 hU16.1
  replace hb1_0 := hb1_0.to hU16.1
  replace hb1_1 := hb1_1.to hU16.1
  replace hb14 := hb14.to hU16.1
  refine Rest.sub [(1, .pointer (some ⟨(lo1 0), 0, none⟩)), (2, .pointer (some ⟨(lo1 1), 0, none⟩)), (3, .pointer (some ⟨(lo4 0), 0, none⟩)), (8, .int .i64 a.Dst), (9, .pointer (some ⟨(lo4 0), 1, none⟩))] (by kernel_rfl) ?_
  refine Rest.store [.int .i64 a.Dst] [.int .i64 a.Src, .int .i64 a.Dst, .int .i64 0, .int .i64 0, .int .i64 0, .bool false, .int .i64 0, .bool false, .slice none 0 0] rfl rfl hb14 size_3 rfl rfl rfl ?_
  intro w18 hC19 hb20
  have e21 := bchg1 e17 (Nat.le_refl _) hC19 hl4_0b
  replace hb1_0 := hb1_0.chg hC19 hne8
  replace hb1_1 := hb1_1.chg hC19 hne9
  refine Rest.nil (GQ.sub [(1, .pointer (some ⟨(lo1 0), 0, none⟩)), (2, .pointer (some ⟨(lo1 1), 0, none⟩)), (3, .pointer (some ⟨(lo4 0), 0, none⟩))] (by kernel_rfl) ?_)
  refine GQ.on ?_
  refine GC.seq ?_
  refine GC.reg 3 [W (.pointer (some ⟨(lo1 0), 2, none⟩)), D (.int .i64 a.Kind), W (.pointer (some ⟨(lo4 0), 2, none⟩))] mixed (fun vs w => by kernel_rfl) (⟨fun vs lo hi wx hB hK => Out.load1 rfl agg_3 ((hb1_0.to hB).cell 2 _ rfl), trivial⟩) ?_
  rintro vs22 lo22 hi22 w22 hU22
  have e23 := btr e21 hU22.1
  replace hb1_0 := hb1_0.to hU22.1
  replace hb1_1 := hb1_1.to hU22.1
  replace hb20 := hb20.to hU22.1
  refine Rest.sub [(1, .pointer (some ⟨(lo1 0), 0, none⟩)), (2, .pointer (some ⟨(lo1 1), 0, none⟩)), (3, .pointer (some ⟨(lo4 0), 0, none⟩)), (11, .int .i64 a.Kind), (12, .pointer (some ⟨(lo4 0), 2, none⟩))] (by kernel_rfl) ?_
  refine Rest.store [.int .i64 a.Kind] [.int .i64 a.Src, .int .i64 a.Dst, .int .i64 a.Kind, .int .i64 0, .int .i64 0, .bool false, .int .i64 0, .bool false, .slice none 0 0] rfl rfl hb20 size_3 rfl rfl rfl ?_
  intro w24 hC25 hb26
  have e27 := bchg1 e23 (Nat.le_refl _) hC25 hl4_0b
  replace hb1_0 := hb1_0.chg hC25 hne8
  replace hb1_1 := hb1_1.chg hC25 hne9
  refine Rest.nil (GQ.sub [(1, .pointer (some ⟨(lo1 0), 0, none⟩)), (2, .pointer (some ⟨(lo1 1), 0, none⟩)), (3, .pointer (some ⟨(lo4 0), 0, none⟩))] (by kernel_rfl) ?_)
  refine GQ.on ?_
  refine GC.seq ?_
  refine GC.reg 3 [W (.pointer (some ⟨(lo1 0), 3, none⟩)), D (.int .i64 a.Id), W (.pointer (some ⟨(lo4 0), 3, none⟩))] mixed (fun vs w => by kernel_rfl) (⟨fun vs lo hi wx hB hK => Out.load1 rfl agg_3 ((hb1_0.to hB).cell 3 _ rfl), trivial⟩) ?_
  rintro vs28 lo28 hi28 w28 hU28
  have e29 := btr e27 hU28.1
  replace hb1_0 := hb1_0.to hU28.1
  replace hb1_1 := hb1_1.to hU28.1
  replace hb26 := hb26.to hU28.1
  refine Rest.sub [(1, .pointer (some ⟨(lo1 0), 0, none⟩)), (2, .pointer (some ⟨(lo1 1), 0, none⟩)), (3, .pointer (some ⟨(lo4 0), 0, none⟩)), (14, .int .i64 a.Id), (15, .pointer (some ⟨(lo4 0), 3, none⟩))] (by kernel_rfl) ?_
  refine Rest.store [.int .i64 a.Id] [.int .i64 a.Src, .int .i64 a.Dst, .int .i64 a.Kind, .int .i64 a.Id, .int .i64 0, .bool false, .int .i64 0, .bool false, .slice none 0 0] rfl rfl hb26 size_3 rfl rfl rfl ?_
  intro w30 hC31 hb32
  have e33 := bchg1 e29 (Nat.le_refl _) hC31 hl4_0b
  replace hb1_0 := hb1_0.chg hC31 hne8
  replace hb1_1 := hb1_1.chg hC31 hne9
  refine Rest.nil (GQ.sub [(1, .pointer (some ⟨(lo1 0), 0, none⟩)), (2, .pointer (some ⟨(lo1 1), 0, none⟩)), (3, .pointer (some ⟨(lo4 0), 0, none⟩))] (by kernel_rfl) ?_)
  refine GQ.on ?_
  refine GC.seq ?_
  refine GC.reg 3 [W (.pointer (some ⟨(lo1 0), 4, none⟩)), D (.int .i64 a.Hops), W (.pointer (some ⟨(lo4 0), 4, none⟩))] mixed (fun vs w => by kernel_rfl) (⟨fun vs lo hi wx hB hK => Out.load1 rfl agg_3 ((hb1_0.to hB).cell 4 _ rfl), trivial⟩) ?_
  rintro vs34 lo34 hi34 w34 hU34
  have e35 := btr e33 hU34.1
  replace hb1_0 := hb1_0.to hU34.1
  replace hb1_1 := hb1_1.to hU34.1
  replace hb32 := hb32.to hU34.1
  refine Rest.sub [(1, .pointer (some ⟨(lo1 0), 0, none⟩)), (2, .pointer (some ⟨(lo1 1), 0, none⟩)), (3, .pointer (some ⟨(lo4 0), 0, none⟩)), (17, .int .i64 a.Hops), (18, .pointer (some ⟨(lo4 0), 4, none⟩))] (by kernel_rfl) ?_
  refine Rest.store [.int .i64 a.Hops] [.int .i64 a.Src, .int .i64 a.Dst, .int .i64 a.Kind, .int .i64 a.Id, .int .i64 a.Hops, .bool false, .int .i64 0, .bool false, .slice none 0 0] rfl rfl hb32 size_3 rfl rfl rfl ?_
  intro w36 hC37 hb38
  have e39 := bchg1 e35 (Nat.le_refl _) hC37 hl4_0b
  replace hb1_0 := hb1_0.chg hC37 hne8
  replace hb1_1 := hb1_1.chg hC37 hne9
  refine Rest.nil (GQ.sub [(1, .pointer (some ⟨(lo1 0), 0, none⟩)), (2, .pointer (some ⟨(lo1 1), 0, none⟩)), (3, .pointer (some ⟨(lo4 0), 0, none⟩))] (by kernel_rfl) ?_)
  refine GQ.on ?_
  refine GC.seq ?_
  refine GC.reg 3 [W (.pointer (some ⟨(lo1 0), 5, none⟩)), D (.bool a.Whole), W (.pointer (some ⟨(lo4 0), 5, none⟩))] mixed (fun vs w => by kernel_rfl) (⟨fun vs lo hi wx hB hK => Out.load1 rfl agg_4 ((hb1_0.to hB).cell 5 _ rfl), trivial⟩) ?_
  rintro vs40 lo40 hi40 w40 hU40
  have e41 := btr e39 hU40.1
  replace hb1_0 := hb1_0.to hU40.1
  replace hb1_1 := hb1_1.to hU40.1
  replace hb38 := hb38.to hU40.1
  refine Rest.sub [(1, .pointer (some ⟨(lo1 0), 0, none⟩)), (2, .pointer (some ⟨(lo1 1), 0, none⟩)), (3, .pointer (some ⟨(lo4 0), 0, none⟩)), (20, .bool a.Whole), (21, .pointer (some ⟨(lo4 0), 5, none⟩))] (by kernel_rfl) ?_
  refine Rest.store [.bool a.Whole] [.int .i64 a.Src, .int .i64 a.Dst, .int .i64 a.Kind, .int .i64 a.Id, .int .i64 a.Hops, .bool a.Whole, .int .i64 0, .bool false, .slice none 0 0] rfl rfl hb38 size_4 rfl rfl rfl ?_
  intro w42 hC43 hb44
  have e45 := bchg1 e41 (Nat.le_refl _) hC43 hl4_0b
  replace hb1_0 := hb1_0.chg hC43 hne8
  replace hb1_1 := hb1_1.chg hC43 hne9
  refine Rest.nil (GQ.sub [(1, .pointer (some ⟨(lo1 0), 0, none⟩)), (2, .pointer (some ⟨(lo1 1), 0, none⟩)), (3, .pointer (some ⟨(lo4 0), 0, none⟩))] (by kernel_rfl) ?_)
  refine GQ.on ?_
  refine GC.seq ?_
  refine GC.reg 3 [W (.pointer (some ⟨(lo1 0), 6, none⟩)), D (.int .i64 a.Off), W (.pointer (some ⟨(lo4 0), 6, none⟩))] mixed (fun vs w => by kernel_rfl) (⟨fun vs lo hi wx hB hK => Out.load1 rfl agg_3 ((hb1_0.to hB).cell 6 _ rfl), trivial⟩) ?_
  rintro vs46 lo46 hi46 w46 hU46
  have e47 := btr e45 hU46.1
  replace hb1_0 := hb1_0.to hU46.1
  replace hb1_1 := hb1_1.to hU46.1
  replace hb44 := hb44.to hU46.1
  refine Rest.sub [(1, .pointer (some ⟨(lo1 0), 0, none⟩)), (2, .pointer (some ⟨(lo1 1), 0, none⟩)), (3, .pointer (some ⟨(lo4 0), 0, none⟩)), (23, .int .i64 a.Off), (24, .pointer (some ⟨(lo4 0), 6, none⟩))] (by kernel_rfl) ?_
  refine Rest.store [.int .i64 a.Off] [.int .i64 a.Src, .int .i64 a.Dst, .int .i64 a.Kind, .int .i64 a.Id, .int .i64 a.Hops, .bool a.Whole, .int .i64 a.Off, .bool false, .slice none 0 0] rfl rfl hb44 size_3 rfl rfl rfl ?_
  intro w48 hC49 hb50
  have e51 := bchg1 e47 (Nat.le_refl _) hC49 hl4_0b
  replace hb1_0 := hb1_0.chg hC49 hne8
  replace hb1_1 := hb1_1.chg hC49 hne9
  refine Rest.nil (GQ.sub [(1, .pointer (some ⟨(lo1 0), 0, none⟩)), (2, .pointer (some ⟨(lo1 1), 0, none⟩)), (3, .pointer (some ⟨(lo4 0), 0, none⟩))] (by kernel_rfl) ?_)
  refine GQ.on ?_
  refine GC.seq ?_
  refine GC.reg 3 [W (.pointer (some ⟨(lo1 0), 7, none⟩)), D (.bool a.More), W (.pointer (some ⟨(lo4 0), 7, none⟩))] mixed (fun vs w => by kernel_rfl) (⟨fun vs lo hi wx hB hK => Out.load1 rfl agg_4 ((hb1_0.to hB).cell 7 _ rfl), trivial⟩) ?_
  rintro vs52 lo52 hi52 w52 hU52
  have e53 := btr e51 hU52.1
  replace hb1_0 := hb1_0.to hU52.1
  replace hb1_1 := hb1_1.to hU52.1
  replace hb50 := hb50.to hU52.1
  refine Rest.sub [(1, .pointer (some ⟨(lo1 0), 0, none⟩)), (2, .pointer (some ⟨(lo1 1), 0, none⟩)), (3, .pointer (some ⟨(lo4 0), 0, none⟩)), (26, .bool a.More), (27, .pointer (some ⟨(lo4 0), 7, none⟩))] (by kernel_rfl) ?_
  refine Rest.store [.bool a.More] [.int .i64 a.Src, .int .i64 a.Dst, .int .i64 a.Kind, .int .i64 a.Id, .int .i64 a.Hops, .bool a.Whole, .int .i64 a.Off, .bool a.More, .slice none 0 0] rfl rfl hb50 size_4 rfl rfl rfl ?_
  intro w54 hC55 hb56
  have e57 := bchg1 e53 (Nat.le_refl _) hC55 hl4_0b
  replace hb1_0 := hb1_0.chg hC55 hne8
  replace hb1_1 := hb1_1.chg hC55 hne9
  refine Rest.nil (GQ.sub [(1, .pointer (some ⟨(lo1 0), 0, none⟩)), (2, .pointer (some ⟨(lo1 1), 0, none⟩)), (3, .pointer (some ⟨(lo4 0), 0, none⟩))] (by kernel_rfl) ?_)
  refine GQ.on ?_
  refine GC.seq ?_
  refine GC.reg 4 [W (.pointer (some ⟨(lo1 0), 8, none⟩)), D (.slice a_a_Data a.Data.length c_a_Data), RFL 2 rpByte a.Data, W (.pointer (some ⟨(lo4 0), 8, none⟩))] mixed (fun vs w => by kernel_rfl) (⟨fun vs lo hi wx hB hK => Out.load1 rfl agg_28 ((hb1_0.to hB).cell 8 _ rfl), fun vs lo hi wx hB hK => Out.call (by kernel_rfl) (c_laws_toByteS _ a_a_Data c_a_Data a.Data (h_a_Data.below (btr e57 hB)) (by omega)) (fun _ _ h => h), trivial⟩) ?_
  rintro vs58 lo58 hi58 w58 hU58
  have hlt59 := hb1_0.lt
  have hlt60 := hb1_1.lt
  have hlt61 := hb56.lt
  have e62 := btr e57 hU58.1
  replace hb1_0 := hb1_0.to hU58.1
  replace hb1_1 := hb1_1.to hU58.1
  replace hb56 := hb56.to hU58.1
  obtain ⟨⟨a58_2, c58_2, fp58_2, hv58_2, hO58_2, hf58_2⟩, hl58_2, -, -⟩ := hU58.2.1 2 _ rfl trivial
  have hsp63 := sep_lo hf58_2 (Nat.lt_of_lt_of_le hlt59 hl58_2)
  have hsp64 := sep_lo hf58_2 (Nat.lt_of_lt_of_le hlt60 hl58_2)
  have hsp65 := sep_lo hf58_2 (Nat.lt_of_lt_of_le hlt61 hl58_2)
  have hl58_2b := Nat.le_trans e57.size hl58_2
  have hlo66 := low_of hf58_2 hl58_2b
  refine Rest.sub [(2, .pointer (some ⟨(lo1 1), 0, none⟩)), (3, .pointer (some ⟨(lo4 0), 0, none⟩)), (30, .slice a58_2 a.Data.length c58_2), (31, .pointer (some ⟨(lo4 0), 8, none⟩))] (by rw [← hv58_2]; kernel_rfl) ?_
  refine Rest.store [.slice a58_2 a.Data.length c58_2] [.int .i64 a.Src, .int .i64 a.Dst, .int .i64 a.Kind, .int .i64 a.Id, .int .i64 a.Hops, .bool a.Whole, .int .i64 a.Off, .bool a.More, .slice a58_2 a.Data.length c58_2] rfl rfl hb56 size_28 rfl rfl rfl ?_
  intro w67 hC68 hb69
  have e70 := bchg1 e62 (Nat.le_refl _) hC68 hl4_0b
  replace hb1_0 := hb1_0.chg hC68 hne8
  replace hb1_1 := hb1_1.chg hC68 hne9
  replace hO58_2 := hO58_2.chg hC68 hsp65
  refine Rest.nil (GQ.sub [(2, .pointer (some ⟨(lo1 1), 0, none⟩)), (3, .pointer (some ⟨(lo4 0), 0, none⟩))] (by kernel_rfl) ?_)
  refine GQ.on ?_
  refine GC.seq ?_
  refine GC.reg 1 [D (.agg #[.int .i64 a.Src, .int .i64 a.Dst, .int .i64 a.Kind, .int .i64 a.Id, .int .i64 a.Hops, .bool a.Whole, .int .i64 a.Off, .bool a.More, .slice a58_2 a.Data.length c58_2])] mixed (fun vs w => by kernel_rfl) (⟨fun vs lo hi wx hB hK => Out.loadA rfl agg_33 size_33 ((hb69.to hB).has 0 _ rfl), trivial⟩) ?_
  rintro vs71 lo71 hi71 w71 hU71
  have e72 := btr e70 hU71.1
  replace hb1_0 := hb1_0.to hU71.1
  replace hb1_1 := hb1_1.to hU71.1
  replace hb69 := hb69.to hU71.1
  replace hO58_2 := hO58_2.below hU71.1
  refine Rest.sub [(2, .pointer (some ⟨(lo1 1), 0, none⟩)), (32, .agg #[.int .i64 a.Src, .int .i64 a.Dst, .int .i64 a.Kind, .int .i64 a.Id, .int .i64 a.Hops, .bool a.Whole, .int .i64 a.Off, .bool a.More, .slice a58_2 a.Data.length c58_2])] (by kernel_rfl) ?_
  refine Rest.store [.int .i64 a.Src, .int .i64 a.Dst, .int .i64 a.Kind, .int .i64 a.Id, .int .i64 a.Hops, .bool a.Whole, .int .i64 a.Off, .bool a.More, .slice a58_2 a.Data.length c58_2] [.int .i64 a.Src, .int .i64 a.Dst, .int .i64 a.Kind, .int .i64 a.Id, .int .i64 a.Hops, .bool a.Whole, .int .i64 a.Off, .bool a.More, .slice a58_2 a.Data.length c58_2] rfl rfl hb1_1 size_33 rfl rfl rfl ?_
  intro w73 hC74 hb75
  have e76 := bchg1 e72 (Nat.le_refl _) hC74 hl1_1b
  replace hb1_0 := hb1_0.chg hC74 hne3
  replace hb69 := hb69.chg hC74 (Ne.symm hne9)
  replace hO58_2 := hO58_2.chg hC74 hsp64
  refine Rest.nil (GQ.sub [(2, .pointer (some ⟨(lo1 1), 0, none⟩))] (by kernel_rfl) ?_)
  refine GQ.on ?_
  refine GC.ret ?_
  refine GQ.ret1 (.agg #[.int .i64 a.Src, .int .i64 a.Dst, .int .i64 a.Kind, .int .i64 a.Id, .int .i64 a.Hops, .bool a.Whole, .int .i64 a.Off, .bool a.More, .slice a58_2 a.Data.length c58_2]) rfl ⟨_, rfl, run_loadA agg_33 size_33 (hb75.has 0 _ rfl)⟩ ?_
  exact ⟨_, rfl, e76, FreshS.mk (r := rpFragPacket) (x := a) ⟨_, _, _, rfl, hO58_2, rfl, (SlO.nd hO58_2)⟩ hlo66⟩
/-- laws.eqByteS -/
theorem c_laws_eqByteS (w : World) (a_a : Option Addr) (c_a : Nat) (a : List UInt8) (h_a : SlR rpByte w a_a c_a a) (a_b : Option Addr) (c_b : Nat) (b : List UInt8) (h_b : SlR rpByte w a_b c_b b) :
    Calls Try.prog 30 #[.slice a_a a.length c_a, .slice a_b b.length c_b] w fun e w' => ∃ rv, e = .returned rv ∧ (rv = .bool (decide (a = b)) ∧ Below w.heap.size w w') := by
  refine enter [(0, .slice a_a a.length c_a), (1, .slice a_b b.length c_b)] Try.func30 rfl (by kernel_rfl) (by kernel_rfl) ?_
  have e0 := brefl w
  refine GC.seq ?_
  refine GC.regW [W (.bool false)] [(0, .slice a_a a.length c_a), (1, .slice a_b b.length c_b)] mixed rfl (fun vs w => by kernel_rfl) rfl (fun vs => by kernel_rfl) ?_
  refine GQ.on ?_
  refine GC.seq ?_
  refine GC.seq ?_
  refine GC.regW [W (.slice a_a a.length c_a), W (.int .i64 (a.length : Int)), W (.slice a_b b.length c_b), W (.int .i64 (b.length : Int)), W (.bool ((a.length : Int) != (b.length : Int)))] [(0, .slice a_a a.length c_a), (1, .slice a_b b.length c_b), (10, .bool ((a.length : Int) != (b.length : Int)))] mixed rfl (fun vs w => by kernel_rfl) rfl (fun vs => by kernel_rfl) ?_
  refine GQ.on ?_
  refine GC.cond ((a.length : Int) != (b.length : Int)) rfl (fun hc0 => ?_) (fun hc0 => ?_)
  · skip
    have hc0' := hc0
    try simp at hc0'
    refine GC.seq ?_
    refine GC.regW [W (.bool false)] [(4, .bool false)] mixed rfl (fun vs w => by kernel_rfl) rfl (fun vs => by kernel_rfl) ?_
    refine GQ.on ?_
    refine GC.ret ?_
    refine GQ.passRet ?_
    refine GQ.ret1 (.bool false) rfl rfl ?_
    exact ⟨_, rfl, (by first | exact eqL_len (by omega) | exact eqL_el hx_x_a_k hx_x_b_k (by rintro rfl; simp at hc2) | exact eqL_all hi0_1 (by omega) (by omega)), e0⟩
  · skip
    have hc0' := hc0
    try simp at hc0'
    refine GC.skip ?_
    refine GQ.on ?_
    refine GC.seq ?_
    refine GC.seq ?_
    refine GC.regW [W (.int .i64 0)] [(0, .slice a_a a.length c_a), (1, .slice a_b b.length c_b), (5, .int .i64 0)] mixed rfl (fun vs w => by kernel_rfl) rfl (fun vs => by kernel_rfl) ?_
    refine GQ.on ?_
    refine GC.block ?_
    refine GC.loop (ι := Nat) (fun k => [(0, .slice a_a a.length c_a), (1, .slice a_b b.length c_b), (5, .int .i64 (k : Int))]) (fun k w' => Chg (fun _ : Nat => False) w w' ∧ (k ≤ a.length) ∧ (a.take k = b.take k)) (fun k => a.length - k) 0 (by kernel_rfl) ⟨chg_refl _ _, by omega, by simp⟩ ?_
    rintro k w1 ⟨hw3, hi0_0, hi0_1⟩
    have e2 := chg_below e0 (Nat.le_refl _) hw3 (fun _ h => h.elim)
    have hla := h_a.2.1
    refine GC.seq ?_
    refine GC.seq ?_
    refine GC.regW [W (.int .i64 (k : Int)), W (.slice a_a a.length c_a), W (.int .i64 (a.length : Int)), W (.bool (decide ((k : Int) < (a.length : Int))))] [(0, .slice a_a a.length c_a), (1, .slice a_b b.length c_b), (5, .int .i64 (k : Int)), (14, .bool (decide ((k : Int) < (a.length : Int))))] mixed rfl (fun vs w => by kernel_rfl) rfl (fun vs => by kernel_rfl) ?_
    refine GQ.on ?_
    refine GC.cond (decide ((k : Int) < (a.length : Int))) rfl (fun hc1 => ?_) (fun hc1 => ?_)
    · skip
      have hc1' := hc1
      try simp at hc1'
      refine GC.skip ?_
      refine GQ.on ?_
      refine GC.seq ?_
      refine GC.block ?_
      refine GC.seq ?_
      obtain ⟨x_a_k, hx_x_a_k⟩ : ∃ x, a[k]? = some x := ⟨_, List.getElem?_eq_getElem (by omega)⟩
      obtain ⟨ha_x_a_k, hb_x_a_k, cs_x_a_k, hl_x_a_k, hh_x_a_k, hr_x_a_k⟩ := h_a.2.2 k x_a_k hx_x_a_k
      obtain rfl := hr_x_a_k
      obtain ⟨x_b_k, hx_x_b_k⟩ : ∃ x, b[k]? = some x := ⟨_, List.getElem?_eq_getElem (by omega)⟩
      obtain ⟨ha_x_b_k, hb_x_b_k, cs_x_b_k, hl_x_b_k, hh_x_b_k, hr_x_b_k⟩ := h_b.2.2 k x_b_k hx_x_b_k
      obtain rfl := hr_x_b_k
      refine GC.reg 9 [W (.slice a_a a.length c_a), W (.int .i64 (k : Int)), D (.pointer (some ⟨(ab a_a), ao a_a + k * 1, none⟩)), D (.int .u8 (x_a_k.toNat : Int)), W (.slice a_b b.length c_b), W (.int .i64 (k : Int)), D (.pointer (some ⟨(ab a_b), ao a_b + k * 1, none⟩)), D (.int .u8 (x_b_k.toNat : Int)), W (.bool ((x_a_k.toNat : Int) != (x_b_k.toNat : Int)))] mixed (fun vs w => by kernel_rfl) (⟨fun vs lo hi wx hB hK => Out.idxS k rfl rfl (ltg hx_x_a_k) ha_x_a_k Try.underlying28 size_5, fun vs lo hi wx hB hK => Out.load1 rfl agg_5 ((hh_x_a_k.below hb_x_a_k (btr e2 hB)) 0 _ rfl), fun vs lo hi wx hB hK => Out.idxS k rfl rfl (ltg hx_x_b_k) ha_x_b_k Try.underlying28 size_5, fun vs lo hi wx hB hK => Out.load1 rfl agg_5 ((hh_x_b_k.below hb_x_b_k (btr e2 hB)) 0 _ rfl), trivial⟩) ?_
      rintro vs4 lo4 hi4 w4 hU4
      have e5 := btr e2 hU4.1
      have hw6 := chg_trb hw3 hU4.1
      refine Rest.nil (GQ.sub [(0, .slice a_a a.length c_a), (1, .slice a_b b.length c_b), (5, .int .i64 (k : Int)), (25, .bool ((x_a_k.toNat : Int) != (x_b_k.toNat : Int)))] (by kernel_rfl) ?_)
      refine GQ.on ?_
      refine GC.cond ((x_a_k.toNat : Int) != (x_b_k.toNat : Int)) rfl (fun hc2 => ?_) (fun hc2 => ?_)
      · skip
        have hc2' := hc2
        try simp at hc2'
        refine GC.seq ?_
        refine GC.regW [W (.bool false)] [(4, .bool false)] mixed rfl (fun vs w => by kernel_rfl) rfl (fun vs => by kernel_rfl) ?_
        refine GQ.on ?_
        refine GC.ret ?_
        refine GQ.blockRet ?_
        refine GQ.passRet ?_
        refine GQ.passRet ?_
        refine GQ.blockRet ?_
        refine GQ.passRet ?_
        refine GQ.ret1 (.bool false) rfl rfl ?_
        exact ⟨_, rfl, (by first | exact eqL_len (by omega) | exact eqL_el hx_x_a_k hx_x_b_k (by rintro rfl; simp at hc2) | exact eqL_all hi0_1 (by omega) (by omega)), e5⟩
      · skip
        have hc2' := hc2
        try simp at hc2'
        refine GC.skip ?_
        refine GQ.blockEnd ?_
        refine GQ.on ?_
        refine GC.reg 3 [W (.int .i64 (k : Int)), D (.int .i64 ((k : Int) + 1)), W (.int .i64 ((k : Int) + 1))] mixed (fun vs w => by kernel_rfl) (⟨fun vs lo hi wx hB hK => Out.add rfl rfl (by omega) (by omega), trivial⟩) ?_
        rintro vs7 lo7 hi7 w7 hU7
        have e8 := btr e5 hU7.1
        have hw9 := chg_trb hw6 hU7.1
        refine Rest.nil (GQ.sub [(0, .slice a_a a.length c_a), (1, .slice a_b b.length c_b), (5, .int .i64 ((k : Int) + 1))] (by kernel_rfl) ?_)
        exact GQ.next (k + 1) (by kernel_rfl) ⟨hw9, by have := ltg hx_x_a_k; omega, take_next hi0_1 hx_x_a_k hx_x_b_k (UInt8.toNat_inj.1 (by have := hc2; simp at this; omega))⟩ (by have := ltg hx_x_a_k; omega)
    · skip
      have hc1' := hc1
      try simp at hc1'
      refine GC.exit ?_
      refine GQ.pass ?_
      refine GQ.pass ?_
      refine GQ.blockOut ?_
      refine GQ.on ?_
      refine GC.seq ?_
      refine GC.regW [W (.bool true)] [(4, .bool true)] mixed rfl (fun vs w => by kernel_rfl) rfl (fun vs => by kernel_rfl) ?_
      refine GQ.on ?_
      refine GC.ret ?_
      refine GQ.ret1 (.bool true) rfl rfl ?_
      exact ⟨_, rfl, (by first | exact eqL_len (by omega) | exact eqL_el hx_x_a_k hx_x_b_k (by rintro rfl; simp at hc2) | exact eqL_all hi0_1 (by omega) (by omega)), e2⟩
/-- laws.eqFragPacket -/
theorem c_laws_eqFragPacket (w : World) (a : FragPacket) (cs_a : List Value) (h_a : rpFragPacket.rd w cs_a a) (b : FragPacket) (cs_b : List Value) (h_b : rpFragPacket.rd w cs_b b) :
    Calls Try.prog 13 #[.agg cs_a.toArray, .agg cs_b.toArray] w fun e w' => ∃ rv, e = .returned rv ∧ (rv = .bool (decide (a = b)) ∧ Below w.heap.size w w') := by
  obtain ⟨a_a_Data, c_a_Data, rfl, h_a_Data⟩ := h_a
  obtain ⟨a_b_Data, c_b_Data, rfl, h_b_Data⟩ := h_b
  refine enter [(0, .agg #[.int .i64 a.Src, .int .i64 a.Dst, .int .i64 a.Kind, .int .i64 a.Id, .int .i64 a.Hops, .bool a.Whole, .int .i64 a.Off, .bool a.More, .slice a_a_Data a.Data.length c_a_Data]), (1, .agg #[.int .i64 b.Src, .int .i64 b.Dst, .int .i64 b.Kind, .int .i64 b.Id, .int .i64 b.Hops, .bool b.Whole, .int .i64 b.Off, .bool b.More, .slice a_b_Data b.Data.length c_b_Data])] Try.func13 rfl (by kernel_rfl) (by kernel_rfl) ?_
  have e0 := brefl w
  refine GC.seq ?_
  refine GC.reg 3 [RB 0 33 [.int .i64 a.Src, .int .i64 a.Dst, .int .i64 a.Kind, .int .i64 a.Id, .int .i64 a.Hops, .bool a.Whole, .int .i64 a.Off, .bool a.More, .slice a_a_Data a.Data.length c_a_Data], RB 1 33 [.int .i64 b.Src, .int .i64 b.Dst, .int .i64 b.Kind, .int .i64 b.Id, .int .i64 b.Hops, .bool b.Whole, .int .i64 b.Off, .bool b.More, .slice a_b_Data b.Data.length c_b_Data], W (.bool false)] mixed (fun vs w => by kernel_rfl) (⟨fun vs lo hi wx hB hK => Out.box rfl, fun vs lo hi wx hB hK => Out.box rfl, trivial⟩) ?_
  rintro vs1 lo1 hi1 w1 hU1
  have e2 := btr e0 hU1.1
  obtain ⟨⟨hv1_0, hp1_0, hb1_0⟩, hl1_0, -, -⟩ := hU1.2.1 0 _ rfl trivial
  have hl1_0b := Nat.le_trans e0.size hl1_0
  obtain ⟨⟨hv1_1, hp1_1, hb1_1⟩, hl1_1, -, -⟩ := hU1.2.1 1 _ rfl trivial
  have hne3 := hU1.ne 0 1 rfl rfl trivial trivial (by decide) hp1_0 hp1_1
  have hl1_1b := Nat.le_trans e0.size hl1_1
  refine Rest.nil (GQ.sub [(2, .pointer (some ⟨(lo1 0), 0, none⟩)), (3, .pointer (some ⟨(lo1 1), 0, none⟩))] (by rw [← hv1_0, ← hv1_1]; kernel_rfl) ?_)
  refine GQ.on ?_
  refine GC.seq ?_
  refine GC.seq ?_
  refine GC.reg 5 [W (.pointer (some ⟨(lo1 0), 0, none⟩)), D (.int .i64 a.Src), W (.pointer (some ⟨(lo1 1), 0, none⟩)), D (.int .i64 b.Src), W (.bool (a.Src != b.Src))] mixed (fun vs w => by kernel_rfl) (⟨fun vs lo hi wx hB hK => Out.load1 rfl agg_3 ((hb1_0.to hB).cell 0 _ rfl), fun vs lo hi wx hB hK => Out.load1 rfl agg_3 ((hb1_1.to hB).cell 0 _ rfl), trivial⟩) ?_
  rintro vs4 lo4 hi4 w4 hU4
  have e5 := btr e2 hU4.1
  replace hb1_0 := hb1_0.to hU4.1
  replace hb1_1 := hb1_1.to hU4.1
  refine Rest.nil (GQ.sub [(2, .pointer (some ⟨(lo1 0), 0, none⟩)), (3, .pointer (some ⟨(lo1 1), 0, none⟩)), (9, .bool (a.Src != b.Src))] (by kernel_rfl) ?_)
  refine GQ.on ?_
  refine GC.cond (a.Src != b.Src) rfl (fun hc0 => ?_) (fun hc0 => ?_)
  · skip
    have hc0' := hc0
    try simp at hc0'
    refine GC.seq ?_
    refine GC.regW [W (.bool false)] [(4, .bool false)] mixed rfl (fun vs w => by kernel_rfl) rfl (fun vs => by kernel_rfl) ?_
    refine GQ.on ?_
    refine GC.ret ?_
    refine GQ.passRet ?_
    refine GQ.ret1 (.bool false) rfl rfl ?_
    exact ⟨_, rfl, (by first | (congr 1; symm; rw [decide_eq_false_iff_not]; rintro rfl; simp_all; done) | (congr 1; symm; rw [decide_eq_true_iff]; cases a; cases b; simp_all; done)), e5⟩
  · skip
    have hc0' := hc0
    try simp at hc0'
    refine GC.skip ?_
    refine GQ.on ?_
    refine GC.seq ?_
    refine GC.seq ?_
    refine GC.reg 5 [W (.pointer (some ⟨(lo1 0), 1, none⟩)), D (.int .i64 a.Dst), W (.pointer (some ⟨(lo1 1), 1, none⟩)), D (.int .i64 b.Dst), W (.bool (a.Dst != b.Dst))] mixed (fun vs w => by kernel_rfl) (⟨fun vs lo hi wx hB hK => Out.load1 rfl agg_3 ((hb1_0.to hB).cell 1 _ rfl), fun vs lo hi wx hB hK => Out.load1 rfl agg_3 ((hb1_1.to hB).cell 1 _ rfl), trivial⟩) ?_
    rintro vs6 lo6 hi6 w6 hU6
    have e7 := btr e5 hU6.1
    replace hb1_0 := hb1_0.to hU6.1
    replace hb1_1 := hb1_1.to hU6.1
    refine Rest.nil (GQ.sub [(2, .pointer (some ⟨(lo1 0), 0, none⟩)), (3, .pointer (some ⟨(lo1 1), 0, none⟩)), (14, .bool (a.Dst != b.Dst))] (by kernel_rfl) ?_)
    refine GQ.on ?_
    refine GC.cond (a.Dst != b.Dst) rfl (fun hc1 => ?_) (fun hc1 => ?_)
    · skip
      have hc1' := hc1
      try simp at hc1'
      refine GC.seq ?_
      refine GC.regW [W (.bool false)] [(4, .bool false)] mixed rfl (fun vs w => by kernel_rfl) rfl (fun vs => by kernel_rfl) ?_
      refine GQ.on ?_
      refine GC.ret ?_
      refine GQ.passRet ?_
      refine GQ.ret1 (.bool false) rfl rfl ?_
      exact ⟨_, rfl, (by first | (congr 1; symm; rw [decide_eq_false_iff_not]; rintro rfl; simp_all; done) | (congr 1; symm; rw [decide_eq_true_iff]; cases a; cases b; simp_all; done)), e7⟩
    · skip
      have hc1' := hc1
      try simp at hc1'
      refine GC.skip ?_
      refine GQ.on ?_
      refine GC.seq ?_
      refine GC.seq ?_
      refine GC.reg 5 [W (.pointer (some ⟨(lo1 0), 2, none⟩)), D (.int .i64 a.Kind), W (.pointer (some ⟨(lo1 1), 2, none⟩)), D (.int .i64 b.Kind), W (.bool (a.Kind != b.Kind))] mixed (fun vs w => by kernel_rfl) (⟨fun vs lo hi wx hB hK => Out.load1 rfl agg_3 ((hb1_0.to hB).cell 2 _ rfl), fun vs lo hi wx hB hK => Out.load1 rfl agg_3 ((hb1_1.to hB).cell 2 _ rfl), trivial⟩) ?_
      rintro vs8 lo8 hi8 w8 hU8
      have e9 := btr e7 hU8.1
      replace hb1_0 := hb1_0.to hU8.1
      replace hb1_1 := hb1_1.to hU8.1
      refine Rest.nil (GQ.sub [(2, .pointer (some ⟨(lo1 0), 0, none⟩)), (3, .pointer (some ⟨(lo1 1), 0, none⟩)), (19, .bool (a.Kind != b.Kind))] (by kernel_rfl) ?_)
      refine GQ.on ?_
      refine GC.cond (a.Kind != b.Kind) rfl (fun hc2 => ?_) (fun hc2 => ?_)
      · skip
        have hc2' := hc2
        try simp at hc2'
        refine GC.seq ?_
        refine GC.regW [W (.bool false)] [(4, .bool false)] mixed rfl (fun vs w => by kernel_rfl) rfl (fun vs => by kernel_rfl) ?_
        refine GQ.on ?_
        refine GC.ret ?_
        refine GQ.passRet ?_
        refine GQ.ret1 (.bool false) rfl rfl ?_
        exact ⟨_, rfl, (by first | (congr 1; symm; rw [decide_eq_false_iff_not]; rintro rfl; simp_all; done) | (congr 1; symm; rw [decide_eq_true_iff]; cases a; cases b; simp_all; done)), e9⟩
      · skip
        have hc2' := hc2
        try simp at hc2'
        refine GC.skip ?_
        refine GQ.on ?_
        refine GC.seq ?_
        refine GC.seq ?_
        refine GC.reg 5 [W (.pointer (some ⟨(lo1 0), 3, none⟩)), D (.int .i64 a.Id), W (.pointer (some ⟨(lo1 1), 3, none⟩)), D (.int .i64 b.Id), W (.bool (a.Id != b.Id))] mixed (fun vs w => by kernel_rfl) (⟨fun vs lo hi wx hB hK => Out.load1 rfl agg_3 ((hb1_0.to hB).cell 3 _ rfl), fun vs lo hi wx hB hK => Out.load1 rfl agg_3 ((hb1_1.to hB).cell 3 _ rfl), trivial⟩) ?_
        rintro vs10 lo10 hi10 w10 hU10
        have e11 := btr e9 hU10.1
        replace hb1_0 := hb1_0.to hU10.1
        replace hb1_1 := hb1_1.to hU10.1
        refine Rest.nil (GQ.sub [(2, .pointer (some ⟨(lo1 0), 0, none⟩)), (3, .pointer (some ⟨(lo1 1), 0, none⟩)), (24, .bool (a.Id != b.Id))] (by kernel_rfl) ?_)
        refine GQ.on ?_
        refine GC.cond (a.Id != b.Id) rfl (fun hc3 => ?_) (fun hc3 => ?_)
        · skip
          have hc3' := hc3
          try simp at hc3'
          refine GC.seq ?_
          refine GC.regW [W (.bool false)] [(4, .bool false)] mixed rfl (fun vs w => by kernel_rfl) rfl (fun vs => by kernel_rfl) ?_
          refine GQ.on ?_
          refine GC.ret ?_
          refine GQ.passRet ?_
          refine GQ.ret1 (.bool false) rfl rfl ?_
          exact ⟨_, rfl, (by first | (congr 1; symm; rw [decide_eq_false_iff_not]; rintro rfl; simp_all; done) | (congr 1; symm; rw [decide_eq_true_iff]; cases a; cases b; simp_all; done)), e11⟩
        · skip
          have hc3' := hc3
          try simp at hc3'
          refine GC.skip ?_
          refine GQ.on ?_
          refine GC.seq ?_
          refine GC.seq ?_
          refine GC.reg 5 [W (.pointer (some ⟨(lo1 0), 4, none⟩)), D (.int .i64 a.Hops), W (.pointer (some ⟨(lo1 1), 4, none⟩)), D (.int .i64 b.Hops), W (.bool (a.Hops != b.Hops))] mixed (fun vs w => by kernel_rfl) (⟨fun vs lo hi wx hB hK => Out.load1 rfl agg_3 ((hb1_0.to hB).cell 4 _ rfl), fun vs lo hi wx hB hK => Out.load1 rfl agg_3 ((hb1_1.to hB).cell 4 _ rfl), trivial⟩) ?_
          rintro vs12 lo12 hi12 w12 hU12
          have e13 := btr e11 hU12.1
          replace hb1_0 := hb1_0.to hU12.1
          replace hb1_1 := hb1_1.to hU12.1
          refine Rest.nil (GQ.sub [(2, .pointer (some ⟨(lo1 0), 0, none⟩)), (3, .pointer (some ⟨(lo1 1), 0, none⟩)), (29, .bool (a.Hops != b.Hops))] (by kernel_rfl) ?_)
          refine GQ.on ?_
          refine GC.cond (a.Hops != b.Hops) rfl (fun hc4 => ?_) (fun hc4 => ?_)
          · skip
            have hc4' := hc4
            try simp at hc4'
            refine GC.seq ?_
            refine GC.regW [W (.bool false)] [(4, .bool false)] mixed rfl (fun vs w => by kernel_rfl) rfl (fun vs => by kernel_rfl) ?_
            refine GQ.on ?_
            refine GC.ret ?_
            refine GQ.passRet ?_
            refine GQ.ret1 (.bool false) rfl rfl ?_
            exact ⟨_, rfl, (by first | (congr 1; symm; rw [decide_eq_false_iff_not]; rintro rfl; simp_all; done) | (congr 1; symm; rw [decide_eq_true_iff]; cases a; cases b; simp_all; done)), e13⟩
          · skip
            have hc4' := hc4
            try simp at hc4'
            refine GC.skip ?_
            refine GQ.on ?_
            refine GC.seq ?_
            refine GC.seq ?_
            refine GC.reg 5 [W (.pointer (some ⟨(lo1 0), 5, none⟩)), D (.bool a.Whole), W (.pointer (some ⟨(lo1 1), 5, none⟩)), D (.bool b.Whole), W (.bool (a.Whole != b.Whole))] mixed (fun vs w => by kernel_rfl) (⟨fun vs lo hi wx hB hK => Out.load1 rfl agg_4 ((hb1_0.to hB).cell 5 _ rfl), fun vs lo hi wx hB hK => Out.load1 rfl agg_4 ((hb1_1.to hB).cell 5 _ rfl), trivial⟩) ?_
            rintro vs14 lo14 hi14 w14 hU14
            have e15 := btr e13 hU14.1
            replace hb1_0 := hb1_0.to hU14.1
            replace hb1_1 := hb1_1.to hU14.1
            refine Rest.nil (GQ.sub [(2, .pointer (some ⟨(lo1 0), 0, none⟩)), (3, .pointer (some ⟨(lo1 1), 0, none⟩)), (34, .bool (a.Whole != b.Whole))] (by kernel_rfl) ?_)
            refine GQ.on ?_
            refine GC.cond (a.Whole != b.Whole) rfl (fun hc5 => ?_) (fun hc5 => ?_)
            · skip
              have hc5' := hc5
              try simp at hc5'
              refine GC.seq ?_
              refine GC.regW [W (.bool false)] [(4, .bool false)] mixed rfl (fun vs w => by kernel_rfl) rfl (fun vs => by kernel_rfl) ?_
              refine GQ.on ?_
              refine GC.ret ?_
              refine GQ.passRet ?_
              refine GQ.ret1 (.bool false) rfl rfl ?_
              exact ⟨_, rfl, (by first | (congr 1; symm; rw [decide_eq_false_iff_not]; rintro rfl; simp_all; done) | (congr 1; symm; rw [decide_eq_true_iff]; cases a; cases b; simp_all; done)), e15⟩
            · skip
              have hc5' := hc5
              try simp at hc5'
              refine GC.skip ?_
              refine GQ.on ?_
              refine GC.seq ?_
              refine GC.seq ?_
              refine GC.reg 5 [W (.pointer (some ⟨(lo1 0), 6, none⟩)), D (.int .i64 a.Off), W (.pointer (some ⟨(lo1 1), 6, none⟩)), D (.int .i64 b.Off), W (.bool (a.Off != b.Off))] mixed (fun vs w => by kernel_rfl) (⟨fun vs lo hi wx hB hK => Out.load1 rfl agg_3 ((hb1_0.to hB).cell 6 _ rfl), fun vs lo hi wx hB hK => Out.load1 rfl agg_3 ((hb1_1.to hB).cell 6 _ rfl), trivial⟩) ?_
              rintro vs16 lo16 hi16 w16 hU16
              have e17 := btr e15 hU16.1
              replace hb1_0 := hb1_0.to hU16.1
              replace hb1_1 := hb1_1.to hU16.1
              refine Rest.nil (GQ.sub [(2, .pointer (some ⟨(lo1 0), 0, none⟩)), (3, .pointer (some ⟨(lo1 1), 0, none⟩)), (39, .bool (a.Off != b.Off))] (by kernel_rfl) ?_)
              refine GQ.on ?_
              refine GC.cond (a.Off != b.Off) rfl (fun hc6 => ?_) (fun hc6 => ?_)
              · skip
                have hc6' := hc6
                try simp at hc6'
                refine GC.seq ?_
                refine GC.regW [W (.bool false)] [(4, .bool false)] mixed rfl (fun vs w => by kernel_rfl) rfl (fun vs => by kernel_rfl) ?_
                refine GQ.on ?_
                refine GC.ret ?_
                refine GQ.passRet ?_
                refine GQ.ret1 (.bool false) rfl rfl ?_
                exact ⟨_, rfl, (by first | (congr 1; symm; rw [decide_eq_false_iff_not]; rintro rfl; simp_all; done) | (congr 1; symm; rw [decide_eq_true_iff]; cases a; cases b; simp_all; done)), e17⟩
              · skip
                have hc6' := hc6
                try simp at hc6'
                refine GC.skip ?_
                refine GQ.on ?_
                refine GC.seq ?_
                refine GC.seq ?_
                refine GC.reg 5 [W (.pointer (some ⟨(lo1 0), 7, none⟩)), D (.bool a.More), W (.pointer (some ⟨(lo1 1), 7, none⟩)), D (.bool b.More), W (.bool (a.More != b.More))] mixed (fun vs w => by kernel_rfl) (⟨fun vs lo hi wx hB hK => Out.load1 rfl agg_4 ((hb1_0.to hB).cell 7 _ rfl), fun vs lo hi wx hB hK => Out.load1 rfl agg_4 ((hb1_1.to hB).cell 7 _ rfl), trivial⟩) ?_
                rintro vs18 lo18 hi18 w18 hU18
                have e19 := btr e17 hU18.1
                replace hb1_0 := hb1_0.to hU18.1
                replace hb1_1 := hb1_1.to hU18.1
                refine Rest.nil (GQ.sub [(2, .pointer (some ⟨(lo1 0), 0, none⟩)), (3, .pointer (some ⟨(lo1 1), 0, none⟩)), (44, .bool (a.More != b.More))] (by kernel_rfl) ?_)
                refine GQ.on ?_
                refine GC.cond (a.More != b.More) rfl (fun hc7 => ?_) (fun hc7 => ?_)
                · skip
                  have hc7' := hc7
                  try simp at hc7'
                  refine GC.seq ?_
                  refine GC.regW [W (.bool false)] [(4, .bool false)] mixed rfl (fun vs w => by kernel_rfl) rfl (fun vs => by kernel_rfl) ?_
                  refine GQ.on ?_
                  refine GC.ret ?_
                  refine GQ.passRet ?_
                  refine GQ.ret1 (.bool false) rfl rfl ?_
                  exact ⟨_, rfl, (by first | (congr 1; symm; rw [decide_eq_false_iff_not]; rintro rfl; simp_all; done) | (congr 1; symm; rw [decide_eq_true_iff]; cases a; cases b; simp_all; done)), e19⟩
                · skip
                  have hc7' := hc7
                  try simp at hc7'
                  refine GC.skip ?_
                  refine GQ.on ?_
                  refine GC.seq ?_
                  refine GC.seq ?_
                  refine GC.reg 6 [W (.pointer (some ⟨(lo1 0), 8, none⟩)), D (.slice a_a_Data a.Data.length c_a_Data), W (.pointer (some ⟨(lo1 1), 8, none⟩)), D (.slice a_b_Data b.Data.length c_b_Data), D (.bool (decide (a.Data = b.Data))), W (.bool (!(decide (a.Data = b.Data))))] mixed (fun vs w => by kernel_rfl) (⟨fun vs lo hi wx hB hK => Out.load1 rfl agg_28 ((hb1_0.to hB).cell 8 _ rfl), fun vs lo hi wx hB hK => Out.load1 rfl agg_28 ((hb1_1.to hB).cell 8 _ rfl), fun vs lo hi wx hB hK => Out.call (by kernel_rfl) (c_laws_eqByteS _ a_a_Data c_a_Data a.Data (h_a_Data.below (btr e19 hB)) a_b_Data c_b_Data b.Data (h_b_Data.below (btr e19 hB))) (fun _ _ h => h), trivial⟩) ?_
                  rintro vs20 lo20 hi20 w20 hU20
                  have e21 := btr e19 hU20.1
                  replace hb1_0 := hb1_0.to hU20.1
                  replace hb1_1 := hb1_1.to hU20.1
                  refine Rest.nil (GQ.sub [(50, .bool (!(decide (a.Data = b.Data))))] (by kernel_rfl) ?_)
                  refine GQ.on ?_
                  refine GC.cond (!(decide (a.Data = b.Data))) rfl (fun hc8 => ?_) (fun hc8 => ?_)
                  · skip
                    have hc8' := hc8
                    try simp at hc8'
                    refine GC.seq ?_
                    refine GC.regW [W (.bool false)] [(4, .bool false)] mixed rfl (fun vs w => by kernel_rfl) rfl (fun vs => by kernel_rfl) ?_
                    refine GQ.on ?_
                    refine GC.ret ?_
                    refine GQ.passRet ?_
                    refine GQ.ret1 (.bool false) rfl rfl ?_
                    exact ⟨_, rfl, (by first | (congr 1; symm; rw [decide_eq_false_iff_not]; rintro rfl; simp_all; done) | (congr 1; symm; rw [decide_eq_true_iff]; cases a; cases b; simp_all; done)), e21⟩
                  · skip
                    have hc8' := hc8
                    try simp at hc8'
                    refine GC.skip ?_
                    refine GQ.on ?_
                    refine GC.seq ?_
                    refine GC.regW [W (.bool true)] [(4, .bool true)] mixed rfl (fun vs w => by kernel_rfl) rfl (fun vs => by kernel_rfl) ?_
                    refine GQ.on ?_
                    refine GC.ret ?_
                    refine GQ.ret1 (.bool true) rfl rfl ?_
                    exact ⟨_, rfl, (by first | (congr 1; symm; rw [decide_eq_false_iff_not]; rintro rfl; simp_all; done) | (congr 1; symm; rw [decide_eq_true_iff]; cases a; cases b; simp_all; done)), e21⟩
def fragEnd (p : FragPacket) : Int := p.Off + (p.Data.length : Int)
/-- (impl.FragPacket).end -/
theorem c_impl_FragPacket__end (w : World) (p : FragPacket) (cs_p : List Value) (h_p : rpFragPacket.rd w cs_p p) (hp : -9223372036854775808 ≤ p.Off + p.Data.length ∧ p.Off + p.Data.length ≤ 9223372036854775807) :
    Calls Try.prog 43 #[.agg cs_p.toArray] w fun e w' => ∃ rv, e = .returned rv ∧ (rv = .int .i64 (fragEnd p) ∧ Below w.heap.size w w') := by
  obtain ⟨a_p_Data, c_p_Data, rfl, h_p_Data⟩ := h_p
  refine enter [(0, .agg #[.int .i64 p.Src, .int .i64 p.Dst, .int .i64 p.Kind, .int .i64 p.Id, .int .i64 p.Hops, .bool p.Whole, .int .i64 p.Off, .bool p.More, .slice a_p_Data p.Data.length c_p_Data])] Try.func43 rfl (by kernel_rfl) (by kernel_rfl) ?_
  have e0 := brefl w
  refine GC.seq ?_
  refine GC.reg 2 [RB 0 33 [.int .i64 p.Src, .int .i64 p.Dst, .int .i64 p.Kind, .int .i64 p.Id, .int .i64 p.Hops, .bool p.Whole, .int .i64 p.Off, .bool p.More, .slice a_p_Data p.Data.length c_p_Data], W (.int .i64 0)] mixed (fun vs w => by kernel_rfl) (⟨fun vs lo hi wx hB hK => Out.box rfl, trivial⟩) ?_
  rintro vs1 lo1 hi1 w1 hU1
  have e2 := btr e0 hU1.1
  obtain ⟨⟨hv1_0, hp1_0, hb1_0⟩, hl1_0, -, -⟩ := hU1.2.1 0 _ rfl trivial
  have hl1_0b := Nat.le_trans e0.size hl1_0
  refine Rest.nil (GQ.sub [(1, .pointer (some ⟨(lo1 0), 0, none⟩))] (by rw [← hv1_0]; kernel_rfl) ?_)
  refine GQ.on ?_
  refine GC.seq ?_
  refine GC.reg 7 [W (.pointer (some ⟨(lo1 0), 6, none⟩)), D (.int .i64 p.Off), W (.pointer (some ⟨(lo1 0), 8, none⟩)), D (.slice a_p_Data p.Data.length c_p_Data), W (.int .i64 (p.Data.length : Int)), D (.int .i64 (p.Off + (p.Data.length : Int))), W (.int .i64 (p.Off + (p.Data.length : Int)))] mixed (fun vs w => by kernel_rfl) (⟨fun vs lo hi wx hB hK => Out.load1 rfl agg_3 ((hb1_0.to hB).cell 6 _ rfl), fun vs lo hi wx hB hK => Out.load1 rfl agg_28 ((hb1_0.to hB).cell 8 _ rfl), fun vs lo hi wx hB hK => Out.add rfl rfl (by omega) (by omega), trivial⟩) ?_
  rintro vs3 lo3 hi3 w3 hU3
  have e4 := btr e2 hU3.1
  replace hb1_0 := hb1_0.to hU3.1
  refine Rest.nil (GQ.sub [(2, .int .i64 (p.Off + (p.Data.length : Int)))] (by kernel_rfl) ?_)
  refine GQ.on ?_
  refine GC.ret ?_
  refine GQ.ret1 (.int .i64 (p.Off + (p.Data.length : Int))) rfl rfl ?_
  exact ⟨_, rfl, congrArg (Value.int .i64) rfl, e4⟩
def fragI (p : FragPacket) : Bool := bif ((!(within p.Src 0 65535)) || ((!(within p.Dst 0 65535)) || (!(within p.Kind 1 7)))) then false else (bif ((!(within p.Id 0 255)) || ((!(within p.Hops 1 64)) || (!(within p.Off 0 128)))) then false else (bif (((Int.tmod p.Off 4) != (0 : Int)) || ((decide ((fragEnd p) > (128 : Int))) || (p.More && (((p.Data.length : Int) == (0 : Int)) || ((Int.tmod (p.Data.length : Int) 4) != (0 : Int)))))) then false else (!p.Whole || ((p.Off == (0 : Int)) && !p.More))))
/-- impl.FragOk -/
theorem c_impl_FragOk (w : World) (p : FragPacket) (cs_p : List Value) (h_p : rpFragPacket.rd w cs_p p) (hD : p.Data.length ≤ 1048576) :
    Calls Try.prog 29 #[.agg cs_p.toArray] w fun e w' => ∃ rv, e = .returned rv ∧ (rv = .bool (fragI p) ∧ Below w.heap.size w w') := by
  obtain ⟨a_p_Data, c_p_Data, rfl, h_p_Data⟩ := h_p
  refine enter [(0, .agg #[.int .i64 p.Src, .int .i64 p.Dst, .int .i64 p.Kind, .int .i64 p.Id, .int .i64 p.Hops, .bool p.Whole, .int .i64 p.Off, .bool p.More, .slice a_p_Data p.Data.length c_p_Data])] Try.func29 rfl (by kernel_rfl) (by kernel_rfl) ?_
  have e0 := brefl w
  refine GC.seq ?_
  refine GC.reg 2 [RB 0 33 [.int .i64 p.Src, .int .i64 p.Dst, .int .i64 p.Kind, .int .i64 p.Id, .int .i64 p.Hops, .bool p.Whole, .int .i64 p.Off, .bool p.More, .slice a_p_Data p.Data.length c_p_Data], W (.bool false)] mixed (fun vs w => by kernel_rfl) (⟨fun vs lo hi wx hB hK => Out.box rfl, trivial⟩) ?_
  rintro vs1 lo1 hi1 w1 hU1
  have e2 := btr e0 hU1.1
  obtain ⟨⟨hv1_0, hp1_0, hb1_0⟩, hl1_0, -, -⟩ := hU1.2.1 0 _ rfl trivial
  have hl1_0b := Nat.le_trans e0.size hl1_0
  refine Rest.nil (GQ.sub [(1, .pointer (some ⟨(lo1 0), 0, none⟩))] (by rw [← hv1_0]; kernel_rfl) ?_)
  refine GQ.on ?_
  refine GC.seq ?_
  refine GC.block ?_
  refine GC.seq ?_
  refine GC.abs [(1, .pointer (some ⟨(lo1 0), 0, none⟩)), (3, .bool ((!(within p.Src 0 65535)) || ((!(within p.Dst 0 65535)) || (!(within p.Kind 1 7)))))] (fun w' => Below w1.heap.size w1 w') (fun Q' hQ5 => ?_) (fun w3 hE4 => ?_)
  · skip
    cases hB6 : (!(within p.Src 0 65535))
    · skip
      have hB6' := hB6
      try simp only [within] at hB6'
      try simp at hB6'
      cases hB7 : (!(within p.Dst 0 65535))
      · skip
        have hB7' := hB7
        try simp only [within] at hB7'
        try simp at hB7'
        refine GC.reg 17 [W (.pointer (some ⟨(lo1 0), 0, none⟩)), D (.int .i64 p.Src), D (.bool (within p.Src 0 65535)), D (.bool false), W (.bool false), W (.pointer (some ⟨(lo1 0), 1, none⟩)), D (.int .i64 p.Dst), D (.bool (within p.Dst 0 65535)), D (.bool false), W (.bool false), W (.bool false), W (.pointer (some ⟨(lo1 0), 2, none⟩)), D (.int .i64 p.Kind), D (.bool (within p.Kind 1 7)), W (.bool (!(within p.Kind 1 7))), W (.bool (!(within p.Kind 1 7))), W (.bool (!(within p.Kind 1 7)))] mixed (fun vs w => by kernel_rfl) (⟨fun vs lo hi wx hB hK => Out.load1 rfl agg_3 ((hb1_0.to hB).cell 0 _ rfl), fun vs lo hi wx hB hK => Out.call (by kernel_rfl) (c_impl_within _ p.Src 0 65535) (fun _ _ h => h), fun vs lo hi wx hB hK => Out.asB (Out.of_run (by kernel_rfl)) hB6, fun vs lo hi wx hB hK => Out.load1 rfl agg_3 ((hb1_0.to hB).cell 1 _ rfl), fun vs lo hi wx hB hK => Out.call (by kernel_rfl) (c_impl_within _ p.Dst 0 65535) (fun _ _ h => h), fun vs lo hi wx hB hK => Out.asB (Out.of_run (by kernel_rfl)) hB7, fun vs lo hi wx hB hK => Out.load1 rfl agg_3 ((hb1_0.to hB).cell 2 _ rfl), fun vs lo hi wx hB hK => Out.call (by kernel_rfl) (c_impl_within _ p.Kind 1 7) (fun _ _ h => h), trivial⟩) ?_
        rintro vs8 lo8 hi8 w8 hU8
        exact Rest.nil (GQ.sub [(1, .pointer (some ⟨(lo1 0), 0, none⟩)), (3, .bool ((!(within p.Src 0 65535)) || ((!(within p.Dst 0 65535)) || (!(within p.Kind 1 7)))))] (by (try simp only [hB6]); (try simp only [hB7]); kernel_rfl) (hQ5 _ hU8.1))
      · skip
        have hB7' := hB7
        try simp only [within] at hB7'
        try simp at hB7'
        refine GC.reg 17 [W (.pointer (some ⟨(lo1 0), 0, none⟩)), D (.int .i64 p.Src), D (.bool (within p.Src 0 65535)), D (.bool false), W (.bool false), W (.pointer (some ⟨(lo1 0), 1, none⟩)), D (.int .i64 p.Dst), D (.bool (within p.Dst 0 65535)), D (.bool true), W (.bool true), W (.bool true), S, S, S, S, W (.bool true), W (.bool true)] mixed (fun vs w => by kernel_rfl) (⟨fun vs lo hi wx hB hK => Out.load1 rfl agg_3 ((hb1_0.to hB).cell 0 _ rfl), fun vs lo hi wx hB hK => Out.call (by kernel_rfl) (c_impl_within _ p.Src 0 65535) (fun _ _ h => h), fun vs lo hi wx hB hK => Out.asB (Out.of_run (by kernel_rfl)) hB6, fun vs lo hi wx hB hK => Out.load1 rfl agg_3 ((hb1_0.to hB).cell 1 _ rfl), fun vs lo hi wx hB hK => Out.call (by kernel_rfl) (c_impl_within _ p.Dst 0 65535) (fun _ _ h => h), fun vs lo hi wx hB hK => Out.asB (Out.of_run (by kernel_rfl)) hB7, trivial⟩) ?_
        rintro vs9 lo9 hi9 w9 hU9
        exact Rest.nil (GQ.sub [(1, .pointer (some ⟨(lo1 0), 0, none⟩)), (3, .bool ((!(within p.Src 0 65535)) || ((!(within p.Dst 0 65535)) || (!(within p.Kind 1 7)))))] (by (try simp only [hB6]); (try simp only [hB7]); kernel_rfl) (hQ5 _ hU9.1))
    · skip
      have hB6' := hB6
      try simp only [within] at hB6'
      try simp at hB6'
      refine GC.reg 17 [W (.pointer (some ⟨(lo1 0), 0, none⟩)), D (.int .i64 p.Src), D (.bool (within p.Src 0 65535)), D (.bool true), W (.bool true), S, S, S, S, W (.bool true), W (.bool true), S, S, S, S, W (.bool true), W (.bool true)] mixed (fun vs w => by kernel_rfl) (⟨fun vs lo hi wx hB hK => Out.load1 rfl agg_3 ((hb1_0.to hB).cell 0 _ rfl), fun vs lo hi wx hB hK => Out.call (by kernel_rfl) (c_impl_within _ p.Src 0 65535) (fun _ _ h => h), fun vs lo hi wx hB hK => Out.asB (Out.of_run (by kernel_rfl)) hB6, trivial⟩) ?_
      rintro vs10 lo10 hi10 w10 hU10
      exact Rest.nil (GQ.sub [(1, .pointer (some ⟨(lo1 0), 0, none⟩)), (3, .bool ((!(within p.Src 0 65535)) || ((!(within p.Dst 0 65535)) || (!(within p.Kind 1 7)))))] (by (try simp only [hB6]); kernel_rfl) (hQ5 _ hU10.1))
  · skip
    have e11 := btr e2 hE4
    replace hb1_0 := hb1_0.to hE4
    refine GQ.on ?_
    refine GC.cond ((!(within p.Src 0 65535)) || ((!(within p.Dst 0 65535)) || (!(within p.Kind 1 7)))) rfl (fun hc0 => ?_) (fun hc0 => ?_)
    · skip
      have hc0' := hc0
      try simp only [within] at hc0'
      try simp at hc0'
      refine GC.seq ?_
      refine GC.regW [W (.bool false)] [(2, .bool false)] mixed rfl (fun vs w => by kernel_rfl) rfl (fun vs => by kernel_rfl) ?_
      refine GQ.on ?_
      refine GC.ret ?_
      refine GQ.blockRet ?_
      refine GQ.passRet ?_
      refine GQ.ret1 (.bool false) rfl rfl ?_
      exact ⟨_, rfl, congrArg (Value.bool) (cndT hc0 rfl), e11⟩
    · skip
      have hc0' := hc0
      try simp only [within] at hc0'
      try simp at hc0'
      refine GC.seq ?_
      refine GC.abs [(1, .pointer (some ⟨(lo1 0), 0, none⟩)), (20, .bool ((!(within p.Id 0 255)) || ((!(within p.Hops 1 64)) || (!(within p.Off 0 128)))))] (fun w' => Below w3.heap.size w3 w') (fun Q' hQ14 => ?_) (fun w12 hE13 => ?_)
      · skip
        cases hB15 : (!(within p.Id 0 255))
        · skip
          have hB15' := hB15
          try simp only [within] at hB15'
          try simp at hB15'
          cases hB16 : (!(within p.Hops 1 64))
          · skip
            have hB16' := hB16
            try simp only [within] at hB16'
            try simp at hB16'
            refine GC.reg 17 [W (.pointer (some ⟨(lo1 0), 3, none⟩)), D (.int .i64 p.Id), D (.bool (within p.Id 0 255)), D (.bool false), W (.bool false), W (.pointer (some ⟨(lo1 0), 4, none⟩)), D (.int .i64 p.Hops), D (.bool (within p.Hops 1 64)), D (.bool false), W (.bool false), W (.bool false), W (.pointer (some ⟨(lo1 0), 6, none⟩)), D (.int .i64 p.Off), D (.bool (within p.Off 0 128)), W (.bool (!(within p.Off 0 128))), W (.bool (!(within p.Off 0 128))), W (.bool (!(within p.Off 0 128)))] mixed (fun vs w => by kernel_rfl) (⟨fun vs lo hi wx hB hK => Out.load1 rfl agg_3 ((hb1_0.to hB).cell 3 _ rfl), fun vs lo hi wx hB hK => Out.call (by kernel_rfl) (c_impl_within _ p.Id 0 255) (fun _ _ h => h), fun vs lo hi wx hB hK => Out.asB (Out.of_run (by kernel_rfl)) hB15, fun vs lo hi wx hB hK => Out.load1 rfl agg_3 ((hb1_0.to hB).cell 4 _ rfl), fun vs lo hi wx hB hK => Out.call (by kernel_rfl) (c_impl_within _ p.Hops 1 64) (fun _ _ h => h), fun vs lo hi wx hB hK => Out.asB (Out.of_run (by kernel_rfl)) hB16, fun vs lo hi wx hB hK => Out.load1 rfl agg_3 ((hb1_0.to hB).cell 6 _ rfl), fun vs lo hi wx hB hK => Out.call (by kernel_rfl) (c_impl_within _ p.Off 0 128) (fun _ _ h => h), trivial⟩) ?_
            rintro vs17 lo17 hi17 w17 hU17
            exact Rest.nil (GQ.sub [(1, .pointer (some ⟨(lo1 0), 0, none⟩)), (20, .bool ((!(within p.Id 0 255)) || ((!(within p.Hops 1 64)) || (!(within p.Off 0 128)))))] (by (try simp only [hB15]); (try simp only [hB16]); kernel_rfl) (hQ14 _ hU17.1))
          · skip
            have hB16' := hB16
            try simp only [within] at hB16'
            try simp at hB16'
            refine GC.reg 17 [W (.pointer (some ⟨(lo1 0), 3, none⟩)), D (.int .i64 p.Id), D (.bool (within p.Id 0 255)), D (.bool false), W (.bool false), W (.pointer (some ⟨(lo1 0), 4, none⟩)), D (.int .i64 p.Hops), D (.bool (within p.Hops 1 64)), D (.bool true), W (.bool true), W (.bool true), S, S, S, S, W (.bool true), W (.bool true)] mixed (fun vs w => by kernel_rfl) (⟨fun vs lo hi wx hB hK => Out.load1 rfl agg_3 ((hb1_0.to hB).cell 3 _ rfl), fun vs lo hi wx hB hK => Out.call (by kernel_rfl) (c_impl_within _ p.Id 0 255) (fun _ _ h => h), fun vs lo hi wx hB hK => Out.asB (Out.of_run (by kernel_rfl)) hB15, fun vs lo hi wx hB hK => Out.load1 rfl agg_3 ((hb1_0.to hB).cell 4 _ rfl), fun vs lo hi wx hB hK => Out.call (by kernel_rfl) (c_impl_within _ p.Hops 1 64) (fun _ _ h => h), fun vs lo hi wx hB hK => Out.asB (Out.of_run (by kernel_rfl)) hB16, trivial⟩) ?_
            rintro vs18 lo18 hi18 w18 hU18
            exact Rest.nil (GQ.sub [(1, .pointer (some ⟨(lo1 0), 0, none⟩)), (20, .bool ((!(within p.Id 0 255)) || ((!(within p.Hops 1 64)) || (!(within p.Off 0 128)))))] (by (try simp only [hB15]); (try simp only [hB16]); kernel_rfl) (hQ14 _ hU18.1))
        · skip
          have hB15' := hB15
          try simp only [within] at hB15'
          try simp at hB15'
          refine GC.reg 17 [W (.pointer (some ⟨(lo1 0), 3, none⟩)), D (.int .i64 p.Id), D (.bool (within p.Id 0 255)), D (.bool true), W (.bool true), S, S, S, S, W (.bool true), W (.bool true), S, S, S, S, W (.bool true), W (.bool true)] mixed (fun vs w => by kernel_rfl) (⟨fun vs lo hi wx hB hK => Out.load1 rfl agg_3 ((hb1_0.to hB).cell 3 _ rfl), fun vs lo hi wx hB hK => Out.call (by kernel_rfl) (c_impl_within _ p.Id 0 255) (fun _ _ h => h), fun vs lo hi wx hB hK => Out.asB (Out.of_run (by kernel_rfl)) hB15, trivial⟩) ?_
          rintro vs19 lo19 hi19 w19 hU19
          exact Rest.nil (GQ.sub [(1, .pointer (some ⟨(lo1 0), 0, none⟩)), (20, .bool ((!(within p.Id 0 255)) || ((!(within p.Hops 1 64)) || (!(within p.Off 0 128)))))] (by (try simp only [hB15]); kernel_rfl) (hQ14 _ hU19.1))
      · skip
        have e20 := btr e11 hE13
        replace hb1_0 := hb1_0.to hE13
        refine GQ.on ?_
        refine GC.cond ((!(within p.Id 0 255)) || ((!(within p.Hops 1 64)) || (!(within p.Off 0 128)))) rfl (fun hc1 => ?_) (fun hc1 => ?_)
        · skip
          have hc1' := hc1
          try simp only [within] at hc1'
          try simp at hc1'
          refine GC.seq ?_
          refine GC.regW [W (.bool false)] [(2, .bool false)] mixed rfl (fun vs w => by kernel_rfl) rfl (fun vs => by kernel_rfl) ?_
          refine GQ.on ?_
          refine GC.ret ?_
          refine GQ.blockRet ?_
          refine GQ.passRet ?_
          refine GQ.ret1 (.bool false) rfl rfl ?_
          exact ⟨_, rfl, congrArg (Value.bool) (cndF hc0 (cndT hc1 rfl)), e20⟩
        · skip
          have hc1' := hc1
          try simp only [within] at hc1'
          try simp at hc1'
          refine GC.seq ?_
          refine GC.abs [(1, .pointer (some ⟨(lo1 0), 0, none⟩)), (37, .bool (((Int.tmod p.Off 4) != (0 : Int)) || ((decide ((fragEnd p) > (128 : Int))) || (p.More && (((p.Data.length : Int) == (0 : Int)) || ((Int.tmod (p.Data.length : Int) 4) != (0 : Int)))))))] (fun w' => Below w12.heap.size w12 w') (fun Q' hQ23 => ?_) (fun w21 hE22 => ?_)
          · skip
            cases hB24 : ((Int.tmod p.Off 4) != (0 : Int))
            · skip
              have hB24' := hB24
              try simp only [within] at hB24'
              try simp at hB24'
              cases hB25 : (decide ((fragEnd p) > (128 : Int)))
              · skip
                have hB25' := hB25
                try simp only [within] at hB25'
                try simp at hB25'
                cases hB26 : (p.More)
                · skip
                  have hB26' := hB26
                  try simp only [within] at hB26'
                  try simp at hB26'
                  refine GC.reg 27 [W (.pointer (some ⟨(lo1 0), 6, none⟩)), D (.int .i64 p.Off), D (.int .i64 (Int.tmod p.Off 4)), D (.bool false), W (.bool false), D (.agg #[.int .i64 p.Src, .int .i64 p.Dst, .int .i64 p.Kind, .int .i64 p.Id, .int .i64 p.Hops, .bool p.Whole, .int .i64 p.Off, .bool p.More, .slice a_p_Data p.Data.length c_p_Data]), D (.int .i64 (fragEnd p)), D (.bool false), W (.bool false), W (.bool false), W (.pointer (some ⟨(lo1 0), 7, none⟩)), D (.bool false), W (.bool false), S, S, S, S, S, S, S, S, S, S, S, W (.bool false), W (.bool false), W (.bool false)] mixed (fun vs w => by kernel_rfl) (⟨fun vs lo hi wx hB hK => Out.load1 rfl agg_3 ((hb1_0.to hB).cell 6 _ rfl), fun vs lo hi wx hB hK => Out.rem rfl rfl (by decide), fun vs lo hi wx hB hK => Out.asB (Out.of_run (by kernel_rfl)) hB24, fun vs lo hi wx hB hK => Out.loadA rfl agg_33 size_33 ((hb1_0.to hB).has 0 _ rfl), fun vs lo hi wx hB hK => Out.call (by kernel_rfl) (c_impl_FragPacket__end _ p ([.int .i64 p.Src, .int .i64 p.Dst, .int .i64 p.Kind, .int .i64 p.Id, .int .i64 p.Hops, .bool p.Whole, .int .i64 p.Off, .bool p.More, .slice a_p_Data p.Data.length c_p_Data]) (show rpFragPacket.rd _ _ _ from ⟨_, _, rfl, h_p_Data.below (btr e20 hB)⟩) (by omega)) (fun _ _ h => h), fun vs lo hi wx hB hK => Out.asB (Out.of_run (by kernel_rfl)) hB25, fun vs lo hi wx hB hK => Out.asB (Out.load1 rfl agg_4 ((hb1_0.to hB).cell 7 _ rfl)) hB26, trivial⟩) ?_
                  rintro vs27 lo27 hi27 w27 hU27
                  exact Rest.nil (GQ.sub [(1, .pointer (some ⟨(lo1 0), 0, none⟩)), (37, .bool (((Int.tmod p.Off 4) != (0 : Int)) || ((decide ((fragEnd p) > (128 : Int))) || (p.More && (((p.Data.length : Int) == (0 : Int)) || ((Int.tmod (p.Data.length : Int) 4) != (0 : Int)))))))] (by (try simp only [hB24]); (try simp only [hB25]); (try simp only [hB26]); kernel_rfl) (hQ23 _ hU27.1))
                · skip
                  have hB26' := hB26
                  try simp only [within] at hB26'
                  try simp at hB26'
                  cases hB28 : ((p.Data.length : Int) == (0 : Int))
                  · skip
                    have hB28' := hB28
                    try simp only [within] at hB28'
                    try simp at hB28'
                    refine GC.reg 27 [W (.pointer (some ⟨(lo1 0), 6, none⟩)), D (.int .i64 p.Off), D (.int .i64 (Int.tmod p.Off 4)), D (.bool false), W (.bool false), D (.agg #[.int .i64 p.Src, .int .i64 p.Dst, .int .i64 p.Kind, .int .i64 p.Id, .int .i64 p.Hops, .bool p.Whole, .int .i64 p.Off, .bool p.More, .slice a_p_Data p.Data.length c_p_Data]), D (.int .i64 (fragEnd p)), D (.bool false), W (.bool false), W (.bool false), W (.pointer (some ⟨(lo1 0), 7, none⟩)), D (.bool true), W (.bool true), W (.pointer (some ⟨(lo1 0), 8, none⟩)), D (.slice a_p_Data p.Data.length c_p_Data), W (.int .i64 (p.Data.length : Int)), D (.bool false), W (.bool false), W (.pointer (some ⟨(lo1 0), 8, none⟩)), D (.slice a_p_Data p.Data.length c_p_Data), W (.int .i64 (p.Data.length : Int)), D (.int .i64 (Int.tmod (p.Data.length : Int) 4)), W (.bool ((Int.tmod (p.Data.length : Int) 4) != (0 : Int))), W (.bool ((Int.tmod (p.Data.length : Int) 4) != (0 : Int))), W (.bool ((Int.tmod (p.Data.length : Int) 4) != (0 : Int))), W (.bool ((Int.tmod (p.Data.length : Int) 4) != (0 : Int))), W (.bool ((Int.tmod (p.Data.length : Int) 4) != (0 : Int)))] mixed (fun vs w => by kernel_rfl) (⟨fun vs lo hi wx hB hK => Out.load1 rfl agg_3 ((hb1_0.to hB).cell 6 _ rfl), fun vs lo hi wx hB hK => Out.rem rfl rfl (by decide), fun vs lo hi wx hB hK => Out.asB (Out.of_run (by kernel_rfl)) hB24, fun vs lo hi wx hB hK => Out.loadA rfl agg_33 size_33 ((hb1_0.to hB).has 0 _ rfl), fun vs lo hi wx hB hK => Out.call (by kernel_rfl) (c_impl_FragPacket__end _ p ([.int .i64 p.Src, .int .i64 p.Dst, .int .i64 p.Kind, .int .i64 p.Id, .int .i64 p.Hops, .bool p.Whole, .int .i64 p.Off, .bool p.More, .slice a_p_Data p.Data.length c_p_Data]) (show rpFragPacket.rd _ _ _ from ⟨_, _, rfl, h_p_Data.below (btr e20 hB)⟩) (by omega)) (fun _ _ h => h), fun vs lo hi wx hB hK => Out.asB (Out.of_run (by kernel_rfl)) hB25, fun vs lo hi wx hB hK => Out.asB (Out.load1 rfl agg_4 ((hb1_0.to hB).cell 7 _ rfl)) hB26, fun vs lo hi wx hB hK => Out.load1 rfl agg_28 ((hb1_0.to hB).cell 8 _ rfl), fun vs lo hi wx hB hK => Out.asB (Out.of_run (by kernel_rfl)) hB28, fun vs lo hi wx hB hK => Out.load1 rfl agg_28 ((hb1_0.to hB).cell 8 _ rfl), fun vs lo hi wx hB hK => Out.rem rfl rfl (by decide), trivial⟩) ?_
                    rintro vs29 lo29 hi29 w29 hU29
                    exact Rest.nil (GQ.sub [(1, .pointer (some ⟨(lo1 0), 0, none⟩)), (37, .bool (((Int.tmod p.Off 4) != (0 : Int)) || ((decide ((fragEnd p) > (128 : Int))) || (p.More && (((p.Data.length : Int) == (0 : Int)) || ((Int.tmod (p.Data.length : Int) 4) != (0 : Int)))))))] (by (try simp only [hB24]); (try simp only [hB25]); (try simp only [hB26]); (try simp only [hB28]); kernel_rfl) (hQ23 _ hU29.1))
                  · skip
                    have hB28' := hB28
                    try simp only [within] at hB28'
                    try simp at hB28'
                    refine GC.reg 27 [W (.pointer (some ⟨(lo1 0), 6, none⟩)), D (.int .i64 p.Off), D (.int .i64 (Int.tmod p.Off 4)), D (.bool false), W (.bool false), D (.agg #[.int .i64 p.Src, .int .i64 p.Dst, .int .i64 p.Kind, .int .i64 p.Id, .int .i64 p.Hops, .bool p.Whole, .int .i64 p.Off, .bool p.More, .slice a_p_Data p.Data.length c_p_Data]), D (.int .i64 (fragEnd p)), D (.bool false), W (.bool false), W (.bool false), W (.pointer (some ⟨(lo1 0), 7, none⟩)), D (.bool true), W (.bool true), W (.pointer (some ⟨(lo1 0), 8, none⟩)), D (.slice a_p_Data p.Data.length c_p_Data), W (.int .i64 (p.Data.length : Int)), D (.bool true), W (.bool true), S, S, S, S, S, W (.bool true), W (.bool true), W (.bool true), W (.bool true)] mixed (fun vs w => by kernel_rfl) (⟨fun vs lo hi wx hB hK => Out.load1 rfl agg_3 ((hb1_0.to hB).cell 6 _ rfl), fun vs lo hi wx hB hK => Out.rem rfl rfl (by decide), fun vs lo hi wx hB hK => Out.asB (Out.of_run (by kernel_rfl)) hB24, fun vs lo hi wx hB hK => Out.loadA rfl agg_33 size_33 ((hb1_0.to hB).has 0 _ rfl), fun vs lo hi wx hB hK => Out.call (by kernel_rfl) (c_impl_FragPacket__end _ p ([.int .i64 p.Src, .int .i64 p.Dst, .int .i64 p.Kind, .int .i64 p.Id, .int .i64 p.Hops, .bool p.Whole, .int .i64 p.Off, .bool p.More, .slice a_p_Data p.Data.length c_p_Data]) (show rpFragPacket.rd _ _ _ from ⟨_, _, rfl, h_p_Data.below (btr e20 hB)⟩) (by omega)) (fun _ _ h => h), fun vs lo hi wx hB hK => Out.asB (Out.of_run (by kernel_rfl)) hB25, fun vs lo hi wx hB hK => Out.asB (Out.load1 rfl agg_4 ((hb1_0.to hB).cell 7 _ rfl)) hB26, fun vs lo hi wx hB hK => Out.load1 rfl agg_28 ((hb1_0.to hB).cell 8 _ rfl), fun vs lo hi wx hB hK => Out.asB (Out.of_run (by kernel_rfl)) hB28, trivial⟩) ?_
                    rintro vs30 lo30 hi30 w30 hU30
                    exact Rest.nil (GQ.sub [(1, .pointer (some ⟨(lo1 0), 0, none⟩)), (37, .bool (((Int.tmod p.Off 4) != (0 : Int)) || ((decide ((fragEnd p) > (128 : Int))) || (p.More && (((p.Data.length : Int) == (0 : Int)) || ((Int.tmod (p.Data.length : Int) 4) != (0 : Int)))))))] (by (try simp only [hB24]); (try simp only [hB25]); (try simp only [hB26]); (try simp only [hB28]); kernel_rfl) (hQ23 _ hU30.1))
              · skip
                have hB25' := hB25
                try simp only [within] at hB25'
                try simp at hB25'
                refine GC.reg 27 [W (.pointer (some ⟨(lo1 0), 6, none⟩)), D (.int .i64 p.Off), D (.int .i64 (Int.tmod p.Off 4)), D (.bool false), W (.bool false), D (.agg #[.int .i64 p.Src, .int .i64 p.Dst, .int .i64 p.Kind, .int .i64 p.Id, .int .i64 p.Hops, .bool p.Whole, .int .i64 p.Off, .bool p.More, .slice a_p_Data p.Data.length c_p_Data]), D (.int .i64 (fragEnd p)), D (.bool true), W (.bool true), W (.bool true), S, S, S, S, S, S, S, S, S, S, S, S, S, S, S, W (.bool true), W (.bool true)] mixed (fun vs w => by kernel_rfl) (⟨fun vs lo hi wx hB hK => Out.load1 rfl agg_3 ((hb1_0.to hB).cell 6 _ rfl), fun vs lo hi wx hB hK => Out.rem rfl rfl (by decide), fun vs lo hi wx hB hK => Out.asB (Out.of_run (by kernel_rfl)) hB24, fun vs lo hi wx hB hK => Out.loadA rfl agg_33 size_33 ((hb1_0.to hB).has 0 _ rfl), fun vs lo hi wx hB hK => Out.call (by kernel_rfl) (c_impl_FragPacket__end _ p ([.int .i64 p.Src, .int .i64 p.Dst, .int .i64 p.Kind, .int .i64 p.Id, .int .i64 p.Hops, .bool p.Whole, .int .i64 p.Off, .bool p.More, .slice a_p_Data p.Data.length c_p_Data]) (show rpFragPacket.rd _ _ _ from ⟨_, _, rfl, h_p_Data.below (btr e20 hB)⟩) (by omega)) (fun _ _ h => h), fun vs lo hi wx hB hK => Out.asB (Out.of_run (by kernel_rfl)) hB25, trivial⟩) ?_
                rintro vs31 lo31 hi31 w31 hU31
                exact Rest.nil (GQ.sub [(1, .pointer (some ⟨(lo1 0), 0, none⟩)), (37, .bool (((Int.tmod p.Off 4) != (0 : Int)) || ((decide ((fragEnd p) > (128 : Int))) || (p.More && (((p.Data.length : Int) == (0 : Int)) || ((Int.tmod (p.Data.length : Int) 4) != (0 : Int)))))))] (by (try simp only [hB24]); (try simp only [hB25]); kernel_rfl) (hQ23 _ hU31.1))
            · skip
              have hB24' := hB24
              try simp only [within] at hB24'
              try simp at hB24'
              refine GC.reg 27 [W (.pointer (some ⟨(lo1 0), 6, none⟩)), D (.int .i64 p.Off), D (.int .i64 (Int.tmod p.Off 4)), D (.bool true), W (.bool true), S, S, S, W (.bool true), W (.bool true), S, S, S, S, S, S, S, S, S, S, S, S, S, S, S, W (.bool true), W (.bool true)] mixed (fun vs w => by kernel_rfl) (⟨fun vs lo hi wx hB hK => Out.load1 rfl agg_3 ((hb1_0.to hB).cell 6 _ rfl), fun vs lo hi wx hB hK => Out.rem rfl rfl (by decide), fun vs lo hi wx hB hK => Out.asB (Out.of_run (by kernel_rfl)) hB24, trivial⟩) ?_
              rintro vs32 lo32 hi32 w32 hU32
              exact Rest.nil (GQ.sub [(1, .pointer (some ⟨(lo1 0), 0, none⟩)), (37, .bool (((Int.tmod p.Off 4) != (0 : Int)) || ((decide ((fragEnd p) > (128 : Int))) || (p.More && (((p.Data.length : Int) == (0 : Int)) || ((Int.tmod (p.Data.length : Int) 4) != (0 : Int)))))))] (by (try simp only [hB24]); kernel_rfl) (hQ23 _ hU32.1))
          · skip
            have e33 := btr e20 hE22
            replace hb1_0 := hb1_0.to hE22
            refine GQ.on ?_
            refine GC.cond (((Int.tmod p.Off 4) != (0 : Int)) || ((decide ((fragEnd p) > (128 : Int))) || (p.More && (((p.Data.length : Int) == (0 : Int)) || ((Int.tmod (p.Data.length : Int) 4) != (0 : Int)))))) rfl (fun hc2 => ?_) (fun hc2 => ?_)
            · skip
              have hc2' := hc2
              try simp only [within] at hc2'
              try simp at hc2'
              refine GC.seq ?_
              refine GC.regW [W (.bool false)] [(2, .bool false)] mixed rfl (fun vs w => by kernel_rfl) rfl (fun vs => by kernel_rfl) ?_
              refine GQ.on ?_
              refine GC.ret ?_
              refine GQ.blockRet ?_
              refine GQ.passRet ?_
              refine GQ.ret1 (.bool false) rfl rfl ?_
              exact ⟨_, rfl, congrArg (Value.bool) (cndF hc0 (cndF hc1 (cndT hc2 rfl))), e33⟩
            · skip
              have hc2' := hc2
              try simp only [within] at hc2'
              try simp at hc2'
              refine GC.skip ?_
              refine GQ.blockEnd ?_
              refine GQ.on ?_
              refine GC.seq ?_
              refine GC.abs [(2, .bool (!p.Whole || ((p.Off == (0 : Int)) && !p.More)))] (fun w' => Below w21.heap.size w21 w') (fun Q' hQ36 => ?_) (fun w34 hE35 => ?_)
              · skip
                cases hB37 : (!p.Whole)
                · skip
                  have hB37' := hB37
                  try simp only [within] at hB37'
                  try simp at hB37'
                  cases hB38 : (p.Off == (0 : Int))
                  · skip
                    have hB38' := hB38
                    try simp only [within] at hB38'
                    try simp at hB38'
                    refine GC.reg 14 [W (.pointer (some ⟨(lo1 0), 5, none⟩)), D (.bool p.Whole), D (.bool false), W (.bool false), W (.pointer (some ⟨(lo1 0), 6, none⟩)), D (.int .i64 p.Off), D (.bool false), W (.bool false), S, S, S, W (.bool false), W (.bool false), W (.bool false)] mixed (fun vs w => by kernel_rfl) (⟨fun vs lo hi wx hB hK => Out.load1 rfl agg_4 ((hb1_0.to hB).cell 5 _ rfl), fun vs lo hi wx hB hK => Out.asB (Out.of_run (by kernel_rfl)) hB37, fun vs lo hi wx hB hK => Out.load1 rfl agg_3 ((hb1_0.to hB).cell 6 _ rfl), fun vs lo hi wx hB hK => Out.asB (Out.of_run (by kernel_rfl)) hB38, trivial⟩) ?_
                    rintro vs39 lo39 hi39 w39 hU39
                    exact Rest.nil (GQ.sub [(2, .bool (!p.Whole || ((p.Off == (0 : Int)) && !p.More)))] (by (try simp only [hB37]); (try simp only [hB38]); kernel_rfl) (hQ36 _ hU39.1))
                  · skip
                    have hB38' := hB38
                    try simp only [within] at hB38'
                    try simp at hB38'
                    refine GC.reg 14 [W (.pointer (some ⟨(lo1 0), 5, none⟩)), D (.bool p.Whole), D (.bool false), W (.bool false), W (.pointer (some ⟨(lo1 0), 6, none⟩)), D (.int .i64 p.Off), D (.bool true), W (.bool true), W (.pointer (some ⟨(lo1 0), 7, none⟩)), D (.bool p.More), W (.bool !p.More), W (.bool !p.More), W (.bool !p.More), W (.bool !p.More)] mixed (fun vs w => by kernel_rfl) (⟨fun vs lo hi wx hB hK => Out.load1 rfl agg_4 ((hb1_0.to hB).cell 5 _ rfl), fun vs lo hi wx hB hK => Out.asB (Out.of_run (by kernel_rfl)) hB37, fun vs lo hi wx hB hK => Out.load1 rfl agg_3 ((hb1_0.to hB).cell 6 _ rfl), fun vs lo hi wx hB hK => Out.asB (Out.of_run (by kernel_rfl)) hB38, fun vs lo hi wx hB hK => Out.load1 rfl agg_4 ((hb1_0.to hB).cell 7 _ rfl), trivial⟩) ?_
                    rintro vs40 lo40 hi40 w40 hU40
                    exact Rest.nil (GQ.sub [(2, .bool (!p.Whole || ((p.Off == (0 : Int)) && !p.More)))] (by (try simp only [hB37]); (try simp only [hB38]); kernel_rfl) (hQ36 _ hU40.1))
                · skip
                  have hB37' := hB37
                  try simp only [within] at hB37'
                  try simp at hB37'
                  refine GC.reg 14 [W (.pointer (some ⟨(lo1 0), 5, none⟩)), D (.bool p.Whole), D (.bool true), W (.bool true), S, S, S, S, S, S, S, S, W (.bool true), W (.bool true)] mixed (fun vs w => by kernel_rfl) (⟨fun vs lo hi wx hB hK => Out.load1 rfl agg_4 ((hb1_0.to hB).cell 5 _ rfl), fun vs lo hi wx hB hK => Out.asB (Out.of_run (by kernel_rfl)) hB37, trivial⟩) ?_
                  rintro vs41 lo41 hi41 w41 hU41
                  exact Rest.nil (GQ.sub [(2, .bool (!p.Whole || ((p.Off == (0 : Int)) && !p.More)))] (by (try simp only [hB37]); kernel_rfl) (hQ36 _ hU41.1))
              · skip
                have e42 := btr e33 hE35
                replace hb1_0 := hb1_0.to hE35
                refine GQ.on ?_
                refine GC.ret ?_
                refine GQ.ret1 (.bool (!p.Whole || ((p.Off == (0 : Int)) && !p.More))) rfl rfl ?_
                exact ⟨_, rfl, congrArg (Value.bool) (cndF hc0 (cndF hc1 (cndF hc2 rfl))), e42⟩
theorem fragI_b {p : FragPacket} (h : fragI p = true) : 0 ≤ p.Src ∧ p.Src ≤ 65535 ∧ 0 ≤ p.Dst ∧ p.Dst ≤ 65535 ∧ 1 ≤ p.Kind ∧ p.Kind ≤ 7 := by
  simp [fragI, within, Bool.cond_eq_ite] at h
  omega
def fragS (p : FragPacket) : Bool := bif ((!(l11In p.Src 0 65535)) || ((!(l11In p.Dst 0 65535)) || ((!(l11In p.Kind 1 7)) || ((!(l11In p.Id 0 255)) || (!(l11In p.Hops 1 64)))))) then false else (bif ((!(l11In p.Off 0 128)) || (((Int.tmod p.Off 4) != (0 : Int)) || (decide ((p.Data.length : Int) > (128 - p.Off))))) then false else (bif (p.More && (((p.Data.length : Int) == (0 : Int)) || ((Int.tmod (p.Data.length : Int) 4) != (0 : Int)))) then false else (!p.Whole || ((p.Off == (0 : Int)) && !p.More))))
/-- spec.FragOk -/
theorem c_spec_FragOk (w : World) (p : FragPacket) (cs_p : List Value) (h_p : rpFragPacket.rd w cs_p p) :
    Calls Try.prog 27 #[.agg cs_p.toArray] w fun e w' => ∃ rv, e = .returned rv ∧ (rv = .bool (fragS p) ∧ Below w.heap.size w w') := by
  obtain ⟨a_p_Data, c_p_Data, rfl, h_p_Data⟩ := h_p
  refine enter [(0, .agg #[.int .i64 p.Src, .int .i64 p.Dst, .int .i64 p.Kind, .int .i64 p.Id, .int .i64 p.Hops, .bool p.Whole, .int .i64 p.Off, .bool p.More, .slice a_p_Data p.Data.length c_p_Data])] Try.func27 rfl (by kernel_rfl) (by kernel_rfl) ?_
  have e0 := brefl w
  refine GC.seq ?_
  refine GC.reg 2 [RB 0 33 [.int .i64 p.Src, .int .i64 p.Dst, .int .i64 p.Kind, .int .i64 p.Id, .int .i64 p.Hops, .bool p.Whole, .int .i64 p.Off, .bool p.More, .slice a_p_Data p.Data.length c_p_Data], W (.bool false)] mixed (fun vs w => by kernel_rfl) (⟨fun vs lo hi wx hB hK => Out.box rfl, trivial⟩) ?_
  rintro vs1 lo1 hi1 w1 hU1
  have e2 := btr e0 hU1.1
  obtain ⟨⟨hv1_0, hp1_0, hb1_0⟩, hl1_0, -, -⟩ := hU1.2.1 0 _ rfl trivial
  have hl1_0b := Nat.le_trans e0.size hl1_0
  refine Rest.nil (GQ.sub [(1, .pointer (some ⟨(lo1 0), 0, none⟩))] (by rw [← hv1_0]; kernel_rfl) ?_)
  refine GQ.on ?_
  refine GC.seq ?_
  refine GC.seq ?_
  refine GC.abs [(1, .pointer (some ⟨(lo1 0), 0, none⟩)), (30, .bool ((!(l11In p.Src 0 65535)) || ((!(l11In p.Dst 0 65535)) || ((!(l11In p.Kind 1 7)) || ((!(l11In p.Id 0 255)) || (!(l11In p.Hops 1 64)))))))] (fun w' => Below w1.heap.size w1 w') (fun Q' hQ5 => ?_) (fun w3 hE4 => ?_)
  · skip
    cases hB6 : (!(l11In p.Src 0 65535))
    · skip
      have hB6' := hB6
      try simp only [l11In] at hB6'
      try simp at hB6'
      cases hB7 : (!(l11In p.Dst 0 65535))
      · skip
        have hB7' := hB7
        try simp only [l11In] at hB7'
        try simp at hB7'
        cases hB8 : (!(l11In p.Kind 1 7))
        · skip
          have hB8' := hB8
          try simp only [l11In] at hB8'
          try simp at hB8'
          cases hB9 : (!(l11In p.Id 0 255))
          · skip
            have hB9' := hB9
            try simp only [l11In] at hB9'
            try simp at hB9'
            refine GC.reg 28 [W (.pointer (some ⟨(lo1 0), 0, none⟩)), D (.int .i64 p.Src), D (.bool (l11In p.Src 0 65535)), D (.bool false), W (.bool false), W (.pointer (some ⟨(lo1 0), 1, none⟩)), D (.int .i64 p.Dst), D (.bool (l11In p.Dst 0 65535)), D (.bool false), W (.bool false), W (.bool false), W (.pointer (some ⟨(lo1 0), 2, none⟩)), D (.int .i64 p.Kind), D (.bool (l11In p.Kind 1 7)), D (.bool false), W (.bool false), W (.bool false), W (.pointer (some ⟨(lo1 0), 3, none⟩)), D (.int .i64 p.Id), D (.bool (l11In p.Id 0 255)), D (.bool false), W (.bool false), W (.bool false), W (.pointer (some ⟨(lo1 0), 4, none⟩)), D (.int .i64 p.Hops), D (.bool (l11In p.Hops 1 64)), W (.bool (!(l11In p.Hops 1 64))), W (.bool (!(l11In p.Hops 1 64)))] mixed (fun vs w => by kernel_rfl) (⟨fun vs lo hi wx hB hK => Out.load1 rfl agg_3 ((hb1_0.to hB).cell 0 _ rfl), fun vs lo hi wx hB hK => Out.call (by kernel_rfl) (c_spec_l11In _ p.Src 0 65535) (fun _ _ h => h), fun vs lo hi wx hB hK => Out.asB (Out.of_run (by kernel_rfl)) hB6, fun vs lo hi wx hB hK => Out.load1 rfl agg_3 ((hb1_0.to hB).cell 1 _ rfl), fun vs lo hi wx hB hK => Out.call (by kernel_rfl) (c_spec_l11In _ p.Dst 0 65535) (fun _ _ h => h), fun vs lo hi wx hB hK => Out.asB (Out.of_run (by kernel_rfl)) hB7, fun vs lo hi wx hB hK => Out.load1 rfl agg_3 ((hb1_0.to hB).cell 2 _ rfl), fun vs lo hi wx hB hK => Out.call (by kernel_rfl) (c_spec_l11In _ p.Kind 1 7) (fun _ _ h => h), fun vs lo hi wx hB hK => Out.asB (Out.of_run (by kernel_rfl)) hB8, fun vs lo hi wx hB hK => Out.load1 rfl agg_3 ((hb1_0.to hB).cell 3 _ rfl), fun vs lo hi wx hB hK => Out.call (by kernel_rfl) (c_spec_l11In _ p.Id 0 255) (fun _ _ h => h), fun vs lo hi wx hB hK => Out.asB (Out.of_run (by kernel_rfl)) hB9, fun vs lo hi wx hB hK => Out.load1 rfl agg_3 ((hb1_0.to hB).cell 4 _ rfl), fun vs lo hi wx hB hK => Out.call (by kernel_rfl) (c_spec_l11In _ p.Hops 1 64) (fun _ _ h => h), trivial⟩) ?_
            rintro vs10 lo10 hi10 w10 hU10
            exact Rest.nil (GQ.sub [(1, .pointer (some ⟨(lo1 0), 0, none⟩)), (30, .bool ((!(l11In p.Src 0 65535)) || ((!(l11In p.Dst 0 65535)) || ((!(l11In p.Kind 1 7)) || ((!(l11In p.Id 0 255)) || (!(l11In p.Hops 1 64)))))))] (by (try simp only [hB6]); (try simp only [hB7]); (try simp only [hB8]); (try simp only [hB9]); kernel_rfl) (hQ5 _ hU10.1))
          · skip
            have hB9' := hB9
            try simp only [l11In] at hB9'
            try simp at hB9'
            refine GC.reg 28 [W (.pointer (some ⟨(lo1 0), 0, none⟩)), D (.int .i64 p.Src), D (.bool (l11In p.Src 0 65535)), D (.bool false), W (.bool false), W (.pointer (some ⟨(lo1 0), 1, none⟩)), D (.int .i64 p.Dst), D (.bool (l11In p.Dst 0 65535)), D (.bool false), W (.bool false), W (.bool false), W (.pointer (some ⟨(lo1 0), 2, none⟩)), D (.int .i64 p.Kind), D (.bool (l11In p.Kind 1 7)), D (.bool false), W (.bool false), W (.bool false), W (.pointer (some ⟨(lo1 0), 3, none⟩)), D (.int .i64 p.Id), D (.bool (l11In p.Id 0 255)), D (.bool true), W (.bool true), W (.bool true), S, S, S, S, W (.bool true)] mixed (fun vs w => by kernel_rfl) (⟨fun vs lo hi wx hB hK => Out.load1 rfl agg_3 ((hb1_0.to hB).cell 0 _ rfl), fun vs lo hi wx hB hK => Out.call (by kernel_rfl) (c_spec_l11In _ p.Src 0 65535) (fun _ _ h => h), fun vs lo hi wx hB hK => Out.asB (Out.of_run (by kernel_rfl)) hB6, fun vs lo hi wx hB hK => Out.load1 rfl agg_3 ((hb1_0.to hB).cell 1 _ rfl), fun vs lo hi wx hB hK => Out.call (by kernel_rfl) (c_spec_l11In _ p.Dst 0 65535) (fun _ _ h => h), fun vs lo hi wx hB hK => Out.asB (Out.of_run (by kernel_rfl)) hB7, fun vs lo hi wx hB hK => Out.load1 rfl agg_3 ((hb1_0.to hB).cell 2 _ rfl), fun vs lo hi wx hB hK => Out.call (by kernel_rfl) (c_spec_l11In _ p.Kind 1 7) (fun _ _ h => h), fun vs lo hi wx hB hK => Out.asB (Out.of_run (by kernel_rfl)) hB8, fun vs lo hi wx hB hK => Out.load1 rfl agg_3 ((hb1_0.to hB).cell 3 _ rfl), fun vs lo hi wx hB hK => Out.call (by kernel_rfl) (c_spec_l11In _ p.Id 0 255) (fun _ _ h => h), fun vs lo hi wx hB hK => Out.asB (Out.of_run (by kernel_rfl)) hB9, trivial⟩) ?_
            rintro vs11 lo11 hi11 w11 hU11
            exact Rest.nil (GQ.sub [(1, .pointer (some ⟨(lo1 0), 0, none⟩)), (30, .bool ((!(l11In p.Src 0 65535)) || ((!(l11In p.Dst 0 65535)) || ((!(l11In p.Kind 1 7)) || ((!(l11In p.Id 0 255)) || (!(l11In p.Hops 1 64)))))))] (by (try simp only [hB6]); (try simp only [hB7]); (try simp only [hB8]); (try simp only [hB9]); kernel_rfl) (hQ5 _ hU11.1))
        · skip
          have hB8' := hB8
          try simp only [l11In] at hB8'
          try simp at hB8'
          refine GC.reg 28 [W (.pointer (some ⟨(lo1 0), 0, none⟩)), D (.int .i64 p.Src), D (.bool (l11In p.Src 0 65535)), D (.bool false), W (.bool false), W (.pointer (some ⟨(lo1 0), 1, none⟩)), D (.int .i64 p.Dst), D (.bool (l11In p.Dst 0 65535)), D (.bool false), W (.bool false), W (.bool false), W (.pointer (some ⟨(lo1 0), 2, none⟩)), D (.int .i64 p.Kind), D (.bool (l11In p.Kind 1 7)), D (.bool true), W (.bool true), W (.bool true), S, S, S, S, W (.bool true), W (.bool true), S, S, S, S, W (.bool true)] mixed (fun vs w => by kernel_rfl) (⟨fun vs lo hi wx hB hK => Out.load1 rfl agg_3 ((hb1_0.to hB).cell 0 _ rfl), fun vs lo hi wx hB hK => Out.call (by kernel_rfl) (c_spec_l11In _ p.Src 0 65535) (fun _ _ h => h), fun vs lo hi wx hB hK => Out.asB (Out.of_run (by kernel_rfl)) hB6, fun vs lo hi wx hB hK => Out.load1 rfl agg_3 ((hb1_0.to hB).cell 1 _ rfl), fun vs lo hi wx hB hK => Out.call (by kernel_rfl) (c_spec_l11In _ p.Dst 0 65535) (fun _ _ h => h), fun vs lo hi wx hB hK => Out.asB (Out.of_run (by kernel_rfl)) hB7, fun vs lo hi wx hB hK => Out.load1 rfl agg_3 ((hb1_0.to hB).cell 2 _ rfl), fun vs lo hi wx hB hK => Out.call (by kernel_rfl) (c_spec_l11In _ p.Kind 1 7) (fun _ _ h => h), fun vs lo hi wx hB hK => Out.asB (Out.of_run (by kernel_rfl)) hB8, trivial⟩) ?_
          rintro vs12 lo12 hi12 w12 hU12
          exact Rest.nil (GQ.sub [(1, .pointer (some ⟨(lo1 0), 0, none⟩)), (30, .bool ((!(l11In p.Src 0 65535)) || ((!(l11In p.Dst 0 65535)) || ((!(l11In p.Kind 1 7)) || ((!(l11In p.Id 0 255)) || (!(l11In p.Hops 1 64)))))))] (by (try simp only [hB6]); (try simp only [hB7]); (try simp only [hB8]); kernel_rfl) (hQ5 _ hU12.1))
      · skip
        have hB7' := hB7
        try simp only [l11In] at hB7'
        try simp at hB7'
        refine GC.reg 28 [W (.pointer (some ⟨(lo1 0), 0, none⟩)), D (.int .i64 p.Src), D (.bool (l11In p.Src 0 65535)), D (.bool false), W (.bool false), W (.pointer (some ⟨(lo1 0), 1, none⟩)), D (.int .i64 p.Dst), D (.bool (l11In p.Dst 0 65535)), D (.bool true), W (.bool true), W (.bool true), S, S, S, S, W (.bool true), W (.bool true), S, S, S, S, W (.bool true), W (.bool true), S, S, S, S, W (.bool true)] mixed (fun vs w => by kernel_rfl) (⟨fun vs lo hi wx hB hK => Out.load1 rfl agg_3 ((hb1_0.to hB).cell 0 _ rfl), fun vs lo hi wx hB hK => Out.call (by kernel_rfl) (c_spec_l11In _ p.Src 0 65535) (fun _ _ h => h), fun vs lo hi wx hB hK => Out.asB (Out.of_run (by kernel_rfl)) hB6, fun vs lo hi wx hB hK => Out.load1 rfl agg_3 ((hb1_0.to hB).cell 1 _ rfl), fun vs lo hi wx hB hK => Out.call (by kernel_rfl) (c_spec_l11In _ p.Dst 0 65535) (fun _ _ h => h), fun vs lo hi wx hB hK => Out.asB (Out.of_run (by kernel_rfl)) hB7, trivial⟩) ?_
        rintro vs13 lo13 hi13 w13 hU13
        exact Rest.nil (GQ.sub [(1, .pointer (some ⟨(lo1 0), 0, none⟩)), (30, .bool ((!(l11In p.Src 0 65535)) || ((!(l11In p.Dst 0 65535)) || ((!(l11In p.Kind 1 7)) || ((!(l11In p.Id 0 255)) || (!(l11In p.Hops 1 64)))))))] (by (try simp only [hB6]); (try simp only [hB7]); kernel_rfl) (hQ5 _ hU13.1))
    · skip
      have hB6' := hB6
      try simp only [l11In] at hB6'
      try simp at hB6'
      refine GC.reg 28 [W (.pointer (some ⟨(lo1 0), 0, none⟩)), D (.int .i64 p.Src), D (.bool (l11In p.Src 0 65535)), D (.bool true), W (.bool true), S, S, S, S, W (.bool true), W (.bool true), S, S, S, S, W (.bool true), W (.bool true), S, S, S, S, W (.bool true), W (.bool true), S, S, S, S, W (.bool true)] mixed (fun vs w => by kernel_rfl) (⟨fun vs lo hi wx hB hK => Out.load1 rfl agg_3 ((hb1_0.to hB).cell 0 _ rfl), fun vs lo hi wx hB hK => Out.call (by kernel_rfl) (c_spec_l11In _ p.Src 0 65535) (fun _ _ h => h), fun vs lo hi wx hB hK => Out.asB (Out.of_run (by kernel_rfl)) hB6, trivial⟩) ?_
      rintro vs14 lo14 hi14 w14 hU14
      exact Rest.nil (GQ.sub [(1, .pointer (some ⟨(lo1 0), 0, none⟩)), (30, .bool ((!(l11In p.Src 0 65535)) || ((!(l11In p.Dst 0 65535)) || ((!(l11In p.Kind 1 7)) || ((!(l11In p.Id 0 255)) || (!(l11In p.Hops 1 64)))))))] (by (try simp only [hB6]); kernel_rfl) (hQ5 _ hU14.1))
  · skip
    have e15 := btr e2 hE4
    replace hb1_0 := hb1_0.to hE4
    refine GQ.on ?_
    refine GC.cond ((!(l11In p.Src 0 65535)) || ((!(l11In p.Dst 0 65535)) || ((!(l11In p.Kind 1 7)) || ((!(l11In p.Id 0 255)) || (!(l11In p.Hops 1 64)))))) rfl (fun hc0 => ?_) (fun hc0 => ?_)
    · skip
      have hc0' := hc0
      try simp only [l11In] at hc0'
      try simp at hc0'
      refine GC.seq ?_
      refine GC.regW [W (.bool false)] [(2, .bool false)] mixed rfl (fun vs w => by kernel_rfl) rfl (fun vs => by kernel_rfl) ?_
      refine GQ.on ?_
      refine GC.ret ?_
      refine GQ.passRet ?_
      refine GQ.ret1 (.bool false) rfl rfl ?_
      exact ⟨_, rfl, congrArg (Value.bool) (cndT hc0 rfl), e15⟩
    · skip
      have hc0' := hc0
      try simp only [l11In] at hc0'
      try simp at hc0'
      refine GC.skip ?_
      refine GQ.on ?_
      refine GC.seq ?_
      refine GC.seq ?_
      refine GC.abs [(1, .pointer (some ⟨(lo1 0), 0, none⟩)), (49, .bool ((!(l11In p.Off 0 128)) || (((Int.tmod p.Off 4) != (0 : Int)) || (decide ((p.Data.length : Int) > (128 - p.Off))))))] (fun w' => Below w3.heap.size w3 w') (fun Q' hQ18 => ?_) (fun w16 hE17 => ?_)
      · skip
        cases hB19 : (!(l11In p.Off 0 128))
        · skip
          have hB19' := hB19
          try simp only [l11In] at hB19'
          try simp at hB19'
          cases hB20 : ((Int.tmod p.Off 4) != (0 : Int))
          · skip
            have hB20' := hB20
            try simp only [l11In] at hB20'
            try simp at hB20'
            refine GC.reg 19 [W (.pointer (some ⟨(lo1 0), 6, none⟩)), D (.int .i64 p.Off), D (.bool (l11In p.Off 0 128)), D (.bool false), W (.bool false), W (.pointer (some ⟨(lo1 0), 6, none⟩)), D (.int .i64 p.Off), D (.int .i64 (Int.tmod p.Off 4)), D (.bool false), W (.bool false), W (.bool false), W (.pointer (some ⟨(lo1 0), 8, none⟩)), D (.slice a_p_Data p.Data.length c_p_Data), W (.int .i64 (p.Data.length : Int)), W (.pointer (some ⟨(lo1 0), 6, none⟩)), D (.int .i64 p.Off), D (.int .i64 (128 - p.Off)), W (.bool (decide ((p.Data.length : Int) > (128 - p.Off)))), W (.bool (decide ((p.Data.length : Int) > (128 - p.Off))))] mixed (fun vs w => by kernel_rfl) (⟨fun vs lo hi wx hB hK => Out.load1 rfl agg_3 ((hb1_0.to hB).cell 6 _ rfl), fun vs lo hi wx hB hK => Out.call (by kernel_rfl) (c_spec_l11In _ p.Off 0 128) (fun _ _ h => h), fun vs lo hi wx hB hK => Out.asB (Out.of_run (by kernel_rfl)) hB19, fun vs lo hi wx hB hK => Out.load1 rfl agg_3 ((hb1_0.to hB).cell 6 _ rfl), fun vs lo hi wx hB hK => Out.rem rfl rfl (by decide), fun vs lo hi wx hB hK => Out.asB (Out.of_run (by kernel_rfl)) hB20, fun vs lo hi wx hB hK => Out.load1 rfl agg_28 ((hb1_0.to hB).cell 8 _ rfl), fun vs lo hi wx hB hK => Out.load1 rfl agg_3 ((hb1_0.to hB).cell 6 _ rfl), fun vs lo hi wx hB hK => Out.subI rfl rfl (by omega) (by omega), trivial⟩) ?_
            rintro vs21 lo21 hi21 w21 hU21
            exact Rest.nil (GQ.sub [(1, .pointer (some ⟨(lo1 0), 0, none⟩)), (49, .bool ((!(l11In p.Off 0 128)) || (((Int.tmod p.Off 4) != (0 : Int)) || (decide ((p.Data.length : Int) > (128 - p.Off))))))] (by (try simp only [hB19]); (try simp only [hB20]); kernel_rfl) (hQ18 _ hU21.1))
          · skip
            have hB20' := hB20
            try simp only [l11In] at hB20'
            try simp at hB20'
            refine GC.reg 19 [W (.pointer (some ⟨(lo1 0), 6, none⟩)), D (.int .i64 p.Off), D (.bool (l11In p.Off 0 128)), D (.bool false), W (.bool false), W (.pointer (some ⟨(lo1 0), 6, none⟩)), D (.int .i64 p.Off), D (.int .i64 (Int.tmod p.Off 4)), D (.bool true), W (.bool true), W (.bool true), S, S, S, S, S, S, S, W (.bool true)] mixed (fun vs w => by kernel_rfl) (⟨fun vs lo hi wx hB hK => Out.load1 rfl agg_3 ((hb1_0.to hB).cell 6 _ rfl), fun vs lo hi wx hB hK => Out.call (by kernel_rfl) (c_spec_l11In _ p.Off 0 128) (fun _ _ h => h), fun vs lo hi wx hB hK => Out.asB (Out.of_run (by kernel_rfl)) hB19, fun vs lo hi wx hB hK => Out.load1 rfl agg_3 ((hb1_0.to hB).cell 6 _ rfl), fun vs lo hi wx hB hK => Out.rem rfl rfl (by decide), fun vs lo hi wx hB hK => Out.asB (Out.of_run (by kernel_rfl)) hB20, trivial⟩) ?_
            rintro vs22 lo22 hi22 w22 hU22
            exact Rest.nil (GQ.sub [(1, .pointer (some ⟨(lo1 0), 0, none⟩)), (49, .bool ((!(l11In p.Off 0 128)) || (((Int.tmod p.Off 4) != (0 : Int)) || (decide ((p.Data.length : Int) > (128 - p.Off))))))] (by (try simp only [hB19]); (try simp only [hB20]); kernel_rfl) (hQ18 _ hU22.1))
        · skip
          have hB19' := hB19
          try simp only [l11In] at hB19'
          try simp at hB19'
          refine GC.reg 19 [W (.pointer (some ⟨(lo1 0), 6, none⟩)), D (.int .i64 p.Off), D (.bool (l11In p.Off 0 128)), D (.bool true), W (.bool true), S, S, S, S, W (.bool true), W (.bool true), S, S, S, S, S, S, S, W (.bool true)] mixed (fun vs w => by kernel_rfl) (⟨fun vs lo hi wx hB hK => Out.load1 rfl agg_3 ((hb1_0.to hB).cell 6 _ rfl), fun vs lo hi wx hB hK => Out.call (by kernel_rfl) (c_spec_l11In _ p.Off 0 128) (fun _ _ h => h), fun vs lo hi wx hB hK => Out.asB (Out.of_run (by kernel_rfl)) hB19, trivial⟩) ?_
          rintro vs23 lo23 hi23 w23 hU23
          exact Rest.nil (GQ.sub [(1, .pointer (some ⟨(lo1 0), 0, none⟩)), (49, .bool ((!(l11In p.Off 0 128)) || (((Int.tmod p.Off 4) != (0 : Int)) || (decide ((p.Data.length : Int) > (128 - p.Off))))))] (by (try simp only [hB19]); kernel_rfl) (hQ18 _ hU23.1))
      · skip
        have e24 := btr e15 hE17
        replace hb1_0 := hb1_0.to hE17
        refine GQ.on ?_
        refine GC.cond ((!(l11In p.Off 0 128)) || (((Int.tmod p.Off 4) != (0 : Int)) || (decide ((p.Data.length : Int) > (128 - p.Off))))) rfl (fun hc1 => ?_) (fun hc1 => ?_)
        · skip
          have hc1' := hc1
          try simp only [l11In] at hc1'
          try simp at hc1'
          refine GC.seq ?_
          refine GC.regW [W (.bool false)] [(2, .bool false)] mixed rfl (fun vs w => by kernel_rfl) rfl (fun vs => by kernel_rfl) ?_
          refine GQ.on ?_
          refine GC.ret ?_
          refine GQ.passRet ?_
          refine GQ.ret1 (.bool false) rfl rfl ?_
          exact ⟨_, rfl, congrArg (Value.bool) (cndF hc0 (cndT hc1 rfl)), e24⟩
        · skip
          have hc1' := hc1
          try simp only [l11In] at hc1'
          try simp at hc1'
          refine GC.skip ?_
          refine GQ.on ?_
          refine GC.seq ?_
          refine GC.seq ?_
          refine GC.abs [(1, .pointer (some ⟨(lo1 0), 0, none⟩)), (64, .bool (p.More && (((p.Data.length : Int) == (0 : Int)) || ((Int.tmod (p.Data.length : Int) 4) != (0 : Int)))))] (fun w' => Below w16.heap.size w16 w') (fun Q' hQ27 => ?_) (fun w25 hE26 => ?_)
          · skip
            cases hB28 : (p.More)
            · skip
              have hB28' := hB28
              try simp only [l11In] at hB28'
              try simp at hB28'
              refine GC.reg 15 [W (.pointer (some ⟨(lo1 0), 7, none⟩)), D (.bool false), W (.bool false), S, S, S, S, S, S, S, S, S, S, S, W (.bool false)] mixed (fun vs w => by kernel_rfl) (⟨fun vs lo hi wx hB hK => Out.asB (Out.load1 rfl agg_4 ((hb1_0.to hB).cell 7 _ rfl)) hB28, trivial⟩) ?_
              rintro vs29 lo29 hi29 w29 hU29
              exact Rest.nil (GQ.sub [(1, .pointer (some ⟨(lo1 0), 0, none⟩)), (64, .bool (p.More && (((p.Data.length : Int) == (0 : Int)) || ((Int.tmod (p.Data.length : Int) 4) != (0 : Int)))))] (by (try simp only [hB28]); kernel_rfl) (hQ27 _ hU29.1))
            · skip
              have hB28' := hB28
              try simp only [l11In] at hB28'
              try simp at hB28'
              cases hB30 : ((p.Data.length : Int) == (0 : Int))
              · skip
                have hB30' := hB30
                try simp only [l11In] at hB30'
                try simp at hB30'
                refine GC.reg 15 [W (.pointer (some ⟨(lo1 0), 7, none⟩)), D (.bool true), W (.bool true), W (.pointer (some ⟨(lo1 0), 8, none⟩)), D (.slice a_p_Data p.Data.length c_p_Data), W (.int .i64 (p.Data.length : Int)), D (.bool false), W (.bool false), W (.pointer (some ⟨(lo1 0), 8, none⟩)), D (.slice a_p_Data p.Data.length c_p_Data), W (.int .i64 (p.Data.length : Int)), D (.int .i64 (Int.tmod (p.Data.length : Int) 4)), W (.bool ((Int.tmod (p.Data.length : Int) 4) != (0 : Int))), W (.bool ((Int.tmod (p.Data.length : Int) 4) != (0 : Int))), W (.bool ((Int.tmod (p.Data.length : Int) 4) != (0 : Int)))] mixed (fun vs w => by kernel_rfl) (⟨fun vs lo hi wx hB hK => Out.asB (Out.load1 rfl agg_4 ((hb1_0.to hB).cell 7 _ rfl)) hB28, fun vs lo hi wx hB hK => Out.load1 rfl agg_28 ((hb1_0.to hB).cell 8 _ rfl), fun vs lo hi wx hB hK => Out.asB (Out.of_run (by kernel_rfl)) hB30, fun vs lo hi wx hB hK => Out.load1 rfl agg_28 ((hb1_0.to hB).cell 8 _ rfl), fun vs lo hi wx hB hK => Out.rem rfl rfl (by decide), trivial⟩) ?_
                rintro vs31 lo31 hi31 w31 hU31
                exact Rest.nil (GQ.sub [(1, .pointer (some ⟨(lo1 0), 0, none⟩)), (64, .bool (p.More && (((p.Data.length : Int) == (0 : Int)) || ((Int.tmod (p.Data.length : Int) 4) != (0 : Int)))))] (by (try simp only [hB28]); (try simp only [hB30]); kernel_rfl) (hQ27 _ hU31.1))
              · skip
                have hB30' := hB30
                try simp only [l11In] at hB30'
                try simp at hB30'
                refine GC.reg 15 [W (.pointer (some ⟨(lo1 0), 7, none⟩)), D (.bool true), W (.bool true), W (.pointer (some ⟨(lo1 0), 8, none⟩)), D (.slice a_p_Data p.Data.length c_p_Data), W (.int .i64 (p.Data.length : Int)), D (.bool true), W (.bool true), S, S, S, S, S, W (.bool true), W (.bool true)] mixed (fun vs w => by kernel_rfl) (⟨fun vs lo hi wx hB hK => Out.asB (Out.load1 rfl agg_4 ((hb1_0.to hB).cell 7 _ rfl)) hB28, fun vs lo hi wx hB hK => Out.load1 rfl agg_28 ((hb1_0.to hB).cell 8 _ rfl), fun vs lo hi wx hB hK => Out.asB (Out.of_run (by kernel_rfl)) hB30, trivial⟩) ?_
                rintro vs32 lo32 hi32 w32 hU32
                exact Rest.nil (GQ.sub [(1, .pointer (some ⟨(lo1 0), 0, none⟩)), (64, .bool (p.More && (((p.Data.length : Int) == (0 : Int)) || ((Int.tmod (p.Data.length : Int) 4) != (0 : Int)))))] (by (try simp only [hB28]); (try simp only [hB30]); kernel_rfl) (hQ27 _ hU32.1))
          · skip
            have e33 := btr e24 hE26
            replace hb1_0 := hb1_0.to hE26
            refine GQ.on ?_
            refine GC.cond (p.More && (((p.Data.length : Int) == (0 : Int)) || ((Int.tmod (p.Data.length : Int) 4) != (0 : Int)))) rfl (fun hc2 => ?_) (fun hc2 => ?_)
            · skip
              have hc2' := hc2
              try simp only [l11In] at hc2'
              try simp at hc2'
              refine GC.seq ?_
              refine GC.regW [W (.bool false)] [(2, .bool false)] mixed rfl (fun vs w => by kernel_rfl) rfl (fun vs => by kernel_rfl) ?_
              refine GQ.on ?_
              refine GC.ret ?_
              refine GQ.passRet ?_
              refine GQ.ret1 (.bool false) rfl rfl ?_
              exact ⟨_, rfl, congrArg (Value.bool) (cndF hc0 (cndF hc1 (cndT hc2 rfl))), e33⟩
            · skip
              have hc2' := hc2
              try simp only [l11In] at hc2'
              try simp at hc2'
              refine GC.skip ?_
              refine GQ.on ?_
              refine GC.seq ?_
              refine GC.abs [(2, .bool (!p.Whole || ((p.Off == (0 : Int)) && !p.More)))] (fun w' => Below w25.heap.size w25 w') (fun Q' hQ36 => ?_) (fun w34 hE35 => ?_)
              · skip
                cases hB37 : (!p.Whole)
                · skip
                  have hB37' := hB37
                  try simp only [l11In] at hB37'
                  try simp at hB37'
                  cases hB38 : (p.Off == (0 : Int))
                  · skip
                    have hB38' := hB38
                    try simp only [l11In] at hB38'
                    try simp at hB38'
                    refine GC.reg 14 [W (.pointer (some ⟨(lo1 0), 5, none⟩)), D (.bool p.Whole), D (.bool false), W (.bool false), W (.pointer (some ⟨(lo1 0), 6, none⟩)), D (.int .i64 p.Off), D (.bool false), W (.bool false), S, S, S, W (.bool false), W (.bool false), W (.bool false)] mixed (fun vs w => by kernel_rfl) (⟨fun vs lo hi wx hB hK => Out.load1 rfl agg_4 ((hb1_0.to hB).cell 5 _ rfl), fun vs lo hi wx hB hK => Out.asB (Out.of_run (by kernel_rfl)) hB37, fun vs lo hi wx hB hK => Out.load1 rfl agg_3 ((hb1_0.to hB).cell 6 _ rfl), fun vs lo hi wx hB hK => Out.asB (Out.of_run (by kernel_rfl)) hB38, trivial⟩) ?_
                    rintro vs39 lo39 hi39 w39 hU39
                    exact Rest.nil (GQ.sub [(2, .bool (!p.Whole || ((p.Off == (0 : Int)) && !p.More)))] (by (try simp only [hB37]); (try simp only [hB38]); kernel_rfl) (hQ36 _ hU39.1))
                  · skip
                    have hB38' := hB38
                    try simp only [l11In] at hB38'
                    try simp at hB38'
                    refine GC.reg 14 [W (.pointer (some ⟨(lo1 0), 5, none⟩)), D (.bool p.Whole), D (.bool false), W (.bool false), W (.pointer (some ⟨(lo1 0), 6, none⟩)), D (.int .i64 p.Off), D (.bool true), W (.bool true), W (.pointer (some ⟨(lo1 0), 7, none⟩)), D (.bool p.More), W (.bool !p.More), W (.bool !p.More), W (.bool !p.More), W (.bool !p.More)] mixed (fun vs w => by kernel_rfl) (⟨fun vs lo hi wx hB hK => Out.load1 rfl agg_4 ((hb1_0.to hB).cell 5 _ rfl), fun vs lo hi wx hB hK => Out.asB (Out.of_run (by kernel_rfl)) hB37, fun vs lo hi wx hB hK => Out.load1 rfl agg_3 ((hb1_0.to hB).cell 6 _ rfl), fun vs lo hi wx hB hK => Out.asB (Out.of_run (by kernel_rfl)) hB38, fun vs lo hi wx hB hK => Out.load1 rfl agg_4 ((hb1_0.to hB).cell 7 _ rfl), trivial⟩) ?_
                    rintro vs40 lo40 hi40 w40 hU40
                    exact Rest.nil (GQ.sub [(2, .bool (!p.Whole || ((p.Off == (0 : Int)) && !p.More)))] (by (try simp only [hB37]); (try simp only [hB38]); kernel_rfl) (hQ36 _ hU40.1))
                · skip
                  have hB37' := hB37
                  try simp only [l11In] at hB37'
                  try simp at hB37'
                  refine GC.reg 14 [W (.pointer (some ⟨(lo1 0), 5, none⟩)), D (.bool p.Whole), D (.bool true), W (.bool true), S, S, S, S, S, S, S, S, W (.bool true), W (.bool true)] mixed (fun vs w => by kernel_rfl) (⟨fun vs lo hi wx hB hK => Out.load1 rfl agg_4 ((hb1_0.to hB).cell 5 _ rfl), fun vs lo hi wx hB hK => Out.asB (Out.of_run (by kernel_rfl)) hB37, trivial⟩) ?_
                  rintro vs41 lo41 hi41 w41 hU41
                  exact Rest.nil (GQ.sub [(2, .bool (!p.Whole || ((p.Off == (0 : Int)) && !p.More)))] (by (try simp only [hB37]); kernel_rfl) (hQ36 _ hU41.1))
              · skip
                have e42 := btr e33 hE35
                replace hb1_0 := hb1_0.to hE35
                refine GQ.on ?_
                refine GC.ret ?_
                refine GQ.ret1 (.bool (!p.Whole || ((p.Off == (0 : Int)) && !p.More))) rfl rfl ?_
                exact ⟨_, rfl, congrArg (Value.bool) (cndF hc0 (cndF hc1 (cndF hc2 rfl))), e42⟩
theorem frag_eq (p : FragPacket) : fragI p = fragS p := by
  simp only [fragI, fragS, within, l11In, fragEnd]
  obtain ⟨n, hn⟩ : ∃ n : Int, n = p.Data.length := ⟨_, rfl⟩
  simp only [← hn]
  generalize Int.tmod p.Off 4 = q
  generalize Int.tmod n 4 = r
  rw [Bool.eq_iff_iff]
  cases p.More <;> cases p.Whole <;> simp [Bool.cond_eq_ite] <;> omega
theorem fragS_b {p : FragPacket} (h : fragS p = true) : 0 ≤ p.Src ∧ p.Src ≤ 65535 ∧ 0 ≤ p.Dst ∧ p.Dst ≤ 65535 ∧ 1 ≤ p.Kind ∧ p.Kind ≤ 7 := fragI_b (frag_eq p ▸ h)
def flowI (p : FragPacket) : Int := bif (!(fragI p)) then 0 else ((p.Src + (3 * p.Dst)) + (7 * p.Kind))
/-- impl.TernFlow -/
theorem c_impl_TernFlow (w : World) (p : FragPacket) (cs_p : List Value) (h_p : rpFragPacket.rd w cs_p p) (hD : p.Data.length ≤ 1048576) :
    Calls Try.prog 12 #[.agg cs_p.toArray] w fun e w' => ∃ rv, e = .returned rv ∧ (rv = .int .i64 (flowI p) ∧ Below w.heap.size w w') := by
  obtain ⟨a_p_Data, c_p_Data, rfl, h_p_Data⟩ := h_p
  refine enter [(0, .agg #[.int .i64 p.Src, .int .i64 p.Dst, .int .i64 p.Kind, .int .i64 p.Id, .int .i64 p.Hops, .bool p.Whole, .int .i64 p.Off, .bool p.More, .slice a_p_Data p.Data.length c_p_Data])] Try.func12 rfl (by kernel_rfl) (by kernel_rfl) ?_
  have e0 := brefl w
  refine GC.seq ?_
  refine GC.reg 2 [RB 0 33 [.int .i64 p.Src, .int .i64 p.Dst, .int .i64 p.Kind, .int .i64 p.Id, .int .i64 p.Hops, .bool p.Whole, .int .i64 p.Off, .bool p.More, .slice a_p_Data p.Data.length c_p_Data], W (.int .i64 0)] mixed (fun vs w => by kernel_rfl) (⟨fun vs lo hi wx hB hK => Out.box rfl, trivial⟩) ?_
  rintro vs1 lo1 hi1 w1 hU1
  have e2 := btr e0 hU1.1
  obtain ⟨⟨hv1_0, hp1_0, hb1_0⟩, hl1_0, -, -⟩ := hU1.2.1 0 _ rfl trivial
  have hl1_0b := Nat.le_trans e0.size hl1_0
  refine Rest.nil (GQ.sub [(1, .pointer (some ⟨(lo1 0), 0, none⟩))] (by rw [← hv1_0]; kernel_rfl) ?_)
  refine GQ.on ?_
  refine GC.seq ?_
  refine GC.seq ?_
  refine GC.reg 3 [D (.agg #[.int .i64 p.Src, .int .i64 p.Dst, .int .i64 p.Kind, .int .i64 p.Id, .int .i64 p.Hops, .bool p.Whole, .int .i64 p.Off, .bool p.More, .slice a_p_Data p.Data.length c_p_Data]), D (.bool (fragI p)), W (.bool (!(fragI p)))] mixed (fun vs w => by kernel_rfl) (⟨fun vs lo hi wx hB hK => Out.loadA rfl agg_33 size_33 ((hb1_0.to hB).has 0 _ rfl), fun vs lo hi wx hB hK => Out.call (by kernel_rfl) (c_impl_FragOk _ p ([.int .i64 p.Src, .int .i64 p.Dst, .int .i64 p.Kind, .int .i64 p.Id, .int .i64 p.Hops, .bool p.Whole, .int .i64 p.Off, .bool p.More, .slice a_p_Data p.Data.length c_p_Data]) (show rpFragPacket.rd _ _ _ from ⟨_, _, rfl, h_p_Data.below (btr e2 hB)⟩) (by omega)) (fun _ _ h => h), trivial⟩) ?_
  rintro vs3 lo3 hi3 w3 hU3
  have e4 := btr e2 hU3.1
  replace hb1_0 := hb1_0.to hU3.1
  refine Rest.nil (GQ.sub [(1, .pointer (some ⟨(lo1 0), 0, none⟩)), (5, .bool (!(fragI p)))] (by kernel_rfl) ?_)
  refine GQ.on ?_
  refine GC.cond (!(fragI p)) rfl (fun hc0 => ?_) (fun hc0 => ?_)
  · skip
    have hc0' := hc0
    try simp at hc0'
    refine GC.seq ?_
    refine GC.regW [W (.int .i64 0)] [(2, .int .i64 0)] mixed rfl (fun vs w => by kernel_rfl) rfl (fun vs => by kernel_rfl) ?_
    refine GQ.on ?_
    refine GC.ret ?_
    refine GQ.passRet ?_
    refine GQ.ret1 (.int .i64 0) rfl rfl ?_
    exact ⟨_, rfl, congrArg (Value.int .i64) (cndT hc0 rfl), e4⟩
  · skip
    have hc0' := hc0
    try simp at hc0'
    have hb := fragI_b (by simpa using hc0)
    refine GC.skip ?_
    refine GQ.on ?_
    refine GC.seq ?_
    refine GC.reg 11 [W (.pointer (some ⟨(lo1 0), 0, none⟩)), D (.int .i64 p.Src), W (.pointer (some ⟨(lo1 0), 1, none⟩)), D (.int .i64 p.Dst), D (.int .i64 (3 * p.Dst)), D (.int .i64 (p.Src + (3 * p.Dst))), W (.pointer (some ⟨(lo1 0), 2, none⟩)), D (.int .i64 p.Kind), D (.int .i64 (7 * p.Kind)), D (.int .i64 ((p.Src + (3 * p.Dst)) + (7 * p.Kind))), W (.int .i64 ((p.Src + (3 * p.Dst)) + (7 * p.Kind)))] mixed (fun vs w => by kernel_rfl) (⟨fun vs lo hi wx hB hK => Out.load1 rfl agg_3 ((hb1_0.to hB).cell 0 _ rfl), fun vs lo hi wx hB hK => Out.load1 rfl agg_3 ((hb1_0.to hB).cell 1 _ rfl), fun vs lo hi wx hB hK => Out.mul rfl rfl (by omega) (by omega), fun vs lo hi wx hB hK => Out.add rfl rfl (by omega) (by omega), fun vs lo hi wx hB hK => Out.load1 rfl agg_3 ((hb1_0.to hB).cell 2 _ rfl), fun vs lo hi wx hB hK => Out.mul rfl rfl (by omega) (by omega), fun vs lo hi wx hB hK => Out.add rfl rfl (by omega) (by omega), trivial⟩) ?_
    rintro vs5 lo5 hi5 w5 hU5
    have e6 := btr e4 hU5.1
    replace hb1_0 := hb1_0.to hU5.1
    refine Rest.nil (GQ.sub [(2, .int .i64 ((p.Src + (3 * p.Dst)) + (7 * p.Kind)))] (by kernel_rfl) ?_)
    refine GQ.on ?_
    refine GC.ret ?_
    refine GQ.ret1 (.int .i64 ((p.Src + (3 * p.Dst)) + (7 * p.Kind))) rfl rfl ?_
    exact ⟨_, rfl, congrArg (Value.int .i64) (cndF hc0 rfl), e6⟩
def flowS (p : FragPacket) : Int := bif (!(fragS p)) then 0 else ((p.Src + (3 * p.Dst)) + (7 * p.Kind))
/-- spec.TernFlow -/
theorem c_spec_TernFlow (w : World) (p : FragPacket) (cs_p : List Value) (h_p : rpFragPacket.rd w cs_p p) (hD : p.Data.length ≤ 1048576) :
    Calls Try.prog 10 #[.agg cs_p.toArray] w fun e w' => ∃ rv, e = .returned rv ∧ (rv = .int .i64 (flowS p) ∧ Below w.heap.size w w') := by
  obtain ⟨a_p_Data, c_p_Data, rfl, h_p_Data⟩ := h_p
  refine enter [(0, .agg #[.int .i64 p.Src, .int .i64 p.Dst, .int .i64 p.Kind, .int .i64 p.Id, .int .i64 p.Hops, .bool p.Whole, .int .i64 p.Off, .bool p.More, .slice a_p_Data p.Data.length c_p_Data])] Try.func10 rfl (by kernel_rfl) (by kernel_rfl) ?_
  have e0 := brefl w
  refine GC.seq ?_
  refine GC.reg 2 [RB 0 33 [.int .i64 p.Src, .int .i64 p.Dst, .int .i64 p.Kind, .int .i64 p.Id, .int .i64 p.Hops, .bool p.Whole, .int .i64 p.Off, .bool p.More, .slice a_p_Data p.Data.length c_p_Data], W (.int .i64 0)] mixed (fun vs w => by kernel_rfl) (⟨fun vs lo hi wx hB hK => Out.box rfl, trivial⟩) ?_
  rintro vs1 lo1 hi1 w1 hU1
  have e2 := btr e0 hU1.1
  obtain ⟨⟨hv1_0, hp1_0, hb1_0⟩, hl1_0, -, -⟩ := hU1.2.1 0 _ rfl trivial
  have hl1_0b := Nat.le_trans e0.size hl1_0
  refine Rest.nil (GQ.sub [(1, .pointer (some ⟨(lo1 0), 0, none⟩))] (by rw [← hv1_0]; kernel_rfl) ?_)
  refine GQ.on ?_
  refine GC.seq ?_
  refine GC.seq ?_
  refine GC.reg 3 [D (.agg #[.int .i64 p.Src, .int .i64 p.Dst, .int .i64 p.Kind, .int .i64 p.Id, .int .i64 p.Hops, .bool p.Whole, .int .i64 p.Off, .bool p.More, .slice a_p_Data p.Data.length c_p_Data]), D (.bool (fragS p)), W (.bool (!(fragS p)))] mixed (fun vs w => by kernel_rfl) (⟨fun vs lo hi wx hB hK => Out.loadA rfl agg_33 size_33 ((hb1_0.to hB).has 0 _ rfl), fun vs lo hi wx hB hK => Out.call (by kernel_rfl) (c_spec_FragOk _ p ([.int .i64 p.Src, .int .i64 p.Dst, .int .i64 p.Kind, .int .i64 p.Id, .int .i64 p.Hops, .bool p.Whole, .int .i64 p.Off, .bool p.More, .slice a_p_Data p.Data.length c_p_Data]) (show rpFragPacket.rd _ _ _ from ⟨_, _, rfl, h_p_Data.below (btr e2 hB)⟩)) (fun _ _ h => h), trivial⟩) ?_
  rintro vs3 lo3 hi3 w3 hU3
  have e4 := btr e2 hU3.1
  replace hb1_0 := hb1_0.to hU3.1
  refine Rest.nil (GQ.sub [(1, .pointer (some ⟨(lo1 0), 0, none⟩)), (5, .bool (!(fragS p)))] (by kernel_rfl) ?_)
  refine GQ.on ?_
  refine GC.cond (!(fragS p)) rfl (fun hc0 => ?_) (fun hc0 => ?_)
  · skip
    have hc0' := hc0
    try simp at hc0'
    refine GC.seq ?_
    refine GC.regW [W (.int .i64 0)] [(2, .int .i64 0)] mixed rfl (fun vs w => by kernel_rfl) rfl (fun vs => by kernel_rfl) ?_
    refine GQ.on ?_
    refine GC.ret ?_
    refine GQ.passRet ?_
    refine GQ.ret1 (.int .i64 0) rfl rfl ?_
    exact ⟨_, rfl, congrArg (Value.int .i64) (cndT hc0 rfl), e4⟩
  · skip
    have hc0' := hc0
    try simp at hc0'
    have hb := fragS_b (by simpa using hc0)
    refine GC.skip ?_
    refine GQ.on ?_
    refine GC.seq ?_
    refine GC.reg 11 [W (.pointer (some ⟨(lo1 0), 0, none⟩)), D (.int .i64 p.Src), W (.pointer (some ⟨(lo1 0), 1, none⟩)), D (.int .i64 p.Dst), D (.int .i64 (3 * p.Dst)), D (.int .i64 (p.Src + (3 * p.Dst))), W (.pointer (some ⟨(lo1 0), 2, none⟩)), D (.int .i64 p.Kind), D (.int .i64 (7 * p.Kind)), D (.int .i64 ((p.Src + (3 * p.Dst)) + (7 * p.Kind))), W (.int .i64 ((p.Src + (3 * p.Dst)) + (7 * p.Kind)))] mixed (fun vs w => by kernel_rfl) (⟨fun vs lo hi wx hB hK => Out.load1 rfl agg_3 ((hb1_0.to hB).cell 0 _ rfl), fun vs lo hi wx hB hK => Out.load1 rfl agg_3 ((hb1_0.to hB).cell 1 _ rfl), fun vs lo hi wx hB hK => Out.mul rfl rfl (by omega) (by omega), fun vs lo hi wx hB hK => Out.add rfl rfl (by omega) (by omega), fun vs lo hi wx hB hK => Out.load1 rfl agg_3 ((hb1_0.to hB).cell 2 _ rfl), fun vs lo hi wx hB hK => Out.mul rfl rfl (by omega) (by omega), fun vs lo hi wx hB hK => Out.add rfl rfl (by omega) (by omega), trivial⟩) ?_
    rintro vs5 lo5 hi5 w5 hU5
    have e6 := btr e4 hU5.1
    replace hb1_0 := hb1_0.to hU5.1
    refine Rest.nil (GQ.sub [(2, .int .i64 ((p.Src + (3 * p.Dst)) + (7 * p.Kind)))] (by kernel_rfl) ?_)
    refine GQ.on ?_
    refine GC.ret ?_
    refine GQ.ret1 (.int .i64 ((p.Src + (3 * p.Dst)) + (7 * p.Kind))) rfl rfl ?_
    exact ⟨_, rfl, congrArg (Value.int .i64) (cndF hc0 rfl), e6⟩
theorem flow_eq (p : FragPacket) : flowI p = flowS p := by simp only [flowI, flowS, frag_eq]
theorem sz_b {p : FragPacket} (h : 0 ≤ szFragPacket p 1048576) : p.Data.length ≤ 1048576 := by
  simp [szFragPacket, szByteS, Bool.cond_eq_ite] at h
  omega
/-- laws.FnExactTernFlow -/
theorem c_laws_FnExactTernFlow (w : World) (aP : FragPacket) (cs_aP : List Value) (h_aP : rpFragPacket.rd w cs_aP aP) :
    Calls Try.prog 4 #[.agg cs_aP.toArray] w fun e w' => ∃ rv, e = .returned rv ∧ (rv = .bool true ∧ Below w.heap.size w w') := by
  obtain ⟨a_aP_Data, c_aP_Data, rfl, h_aP_Data⟩ := h_aP
  refine enter [(0, .agg #[.int .i64 aP.Src, .int .i64 aP.Dst, .int .i64 aP.Kind, .int .i64 aP.Id, .int .i64 aP.Hops, .bool aP.Whole, .int .i64 aP.Off, .bool aP.More, .slice a_aP_Data aP.Data.length c_aP_Data])] Try.func4 rfl (by kernel_rfl) (by kernel_rfl) ?_
  have e0 := brefl w
  refine GC.seq ?_
  refine GC.reg 2 [RB 0 30 [.int .i64 aP.Src, .int .i64 aP.Dst, .int .i64 aP.Kind, .int .i64 aP.Id, .int .i64 aP.Hops, .bool aP.Whole, .int .i64 aP.Off, .bool aP.More, .slice a_aP_Data aP.Data.length c_aP_Data], W (.bool false)] mixed (fun vs w => by kernel_rfl) (⟨fun vs lo hi wx hB hK => Out.box rfl, trivial⟩) ?_
  rintro vs1 lo1 hi1 w1 hU1
  have e2 := btr e0 hU1.1
  obtain ⟨⟨hv1_0, hp1_0, hb1_0⟩, hl1_0, -, -⟩ := hU1.2.1 0 _ rfl trivial
  have hl1_0b := Nat.le_trans e0.size hl1_0
  refine Rest.nil (GQ.sub [(1, .pointer (some ⟨(lo1 0), 0, none⟩))] (by rw [← hv1_0]; kernel_rfl) ?_)
  refine GQ.on ?_
  refine GC.seq ?_
  refine GC.regW [W (.int .i64 1048576)] [(1, .pointer (some ⟨(lo1 0), 0, none⟩)), (3, .int .i64 1048576)] mixed rfl (fun vs w => by kernel_rfl) rfl (fun vs => by kernel_rfl) ?_
  refine GQ.on ?_
  refine GC.seq ?_
  refine GC.reg 4 [D (.agg #[.int .i64 aP.Src, .int .i64 aP.Dst, .int .i64 aP.Kind, .int .i64 aP.Id, .int .i64 aP.Hops, .bool aP.Whole, .int .i64 aP.Off, .bool aP.More, .slice a_aP_Data aP.Data.length c_aP_Data]), W (.int .i64 1048576), D (.int .i64 (szFragPacket aP 1048576)), W (.int .i64 (szFragPacket aP 1048576))] mixed (fun vs w => by kernel_rfl) (⟨fun vs lo hi wx hB hK => Out.loadA rfl agg_30 size_30 ((hb1_0.to hB).has 0 _ rfl), fun vs lo hi wx hB hK => Out.call (by kernel_rfl) (c_laws_szFragPacket _ aP ([.int .i64 aP.Src, .int .i64 aP.Dst, .int .i64 aP.Kind, .int .i64 aP.Id, .int .i64 aP.Hops, .bool aP.Whole, .int .i64 aP.Off, .bool aP.More, .slice a_aP_Data aP.Data.length c_aP_Data]) (show rpFragPacket.rd _ _ _ from ⟨_, _, rfl, h_aP_Data.below (btr e2 hB)⟩) 1048576 (by omega)) (fun _ _ h => h), trivial⟩) ?_
  rintro vs3 lo3 hi3 w3 hU3
  have e4 := btr e2 hU3.1
  replace hb1_0 := hb1_0.to hU3.1
  refine Rest.nil (GQ.sub [(1, .pointer (some ⟨(lo1 0), 0, none⟩)), (3, .int .i64 (szFragPacket aP 1048576))] (by kernel_rfl) ?_)
  refine GQ.on ?_
  refine GC.seq ?_
  refine GC.seq ?_
  refine GC.regW [W (.int .i64 (szFragPacket aP 1048576)), W (.bool (decide ((szFragPacket aP 1048576) < (0 : Int))))] [(1, .pointer (some ⟨(lo1 0), 0, none⟩)), (11, .bool (decide ((szFragPacket aP 1048576) < (0 : Int))))] mixed rfl (fun vs w => by kernel_rfl) rfl (fun vs => by kernel_rfl) ?_
  refine GQ.on ?_
  refine GC.cond (decide ((szFragPacket aP 1048576) < (0 : Int))) rfl (fun hc0 => ?_) (fun hc0 => ?_)
  · skip
    have hc0' := hc0
    try simp at hc0'
    refine GC.seq ?_
    refine GC.regW [W (.bool true)] [(2, .bool true)] mixed rfl (fun vs w => by kernel_rfl) rfl (fun vs => by kernel_rfl) ?_
    refine GQ.on ?_
    refine GC.ret ?_
    refine GQ.passRet ?_
    refine GQ.ret1 (.bool true) rfl rfl ?_
    exact ⟨_, rfl, rfl, e4⟩
  · skip
    have hc0' := hc0
    try simp at hc0'
    have hD := sz_b (by simpa using hc0)
    refine GC.skip ?_
    refine GQ.on ?_
    refine GC.seq ?_
    refine GC.reg 4 [D (.agg #[.int .i64 aP.Src, .int .i64 aP.Dst, .int .i64 aP.Kind, .int .i64 aP.Id, .int .i64 aP.Hops, .bool aP.Whole, .int .i64 aP.Off, .bool aP.More, .slice a_aP_Data aP.Data.length c_aP_Data]), RFS 1 rpFragPacket aP, D (.int .i64 (flowS aP)), W (.int .i64 (flowS aP))] mixed (fun vs w => by kernel_rfl) (⟨fun vs lo hi wx hB hK => Out.loadA rfl agg_30 size_30 ((hb1_0.to hB).has 0 _ rfl), fun vs lo hi wx hB hK => Out.call (by kernel_rfl) (c_laws_toFragPacket _ aP ([.int .i64 aP.Src, .int .i64 aP.Dst, .int .i64 aP.Kind, .int .i64 aP.Id, .int .i64 aP.Hops, .bool aP.Whole, .int .i64 aP.Off, .bool aP.More, .slice a_aP_Data aP.Data.length c_aP_Data]) (show rpFragPacket.rd _ _ _ from ⟨_, _, rfl, h_aP_Data.below (btr e4 hB)⟩) (by omega)) (fun _ _ h => h), fun vs lo hi wx hB hK => (by obtain ⟨cs_r1, fp_r1, hv_r1, ho_r1, -⟩ := (hK 1 _ rfl trivial (by kernel_rfl)).1; refine Out.callR (f := 10) (args := #[vs 1]) (by kernel_rfl) ?_; rw [hv_r1]; exact (c_spec_TernFlow _ aP cs_r1 (rpFragPacket.own_rd ho_r1) (by omega))), trivial⟩) ?_
    rintro vs5 lo5 hi5 w5 hU5
    have hlt6 := hb1_0.lt
    have e7 := btr e4 hU5.1
    replace hb1_0 := hb1_0.to hU5.1
    obtain ⟨⟨cs5_1, fp5_1, hv5_1, hO5_1, hf5_1⟩, hl5_1, -, -⟩ := hU5.2.1 1 _ rfl trivial
    have s5_1 := hO5_1
    obtain ⟨a5_1_0, c5_1_0, f5_1_0, rfl, hO5_1_0, rfl, hnd5_1⟩ := hO5_1
    have hf5_1_0 := hf5_1
    have hsp8 := sep_lo hf5_1_0 (Nat.lt_of_lt_of_le hlt6 hl5_1)
    have hsp9 := sep_lo hf5_1 (Nat.lt_of_lt_of_le hlt6 hl5_1)
    have hl5_1b := Nat.le_trans e4.size hl5_1
    have hlo10 := low_of hf5_1_0 hl5_1b
    have hlo11 := low_of hf5_1 hl5_1b
    refine Rest.nil (GQ.sub [(1, .pointer (some ⟨(lo1 0), 0, none⟩)), (4, .int .i64 (flowS aP))] (by kernel_rfl) ?_)
    refine GQ.on ?_
    refine GC.seq ?_
    refine GC.reg 3 [D (.agg #[.int .i64 aP.Src, .int .i64 aP.Dst, .int .i64 aP.Kind, .int .i64 aP.Id, .int .i64 aP.Hops, .bool aP.Whole, .int .i64 aP.Off, .bool aP.More, .slice a_aP_Data aP.Data.length c_aP_Data]), RFS 1 rpFragPacket aP, RB 2 33 [.int .i64 0, .int .i64 0, .int .i64 0, .int .i64 0, .int .i64 0, .bool false, .int .i64 0, .bool false, .slice none 0 0]] mixed (fun vs w => by kernel_rfl) (⟨fun vs lo hi wx hB hK => Out.loadA rfl agg_30 size_30 ((hb1_0.to hB).has 0 _ rfl), fun vs lo hi wx hB hK => Out.call (by kernel_rfl) (c_laws_toFragPacket _ aP ([.int .i64 aP.Src, .int .i64 aP.Dst, .int .i64 aP.Kind, .int .i64 aP.Id, .int .i64 aP.Hops, .bool aP.Whole, .int .i64 aP.Off, .bool aP.More, .slice a_aP_Data aP.Data.length c_aP_Data]) (show rpFragPacket.rd _ _ _ from ⟨_, _, rfl, h_aP_Data.below (btr e7 hB)⟩) (by omega)) (fun _ _ h => h), fun vs lo hi wx hB hK => Out.alloc (z := .agg #[.int .i64 0, .int .i64 0, .int .i64 0, .int .i64 0, .int .i64 0, .bool false, .int .i64 0, .bool false, .slice none 0 0]) (by kernel_rfl) rfl, trivial⟩) ?_
    rintro vs12 lo12 hi12 w12 hU12
    have hlt13 := hb1_0.lt
    have hlt14 := hO5_1_0.lt
    have e15 := btr e7 hU12.1
    replace hb1_0 := hb1_0.to hU12.1
    replace hO5_1_0 := hO5_1_0.below hU12.1
    replace s5_1 := Rp.own_below (r := rpFragPacket) s5_1 hU12.1
    obtain ⟨⟨cs12_1, fp12_1, hv12_1, hO12_1, hf12_1⟩, hl12_1, -, -⟩ := hU12.2.1 1 _ rfl trivial
    have s12_1 := hO12_1
    obtain ⟨a12_1_0, c12_1_0, f12_1_0, rfl, hO12_1_0, rfl, hnd12_1⟩ := hO12_1
    have hf12_1_0 := hf12_1
    have hsp16 := sep_lo hf12_1_0 (Nat.lt_of_lt_of_le hlt13 hl12_1)
    have hds17 := dis_new hlt14 hf12_1_0 hl12_1
    have hsp18 := sep_lo hf12_1 (Nat.lt_of_lt_of_le hlt13 hl12_1)
    have hds19 := dis_new hlt14 hf12_1 hl12_1
    have hl12_1b := Nat.le_trans e7.size hl12_1
    have hlo20 := low_of hf12_1_0 hl12_1b
    have hlo21 := low_of hf12_1 hl12_1b
    obtain ⟨⟨hv12_2, hp12_2, hb12_2⟩, hl12_2, -, -⟩ := hU12.2.1 2 _ rfl trivial
    have hne22 := Nat.ne_of_lt (Nat.lt_of_lt_of_le hlt13 hl12_2)
    have hsp23 := sep_lt hlt14 hl12_2
    have hd24 := hU12.2.2.1 1 2 _ _ rfl rfl trivial trivial (by decide)
    have hsp25 := sep_dis hf12_1_0 hd24 hp12_2
    have hl12_2b := Nat.le_trans e7.size hl12_2
    refine Rest.sub [(1, .pointer (some ⟨(lo1 0), 0, none⟩)), (4, .int .i64 (flowS aP)), (5, .pointer (some ⟨(lo12 2), 0, none⟩)), (16, .agg #[.int .i64 aP.Src, .int .i64 aP.Dst, .int .i64 aP.Kind, .int .i64 aP.Id, .int .i64 aP.Hops, .bool aP.Whole, .int .i64 aP.Off, .bool aP.More, .slice a12_1_0 aP.Data.length c12_1_0])] (by rw [← hv12_1, ← hv12_2]; kernel_rfl) ?_
    refine Rest.store [.int .i64 aP.Src, .int .i64 aP.Dst, .int .i64 aP.Kind, .int .i64 aP.Id, .int .i64 aP.Hops, .bool aP.Whole, .int .i64 aP.Off, .bool aP.More, .slice a12_1_0 aP.Data.length c12_1_0] [.int .i64 aP.Src, .int .i64 aP.Dst, .int .i64 aP.Kind, .int .i64 aP.Id, .int .i64 aP.Hops, .bool aP.Whole, .int .i64 aP.Off, .bool aP.More, .slice a12_1_0 aP.Data.length c12_1_0] rfl rfl hb12_2 size_33 rfl rfl rfl ?_
    intro w26 hC27 hb28
    have e29 := bchg1 e15 (Nat.le_refl _) hC27 hl12_2b
    replace hb1_0 := hb1_0.chg hC27 hne22
    replace hO5_1_0 := hO5_1_0.chg hC27 hsp23
    replace hO12_1_0 := hO12_1_0.chg hC27 hsp25
    refine Rest.nil (GQ.sub [(1, .pointer (some ⟨(lo1 0), 0, none⟩)), (4, .int .i64 (flowS aP)), (5, .pointer (some ⟨(lo12 2), 0, none⟩))] (by kernel_rfl) ?_)
    refine GQ.on ?_
    refine GC.seq ?_
    refine GC.reg 3 [D (.agg #[.int .i64 aP.Src, .int .i64 aP.Dst, .int .i64 aP.Kind, .int .i64 aP.Id, .int .i64 aP.Hops, .bool aP.Whole, .int .i64 aP.Off, .bool aP.More, .slice a12_1_0 aP.Data.length c12_1_0]), D (.int .i64 (flowI aP)), W (.int .i64 (flowI aP))] mixed (fun vs w => by kernel_rfl) (⟨fun vs lo hi wx hB hK => Out.loadA rfl agg_33 size_33 ((hb28.to hB).has 0 _ rfl), fun vs lo hi wx hB hK => Out.call (by kernel_rfl) (c_impl_TernFlow _ aP ([.int .i64 aP.Src, .int .i64 aP.Dst, .int .i64 aP.Kind, .int .i64 aP.Id, .int .i64 aP.Hops, .bool aP.Whole, .int .i64 aP.Off, .bool aP.More, .slice a12_1_0 aP.Data.length c12_1_0]) (show rpFragPacket.rd _ _ _ from ⟨_, _, rfl, (hO12_1_0.below hB).read⟩) (by omega)) (fun _ _ h => h), trivial⟩) ?_
    rintro vs30 lo30 hi30 w30 hU30
    have e31 := btr e29 hU30.1
    replace hb1_0 := hb1_0.to hU30.1
    replace hb28 := hb28.to hU30.1
    replace hO5_1_0 := hO5_1_0.below hU30.1
    replace hO12_1_0 := hO12_1_0.below hU30.1
    refine Rest.nil (GQ.sub [(1, .pointer (some ⟨(lo1 0), 0, none⟩)), (4, .int .i64 (flowS aP)), (5, .pointer (some ⟨(lo12 2), 0, none⟩)), (6, .int .i64 (flowI aP))] (by kernel_rfl) ?_)
    refine GQ.on ?_
    refine GC.seq ?_
    refine GC.seq ?_
    refine GC.regW [W (.int .i64 (flowI aP)), W (.int .i64 (flowS aP)), W (.bool ((flowI aP) != (flowS aP)))] [(1, .pointer (some ⟨(lo1 0), 0, none⟩)), (5, .pointer (some ⟨(lo12 2), 0, none⟩)), (21, .bool ((flowI aP) != (flowS aP)))] mixed rfl (fun vs w => by kernel_rfl) rfl (fun vs => by kernel_rfl) ?_
    refine GQ.on ?_
    refine GC.cond ((flowI aP) != (flowS aP)) rfl (fun hc1 => ?_) (fun hc1 => ?_)
    · skip
      exact absurd hc1 (by simp [flow_eq])
    · skip
      have hc1' := hc1
      try simp at hc1'
      refine GC.skip ?_
      refine GQ.on ?_
      refine GC.seq ?_
      refine GC.seq ?_
      refine GC.reg 5 [D (.agg #[.int .i64 aP.Src, .int .i64 aP.Dst, .int .i64 aP.Kind, .int .i64 aP.Id, .int .i64 aP.Hops, .bool aP.Whole, .int .i64 aP.Off, .bool aP.More, .slice a12_1_0 aP.Data.length c12_1_0]), D (.agg #[.int .i64 aP.Src, .int .i64 aP.Dst, .int .i64 aP.Kind, .int .i64 aP.Id, .int .i64 aP.Hops, .bool aP.Whole, .int .i64 aP.Off, .bool aP.More, .slice a_aP_Data aP.Data.length c_aP_Data]), RFS 2 rpFragPacket aP, D (.bool (decide (aP = aP))), W (.bool (!(decide (aP = aP))))] mixed (fun vs w => by kernel_rfl) (⟨fun vs lo hi wx hB hK => Out.loadA rfl agg_33 size_33 ((hb28.to hB).has 0 _ rfl), fun vs lo hi wx hB hK => Out.loadA rfl agg_30 size_30 ((hb1_0.to hB).has 0 _ rfl), fun vs lo hi wx hB hK => Out.call (by kernel_rfl) (c_laws_toFragPacket _ aP ([.int .i64 aP.Src, .int .i64 aP.Dst, .int .i64 aP.Kind, .int .i64 aP.Id, .int .i64 aP.Hops, .bool aP.Whole, .int .i64 aP.Off, .bool aP.More, .slice a_aP_Data aP.Data.length c_aP_Data]) (show rpFragPacket.rd _ _ _ from ⟨_, _, rfl, h_aP_Data.below (btr e31 hB)⟩) (by omega)) (fun _ _ h => h), fun vs lo hi wx hB hK => (by obtain ⟨cs_r2, fp_r2, hv_r2, ho_r2, -⟩ := (hK 2 _ rfl trivial (by kernel_rfl)).1; refine Out.callR (f := 13) (args := #[.agg #[.int .i64 aP.Src, .int .i64 aP.Dst, .int .i64 aP.Kind, .int .i64 aP.Id, .int .i64 aP.Hops, .bool aP.Whole, .int .i64 aP.Off, .bool aP.More, .slice a12_1_0 aP.Data.length c12_1_0], vs 2]) (by kernel_rfl) ?_; rw [hv_r2]; exact (c_laws_eqFragPacket _ aP ([.int .i64 aP.Src, .int .i64 aP.Dst, .int .i64 aP.Kind, .int .i64 aP.Id, .int .i64 aP.Hops, .bool aP.Whole, .int .i64 aP.Off, .bool aP.More, .slice a12_1_0 aP.Data.length c12_1_0]) (show rpFragPacket.rd _ _ _ from ⟨_, _, rfl, (hO12_1_0.below hB).read⟩) aP cs_r2 (rpFragPacket.own_rd ho_r2))), trivial⟩) ?_
      rintro vs32 lo32 hi32 w32 hU32
      have hlt33 := hb1_0.lt
      have hlt34 := hb28.lt
      have hlt35 := hO5_1_0.lt
      have hlt36 := hO12_1_0.lt
      have e37 := btr e31 hU32.1
      replace hb1_0 := hb1_0.to hU32.1
      replace hb28 := hb28.to hU32.1
      replace hO5_1_0 := hO5_1_0.below hU32.1
      replace hO12_1_0 := hO12_1_0.below hU32.1
      obtain ⟨⟨cs32_2, fp32_2, hv32_2, hO32_2, hf32_2⟩, hl32_2, -, -⟩ := hU32.2.1 2 _ rfl trivial
      have s32_2 := hO32_2
      obtain ⟨a32_2_0, c32_2_0, f32_2_0, rfl, hO32_2_0, rfl, hnd32_2⟩ := hO32_2
      have hf32_2_0 := hf32_2
      have hsp38 := sep_lo hf32_2_0 (Nat.lt_of_lt_of_le hlt33 hl32_2)
      have hsp39 := sep_lo hf32_2_0 (Nat.lt_of_lt_of_le hlt34 hl32_2)
      have hds40 := dis_new hlt35 hf32_2_0 hl32_2
      have hds41 := dis_new hlt36 hf32_2_0 hl32_2
      have hsp42 := sep_lo hf32_2 (Nat.lt_of_lt_of_le hlt33 hl32_2)
      have hsp43 := sep_lo hf32_2 (Nat.lt_of_lt_of_le hlt34 hl32_2)
      have hds44 := dis_new hlt35 hf32_2 hl32_2
      have hds45 := dis_new hlt36 hf32_2 hl32_2
      have hl32_2b := Nat.le_trans e31.size hl32_2
      have hlo46 := low_of hf32_2_0 hl32_2b
      have hlo47 := low_of hf32_2 hl32_2b
      refine Rest.nil (GQ.sub [(26, .bool (!(decide (aP = aP))))] (by kernel_rfl) ?_)
      refine GQ.on ?_
      refine GC.cond (!(decide (aP = aP))) rfl (fun hc2 => ?_) (fun hc2 => ?_)
      · skip
        exact absurd hc2 (by simp)
      · skip
        have hc2' := hc2
        try simp at hc2'
        refine GC.skip ?_
        refine GQ.on ?_
        refine GC.seq ?_
        refine GC.regW [W (.bool true)] [(2, .bool true)] mixed rfl (fun vs w => by kernel_rfl) rfl (fun vs => by kernel_rfl) ?_
        refine GQ.on ?_
        refine GC.ret ?_
        refine GQ.ret1 (.bool true) rfl rfl ?_
        exact ⟨_, rfl, rfl, e37⟩
theorem opens_3 : Opens Try.prog 3 rpInt := Opens.int Try.underlying3
theorem opens_4 : Opens Try.prog 4 rpBool := Opens.bool Try.underlying4
theorem opens_5 : Opens Try.prog 5 rpByte := Opens.byte Try.underlying5
theorem opens_28 : Opens Try.prog 28 (Rp.slice rpByte) := Opens.slice Try.underlying28 opens_5 (by kernel_rfl) (by decide)
theorem opens_30 : Opens Try.prog 30 rpFragPacket := by
  intro H enc W fuel cs y h
  obtain ⟨hl, hf⟩ := trod_struct Try.underlying30 h
  have hn : Try.prog.cellsOf 30 = 9 := by kernel_rfl
  rw [hn] at hl
  obtain ⟨c0, cs0, rfl⟩ : ∃ c r, cs = c :: r := by cases cs with | nil => simp at hl | cons a b => exact ⟨a, b, rfl⟩
  obtain ⟨c1, cs1, rfl⟩ : ∃ c r, cs0 = c :: r := by cases cs0 with | nil => simp at hl | cons a b => exact ⟨a, b, rfl⟩
  obtain ⟨c2, cs2, rfl⟩ : ∃ c r, cs1 = c :: r := by cases cs1 with | nil => simp at hl | cons a b => exact ⟨a, b, rfl⟩
  obtain ⟨c3, cs3, rfl⟩ : ∃ c r, cs2 = c :: r := by cases cs2 with | nil => simp at hl | cons a b => exact ⟨a, b, rfl⟩
  obtain ⟨c4, cs4, rfl⟩ : ∃ c r, cs3 = c :: r := by cases cs3 with | nil => simp at hl | cons a b => exact ⟨a, b, rfl⟩
  obtain ⟨c5, cs5, rfl⟩ : ∃ c r, cs4 = c :: r := by cases cs4 with | nil => simp at hl | cons a b => exact ⟨a, b, rfl⟩
  obtain ⟨c6, cs6, rfl⟩ : ∃ c r, cs5 = c :: r := by cases cs5 with | nil => simp at hl | cons a b => exact ⟨a, b, rfl⟩
  obtain ⟨c7, cs7, rfl⟩ : ∃ c r, cs6 = c :: r := by cases cs6 with | nil => simp at hl | cons a b => exact ⟨a, b, rfl⟩
  obtain ⟨c8, cs8, rfl⟩ : ∃ c r, cs7 = c :: r := by cases cs7 with | nil => simp at hl | cons a b => exact ⟨a, b, rfl⟩
  obtain rfl : cs8 = [] := by simpa using hl
  obtain ⟨n0, z0, g0⟩ := hf 0 _ rfl
  have g0 : DataW.trod enc Try.prog W 0 (fun _ => true) true n0 3 [c0] = some z0 := g0
  obtain ⟨x0, e0⟩ := opens_3 H enc W n0 [c0] z0 g0
  have u0_0 := (List.cons.inj e0).1
  subst u0_0
  obtain ⟨n1, z1, g1⟩ := hf 1 _ rfl
  have g1 : DataW.trod enc Try.prog W 0 (fun _ => true) true n1 3 [c1] = some z1 := g1
  obtain ⟨x1, e1⟩ := opens_3 H enc W n1 [c1] z1 g1
  have u1_0 := (List.cons.inj e1).1
  subst u1_0
  obtain ⟨n2, z2, g2⟩ := hf 2 _ rfl
  have g2 : DataW.trod enc Try.prog W 0 (fun _ => true) true n2 3 [c2] = some z2 := g2
  obtain ⟨x2, e2⟩ := opens_3 H enc W n2 [c2] z2 g2
  have u2_0 := (List.cons.inj e2).1
  subst u2_0
  obtain ⟨n3, z3, g3⟩ := hf 3 _ rfl
  have g3 : DataW.trod enc Try.prog W 0 (fun _ => true) true n3 3 [c3] = some z3 := g3
  obtain ⟨x3, e3⟩ := opens_3 H enc W n3 [c3] z3 g3
  have u3_0 := (List.cons.inj e3).1
  subst u3_0
  obtain ⟨n4, z4, g4⟩ := hf 4 _ rfl
  have g4 : DataW.trod enc Try.prog W 0 (fun _ => true) true n4 3 [c4] = some z4 := g4
  obtain ⟨x4, e4⟩ := opens_3 H enc W n4 [c4] z4 g4
  have u4_0 := (List.cons.inj e4).1
  subst u4_0
  obtain ⟨n5, z5, g5⟩ := hf 5 _ rfl
  have g5 : DataW.trod enc Try.prog W 0 (fun _ => true) true n5 4 [c5] = some z5 := g5
  obtain ⟨x5, e5⟩ := opens_4 H enc W n5 [c5] z5 g5
  have u5_0 := (List.cons.inj e5).1
  subst u5_0
  obtain ⟨n6, z6, g6⟩ := hf 6 _ rfl
  have g6 : DataW.trod enc Try.prog W 0 (fun _ => true) true n6 3 [c6] = some z6 := g6
  obtain ⟨x6, e6⟩ := opens_3 H enc W n6 [c6] z6 g6
  have u6_0 := (List.cons.inj e6).1
  subst u6_0
  obtain ⟨n7, z7, g7⟩ := hf 7 _ rfl
  have g7 : DataW.trod enc Try.prog W 0 (fun _ => true) true n7 4 [c7] = some z7 := g7
  obtain ⟨x7, e7⟩ := opens_4 H enc W n7 [c7] z7 g7
  have u7_0 := (List.cons.inj e7).1
  subst u7_0
  obtain ⟨n8, z8, g8⟩ := hf 8 _ rfl
  have g8 : DataW.trod enc Try.prog W 0 (fun _ => true) true n8 28 [c8] = some z8 := g8
  obtain ⟨x8, a8_0, b8_0, e8, s8_0⟩ := opens_28 H enc W n8 [c8] z8 g8
  have u8_0 := (List.cons.inj e8).1
  subst u8_0
  exact ⟨⟨x0, x1, x2, x3, x4, x5, x6, x7, x8⟩, _, _, rfl, s8_0⟩
theorem own : ownKnob Try.prog.godebug = none := by kernel_rfl
theorem laid : laidOutB Try.prog = true := by kernel_rfl
set_option maxRecDepth 100000 in
theorem lifted_FnExactTernFlow (os : Os) (started : os.Started) (H : Type) (enc : TypeId × Value → H) :
    ReturnsInHanded {} Try.checked os 4 .any (Rows.fnExactTernFlowSpec.pre6 enc Try.prog Try.f4 Rows.fnExactTernFlowRow.domain false) (Rows.fnExactTernFlowSpec.post enc Try.prog Try.f4 false true false false) := by
  refine returnsInHanded_of_change (C := Try.checked) own started (by kernel_rfl) Try.func4
    (ChangeSpec.witness6 (enc := enc) (C := Try.checked) false ⟨#[], #[.agg #[.int .i64 0, .int .i64 0, .int .i64 0, .int .i64 0, .int .i64 0, .bool false, .int .i64 0, .bool false, .slice none 0 0]], []⟩ 8 (by kernel_rfl) (by kernel_rfl) (by kernel_rfl) (by kernel_rfl)) ?_
  intro W base args ds gs before hval0 hW hcnd _
  have hval : ∀ (j : Nat) t v, Try.f4.params[j]? = some t → args[j]? = some v → Value.okWide Try.prog W .any base t v := hval0
  have hW' := hW
  obtain ⟨p, q, hA0, hV, rfl, hfz, hnd⟩ := hW
  have hA : DataW.TrodAll enc Try.prog W 0 (fun _ => true) true Try.f4.params.toList args.toList ds p := hA0
  rw [Try.params4] at hA hval
  obtain ⟨v0, vs0, d0, ds0, p0, q0, hargs, rfl, rfl, h0, r0⟩ := trodAll_cons hA
  obtain ⟨rfl, rfl, rfl⟩ := trodAll_nil r0
  obtain rfl : args = #[v0] := by cases args; simp_all
  obtain ⟨rfl, rfl⟩ := trodVars_none hV
  obtain ⟨fu0, t0⟩ := h0
  obtain ⟨cs0, rfl, -⟩ := okWide_struct Try.underlying30 (hval 0 30 v0 rfl rfl)
  obtain ⟨x0, o0⟩ := opens_30 H enc W fu0 cs0.toList _ t0
  refine (c_laws_FnExactTernFlow W x0 cs0.toList o0).mono fun e W' ⟨rv, he, hv, hb⟩ => ?_
  subst he; subst hv
  exact ⟨_, rfl, law_post rfl hW' hb rfl Try.underlying4 rfl rfl rfl laid (by decide +kernel)⟩
/-- the statement -/
theorem proved_FnExactTernFlow : Rows.FnExactTernFlowSaid :=
  OpenClaim.holds_of_wide 4 Try.f4 rfl rfl rfl rfl rfl rfl rfl ⟨rfl, rfl, rfl, rfl, rfl⟩ rfl rfl rfl rfl rfl (by kernel_rfl) Try.func4 (by kernel_rfl)
    (of_decide_eq_true (by kernel_rfl)) (by unfold Func.isWrapper; first | (rw [if_pos (by decide +kernel)]; kernel_rfl) | (rw [if_neg (by decide +kernel)]; exact ⟨rfl, rfl⟩))
    (fun os started H enc _ => lifted_FnExactTernFlow os started H enc)
#print axioms proved_FnExactTernFlow
end Go.Proofs.Ytjobanclhkjniaa
