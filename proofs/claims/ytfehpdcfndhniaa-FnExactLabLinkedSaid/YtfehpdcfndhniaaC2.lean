/- FnExactLabLinked: the program's function answers as the reference's, for all arguments. -/
import Derived.Test.YtfehpdcfndhniaaRows
import Derived.Test.YtfehpdcfndhniaaP1
namespace Go.Proofs.Ytfehpdcfndhniaa
open Go.RowKit Go.ChangeShapes Go.WideShapes Go.ChangeAt
set_option maxRecDepth 100000
set_option linter.unusedSimpArgs false
set_option linter.unusedVariables false
theorem agg_38 : aggOf Try.prog 38 = some true := by kernel_rfl
theorem size_38 : (Try.prog.info? 38).map (·.size) = some 2 := by kernel_rfl
/-- laws.FnExactLabLinked -/
theorem c_laws_FnExactLabLinked (w : World) (aN : LabNet) (cs_aN : List Value) (h_aN : rpLabNet.rd w cs_aN aN) (aA : Int) (aB : Int) :
    Calls Try.prog 5 #[.agg cs_aN.toArray, .int .i64 aA, .int .i64 aB] w fun e w' => ∃ rv, e = .returned rv ∧ (rv = .bool true ∧ Below w.heap.size w w') := by
  obtain ⟨a_aN_Links, c_aN_Links, a_aN_Boxes, c_aN_Boxes, rfl, h_aN_Links, h_aN_Boxes⟩ := h_aN
  refine enter [(0, .agg #[.slice a_aN_Links aN.Links.length c_aN_Links, .slice a_aN_Boxes aN.Boxes.length c_aN_Boxes]), (1, .int .i64 aA), (2, .int .i64 aB)] Try.func5 rfl (by kernel_rfl) (by kernel_rfl) ?_
  have e0 := brefl w
  refine GC.seq ?_
  refine GC.reg 2 [RB 0 38 [.slice a_aN_Links aN.Links.length c_aN_Links, .slice a_aN_Boxes aN.Boxes.length c_aN_Boxes], W (.bool false)] mixed (fun vs w => by kernel_rfl) (⟨fun vs lo hi wx hB hK => Out.box rfl, trivial⟩) ?_
  rintro vs1 lo1 hi1 w1 hU1
  have e2 := btr e0 hU1.1
  obtain ⟨⟨hv1_0, hp1_0, hb1_0⟩, hl1_0, -, -⟩ := hU1.2.1 0 _ rfl trivial
  have hl1_0b := Nat.le_trans e0.size hl1_0
  refine Rest.nil (GQ.sub [(1, .int .i64 aA), (2, .int .i64 aB), (3, .pointer (some ⟨(lo1 0), 0, none⟩))] (by rw [← hv1_0]; kernel_rfl) ?_)
  refine GQ.on ?_
  refine GC.seq ?_
  refine GC.regW [W (.int .i64 1048576)] [(1, .int .i64 aA), (2, .int .i64 aB), (3, .pointer (some ⟨(lo1 0), 0, none⟩)), (7, .int .i64 1048576)] mixed rfl (fun vs w => by kernel_rfl) rfl (fun vs => by kernel_rfl) ?_
  refine GQ.on ?_
  refine GC.seq ?_
  refine GC.reg 4 [D (.agg #[.slice a_aN_Links aN.Links.length c_aN_Links, .slice a_aN_Boxes aN.Boxes.length c_aN_Boxes]), W (.int .i64 1048576), D (.int .i64 (szR (szN_LabNet aN) 1048576)), W (.int .i64 (szR (szN_LabNet aN) 1048576))] mixed (fun vs w => by kernel_rfl) (⟨fun vs lo hi wx hB hK => Out.loadA rfl agg_38 size_38 ((hb1_0.to hB).has 0 _ rfl), fun vs lo hi wx hB hK => Out.call (by kernel_rfl) (c_laws_szLabNet _ aN ([.slice a_aN_Links aN.Links.length c_aN_Links, .slice a_aN_Boxes aN.Boxes.length c_aN_Boxes]) (show rpLabNet.rd _ _ _ from ⟨_, _, _, _, rfl, h_aN_Links.below (btr e2 hB), h_aN_Boxes.below (btr e2 hB)⟩) 1048576 (by omega)) (fun _ _ h => h), trivial⟩) ?_
  rintro vs3 lo3 hi3 w3 hU3
  have e4 := btr e2 hU3.1
  replace hb1_0 := hb1_0.to hU3.1
  refine Rest.nil (GQ.sub [(1, .int .i64 aA), (2, .int .i64 aB), (3, .pointer (some ⟨(lo1 0), 0, none⟩)), (7, .int .i64 (szR (szN_LabNet aN) 1048576))] (by kernel_rfl) ?_)
  refine GQ.on ?_
  refine GC.seq ?_
  refine GC.seq ?_
  refine GC.regW [W (.int .i64 (szR (szN_LabNet aN) 1048576)), W (.bool (decide ((szR (szN_LabNet aN) 1048576) < (0 : Int))))] [(1, .int .i64 aA), (2, .int .i64 aB), (3, .pointer (some ⟨(lo1 0), 0, none⟩)), (15, .bool (decide ((szR (szN_LabNet aN) 1048576) < (0 : Int))))] mixed rfl (fun vs w => by kernel_rfl) rfl (fun vs => by kernel_rfl) ?_
  refine GQ.on ?_
  refine GC.cond (decide ((szR (szN_LabNet aN) 1048576) < (0 : Int))) rfl (fun hc0 => ?_) (fun hc0 => ?_)
  · skip
    have hc0' := hc0
    try simp at hc0'
    refine GC.seq ?_
    refine GC.regW [W (.bool true)] [(6, .bool true)] mixed rfl (fun vs w => by kernel_rfl) rfl (fun vs => by kernel_rfl) ?_
    refine GQ.on ?_
    refine GC.ret ?_
    refine GQ.passRet ?_
    refine GQ.ret1 (.bool true) rfl rfl ?_
    exact ⟨_, rfl, rfl, e4⟩
  · skip
    have hc0' := hc0
    try simp at hc0'
    have hD := sz_LabNet (by simpa using hc0)
    refine GC.skip ?_
    refine GQ.on ?_
    refine GC.seq ?_
    refine GC.reg 6 [D (.agg #[.slice a_aN_Links aN.Links.length c_aN_Links, .slice a_aN_Boxes aN.Boxes.length c_aN_Boxes]), RFS 1 rpLabNet aN, W (.int .i64 aA), W (.int .i64 aB), D (.bool (f_spec_LabLinked aN aA aB)), W (.bool (f_spec_LabLinked aN aA aB))] mixed (fun vs w => by kernel_rfl) (⟨fun vs lo hi wx hB hK => Out.loadA rfl agg_38 size_38 ((hb1_0.to hB).has 0 _ rfl), fun vs lo hi wx hB hK => Out.call (by kernel_rfl) (c_laws_toLabNet _ aN ([.slice a_aN_Links aN.Links.length c_aN_Links, .slice a_aN_Boxes aN.Boxes.length c_aN_Boxes]) (show rpLabNet.rd _ _ _ from ⟨_, _, _, _, rfl, h_aN_Links.below (btr e4 hB), h_aN_Boxes.below (btr e4 hB)⟩) (by first | assumption | omega)) (fun _ _ h => h), fun vs lo hi wx hB hK => (by obtain ⟨cs_r1, fp_r1, hv_r1, ho_r1, -⟩ := (hK 1 _ rfl trivial (by kernel_rfl)).1; refine Out.callR (f := 25) (args := #[vs 1, .int .i64 aA, .int .i64 aB]) (by kernel_rfl) ?_; rw [hv_r1]; exact (c_spec_LabLinked _ aN cs_r1 (rpLabNet.own_rd ho_r1) aA aB)), trivial⟩) ?_
    rintro vs5 lo5 hi5 w5 hU5
    have hlt6 := hb1_0.lt
    have e7 := btr e4 hU5.1
    replace hb1_0 := hb1_0.to hU5.1
    obtain ⟨⟨cs5_1, fp5_1, hv5_1, hO5_1, hf5_1⟩, hl5_1, -, -⟩ := hU5.2.1 1 _ rfl trivial
    have s5_1 := hO5_1
    obtain ⟨a5_1_0, c5_1_0, f5_1_0, a5_1_1, c5_1_1, f5_1_1, rfl, hO5_1_0, hO5_1_1, hfq5_1, hnd5_1⟩ := hO5_1
    subst hfq5_1
    have hf5_1_0 := (low_l hf5_1)
    have hf5_1_1 := (low_r hf5_1)
    have hsp8 := sep_lo hf5_1_0 (Nat.lt_of_lt_of_le hlt6 hl5_1)
    have hsp9 := sep_lo hf5_1_1 (Nat.lt_of_lt_of_le hlt6 hl5_1)
    have hsp10 := sep_lo hf5_1 (Nat.lt_of_lt_of_le hlt6 hl5_1)
    have hl5_1b := Nat.le_trans e4.size hl5_1
    have hlo11 := low_of hf5_1_0 hl5_1b
    have hlo12 := low_of hf5_1_1 hl5_1b
    have hlo13 := low_of hf5_1 hl5_1b
    refine Rest.nil (GQ.sub [(1, .int .i64 aA), (2, .int .i64 aB), (3, .pointer (some ⟨(lo1 0), 0, none⟩)), (8, .bool (f_spec_LabLinked aN aA aB))] (by kernel_rfl) ?_)
    refine GQ.on ?_
    refine GC.seq ?_
    refine GC.reg 3 [D (.agg #[.slice a_aN_Links aN.Links.length c_aN_Links, .slice a_aN_Boxes aN.Boxes.length c_aN_Boxes]), RFS 1 rpLabNet aN, RB 2 27 [.slice none 0 0, .slice none 0 0]] mixed (fun vs w => by kernel_rfl) (⟨fun vs lo hi wx hB hK => Out.loadA rfl agg_38 size_38 ((hb1_0.to hB).has 0 _ rfl), fun vs lo hi wx hB hK => Out.call (by kernel_rfl) (c_laws_toLabNet _ aN ([.slice a_aN_Links aN.Links.length c_aN_Links, .slice a_aN_Boxes aN.Boxes.length c_aN_Boxes]) (show rpLabNet.rd _ _ _ from ⟨_, _, _, _, rfl, h_aN_Links.below (btr e7 hB), h_aN_Boxes.below (btr e7 hB)⟩) (by first | assumption | omega)) (fun _ _ h => h), fun vs lo hi wx hB hK => Out.alloc (z := .agg #[.slice none 0 0, .slice none 0 0]) (by kernel_rfl) rfl, trivial⟩) ?_
    rintro vs14 lo14 hi14 w14 hU14
    have hlt15 := hb1_0.lt
    have hlt16 := hO5_1_0.lt
    have hlt17 := hO5_1_1.lt
    have hlt18 := rpLabNet.own_lt s5_1
    have e19 := btr e7 hU14.1
    replace hb1_0 := hb1_0.to hU14.1
    replace hO5_1_0 := hO5_1_0.below hU14.1
    replace hO5_1_1 := hO5_1_1.below hU14.1
    replace s5_1 := Rp.own_below (r := rpLabNet) s5_1 hU14.1
    obtain ⟨⟨cs14_1, fp14_1, hv14_1, hO14_1, hf14_1⟩, hl14_1, -, -⟩ := hU14.2.1 1 _ rfl trivial
    have s14_1 := hO14_1
    obtain ⟨a14_1_0, c14_1_0, f14_1_0, a14_1_1, c14_1_1, f14_1_1, rfl, hO14_1_0, hO14_1_1, hfq14_1, hnd14_1⟩ := hO14_1
    subst hfq14_1
    have hf14_1_0 := (low_l hf14_1)
    have hf14_1_1 := (low_r hf14_1)
    have hsp20 := sep_lo hf14_1_0 (Nat.lt_of_lt_of_le hlt15 hl14_1)
    have hds21 := dis_new hlt16 hf14_1_0 hl14_1
    have hds22 := dis_new hlt17 hf14_1_0 hl14_1
    have hds23 := dis_new hlt18 hf14_1_0 hl14_1
    have hsp24 := sep_lo hf14_1_1 (Nat.lt_of_lt_of_le hlt15 hl14_1)
    have hds25 := dis_new hlt16 hf14_1_1 hl14_1
    have hds26 := dis_new hlt17 hf14_1_1 hl14_1
    have hds27 := dis_new hlt18 hf14_1_1 hl14_1
    have hsp28 := sep_lo hf14_1 (Nat.lt_of_lt_of_le hlt15 hl14_1)
    have hds29 := dis_new hlt16 hf14_1 hl14_1
    have hds30 := dis_new hlt17 hf14_1 hl14_1
    have hds31 := dis_new hlt18 hf14_1 hl14_1
    have hl14_1b := Nat.le_trans e7.size hl14_1
    have hlo32 := low_of hf14_1_0 hl14_1b
    have hlo33 := low_of hf14_1_1 hl14_1b
    have hlo34 := low_of hf14_1 hl14_1b
    obtain ⟨⟨hv14_2, hp14_2, hb14_2⟩, hl14_2, -, -⟩ := hU14.2.1 2 _ rfl trivial
    have hne35 := Nat.ne_of_lt (Nat.lt_of_lt_of_le hlt15 hl14_2)
    have hsp36 := sep_lt hlt16 hl14_2
    have hsp37 := sep_lt hlt17 hl14_2
    have hsp38 := sep_lt hlt18 hl14_2
    have hd39 := hU14.2.2.1 1 2 _ _ rfl rfl trivial trivial (by decide)
    have hsp40 := sep_dis hf14_1_0 hd39 hp14_2
    have hsp41 := sep_dis hf14_1_1 hd39 hp14_2
    have hsp42 := sep_dis hf14_1 hd39 hp14_2
    have hl14_2b := Nat.le_trans e7.size hl14_2
    refine Rest.sub [(1, .int .i64 aA), (2, .int .i64 aB), (3, .pointer (some ⟨(lo1 0), 0, none⟩)), (8, .bool (f_spec_LabLinked aN aA aB)), (9, .pointer (some ⟨(lo14 2), 0, none⟩)), (22, .agg #[.slice a14_1_0 aN.Links.length c14_1_0, .slice a14_1_1 aN.Boxes.length c14_1_1])] (by rw [← hv14_1, ← hv14_2]; kernel_rfl) ?_
    refine Rest.store [.slice a14_1_0 aN.Links.length c14_1_0, .slice a14_1_1 aN.Boxes.length c14_1_1] [.slice a14_1_0 aN.Links.length c14_1_0, .slice a14_1_1 aN.Boxes.length c14_1_1] rfl rfl hb14_2 size_27 rfl rfl rfl ?_
    intro w43 hC44 hb45
    have e46 := bchg1 e19 (Nat.le_refl _) hC44 hl14_2b
    replace hb1_0 := hb1_0.chg hC44 hne35
    replace hO5_1_0 := hO5_1_0.chg hC44 hsp36
    replace hO5_1_1 := hO5_1_1.chg hC44 hsp37
    replace hO14_1_0 := hO14_1_0.chg hC44 hsp40
    replace hO14_1_1 := hO14_1_1.chg hC44 hsp41
    replace s5_1 := Rp.own_chg (r := rpLabNet) s5_1 hC44 hsp38
    replace s14_1 := Rp.own_chg (r := rpLabNet) s14_1 hC44 hsp42
    refine Rest.nil (GQ.sub [(1, .int .i64 aA), (2, .int .i64 aB), (3, .pointer (some ⟨(lo1 0), 0, none⟩)), (8, .bool (f_spec_LabLinked aN aA aB)), (9, .pointer (some ⟨(lo14 2), 0, none⟩))] (by kernel_rfl) ?_)
    refine GQ.on ?_
    refine GC.seq ?_
    refine GC.reg 5 [D (.agg #[.slice a14_1_0 aN.Links.length c14_1_0, .slice a14_1_1 aN.Boxes.length c14_1_1]), W (.int .i64 aA), W (.int .i64 aB), D (.bool (f_impl_LabLinked aN aA aB)), W (.bool (f_impl_LabLinked aN aA aB))] mixed (fun vs w => by kernel_rfl) (⟨fun vs lo hi wx hB hK => Out.loadA rfl agg_27 size_27 ((hb45.to hB).has 0 _ rfl), fun vs lo hi wx hB hK => Out.call (by kernel_rfl) (c_impl_LabLinked _ aN ([.slice a14_1_0 aN.Links.length c14_1_0, .slice a14_1_1 aN.Boxes.length c14_1_1]) (show rpLabNet.rd _ _ _ from ⟨_, _, _, _, rfl, (hO14_1_0.below hB).read, (hO14_1_1.below hB).read⟩) aA aB) (fun _ _ h => h), trivial⟩) ?_
    rintro vs47 lo47 hi47 w47 hU47
    have e48 := btr e46 hU47.1
    replace hb1_0 := hb1_0.to hU47.1
    replace hb45 := hb45.to hU47.1
    replace hO5_1_0 := hO5_1_0.below hU47.1
    replace hO5_1_1 := hO5_1_1.below hU47.1
    replace hO14_1_0 := hO14_1_0.below hU47.1
    replace hO14_1_1 := hO14_1_1.below hU47.1
    replace s5_1 := Rp.own_below (r := rpLabNet) s5_1 hU47.1
    replace s14_1 := Rp.own_below (r := rpLabNet) s14_1 hU47.1
    refine Rest.nil (GQ.sub [(3, .pointer (some ⟨(lo1 0), 0, none⟩)), (8, .bool (f_spec_LabLinked aN aA aB)), (9, .pointer (some ⟨(lo14 2), 0, none⟩)), (10, .bool (f_impl_LabLinked aN aA aB))] (by kernel_rfl) ?_)
    refine GQ.on ?_
    refine GC.seq ?_
    refine GC.seq ?_
    refine GC.regW [W (.bool (f_impl_LabLinked aN aA aB)), W (.bool (f_spec_LabLinked aN aA aB)), W (.bool ((f_impl_LabLinked aN aA aB) != (f_spec_LabLinked aN aA aB)))] [(3, .pointer (some ⟨(lo1 0), 0, none⟩)), (9, .pointer (some ⟨(lo14 2), 0, none⟩)), (29, .bool ((f_impl_LabLinked aN aA aB) != (f_spec_LabLinked aN aA aB)))] mixed rfl (fun vs w => by kernel_rfl) rfl (fun vs => by kernel_rfl) ?_
    refine GQ.on ?_
    refine GC.cond ((f_impl_LabLinked aN aA aB) != (f_spec_LabLinked aN aA aB)) rfl (fun hc1 => ?_) (fun hc1 => ?_)
    · skip
      exact absurd hc1 (by simp [labLinked_eq])
    · skip
      have hc1' := hc1
      try simp at hc1'
      refine GC.skip ?_
      refine GQ.on ?_
      refine GC.seq ?_
      refine GC.seq ?_
      refine GC.reg 5 [D (.agg #[.slice a14_1_0 aN.Links.length c14_1_0, .slice a14_1_1 aN.Boxes.length c14_1_1]), D (.agg #[.slice a_aN_Links aN.Links.length c_aN_Links, .slice a_aN_Boxes aN.Boxes.length c_aN_Boxes]), RFS 2 rpLabNet aN, D (.bool (decide (aN = aN))), W (.bool (!(decide (aN = aN))))] mixed (fun vs w => by kernel_rfl) (⟨fun vs lo hi wx hB hK => Out.loadA rfl agg_27 size_27 ((hb45.to hB).has 0 _ rfl), fun vs lo hi wx hB hK => Out.loadA rfl agg_38 size_38 ((hb1_0.to hB).has 0 _ rfl), fun vs lo hi wx hB hK => Out.call (by kernel_rfl) (c_laws_toLabNet _ aN ([.slice a_aN_Links aN.Links.length c_aN_Links, .slice a_aN_Boxes aN.Boxes.length c_aN_Boxes]) (show rpLabNet.rd _ _ _ from ⟨_, _, _, _, rfl, h_aN_Links.below (btr e48 hB), h_aN_Boxes.below (btr e48 hB)⟩) (by first | assumption | omega)) (fun _ _ h => h), fun vs lo hi wx hB hK => (by obtain ⟨cs_r2, fp_r2, hv_r2, ho_r2, -⟩ := (hK 2 _ rfl trivial (by kernel_rfl)).1; refine Out.callR (f := 16) (args := #[.agg #[.slice a14_1_0 aN.Links.length c14_1_0, .slice a14_1_1 aN.Boxes.length c14_1_1], vs 2]) (by kernel_rfl) ?_; rw [hv_r2]; exact (c_laws_eqLabNet _ aN ([.slice a14_1_0 aN.Links.length c14_1_0, .slice a14_1_1 aN.Boxes.length c14_1_1]) (show rpLabNet.rd _ _ _ from ⟨_, _, _, _, rfl, (hO14_1_0.below hB).read, (hO14_1_1.below hB).read⟩) aN cs_r2 (rpLabNet.own_rd ho_r2))), trivial⟩) ?_
      rintro vs49 lo49 hi49 w49 hU49
      have hlt50 := hb1_0.lt
      have hlt51 := hb45.lt
      have hlt52 := hO5_1_0.lt
      have hlt53 := hO5_1_1.lt
      have hlt54 := hO14_1_0.lt
      have hlt55 := hO14_1_1.lt
      have hlt56 := rpLabNet.own_lt s5_1
      have hlt57 := rpLabNet.own_lt s14_1
      have e58 := btr e48 hU49.1
      replace hb1_0 := hb1_0.to hU49.1
      replace hb45 := hb45.to hU49.1
      replace hO5_1_0 := hO5_1_0.below hU49.1
      replace hO5_1_1 := hO5_1_1.below hU49.1
      replace hO14_1_0 := hO14_1_0.below hU49.1
      replace hO14_1_1 := hO14_1_1.below hU49.1
      replace s5_1 := Rp.own_below (r := rpLabNet) s5_1 hU49.1
      replace s14_1 := Rp.own_below (r := rpLabNet) s14_1 hU49.1
      obtain ⟨⟨cs49_2, fp49_2, hv49_2, hO49_2, hf49_2⟩, hl49_2, -, -⟩ := hU49.2.1 2 _ rfl trivial
      have s49_2 := hO49_2
      obtain ⟨a49_2_0, c49_2_0, f49_2_0, a49_2_1, c49_2_1, f49_2_1, rfl, hO49_2_0, hO49_2_1, hfq49_2, hnd49_2⟩ := hO49_2
      subst hfq49_2
      have hf49_2_0 := (low_l hf49_2)
      have hf49_2_1 := (low_r hf49_2)
      have hsp59 := sep_lo hf49_2_0 (Nat.lt_of_lt_of_le hlt50 hl49_2)
      have hsp60 := sep_lo hf49_2_0 (Nat.lt_of_lt_of_le hlt51 hl49_2)
      have hds61 := dis_new hlt52 hf49_2_0 hl49_2
      have hds62 := dis_new hlt53 hf49_2_0 hl49_2
      have hds63 := dis_new hlt54 hf49_2_0 hl49_2
      have hds64 := dis_new hlt55 hf49_2_0 hl49_2
      have hds65 := dis_new hlt56 hf49_2_0 hl49_2
      have hds66 := dis_new hlt57 hf49_2_0 hl49_2
      have hsp67 := sep_lo hf49_2_1 (Nat.lt_of_lt_of_le hlt50 hl49_2)
      have hsp68 := sep_lo hf49_2_1 (Nat.lt_of_lt_of_le hlt51 hl49_2)
      have hds69 := dis_new hlt52 hf49_2_1 hl49_2
      have hds70 := dis_new hlt53 hf49_2_1 hl49_2
      have hds71 := dis_new hlt54 hf49_2_1 hl49_2
      have hds72 := dis_new hlt55 hf49_2_1 hl49_2
      have hds73 := dis_new hlt56 hf49_2_1 hl49_2
      have hds74 := dis_new hlt57 hf49_2_1 hl49_2
      have hsp75 := sep_lo hf49_2 (Nat.lt_of_lt_of_le hlt50 hl49_2)
      have hsp76 := sep_lo hf49_2 (Nat.lt_of_lt_of_le hlt51 hl49_2)
      have hds77 := dis_new hlt52 hf49_2 hl49_2
      have hds78 := dis_new hlt53 hf49_2 hl49_2
      have hds79 := dis_new hlt54 hf49_2 hl49_2
      have hds80 := dis_new hlt55 hf49_2 hl49_2
      have hds81 := dis_new hlt56 hf49_2 hl49_2
      have hds82 := dis_new hlt57 hf49_2 hl49_2
      have hl49_2b := Nat.le_trans e48.size hl49_2
      have hlo83 := low_of hf49_2_0 hl49_2b
      have hlo84 := low_of hf49_2_1 hl49_2b
      have hlo85 := low_of hf49_2 hl49_2b
      refine Rest.nil (GQ.sub [(34, .bool (!(decide (aN = aN))))] (by kernel_rfl) ?_)
      refine GQ.on ?_
      refine GC.cond (!(decide (aN = aN))) rfl (fun hc2 => ?_) (fun hc2 => ?_)
      · skip
        exact absurd hc2 (by simp)
      · skip
        have hc2' := hc2
        try simp at hc2'
        refine GC.skip ?_
        refine GQ.on ?_
        refine GC.seq ?_
        refine GC.regW [W (.bool true)] [(6, .bool true)] mixed rfl (fun vs w => by kernel_rfl) rfl (fun vs => by kernel_rfl) ?_
        refine GQ.on ?_
        refine GC.ret ?_
        refine GQ.ret1 (.bool true) rfl rfl ?_
        exact ⟨_, rfl, rfl, e58⟩
theorem opens_3 : Opens Try.prog 3 rpInt := Opens.int Try.underlying3
theorem opens_74 : Opens Try.prog 74 rpLabLink := by
  intro H enc W fuel cs y h
  obtain ⟨hl, hf⟩ := trod_struct Try.underlying74 h
  have hn : Try.prog.cellsOf 74 = 2 := by kernel_rfl
  rw [hn] at hl
  obtain ⟨c0, cs0, rfl⟩ : ∃ c r, cs = c :: r := by cases cs with | nil => simp at hl | cons a b => exact ⟨a, b, rfl⟩
  obtain ⟨c1, cs1, rfl⟩ : ∃ c r, cs0 = c :: r := by cases cs0 with | nil => simp at hl | cons a b => exact ⟨a, b, rfl⟩
  obtain rfl : cs1 = [] := by simpa using hl
  obtain ⟨n0, z0, g0⟩ := hf 0 _ rfl
  have g0 : DataW.trod enc Try.prog W 0 (fun _ => true) true n0 3 [c0] = some z0 := g0
  obtain ⟨x0, e0⟩ := opens_3 H enc W n0 [c0] z0 g0
  have u0_0 := (List.cons.inj e0).1
  subst u0_0
  obtain ⟨n1, z1, g1⟩ := hf 1 _ rfl
  have g1 : DataW.trod enc Try.prog W 0 (fun _ => true) true n1 3 [c1] = some z1 := g1
  obtain ⟨x1, e1⟩ := opens_3 H enc W n1 [c1] z1 g1
  have u1_0 := (List.cons.inj e1).1
  subst u1_0
  exact ⟨⟨x0, x1⟩, rfl⟩
theorem opens_22 : Opens Try.prog 22 (Rp.slice rpLabLink) := Opens.slice Try.underlying22 opens_74 (by kernel_rfl) (by decide)
theorem opens_162 : Opens Try.prog 162 rpLabRow := by
  intro H enc W fuel cs y h
  obtain ⟨hl, hf⟩ := trod_struct Try.underlying162 h
  have hn : Try.prog.cellsOf 162 = 3 := by kernel_rfl
  rw [hn] at hl
  obtain ⟨c0, cs0, rfl⟩ : ∃ c r, cs = c :: r := by cases cs with | nil => simp at hl | cons a b => exact ⟨a, b, rfl⟩
  obtain ⟨c1, cs1, rfl⟩ : ∃ c r, cs0 = c :: r := by cases cs0 with | nil => simp at hl | cons a b => exact ⟨a, b, rfl⟩
  obtain ⟨c2, cs2, rfl⟩ : ∃ c r, cs1 = c :: r := by cases cs1 with | nil => simp at hl | cons a b => exact ⟨a, b, rfl⟩
  obtain rfl : cs2 = [] := by simpa using hl
  obtain ⟨n0, z0, g0⟩ := hf 0 _ rfl
  have g0 : DataW.trod enc Try.prog W 0 (fun _ => true) true n0 3 [c0] = some z0 := g0
  obtain ⟨x0, e0⟩ := opens_3 H enc W n0 [c0] z0 g0
  have u0_0 := (List.cons.inj e0).1
  subst u0_0
  obtain ⟨n1, z1, g1⟩ := hf 1 _ rfl
  have g1 : DataW.trod enc Try.prog W 0 (fun _ => true) true n1 3 [c1] = some z1 := g1
  obtain ⟨x1, e1⟩ := opens_3 H enc W n1 [c1] z1 g1
  have u1_0 := (List.cons.inj e1).1
  subst u1_0
  obtain ⟨n2, z2, g2⟩ := hf 2 _ rfl
  have g2 : DataW.trod enc Try.prog W 0 (fun _ => true) true n2 3 [c2] = some z2 := g2
  obtain ⟨x2, e2⟩ := opens_3 H enc W n2 [c2] z2 g2
  have u2_0 := (List.cons.inj e2).1
  subst u2_0
  exact ⟨⟨x0, x1, x2⟩, rfl⟩
theorem opens_112 : Opens Try.prog 112 (Rp.slice rpLabRow) := Opens.slice Try.underlying112 opens_162 (by kernel_rfl) (by decide)
theorem opens_164 : Opens Try.prog 164 rpLabVia := by
  intro H enc W fuel cs y h
  obtain ⟨hl, hf⟩ := trod_struct Try.underlying164 h
  have hn : Try.prog.cellsOf 164 = 3 := by kernel_rfl
  rw [hn] at hl
  obtain ⟨c0, cs0, rfl⟩ : ∃ c r, cs = c :: r := by cases cs with | nil => simp at hl | cons a b => exact ⟨a, b, rfl⟩
  obtain ⟨c1, cs1, rfl⟩ : ∃ c r, cs0 = c :: r := by cases cs0 with | nil => simp at hl | cons a b => exact ⟨a, b, rfl⟩
  obtain ⟨c2, cs2, rfl⟩ : ∃ c r, cs1 = c :: r := by cases cs1 with | nil => simp at hl | cons a b => exact ⟨a, b, rfl⟩
  obtain rfl : cs2 = [] := by simpa using hl
  obtain ⟨n0, z0, g0⟩ := hf 0 _ rfl
  have g0 : DataW.trod enc Try.prog W 0 (fun _ => true) true n0 3 [c0] = some z0 := g0
  obtain ⟨x0, e0⟩ := opens_3 H enc W n0 [c0] z0 g0
  have u0_0 := (List.cons.inj e0).1
  subst u0_0
  obtain ⟨n1, z1, g1⟩ := hf 1 _ rfl
  have g1 : DataW.trod enc Try.prog W 0 (fun _ => true) true n1 3 [c1] = some z1 := g1
  obtain ⟨x1, e1⟩ := opens_3 H enc W n1 [c1] z1 g1
  have u1_0 := (List.cons.inj e1).1
  subst u1_0
  obtain ⟨n2, z2, g2⟩ := hf 2 _ rfl
  have g2 : DataW.trod enc Try.prog W 0 (fun _ => true) true n2 3 [c2] = some z2 := g2
  obtain ⟨x2, e2⟩ := opens_3 H enc W n2 [c2] z2 g2
  have u2_0 := (List.cons.inj e2).1
  subst u2_0
  exact ⟨⟨x0, x1, x2⟩, rfl⟩
theorem opens_113 : Opens Try.prog 113 (Rp.slice rpLabVia) := Opens.slice Try.underlying113 opens_164 (by kernel_rfl) (by decide)
theorem opens_115 : Opens Try.prog 115 rpLabBox := by
  intro H enc W fuel cs y h
  obtain ⟨hl, hf⟩ := trod_struct Try.underlying115 h
  have hn : Try.prog.cellsOf 115 = 2 := by kernel_rfl
  rw [hn] at hl
  obtain ⟨c0, cs0, rfl⟩ : ∃ c r, cs = c :: r := by cases cs with | nil => simp at hl | cons a b => exact ⟨a, b, rfl⟩
  obtain ⟨c1, cs1, rfl⟩ : ∃ c r, cs0 = c :: r := by cases cs0 with | nil => simp at hl | cons a b => exact ⟨a, b, rfl⟩
  obtain rfl : cs1 = [] := by simpa using hl
  obtain ⟨n0, z0, g0⟩ := hf 0 _ rfl
  have g0 : DataW.trod enc Try.prog W 0 (fun _ => true) true n0 112 [c0] = some z0 := g0
  obtain ⟨x0, a0_0, b0_0, e0, s0_0⟩ := opens_112 H enc W n0 [c0] z0 g0
  have u0_0 := (List.cons.inj e0).1
  subst u0_0
  obtain ⟨n1, z1, g1⟩ := hf 1 _ rfl
  have g1 : DataW.trod enc Try.prog W 0 (fun _ => true) true n1 113 [c1] = some z1 := g1
  obtain ⟨x1, a1_0, b1_0, e1, s1_0⟩ := opens_113 H enc W n1 [c1] z1 g1
  have u1_0 := (List.cons.inj e1).1
  subst u1_0
  exact ⟨⟨x0, x1⟩, _, _, _, _, rfl, s0_0, s1_0⟩
theorem opens_36 : Opens Try.prog 36 (Rp.slice rpLabBox) := Opens.slice Try.underlying36 opens_115 (by kernel_rfl) (by decide)
theorem opens_38 : Opens Try.prog 38 rpLabNet := by
  intro H enc W fuel cs y h
  obtain ⟨hl, hf⟩ := trod_struct Try.underlying38 h
  have hn : Try.prog.cellsOf 38 = 2 := by kernel_rfl
  rw [hn] at hl
  obtain ⟨c0, cs0, rfl⟩ : ∃ c r, cs = c :: r := by cases cs with | nil => simp at hl | cons a b => exact ⟨a, b, rfl⟩
  obtain ⟨c1, cs1, rfl⟩ : ∃ c r, cs0 = c :: r := by cases cs0 with | nil => simp at hl | cons a b => exact ⟨a, b, rfl⟩
  obtain rfl : cs1 = [] := by simpa using hl
  obtain ⟨n0, z0, g0⟩ := hf 0 _ rfl
  have g0 : DataW.trod enc Try.prog W 0 (fun _ => true) true n0 22 [c0] = some z0 := g0
  obtain ⟨x0, a0_0, b0_0, e0, s0_0⟩ := opens_22 H enc W n0 [c0] z0 g0
  have u0_0 := (List.cons.inj e0).1
  subst u0_0
  obtain ⟨n1, z1, g1⟩ := hf 1 _ rfl
  have g1 : DataW.trod enc Try.prog W 0 (fun _ => true) true n1 36 [c1] = some z1 := g1
  obtain ⟨x1, a1_0, b1_0, e1, s1_0⟩ := opens_36 H enc W n1 [c1] z1 g1
  have u1_0 := (List.cons.inj e1).1
  subst u1_0
  exact ⟨⟨x0, x1⟩, _, _, _, _, rfl, s0_0, s1_0⟩
theorem own : ownKnob Try.prog.godebug = none := by kernel_rfl
theorem laid : laidOutB Try.prog = true := by kernel_rfl
set_option maxRecDepth 100000 in
theorem lifted_FnExactLabLinked (os : Os) (started : os.Started) (H : Type) (enc : TypeId × Value → H) :
    ReturnsInHanded {} Try.checked os 5 .any (Rows.fnExactLabLinkedSpec.pre6 enc Try.prog Try.f5 Rows.fnExactLabLinkedRow.domain false) (Rows.fnExactLabLinkedSpec.post enc Try.prog Try.f5 false true false false) := by
  refine returnsInHanded_of_change (C := Try.checked) own started (by kernel_rfl) Try.func5
    (ChangeSpec.witness6 (enc := enc) (C := Try.checked) false ⟨#[], #[.agg #[.slice none 0 0, .slice none 0 0], .int .i64 0, .int .i64 0], []⟩ 8 (by kernel_rfl) (by kernel_rfl) (by kernel_rfl) (by kernel_rfl)) ?_
  intro W base args ds gs before hval0 hW hcnd _
  have hval : ∀ (j : Nat) t v, Try.f5.params[j]? = some t → args[j]? = some v → Value.okWide Try.prog W .any base t v := hval0
  have hW' := hW
  obtain ⟨p, q, hA0, hV, rfl, hfz, hnd⟩ := hW
  have hA : DataW.TrodAll enc Try.prog W 0 (fun _ => true) true Try.f5.params.toList args.toList ds p := hA0
  rw [Try.params5] at hA hval
  obtain ⟨v0, vs0, d0, ds0, p0, q0, hargs, rfl, rfl, h0, r0⟩ := trodAll_cons hA
  obtain ⟨v1, vs1, d1, ds1, p1, q1, rfl, rfl, rfl, h1, r1⟩ := trodAll_cons r0
  obtain ⟨v2, vs2, d2, ds2, p2, q2, rfl, rfl, rfl, h2, r2⟩ := trodAll_cons r1
  obtain ⟨rfl, rfl, rfl⟩ := trodAll_nil r2
  obtain rfl : args = #[v0, v1, v2] := by cases args; simp_all
  obtain ⟨rfl, rfl⟩ := trodVars_none hV
  obtain ⟨fu0, t0⟩ := h0
  obtain ⟨cs0, rfl, -⟩ := okWide_struct Try.underlying38 (hval 0 38 v0 rfl rfl)
  obtain ⟨x0, o0⟩ := opens_38 H enc W fu0 cs0.toList _ t0
  obtain ⟨fu1, t1⟩ := h1
  obtain ⟨x1, rfl⟩ := okWide_int Try.underlying3 (hval 1 3 v1 rfl rfl)
  obtain ⟨fu2, t2⟩ := h2
  obtain ⟨x2, rfl⟩ := okWide_int Try.underlying3 (hval 2 3 v2 rfl rfl)
  refine (c_laws_FnExactLabLinked W x0 cs0.toList o0 x1 x2).mono fun e W' ⟨rv, he, hv, hb⟩ => ?_
  subst he; subst hv
  exact ⟨_, rfl, law_post rfl hW' hb rfl Try.underlying4 rfl rfl rfl laid (by decide +kernel)⟩
/-- the statement -/
theorem proved_FnExactLabLinked : Rows.FnExactLabLinkedSaid :=
  OpenClaim.holds_of_wide 5 Try.f5 rfl rfl rfl rfl rfl rfl rfl ⟨rfl, rfl, rfl, rfl, rfl⟩ rfl rfl rfl rfl rfl (by kernel_rfl) Try.func5 (by kernel_rfl)
    (of_decide_eq_true (by kernel_rfl)) (by unfold Func.isWrapper; first | (rw [if_pos (by decide +kernel)]; kernel_rfl) | (rw [if_neg (by decide +kernel)]; exact ⟨rfl, rfl⟩))
    (fun os started H enc _ => lifted_FnExactLabLinked os started H enc)
#print axioms proved_FnExactLabLinked
end Go.Proofs.Ytfehpdcfndhniaa
