/- The card's statement of FnExactConfCheck: for all arguments the law returns true, without further conditions. Texts put together: C38. -/
import Derived.Test.YtmoodkjkecjeaaaGreatDoorCards
import Derived.Test.YtmoodkjkecjeaaaGreatDoorTie
import Derived.Deep.DeepHandedRow
import Derived.Deep.DeepLaidRun
import Derived.JoinedCond
import Derived.Lib.LaidU8
import Derived.Test.YtmoodkjkecjeaaaGreatDoorRows
import Derived.Test.YtmoodkjkecjeaaaGreatDoorZC38E
namespace Go.Proofs.YtmoodkjkecjeaaaGreatDoor
open Go Go.RowKit Go.ChangeShapes Go.WideShapes Go.ChangeAt
set_option maxRecDepth 100000
set_option linter.unusedVariables false
theorem op_9 : OpD Tryz.prog 9 eStr := OpD.str Tryz.underlying9
theorem op_22 : OpD Tryz.prog 22 (fun xs : List ByteArray => [.l 1 eStr xs]) := OpD.slice 1 Tryz.underlying22 op_9 (fun _ => rfl) (by kernel_rfl) (by decide)
def Qrq (s : ByteArray) : List Dat := [.x (BX s 9223372036854775807)]
theorem Qww : OpD Tryz.prog 9 Qrq := fun H e W f cs y h => by
 obtain ⟨s, rfl, _, hs⟩ := DataW.trod_string Tryz.underlying9 h
 exact ⟨s, _, _, rfl, ⟨rfl, hs⟩, rfl⟩
theorem Qyr {S : Nat → Prop} {W : World} {xs : List ByteArray} {v : Value} (h : RdV S W (.l 1 Qrq xs) v) : RdV S W (.l 1 eStr xs) v ∧ ∀ k : Nat, (xs.getD k default).size ≤ 9223372036854775807 := by
 obtain ⟨a, c, e, h1, h2, h3⟩ := h
 refine ⟨⟨a, c, e, h1, h2, fun i x hx => ?_⟩, fun k => ?_⟩
 ·obtain ⟨k1, k2, cs, k3, k4, k5⟩ := h3 i x hx
  obtain ⟨u, us, rfl, ⟨k6, k7⟩, k8⟩ := k5
  exact ⟨k1, k2, _, k3, k4, u, us, rfl, ⟨k6, rfl⟩, k8⟩
 ·rw [List.getD_eq_getElem?_getD]
  cases hx : xs[k]? with
  | none => exact Nat.zero_le _
  | some x =>
   obtain ⟨k1, k2, cs, k3, k4, k5⟩ := h3 k x hx
   obtain ⟨u, us, rfl, ⟨k6, k7⟩, k8⟩ := k5
   exact k7
theorem op_M22 : OpD Tryz.prog 22 (fun xs : List ByteArray => [.l 1 Qrq xs]) := OpD.slice 1 Tryz.underlying22 Qww (fun _ => rfl) (by kernel_rfl) (by decide)
theorem own : ownKnob Tryz.prog.godebug = none := by kernel_rfl
theorem cfA : Tryz.prog.inPlace 3 = Rows.fnExactConfCheckRow.inPlace := by kernel_rfl
theorem cfB : Tryz.prog.unfollowed 3 = Rows.fnExactConfCheckRow.unfollowed := by kernel_rfl
theorem cfC : Tryz.prog.recurses 3 = Rows.fnExactConfCheckRow.recurses := by kernel_rfl
theorem cfD : Tryz.prog.varsNamed 3 = Rows.fnExactConfCheckRow.named := by kernel_rfl
set_option maxRecDepth 100000 in
def putC (cs : Array Value) : Obj → Obj
 | .cells _ t fz => .cells cs t fz
 | o => o
noncomputable def Hv (os : Os) : World :=
 let w := World.holding Tryz.prog os ⟨#[.cells #[.string ⟨#[118, 97, 108, 117, 101, 32, 111, 117, 116, 32, 111, 102, 32, 114, 97, 110, 103, 101]⟩] 140, .cells #[.string ⟨#[105, 110, 118, 97, 108, 105, 100, 32, 115, 121, 110, 116, 97, 120]⟩] 140], #[], []⟩
 { w with heap := (((((((w.heap.modify ((Tryz.prog.globalNamed "math/bits.deBruijn32tab").getD 0) (putC #[(.int .u8 0), (.int .u8 1), (.int .u8 28), (.int .u8 2), (.int .u8 29), (.int .u8 14), (.int .u8 24), (.int .u8 3), (.int .u8 30), (.int .u8 22), (.int .u8 20), (.int .u8 15), (.int .u8 25), (.int .u8 17), (.int .u8 4), (.int .u8 8), (.int .u8 31), (.int .u8 27), (.int .u8 13), (.int .u8 23), (.int .u8 21), (.int .u8 19), (.int .u8 16), (.int .u8 7), (.int .u8 26), (.int .u8 12), (.int .u8 18), (.int .u8 6), (.int .u8 11), (.int .u8 5), (.int .u8 10), (.int .u8 9)])).modify ((Tryz.prog.globalNamed "math/bits.deBruijn64tab").getD 0) (putC #[(.int .u8 0), (.int .u8 1), (.int .u8 56), (.int .u8 2), (.int .u8 57), (.int .u8 49), (.int .u8 28), (.int .u8 3), (.int .u8 61), (.int .u8 58), (.int .u8 42), (.int .u8 50), (.int .u8 38), (.int .u8 29), (.int .u8 17), (.int .u8 4), (.int .u8 62), (.int .u8 47), (.int .u8 59), (.int .u8 36), (.int .u8 45), (.int .u8 43), (.int .u8 51), (.int .u8 22), (.int .u8 53), (.int .u8 39), (.int .u8 33), (.int .u8 30), (.int .u8 24), (.int .u8 18), (.int .u8 12), (.int .u8 5), (.int .u8 63), (.int .u8 55), (.int .u8 48), (.int .u8 27), (.int .u8 60), (.int .u8 41), (.int .u8 37), (.int .u8 16), (.int .u8 46), (.int .u8 35), (.int .u8 44), (.int .u8 21), (.int .u8 52), (.int .u8 32), (.int .u8 23), (.int .u8 11), (.int .u8 54), (.int .u8 26), (.int .u8 40), (.int .u8 15), (.int .u8 34), (.int .u8 20), (.int .u8 31), (.int .u8 10), (.int .u8 25), (.int .u8 14), (.int .u8 19), (.int .u8 9), (.int .u8 13), (.int .u8 8), (.int .u8 7), (.int .u8 6)])).modify ((Tryz.prog.globalNamed "internal/strconv.uint64pow10").getD 0) (putC #[(.int .u64 1), (.int .u64 10), (.int .u64 100), (.int .u64 1000), (.int .u64 10000), (.int .u64 100000), (.int .u64 1000000), (.int .u64 10000000), (.int .u64 100000000), (.int .u64 1000000000), (.int .u64 10000000000), (.int .u64 100000000000), (.int .u64 1000000000000), (.int .u64 10000000000000), (.int .u64 100000000000000), (.int .u64 1000000000000000), (.int .u64 10000000000000000), (.int .u64 100000000000000000), (.int .u64 1000000000000000000), (.int .u64 10000000000000000000)])).modify ((Tryz.prog.globalNamed "unicode/utf8.acceptRanges").getD 0) (putC #[(.int .u8 128), (.int .u8 191), (.int .u8 160), (.int .u8 191), (.int .u8 128), (.int .u8 159), (.int .u8 144), (.int .u8 191), (.int .u8 128), (.int .u8 143), (.int .u8 0), (.int .u8 0), (.int .u8 0), (.int .u8 0), (.int .u8 0), (.int .u8 0), (.int .u8 0), (.int .u8 0), (.int .u8 0), (.int .u8 0), (.int .u8 0), (.int .u8 0), (.int .u8 0), (.int .u8 0), (.int .u8 0), (.int .u8 0), (.int .u8 0), (.int .u8 0), (.int .u8 0), (.int .u8 0), (.int .u8 0), (.int .u8 0)])).modify ((Tryz.prog.globalNamed "strconv.ErrRange").getD 0) (putC #[.iface 138 (.pointer (some ⟨Tryz.prog.low + 0, 0, none⟩))])).modify ((Tryz.prog.globalNamed "strconv.ErrSyntax").getD 0) (putC #[.iface 138 (.pointer (some ⟨Tryz.prog.low + 1, 0, none⟩))])).modify ((Tryz.prog.globalNamed "unicode/utf8.first").getD 0) (putC ((Go.Pinned.utf8FirstZ.map fun n => Value.int .u8 (n : Nat)).toArray))) }
theorem Qpp (os : Os) : laidMet Tryz.prog Rows.fnExactConfCheckRow.laid ((Hv os).forCall (fun _ _ => 0) ⟨#[], #[.slice none 0 0], []⟩).memory :=
 laidMet_of_run3 8 (by kernel_rfl) (by kernel_rfl) (by kernel_rfl)
theorem reads (os : Os) {H : Type} (enc : TypeId × Value → H) : ∃ Vs, DataW.whole enc Tryz.prog ((Hv os).forCall (fun _ _ => 0) ⟨#[], #[.slice none 0 0], []⟩).memory Tryz.f3.params.toList Rows.fnExactConfCheckSpec.vars false #[.slice none 0 0].toList 8 = some ([.nil], [], Vs) :=
 ⟨[], by kernel_rfl⟩
theorem Qgm {W : World} {l : List (String × DataW Unit)} (h : laidMet Tryz.prog l W) {n tn : String} {d : DataW Unit} (hm : (n, .iface tn d) ∈ l) {g : Nat} (hg : Tryz.prog.globalNamed n = some g) (ht : (Tryz.prog.globals[g]?).map (·.type) = some 90) :
  ∃ e, W.cell? ⟨g, 0, none⟩ = some e ∧ (e = .nilIface ∨ ∃ te pe, e = .iface te pe) := by
 obtain ⟨g', t', cs, fuel, p, h1, h2, h3, h4⟩ := Lib.laidMet.reads h hm
 obtain rfl := Option.some.inj (hg.symm.trans h1)
 obtain rfl := Option.some.inj (ht.symm.trans h2)
 have hc : ∀ i, W.cell? ⟨g, i, none⟩ = cs[i]? := fun i => by
  unfold World.var? at h3
  rw [hg] at h3
  simp only [Option.bind_some] at h3
  split at h3
  ·rename_i c _ _ hh
   simp only [Option.some.injEq] at h3
   subst h3
   simp [World.cell?, hh]
  ·cases h3
 cases fuel with
 | zero => simp [DataW.trod] at h4
 | succ fuel =>
  simp only [DataW.trod, Tryz.underlying90] at h4
  split at h4 <;> first
   | (cases h4; done)
   | (rename_i hcs; refine ⟨_, (hc 0).trans (by rw [← Array.getElem?_toList, hcs]; rfl), ?_⟩; first | exact .inl rfl | exact .inr ⟨_, _, rfl⟩)
   | (simp at h4; done)
   | (exfalso; simp_all; done)
theorem lifted (os : Os) (started : os.Started) (H : Type) (enc : TypeId × Value → H) (F : Stop.Interp) :
  ReturnsInHanded {} Tryz.checked os 3 .any ((OpenSpec.ofChange Rows.fnExactConfCheckSpec).preRow enc Tryz.prog Tryz.f3 Rows.fnExactConfCheckRow.domain false Rows.fnExactConfCheckRow.laid) (((OpenSpec.ofChange Rows.fnExactConfCheckSpec).at F).post enc Tryz.prog Tryz.f3 false true false false) := by
 obtain ⟨Vs, hx⟩ := reads os enc
 refine returnsInHanded_of_row (C := Tryz.checked) (s := OpenSpec.ofChange Rows.fnExactConfCheckSpec) own started (by kernel_rfl) Tryz.func3
  (witness_row_at (enc := enc) (C := Tryz.checked) false (Hv os) #[.slice none 0 0] rfl (by kernel_rfl) (by kernel_rfl) (by kernel_rfl)
   (OpenSpec.preRow_of_cond 8 hx (by kernel_rfl) (fun k hk => by cases hk) (by kernel_rfl) (Qpp os))) ?_
 intro W base args ds gs before hval0 hW hcnd _ _ hL hsh _
 have hL' : laidMet Tryz.prog Rows.fnExactConfCheckRow.laid W := by
  have h0 := hL
  unfold laidMetH at h0
  rw [show (Rows.fnExactConfCheckRow.laid.filter fun x => x.2.handleName?.isSome) = [] from by kernel_rfl] at h0
  exact h0
 have hval : ∀ (j : Nat) t v, Tryz.f3.params[j]? = some t → args[j]? = some v → Value.okWide Tryz.prog W .any base t v := hval0
 have hW' := hW
 obtain ⟨p, q, hA0, hV, rfl, hfz, hnd⟩ := hW
 have hA : DataW.TrodAll enc Tryz.prog W 0 (fun _ => true) true Tryz.f3.params.toList args.toList ds p := hA0
 rw [Tryz.params3] at hA hval
 obtain ⟨v0, vs0, d0, ds0, p0, q0, hargs, rfl, rfl, h0, r0⟩ := trodAll_cons hA
 obtain ⟨rfl, rfl, rfl⟩ := trodAll_nil r0
 obtain rfl : args = #[v0] := by cases args; simp_all
 obtain ⟨rfl, rfl⟩ := trodVars_none hV
 obtain ⟨fu0, t0⟩ := h0
 obtain ⟨a0, n0, c0, rfl⟩ := okWide_slice Tryz.underlying22 (hval 0 22 v0 rfl rfl)
 obtain ⟨x0, u0, us0, e0, o0, -⟩ := op_M22 H enc W fu0 _ _ t0
 obtain ⟨o0, b0⟩ := Qyr o0
 obtain rfl : u0 = _ := (List.cons.inj e0).1.symm
 have hG : GP W := ⟨fun b hb => by
  simp only [GBe, List.nil_append, List.cons_append, List.mem_cons, List.not_mem_nil, or_false] at hb
  rcases hb with rfl | rfl
  ·exact Qgm hL' (n := "strconv.ErrSyntax") (by unfold Rows.fnExactConfCheckRow; exact List.mem_cons_of_mem _ (List.mem_cons_of_mem _ (List.mem_cons_of_mem _ (List.mem_cons_of_mem _ (List.mem_cons_of_mem _ (List.mem_cons_self)))))) (show Tryz.prog.globalNamed "strconv.ErrSyntax" = some ((Tryz.prog.globalNamed "strconv.ErrSyntax").getD 0) from by kernel_rfl) (by kernel_rfl)
  ·exact Qgm hL' (n := "strconv.ErrRange") (by unfold Rows.fnExactConfCheckRow; exact List.mem_cons_of_mem _ (List.mem_cons_of_mem _ (List.mem_cons_of_mem _ (List.mem_cons_of_mem _ (List.mem_cons_self))))) (show Tryz.prog.globalNamed "strconv.ErrRange" = some ((Tryz.prog.globalNamed "strconv.ErrRange").getD 0) from by kernel_rfl) (by kernel_rfl), fun b hb => by simp only [GBi, List.nil_append, List.mem_cons, List.not_mem_nil, or_false] at hb; subst hb; exact layCutM.s1_3 W hsh, fun q hq => by
  simp only [GBt, List.nil_append, List.mem_cons, List.not_mem_nil, or_false] at hq
  subst hq
  obtain ⟨g', t', cs, fuel, p, h1, h2, h3, h4⟩ := Lib.laidMet.reads hL' (n := "internal/strconv.uint64pow10") (by unfold Rows.fnExactConfCheckRow; exact List.mem_cons_of_mem _ (List.mem_cons_of_mem _ (List.mem_cons_self)))
  obtain rfl := Option.some.inj ((show Tryz.prog.globalNamed "internal/strconv.uint64pow10" = some ((Tryz.prog.globalNamed "internal/strconv.uint64pow10").getD 0) from by kernel_rfl).symm.trans h1)
  obtain rfl := Option.some.inj ((show (Tryz.prog.globals[(Tryz.prog.globalNamed "internal/strconv.uint64pow10").getD 0]?).map (·.type) = some 142 from by kernel_rfl).symm.trans h2)
  have hc := Lib.cells_of_tab (k := .u64) (zs := Lib.pow10Tab) Tryz.underlying142 Tryz.underlying121 (by kernel_rfl) (by kernel_rfl) h4
  unfold World.var? at h3
  rw [(show Tryz.prog.globalNamed "internal/strconv.uint64pow10" = some ((Tryz.prog.globalNamed "internal/strconv.uint64pow10").getD 0) from by kernel_rfl)] at h3
  simp only [Option.bind_some] at h3
  split at h3
  ·rename_i c T fz hh
   simp only [Option.some.injEq] at h3
   subst h3
   exact ⟨T, fz, hh.trans (by congr 1; congr 1; exact Array.ext' (by simpa using hc))⟩
  ·cases h3⟩
 have hc := Qoz (W := W) (vs := [.slice a0 n0 c0]) (ok3 x0) (b0) (x := .bool (F3 x0)) hG ⟨_, _, [], [], rfl, ⟨o0, rfl⟩, ⟨rfl, rfl⟩, rfl, List.nodup_nil⟩ rfl rfl
 rw [Qxv x0] at hc
 refine hc.mono fun e W' ⟨he, hb⟩ => ?_
 subst he
 exact ⟨_, rfl, Qth rfl hW' hb rfl Tryz.underlying4 rfl rfl rfl laid (by decide +kernel)⟩
theorem said_FnExactConfCheck : Rows.FnExactConfCheckSaid :=
 OpenClaim.holds_of_cond 3 Tryz.f3 rfl rfl rfl rfl rfl rfl rfl ⟨rfl, rfl, rfl, rfl, rfl⟩ rfl rfl rfl rfl rfl (by kernel_rfl) Tryz.func3 (by
   show joinedFacts Tryz.prog 3 Tryz.f3 (OpenSpec.ofChange Rows.fnExactConfCheckSpec).bare Rows.fnExactConfCheckRow = true
   simp only [joinedFacts, laid, cfMaps, cfKeys, Qyp, Qxr, Qyd, cfMake, cfA, cfB, cfC, cfD, Bool.and_true]
   kernel_rfl)
  (of_decide_eq_true (by kernel_rfl)) (by unfold Func.isWrapper; first | (rw [if_pos (by decide +kernel)]; kernel_rfl) | (rw [if_neg (by decide +kernel)]; exact ⟨rfl, rfl⟩))
  (fun os started H enc _ F => by rw [OpenClaim.pre_eq_preRow]; exact lifted os started H enc F)
theorem Qnp (f : FuncId) (fn : Func) (hf : Tryz.pinned.checked.prog.funcNamed "loop.example/tern/laws.FnExactConfCheck" = some f) (hfn : Tryz.pinned.checked.prog.funcs[f]? = some fn) :
  true = Tryz.pinned.checked.prog.looks [] ∧ ∀ (j : Nat) t, fn.params[j]? = some t → Tryz.pinned.checked.prog.wantsStandIn t = false := by
 obtain rfl : f = 3 := Option.some.inj ((show Tryz.prog.funcNamed "loop.example/tern/laws.FnExactConfCheck" = some 3 by kernel_rfl).symm.trans hf) |>.symm
 obtain rfl : fn = Tryz.f3 := (Option.some.inj (Tryz.func3.symm.trans hfn)).symm
 refine ⟨by kernel_rfl, fun j t ht => ?_⟩
 rw [Tryz.params3] at ht
 have hm := Array.mem_of_getElem? ht
 simp only [List.mem_toArray, List.mem_cons, List.not_mem_nil, or_false] at hm
 first | (obtain rfl := hm; exact (show Tryz.prog.wantsStandIn 22 = false by kernel_rfl))
theorem card_wf : Rows.fnExactConfCheckRow.wfByText (OpenSpec.ofChange Rows.fnExactConfCheckSpec) = true := by kernel_rfl
theorem card_main : Tryz.prog.mainIs = some (Rows.fnExactConfCheckCard.stood.harness.1, Rows.fnExactConfCheckCard.stood.harness.2.toList) := by kernel_rfl
theorem card_goes : false = Rows.fnExactConfCheckRow.goesBy Tryz.prog := by kernel_rfl
theorem proved_FnExactConfCheck : Rows.FnExactConfCheckCardSaid :=
 Claim7.holds_tied_plain_at .later [] _ _ _ _ said_FnExactConfCheck (fun _ h => by cases h) card_wf (fun _ h => by cases h) fnExactConfCheck_row_tie rfl ⟨rfl, rfl⟩ card_main rfl Qnp card_goes
#print axioms proved_FnExactConfCheck
end Go.Proofs.YtmoodkjkecjeaaaGreatDoor
