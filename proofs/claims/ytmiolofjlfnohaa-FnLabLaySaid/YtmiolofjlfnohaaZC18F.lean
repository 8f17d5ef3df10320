/- The statement of FnLabLay: for all arguments the law returns true, without further conditions. Texts put together: VNQ, PNQ, PTQ, PJ1, PJ4, VNL0, PNL0, VNL, PNL, C18. -/
import Derived.Test.YtmiolofjlfnohaaRows
import Derived.Test.YtmiolofjlfnohaaZC18E
namespace Go.Proofs.Ytmiolofjlfnohaa
open Go.RowKit
set_option maxRecDepth 100000
set_option linter.unusedVariables false
set_option linter.unusedSimpArgs false
theorem neqT36 (x0 y0:Int) (x1 y1:Int) (p q:Operand) (w:World):(do eqGuard .neq 36 p q (.agg #[.int .i64 x0,.int .i64 x1]) (.agg #[.int .i64 y0,.int .i64 y1]); binOp .neq 36 (.agg #[.int .i64 x0,.int .i64 x1]) (.agg #[.int .i64 y0,.int .i64 y1])).run Try.prog w=.ok (.bool (!((x0==y0)&&(x1==y1)))) w:=by
 by_cases h0:x0=y0
 case neg=>simp [go_sem,h0]
 by_cases h1:x1=y1
 case neg=>simp [go_sem,h0,h1]
 simp [go_sem,h0,h1]
theorem neqT68 (x0 y0:Int) (x1 y1:Int) (x2 y2:Int) (p q:Operand) (w:World):(do eqGuard .neq 68 p q (.agg #[.int .i64 x0,.int .i64 x1,.int .i64 x2]) (.agg #[.int .i64 y0,.int .i64 y1,.int .i64 y2]); binOp .neq 68 (.agg #[.int .i64 x0,.int .i64 x1,.int .i64 x2]) (.agg #[.int .i64 y0,.int .i64 y1,.int .i64 y2])).run Try.prog w=.ok (.bool (!((x0==y0)&&((x1==y1)&&(x2==y2))))) w:=by
 by_cases h0:x0=y0
 case neg=>simp [go_sem,h0]
 by_cases h1:x1=y1
 case neg=>simp [go_sem,h0,h1]
 by_cases h2:x2=y2
 case neg=>simp [go_sem,h0,h1,h2]
 simp [go_sem,h0,h1,h2]
theorem neqT95 (x0 y0:Int) (x1 y1:Int) (x2 y2:Int) (p q:Operand) (w:World):(do eqGuard .neq 95 p q (.agg #[.int .i64 x0,.int .i64 x1,.int .i64 x2]) (.agg #[.int .i64 y0,.int .i64 y1,.int .i64 y2]); binOp .neq 95 (.agg #[.int .i64 x0,.int .i64 x1,.int .i64 x2]) (.agg #[.int .i64 y0,.int .i64 y1,.int .i64 y2])).run Try.prog w=.ok (.bool (!((x0==y0)&&((x1==y1)&&(x2==y2))))) w:=by
 by_cases h0:x0=y0
 case neg=>simp [go_sem,h0]
 by_cases h1:x1=y1
 case neg=>simp [go_sem,h0,h1]
 by_cases h2:x2=y2
 case neg=>simp [go_sem,h0,h1,h2]
 simp [go_sem,h0,h1,h2]
def F25_s3 (a:Qe) (b:Qe) (i41:Int):Int→Lp Int Bool:=fun k400 =>
 bif (decide (k400<((a.Qa.getD i41.toNat default).Qc.length:Int))) then (bif (!((((a.Qa.getD i41.toNat default).Qc.getD k400.toNat default).To==((b.Qa.getD i41.toNat default).Qc.getD k400.toNat default).To)&&((((a.Qa.getD i41.toNat default).Qc.getD k400.toNat default).Via==((b.Qa.getD i41.toNat default).Qc.getD k400.toNat default).Via)&&(((a.Qa.getD i41.toNat default).Qc.getD k400.toNat default).Push==((b.Qa.getD i41.toNat default).Qc.getD k400.toNat default).Push)))) then (.ret false) else (.next (k400+1))) else (.done k400)
def F25_s2 (a:Qe) (b:Qe) (i41:Int):Int→Lp Int Bool:=fun k =>
 bif (decide (k<((a.Qa.getD i41.toNat default).Rows.length:Int))) then (bif (!((((a.Qa.getD i41.toNat default).Rows.getD k.toNat default).In==((b.Qa.getD i41.toNat default).Rows.getD k.toNat default).In)&&((((a.Qa.getD i41.toNat default).Rows.getD k.toNat default).Next==((b.Qa.getD i41.toNat default).Rows.getD k.toNat default).Next)&&(((a.Qa.getD i41.toNat default).Rows.getD k.toNat default).Out==((b.Qa.getD i41.toNat default).Rows.getD k.toNat default).Out)))) then (.ret false) else (.next (k+1))) else (.done k)
def F25_s1 (a:Qe) (b:Qe):Int→Lp Int Bool:=fun i41 =>
 bif (decide (i41<(a.Qa.length:Int))) then (bif (bif (((a.Qa.getD i41.toNat default).Rows.length:Int) != ((b.Qa.getD i41.toNat default).Rows.length:Int)) then true else (((a.Qa.getD i41.toNat default).Qc.length:Int) != ((b.Qa.getD i41.toNat default).Qc.length:Int))) then (.ret false) else ((runL (F25_s2 a b i41) ((((a.Qa.getD i41.toNat default).Rows.length:Int)-0).toNat+1) 0).fin Lp.ret (fun k=>(runL (F25_s3 a b i41) ((((a.Qa.getD i41.toNat default).Qc.length:Int)-0).toNat+1) 0).fin Lp.ret (fun k400=>.next (i41+1))))) else (.done i41)
def F25_s0 (a:Qe) (b:Qe):Int→Lp Int Bool:=fun i40 =>
 bif (decide (i40<(a.Qb.length:Int))) then (bif (!(((a.Qb.getD i40.toNat default).A==(b.Qb.getD i40.toNat default).A)&&((a.Qb.getD i40.toNat default).B==(b.Qb.getD i40.toNat default).B))) then (.ret false) else (.next (i40+1))) else (.done i40)
def F25 (a:Qe) (b:Qe):Bool :=
 bif (bif ((a.Qb.length:Int) != (b.Qb.length:Int)) then true else ((a.Qa.length:Int) != (b.Qa.length:Int))) then false else ((runL (F25_s0 a b) (((a.Qb.length:Int)-0).toNat+1) 0).fin (fun r=>r) (fun i40=>(runL (F25_s1 a b) (((a.Qa.length:Int)-0).toNat+1) 0).fin (fun r=>r) (fun i41=>true)))
def S25 (a:Qe) (b:Qe):Spec:=⟨[.r (.g (Qf a)),.r (.g (Qf b))],.v (.bool (F25 a b)),True⟩
abbrev q25_1 (a:Qe) (i41:Int):=(a.Qa.getD i41.toNat default)
abbrev q25_2 (b:Qe) (i41:Int):=(b.Qa.getD i41.toNat default)
abbrev q25_3 (a:Qe) (i41:Int) (k400:Int):=((q25_1 a i41).Qc.getD k400.toNat default)
abbrev q25_4 (b:Qe) (i41:Int) (k400:Int):=((q25_2 b i41).Qc.getD k400.toNat default)
abbrev q25_5 (a:Qe) (i41:Int) (k:Int):=((q25_1 a i41).Rows.getD k.toNat default)
abbrev q25_6 (b:Qe) (i41:Int) (k:Int):=((q25_2 b i41).Rows.getD k.toNat default)
abbrev q25_7 (a:Qe) (b:Qe) (i41:Int):=(runL (F25_s3 a b i41) ((((q25_1 a i41).Qc.length:Int)-0).toNat+1) 0)
abbrev q25_8 (a:Qe) (b:Qe) (i41:Int):=(runL (F25_s2 a b i41) ((((q25_1 a i41).Rows.length:Int)-0).toNat+1) 0)
abbrev q25_9 (a:Qe):=(Imp (.l 2 Qh a.Qb) (.l 2 Qh a.Qb))
abbrev q25_10 (b:Qe):=(Imp (.l 2 Qh b.Qb) (.l 2 Qh b.Qb))
abbrev q25_11 (a:Qe):=(Imp (.l 2 Qj a.Qa) (.l 2 Qj a.Qa))
abbrev q25_12 (b:Qe):=(Imp (.l 2 Qj b.Qa) (.l 2 Qj b.Qa))
abbrev q25_13 (a:Qe) (b:Qe):=(runL (F25_s0 a b) (((a.Qb.length:Int)-0).toNat+1) 0)
abbrev q25_14 (a:Qe) (b:Qe):=(runL (F25_s1 a b) (((a.Qa.length:Int)-0).toNat+1) 0)
abbrev q25_15 (a:Qe) (i40:Int):=(a.Qb.getD i40.toNat default)
abbrev q25_16 (b:Qe) (i40:Int):=(b.Qb.getD i40.toNat default)
abbrev q25_17 (a:Qe) (i41:Int):=(Imps (Qj (q25_1 a i41)) (Qj (q25_1 a i41)))
abbrev q25_18 (b:Qe) (i41:Int):=(Imps (Qj (q25_2 b i41)) (Qj (q25_2 b i41)))
theorem ok25 (a:Qe) (b:Qe):(S25 a b).ok Try.prog 25 :=
 fnG_ok mixed (fn:=Try.f25) (ct:=.seq (.no) (.seq (.seq (.no) (.cond (.seq (.no) (.no)) (.no))) (.seq (.seqk [(2,0),(2,1),(3,0),(3,1)] (.no) (.blk (.loop (ι:=Nat×Int) (fun i=>(fun (i40:Int)=>(⟨[(2,some (.p 0 0)),(3,some (.p 3 0)),(5,some (.v (vI i40)))],[(0,some (.box 26 [.h 1 0,.h 2 0])),(1,some (.shr none (.l 2 Qh a.Qb))),(2,some (.shr none (.l 2 Qj a.Qa))),(3,some (.box 26 [.h 4 0,.h 5 0])),(4,some (.shr none (.l 2 Qh b.Qb))),(5,some (.shr none (.l 2 Qj b.Qa)))],6⟩:St)) i.2) (fun i=>runL (F25_s0 a b) i.1 i.2=(q25_13 a b)∧(fun (i40:Int)=>(Int.toNat ((a.Qb.length:Int)-i40)<i.1∧(0:Int)≤i40)) i.2) (fun i=>i.1) ((((a.Qb.length:Int)-0).toNat+1),0) (fun i=>(fun (i40:Int)=>(.seq (.seq (.no) (.cond (.no) (.no))) (.seq (.blk (.seq (.reg [(10,.bin .neq 36 (.agg #[.int .i64 (q25_15 a i40).A,.int .i64 (q25_15 a i40).B]) (.agg #[.int .i64 (q25_16 b i40).A,.int .i64 (q25_16 b i40).B]) (.bool (!(((q25_15 a i40).A==(q25_16 b i40).A)&&((q25_15 a i40).B==(q25_16 b i40).B)))) rfl (neqT36 (q25_15 a i40).A (q25_16 b i40).A (q25_15 a i40).B (q25_16 b i40).B))]) (.cond (.seq (.no) (.no)) (.no)))) (.reg [(1,.bnd)])))) i.2)))) (.seq (.seqk [(2,0),(2,1),(3,0),(3,1)] (.no) (.blk (.loop (ι:=Nat×Int) (fun i=>(fun (i41:Int)=>(⟨[(2,some (.p 0 0)),(3,some (.p 3 0)),(6,some (.v (vI i41)))],[(0,some (.box 26 [.h 1 0,.h 2 0])),(1,some (.shr none (.l 2 Qh a.Qb))),(2,some (.shr none (.l 2 Qj a.Qa))),(3,some (.box 26 [.h 4 0,.h 5 0])),(4,some (.shr none (.l 2 Qh b.Qb))),(5,some (.shr none (.l 2 Qj b.Qa)))],6⟩:St)) i.2) (fun i=>runL (F25_s1 a b) i.1 i.2=(q25_14 a b)∧(fun (i41:Int)=>(Int.toNat ((a.Qa.length:Int)-i41)<i.1∧(0:Int)≤i41)) i.2) (fun i=>i.1) ((((a.Qa.length:Int)-0).toNat+1),0) (fun i=>(fun (i41:Int)=>(.seq (.seq (.no) (.cond (.no) (.no))) (.seq (.blk (.seq (.no) (.seq (.no) (.seq (.seq (.no) (.cond (.seq (.no) (.no)) (.no))) (.seq (.seqk [(7,0),(7,1),(8,0),(8,1)] (.no) (.blk (.loop (ι:=Nat×Int) (fun i=>(fun (k:Int)=>(⟨[(2,some (.p 0 0)),(3,some (.p 3 0)),(6,some (.v (vI i41))),(7,some (.p 6 0)),(8,some (.p 8 0)),(9,some (.v (vI k)))],[(0,some (.box 26 [.h 1 0,.h 2 0])),(1,some (.shr none (.l 2 Qh a.Qb))),(2,some (.shr none (.l 2 Qj a.Qa))),(3,some (.box 26 [.h 4 0,.h 5 0])),(4,some (.shr none (.l 2 Qh b.Qb))),(5,some (.shr none (.l 2 Qj b.Qa))),(6,some (.box 54 [.h 7 1,.h 7 2])),(7,some (.mem none none (Qj (q25_1 a i41)))),(8,some (.box 54 [.h 9 1,.h 9 2])),(9,some (.mem none none (Qj (q25_2 b i41))))],10⟩:St)) i.2) (fun i=>runL (F25_s2 a b i41) i.1 i.2=(q25_8 a b i41)∧(fun (k:Int)=>(Int.toNat (((q25_1 a i41).Rows.length:Int)-k)<i.1∧(0:Int)≤k)) i.2) (fun i=>i.1) (((((q25_1 a i41).Rows.length:Int)-0).toNat+1),0) (fun i=>(fun (k:Int)=>(.seq (.seq (.no) (.cond (.no) (.no))) (.seq (.blk (.seq (.reg [(10,.bin .neq 68 (.agg #[.int .i64 (q25_5 a i41 k).In,.int .i64 (q25_5 a i41 k).Next,.int .i64 (q25_5 a i41 k).Out]) (.agg #[.int .i64 (q25_6 b i41 k).In,.int .i64 (q25_6 b i41 k).Next,.int .i64 (q25_6 b i41 k).Out]) (.bool (!(((q25_5 a i41 k).In==(q25_6 b i41 k).In)&&(((q25_5 a i41 k).Next==(q25_6 b i41 k).Next)&&((q25_5 a i41 k).Out==(q25_6 b i41 k).Out))))) rfl (neqT68 (q25_5 a i41 k).In (q25_6 b i41 k).In (q25_5 a i41 k).Next (q25_6 b i41 k).Next (q25_5 a i41 k).Out (q25_6 b i41 k).Out))]) (.cond (.seq (.no) (.no)) (.no)))) (.reg [(1,.bnd)])))) i.2)))) (.seqk [(7,0),(7,1),(8,0),(8,1)] (.no) (.blk (.loop (ι:=Nat×Int) (fun i=>(fun (k400:Int)=>(⟨[(2,some (.p 0 0)),(3,some (.p 3 0)),(6,some (.v (vI i41))),(7,some (.p 6 0)),(8,some (.p 8 0)),(10,some (.v (vI k400)))],[(0,some (.box 26 [.h 1 0,.h 2 0])),(1,some (.shr none (.l 2 Qh a.Qb))),(2,some (.shr none (.l 2 Qj a.Qa))),(3,some (.box 26 [.h 4 0,.h 5 0])),(4,some (.shr none (.l 2 Qh b.Qb))),(5,some (.shr none (.l 2 Qj b.Qa))),(6,some (.box 54 [.h 7 1,.h 7 2])),(7,some (.mem none none (Qj (q25_1 a i41)))),(8,some (.box 54 [.h 9 1,.h 9 2])),(9,some (.mem none none (Qj (q25_2 b i41))))],10⟩:St)) i.2) (fun i=>runL (F25_s3 a b i41) i.1 i.2=(q25_7 a b i41)∧(fun (k400:Int)=>(Int.toNat (((q25_1 a i41).Qc.length:Int)-k400)<i.1∧(0:Int)≤k400)) i.2) (fun i=>i.1) (((((q25_1 a i41).Qc.length:Int)-0).toNat+1),0) (fun i=>(fun (k400:Int)=>(.seq (.seq (.no) (.cond (.no) (.no))) (.seq (.blk (.seq (.reg [(10,.bin .neq 95 (.agg #[.int .i64 (q25_3 a i41 k400).To,.int .i64 (q25_3 a i41 k400).Via,.int .i64 (q25_3 a i41 k400).Push]) (.agg #[.int .i64 (q25_4 b i41 k400).To,.int .i64 (q25_4 b i41 k400).Via,.int .i64 (q25_4 b i41 k400).Push]) (.bool (!(((q25_3 a i41 k400).To==(q25_4 b i41 k400).To)&&(((q25_3 a i41 k400).Via==(q25_4 b i41 k400).Via)&&((q25_3 a i41 k400).Push==(q25_4 b i41 k400).Push))))) rfl (neqT95 (q25_3 a i41 k400).To (q25_4 b i41 k400).To (q25_3 a i41 k400).Via (q25_4 b i41 k400).Via (q25_3 a i41 k400).Push (q25_4 b i41 k400).Push))]) (.cond (.seq (.no) (.no)) (.no)))) (.reg [(1,.bnd)])))) i.2))))))))) (.reg [(1,.bnd)])))) i.2)))) (.seq (.no) (.no)))))) Try.func25 (fun (_:True)=>ai (fun h1:(bif ((a.Qb.length:Int) != (b.Qb.length:Int)) then true else ((a.Qa.length:Int) != (b.Qa.length:Int)))=true=>(fun hF:(false:Bool)=(F25 a b)=>ai (congrArg (fun r:Bool=>(.bool r:Value)) hF) (trivial)) (condT h1 (rfl))) (fun h1:(bif ((a.Qb.length:Int) != (b.Qb.length:Int)) then true else ((a.Qa.length:Int) != (b.Qa.length:Int)))=false=>(fun _:(a.Qa.length:Int)=(b.Qa.length:Int)=>(fun _:(a.Qb.length:Int)=(b.Qb.length:Int)=>fun (_:a.Qb.length≤9223372036854775807)=>fun (_:a.Qa.length≤9223372036854775807)=>fun (_:b.Qb.length≤9223372036854775807)=>fun (_:b.Qa.length≤9223372036854775807)=>ai (ai (rfl) (ai (ir) (ai (ir) (ai (ir) (ai (ir) ((ai (rfl:runL (F25_s0 a b) (((a.Qb.length:Int)-0).toNat+1) 0=(q25_13 a b)) (ai ((Nat.lt_succ_self _:Int.toNat ((a.Qb.length:Int)-0)<(((a.Qb.length:Int)-0).toNat+1))) ((by omega:(0:Int)≤0))))))))):((.int .i64 0:Value)=.int .i64 0)∧(q25_9 a)∧(q25_11 a)∧(q25_10 b)∧(q25_12 b)∧(runL (F25_s0 a b) (((a.Qb.length:Int)-0).toNat+1) 0=(q25_13 a b)∧Int.toNat ((a.Qb.length:Int)-0)<(((a.Qb.length:Int)-0).toNat+1)∧(0:Int)≤0)) (fun (i0:Nat×Int) (hi0:runL (F25_s0 a b) i0.1 i0.2=(q25_13 a b)∧(fun (i40:Int)=>(Int.toNat ((a.Qb.length:Int)-i40)<i0.1∧(0:Int)≤i40)) i0.2)=>(fun (m0:Nat) (i40:Int) (hI0:runL (F25_s0 a b) (m0+1) i40=(q25_13 a b)) (_:Int.toNat ((a.Qb.length:Int)-i40)<m0+1) (hl0:m0<i0.1) (_:(0:Int)≤i40)=>ai (fun h3:(decide (i40<(a.Qb.length:Int)))=true=>(fun _:i40<(a.Qb.length:Int)=>ai ((by omega:0≤i40∧i40<(a.Qb.length:Int))) (ai ((by omega:0≤i40∧i40<(b.Qb.length:Int))) (ai ((Eq.refl (.agg #[.int .i64 (q25_15 a i40).A,.int .i64 (q25_15 a i40).B]:Value))) (ai ((Eq.refl (.agg #[.int .i64 (q25_16 b i40).A,.int .i64 (q25_16 b i40).B]:Value))) (ai (fun h4:(!(((q25_15 a i40).A==(q25_16 b i40).A)&&((q25_15 a i40).B==(q25_16 b i40).B)))=true=>(fun hF:(false:Bool)=(F25 a b)=>ai (congrArg (fun r:Bool=>(.bool r:Value)) hF) (trivial)) (condF h1 (finR (runL_ret hI0 (condT h3 (condT h4 (rfl)))) rfl))) (fun h4:(!(((q25_15 a i40).A==(q25_16 b i40).A)&&((q25_15 a i40).B==(q25_16 b i40).B)))=false=>ai ((by unfold i64ok; omega:i64ok (i40+1))) (Exists.intro (p:=fun j:Nat×Int=>(fun (i40_:Int)=>(((.int .i64 (i40+1):Value)=.int .i64 i40_)∧(q25_9 a)∧(q25_11 a)∧(q25_10 b)∧(q25_12 b)∧((runL (F25_s0 a b) j.1 j.2=(q25_13 a b)∧Int.toNat ((a.Qb.length:Int)-i40_)<j.1∧(0:Int)≤i40_)∧j.1<i0.1))) j.2) (m0,(i40+1)) (ai (rfl) (ai (ir) (ai (ir) (ai (ir) (ai (ir) (ai (ai (runL_next hI0 (condT h3 (condF h4 (rfl)))) (ai ((by omega:Int.toNat ((a.Qb.length:Int)-(i40+1))<m0)) ((by omega:(0:Int)≤(i40+1))))) hl0))))))))))))) (of_decide_eq_true h3)) (fun h3:(decide (i40<(a.Qb.length:Int)))=false=>(fun _:¬ i40<(a.Qb.length:Int)=>(fun hD0_5:(q25_13 a b)=Lp.done i40=>fun (_:a.Qb.length≤9223372036854775807)=>fun (_:a.Qa.length≤9223372036854775807)=>fun (_:b.Qb.length≤9223372036854775807)=>fun (_:b.Qa.length≤9223372036854775807)=>ai (ai (rfl) (ai (ir) (ai (ir) (ai (ir) (ai (ir) ((ai (rfl:runL (F25_s1 a b) (((a.Qa.length:Int)-0).toNat+1) 0=(q25_14 a b)) (ai ((Nat.lt_succ_self _:Int.toNat ((a.Qa.length:Int)-0)<(((a.Qa.length:Int)-0).toNat+1))) ((by omega:(0:Int)≤0))))))))):((.int .i64 0:Value)=.int .i64 0)∧(q25_9 a)∧(q25_11 a)∧(q25_10 b)∧(q25_12 b)∧(runL (F25_s1 a b) (((a.Qa.length:Int)-0).toNat+1) 0=(q25_14 a b)∧Int.toNat ((a.Qa.length:Int)-0)<(((a.Qa.length:Int)-0).toNat+1)∧(0:Int)≤0)) (fun (i1:Nat×Int) (hi1:runL (F25_s1 a b) i1.1 i1.2=(q25_14 a b)∧(fun (i41:Int)=>(Int.toNat ((a.Qa.length:Int)-i41)<i1.1∧(0:Int)≤i41)) i1.2)=>(fun (m1:Nat) (i41:Int) (hI1:runL (F25_s1 a b) (m1+1) i41=(q25_14 a b)) (_:Int.toNat ((a.Qa.length:Int)-i41)<m1+1) (hl1:m1<i1.1) (_:(0:Int)≤i41)=>ai (fun h7:(decide (i41<(a.Qa.length:Int)))=true=>(fun _:i41<(a.Qa.length:Int)=>ai ((by omega:0≤i41∧i41<(a.Qa.length:Int))) (ai ((by omega:0≤i41∧i41<(b.Qa.length:Int))) (ai (fun h8:(bif (((q25_1 a i41).Rows.length:Int) != ((q25_2 b i41).Rows.length:Int)) then true else (((q25_1 a i41).Qc.length:Int) != ((q25_2 b i41).Qc.length:Int)))=true=>(fun hF:(false:Bool)=(F25 a b)=>ai (congrArg (fun r:Bool=>(.bool r:Value)) hF) (trivial)) (condF h1 (finD hD0_5 (finR (runL_ret hI1 (condT h7 (condT h8 (rfl)))) rfl)))) (fun h8:(bif (((q25_1 a i41).Rows.length:Int) != ((q25_2 b i41).Rows.length:Int)) then true else (((q25_1 a i41).Qc.length:Int) != ((q25_2 b i41).Qc.length:Int)))=false=>(fun _:((q25_1 a i41).Qc.length:Int)=((q25_2 b i41).Qc.length:Int)=>(fun _:((q25_1 a i41).Rows.length:Int)=((q25_2 b i41).Rows.length:Int)=>fun (_:(q25_1 a i41).Rows.length≤9223372036854775807)=>fun (_:(q25_1 a i41).Qc.length≤9223372036854775807)=>fun (_:(q25_2 b i41).Rows.length≤9223372036854775807)=>fun (_:(q25_2 b i41).Qc.length≤9223372036854775807)=>ai (ai (rfl) (ai (rfl) (ai (ir) (ai (ir) (ai (ir) (ai (ir) (ai ((Imps.refl _)) (ai ((Imps.refl _)) ((ai (rfl:runL (F25_s2 a b i41) ((((q25_1 a i41).Rows.length:Int)-0).toNat+1) 0=(q25_8 a b i41)) (ai ((Nat.lt_succ_self _:Int.toNat (((q25_1 a i41).Rows.length:Int)-0)<((((q25_1 a i41).Rows.length:Int)-0).toNat+1))) ((by omega:(0:Int)≤0)))))))))))):((.int .i64 i41:Value)=.int .i64 i41)∧((.int .i64 0:Value)=.int .i64 0)∧(q25_9 a)∧(q25_11 a)∧(q25_10 b)∧(q25_12 b)∧(q25_17 a i41)∧(q25_18 b i41)∧(runL (F25_s2 a b i41) ((((q25_1 a i41).Rows.length:Int)-0).toNat+1) 0=(q25_8 a b i41)∧Int.toNat (((q25_1 a i41).Rows.length:Int)-0)<((((q25_1 a i41).Rows.length:Int)-0).toNat+1)∧(0:Int)≤0)) (fun (i2:Nat×Int) (hi2:runL (F25_s2 a b i41) i2.1 i2.2=(q25_8 a b i41)∧(fun (k:Int)=>(Int.toNat (((q25_1 a i41).Rows.length:Int)-k)<i2.1∧(0:Int)≤k)) i2.2)=>(fun (m2:Nat) (k:Int) (hI2:runL (F25_s2 a b i41) (m2+1) k=(q25_8 a b i41)) (_:Int.toNat (((q25_1 a i41).Rows.length:Int)-k)<m2+1) (hl2:m2<i2.1) (_:(0:Int)≤k)=>ai (fun h10:(decide (k<((q25_1 a i41).Rows.length:Int)))=true=>(fun _:k<((q25_1 a i41).Rows.length:Int)=>ai ((by omega:0≤k∧k<((q25_1 a i41).Rows.length:Int))) (ai ((by omega:0≤k∧k<((q25_2 b i41).Rows.length:Int))) (ai ((Eq.refl (.agg #[.int .i64 (q25_5 a i41 k).In,.int .i64 (q25_5 a i41 k).Next,.int .i64 (q25_5 a i41 k).Out]:Value))) (ai ((Eq.refl (.agg #[.int .i64 (q25_6 b i41 k).In,.int .i64 (q25_6 b i41 k).Next,.int .i64 (q25_6 b i41 k).Out]:Value))) (ai (fun h11:(!(((q25_5 a i41 k).In==(q25_6 b i41 k).In)&&(((q25_5 a i41 k).Next==(q25_6 b i41 k).Next)&&((q25_5 a i41 k).Out==(q25_6 b i41 k).Out))))=true=>(fun hF:(false:Bool)=(F25 a b)=>ai (congrArg (fun r:Bool=>(.bool r:Value)) hF) (trivial)) (condF h1 (finD hD0_5 (finR (runL_ret hI1 (condT h7 (condF h8 (finR (runL_ret hI2 (condT h10 (condT h11 (rfl)))) rfl)))) rfl)))) (fun h11:(!(((q25_5 a i41 k).In==(q25_6 b i41 k).In)&&(((q25_5 a i41 k).Next==(q25_6 b i41 k).Next)&&((q25_5 a i41 k).Out==(q25_6 b i41 k).Out))))=false=>ai ((by unfold i64ok; omega:i64ok (k+1))) (Exists.intro (p:=fun j:Nat×Int=>(fun (k_:Int)=>(((.int .i64 i41:Value)=.int .i64 i41)∧((.int .i64 (k+1):Value)=.int .i64 k_)∧(q25_9 a)∧(q25_11 a)∧(q25_10 b)∧(q25_12 b)∧(q25_17 a i41)∧(q25_18 b i41)∧((runL (F25_s2 a b i41) j.1 j.2=(q25_8 a b i41)∧Int.toNat (((q25_1 a i41).Rows.length:Int)-k_)<j.1∧(0:Int)≤k_)∧j.1<i2.1))) j.2) (m2,(k+1)) (ai (rfl) (ai (rfl) (ai (ir) (ai (ir) (ai (ir) (ai (ir) (ai ((Imps.refl _)) (ai ((Imps.refl _)) (ai (ai (runL_next hI2 (condT h10 (condF h11 (rfl)))) (ai ((by omega:Int.toNat (((q25_1 a i41).Rows.length:Int)-(k+1))<m2)) ((by omega:(0:Int)≤(k+1))))) hl2)))))))))))))))) (of_decide_eq_true h10)) (fun h10:(decide (k<((q25_1 a i41).Rows.length:Int)))=false=>(fun _:¬ k<((q25_1 a i41).Rows.length:Int)=>(fun hD2_12:(q25_8 a b i41)=Lp.done k=>fun (_:(q25_1 a i41).Rows.length≤9223372036854775807)=>fun (_:(q25_1 a i41).Qc.length≤9223372036854775807)=>fun (_:(q25_2 b i41).Rows.length≤9223372036854775807)=>fun (_:(q25_2 b i41).Qc.length≤9223372036854775807)=>ai (ai (rfl) (ai (rfl) (ai (ir) (ai (ir) (ai (ir) (ai (ir) (ai ((Imps.refl _)) (ai ((Imps.refl _)) ((ai (rfl:runL (F25_s3 a b i41) ((((q25_1 a i41).Qc.length:Int)-0).toNat+1) 0=(q25_7 a b i41)) (ai ((Nat.lt_succ_self _:Int.toNat (((q25_1 a i41).Qc.length:Int)-0)<((((q25_1 a i41).Qc.length:Int)-0).toNat+1))) ((by omega:(0:Int)≤0)))))))))))):((.int .i64 i41:Value)=.int .i64 i41)∧((.int .i64 0:Value)=.int .i64 0)∧(q25_9 a)∧(q25_11 a)∧(q25_10 b)∧(q25_12 b)∧(q25_17 a i41)∧(q25_18 b i41)∧(runL (F25_s3 a b i41) ((((q25_1 a i41).Qc.length:Int)-0).toNat+1) 0=(q25_7 a b i41)∧Int.toNat (((q25_1 a i41).Qc.length:Int)-0)<((((q25_1 a i41).Qc.length:Int)-0).toNat+1)∧(0:Int)≤0)) (fun (i3:Nat×Int) (hi3:runL (F25_s3 a b i41) i3.1 i3.2=(q25_7 a b i41)∧(fun (k400:Int)=>(Int.toNat (((q25_1 a i41).Qc.length:Int)-k400)<i3.1∧(0:Int)≤k400)) i3.2)=>(fun (m3:Nat) (k400:Int) (hI3:runL (F25_s3 a b i41) (m3+1) k400=(q25_7 a b i41)) (_:Int.toNat (((q25_1 a i41).Qc.length:Int)-k400)<m3+1) (hl3:m3<i3.1) (_:(0:Int)≤k400)=>ai (fun h14:(decide (k400<((q25_1 a i41).Qc.length:Int)))=true=>(fun _:k400<((q25_1 a i41).Qc.length:Int)=>ai ((by omega:0≤k400∧k400<((q25_1 a i41).Qc.length:Int))) (ai ((by omega:0≤k400∧k400<((q25_2 b i41).Qc.length:Int))) (ai ((Eq.refl (.agg #[.int .i64 (q25_3 a i41 k400).To,.int .i64 (q25_3 a i41 k400).Via,.int .i64 (q25_3 a i41 k400).Push]:Value))) (ai ((Eq.refl (.agg #[.int .i64 (q25_4 b i41 k400).To,.int .i64 (q25_4 b i41 k400).Via,.int .i64 (q25_4 b i41 k400).Push]:Value))) (ai (fun h15:(!(((q25_3 a i41 k400).To==(q25_4 b i41 k400).To)&&(((q25_3 a i41 k400).Via==(q25_4 b i41 k400).Via)&&((q25_3 a i41 k400).Push==(q25_4 b i41 k400).Push))))=true=>(fun hF:(false:Bool)=(F25 a b)=>ai (congrArg (fun r:Bool=>(.bool r:Value)) hF) (trivial)) (condF h1 (finD hD0_5 (finR (runL_ret hI1 (condT h7 (condF h8 (finD hD2_12 (finR (runL_ret hI3 (condT h14 (condT h15 (rfl)))) rfl))))) rfl)))) (fun h15:(!(((q25_3 a i41 k400).To==(q25_4 b i41 k400).To)&&(((q25_3 a i41 k400).Via==(q25_4 b i41 k400).Via)&&((q25_3 a i41 k400).Push==(q25_4 b i41 k400).Push))))=false=>ai ((by unfold i64ok; omega:i64ok (k400+1))) (Exists.intro (p:=fun j:Nat×Int=>(fun (k400_:Int)=>(((.int .i64 i41:Value)=.int .i64 i41)∧((.int .i64 (k400+1):Value)=.int .i64 k400_)∧(q25_9 a)∧(q25_11 a)∧(q25_10 b)∧(q25_12 b)∧(q25_17 a i41)∧(q25_18 b i41)∧((runL (F25_s3 a b i41) j.1 j.2=(q25_7 a b i41)∧Int.toNat (((q25_1 a i41).Qc.length:Int)-k400_)<j.1∧(0:Int)≤k400_)∧j.1<i3.1))) j.2) (m3,(k400+1)) (ai (rfl) (ai (rfl) (ai (ir) (ai (ir) (ai (ir) (ai (ir) (ai ((Imps.refl _)) (ai ((Imps.refl _)) (ai (ai (runL_next hI3 (condT h14 (condF h15 (rfl)))) (ai ((by omega:Int.toNat (((q25_1 a i41).Qc.length:Int)-(k400+1))<m3)) ((by omega:(0:Int)≤(k400+1))))) hl3)))))))))))))))) (of_decide_eq_true h14)) (fun h14:(decide (k400<((q25_1 a i41).Qc.length:Int)))=false=>(fun _:¬ k400<((q25_1 a i41).Qc.length:Int)=>(fun hD3_16:(q25_7 a b i41)=Lp.done k400=>ai ((by unfold i64ok; omega:i64ok (i41+1))) (Exists.intro (p:=fun j:Nat×Int=>(fun (i41_:Int)=>(((.int .i64 (i41+1):Value)=.int .i64 i41_)∧(q25_9 a)∧(q25_11 a)∧(q25_10 b)∧(q25_12 b)∧((runL (F25_s1 a b) j.1 j.2=(q25_14 a b)∧Int.toNat ((a.Qa.length:Int)-i41_)<j.1∧(0:Int)≤i41_)∧j.1<i1.1))) j.2) (m1,(i41+1)) (ai (rfl) (ai (ir) (ai (ir) (ai (ir) (ai (ir) (ai (ai (runL_next hI1 (condT h7 (condF h8 (finD hD2_12 (finD hD3_16 (rfl)))))) (ai ((by omega:Int.toNat ((a.Qa.length:Int)-(i41+1))<m1)) ((by omega:(0:Int)≤(i41+1))))) hl1)))))))) (runL_done hI3 (condF h14 (rfl)))) (of_decide_eq_false h14))) (i3.1-1) i3.2 (hd1 hi3.1 hi3.2.1) (hd2 hi3.2.1) (hd3 hi3.2.1) hi3.2.2)) (runL_done hI2 (condF h10 (rfl)))) (of_decide_eq_false h10))) (i2.1-1) i2.2 (hd1 hi2.1 hi2.2.1) (hd2 hi2.2.1) (hd3 hi2.2.1) hi2.2.2)) (bneF (orF1 h8))) (bneF (orF2 h8)))))) (of_decide_eq_true h7)) (fun h7:(decide (i41<(a.Qa.length:Int)))=false=>(fun _:¬ i41<(a.Qa.length:Int)=>(fun hD1_17:(q25_14 a b)=Lp.done i41=>(fun hF:(true:Bool)=(F25 a b)=>ai (congrArg (fun r:Bool=>(.bool r:Value)) hF) (trivial)) (condF h1 (finD hD0_5 (finD hD1_17 (rfl))))) (runL_done hI1 (condF h7 (rfl)))) (of_decide_eq_false h7))) (i1.1-1) i1.2 (hd1 hi1.1 hi1.2.1) (hd2 hi1.2.1) (hd3 hi1.2.1) hi1.2.2)) (runL_done hI0 (condF h3 (rfl)))) (of_decide_eq_false h3))) (i0.1-1) i0.2 (hd1 hi0.1 hi0.2.1) (hd2 hi0.2.1) (hd3 hi0.2.1) hi0.2.2)) (bneF (orF1 h1))) (bneF (orF2 h1)))) (by kernel_rfl)
def F11_s0 (a:List Int) (b:List Int):Int→Lp Int Bool:=fun i40 =>
 bif (decide (i40<(a.length:Int))) then (bif ((a.getD i40.toNat default) != (b.getD i40.toNat default)) then (.ret false) else (.next (i40+1))) else (.done i40)
def F11 (a:List Int) (b:List Int):Bool :=
 bif ((a.length:Int) != (b.length:Int)) then false else ((runL (F11_s0 a b) (((a.length:Int)-0).toNat+1) 0).fin (fun r=>r) (fun i40=>true))
def S11 (a:List Int) (b:List Int):Spec:=⟨[.r (.c (.l 1 eInt a)),.r (.c (.l 1 eInt b))],.v (.bool (F11 a b)),True⟩
theorem ok11 (a:List Int) (b:List Int):(S11 a b).ok Try.prog 11 :=
 fnG_ok mixed (fn:=Try.f11) (ct:=.seqk [(0,0),(1,0)] (.no) (.seq (.seq (.no) (.cond (.seq (.no) (.no)) (.no))) (.seq (.seqk [(0,0),(1,0)] (.no) (.blk (.loop (ι:=Nat×Int) (fun i=>(fun (i40:Int)=>(⟨[(0,some (.h 0 0)),(1,some (.h 1 0)),(5,some (.v (vI i40)))],[(0,some (.shr none (.l 1 eInt a))),(1,some (.shr none (.l 1 eInt b)))],2⟩:St)) i.2) (fun i=>runL (F11_s0 a b) i.1 i.2=(runL (F11_s0 a b) (((a.length:Int)-0).toNat+1) 0)∧(fun (i40:Int)=>(Int.toNat ((a.length:Int)-i40)<i.1∧(0:Int)≤i40)) i.2) (fun i=>i.1) ((((a.length:Int)-0).toNat+1),0) (fun i=>(fun (i40:Int)=>(.seq (.seq (.no) (.cond (.no) (.no))) (.seq (.blk (.seq (.no) (.cond (.seq (.no) (.no)) (.no)))) (.reg [(1,.bnd)])))) i.2)))) (.seq (.no) (.no))))) Try.func11 (fun (_:True)=>fun (_:a.length≤9223372036854775807)=>fun (_:b.length≤9223372036854775807)=>ai (fun h1:((a.length:Int) != (b.length:Int))=true=>(fun _:¬ (a.length:Int)=(b.length:Int)=>(fun hF:(false:Bool)=(F11 a b)=>ai (congrArg (fun r:Bool=>(.bool r:Value)) hF) (trivial)) (condT h1 (rfl))) (bneT h1)) (fun h1:((a.length:Int) != (b.length:Int))=false=>(fun _:(a.length:Int)=(b.length:Int)=>fun (_:a.length≤9223372036854775807)=>fun (_:b.length≤9223372036854775807)=>ai (ai (rfl) (ai (ir) (ai (ir) ((ai (rfl:runL (F11_s0 a b) (((a.length:Int)-0).toNat+1) 0=(runL (F11_s0 a b) (((a.length:Int)-0).toNat+1) 0)) (ai ((Nat.lt_succ_self _:Int.toNat ((a.length:Int)-0)<(((a.length:Int)-0).toNat+1))) ((by omega:(0:Int)≤0))))))):((.int .i64 0:Value)=.int .i64 0)∧(Imp (.l 1 eInt a) (.l 1 eInt a))∧(Imp (.l 1 eInt b) (.l 1 eInt b))∧(runL (F11_s0 a b) (((a.length:Int)-0).toNat+1) 0=(runL (F11_s0 a b) (((a.length:Int)-0).toNat+1) 0)∧Int.toNat ((a.length:Int)-0)<(((a.length:Int)-0).toNat+1)∧(0:Int)≤0)) (fun (i0:Nat×Int) (hi0:runL (F11_s0 a b) i0.1 i0.2=(runL (F11_s0 a b) (((a.length:Int)-0).toNat+1) 0)∧(fun (i40:Int)=>(Int.toNat ((a.length:Int)-i40)<i0.1∧(0:Int)≤i40)) i0.2)=>(fun (m0:Nat) (i40:Int) (hI0:runL (F11_s0 a b) (m0+1) i40=(runL (F11_s0 a b) (((a.length:Int)-0).toNat+1) 0)) (_:Int.toNat ((a.length:Int)-i40)<m0+1) (hl0:m0<i0.1) (_:(0:Int)≤i40)=>ai (fun h3:(decide (i40<(a.length:Int)))=true=>(fun _:i40<(a.length:Int)=>ai ((by omega:0≤i40∧i40<(a.length:Int))) (ai ((by omega:0≤i40∧i40<(b.length:Int))) (ai (fun h4:((a.getD i40.toNat default) != (b.getD i40.toNat default))=true=>(fun _:¬ (a.getD i40.toNat default)=(b.getD i40.toNat default)=>(fun hF:(false:Bool)=(F11 a b)=>ai (congrArg (fun r:Bool=>(.bool r:Value)) hF) (trivial)) (condF h1 (finR (runL_ret hI0 (condT h3 (condT h4 (rfl)))) rfl))) (bneT h4)) (fun h4:((a.getD i40.toNat default) != (b.getD i40.toNat default))=false=>(fun _:(a.getD i40.toNat default)=(b.getD i40.toNat default)=>ai ((by unfold i64ok; omega:i64ok (i40+1))) (Exists.intro (p:=fun j:Nat×Int=>(fun (i40_:Int)=>(((.int .i64 (i40+1):Value)=.int .i64 i40_)∧(Imp (.l 1 eInt a) (.l 1 eInt a))∧(Imp (.l 1 eInt b) (.l 1 eInt b))∧((runL (F11_s0 a b) j.1 j.2=(runL (F11_s0 a b) (((a.length:Int)-0).toNat+1) 0)∧Int.toNat ((a.length:Int)-i40_)<j.1∧(0:Int)≤i40_)∧j.1<i0.1))) j.2) (m0,(i40+1)) (ai (rfl) (ai (ir) (ai (ir) (ai (ai (runL_next hI0 (condT h3 (condF h4 (rfl)))) (ai ((by omega:Int.toNat ((a.length:Int)-(i40+1))<m0)) ((by omega:(0:Int)≤(i40+1))))) hl0)))))) (bneF h4))))) (of_decide_eq_true h3)) (fun h3:(decide (i40<(a.length:Int)))=false=>(fun _:¬ i40<(a.length:Int)=>(fun hD0_5:(runL (F11_s0 a b) (((a.length:Int)-0).toNat+1) 0)=Lp.done i40=>(fun hF:(true:Bool)=(F11 a b)=>ai (congrArg (fun r:Bool=>(.bool r:Value)) hF) (trivial)) (condF h1 (finD hD0_5 (rfl)))) (runL_done hI0 (condF h3 (rfl)))) (of_decide_eq_false h3))) (i0.1-1) i0.2 (hd1 hi0.1 hi0.2.1) (hd2 hi0.2.1) (hd3 hi0.2.1) hi0.2.2)) (bneF h1))) (by kernel_rfl)
def F24 (n:Qe) (box:Int) (label:Int):List Int :=
 bif (bif (!(netB n)) then true else (!(decide (0≤box∧box≤(n.Qa.length:Int)-1)))) then ([]:List Int) else (Qu (Qp n n.Qa.length box label)).1
def S24 (n:Qe) (box:Int) (label:Int):Spec:=⟨[.r (.g (Qf n)),.r (.c (.v (vI box))),.r (.c (.v (vI label)))],.ow (.l 1 eInt (F24 n box label)),True⟩
theorem ok24 (n:Qe) (box:Int) (label:Int):(S24 n box label).ok Try.prog 24 :=
 fnG_ok mixed (fn:=Try.f24) (ct:=.seq (.no) (.seq (.seq (.reg [(1,.call 13 (S13 (netB n) n) (oa13 n) none),(6,.call 40 (S40 (decide (0≤box∧box≤(n.Qa.length:Int)-1)) n box) (oa40 n box) none)]) (.cond (.seq (.no) (.no)) (.no))) (.seq (.reg [(3,.call 62 (T62 (Qu (Qp n n.Qa.length box label)) n box label) (oa62 n box label) none)]) (.seq (.no) (.no))))) Try.func24 (fun (_:True)=>ai (trivial) (ai ((Imps.refl (Qf n))) (ai ((fun k1:(!(netB n))=false=>(fun _:n.Qb.length≤14=>(fun _:n.Qa.length≤8=>(fun _:Qt n=>((by omega:n.Qa.length≤9223372036854775807))) (netB_T n (notEF k1))) (netB_8 n (notEF k1))) (netB_14 n (notEF k1)))) (ai ((fun k2:(!(netB n))=false=>(fun _:n.Qb.length≤14=>(fun _:n.Qa.length≤8=>(fun _:Qt n=>(Imps.refl (Qf n))) (netB_T n (notEF k2))) (netB_8 n (notEF k2))) (netB_14 n (notEF k2)))) (ai ((fun k3:(!(netB n))=false=>(fun _:n.Qb.length≤14=>(fun _:n.Qa.length≤8=>(fun _:Qt n=>(Imp.refl (.v (vI box)))) (netB_T n (notEF k3))) (netB_8 n (notEF k3))) (netB_14 n (notEF k3)))) (ai (fun h4:(bif (!(netB n)) then true else (!(decide (0≤box∧box≤(n.Qa.length:Int)-1))))=true=>(fun hF:(([]:List Int):List Int)=(F24 n box label)=>ai ((Imp.nil 1 eInt).trans (Imp.of_eq (congrArg (fun r:List Int=>Dat.l 1 eInt r) hF))) (trivial)) (condT h4 (rfl))) (fun h4:(bif (!(netB n)) then true else (!(decide (0≤box∧box≤(n.Qa.length:Int)-1))))=false=>(fun _:0≤box∧box≤(n.Qa.length:Int)-1=>(fun _:n.Qb.length≤14=>(fun _:n.Qa.length≤8=>(fun _:Qt n=>ai ((ai ((by assumption:Qt n)) (ai ((by omega:0≤box)) (ai ((by omega:box<(n.Qa.length:Int))) ((by omega:n.Qa.length≤8)))))) (ai ((Imps.refl (Qf n))) (ai ((Imp.refl (.v (vI box)))) (ai ((Imp.refl (.v (vI label)))) ((fun gv5:(Qu (Qp n n.Qa.length box label)).2.1.length=(Qu (Qp n n.Qa.length box label)).1.length=>(fun hF:((Qu (Qp n n.Qa.length box label)).1:List Int)=(F24 n box label)=>ai (Imp.of_eq (congrArg (fun r:List Int=>Dat.l 1 eInt r) hF)) (trivial)) (condF h4 (rfl))) (path_len n box label)))))) (netB_T n (notEF (orF1 h4)))) (netB_8 n (notEF (orF1 h4)))) (netB_14 n (notEF (orF1 h4)))) (of_decide_eq_true (notEF (orF2 h4)))))))))) (by kernel_rfl)
theorem implPath_eq (n:Qe) (b l:Int):F24 n b l=Qs n b l:=by
 unfold F24 Qs
 cases netB n
 ·rfl
 ·cases decide (0≤b∧b≤(n.Qa.length:Int)-1) <;> rfl
theorem net_same (x:Qe):F25 x x=true:=by
 unfold F25
 have e1:(bif ((x.Qb.length:Int) != (x.Qb.length:Int)) then true else ((x.Qa.length:Int) != (x.Qa.length:Int)))=false:=by simp
 rw [e1,cond_false]
 have l0:=runL_rule (step:=F25_s0 x x) (fun (k:Nat) (_:Unit)=>(k:Int)) x.Qb.length (fun _ _=>True) (fun _=>False)
  (fun k _ hk _=>.inl ⟨(),by simp only [F25_s0,ltD hk,cond_true,beq_self_eq_true,Bool.and_self,Bool.not_true,cond_false]; rfl,trivial⟩)
  (fun _ _=>by simp [F25_s0]) x.Qb.length 0 () (by omega) trivial (Int.toNat ((x.Qb.length:Int)-0)+1) (by omega)
 have l1:=runL_rule (step:=F25_s1 x x) (fun (k:Nat) (_:Unit)=>(k:Int)) x.Qa.length (fun _ _=>True) (fun _=>False)
  (fun k _ hk _=>.inl ⟨(),by
   have l2:=runL_rule (step:=F25_s2 x x (k:Int)) (fun (j:Nat) (_:Unit)=>(j:Int)) (x.Qa.getD k default).Rows.length (fun _ _=>True) (fun _=>False)
    (fun j _ hj _=>.inl ⟨(),by simp only [F25_s2,nn,ltD hj,cond_true,beq_self_eq_true,Bool.and_self,Bool.not_true,cond_false]; rfl,trivial⟩)
    (fun _ _=>by simp [F25_s2]) (x.Qa.getD k default).Rows.length 0 () (by omega) trivial (Int.toNat (((x.Qa.getD k default).Rows.length:Int)-0)+1) (by omega)
   have l3:=runL_rule (step:=F25_s3 x x (k:Int)) (fun (j:Nat) (_:Unit)=>(j:Int)) (x.Qa.getD k default).Qc.length (fun _ _=>True) (fun _=>False)
    (fun j _ hj _=>.inl ⟨(),by simp only [F25_s3,nn,ltD hj,cond_true,beq_self_eq_true,Bool.and_self,Bool.not_true,cond_false]; rfl,trivial⟩)
    (fun _ _=>by simp [F25_s3]) (x.Qa.getD k default).Qc.length 0 () (by omega) trivial (Int.toNat (((x.Qa.getD k default).Qc.length:Int)-0)+1) (by omega)
   have e2:(bif (((x.Qa.getD k default).Rows.length:Int) != ((x.Qa.getD k default).Rows.length:Int)) then true else (((x.Qa.getD k default).Qc.length:Int) != ((x.Qa.getD k default).Qc.length:Int)))=false:=by simp
   simp only [F25_s1,ltD hk,cond_true,nn]
   rw [e2,cond_false]
   rcases l2 with ⟨_,l2,_⟩ | ⟨_,_,l2⟩
   ·rcases l3 with ⟨_,l3,_⟩ | ⟨_,_,l3⟩
    ·have l2':runL (F25_s2 x x (k:Int)) (Int.toNat (((x.Qa.getD k default).Rows.length:Int)-0)+1) 0=_:=l2
     have l3':runL (F25_s3 x x (k:Int)) (Int.toNat (((x.Qa.getD k default).Qc.length:Int)-0)+1) 0=_:=l3
     rw [l2',l3']; rfl
    ·exact l3.elim
   ·exact l2.elim,trivial⟩)
  (fun _ _=>by simp [F25_s1]) x.Qa.length 0 () (by omega) trivial (Int.toNat ((x.Qa.length:Int)-0)+1) (by omega)
 rcases l0 with ⟨_,l0,_⟩ | ⟨_,_,l0⟩
 ·rcases l1 with ⟨_,l1,_⟩ | ⟨_,_,l1⟩
  ·have l0':runL (F25_s0 x x) (Int.toNat ((x.Qb.length:Int)-0)+1) 0=_:=l0
   have l1':runL (F25_s1 x x) (Int.toNat ((x.Qa.length:Int)-0)+1) 0=_:=l1
   rw [l0',l1']; rfl
  ·exact l1.elim
 ·exact l0.elim
theorem ints_same (a:List Int):F11 a a=true:=by
 unfold F11
 rw [bne_self_eq_false,cond_false]
 have l0:=runL_rule (step:=F11_s0 a a) (fun (k:Nat) (_:Unit)=>(k:Int)) a.length (fun _ _=>True) (fun _=>False)
  (fun k _ hk _=>.inl ⟨(),by simp only [F11_s0,ltD hk,cond_true,bne_self_eq_false,cond_false]; rfl,trivial⟩)
  (fun _ _=>by simp [F11_s0]) a.length 0 () (by omega) trivial (Int.toNat ((a.length:Int)-0)+1) (by omega)
 rcases l0 with ⟨_,l0,_⟩ | ⟨_,_,l0⟩
 ·have l0':runL (F11_s0 a a) (Int.toNat ((a.length:Int)-0)+1) 0=_:=l0
  rw [l0']; rfl
 ·exact l0.elim
theorem labTear_cases (n:Qe) (box label:Int):(netB n=false∧Qw n box label=(⟨[],[]⟩,1))∨(netB n=true∧Qs n box label=[]∧Qw n box label=(n,2)) ∨
  (∃ c,(c=4∨c=5)∧Qw n box label=(n,c)) ∨
  (Qt n∧0≤box∧box<(n.Qa.length:Int)∧∃ l xs,Qp n n.Qa.length box label=some l∧Qs n box label=l.map (·.1)∧TearI n l xs∧Qw n box label=(⟨n.Qb,xs⟩,0)):=by
 unfold Qw F22
 cases hb:netB n
 ·exact .inl ⟨rfl,rfl⟩
 simp only [Bool.not_true,cond_false]
 by_cases hr:0≤box∧box≤(n.Qa.length:Int)-1
 rotate_left
 ·have:Qs n box label=[]:=by unfold Qs; rw [decide_eq_false hr,Bool.and_false]; rfl
  rw [this,decide_eq_false hr]; exact .inr (.inl ⟨trivial,rfl,rfl⟩)
 rw [decide_eq_true hr]
 have hN:=netB_T n hb
 have hlp:Qs n box label=(Qu (Qp n n.Qa.length box label)).1:=by unfold Qs; rw [hb,decide_eq_true hr]; rfl
 cases e:Qp n n.Qa.length box label with
 | none=>rw [hlp,e]; exact .inr (.inl ⟨trivial,rfl,rfl⟩)
 | some l =>
  have hl:Qs n box label=l.map (·.1):=by rw [hlp,e]; rfl
  simp only [Qu,Bool.not_true,cond_false]
  cases F63 n box label
  rotate_left
  ·exact .inr (.inr (.inl ⟨4,.inl rfl,rfl⟩))
  simp only [cond_false]
  let Gd:Nat→Bool:=fun k=>F64 n (l.getD k default).1 (l.getD k default).2
  have hlen:(l.map (·.1)).length=l.length:=List.length_map _
  have hi0:=fun (g:Int→Qe×Int)=>search (τ:=Qe×Int) Gd (fun _=>((n,5):Qe×Int)) (l.map (·.1)).length (F22_s0 n box label) (fun k hk=>by
   have hk':k<l.length:=by rw [← hlen]; exact hk
   simp only [F22_s0,e,Qu,ltD hk,cond_true,nn,Gd,getD_map1 _ _ hk']) (by simp [F22_s0,e,Qu]) (fun r=>r) g
  have hi1:=runL_rule (step:=F22_s1 n box label) (fun (k:Nat) (s:List Qi)=>((k:Int),s)) l.length (fun k s=>TearI n (l.take k) s) (fun _=>False)
   (fun k s hk hI=>by
    refine .inl ⟨_,by simp only [F22_s1,e,Qu,hlen,ltD hk,cond_true,nn,getD_map1 _ _ hk]; rfl,?_⟩
    have hx:=pathFrom_all hN _ _ _ _ hr.1 (by omega) e _ (getD_mem l hk)
    rw [show l.take (k+1)=l.take k++[l.getD k default] from by rw [List.take_add_one,List.getElem?_eq_getElem hk,getD_lt l hk]; rfl]
    refine hI.next _ _ (by omega) ?_
    rw [hI.2 _ (by omega)]
    congr 1
    refine List.filter_congr fun r _=>?_
    simp only [F66,nn,getD_map1 _ _ hk,beqD])
   (fun s _=>by simp [F22_s1,e,Qu]) l.length 0 n.Qa (by omega) ⟨rfl,fun k _=>(tearBox_nil n k).symm⟩ (l.length+1) (Nat.lt_succ_self _)
  rw [hi0,hlen]
  have hn2:Int.toNat ((l.length:Int)-0)+1=l.length+1:=by omega
  cases first Gd l.length with
  | some k=>exact .inr (.inr (.inl ⟨5,.inr rfl,rfl⟩))
  | none =>
   rcases hi1 with ⟨ys,g1,g2⟩ | ⟨_,_,hf⟩
   ·simp only [hn2]
    rw [show ((0:Int),n.Qa)=(((0:Nat):Int),n.Qa) from rfl,g1]
    rw [List.take_length] at g2
    exact .inr (.inr (.inr ⟨hN,hr.1,by omega,l,ys,rfl,hl,g2,rfl⟩))
   ·exact hf.elim
def bx (n:Qe) (i:Int):Qi:=n.Qa.getD i.toNat default
theorem bx_ok {n:Qe} (h:Qt n) {i:Int} (h0:0≤i) (h1:i<(n.Qa.length:Int)):BoxP n i (bx n i):=by
 have hb:=boxP_ok.1 (h.box i.toNat (by omega))
 rwa [show ((Int.toNat i:Nat):Int)=i from by omega] at hb
theorem rowP_mem {n:Qe} (h:Qt n) {i:Int} (h0:0≤i) (h1:i<(n.Qa.length:Int)) {r:Qk} (hr:r∈(bx n i).Rows):rowP (bx n i) r.In=(r,true):=by
 obtain ⟨⟨_,hpw⟩,_⟩:=bx_ok h h0 h1
 obtain ⟨j,hj,ej⟩:=mem_getD hr
 unfold rowP rowIx
 cases e:first (fun k=>decide (((bx n i).Rows.getD k default).In=r.In)) (bx n i).Rows.length with
 | none =>
  have:=first_none.1 e j hj
  rw [ej] at this
  exact absurd rfl (of_decide_eq_false this)
 | some k =>
  obtain ⟨g1,g2,_⟩:=first_some.1 e
  have:(bx n i).Rows.getD k default=r:=pairK_uniq hpw (getD_mem _ g1) hr (of_decide_eq_true g2)
  simp only [this]
structure Tun (n:Qe) (p ls:List Int):Prop where
 one:1≤p.length
 len:ls.length=p.length
 rng:∀ i,i<p.length→0≤p.getD i default∧p.getD i default<(n.Qa.length:Int)
 row:∀ i,i<p.length→rowAt p ls i∈(bx n (p.getD i default)).Rows
structure Sub (n n':Qe):Prop where
 links:n'.Qb=n.Qb
 len:n'.Qa.length=n.Qa.length
 rows:∀ (i:Int) (r:Qk),r∈(bx n i).Rows→r∈(bx n' i).Rows
 gds:∀ (i:Int) (v:Qn),v∈(bx n i).Qc→v∈(bx n' i).Qc
theorem Sub.refl (n:Qe):Sub n n:=⟨rfl,rfl,fun _ _ h=>h,fun _ _ h=>h⟩
theorem Sub.trans {a b c:Qe} (h:Sub a b) (k:Sub b c):Sub a c:=⟨k.links.trans h.links,k.len.trans h.len,fun i r hr=>k.rows i r (h.rows i r hr),fun i v hv=>k.gds i v (h.gds i v hv)⟩
theorem Tun.mono {n n':Qe} {p ls:List Int} (h:Tun n p ls) (hs:Sub n n'):Tun n' p ls :=
 ⟨h.one,h.len,fun i hi=>by rw [hs.len]; exact h.rng i hi,fun i hi=>hs.rows _ _ (h.row i hi)⟩
theorem linkOf_sub {n n':Qe} (h:n'.Qb=n.Qb) (a b:Int):Qr n' a b=Qr n a b:=by
 unfold Qr isLink
 rw [h]
theorem Sub.link {n n':Qe} (h:Sub n n') (a b:Int):Qr n' a b=Qr n a b:=linkOf_sub h.links a b
theorem adj_sub {n n':Qe} (hs:Sub n n') (w i j:Int):adj n' w i j↔adj n w i j:=by unfold adj; rw [hs.link]
theorem far_sub {n n':Qe} (hs:Sub n n') (hf:FrameOk n) (hf':FrameOk n') {b:Int} (h0:0≤b) (h1:b<(n.Qa.length:Int)) (w:Int):F80 n' b w=F80 n b w:=by
 have d1:=far_isDist n b w hf h0 h1
 have d2:=far_isDist n' b w hf' h0 (by rw [hs.len]; exact h1)
 refine IsDist.unique (n:=n) (b:=b) (w:=w) ?_ d1
 obtain ⟨a1,a2,a3,a4,a5,a6⟩:=d2
 rw [hs.len] at a1 a3 a4 a5 a6
 exact ⟨a1,a2,a3,fun k hk hp=>by
  obtain ⟨j,g1,g2,g3⟩:=a4 k hk hp
  exact ⟨j,g1,(adj_sub hs _ _ _).1 g2,g3⟩,a5,fun j k hj hk ha hq=>a6 j k hj hk ((adj_sub hs _ _ _).2 ha) hq⟩
theorem nextOf_sub {n n':Qe} (hs:Sub n n') (f:List Int) (a w:Int):nextOf n' f a w=nextOf n f a w:=by
 unfold nextOf nextB
 simp only [hs.link]
theorem wayGo_sub {n n':Qe} (hs:Sub n n') (f:List Int) (w:Int):∀ (m:Nat) (x:Int),wayGo n' f w m x=wayGo n f w m x
 | 0,_=>rfl
 | m+1,x=>by simp only [wayGo,nextOf_sub hs,wayGo_sub hs f w m]
theorem wayOf_sub {n n':Qe} (hs:Sub n n') (hf:FrameOk n) (hf':FrameOk n') {b:Int} (h0:0≤b) (h1:b<(n.Qa.length:Int)) (a w:Int):Qx n' a b w=Qx n a b w:=by
 unfold Qx
 rw [far_sub hs hf hf' h0 h1]
 simp only [wayGo_sub hs]
theorem wayP_sub {n n':Qe} (hs:Sub n n') (hf:FrameOk n) (hf':FrameOk n') {a b:Int} (hl:0≤Qr n a b):wayP n' a b=wayP n a b:=by
 have:=linkOf_in hf hl
 unfold wayP
 rw [hs.link]
 exact wayOf_sub hs hf hf' this.2.2.1 this.2.2.2.1 a _
theorem layTo_skip {n:Qe} {path:List Int} (labels:List Int) {k:Nat}:∀ m,(∀ i,i<m→Int.toNat (path.getD i default)≠k)→(layTo n path labels m).getD k default=n.Qa.getD k default
 | 0,_=>rfl
 | m+1,h=>by
  rw [layTo,getD_set,if_neg (fun e=>h m (Nat.lt_succ_self _) e.1)]
  exact layTo_skip labels m fun i hi=>h i (by omega)
def laidP (n:Qe) (path:List Int):Qe:=⟨n.Qb,layTo n path (labsOf n path) path.length⟩
theorem laid_box {n:Qe} {path:List Int} (h:LayP n path (labsOf n path)) (i:Int):(∀ r∈(bx n i).Rows,r∈(bx (laidP n path) i).Rows)∧(bx (laidP n path) i).Rows.length≤(bx n i).Rows.length+1∧(bx (laidP n path) i).Qc=(bx n i).Qc:=by
 unfold bx laidP
 simp only
 by_cases hx:∃ j,j<path.length∧Int.toNat (path.getD j default)=Int.toNat i
 ·obtain ⟨j,hj,e⟩:=hx
  have hd:=layTo_done h.pth (labsOf n path) path.length j hj (Nat.le_refl _)
  rw [e] at hd
  rw [hd]
  exact ⟨fun r hr=>putK_mem.2 (.inl hr),by simp only [putK_len]; omega,rfl⟩
 ·rw [layTo_skip (labsOf n path) path.length fun j hj e=>hx ⟨j,hj,e⟩]
  exact ⟨fun r hr=>hr,by omega,rfl⟩
theorem laid_sub {n:Qe} {path:List Int} (h:LayP n path (labsOf n path)):Sub n (laidP n path) :=
 ⟨rfl,layTo_len _ _ _ _,fun i r hr=>(laid_box h i).1 r hr,fun i v hv=>by rw [(laid_box h i).2.2]; exact hv⟩
theorem laid_tun {n:Qe} {path:List Int} (h:LayP n path (labsOf n path)):Tun (laidP n path) path (labsOf n path):=by
 refine ⟨by have:=h.pth.two; omega,h.len,fun i hi=>by rw [(laid_sub h).len]; exact h.pth.rng i hi,fun i hi=>?_⟩
 unfold bx laidP
 simp only
 rw [layTo_done h.pth (labsOf n path) path.length i hi (Nat.le_refl _)]
 exact putK_mem.2 (.inr rfl)
def Gd (n:Qe) (a b:Int):Prop :=
 ((wayP n a b).length=0→guardIx (bx n a) b=none)∧((wayP n a b).length≠0→∃ gl,Tun n (wayP n a b) gl∧(⟨b,(wayP n a b).getD 1 default,gl.getD 1 default⟩:Qn)∈(bx n a).Qc)
theorem Gd.mono {n n':Qe} (hs:Sub n n') (hf:FrameOk n) (hf':FrameOk n') {a b:Int} (hl:0≤Qr n a b) (h:Gd n a b) (hg:guardIx (bx n a) b=none→guardIx (bx n' a) b=none):Gd n' a b:=by
 have e:=wayP_sub hs hf hf' hl
 refine ⟨fun hw=>?_,fun hw=>?_⟩
 ·rw [e] at hw; exact hg (h.1 hw)
 ·rw [e] at hw
  obtain ⟨gl,g1,g2⟩:=h.2 hw
  rw [e]
  exact ⟨gl,g1.mono hs,hs.gds _ _ g2⟩
structure GI (n x:Qe) (k:Nat):Prop where
 net:Qt x
 sub:Sub n x
 rows:∀ i:Int,(bx x i).Rows.length≤(bx n i).Rows.length+2*k
 done:∀ j,j<k→Gd x (n.Qb.getD j default).A (n.Qb.getD j default).B∧Gd x (n.Qb.getD j default).B (n.Qb.getD j default).A
 todo:∀ j,k≤j→j<n.Qb.length→guardIx (bx x (n.Qb.getD j default).A) (n.Qb.getD j default).B=none∧guardIx (bx x (n.Qb.getD j default).B) (n.Qb.getD j default).A=none
theorem rowAt_goP {p ls:List Int} {i:Nat} (h:i+1<p.length):rowAt p ls i=⟨ls.getD i default,p.getD (i+1) default,ls.getD (i+1) default⟩:=by
 unfold rowAt
 rw [decide_eq_true (by omega:(i:Int)+1<(p.length:Int))]; rfl
theorem rowAt_endP {p ls:List Int} {i:Nat} (h:p.length≤i+1):rowAt p ls i=⟨ls.getD i default,-1,0⟩:=by
 unfold rowAt
 rw [decide_eq_false (by omega:¬ (i:Int)+1<(p.length:Int))]; rfl
theorem rowAt_In (p ls:List Int) (i:Nat):(rowAt p ls i).In=ls.getD i default:=by
 unfold rowAt
 cases decide ((i:Int)+1<(p.length:Int)) <;> rfl
theorem rowIx_mem {n:Qe} (h:Qt n) {i:Int} (h0:0≤i) (h1:i<(n.Qa.length:Int)) {r:Qk} (hr:r∈(bx n i).Rows):∃ k,rowIx (n.Qa.getD i.toNat default) r.In=some k∧(n.Qa.getD i.toNat default).Rows.getD k default=r:=by
 have hq:=rowP_mem h h0 h1 hr
 unfold rowP bx at hq
 cases e:rowIx (n.Qa.getD i.toNat default) r.In with
 | none=>rw [e] at hq; simp at hq
 | some k=>rw [e] at hq; exact ⟨k,rfl,(Prod.mk.inj hq).1⟩
theorem tun_path {n:Qe} (hn:Qt n) {p ls:List Int} (T:Tun n p ls):∀ (d i:Nat),i+d+1=p.length→Qp n (d+1) (p.getD i default) (ls.getD i default)=some ((p.drop i).zip (ls.drop i))
 | d,i,hd=>by
  have hr:=T.rng i (by omega)
  have hlen:=T.len
  obtain ⟨k,k1,k2⟩:=rowIx_mem hn hr.1 hr.2 (T.row i (by omega))
  rw [rowAt_In] at k1
  have ez:(p.drop i).zip (ls.drop i)=(p.getD i default,ls.getD i default) :: (p.drop (i+1)).zip (ls.drop (i+1)):=by
   rw [List.drop_eq_getElem_cons (by omega:i<p.length),List.drop_eq_getElem_cons (by omega:i<ls.length),List.zip_cons_cons,getD_lt p (by omega),getD_lt ls (by omega)]
  unfold Qp
  rw [k1]
  simp only [k2]
  cases d with
  | zero =>
   rw [rowAt_endP (by omega),ez]
   simp only [show ((-1:Int)<0) from by decide,if_true]
   rw [List.drop_eq_nil_of_le (by omega:p.length≤i+1)]; rfl
  | succ d =>
   have hr2:=T.rng (i+1) (by omega)
   rw [rowAt_goP (by omega),ez]
   simp only [show ¬ p.getD (i+1) default<0 from by omega,if_false]
   rw [tun_path hn T d (i+1) (by omega)]; rfl
theorem tun_labPath {n:Qe} (hn:Qt n) {p ls:List Int} (T:Tun n p ls) (hp:p.length≤n.Qa.length) {i:Nat} (hi:i<p.length) :
  Qp n n.Qa.length (p.getD i default) (ls.getD i default)=some ((p.drop i).zip (ls.drop i))∧Qs n (p.getD i default) (ls.getD i default)=p.drop i:=by
 have hr:=T.rng i hi
 have hlen:=T.len
 have h1:=tun_path hn T (p.length-i-1) i (by omega)
 have h2:=pathFrom_mono _ _ _ _ h1 (n.Qa.length-(p.length-i-1+1))
 rw [show p.length-i-1+1+(n.Qa.length-(p.length-i-1+1))=n.Qa.length by omega] at h2
 refine ⟨h2,?_⟩
 unfold Qs
 rw [netB_ok.2 hn,decide_eq_true (⟨hr.1,by omega⟩:0≤p.getD i default∧p.getD i default≤(n.Qa.length:Int)-1),h2]
 simp only [Bool.and_self,cond_true,Qu]
 exact List.map_fst_zip (by simp only [List.length_drop]; omega)
theorem path_sub {n n':Qe} (hn:Qt n) (hn':Qt n') (hs:Sub n n'):∀ (m:Nat) (box label:Int) (l:List (Int×Int)),0≤box→box<(n.Qa.length:Int)→Qp n m box label=some l→Qp n' m box label=some l
 | 0,_,_,_,_,_,h=>by simp [Qp] at h
 | m+1,box,label,l,h0,h1,h=>by
  unfold Qp at h ⊢
  cases e:rowIx (n.Qa.getD box.toNat default) label with
  | none=>rw [e] at h; cases h
  | some k =>
   rw [e] at h
   obtain ⟨f1,f2,_⟩:=first_some.1 e
   have f2:=of_decide_eq_true f2
   have hm:=hs.rows box _ (getD_mem _ f1)
   obtain ⟨k',g1,g2⟩:=rowIx_mem hn' h0 (by rw [hs.len]; exact h1) hm
   have f2b:((bx n box).Rows.getD k default).In=label:=f2
   rw [f2b] at g1
   have g2:(n'.Qa.getD box.toNat default).Rows.getD k' default=(n.Qa.getD box.toNat default).Rows.getD k default:=g2
   have hnx:=row_next hn h0 h1 (k:=(k:Int)) (by omega) (by omega)
   rw [nn] at hnx
   rw [g1]
   simp only [g2]
   simp only at h
   by_cases hx:((n.Qa.getD box.toNat default).Rows.getD k default).Next<0
   ·rw [if_pos hx] at h ⊢; exact h
   ·rw [if_neg hx] at h ⊢
    cases e2:Qp n m ((n.Qa.getD box.toNat default).Rows.getD k default).Next ((n.Qa.getD box.toNat default).Rows.getD k default).Out with
    | none=>rw [e2] at h; cases h
    | some l' =>
     rw [e2] at h
     rw [path_sub hn hn' hs m _ _ l' (by omega) (by omega) e2]; exact h
theorem labPath_sub {n n':Qe} (hn:Qt n) (hn':Qt n') (hs:Sub n n') (box label:Int) (hne:(Qs n box label).length≠0):Qs n' box label=Qs n box label:=by
 unfold Qs at hne ⊢
 rw [netB_ok.2 hn] at hne ⊢
 rw [netB_ok.2 hn',hs.len]
 by_cases hr:0≤box∧box≤(n.Qa.length:Int)-1
 ·rw [decide_eq_true hr] at hne ⊢
  simp only [Bool.and_self,cond_true] at hne ⊢
  cases e:Qp n n.Qa.length box label with
  | none=>rw [e] at hne; exact absurd rfl hne
  | some l=>rw [path_sub hn hn' hs _ _ _ l hr.1 (by omega) e]
 ·rw [decide_eq_false hr] at hne; exact absurd rfl hne
theorem putK_filter {α:Type} [Inhabited α] (key:α→Int) (xs:List α) (r:α) (q:α→Bool) (hr:q r=false) (hx:∀ x∈xs,q x=true):(putK key xs r).filter q=xs:=by
 unfold putK
 generalize stopAt _ _=k
 rw [List.filter_append,List.filter_append,List.filter_eq_self.2 (fun x h=>hx x (List.mem_of_mem_take h)),List.filter_eq_self.2 (fun x h=>hx x (List.mem_of_mem_drop h)),List.filter_cons,hr]
 simp
theorem tear_laid {n:Qe} {p:List Int} (L:LayP n p (labsOf n p)):TearI (laidP n p) (p.zip (labsOf n p)) n.Qa:=by
 have hlen:=L.len
 refine ⟨(layTo_len _ _ _ _).symm,fun k hk=>?_⟩
 have hzm:∀ a b:Int,(a,b)∈p.zip (labsOf n p)→∃ i,i<p.length∧a=p.getD i default∧b=(labsOf n p).getD i default:=fun a b h=>by
  obtain ⟨i,hi,e⟩:=List.mem_iff_getElem.1 h
  rw [List.length_zip] at hi
  rw [List.getElem_zip] at e
  refine ⟨i,by omega,?_,?_⟩
  ·rw [getD_lt p (by omega)]; exact (Prod.mk.inj e).1.symm
  ·rw [getD_lt _ (by omega)]; exact (Prod.mk.inj e).2.symm
 have hzi:∀ i,i<p.length→(p.getD i default,(labsOf n p).getD i default)∈p.zip (labsOf n p):=fun i hi=>by
  refine List.mem_iff_getElem.2 ⟨i,by rw [List.length_zip]; omega,?_⟩
  rw [List.getElem_zip,getD_lt p hi,getD_lt _ (by omega)]
 unfold tearBox laidP
 simp only
 by_cases hx:∃ i,i<p.length∧Int.toNat (p.getD i default)=k
 ·obtain ⟨i,hi,rfl⟩:=hx
  rw [layTo_done L.pth (labsOf n p) p.length i hi (Nat.le_refl _)]
  have hnew:=L.new hi
  rw [putK_filter]
  ·rw [Bool.not_eq_false',List.any_eq_true]
   refine ⟨_,hzi i hi,?_⟩
   rw [rowAt_In]; simp
  ·intro r hr
   rw [Bool.not_eq_true',List.any_eq_false]
   rintro ⟨a,b⟩ hab
   obtain ⟨j,hj,rfl,rfl⟩:=hzm a b hab
   simp only [Bool.and_eq_true,decide_eq_true_eq,not_and]
   intro ha hb
   have hji:j=i:=Classical.byContradiction fun hne=>L.pth.ne hj hi hne ha
   subst hji
   have:=hnew r hr
   rw [rowAt_In] at this
   exact this hb
 ·rw [layTo_skip (labsOf n p) p.length fun i hi e=>hx ⟨i,hi,e⟩]
  rw [List.filter_eq_self.2]
  intro r _
  rw [Bool.not_eq_true',List.any_eq_false]
  rintro ⟨a,b⟩ hab
  obtain ⟨j,hj,rfl,rfl⟩:=hzm a b hab
  simp only [Bool.and_eq_true,decide_eq_true_eq,not_and]
  intro ha
  exact absurd ⟨j,hj,ha⟩ hx
theorem labLay_two (n:Qe) (path:List Int):(Qv n path).2.2=0→2≤path.length:=by
 unfold Qv layR
 cases netB n
 ·intro h; simp at h
 ·cases hp:pathB n path
  ·intro h; simp at h
  ·intro _; exact (pathB_ok.1 hp).two
def F34 (Qd:SV) (code:List Int):Qe×List Int :=
 bif (bif ((F39 ⟨(F36 Qd code).1.b,(F60 ⟨(F36 Qd code).1.b,(F37 ⟨(F36 Qd code).1.b,(F36 Qd code).1.p⟩).2⟩ (F37 ⟨(F36 Qd code).1.b,(F36 Qd code).1.p⟩).1).2⟩ 8).1==0) then decide (((F60 ⟨(F36 Qd code).1.b,(F37 ⟨(F36 Qd code).1.b,(F36 Qd code).1.p⟩).2⟩ (F37 ⟨(F36 Qd code).1.b,(F36 Qd code).1.p⟩).1).1.length:Int)>0) else false) then (bif ((F39 ⟨(F36 Qd code).1.b,(F39 ⟨(F36 Qd code).1.b,(F60 ⟨(F36 Qd code).1.b,(F37 ⟨(F36 Qd code).1.b,(F36 Qd code).1.p⟩).2⟩ (F37 ⟨(F36 Qd code).1.b,(F36 Qd code).1.p⟩).1).2⟩ 8).2⟩ 3).1==0) then ((F37 ⟨(F36 Qd code).1.b,(F36 Qd code).1.p⟩).1,((([]:List Int)++(F60 ⟨(F36 Qd code).1.b,(F37 ⟨(F36 Qd code).1.b,(F36 Qd code).1.p⟩).2⟩ (F37 ⟨(F36 Qd code).1.b,(F36 Qd code).1.p⟩).1).1)++[((F60 ⟨(F36 Qd code).1.b,(F37 ⟨(F36 Qd code).1.b,(F36 Qd code).1.p⟩).2⟩ (F37 ⟨(F36 Qd code).1.b,(F36 Qd code).1.p⟩).1).1.getD (Int.toNat 0) default)])) else (bif ((F39 ⟨(F36 Qd code).1.b,(F39 ⟨(F36 Qd code).1.b,(F60 ⟨(F36 Qd code).1.b,(F37 ⟨(F36 Qd code).1.b,(F36 Qd code).1.p⟩).2⟩ (F37 ⟨(F36 Qd code).1.b,(F36 Qd code).1.p⟩).1).2⟩ 8).2⟩ 3).1==1) then ((F37 ⟨(F36 Qd code).1.b,(F36 Qd code).1.p⟩).1,((F60 ⟨(F36 Qd code).1.b,(F37 ⟨(F36 Qd code).1.b,(F36 Qd code).1.p⟩).2⟩ (F37 ⟨(F36 Qd code).1.b,(F36 Qd code).1.p⟩).1).1.take (Int.toNat 1))) else ((F37 ⟨(F36 Qd code).1.b,(F36 Qd code).1.p⟩).1,((F60 ⟨(F36 Qd code).1.b,(F37 ⟨(F36 Qd code).1.b,(F36 Qd code).1.p⟩).2⟩ (F37 ⟨(F36 Qd code).1.b,(F36 Qd code).1.p⟩).1).1.set (Int.toNat 0) (IntKind.i64.wrap ((F39 ⟨(F36 Qd code).1.b,(F39 ⟨(F36 Qd code).1.b,(F39 ⟨(F36 Qd code).1.b,(F60 ⟨(F36 Qd code).1.b,(F37 ⟨(F36 Qd code).1.b,(F36 Qd code).1.p⟩).2⟩ (F37 ⟨(F36 Qd code).1.b,(F36 Qd code).1.p⟩).1).2⟩ 8).2⟩ 3).2⟩ 10).1-1)))))) else ((F37 ⟨(F36 Qd code).1.b,(F36 Qd code).1.p⟩).1,(F60 ⟨(F36 Qd code).1.b,(F37 ⟨(F36 Qd code).1.b,(F36 Qd code).1.p⟩).2⟩ (F37 ⟨(F36 Qd code).1.b,(F36 Qd code).1.p⟩).1).1)
def S34 (Qd:SV) (code:List Int):Spec:=⟨[.vl (sv Qd) (.l 1 eByte code)],.tu [.ag [.ow (.l 2 Qh (F34 Qd code).1.Qb),.ow (.l 2 Qj (F34 Qd code).1.Qa)],.ow (.l 1 eInt (F34 Qd code).2)],True⟩
abbrev q34_1 (Qd:SV) (code:List Int):=(F60 ⟨(F36 Qd code).1.b,(F37 ⟨(F36 Qd code).1.b,(F36 Qd code).1.p⟩).2⟩ (F37 ⟨(F36 Qd code).1.b,(F36 Qd code).1.p⟩).1)
abbrev q34_2 (Qd:SV) (code:List Int):=(⟨(F36 Qd code).1.b,(F39 ⟨(F36 Qd code).1.b,(q34_1 Qd code).2⟩ 8).2⟩:l71Rd)
abbrev q34_3 (Qd:SV) (code:List Int):=(⟨(F36 Qd code).1.b,(F36 Qd code).1.p⟩:l71Rd)
abbrev q34_4 (Qd:SV) (code:List Int):=(⟨(F36 Qd code).1.b,(q34_1 Qd code).2⟩:l71Rd)
abbrev q34_5 (Qd:SV) (code:List Int):=(⟨(F36 Qd code).1.b,(F39 (q34_2 Qd code) 3).2⟩:l71Rd)
abbrev q34_6 (Qd:SV) (code:List Int):=((([]:List Int)++(q34_1 Qd code).1)++[((q34_1 Qd code).1.getD (Int.toNat 0) default)])
abbrev q34_7 (Qd:SV) (code:List Int):=(F39 (q34_2 Qd code) 3)
theorem ok34 (Qd:SV) (code:List Int):(S34 Qd code).ok Try.prog 34 :=
 fnG_ok mixed (fn:=Try.f34) (ct:=.seqk [(0,0)] (.no) (.seqg 8 0 1000002 (sv (F36 Qd code).2) (.l 1 eByte (F36 Qd code).1.b) (.reg [(1,.call 36 (S36 Qd code) (ok36 Qd code) none)]) (.seq (.reg [(1,.call 37 (S37 (F36 Qd code).2 1000002 (q34_3 Qd code)) (ok37 (F36 Qd code).2 1000002 (q34_3 Qd code)) none)]) (.seq (.reg [(2,.call 60 (S60 (F36 Qd code).2 1000002 (⟨(F36 Qd code).1.b,(F37 (q34_3 Qd code)).2⟩:l71Rd) (F37 (q34_3 Qd code)).1) (ok60 (F36 Qd code).2 1000002 (⟨(F36 Qd code).1.b,(F37 (q34_3 Qd code)).2⟩:l71Rd) (F37 (q34_3 Qd code)).1) none)]) (.seq (.seq (.reg [(1,.call 39 (S39 (F36 Qd code).2 1000002 (q34_4 Qd code) 8) (ok39 (F36 Qd code).2 1000002 (q34_4 Qd code) 8) none)]) (.cond (.seq (.reg [(1,.call 39 (S39 (F36 Qd code).2 1000002 (q34_2 Qd code) 3) (ok39 (F36 Qd code).2 1000002 (q34_2 Qd code) 3) none)]) (.blk (.seq (.no) (.cond (.reg [(0,.dat (.l 1 eInt ([]:List Int))),(2,.dat (.l 1 eInt (([]:List Int)++(q34_1 Qd code).1))),(7,.dat (.l 1 eInt (q34_6 Qd code)))]) (.seq (.no) (.cond (.reg [(1,.own)]) (.reg [(2,.call 39 (S39 (F36 Qd code).2 1000002 (q34_5 Qd code) 10) (ok39 (F36 Qd code).2 1000002 (q34_5 Qd code) 10) none),(5,.dat (.l 1 eInt ((q34_1 Qd code).1.set (Int.toNat 0) (IntKind.i64.wrap ((F39 (q34_5 Qd code) 10).1-1)))))]))))))) (.no))) (.seq (.no) (.no))))))) Try.func34 (fun (_:True)=>fun (_:code.length≤9223372036854775807)=>ai (trivial) (ai ((Eq.refl (sv Qd))) (ai ((Imp.refl (.l 1 eByte code))) ((fun gv1:((F36 Qd code)).1.b.length≤2000∧((F36 Qd code)).1.p=0=>ai (Eq.refl (sv (F36 Qd code).2)) (ai (gd36 Qd code) (ai ((ai ((by first | omega | (simp only [lens] at*<;> omega):0≤(F36 Qd code).1.p)) (ai ((by first | omega | (simp only [lens] at*<;> omega):(F36 Qd code).1.p≤600000000)) ((by first | omega | (simp only [lens] at*<;> omega):(F36 Qd code).1.b.length≤2000))))) (ai ((Eq.refl (sv (F36 Qd code).2))) (ai ((Imp.refl (.l 1 eByte (F36 Qd code).1.b))) (ai ((Imps.refl [.v (vI (F36 Qd code).1.p)])) ((fun gv2:Small ((F37 (q34_3 Qd code))).1=>(fun gv3:(F36 Qd code).1.p≤((F37 (q34_3 Qd code))).2∧((F37 (q34_3 Qd code))).2≤(F36 Qd code).1.p+170∧((F37 (q34_3 Qd code))).1.Qb.length≤15∧((F37 (q34_3 Qd code))).1.Qa.length≤9=>ai ((ai ((by first | omega | (simp only [lens] at*<;> omega):0≤(F37 (q34_3 Qd code)).2)) (ai ((by first | omega | (simp only [lens] at*<;> omega):(F37 (q34_3 Qd code)).2≤900000000)) (ai ((by first | omega | (simp only [lens] at*<;> omega):(F36 Qd code).1.b.length≤2000)) ((by first | omega | (simp only [lens] at*<;> omega):(F37 (q34_3 Qd code)).1.Qa.length≤1000)))))) (ai ((Eq.refl (sv (F36 Qd code).2))) (ai ((Imp.refl (.l 1 eByte (F36 Qd code).1.b))) (ai ((Imps.refl [.v (vI (F37 (q34_3 Qd code)).2)])) (ai ((Imps.refl (Qf (F37 (q34_3 Qd code)).1))) ((fun gv4:(F37 (q34_3 Qd code)).2≤((q34_1 Qd code)).2∧((q34_1 Qd code)).2≤(F37 (q34_3 Qd code)).2+10∧((q34_1 Qd code)).1.length≤8∧(1≤(F37 (q34_3 Qd code)).1.Qa.length→1≤((q34_1 Qd code)).1.length∧0≤((q34_1 Qd code)).1.getD ((((q34_1 Qd code)).1.length:Int)-1).toNat default∧((q34_1 Qd code)).1.getD ((((q34_1 Qd code)).1.length:Int)-1).toNat default<((F37 (q34_3 Qd code)).1.Qa.length:Int))=>ai ((ai ((by first | omega | (simp only [lens] at*<;> omega):0≤(q34_1 Qd code).2)) (ai ((by first | omega | (simp only [lens] at*<;> omega):(q34_1 Qd code).2≤1000000000)) ((by first | omega | (simp only [lens] at*<;> omega):(F36 Qd code).1.b.length≤2000))))) (ai ((Eq.refl (sv (F36 Qd code).2))) (ai ((Imp.refl (.l 1 eByte (F36 Qd code).1.b))) (ai ((Imps.refl [.v (vI (q34_1 Qd code).2)])) (ai ((Imp.refl (.v (vI 8)))) ((fun gv5:0≤((F39 (q34_4 Qd code) 8)).1∧(1≤(8:Int)→((F39 (q34_4 Qd code) 8)).1<(8:Int))∧((F39 (q34_4 Qd code) 8)).2=(q34_1 Qd code).2+1=>ai (fun h6:(bif ((F39 (q34_4 Qd code) 8).1==0) then decide (((q34_1 Qd code).1.length:Int)>0) else false)=true=>(fun _:((q34_1 Qd code).1.length:Int)>0=>(fun _:(F39 (q34_4 Qd code) 8).1=0=>ai ((ai ((by first | omega | (simp only [lens] at*<;> omega):0≤(F39 (q34_4 Qd code) 8).2)) (ai ((by first | omega | (simp only [lens] at*<;> omega):(F39 (q34_4 Qd code) 8).2≤1000000000)) ((by first | omega | (simp only [lens] at*<;> omega):(F36 Qd code).1.b.length≤2000))))) (ai ((Eq.refl (sv (F36 Qd code).2))) (ai ((Imp.refl (.l 1 eByte (F36 Qd code).1.b))) (ai ((Imps.refl [.v (vI (F39 (q34_4 Qd code) 8).2)])) (ai ((Imp.refl (.v (vI 3)))) ((fun gv7:0≤((q34_7 Qd code)).1∧(1≤(3:Int)→((q34_7 Qd code)).1<(3:Int))∧((q34_7 Qd code)).2=(F39 (q34_4 Qd code) 8).2+1=>ai (fun h8:((q34_7 Qd code).1==0)=true=>(fun _:(q34_7 Qd code).1=0=>ai ((BuildOK.mk eInt ([]:List Int) rfl (by exact trivial) (fun _=>rfl):BuildOK 0 1 [] (.l 1 eInt ([]:List Int)))) (ai ((AppL.mk eInt ([]:List Int) (q34_1 Qd code).1 (Imp.refl (.l 1 eInt ([]:List Int))) ir (fun y=>⟨rfl,fun e he=>by simp only [eInt,List.mem_cons,List.not_mem_nil,or_false] at he; rcases he with rfl <;> exact ⟨_,rfl⟩⟩):AppL (.l 1 eInt ([]:List Int)) (.l 1 eInt (q34_1 Qd code).1) 1 (.l 1 eInt (([]:List Int)++(q34_1 Qd code).1)))) (ai ((by (try simp only [lens]); omega:((([]:List Int)++(q34_1 Qd code).1)).length*8≤140737488355328)) (ai ((by first | omega | (simp only [lens] at*<;> omega):0≤(0:Int)∧(0:Int)<((q34_1 Qd code).1.length:Int))) (ai ((AppA.mk eInt (([]:List Int)++(q34_1 Qd code).1) [((q34_1 Qd code).1.getD (Int.toNat 0) default)] (Imp.refl (.l 1 eInt (([]:List Int)++(q34_1 Qd code).1))) rfl (by exact ai ir (trivial)) (fun _=>rfl):AppA (.l 1 eInt (([]:List Int)++(q34_1 Qd code).1)) 1 1 [.v (vI ((q34_1 Qd code).1.getD (Int.toNat 0) default))] (.l 1 eInt (q34_6 Qd code)))) (ai ((by (try simp only [lens]); omega:((q34_6 Qd code)).length*8≤140737488355328)) ((fun hF:((F37 (q34_3 Qd code)).1,(q34_6 Qd code))=(F34 Qd code)=>ai (Imp.of_eq (congrArg (fun r:Qe×List Int=>Dat.l 2 Qh r.1.Qb) hF)) (ai (Imp.of_eq (congrArg (fun r:Qe×List Int=>Dat.l 2 Qj r.1.Qa) hF)) (ai (Imp.of_eq (congrArg (fun r:Qe×List Int=>Dat.l 1 eInt r.2) hF)) (trivial)))) (condT h6 (condT h8 (rfl)))))))))) (eq_of_beq h8)) (fun h8:((q34_7 Qd code).1==0)=false=>(fun _:¬ (q34_7 Qd code).1=0=>ai (fun h9:((q34_7 Qd code).1==1)=true=>(fun _:(q34_7 Qd code).1=1=>ai ((by first | omega | (simp only [lens] at*<;> omega):0≤(0:Int)∧(0:Int)≤(1:Int)∧(1:Int)≤((q34_1 Qd code).1.length:Int))) ((fun hF:((F37 (q34_3 Qd code)).1,((q34_1 Qd code).1.take (Int.toNat 1)))=(F34 Qd code)=>ai (Imp.of_eq (congrArg (fun r:Qe×List Int=>Dat.l 2 Qh r.1.Qb) hF)) (ai (Imp.of_eq (congrArg (fun r:Qe×List Int=>Dat.l 2 Qj r.1.Qa) hF)) (ai (Imp.of_eq (congrArg (fun r:Qe×List Int=>Dat.l 1 eInt r.2) hF)) (trivial)))) (condT h6 (condF h8 (condT h9 (rfl)))))) (eq_of_beq h9)) (fun h9:((q34_7 Qd code).1==1)=false=>(fun _:¬ (q34_7 Qd code).1=1=>ai ((ai ((by first | omega | (simp only [lens] at*<;> omega):0≤(q34_7 Qd code).2)) (ai ((by first | omega | (simp only [lens] at*<;> omega):(q34_7 Qd code).2≤1000000000)) ((by first | omega | (simp only [lens] at*<;> omega):(F36 Qd code).1.b.length≤2000))))) (ai ((Eq.refl (sv (F36 Qd code).2))) (ai ((Imp.refl (.l 1 eByte (F36 Qd code).1.b))) (ai ((Imps.refl [.v (vI (q34_7 Qd code).2)])) (ai ((Imp.refl (.v (vI 10)))) ((fun gv10:0≤((F39 (q34_5 Qd code) 10)).1∧(1≤(10:Int)→((F39 (q34_5 Qd code) 10)).1<(10:Int))∧((F39 (q34_5 Qd code) 10)).2=(q34_7 Qd code).2+1=>ai ((by first | omega | (simp only [lens] at*<;> omega):0≤(0:Int)∧(0:Int)<((q34_1 Qd code).1.length:Int))) (ai ((SetOK.mk eInt (q34_1 Qd code).1 (IntKind.i64.wrap ((F39 (q34_5 Qd code) 10).1-1)) rfl (by exact ai ir (trivial)):SetOK (.l 1 eInt (q34_1 Qd code).1) (Int.toNat 0) (eInt ((q34_1 Qd code).1.getD (Int.toNat 0) default)) [.v (vI (IntKind.i64.wrap ((F39 (q34_5 Qd code) 10).1-1)))] (.l 1 eInt ((q34_1 Qd code).1.set (Int.toNat 0) (IntKind.i64.wrap ((F39 (q34_5 Qd code) 10).1-1)))))) ((fun hF:((F37 (q34_3 Qd code)).1,((q34_1 Qd code).1.set (Int.toNat 0) (IntKind.i64.wrap ((F39 (q34_5 Qd code) 10).1-1))))=(F34 Qd code)=>ai (Imp.of_eq (congrArg (fun r:Qe×List Int=>Dat.l 2 Qh r.1.Qb) hF)) (ai (Imp.of_eq (congrArg (fun r:Qe×List Int=>Dat.l 2 Qj r.1.Qa) hF)) (ai (Imp.of_eq (congrArg (fun r:Qe×List Int=>Dat.l 1 eInt r.2) hF)) (trivial)))) (condT h6 (condF h8 (condF h9 (rfl))))))) (pick_in (q34_5 Qd code) 10 (by first | omega | (simp only [lens] at*<;> omega):0≤(q34_7 Qd code).2) (by first | omega | (simp only [lens] at*<;> omega):(q34_7 Qd code).2≤1000000000)))))))) (beqF h9))) (beqF h8))) (pick_in (q34_2 Qd code) 3 (by first | omega | (simp only [lens] at*<;> omega):0≤(F39 (q34_4 Qd code) 8).2) (by first | omega | (simp only [lens] at*<;> omega):(F39 (q34_4 Qd code) 8).2≤1000000000)))))))) (eq_of_beq (andT1 h6))) (of_decide_eq_true (andT2 h6))) (fun h6:(bif ((F39 (q34_4 Qd code) 8).1==0) then decide (((q34_1 Qd code).1.length:Int)>0) else false)=false=>(fun hF:((F37 (q34_3 Qd code)).1,(q34_1 Qd code).1)=(F34 Qd code)=>ai (Imp.of_eq (congrArg (fun r:Qe×List Int=>Dat.l 2 Qh r.1.Qb) hF)) (ai (Imp.of_eq (congrArg (fun r:Qe×List Int=>Dat.l 2 Qj r.1.Qa) hF)) (ai (Imp.of_eq (congrArg (fun r:Qe×List Int=>Dat.l 1 eInt r.2) hF)) (trivial)))) (condF h6 (rfl)))) (pick_in (q34_4 Qd code) 8 (by first | omega | (simp only [lens] at*<;> omega):0≤(q34_1 Qd code).2) (by first | omega | (simp only [lens] at*<;> omega):(q34_1 Qd code).2≤1000000000)))))))) (path_q (⟨(F36 Qd code).1.b,(F37 (q34_3 Qd code)).2⟩:l71Rd) (F37 (q34_3 Qd code)).1 (by first | omega | (simp only [lens] at*<;> omega):0≤(F37 (q34_3 Qd code)).2) (by first | omega | (simp only [lens] at*<;> omega):(F37 (q34_3 Qd code)).2≤900000000) (by first | omega | (simp only [lens] at*<;> omega):(F37 (q34_3 Qd code)).1.Qa.length≤1000)))))))) (any_p (q34_3 Qd code) (by first | omega | (simp only [lens] at*<;> omega):0≤(F36 Qd code).1.p) (by first | omega | (simp only [lens] at*<;> omega):(F36 Qd code).1.p≤600000000))) (any_s (q34_3 Qd code) (by first | omega | (simp only [lens] at*<;> omega):0≤(F36 Qd code).1.p) (by first | omega | (simp only [lens] at*<;> omega):(F36 Qd code).1.p≤600000000))))))))) (open_b Qd code))))) (by kernel_rfl)
theorem drawLay_s (Qd:SV) (code:List Int):Small (F34 Qd code).1:=by
 unfold F34
 obtain ⟨h1,h2⟩:=open_b Qd code
 generalize F36 Qd code=O at *
 obtain ⟨⟨b,p⟩,X⟩:=O
 simp only at h1 h2
 have q1:=any_s (⟨b,p⟩:l71Rd) (by show 0≤p; omega) (by show p≤_; omega)
 simp only [Bool.cond_eq_ite]
 repeat' split
 all_goals exact q1
theorem drawLay_r (Qd:SV) (code:List Int) (k:Nat):((F34 Qd code).1.Qa.getD k default).Rows.length≤60:=(drawLay_s Qd code).r k
def F8_x1 (Qd:SV) (code:List Int):Qe×Int×Int:=(Qv (F34 Qd code).1 (F34 Qd code).2)
def F8_s1 (Qd:SV) (code:List Int) (b:Int):Int→Lp Int Bool:=fun i40 =>
 bif (decide (i40<(((F34 Qd code).1.Qa.getD b.toNat default).Rows.length:Int))) then (bif (bif (!(F11 (F24 (F8_x1 Qd code).1 b (((F34 Qd code).1.Qa.getD b.toNat default).Rows.getD i40.toNat default).In) (F24 (F34 Qd code).1 b (((F34 Qd code).1.Qa.getD b.toNat default).Rows.getD i40.toNat default).In))) then decide (((Qs (F34 Qd code).1 b (((F34 Qd code).1.Qa.getD b.toNat default).Rows.getD i40.toNat default).In).length:Int)>0) else false) then (.ret false) else (.next (i40+1))) else (.done i40)
def F8_s0 (Qd:SV) (code:List Int):Int→Lp Int Bool:=fun b =>
 bif (decide (b<((F34 Qd code).1.Qa.length:Int))) then ((runL (F8_s1 Qd code b) (((((F34 Qd code).1.Qa.getD b.toNat default).Rows.length:Int)-0).toNat+1) 0).fin Lp.ret (fun i40=>.next (b+1))) else (.done b)
def F8 (Qd:SV) (code:List Int):Bool :=
 bif (decide ((code.length:Int)>1048576)) then true else (bif (bif (bif ((F8_x1 Qd code).2.2 != (F8_x1 Qd code).2.2) then true else ((F8_x1 Qd code).2.1 != (F8_x1 Qd code).2.1)) then true else (!(F25 (F8_x1 Qd code).1 (F8_x1 Qd code).1))) then false else (bif ((F8_x1 Qd code).2.2 != 0) then (bif ((F8_x1 Qd code).2.1==0) then (bif ((F8_x1 Qd code).2.2==1) then true else (F25 (F8_x1 Qd code).1 (F34 Qd code).1)) else false) else (bif (bif (!(netB (F8_x1 Qd code).1)) then true else (!(F11 (F24 (F8_x1 Qd code).1 ((F34 Qd code).2.getD (Int.toNat 0) default) (F8_x1 Qd code).2.1) (F34 Qd code).2))) then false else ((runL (F8_s0 Qd code) ((((F34 Qd code).1.Qa.length:Int)-0).toNat+1) 0).fin (fun r=>r) (fun b=>(bif (bif ((Qw (F8_x1 Qd code).1 ((F34 Qd code).2.getD (Int.toNat 0) default) (F8_x1 Qd code).2.1).2==(Qw (F8_x1 Qd code).1 ((F34 Qd code).2.getD (Int.toNat 0) default) (F8_x1 Qd code).2.1).2) then (F25 (Qw (F8_x1 Qd code).1 ((F34 Qd code).2.getD (Int.toNat 0) default) (F8_x1 Qd code).2.1).1 (Qw (F8_x1 Qd code).1 ((F34 Qd code).2.getD (Int.toNat 0) default) (F8_x1 Qd code).2.1).1) else false) then (bif (bif (bif ((Qw (F8_x1 Qd code).1 ((F34 Qd code).2.getD (Int.toNat 0) default) (F8_x1 Qd code).2.1).2==0) then (F25 (Qw (F8_x1 Qd code).1 ((F34 Qd code).2.getD (Int.toNat 0) default) (F8_x1 Qd code).2.1).1 (F34 Qd code).1) else false) then true else ((Qw (F8_x1 Qd code).1 ((F34 Qd code).2.getD (Int.toNat 0) default) (F8_x1 Qd code).2.1).2==4)) then true else ((Qw (F8_x1 Qd code).1 ((F34 Qd code).2.getD (Int.toNat 0) default) (F8_x1 Qd code).2.1).2==5)) else false))))))
def S8 (Qd:SV) (code:List Int):Spec:=⟨[.vl (sv Qd) (.l 1 eByte code)],.v (.bool (F8 Qd code)),True⟩
abbrev q8_1 (Qd:SV) (code:List Int):=(Qw (F8_x1 Qd code).1 ((F34 Qd code).2.getD (Int.toNat 0) default) (F8_x1 Qd code).2.1)
abbrev q8_2 (Qd:SV) (code:List Int) (b:Int):=((F34 Qd code).1.Qa.getD b.toNat default)
abbrev q8_3 (Qd:SV) (code:List Int) (b:Int) (i40:Int):=((q8_2 Qd code b).Rows.getD i40.toNat default)
abbrev q8_4 (Qd:SV) (code:List Int):=((F34 Qd code).2.getD (Int.toNat 0) default)
abbrev q8_5 (Qd:SV) (code:List Int) (b:Int) (i40:Int):=(F11 (F24 (F8_x1 Qd code).1 b (q8_3 Qd code b i40).In) (F24 (F34 Qd code).1 b (q8_3 Qd code b i40).In))
abbrev q8_6 (Qd:SV) (code:List Int):=(runL (F8_s0 Qd code) ((((F34 Qd code).1.Qa.length:Int)-0).toNat+1) 0)
abbrev q8_7 (Qd:SV) (code:List Int) (b:Int):=(runL (F8_s1 Qd code b) ((((q8_2 Qd code b).Rows.length:Int)-0).toNat+1) 0)
abbrev q8_8 (Qd:SV) (code:List Int):=(Imp (.l 2 Qh (F8_x1 Qd code).1.Qb) (.l 2 Qh (F8_x1 Qd code).1.Qb))
abbrev q8_9 (Qd:SV) (code:List Int):=(Imp (.l 2 Qj (F8_x1 Qd code).1.Qa) (.l 2 Qj (F8_x1 Qd code).1.Qa))
abbrev q8_10 (Qd:SV) (code:List Int):=(Imp (.l 2 Qh (F34 Qd code).1.Qb) (.l 2 Qh (F34 Qd code).1.Qb))
abbrev q8_11 (Qd:SV) (code:List Int):=(Imp (.l 2 Qj (F34 Qd code).1.Qa) (.l 2 Qj (F34 Qd code).1.Qa))
abbrev q8_12 (Qd:SV) (code:List Int):=(F24 (F8_x1 Qd code).1 (q8_4 Qd code) (F8_x1 Qd code).2.1)
abbrev q8_13 (Qd:SV) (code:List Int):=(Imp (.l 1 eInt (F34 Qd code).2) (.l 1 eInt (F34 Qd code).2))
theorem ok8 (Qd:SV) (code:List Int):(S8 Qd code).ok Try.prog 8 :=
 fnG_ok mixed (fn:=Try.f8) (ct:=.seqk [(0,0)] (.no) (.seq (.seq (.no) (.cond (.seq (.no) (.no)) (.no))) (.seq (.reg [(1,.call 34 (S34 Qd code) (ok34 Qd code) none)]) (.seq (.reg [(2,.call 31 (S31 (F8_x1 Qd code) (F34 Qd code).1 (F34 Qd code).2) (oa31 (F34 Qd code).1 (F34 Qd code).2) none)]) (.seq (.reg [(2,.call 35 (S35 (F8_x1 Qd code) (F34 Qd code).1 (F34 Qd code).2) (oa35 (F34 Qd code).1 (F34 Qd code).2) none)]) (.seq (.seq (.reg [(11,.call 25 (S25 (F8_x1 Qd code).1 (F8_x1 Qd code).1) (ok25 (F8_x1 Qd code).1 (F8_x1 Qd code).1) none)]) (.cond (.seq (.no) (.no)) (.no))) (.seq (.seq (.no) (.cond (.seq (.reg [(8,.call 25 (S25 (F8_x1 Qd code).1 (F34 Qd code).1) (ok25 (F8_x1 Qd code).1 (F34 Qd code).1) none)]) (.no)) (.no))) (.seq (.seq (.reg [(1,.call 13 (S13 (netB (F8_x1 Qd code).1) (F8_x1 Qd code).1) (oa13 (F8_x1 Qd code).1) none),(9,.call 24 (S24 (F8_x1 Qd code).1 (q8_4 Qd code) (F8_x1 Qd code).2.1) (ok24 (F8_x1 Qd code).1 (q8_4 Qd code) (F8_x1 Qd code).2.1) none),(11,.call 11 (S11 (q8_12 Qd code) (F34 Qd code).2) (ok11 (q8_12 Qd code) (F34 Qd code).2) none)]) (.cond (.seq (.no) (.no)) (.no))) (.seq (.seqk [(3,0),(3,1),(5,0),(5,1)] (.no) (.blk (.loop (ι:=Nat×Int) (fun i=>(fun (b:Int)=>(⟨[(3,some (.p 0 0)),(4,some (.h 3 0)),(5,some (.p 4 0)),(6,some (.v (vI (F8_x1 Qd code).2.1))),(11,some (.v (vI b)))],[(0,some (.box 26 [.h 1 0,.h 2 0])),(1,some (.own 1 (.l 2 Qh (F34 Qd code).1.Qb))),(2,some (.own 2 (.l 2 Qj (F34 Qd code).1.Qa))),(3,some (.own 3 (.l 1 eInt (F34 Qd code).2))),(4,some (.box 26 [.h 5 0,.h 6 0])),(5,some (.own 5 (.l 2 Qh (F8_x1 Qd code).1.Qb))),(6,some (.own 6 (.l 2 Qj (F8_x1 Qd code).1.Qa)))],7⟩:St)) i.2) (fun i=>runL (F8_s0 Qd code) i.1 i.2=(q8_6 Qd code)∧(fun (b:Int)=>(Int.toNat (((F34 Qd code).1.Qa.length:Int)-b)<i.1∧(0:Int)≤b)) i.2) (fun i=>i.1) (((((F34 Qd code).1.Qa.length:Int)-0).toNat+1),0) (fun i=>(fun (b:Int)=>(.seq (.seq (.no) (.cond (.no) (.no))) (.seq (.blk (.seqk [(3,0),(3,1),(5,0),(5,1)] (.no) (.blk (.loop (ι:=Nat×Int) (fun i=>(fun (i40:Int)=>(⟨[(3,some (.p 0 0)),(4,some (.h 3 0)),(5,some (.p 4 0)),(6,some (.v (vI (F8_x1 Qd code).2.1))),(11,some (.v (vI b))),(12,some (.v (vI i40)))],[(0,some (.box 26 [.h 1 0,.h 2 0])),(1,some (.own 1 (.l 2 Qh (F34 Qd code).1.Qb))),(2,some (.own 2 (.l 2 Qj (F34 Qd code).1.Qa))),(3,some (.own 3 (.l 1 eInt (F34 Qd code).2))),(4,some (.box 26 [.h 5 0,.h 6 0])),(5,some (.own 5 (.l 2 Qh (F8_x1 Qd code).1.Qb))),(6,some (.own 6 (.l 2 Qj (F8_x1 Qd code).1.Qa)))],7⟩:St)) i.2) (fun i=>runL (F8_s1 Qd code b) i.1 i.2=(q8_7 Qd code b)∧(fun (i40:Int)=>(Int.toNat (((q8_2 Qd code b).Rows.length:Int)-i40)<i.1∧(q8_2 Qd code b).Rows.length≤60∧(0:Int)≤i40)) i.2) (fun i=>i.1) (((((q8_2 Qd code b).Rows.length:Int)-0).toNat+1),0) (fun i=>(fun (i40:Int)=>(.seq (.seq (.no) (.cond (.no) (.no))) (.seq (.blk (.seq (.no) (.seq (.reg [(3,.call 24 (S24 (F8_x1 Qd code).1 b (q8_3 Qd code b i40).In) (ok24 (F8_x1 Qd code).1 b (q8_3 Qd code b i40).In) none),(7,.call 24 (S24 (F34 Qd code).1 b (q8_3 Qd code b i40).In) (ok24 (F34 Qd code).1 b (q8_3 Qd code b i40).In) none),(8,.call 11 (S11 (F24 (F8_x1 Qd code).1 b (q8_3 Qd code b i40).In) (F24 (F34 Qd code).1 b (q8_3 Qd code b i40).In)) (ok11 (F24 (F8_x1 Qd code).1 b (q8_3 Qd code b i40).In) (F24 (F34 Qd code).1 b (q8_3 Qd code b i40).In)) none),(14,.call 26 (S26 (Qs (F34 Qd code).1 b (q8_3 Qd code b i40).In) (F34 Qd code).1 b (q8_3 Qd code b i40).In) (oa26 (F34 Qd code).1 b (q8_3 Qd code b i40).In) none)]) (.cond (.seq (.no) (.no)) (.no))))) (.reg [(1,.bnd)])))) i.2))))) (.reg [(1,.bnd)])))) i.2)))) (.seq (.reg [(5,.call 22 (S22 (q8_1 Qd code) (F8_x1 Qd code).1 (q8_4 Qd code) (F8_x1 Qd code).2.1) (oa22 (F8_x1 Qd code).1 (q8_4 Qd code) (F8_x1 Qd code).2.1) none)]) (.seq (.reg [(5,.call 23 (S23 (q8_1 Qd code) (F8_x1 Qd code).1 (q8_4 Qd code) (F8_x1 Qd code).2.1) (oa23 (F8_x1 Qd code).1 (q8_4 Qd code) (F8_x1 Qd code).2.1) none)]) (.seq (.reg [(6,.call 25 (S25 (q8_1 Qd code).1 (q8_1 Qd code).1) (ok25 (q8_1 Qd code).1 (q8_1 Qd code).1) none),(14,.call 25 (S25 (q8_1 Qd code).1 (F34 Qd code).1) (ok25 (q8_1 Qd code).1 (F34 Qd code).1) none)]) (.no))))))))))))) Try.func8 (fun (_:True)=>fun (_:code.length≤9223372036854775807)=>ai (fun h1:(decide ((code.length:Int)>1048576))=true=>(fun _:(code.length:Int)>1048576=>(fun hF:(true:Bool)=(F8 Qd code)=>ai (congrArg (fun r:Bool=>(.bool r:Value)) hF) (trivial)) (condT h1 (rfl))) (of_decide_eq_true h1)) (fun h1:(decide ((code.length:Int)>1048576))=false=>(fun _:¬ (code.length:Int)>1048576=>ai (trivial) (ai ((Eq.refl (sv Qd))) (ai ((Imp.refl (.l 1 eByte code))) (ai (trivial) (ai ((Imps.refl (Qf (F34 Qd code).1))) (ai ((Imp.refl (.l 1 eInt (F34 Qd code).2))) ((fun gv2:((F8_x1 Qd code)).2.2=0→2≤(F34 Qd code).2.length=>ai (trivial) (ai ((Imps.refl (Qf (F34 Qd code).1))) (ai ((Imp.refl (.l 1 eInt (F34 Qd code).2))) (ai ((fun k3:(bif ((F8_x1 Qd code).2.2 != (F8_x1 Qd code).2.2) then true else ((F8_x1 Qd code).2.1 != (F8_x1 Qd code).2.1))=false=>(fun _:(F8_x1 Qd code).2.1=(F8_x1 Qd code).2.1=>(fun _:(F8_x1 Qd code).2.2=(F8_x1 Qd code).2.2=>trivial) (bneF (orF1 k3))) (bneF (orF2 k3)))) (ai ((fun k4:(bif ((F8_x1 Qd code).2.2 != (F8_x1 Qd code).2.2) then true else ((F8_x1 Qd code).2.1 != (F8_x1 Qd code).2.1))=false=>(fun _:(F8_x1 Qd code).2.1=(F8_x1 Qd code).2.1=>(fun _:(F8_x1 Qd code).2.2=(F8_x1 Qd code).2.2=>(Imps.refl (Qf (F8_x1 Qd code).1))) (bneF (orF1 k4))) (bneF (orF2 k4)))) (ai ((fun k5:(bif ((F8_x1 Qd code).2.2 != (F8_x1 Qd code).2.2) then true else ((F8_x1 Qd code).2.1 != (F8_x1 Qd code).2.1))=false=>(fun _:(F8_x1 Qd code).2.1=(F8_x1 Qd code).2.1=>(fun _:(F8_x1 Qd code).2.2=(F8_x1 Qd code).2.2=>(Imps.refl (Qf (F8_x1 Qd code).1))) (bneF (orF1 k5))) (bneF (orF2 k5)))) (ai (fun h6:(bif (bif ((F8_x1 Qd code).2.2 != (F8_x1 Qd code).2.2) then true else ((F8_x1 Qd code).2.1 != (F8_x1 Qd code).2.1)) then true else (!(F25 (F8_x1 Qd code).1 (F8_x1 Qd code).1)))=true=>(fun hF:(false:Bool)=(F8 Qd code)=>ai (congrArg (fun r:Bool=>(.bool r:Value)) hF) (trivial)) (condF h1 (condT h6 (rfl)))) (fun h6:(bif (bif ((F8_x1 Qd code).2.2 != (F8_x1 Qd code).2.2) then true else ((F8_x1 Qd code).2.1 != (F8_x1 Qd code).2.1)) then true else (!(F25 (F8_x1 Qd code).1 (F8_x1 Qd code).1)))=false=>(fun _:(F8_x1 Qd code).2.1=(F8_x1 Qd code).2.1=>(fun _:(F8_x1 Qd code).2.2=(F8_x1 Qd code).2.2=>ai (fun h7:((F8_x1 Qd code).2.2 != 0)=true=>(fun _:¬ (F8_x1 Qd code).2.2=0=>ai ((fun k9:((F8_x1 Qd code).2.2==1)=false=>(fun _:¬ (F8_x1 Qd code).2.2=1=>(fun k8:((F8_x1 Qd code).2.1==0)=true=>(fun _:(F8_x1 Qd code).2.1=0=>trivial) (eq_of_beq k8))) (beqF k9))) (ai ((fun k11:((F8_x1 Qd code).2.2==1)=false=>(fun _:¬ (F8_x1 Qd code).2.2=1=>(fun k10:((F8_x1 Qd code).2.1==0)=true=>(fun _:(F8_x1 Qd code).2.1=0=>(Imps.refl (Qf (F8_x1 Qd code).1))) (eq_of_beq k10))) (beqF k11))) (ai ((fun k13:((F8_x1 Qd code).2.2==1)=false=>(fun _:¬ (F8_x1 Qd code).2.2=1=>(fun k12:((F8_x1 Qd code).2.1==0)=true=>(fun _:(F8_x1 Qd code).2.1=0=>(Imps.refl (Qf (F34 Qd code).1))) (eq_of_beq k12))) (beqF k13))) ((fun hF:((bif ((F8_x1 Qd code).2.1==0) then (bif ((F8_x1 Qd code).2.2==1) then true else (F25 (F8_x1 Qd code).1 (F34 Qd code).1)) else false):Bool)=(F8 Qd code)=>ai (congrArg (fun r:Bool=>(.bool r:Value)) hF) (trivial)) (condF h1 (condF h6 (condT h7 (rfl)))))))) (bneT h7)) (fun h7:((F8_x1 Qd code).2.2 != 0)=false=>(fun _:(F8_x1 Qd code).2.2=0=>ai (trivial) (ai ((Imps.refl (Qf (F8_x1 Qd code).1))) (ai ((fun k14:(!(netB (F8_x1 Qd code).1))=false=>(fun _:(F8_x1 Qd code).1.Qb.length≤14=>(fun _:(F8_x1 Qd code).1.Qa.length≤8=>(fun _:Qt (F8_x1 Qd code).1=>(by omega:0≤(0:Int)∧(0:Int)<((F34 Qd code).2.length:Int))) (netB_T (F8_x1 Qd code).1 (notEF k14))) (netB_8 (F8_x1 Qd code).1 (notEF k14))) (netB_14 (F8_x1 Qd code).1 (notEF k14)))) (ai ((fun k15:(!(netB (F8_x1 Qd code).1))=false=>(fun _:(F8_x1 Qd code).1.Qb.length≤14=>(fun _:(F8_x1 Qd code).1.Qa.length≤8=>(fun _:Qt (F8_x1 Qd code).1=>trivial) (netB_T (F8_x1 Qd code).1 (notEF k15))) (netB_8 (F8_x1 Qd code).1 (notEF k15))) (netB_14 (F8_x1 Qd code).1 (notEF k15)))) (ai ((fun k16:(!(netB (F8_x1 Qd code).1))=false=>(fun _:(F8_x1 Qd code).1.Qb.length≤14=>(fun _:(F8_x1 Qd code).1.Qa.length≤8=>(fun _:Qt (F8_x1 Qd code).1=>(Imps.refl (Qf (F8_x1 Qd code).1))) (netB_T (F8_x1 Qd code).1 (notEF k16))) (netB_8 (F8_x1 Qd code).1 (notEF k16))) (netB_14 (F8_x1 Qd code).1 (notEF k16)))) (ai ((fun k17:(!(netB (F8_x1 Qd code).1))=false=>(fun _:(F8_x1 Qd code).1.Qb.length≤14=>(fun _:(F8_x1 Qd code).1.Qa.length≤8=>(fun _:Qt (F8_x1 Qd code).1=>(Imp.refl (.v (vI (q8_4 Qd code))))) (netB_T (F8_x1 Qd code).1 (notEF k17))) (netB_8 (F8_x1 Qd code).1 (notEF k17))) (netB_14 (F8_x1 Qd code).1 (notEF k17)))) (ai ((fun k18:(!(netB (F8_x1 Qd code).1))=false=>(fun _:(F8_x1 Qd code).1.Qb.length≤14=>(fun _:(F8_x1 Qd code).1.Qa.length≤8=>(fun _:Qt (F8_x1 Qd code).1=>(Imp.refl (.v (vI (F8_x1 Qd code).2.1)))) (netB_T (F8_x1 Qd code).1 (notEF k18))) (netB_8 (F8_x1 Qd code).1 (notEF k18))) (netB_14 (F8_x1 Qd code).1 (notEF k18)))) (ai ((fun k19:(!(netB (F8_x1 Qd code).1))=false=>(fun _:(F8_x1 Qd code).1.Qb.length≤14=>(fun _:(F8_x1 Qd code).1.Qa.length≤8=>(fun _:Qt (F8_x1 Qd code).1=>trivial) (netB_T (F8_x1 Qd code).1 (notEF k19))) (netB_8 (F8_x1 Qd code).1 (notEF k19))) (netB_14 (F8_x1 Qd code).1 (notEF k19)))) (ai ((fun k20:(!(netB (F8_x1 Qd code).1))=false=>(fun _:(F8_x1 Qd code).1.Qb.length≤14=>(fun _:(F8_x1 Qd code).1.Qa.length≤8=>(fun _:Qt (F8_x1 Qd code).1=>(Imp.refl (.l 1 eInt (q8_12 Qd code)))) (netB_T (F8_x1 Qd code).1 (notEF k20))) (netB_8 (F8_x1 Qd code).1 (notEF k20))) (netB_14 (F8_x1 Qd code).1 (notEF k20)))) (ai ((fun k21:(!(netB (F8_x1 Qd code).1))=false=>(fun _:(F8_x1 Qd code).1.Qb.length≤14=>(fun _:(F8_x1 Qd code).1.Qa.length≤8=>(fun _:Qt (F8_x1 Qd code).1=>(Imp.refl (.l 1 eInt (F34 Qd code).2))) (netB_T (F8_x1 Qd code).1 (notEF k21))) (netB_8 (F8_x1 Qd code).1 (notEF k21))) (netB_14 (F8_x1 Qd code).1 (notEF k21)))) (ai (fun h22:(bif (!(netB (F8_x1 Qd code).1)) then true else (!(F11 (q8_12 Qd code) (F34 Qd code).2)))=true=>(fun hF:(false:Bool)=(F8 Qd code)=>ai (congrArg (fun r:Bool=>(.bool r:Value)) hF) (trivial)) (condF h1 (condF h6 (condF h7 (condT h22 (rfl)))))) (fun h22:(bif (!(netB (F8_x1 Qd code).1)) then true else (!(F11 (q8_12 Qd code) (F34 Qd code).2)))=false=>(fun _:(F8_x1 Qd code).1.Qb.length≤14=>(fun _:(F8_x1 Qd code).1.Qa.length≤8=>(fun _:Qt (F8_x1 Qd code).1=>fun (_:(F34 Qd code).1.Qb.length≤9223372036854775807)=>fun (_:(F34 Qd code).1.Qa.length≤9223372036854775807)=>fun (_:(F8_x1 Qd code).1.Qb.length≤9223372036854775807)=>fun (_:(F8_x1 Qd code).1.Qa.length≤9223372036854775807)=>ai (ai (rfl) (ai (rfl) (ai (ir) (ai (ir) (ai (ir) (ai (ir) (ai (ir) ((ai (rfl:runL (F8_s0 Qd code) ((((F34 Qd code).1.Qa.length:Int)-0).toNat+1) 0=(q8_6 Qd code)) (ai ((Nat.lt_succ_self _:Int.toNat (((F34 Qd code).1.Qa.length:Int)-0)<((((F34 Qd code).1.Qa.length:Int)-0).toNat+1))) ((by omega:(0:Int)≤0))))))))))):((.int .i64 (F8_x1 Qd code).2.1:Value)=.int .i64 (F8_x1 Qd code).2.1)∧((.int .i64 0:Value)=.int .i64 0)∧(q8_10 Qd code)∧(q8_11 Qd code)∧(q8_13 Qd code)∧(q8_8 Qd code)∧(q8_9 Qd code)∧(runL (F8_s0 Qd code) ((((F34 Qd code).1.Qa.length:Int)-0).toNat+1) 0=(q8_6 Qd code)∧Int.toNat (((F34 Qd code).1.Qa.length:Int)-0)<((((F34 Qd code).1.Qa.length:Int)-0).toNat+1)∧(0:Int)≤0)) (fun (i0:Nat×Int) (hi0:runL (F8_s0 Qd code) i0.1 i0.2=(q8_6 Qd code)∧(fun (b:Int)=>(Int.toNat (((F34 Qd code).1.Qa.length:Int)-b)<i0.1∧(0:Int)≤b)) i0.2)=>(fun (m0:Nat) (b:Int) (hI0:runL (F8_s0 Qd code) (m0+1) b=(q8_6 Qd code)) (_:Int.toNat (((F34 Qd code).1.Qa.length:Int)-b)<m0+1) (hl0:m0<i0.1) (_:(0:Int)≤b)=>ai (fun h24:(decide (b<((F34 Qd code).1.Qa.length:Int)))=true=>(fun _:b<((F34 Qd code).1.Qa.length:Int)=>fun (_:(F34 Qd code).1.Qb.length≤9223372036854775807)=>fun (_:(F34 Qd code).1.Qa.length≤9223372036854775807)=>fun (_:(F8_x1 Qd code).1.Qb.length≤9223372036854775807)=>fun (_:(F8_x1 Qd code).1.Qa.length≤9223372036854775807)=>ai (ai (rfl) (ai (rfl) (ai (rfl) (ai (ir) (ai (ir) (ai (ir) (ai (ir) (ai (ir) ((ai (rfl:runL (F8_s1 Qd code b) ((((q8_2 Qd code b).Rows.length:Int)-0).toNat+1) 0=(q8_7 Qd code b)) (ai ((Nat.lt_succ_self _:Int.toNat (((q8_2 Qd code b).Rows.length:Int)-0)<((((q8_2 Qd code b).Rows.length:Int)-0).toNat+1))) (ai ((by first | omega | (simp only [lens] at*<;> omega) | exact drawLay_r _ _ _:(q8_2 Qd code b).Rows.length≤60)) ((by first | omega | (simp only [lens] at*<;> omega) | exact drawLay_r _ _ _:(0:Int)≤0))))))))))))):((.int .i64 (F8_x1 Qd code).2.1:Value)=.int .i64 (F8_x1 Qd code).2.1)∧((.int .i64 b:Value)=.int .i64 b)∧((.int .i64 0:Value)=.int .i64 0)∧(q8_10 Qd code)∧(q8_11 Qd code)∧(q8_13 Qd code)∧(q8_8 Qd code)∧(q8_9 Qd code)∧(runL (F8_s1 Qd code b) ((((q8_2 Qd code b).Rows.length:Int)-0).toNat+1) 0=(q8_7 Qd code b)∧Int.toNat (((q8_2 Qd code b).Rows.length:Int)-0)<((((q8_2 Qd code b).Rows.length:Int)-0).toNat+1)∧(q8_2 Qd code b).Rows.length≤60∧(0:Int)≤0)) (fun (i1:Nat×Int) (hi1:runL (F8_s1 Qd code b) i1.1 i1.2=(q8_7 Qd code b)∧(fun (i40:Int)=>(Int.toNat (((q8_2 Qd code b).Rows.length:Int)-i40)<i1.1∧(q8_2 Qd code b).Rows.length≤60∧(0:Int)≤i40)) i1.2)=>(fun (m1:Nat) (i40:Int) (hI1:runL (F8_s1 Qd code b) (m1+1) i40=(q8_7 Qd code b)) (_:Int.toNat (((q8_2 Qd code b).Rows.length:Int)-i40)<m1+1) (hl1:m1<i1.1) (_:(q8_2 Qd code b).Rows.length≤60) (_:(0:Int)≤i40)=>ai ((by omega:0≤b∧b<((F34 Qd code).1.Qa.length:Int))) (ai (fun h26:(decide (i40<((q8_2 Qd code b).Rows.length:Int)))=true=>(fun _:i40<((q8_2 Qd code b).Rows.length:Int)=>ai ((by omega:0≤b∧b<((F34 Qd code).1.Qa.length:Int))) (ai ((by omega:0≤i40∧i40<((q8_2 Qd code b).Rows.length:Int))) (ai (trivial) (ai ((Imps.refl (Qf (F8_x1 Qd code).1))) (ai ((Imp.refl (.v (vI b)))) (ai ((Imp.refl (.v (vI (q8_3 Qd code b i40).In)))) (ai (trivial) (ai ((Imps.refl (Qf (F34 Qd code).1))) (ai ((Imp.refl (.v (vI b)))) (ai ((Imp.refl (.v (vI (q8_3 Qd code b i40).In)))) (ai (trivial) (ai ((Imp.refl (.l 1 eInt (F24 (F8_x1 Qd code).1 b (q8_3 Qd code b i40).In)))) (ai ((Imp.refl (.l 1 eInt (F24 (F34 Qd code).1 b (q8_3 Qd code b i40).In)))) (ai ((fun k27:(!(q8_5 Qd code b i40))=true=>trivial)) (ai ((fun k28:(!(q8_5 Qd code b i40))=true=>(Imps.refl (Qf (F34 Qd code).1)))) (ai ((fun k29:(!(q8_5 Qd code b i40))=true=>(Imp.refl (.v (vI b))))) (ai ((fun k30:(!(q8_5 Qd code b i40))=true=>(Imp.refl (.v (vI (q8_3 Qd code b i40).In))))) (ai (fun h31:(bif (!(q8_5 Qd code b i40)) then decide (((Qs (F34 Qd code).1 b (q8_3 Qd code b i40).In).length:Int)>0) else false)=true=>(fun _:((Qs (F34 Qd code).1 b (q8_3 Qd code b i40).In).length:Int)>0=>(fun hF:(false:Bool)=(F8 Qd code)=>ai (congrArg (fun r:Bool=>(.bool r:Value)) hF) (trivial)) (condF h1 (condF h6 (condF h7 (condF h22 (finR (runL_ret hI0 (condT h24 (finR (runL_ret hI1 (condT h26 (condT h31 (rfl)))) rfl))) rfl)))))) (of_decide_eq_true (andT2 h31))) (fun h31:(bif (!(q8_5 Qd code b i40)) then decide (((Qs (F34 Qd code).1 b (q8_3 Qd code b i40).In).length:Int)>0) else false)=false=>ai ((by unfold i64ok; omega:i64ok (i40+1))) (Exists.intro (p:=fun j:Nat×Int=>(fun (i40_:Int)=>(((.int .i64 (F8_x1 Qd code).2.1:Value)=.int .i64 (F8_x1 Qd code).2.1)∧((.int .i64 b:Value)=.int .i64 b)∧((.int .i64 (i40+1):Value)=.int .i64 i40_)∧(q8_10 Qd code)∧(q8_11 Qd code)∧(q8_13 Qd code)∧(q8_8 Qd code)∧(q8_9 Qd code)∧((runL (F8_s1 Qd code b) j.1 j.2=(q8_7 Qd code b)∧Int.toNat (((q8_2 Qd code b).Rows.length:Int)-i40_)<j.1∧(q8_2 Qd code b).Rows.length≤60∧(0:Int)≤i40_)∧j.1<i1.1))) j.2) (m1,(i40+1)) (ai (rfl) (ai (rfl) (ai (rfl) (ai (ir) (ai (ir) (ai (ir) (ai (ir) (ai (ir) (ai (ai (runL_next hI1 (condT h26 (condF h31 (rfl)))) (ai ((by first | omega | (simp only [lens] at*<;> omega) | exact drawLay_r _ _ _:Int.toNat (((q8_2 Qd code b).Rows.length:Int)-(i40+1))<m1)) (ai ((by first | omega | (simp only [lens] at*<;> omega) | exact drawLay_r _ _ _:(q8_2 Qd code b).Rows.length≤60)) ((by first | omega | (simp only [lens] at*<;> omega) | exact drawLay_r _ _ _:(0:Int)≤(i40+1)))))) hl1))))))))))))))))))))))))))))) (of_decide_eq_true h26)) (fun h26:(decide (i40<((q8_2 Qd code b).Rows.length:Int)))=false=>(fun _:¬ i40<((q8_2 Qd code b).Rows.length:Int)=>(fun hD1_32:(q8_7 Qd code b)=Lp.done i40=>ai ((by unfold i64ok; omega:i64ok (b+1))) (Exists.intro (p:=fun j:Nat×Int=>(fun (b_:Int)=>(((.int .i64 (F8_x1 Qd code).2.1:Value)=.int .i64 (F8_x1 Qd code).2.1)∧((.int .i64 (b+1):Value)=.int .i64 b_)∧(q8_10 Qd code)∧(q8_11 Qd code)∧(q8_13 Qd code)∧(q8_8 Qd code)∧(q8_9 Qd code)∧((runL (F8_s0 Qd code) j.1 j.2=(q8_6 Qd code)∧Int.toNat (((F34 Qd code).1.Qa.length:Int)-b_)<j.1∧(0:Int)≤b_)∧j.1<i0.1))) j.2) (m0,(b+1)) (ai (rfl) (ai (rfl) (ai (ir) (ai (ir) (ai (ir) (ai (ir) (ai (ir) (ai (ai (runL_next hI0 (condT h24 (finD hD1_32 (rfl)))) (ai ((by omega:Int.toNat (((F34 Qd code).1.Qa.length:Int)-(b+1))<m0)) ((by omega:(0:Int)≤(b+1))))) hl0)))))))))) (runL_done hI1 (condF h26 (rfl)))) (of_decide_eq_false h26)))) (i1.1-1) i1.2 (hd1 hi1.1 hi1.2.1) (hd2 hi1.2.1) (hd3 hi1.2.1) hi1.2.2.1 hi1.2.2.2)) (of_decide_eq_true h24)) (fun h24:(decide (b<((F34 Qd code).1.Qa.length:Int)))=false=>(fun _:¬ b<((F34 Qd code).1.Qa.length:Int)=>(fun hD0_33:(q8_6 Qd code)=Lp.done b=>ai ((by omega:0≤(0:Int)∧(0:Int)<((F34 Qd code).2.length:Int))) (ai (trivial) (ai ((Imps.refl (Qf (F8_x1 Qd code).1))) (ai ((Imp.refl (.v (vI (q8_4 Qd code))))) (ai ((Imp.refl (.v (vI (F8_x1 Qd code).2.1)))) ((fun gv34:((q8_1 Qd code)).2=0→((q8_1 Qd code)).1.Qa.length=(F8_x1 Qd code).1.Qa.length=>ai ((by omega:0≤(0:Int)∧(0:Int)<((F34 Qd code).2.length:Int))) (ai (trivial) (ai ((Imps.refl (Qf (F8_x1 Qd code).1))) (ai ((Imp.refl (.v (vI (q8_4 Qd code))))) (ai ((Imp.refl (.v (vI (F8_x1 Qd code).2.1)))) ((fun gv35:((q8_1 Qd code)).2=0→((q8_1 Qd code)).1.Qa.length=(F8_x1 Qd code).1.Qa.length=>ai ((fun k36:((q8_1 Qd code).2==(q8_1 Qd code).2)=true=>(fun _:(q8_1 Qd code).2=(q8_1 Qd code).2=>trivial) (eq_of_beq k36))) (ai ((fun k37:((q8_1 Qd code).2==(q8_1 Qd code).2)=true=>(fun _:(q8_1 Qd code).2=(q8_1 Qd code).2=>(Imps.refl (Qf (q8_1 Qd code).1))) (eq_of_beq k37))) (ai ((fun k38:((q8_1 Qd code).2==(q8_1 Qd code).2)=true=>(fun _:(q8_1 Qd code).2=(q8_1 Qd code).2=>(Imps.refl (Qf (q8_1 Qd code).1))) (eq_of_beq k38))) (ai ((fun k40:((q8_1 Qd code).2==0)=true=>(fun _:(q8_1 Qd code).2=0=>(fun k39:(bif ((q8_1 Qd code).2==(q8_1 Qd code).2) then (F25 (q8_1 Qd code).1 (q8_1 Qd code).1) else false)=true=>(fun _:(q8_1 Qd code).2=(q8_1 Qd code).2=>trivial) (eq_of_beq (andT1 k39)))) (eq_of_beq k40))) (ai ((fun k42:((q8_1 Qd code).2==0)=true=>(fun _:(q8_1 Qd code).2=0=>(fun k41:(bif ((q8_1 Qd code).2==(q8_1 Qd code).2) then (F25 (q8_1 Qd code).1 (q8_1 Qd code).1) else false)=true=>(fun _:(q8_1 Qd code).2=(q8_1 Qd code).2=>(Imps.refl (Qf (q8_1 Qd code).1))) (eq_of_beq (andT1 k41)))) (eq_of_beq k42))) (ai ((fun k44:((q8_1 Qd code).2==0)=true=>(fun _:(q8_1 Qd code).2=0=>(fun k43:(bif ((q8_1 Qd code).2==(q8_1 Qd code).2) then (F25 (q8_1 Qd code).1 (q8_1 Qd code).1) else false)=true=>(fun _:(q8_1 Qd code).2=(q8_1 Qd code).2=>(Imps.refl (Qf (F34 Qd code).1))) (eq_of_beq (andT1 k43)))) (eq_of_beq k44))) ((fun hF:((bif (bif ((q8_1 Qd code).2==(q8_1 Qd code).2) then (F25 (q8_1 Qd code).1 (q8_1 Qd code).1) else false) then (bif (bif (bif ((q8_1 Qd code).2==0) then (F25 (q8_1 Qd code).1 (F34 Qd code).1) else false) then true else ((q8_1 Qd code).2==4)) then true else ((q8_1 Qd code).2==5)) else false):Bool)=(F8 Qd code)=>ai (congrArg (fun r:Bool=>(.bool r:Value)) hF) (trivial)) (condF h1 (condF h6 (condF h7 (condF h22 (finD hD0_33 (rfl))))))))))))) (labTear_l (F8_x1 Qd code).1 (q8_4 Qd code) (F8_x1 Qd code).2.1))))))) (labTear_l (F8_x1 Qd code).1 (q8_4 Qd code) (F8_x1 Qd code).2.1))))))) (runL_done hI0 (condF h24 (rfl)))) (of_decide_eq_false h24))) (i0.1-1) i0.2 (hd1 hi0.1 hi0.2.1) (hd2 hi0.2.1) (hd3 hi0.2.1) hi0.2.2)) (netB_T (F8_x1 Qd code).1 (notEF (orF1 h22)))) (netB_8 (F8_x1 Qd code).1 (notEF (orF1 h22)))) (netB_14 (F8_x1 Qd code).1 (notEF (orF1 h22))))))))))))))) (bneF h7))) (bneF (orF1 (orF1 h6)))) (bneF (orF2 (orF1 h6))))))))))) ((by exact labLay_two _ _))))))))) (of_decide_eq_false h1))) (by kernel_rfl)
theorem labLay_cases (n:Qe) (p:List Int):(netB n=false∧Qv n p=(⟨[],[]⟩,0,1))∨(∃ c,(c=2∨c=3)∧Qv n p=(n,0,c))∨(Qt n∧LayP n p (labsOf n p)∧Qv n p=(laidP n p,(labsOf n p).getD 0 default,0)):=by
 unfold Qv
 cases hb:netB n
 ·exact .inl ⟨rfl,rfl⟩
 ·refine .inr ?_
  have hn:=netB_T n hb
  unfold layR
  cases hp:pathB n p
  ·exact .inl ⟨2,.inl rfl,rfl⟩
  ·cases hl:labsB n p
   ·exact .inl ⟨3,.inr rfl,rfl⟩
   ·exact .inr ⟨hn,layP_of hn hp hl,rfl⟩
theorem plain_8 (Qd:SV) (code:List Int):F8 Qd code=true:=by
 unfold F8
 cases decide ((code.length:Int)>1048576) with
 | true=>rfl
 | false =>
  rw [cond_false]
  generalize hD:F34 Qd code=D
  obtain ⟨n,p⟩:=D
  have x1:F8_x1 Qd code=Qv n p:=by unfold F8_x1; rw [hD]
  simp only [x1,implPath_eq,bne_self_eq_false,net_same,cond_false,Bool.not_true,show Int.toNat (0:Int)=0 from rfl]
  rcases labLay_cases n p with ⟨_,e⟩ | ⟨c,hc,e⟩ | ⟨hN,L,e⟩
  ·rw [e]; rfl
  ·rw [e]
   rcases hc with rfl | rfl <;> (simp only [net_same]; rfl)
  ·have hX:Qt (laidP n p):=L.netTo _ (Nat.le_refl _)
   have hS:=laid_sub L
   have hT:=laid_tun L
   have h2:=L.pth.two
   have hm:p.length≤(laidP n p).Qa.length:=by rw [hS.len]; exact L.pth.most
   obtain ⟨q1,q2⟩:=tun_labPath hX hT hm (i:=0) (by omega)
   simp only [List.drop_zero] at q1 q2
   have hsame:∀ b l:Int,(bif (!(F11 (Qs (laidP n p) b l) (Qs n b l))) then decide (((Qs n b l).length:Int)>0) else false)=false:=fun b l=>by
    by_cases h:(Qs n b l).length=0
    ·rw [decide_eq_false (by omega:¬ ((Qs n b l).length:Int)>0)]
     cases (!(F11 (Qs (laidP n p) b l) (Qs n b l))) <;> rfl
    ·rw [labPath_sub hN hX hS b l h,ints_same]; rfl
   have l0:=runL_rule (step:=F8_s0 Qd code) (fun (k:Nat) (_:Unit)=>(k:Int)) n.Qa.length (fun _ _=>True) (fun _=>False)
    (fun k _ hk _=>.inl ⟨(),by
     have l1:=runL_rule (step:=F8_s1 Qd code (k:Int)) (fun (j:Nat) (_:Unit)=>(j:Int)) (n.Qa.getD k default).Rows.length (fun _ _=>True) (fun _=>False)
      (fun j _ hj _=>.inl ⟨(),by simp only [F8_s1,hD,x1,e,nn,ltD hj,cond_true,implPath_eq,hsame,cond_false]; rfl,trivial⟩)
      (fun _ _=>by simp [F8_s1,hD]) (n.Qa.getD k default).Rows.length 0 () (by omega) trivial (Int.toNat (((n.Qa.getD k default).Rows.length:Int)-0)+1) (by omega)
     simp only [F8_s0,hD,ltD hk,cond_true,nn]
     rcases l1 with ⟨_,l1,_⟩ | ⟨_,_,l1⟩
     ·have l1':runL (F8_s1 Qd code (k:Int)) (Int.toNat (((n.Qa.getD k default).Rows.length:Int)-0)+1) 0=_:=l1
      rw [l1']; rfl
     ·exact l1.elim,trivial⟩)
    (fun _ _=>by simp [F8_s0,hD]) n.Qa.length 0 () (by omega) trivial (Int.toNat ((n.Qa.length:Int)-0)+1) (by omega)
   rw [e]
   simp only [bne_self_eq_false,cond_false,netB_ok.2 hX,q2,ints_same,Bool.not_true]
   rcases l0 with ⟨_,l0,_⟩ | ⟨_,_,l0⟩
   ·have l0':runL (F8_s0 Qd code) (Int.toNat ((n.Qa.length:Int)-0)+1) 0=_:=l0
    rw [l0']
    simp only [Lp.fin,beq_self_eq_true,cond_true]
    rcases labTear_cases (laidP n p) (p.getD 0 default) ((labsOf n p).getD 0 default) with ⟨h,_⟩ | ⟨_,h,_⟩ | ⟨c,hc,h⟩ | ⟨_,_,_,l,xs,g1,_,g3,h⟩
    ·rw [netB_ok.2 hX] at h; cases h
    ·rw [q2] at h; rw [h] at h2; simp at h2
    ·rw [h]
     rcases hc with rfl | rfl
     ·simp
     ·simp
    ·rw [q1] at g1
     obtain rfl:=Option.some.inj g1
     have:=g3.uniq (tear_laid L)
     subst this
     rw [h]
     have:(⟨(laidP n p).Qb,n.Qa⟩:Qe)=n:=rfl
     simp only [this,net_same]; rfl
   ·exact l0.elim
end Go.Proofs.Ytmiolofjlfnohaa
namespace Go.Proofs.Ytmiolofjlfnohaa
open Go.RowKit Go.ChangeShapes Go.WideShapes Go.ChangeAt
set_option maxRecDepth 100000
set_option linter.unusedVariables false
theorem op_5:OpD Try.prog 5 eByte:=OpD.byte Try.underlying5
theorem op_22:OpD Try.prog 22 (fun xs:List Int=>[.l 1 eByte xs]):=OpD.slice 1 Try.underlying22 op_5 (fun _=>rfl) (by kernel_rfl) (by decide)
theorem own:ownKnob Try.prog.godebug=none:=by kernel_rfl
theorem cfA:Try.prog.inPlace 8=Rows.fnLabLayRow.inPlace:=by kernel_rfl
theorem cfB:Try.prog.unfollowed 8=Rows.fnLabLayRow.unfollowed:=by kernel_rfl
theorem cfC:Try.prog.recurses 8=Rows.fnLabLayRow.recurses:=by kernel_rfl
theorem cfD:Try.prog.varsNamed 8=Rows.fnLabLayRow.named:=by kernel_rfl
set_option maxRecDepth 100000 in
theorem lifted_FnLabLay (os:Os) (started:os.Started) (H:Type) (enc:TypeId×Value→H) :
  ReturnsInHanded {} Try.checked os 8 .any (Rows.fnLabLaySpec.pre6 enc Try.prog Try.f8 Rows.fnLabLayRow.domain false) (Rows.fnLabLaySpec.post enc Try.prog Try.f8 false true false false):=by
 refine returnsInHanded_of_change (C:=Try.checked) own started (by kernel_rfl) Try.func8
  (ChangeSpec.witness6 (enc:=enc) (C:=Try.checked) false ⟨#[],#[.slice none 0 0],[]⟩ 8 (by kernel_rfl) (by kernel_rfl) (by kernel_rfl) (by kernel_rfl)) ?_
 intro W base args ds gs before hval0 hW hcnd _
 have hval:∀ (j:Nat) t v,Try.f8.params[j]?=some t→args[j]?=some v→Value.okWide Try.prog W .any base t v:=hval0
 have hW':=hW
 obtain ⟨p,q,hA0,hV,rfl,hfz,hnd⟩:=hW
 have hA:DataW.TrodAll enc Try.prog W 0 (fun _=>true) true Try.f8.params.toList args.toList ds p:=hA0
 rw [Try.params8] at hA hval
 obtain ⟨v0,vs0,d0,ds0,p0,q0,hargs,rfl,rfl,h0,r0⟩:=trodAll_cons hA
 obtain ⟨rfl,rfl,rfl⟩:=trodAll_nil r0
 obtain rfl:args=#[v0]:=by cases args; simp_all
 obtain ⟨rfl,rfl⟩:=trodVars_none hV
 obtain ⟨fu0,t0⟩:=h0
 obtain ⟨a0,n0,c0,rfl⟩:=okWide_slice Try.underlying22 (hval 0 22 v0 rfl rfl)
 obtain ⟨x0,u0,us0,e0,o0,-⟩:=op_22 H enc W fu0 _ _ t0
 obtain rfl:u0=_:=(List.cons.inj e0).1.symm
 have hc:=law_call (W:=W) (vs:=[.slice a0 n0 c0]) (ok8 (⟨a0,n0,c0⟩:SV) x0) trivial (x:=.bool (F8 (⟨a0,n0,c0⟩:SV) x0)) ⟨_,_,[],[],rfl,⟨⟨rfl,o0⟩,rfl⟩,⟨rfl,rfl⟩,rfl,List.nodup_nil⟩ rfl rfl
 rw [plain_8 (⟨a0,n0,c0⟩:SV) x0] at hc
 refine hc.mono fun e W' ⟨he,hb⟩=>?_
 subst he
 exact ⟨_,rfl,law_post rfl hW' hb rfl Try.underlying4 rfl rfl rfl laid (by decide +kernel)⟩
theorem proved_FnLabLay:Rows.FnLabLaySaid :=
 OpenClaim.holds_of_wide 8 Try.f8 rfl rfl rfl rfl rfl rfl rfl ⟨rfl,rfl,rfl,rfl,rfl⟩ rfl rfl rfl rfl rfl (by kernel_rfl) Try.func8 (by
   show joinedFacts Try.prog 8 Try.f8 Rows.fnLabLaySpec Rows.fnLabLayRow=true
   simp only [joinedFacts,laid,cfMaps,cfKeys,cfLifts,cfHeard,cfEnter,cfMake,cfA,cfB,cfC,cfD,Bool.and_true]
   kernel_rfl)
  (of_decide_eq_true (by kernel_rfl)) (by unfold Func.isWrapper; first | (rw [if_pos (by decide +kernel)]; kernel_rfl) | (rw [if_neg (by decide +kernel)]; exact ⟨rfl,rfl⟩))
  (fun os started H enc _=>lifted_FnLabLay os started H enc)
#print axioms proved_FnLabLay
end Go.Proofs.Ytmiolofjlfnohaa
