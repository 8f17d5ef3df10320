/- A part of the proof of FnLabGuard. Texts put together: V1, P1, VA, PA, PT0, VT, PT1, VT2, PTM, PW1. -/
import Derived.Test.YtmiolofjlfnohaaGreatRows
import Derived.Test.YtmiolofjlfnohaaGreatZC12B
namespace Go.Proofs.YtmiolofjlfnohaaGreat
open Go.RowKit
set_option maxRecDepth 100000
set_option linter.unusedVariables false
set_option linter.unusedSimpArgs false
def F75 (n:Int) (low:Int) (high:Int):Bool :=
 (bif decide (n≥low) then decide (n≤high) else false)
def S75 (R:Bool) (n:Int) (low:Int) (high:Int):Spec:=⟨[.r (.c (.v (vI n))),.r (.c (.v (vI low))),.r (.c (.v (vI high)))],.v (.bool R),True⟩
theorem ok75 (n:Int) (low:Int) (high:Int):(S75 (F75 n low high) n low high).ok Tryz.prog 75 :=
 fnG_ok mixed (fn:=Tryz.f75) (ct:=.seq (.no) (.seq (.no) (.no))) Tryz.func75 (fun (_:True)=>(fun hF:((bif decide (n≥low) then decide (n≤high) else false):Bool)=(F75 n low high)=>ai (congrArg (fun r:Bool=>(.bool r:Value)) hF) (trivial)) (rfl)) (by kernel_rfl)
theorem as75 (n:Int) (low:Int) (high:Int):F75 n low high=(decide (low≤n∧n≤high)):=by
 simp only [F75,Bool.decide_and,bandd,geleD]
theorem oa75 (n:Int) (low:Int) (high:Int):(S75 (decide (low≤n∧n≤high)) n low high).ok Tryz.prog 75:=by
 intro hp; have h:=ok75 n low high hp; rw [as75 n low high] at h; exact h
structure Qg where
 A:Int
 B:Int
 deriving DecidableEq,Inhabited
def Qh (x:Qg):List Dat:=[.v (vI x.A),.v (vI x.B)]
structure Qk where
 In:Int
 Next:Int
 Out:Int
 deriving DecidableEq,Inhabited
def Ql (x:Qk):List Dat:=[.v (vI x.In),.v (vI x.Next),.v (vI x.Out)]
structure Qn where
 To:Int
 Via:Int
 Push:Int
 deriving DecidableEq,Inhabited
def Qo (x:Qn):List Dat:=[.v (vI x.To),.v (vI x.Via),.v (vI x.Push)]
structure Qi where
 Rows:List Qk
 Qc:List Qn
 deriving DecidableEq,Inhabited
def Qj (x:Qi):List Dat:=[.l 3 Ql x.Rows,.l 3 Qo x.Qc]
structure Qe where
 Qb:List Qg
 Qa:List Qi
 deriving DecidableEq,Inhabited
def Qf (x:Qe):List Dat:=[.l 2 Qh x.Qb,.l 2 Qj x.Qa]
def F66_s0 (n:Qe):Int→Lp Int Bool:=fun i40 =>
 bif (decide (i40<(n.Qb.length:Int))) then (bif (bif (bif decide ((n.Qb.getD i40.toNat default).A<0) then true else decide ((n.Qb.getD i40.toNat default).A≥(n.Qb.getD i40.toNat default).B)) then true else decide ((n.Qb.getD i40.toNat default).B≥(n.Qa.length:Int))) then (.ret false) else (bif (bif decide (i40>0) then (bif decide ((n.Qb.getD (i40-1).toNat default).A>(n.Qb.getD i40.toNat default).A) then true else (bif ((n.Qb.getD (i40-1).toNat default).A==(n.Qb.getD i40.toNat default).A) then decide ((n.Qb.getD (i40-1).toNat default).B≥(n.Qb.getD i40.toNat default).B) else false)) else false) then (.ret false) else (.next (i40+1)))) else (.done i40)
def F66 (n:Qe):Bool :=
 bif (bif (!(decide (1≤(n.Qa.length:Int)∧(n.Qa.length:Int)≤8))) then true else decide ((n.Qb.length:Int)>14)) then false else ((runL (F66_s0 n) (((n.Qb.length:Int)-0).toNat+1) 0).fin (fun r=>r) (fun i40=>true))
def S66 (n:Qe):Spec:=⟨[.r (.g (Qf n))],.v (.bool (F66 n)),True⟩
abbrev q66_1 (n:Qe) (i40:Int):=(n.Qb.getD i40.toNat default)
abbrev q66_2 (n:Qe) (i40:Int):=(n.Qb.getD (i40-1).toNat default)
abbrev q66_3 (n:Qe):=(runL (F66_s0 n) (((n.Qb.length:Int)-0).toNat+1) 0)
theorem ok66 (n:Qe):(S66 n).ok Tryz.prog 66 :=
 fnG_ok mixed (fn:=Tryz.f66) (ct:=.seq (.no) (.seq (.seq (.reg [(3,.call 75 (S75 (decide (1≤(n.Qa.length:Int)∧(n.Qa.length:Int)≤8)) (n.Qa.length:Int) 1 8) (oa75 (n.Qa.length:Int) 1 8) none)]) (.cond (.seq (.no) (.no)) (.no))) (.seq (.seqk [(1,0),(1,1)] (.no) (.blk (.loop (ι:=Nat×Int) (fun i=>(fun (i40:Int)=>(⟨[(1,some (.p 0 0)),(3,some (.v (vI i40)))],[(0,some (.box 26 [.h 1 0,.h 2 0])),(1,some (.shr none (.l 2 Qh n.Qb))),(2,some (.shr none (.l 2 Qj n.Qa)))],3⟩:St)) i.2) (fun i=>runL (F66_s0 n) i.1 i.2=(q66_3 n)∧(fun (i40:Int)=>(Int.toNat ((n.Qb.length:Int)-i40)<i.1∧(0:Int)≤i40)) i.2) (fun i=>i.1) ((((n.Qb.length:Int)-0).toNat+1),0) (fun i=>(fun (i40:Int)=>(.seq (.seq (.no) (.cond (.no) (.no))) (.seq (.blk (.seq (.no) (.seq (.seq (.no) (.cond (.seq (.no) (.no)) (.no))) (.seq (.reg [(6,.bnd),(17,.bnd),(28,.bnd)]) (.cond (.seq (.no) (.no)) (.no)))))) (.reg [(1,.bnd)])))) i.2)))) (.seq (.no) (.no))))) Tryz.func66 (fun (_:True)=>ai (trivial) (ai ((Imp.refl (.v (vI (n.Qa.length:Int))))) (ai ((Imp.refl (.v (vI 1)))) (ai ((Imp.refl (.v (vI 8)))) (ai (fun h1:(bif (!(decide (1≤(n.Qa.length:Int)∧(n.Qa.length:Int)≤8))) then true else decide ((n.Qb.length:Int)>14))=true=>(fun hF:(false:Bool)=(F66 n)=>ai (congrArg (fun r:Bool=>(.bool r:Value)) hF) (trivial)) (condT h1 (rfl))) (fun h1:(bif (!(decide (1≤(n.Qa.length:Int)∧(n.Qa.length:Int)≤8))) then true else decide ((n.Qb.length:Int)>14))=false=>(fun _:¬ (n.Qb.length:Int)>14=>(fun _:1≤(n.Qa.length:Int)∧(n.Qa.length:Int)≤8=>fun (_:n.Qb.length≤9223372036854775807)=>fun (_:n.Qa.length≤9223372036854775807)=>ai (ai (rfl) (ai (ir) (ai (ir) ((ai (rfl:runL (F66_s0 n) (((n.Qb.length:Int)-0).toNat+1) 0=(q66_3 n)) (ai ((Nat.lt_succ_self _:Int.toNat ((n.Qb.length:Int)-0)<(((n.Qb.length:Int)-0).toNat+1))) ((by omega:(0:Int)≤0))))))):((.int .i64 0:Value)=.int .i64 0)∧(Imp (.l 2 Qh n.Qb) (.l 2 Qh n.Qb))∧(Imp (.l 2 Qj n.Qa) (.l 2 Qj n.Qa))∧(runL (F66_s0 n) (((n.Qb.length:Int)-0).toNat+1) 0=(q66_3 n)∧Int.toNat ((n.Qb.length:Int)-0)<(((n.Qb.length:Int)-0).toNat+1)∧(0:Int)≤0)) (fun (i0:Nat×Int) (hi0:runL (F66_s0 n) i0.1 i0.2=(q66_3 n)∧(fun (i40:Int)=>(Int.toNat ((n.Qb.length:Int)-i40)<i0.1∧(0:Int)≤i40)) i0.2)=>(fun (m0:Nat) (i40:Int) (hI0:runL (F66_s0 n) (m0+1) i40=(q66_3 n)) (_:Int.toNat ((n.Qb.length:Int)-i40)<m0+1) (hl0:m0<i0.1) (_:(0:Int)≤i40)=>ai (fun h3:(decide (i40<(n.Qb.length:Int)))=true=>(fun _:i40<(n.Qb.length:Int)=>ai ((by omega:0≤i40∧i40<(n.Qb.length:Int))) (ai (fun h4:(bif (bif decide ((q66_1 n i40).A<0) then true else decide ((q66_1 n i40).A≥(q66_1 n i40).B)) then true else decide ((q66_1 n i40).B≥(n.Qa.length:Int)))=true=>(fun hF:(false:Bool)=(F66 n)=>ai (congrArg (fun r:Bool=>(.bool r:Value)) hF) (trivial)) (condF h1 (finR (runL_ret hI0 (condT h3 (condT h4 (rfl)))) rfl))) (fun h4:(bif (bif decide ((q66_1 n i40).A<0) then true else decide ((q66_1 n i40).A≥(q66_1 n i40).B)) then true else decide ((q66_1 n i40).B≥(n.Qa.length:Int)))=false=>(fun _:¬ (q66_1 n i40).B≥(n.Qa.length:Int)=>(fun _:¬ (q66_1 n i40).A≥(q66_1 n i40).B=>(fun _:¬ (q66_1 n i40).A<0=>ai ((fun k5:(decide (i40>0))=true=>(fun _:i40>0=>(by unfold i64ok; omega:i64ok (i40-1))) (of_decide_eq_true k5))) (ai ((fun k6:(decide (i40>0))=true=>(fun _:i40>0=>(by omega:0≤(i40-1)∧(i40-1)<(n.Qb.length:Int))) (of_decide_eq_true k6))) (ai ((fun k8:(decide ((q66_2 n i40).A>(q66_1 n i40).A))=false=>(fun _:¬ (q66_2 n i40).A>(q66_1 n i40).A=>(fun k7:(decide (i40>0))=true=>(fun _:i40>0=>(by unfold i64ok; omega:i64ok (i40-1))) (of_decide_eq_true k7))) (of_decide_eq_false k8))) (ai ((fun k10:(decide ((q66_2 n i40).A>(q66_1 n i40).A))=false=>(fun _:¬ (q66_2 n i40).A>(q66_1 n i40).A=>(fun k9:(decide (i40>0))=true=>(fun _:i40>0=>(by omega:0≤(i40-1)∧(i40-1)<(n.Qb.length:Int))) (of_decide_eq_true k9))) (of_decide_eq_false k10))) (ai ((fun k13:((q66_2 n i40).A==(q66_1 n i40).A)=true=>(fun _:(q66_2 n i40).A=(q66_1 n i40).A=>(fun k12:(decide ((q66_2 n i40).A>(q66_1 n i40).A))=false=>(fun _:¬ (q66_2 n i40).A>(q66_1 n i40).A=>(fun k11:(decide (i40>0))=true=>(fun _:i40>0=>(by unfold i64ok; omega:i64ok (i40-1))) (of_decide_eq_true k11))) (of_decide_eq_false k12))) (eq_of_beq k13))) (ai ((fun k16:((q66_2 n i40).A==(q66_1 n i40).A)=true=>(fun _:(q66_2 n i40).A=(q66_1 n i40).A=>(fun k15:(decide ((q66_2 n i40).A>(q66_1 n i40).A))=false=>(fun _:¬ (q66_2 n i40).A>(q66_1 n i40).A=>(fun k14:(decide (i40>0))=true=>(fun _:i40>0=>(by omega:0≤(i40-1)∧(i40-1)<(n.Qb.length:Int))) (of_decide_eq_true k14))) (of_decide_eq_false k15))) (eq_of_beq k16))) (ai (fun h17:(bif decide (i40>0) then (bif decide ((q66_2 n i40).A>(q66_1 n i40).A) then true else (bif ((q66_2 n i40).A==(q66_1 n i40).A) then decide ((q66_2 n i40).B≥(q66_1 n i40).B) else false)) else false)=true=>(fun _:i40>0=>(fun hF:(false:Bool)=(F66 n)=>ai (congrArg (fun r:Bool=>(.bool r:Value)) hF) (trivial)) (condF h1 (finR (runL_ret hI0 (condT h3 (condF h4 (condT h17 (rfl))))) rfl))) (of_decide_eq_true (andT1 h17))) (fun h17:(bif decide (i40>0) then (bif decide ((q66_2 n i40).A>(q66_1 n i40).A) then true else (bif ((q66_2 n i40).A==(q66_1 n i40).A) then decide ((q66_2 n i40).B≥(q66_1 n i40).B) else false)) else false)=false=>ai ((by unfold i64ok; omega:i64ok (i40+1))) (Exists.intro (p:=fun j:Nat×Int=>(fun (i40_:Int)=>(((.int .i64 (i40+1):Value)=.int .i64 i40_)∧(Imp (.l 2 Qh n.Qb) (.l 2 Qh n.Qb))∧(Imp (.l 2 Qj n.Qa) (.l 2 Qj n.Qa))∧((runL (F66_s0 n) j.1 j.2=(q66_3 n)∧Int.toNat ((n.Qb.length:Int)-i40_)<j.1∧(0:Int)≤i40_)∧j.1<i0.1))) j.2) (m0,(i40+1)) (ai (rfl) (ai (ir) (ai (ir) (ai (ai (runL_next hI0 (condT h3 (condF h4 (condF h17 (rfl))))) (ai ((by omega:Int.toNat ((n.Qb.length:Int)-(i40+1))<m0)) ((by omega:(0:Int)≤(i40+1))))) hl0))))))))))))) (of_decide_eq_false (orF1 (orF1 h4)))) (of_decide_eq_false (orF2 (orF1 h4)))) (of_decide_eq_false (orF2 h4))))) (of_decide_eq_true h3)) (fun h3:(decide (i40<(n.Qb.length:Int)))=false=>(fun _:¬ i40<(n.Qb.length:Int)=>(fun hD0_18:(q66_3 n)=Lp.done i40=>(fun hF:(true:Bool)=(F66 n)=>ai (congrArg (fun r:Bool=>(.bool r:Value)) hF) (trivial)) (condF h1 (finD hD0_18 (rfl)))) (runL_done hI0 (condF h3 (rfl)))) (of_decide_eq_false h3))) (i0.1-1) i0.2 (hd1 hi0.1 hi0.2.1) (hd2 hi0.2.1) (hd3 hi0.2.1) hi0.2.2)) (of_decide_eq_true (notEF (orF1 h1)))) (of_decide_eq_false (orF2 h1)))))))) (by kernel_rfl)
def F44_s0 (n:Qe) (a:Int) (b:Int):Int→Lp Int Int:=fun i40 =>
 bif (decide (i40<(n.Qb.length:Int))) then (bif (bif (bif ((n.Qb.getD i40.toNat default).A==a) then ((n.Qb.getD i40.toNat default).B==b) else false) then true else (bif ((n.Qb.getD i40.toNat default).A==b) then ((n.Qb.getD i40.toNat default).B==a) else false)) then (.ret i40) else (.next (i40+1))) else (.done i40)
def F44 (n:Qe) (a:Int) (b:Int):Int :=
 (runL (F44_s0 n a b) (((n.Qb.length:Int)-0).toNat+1) 0).fin (fun r=>r) (fun i40=>(-1))
def S44 (R:Int) (n:Qe) (a:Int) (b:Int):Spec:=⟨[.r (.g (Qf n)),.r (.c (.v (vI a))),.r (.c (.v (vI b)))],.v (vI R),True⟩
theorem ok44 (n:Qe) (a:Int) (b:Int):(S44 (F44 n a b) n a b).ok Tryz.prog 44 :=
 fnG_ok mixed (fn:=Tryz.f44) (ct:=.seq (.no) (.seq (.seqk [(3,0),(3,1)] (.no) (.blk (.loop (ι:=Nat×Int) (fun i=>(fun (i40:Int)=>(⟨[(1,some (.v (vI a))),(2,some (.v (vI b))),(3,some (.p 0 0)),(7,some (.v (vI i40)))],[(0,some (.box 26 [.h 1 0,.h 2 0])),(1,some (.shr none (.l 2 Qh n.Qb))),(2,some (.shr none (.l 2 Qj n.Qa)))],3⟩:St)) i.2) (fun i=>runL (F44_s0 n a b) i.1 i.2=(runL (F44_s0 n a b) (((n.Qb.length:Int)-0).toNat+1) 0)∧(fun (i40:Int)=>(Int.toNat ((n.Qb.length:Int)-i40)<i.1∧(0:Int)≤i40)) i.2) (fun i=>i.1) ((((n.Qb.length:Int)-0).toNat+1),0) (fun i=>(fun (i40:Int)=>(.seq (.seq (.no) (.cond (.no) (.no))) (.seq (.blk (.seq (.no) (.seq (.no) (.cond (.seq (.no) (.no)) (.no))))) (.reg [(1,.bnd)])))) i.2)))) (.seq (.no) (.no)))) Tryz.func44 (fun (_:True)=>fun (_:n.Qb.length≤9223372036854775807)=>fun (_:n.Qa.length≤9223372036854775807)=>ai (ai (rfl) (ai (rfl) (ai (rfl) (ai (ir) (ai (ir) ((ai (rfl:runL (F44_s0 n a b) (((n.Qb.length:Int)-0).toNat+1) 0=(runL (F44_s0 n a b) (((n.Qb.length:Int)-0).toNat+1) 0)) (ai ((Nat.lt_succ_self _:Int.toNat ((n.Qb.length:Int)-0)<(((n.Qb.length:Int)-0).toNat+1))) ((by omega:(0:Int)≤0))))))))):((.int .i64 a:Value)=.int .i64 a)∧((.int .i64 b:Value)=.int .i64 b)∧((.int .i64 0:Value)=.int .i64 0)∧(Imp (.l 2 Qh n.Qb) (.l 2 Qh n.Qb))∧(Imp (.l 2 Qj n.Qa) (.l 2 Qj n.Qa))∧(runL (F44_s0 n a b) (((n.Qb.length:Int)-0).toNat+1) 0=(runL (F44_s0 n a b) (((n.Qb.length:Int)-0).toNat+1) 0)∧Int.toNat ((n.Qb.length:Int)-0)<(((n.Qb.length:Int)-0).toNat+1)∧(0:Int)≤0)) (fun (i0:Nat×Int) (hi0:runL (F44_s0 n a b) i0.1 i0.2=(runL (F44_s0 n a b) (((n.Qb.length:Int)-0).toNat+1) 0)∧(fun (i40:Int)=>(Int.toNat ((n.Qb.length:Int)-i40)<i0.1∧(0:Int)≤i40)) i0.2)=>(fun (m0:Nat) (i40:Int) (hI0:runL (F44_s0 n a b) (m0+1) i40=(runL (F44_s0 n a b) (((n.Qb.length:Int)-0).toNat+1) 0)) (_:Int.toNat ((n.Qb.length:Int)-i40)<m0+1) (hl0:m0<i0.1) (_:(0:Int)≤i40)=>ai (fun h2:(decide (i40<(n.Qb.length:Int)))=true=>(fun _:i40<(n.Qb.length:Int)=>ai ((by omega:0≤i40∧i40<(n.Qb.length:Int))) (ai (fun h3:(bif (bif ((n.Qb.getD i40.toNat default).A==a) then ((n.Qb.getD i40.toNat default).B==b) else false) then true else (bif ((n.Qb.getD i40.toNat default).A==b) then ((n.Qb.getD i40.toNat default).B==a) else false))=true=>(fun hF:(i40:Int)=(F44 n a b)=>ai (congrArg (fun r:Int=>(.int .i64 r:Value)) hF) (trivial)) (finR (runL_ret hI0 (condT h2 (condT h3 (rfl)))) rfl)) (fun h3:(bif (bif ((n.Qb.getD i40.toNat default).A==a) then ((n.Qb.getD i40.toNat default).B==b) else false) then true else (bif ((n.Qb.getD i40.toNat default).A==b) then ((n.Qb.getD i40.toNat default).B==a) else false))=false=>ai ((by unfold i64ok; omega:i64ok (i40+1))) (Exists.intro (p:=fun j:Nat×Int=>(fun (i40_:Int)=>(((.int .i64 a:Value)=.int .i64 a)∧((.int .i64 b:Value)=.int .i64 b)∧((.int .i64 (i40+1):Value)=.int .i64 i40_)∧(Imp (.l 2 Qh n.Qb) (.l 2 Qh n.Qb))∧(Imp (.l 2 Qj n.Qa) (.l 2 Qj n.Qa))∧((runL (F44_s0 n a b) j.1 j.2=(runL (F44_s0 n a b) (((n.Qb.length:Int)-0).toNat+1) 0)∧Int.toNat ((n.Qb.length:Int)-i40_)<j.1∧(0:Int)≤i40_)∧j.1<i0.1))) j.2) (m0,(i40+1)) (ai (rfl) (ai (rfl) (ai (rfl) (ai (ir) (ai (ir) (ai (ai (runL_next hI0 (condT h2 (condF h3 (rfl)))) (ai ((by omega:Int.toNat ((n.Qb.length:Int)-(i40+1))<m0)) ((by omega:(0:Int)≤(i40+1))))) hl0)))))))))) (of_decide_eq_true h2)) (fun h2:(decide (i40<(n.Qb.length:Int)))=false=>(fun _:¬ i40<(n.Qb.length:Int)=>(fun hD0_4:(runL (F44_s0 n a b) (((n.Qb.length:Int)-0).toNat+1) 0)=Lp.done i40=>(fun hF:((-1):Int)=(F44 n a b)=>ai (congrArg (fun r:Int=>(.int .i64 r:Value)) hF) (trivial)) (finD hD0_4 (rfl))) (runL_done hI0 (condF h2 (rfl)))) (of_decide_eq_false h2))) (i0.1-1) i0.2 (hd1 hi0.1 hi0.2.1) (hd2 hi0.2.1) (hd3 hi0.2.1) hi0.2.2)) (by kernel_rfl)
def F87 (n:Qe) (box:Int) (r1:Qk):Bool :=
 bif (!(decide (1≤r1.In∧r1.In≤60))) then false else (bif (r1.Next==(-1)) then (r1.Out==0) else (bif decide ((F44 n box r1.Next)≥0) then (decide (1≤r1.Out∧r1.Out≤60)) else false))
def S87 (n:Qe) (box:Int) (r1:Qk):Spec:=⟨[.r (.g (Qf n)),.r (.c (.v (vI box))),.r (.g (Ql r1))],.v (.bool (F87 n box r1)),True⟩
theorem ok87 (n:Qe) (box:Int) (r1:Qk):(S87 n box r1).ok Tryz.prog 87 :=
 fnG_ok mixed (fn:=Tryz.f87) (ct:=.seq (.no) (.seq (.seq (.reg [(2,.call 75 (S75 (decide (1≤r1.In∧r1.In≤60)) r1.In 1 60) (oa75 r1.In 1 60) none)]) (.cond (.seq (.no) (.no)) (.no))) (.seq (.seq (.no) (.cond (.seq (.no) (.no)) (.no))) (.seq (.reg [(4,.call 44 (S44 (F44 n box r1.Next) n box r1.Next) (ok44 n box r1.Next) none),(9,.call 75 (S75 (decide (1≤r1.Out∧r1.Out≤60)) r1.Out 1 60) (oa75 r1.Out 1 60) none)]) (.no))))) Tryz.func87 (fun (_:True)=>ai (trivial) (ai ((Imp.refl (.v (vI r1.In)))) (ai ((Imp.refl (.v (vI 1)))) (ai ((Imp.refl (.v (vI 60)))) (ai (fun h1:(!(decide (1≤r1.In∧r1.In≤60)))=true=>(fun _:¬ (1≤r1.In∧r1.In≤60)=>(fun hF:(false:Bool)=(F87 n box r1)=>ai (congrArg (fun r:Bool=>(.bool r:Value)) hF) (trivial)) (condT h1 (rfl))) (of_decide_eq_false (notET h1))) (fun h1:(!(decide (1≤r1.In∧r1.In≤60)))=false=>(fun _:1≤r1.In∧r1.In≤60=>ai (fun h2:(r1.Next==(-1))=true=>(fun _:r1.Next=(-1)=>(fun hF:((r1.Out==0):Bool)=(F87 n box r1)=>ai (congrArg (fun r:Bool=>(.bool r:Value)) hF) (trivial)) (condF h1 (condT h2 (rfl)))) (eq_of_beq h2)) (fun h2:(r1.Next==(-1))=false=>(fun _:¬ r1.Next=(-1)=>ai (trivial) (ai ((Imps.refl (Qf n))) (ai ((Imp.refl (.v (vI box)))) (ai ((Imp.refl (.v (vI r1.Next)))) (ai ((fun k3:(decide ((F44 n box r1.Next)≥0))=true=>(fun _:(F44 n box r1.Next)≥0=>trivial) (of_decide_eq_true k3))) (ai ((fun k4:(decide ((F44 n box r1.Next)≥0))=true=>(fun _:(F44 n box r1.Next)≥0=>(Imp.refl (.v (vI r1.Out)))) (of_decide_eq_true k4))) (ai ((fun k5:(decide ((F44 n box r1.Next)≥0))=true=>(fun _:(F44 n box r1.Next)≥0=>(Imp.refl (.v (vI 1)))) (of_decide_eq_true k5))) (ai ((fun k6:(decide ((F44 n box r1.Next)≥0))=true=>(fun _:(F44 n box r1.Next)≥0=>(Imp.refl (.v (vI 60)))) (of_decide_eq_true k6))) ((fun hF:((bif decide ((F44 n box r1.Next)≥0) then (decide (1≤r1.Out∧r1.Out≤60)) else false):Bool)=(F87 n box r1)=>ai (congrArg (fun r:Bool=>(.bool r:Value)) hF) (trivial)) (condF h1 (condF h2 (rfl)))))))))))) (beqF h2))) (of_decide_eq_true (notEF h1)))))))) (by kernel_rfl)
def F88 (n:Qe) (box:Int) (v1:Qn):Bool :=
 (bif (bif (bif decide ((F44 n box v1.To)≥0) then decide ((F44 n box v1.Via)≥0) else false) then (v1.To != v1.Via) else false) then (decide (1≤v1.Push∧v1.Push≤60)) else false)
def S88 (n:Qe) (box:Int) (v1:Qn):Spec:=⟨[.r (.g (Qf n)),.r (.c (.v (vI box))),.r (.g (Qo v1))],.v (.bool (F88 n box v1)),True⟩
theorem ok88 (n:Qe) (box:Int) (v1:Qn):(S88 n box v1).ok Tryz.prog 88 :=
 fnG_ok mixed (fn:=Tryz.f88) (ct:=.seq (.no) (.seq (.reg [(4,.call 44 (S44 (F44 n box v1.To) n box v1.To) (ok44 n box v1.To) none),(11,.call 44 (S44 (F44 n box v1.Via) n box v1.Via) (ok44 n box v1.Via) none),(24,.call 75 (S75 (decide (1≤v1.Push∧v1.Push≤60)) v1.Push 1 60) (oa75 v1.Push 1 60) none)]) (.no))) Tryz.func88 (fun (_:True)=>ai (trivial) (ai ((Imps.refl (Qf n))) (ai ((Imp.refl (.v (vI box)))) (ai ((Imp.refl (.v (vI v1.To)))) (ai ((fun k1:(decide ((F44 n box v1.To)≥0))=true=>(fun _:(F44 n box v1.To)≥0=>trivial) (of_decide_eq_true k1))) (ai ((fun k2:(decide ((F44 n box v1.To)≥0))=true=>(fun _:(F44 n box v1.To)≥0=>(Imps.refl (Qf n))) (of_decide_eq_true k2))) (ai ((fun k3:(decide ((F44 n box v1.To)≥0))=true=>(fun _:(F44 n box v1.To)≥0=>(Imp.refl (.v (vI box)))) (of_decide_eq_true k3))) (ai ((fun k4:(decide ((F44 n box v1.To)≥0))=true=>(fun _:(F44 n box v1.To)≥0=>(Imp.refl (.v (vI v1.Via)))) (of_decide_eq_true k4))) (ai ((fun k5:(bif (bif decide ((F44 n box v1.To)≥0) then decide ((F44 n box v1.Via)≥0) else false) then (v1.To != v1.Via) else false)=true=>(fun _:¬ v1.To=v1.Via=>(fun _:(F44 n box v1.Via)≥0=>(fun _:(F44 n box v1.To)≥0=>trivial) (of_decide_eq_true (andT1 (andT1 k5)))) (of_decide_eq_true (andT2 (andT1 k5)))) (bneT (andT2 k5)))) (ai ((fun k6:(bif (bif decide ((F44 n box v1.To)≥0) then decide ((F44 n box v1.Via)≥0) else false) then (v1.To != v1.Via) else false)=true=>(fun _:¬ v1.To=v1.Via=>(fun _:(F44 n box v1.Via)≥0=>(fun _:(F44 n box v1.To)≥0=>(Imp.refl (.v (vI v1.Push)))) (of_decide_eq_true (andT1 (andT1 k6)))) (of_decide_eq_true (andT2 (andT1 k6)))) (bneT (andT2 k6)))) (ai ((fun k7:(bif (bif decide ((F44 n box v1.To)≥0) then decide ((F44 n box v1.Via)≥0) else false) then (v1.To != v1.Via) else false)=true=>(fun _:¬ v1.To=v1.Via=>(fun _:(F44 n box v1.Via)≥0=>(fun _:(F44 n box v1.To)≥0=>(Imp.refl (.v (vI 1)))) (of_decide_eq_true (andT1 (andT1 k7)))) (of_decide_eq_true (andT2 (andT1 k7)))) (bneT (andT2 k7)))) (ai ((fun k8:(bif (bif decide ((F44 n box v1.To)≥0) then decide ((F44 n box v1.Via)≥0) else false) then (v1.To != v1.Via) else false)=true=>(fun _:¬ v1.To=v1.Via=>(fun _:(F44 n box v1.Via)≥0=>(fun _:(F44 n box v1.To)≥0=>(Imp.refl (.v (vI 60)))) (of_decide_eq_true (andT1 (andT1 k8)))) (of_decide_eq_true (andT2 (andT1 k8)))) (bneT (andT2 k8)))) ((fun hF:((bif (bif (bif decide ((F44 n box v1.To)≥0) then decide ((F44 n box v1.Via)≥0) else false) then (v1.To != v1.Via) else false) then (decide (1≤v1.Push∧v1.Push≤60)) else false):Bool)=(F88 n box v1)=>ai (congrArg (fun r:Bool=>(.bool r:Value)) hF) (trivial)) (rfl)))))))))))))) (by kernel_rfl)
def F67_s1 (n:Qe) (box:Int):Int→Lp Int Bool:=fun i41 =>
 bif (decide (i41<((n.Qa.getD box.toNat default).Qc.length:Int))) then (bif (bif (!(F88 n box ((n.Qa.getD box.toNat default).Qc.getD i41.toNat default))) then true else (bif decide (i41>0) then decide (((n.Qa.getD box.toNat default).Qc.getD (i41-1).toNat default).To≥((n.Qa.getD box.toNat default).Qc.getD i41.toNat default).To) else false)) then (.ret false) else (.next (i41+1))) else (.done i41)
def F67_s0 (n:Qe) (box:Int):Int→Lp Int Bool:=fun i40 =>
 bif (decide (i40<((n.Qa.getD box.toNat default).Rows.length:Int))) then (bif (bif (!(F87 n box ((n.Qa.getD box.toNat default).Rows.getD i40.toNat default))) then true else (bif decide (i40>0) then decide (((n.Qa.getD box.toNat default).Rows.getD (i40-1).toNat default).In≥((n.Qa.getD box.toNat default).Rows.getD i40.toNat default).In) else false)) then (.ret false) else (.next (i40+1))) else (.done i40)
def F67 (n:Qe) (box:Int):Bool :=
 (runL (F67_s0 n box) ((((n.Qa.getD box.toNat default).Rows.length:Int)-0).toNat+1) 0).fin (fun r=>r) (fun i40=>(runL (F67_s1 n box) ((((n.Qa.getD box.toNat default).Qc.length:Int)-0).toNat+1) 0).fin (fun r=>r) (fun i41=>true))
def S67 (n:Qe) (box:Int):Spec:=⟨[.r (.g (Qf n)),.r (.c (.v (vI box)))],.v (.bool (F67 n box)),0≤box∧box<(n.Qa.length:Int)⟩
abbrev q67_1 (n:Qe) (box:Int):=(n.Qa.getD box.toNat default)
abbrev q67_2 (n:Qe) (box:Int):=(runL (F67_s1 n box) ((((q67_1 n box).Qc.length:Int)-0).toNat+1) 0)
abbrev q67_3 (n:Qe) (box:Int):=(runL (F67_s0 n box) ((((q67_1 n box).Rows.length:Int)-0).toNat+1) 0)
abbrev q67_4 (n:Qe) (box:Int) (i41:Int):=((q67_1 n box).Qc.getD i41.toNat default)
abbrev q67_5 (n:Qe) (box:Int) (i40:Int):=((q67_1 n box).Rows.getD i40.toNat default)
abbrev q67_6 (n:Qe):=(Imp (.l 2 Qh n.Qb) (.l 2 Qh n.Qb))
abbrev q67_7 (n:Qe):=(Imp (.l 2 Qj n.Qa) (.l 2 Qj n.Qa))
abbrev q67_8 (n:Qe) (box:Int):=(Imps (Qj (q67_1 n box)) (Qj (q67_1 n box)))
theorem ok67 (n:Qe) (box:Int):(S67 n box).ok Tryz.prog 67 :=
 fnG_ok mixed (fn:=Tryz.f67) (ct:=.seq (.no) (.seq (.no) (.seq (.seqk [(2,0),(2,1),(5,0),(5,1)] (.no) (.blk (.loop (ι:=Nat×Int) (fun i=>(fun (i40:Int)=>(⟨[(1,some (.v (vI box))),(2,some (.p 0 0)),(5,some (.p 3 0)),(6,some (.v (vI i40)))],[(0,some (.box 26 [.h 1 0,.h 2 0])),(1,some (.shr none (.l 2 Qh n.Qb))),(2,some (.shr none (.l 2 Qj n.Qa))),(3,some (.box 49 [.h 4 1,.h 4 2])),(4,some (.mem none none (Qj (q67_1 n box))))],5⟩:St)) i.2) (fun i=>runL (F67_s0 n box) i.1 i.2=(q67_3 n box)∧(fun (i40:Int)=>(Int.toNat (((q67_1 n box).Rows.length:Int)-i40)<i.1∧(0:Int)≤i40)) i.2) (fun i=>i.1) (((((q67_1 n box).Rows.length:Int)-0).toNat+1),0) (fun i=>(fun (i40:Int)=>(.seq (.seq (.no) (.cond (.no) (.no))) (.seq (.blk (.seq (.reg [(7,.call 87 (S87 n box (q67_5 n box i40)) (ok87 n box (q67_5 n box i40)) none),(16,.bnd)]) (.cond (.seq (.no) (.no)) (.no)))) (.reg [(1,.bnd)])))) i.2)))) (.seq (.seqk [(2,0),(2,1),(5,0),(5,1)] (.no) (.blk (.loop (ι:=Nat×Int) (fun i=>(fun (i41:Int)=>(⟨[(1,some (.v (vI box))),(2,some (.p 0 0)),(5,some (.p 3 0)),(7,some (.v (vI i41)))],[(0,some (.box 26 [.h 1 0,.h 2 0])),(1,some (.shr none (.l 2 Qh n.Qb))),(2,some (.shr none (.l 2 Qj n.Qa))),(3,some (.box 49 [.h 4 1,.h 4 2])),(4,some (.mem none none (Qj (q67_1 n box))))],5⟩:St)) i.2) (fun i=>runL (F67_s1 n box) i.1 i.2=(q67_2 n box)∧(fun (i41:Int)=>(Int.toNat (((q67_1 n box).Qc.length:Int)-i41)<i.1∧(0:Int)≤i41)) i.2) (fun i=>i.1) (((((q67_1 n box).Qc.length:Int)-0).toNat+1),0) (fun i=>(fun (i41:Int)=>(.seq (.seq (.no) (.cond (.no) (.no))) (.seq (.blk (.seq (.reg [(7,.call 88 (S88 n box (q67_4 n box i41)) (ok88 n box (q67_4 n box i41)) none),(16,.bnd)]) (.cond (.seq (.no) (.no)) (.no)))) (.reg [(1,.bnd)])))) i.2)))) (.seq (.no) (.no)))))) Tryz.func67 (fun (hp:0≤box∧box<(n.Qa.length:Int))=>(fun (hpre0:0≤box) (hpre1:box<(n.Qa.length:Int))=>ai ((by omega:0≤box∧box<(n.Qa.length:Int))) (fun (_:n.Qb.length≤9223372036854775807)=>fun (_:n.Qa.length≤9223372036854775807)=>fun (_:(q67_1 n box).Rows.length≤9223372036854775807)=>fun (_:(q67_1 n box).Qc.length≤9223372036854775807)=>ai (ai (rfl) (ai (rfl) (ai (ir) (ai (ir) (ai ((Imps.refl _)) ((ai (rfl:runL (F67_s0 n box) ((((q67_1 n box).Rows.length:Int)-0).toNat+1) 0=(q67_3 n box)) (ai ((Nat.lt_succ_self _:Int.toNat (((q67_1 n box).Rows.length:Int)-0)<((((q67_1 n box).Rows.length:Int)-0).toNat+1))) ((by omega:(0:Int)≤0))))))))):((.int .i64 box:Value)=.int .i64 box)∧((.int .i64 0:Value)=.int .i64 0)∧(q67_6 n)∧(q67_7 n)∧(q67_8 n box)∧(runL (F67_s0 n box) ((((q67_1 n box).Rows.length:Int)-0).toNat+1) 0=(q67_3 n box)∧Int.toNat (((q67_1 n box).Rows.length:Int)-0)<((((q67_1 n box).Rows.length:Int)-0).toNat+1)∧(0:Int)≤0)) (fun (i0:Nat×Int) (hi0:runL (F67_s0 n box) i0.1 i0.2=(q67_3 n box)∧(fun (i40:Int)=>(Int.toNat (((q67_1 n box).Rows.length:Int)-i40)<i0.1∧(0:Int)≤i40)) i0.2)=>(fun (m0:Nat) (i40:Int) (hI0:runL (F67_s0 n box) (m0+1) i40=(q67_3 n box)) (_:Int.toNat (((q67_1 n box).Rows.length:Int)-i40)<m0+1) (hl0:m0<i0.1) (_:(0:Int)≤i40)=>ai (fun h2:(decide (i40<((q67_1 n box).Rows.length:Int)))=true=>(fun _:i40<((q67_1 n box).Rows.length:Int)=>ai ((by omega:0≤i40∧i40<((q67_1 n box).Rows.length:Int))) (ai (trivial) (ai ((Imps.refl (Qf n))) (ai ((Imp.refl (.v (vI box)))) (ai ((Imps.refl (Ql (q67_5 n box i40)))) (ai ((fun k4:(decide (i40>0))=true=>(fun _:i40>0=>(fun k3:(!(F87 n box (q67_5 n box i40)))=false=>(by unfold i64ok; omega:i64ok (i40-1)))) (of_decide_eq_true k4))) (ai ((fun k6:(decide (i40>0))=true=>(fun _:i40>0=>(fun k5:(!(F87 n box (q67_5 n box i40)))=false=>(by omega:0≤(i40-1)∧(i40-1)<((q67_1 n box).Rows.length:Int)))) (of_decide_eq_true k6))) (ai ((fun k8:(decide (i40>0))=true=>(fun _:i40>0=>(fun k7:(!(F87 n box (q67_5 n box i40)))=false=>(by omega:0≤i40∧i40<((q67_1 n box).Rows.length:Int)))) (of_decide_eq_true k8))) (ai (fun h9:(bif (!(F87 n box (q67_5 n box i40))) then true else (bif decide (i40>0) then decide (((q67_1 n box).Rows.getD (i40-1).toNat default).In≥(q67_5 n box i40).In) else false))=true=>(fun hF:(false:Bool)=(F67 n box)=>ai (congrArg (fun r:Bool=>(.bool r:Value)) hF) (trivial)) (finR (runL_ret hI0 (condT h2 (condT h9 (rfl)))) rfl)) (fun h9:(bif (!(F87 n box (q67_5 n box i40))) then true else (bif decide (i40>0) then decide (((q67_1 n box).Rows.getD (i40-1).toNat default).In≥(q67_5 n box i40).In) else false))=false=>ai ((by unfold i64ok; omega:i64ok (i40+1))) (Exists.intro (p:=fun j:Nat×Int=>(fun (i40_:Int)=>(((.int .i64 box:Value)=.int .i64 box)∧((.int .i64 (i40+1):Value)=.int .i64 i40_)∧(q67_6 n)∧(q67_7 n)∧(q67_8 n box)∧((runL (F67_s0 n box) j.1 j.2=(q67_3 n box)∧Int.toNat (((q67_1 n box).Rows.length:Int)-i40_)<j.1∧(0:Int)≤i40_)∧j.1<i0.1))) j.2) (m0,(i40+1)) (ai (rfl) (ai (rfl) (ai (ir) (ai (ir) (ai ((Imps.refl _)) (ai (ai (runL_next hI0 (condT h2 (condF h9 (rfl)))) (ai ((by omega:Int.toNat (((q67_1 n box).Rows.length:Int)-(i40+1))<m0)) ((by omega:(0:Int)≤(i40+1))))) hl0))))))))))))))))) (of_decide_eq_true h2)) (fun h2:(decide (i40<((q67_1 n box).Rows.length:Int)))=false=>(fun _:¬ i40<((q67_1 n box).Rows.length:Int)=>(fun hD0_10:(q67_3 n box)=Lp.done i40=>fun (_:n.Qb.length≤9223372036854775807)=>fun (_:n.Qa.length≤9223372036854775807)=>fun (_:(q67_1 n box).Rows.length≤9223372036854775807)=>fun (_:(q67_1 n box).Qc.length≤9223372036854775807)=>ai (ai (rfl) (ai (rfl) (ai (ir) (ai (ir) (ai ((Imps.refl _)) ((ai (rfl:runL (F67_s1 n box) ((((q67_1 n box).Qc.length:Int)-0).toNat+1) 0=(q67_2 n box)) (ai ((Nat.lt_succ_self _:Int.toNat (((q67_1 n box).Qc.length:Int)-0)<((((q67_1 n box).Qc.length:Int)-0).toNat+1))) ((by omega:(0:Int)≤0))))))))):((.int .i64 box:Value)=.int .i64 box)∧((.int .i64 0:Value)=.int .i64 0)∧(q67_6 n)∧(q67_7 n)∧(q67_8 n box)∧(runL (F67_s1 n box) ((((q67_1 n box).Qc.length:Int)-0).toNat+1) 0=(q67_2 n box)∧Int.toNat (((q67_1 n box).Qc.length:Int)-0)<((((q67_1 n box).Qc.length:Int)-0).toNat+1)∧(0:Int)≤0)) (fun (i1:Nat×Int) (hi1:runL (F67_s1 n box) i1.1 i1.2=(q67_2 n box)∧(fun (i41:Int)=>(Int.toNat (((q67_1 n box).Qc.length:Int)-i41)<i1.1∧(0:Int)≤i41)) i1.2)=>(fun (m1:Nat) (i41:Int) (hI1:runL (F67_s1 n box) (m1+1) i41=(q67_2 n box)) (_:Int.toNat (((q67_1 n box).Qc.length:Int)-i41)<m1+1) (hl1:m1<i1.1) (_:(0:Int)≤i41)=>ai (fun h12:(decide (i41<((q67_1 n box).Qc.length:Int)))=true=>(fun _:i41<((q67_1 n box).Qc.length:Int)=>ai ((by omega:0≤i41∧i41<((q67_1 n box).Qc.length:Int))) (ai (trivial) (ai ((Imps.refl (Qf n))) (ai ((Imp.refl (.v (vI box)))) (ai ((Imps.refl (Qo (q67_4 n box i41)))) (ai ((fun k14:(decide (i41>0))=true=>(fun _:i41>0=>(fun k13:(!(F88 n box (q67_4 n box i41)))=false=>(by unfold i64ok; omega:i64ok (i41-1)))) (of_decide_eq_true k14))) (ai ((fun k16:(decide (i41>0))=true=>(fun _:i41>0=>(fun k15:(!(F88 n box (q67_4 n box i41)))=false=>(by omega:0≤(i41-1)∧(i41-1)<((q67_1 n box).Qc.length:Int)))) (of_decide_eq_true k16))) (ai ((fun k18:(decide (i41>0))=true=>(fun _:i41>0=>(fun k17:(!(F88 n box (q67_4 n box i41)))=false=>(by omega:0≤i41∧i41<((q67_1 n box).Qc.length:Int)))) (of_decide_eq_true k18))) (ai (fun h19:(bif (!(F88 n box (q67_4 n box i41))) then true else (bif decide (i41>0) then decide (((q67_1 n box).Qc.getD (i41-1).toNat default).To≥(q67_4 n box i41).To) else false))=true=>(fun hF:(false:Bool)=(F67 n box)=>ai (congrArg (fun r:Bool=>(.bool r:Value)) hF) (trivial)) (finD hD0_10 (finR (runL_ret hI1 (condT h12 (condT h19 (rfl)))) rfl))) (fun h19:(bif (!(F88 n box (q67_4 n box i41))) then true else (bif decide (i41>0) then decide (((q67_1 n box).Qc.getD (i41-1).toNat default).To≥(q67_4 n box i41).To) else false))=false=>ai ((by unfold i64ok; omega:i64ok (i41+1))) (Exists.intro (p:=fun j:Nat×Int=>(fun (i41_:Int)=>(((.int .i64 box:Value)=.int .i64 box)∧((.int .i64 (i41+1):Value)=.int .i64 i41_)∧(q67_6 n)∧(q67_7 n)∧(q67_8 n box)∧((runL (F67_s1 n box) j.1 j.2=(q67_2 n box)∧Int.toNat (((q67_1 n box).Qc.length:Int)-i41_)<j.1∧(0:Int)≤i41_)∧j.1<i1.1))) j.2) (m1,(i41+1)) (ai (rfl) (ai (rfl) (ai (ir) (ai (ir) (ai ((Imps.refl _)) (ai (ai (runL_next hI1 (condT h12 (condF h19 (rfl)))) (ai ((by omega:Int.toNat (((q67_1 n box).Qc.length:Int)-(i41+1))<m1)) ((by omega:(0:Int)≤(i41+1))))) hl1))))))))))))))))) (of_decide_eq_true h12)) (fun h12:(decide (i41<((q67_1 n box).Qc.length:Int)))=false=>(fun _:¬ i41<((q67_1 n box).Qc.length:Int)=>(fun hD1_20:(q67_2 n box)=Lp.done i41=>(fun hF:(true:Bool)=(F67 n box)=>ai (congrArg (fun r:Bool=>(.bool r:Value)) hF) (trivial)) (finD hD0_10 (finD hD1_20 (rfl)))) (runL_done hI1 (condF h12 (rfl)))) (of_decide_eq_false h12))) (i1.1-1) i1.2 (hd1 hi1.1 hi1.2.1) (hd2 hi1.2.1) (hd3 hi1.2.1) hi1.2.2)) (runL_done hI0 (condF h2 (rfl)))) (of_decide_eq_false h2))) (i0.1-1) i0.2 (hd1 hi0.1 hi0.2.1) (hd2 hi0.2.1) (hd3 hi0.2.1) hi0.2.2))) hp.1 hp.2) (by kernel_rfl)
def F32_s0 (n:Qe):Int→Lp Int Bool:=fun i40 =>
 bif (decide (i40<(n.Qa.length:Int))) then (bif (!(F67 n i40)) then (.ret false) else (.next (i40+1))) else (.done i40)
def F32 (n:Qe):Bool :=
 bif (!(F66 n)) then false else ((runL (F32_s0 n) (((n.Qa.length:Int)-0).toNat+1) 0).fin (fun r=>r) (fun i40=>true))
def S32 (R:Bool) (n:Qe):Spec:=⟨[.r (.g (Qf n))],.v (.bool R),True⟩
theorem ok32 (n:Qe):(S32 (F32 n) n).ok Tryz.prog 32 :=
 fnG_ok mixed (fn:=Tryz.f32) (ct:=.seq (.no) (.seq (.seq (.reg [(1,.call 66 (S66 n) (ok66 n) none)]) (.cond (.seq (.no) (.no)) (.no))) (.seq (.seqk [(1,0),(1,1)] (.no) (.blk (.loop (ι:=Nat×Int) (fun i=>(fun (i40:Int)=>(⟨[(1,some (.p 0 0)),(3,some (.v (vI i40)))],[(0,some (.box 26 [.h 1 0,.h 2 0])),(1,some (.shr none (.l 2 Qh n.Qb))),(2,some (.shr none (.l 2 Qj n.Qa)))],3⟩:St)) i.2) (fun i=>runL (F32_s0 n) i.1 i.2=(runL (F32_s0 n) (((n.Qa.length:Int)-0).toNat+1) 0)∧(fun (i40:Int)=>(Int.toNat ((n.Qa.length:Int)-i40)<i.1∧(0:Int)≤i40)) i.2) (fun i=>i.1) ((((n.Qa.length:Int)-0).toNat+1),0) (fun i=>(fun (i40:Int)=>(.seq (.seq (.no) (.cond (.no) (.no))) (.seq (.blk (.seq (.reg [(2,.call 67 (S67 n i40) (ok67 n i40) none)]) (.cond (.seq (.no) (.no)) (.no)))) (.reg [(1,.bnd)])))) i.2)))) (.seq (.no) (.no))))) Tryz.func32 (fun (_:True)=>ai (trivial) (ai ((Imps.refl (Qf n))) (ai (fun h1:(!(F66 n))=true=>(fun hF:(false:Bool)=(F32 n)=>ai (congrArg (fun r:Bool=>(.bool r:Value)) hF) (trivial)) (condT h1 (rfl))) (fun h1:(!(F66 n))=false=>fun (_:n.Qb.length≤9223372036854775807)=>fun (_:n.Qa.length≤9223372036854775807)=>ai (ai (rfl) (ai (ir) (ai (ir) ((ai (rfl:runL (F32_s0 n) (((n.Qa.length:Int)-0).toNat+1) 0=(runL (F32_s0 n) (((n.Qa.length:Int)-0).toNat+1) 0)) (ai ((Nat.lt_succ_self _:Int.toNat ((n.Qa.length:Int)-0)<(((n.Qa.length:Int)-0).toNat+1))) ((by omega:(0:Int)≤0))))))):((.int .i64 0:Value)=.int .i64 0)∧(Imp (.l 2 Qh n.Qb) (.l 2 Qh n.Qb))∧(Imp (.l 2 Qj n.Qa) (.l 2 Qj n.Qa))∧(runL (F32_s0 n) (((n.Qa.length:Int)-0).toNat+1) 0=(runL (F32_s0 n) (((n.Qa.length:Int)-0).toNat+1) 0)∧Int.toNat ((n.Qa.length:Int)-0)<(((n.Qa.length:Int)-0).toNat+1)∧(0:Int)≤0)) (fun (i0:Nat×Int) (hi0:runL (F32_s0 n) i0.1 i0.2=(runL (F32_s0 n) (((n.Qa.length:Int)-0).toNat+1) 0)∧(fun (i40:Int)=>(Int.toNat ((n.Qa.length:Int)-i40)<i0.1∧(0:Int)≤i40)) i0.2)=>(fun (m0:Nat) (i40:Int) (hI0:runL (F32_s0 n) (m0+1) i40=(runL (F32_s0 n) (((n.Qa.length:Int)-0).toNat+1) 0)) (_:Int.toNat ((n.Qa.length:Int)-i40)<m0+1) (hl0:m0<i0.1) (_:(0:Int)≤i40)=>ai (fun h3:(decide (i40<(n.Qa.length:Int)))=true=>(fun _:i40<(n.Qa.length:Int)=>ai ((ai ((by omega:0≤i40)) ((by omega:i40<(n.Qa.length:Int))))) (ai ((Imps.refl (Qf n))) (ai ((Imp.refl (.v (vI i40)))) (ai (fun h4:(!(F67 n i40))=true=>(fun hF:(false:Bool)=(F32 n)=>ai (congrArg (fun r:Bool=>(.bool r:Value)) hF) (trivial)) (condF h1 (finR (runL_ret hI0 (condT h3 (condT h4 (rfl)))) rfl))) (fun h4:(!(F67 n i40))=false=>ai ((by unfold i64ok; omega:i64ok (i40+1))) (Exists.intro (p:=fun j:Nat×Int=>(fun (i40_:Int)=>(((.int .i64 (i40+1):Value)=.int .i64 i40_)∧(Imp (.l 2 Qh n.Qb) (.l 2 Qh n.Qb))∧(Imp (.l 2 Qj n.Qa) (.l 2 Qj n.Qa))∧((runL (F32_s0 n) j.1 j.2=(runL (F32_s0 n) (((n.Qa.length:Int)-0).toNat+1) 0)∧Int.toNat ((n.Qa.length:Int)-i40_)<j.1∧(0:Int)≤i40_)∧j.1<i0.1))) j.2) (m0,(i40+1)) (ai (rfl) (ai (ir) (ai (ir) (ai (ai (runL_next hI0 (condT h3 (condF h4 (rfl)))) (ai ((by omega:Int.toNat ((n.Qa.length:Int)-(i40+1))<m0)) ((by omega:(0:Int)≤(i40+1))))) hl0)))))))))) (of_decide_eq_true h3)) (fun h3:(decide (i40<(n.Qa.length:Int)))=false=>(fun _:¬ i40<(n.Qa.length:Int)=>(fun hD0_5:(runL (F32_s0 n) (((n.Qa.length:Int)-0).toNat+1) 0)=Lp.done i40=>(fun hF:(true:Bool)=(F32 n)=>ai (congrArg (fun r:Bool=>(.bool r:Value)) hF) (trivial)) (condF h1 (finD hD0_5 (rfl)))) (runL_done hI0 (condF h3 (rfl)))) (of_decide_eq_false h3))) (i0.1-1) i0.2 (hd1 hi0.1 hi0.2.1) (hd2 hi0.2.1) (hd3 hi0.2.1) hi0.2.2))))) (by kernel_rfl)
def F27 (n:Int) (low:Int) (high:Int):Bool :=
 (bif decide (low≤n) then decide (n≤high) else false)
def S27 (R:Bool) (n:Int) (low:Int) (high:Int):Spec:=⟨[.r (.c (.v (vI n))),.r (.c (.v (vI low))),.r (.c (.v (vI high)))],.v (.bool R),True⟩
theorem ok27 (n:Int) (low:Int) (high:Int):(S27 (F27 n low high) n low high).ok Tryz.prog 27 :=
 fnG_ok mixed (fn:=Tryz.f27) (ct:=.seq (.no) (.seq (.no) (.no))) Tryz.func27 (fun (_:True)=>(fun hF:((bif decide (low≤n) then decide (n≤high) else false):Bool)=(F27 n low high)=>ai (congrArg (fun r:Bool=>(.bool r:Value)) hF) (trivial)) (rfl)) (by kernel_rfl)
theorem as27 (n:Int) (low:Int) (high:Int):F27 n low high=(decide (low≤n∧n≤high)):=by
 simp only [F27,Bool.decide_and,bandd]
theorem oa27 (n:Int) (low:Int) (high:Int):(S27 (decide (low≤n∧n≤high)) n low high).ok Tryz.prog 27:=by
 intro hp; have h:=ok27 n low high hp; rw [as27 n low high] at h; exact h
def F56 (addr:Int) (length:Int) (otherAddr:Int) (otherLen:Int):Bool :=
 (bif decide (addr<otherAddr) then true else (bif (addr==otherAddr) then decide (length<otherLen) else false))
def S56 (addr:Int) (length:Int) (otherAddr:Int) (otherLen:Int):Spec:=⟨[.r (.c (.v (vI addr))),.r (.c (.v (vI length))),.r (.c (.v (vI otherAddr))),.r (.c (.v (vI otherLen)))],.v (.bool (F56 addr length otherAddr otherLen)),True⟩
theorem ok56 (addr:Int) (length:Int) (otherAddr:Int) (otherLen:Int):(S56 addr length otherAddr otherLen).ok Tryz.prog 56 :=
 fnG_ok mixed (fn:=Tryz.f56) (ct:=.seq (.no) (.seq (.no) (.no))) Tryz.func56 (fun (_:True)=>(fun hF:((bif decide (addr<otherAddr) then true else (bif (addr==otherAddr) then decide (length<otherLen) else false)):Bool)=(F56 addr length otherAddr otherLen)=>ai (congrArg (fun r:Bool=>(.bool r:Value)) hF) (trivial)) (rfl)) (by kernel_rfl)
def F28_s0 (n:Qe):Int→Lp Int Bool:=fun v8 =>
 bif (decide (v8<(n.Qb.length:Int))) then (bif (bif (bif decide ((n.Qb.getD v8.toNat default).A<0) then true else decide ((n.Qb.getD v8.toNat default).A≥(n.Qb.getD v8.toNat default).B)) then true else decide ((n.Qb.getD v8.toNat default).B≥(n.Qa.length:Int))) then (.ret false) else (bif (bif decide (v8>0) then (!(F56 (n.Qb.getD (v8-1).toNat default).A (n.Qb.getD (v8-1).toNat default).B (n.Qb.getD v8.toNat default).A (n.Qb.getD v8.toNat default).B)) else false) then (.ret false) else (.next (v8+1)))) else (.done v8)
def F28 (n:Qe):Bool :=
 (runL (F28_s0 n) (((n.Qb.length:Int)-0).toNat+1) 0).fin (fun r=>r) (fun v8=>decide ((n.Qb.length:Int)≤14))
def S28 (n:Qe):Spec:=⟨[.r (.g (Qf n))],.v (.bool (F28 n)),True⟩
abbrev q28_1 (n:Qe) (v8:Int):=(n.Qb.getD v8.toNat default)
abbrev q28_2 (n:Qe):=(runL (F28_s0 n) (((n.Qb.length:Int)-0).toNat+1) 0)
abbrev q28_3 (n:Qe) (v8:Int):=(n.Qb.getD (v8-1).toNat default)
theorem ok28 (n:Qe):(S28 n).ok Tryz.prog 28 :=
 fnG_ok mixed (fn:=Tryz.f28) (ct:=.seq (.no) (.seq (.seqk [(1,0),(1,1),(6,0)] (.no) (.blk (.loop (ι:=Nat×Int) (fun i=>(fun (v8:Int)=>(⟨[(1,some (.p 0 0)),(6,some (.h 1 0)),(7,some (.v (vI (n.Qb.length:Int)))),(8,some (.v (vI v8)))],[(0,some (.box 26 [.h 1 0,.h 2 0])),(1,some (.shr none (.l 2 Qh n.Qb))),(2,some (.shr none (.l 2 Qj n.Qa)))],3⟩:St)) i.2) (fun i=>runL (F28_s0 n) i.1 i.2=(q28_2 n)∧(fun (v8:Int)=>(Int.toNat ((n.Qb.length:Int)-v8)<i.1∧(0:Int)≤v8)) i.2) (fun i=>i.1) ((((n.Qb.length:Int)-0).toNat+1),0) (fun i=>(fun (v8:Int)=>(.seq (.no) (.seq (.cond (.no) (.no)) (.seq (.blk (.seq (.no) (.seq (.seq (.no) (.cond (.seq (.no) (.no)) (.no))) (.seq (.reg [(6,.bnd),(13,.bnd),(21,.call 56 (S56 (q28_3 n v8).A (q28_3 n v8).B (q28_1 n v8).A (q28_1 n v8).B) (ok56 (q28_3 n v8).A (q28_3 n v8).B (q28_1 n v8).A (q28_1 n v8).B) none)]) (.cond (.seq (.no) (.no)) (.no)))))) (.reg [(0,.bnd)]))))) i.2)))) (.seq (.no) (.no)))) Tryz.func28 (fun (_:True)=>fun (_:n.Qb.length≤9223372036854775807)=>fun (_:n.Qa.length≤9223372036854775807)=>fun (_:n.Qb.length≤9223372036854775807)=>ai (ai (rfl) (ai (rfl) (ai (ir) (ai (ir) ((ai (rfl:runL (F28_s0 n) (((n.Qb.length:Int)-0).toNat+1) 0=(q28_2 n)) (ai ((Nat.lt_succ_self _:Int.toNat ((n.Qb.length:Int)-0)<(((n.Qb.length:Int)-0).toNat+1))) ((by omega:(0:Int)≤0)))))))):((.int .i64 (n.Qb.length:Int):Value)=.int .i64 (n.Qb.length:Int))∧((.int .i64 0:Value)=.int .i64 0)∧(Imp (.l 2 Qh n.Qb) (.l 2 Qh n.Qb))∧(Imp (.l 2 Qj n.Qa) (.l 2 Qj n.Qa))∧(runL (F28_s0 n) (((n.Qb.length:Int)-0).toNat+1) 0=(q28_2 n)∧Int.toNat ((n.Qb.length:Int)-0)<(((n.Qb.length:Int)-0).toNat+1)∧(0:Int)≤0)) (fun (i0:Nat×Int) (hi0:runL (F28_s0 n) i0.1 i0.2=(q28_2 n)∧(fun (v8:Int)=>(Int.toNat ((n.Qb.length:Int)-v8)<i0.1∧(0:Int)≤v8)) i0.2)=>(fun (m0:Nat) (v8:Int) (hI0:runL (F28_s0 n) (m0+1) v8=(q28_2 n)) (_:Int.toNat ((n.Qb.length:Int)-v8)<m0+1) (hl0:m0<i0.1) (_:(0:Int)≤v8)=>ai (fun h2:(decide (v8<(n.Qb.length:Int)))=true=>(fun _:v8<(n.Qb.length:Int)=>ai ((by omega:0≤v8∧v8<(n.Qb.length:Int))) (ai (fun h3:(bif (bif decide ((q28_1 n v8).A<0) then true else decide ((q28_1 n v8).A≥(q28_1 n v8).B)) then true else decide ((q28_1 n v8).B≥(n.Qa.length:Int)))=true=>(fun hF:(false:Bool)=(F28 n)=>ai (congrArg (fun r:Bool=>(.bool r:Value)) hF) (trivial)) (finR (runL_ret hI0 (condT h2 (condT h3 (rfl)))) rfl)) (fun h3:(bif (bif decide ((q28_1 n v8).A<0) then true else decide ((q28_1 n v8).A≥(q28_1 n v8).B)) then true else decide ((q28_1 n v8).B≥(n.Qa.length:Int)))=false=>(fun _:¬ (q28_1 n v8).B≥(n.Qa.length:Int)=>(fun _:¬ (q28_1 n v8).A≥(q28_1 n v8).B=>(fun _:¬ (q28_1 n v8).A<0=>ai ((fun k4:(decide (v8>0))=true=>(fun _:v8>0=>(by unfold i64ok; omega:i64ok (v8-1))) (of_decide_eq_true k4))) (ai ((fun k5:(decide (v8>0))=true=>(fun _:v8>0=>(by omega:0≤(v8-1)∧(v8-1)<(n.Qb.length:Int))) (of_decide_eq_true k5))) (ai ((fun k6:(decide (v8>0))=true=>(fun _:v8>0=>(by unfold i64ok; omega:i64ok (v8-1))) (of_decide_eq_true k6))) (ai ((fun k7:(decide (v8>0))=true=>(fun _:v8>0=>(by omega:0≤(v8-1)∧(v8-1)<(n.Qb.length:Int))) (of_decide_eq_true k7))) (ai ((fun k8:(decide (v8>0))=true=>(fun _:v8>0=>trivial) (of_decide_eq_true k8))) (ai ((fun k9:(decide (v8>0))=true=>(fun _:v8>0=>(Imp.refl (.v (vI (q28_3 n v8).A)))) (of_decide_eq_true k9))) (ai ((fun k10:(decide (v8>0))=true=>(fun _:v8>0=>(Imp.refl (.v (vI (q28_3 n v8).B)))) (of_decide_eq_true k10))) (ai ((fun k11:(decide (v8>0))=true=>(fun _:v8>0=>(Imp.refl (.v (vI (q28_1 n v8).A)))) (of_decide_eq_true k11))) (ai ((fun k12:(decide (v8>0))=true=>(fun _:v8>0=>(Imp.refl (.v (vI (q28_1 n v8).B)))) (of_decide_eq_true k12))) (ai (fun h13:(bif decide (v8>0) then (!(F56 (q28_3 n v8).A (q28_3 n v8).B (q28_1 n v8).A (q28_1 n v8).B)) else false)=true=>(fun _:v8>0=>(fun hF:(false:Bool)=(F28 n)=>ai (congrArg (fun r:Bool=>(.bool r:Value)) hF) (trivial)) (finR (runL_ret hI0 (condT h2 (condF h3 (condT h13 (rfl))))) rfl)) (of_decide_eq_true (andT1 h13))) (fun h13:(bif decide (v8>0) then (!(F56 (q28_3 n v8).A (q28_3 n v8).B (q28_1 n v8).A (q28_1 n v8).B)) else false)=false=>ai ((by unfold i64ok; omega:i64ok (v8+1))) (Exists.intro (p:=fun j:Nat×Int=>(fun (v8_:Int)=>(((.int .i64 (n.Qb.length:Int):Value)=.int .i64 (n.Qb.length:Int))∧((.int .i64 (v8+1):Value)=.int .i64 v8_)∧(Imp (.l 2 Qh n.Qb) (.l 2 Qh n.Qb))∧(Imp (.l 2 Qj n.Qa) (.l 2 Qj n.Qa))∧((runL (F28_s0 n) j.1 j.2=(q28_2 n)∧Int.toNat ((n.Qb.length:Int)-v8_)<j.1∧(0:Int)≤v8_)∧j.1<i0.1))) j.2) (m0,(v8+1)) (ai (rfl) (ai (rfl) (ai (ir) (ai (ir) (ai (ai (runL_next hI0 (condT h2 (condF h3 (condF h13 (rfl))))) (ai ((by omega:Int.toNat ((n.Qb.length:Int)-(v8+1))<m0)) ((by omega:(0:Int)≤(v8+1))))) hl0))))))))))))))))) (of_decide_eq_false (orF1 (orF1 h3)))) (of_decide_eq_false (orF2 (orF1 h3)))) (of_decide_eq_false (orF2 h3))))) (of_decide_eq_true h2)) (fun h2:(decide (v8<(n.Qb.length:Int)))=false=>(fun _:¬ v8<(n.Qb.length:Int)=>(fun hD0_14:(q28_2 n)=Lp.done v8=>(fun hF:(decide ((n.Qb.length:Int)≤14):Bool)=(F28 n)=>ai (congrArg (fun r:Bool=>(.bool r:Value)) hF) (trivial)) (finD hD0_14 (rfl))) (runL_done hI0 (condF h2 (rfl)))) (of_decide_eq_false h2))) (i0.1-1) i0.2 (hd1 hi0.1 hi0.2.1) (hd2 hi0.2.1) (hd3 hi0.2.1) hi0.2.2)) (by kernel_rfl)
def F57 (label:Int):Bool :=
 (decide (1≤label∧label≤60))
def S57 (R:Bool) (label:Int):Spec:=⟨[.r (.c (.v (vI label)))],.v (.bool R),True⟩
theorem ok57 (label:Int):(S57 (F57 label) label).ok Tryz.prog 57 :=
 fnG_ok mixed (fn:=Tryz.f57) (ct:=.seq (.no) (.seq (.reg [(1,.call 27 (S27 (decide (1≤label∧label≤60)) label 1 60) (oa27 label 1 60) none)]) (.no))) Tryz.func57 (fun (_:True)=>ai (trivial) (ai ((Imp.refl (.v (vI label)))) (ai ((Imp.refl (.v (vI 1)))) (ai ((Imp.refl (.v (vI 60)))) ((fun hF:((decide (1≤label∧label≤60)):Bool)=(F57 label)=>ai (congrArg (fun r:Bool=>(.bool r:Value)) hF) (trivial)) (rfl)))))) (by kernel_rfl)
theorem as57 (label:Int):F57 label=(decide (1≤label∧label≤60)):=by
 rfl
theorem oa57 (label:Int):(S57 (decide (1≤label∧label≤60)) label).ok Tryz.prog 57:=by
 intro hp; have h:=ok57 label hp; rw [as57 label] at h; exact h
theorem eqlT64 (x0 y0:Int) (x1 y1:Int) (p q:Operand) (w:World):(do eqGuard .eql 64 p q (.agg #[.int .i64 x0,.int .i64 x1]) (.agg #[.int .i64 y0,.int .i64 y1]); binOp .eql 64 (.agg #[.int .i64 x0,.int .i64 x1]) (.agg #[.int .i64 y0,.int .i64 y1])).run Tryz.prog w=.ok (.bool ((x0==y0)&&(x1==y1))) w:=by
 by_cases h0:x0=y0
 case neg=>simp [go_sem,h0]
 by_cases h1:x1=y1
 case neg=>simp [go_sem,h0,h1]
 simp [go_sem,h0,h1]
def F81_s0 (s:List Qg) (v1:Qg):Int→Lp Int Int:=fun v8 =>
 bif (decide (v8<(s.length:Int))) then (bif ((v1.A==(s.getD v8.toNat default).A)&&(v1.B==(s.getD v8.toNat default).B)) then (.ret v8) else (.next (v8+1))) else (.done v8)
def F81 (s:List Qg) (v1:Qg):Int :=
 (runL (F81_s0 s v1) (((s.length:Int)-0).toNat+1) 0).fin (fun r=>r) (fun v8=>(-1))
def S81 (s:List Qg) (v1:Qg):Spec:=⟨[.r (.c (.l 2 Qh s)),.r (.g (Qh v1))],.v (vI (F81 s v1)),True⟩
theorem ok81 (s:List Qg) (v1:Qg):(S81 s v1).ok Tryz.prog 81 :=
 fnG_ok mixed (fn:=Tryz.f81) (ct:=.seqk [(0,0)] (.no) (.seq (.seqk [(0,0)] (.no) (.blk (.loop (ι:=Nat×Int) (fun i=>(fun (v8:Int)=>(⟨[(0,some (.h 0 0)),(3,some (.p 1 0)),(7,some (.v (vI (s.length:Int)))),(8,some (.v (vI v8)))],[(0,some (.shr none (.l 2 Qh s))),(1,some (.box 64 [.v (vI v1.A),.v (vI v1.B)]))],2⟩:St)) i.2) (fun i=>runL (F81_s0 s v1) i.1 i.2=(runL (F81_s0 s v1) (((s.length:Int)-0).toNat+1) 0)∧(fun (v8:Int)=>(Int.toNat ((s.length:Int)-v8)<i.1∧(0:Int)≤v8)) i.2) (fun i=>i.1) ((((s.length:Int)-0).toNat+1),0) (fun i=>(fun (v8:Int)=>(.seq (.no) (.seq (.cond (.no) (.no)) (.seq (.blk (.seq (.no) (.seq (.reg [(5,.bin .eql 64 (.agg #[.int .i64 v1.A,.int .i64 v1.B]) (.agg #[.int .i64 (s.getD v8.toNat default).A,.int .i64 (s.getD v8.toNat default).B]) (.bool ((v1.A==(s.getD v8.toNat default).A)&&(v1.B==(s.getD v8.toNat default).B))) rfl (eqlT64 v1.A (s.getD v8.toNat default).A v1.B (s.getD v8.toNat default).B))]) (.cond (.seq (.no) (.no)) (.no))))) (.reg [(0,.bnd)]))))) i.2)))) (.seq (.no) (.no)))) Tryz.func81 (fun (_:True)=>fun (_:s.length≤9223372036854775807)=>fun (_:s.length≤9223372036854775807)=>ai (ai (rfl) (ai (rfl) (ai (ir) (ai (rfl) (ai (rfl) ((ai (rfl:runL (F81_s0 s v1) (((s.length:Int)-0).toNat+1) 0=(runL (F81_s0 s v1) (((s.length:Int)-0).toNat+1) 0)) (ai ((Nat.lt_succ_self _:Int.toNat ((s.length:Int)-0)<(((s.length:Int)-0).toNat+1))) ((by omega:(0:Int)≤0))))))))):((.int .i64 (s.length:Int):Value)=.int .i64 (s.length:Int))∧((.int .i64 0:Value)=.int .i64 0)∧(Imp (.l 2 Qh s) (.l 2 Qh s))∧((.int .i64 v1.A:Value)=.int .i64 v1.A)∧((.int .i64 v1.B:Value)=.int .i64 v1.B)∧(runL (F81_s0 s v1) (((s.length:Int)-0).toNat+1) 0=(runL (F81_s0 s v1) (((s.length:Int)-0).toNat+1) 0)∧Int.toNat ((s.length:Int)-0)<(((s.length:Int)-0).toNat+1)∧(0:Int)≤0)) (fun (i0:Nat×Int) (hi0:runL (F81_s0 s v1) i0.1 i0.2=(runL (F81_s0 s v1) (((s.length:Int)-0).toNat+1) 0)∧(fun (v8:Int)=>(Int.toNat ((s.length:Int)-v8)<i0.1∧(0:Int)≤v8)) i0.2)=>(fun (m0:Nat) (v8:Int) (hI0:runL (F81_s0 s v1) (m0+1) v8=(runL (F81_s0 s v1) (((s.length:Int)-0).toNat+1) 0)) (_:Int.toNat ((s.length:Int)-v8)<m0+1) (hl0:m0<i0.1) (_:(0:Int)≤v8)=>ai (fun h2:(decide (v8<(s.length:Int)))=true=>(fun _:v8<(s.length:Int)=>ai ((by omega:0≤v8∧v8<(s.length:Int))) (ai ((Eq.refl (.agg #[.int .i64 v1.A,.int .i64 v1.B]:Value))) (ai ((Eq.refl (.agg #[.int .i64 (s.getD v8.toNat default).A,.int .i64 (s.getD v8.toNat default).B]:Value))) (ai (fun h3:((v1.A==(s.getD v8.toNat default).A)&&(v1.B==(s.getD v8.toNat default).B))=true=>(fun hF:(v8:Int)=(F81 s v1)=>ai (congrArg (fun r:Int=>(.int .i64 r:Value)) hF) (trivial)) (finR (runL_ret hI0 (condT h2 (condT h3 (rfl)))) rfl)) (fun h3:((v1.A==(s.getD v8.toNat default).A)&&(v1.B==(s.getD v8.toNat default).B))=false=>ai ((by unfold i64ok; omega:i64ok (v8+1))) (Exists.intro (p:=fun j:Nat×Int=>(fun (v8_:Int)=>(((.int .i64 (s.length:Int):Value)=.int .i64 (s.length:Int))∧((.int .i64 (v8+1):Value)=.int .i64 v8_)∧(Imp (.l 2 Qh s) (.l 2 Qh s))∧((.int .i64 v1.A:Value)=.int .i64 v1.A)∧((.int .i64 v1.B:Value)=.int .i64 v1.B)∧((runL (F81_s0 s v1) j.1 j.2=(runL (F81_s0 s v1) (((s.length:Int)-0).toNat+1) 0)∧Int.toNat ((s.length:Int)-v8_)<j.1∧(0:Int)≤v8_)∧j.1<i0.1))) j.2) (m0,(v8+1)) (ai (rfl) (ai (rfl) (ai (ir) (ai (rfl) (ai (rfl) (ai (ai (runL_next hI0 (condT h2 (condF h3 (rfl)))) (ai ((by omega:Int.toNat ((s.length:Int)-(v8+1))<m0)) ((by omega:(0:Int)≤(v8+1))))) hl0)))))))))))) (of_decide_eq_true h2)) (fun h2:(decide (v8<(s.length:Int)))=false=>(fun _:¬ v8<(s.length:Int)=>(fun hD0_4:(runL (F81_s0 s v1) (((s.length:Int)-0).toNat+1) 0)=Lp.done v8=>(fun hF:((-1):Int)=(F81 s v1)=>ai (congrArg (fun r:Int=>(.int .i64 r:Value)) hF) (trivial)) (finD hD0_4 (rfl))) (runL_done hI0 (condF h2 (rfl)))) (of_decide_eq_false h2))) (i0.1-1) i0.2 (hd1 hi0.1 hi0.2.1) (hd2 hi0.2.1) (hd3 hi0.2.1) hi0.2.2)) (by kernel_rfl)
def F48 (n:Qe) (a:Int) (b:Int):Int :=
 (F81 n.Qb ⟨(if b<a then b else a),(if b>a then b else a)⟩)
def S48 (R:Int) (n:Qe) (a:Int) (b:Int):Spec:=⟨[.r (.g (Qf n)),.r (.c (.v (vI a))),.r (.c (.v (vI b)))],.v (vI R),True⟩
theorem ok48 (n:Qe) (a:Int) (b:Int):(S48 (F48 n a b) n a b).ok Tryz.prog 48 :=
 fnG_ok mixed (fn:=Tryz.f48) (ct:=.seq (.no) (.seq (.reg [(9,.call 81 (S81 n.Qb (⟨(if b<a then b else a),(if b>a then b else a)⟩:Qg)) (ok81 n.Qb (⟨(if b<a then b else a),(if b>a then b else a)⟩:Qg)) none)]) (.no))) Tryz.func48 (fun (_:True)=>ai (trivial) (ai ((Imp.refl (.l 2 Qh n.Qb))) (ai ((Imps.refl (Qh (⟨(if b<a then b else a),(if b>a then b else a)⟩:Qg)))) ((fun hF:((F81 n.Qb ⟨(if b<a then b else a),(if b>a then b else a)⟩):Int)=(F48 n a b)=>ai (congrArg (fun r:Int=>(.int .i64 r:Value)) hF) (trivial)) (rfl))))) (by kernel_rfl)
def F29_s1 (n:Qe) (at':Int):Int→Lp Int Bool:=fun v74 =>
 bif (decide (v74<((n.Qa.getD at'.toNat default).Qc.length:Int))) then (bif (bif (bif (bif (bif (((n.Qa.getD at'.toNat default).Qc.getD v74.toNat default).To==((n.Qa.getD at'.toNat default).Qc.getD v74.toNat default).Via) then true else decide ((F48 n at' ((n.Qa.getD at'.toNat default).Qc.getD v74.toNat default).To)<0)) then true else decide ((F48 n at' ((n.Qa.getD at'.toNat default).Qc.getD v74.toNat default).Via)<0)) then true else (!(decide (1≤((n.Qa.getD at'.toNat default).Qc.getD v74.toNat default).Push∧((n.Qa.getD at'.toNat default).Qc.getD v74.toNat default).Push≤60)))) then true else (bif decide (v74>0) then decide (((n.Qa.getD at'.toNat default).Qc.getD (v74-1).toNat default).To≥((n.Qa.getD at'.toNat default).Qc.getD v74.toNat default).To) else false)) then (.ret false) else (.next (v74+1))) else (.done v74)
def F29_s0 (n:Qe) (at':Int):Int→Lp Int Bool:=fun v19 =>
 bif (decide (v19<((n.Qa.getD at'.toNat default).Rows.length:Int))) then (bif (bif (bif (!(decide (1≤((n.Qa.getD at'.toNat default).Rows.getD v19.toNat default).In∧((n.Qa.getD at'.toNat default).Rows.getD v19.toNat default).In≤60))) then true else (bif (!(bif (((n.Qa.getD at'.toNat default).Rows.getD v19.toNat default).Next==(-1)) then (((n.Qa.getD at'.toNat default).Rows.getD v19.toNat default).Out==0) else false)) then (bif decide ((F48 n at' ((n.Qa.getD at'.toNat default).Rows.getD v19.toNat default).Next)<0) then true else (!(decide (1≤((n.Qa.getD at'.toNat default).Rows.getD v19.toNat default).Out∧((n.Qa.getD at'.toNat default).Rows.getD v19.toNat default).Out≤60)))) else false)) then true else (bif decide (v19>0) then decide (((n.Qa.getD at'.toNat default).Rows.getD (v19-1).toNat default).In≥((n.Qa.getD at'.toNat default).Rows.getD v19.toNat default).In) else false)) then (.ret false) else (.next (v19+1))) else (.done v19)
def F29 (n:Qe) (at':Int):Bool :=
 (runL (F29_s0 n at') ((((n.Qa.getD at'.toNat default).Rows.length:Int)-0).toNat+1) 0).fin (fun r=>r) (fun v19=>(runL (F29_s1 n at') ((((n.Qa.getD at'.toNat default).Qc.length:Int)-0).toNat+1) 0).fin (fun r=>r) (fun v74=>true))
def S29 (n:Qe) (at':Int):Spec:=⟨[.r (.g (Qf n)),.r (.c (.v (vI at')))],.v (.bool (F29 n at')),0≤at'∧at'<(n.Qa.length:Int)⟩
abbrev q29_1 (n:Qe) (at':Int):=(n.Qa.getD at'.toNat default)
abbrev q29_2 (n:Qe) (at':Int) (v74:Int):=((q29_1 n at').Qc.getD v74.toNat default)
abbrev q29_3 (n:Qe) (at':Int) (v19:Int):=((q29_1 n at').Rows.getD v19.toNat default)
abbrev q29_4 (n:Qe) (at':Int):=(runL (F29_s1 n at') ((((q29_1 n at').Qc.length:Int)-0).toNat+1) 0)
abbrev q29_5 (n:Qe) (at':Int):=(runL (F29_s0 n at') ((((q29_1 n at').Rows.length:Int)-0).toNat+1) 0)
abbrev q29_6 (n:Qe) (at':Int) (v74:Int):=(F48 n at' (q29_2 n at' v74).To)
abbrev q29_7 (n:Qe) (at':Int) (v74:Int):=(F48 n at' (q29_2 n at' v74).Via)
abbrev q29_8 (n:Qe):=(Imp (.l 2 Qh n.Qb) (.l 2 Qh n.Qb))
abbrev q29_9 (n:Qe):=(Imp (.l 2 Qj n.Qa) (.l 2 Qj n.Qa))
abbrev q29_10 (n:Qe) (at':Int):=(Imps (Qj (q29_1 n at')) (Qj (q29_1 n at')))
theorem ok29 (n:Qe) (at':Int):(S29 n at').ok Tryz.prog 29 :=
 fnG_ok mixed (fn:=Tryz.f29) (ct:=.seq (.no) (.seq (.no) (.seq (.seqk [(2,0),(2,1),(5,0),(5,1),(17,0)] (.no) (.blk (.loop (ι:=Nat×Int) (fun i=>(fun (v19:Int)=>(⟨[(1,some (.v (vI at'))),(2,some (.p 0 0)),(5,some (.p 3 0)),(17,some (.h 4 1)),(18,some (.v (vI ((q29_1 n at').Rows.length:Int)))),(19,some (.v (vI v19)))],[(0,some (.box 26 [.h 1 0,.h 2 0])),(1,some (.shr none (.l 2 Qh n.Qb))),(2,some (.shr none (.l 2 Qj n.Qa))),(3,some (.box 49 [.h 4 1,.h 4 2])),(4,some (.mem none none (Qj (q29_1 n at'))))],5⟩:St)) i.2) (fun i=>runL (F29_s0 n at') i.1 i.2=(q29_5 n at')∧(fun (v19:Int)=>(Int.toNat (((q29_1 n at').Rows.length:Int)-v19)<i.1∧(0:Int)≤v19)) i.2) (fun i=>i.1) (((((q29_1 n at').Rows.length:Int)-0).toNat+1),0) (fun i=>(fun (v19:Int)=>(.seq (.no) (.seq (.cond (.no) (.no)) (.seq (.blk (.seq (.no) (.seq (.no) (.seq (.reg [(2,.call 57 (S57 (decide (1≤(q29_3 n at' v19).In∧(q29_3 n at' v19).In≤60)) (q29_3 n at' v19).In) (oa57 (q29_3 n at' v19).In) none),(12,.call 48 (S48 (F48 n at' (q29_3 n at' v19).Next) n at' (q29_3 n at' v19).Next) (ok48 n at' (q29_3 n at' v19).Next) none),(17,.call 57 (S57 (decide (1≤(q29_3 n at' v19).Out∧(q29_3 n at' v19).Out≤60)) (q29_3 n at' v19).Out) (oa57 (q29_3 n at' v19).Out) none),(29,.bnd)]) (.cond (.seq (.no) (.no)) (.no)))))) (.reg [(0,.bnd)]))))) i.2)))) (.seq (.seqk [(2,0),(2,1),(5,0),(5,1),(72,0)] (.no) (.blk (.loop (ι:=Nat×Int) (fun i=>(fun (v74:Int)=>(⟨[(1,some (.v (vI at'))),(2,some (.p 0 0)),(5,some (.p 3 0)),(72,some (.h 4 2)),(73,some (.v (vI ((q29_1 n at').Qc.length:Int)))),(74,some (.v (vI v74)))],[(0,some (.box 26 [.h 1 0,.h 2 0])),(1,some (.shr none (.l 2 Qh n.Qb))),(2,some (.shr none (.l 2 Qj n.Qa))),(3,some (.box 49 [.h 4 1,.h 4 2])),(4,some (.mem none none (Qj (q29_1 n at'))))],5⟩:St)) i.2) (fun i=>runL (F29_s1 n at') i.1 i.2=(q29_4 n at')∧(fun (v74:Int)=>(Int.toNat (((q29_1 n at').Qc.length:Int)-v74)<i.1∧(0:Int)≤v74)) i.2) (fun i=>i.1) (((((q29_1 n at').Qc.length:Int)-0).toNat+1),0) (fun i=>(fun (v74:Int)=>(.seq (.no) (.seq (.cond (.no) (.no)) (.seq (.blk (.seq (.no) (.seq (.reg [(10,.call 48 (S48 (q29_6 n at' v74) n at' (q29_2 n at' v74).To) (ok48 n at' (q29_2 n at' v74).To) none),(18,.call 48 (S48 (q29_7 n at' v74) n at' (q29_2 n at' v74).Via) (ok48 n at' (q29_2 n at' v74).Via) none),(24,.call 57 (S57 (decide (1≤(q29_2 n at' v74).Push∧(q29_2 n at' v74).Push≤60)) (q29_2 n at' v74).Push) (oa57 (q29_2 n at' v74).Push) none),(34,.bnd)]) (.cond (.seq (.no) (.no)) (.no))))) (.reg [(0,.bnd)]))))) i.2)))) (.seq (.no) (.no)))))) Tryz.func29 (fun (hp:0≤at'∧at'<(n.Qa.length:Int))=>(fun (hpre0:0≤at') (hpre1:at'<(n.Qa.length:Int))=>ai ((by omega:0≤at'∧at'<(n.Qa.length:Int))) (fun (_:n.Qb.length≤9223372036854775807)=>fun (_:n.Qa.length≤9223372036854775807)=>fun (_:(q29_1 n at').Rows.length≤9223372036854775807)=>fun (_:(q29_1 n at').Qc.length≤9223372036854775807)=>fun (_:(q29_1 n at').Rows.length≤9223372036854775807)=>ai (ai (rfl) (ai (rfl) (ai (rfl) (ai (ir) (ai (ir) (ai ((Imps.refl _)) ((ai (rfl:runL (F29_s0 n at') ((((q29_1 n at').Rows.length:Int)-0).toNat+1) 0=(q29_5 n at')) (ai ((Nat.lt_succ_self _:Int.toNat (((q29_1 n at').Rows.length:Int)-0)<((((q29_1 n at').Rows.length:Int)-0).toNat+1))) ((by omega:(0:Int)≤0)))))))))):((.int .i64 at':Value)=.int .i64 at')∧((.int .i64 ((q29_1 n at').Rows.length:Int):Value)=.int .i64 ((q29_1 n at').Rows.length:Int))∧((.int .i64 0:Value)=.int .i64 0)∧(q29_8 n)∧(q29_9 n)∧(q29_10 n at')∧(runL (F29_s0 n at') ((((q29_1 n at').Rows.length:Int)-0).toNat+1) 0=(q29_5 n at')∧Int.toNat (((q29_1 n at').Rows.length:Int)-0)<((((q29_1 n at').Rows.length:Int)-0).toNat+1)∧(0:Int)≤0)) (fun (i0:Nat×Int) (hi0:runL (F29_s0 n at') i0.1 i0.2=(q29_5 n at')∧(fun (v19:Int)=>(Int.toNat (((q29_1 n at').Rows.length:Int)-v19)<i0.1∧(0:Int)≤v19)) i0.2)=>(fun (m0:Nat) (v19:Int) (hI0:runL (F29_s0 n at') (m0+1) v19=(q29_5 n at')) (_:Int.toNat (((q29_1 n at').Rows.length:Int)-v19)<m0+1) (hl0:m0<i0.1) (_:(0:Int)≤v19)=>ai (fun h2:(decide (v19<((q29_1 n at').Rows.length:Int)))=true=>(fun _:v19<((q29_1 n at').Rows.length:Int)=>ai ((by omega:0≤v19∧v19<((q29_1 n at').Rows.length:Int))) (ai (trivial) (ai ((Imp.refl (.v (vI (q29_3 n at' v19).In)))) (ai ((fun k4:(!(bif ((q29_3 n at' v19).Next==(-1)) then ((q29_3 n at' v19).Out==0) else false))=true=>(fun k3:(!(decide (1≤(q29_3 n at' v19).In∧(q29_3 n at' v19).In≤60)))=false=>(fun _:1≤(q29_3 n at' v19).In∧(q29_3 n at' v19).In≤60=>trivial) (of_decide_eq_true (notEF k3))))) (ai ((fun k6:(!(bif ((q29_3 n at' v19).Next==(-1)) then ((q29_3 n at' v19).Out==0) else false))=true=>(fun k5:(!(decide (1≤(q29_3 n at' v19).In∧(q29_3 n at' v19).In≤60)))=false=>(fun _:1≤(q29_3 n at' v19).In∧(q29_3 n at' v19).In≤60=>(Imps.refl (Qf n))) (of_decide_eq_true (notEF k5))))) (ai ((fun k8:(!(bif ((q29_3 n at' v19).Next==(-1)) then ((q29_3 n at' v19).Out==0) else false))=true=>(fun k7:(!(decide (1≤(q29_3 n at' v19).In∧(q29_3 n at' v19).In≤60)))=false=>(fun _:1≤(q29_3 n at' v19).In∧(q29_3 n at' v19).In≤60=>(Imp.refl (.v (vI at')))) (of_decide_eq_true (notEF k7))))) (ai ((fun k10:(!(bif ((q29_3 n at' v19).Next==(-1)) then ((q29_3 n at' v19).Out==0) else false))=true=>(fun k9:(!(decide (1≤(q29_3 n at' v19).In∧(q29_3 n at' v19).In≤60)))=false=>(fun _:1≤(q29_3 n at' v19).In∧(q29_3 n at' v19).In≤60=>(Imp.refl (.v (vI (q29_3 n at' v19).Next)))) (of_decide_eq_true (notEF k9))))) (ai ((fun k13:(decide ((F48 n at' (q29_3 n at' v19).Next)<0))=false=>(fun _:¬ (F48 n at' (q29_3 n at' v19).Next)<0=>(fun k12:(!(bif ((q29_3 n at' v19).Next==(-1)) then ((q29_3 n at' v19).Out==0) else false))=true=>(fun k11:(!(decide (1≤(q29_3 n at' v19).In∧(q29_3 n at' v19).In≤60)))=false=>(fun _:1≤(q29_3 n at' v19).In∧(q29_3 n at' v19).In≤60=>trivial) (of_decide_eq_true (notEF k11))))) (of_decide_eq_false k13))) (ai ((fun k16:(decide ((F48 n at' (q29_3 n at' v19).Next)<0))=false=>(fun _:¬ (F48 n at' (q29_3 n at' v19).Next)<0=>(fun k15:(!(bif ((q29_3 n at' v19).Next==(-1)) then ((q29_3 n at' v19).Out==0) else false))=true=>(fun k14:(!(decide (1≤(q29_3 n at' v19).In∧(q29_3 n at' v19).In≤60)))=false=>(fun _:1≤(q29_3 n at' v19).In∧(q29_3 n at' v19).In≤60=>(Imp.refl (.v (vI (q29_3 n at' v19).Out)))) (of_decide_eq_true (notEF k14))))) (of_decide_eq_false k16))) (ai ((fun k18:(decide (v19>0))=true=>(fun _:v19>0=>(fun k17:(bif (!(decide (1≤(q29_3 n at' v19).In∧(q29_3 n at' v19).In≤60))) then true else (bif (!(bif ((q29_3 n at' v19).Next==(-1)) then ((q29_3 n at' v19).Out==0) else false)) then (bif decide ((F48 n at' (q29_3 n at' v19).Next)<0) then true else (!(decide (1≤(q29_3 n at' v19).Out∧(q29_3 n at' v19).Out≤60)))) else false))=false=>(fun _:1≤(q29_3 n at' v19).In∧(q29_3 n at' v19).In≤60=>(by unfold i64ok; omega:i64ok (v19-1))) (of_decide_eq_true (notEF (orF1 k17))))) (of_decide_eq_true k18))) (ai ((fun k20:(decide (v19>0))=true=>(fun _:v19>0=>(fun k19:(bif (!(decide (1≤(q29_3 n at' v19).In∧(q29_3 n at' v19).In≤60))) then true else (bif (!(bif ((q29_3 n at' v19).Next==(-1)) then ((q29_3 n at' v19).Out==0) else false)) then (bif decide ((F48 n at' (q29_3 n at' v19).Next)<0) then true else (!(decide (1≤(q29_3 n at' v19).Out∧(q29_3 n at' v19).Out≤60)))) else false))=false=>(fun _:1≤(q29_3 n at' v19).In∧(q29_3 n at' v19).In≤60=>(by omega:0≤(v19-1)∧(v19-1)<((q29_1 n at').Rows.length:Int))) (of_decide_eq_true (notEF (orF1 k19))))) (of_decide_eq_true k20))) (ai (fun h21:(bif (bif (!(decide (1≤(q29_3 n at' v19).In∧(q29_3 n at' v19).In≤60))) then true else (bif (!(bif ((q29_3 n at' v19).Next==(-1)) then ((q29_3 n at' v19).Out==0) else false)) then (bif decide ((F48 n at' (q29_3 n at' v19).Next)<0) then true else (!(decide (1≤(q29_3 n at' v19).Out∧(q29_3 n at' v19).Out≤60)))) else false)) then true else (bif decide (v19>0) then decide (((q29_1 n at').Rows.getD (v19-1).toNat default).In≥(q29_3 n at' v19).In) else false))=true=>(fun hF:(false:Bool)=(F29 n at')=>ai (congrArg (fun r:Bool=>(.bool r:Value)) hF) (trivial)) (finR (runL_ret hI0 (condT h2 (condT h21 (rfl)))) rfl)) (fun h21:(bif (bif (!(decide (1≤(q29_3 n at' v19).In∧(q29_3 n at' v19).In≤60))) then true else (bif (!(bif ((q29_3 n at' v19).Next==(-1)) then ((q29_3 n at' v19).Out==0) else false)) then (bif decide ((F48 n at' (q29_3 n at' v19).Next)<0) then true else (!(decide (1≤(q29_3 n at' v19).Out∧(q29_3 n at' v19).Out≤60)))) else false)) then true else (bif decide (v19>0) then decide (((q29_1 n at').Rows.getD (v19-1).toNat default).In≥(q29_3 n at' v19).In) else false))=false=>(fun _:1≤(q29_3 n at' v19).In∧(q29_3 n at' v19).In≤60=>ai ((by unfold i64ok; omega:i64ok (v19+1))) (Exists.intro (p:=fun j:Nat×Int=>(fun (v19_:Int)=>(((.int .i64 at':Value)=.int .i64 at')∧((.int .i64 ((q29_1 n at').Rows.length:Int):Value)=.int .i64 ((q29_1 n at').Rows.length:Int))∧((.int .i64 (v19+1):Value)=.int .i64 v19_)∧(q29_8 n)∧(q29_9 n)∧(q29_10 n at')∧((runL (F29_s0 n at') j.1 j.2=(q29_5 n at')∧Int.toNat (((q29_1 n at').Rows.length:Int)-v19_)<j.1∧(0:Int)≤v19_)∧j.1<i0.1))) j.2) (m0,(v19+1)) (ai (rfl) (ai (rfl) (ai (rfl) (ai (ir) (ai (ir) (ai ((Imps.refl _)) (ai (ai (runL_next hI0 (condT h2 (condF h21 (rfl)))) (ai ((by omega:Int.toNat (((q29_1 n at').Rows.length:Int)-(v19+1))<m0)) ((by omega:(0:Int)≤(v19+1))))) hl0))))))))) (of_decide_eq_true (notEF (orF1 (orF1 h21))))))))))))))))) (of_decide_eq_true h2)) (fun h2:(decide (v19<((q29_1 n at').Rows.length:Int)))=false=>(fun _:¬ v19<((q29_1 n at').Rows.length:Int)=>(fun hD0_22:(q29_5 n at')=Lp.done v19=>fun (_:n.Qb.length≤9223372036854775807)=>fun (_:n.Qa.length≤9223372036854775807)=>fun (_:(q29_1 n at').Rows.length≤9223372036854775807)=>fun (_:(q29_1 n at').Qc.length≤9223372036854775807)=>fun (_:(q29_1 n at').Qc.length≤9223372036854775807)=>ai (ai (rfl) (ai (rfl) (ai (rfl) (ai (ir) (ai (ir) (ai ((Imps.refl _)) ((ai (rfl:runL (F29_s1 n at') ((((q29_1 n at').Qc.length:Int)-0).toNat+1) 0=(q29_4 n at')) (ai ((Nat.lt_succ_self _:Int.toNat (((q29_1 n at').Qc.length:Int)-0)<((((q29_1 n at').Qc.length:Int)-0).toNat+1))) ((by omega:(0:Int)≤0)))))))))):((.int .i64 at':Value)=.int .i64 at')∧((.int .i64 ((q29_1 n at').Qc.length:Int):Value)=.int .i64 ((q29_1 n at').Qc.length:Int))∧((.int .i64 0:Value)=.int .i64 0)∧(q29_8 n)∧(q29_9 n)∧(q29_10 n at')∧(runL (F29_s1 n at') ((((q29_1 n at').Qc.length:Int)-0).toNat+1) 0=(q29_4 n at')∧Int.toNat (((q29_1 n at').Qc.length:Int)-0)<((((q29_1 n at').Qc.length:Int)-0).toNat+1)∧(0:Int)≤0)) (fun (i1:Nat×Int) (hi1:runL (F29_s1 n at') i1.1 i1.2=(q29_4 n at')∧(fun (v74:Int)=>(Int.toNat (((q29_1 n at').Qc.length:Int)-v74)<i1.1∧(0:Int)≤v74)) i1.2)=>(fun (m1:Nat) (v74:Int) (hI1:runL (F29_s1 n at') (m1+1) v74=(q29_4 n at')) (_:Int.toNat (((q29_1 n at').Qc.length:Int)-v74)<m1+1) (hl1:m1<i1.1) (_:(0:Int)≤v74)=>ai (fun h24:(decide (v74<((q29_1 n at').Qc.length:Int)))=true=>(fun _:v74<((q29_1 n at').Qc.length:Int)=>ai ((by omega:0≤v74∧v74<((q29_1 n at').Qc.length:Int))) (ai ((fun k25:((q29_2 n at' v74).To==(q29_2 n at' v74).Via)=false=>(fun _:¬ (q29_2 n at' v74).To=(q29_2 n at' v74).Via=>trivial) (beqF k25))) (ai ((fun k26:((q29_2 n at' v74).To==(q29_2 n at' v74).Via)=false=>(fun _:¬ (q29_2 n at' v74).To=(q29_2 n at' v74).Via=>(Imps.refl (Qf n))) (beqF k26))) (ai ((fun k27:((q29_2 n at' v74).To==(q29_2 n at' v74).Via)=false=>(fun _:¬ (q29_2 n at' v74).To=(q29_2 n at' v74).Via=>(Imp.refl (.v (vI at')))) (beqF k27))) (ai ((fun k28:((q29_2 n at' v74).To==(q29_2 n at' v74).Via)=false=>(fun _:¬ (q29_2 n at' v74).To=(q29_2 n at' v74).Via=>(Imp.refl (.v (vI (q29_2 n at' v74).To)))) (beqF k28))) (ai ((fun k29:(bif ((q29_2 n at' v74).To==(q29_2 n at' v74).Via) then true else decide ((q29_6 n at' v74)<0))=false=>(fun _:¬ (q29_6 n at' v74)<0=>(fun _:¬ (q29_2 n at' v74).To=(q29_2 n at' v74).Via=>trivial) (beqF (orF1 k29))) (of_decide_eq_false (orF2 k29)))) (ai ((fun k30:(bif ((q29_2 n at' v74).To==(q29_2 n at' v74).Via) then true else decide ((q29_6 n at' v74)<0))=false=>(fun _:¬ (q29_6 n at' v74)<0=>(fun _:¬ (q29_2 n at' v74).To=(q29_2 n at' v74).Via=>(Imps.refl (Qf n))) (beqF (orF1 k30))) (of_decide_eq_false (orF2 k30)))) (ai ((fun k31:(bif ((q29_2 n at' v74).To==(q29_2 n at' v74).Via) then true else decide ((q29_6 n at' v74)<0))=false=>(fun _:¬ (q29_6 n at' v74)<0=>(fun _:¬ (q29_2 n at' v74).To=(q29_2 n at' v74).Via=>(Imp.refl (.v (vI at')))) (beqF (orF1 k31))) (of_decide_eq_false (orF2 k31)))) (ai ((fun k32:(bif ((q29_2 n at' v74).To==(q29_2 n at' v74).Via) then true else decide ((q29_6 n at' v74)<0))=false=>(fun _:¬ (q29_6 n at' v74)<0=>(fun _:¬ (q29_2 n at' v74).To=(q29_2 n at' v74).Via=>(Imp.refl (.v (vI (q29_2 n at' v74).Via)))) (beqF (orF1 k32))) (of_decide_eq_false (orF2 k32)))) (ai ((fun k33:(bif (bif ((q29_2 n at' v74).To==(q29_2 n at' v74).Via) then true else decide ((q29_6 n at' v74)<0)) then true else decide ((q29_7 n at' v74)<0))=false=>(fun _:¬ (q29_7 n at' v74)<0=>(fun _:¬ (q29_6 n at' v74)<0=>(fun _:¬ (q29_2 n at' v74).To=(q29_2 n at' v74).Via=>trivial) (beqF (orF1 (orF1 k33)))) (of_decide_eq_false (orF2 (orF1 k33)))) (of_decide_eq_false (orF2 k33)))) (ai ((fun k34:(bif (bif ((q29_2 n at' v74).To==(q29_2 n at' v74).Via) then true else decide ((q29_6 n at' v74)<0)) then true else decide ((q29_7 n at' v74)<0))=false=>(fun _:¬ (q29_7 n at' v74)<0=>(fun _:¬ (q29_6 n at' v74)<0=>(fun _:¬ (q29_2 n at' v74).To=(q29_2 n at' v74).Via=>(Imp.refl (.v (vI (q29_2 n at' v74).Push)))) (beqF (orF1 (orF1 k34)))) (of_decide_eq_false (orF2 (orF1 k34)))) (of_decide_eq_false (orF2 k34)))) (ai ((fun k36:(decide (v74>0))=true=>(fun _:v74>0=>(fun k35:(bif (bif (bif ((q29_2 n at' v74).To==(q29_2 n at' v74).Via) then true else decide ((q29_6 n at' v74)<0)) then true else decide ((q29_7 n at' v74)<0)) then true else (!(decide (1≤(q29_2 n at' v74).Push∧(q29_2 n at' v74).Push≤60))))=false=>(fun _:1≤(q29_2 n at' v74).Push∧(q29_2 n at' v74).Push≤60=>(fun _:¬ (q29_7 n at' v74)<0=>(fun _:¬ (q29_6 n at' v74)<0=>(fun _:¬ (q29_2 n at' v74).To=(q29_2 n at' v74).Via=>(by unfold i64ok; omega:i64ok (v74-1))) (beqF (orF1 (orF1 (orF1 k35))))) (of_decide_eq_false (orF2 (orF1 (orF1 k35))))) (of_decide_eq_false (orF2 (orF1 k35)))) (of_decide_eq_true (notEF (orF2 k35))))) (of_decide_eq_true k36))) (ai ((fun k38:(decide (v74>0))=true=>(fun _:v74>0=>(fun k37:(bif (bif (bif ((q29_2 n at' v74).To==(q29_2 n at' v74).Via) then true else decide ((q29_6 n at' v74)<0)) then true else decide ((q29_7 n at' v74)<0)) then true else (!(decide (1≤(q29_2 n at' v74).Push∧(q29_2 n at' v74).Push≤60))))=false=>(fun _:1≤(q29_2 n at' v74).Push∧(q29_2 n at' v74).Push≤60=>(fun _:¬ (q29_7 n at' v74)<0=>(fun _:¬ (q29_6 n at' v74)<0=>(fun _:¬ (q29_2 n at' v74).To=(q29_2 n at' v74).Via=>(by omega:0≤(v74-1)∧(v74-1)<((q29_1 n at').Qc.length:Int))) (beqF (orF1 (orF1 (orF1 k37))))) (of_decide_eq_false (orF2 (orF1 (orF1 k37))))) (of_decide_eq_false (orF2 (orF1 k37)))) (of_decide_eq_true (notEF (orF2 k37))))) (of_decide_eq_true k38))) (ai (fun h39:(bif (bif (bif (bif ((q29_2 n at' v74).To==(q29_2 n at' v74).Via) then true else decide ((q29_6 n at' v74)<0)) then true else decide ((q29_7 n at' v74)<0)) then true else (!(decide (1≤(q29_2 n at' v74).Push∧(q29_2 n at' v74).Push≤60)))) then true else (bif decide (v74>0) then decide (((q29_1 n at').Qc.getD (v74-1).toNat default).To≥(q29_2 n at' v74).To) else false))=true=>(fun hF:(false:Bool)=(F29 n at')=>ai (congrArg (fun r:Bool=>(.bool r:Value)) hF) (trivial)) (finD hD0_22 (finR (runL_ret hI1 (condT h24 (condT h39 (rfl)))) rfl))) (fun h39:(bif (bif (bif (bif ((q29_2 n at' v74).To==(q29_2 n at' v74).Via) then true else decide ((q29_6 n at' v74)<0)) then true else decide ((q29_7 n at' v74)<0)) then true else (!(decide (1≤(q29_2 n at' v74).Push∧(q29_2 n at' v74).Push≤60)))) then true else (bif decide (v74>0) then decide (((q29_1 n at').Qc.getD (v74-1).toNat default).To≥(q29_2 n at' v74).To) else false))=false=>(fun _:1≤(q29_2 n at' v74).Push∧(q29_2 n at' v74).Push≤60=>(fun _:¬ (q29_7 n at' v74)<0=>(fun _:¬ (q29_6 n at' v74)<0=>(fun _:¬ (q29_2 n at' v74).To=(q29_2 n at' v74).Via=>ai ((by unfold i64ok; omega:i64ok (v74+1))) (Exists.intro (p:=fun j:Nat×Int=>(fun (v74_:Int)=>(((.int .i64 at':Value)=.int .i64 at')∧((.int .i64 ((q29_1 n at').Qc.length:Int):Value)=.int .i64 ((q29_1 n at').Qc.length:Int))∧((.int .i64 (v74+1):Value)=.int .i64 v74_)∧(q29_8 n)∧(q29_9 n)∧(q29_10 n at')∧((runL (F29_s1 n at') j.1 j.2=(q29_4 n at')∧Int.toNat (((q29_1 n at').Qc.length:Int)-v74_)<j.1∧(0:Int)≤v74_)∧j.1<i1.1))) j.2) (m1,(v74+1)) (ai (rfl) (ai (rfl) (ai (rfl) (ai (ir) (ai (ir) (ai ((Imps.refl _)) (ai (ai (runL_next hI1 (condT h24 (condF h39 (rfl)))) (ai ((by omega:Int.toNat (((q29_1 n at').Qc.length:Int)-(v74+1))<m1)) ((by omega:(0:Int)≤(v74+1))))) hl1))))))))) (beqF (orF1 (orF1 (orF1 (orF1 h39)))))) (of_decide_eq_false (orF2 (orF1 (orF1 (orF1 h39)))))) (of_decide_eq_false (orF2 (orF1 (orF1 h39))))) (of_decide_eq_true (notEF (orF2 (orF1 h39))))))))))))))))))) (of_decide_eq_true h24)) (fun h24:(decide (v74<((q29_1 n at').Qc.length:Int)))=false=>(fun _:¬ v74<((q29_1 n at').Qc.length:Int)=>(fun hD1_40:(q29_4 n at')=Lp.done v74=>(fun hF:(true:Bool)=(F29 n at')=>ai (congrArg (fun r:Bool=>(.bool r:Value)) hF) (trivial)) (finD hD0_22 (finD hD1_40 (rfl)))) (runL_done hI1 (condF h24 (rfl)))) (of_decide_eq_false h24))) (i1.1-1) i1.2 (hd1 hi1.1 hi1.2.1) (hd2 hi1.2.1) (hd3 hi1.2.1) hi1.2.2)) (runL_done hI0 (condF h2 (rfl)))) (of_decide_eq_false h2))) (i0.1-1) i0.2 (hd1 hi0.1 hi0.2.1) (hd2 hi0.2.1) (hd3 hi0.2.1) hi0.2.2))) hp.1 hp.2) (by kernel_rfl)
def F7_s0 (n:Qe):Int→Lp Int Bool:=fun v17 =>
 bif (decide (v17<(n.Qa.length:Int))) then (bif (!(F29 n v17)) then (.ret false) else (.next (v17+1))) else (.done v17)
def F7 (n:Qe):Bool :=
 bif (bif (!(decide (1≤(n.Qa.length:Int)∧(n.Qa.length:Int)≤8))) then true else (!(F28 n))) then false else ((runL (F7_s0 n) (((n.Qa.length:Int)-0).toNat+1) 0).fin (fun r=>r) (fun v17=>true))
def S7 (R:Bool) (n:Qe):Spec:=⟨[.r (.g (Qf n))],.v (.bool R),True⟩
theorem ok7 (n:Qe):(S7 (F7 n) n).ok Tryz.prog 7 :=
 fnG_ok mixed (fn:=Tryz.f7) (ct:=.seq (.no) (.seq (.seq (.reg [(3,.call 27 (S27 (decide (1≤(n.Qa.length:Int)∧(n.Qa.length:Int)≤8)) (n.Qa.length:Int) 1 8) (oa27 (n.Qa.length:Int) 1 8) none),(7,.call 28 (S28 n) (ok28 n) none)]) (.cond (.seq (.no) (.no)) (.no))) (.seq (.seqk [(1,0),(1,1)] (.no) (.blk (.loop (ι:=Nat×Int) (fun i=>(fun (v17:Int)=>(⟨[(1,some (.p 0 0)),(16,some (.v (vI (n.Qa.length:Int)))),(17,some (.v (vI v17)))],[(0,some (.box 26 [.h 1 0,.h 2 0])),(1,some (.shr none (.l 2 Qh n.Qb))),(2,some (.shr none (.l 2 Qj n.Qa)))],3⟩:St)) i.2) (fun i=>runL (F7_s0 n) i.1 i.2=(runL (F7_s0 n) (((n.Qa.length:Int)-0).toNat+1) 0)∧(fun (v17:Int)=>(Int.toNat ((n.Qa.length:Int)-v17)<i.1∧(0:Int)≤v17)) i.2) (fun i=>i.1) ((((n.Qa.length:Int)-0).toNat+1),0) (fun i=>(fun (v17:Int)=>(.seq (.no) (.seq (.cond (.no) (.no)) (.seq (.blk (.seq (.no) (.seq (.reg [(2,.call 29 (S29 n v17) (ok29 n v17) none)]) (.cond (.seq (.no) (.no)) (.no))))) (.reg [(0,.bnd)]))))) i.2)))) (.seq (.no) (.no))))) Tryz.func7 (fun (_:True)=>ai (trivial) (ai ((Imp.refl (.v (vI (n.Qa.length:Int))))) (ai ((Imp.refl (.v (vI 1)))) (ai ((Imp.refl (.v (vI 8)))) (ai ((fun k1:(!(decide (1≤(n.Qa.length:Int)∧(n.Qa.length:Int)≤8)))=false=>(fun _:1≤(n.Qa.length:Int)∧(n.Qa.length:Int)≤8=>trivial) (of_decide_eq_true (notEF k1)))) (ai ((fun k2:(!(decide (1≤(n.Qa.length:Int)∧(n.Qa.length:Int)≤8)))=false=>(fun _:1≤(n.Qa.length:Int)∧(n.Qa.length:Int)≤8=>(Imps.refl (Qf n))) (of_decide_eq_true (notEF k2)))) (ai (fun h3:(bif (!(decide (1≤(n.Qa.length:Int)∧(n.Qa.length:Int)≤8))) then true else (!(F28 n)))=true=>(fun hF:(false:Bool)=(F7 n)=>ai (congrArg (fun r:Bool=>(.bool r:Value)) hF) (trivial)) (condT h3 (rfl))) (fun h3:(bif (!(decide (1≤(n.Qa.length:Int)∧(n.Qa.length:Int)≤8))) then true else (!(F28 n)))=false=>(fun _:1≤(n.Qa.length:Int)∧(n.Qa.length:Int)≤8=>fun (_:n.Qb.length≤9223372036854775807)=>fun (_:n.Qa.length≤9223372036854775807)=>ai (ai (rfl) (ai (rfl) (ai (ir) (ai (ir) ((ai (rfl:runL (F7_s0 n) (((n.Qa.length:Int)-0).toNat+1) 0=(runL (F7_s0 n) (((n.Qa.length:Int)-0).toNat+1) 0)) (ai ((Nat.lt_succ_self _:Int.toNat ((n.Qa.length:Int)-0)<(((n.Qa.length:Int)-0).toNat+1))) ((by omega:(0:Int)≤0)))))))):((.int .i64 (n.Qa.length:Int):Value)=.int .i64 (n.Qa.length:Int))∧((.int .i64 0:Value)=.int .i64 0)∧(Imp (.l 2 Qh n.Qb) (.l 2 Qh n.Qb))∧(Imp (.l 2 Qj n.Qa) (.l 2 Qj n.Qa))∧(runL (F7_s0 n) (((n.Qa.length:Int)-0).toNat+1) 0=(runL (F7_s0 n) (((n.Qa.length:Int)-0).toNat+1) 0)∧Int.toNat ((n.Qa.length:Int)-0)<(((n.Qa.length:Int)-0).toNat+1)∧(0:Int)≤0)) (fun (i0:Nat×Int) (hi0:runL (F7_s0 n) i0.1 i0.2=(runL (F7_s0 n) (((n.Qa.length:Int)-0).toNat+1) 0)∧(fun (v17:Int)=>(Int.toNat ((n.Qa.length:Int)-v17)<i0.1∧(0:Int)≤v17)) i0.2)=>(fun (m0:Nat) (v17:Int) (hI0:runL (F7_s0 n) (m0+1) v17=(runL (F7_s0 n) (((n.Qa.length:Int)-0).toNat+1) 0)) (_:Int.toNat ((n.Qa.length:Int)-v17)<m0+1) (hl0:m0<i0.1) (_:(0:Int)≤v17)=>ai (fun h5:(decide (v17<(n.Qa.length:Int)))=true=>(fun _:v17<(n.Qa.length:Int)=>ai ((ai ((by omega:0≤v17)) ((by omega:v17<(n.Qa.length:Int))))) (ai ((Imps.refl (Qf n))) (ai ((Imp.refl (.v (vI v17)))) (ai (fun h6:(!(F29 n v17))=true=>(fun hF:(false:Bool)=(F7 n)=>ai (congrArg (fun r:Bool=>(.bool r:Value)) hF) (trivial)) (condF h3 (finR (runL_ret hI0 (condT h5 (condT h6 (rfl)))) rfl))) (fun h6:(!(F29 n v17))=false=>ai ((by unfold i64ok; omega:i64ok (v17+1))) (Exists.intro (p:=fun j:Nat×Int=>(fun (v17_:Int)=>(((.int .i64 (n.Qa.length:Int):Value)=.int .i64 (n.Qa.length:Int))∧((.int .i64 (v17+1):Value)=.int .i64 v17_)∧(Imp (.l 2 Qh n.Qb) (.l 2 Qh n.Qb))∧(Imp (.l 2 Qj n.Qa) (.l 2 Qj n.Qa))∧((runL (F7_s0 n) j.1 j.2=(runL (F7_s0 n) (((n.Qa.length:Int)-0).toNat+1) 0)∧Int.toNat ((n.Qa.length:Int)-v17_)<j.1∧(0:Int)≤v17_)∧j.1<i0.1))) j.2) (m0,(v17+1)) (ai (rfl) (ai (rfl) (ai (ir) (ai (ir) (ai (ai (runL_next hI0 (condT h5 (condF h6 (rfl)))) (ai ((by omega:Int.toNat ((n.Qa.length:Int)-(v17+1))<m0)) ((by omega:(0:Int)≤(v17+1))))) hl0))))))))))) (of_decide_eq_true h5)) (fun h5:(decide (v17<(n.Qa.length:Int)))=false=>(fun _:¬ v17<(n.Qa.length:Int)=>(fun hD0_7:(runL (F7_s0 n) (((n.Qa.length:Int)-0).toNat+1) 0)=Lp.done v17=>(fun hF:(true:Bool)=(F7 n)=>ai (congrArg (fun r:Bool=>(.bool r:Value)) hF) (trivial)) (condF h3 (finD hD0_7 (rfl)))) (runL_done hI0 (condF h5 (rfl)))) (of_decide_eq_false h5))) (i0.1-1) i0.2 (hd1 hi0.1 hi0.2.1) (hd2 hi0.2.1) (hd3 hi0.2.1) hi0.2.2)) (of_decide_eq_true (notEF (orF1 h3))))))))))) (by kernel_rfl)
def F33_s0 (n:Qe):(Int×List Qi)→Lp (Int×List Qi) Qe:=fun (i40,out) =>
 bif (decide (i40<(n.Qa.length:Int))) then (.next ((i40+1),(out++[(⟨(([]:List Qk)++(n.Qa.getD i40.toNat default).Rows),(([]:List Qn)++(n.Qa.getD i40.toNat default).Qc)⟩:Qi)]))) else (.done (i40,out))
def F33 (n:Qe):Qe :=
 (runL (F33_s0 n) (((n.Qa.length:Int)-0).toNat+1) (0,([]:List Qi))).fin (fun r=>r) (fun (i40,out)=>(⟨(([]:List Qg)++n.Qb),out⟩:Qe))
def S33 (R:Qe) (n:Qe):Spec:=⟨[.r (.g (Qf n))],.ag [.ow (.l 2 Qh R.Qb),.ow (.l 2 Qj R.Qa)],n.Qb.length≤1000000000∧n.Qa.length≤1000000000∧(∀ k:Nat,(n.Qa.getD k default).Rows.length≤1000000000)∧(∀ k:Nat,(n.Qa.getD k default).Qc.length≤1000000000)⟩
theorem ok33 (n:Qe):(S33 (F33 n) n).ok Tryz.prog 33 :=
 fnG_ok mixed (fn:=Tryz.f33) (ct:=.seq (.no) (.seq (.reg [(0,.dat (.l 2 Qh ([]:List Qg))),(3,.dat (.l 2 Qh (([]:List Qg)++n.Qb))),(4,.dat (.l 2 Qj ([]:List Qi)))]) (.seq (.seqk [(1,0),(1,1),(3,0),(3,1)] (.no) (.blk (.loop (ι:=Nat×(Int×List Qi)) (fun i=>(fun (i40:Int) (out:List Qi)=>(⟨[(1,some (.p 0 0)),(2,some (.p 3 0)),(3,some (.p 4 0)),(4,some (.v (vI i40)))],[(0,some (.box 26 [.h 1 0,.h 2 0])),(1,some (.shr none (.l 2 Qh n.Qb))),(2,some (.shr none (.l 2 Qj n.Qa))),(3,some (.box 26 [.v (.slice none 0 0),.v (.slice none 0 0)])),(4,some (.box 26 [.h 5 0,.h 6 0])),(5,some (.own 5 (.l 2 Qh (([]:List Qg)++n.Qb)))),(6,some (.own 6 (.l 2 Qj out)))],7⟩:St)) i.2.1 i.2.2) (fun i=>runL (F33_s0 n) i.1 i.2=(runL (F33_s0 n) (((n.Qa.length:Int)-0).toNat+1) (0,([]:List Qi)))∧(fun (i40:Int) (out:List Qi)=>(Int.toNat ((n.Qa.length:Int)-i40)<i.1∧(out.length:Int)=i40∧(0:Int)≤i40)) i.2.1 i.2.2) (fun i=>i.1) ((((n.Qa.length:Int)-0).toNat+1),(0,([]:List Qi))) (fun i=>(fun (i40:Int) (out:List Qi)=>(.seq (.seq (.no) (.cond (.no) (.no))) (.seq (.blk (.reg [(2,.dat (.l 3 Ql ([]:List Qk))),(9,.dat (.l 3 Ql (([]:List Qk)++(n.Qa.getD i40.toNat default).Rows))),(10,.dat (.l 3 Qo ([]:List Qn))),(17,.dat (.l 3 Qo (([]:List Qn)++(n.Qa.getD i40.toNat default).Qc))),(20,.dat (.l 2 Qj (out++[(⟨(([]:List Qk)++(n.Qa.getD i40.toNat default).Rows),(([]:List Qn)++(n.Qa.getD i40.toNat default).Qc)⟩:Qi)])))])) (.reg [(1,.bnd)])))) i.2.1 i.2.2)))) (.seq (.no) (.no))))) Tryz.func33 (fun (hp:n.Qb.length≤1000000000∧n.Qa.length≤1000000000∧(∀ k:Nat,(n.Qa.getD k default).Rows.length≤1000000000)∧(∀ k:Nat,(n.Qa.getD k default).Qc.length≤1000000000))=>(fun (hpre0:n.Qb.length≤1000000000) (hpre1:n.Qa.length≤1000000000) (hpre2:∀ k:Nat,(n.Qa.getD k default).Rows.length≤1000000000) (hpre3:∀ k:Nat,(n.Qa.getD k default).Qc.length≤1000000000)=>ai ((BuildOK.mk Qh ([]:List Qg) rfl (by exact trivial) (fun _=>rfl):BuildOK 0 2 [] (.l 2 Qh ([]:List Qg)))) (ai ((AppL.mk Qh ([]:List Qg) n.Qb (Imp.refl (.l 2 Qh ([]:List Qg))) ir (fun y=>⟨rfl,fun e he=>by simp only [Qh,List.mem_cons,List.not_mem_nil,or_false] at he; rcases he with rfl | rfl <;> exact ⟨_,rfl⟩⟩):AppL (.l 2 Qh ([]:List Qg)) (.l 2 Qh n.Qb) 2 (.l 2 Qh (([]:List Qg)++n.Qb)))) (ai ((by (try simp only [lens]); first | omega | (have:=hpre2 i40.toNat; have:=hpre3 i40.toNat; omega):((([]:List Qg)++n.Qb)).length*16≤140737488355328)) (ai ((BuildOK.mk Qj ([]:List Qi) rfl (by exact trivial) (fun _=>rfl):BuildOK 0 2 [] (.l 2 Qj ([]:List Qi)))) (fun (_:n.Qb.length≤9223372036854775807)=>fun (_:n.Qa.length≤9223372036854775807)=>fun (_:(([]:List Qg)++n.Qb).length≤9223372036854775807)=>fun (_:([]:List Qi).length≤9223372036854775807)=>ai (ai (rfl) (ai (ir) (ai (ir) (ai (rfl) (ai (rfl) (ai (ir) (ai (ir) ((ai (rfl:runL (F33_s0 n) (((n.Qa.length:Int)-0).toNat+1) (0,([]:List Qi))=(runL (F33_s0 n) (((n.Qa.length:Int)-0).toNat+1) (0,([]:List Qi)))) (ai ((Nat.lt_succ_self _:Int.toNat ((n.Qa.length:Int)-0)<(((n.Qa.length:Int)-0).toNat+1))) (ai ((by first | omega | (simp only [lens] at*<;> omega):(([]:List Qi).length:Int)=0)) ((by first | omega | (simp only [lens] at*<;> omega):(0:Int)≤0)))))))))))):((.int .i64 0:Value)=.int .i64 0)∧(Imp (.l 2 Qh n.Qb) (.l 2 Qh n.Qb))∧(Imp (.l 2 Qj n.Qa) (.l 2 Qj n.Qa))∧((.slice none 0 0:Value)=.slice none 0 0)∧((.slice none 0 0:Value)=.slice none 0 0)∧(Imp (.l 2 Qh (([]:List Qg)++n.Qb)) (.l 2 Qh (([]:List Qg)++n.Qb)))∧(Imp (.l 2 Qj ([]:List Qi)) (.l 2 Qj ([]:List Qi)))∧(runL (F33_s0 n) (((n.Qa.length:Int)-0).toNat+1) (0,([]:List Qi))=(runL (F33_s0 n) (((n.Qa.length:Int)-0).toNat+1) (0,([]:List Qi)))∧Int.toNat ((n.Qa.length:Int)-0)<(((n.Qa.length:Int)-0).toNat+1)∧(([]:List Qi).length:Int)=0∧(0:Int)≤0)) (fun (i0:Nat×(Int×List Qi)) (hi0:runL (F33_s0 n) i0.1 i0.2=(runL (F33_s0 n) (((n.Qa.length:Int)-0).toNat+1) (0,([]:List Qi)))∧(fun (i40:Int) (out:List Qi)=>(Int.toNat ((n.Qa.length:Int)-i40)<i0.1∧(out.length:Int)=i40∧(0:Int)≤i40)) i0.2.1 i0.2.2)=>(fun (m0:Nat) (i40:Int) (out:List Qi) (hI0:runL (F33_s0 n) (m0+1) (i40,out)=(runL (F33_s0 n) (((n.Qa.length:Int)-0).toNat+1) (0,([]:List Qi)))) (_:Int.toNat ((n.Qa.length:Int)-i40)<m0+1) (hl0:m0<i0.1) (_:(out.length:Int)=i40) (_:(0:Int)≤i40)=>ai (fun h2:(decide (i40<(n.Qa.length:Int)))=true=>(fun _:i40<(n.Qa.length:Int)=>ai ((BuildOK.mk Ql ([]:List Qk) rfl (by exact trivial) (fun _=>rfl):BuildOK 0 3 [] (.l 3 Ql ([]:List Qk)))) (ai ((by first | omega | (simp only [lens] at*<;> omega):0≤i40∧i40<(n.Qa.length:Int))) (ai ((AppL.mk Ql ([]:List Qk) (n.Qa.getD i40.toNat default).Rows (Imp.refl (.l 3 Ql ([]:List Qk))) ir (fun y=>⟨rfl,fun e he=>by simp only [Ql,List.mem_cons,List.not_mem_nil,or_false] at he; rcases he with rfl | rfl | rfl <;> exact ⟨_,rfl⟩⟩):AppL (.l 3 Ql ([]:List Qk)) (.l 3 Ql (n.Qa.getD i40.toNat default).Rows) 3 (.l 3 Ql (([]:List Qk)++(n.Qa.getD i40.toNat default).Rows)))) (ai ((by (try simp only [lens]); first | omega | (have:=hpre2 i40.toNat; have:=hpre3 i40.toNat; omega):((([]:List Qk)++(n.Qa.getD i40.toNat default).Rows)).length*24≤140737488355328)) (ai ((BuildOK.mk Qo ([]:List Qn) rfl (by exact trivial) (fun _=>rfl):BuildOK 0 3 [] (.l 3 Qo ([]:List Qn)))) (ai ((by first | omega | (simp only [lens] at*<;> omega):0≤i40∧i40<(n.Qa.length:Int))) (ai ((AppL.mk Qo ([]:List Qn) (n.Qa.getD i40.toNat default).Qc (Imp.refl (.l 3 Qo ([]:List Qn))) ir (fun y=>⟨rfl,fun e he=>by simp only [Qo,List.mem_cons,List.not_mem_nil,or_false] at he; rcases he with rfl | rfl | rfl <;> exact ⟨_,rfl⟩⟩):AppL (.l 3 Qo ([]:List Qn)) (.l 3 Qo (n.Qa.getD i40.toNat default).Qc) 3 (.l 3 Qo (([]:List Qn)++(n.Qa.getD i40.toNat default).Qc)))) (ai ((by (try simp only [lens]); first | omega | (have:=hpre2 i40.toNat; have:=hpre3 i40.toNat; omega):((([]:List Qn)++(n.Qa.getD i40.toNat default).Qc)).length*24≤140737488355328)) (ai ((AppA.mk Qj out [(⟨(([]:List Qk)++(n.Qa.getD i40.toNat default).Rows),(([]:List Qn)++(n.Qa.getD i40.toNat default).Qc)⟩:Qi)] (Imp.refl (.l 2 Qj out)) rfl (by exact ai ir (ai ir (trivial))) (fun _=>rfl):AppA (.l 2 Qj out) 1 2 [.l 3 Ql (([]:List Qk)++(n.Qa.getD i40.toNat default).Rows),.l 3 Qo (([]:List Qn)++(n.Qa.getD i40.toNat default).Qc)] (.l 2 Qj (out++[(⟨(([]:List Qk)++(n.Qa.getD i40.toNat default).Rows),(([]:List Qn)++(n.Qa.getD i40.toNat default).Qc)⟩:Qi)])))) (ai ((by (try simp only [lens]); first | omega | (have:=hpre2 i40.toNat; have:=hpre3 i40.toNat; omega):((out++[(⟨(([]:List Qk)++(n.Qa.getD i40.toNat default).Rows),(([]:List Qn)++(n.Qa.getD i40.toNat default).Qc)⟩:Qi)])).length*48≤140737488355328)) (ai ((by unfold i64ok; first | omega | (simp only [lens] at*<;> omega):i64ok (i40+1))) (Exists.intro (p:=fun j:Nat×(Int×List Qi)=>(fun (i40_:Int) (out_:List Qi)=>(((.int .i64 (i40+1):Value)=.int .i64 i40_)∧(Imp (.l 2 Qh n.Qb) (.l 2 Qh n.Qb))∧(Imp (.l 2 Qj n.Qa) (.l 2 Qj n.Qa))∧((.slice none 0 0:Value)=.slice none 0 0)∧((.slice none 0 0:Value)=.slice none 0 0)∧(Imp (.l 2 Qh (([]:List Qg)++n.Qb)) (.l 2 Qh (([]:List Qg)++n.Qb)))∧(Imp (.l 2 Qj (out++[(⟨(([]:List Qk)++(n.Qa.getD i40.toNat default).Rows),(([]:List Qn)++(n.Qa.getD i40.toNat default).Qc)⟩:Qi)])) (.l 2 Qj out_))∧((runL (F33_s0 n) j.1 j.2=(runL (F33_s0 n) (((n.Qa.length:Int)-0).toNat+1) (0,([]:List Qi)))∧Int.toNat ((n.Qa.length:Int)-i40_)<j.1∧(out_.length:Int)=i40_∧(0:Int)≤i40_)∧j.1<i0.1))) j.2.1 j.2.2) (m0,((i40+1),(out++[(⟨(([]:List Qk)++(n.Qa.getD i40.toNat default).Rows),(([]:List Qn)++(n.Qa.getD i40.toNat default).Qc)⟩:Qi)]))) (ai (rfl) (ai (ir) (ai (ir) (ai (rfl) (ai (rfl) (ai (ir) (ai (ir) (ai (ai (runL_next hI0 (condT h2 (rfl))) (ai ((by first | omega | (simp only [lens] at*<;> omega):Int.toNat ((n.Qa.length:Int)-(i40+1))<m0)) (ai ((by first | omega | (simp only [lens] at*<;> omega):((out++[(⟨(([]:List Qk)++(n.Qa.getD i40.toNat default).Rows),(([]:List Qn)++(n.Qa.getD i40.toNat default).Qc)⟩:Qi)]).length:Int)=(i40+1))) ((by first | omega | (simp only [lens] at*<;> omega):(0:Int)≤(i40+1)))))) hl0)))))))))))))))))))) (of_decide_eq_true h2)) (fun h2:(decide (i40<(n.Qa.length:Int)))=false=>(fun _:¬ i40<(n.Qa.length:Int)=>(fun hD0_3:(runL (F33_s0 n) (((n.Qa.length:Int)-0).toNat+1) (0,([]:List Qi)))=Lp.done (i40,out)=>(fun hF:((⟨(([]:List Qg)++n.Qb),out⟩:Qe):Qe)=(F33 n)=>ai (Imp.of_eq (congrArg (fun r:Qe=>Dat.l 2 Qh r.Qb) hF)) (ai (Imp.of_eq (congrArg (fun r:Qe=>Dat.l 2 Qj r.Qa) hF)) (trivial))) (finD hD0_3 (rfl))) (runL_done hI0 (condF h2 (rfl)))) (of_decide_eq_false h2))) (i0.1-1) i0.2.1 i0.2.2 (hd1 hi0.1 hi0.2.1) (hd2 hi0.2.1) (hd3 hi0.2.1) hi0.2.2.1 hi0.2.2.2)))))) hp.1 hp.2.1 hp.2.2.1 hp.2.2.2) (by kernel_rfl)
def F58 (list:List Qg):List Qg :=
 ((List.replicate (Int.toNat 0) ((⟨0,0⟩:Qg):Qg))++list)
def S58 (R:List Qg) (list:List Qg):Spec:=⟨[.r (.c (.l 2 Qh list))],.ow (.l 2 Qh R),list.length≤1000000000⟩
theorem ok58 (list:List Qg):(S58 (F58 list) list).ok Tryz.prog 58 :=
 fnG_ok mixed (fn:=Tryz.f58) (ct:=.seqk [(0,0)] (.no) (.seq (.reg [(2,.dat (.l 2 Qh (List.replicate (Int.toNat 0) ((⟨0,0⟩:Qg):Qg)))),(4,.dat (.l 2 Qh ((List.replicate (Int.toNat 0) ((⟨0,0⟩:Qg):Qg))++list)))]) (.no))) Tryz.func58 (fun (hpre0:list.length≤1000000000)=>fun (_:list.length≤9223372036854775807)=>ai ((by first | omega | (simp only [lens] at*<;> omega):0≤(0:Int)∧(0:Int)≤(list.length:Int)∧(16:Int)*(list.length:Int)≤281474976710656)) (ai ((MakeOK.mk Qh ((⟨0,0⟩:Qg):Qg) (by exact ai ir (ai ir (trivial))):MakeOK 2 [.v (vI 0),.v (vI 0)] (Int.toNat 0) (.l 2 Qh (List.replicate (Int.toNat 0) ((⟨0,0⟩:Qg):Qg))))) (ai ((AppL.mk Qh (List.replicate (Int.toNat 0) ((⟨0,0⟩:Qg):Qg)) list (Imp.refl (.l 2 Qh (List.replicate (Int.toNat 0) ((⟨0,0⟩:Qg):Qg)))) ir (fun y=>⟨rfl,fun e he=>by simp only [Qh,List.mem_cons,List.not_mem_nil,or_false] at he; rcases he with rfl | rfl <;> exact ⟨_,rfl⟩⟩):AppL (.l 2 Qh (List.replicate (Int.toNat 0) ((⟨0,0⟩:Qg):Qg))) (.l 2 Qh list) 2 (.l 2 Qh ((List.replicate (Int.toNat 0) ((⟨0,0⟩:Qg):Qg))++list)))) (ai ((by (try simp only [lens]); omega:(((List.replicate (Int.toNat 0) ((⟨0,0⟩:Qg):Qg))++list)).length*16≤140737488355328)) ((fun hF:(((List.replicate (Int.toNat 0) ((⟨0,0⟩:Qg):Qg))++list):List Qg)=(F58 list)=>ai (Imp.of_eq (congrArg (fun r:List Qg=>Dat.l 2 Qh r) hF)) (trivial)) (rfl)))))) (by kernel_rfl)
theorem as58 (list:List Qg):F58 list=(list):=by
 simp [F58]
theorem oa58 (list:List Qg):(S58 (list) list).ok Tryz.prog 58:=by
 intro hp; have h:=ok58 list hp; rw [as58 list] at h; exact h
def F59 (list:List Qk):List Qk :=
 ((List.replicate (Int.toNat 0) ((⟨0,0,0⟩:Qk):Qk))++list)
def S59 (R:List Qk) (list:List Qk):Spec:=⟨[.r (.c (.l 3 Ql list))],.ow (.l 3 Ql R),list.length≤1000000000⟩
theorem ok59 (list:List Qk):(S59 (F59 list) list).ok Tryz.prog 59 :=
 fnG_ok mixed (fn:=Tryz.f59) (ct:=.seqk [(0,0)] (.no) (.seq (.reg [(2,.dat (.l 3 Ql (List.replicate (Int.toNat 0) ((⟨0,0,0⟩:Qk):Qk)))),(4,.dat (.l 3 Ql ((List.replicate (Int.toNat 0) ((⟨0,0,0⟩:Qk):Qk))++list)))]) (.no))) Tryz.func59 (fun (hpre0:list.length≤1000000000)=>fun (_:list.length≤9223372036854775807)=>ai ((by first | omega | (simp only [lens] at*<;> omega):0≤(0:Int)∧(0:Int)≤(list.length:Int)∧(24:Int)*(list.length:Int)≤281474976710656)) (ai ((MakeOK.mk Ql ((⟨0,0,0⟩:Qk):Qk) (by exact ai ir (ai ir (ai ir (trivial)))):MakeOK 3 [.v (vI 0),.v (vI 0),.v (vI 0)] (Int.toNat 0) (.l 3 Ql (List.replicate (Int.toNat 0) ((⟨0,0,0⟩:Qk):Qk))))) (ai ((AppL.mk Ql (List.replicate (Int.toNat 0) ((⟨0,0,0⟩:Qk):Qk)) list (Imp.refl (.l 3 Ql (List.replicate (Int.toNat 0) ((⟨0,0,0⟩:Qk):Qk)))) ir (fun y=>⟨rfl,fun e he=>by simp only [Ql,List.mem_cons,List.not_mem_nil,or_false] at he; rcases he with rfl | rfl | rfl <;> exact ⟨_,rfl⟩⟩):AppL (.l 3 Ql (List.replicate (Int.toNat 0) ((⟨0,0,0⟩:Qk):Qk))) (.l 3 Ql list) 3 (.l 3 Ql ((List.replicate (Int.toNat 0) ((⟨0,0,0⟩:Qk):Qk))++list)))) (ai ((by (try simp only [lens]); omega:(((List.replicate (Int.toNat 0) ((⟨0,0,0⟩:Qk):Qk))++list)).length*24≤140737488355328)) ((fun hF:(((List.replicate (Int.toNat 0) ((⟨0,0,0⟩:Qk):Qk))++list):List Qk)=(F59 list)=>ai (Imp.of_eq (congrArg (fun r:List Qk=>Dat.l 3 Ql r) hF)) (trivial)) (rfl)))))) (by kernel_rfl)
theorem as59 (list:List Qk):F59 list=(list):=by
 simp [F59]
theorem oa59 (list:List Qk):(S59 (list) list).ok Tryz.prog 59:=by
 intro hp; have h:=ok59 list hp; rw [as59 list] at h; exact h
def F60 (list:List Qn):List Qn :=
 ((List.replicate (Int.toNat 0) ((⟨0,0,0⟩:Qn):Qn))++list)
def S60 (R:List Qn) (list:List Qn):Spec:=⟨[.r (.c (.l 3 Qo list))],.ow (.l 3 Qo R),list.length≤1000000000⟩
theorem ok60 (list:List Qn):(S60 (F60 list) list).ok Tryz.prog 60 :=
 fnG_ok mixed (fn:=Tryz.f60) (ct:=.seqk [(0,0)] (.no) (.seq (.reg [(2,.dat (.l 3 Qo (List.replicate (Int.toNat 0) ((⟨0,0,0⟩:Qn):Qn)))),(4,.dat (.l 3 Qo ((List.replicate (Int.toNat 0) ((⟨0,0,0⟩:Qn):Qn))++list)))]) (.no))) Tryz.func60 (fun (hpre0:list.length≤1000000000)=>fun (_:list.length≤9223372036854775807)=>ai ((by first | omega | (simp only [lens] at*<;> omega):0≤(0:Int)∧(0:Int)≤(list.length:Int)∧(24:Int)*(list.length:Int)≤281474976710656)) (ai ((MakeOK.mk Qo ((⟨0,0,0⟩:Qn):Qn) (by exact ai ir (ai ir (ai ir (trivial)))):MakeOK 3 [.v (vI 0),.v (vI 0),.v (vI 0)] (Int.toNat 0) (.l 3 Qo (List.replicate (Int.toNat 0) ((⟨0,0,0⟩:Qn):Qn))))) (ai ((AppL.mk Qo (List.replicate (Int.toNat 0) ((⟨0,0,0⟩:Qn):Qn)) list (Imp.refl (.l 3 Qo (List.replicate (Int.toNat 0) ((⟨0,0,0⟩:Qn):Qn)))) ir (fun y=>⟨rfl,fun e he=>by simp only [Qo,List.mem_cons,List.not_mem_nil,or_false] at he; rcases he with rfl | rfl | rfl <;> exact ⟨_,rfl⟩⟩):AppL (.l 3 Qo (List.replicate (Int.toNat 0) ((⟨0,0,0⟩:Qn):Qn))) (.l 3 Qo list) 3 (.l 3 Qo ((List.replicate (Int.toNat 0) ((⟨0,0,0⟩:Qn):Qn))++list)))) (ai ((by (try simp only [lens]); omega:(((List.replicate (Int.toNat 0) ((⟨0,0,0⟩:Qn):Qn))++list)).length*24≤140737488355328)) ((fun hF:(((List.replicate (Int.toNat 0) ((⟨0,0,0⟩:Qn):Qn))++list):List Qn)=(F60 list)=>ai (Imp.of_eq (congrArg (fun r:List Qn=>Dat.l 3 Qo r) hF)) (trivial)) (rfl)))))) (by kernel_rfl)
theorem as60 (list:List Qn):F60 list=(list):=by
 simp [F60]
theorem oa60 (list:List Qn):(S60 (list) list).ok Tryz.prog 60:=by
 intro hp; have h:=ok60 list hp; rw [as60 list] at h; exact h
def F30_s0 (n:Qe):(Int×List Qi)→Lp (Int×List Qi) Qe:=fun (v13,out) =>
 bif (decide (v13<(n.Qa.length:Int))) then (.next ((v13+1),(out++[(n.Qa.getD v13.toNat default)]))) else (.done (v13,out))
def F30 (n:Qe):Qe :=
 (runL (F30_s0 n) (((n.Qa.length:Int)-0).toNat+1) (0,([]:List Qi))).fin (fun r=>r) (fun (v13,out)=>(⟨n.Qb,out⟩:Qe))
def S30 (R:Qe) (n:Qe):Spec:=⟨[.r (.g (Qf n))],.ag [.ow (.l 2 Qh R.Qb),.ow (.l 2 Qj R.Qa)],n.Qb.length≤1000000000∧n.Qa.length≤1000000000∧(∀ k:Nat,(n.Qa.getD k default).Rows.length≤1000000000)∧(∀ k:Nat,(n.Qa.getD k default).Qc.length≤1000000000)⟩
abbrev q30_1 (n:Qe):=(runL (F30_s0 n) (((n.Qa.length:Int)-0).toNat+1) (0,([]:List Qi)))
abbrev q30_2 (n:Qe) (v13:Int):=(n.Qa.getD v13.toNat default)
theorem ok30 (n:Qe):(S30 (F30 n) n).ok Tryz.prog 30 :=
 fnG_ok mixed (fn:=Tryz.f30) (ct:=.seq (.no) (.seq (.reg [(2,.call 58 (S58 n.Qb n.Qb) (oa58 n.Qb) none)]) (.seq (.seqk [(3,0),(11,0)] (.no) (.blk (.loop (ι:=Nat×(Int×List Qi)) (fun i=>(fun (v13:Int) (out:List Qi)=>(⟨[(2,some (.p 0 0)),(3,some (.p 1 0)),(11,some (.h 4 0)),(12,some (.v (vI (n.Qa.length:Int)))),(13,some (.v (vI v13)))],[(0,some (.box 26 [.v (.slice none 0 0),.v (.slice none 0 0)])),(1,some (.box 26 [.h 2 0,.h 3 0])),(2,some (.own 2 (.l 2 Qh n.Qb))),(3,some (.own 3 (.l 2 Qj out))),(4,some (.shr none (.l 2 Qj n.Qa)))],5⟩:St)) i.2.1 i.2.2) (fun i=>runL (F30_s0 n) i.1 i.2=(q30_1 n)∧(fun (v13:Int) (out:List Qi)=>(Int.toNat ((n.Qa.length:Int)-v13)<i.1∧(out.length:Int)=v13∧(0:Int)≤v13)) i.2.1 i.2.2) (fun i=>i.1) ((((n.Qa.length:Int)-0).toNat+1),(0,([]:List Qi))) (fun i=>(fun (v13:Int) (out:List Qi)=>(.seq (.no) (.seq (.cond (.no) (.no)) (.seq (.blk (.seq (.no) (.reg [(4,.call 59 (S59 (q30_2 n v13).Rows (q30_2 n v13).Rows) (oa59 (q30_2 n v13).Rows) none),(7,.call 60 (S60 (q30_2 n v13).Qc (q30_2 n v13).Qc) (oa60 (q30_2 n v13).Qc) none),(10,.dat (.l 2 Qj (out++[(q30_2 n v13)])))]))) (.reg [(0,.bnd)]))))) i.2.1 i.2.2)))) (.seq (.no) (.no))))) Tryz.func30 (fun (hp:n.Qb.length≤1000000000∧n.Qa.length≤1000000000∧(∀ k:Nat,(n.Qa.getD k default).Rows.length≤1000000000)∧(∀ k:Nat,(n.Qa.getD k default).Qc.length≤1000000000))=>(fun (hpre0:n.Qb.length≤1000000000) (hpre1:n.Qa.length≤1000000000) (hpre2:∀ k:Nat,(n.Qa.getD k default).Rows.length≤1000000000) (hpre3:∀ k:Nat,(n.Qa.getD k default).Qc.length≤1000000000)=>ai (((by first | omega | (simp only [lens] at*<;> omega):n.Qb.length≤1000000000))) (ai ((Imp.refl (.l 2 Qh n.Qb))) (fun (_:n.Qb.length≤9223372036854775807)=>fun (_:n.Qa.length≤9223372036854775807)=>ai (ai (rfl) (ai (rfl) (ai (rfl) (ai (rfl) (ai (rfl) (ai (ir) (ai ((Imp.nil _ _)) (ai (ir) ((ai (rfl:runL (F30_s0 n) (((n.Qa.length:Int)-0).toNat+1) (0,([]:List Qi))=(q30_1 n)) (ai ((Nat.lt_succ_self _:Int.toNat ((n.Qa.length:Int)-0)<(((n.Qa.length:Int)-0).toNat+1))) (ai ((by first | omega | (simp only [lens] at*<;> omega):(([]:List Qi).length:Int)=0)) ((by first | omega | (simp only [lens] at*<;> omega):(0:Int)≤0))))))))))))):((.int .i64 (n.Qa.length:Int):Value)=.int .i64 (n.Qa.length:Int))∧((.int .i64 0:Value)=.int .i64 0)∧((.slice none 0 0:Value)=.slice none 0 0)∧((.slice none 0 0:Value)=.slice none 0 0)∧((.slice none 0 0:Value)=.slice none 0 0)∧(Imp (.l 2 Qh n.Qb) (.l 2 Qh n.Qb))∧(Imp (.v (.slice none 0 0)) (.l 2 Qj ([]:List Qi)))∧(Imp (.l 2 Qj n.Qa) (.l 2 Qj n.Qa))∧(runL (F30_s0 n) (((n.Qa.length:Int)-0).toNat+1) (0,([]:List Qi))=(q30_1 n)∧Int.toNat ((n.Qa.length:Int)-0)<(((n.Qa.length:Int)-0).toNat+1)∧(([]:List Qi).length:Int)=0∧(0:Int)≤0)) (fun (i0:Nat×(Int×List Qi)) (hi0:runL (F30_s0 n) i0.1 i0.2=(q30_1 n)∧(fun (v13:Int) (out:List Qi)=>(Int.toNat ((n.Qa.length:Int)-v13)<i0.1∧(out.length:Int)=v13∧(0:Int)≤v13)) i0.2.1 i0.2.2)=>(fun (m0:Nat) (v13:Int) (out:List Qi) (hI0:runL (F30_s0 n) (m0+1) (v13,out)=(q30_1 n)) (_:Int.toNat ((n.Qa.length:Int)-v13)<m0+1) (hl0:m0<i0.1) (_:(out.length:Int)=v13) (_:(0:Int)≤v13)=>ai (fun h2:(decide (v13<(n.Qa.length:Int)))=true=>(fun _:v13<(n.Qa.length:Int)=>ai ((by first | omega | (simp only [lens] at*<;> omega):0≤v13∧v13<(n.Qa.length:Int))) (ai (((by first | omega | exact hpre2 _ | exact hpre3 _ | (intros; exact Nat.zero_le _):(q30_2 n v13).Rows.length≤1000000000))) (ai ((Imp.refl (.l 3 Ql (q30_2 n v13).Rows))) (ai (((by first | omega | exact hpre2 _ | exact hpre3 _ | (intros; exact Nat.zero_le _):(q30_2 n v13).Qc.length≤1000000000))) (ai ((Imp.refl (.l 3 Qo (q30_2 n v13).Qc))) (ai ((AppA.mk Qj out [(q30_2 n v13)] (Imp.refl (.l 2 Qj out)) rfl (by exact ai ir (ai ir (trivial))) (fun _=>rfl):AppA (.l 2 Qj out) 1 2 [.l 3 Ql (q30_2 n v13).Rows,.l 3 Qo (q30_2 n v13).Qc] (.l 2 Qj (out++[(q30_2 n v13)])))) (ai ((by (try simp only [lens]); first | omega | (have:=hpre2 v13.toNat; have:=hpre3 v13.toNat; omega):((out++[(q30_2 n v13)])).length*48≤140737488355328)) (ai ((by unfold i64ok; first | omega | (simp only [lens] at*<;> omega):i64ok (v13+1))) (Exists.intro (p:=fun j:Nat×(Int×List Qi)=>(fun (v13_:Int) (out_:List Qi)=>(((.int .i64 (n.Qa.length:Int):Value)=.int .i64 (n.Qa.length:Int))∧((.int .i64 (v13+1):Value)=.int .i64 v13_)∧((.slice none 0 0:Value)=.slice none 0 0)∧((.slice none 0 0:Value)=.slice none 0 0)∧(Imp (.l 2 Qh n.Qb) (.l 2 Qh n.Qb))∧(Imp (.l 2 Qj (out++[(q30_2 n v13)])) (.l 2 Qj out_))∧(Imp (.l 2 Qj n.Qa) (.l 2 Qj n.Qa))∧((runL (F30_s0 n) j.1 j.2=(q30_1 n)∧Int.toNat ((n.Qa.length:Int)-v13_)<j.1∧(out_.length:Int)=v13_∧(0:Int)≤v13_)∧j.1<i0.1))) j.2.1 j.2.2) (m0,((v13+1),(out++[(q30_2 n v13)]))) (ai (rfl) (ai (rfl) (ai (rfl) (ai (rfl) (ai (ir) (ai (ir) (ai (ir) (ai (ai (runL_next hI0 (condT h2 (rfl))) (ai ((by first | omega | (simp only [lens] at*<;> omega):Int.toNat ((n.Qa.length:Int)-(v13+1))<m0)) (ai ((by first | omega | (simp only [lens] at*<;> omega):((out++[(q30_2 n v13)]).length:Int)=(v13+1))) ((by first | omega | (simp only [lens] at*<;> omega):(0:Int)≤(v13+1)))))) hl0))))))))))))))))) (of_decide_eq_true h2)) (fun h2:(decide (v13<(n.Qa.length:Int)))=false=>(fun _:¬ v13<(n.Qa.length:Int)=>(fun hD0_3:(q30_1 n)=Lp.done (v13,out)=>(fun hF:((⟨n.Qb,out⟩:Qe):Qe)=(F30 n)=>ai (Imp.of_eq (congrArg (fun r:Qe=>Dat.l 2 Qh r.Qb) hF)) (ai (Imp.of_eq (congrArg (fun r:Qe=>Dat.l 2 Qj r.Qa) hF)) (trivial))) (finD hD0_3 (rfl))) (runL_done hI0 (condF h2 (rfl)))) (of_decide_eq_false h2))) (i0.1-1) i0.2.1 i0.2.2 (hd1 hi0.1 hi0.2.1) (hd2 hi0.2.1) (hd3 hi0.2.1) hi0.2.2.1 hi0.2.2.2)))) hp.1 hp.2.1 hp.2.2.1 hp.2.2.2) (by kernel_rfl)
def F46_s0 (b:Qi) (label:Int):Int→Lp Int Int:=fun i40 =>
 bif (decide (i40<(b.Rows.length:Int))) then (bif ((b.Rows.getD i40.toNat default).In==label) then (.ret i40) else (.next (i40+1))) else (.done i40)
def F46 (b:Qi) (label:Int):Int :=
 (runL (F46_s0 b label) (((b.Rows.length:Int)-0).toNat+1) 0).fin (fun r=>r) (fun i40=>(-1))
def S46 (R:Int) (b:Qi) (label:Int):Spec:=⟨[.r (.g (Qj b)),.r (.c (.v (vI label)))],.v (vI R),True⟩
theorem ok46 (b:Qi) (label:Int):(S46 (F46 b label) b label).ok Tryz.prog 46 :=
 fnG_ok mixed (fn:=Tryz.f46) (ct:=.seq (.no) (.seq (.seqk [(2,0),(2,1)] (.no) (.blk (.loop (ι:=Nat×Int) (fun i=>(fun (i40:Int)=>(⟨[(1,some (.v (vI label))),(2,some (.p 0 0)),(5,some (.v (vI i40)))],[(0,some (.box 49 [.h 1 0,.h 2 0])),(1,some (.shr none (.l 3 Ql b.Rows))),(2,some (.shr none (.l 3 Qo b.Qc)))],3⟩:St)) i.2) (fun i=>runL (F46_s0 b label) i.1 i.2=(runL (F46_s0 b label) (((b.Rows.length:Int)-0).toNat+1) 0)∧(fun (i40:Int)=>(Int.toNat ((b.Rows.length:Int)-i40)<i.1∧(0:Int)≤i40)) i.2) (fun i=>i.1) ((((b.Rows.length:Int)-0).toNat+1),0) (fun i=>(fun (i40:Int)=>(.seq (.seq (.no) (.cond (.no) (.no))) (.seq (.blk (.seq (.no) (.cond (.seq (.no) (.no)) (.no)))) (.reg [(1,.bnd)])))) i.2)))) (.seq (.no) (.no)))) Tryz.func46 (fun (_:True)=>fun (_:b.Rows.length≤9223372036854775807)=>fun (_:b.Qc.length≤9223372036854775807)=>ai (ai (rfl) (ai (rfl) (ai (ir) (ai (ir) ((ai (rfl:runL (F46_s0 b label) (((b.Rows.length:Int)-0).toNat+1) 0=(runL (F46_s0 b label) (((b.Rows.length:Int)-0).toNat+1) 0)) (ai ((Nat.lt_succ_self _:Int.toNat ((b.Rows.length:Int)-0)<(((b.Rows.length:Int)-0).toNat+1))) ((by omega:(0:Int)≤0)))))))):((.int .i64 label:Value)=.int .i64 label)∧((.int .i64 0:Value)=.int .i64 0)∧(Imp (.l 3 Ql b.Rows) (.l 3 Ql b.Rows))∧(Imp (.l 3 Qo b.Qc) (.l 3 Qo b.Qc))∧(runL (F46_s0 b label) (((b.Rows.length:Int)-0).toNat+1) 0=(runL (F46_s0 b label) (((b.Rows.length:Int)-0).toNat+1) 0)∧Int.toNat ((b.Rows.length:Int)-0)<(((b.Rows.length:Int)-0).toNat+1)∧(0:Int)≤0)) (fun (i0:Nat×Int) (hi0:runL (F46_s0 b label) i0.1 i0.2=(runL (F46_s0 b label) (((b.Rows.length:Int)-0).toNat+1) 0)∧(fun (i40:Int)=>(Int.toNat ((b.Rows.length:Int)-i40)<i0.1∧(0:Int)≤i40)) i0.2)=>(fun (m0:Nat) (i40:Int) (hI0:runL (F46_s0 b label) (m0+1) i40=(runL (F46_s0 b label) (((b.Rows.length:Int)-0).toNat+1) 0)) (_:Int.toNat ((b.Rows.length:Int)-i40)<m0+1) (hl0:m0<i0.1) (_:(0:Int)≤i40)=>ai (fun h2:(decide (i40<(b.Rows.length:Int)))=true=>(fun _:i40<(b.Rows.length:Int)=>ai ((by omega:0≤i40∧i40<(b.Rows.length:Int))) (ai (fun h3:((b.Rows.getD i40.toNat default).In==label)=true=>(fun _:(b.Rows.getD i40.toNat default).In=label=>(fun hF:(i40:Int)=(F46 b label)=>ai (congrArg (fun r:Int=>(.int .i64 r:Value)) hF) (trivial)) (finR (runL_ret hI0 (condT h2 (condT h3 (rfl)))) rfl)) (eq_of_beq h3)) (fun h3:((b.Rows.getD i40.toNat default).In==label)=false=>(fun _:¬ (b.Rows.getD i40.toNat default).In=label=>ai ((by unfold i64ok; omega:i64ok (i40+1))) (Exists.intro (p:=fun j:Nat×Int=>(fun (i40_:Int)=>(((.int .i64 label:Value)=.int .i64 label)∧((.int .i64 (i40+1):Value)=.int .i64 i40_)∧(Imp (.l 3 Ql b.Rows) (.l 3 Ql b.Rows))∧(Imp (.l 3 Qo b.Qc) (.l 3 Qo b.Qc))∧((runL (F46_s0 b label) j.1 j.2=(runL (F46_s0 b label) (((b.Rows.length:Int)-0).toNat+1) 0)∧Int.toNat ((b.Rows.length:Int)-i40_)<j.1∧(0:Int)≤i40_)∧j.1<i0.1))) j.2) (m0,(i40+1)) (ai (rfl) (ai (rfl) (ai (ir) (ai (ir) (ai (ai (runL_next hI0 (condT h2 (condF h3 (rfl)))) (ai ((by omega:Int.toNat ((b.Rows.length:Int)-(i40+1))<m0)) ((by omega:(0:Int)≤(i40+1))))) hl0))))))) (beqF h3)))) (of_decide_eq_true h2)) (fun h2:(decide (i40<(b.Rows.length:Int)))=false=>(fun _:¬ i40<(b.Rows.length:Int)=>(fun hD0_4:(runL (F46_s0 b label) (((b.Rows.length:Int)-0).toNat+1) 0)=Lp.done i40=>(fun hF:((-1):Int)=(F46 b label)=>ai (congrArg (fun r:Int=>(.int .i64 r:Value)) hF) (trivial)) (finD hD0_4 (rfl))) (runL_done hI0 (condF h2 (rfl)))) (of_decide_eq_false h2))) (i0.1-1) i0.2 (hd1 hi0.1 hi0.2.1) (hd2 hi0.2.1) (hd3 hi0.2.1) hi0.2.2)) (by kernel_rfl)
def F63_s0 (b:Qi) (label:Int):Int→Lp Int (Qk×Bool):=fun v11 =>
 bif (decide (v11<(b.Rows.length:Int))) then (bif ((b.Rows.getD v11.toNat default).In==label) then (.ret ((b.Rows.getD v11.toNat default),true)) else (.next (v11+1))) else (.done v11)
def F63 (b:Qi) (label:Int):Qk×Bool :=
 (runL (F63_s0 b label) (((b.Rows.length:Int)-0).toNat+1) 0).fin (fun r=>r) (fun v11=>((⟨0,0,0⟩:Qk),false))
def S63 (R:Qk×Bool) (b:Qi) (label:Int):Spec:=⟨[.r (.g (Qj b)),.r (.c (.v (vI label)))],.tu [.ag [.v (vI R.1.In),.v (vI R.1.Next),.v (vI R.1.Out)],.v (.bool R.2)],True⟩
theorem ok63 (b:Qi) (label:Int):(S63 (F63 b label) b label).ok Tryz.prog 63 :=
 fnG_ok mixed (fn:=Tryz.f63) (ct:=.seq (.no) (.seq (.seqk [(9,0)] (.no) (.blk (.loop (ι:=Nat×Int) (fun i=>(fun (v11:Int)=>(⟨[(1,some (.v (vI label))),(4,some (.p 0 0)),(9,some (.h 1 0)),(10,some (.v (vI (b.Rows.length:Int)))),(11,some (.v (vI v11)))],[(0,some (.box 66 [.v (vI 0),.v (vI 0),.v (vI 0)])),(1,some (.shr none (.l 3 Ql b.Rows)))],2⟩:St)) i.2) (fun i=>runL (F63_s0 b label) i.1 i.2=(runL (F63_s0 b label) (((b.Rows.length:Int)-0).toNat+1) 0)∧(fun (v11:Int)=>(Int.toNat ((b.Rows.length:Int)-v11)<i.1∧(0:Int)≤v11)) i.2) (fun i=>i.1) ((((b.Rows.length:Int)-0).toNat+1),0) (fun i=>(fun (v11:Int)=>(.seq (.no) (.seq (.cond (.no) (.no)) (.seq (.blk (.seq (.no) (.seq (.no) (.cond (.seq (.no) (.no)) (.no))))) (.reg [(0,.bnd)]))))) i.2)))) (.seq (.no) (.no)))) Tryz.func63 (fun (_:True)=>fun (_:b.Rows.length≤9223372036854775807)=>ai (ai (rfl) (ai (rfl) (ai (rfl) (ai (rfl) (ai (rfl) (ai (rfl) (ai (ir) ((ai (rfl:runL (F63_s0 b label) (((b.Rows.length:Int)-0).toNat+1) 0=(runL (F63_s0 b label) (((b.Rows.length:Int)-0).toNat+1) 0)) (ai ((Nat.lt_succ_self _:Int.toNat ((b.Rows.length:Int)-0)<(((b.Rows.length:Int)-0).toNat+1))) ((by omega:(0:Int)≤0))))))))))):((.int .i64 label:Value)=.int .i64 label)∧((.int .i64 (b.Rows.length:Int):Value)=.int .i64 (b.Rows.length:Int))∧((.int .i64 0:Value)=.int .i64 0)∧((.int .i64 0:Value)=.int .i64 0)∧((.int .i64 0:Value)=.int .i64 0)∧((.int .i64 0:Value)=.int .i64 0)∧(Imp (.l 3 Ql b.Rows) (.l 3 Ql b.Rows))∧(runL (F63_s0 b label) (((b.Rows.length:Int)-0).toNat+1) 0=(runL (F63_s0 b label) (((b.Rows.length:Int)-0).toNat+1) 0)∧Int.toNat ((b.Rows.length:Int)-0)<(((b.Rows.length:Int)-0).toNat+1)∧(0:Int)≤0)) (fun (i0:Nat×Int) (hi0:runL (F63_s0 b label) i0.1 i0.2=(runL (F63_s0 b label) (((b.Rows.length:Int)-0).toNat+1) 0)∧(fun (v11:Int)=>(Int.toNat ((b.Rows.length:Int)-v11)<i0.1∧(0:Int)≤v11)) i0.2)=>(fun (m0:Nat) (v11:Int) (hI0:runL (F63_s0 b label) (m0+1) v11=(runL (F63_s0 b label) (((b.Rows.length:Int)-0).toNat+1) 0)) (_:Int.toNat ((b.Rows.length:Int)-v11)<m0+1) (hl0:m0<i0.1) (_:(0:Int)≤v11)=>ai (fun h2:(decide (v11<(b.Rows.length:Int)))=true=>(fun _:v11<(b.Rows.length:Int)=>ai ((by omega:0≤v11∧v11<(b.Rows.length:Int))) (ai (fun h3:((b.Rows.getD v11.toNat default).In==label)=true=>(fun _:(b.Rows.getD v11.toNat default).In=label=>(fun hF:((b.Rows.getD v11.toNat default),true)=(F63 b label)=>ai (congrArg (fun r:Qk×Bool=>(.int .i64 r.1.In:Value)) hF) (ai (congrArg (fun r:Qk×Bool=>(.int .i64 r.1.Next:Value)) hF) (ai (congrArg (fun r:Qk×Bool=>(.int .i64 r.1.Out:Value)) hF) (ai (congrArg (fun r:Qk×Bool=>(.bool r.2:Value)) hF) (trivial))))) (finR (runL_ret hI0 (condT h2 (condT h3 (rfl)))) rfl)) (eq_of_beq h3)) (fun h3:((b.Rows.getD v11.toNat default).In==label)=false=>(fun _:¬ (b.Rows.getD v11.toNat default).In=label=>ai ((by unfold i64ok; omega:i64ok (v11+1))) (Exists.intro (p:=fun j:Nat×Int=>(fun (v11_:Int)=>(((.int .i64 label:Value)=.int .i64 label)∧((.int .i64 (b.Rows.length:Int):Value)=.int .i64 (b.Rows.length:Int))∧((.int .i64 (v11+1):Value)=.int .i64 v11_)∧((.int .i64 0:Value)=.int .i64 0)∧((.int .i64 0:Value)=.int .i64 0)∧((.int .i64 0:Value)=.int .i64 0)∧(Imp (.l 3 Ql b.Rows) (.l 3 Ql b.Rows))∧((runL (F63_s0 b label) j.1 j.2=(runL (F63_s0 b label) (((b.Rows.length:Int)-0).toNat+1) 0)∧Int.toNat ((b.Rows.length:Int)-v11_)<j.1∧(0:Int)≤v11_)∧j.1<i0.1))) j.2) (m0,(v11+1)) (ai (rfl) (ai (rfl) (ai (rfl) (ai (rfl) (ai (rfl) (ai (rfl) (ai (ir) (ai (ai (runL_next hI0 (condT h2 (condF h3 (rfl)))) (ai ((by omega:Int.toNat ((b.Rows.length:Int)-(v11+1))<m0)) ((by omega:(0:Int)≤(v11+1))))) hl0)))))))))) (beqF h3)))) (of_decide_eq_true h2)) (fun h2:(decide (v11<(b.Rows.length:Int)))=false=>(fun _:¬ v11<(b.Rows.length:Int)=>(fun hD0_4:(runL (F63_s0 b label) (((b.Rows.length:Int)-0).toNat+1) 0)=Lp.done v11=>(fun hF:((⟨0,0,0⟩:Qk),false)=(F63 b label)=>ai (congrArg (fun r:Qk×Bool=>(.int .i64 r.1.In:Value)) hF) (ai (congrArg (fun r:Qk×Bool=>(.int .i64 r.1.Next:Value)) hF) (ai (congrArg (fun r:Qk×Bool=>(.int .i64 r.1.Out:Value)) hF) (ai (congrArg (fun r:Qk×Bool=>(.bool r.2:Value)) hF) (trivial))))) (finD hD0_4 (rfl))) (runL_done hI0 (condF h2 (rfl)))) (of_decide_eq_false h2))) (i0.1-1) i0.2 (hd1 hi0.1 hi0.2.1) (hd2 hi0.2.1) (hd3 hi0.2.1) hi0.2.2)) (by kernel_rfl)
def F45_s0 (b:Qi) (to':Int):Int→Lp Int Int:=fun i40 =>
 bif (decide (i40<(b.Qc.length:Int))) then (bif ((b.Qc.getD i40.toNat default).To==to') then (.ret i40) else (.next (i40+1))) else (.done i40)
def F45 (b:Qi) (to':Int):Int :=
 (runL (F45_s0 b to') (((b.Qc.length:Int)-0).toNat+1) 0).fin (fun r=>r) (fun i40=>(-1))
def S45 (R:Int) (b:Qi) (to':Int):Spec:=⟨[.r (.g (Qj b)),.r (.c (.v (vI to')))],.v (vI R),True⟩
theorem ok45 (b:Qi) (to':Int):(S45 (F45 b to') b to').ok Tryz.prog 45 :=
 fnG_ok mixed (fn:=Tryz.f45) (ct:=.seq (.no) (.seq (.seqk [(2,0),(2,1)] (.no) (.blk (.loop (ι:=Nat×Int) (fun i=>(fun (i40:Int)=>(⟨[(1,some (.v (vI to'))),(2,some (.p 0 0)),(5,some (.v (vI i40)))],[(0,some (.box 49 [.h 1 0,.h 2 0])),(1,some (.shr none (.l 3 Ql b.Rows))),(2,some (.shr none (.l 3 Qo b.Qc)))],3⟩:St)) i.2) (fun i=>runL (F45_s0 b to') i.1 i.2=(runL (F45_s0 b to') (((b.Qc.length:Int)-0).toNat+1) 0)∧(fun (i40:Int)=>(Int.toNat ((b.Qc.length:Int)-i40)<i.1∧(0:Int)≤i40)) i.2) (fun i=>i.1) ((((b.Qc.length:Int)-0).toNat+1),0) (fun i=>(fun (i40:Int)=>(.seq (.seq (.no) (.cond (.no) (.no))) (.seq (.blk (.seq (.no) (.cond (.seq (.no) (.no)) (.no)))) (.reg [(1,.bnd)])))) i.2)))) (.seq (.no) (.no)))) Tryz.func45 (fun (_:True)=>fun (_:b.Rows.length≤9223372036854775807)=>fun (_:b.Qc.length≤9223372036854775807)=>ai (ai (rfl) (ai (rfl) (ai (ir) (ai (ir) ((ai (rfl:runL (F45_s0 b to') (((b.Qc.length:Int)-0).toNat+1) 0=(runL (F45_s0 b to') (((b.Qc.length:Int)-0).toNat+1) 0)) (ai ((Nat.lt_succ_self _:Int.toNat ((b.Qc.length:Int)-0)<(((b.Qc.length:Int)-0).toNat+1))) ((by omega:(0:Int)≤0)))))))):((.int .i64 to':Value)=.int .i64 to')∧((.int .i64 0:Value)=.int .i64 0)∧(Imp (.l 3 Ql b.Rows) (.l 3 Ql b.Rows))∧(Imp (.l 3 Qo b.Qc) (.l 3 Qo b.Qc))∧(runL (F45_s0 b to') (((b.Qc.length:Int)-0).toNat+1) 0=(runL (F45_s0 b to') (((b.Qc.length:Int)-0).toNat+1) 0)∧Int.toNat ((b.Qc.length:Int)-0)<(((b.Qc.length:Int)-0).toNat+1)∧(0:Int)≤0)) (fun (i0:Nat×Int) (hi0:runL (F45_s0 b to') i0.1 i0.2=(runL (F45_s0 b to') (((b.Qc.length:Int)-0).toNat+1) 0)∧(fun (i40:Int)=>(Int.toNat ((b.Qc.length:Int)-i40)<i0.1∧(0:Int)≤i40)) i0.2)=>(fun (m0:Nat) (i40:Int) (hI0:runL (F45_s0 b to') (m0+1) i40=(runL (F45_s0 b to') (((b.Qc.length:Int)-0).toNat+1) 0)) (_:Int.toNat ((b.Qc.length:Int)-i40)<m0+1) (hl0:m0<i0.1) (_:(0:Int)≤i40)=>ai (fun h2:(decide (i40<(b.Qc.length:Int)))=true=>(fun _:i40<(b.Qc.length:Int)=>ai ((by omega:0≤i40∧i40<(b.Qc.length:Int))) (ai (fun h3:((b.Qc.getD i40.toNat default).To==to')=true=>(fun _:(b.Qc.getD i40.toNat default).To=to'=>(fun hF:(i40:Int)=(F45 b to')=>ai (congrArg (fun r:Int=>(.int .i64 r:Value)) hF) (trivial)) (finR (runL_ret hI0 (condT h2 (condT h3 (rfl)))) rfl)) (eq_of_beq h3)) (fun h3:((b.Qc.getD i40.toNat default).To==to')=false=>(fun _:¬ (b.Qc.getD i40.toNat default).To=to'=>ai ((by unfold i64ok; omega:i64ok (i40+1))) (Exists.intro (p:=fun j:Nat×Int=>(fun (i40_:Int)=>(((.int .i64 to':Value)=.int .i64 to')∧((.int .i64 (i40+1):Value)=.int .i64 i40_)∧(Imp (.l 3 Ql b.Rows) (.l 3 Ql b.Rows))∧(Imp (.l 3 Qo b.Qc) (.l 3 Qo b.Qc))∧((runL (F45_s0 b to') j.1 j.2=(runL (F45_s0 b to') (((b.Qc.length:Int)-0).toNat+1) 0)∧Int.toNat ((b.Qc.length:Int)-i40_)<j.1∧(0:Int)≤i40_)∧j.1<i0.1))) j.2) (m0,(i40+1)) (ai (rfl) (ai (rfl) (ai (ir) (ai (ir) (ai (ai (runL_next hI0 (condT h2 (condF h3 (rfl)))) (ai ((by omega:Int.toNat ((b.Qc.length:Int)-(i40+1))<m0)) ((by omega:(0:Int)≤(i40+1))))) hl0))))))) (beqF h3)))) (of_decide_eq_true h2)) (fun h2:(decide (i40<(b.Qc.length:Int)))=false=>(fun _:¬ i40<(b.Qc.length:Int)=>(fun hD0_4:(runL (F45_s0 b to') (((b.Qc.length:Int)-0).toNat+1) 0)=Lp.done i40=>(fun hF:((-1):Int)=(F45 b to')=>ai (congrArg (fun r:Int=>(.int .i64 r:Value)) hF) (trivial)) (finD hD0_4 (rfl))) (runL_done hI0 (condF h2 (rfl)))) (of_decide_eq_false h2))) (i0.1-1) i0.2 (hd1 hi0.1 hi0.2.1) (hd2 hi0.2.1) (hd3 hi0.2.1) hi0.2.2)) (by kernel_rfl)
def F61_s0 (b:Qi) (to':Int):Int→Lp Int (Qn×Bool):=fun v11 =>
 bif (decide (v11<(b.Qc.length:Int))) then (bif ((b.Qc.getD v11.toNat default).To==to') then (.ret ((b.Qc.getD v11.toNat default),true)) else (.next (v11+1))) else (.done v11)
def F61 (b:Qi) (to':Int):Qn×Bool :=
 (runL (F61_s0 b to') (((b.Qc.length:Int)-0).toNat+1) 0).fin (fun r=>r) (fun v11=>((⟨0,0,0⟩:Qn),false))
def S61 (R:Qn×Bool) (b:Qi) (to':Int):Spec:=⟨[.r (.g (Qj b)),.r (.c (.v (vI to')))],.tu [.ag [.v (vI R.1.To),.v (vI R.1.Via),.v (vI R.1.Push)],.v (.bool R.2)],True⟩
theorem ok61 (b:Qi) (to':Int):(S61 (F61 b to') b to').ok Tryz.prog 61 :=
 fnG_ok mixed (fn:=Tryz.f61) (ct:=.seq (.no) (.seq (.seqk [(9,0)] (.no) (.blk (.loop (ι:=Nat×Int) (fun i=>(fun (v11:Int)=>(⟨[(1,some (.v (vI to'))),(4,some (.p 0 0)),(9,some (.h 1 0)),(10,some (.v (vI (b.Qc.length:Int)))),(11,some (.v (vI v11)))],[(0,some (.box 51 [.v (vI 0),.v (vI 0),.v (vI 0)])),(1,some (.shr none (.l 3 Qo b.Qc)))],2⟩:St)) i.2) (fun i=>runL (F61_s0 b to') i.1 i.2=(runL (F61_s0 b to') (((b.Qc.length:Int)-0).toNat+1) 0)∧(fun (v11:Int)=>(Int.toNat ((b.Qc.length:Int)-v11)<i.1∧(0:Int)≤v11)) i.2) (fun i=>i.1) ((((b.Qc.length:Int)-0).toNat+1),0) (fun i=>(fun (v11:Int)=>(.seq (.no) (.seq (.cond (.no) (.no)) (.seq (.blk (.seq (.no) (.seq (.no) (.cond (.seq (.no) (.no)) (.no))))) (.reg [(0,.bnd)]))))) i.2)))) (.seq (.no) (.no)))) Tryz.func61 (fun (_:True)=>fun (_:b.Qc.length≤9223372036854775807)=>ai (ai (rfl) (ai (rfl) (ai (rfl) (ai (rfl) (ai (rfl) (ai (rfl) (ai (ir) ((ai (rfl:runL (F61_s0 b to') (((b.Qc.length:Int)-0).toNat+1) 0=(runL (F61_s0 b to') (((b.Qc.length:Int)-0).toNat+1) 0)) (ai ((Nat.lt_succ_self _:Int.toNat ((b.Qc.length:Int)-0)<(((b.Qc.length:Int)-0).toNat+1))) ((by omega:(0:Int)≤0))))))))))):((.int .i64 to':Value)=.int .i64 to')∧((.int .i64 (b.Qc.length:Int):Value)=.int .i64 (b.Qc.length:Int))∧((.int .i64 0:Value)=.int .i64 0)∧((.int .i64 0:Value)=.int .i64 0)∧((.int .i64 0:Value)=.int .i64 0)∧((.int .i64 0:Value)=.int .i64 0)∧(Imp (.l 3 Qo b.Qc) (.l 3 Qo b.Qc))∧(runL (F61_s0 b to') (((b.Qc.length:Int)-0).toNat+1) 0=(runL (F61_s0 b to') (((b.Qc.length:Int)-0).toNat+1) 0)∧Int.toNat ((b.Qc.length:Int)-0)<(((b.Qc.length:Int)-0).toNat+1)∧(0:Int)≤0)) (fun (i0:Nat×Int) (hi0:runL (F61_s0 b to') i0.1 i0.2=(runL (F61_s0 b to') (((b.Qc.length:Int)-0).toNat+1) 0)∧(fun (v11:Int)=>(Int.toNat ((b.Qc.length:Int)-v11)<i0.1∧(0:Int)≤v11)) i0.2)=>(fun (m0:Nat) (v11:Int) (hI0:runL (F61_s0 b to') (m0+1) v11=(runL (F61_s0 b to') (((b.Qc.length:Int)-0).toNat+1) 0)) (_:Int.toNat ((b.Qc.length:Int)-v11)<m0+1) (hl0:m0<i0.1) (_:(0:Int)≤v11)=>ai (fun h2:(decide (v11<(b.Qc.length:Int)))=true=>(fun _:v11<(b.Qc.length:Int)=>ai ((by omega:0≤v11∧v11<(b.Qc.length:Int))) (ai (fun h3:((b.Qc.getD v11.toNat default).To==to')=true=>(fun _:(b.Qc.getD v11.toNat default).To=to'=>(fun hF:((b.Qc.getD v11.toNat default),true)=(F61 b to')=>ai (congrArg (fun r:Qn×Bool=>(.int .i64 r.1.To:Value)) hF) (ai (congrArg (fun r:Qn×Bool=>(.int .i64 r.1.Via:Value)) hF) (ai (congrArg (fun r:Qn×Bool=>(.int .i64 r.1.Push:Value)) hF) (ai (congrArg (fun r:Qn×Bool=>(.bool r.2:Value)) hF) (trivial))))) (finR (runL_ret hI0 (condT h2 (condT h3 (rfl)))) rfl)) (eq_of_beq h3)) (fun h3:((b.Qc.getD v11.toNat default).To==to')=false=>(fun _:¬ (b.Qc.getD v11.toNat default).To=to'=>ai ((by unfold i64ok; omega:i64ok (v11+1))) (Exists.intro (p:=fun j:Nat×Int=>(fun (v11_:Int)=>(((.int .i64 to':Value)=.int .i64 to')∧((.int .i64 (b.Qc.length:Int):Value)=.int .i64 (b.Qc.length:Int))∧((.int .i64 (v11+1):Value)=.int .i64 v11_)∧((.int .i64 0:Value)=.int .i64 0)∧((.int .i64 0:Value)=.int .i64 0)∧((.int .i64 0:Value)=.int .i64 0)∧(Imp (.l 3 Qo b.Qc) (.l 3 Qo b.Qc))∧((runL (F61_s0 b to') j.1 j.2=(runL (F61_s0 b to') (((b.Qc.length:Int)-0).toNat+1) 0)∧Int.toNat ((b.Qc.length:Int)-v11_)<j.1∧(0:Int)≤v11_)∧j.1<i0.1))) j.2) (m0,(v11+1)) (ai (rfl) (ai (rfl) (ai (rfl) (ai (rfl) (ai (rfl) (ai (rfl) (ai (ir) (ai (ai (runL_next hI0 (condT h2 (condF h3 (rfl)))) (ai ((by omega:Int.toNat ((b.Qc.length:Int)-(v11+1))<m0)) ((by omega:(0:Int)≤(v11+1))))) hl0)))))))))) (beqF h3)))) (of_decide_eq_true h2)) (fun h2:(decide (v11<(b.Qc.length:Int)))=false=>(fun _:¬ v11<(b.Qc.length:Int)=>(fun hD0_4:(runL (F61_s0 b to') (((b.Qc.length:Int)-0).toNat+1) 0)=Lp.done v11=>(fun hF:((⟨0,0,0⟩:Qn),false)=(F61 b to')=>ai (congrArg (fun r:Qn×Bool=>(.int .i64 r.1.To:Value)) hF) (ai (congrArg (fun r:Qn×Bool=>(.int .i64 r.1.Via:Value)) hF) (ai (congrArg (fun r:Qn×Bool=>(.int .i64 r.1.Push:Value)) hF) (ai (congrArg (fun r:Qn×Bool=>(.bool r.2:Value)) hF) (trivial))))) (finD hD0_4 (rfl))) (runL_done hI0 (condF h2 (rfl)))) (of_decide_eq_false h2))) (i0.1-1) i0.2 (hd1 hi0.1 hi0.2.1) (hd2 hi0.2.1) (hd3 hi0.2.1) hi0.2.2)) (by kernel_rfl)
def F49 (n:Qe) (box:Int):Bool :=
 (decide (0≤box∧box≤((n.Qa.length:Int)-1)))
def S49 (R:Bool) (n:Qe) (box:Int):Spec:=⟨[.r (.g (Qf n)),.r (.c (.v (vI box)))],.v (.bool R),n.Qa.length≤9223372036854775807⟩
theorem ok49 (n:Qe) (box:Int):(S49 (F49 n box) n box).ok Tryz.prog 49 :=
 fnG_ok mixed (fn:=Tryz.f49) (ct:=.seq (.no) (.seq (.reg [(4,.bnd),(5,.call 27 (S27 (decide (0≤box∧box≤((n.Qa.length:Int)-1))) box 0 ((n.Qa.length:Int)-1)) (oa27 box 0 ((n.Qa.length:Int)-1)) none)]) (.no))) Tryz.func49 (fun (hpre0:n.Qa.length≤9223372036854775807)=>ai ((by unfold i64ok; omega:i64ok ((n.Qa.length:Int)-1))) (ai (trivial) (ai ((Imp.refl (.v (vI box)))) (ai ((Imp.refl (.v (vI 0)))) (ai ((Imp.refl (.v (vI ((n.Qa.length:Int)-1))))) ((fun hF:((decide (0≤box∧box≤((n.Qa.length:Int)-1))):Bool)=(F49 n box)=>ai (congrArg (fun r:Bool=>(.bool r:Value)) hF) (trivial)) (rfl))))))) (by kernel_rfl)
theorem as49 (n:Qe) (box:Int):F49 n box=(decide (0≤box∧box≤(n.Qa.length:Int)-1)):=by
 rfl
theorem oa49 (n:Qe) (box:Int):(S49 (decide (0≤box∧box≤(n.Qa.length:Int)-1)) n box).ok Tryz.prog 49:=by
 intro hp; have h:=ok49 n box hp; rw [as49 n box] at h; exact h
structure LabPacket where
 Box:Int
 Stack:List Int
 deriving DecidableEq,Inhabited
structure FrameOk (n:Qe):Prop where
 b1:1≤n.Qa.length
 b8:n.Qa.length≤8
 l14:n.Qb.length≤14
 ab:∀ k,k<n.Qb.length→0≤(n.Qb.getD k default).A∧(n.Qb.getD k default).A<(n.Qb.getD k default).B∧(n.Qb.getD k default).B<(n.Qa.length:Int)
 inc:∀ k,k+1<n.Qb.length→(n.Qb.getD k default).A<(n.Qb.getD (k+1) default).A∨((n.Qb.getD k default).A=(n.Qb.getD (k+1) default).A∧(n.Qb.getD k default).B<(n.Qb.getD (k+1) default).B)
def badL (n:Qe) (k:Nat):Bool :=
 (decide ((n.Qb.getD k default).A<0) || decide ((n.Qb.getD k default).A≥(n.Qb.getD k default).B) || decide ((n.Qb.getD k default).B≥(n.Qa.length:Int))) ||
 (decide (0<k)&&(decide ((n.Qb.getD (k-1) default).A>(n.Qb.getD k default).A) || (decide ((n.Qb.getD (k-1) default).A=(n.Qb.getD k default).A)&&decide ((n.Qb.getD (k-1) default).B≥(n.Qb.getD k default).B))))
theorem s66 (n:Qe) (k:Nat) (hk:k<n.Qb.length):F66_s0 n (k:Int)=bif badL n k then .ret false else .next ((k:Int)+1):=by
 simp only [F66_s0,ltD hk,cond_true,nn,bord,bandd,toNat_pred,pos_cast,beqD]
 rw [ret_or]
 rfl
theorem s28 (n:Qe) (k:Nat) (hk:k<n.Qb.length):F28_s0 n (k:Int)=bif badL n k then .ret false else .next ((k:Int)+1):=by
 simp only [F28_s0,ltD hk,cond_true,nn,bord,bandd,toNat_pred,pos_cast,beqD,F56]
 rw [ret_or]
 unfold badL
 congr 2
 congr 1
 (rw [Bool.eq_iff_iff]; simp only [Bool.and_eq_true,Bool.or_eq_true,Bool.not_eq_true',Bool.not_eq_false',decide_eq_true_eq,decide_eq_false_iff_not,Bool.and_eq_false_iff,Bool.or_eq_false_iff]; omega)
theorem frame_eq (n:Qe):F66 n=(decide (1≤(n.Qa.length:Int)∧(n.Qa.length:Int)≤8)&&(decide ((n.Qb.length:Int)≤14)&&(first (badL n) n.Qb.length).isNone)):=by
 unfold F66
 rw [allB (badL n) n.Qb.length _ (s66 n) (by simp [F66_s0])]
 cases decide (1≤(n.Qa.length:Int)∧(n.Qa.length:Int)≤8)
 ·rfl
 ·by_cases h:(n.Qb.length:Int)>14
  ·have h':¬ (n.Qb.length:Int)≤14:=by omega
   simp only [decide_eq_true h,decide_eq_false h']; rfl
  ·have h':(n.Qb.length:Int)≤14:=by omega
   simp only [decide_eq_false h,decide_eq_true h',Bool.and_true]; rfl
theorem linksOk_eq (n:Qe):F28 n=((first (badL n) n.Qb.length).isNone&&decide ((n.Qb.length:Int)≤14)):=by
 unfold F28
 rw [allB (badL n) n.Qb.length _ (s28 n) (by simp [F28_s0])]
theorem frame_ok {n:Qe}:F66 n=true↔FrameOk n:=by
 rw [frame_eq]
 simp only [Bool.and_eq_true,decide_eq_true_eq,allB_iff,badL,Bool.or_eq_false_iff,Bool.and_eq_false_iff,decide_eq_false_iff_not]
 constructor
 ·rintro ⟨⟨h1,h2⟩,h3,h4⟩
  refine ⟨by omega,by omega,by omega,fun k hk=>?_,fun k hk=>?_⟩
  ·have:=(h4 k hk).1; omega
  ·have:=(h4 (k+1) hk).2
   simp only [Nat.add_sub_cancel] at this
   omega
 ·intro h
  have:=h.b1; have:=h.b8; have:=h.l14
  refine ⟨⟨by omega,by omega⟩,by omega,fun k hk=>⟨?_,?_⟩⟩
  ·have:=h.ab k hk; omega
  ·cases k with
   | zero=>left; omega
   | succ k =>
    right
    have:=h.inc k hk
    simp only [Nat.add_sub_cancel]
    omega
def isLink (n:Qe) (a b:Int) (k:Nat):Bool :=
 (decide ((n.Qb.getD k default).A=a)&&decide ((n.Qb.getD k default).B=b)) || (decide ((n.Qb.getD k default).A=b)&&decide ((n.Qb.getD k default).B=a))
def Qr (n:Qe) (a b:Int):Int:=match first (isLink n a b) n.Qb.length with
 | some k=>(k:Int)
 | none=>-1
theorem specLink_eq (n:Qe) (a b:Int):F44 n a b=Qr n a b:=by
 unfold F44 Qr
 rw [search (isLink n a b) (fun k=>(k:Int)) n.Qb.length _ (fun k hk=>by simp only [F44_s0,ltD hk,cond_true,nn,bord,bandd,beqD]; rfl) (by simp [F44_s0])]
 all_goals (cases first (isLink n a b) n.Qb.length <;> rfl)
theorem implLink_eq {n:Qe} (h:FrameOk n) (a b:Int):F48 n a b=Qr n a b:=by
 unfold F48 Qr F81
 rw [search (fun k=>(decide ((if b<a then b else a)=(n.Qb.getD k default).A)&&decide ((if b>a then b else a)=(n.Qb.getD k default).B))) (fun k=>(k:Int)) n.Qb.length _
  (fun k hk=>by simp only [F81_s0,ltD hk,cond_true,nn,beqD]) (by simp [F81_s0])]
 have e:first (fun k=>(decide ((if b<a then b else a)=(n.Qb.getD k default).A)&&decide ((if b>a then b else a)=(n.Qb.getD k default).B))) n.Qb.length=first (isLink n a b) n.Qb.length:=first_congr fun k hk=>by
  have:=h.ab k hk
  unfold isLink
  split <;> split <;> (rw [Bool.eq_iff_iff]; simp only [Bool.and_eq_true,Bool.or_eq_true,Bool.not_eq_true',Bool.not_eq_false',decide_eq_true_eq,decide_eq_false_iff_not,Bool.and_eq_false_iff,Bool.or_eq_false_iff]; omega)
 rw [e]
 all_goals (cases first (isLink n a b) n.Qb.length <;> rfl)
theorem linkOf_comm (n:Qe) (a b:Int):Qr n a b=Qr n b a:=by
 unfold Qr
 have e:first (isLink n a b) n.Qb.length=first (isLink n b a) n.Qb.length:=first_congr fun k _=>by unfold isLink; exact Bool.or_comm _ _
 rw [e]
theorem linkOf_some {n:Qe} {a b:Int} (h:0≤Qr n a b):(Qr n a b).toNat<n.Qb.length∧isLink n a b (Qr n a b).toNat=true:=by
 unfold Qr at h ⊢
 cases e:first (isLink n a b) n.Qb.length with
 | none=>rw [e] at h; exact absurd h (by decide)
 | some k =>
  simp only [Int.toNat_natCast]
  have:=first_some.1 e
  exact ⟨this.1,this.2.1⟩
theorem linkOf_in {n:Qe} (h:FrameOk n) {a b:Int} (hl:0≤Qr n a b):0≤a∧a<(n.Qa.length:Int)∧0≤b∧b<(n.Qa.length:Int)∧a≠b:=by
 obtain ⟨h1,h2⟩:=linkOf_some hl
 have:=h.ab _ h1
 simp only [isLink,Bool.or_eq_true,Bool.and_eq_true,decide_eq_true_eq] at h2
 omega
theorem link_unique {n:Qe} (h:FrameOk n):∀ (d j:Nat),j+d+1<n.Qb.length→(n.Qb.getD j default).A<(n.Qb.getD (j+d+1) default).A∨((n.Qb.getD j default).A=(n.Qb.getD (j+d+1) default).A∧(n.Qb.getD j default).B<(n.Qb.getD (j+d+1) default).B)
 | 0,j,hj=>h.inc j hj
 | d+1,j,hj=>by
  have h1:=link_unique h d j (by omega)
  have h2:=h.inc (j+d+1) (by omega)
  have e:j+(d+1)+1=j+d+1+1:=by omega
  rw [e]
  omega
theorem isLink_unique {n:Qe} (h:FrameOk n) {a b:Int} {j k:Nat} (hj:j<n.Qb.length) (hk:k<n.Qb.length) (h1:isLink n a b j=true) (h2:isLink n a b k=true):j=k:=by
 simp only [isLink,Bool.or_eq_true,Bool.and_eq_true,decide_eq_true_eq] at h1 h2
 have a1:=h.ab j hj; have a2:=h.ab k hk
 rcases Nat.lt_trichotomy j k with hlt | rfl | hlt
 ·have:=link_unique h (k-j-1) j (by omega)
  have e:j+(k-j-1)+1=k:=by omega
  rw [e] at this
  omega
 ·rfl
 ·have:=link_unique h (j-k-1) k (by omega)
  have e:k+(j-k-1)+1=j:=by omega
  rw [e] at this
  omega
theorem linkOf_of {n:Qe} (h:FrameOk n) {a b:Int} {k:Nat} (hk:k<n.Qb.length) (h1:isLink n a b k=true):Qr n a b=k:=by
 unfold Qr
 cases e:first (isLink n a b) n.Qb.length with
 | none=>have:=first_none.1 e k hk; rw [this] at h1; cases h1
 | some j =>
  have:=first_some.1 e
  rw [isLink_unique h this.1 hk this.2.1 h1]
def isLabel (x:Int):Prop:=1≤x∧x≤60
instance (x:Int):Decidable (isLabel x):=inferInstanceAs (Decidable (1≤x∧x≤60))
def rowOk (n:Qe) (box:Int) (r:Qk):Prop:=isLabel r.In∧((r.Next=-1∧r.Out=0)∨(0≤Qr n box r.Next∧isLabel r.Out))
def viaOk (n:Qe) (box:Int) (v:Qn):Prop:=0≤Qr n box v.To∧0≤Qr n box v.Via∧v.To≠v.Via∧isLabel v.Push
instance (n:Qe) (b:Int) (r:Qk):Decidable (rowOk n b r):=inferInstanceAs (Decidable (_∧_))
instance (n:Qe) (b:Int) (r:Qn):Decidable (viaOk n b r):=inferInstanceAs (Decidable (_∧_))
theorem noLink {n:Qe} (h:FrameOk n) (a:Int):Qr n a (-1)<0:=by
 rcases Int.lt_or_le (Qr n a (-1)) 0 with h1 | h1
 ·exact h1
 ·have:=linkOf_in h h1; omega
theorem specRow_eq {n:Qe} (h:FrameOk n) (box:Int) (r:Qk):F87 n box r=decide (rowOk n box r):=by
 have h1:=noLink h box
 simp only [F87,specLink_eq,beqD,bandd,eqstep]
 by_cases h2:r.Next=-1
 ·rw [← h2] at h1
  rw [decide_eq_true h2,cond_true]
  (rw [Bool.eq_iff_iff]; simp only [Bool.and_eq_true,Bool.or_eq_true,Bool.not_eq_true',Bool.not_eq_false',decide_eq_true_eq,decide_eq_false_iff_not,Bool.and_eq_false_iff,Bool.or_eq_false_iff]; simp only [rowOk,isLabel]; omega)
 ·rw [decide_eq_false h2,cond_false]
  (rw [Bool.eq_iff_iff]; simp only [Bool.and_eq_true,Bool.or_eq_true,Bool.not_eq_true',Bool.not_eq_false',decide_eq_true_eq,decide_eq_false_iff_not,Bool.and_eq_false_iff,Bool.or_eq_false_iff]; simp only [rowOk,isLabel]; omega)
theorem specVia_eq (n:Qe) (box:Int) (v:Qn):F88 n box v=decide (viaOk n box v):=by
 simp only [F88,specLink_eq,bandd,neI]
 (rw [Bool.eq_iff_iff]; simp only [Bool.and_eq_true,Bool.or_eq_true,Bool.not_eq_true',Bool.not_eq_false',decide_eq_true_eq,decide_eq_false_iff_not,Bool.and_eq_false_iff,Bool.or_eq_false_iff]; simp only [viaOk,isLabel]; omega)
structure BoxOk (n:Qe) (i:Nat):Prop where
 row:∀ k,k<(n.Qa.getD i default).Rows.length→rowOk n i ((n.Qa.getD i default).Rows.getD k default)
 rinc:∀ k,k+1<(n.Qa.getD i default).Rows.length→((n.Qa.getD i default).Rows.getD k default).In<((n.Qa.getD i default).Rows.getD (k+1) default).In
 via:∀ k,k<(n.Qa.getD i default).Qc.length→viaOk n i ((n.Qa.getD i default).Qc.getD k default)
 vinc:∀ k,k+1<(n.Qa.getD i default).Qc.length→((n.Qa.getD i default).Qc.getD k default).To<((n.Qa.getD i default).Qc.getD (k+1) default).To
def badR (n:Qe) (i:Nat) (k:Nat):Bool:=!decide (rowOk n i ((n.Qa.getD i default).Rows.getD k default)) || (decide (0<k)&&decide (((n.Qa.getD i default).Rows.getD (k-1) default).In≥((n.Qa.getD i default).Rows.getD k default).In))
def badG (n:Qe) (i:Nat) (k:Nat):Bool:=!decide (viaOk n i ((n.Qa.getD i default).Qc.getD k default)) || (decide (0<k)&&decide (((n.Qa.getD i default).Qc.getD (k-1) default).To≥((n.Qa.getD i default).Qc.getD k default).To))
def boxB (n:Qe) (i:Nat):Bool:=(first (badR n i) (n.Qa.getD i default).Rows.length).isNone&&(first (badG n i) (n.Qa.getD i default).Qc.length).isNone
theorem boxB_ok {n:Qe} {i:Nat}:boxB n i=true↔BoxOk n i:=by
 simp only [boxB,Bool.and_eq_true,allB_iff,badR,badG,Bool.or_eq_false_iff,Bool.not_eq_false',decide_eq_true_eq,Bool.and_eq_false_iff,decide_eq_false_iff_not]
 constructor
 ·rintro ⟨h1,h2⟩
  refine ⟨fun k hk=>(h1 k hk).1,fun k hk=>?_,fun k hk=>(h2 k hk).1,fun k hk=>?_⟩
  ·have:=(h1 (k+1) hk).2; simp only [Nat.add_sub_cancel] at this; omega
  ·have:=(h2 (k+1) hk).2; simp only [Nat.add_sub_cancel] at this; omega
 ·rintro ⟨h1,h2,h3,h4⟩
  refine ⟨fun k hk=>⟨h1 k hk,?_⟩,fun k hk=>⟨h3 k hk,?_⟩⟩
  ·cases k with
   | zero=>left; omega
   | succ k=>right; have:=h2 k hk; simp only [Nat.add_sub_cancel]; omega
  ·cases k with
   | zero=>left; omega
   | succ k=>right; have:=h4 k hk; simp only [Nat.add_sub_cancel]; omega
theorem specBox_eq {n:Qe} (h:FrameOk n) (i:Nat):F67 n i=boxB n i:=by
 unfold F67 boxB
 simp only [nn]
 rw [allB (badR n i) _ _ (fun k hk=>by simp only [F67_s0,nn,ltD hk,cond_true,specRow_eq h,bord,bandd,toNat_pred,pos_cast]; rfl) (by simp [F67_s0])]
 rw [allB (badG n i) _ _ (fun k hk=>by simp only [F67_s1,nn,ltD hk,cond_true,specVia_eq,bord,bandd,toNat_pred,pos_cast]; rfl) (by simp [F67_s1])]
 rw [Bool.and_true]
theorem implBox_eq {n:Qe} (h:FrameOk n) (i:Nat):F29 n i=boxB n i:=by
 unfold F29 boxB
 simp only [nn]
 have hR:∀ k:Nat,k<(n.Qa.getD i default).Rows.length→F29_s0 n i k=bif badR n i k then .ret false else .next ((k:Int)+1):=fun k hk=>by
  simp only [F29_s0,nn,ltD hk,cond_true,implLink_eq h,bord,bandd,toNat_pred,pos_cast,beqD,badR,F57]
  have h1:=noLink h i
  generalize (n.Qa.getD i default).Rows.getD k default=r
  generalize decide (0<k)=x
  generalize (n.Qa.getD i default).Rows.getD (k-1) default=s
  congr 2
  by_cases h2:r.Next=-1
  ·rw [← h2] at h1
   (rw [Bool.eq_iff_iff]; simp only [Bool.and_eq_true,Bool.or_eq_true,Bool.not_eq_true',Bool.not_eq_false',decide_eq_true_eq,decide_eq_false_iff_not,Bool.and_eq_false_iff,Bool.or_eq_false_iff]; simp only [rowOk,isLabel]; omega)
  ·(rw [Bool.eq_iff_iff]; simp only [Bool.and_eq_true,Bool.or_eq_true,Bool.not_eq_true',Bool.not_eq_false',decide_eq_true_eq,decide_eq_false_iff_not,Bool.and_eq_false_iff,Bool.or_eq_false_iff]; simp only [rowOk,isLabel]; omega)
 have hG:∀ k:Nat,k<(n.Qa.getD i default).Qc.length→F29_s1 n i k=bif badG n i k then .ret false else .next ((k:Int)+1):=fun k hk=>by
  simp only [F29_s1,nn,ltD hk,cond_true,implLink_eq h,bord,bandd,toNat_pred,pos_cast,beqD,badG,F57]
  generalize (n.Qa.getD i default).Qc.getD k default=r
  generalize decide (0<k)=x
  generalize (n.Qa.getD i default).Qc.getD (k-1) default=s
  congr 2
  (rw [Bool.eq_iff_iff]; simp only [Bool.and_eq_true,Bool.or_eq_true,Bool.not_eq_true',Bool.not_eq_false',decide_eq_true_eq,decide_eq_false_iff_not,Bool.and_eq_false_iff,Bool.or_eq_false_iff]; simp only [viaOk,isLabel]; omega)
 rw [allB (badR n i) _ _ hR (by simp [F29_s0])]
 rw [allB (badG n i) _ _ hG (by simp [F29_s1])]
 rw [Bool.and_true]
structure Qt (n:Qe):Prop where
 frame:FrameOk n
 box:∀ i,i<n.Qa.length→BoxOk n i
def netB (n:Qe):Bool:=F66 n&&(first (fun i=>!boxB n i) n.Qa.length).isNone
theorem netB_ok {n:Qe}:netB n=true↔Qt n:=by
 unfold netB
 rw [Bool.and_eq_true,frame_ok,allB_iff]
 constructor
 ·rintro ⟨h1,h2⟩
  exact ⟨h1,fun i hi=>boxB_ok.1 (by simpa using h2 i hi)⟩
 ·rintro ⟨h1,h2⟩
  exact ⟨h1,fun i hi=>by simpa using boxB_ok.2 (h2 i hi)⟩
theorem specNet_eq (n:Qe):F32 n=netB n:=by
 unfold F32 netB
 cases h:F66 n
 ·rfl
 ·have hf:=frame_ok.1 h
  simp only [Bool.not_true,cond_false,Bool.true_and]
  rw [allB (fun i=>!boxB n i) n.Qa.length _ (fun k hk=>by simp only [F32_s0,ltD hk,cond_true,specBox_eq hf]) (by simp [F32_s0]),Bool.and_true]
theorem implNet_eq (n:Qe):F7 n=netB n:=by
 unfold F7 netB
 have e:(bif !decide (1≤(n.Qa.length:Int)∧(n.Qa.length:Int)≤8) then true else !F28 n)=!F66 n:=by
  rw [frame_eq,linksOk_eq,bord,← Bool.not_and,Bool.and_comm (Option.isNone _)]
 rw [e]
 cases h:F66 n
 ·rfl
 ·have hf:=frame_ok.1 h
  simp only [Bool.not_true,cond_false,Bool.true_and]
  rw [allB (fun i=>!boxB n i) n.Qa.length _ (fun k hk=>by simp only [F7_s0,ltD hk,cond_true,implBox_eq hf]) (by simp [F7_s0]),Bool.and_true]
theorem netB_T (n:Qe) (h:netB n=true):Qt n:=netB_ok.1 h
theorem netB_8 (n:Qe) (h:netB n=true):n.Qa.length≤8:=(netB_ok.1 h).frame.b8
theorem netB_14 (n:Qe) (h:netB n=true):n.Qb.length≤14:=(netB_ok.1 h).frame.l14
theorem as7 (n:Qe):F7 n=netB n:=implNet_eq n
theorem as32 (n:Qe):F32 n=netB n:=specNet_eq n
theorem as44 (n:Qe) (a b:Int):F44 n a b=Qr n a b:=specLink_eq n a b
theorem as48 (n:Qe) (a b:Int) (h:FrameOk n):F48 n a b=Qr n a b:=implLink_eq h a b
theorem as33 (n:Qe):F33 n=n:=by
 unfold F33
 rw [app_loop (fun b:Qi=>b) n.Qa [] _ (fun k xs hk=>by simp only [F33_s0,ltD hk,cond_true,nn]; rfl) (fun xs=>by simp [F33_s0])]
 simp [Lp.fin]
theorem as30 (n:Qe):F30 n=n:=by
 unfold F30
 rw [app_loop (fun b:Qi=>b) n.Qa [] _ (fun k xs hk=>by simp only [F30_s0,ltD hk,cond_true,nn]) (fun xs=>by simp [F30_s0])]
 simp [Lp.fin]
def rowIx (b:Qi) (label:Int):Option Nat:=first (fun k=>decide ((b.Rows.getD k default).In=label)) b.Rows.length
def Qw (b:Qi) (label:Int):Qk×Bool:=match rowIx b label with
 | some k=>(b.Rows.getD k default,true)
 | none=>(⟨0,0,0⟩,false)
def guardIx (b:Qi) (x:Int):Option Nat:=first (fun k=>decide ((b.Qc.getD k default).To=x)) b.Qc.length
def guardP (b:Qi) (x:Int):Qn×Bool:=match guardIx b x with
 | some k=>(b.Qc.getD k default,true)
 | none=>(⟨0,0,0⟩,false)
theorem rowIx_lt (b:Qi) (label:Int):oix (rowIx b label)<(b.Rows.length:Int):=oix_lt
theorem guardIx_lt (b:Qi) (x:Int):oix (guardIx b x)<(b.Qc.length:Int):=oix_lt
theorem as46 (b:Qi) (label:Int):F46 b label=oix (rowIx b label):=by
 unfold F46 rowIx
 rw [search _ (fun k=>(k:Int)) b.Rows.length _ (fun k hk=>by simp only [F46_s0,ltD hk,cond_true,nn,beqD]; rfl) (by simp [F46_s0])]
 all_goals (cases first (fun k=>decide ((b.Rows.getD k default).In=label)) b.Rows.length <;> rfl)
theorem as63 (b:Qi) (label:Int):F63 b label=Qw b label:=by
 unfold F63 Qw rowIx
 rw [search (fun k=>decide ((b.Rows.getD k default).In=label)) (fun k=>(b.Rows.getD k default,true)) b.Rows.length _ (fun k hk=>by simp only [F63_s0,ltD hk,cond_true,nn,beqD]) (by simp [F63_s0])]
 all_goals (cases first (fun k=>decide ((b.Rows.getD k default).In=label)) b.Rows.length <;> rfl)
theorem as45 (b:Qi) (x:Int):F45 b x=oix (guardIx b x):=by
 unfold F45 guardIx
 rw [search _ (fun k=>(k:Int)) b.Qc.length _ (fun k hk=>by simp only [F45_s0,ltD hk,cond_true,nn,beqD]; rfl) (by simp [F45_s0])]
 all_goals (cases first (fun k=>decide ((b.Qc.getD k default).To=x)) b.Qc.length <;> rfl)
theorem as61 (b:Qi) (x:Int):F61 b x=guardP b x:=by
 unfold F61 guardP guardIx
 rw [search (fun k=>decide ((b.Qc.getD k default).To=x)) (fun k=>(b.Qc.getD k default,true)) b.Qc.length _ (fun k hk=>by simp only [F61_s0,ltD hk,cond_true,nn,beqD]) (by simp [F61_s0])]
 all_goals (cases first (fun k=>decide ((b.Qc.getD k default).To=x)) b.Qc.length <;> rfl)
theorem row_next {n:Qe} (h:Qt n) {i k:Int} (h0:0≤i) (h1:i<(n.Qa.length:Int)) (h2:0≤k) (h3:k<((n.Qa.getD i.toNat default).Rows.length:Int)) :
  ((n.Qa.getD i.toNat default).Rows.getD k.toNat default).Next=-1∨(0≤((n.Qa.getD i.toNat default).Rows.getD k.toNat default).Next∧((n.Qa.getD i.toNat default).Rows.getD k.toNat default).Next<(n.Qa.length:Int)):=by
 have:=(h.box i.toNat (by omega)).row k.toNat (by omega)
 rcases this.2 with h4 | h4
 ·exact .inl h4.1
 ·have:=linkOf_in h.frame h4.1
  exact .inr ⟨this.2.2.1,this.2.2.2.1⟩
theorem rowP_next {n:Qe} (h:Qt n) {i:Int} (h0:0≤i) (h1:i<(n.Qa.length:Int)) (l:Int):(Qw (n.Qa.getD i.toNat default) l).2=false∨(Qw (n.Qa.getD i.toNat default) l).1.Next=-1∨(0≤(Qw (n.Qa.getD i.toNat default) l).1.Next∧(Qw (n.Qa.getD i.toNat default) l).1.Next<(n.Qa.length:Int)):=by
 unfold Qw
 cases e:rowIx (n.Qa.getD i.toNat default) l with
 | none=>exact .inl rfl
 | some k =>
  have hk:=(first_some.1 e).1
  have:=row_next h h0 h1 (k:=(k:Int)) (by omega) (by omega)
  rw [nn] at this
  exact .inr this
theorem inc_len {α:Type} [Inhabited α] (xs:List α) (f:α→Int) (lo hi:Int) (h:∀ k,k<xs.length→lo≤f (xs.getD k default)∧f (xs.getD k default)≤hi)
  (hi':∀ k,k+1<xs.length→f (xs.getD k default)<f (xs.getD (k+1) default)):(xs.length:Int)≤0∨(xs.length:Int)≤hi-lo+1:=by
 have key:∀ k,k<xs.length→lo+k≤f (xs.getD k default):=by
  intro k
  induction k with
  | zero=>intro hk; have:=(h 0 hk).1; omega
  | succ k ih=>intro hk; have h1:=ih (by omega); have h2:=hi' k hk; omega
 by_cases hz:xs.length=0
 ·exact .inl (by omega)
 ·have h1:=key (xs.length-1) (by omega)
  have h2:=(h (xs.length-1) (by omega)).2
  exact .inr (by omega)
theorem Qt.rows {n:Qe} (h:Qt n) (k:Nat):(n.Qa.getD k default).Rows.length≤60:=by
 by_cases hk:k<n.Qa.length
 ·have hb:=h.box k hk
  have:=inc_len (n.Qa.getD k default).Rows (·.In) 1 60 (fun j hj=>by have:=(hb.row j hj).1; unfold isLabel at this; omega) hb.rinc
  omega
 ·rw [getD_ge _ (by omega)]; exact Nat.zero_le _
theorem Qt.vias {n:Qe} (h:Qt n) (k:Nat):(n.Qa.getD k default).Qc.length≤8:=by
 by_cases hk:k<n.Qa.length
 ·have hb:=h.box k hk
  have h8:=h.frame.b8
  have:=inc_len (n.Qa.getD k default).Qc (·.To) 0 7 (fun j hj=>by have:=linkOf_in h.frame (hb.via j hj).1; omega) hb.vinc
  omega
 ·rw [getD_ge _ (by omega)]; exact Nat.zero_le _
theorem inc_pair {α:Type} [Inhabited α] (xs:List α) (f:α→Int) (h:∀ k,k+1<xs.length→f (xs.getD k default)<f (xs.getD (k+1) default)):xs.Pairwise (fun a b=>f a<f b):=by
 induction xs with
 | nil=>exact .nil
 | cons a t ih =>
  have ht:∀ k,k+1<t.length→f (t.getD k default)<f (t.getD (k+1) default):=fun k hk=>by
   have:=h (k+1) (by simpa using hk)
   simpa using this
  refine List.pairwise_cons.2 ⟨fun b hb=>?_,ih ht⟩
  obtain ⟨k,hk,rfl⟩:=mem_getD hb
  have key:∀ k,k<t.length→f a<f (t.getD k default):=by
   intro k
   induction k with
   | zero=>intro hk; have:=h 0 (by simpa using hk); simpa using this
   | succ k ih2=>intro hk; have h1:=ih2 (by omega); have h2:=ht k hk; omega
  exact key k hk
theorem oa44 (n:Qe) (a:Int) (b:Int):(S44 (Qr n a b) n a b).ok Tryz.prog 44:=by
 intro hp; have h:=ok44 n a b hp; rw [as44 n a b] at h; exact h
theorem oa32 (n:Qe):(S32 (netB n) n).ok Tryz.prog 32:=by
 intro hp; have h:=ok32 n hp; rw [as32 n] at h; exact h
def T48 (R:Int) (n:Qe) (a:Int) (b:Int):Spec:=⟨(S48 R n a b).args,(S48 R n a b).res,FrameOk n⟩
theorem oa48 (n:Qe) (a:Int) (b:Int):(T48 (Qr n a b) n a b).ok Tryz.prog 48:=by
 intro hp; have h:=ok48 n a b trivial; rw [as48 n a b hp] at h; exact h
theorem oa7 (n:Qe):(S7 (netB n) n).ok Tryz.prog 7:=by
 intro hp; have h:=ok7 n hp; rw [as7 n] at h; exact h
theorem oa33 (n:Qe):(S33 (n) n).ok Tryz.prog 33:=by
 intro hp; have h:=ok33 n hp; rw [as33 n] at h; exact h
theorem oa30 (n:Qe):(S30 (n) n).ok Tryz.prog 30:=by
 intro hp; have h:=ok30 n hp; rw [as30 n] at h; exact h
theorem oa46 (b:Qi) (label:Int):(S46 (oix (rowIx b label)) b label).ok Tryz.prog 46:=by
 intro hp; have h:=ok46 b label hp; rw [as46 b label] at h; exact h
theorem oa63 (b:Qi) (label:Int):(S63 (Qw b label) b label).ok Tryz.prog 63:=by
 intro hp; have h:=ok63 b label hp; rw [as63 b label] at h; exact h
theorem oa45 (b:Qi) (to':Int):(S45 (oix (guardIx b to')) b to').ok Tryz.prog 45:=by
 intro hp; have h:=ok45 b to' hp; rw [as45 b to'] at h; exact h
theorem oa61 (b:Qi) (to':Int):(S61 (guardP b to') b to').ok Tryz.prog 61:=by
 intro hp; have h:=ok61 b to' hp; rw [as61 b to'] at h; exact h
def F50_s0 (n:Qe) (box:Int) (label:Int):(Int×Int×List Int×List Int)→Lp (Int×Int×List Int×List Int) (List Int×List Int×Bool):=fun (box1,label1,boxes,labels) =>
 bif (box1 != (-1)) then (bif (bif (!(Qw (n.Qa.getD box1.toNat default) label1).2) then true else ((boxes.length:Int)==(n.Qa.length:Int))) then (.ret (([]:List Int),([]:List Int),false)) else (.next ((Qw (n.Qa.getD box1.toNat default) label1).1.Next,(Qw (n.Qa.getD box1.toNat default) label1).1.Out,(boxes++[box1]),(labels++[label1])))) else (.done (box1,label1,boxes,labels))
def F50 (n:Qe) (box:Int) (label:Int):List Int×List Int×Bool :=
 (runL (F50_s0 n box label) (((n.Qa.length:Int)-(([]:List Int).length:Int)).toNat+1) (box,label,([]:List Int),([]:List Int))).fin (fun r=>r) (fun (box1,label1,boxes,labels)=>(boxes,labels,true))
def S50 (R:List Int×List Int×Bool) (n:Qe) (box:Int) (label:Int):Spec:=⟨[.r (.g (Qf n)),.r (.c (.v (vI box))),.r (.c (.v (vI label)))],.tu [.ow (.l 1 eInt R.1),.ow (.l 1 eInt R.2.1),.v (.bool R.2.2)],Qt n∧0≤box∧box<(n.Qa.length:Int)∧n.Qa.length≤8⟩
theorem ok50 (n:Qe) (box:Int) (label:Int):(S50 (F50 n box label) n box label).ok Tryz.prog 50 :=
 fnG_ok mixed (fn:=Tryz.f50) (ct:=.seq (.no) (.seqk [(3,0),(3,1),(9,0),(10,0)] (.reg [(0,.dat (.l 1 eInt ([]:List Int))),(1,.dat (.l 1 eInt ([]:List Int)))]) (.seq (.blk (.loop (ι:=Nat×(Int×Int×List Int×List Int)) (fun i=>(fun (box1:Int) (label1:Int) (boxes:List Int) (labels:List Int)=>(⟨[(1,some (.v (vI box1))),(2,some (.v (vI label1))),(3,some (.p 0 0)),(9,some (.h 3 0)),(10,some (.h 4 0))],[(0,some (.box 26 [.h 1 0,.h 2 0])),(1,some (.shr none (.l 2 Qh n.Qb))),(2,some (.shr none (.l 2 Qj n.Qa))),(3,some (.own 3 (.l 1 eInt boxes))),(4,some (.own 4 (.l 1 eInt labels)))],5⟩:St)) i.2.1 i.2.2.1 i.2.2.2.1 i.2.2.2.2) (fun i=>runL (F50_s0 n box label) i.1 i.2=(runL (F50_s0 n box label) (((n.Qa.length:Int)-(([]:List Int).length:Int)).toNat+1) (box,label,([]:List Int),([]:List Int)))∧(fun (box1:Int) (label1:Int) (boxes:List Int) (labels:List Int)=>(Int.toNat ((n.Qa.length:Int)-(boxes.length:Int))<i.1∧(boxes.length:Int)≤(n.Qa.length:Int)∧labels.length=boxes.length∧(box1=-1∨(0≤box1∧box1<(n.Qa.length:Int))))) i.2.1 i.2.2.1 i.2.2.2.1 i.2.2.2.2) (fun i=>i.1) ((((n.Qa.length:Int)-(([]:List Int).length:Int)).toNat+1),(box,label,([]:List Int),([]:List Int))) (fun i=>(fun (box1:Int) (label1:Int) (boxes:List Int) (labels:List Int)=>(.seq (.seq (.no) (.cond (.no) (.no))) (.blk (.seq (.reg [(6,.call 63 (S63 (Qw (n.Qa.getD box1.toNat default) label1) (n.Qa.getD box1.toNat default) label1) (oa63 (n.Qa.getD box1.toNat default) label1) none)]) (.seq (.seq (.no) (.cond (.seq (.no) (.no)) (.no))) (.seq (.reg [(3,.dat (.l 1 eInt (boxes++[box1]))),(7,.dat (.l 1 eInt (labels++[label1])))]) (.no))))))) i.2.1 i.2.2.1 i.2.2.2.1 i.2.2.2.2))) (.seq (.no) (.no))))) Tryz.func50 (fun (hp:Qt n∧0≤box∧box<(n.Qa.length:Int)∧n.Qa.length≤8)=>(fun (hpre0:Qt n) (hpre1:0≤box) (hpre2:box<(n.Qa.length:Int)) (hpre3:n.Qa.length≤8)=>ai ((BuildOK.mk eInt ([]:List Int) rfl (by exact trivial) (fun _=>rfl):BuildOK 0 1 [] (.l 1 eInt ([]:List Int)))) (ai ((BuildOK.mk eInt ([]:List Int) rfl (by exact trivial) (fun _=>rfl):BuildOK 0 1 [] (.l 1 eInt ([]:List Int)))) (fun (_:n.Qb.length≤9223372036854775807)=>fun (_:n.Qa.length≤9223372036854775807)=>fun (_:([]:List Int).length≤9223372036854775807)=>fun (_:([]:List Int).length≤9223372036854775807)=>ai (ai (rfl) (ai (rfl) (ai (ir) (ai (ir) (ai (ir) (ai (ir) ((ai (rfl:runL (F50_s0 n box label) (((n.Qa.length:Int)-(([]:List Int).length:Int)).toNat+1) (box,label,([]:List Int),([]:List Int))=(runL (F50_s0 n box label) (((n.Qa.length:Int)-(([]:List Int).length:Int)).toNat+1) (box,label,([]:List Int),([]:List Int)))) (ai ((Nat.lt_succ_self _:Int.toNat ((n.Qa.length:Int)-(([]:List Int).length:Int))<(((n.Qa.length:Int)-(([]:List Int).length:Int)).toNat+1))) (ai ((by first | omega | (simp only [lens] at*<;> omega) | (rcases rowP_next (by assumption:Qt n) (i:=box1) (by omega) (by omega) label1 with hq | hq | hq; (rw [(by assumption:(Qw (n.Qa.getD box1.toNat default) label1).2=true)] at hq; cases hq); omega; omega):(([]:List Int).length:Int)≤(n.Qa.length:Int))) (ai ((by first | omega | (simp only [lens] at*<;> omega) | (rcases rowP_next (by assumption:Qt n) (i:=box1) (by omega) (by omega) label1 with hq | hq | hq; (rw [(by assumption:(Qw (n.Qa.getD box1.toNat default) label1).2=true)] at hq; cases hq); omega; omega):([]:List Int).length=([]:List Int).length)) ((by first | omega | (simp only [lens] at*<;> omega) | (rcases rowP_next (by assumption:Qt n) (i:=box1) (by omega) (by omega) label1 with hq | hq | hq; (rw [(by assumption:(Qw (n.Qa.getD box1.toNat default) label1).2=true)] at hq; cases hq); omega; omega):box=-1∨(0≤box∧box<(n.Qa.length:Int)))))))))))))):((.int .i64 box:Value)=.int .i64 box)∧((.int .i64 label:Value)=.int .i64 label)∧(Imp (.l 2 Qh n.Qb) (.l 2 Qh n.Qb))∧(Imp (.l 2 Qj n.Qa) (.l 2 Qj n.Qa))∧(Imp (.l 1 eInt ([]:List Int)) (.l 1 eInt ([]:List Int)))∧(Imp (.l 1 eInt ([]:List Int)) (.l 1 eInt ([]:List Int)))∧(runL (F50_s0 n box label) (((n.Qa.length:Int)-(([]:List Int).length:Int)).toNat+1) (box,label,([]:List Int),([]:List Int))=(runL (F50_s0 n box label) (((n.Qa.length:Int)-(([]:List Int).length:Int)).toNat+1) (box,label,([]:List Int),([]:List Int)))∧Int.toNat ((n.Qa.length:Int)-(([]:List Int).length:Int))<(((n.Qa.length:Int)-(([]:List Int).length:Int)).toNat+1)∧(([]:List Int).length:Int)≤(n.Qa.length:Int)∧([]:List Int).length=([]:List Int).length∧(box=-1∨(0≤box∧box<(n.Qa.length:Int))))) (fun (i0:Nat×(Int×Int×List Int×List Int)) (hi0:runL (F50_s0 n box label) i0.1 i0.2=(runL (F50_s0 n box label) (((n.Qa.length:Int)-(([]:List Int).length:Int)).toNat+1) (box,label,([]:List Int),([]:List Int)))∧(fun (box1:Int) (label1:Int) (boxes:List Int) (labels:List Int)=>(Int.toNat ((n.Qa.length:Int)-(boxes.length:Int))<i0.1∧(boxes.length:Int)≤(n.Qa.length:Int)∧labels.length=boxes.length∧(box1=-1∨(0≤box1∧box1<(n.Qa.length:Int))))) i0.2.1 i0.2.2.1 i0.2.2.2.1 i0.2.2.2.2)=>(fun (m0:Nat) (box1:Int) (label1:Int) (boxes:List Int) (labels:List Int) (hI0:runL (F50_s0 n box label) (m0+1) (box1,label1,boxes,labels)=(runL (F50_s0 n box label) (((n.Qa.length:Int)-(([]:List Int).length:Int)).toNat+1) (box,label,([]:List Int),([]:List Int)))) (_:Int.toNat ((n.Qa.length:Int)-(boxes.length:Int))<m0+1) (hl0:m0<i0.1) (_:(boxes.length:Int)≤(n.Qa.length:Int)) (_:labels.length=boxes.length) (_:box1=-1∨(0≤box1∧box1<(n.Qa.length:Int)))=>ai (fun h2:(box1 != (-1))=true=>(fun _:¬ box1=(-1)=>ai ((by first | omega | (simp only [lens] at*<;> omega):0≤box1∧box1<(n.Qa.length:Int))) (ai (trivial) (ai ((Imps.refl (Qj (n.Qa.getD box1.toNat default)))) (ai ((Imp.refl (.v (vI label1)))) (ai (fun h3:(bif (!(Qw (n.Qa.getD box1.toNat default) label1).2) then true else ((boxes.length:Int)==(n.Qa.length:Int)))=true=>(fun hF:(([]:List Int),([]:List Int),false)=(F50 n box label)=>ai ((Imp.nil 1 eInt).trans (Imp.of_eq (congrArg (fun r:List Int×List Int×Bool=>Dat.l 1 eInt r.1) hF))) (ai ((Imp.nil 1 eInt).trans (Imp.of_eq (congrArg (fun r:List Int×List Int×Bool=>Dat.l 1 eInt r.2.1) hF))) (ai (congrArg (fun r:List Int×List Int×Bool=>(.bool r.2.2:Value)) hF) (trivial)))) (finR (runL_ret hI0 (condT h2 (condT h3 (rfl)))) rfl)) (fun h3:(bif (!(Qw (n.Qa.getD box1.toNat default) label1).2) then true else ((boxes.length:Int)==(n.Qa.length:Int)))=false=>(fun _:¬ (boxes.length:Int)=(n.Qa.length:Int)=>(fun _:(Qw (n.Qa.getD box1.toNat default) label1).2=true=>ai ((AppA.mk eInt boxes [box1] (Imp.refl (.l 1 eInt boxes)) rfl (by exact ai ir (trivial)) (fun _=>rfl):AppA (.l 1 eInt boxes) 1 1 [.v (vI box1)] (.l 1 eInt (boxes++[box1])))) (ai ((by (try simp only [lens]); omega:((boxes++[box1])).length*8≤140737488355328)) (ai ((AppA.mk eInt labels [label1] (Imp.refl (.l 1 eInt labels)) rfl (by exact ai ir (trivial)) (fun _=>rfl):AppA (.l 1 eInt labels) 1 1 [.v (vI label1)] (.l 1 eInt (labels++[label1])))) (ai ((by (try simp only [lens]); omega:((labels++[label1])).length*8≤140737488355328)) (Exists.intro (p:=fun j:Nat×(Int×Int×List Int×List Int)=>(fun (box1_:Int) (label1_:Int) (boxes_:List Int) (labels_:List Int)=>(((.int .i64 (Qw (n.Qa.getD box1.toNat default) label1).1.Next:Value)=.int .i64 box1_)∧((.int .i64 (Qw (n.Qa.getD box1.toNat default) label1).1.Out:Value)=.int .i64 label1_)∧(Imp (.l 2 Qh n.Qb) (.l 2 Qh n.Qb))∧(Imp (.l 2 Qj n.Qa) (.l 2 Qj n.Qa))∧(Imp (.l 1 eInt (boxes++[box1])) (.l 1 eInt boxes_))∧(Imp (.l 1 eInt (labels++[label1])) (.l 1 eInt labels_))∧((runL (F50_s0 n box label) j.1 j.2=(runL (F50_s0 n box label) (((n.Qa.length:Int)-(([]:List Int).length:Int)).toNat+1) (box,label,([]:List Int),([]:List Int)))∧Int.toNat ((n.Qa.length:Int)-(boxes_.length:Int))<j.1∧(boxes_.length:Int)≤(n.Qa.length:Int)∧labels_.length=boxes_.length∧(box1_=-1∨(0≤box1_∧box1_<(n.Qa.length:Int))))∧j.1<i0.1))) j.2.1 j.2.2.1 j.2.2.2.1 j.2.2.2.2) (m0,((Qw (n.Qa.getD box1.toNat default) label1).1.Next,(Qw (n.Qa.getD box1.toNat default) label1).1.Out,(boxes++[box1]),(labels++[label1]))) (ai (rfl) (ai (rfl) (ai (ir) (ai (ir) (ai (ir) (ai (ir) (ai (ai (runL_next hI0 (condT h2 (condF h3 (rfl)))) (ai ((by first | omega | (simp only [lens] at*<;> omega) | (rcases rowP_next (by assumption:Qt n) (i:=box1) (by omega) (by omega) label1 with hq | hq | hq; (rw [(by assumption:(Qw (n.Qa.getD box1.toNat default) label1).2=true)] at hq; cases hq); omega; omega):Int.toNat ((n.Qa.length:Int)-((boxes++[box1]).length:Int))<m0)) (ai ((by first | omega | (simp only [lens] at*<;> omega) | (rcases rowP_next (by assumption:Qt n) (i:=box1) (by omega) (by omega) label1 with hq | hq | hq; (rw [(by assumption:(Qw (n.Qa.getD box1.toNat default) label1).2=true)] at hq; cases hq); omega; omega):((boxes++[box1]).length:Int)≤(n.Qa.length:Int))) (ai ((by first | omega | (simp only [lens] at*<;> omega) | (rcases rowP_next (by assumption:Qt n) (i:=box1) (by omega) (by omega) label1 with hq | hq | hq; (rw [(by assumption:(Qw (n.Qa.getD box1.toNat default) label1).2=true)] at hq; cases hq); omega; omega):(labels++[label1]).length=(boxes++[box1]).length)) ((by first | omega | (simp only [lens] at*<;> omega) | (rcases rowP_next (by assumption:Qt n) (i:=box1) (by omega) (by omega) label1 with hq | hq | hq; (rw [(by assumption:(Qw (n.Qa.getD box1.toNat default) label1).2=true)] at hq; cases hq); omega; omega):(Qw (n.Qa.getD box1.toNat default) label1).1.Next=-1∨(0≤(Qw (n.Qa.getD box1.toNat default) label1).1.Next∧(Qw (n.Qa.getD box1.toNat default) label1).1.Next<(n.Qa.length:Int)))))))) hl0)))))))))))) ((notEF (orF1 h3)))) (beqF (orF2 h3)))))))) (bneT h2)) (fun h2:(box1 != (-1))=false=>(fun _:box1=(-1)=>(fun hD0_4:(runL (F50_s0 n box label) (((n.Qa.length:Int)-(([]:List Int).length:Int)).toNat+1) (box,label,([]:List Int),([]:List Int)))=Lp.done (box1,label1,boxes,labels)=>(fun hF:(boxes,labels,true)=(F50 n box label)=>ai (Imp.of_eq (congrArg (fun r:List Int×List Int×Bool=>Dat.l 1 eInt r.1) hF)) (ai (Imp.of_eq (congrArg (fun r:List Int×List Int×Bool=>Dat.l 1 eInt r.2.1) hF)) (ai (congrArg (fun r:List Int×List Int×Bool=>(.bool r.2.2:Value)) hF) (trivial)))) (finD hD0_4 (rfl))) (runL_done hI0 (condF h2 (rfl)))) (bneF h2))) (i0.1-1) i0.2.1 i0.2.2.1 i0.2.2.2.1 i0.2.2.2.2 (hd1 hi0.1 hi0.2.1) (hd2 hi0.2.1) (hd3 hi0.2.1) hi0.2.2.1 hi0.2.2.2.1 hi0.2.2.2.2)))) hp.1 hp.2.1 hp.2.2.1 hp.2.2.2) (by kernel_rfl)
def F112_s0 (n:Qe) (box:Int) (label:Int):(Int×Int×List Int)→Lp (Int×Int×List Int) (List Int):=fun (box1,label1,out) =>
 bif (decide ((out.length:Int)<(n.Qa.length:Int))) then (bif (decide ((oix (rowIx (n.Qa.getD box1.toNat default) label1))<0)) then (.ret ([]:List Int)) else (bif (decide (((n.Qa.getD box1.toNat default).Rows.getD (oix (rowIx (n.Qa.getD box1.toNat default) label1)).toNat default).Next<0)) then (.ret (out++[box1])) else (.next (((n.Qa.getD box1.toNat default).Rows.getD (oix (rowIx (n.Qa.getD box1.toNat default) label1)).toNat default).Next,((n.Qa.getD box1.toNat default).Rows.getD (oix (rowIx (n.Qa.getD box1.toNat default) label1)).toNat default).Out,(out++[box1]))))) else (.done (box1,label1,out))
def F112 (n:Qe) (box:Int) (label:Int):List Int :=
 bif (bif (!(netB n)) then true else (!(decide (0≤box∧box≤((n.Qa.length:Int)-1))))) then ([]:List Int) else ((runL (F112_s0 n box label) (((n.Qa.length:Int)-(([]:List Int).length:Int)).toNat+1) (box,label,([]:List Int))).fin (fun r=>r) (fun (box1,label1,out)=>([]:List Int)))
def S112 (R:List Int) (n:Qe) (box:Int) (label:Int):Spec:=⟨[.r (.g (Qf n)),.r (.c (.v (vI box))),.r (.c (.v (vI label)))],.ow (.l 1 eInt R),True⟩
theorem ok112 (n:Qe) (box:Int) (label:Int):(S112 (F112 n box label) n box label).ok Tryz.prog 112 :=
 fnG_ok mixed (fn:=Tryz.f112) (ct:=.seq (.no) (.seq (.reg [(0,.dat (.l 1 eInt ([]:List Int)))]) (.seqk [(3,0),(3,1),(7,0)] (.seq (.reg [(1,.call 32 (S32 (netB n) n) (oa32 n) none),(8,.bnd),(9,.call 75 (S75 (decide (0≤box∧box≤((n.Qa.length:Int)-1))) box 0 ((n.Qa.length:Int)-1)) (oa75 box 0 ((n.Qa.length:Int)-1)) none)]) (.cond (.seq (.no) (.no)) (.no))) (.seq (.blk (.loop (ι:=Nat×(Int×Int×List Int)) (fun i=>(fun (box1:Int) (label1:Int) (out:List Int)=>(⟨[(1,some (.v (vI box1))),(2,some (.v (vI label1))),(3,some (.p 0 0)),(7,some (.h 3 0))],[(0,some (.box 26 [.h 1 0,.h 2 0])),(1,some (.shr none (.l 2 Qh n.Qb))),(2,some (.shr none (.l 2 Qj n.Qa))),(3,some (.own 3 (.l 1 eInt out)))],4⟩:St)) i.2.1 i.2.2.1 i.2.2.2) (fun i=>runL (F112_s0 n box label) i.1 i.2=(runL (F112_s0 n box label) (((n.Qa.length:Int)-(([]:List Int).length:Int)).toNat+1) (box,label,([]:List Int)))∧(fun (box1:Int) (label1:Int) (out:List Int)=>(Int.toNat ((n.Qa.length:Int)-(out.length:Int))<i.1∧0≤box1∧box1<(n.Qa.length:Int))) i.2.1 i.2.2.1 i.2.2.2) (fun i=>i.1) ((((n.Qa.length:Int)-(([]:List Int).length:Int)).toNat+1),(box,label,([]:List Int))) (fun i=>(fun (box1:Int) (label1:Int) (out:List Int)=>(.seq (.seq (.no) (.cond (.no) (.no))) (.blk (.seq (.reg [(6,.call 46 (S46 (oix (rowIx (n.Qa.getD box1.toNat default) label1)) (n.Qa.getD box1.toNat default) label1) (oa46 (n.Qa.getD box1.toNat default) label1) none)]) (.seq (.seq (.no) (.cond (.seq (.reg [(0,.dat (.l 1 eInt ([]:List Int)))]) (.no)) (.no))) (.seq (.reg [(3,.dat (.l 1 eInt (out++[box1])))]) (.seq (.no) (.seq (.seq (.no) (.cond (.seq (.no) (.no)) (.no))) (.seq (.no) (.no)))))))))) i.2.1 i.2.2.1 i.2.2.2))) (.seq (.reg [(0,.dat (.l 1 eInt ([]:List Int)))]) (.no)))))) Tryz.func112 (fun (_:True)=>ai ((BuildOK.mk eInt ([]:List Int) rfl (by exact trivial) (fun _=>rfl):BuildOK 0 1 [] (.l 1 eInt ([]:List Int)))) (ai (trivial) (ai ((Imps.refl (Qf n))) (ai ((fun k1:(!(netB n))=false=>(fun _:n.Qb.length≤14=>(fun _:n.Qa.length≤8=>(fun _:Qt n=>(by unfold i64ok; first | omega | (simp only [lens] at*<;> omega):i64ok ((n.Qa.length:Int)-1))) (netB_T n (notEF k1))) (netB_8 n (notEF k1))) (netB_14 n (notEF k1)))) (ai ((fun k2:(!(netB n))=false=>(fun _:n.Qb.length≤14=>(fun _:n.Qa.length≤8=>(fun _:Qt n=>trivial) (netB_T n (notEF k2))) (netB_8 n (notEF k2))) (netB_14 n (notEF k2)))) (ai ((fun k3:(!(netB n))=false=>(fun _:n.Qb.length≤14=>(fun _:n.Qa.length≤8=>(fun _:Qt n=>(Imp.refl (.v (vI box)))) (netB_T n (notEF k3))) (netB_8 n (notEF k3))) (netB_14 n (notEF k3)))) (ai ((fun k4:(!(netB n))=false=>(fun _:n.Qb.length≤14=>(fun _:n.Qa.length≤8=>(fun _:Qt n=>(Imp.refl (.v (vI 0)))) (netB_T n (notEF k4))) (netB_8 n (notEF k4))) (netB_14 n (notEF k4)))) (ai ((fun k5:(!(netB n))=false=>(fun _:n.Qb.length≤14=>(fun _:n.Qa.length≤8=>(fun _:Qt n=>(Imp.refl (.v (vI ((n.Qa.length:Int)-1))))) (netB_T n (notEF k5))) (netB_8 n (notEF k5))) (netB_14 n (notEF k5)))) (ai (fun h6:(bif (!(netB n)) then true else (!(decide (0≤box∧box≤((n.Qa.length:Int)-1)))))=true=>(fun hF:(([]:List Int):List Int)=(F112 n box label)=>ai (Imp.of_eq (congrArg (fun r:List Int=>Dat.l 1 eInt r) hF)) (trivial)) (condT h6 (rfl))) (fun h6:(bif (!(netB n)) then true else (!(decide (0≤box∧box≤((n.Qa.length:Int)-1)))))=false=>(fun _:0≤box∧box≤((n.Qa.length:Int)-1)=>(fun _:n.Qb.length≤14=>(fun _:n.Qa.length≤8=>(fun _:Qt n=>fun (_:n.Qb.length≤9223372036854775807)=>fun (_:n.Qa.length≤9223372036854775807)=>fun (_:([]:List Int).length≤9223372036854775807)=>ai (ai (rfl) (ai (rfl) (ai (ir) (ai (ir) (ai (ir) ((ai (rfl:runL (F112_s0 n box label) (((n.Qa.length:Int)-(([]:List Int).length:Int)).toNat+1) (box,label,([]:List Int))=(runL (F112_s0 n box label) (((n.Qa.length:Int)-(([]:List Int).length:Int)).toNat+1) (box,label,([]:List Int)))) (ai ((Nat.lt_succ_self _:Int.toNat ((n.Qa.length:Int)-(([]:List Int).length:Int))<(((n.Qa.length:Int)-(([]:List Int).length:Int)).toNat+1))) (ai ((by first | omega | (simp only [lens] at*<;> omega) | (have hq:=row_next (by assumption:Qt n) (i:=box1) (k:=oix (rowIx (n.Qa.getD box1.toNat default) label1)) (by omega) (by omega) (by omega) (by omega); omega):0≤box)) ((by first | omega | (simp only [lens] at*<;> omega) | (have hq:=row_next (by assumption:Qt n) (i:=box1) (k:=oix (rowIx (n.Qa.getD box1.toNat default) label1)) (by omega) (by omega) (by omega) (by omega); omega):box<(n.Qa.length:Int))))))))))):((.int .i64 box:Value)=.int .i64 box)∧((.int .i64 label:Value)=.int .i64 label)∧(Imp (.l 2 Qh n.Qb) (.l 2 Qh n.Qb))∧(Imp (.l 2 Qj n.Qa) (.l 2 Qj n.Qa))∧(Imp (.l 1 eInt ([]:List Int)) (.l 1 eInt ([]:List Int)))∧(runL (F112_s0 n box label) (((n.Qa.length:Int)-(([]:List Int).length:Int)).toNat+1) (box,label,([]:List Int))=(runL (F112_s0 n box label) (((n.Qa.length:Int)-(([]:List Int).length:Int)).toNat+1) (box,label,([]:List Int)))∧Int.toNat ((n.Qa.length:Int)-(([]:List Int).length:Int))<(((n.Qa.length:Int)-(([]:List Int).length:Int)).toNat+1)∧0≤box∧box<(n.Qa.length:Int))) (fun (i0:Nat×(Int×Int×List Int)) (hi0:runL (F112_s0 n box label) i0.1 i0.2=(runL (F112_s0 n box label) (((n.Qa.length:Int)-(([]:List Int).length:Int)).toNat+1) (box,label,([]:List Int)))∧(fun (box1:Int) (label1:Int) (out:List Int)=>(Int.toNat ((n.Qa.length:Int)-(out.length:Int))<i0.1∧0≤box1∧box1<(n.Qa.length:Int))) i0.2.1 i0.2.2.1 i0.2.2.2)=>(fun (m0:Nat) (box1:Int) (label1:Int) (out:List Int) (hI0:runL (F112_s0 n box label) (m0+1) (box1,label1,out)=(runL (F112_s0 n box label) (((n.Qa.length:Int)-(([]:List Int).length:Int)).toNat+1) (box,label,([]:List Int)))) (_:Int.toNat ((n.Qa.length:Int)-(out.length:Int))<m0+1) (hl0:m0<i0.1) (_:0≤box1) (_:box1<(n.Qa.length:Int))=>ai (fun h8:(decide ((out.length:Int)<(n.Qa.length:Int)))=true=>(fun _:(out.length:Int)<(n.Qa.length:Int)=>ai ((by first | omega | (simp only [lens] at*<;> omega):0≤box1∧box1<(n.Qa.length:Int))) (ai (trivial) (ai ((Imps.refl (Qj (n.Qa.getD box1.toNat default)))) (ai ((Imp.refl (.v (vI label1)))) ((fun gv9:(oix (rowIx (n.Qa.getD box1.toNat default) label1))<((n.Qa.getD box1.toNat default).Rows.length:Int)=>ai (fun h10:(decide ((oix (rowIx (n.Qa.getD box1.toNat default) label1))<0))=true=>(fun _:(oix (rowIx (n.Qa.getD box1.toNat default) label1))<0=>ai ((BuildOK.mk eInt ([]:List Int) rfl (by exact trivial) (fun _=>rfl):BuildOK 0 1 [] (.l 1 eInt ([]:List Int)))) ((fun hF:(([]:List Int):List Int)=(F112 n box label)=>ai (Imp.of_eq (congrArg (fun r:List Int=>Dat.l 1 eInt r) hF)) (trivial)) (condF h6 (finR (runL_ret hI0 (condT h8 (condT h10 (rfl)))) rfl)))) (of_decide_eq_true h10)) (fun h10:(decide ((oix (rowIx (n.Qa.getD box1.toNat default) label1))<0))=false=>(fun _:¬ (oix (rowIx (n.Qa.getD box1.toNat default) label1))<0=>ai ((AppA.mk eInt out [box1] (Imp.refl (.l 1 eInt out)) rfl (by exact ai ir (trivial)) (fun _=>rfl):AppA (.l 1 eInt out) 1 1 [.v (vI box1)] (.l 1 eInt (out++[box1])))) (ai ((by (try simp only [lens]); omega:((out++[box1])).length*8≤140737488355328)) (ai ((by first | omega | (simp only [lens] at*<;> omega):0≤box1∧box1<(n.Qa.length:Int))) (ai ((by first | omega | (simp only [lens] at*<;> omega):0≤(oix (rowIx (n.Qa.getD box1.toNat default) label1))∧(oix (rowIx (n.Qa.getD box1.toNat default) label1))<((n.Qa.getD box1.toNat default).Rows.length:Int))) (ai (fun h11:(decide (((n.Qa.getD box1.toNat default).Rows.getD (oix (rowIx (n.Qa.getD box1.toNat default) label1)).toNat default).Next<0))=true=>(fun _:((n.Qa.getD box1.toNat default).Rows.getD (oix (rowIx (n.Qa.getD box1.toNat default) label1)).toNat default).Next<0=>(fun hF:((out++[box1]):List Int)=(F112 n box label)=>ai (Imp.of_eq (congrArg (fun r:List Int=>Dat.l 1 eInt r) hF)) (trivial)) (condF h6 (finR (runL_ret hI0 (condT h8 (condF h10 (condT h11 (rfl))))) rfl))) (of_decide_eq_true h11)) (fun h11:(decide (((n.Qa.getD box1.toNat default).Rows.getD (oix (rowIx (n.Qa.getD box1.toNat default) label1)).toNat default).Next<0))=false=>(fun _:¬ ((n.Qa.getD box1.toNat default).Rows.getD (oix (rowIx (n.Qa.getD box1.toNat default) label1)).toNat default).Next<0=>Exists.intro (p:=fun j:Nat×(Int×Int×List Int)=>(fun (box1_:Int) (label1_:Int) (out_:List Int)=>(((.int .i64 ((n.Qa.getD box1.toNat default).Rows.getD (oix (rowIx (n.Qa.getD box1.toNat default) label1)).toNat default).Next:Value)=.int .i64 box1_)∧((.int .i64 ((n.Qa.getD box1.toNat default).Rows.getD (oix (rowIx (n.Qa.getD box1.toNat default) label1)).toNat default).Out:Value)=.int .i64 label1_)∧(Imp (.l 2 Qh n.Qb) (.l 2 Qh n.Qb))∧(Imp (.l 2 Qj n.Qa) (.l 2 Qj n.Qa))∧(Imp (.l 1 eInt (out++[box1])) (.l 1 eInt out_))∧((runL (F112_s0 n box label) j.1 j.2=(runL (F112_s0 n box label) (((n.Qa.length:Int)-(([]:List Int).length:Int)).toNat+1) (box,label,([]:List Int)))∧Int.toNat ((n.Qa.length:Int)-(out_.length:Int))<j.1∧0≤box1_∧box1_<(n.Qa.length:Int))∧j.1<i0.1))) j.2.1 j.2.2.1 j.2.2.2) (m0,(((n.Qa.getD box1.toNat default).Rows.getD (oix (rowIx (n.Qa.getD box1.toNat default) label1)).toNat default).Next,((n.Qa.getD box1.toNat default).Rows.getD (oix (rowIx (n.Qa.getD box1.toNat default) label1)).toNat default).Out,(out++[box1]))) (ai (rfl) (ai (rfl) (ai (ir) (ai (ir) (ai (ir) (ai (ai (runL_next hI0 (condT h8 (condF h10 (condF h11 (rfl))))) (ai ((by first | omega | (simp only [lens] at*<;> omega) | (have hq:=row_next (by assumption:Qt n) (i:=box1) (k:=oix (rowIx (n.Qa.getD box1.toNat default) label1)) (by omega) (by omega) (by omega) (by omega); omega):Int.toNat ((n.Qa.length:Int)-((out++[box1]).length:Int))<m0)) (ai ((by first | omega | (simp only [lens] at*<;> omega) | (have hq:=row_next (by assumption:Qt n) (i:=box1) (k:=oix (rowIx (n.Qa.getD box1.toNat default) label1)) (by omega) (by omega) (by omega) (by omega); omega):0≤((n.Qa.getD box1.toNat default).Rows.getD (oix (rowIx (n.Qa.getD box1.toNat default) label1)).toNat default).Next)) ((by first | omega | (simp only [lens] at*<;> omega) | (have hq:=row_next (by assumption:Qt n) (i:=box1) (k:=oix (rowIx (n.Qa.getD box1.toNat default) label1)) (by omega) (by omega) (by omega) (by omega); omega):((n.Qa.getD box1.toNat default).Rows.getD (oix (rowIx (n.Qa.getD box1.toNat default) label1)).toNat default).Next<(n.Qa.length:Int)))))) hl0))))))) (of_decide_eq_false h11))))))) (of_decide_eq_false h10))) (rowIx_lt (n.Qa.getD box1.toNat default) label1)))))) (of_decide_eq_true h8)) (fun h8:(decide ((out.length:Int)<(n.Qa.length:Int)))=false=>(fun _:¬ (out.length:Int)<(n.Qa.length:Int)=>(fun hD0_12:(runL (F112_s0 n box label) (((n.Qa.length:Int)-(([]:List Int).length:Int)).toNat+1) (box,label,([]:List Int)))=Lp.done (box1,label1,out)=>ai ((BuildOK.mk eInt ([]:List Int) rfl (by exact trivial) (fun _=>rfl):BuildOK 0 1 [] (.l 1 eInt ([]:List Int)))) ((fun hF:(([]:List Int):List Int)=(F112 n box label)=>ai (Imp.of_eq (congrArg (fun r:List Int=>Dat.l 1 eInt r) hF)) (trivial)) (condF h6 (finD hD0_12 (rfl))))) (runL_done hI0 (condF h8 (rfl)))) (of_decide_eq_false h8))) (i0.1-1) i0.2.1 i0.2.2.1 i0.2.2.2 (hd1 hi0.1 hi0.2.1) (hd2 hi0.2.1) (hd3 hi0.2.1) hi0.2.2.1 hi0.2.2.2)) (netB_T n (notEF (orF1 h6)))) (netB_8 n (notEF (orF1 h6)))) (netB_14 n (notEF (orF1 h6)))) (of_decide_eq_true (notEF (orF2 h6))))))))))))) (by kernel_rfl)
def Qp (n:Qe):Nat→Int→Int→Option (List (Int×Int))
 | 0,_,_=>none
 | m+1,box,label=>match rowIx (n.Qa.getD box.toNat default) label with
  | none=>none
  | some k=>if ((n.Qa.getD box.toNat default).Rows.getD k default).Next<0 then some [(box,label)]
   else (Qp n m ((n.Qa.getD box.toNat default).Rows.getD k default).Next ((n.Qa.getD box.toNat default).Rows.getD k default).Out).map ((box,label) :: ·)
def pathRes:Option (List (Int×Int))→List Int×List Int×Bool
 | some l=>(l.map (·.1),l.map (·.2),true)
 | none=>([],[],false)
theorem rowsFrom_go {n:Qe} (h:Qt n) (b0 l0:Int):∀ (m:Nat) (box label:Int) (bs ls:List Int),0≤box→box<(n.Qa.length:Int)→bs.length+m=n.Qa.length →
  (runL (F50_s0 n b0 l0) (m+1) (box,label,bs,ls)).fin (fun r=>r) (fun s=>(s.2.2.1,s.2.2.2,true))=match Qp n m box label with
   | some l=>(bs++l.map (·.1),ls++l.map (·.2),true)
   | none=>([],[],false)
 | m,box,label,bs,ls,h0,h1,hm=>by
  have hne:(box != (-1))=true:=by simp; omega
  cases e:rowIx (n.Qa.getD box.toNat default) label with
  | none =>
   have e1:F50_s0 n b0 l0 (box,label,bs,ls)=.ret ([],[],false):=by
    simp only [F50_s0,hne,cond_true,Qw,e,Bool.not_false]
   simp only [runL,e1,Lp.fin]
   cases m <;> simp only [Qp,e]
  | some k =>
   have hk:=(first_some.1 e).1
   have e2:Qw (n.Qa.getD box.toNat default) label=((n.Qa.getD box.toNat default).Rows.getD k default,true):=by simp only [Qw,e]
   have hn:=row_next h h0 h1 (k:=(k:Int)) (by omega) (by omega)
   rw [nn] at hn
   cases m with
   | zero =>
    have hl:((bs.length:Int)==(n.Qa.length:Int))=true:=by simp; omega
    have e1:F50_s0 n b0 l0 (box,label,bs,ls)=.ret ([],[],false):=by
     simp only [F50_s0,hne,cond_true,e2,Bool.not_true,cond_false,hl]
    simp only [runL,e1,Lp.fin,Qp]
   | succ m =>
    have hl:((bs.length:Int)==(n.Qa.length:Int))=false:=by simp; omega
    have e1:F50_s0 n b0 l0 (box,label,bs,ls)=.next (((n.Qa.getD box.toNat default).Rows.getD k default).Next,((n.Qa.getD box.toNat default).Rows.getD k default).Out,bs++[box],ls++[label]):=by
     simp only [F50_s0,hne,cond_true,e2,Bool.not_true,cond_false,hl]
    rw [runL,e1]
    simp only [Qp,e]
    generalize (n.Qa.getD box.toNat default).Rows.getD k default=r at *
    rcases hn with hn | hn
    ·have e3:F50_s0 n b0 l0 (r.Next,r.Out,bs++[box],ls++[label])=.done (r.Next,r.Out,bs++[box],ls++[label]):=by
      have:(r.Next != (-1))=false:=by simp [hn]
      simp only [F50_s0,this,cond_false]
     have:r.Next<0:=by omega
     simp only [runL,e3,Lp.fin,if_pos this,List.map_cons,List.map_nil]
    ·have hp:¬ r.Next<0:=by omega
     rw [rowsFrom_go h b0 l0 m r.Next r.Out (bs++[box]) (ls++[label]) hn.1 hn.2 (by simp; omega),if_neg hp]
     cases Qp n m r.Next r.Out <;> simp
theorem as50 (n:Qe) (box label:Int) (h:Qt n) (h0:0≤box) (h1:box<(n.Qa.length:Int)):F50 n box label=pathRes (Qp n n.Qa.length box label):=by
 unfold F50
 have e:Int.toNat ((n.Qa.length:Int)-(([]:List Int).length:Int))=n.Qa.length:=by simp
 rw [e]
 refine (rowsFrom_go h box label n.Qa.length box label [] [] h0 h1 (by simp)).trans ?_
 cases Qp n n.Qa.length box label <;> rfl
theorem specPath_go {n:Qe} (h:Qt n) (b0 l0:Int):∀ (m:Nat) (box label:Int) (bs:List Int),0≤box→box<(n.Qa.length:Int)→bs.length+m=n.Qa.length →
  (runL (F112_s0 n b0 l0) (m+1) (box,label,bs)).fin (fun r=>r) (fun _=>([]:List Int))=match Qp n m box label with
   | some l=>bs++l.map (·.1)
   | none=>[]
 | 0,box,label,bs,h0,h1,hm=>by
  have hl:decide ((bs.length:Int)<(n.Qa.length:Int))=false:=by simp; omega
  have e1:F112_s0 n b0 l0 (box,label,bs)=.done (box,label,bs):=by simp only [F112_s0,hl,cond_false]
  simp only [runL,e1,Lp.fin,Qp]
 | m+1,box,label,bs,h0,h1,hm=>by
  have hl:decide ((bs.length:Int)<(n.Qa.length:Int))=true:=by simp; omega
  cases e:rowIx (n.Qa.getD box.toNat default) label with
  | none =>
   have e1:F112_s0 n b0 l0 (box,label,bs)=.ret []:=by
    simp only [F112_s0,hl,cond_true,e,oix]; rfl
   simp only [runL,e1,Lp.fin,Qp,e]
  | some k =>
   have hk:=(first_some.1 e).1
   have hn:=row_next h h0 h1 (k:=(k:Int)) (by omega) (by omega)
   rw [nn] at hn
   have e2:decide (oix (some k)<0)=false:=decide_eq_false (by simp only [oix]; omega)
   have e3:Int.toNat (oix (some k))=k:=rfl
   rw [runL]
   simp only [F112_s0,hl,cond_true,e,e2,cond_false,e3,Qp]
   generalize (n.Qa.getD box.toNat default).Rows.getD k default=r at *
   rcases hn with hn | hn
   ·have hp:r.Next<0:=by omega
    simp [Lp.fin,hp]
   ·have hp:¬ r.Next<0:=by omega
    simp only [decide_eq_false hp,cond_false,if_neg hp]
    refine (specPath_go h b0 l0 m r.Next r.Out (bs++[box]) hn.1 hn.2 (by simp; omega)).trans ?_
    cases Qp n m r.Next r.Out <;> simp
def Qs (n:Qe) (box label:Int):List Int:=bif netB n&&decide (0≤box∧box≤(n.Qa.length:Int)-1) then (pathRes (Qp n n.Qa.length box label)).1 else []
theorem as112 (n:Qe) (box label:Int):F112 n box label=Qs n box label:=by
 unfold F112 Qs
 cases hb:netB n
 ·rfl
 ·by_cases h:0≤box∧box≤(n.Qa.length:Int)-1
  ·rw [decide_eq_true h]
   simp only [Bool.not_true,cond_false,Bool.and_self,cond_true]
   have e:Int.toNat ((n.Qa.length:Int)-(([]:List Int).length:Int))=n.Qa.length:=by simp
   rw [e]
   refine (specPath_go (netB_T n hb) box label n.Qa.length box label [] (by omega) (by omega) (by simp)).trans ?_
   cases Qp n n.Qa.length box label <;> rfl
  ·rw [decide_eq_false h]; rfl
theorem pathFrom_len (n:Qe):∀ (m:Nat) (b l:Int) (x:List (Int×Int)),Qp n m b l=some x→x.length≤m
 | 0,b,l,x,h=>by cases h
 | m+1,b,l,x,h=>by
  simp only [Qp] at h
  split at h
  ·cases h
  ·split at h
   ·cases h; simp
   ·cases e:Qp n m _ _ with
    | none=>rw [e] at h; cases h
    | some y =>
     rw [e] at h
     cases h
     have:=pathFrom_len n m _ _ y e
     simp only [List.length_cons]; omega
theorem pathRes_len (n:Qe) (m:Nat) (b l:Int):(pathRes (Qp n m b l)).1.length≤m∧(pathRes (Qp n m b l)).2.1.length=(pathRes (Qp n m b l)).1.length:=by
 cases e:Qp n m b l with
 | none=>exact ⟨Nat.zero_le _,rfl⟩
 | some x=>have:=pathFrom_len n m b l x e; simp only [pathRes,List.length_map]; exact ⟨this,trivial⟩
theorem pathFrom_all {n:Qe} (h:Qt n):∀ (m:Nat) (box label:Int) (l:List (Int×Int)),0≤box→box<(n.Qa.length:Int)→Qp n m box label=some l→∀ x∈l,0≤x.1∧x.1<(n.Qa.length:Int)
 | 0,_,_,_,_,_,he=>by simp [Qp] at he
 | m+1,box,label,l,h0,h1,he=>by
  unfold Qp at he
  cases e:rowIx (n.Qa.getD box.toNat default) label with
  | none=>rw [e] at he; cases he
  | some k =>
   rw [e] at he
   have hk:=(first_some.1 e).1
   have hn:=row_next h h0 h1 (k:=(k:Int)) (by omega) (by omega)
   rw [show Int.toNat (k:Int)=k from by omega] at hn
   by_cases hx:((n.Qa.getD box.toNat default).Rows.getD k default).Next<0
   ·simp only [hx,if_true,Option.some.injEq] at he
    subst he
    intro x hx; simp at hx; subst hx; exact ⟨h0,h1⟩
   ·simp only [hx,if_false] at he
    cases e2:Qp n m ((n.Qa.getD box.toNat default).Rows.getD k default).Next ((n.Qa.getD box.toNat default).Rows.getD k default).Out with
    | none=>rw [e2] at he; cases he
    | some l' =>
     rw [e2] at he
     simp only [Option.map_some,Option.some.injEq] at he
     subst he
     intro x hx'
     rcases List.mem_cons.1 hx' with hq | hq
     ·subst hq; exact ⟨h0,h1⟩
     ·exact pathFrom_all h m _ _ l' (by omega) (by omega) e2 x hq
theorem path_len (n:Qe) (box label:Int):(pathRes (Qp n n.Qa.length box label)).2.1.length=(pathRes (Qp n n.Qa.length box label)).1.length:=by
 cases Qp n n.Qa.length box label <;> simp [pathRes]
def T50 (R:List Int×List Int×Bool) (n:Qe) (box:Int) (label:Int):Spec:=⟨(S50 R n box label).args,(S50 R n box label).res,Qt n∧0≤box∧box<(n.Qa.length:Int)∧n.Qa.length≤8⟩
theorem oa50 (n:Qe) (box:Int) (label:Int):(T50 (pathRes (Qp n n.Qa.length box label)) n box label).ok Tryz.prog 50:=by
 intro hp; have h:=ok50 n box label hp; rw [as50 n box label hp.1 hp.2.1 hp.2.2.1] at h; exact h
theorem oa112 (n:Qe) (box:Int) (label:Int):(S112 (Qs n box label) n box label).ok Tryz.prog 112:=by
 intro hp; have h:=ok112 n box label hp; rw [as112 n box label] at h; exact h
def F113_s1 (n:Qe) (box:Int) (label:Int) (i40:Int):Int→Lp Int Bool:=fun k =>
 bif (decide (k<((n.Qa.getD i40.toNat default).Rows.length:Int))) then (bif (bif (((n.Qa.getD i40.toNat default).Rows.getD k.toNat default).Next==box) then (((n.Qa.getD i40.toNat default).Rows.getD k.toNat default).Out==label) else false) then (.ret true) else (.next (k+1))) else (.done k)
def F113_s0 (n:Qe) (box:Int) (label:Int):Int→Lp Int Bool:=fun i40 =>
 bif (decide (i40<(n.Qa.length:Int))) then ((runL (F113_s1 n box label i40) ((((n.Qa.getD i40.toNat default).Rows.length:Int)-0).toNat+1) 0).fin Lp.ret (fun k=>.next (i40+1))) else (.done i40)
def F113 (n:Qe) (box:Int) (label:Int):Bool :=
 (runL (F113_s0 n box label) (((n.Qa.length:Int)-0).toNat+1) 0).fin (fun r=>r) (fun i40=>false)
def S113 (n:Qe) (box:Int) (label:Int):Spec:=⟨[.r (.g (Qf n)),.r (.c (.v (vI box))),.r (.c (.v (vI label)))],.v (.bool (F113 n box label)),(∀ k:Nat,(n.Qa.getD k default).Rows.length≤1000000000)⟩
theorem ok113 (n:Qe) (box:Int) (label:Int):(S113 n box label).ok Tryz.prog 113 :=
 fnG_ok mixed (fn:=Tryz.f113) (ct:=.seq (.no) (.seq (.seqk [(3,0),(3,1)] (.no) (.blk (.loop (ι:=Nat×Int) (fun i=>(fun (i40:Int)=>(⟨[(1,some (.v (vI box))),(2,some (.v (vI label))),(3,some (.p 0 0)),(7,some (.v (vI i40)))],[(0,some (.box 26 [.h 1 0,.h 2 0])),(1,some (.shr none (.l 2 Qh n.Qb))),(2,some (.shr none (.l 2 Qj n.Qa)))],3⟩:St)) i.2) (fun i=>runL (F113_s0 n box label) i.1 i.2=(runL (F113_s0 n box label) (((n.Qa.length:Int)-0).toNat+1) 0)∧(fun (i40:Int)=>(Int.toNat ((n.Qa.length:Int)-i40)<i.1∧(0:Int)≤i40)) i.2) (fun i=>i.1) ((((n.Qa.length:Int)-0).toNat+1),0) (fun i=>(fun (i40:Int)=>(.seq (.seq (.no) (.cond (.no) (.no))) (.seq (.blk (.seqk [(3,0),(3,1)] (.no) (.blk (.loop (ι:=Nat×Int) (fun i=>(fun (k:Int)=>(⟨[(1,some (.v (vI box))),(2,some (.v (vI label))),(3,some (.p 0 0)),(7,some (.v (vI i40))),(8,some (.v (vI k)))],[(0,some (.box 26 [.h 1 0,.h 2 0])),(1,some (.shr none (.l 2 Qh n.Qb))),(2,some (.shr none (.l 2 Qj n.Qa)))],3⟩:St)) i.2) (fun i=>runL (F113_s1 n box label i40) i.1 i.2=(runL (F113_s1 n box label i40) ((((n.Qa.getD i40.toNat default).Rows.length:Int)-0).toNat+1) 0)∧(fun (k:Int)=>(Int.toNat (((n.Qa.getD i40.toNat default).Rows.length:Int)-k)<i.1∧((n.Qa.getD i40.toNat default).Rows.length:Int)≤1000000000∧(0:Int)≤k)) i.2) (fun i=>i.1) (((((n.Qa.getD i40.toNat default).Rows.length:Int)-0).toNat+1),0) (fun i=>(fun (k:Int)=>(.seq (.seq (.no) (.cond (.no) (.no))) (.seq (.blk (.seq (.no) (.cond (.seq (.no) (.no)) (.no)))) (.reg [(1,.bnd)])))) i.2))))) (.reg [(1,.bnd)])))) i.2)))) (.seq (.no) (.no)))) Tryz.func113 (fun (hpre0:∀ k:Nat,(n.Qa.getD k default).Rows.length≤1000000000)=>fun (_:n.Qb.length≤9223372036854775807)=>fun (_:n.Qa.length≤9223372036854775807)=>ai (ai (rfl) (ai (rfl) (ai (rfl) (ai (ir) (ai (ir) ((ai (rfl:runL (F113_s0 n box label) (((n.Qa.length:Int)-0).toNat+1) 0=(runL (F113_s0 n box label) (((n.Qa.length:Int)-0).toNat+1) 0)) (ai ((Nat.lt_succ_self _:Int.toNat ((n.Qa.length:Int)-0)<(((n.Qa.length:Int)-0).toNat+1))) ((by omega:(0:Int)≤0))))))))):((.int .i64 box:Value)=.int .i64 box)∧((.int .i64 label:Value)=.int .i64 label)∧((.int .i64 0:Value)=.int .i64 0)∧(Imp (.l 2 Qh n.Qb) (.l 2 Qh n.Qb))∧(Imp (.l 2 Qj n.Qa) (.l 2 Qj n.Qa))∧(runL (F113_s0 n box label) (((n.Qa.length:Int)-0).toNat+1) 0=(runL (F113_s0 n box label) (((n.Qa.length:Int)-0).toNat+1) 0)∧Int.toNat ((n.Qa.length:Int)-0)<(((n.Qa.length:Int)-0).toNat+1)∧(0:Int)≤0)) (fun (i0:Nat×Int) (hi0:runL (F113_s0 n box label) i0.1 i0.2=(runL (F113_s0 n box label) (((n.Qa.length:Int)-0).toNat+1) 0)∧(fun (i40:Int)=>(Int.toNat ((n.Qa.length:Int)-i40)<i0.1∧(0:Int)≤i40)) i0.2)=>(fun (m0:Nat) (i40:Int) (hI0:runL (F113_s0 n box label) (m0+1) i40=(runL (F113_s0 n box label) (((n.Qa.length:Int)-0).toNat+1) 0)) (_:Int.toNat ((n.Qa.length:Int)-i40)<m0+1) (hl0:m0<i0.1) (_:(0:Int)≤i40)=>ai (fun h2:(decide (i40<(n.Qa.length:Int)))=true=>(fun _:i40<(n.Qa.length:Int)=>fun (_:n.Qb.length≤9223372036854775807)=>fun (_:n.Qa.length≤9223372036854775807)=>ai (ai (rfl) (ai (rfl) (ai (rfl) (ai (rfl) (ai (ir) (ai (ir) ((ai (rfl:runL (F113_s1 n box label i40) ((((n.Qa.getD i40.toNat default).Rows.length:Int)-0).toNat+1) 0=(runL (F113_s1 n box label i40) ((((n.Qa.getD i40.toNat default).Rows.length:Int)-0).toNat+1) 0)) (ai ((Nat.lt_succ_self _:Int.toNat (((n.Qa.getD i40.toNat default).Rows.length:Int)-0)<((((n.Qa.getD i40.toNat default).Rows.length:Int)-0).toNat+1))) (ai ((by first | omega | (simp only [lens] at*<;> omega) | (have:=hpre0 i40.toNat; omega):((n.Qa.getD i40.toNat default).Rows.length:Int)≤1000000000)) ((by first | omega | (simp only [lens] at*<;> omega) | (have:=hpre0 i40.toNat; omega):(0:Int)≤0))))))))))):((.int .i64 box:Value)=.int .i64 box)∧((.int .i64 label:Value)=.int .i64 label)∧((.int .i64 i40:Value)=.int .i64 i40)∧((.int .i64 0:Value)=.int .i64 0)∧(Imp (.l 2 Qh n.Qb) (.l 2 Qh n.Qb))∧(Imp (.l 2 Qj n.Qa) (.l 2 Qj n.Qa))∧(runL (F113_s1 n box label i40) ((((n.Qa.getD i40.toNat default).Rows.length:Int)-0).toNat+1) 0=(runL (F113_s1 n box label i40) ((((n.Qa.getD i40.toNat default).Rows.length:Int)-0).toNat+1) 0)∧Int.toNat (((n.Qa.getD i40.toNat default).Rows.length:Int)-0)<((((n.Qa.getD i40.toNat default).Rows.length:Int)-0).toNat+1)∧((n.Qa.getD i40.toNat default).Rows.length:Int)≤1000000000∧(0:Int)≤0)) (fun (i1:Nat×Int) (hi1:runL (F113_s1 n box label i40) i1.1 i1.2=(runL (F113_s1 n box label i40) ((((n.Qa.getD i40.toNat default).Rows.length:Int)-0).toNat+1) 0)∧(fun (k:Int)=>(Int.toNat (((n.Qa.getD i40.toNat default).Rows.length:Int)-k)<i1.1∧((n.Qa.getD i40.toNat default).Rows.length:Int)≤1000000000∧(0:Int)≤k)) i1.2)=>(fun (m1:Nat) (k:Int) (hI1:runL (F113_s1 n box label i40) (m1+1) k=(runL (F113_s1 n box label i40) ((((n.Qa.getD i40.toNat default).Rows.length:Int)-0).toNat+1) 0)) (_:Int.toNat (((n.Qa.getD i40.toNat default).Rows.length:Int)-k)<m1+1) (hl1:m1<i1.1) (_:((n.Qa.getD i40.toNat default).Rows.length:Int)≤1000000000) (_:(0:Int)≤k)=>ai ((by omega:0≤i40∧i40<(n.Qa.length:Int))) (ai (fun h4:(decide (k<((n.Qa.getD i40.toNat default).Rows.length:Int)))=true=>(fun _:k<((n.Qa.getD i40.toNat default).Rows.length:Int)=>ai ((by omega:0≤i40∧i40<(n.Qa.length:Int))) (ai ((by omega:0≤k∧k<((n.Qa.getD i40.toNat default).Rows.length:Int))) (ai ((fun k5:(((n.Qa.getD i40.toNat default).Rows.getD k.toNat default).Next==box)=true=>(fun _:((n.Qa.getD i40.toNat default).Rows.getD k.toNat default).Next=box=>(by omega:0≤i40∧i40<(n.Qa.length:Int))) (eq_of_beq k5))) (ai ((fun k6:(((n.Qa.getD i40.toNat default).Rows.getD k.toNat default).Next==box)=true=>(fun _:((n.Qa.getD i40.toNat default).Rows.getD k.toNat default).Next=box=>(by omega:0≤k∧k<((n.Qa.getD i40.toNat default).Rows.length:Int))) (eq_of_beq k6))) (ai (fun h7:(bif (((n.Qa.getD i40.toNat default).Rows.getD k.toNat default).Next==box) then (((n.Qa.getD i40.toNat default).Rows.getD k.toNat default).Out==label) else false)=true=>(fun _:((n.Qa.getD i40.toNat default).Rows.getD k.toNat default).Out=label=>(fun _:((n.Qa.getD i40.toNat default).Rows.getD k.toNat default).Next=box=>(fun hF:(true:Bool)=(F113 n box label)=>ai (congrArg (fun r:Bool=>(.bool r:Value)) hF) (trivial)) (finR (runL_ret hI0 (condT h2 (finR (runL_ret hI1 (condT h4 (condT h7 (rfl)))) rfl))) rfl)) (eq_of_beq (andT1 h7))) (eq_of_beq (andT2 h7))) (fun h7:(bif (((n.Qa.getD i40.toNat default).Rows.getD k.toNat default).Next==box) then (((n.Qa.getD i40.toNat default).Rows.getD k.toNat default).Out==label) else false)=false=>ai ((by unfold i64ok; omega:i64ok (k+1))) (Exists.intro (p:=fun j:Nat×Int=>(fun (k_:Int)=>(((.int .i64 box:Value)=.int .i64 box)∧((.int .i64 label:Value)=.int .i64 label)∧((.int .i64 i40:Value)=.int .i64 i40)∧((.int .i64 (k+1):Value)=.int .i64 k_)∧(Imp (.l 2 Qh n.Qb) (.l 2 Qh n.Qb))∧(Imp (.l 2 Qj n.Qa) (.l 2 Qj n.Qa))∧((runL (F113_s1 n box label i40) j.1 j.2=(runL (F113_s1 n box label i40) ((((n.Qa.getD i40.toNat default).Rows.length:Int)-0).toNat+1) 0)∧Int.toNat (((n.Qa.getD i40.toNat default).Rows.length:Int)-k_)<j.1∧((n.Qa.getD i40.toNat default).Rows.length:Int)≤1000000000∧(0:Int)≤k_)∧j.1<i1.1))) j.2) (m1,(k+1)) (ai (rfl) (ai (rfl) (ai (rfl) (ai (rfl) (ai (ir) (ai (ir) (ai (ai (runL_next hI1 (condT h4 (condF h7 (rfl)))) (ai ((by first | omega | (simp only [lens] at*<;> omega) | (have:=hpre0 i40.toNat; omega):Int.toNat (((n.Qa.getD i40.toNat default).Rows.length:Int)-(k+1))<m1)) (ai ((by first | omega | (simp only [lens] at*<;> omega) | (have:=hpre0 i40.toNat; omega):((n.Qa.getD i40.toNat default).Rows.length:Int)≤1000000000)) ((by first | omega | (simp only [lens] at*<;> omega) | (have:=hpre0 i40.toNat; omega):(0:Int)≤(k+1)))))) hl1)))))))))))))) (of_decide_eq_true h4)) (fun h4:(decide (k<((n.Qa.getD i40.toNat default).Rows.length:Int)))=false=>(fun _:¬ k<((n.Qa.getD i40.toNat default).Rows.length:Int)=>(fun hD1_8:(runL (F113_s1 n box label i40) ((((n.Qa.getD i40.toNat default).Rows.length:Int)-0).toNat+1) 0)=Lp.done k=>ai ((by unfold i64ok; omega:i64ok (i40+1))) (Exists.intro (p:=fun j:Nat×Int=>(fun (i40_:Int)=>(((.int .i64 box:Value)=.int .i64 box)∧((.int .i64 label:Value)=.int .i64 label)∧((.int .i64 (i40+1):Value)=.int .i64 i40_)∧(Imp (.l 2 Qh n.Qb) (.l 2 Qh n.Qb))∧(Imp (.l 2 Qj n.Qa) (.l 2 Qj n.Qa))∧((runL (F113_s0 n box label) j.1 j.2=(runL (F113_s0 n box label) (((n.Qa.length:Int)-0).toNat+1) 0)∧Int.toNat ((n.Qa.length:Int)-i40_)<j.1∧(0:Int)≤i40_)∧j.1<i0.1))) j.2) (m0,(i40+1)) (ai (rfl) (ai (rfl) (ai (rfl) (ai (ir) (ai (ir) (ai (ai (runL_next hI0 (condT h2 (finD hD1_8 (rfl)))) (ai ((by omega:Int.toNat ((n.Qa.length:Int)-(i40+1))<m0)) ((by omega:(0:Int)≤(i40+1))))) hl0)))))))) (runL_done hI1 (condF h4 (rfl)))) (of_decide_eq_false h4)))) (i1.1-1) i1.2 (hd1 hi1.1 hi1.2.1) (hd2 hi1.2.1) (hd3 hi1.2.1) hi1.2.2.1 hi1.2.2.2)) (of_decide_eq_true h2)) (fun h2:(decide (i40<(n.Qa.length:Int)))=false=>(fun _:¬ i40<(n.Qa.length:Int)=>(fun hD0_9:(runL (F113_s0 n box label) (((n.Qa.length:Int)-0).toNat+1) 0)=Lp.done i40=>(fun hF:(false:Bool)=(F113 n box label)=>ai (congrArg (fun r:Bool=>(.bool r:Value)) hF) (trivial)) (finD hD0_9 (rfl))) (runL_done hI0 (condF h2 (rfl)))) (of_decide_eq_false h2))) (i0.1-1) i0.2 (hd1 hi0.1 hi0.2.1) (hd2 hi0.2.1) (hd3 hi0.2.1) hi0.2.2)) (by kernel_rfl)
def F114_s1 (n:Qe) (box:Int) (label:Int) (i40:Int):Int→Lp Int Bool:=fun k =>
 bif (decide (k<((n.Qa.getD i40.toNat default).Qc.length:Int))) then (bif (bif (((n.Qa.getD i40.toNat default).Qc.getD k.toNat default).Via==box) then (((n.Qa.getD i40.toNat default).Qc.getD k.toNat default).Push==label) else false) then (.ret true) else (.next (k+1))) else (.done k)
def F114_s0 (n:Qe) (box:Int) (label:Int):Int→Lp Int Bool:=fun i40 =>
 bif (decide (i40<(n.Qa.length:Int))) then ((runL (F114_s1 n box label i40) ((((n.Qa.getD i40.toNat default).Qc.length:Int)-0).toNat+1) 0).fin Lp.ret (fun k=>.next (i40+1))) else (.done i40)
def F114 (n:Qe) (box:Int) (label:Int):Bool :=
 (runL (F114_s0 n box label) (((n.Qa.length:Int)-0).toNat+1) 0).fin (fun r=>r) (fun i40=>false)
def S114 (n:Qe) (box:Int) (label:Int):Spec:=⟨[.r (.g (Qf n)),.r (.c (.v (vI box))),.r (.c (.v (vI label)))],.v (.bool (F114 n box label)),(∀ k:Nat,(n.Qa.getD k default).Qc.length≤1000000000)⟩
theorem ok114 (n:Qe) (box:Int) (label:Int):(S114 n box label).ok Tryz.prog 114 :=
 fnG_ok mixed (fn:=Tryz.f114) (ct:=.seq (.no) (.seq (.seqk [(3,0),(3,1)] (.no) (.blk (.loop (ι:=Nat×Int) (fun i=>(fun (i40:Int)=>(⟨[(1,some (.v (vI box))),(2,some (.v (vI label))),(3,some (.p 0 0)),(7,some (.v (vI i40)))],[(0,some (.box 26 [.h 1 0,.h 2 0])),(1,some (.shr none (.l 2 Qh n.Qb))),(2,some (.shr none (.l 2 Qj n.Qa)))],3⟩:St)) i.2) (fun i=>runL (F114_s0 n box label) i.1 i.2=(runL (F114_s0 n box label) (((n.Qa.length:Int)-0).toNat+1) 0)∧(fun (i40:Int)=>(Int.toNat ((n.Qa.length:Int)-i40)<i.1∧(0:Int)≤i40)) i.2) (fun i=>i.1) ((((n.Qa.length:Int)-0).toNat+1),0) (fun i=>(fun (i40:Int)=>(.seq (.seq (.no) (.cond (.no) (.no))) (.seq (.blk (.seqk [(3,0),(3,1)] (.no) (.blk (.loop (ι:=Nat×Int) (fun i=>(fun (k:Int)=>(⟨[(1,some (.v (vI box))),(2,some (.v (vI label))),(3,some (.p 0 0)),(7,some (.v (vI i40))),(8,some (.v (vI k)))],[(0,some (.box 26 [.h 1 0,.h 2 0])),(1,some (.shr none (.l 2 Qh n.Qb))),(2,some (.shr none (.l 2 Qj n.Qa)))],3⟩:St)) i.2) (fun i=>runL (F114_s1 n box label i40) i.1 i.2=(runL (F114_s1 n box label i40) ((((n.Qa.getD i40.toNat default).Qc.length:Int)-0).toNat+1) 0)∧(fun (k:Int)=>(Int.toNat (((n.Qa.getD i40.toNat default).Qc.length:Int)-k)<i.1∧((n.Qa.getD i40.toNat default).Qc.length:Int)≤1000000000∧(0:Int)≤k)) i.2) (fun i=>i.1) (((((n.Qa.getD i40.toNat default).Qc.length:Int)-0).toNat+1),0) (fun i=>(fun (k:Int)=>(.seq (.seq (.no) (.cond (.no) (.no))) (.seq (.blk (.seq (.no) (.cond (.seq (.no) (.no)) (.no)))) (.reg [(1,.bnd)])))) i.2))))) (.reg [(1,.bnd)])))) i.2)))) (.seq (.no) (.no)))) Tryz.func114 (fun (hpre0:∀ k:Nat,(n.Qa.getD k default).Qc.length≤1000000000)=>fun (_:n.Qb.length≤9223372036854775807)=>fun (_:n.Qa.length≤9223372036854775807)=>ai (ai (rfl) (ai (rfl) (ai (rfl) (ai (ir) (ai (ir) ((ai (rfl:runL (F114_s0 n box label) (((n.Qa.length:Int)-0).toNat+1) 0=(runL (F114_s0 n box label) (((n.Qa.length:Int)-0).toNat+1) 0)) (ai ((Nat.lt_succ_self _:Int.toNat ((n.Qa.length:Int)-0)<(((n.Qa.length:Int)-0).toNat+1))) ((by omega:(0:Int)≤0))))))))):((.int .i64 box:Value)=.int .i64 box)∧((.int .i64 label:Value)=.int .i64 label)∧((.int .i64 0:Value)=.int .i64 0)∧(Imp (.l 2 Qh n.Qb) (.l 2 Qh n.Qb))∧(Imp (.l 2 Qj n.Qa) (.l 2 Qj n.Qa))∧(runL (F114_s0 n box label) (((n.Qa.length:Int)-0).toNat+1) 0=(runL (F114_s0 n box label) (((n.Qa.length:Int)-0).toNat+1) 0)∧Int.toNat ((n.Qa.length:Int)-0)<(((n.Qa.length:Int)-0).toNat+1)∧(0:Int)≤0)) (fun (i0:Nat×Int) (hi0:runL (F114_s0 n box label) i0.1 i0.2=(runL (F114_s0 n box label) (((n.Qa.length:Int)-0).toNat+1) 0)∧(fun (i40:Int)=>(Int.toNat ((n.Qa.length:Int)-i40)<i0.1∧(0:Int)≤i40)) i0.2)=>(fun (m0:Nat) (i40:Int) (hI0:runL (F114_s0 n box label) (m0+1) i40=(runL (F114_s0 n box label) (((n.Qa.length:Int)-0).toNat+1) 0)) (_:Int.toNat ((n.Qa.length:Int)-i40)<m0+1) (hl0:m0<i0.1) (_:(0:Int)≤i40)=>ai (fun h2:(decide (i40<(n.Qa.length:Int)))=true=>(fun _:i40<(n.Qa.length:Int)=>fun (_:n.Qb.length≤9223372036854775807)=>fun (_:n.Qa.length≤9223372036854775807)=>ai (ai (rfl) (ai (rfl) (ai (rfl) (ai (rfl) (ai (ir) (ai (ir) ((ai (rfl:runL (F114_s1 n box label i40) ((((n.Qa.getD i40.toNat default).Qc.length:Int)-0).toNat+1) 0=(runL (F114_s1 n box label i40) ((((n.Qa.getD i40.toNat default).Qc.length:Int)-0).toNat+1) 0)) (ai ((Nat.lt_succ_self _:Int.toNat (((n.Qa.getD i40.toNat default).Qc.length:Int)-0)<((((n.Qa.getD i40.toNat default).Qc.length:Int)-0).toNat+1))) (ai ((by first | omega | (simp only [lens] at*<;> omega) | (have:=hpre0 i40.toNat; omega):((n.Qa.getD i40.toNat default).Qc.length:Int)≤1000000000)) ((by first | omega | (simp only [lens] at*<;> omega) | (have:=hpre0 i40.toNat; omega):(0:Int)≤0))))))))))):((.int .i64 box:Value)=.int .i64 box)∧((.int .i64 label:Value)=.int .i64 label)∧((.int .i64 i40:Value)=.int .i64 i40)∧((.int .i64 0:Value)=.int .i64 0)∧(Imp (.l 2 Qh n.Qb) (.l 2 Qh n.Qb))∧(Imp (.l 2 Qj n.Qa) (.l 2 Qj n.Qa))∧(runL (F114_s1 n box label i40) ((((n.Qa.getD i40.toNat default).Qc.length:Int)-0).toNat+1) 0=(runL (F114_s1 n box label i40) ((((n.Qa.getD i40.toNat default).Qc.length:Int)-0).toNat+1) 0)∧Int.toNat (((n.Qa.getD i40.toNat default).Qc.length:Int)-0)<((((n.Qa.getD i40.toNat default).Qc.length:Int)-0).toNat+1)∧((n.Qa.getD i40.toNat default).Qc.length:Int)≤1000000000∧(0:Int)≤0)) (fun (i1:Nat×Int) (hi1:runL (F114_s1 n box label i40) i1.1 i1.2=(runL (F114_s1 n box label i40) ((((n.Qa.getD i40.toNat default).Qc.length:Int)-0).toNat+1) 0)∧(fun (k:Int)=>(Int.toNat (((n.Qa.getD i40.toNat default).Qc.length:Int)-k)<i1.1∧((n.Qa.getD i40.toNat default).Qc.length:Int)≤1000000000∧(0:Int)≤k)) i1.2)=>(fun (m1:Nat) (k:Int) (hI1:runL (F114_s1 n box label i40) (m1+1) k=(runL (F114_s1 n box label i40) ((((n.Qa.getD i40.toNat default).Qc.length:Int)-0).toNat+1) 0)) (_:Int.toNat (((n.Qa.getD i40.toNat default).Qc.length:Int)-k)<m1+1) (hl1:m1<i1.1) (_:((n.Qa.getD i40.toNat default).Qc.length:Int)≤1000000000) (_:(0:Int)≤k)=>ai ((by omega:0≤i40∧i40<(n.Qa.length:Int))) (ai (fun h4:(decide (k<((n.Qa.getD i40.toNat default).Qc.length:Int)))=true=>(fun _:k<((n.Qa.getD i40.toNat default).Qc.length:Int)=>ai ((by omega:0≤i40∧i40<(n.Qa.length:Int))) (ai ((by omega:0≤k∧k<((n.Qa.getD i40.toNat default).Qc.length:Int))) (ai ((fun k5:(((n.Qa.getD i40.toNat default).Qc.getD k.toNat default).Via==box)=true=>(fun _:((n.Qa.getD i40.toNat default).Qc.getD k.toNat default).Via=box=>(by omega:0≤i40∧i40<(n.Qa.length:Int))) (eq_of_beq k5))) (ai ((fun k6:(((n.Qa.getD i40.toNat default).Qc.getD k.toNat default).Via==box)=true=>(fun _:((n.Qa.getD i40.toNat default).Qc.getD k.toNat default).Via=box=>(by omega:0≤k∧k<((n.Qa.getD i40.toNat default).Qc.length:Int))) (eq_of_beq k6))) (ai (fun h7:(bif (((n.Qa.getD i40.toNat default).Qc.getD k.toNat default).Via==box) then (((n.Qa.getD i40.toNat default).Qc.getD k.toNat default).Push==label) else false)=true=>(fun _:((n.Qa.getD i40.toNat default).Qc.getD k.toNat default).Push=label=>(fun _:((n.Qa.getD i40.toNat default).Qc.getD k.toNat default).Via=box=>(fun hF:(true:Bool)=(F114 n box label)=>ai (congrArg (fun r:Bool=>(.bool r:Value)) hF) (trivial)) (finR (runL_ret hI0 (condT h2 (finR (runL_ret hI1 (condT h4 (condT h7 (rfl)))) rfl))) rfl)) (eq_of_beq (andT1 h7))) (eq_of_beq (andT2 h7))) (fun h7:(bif (((n.Qa.getD i40.toNat default).Qc.getD k.toNat default).Via==box) then (((n.Qa.getD i40.toNat default).Qc.getD k.toNat default).Push==label) else false)=false=>ai ((by unfold i64ok; omega:i64ok (k+1))) (Exists.intro (p:=fun j:Nat×Int=>(fun (k_:Int)=>(((.int .i64 box:Value)=.int .i64 box)∧((.int .i64 label:Value)=.int .i64 label)∧((.int .i64 i40:Value)=.int .i64 i40)∧((.int .i64 (k+1):Value)=.int .i64 k_)∧(Imp (.l 2 Qh n.Qb) (.l 2 Qh n.Qb))∧(Imp (.l 2 Qj n.Qa) (.l 2 Qj n.Qa))∧((runL (F114_s1 n box label i40) j.1 j.2=(runL (F114_s1 n box label i40) ((((n.Qa.getD i40.toNat default).Qc.length:Int)-0).toNat+1) 0)∧Int.toNat (((n.Qa.getD i40.toNat default).Qc.length:Int)-k_)<j.1∧((n.Qa.getD i40.toNat default).Qc.length:Int)≤1000000000∧(0:Int)≤k_)∧j.1<i1.1))) j.2) (m1,(k+1)) (ai (rfl) (ai (rfl) (ai (rfl) (ai (rfl) (ai (ir) (ai (ir) (ai (ai (runL_next hI1 (condT h4 (condF h7 (rfl)))) (ai ((by first | omega | (simp only [lens] at*<;> omega) | (have:=hpre0 i40.toNat; omega):Int.toNat (((n.Qa.getD i40.toNat default).Qc.length:Int)-(k+1))<m1)) (ai ((by first | omega | (simp only [lens] at*<;> omega) | (have:=hpre0 i40.toNat; omega):((n.Qa.getD i40.toNat default).Qc.length:Int)≤1000000000)) ((by first | omega | (simp only [lens] at*<;> omega) | (have:=hpre0 i40.toNat; omega):(0:Int)≤(k+1)))))) hl1)))))))))))))) (of_decide_eq_true h4)) (fun h4:(decide (k<((n.Qa.getD i40.toNat default).Qc.length:Int)))=false=>(fun _:¬ k<((n.Qa.getD i40.toNat default).Qc.length:Int)=>(fun hD1_8:(runL (F114_s1 n box label i40) ((((n.Qa.getD i40.toNat default).Qc.length:Int)-0).toNat+1) 0)=Lp.done k=>ai ((by unfold i64ok; omega:i64ok (i40+1))) (Exists.intro (p:=fun j:Nat×Int=>(fun (i40_:Int)=>(((.int .i64 box:Value)=.int .i64 box)∧((.int .i64 label:Value)=.int .i64 label)∧((.int .i64 (i40+1):Value)=.int .i64 i40_)∧(Imp (.l 2 Qh n.Qb) (.l 2 Qh n.Qb))∧(Imp (.l 2 Qj n.Qa) (.l 2 Qj n.Qa))∧((runL (F114_s0 n box label) j.1 j.2=(runL (F114_s0 n box label) (((n.Qa.length:Int)-0).toNat+1) 0)∧Int.toNat ((n.Qa.length:Int)-i40_)<j.1∧(0:Int)≤i40_)∧j.1<i0.1))) j.2) (m0,(i40+1)) (ai (rfl) (ai (rfl) (ai (rfl) (ai (ir) (ai (ir) (ai (ai (runL_next hI0 (condT h2 (finD hD1_8 (rfl)))) (ai ((by omega:Int.toNat ((n.Qa.length:Int)-(i40+1))<m0)) ((by omega:(0:Int)≤(i40+1))))) hl0)))))))) (runL_done hI1 (condF h4 (rfl)))) (of_decide_eq_false h4)))) (i1.1-1) i1.2 (hd1 hi1.1 hi1.2.1) (hd2 hi1.2.1) (hd3 hi1.2.1) hi1.2.2.1 hi1.2.2.2)) (of_decide_eq_true h2)) (fun h2:(decide (i40<(n.Qa.length:Int)))=false=>(fun _:¬ i40<(n.Qa.length:Int)=>(fun hD0_9:(runL (F114_s0 n box label) (((n.Qa.length:Int)-0).toNat+1) 0)=Lp.done i40=>(fun hF:(false:Bool)=(F114 n box label)=>ai (congrArg (fun r:Bool=>(.bool r:Value)) hF) (trivial)) (finD hD0_9 (rfl))) (runL_done hI0 (condF h2 (rfl)))) (of_decide_eq_false h2))) (i0.1-1) i0.2 (hd1 hi0.1 hi0.2.1) (hd2 hi0.2.1) (hd3 hi0.2.1) hi0.2.2)) (by kernel_rfl)
def tearBox (n:Qe) (l:List (Int×Int)) (k:Nat):Qi :=
 ⟨(n.Qa.getD k default).Rows.filter (fun r=>!(l.any (fun x=>decide (Int.toNat x.1=k)&&decide (r.In=x.2)))),(n.Qa.getD k default).Qc⟩
theorem tearBox_nil (n:Qe) (k:Nat):tearBox n [] k=n.Qa.getD k default:=by
 unfold tearBox
 simp only [List.any_nil,Bool.not_false]
 rw [List.filter_eq_self.2 (fun _ _=>rfl)]
theorem tearBox_next (n:Qe) (l:List (Int×Int)) (x:Int×Int) (k:Nat) :
  tearBox n (l++[x]) k=if Int.toNat x.1=k then ⟨(tearBox n l k).Rows.filter (fun r=>!(decide (r.In=x.2))),(tearBox n l k).Qc⟩ else tearBox n l k:=by
 unfold tearBox
 by_cases h:Int.toNat x.1=k
 ·simp only [h,if_true,List.any_append,List.any_cons,List.any_nil,Bool.or_false,decide_true,Bool.true_and,List.filter_filter,Bool.not_or]
  congr 1
  apply List.filter_congr
  intro r _
  rw [Bool.and_comm]
 ·simp only [h,if_false,List.any_append,List.any_cons,List.any_nil,Bool.or_false,decide_false,Bool.false_and]
def TearI (n:Qe) (l:List (Int×Int)) (xs:List Qi):Prop :=
 xs.length=n.Qa.length∧∀ k,k<n.Qa.length→xs.getD k default=tearBox n l k
theorem TearI.next {n:Qe} {l:List (Int×Int)} {xs:List Qi} (h:TearI n l xs) (x:Int×Int) (b:Qi) (hx:Int.toNat x.1<n.Qa.length)
  (hb:b=⟨(tearBox n l (Int.toNat x.1)).Rows.filter (fun r=>!(decide (r.In=x.2))),(tearBox n l (Int.toNat x.1)).Qc⟩):TearI n (l++[x]) (xs.set (Int.toNat x.1) b):=by
 refine ⟨by rw [List.length_set]; exact h.1,fun k hk=>?_⟩
 rw [tearBox_next,List.getD_eq_getElem?_getD,List.getElem?_set]
 have h1:=h.1
 by_cases e:Int.toNat x.1=k
 ·subst e
  simp only [if_true,h1,hx,Option.getD_some,hb]
 ·simp only [e,if_false]
  rw [← h.2 k hk,List.getD_eq_getElem?_getD]
theorem erase_filter {xs:List Qk} {c:Int}:∀ (_:xs.Pairwise (fun a b=>a.In<b.In)) {j:Nat},j<xs.length→(xs.getD j default).In=c→xs.take j++xs.drop (j+1)=xs.filter (fun r=>!(decide (r.In=c))):=by
 induction xs with
 | nil=>intro _ j hj; simp at hj
 | cons a t ih =>
  intro hp j hj hc
  rw [List.pairwise_cons] at hp
  cases j with
  | zero =>
   have hc':a.In=c:=by simpa using hc
   rw [List.filter_cons]
   simp only [hc',decide_true,Bool.not_true,List.take_zero,List.nil_append,List.drop_succ_cons,List.drop_zero,Bool.false_eq_true,if_false]
   symm
   refine List.filter_eq_self.2 fun b hb=>?_
   have:=hp.1 b hb
   have:¬ b.In=c:=by omega
   simp [this]
  | succ j =>
   have hj':j<t.length:=by simpa using hj
   have hc':(t.getD j default).In=c:=by simpa using hc
   have hm:t.getD j default∈t:=getD_mem t hj'
   have:=hp.1 _ hm
   have hne:¬ a.In=c:=by omega
   rw [List.filter_cons]
   simp only [hne,decide_false,Bool.not_false,if_true,List.take_succ_cons,List.drop_succ_cons,List.cons_append]
   rw [ih hp.2 hj' hc']
theorem path_step {n:Qe}:∀ (m:Nat) (box label:Int) (l:List (Int×Int)),Qp n m box label=some l →
  l.length≠0∧l.getD 0 default=(box,label)∧(∀ i,i<l.length→∃ k,rowIx (n.Qa.getD (Int.toNat (l.getD i default).1) default) (l.getD i default).2=some k ∧
   (i+1<l.length→(l.getD (i+1) default).2=((n.Qa.getD (Int.toNat (l.getD i default).1) default).Rows.getD k default).Out)) ∧
  ∀ i,i<l.length→Qp n (m-i) (l.getD i default).1 (l.getD i default).2=some (l.drop i)
 | 0,_,_,_,he=>by simp [Qp] at he
 | m+1,box,label,l,he=>by
  have he0:=he
  unfold Qp at he
  cases e:rowIx (n.Qa.getD box.toNat default) label with
  | none=>rw [e] at he; cases he
  | some k =>
   rw [e] at he
   by_cases hx:((n.Qa.getD box.toNat default).Rows.getD k default).Next<0
   ·simp only [hx,if_true,Option.some.injEq] at he
    subst he
    refine ⟨by simp,rfl,fun i hi=>?_,fun i hi=>?_⟩
    ·have:i=0:=by simp at hi; omega
     subst this
     exact ⟨k,e,fun h=>by simp at h⟩
    ·have:i=0:=by simp at hi; omega
     subst this
     exact he0
   ·simp only [hx,if_false] at he
    cases e2:Qp n m ((n.Qa.getD box.toNat default).Rows.getD k default).Next ((n.Qa.getD box.toNat default).Rows.getD k default).Out with
    | none=>rw [e2] at he; cases he
    | some l' =>
     rw [e2] at he
     simp only [Option.map_some,Option.some.injEq] at he
     subst he
     obtain ⟨g1,g2,g3,g4⟩:=path_step m _ _ l' e2
     refine ⟨by simp,rfl,fun i hi=>?_,fun i hi=>?_⟩
     ·cases i with
      | zero=>exact ⟨k,e,fun h=>by rw [List.getD_cons_succ,g2]; rfl⟩
      | succ i =>
       obtain ⟨k',h1,h2⟩:=g3 i (by simpa using hi)
       refine ⟨k',by simpa only [List.getD_cons_succ] using h1,fun h=>?_⟩
       have:=h2 (by simpa using h)
       simpa only [List.getD_cons_succ] using this
     ·cases i with
      | zero=>exact he0
      | succ i =>
       have:=g4 i (by simpa using hi)
       simpa only [List.getD_cons_succ,Nat.succ_sub_succ,List.drop_succ_cons,Nat.add_sub_add_right] using this
theorem pathFrom_mono {n:Qe}:∀ (m:Nat) (box label:Int) (l:List (Int×Int)),Qp n m box label=some l→∀ j,Qp n (m+j) box label=some l
 | 0,_,_,_,he,_=>by simp [Qp] at he
 | m+1,box,label,l,he,j=>by
  rw [Nat.add_right_comm]
  unfold Qp at he ⊢
  cases e:rowIx (n.Qa.getD box.toNat default) label with
  | none=>rw [e] at he; cases he
  | some k =>
   rw [e] at he
   by_cases hx:((n.Qa.getD box.toNat default).Rows.getD k default).Next<0
   ·simp only [hx,if_true] at he ⊢; exact he
   ·simp only [hx,if_false] at he ⊢
    cases e2:Qp n m ((n.Qa.getD box.toNat default).Rows.getD k default).Next ((n.Qa.getD box.toNat default).Rows.getD k default).Out with
    | none=>rw [e2] at he; cases he
    | some l'=>rw [pathFrom_mono m _ _ l' e2 j]; rw [e2] at he; exact he
theorem path_inj {n:Qe} {m:Nat} {box label:Int} {l:List (Int×Int)} (h:Qp n m box label=some l) {i j:Nat} (hi:i<l.length) (hj:j<l.length) (e:l.getD i default=l.getD j default):i=j:=by
 have g:=(path_step m box label l h).2.2.2
 have h1:=g i hi
 have h2:=g j hj
 rw [e] at h1
 have k1:=pathFrom_mono _ _ _ _ h1 (m-j)
 have k2:=pathFrom_mono _ _ _ _ h2 (m-i)
 rw [Nat.add_comm] at k2
 rw [k1] at k2
 have:=congrArg List.length (Option.some.inj k2)
 simp only [List.length_drop] at this
 omega
theorem pair_uniq {xs:List Qk} (h:xs.Pairwise (fun a b=>a.In<b.In)) {a b:Qk} (ha:a∈xs) (hb:b∈xs) (e:a.In=b.In):a=b:=by
 induction xs with
 | nil=>cases ha
 | cons x t ih =>
  rw [List.pairwise_cons] at h
  rcases List.mem_cons.1 ha with ha | ha <;> rcases List.mem_cons.1 hb with hb | hb
  ·rw [ha,hb]
  ·have:=h.1 b hb; rw [← ha] at this; omega
  ·have:=h.1 a ha; rw [← hb] at this; omega
  ·exact ih h.2 ha hb
theorem tear_row {n:Qe} (h:Qt n) {box label:Int} {l:List (Int×Int)} (h0:0≤box) (h1:box<(n.Qa.length:Int)) (hp:Qp n n.Qa.length box label=some l) {i:Nat} (hi:i<l.length) {xs:List Qi} (hT:TearI n (l.take i) xs) :
  ∃ k,rowIx (xs.getD (Int.toNat (l.getD i default).1) default) (l.getD i default).2=some k ∧
   (i+1<l.length→(l.getD (i+1) default).2=((xs.getD (Int.toNat (l.getD i default).1) default).Rows.getD k default).Out) ∧
   TearI n (l.take (i+1)) (xs.set (Int.toNat (l.getD i default).1) ⟨(xs.getD (Int.toNat (l.getD i default).1) default).Rows.take k++(xs.getD (Int.toNat (l.getD i default).1) default).Rows.drop (k+1),(xs.getD (Int.toNat (l.getD i default).1) default).Qc⟩):=by
 obtain ⟨k0,e0,n0⟩:=(path_step _ _ _ _ hp).2.2.1 i hi
 have hr:=pathFrom_all h _ _ _ _ h0 h1 hp _ (getD_mem l hi)
 have inj:=fun j hj (e:l.getD j default=l.getD i default)=>path_inj hp hj hi e
 have htake:l.take (i+1)=l.take i++[l.getD i default]:=by rw [List.take_add_one,List.getElem?_eq_getElem hi,getD_lt l hi]; rfl
 generalize hx:l.getD i default=x at *
 obtain ⟨b,c⟩:=x
 simp only at e0 n0 hr inj ⊢
 have hb:Int.toNat b<n.Qa.length:=by omega
 have eb:=hT.2 _ hb
 have hpw:(n.Qa.getD b.toNat default).Rows.Pairwise (fun a b=>a.In<b.In):=inc_pair _ (fun r:Qk=>r.In) (h.box _ hb).rinc
 obtain ⟨f1,f2,_⟩:=first_some.1 e0
 have f2':((n.Qa.getD b.toNat default).Rows.getD k0 default).In=c:=by simpa using f2
 have hm:=getD_mem _ f1
 have hpw':(xs.getD b.toNat default).Rows.Pairwise (fun a b=>a.In<b.In):=by rw [eb]; exact hpw.filter _
 have hm':(n.Qa.getD b.toNat default).Rows.getD k0 default∈(xs.getD b.toNat default).Rows:=by
  rw [eb]
  refine List.mem_filter.2 ⟨hm,?_⟩
  simp only [Bool.not_eq_true',List.any_eq_false,Bool.and_eq_true,decide_eq_true_eq,not_and]
  intro y hy e1 e2
  obtain ⟨j,hj,rfl⟩:=mem_getD hy
  have hj':j<i∧j<l.length:=by rw [List.length_take] at hj; omega
  have ej:(l.take i).getD j default=l.getD j default:=by rw [getD_lt _ hj,getD_lt l hj'.2,List.getElem_take]
  rw [ej] at e1 e2
  have hrj:=pathFrom_all h _ _ _ _ h0 h1 hp _ (getD_mem l hj'.2)
  have:l.getD j default=(b,c):=Prod.ext (by show (l.getD j default).1=b; omega) (by show (l.getD j default).2=c; rw [← e2]; exact f2')
  have:=inj j hj'.2 this
  omega
 obtain ⟨k1,hk1,ek1⟩:=mem_getD hm'
 cases e:rowIx (xs.getD b.toNat default) c with
 | none =>
  have:=first_none.1 e k1 hk1
  rw [ek1,f2'] at this
  simp at this
 | some k =>
  obtain ⟨g1,g2,_⟩:=first_some.1 e
  have g2':((xs.getD b.toNat default).Rows.getD k default).In=c:=by simpa using g2
  have er:=pair_uniq hpw' (getD_mem _ g1) hm' (g2'.trans f2'.symm)
  refine ⟨k,rfl,fun hh=>by rw [er]; exact n0 hh,?_⟩
  rw [htake]
  refine hT.next (b,c) _ hb ?_
  rw [← eb,erase_filter hpw' g1 g2']
structure TearS (n:Qe) (box label:Int) (at':Int) (i:Int) (xs:List Qi):Prop where
 net:Qt n
 h0:0≤box
 h1:box<(n.Qa.length:Int)
 hi:0≤i
 ex:∃ l,Qs n box label=l.map (·.1)∧Qp n n.Qa.length box label=some l∧TearI n (l.take i.toNat) xs∧(i<(l.length:Int)→at'=(l.getD i.toNat default).2)
theorem getD_map1 {α β:Type} [Inhabited α] [Inhabited β] (f:α→β) (l:List α) {k:Nat} (h:k<l.length):(l.map f).getD k default=f (l.getD k default):=by
 rw [getD_lt _ (by simpa using h),getD_lt _ h,List.getElem_map]
theorem TearS.zero {n:Qe} {box label:Int} (h:¬ ((Qs n box label).length:Int)=0):TearS n box label label 0 n.Qa:=by
 unfold Qs at h
 cases hb:netB n&&decide (0≤box∧box≤(n.Qa.length:Int)-1) with
 | false=>rw [hb] at h; exact absurd rfl h
 | true =>
  have hb2:=hb
  rw [hb,cond_true] at h
  simp only [Bool.and_eq_true,decide_eq_true_eq] at hb2
  obtain ⟨h1,h2,h3⟩:=hb2
  cases e:Qp n n.Qa.length box label with
  | none=>rw [e] at h; exact absurd rfl h
  | some l =>
   refine ⟨netB_T n h1,h2,by omega,by omega,l,?_,e,?_,fun _=>?_⟩
   ·unfold Qs; rw [hb,cond_true,e]; rfl
   ·exact ⟨rfl,fun k _=>(tearBox_nil n k).symm⟩
   ·rw [show Int.toNat 0=0 from rfl,(path_step _ _ _ _ e).2.1]
theorem TearI.bound {n:Qe} (h:Qt n) {l:List (Int×Int)} {xs:List Qi} (hT:TearI n l xs) (k:Nat):(xs.getD k default).Rows.length≤60∧(xs.getD k default).Qc.length≤60:=by
 by_cases hk:k<n.Qa.length
 ·rw [hT.2 k hk]
  have h1:=Qt.rows h k
  have h2:=Qt.vias h k
  have h3:=List.length_filter_le (fun r=>!(l.any (fun x=>decide (Int.toNat x.1=k)&&decide (r.In=x.2)))) (n.Qa.getD k default).Rows
  unfold tearBox
  exact ⟨by simp only; omega,by simp only; omega⟩
 ·have:=hT.1
  rw [getD_ge _ (by omega)]; exact ⟨Nat.zero_le _,Nat.zero_le _⟩
theorem TearS.bound {n:Qe} {box label at' i:Int} {xs:List Qi} (h:TearS n box label at' i xs) (k:Nat):(xs.getD k default).Rows.length≤60∧(xs.getD k default).Qc.length≤60:=by
 obtain ⟨net,h0,h1,h2,l,e1,e2,e3,e4⟩:=h
 exact e3.bound net k
theorem TearS.in_ {n:Qe} {box label at' i:Int} {xs:List Qi} (h:TearS n box label at' i xs) (hi:i<((Qs n box label).length:Int)) :
  0≤(Qs n box label).getD i.toNat default∧(Qs n box label).getD i.toNat default<(n.Qa.length:Int)∧xs.length=n.Qa.length ∧
  0≤oix (rowIx (xs.getD ((Qs n box label).getD i.toNat default).toNat default) at')∧(xs.getD ((Qs n box label).getD i.toNat default).toNat default).Rows.length≤60:=by
 have hbd:=h.bound ((Qs n box label).getD i.toNat default).toNat
 obtain ⟨net,h0,h1,h2,l,e1,e2,e3,e4⟩:=h
 rw [e1] at hi hbd ⊢
 simp only [List.length_map] at hi
 have hk:Int.toNat i<l.length:=by omega
 rw [getD_map1 _ _ hk] at hbd
 rw [getD_map1 _ _ hk,e4 hi]
 have hr:=pathFrom_all net _ _ _ _ h0 h1 e2 _ (getD_mem l hk)
 obtain ⟨k,f1,_⟩:=tear_row net h0 h1 e2 hk e3
 rw [f1]
 exact ⟨hr.1,hr.2,e3.1,by simp only [oix]; omega,hbd.1⟩
theorem TearS.next {n:Qe} {box label at' i:Int} {xs:List Qi} (h:TearS n box label at' i xs) (hi:i<((Qs n box label).length:Int)) :
  TearS n box label (((xs.getD ((Qs n box label).getD i.toNat default).toNat default).Rows).getD (oix (rowIx (xs.getD ((Qs n box label).getD i.toNat default).toNat default) at')).toNat default).Out (i+1)
   (xs.set ((Qs n box label).getD i.toNat default).toNat ⟨(([]:List Qk)++(xs.getD ((Qs n box label).getD i.toNat default).toNat default).Rows.take (oix (rowIx (xs.getD ((Qs n box label).getD i.toNat default).toNat default) at')).toNat)++(xs.getD ((Qs n box label).getD i.toNat default).toNat default).Rows.drop (oix (rowIx (xs.getD ((Qs n box label).getD i.toNat default).toNat default) at')+1).toNat,(xs.getD ((Qs n box label).getD i.toNat default).toNat default).Qc⟩):=by
 obtain ⟨net,h0,h1,h2,l,e1,e2,e3,e4⟩:=h
 refine ⟨net,h0,h1,by omega,l,e1,e2,?_⟩
 rw [e1] at hi ⊢
 simp only [List.length_map] at hi
 have hk:Int.toNat i<l.length:=by omega
 rw [getD_map1 _ _ hk,e4 hi]
 obtain ⟨k,f1,f2,f3⟩:=tear_row net h0 h1 e2 hk e3
 rw [f1]
 simp only [oix,List.nil_append]
 rw [show Int.toNat (k:Int)=k from by omega,show Int.toNat ((k:Int)+1)=k+1 from by omega,show Int.toNat (i+1)=Int.toNat i+1 from by omega]
 exact ⟨f3,fun hh=>(f2 (by omega)).symm⟩
def F92_s0 (n:Qe) (box:Int) (label:Int):(Int×Int×List Qi)→Lp (Int×Int×List Qi) (Qe×Int):=fun (at',i40,xs) =>
 bif (decide (i40<((Qs n box label).length:Int))) then (bif (F114 n ((Qs n box label).getD i40.toNat default) at') then (.ret (n,5)) else (.next (((xs.getD ((Qs n box label).getD i40.toNat default).toNat default).Rows.getD (oix (rowIx (xs.getD ((Qs n box label).getD i40.toNat default).toNat default) at')).toNat default).Out,(i40+1),(xs.set (((Qs n box label).getD i40.toNat default)).toNat (⟨((([]:List Qk)++((xs.getD ((Qs n box label).getD i40.toNat default).toNat default).Rows.take (oix (rowIx (xs.getD ((Qs n box label).getD i40.toNat default).toNat default) at')).toNat))++((xs.getD ((Qs n box label).getD i40.toNat default).toNat default).Rows.drop ((oix (rowIx (xs.getD ((Qs n box label).getD i40.toNat default).toNat default) at'))+1).toNat)),(xs.getD ((Qs n box label).getD i40.toNat default).toNat default).Qc⟩:Qi))))) else (.done (at',i40,xs))
def F92_j0 (n:Qe) (box:Int) (label:Int):Lp (List Qi) (Qe×Int) :=
 (runL (F92_s0 n box label) ((((Qs n box label).length:Int)-0).toNat+1) (label,0,n.Qa)).fin Lp.ret (fun (at',i40,xs)=>.done xs)
def F92 (n:Qe) (box:Int) (label:Int):Qe×Int :=
 bif (!(netB n)) then ((⟨[],[]⟩:Qe),1) else (bif (((Qs n box label).length:Int)==0) then (n,2) else (bif (F113 n box label) then (n,4) else ((F92_j0 n box label).fin (fun r=>r) (fun x9=>((⟨n.Qb,x9⟩:Qe),0)))))
def S92 (R:Qe×Int) (n:Qe) (box:Int) (label:Int):Spec:=⟨[.r (.g (Qf n)),.r (.c (.v (vI box))),.r (.c (.v (vI label)))],.tu [.ag [.ow (.l 2 Qh R.1.Qb),.ow (.l 2 Qj R.1.Qa)],.v (vI R.2)],True⟩
theorem ok92 (n:Qe) (box:Int) (label:Int):(S92 (F92 n box label) n box label).ok Tryz.prog 92 :=
 fnG_ok mixed (fn:=Tryz.f92) (ct:=.seq (.no) (.seq (.seq (.reg [(1,.call 32 (S32 (netB n) n) (oa32 n) none)]) (.cond (.seq (.no) (.no)) (.no))) (.seq (.reg [(1,.call 33 (S33 n n) (oa33 n) none)]) (.seq (.reg [(3,.call 112 (S112 (Qs n box label) n box label) (oa112 n box label) none)]) (.seq (.seq (.no) (.cond (.seq (.no) (.no)) (.no))) (.seq (.seq (.reg [(3,.call 113 (S113 n box label) (ok113 n box label) none)]) (.cond (.seq (.no) (.no)) (.no))) (.seq (.no) (.cut (ι:=List Qi) (fun j=>(fun (x9:List Qi)=>(⟨[(6,some (.p 0 0)),(8,some (.p 1 0))],[(0,some (.box 26 [.v (.slice none 0 0),.v (.slice none 0 0)])),(1,some (.box 26 [.h 2 0,.h 3 0])),(2,some (.own 2 (.l 2 Qh n.Qb))),(3,some (.own 3 (.l 2 Qj x9)))],4⟩:St)) j) (fun j=>(fun (x9:List Qi)=>((F92_j0 n box label)=Lp.done j∧x9.length=n.Qa.length∧(∀ k:Nat,(x9.getD k default).Rows.length≤60∧(x9.getD k default).Qc.length≤60))) j) (.seqk [(3,0),(3,1),(8,0),(8,1),(9,0)] (.no) (.blk (.loop (ι:=Nat×(Int×Int×List Qi)) (fun i=>(fun (at':Int) (i40:Int) (xs:List Qi)=>(⟨[(3,some (.p 0 0)),(6,some (.p 3 0)),(8,some (.p 4 0)),(9,some (.h 7 0)),(10,some (.v (vI at'))),(11,some (.v (vI i40)))],[(0,some (.box 26 [.h 1 0,.h 2 0])),(1,some (.shr none (.l 2 Qh n.Qb))),(2,some (.shr none (.l 2 Qj n.Qa))),(3,some (.box 26 [.v (.slice none 0 0),.v (.slice none 0 0)])),(4,some (.box 26 [.h 5 0,.h 6 0])),(5,some (.own 5 (.l 2 Qh n.Qb))),(6,some (.own 6 (.l 2 Qj xs))),(7,some (.own 7 (.l 1 eInt (Qs n box label))))],8⟩:St)) i.2.1 i.2.2.1 i.2.2.2) (fun i=>runL (F92_s0 n box label) i.1 i.2=(runL (F92_s0 n box label) ((((Qs n box label).length:Int)-0).toNat+1) (label,0,n.Qa))∧(fun (at':Int) (i40:Int) (xs:List Qi)=>(Int.toNat (((Qs n box label).length:Int)-i40)<i.1∧TearS n box label at' i40 xs∧(i40<((Qs n box label).length:Int)→0≤(Qs n box label).getD i40.toNat default∧(Qs n box label).getD i40.toNat default<(n.Qa.length:Int)∧xs.length=n.Qa.length∧0≤oix (rowIx (xs.getD ((Qs n box label).getD i40.toNat default).toNat default) at')∧(xs.getD ((Qs n box label).getD i40.toNat default).toNat default).Rows.length≤60)∧(0:Int)≤i40∧xs.length=n.Qa.length)) i.2.1 i.2.2.1 i.2.2.2) (fun i=>i.1) (((((Qs n box label).length:Int)-0).toNat+1),(label,0,n.Qa)) (fun i=>(fun (at':Int) (i40:Int) (xs:List Qi)=>(.seq (.seq (.no) (.cond (.no) (.no))) (.seq (.blk (.seq (.seq (.reg [(6,.call 114 (S114 n ((Qs n box label).getD i40.toNat default) at') (ok114 n ((Qs n box label).getD i40.toNat default) at') none)]) (.cond (.seq (.reg [(1,.call 33 (S33 n n) (oa33 n) none)]) (.no)) (.no))) (.seq (.reg [(9,.call 46 (S46 (oix (rowIx (xs.getD ((Qs n box label).getD i40.toNat default).toNat default) at')) (xs.getD ((Qs n box label).getD i40.toNat default).toNat default) at') (oa46 (xs.getD ((Qs n box label).getD i40.toNat default).toNat default) at') none)]) (.seq (.no) (.reg [(6,.dat (.l 3 Ql ([]:List Qk))),(18,.dat (.l 3 Ql (([]:List Qk)++((xs.getD ((Qs n box label).getD i40.toNat default).toNat default).Rows.take (oix (rowIx (xs.getD ((Qs n box label).getD i40.toNat default).toNat default) at')).toNat)))),(29,.bnd),(31,.dat (.l 3 Ql ((([]:List Qk)++((xs.getD ((Qs n box label).getD i40.toNat default).toNat default).Rows.take (oix (rowIx (xs.getD ((Qs n box label).getD i40.toNat default).toNat default) at')).toNat))++((xs.getD ((Qs n box label).getD i40.toNat default).toNat default).Rows.drop ((oix (rowIx (xs.getD ((Qs n box label).getD i40.toNat default).toNat default) at'))+1).toNat)))),(34,.dat (.l 2 Qj (xs.set (((Qs n box label).getD i40.toNat default)).toNat (⟨((([]:List Qk)++((xs.getD ((Qs n box label).getD i40.toNat default).toNat default).Rows.take (oix (rowIx (xs.getD ((Qs n box label).getD i40.toNat default).toNat default) at')).toNat))++((xs.getD ((Qs n box label).getD i40.toNat default).toNat default).Rows.drop ((oix (rowIx (xs.getD ((Qs n box label).getD i40.toNat default).toNat default) at'))+1).toNat)),(xs.getD ((Qs n box label).getD i40.toNat default).toNat default).Qc⟩:Qi))))]))))) (.reg [(1,.bnd)])))) i.2.1 i.2.2.1 i.2.2.2)))) (fun j=>(fun (x9:List Qi)=>(.seq (.reg [(1,.call 33 (S33 (⟨n.Qb,x9⟩:Qe) (⟨n.Qb,x9⟩:Qe)) (oa33 (⟨n.Qb,x9⟩:Qe)) none)]) (.no))) j))))))))) Tryz.func92 (fun (_:True)=>ai (trivial) (ai ((Imps.refl (Qf n))) (ai (fun h1:(!(netB n))=true=>(fun hF:((⟨[],[]⟩:Qe),1)=(F92 n box label)=>ai ((Imp.nil 2 Qh).trans (Imp.of_eq (congrArg (fun r:Qe×Int=>Dat.l 2 Qh r.1.Qb) hF))) (ai ((Imp.nil 2 Qj).trans (Imp.of_eq (congrArg (fun r:Qe×Int=>Dat.l 2 Qj r.1.Qa) hF))) (ai (congrArg (fun r:Qe×Int=>(.int .i64 r.2:Value)) hF) (trivial)))) (condT h1 (rfl))) (fun h1:(!(netB n))=false=>(fun _:n.Qb.length≤14=>(fun _:n.Qa.length≤8=>(fun _:Qt n=>ai ((ai ((by first | omega | (intro k; have:=(by assumption:∀ k:Nat,(x9.getD k default).Rows.length≤60∧(x9.getD k default).Qc.length≤60) k; omega) | (intro k; have:=Qt.rows (by assumption:Qt n) k; have:=Qt.vias (by assumption:Qt n) k; omega):n.Qb.length≤1000000000)) (ai ((by first | omega | (intro k; have:=(by assumption:∀ k:Nat,(x9.getD k default).Rows.length≤60∧(x9.getD k default).Qc.length≤60) k; omega) | (intro k; have:=Qt.rows (by assumption:Qt n) k; have:=Qt.vias (by assumption:Qt n) k; omega):n.Qa.length≤1000000000)) (ai ((by first | omega | (intro k; have:=(by assumption:∀ k:Nat,(x9.getD k default).Rows.length≤60∧(x9.getD k default).Qc.length≤60) k; omega) | (intro k; have:=Qt.rows (by assumption:Qt n) k; have:=Qt.vias (by assumption:Qt n) k; omega):∀ k:Nat,(n.Qa.getD k default).Rows.length≤1000000000)) ((by first | omega | (intro k; have:=(by assumption:∀ k:Nat,(x9.getD k default).Rows.length≤60∧(x9.getD k default).Qc.length≤60) k; omega) | (intro k; have:=Qt.rows (by assumption:Qt n) k; have:=Qt.vias (by assumption:Qt n) k; omega):∀ k:Nat,(n.Qa.getD k default).Qc.length≤1000000000)))))) (ai ((Imps.refl (Qf n))) (ai (trivial) (ai ((Imps.refl (Qf n))) (ai ((Imp.refl (.v (vI box)))) (ai ((Imp.refl (.v (vI label)))) (ai (fun h2:(((Qs n box label).length:Int)==0)=true=>(fun _:((Qs n box label).length:Int)=0=>(fun hF:(n,2)=(F92 n box label)=>ai (Imp.of_eq (congrArg (fun r:Qe×Int=>Dat.l 2 Qh r.1.Qb) hF)) (ai (Imp.of_eq (congrArg (fun r:Qe×Int=>Dat.l 2 Qj r.1.Qa) hF)) (ai (congrArg (fun r:Qe×Int=>(.int .i64 r.2:Value)) hF) (trivial)))) (condF h1 (condT h2 (rfl)))) (eq_of_beq h2)) (fun h2:(((Qs n box label).length:Int)==0)=false=>(fun _:¬ ((Qs n box label).length:Int)=0=>ai (((by (intro k; have:=Qt.rows (by assumption:Qt n) k; omega):∀ k:Nat,(n.Qa.getD k default).Rows.length≤1000000000))) (ai ((Imps.refl (Qf n))) (ai ((Imp.refl (.v (vI box)))) (ai ((Imp.refl (.v (vI label)))) (ai (fun h3:(F113 n box label)=true=>(fun hF:(n,4)=(F92 n box label)=>ai (Imp.of_eq (congrArg (fun r:Qe×Int=>Dat.l 2 Qh r.1.Qb) hF)) (ai (Imp.of_eq (congrArg (fun r:Qe×Int=>Dat.l 2 Qj r.1.Qa) hF)) (ai (congrArg (fun r:Qe×Int=>(.int .i64 r.2:Value)) hF) (trivial)))) (condF h1 (condF h2 (condT h3 (rfl))))) (fun h3:(F113 n box label)=false=>ai (fun (_:n.Qb.length≤9223372036854775807)=>fun (_:n.Qa.length≤9223372036854775807)=>fun (_:n.Qb.length≤9223372036854775807)=>fun (_:n.Qa.length≤9223372036854775807)=>fun (_:(Qs n box label).length≤9223372036854775807)=>ai (ai (rfl) (ai (rfl) (ai (ir) (ai (ir) (ai (rfl) (ai (rfl) (ai (ir) (ai (ir) (ai (ir) ((ai (rfl:runL (F92_s0 n box label) ((((Qs n box label).length:Int)-0).toNat+1) (label,0,n.Qa)=(runL (F92_s0 n box label) ((((Qs n box label).length:Int)-0).toNat+1) (label,0,n.Qa))) (ai ((Nat.lt_succ_self _:Int.toNat (((Qs n box label).length:Int)-0)<((((Qs n box label).length:Int)-0).toNat+1))) (ai ((by first | omega | (simp only [lens] at*<;> omega) | (exact TearS.zero (by assumption)) | (exact TearS.next (by assumption) (by assumption)) | (exact fun hi=>TearS.in_ (by first | assumption | exact TearS.zero (by assumption) | exact TearS.next (by assumption) (by assumption)) hi):TearS n box label label 0 n.Qa)) (ai ((by first | omega | (simp only [lens] at*<;> omega) | (exact TearS.zero (by assumption)) | (exact TearS.next (by assumption) (by assumption)) | (exact fun hi=>TearS.in_ (by first | assumption | exact TearS.zero (by assumption) | exact TearS.next (by assumption) (by assumption)) hi):0<((Qs n box label).length:Int)→0≤(Qs n box label).getD (Int.toNat 0) default∧(Qs n box label).getD (Int.toNat 0) default<(n.Qa.length:Int)∧n.Qa.length=n.Qa.length∧0≤oix (rowIx (n.Qa.getD ((Qs n box label).getD (Int.toNat 0) default).toNat default) label)∧(n.Qa.getD ((Qs n box label).getD (Int.toNat 0) default).toNat default).Rows.length≤60)) (ai ((by first | omega | (simp only [lens] at*<;> omega) | (exact TearS.zero (by assumption)) | (exact TearS.next (by assumption) (by assumption)) | (exact fun hi=>TearS.in_ (by first | assumption | exact TearS.zero (by assumption) | exact TearS.next (by assumption) (by assumption)) hi):(0:Int)≤0)) ((by first | omega | (simp only [lens] at*<;> omega) | (exact TearS.zero (by assumption)) | (exact TearS.next (by assumption) (by assumption)) | (exact fun hi=>TearS.in_ (by first | assumption | exact TearS.zero (by assumption) | exact TearS.next (by assumption) (by assumption)) hi):n.Qa.length=n.Qa.length)))))))))))))))):((.int .i64 label:Value)=.int .i64 label)∧((.int .i64 0:Value)=.int .i64 0)∧(Imp (.l 2 Qh n.Qb) (.l 2 Qh n.Qb))∧(Imp (.l 2 Qj n.Qa) (.l 2 Qj n.Qa))∧((.slice none 0 0:Value)=.slice none 0 0)∧((.slice none 0 0:Value)=.slice none 0 0)∧(Imp (.l 2 Qh n.Qb) (.l 2 Qh n.Qb))∧(Imp (.l 2 Qj n.Qa) (.l 2 Qj n.Qa))∧(Imp (.l 1 eInt (Qs n box label)) (.l 1 eInt (Qs n box label)))∧(runL (F92_s0 n box label) ((((Qs n box label).length:Int)-0).toNat+1) (label,0,n.Qa)=(runL (F92_s0 n box label) ((((Qs n box label).length:Int)-0).toNat+1) (label,0,n.Qa))∧Int.toNat (((Qs n box label).length:Int)-0)<((((Qs n box label).length:Int)-0).toNat+1)∧TearS n box label label 0 n.Qa∧(0<((Qs n box label).length:Int)→0≤(Qs n box label).getD (Int.toNat 0) default∧(Qs n box label).getD (Int.toNat 0) default<(n.Qa.length:Int)∧n.Qa.length=n.Qa.length∧0≤oix (rowIx (n.Qa.getD ((Qs n box label).getD (Int.toNat 0) default).toNat default) label)∧(n.Qa.getD ((Qs n box label).getD (Int.toNat 0) default).toNat default).Rows.length≤60)∧(0:Int)≤0∧n.Qa.length=n.Qa.length)) (fun (i0:Nat×(Int×Int×List Qi)) (hi0:runL (F92_s0 n box label) i0.1 i0.2=(runL (F92_s0 n box label) ((((Qs n box label).length:Int)-0).toNat+1) (label,0,n.Qa))∧(fun (at':Int) (i40:Int) (xs:List Qi)=>(Int.toNat (((Qs n box label).length:Int)-i40)<i0.1∧TearS n box label at' i40 xs∧(i40<((Qs n box label).length:Int)→0≤(Qs n box label).getD i40.toNat default∧(Qs n box label).getD i40.toNat default<(n.Qa.length:Int)∧xs.length=n.Qa.length∧0≤oix (rowIx (xs.getD ((Qs n box label).getD i40.toNat default).toNat default) at')∧(xs.getD ((Qs n box label).getD i40.toNat default).toNat default).Rows.length≤60)∧(0:Int)≤i40∧xs.length=n.Qa.length)) i0.2.1 i0.2.2.1 i0.2.2.2)=>(fun (m0:Nat) (at':Int) (i40:Int) (xs:List Qi) (hI0:runL (F92_s0 n box label) (m0+1) (at',i40,xs)=(runL (F92_s0 n box label) ((((Qs n box label).length:Int)-0).toNat+1) (label,0,n.Qa))) (_:Int.toNat (((Qs n box label).length:Int)-i40)<m0+1) (hl0:m0<i0.1) (_:TearS n box label at' i40 xs) (_:i40<((Qs n box label).length:Int)→0≤(Qs n box label).getD i40.toNat default∧(Qs n box label).getD i40.toNat default<(n.Qa.length:Int)∧xs.length=n.Qa.length∧0≤oix (rowIx (xs.getD ((Qs n box label).getD i40.toNat default).toNat default) at')∧(xs.getD ((Qs n box label).getD i40.toNat default).toNat default).Rows.length≤60) (_:(0:Int)≤i40) (_:xs.length=n.Qa.length)=>ai (fun h5:(decide (i40<((Qs n box label).length:Int)))=true=>(fun _:i40<((Qs n box label).length:Int)=>ai ((by first | omega | (simp only [lens] at*<;> omega):0≤i40∧i40<((Qs n box label).length:Int))) (ai (((by (intro k; have:=Qt.vias (by assumption:Qt n) k; omega):∀ k:Nat,(n.Qa.getD k default).Qc.length≤1000000000))) (ai ((Imps.refl (Qf n))) (ai ((Imp.refl (.v (vI ((Qs n box label).getD i40.toNat default))))) (ai ((Imp.refl (.v (vI at')))) (ai (fun h6:(F114 n ((Qs n box label).getD i40.toNat default) at')=true=>ai ((ai ((by first | omega | (intro k; have:=(by assumption:∀ k:Nat,(x9.getD k default).Rows.length≤60∧(x9.getD k default).Qc.length≤60) k; omega) | (intro k; have:=Qt.rows (by assumption:Qt n) k; have:=Qt.vias (by assumption:Qt n) k; omega):n.Qb.length≤1000000000)) (ai ((by first | omega | (intro k; have:=(by assumption:∀ k:Nat,(x9.getD k default).Rows.length≤60∧(x9.getD k default).Qc.length≤60) k; omega) | (intro k; have:=Qt.rows (by assumption:Qt n) k; have:=Qt.vias (by assumption:Qt n) k; omega):n.Qa.length≤1000000000)) (ai ((by first | omega | (intro k; have:=(by assumption:∀ k:Nat,(x9.getD k default).Rows.length≤60∧(x9.getD k default).Qc.length≤60) k; omega) | (intro k; have:=Qt.rows (by assumption:Qt n) k; have:=Qt.vias (by assumption:Qt n) k; omega):∀ k:Nat,(n.Qa.getD k default).Rows.length≤1000000000)) ((by first | omega | (intro k; have:=(by assumption:∀ k:Nat,(x9.getD k default).Rows.length≤60∧(x9.getD k default).Qc.length≤60) k; omega) | (intro k; have:=Qt.rows (by assumption:Qt n) k; have:=Qt.vias (by assumption:Qt n) k; omega):∀ k:Nat,(n.Qa.getD k default).Qc.length≤1000000000)))))) (ai ((Imps.refl (Qf n))) ((fun hF:(n,5)=(F92 n box label)=>ai (Imp.of_eq (congrArg (fun r:Qe×Int=>Dat.l 2 Qh r.1.Qb) hF)) (ai (Imp.of_eq (congrArg (fun r:Qe×Int=>Dat.l 2 Qj r.1.Qa) hF)) (ai (congrArg (fun r:Qe×Int=>(.int .i64 r.2:Value)) hF) (trivial)))) (condF h1 (condF h2 (condF h3 (finR (Eq.symm (finR (runL_ret hI0 (condT h5 (condT h6 (rfl)))) rfl)) rfl))))))) (fun h6:(F114 n ((Qs n box label).getD i40.toNat default) at')=false=>ai ((by first | omega | (simp only [lens] at*<;> omega):0≤i40∧i40<((Qs n box label).length:Int))) (ai ((by first | omega | (simp only [lens] at*<;> omega):0≤((Qs n box label).getD i40.toNat default)∧((Qs n box label).getD i40.toNat default)<(xs.length:Int))) (ai (trivial) (ai ((Imps.refl (Qj (xs.getD ((Qs n box label).getD i40.toNat default).toNat default)))) (ai ((Imp.refl (.v (vI at')))) ((fun gv7:(oix (rowIx (xs.getD ((Qs n box label).getD i40.toNat default).toNat default) at'))<((xs.getD ((Qs n box label).getD i40.toNat default).toNat default).Rows.length:Int)=>ai ((by first | omega | (simp only [lens] at*<;> omega):0≤i40∧i40<((Qs n box label).length:Int))) (ai ((by first | omega | (simp only [lens] at*<;> omega):0≤((Qs n box label).getD i40.toNat default)∧((Qs n box label).getD i40.toNat default)<(xs.length:Int))) (ai ((by first | omega | (simp only [lens] at*<;> omega):0≤(oix (rowIx (xs.getD ((Qs n box label).getD i40.toNat default).toNat default) at'))∧(oix (rowIx (xs.getD ((Qs n box label).getD i40.toNat default).toNat default) at'))<((xs.getD ((Qs n box label).getD i40.toNat default).toNat default).Rows.length:Int))) (ai ((by first | omega | (simp only [lens] at*<;> omega):0≤i40∧i40<((Qs n box label).length:Int))) (ai ((BuildOK.mk Ql ([]:List Qk) rfl (by exact trivial) (fun _=>rfl):BuildOK 0 3 [] (.l 3 Ql ([]:List Qk)))) (ai ((by first | omega | (simp only [lens] at*<;> omega):0≤i40∧i40<((Qs n box label).length:Int))) (ai ((by first | omega | (simp only [lens] at*<;> omega):0≤((Qs n box label).getD i40.toNat default)∧((Qs n box label).getD i40.toNat default)<(xs.length:Int))) (ai ((by first | omega | (simp only [lens] at*<;> omega):0≤(0:Int)∧(0:Int)≤(oix (rowIx (xs.getD ((Qs n box label).getD i40.toNat default).toNat default) at'))∧(oix (rowIx (xs.getD ((Qs n box label).getD i40.toNat default).toNat default) at'))≤((xs.getD ((Qs n box label).getD i40.toNat default).toNat default).Rows.length:Int))) (ai ((AppL.mk Ql ([]:List Qk) ((xs.getD ((Qs n box label).getD i40.toNat default).toNat default).Rows.take (oix (rowIx (xs.getD ((Qs n box label).getD i40.toNat default).toNat default) at')).toNat) (Imp.refl (.l 3 Ql ([]:List Qk))) ir (fun y=>⟨rfl,fun e he=>by simp only [Ql,List.mem_cons,List.not_mem_nil,or_false] at he; rcases he with rfl | rfl | rfl <;> exact ⟨_,rfl⟩⟩):AppL (.l 3 Ql ([]:List Qk)) (.l 3 Ql ((xs.getD ((Qs n box label).getD i40.toNat default).toNat default).Rows.take (oix (rowIx (xs.getD ((Qs n box label).getD i40.toNat default).toNat default) at')).toNat)) 3 (.l 3 Ql (([]:List Qk)++((xs.getD ((Qs n box label).getD i40.toNat default).toNat default).Rows.take (oix (rowIx (xs.getD ((Qs n box label).getD i40.toNat default).toNat default) at')).toNat))))) (ai ((by (try simp only [lens]); omega:((([]:List Qk)++((xs.getD ((Qs n box label).getD i40.toNat default).toNat default).Rows.take (oix (rowIx (xs.getD ((Qs n box label).getD i40.toNat default).toNat default) at')).toNat))).length*24≤140737488355328)) (ai ((by first | omega | (simp only [lens] at*<;> omega):0≤i40∧i40<((Qs n box label).length:Int))) (ai ((by first | omega | (simp only [lens] at*<;> omega):0≤((Qs n box label).getD i40.toNat default)∧((Qs n box label).getD i40.toNat default)<(xs.length:Int))) (ai ((by unfold i64ok; first | omega | (simp only [lens] at*<;> omega):i64ok ((oix (rowIx (xs.getD ((Qs n box label).getD i40.toNat default).toNat default) at'))+1))) (ai ((by first | omega | (simp only [lens] at*<;> omega):0≤((oix (rowIx (xs.getD ((Qs n box label).getD i40.toNat default).toNat default) at'))+1)∧((oix (rowIx (xs.getD ((Qs n box label).getD i40.toNat default).toNat default) at'))+1)≤((xs.getD ((Qs n box label).getD i40.toNat default).toNat default).Rows.length:Int)∧((xs.getD ((Qs n box label).getD i40.toNat default).toNat default).Rows.length:Int)≤((xs.getD ((Qs n box label).getD i40.toNat default).toNat default).Rows.length:Int))) (ai ((AppL.mk Ql (([]:List Qk)++((xs.getD ((Qs n box label).getD i40.toNat default).toNat default).Rows.take (oix (rowIx (xs.getD ((Qs n box label).getD i40.toNat default).toNat default) at')).toNat)) ((xs.getD ((Qs n box label).getD i40.toNat default).toNat default).Rows.drop ((oix (rowIx (xs.getD ((Qs n box label).getD i40.toNat default).toNat default) at'))+1).toNat) (Imp.refl (.l 3 Ql (([]:List Qk)++((xs.getD ((Qs n box label).getD i40.toNat default).toNat default).Rows.take (oix (rowIx (xs.getD ((Qs n box label).getD i40.toNat default).toNat default) at')).toNat)))) ir (fun y=>⟨rfl,fun e he=>by simp only [Ql,List.mem_cons,List.not_mem_nil,or_false] at he; rcases he with rfl | rfl | rfl <;> exact ⟨_,rfl⟩⟩):AppL (.l 3 Ql (([]:List Qk)++((xs.getD ((Qs n box label).getD i40.toNat default).toNat default).Rows.take (oix (rowIx (xs.getD ((Qs n box label).getD i40.toNat default).toNat default) at')).toNat))) (.l 3 Ql ((xs.getD ((Qs n box label).getD i40.toNat default).toNat default).Rows.drop ((oix (rowIx (xs.getD ((Qs n box label).getD i40.toNat default).toNat default) at'))+1).toNat)) 3 (.l 3 Ql ((([]:List Qk)++((xs.getD ((Qs n box label).getD i40.toNat default).toNat default).Rows.take (oix (rowIx (xs.getD ((Qs n box label).getD i40.toNat default).toNat default) at')).toNat))++((xs.getD ((Qs n box label).getD i40.toNat default).toNat default).Rows.drop ((oix (rowIx (xs.getD ((Qs n box label).getD i40.toNat default).toNat default) at'))+1).toNat))))) (ai ((by (try simp only [lens]); omega:(((([]:List Qk)++((xs.getD ((Qs n box label).getD i40.toNat default).toNat default).Rows.take (oix (rowIx (xs.getD ((Qs n box label).getD i40.toNat default).toNat default) at')).toNat))++((xs.getD ((Qs n box label).getD i40.toNat default).toNat default).Rows.drop ((oix (rowIx (xs.getD ((Qs n box label).getD i40.toNat default).toNat default) at'))+1).toNat))).length*24≤140737488355328)) (ai ((by first | omega | (simp only [lens] at*<;> omega):0≤((Qs n box label).getD i40.toNat default)∧((Qs n box label).getD i40.toNat default)<(xs.length:Int))) (ai ((SetOK.mk Qj xs (⟨((([]:List Qk)++((xs.getD ((Qs n box label).getD i40.toNat default).toNat default).Rows.take (oix (rowIx (xs.getD ((Qs n box label).getD i40.toNat default).toNat default) at')).toNat))++((xs.getD ((Qs n box label).getD i40.toNat default).toNat default).Rows.drop ((oix (rowIx (xs.getD ((Qs n box label).getD i40.toNat default).toNat default) at'))+1).toNat)),(xs.getD ((Qs n box label).getD i40.toNat default).toNat default).Qc⟩:Qi) rfl (by exact ai ir (ai ir (trivial))):SetOK (.l 2 Qj xs) (((Qs n box label).getD i40.toNat default)).toNat (Qj (xs.getD ((Qs n box label).getD i40.toNat default).toNat default)) [.l 3 Ql ((([]:List Qk)++((xs.getD ((Qs n box label).getD i40.toNat default).toNat default).Rows.take (oix (rowIx (xs.getD ((Qs n box label).getD i40.toNat default).toNat default) at')).toNat))++((xs.getD ((Qs n box label).getD i40.toNat default).toNat default).Rows.drop ((oix (rowIx (xs.getD ((Qs n box label).getD i40.toNat default).toNat default) at'))+1).toNat)),.l 3 Qo (xs.getD ((Qs n box label).getD i40.toNat default).toNat default).Qc] (.l 2 Qj (xs.set (((Qs n box label).getD i40.toNat default)).toNat (⟨((([]:List Qk)++((xs.getD ((Qs n box label).getD i40.toNat default).toNat default).Rows.take (oix (rowIx (xs.getD ((Qs n box label).getD i40.toNat default).toNat default) at')).toNat))++((xs.getD ((Qs n box label).getD i40.toNat default).toNat default).Rows.drop ((oix (rowIx (xs.getD ((Qs n box label).getD i40.toNat default).toNat default) at'))+1).toNat)),(xs.getD ((Qs n box label).getD i40.toNat default).toNat default).Qc⟩:Qi))))) (ai ((by unfold i64ok; first | omega | (simp only [lens] at*<;> omega):i64ok (i40+1))) (Exists.intro (p:=fun j:Nat×(Int×Int×List Qi)=>(fun (at'_:Int) (i40_:Int) (xs_:List Qi)=>(((.int .i64 ((xs.getD ((Qs n box label).getD i40.toNat default).toNat default).Rows.getD (oix (rowIx (xs.getD ((Qs n box label).getD i40.toNat default).toNat default) at')).toNat default).Out:Value)=.int .i64 at'_)∧((.int .i64 (i40+1):Value)=.int .i64 i40_)∧(Imp (.l 2 Qh n.Qb) (.l 2 Qh n.Qb))∧(Imp (.l 2 Qj n.Qa) (.l 2 Qj n.Qa))∧((.slice none 0 0:Value)=.slice none 0 0)∧((.slice none 0 0:Value)=.slice none 0 0)∧(Imp (.l 2 Qh n.Qb) (.l 2 Qh n.Qb))∧(Imp (.l 2 Qj (xs.set (((Qs n box label).getD i40.toNat default)).toNat (⟨((([]:List Qk)++((xs.getD ((Qs n box label).getD i40.toNat default).toNat default).Rows.take (oix (rowIx (xs.getD ((Qs n box label).getD i40.toNat default).toNat default) at')).toNat))++((xs.getD ((Qs n box label).getD i40.toNat default).toNat default).Rows.drop ((oix (rowIx (xs.getD ((Qs n box label).getD i40.toNat default).toNat default) at'))+1).toNat)),(xs.getD ((Qs n box label).getD i40.toNat default).toNat default).Qc⟩:Qi))) (.l 2 Qj xs_))∧(Imp (.l 1 eInt (Qs n box label)) (.l 1 eInt (Qs n box label)))∧((runL (F92_s0 n box label) j.1 j.2=(runL (F92_s0 n box label) ((((Qs n box label).length:Int)-0).toNat+1) (label,0,n.Qa))∧Int.toNat (((Qs n box label).length:Int)-i40_)<j.1∧TearS n box label at'_ i40_ xs_∧(i40_<((Qs n box label).length:Int)→0≤(Qs n box label).getD i40_.toNat default∧(Qs n box label).getD i40_.toNat default<(n.Qa.length:Int)∧xs_.length=n.Qa.length∧0≤oix (rowIx (xs_.getD ((Qs n box label).getD i40_.toNat default).toNat default) at'_)∧(xs_.getD ((Qs n box label).getD i40_.toNat default).toNat default).Rows.length≤60)∧(0:Int)≤i40_∧xs_.length=n.Qa.length)∧j.1<i0.1))) j.2.1 j.2.2.1 j.2.2.2) (m0,(((xs.getD ((Qs n box label).getD i40.toNat default).toNat default).Rows.getD (oix (rowIx (xs.getD ((Qs n box label).getD i40.toNat default).toNat default) at')).toNat default).Out,(i40+1),(xs.set (((Qs n box label).getD i40.toNat default)).toNat (⟨((([]:List Qk)++((xs.getD ((Qs n box label).getD i40.toNat default).toNat default).Rows.take (oix (rowIx (xs.getD ((Qs n box label).getD i40.toNat default).toNat default) at')).toNat))++((xs.getD ((Qs n box label).getD i40.toNat default).toNat default).Rows.drop ((oix (rowIx (xs.getD ((Qs n box label).getD i40.toNat default).toNat default) at'))+1).toNat)),(xs.getD ((Qs n box label).getD i40.toNat default).toNat default).Qc⟩:Qi)))) (ai (rfl) (ai (rfl) (ai (ir) (ai (ir) (ai (rfl) (ai (rfl) (ai (ir) (ai (ir) (ai (ir) (ai (ai (runL_next hI0 (condT h5 (condF h6 (rfl)))) (ai ((by first | omega | (simp only [lens] at*<;> omega) | (exact TearS.zero (by assumption)) | (exact TearS.next (by assumption) (by assumption)) | (exact fun hi=>TearS.in_ (by first | assumption | exact TearS.zero (by assumption) | exact TearS.next (by assumption) (by assumption)) hi):Int.toNat (((Qs n box label).length:Int)-(i40+1))<m0)) (ai ((by first | omega | (simp only [lens] at*<;> omega) | (exact TearS.zero (by assumption)) | (exact TearS.next (by assumption) (by assumption)) | (exact fun hi=>TearS.in_ (by first | assumption | exact TearS.zero (by assumption) | exact TearS.next (by assumption) (by assumption)) hi):TearS n box label ((xs.getD ((Qs n box label).getD i40.toNat default).toNat default).Rows.getD (oix (rowIx (xs.getD ((Qs n box label).getD i40.toNat default).toNat default) at')).toNat default).Out (i40+1) (xs.set (((Qs n box label).getD i40.toNat default)).toNat (⟨((([]:List Qk)++((xs.getD ((Qs n box label).getD i40.toNat default).toNat default).Rows.take (oix (rowIx (xs.getD ((Qs n box label).getD i40.toNat default).toNat default) at')).toNat))++((xs.getD ((Qs n box label).getD i40.toNat default).toNat default).Rows.drop ((oix (rowIx (xs.getD ((Qs n box label).getD i40.toNat default).toNat default) at'))+1).toNat)),(xs.getD ((Qs n box label).getD i40.toNat default).toNat default).Qc⟩:Qi)))) (ai ((by first | omega | (simp only [lens] at*<;> omega) | (exact TearS.zero (by assumption)) | (exact TearS.next (by assumption) (by assumption)) | (exact fun hi=>TearS.in_ (by first | assumption | exact TearS.zero (by assumption) | exact TearS.next (by assumption) (by assumption)) hi):(i40+1)<((Qs n box label).length:Int)→0≤(Qs n box label).getD (i40+1).toNat default∧(Qs n box label).getD (i40+1).toNat default<(n.Qa.length:Int)∧(xs.set (((Qs n box label).getD i40.toNat default)).toNat (⟨((([]:List Qk)++((xs.getD ((Qs n box label).getD i40.toNat default).toNat default).Rows.take (oix (rowIx (xs.getD ((Qs n box label).getD i40.toNat default).toNat default) at')).toNat))++((xs.getD ((Qs n box label).getD i40.toNat default).toNat default).Rows.drop ((oix (rowIx (xs.getD ((Qs n box label).getD i40.toNat default).toNat default) at'))+1).toNat)),(xs.getD ((Qs n box label).getD i40.toNat default).toNat default).Qc⟩:Qi)).length=n.Qa.length∧0≤oix (rowIx ((xs.set (((Qs n box label).getD i40.toNat default)).toNat (⟨((([]:List Qk)++((xs.getD ((Qs n box label).getD i40.toNat default).toNat default).Rows.take (oix (rowIx (xs.getD ((Qs n box label).getD i40.toNat default).toNat default) at')).toNat))++((xs.getD ((Qs n box label).getD i40.toNat default).toNat default).Rows.drop ((oix (rowIx (xs.getD ((Qs n box label).getD i40.toNat default).toNat default) at'))+1).toNat)),(xs.getD ((Qs n box label).getD i40.toNat default).toNat default).Qc⟩:Qi)).getD ((Qs n box label).getD (i40+1).toNat default).toNat default) ((xs.getD ((Qs n box label).getD i40.toNat default).toNat default).Rows.getD (oix (rowIx (xs.getD ((Qs n box label).getD i40.toNat default).toNat default) at')).toNat default).Out)∧((xs.set (((Qs n box label).getD i40.toNat default)).toNat (⟨((([]:List Qk)++((xs.getD ((Qs n box label).getD i40.toNat default).toNat default).Rows.take (oix (rowIx (xs.getD ((Qs n box label).getD i40.toNat default).toNat default) at')).toNat))++((xs.getD ((Qs n box label).getD i40.toNat default).toNat default).Rows.drop ((oix (rowIx (xs.getD ((Qs n box label).getD i40.toNat default).toNat default) at'))+1).toNat)),(xs.getD ((Qs n box label).getD i40.toNat default).toNat default).Qc⟩:Qi)).getD ((Qs n box label).getD (i40+1).toNat default).toNat default).Rows.length≤60)) (ai ((by first | omega | (simp only [lens] at*<;> omega) | (exact TearS.zero (by assumption)) | (exact TearS.next (by assumption) (by assumption)) | (exact fun hi=>TearS.in_ (by first | assumption | exact TearS.zero (by assumption) | exact TearS.next (by assumption) (by assumption)) hi):(0:Int)≤(i40+1))) ((by first | omega | (simp only [lens] at*<;> omega) | (exact TearS.zero (by assumption)) | (exact TearS.next (by assumption) (by assumption)) | (exact fun hi=>TearS.in_ (by first | assumption | exact TearS.zero (by assumption) | exact TearS.next (by assumption) (by assumption)) hi):(xs.set (((Qs n box label).getD i40.toNat default)).toNat (⟨((([]:List Qk)++((xs.getD ((Qs n box label).getD i40.toNat default).toNat default).Rows.take (oix (rowIx (xs.getD ((Qs n box label).getD i40.toNat default).toNat default) at')).toNat))++((xs.getD ((Qs n box label).getD i40.toNat default).toNat default).Rows.drop ((oix (rowIx (xs.getD ((Qs n box label).getD i40.toNat default).toNat default) at'))+1).toNat)),(xs.getD ((Qs n box label).getD i40.toNat default).toNat default).Qc⟩:Qi)).length=n.Qa.length))))))) hl0)))))))))))))))))))))))))))))) (rowIx_lt (xs.getD ((Qs n box label).getD i40.toNat default).toNat default) at'))))))))))))) (of_decide_eq_true h5)) (fun h5:(decide (i40<((Qs n box label).length:Int)))=false=>(fun _:¬ i40<((Qs n box label).length:Int)=>(fun hD0_8:(runL (F92_s0 n box label) ((((Qs n box label).length:Int)-0).toNat+1) (label,0,n.Qa))=Lp.done (at',i40,xs)=>Exists.intro (p:=fun j:List Qi=>(fun (x9_:List Qi)=>(((.slice none 0 0:Value)=.slice none 0 0)∧((.slice none 0 0:Value)=.slice none 0 0)∧(Imp (.l 2 Qh n.Qb) (.l 2 Qh n.Qb))∧(Imp (.l 2 Qj xs) (.l 2 Qj x9_))∧(F92_j0 n box label)=Lp.done j∧x9_.length=n.Qa.length∧(∀ k:Nat,(x9_.getD k default).Rows.length≤60∧(x9_.getD k default).Qc.length≤60))) j) (xs) (ai (rfl) (ai (rfl) (ai (ir) (ai (ir) (ai (Eq.symm (finD hD0_8 (rfl))) (ai ((by first | omega | (simp only [lens] at*<;> omega) | omega | exact TearS.bound (by assumption):xs.length=n.Qa.length)) ((by first | omega | (simp only [lens] at*<;> omega) | omega | exact TearS.bound (by assumption):∀ k:Nat,(xs.getD k default).Rows.length≤60∧(xs.getD k default).Qc.length≤60))))))))) (runL_done hI0 (condF h5 (rfl)))) (of_decide_eq_false h5))) (i0.1-1) i0.2.1 i0.2.2.1 i0.2.2.2 (hd1 hi0.1 hi0.2.1) (hd2 hi0.2.1) (hd3 hi0.2.1) hi0.2.2.1 hi0.2.2.2.1 hi0.2.2.2.2.1 hi0.2.2.2.2.2)) (fun (j:List Qi) (hj:(fun (x9:List Qi)=>((F92_j0 n box label)=Lp.done j∧x9.length=n.Qa.length∧(∀ k:Nat,(x9.getD k default).Rows.length≤60∧(x9.getD k default).Qc.length≤60))) j)=>(fun (x9:List Qi) (hJ0_9:(F92_j0 n box label)=Lp.done x9) (_:x9.length=n.Qa.length) (_:∀ k:Nat,(x9.getD k default).Rows.length≤60∧(x9.getD k default).Qc.length≤60)=>ai ((ai ((by first | omega | (intro k; have:=(by assumption:∀ k:Nat,(x9.getD k default).Rows.length≤60∧(x9.getD k default).Qc.length≤60) k; omega) | (intro k; have:=Qt.rows (by assumption:Qt n) k; have:=Qt.vias (by assumption:Qt n) k; omega):n.Qb.length≤1000000000)) (ai ((by first | omega | (intro k; have:=(by assumption:∀ k:Nat,(x9.getD k default).Rows.length≤60∧(x9.getD k default).Qc.length≤60) k; omega) | (intro k; have:=Qt.rows (by assumption:Qt n) k; have:=Qt.vias (by assumption:Qt n) k; omega):x9.length≤1000000000)) (ai ((by first | omega | (intro k; have:=(by assumption:∀ k:Nat,(x9.getD k default).Rows.length≤60∧(x9.getD k default).Qc.length≤60) k; omega) | (intro k; have:=Qt.rows (by assumption:Qt n) k; have:=Qt.vias (by assumption:Qt n) k; omega):∀ k:Nat,(x9.getD k default).Rows.length≤1000000000)) ((by first | omega | (intro k; have:=(by assumption:∀ k:Nat,(x9.getD k default).Rows.length≤60∧(x9.getD k default).Qc.length≤60) k; omega) | (intro k; have:=Qt.rows (by assumption:Qt n) k; have:=Qt.vias (by assumption:Qt n) k; omega):∀ k:Nat,(x9.getD k default).Qc.length≤1000000000)))))) (ai ((Imps.refl (Qf (⟨n.Qb,x9⟩:Qe)))) ((fun hF:((⟨n.Qb,x9⟩:Qe),0)=(F92 n box label)=>ai (Imp.of_eq (congrArg (fun r:Qe×Int=>Dat.l 2 Qh r.1.Qb) hF)) (ai (Imp.of_eq (congrArg (fun r:Qe×Int=>Dat.l 2 Qj r.1.Qa) hF)) (ai (congrArg (fun r:Qe×Int=>(.int .i64 r.2:Value)) hF) (trivial)))) (condF h1 (condF h2 (condF h3 (finD hJ0_9 (rfl)))))))) j hj.1 hj.2.1 hj.2.2))))))) (beqF h2))))))))) (netB_T n (notEF h1))) (netB_8 n (notEF h1))) (netB_14 n (notEF h1)))))) (by kernel_rfl)
theorem tear_eqS (n:Qe) (box label:Int):(netB n=false∧(F92 n box label)=((⟨[],[]⟩:Qe),1))∨(F92 n box label).1=n∨∃ l xs,TearI n l xs∧(F92 n box label).1=⟨n.Qb,xs⟩:=by
 unfold F92
 cases hb:netB n
 ·exact .inl ⟨rfl,rfl⟩
 simp only [Bool.not_true,cond_false]
 cases h0:(((Qs n box label).length:Int)==0)
 rotate_left
 ·exact .inr (.inl rfl)
 simp only [cond_false]
 cases F113 n box label
 rotate_left
 ·exact .inr (.inl rfl)
 simp only [cond_false]
 have h0':¬ ((Qs n box label).length:Int)=0:=beqF h0
 have hs:=runL_rule (step:=F92_s0 n box label) (fun (k:Nat) (s:Int×List Qi)=>(s.1,(k:Int),s.2)) (Qs n box label).length (fun k s=>TearS n box label s.1 (k:Int) s.2) (fun r=>r=(n,5))
  (fun k s hk hI=>by
   have hkl:(k:Int)<((Qs n box label).length:Int):=by omega
   cases hg:F114 n ((Qs n box label).getD k default) s.1 with
   | true=>exact .inr ⟨(n,5),by simp only [F92_s0,decide_eq_true hkl,cond_true,nn,hg],rfl⟩
   | false =>
    refine .inl ⟨(_,_),?_,TearS.next hI hkl⟩
    simp only [F92_s0,decide_eq_true hkl,cond_true,nn,hg,cond_false]
    rfl)
  (fun s _=>by simp [F92_s0]) (Qs n box label).length 0 (label,n.Qa) (by omega) (TearS.zero h0') (Int.toNat (((Qs n box label).length:Int)-0)+1) (by omega)
 unfold F92_j0
 rcases hs with ⟨⟨a,xs⟩,h1,h2⟩ | ⟨r,h1,hr'⟩
 ·have h1':runL (F92_s0 n box label) (Int.toNat (((Qs n box label).length:Int)-0)+1) (label,0,n.Qa)=_:=h1
  rw [h1']
  obtain ⟨net,_,_,_,l',e1,e2,e3,e4⟩:=h2
  exact .inr (.inr ⟨_,_,e3,rfl⟩)
 ·have h1':runL (F92_s0 n box label) (Int.toNat (((Qs n box label).length:Int)-0)+1) (label,0,n.Qa)=_:=h1
  rw [h1',hr']
  exact .inr (.inl rfl)
theorem BoxOk.of_pair {n:Qe} {i:Nat} (h1:∀ r∈(n.Qa.getD i default).Rows,rowOk n i r) (h2:(n.Qa.getD i default).Rows.Pairwise (fun a b=>a.In<b.In)) (h3:∀ k,k<(n.Qa.getD i default).Qc.length→viaOk n i ((n.Qa.getD i default).Qc.getD k default))
  (h4:∀ k,k+1<(n.Qa.getD i default).Qc.length→((n.Qa.getD i default).Qc.getD k default).To<((n.Qa.getD i default).Qc.getD (k+1) default).To):BoxOk n i :=
 ⟨fun k hk=>h1 _ (getD_mem _ hk),fun k hk=>by
  have:=List.pairwise_iff_getElem.1 h2 k (k+1) (by omega) hk (by omega)
  rw [getD_lt _ hk,getD_lt _ (by omega:k<_)]; exact this,h3,h4⟩
theorem BoxOk.mem {n:Qe} {i:Nat} (h:BoxOk n i):∀ r∈(n.Qa.getD i default).Rows,rowOk n i r:=fun r hr=>by
 obtain ⟨k,hk,rfl⟩:=mem_getD hr
 exact h.row k hk
theorem tear_net {n:Qe} (h:Qt n) {l:List (Int×Int)} {xs:List Qi} (hT:TearI n l xs):Qt ⟨n.Qb,xs⟩:=by
 have hlk:∀ a b:Int,Qr (⟨n.Qb,xs⟩:Qe) a b=Qr n a b:=fun _ _=>rfl
 refine ⟨?_,fun i hi=>?_⟩
 ·have hf:=h.frame
  refine ⟨by show 1≤xs.length; rw [hT.1]; exact hf.b1,by show xs.length≤8; rw [hT.1]; exact hf.b8,hf.l14,fun k hk=>?_,hf.inc⟩
  have:=hf.ab k hk
  refine ⟨this.1,this.2.1,?_⟩
  show _<(xs.length:Int)
  rw [hT.1]; exact this.2.2
 ·have hi':i<n.Qa.length:=by have:=hT.1; have h2:i<xs.length:=hi; omega
  have e:(⟨n.Qb,xs⟩:Qe).Qa.getD i default=tearBox n l i:=hT.2 i hi'
  have hb:=h.box i hi'
  refine BoxOk.of_pair ?_ ?_ ?_ ?_
  ·rw [e]
   intro r hr
   exact hb.mem r (List.mem_filter.1 hr).1
  ·rw [e]
   exact (inc_pair _ (fun r:Qk=>r.In) hb.rinc).filter _
  ·rw [e]; exact hb.via
  ·rw [e]; exact hb.vinc
def labTear (n:Qe) (box label:Int):Qe×Int:=F92 n box label
theorem as92 (n:Qe) (box label:Int):F92 n box label=labTear n box label:=rfl
theorem labTear_l (n:Qe) (box label:Int):(labTear n box label).2=0→(labTear n box label).1.Qa.length=n.Qa.length:=by
 intro h0
 rcases tear_eqS n box label with ⟨_,h1⟩ | h1 | ⟨l,xs,h1,h2⟩
 ·exfalso
  unfold labTear at h0
  rw [h1] at h0
  simp at h0
 ·unfold labTear; rw [h1]
 ·unfold labTear; rw [h2]; exact h1.1
theorem labTear_net (n:Qe) (box label:Int) (h:Qt n):Qt (labTear n box label).1:=by
 rcases tear_eqS n box label with ⟨h1,_⟩ | h1 | ⟨l,xs,h1,h2⟩
 ·rw [netB_ok.2 h] at h1; cases h1
 ·unfold labTear; rw [h1]; exact h
 ·unfold labTear; rw [h2]; exact tear_net h h1
def negs (xs:List Int):Nat:=xs.countP (fun x=>decide (x<0))
theorem negs_set {xs:List Int} {k:Nat} {v:Int} (hk:k<xs.length) (h:xs.getD k default<0) (hv:0≤v):negs (xs.set k v)+1=negs xs:=by
 induction xs generalizing k with
 | nil=>simp at hk
 | cons x xs ih =>
  cases k with
  | zero =>
   have h:x<0:=h
   have h':¬ v<0:=by omega
   simp [negs,List.countP_cons,h,h']
  | succ k =>
   have:=ih (k:=k) (by simpa using hk) (by simpa using h)
   simp only [negs,List.set_cons_succ,List.countP_cons] at this ⊢
   omega
theorem negs_rep (n:Nat):negs (List.replicate n (-1))=n:=by
 simp [negs,List.countP_replicate]
theorem rep_get (n k:Nat) (h:k<n):(List.replicate n (-1:Int)).getD k default=-1:=by
 rw [List.getD_eq_getElem?_getD,List.getElem?_replicate,if_pos h]; rfl
def FillI (xs:List Int) (i:Int):Prop:=∀ k:Nat,(k:Int)<i→xs.getD k default=-1
theorem FillI.zero (xs:List Int):FillI xs 0:=fun k hk=>by omega
theorem FillI.next {xs:List Int} {i:Int} (h:FillI xs i) (h0:0≤i) (hl:i<(xs.length:Int)):FillI (xs.set i.toNat (-1)) (i+1):=fun k hk=>by
 by_cases e:k=Int.toNat i
 ·subst e
  exact getD_set_eq _ _ _ (by omega)
 ·rw [getD_set_ne _ _ _ _ e]
  exact h k (by omega)
theorem FillI.done {xs:List Int} {i:Int} {n:Nat} (h:FillI xs i) (hl:xs.length=n) (hi:¬ i<(n:Int)):xs=List.replicate n (-1):=by
 subst hl
 refine list_eq_of_getD (by simp) fun k hk=>?_
 rw [h k (by omega),rep_get _ _ hk]
structure FI (len:Nat) (xs queue:List Int):Prop where
 ln:xs.length=len
 q:∀ x∈queue,0≤x∧x<(len:Int)∧0≤xs.getD x.toNat default
 up:∀ k,k<len→-1≤xs.getD k default∧xs.getD k default+(negs xs:Int)+1≤(len:Int)
theorem FI.init {len:Nat} {b:Int} (h0:0≤b) (h1:b<(len:Int)):FI len ((List.replicate len (-1)).set b.toNat 0) [b]∧negs ((List.replicate len (-1)).set b.toNat 0)+1=len:=by
 have hl:Int.toNat b<(List.replicate len (-1:Int)).length:=by simp; omega
 have hn:=negs_set (v:=0) hl (by rw [rep_get _ _ (by omega)]; decide) (by omega)
 rw [negs_rep] at hn
 refine ⟨⟨by simp,fun x hx=>?_,fun k hk=>?_⟩,hn⟩
 ·rw [List.mem_singleton.1 hx]
  exact ⟨h0,h1,by rw [getD_set_eq _ _ _ hl]; omega⟩
 ·by_cases e:k=Int.toNat b
  ·subst e
   rw [getD_set_eq _ _ _ hl]; omega
  ·rw [getD_set_ne _ _ _ _ e,rep_get _ _ hk]; omega
theorem FI.head {len:Nat} {xs queue:List Int} (h:FI len xs queue) (hq:(queue.length:Int)>0):0≤queue.getD (Int.toNat 0) default∧queue.getD (Int.toNat 0) default<(len:Int)∧0≤xs.getD (queue.getD (Int.toNat 0) default).toNat default :=
 h.q _ (getD_mem _ (by omega))
theorem FI.tail {len:Nat} {xs queue:List Int} (h:FI len xs queue):FI len xs (queue.drop (Int.toNat 1)):=⟨h.ln,fun x hx=>h.q x (List.mem_of_mem_drop hx),h.up⟩
theorem FI.val {len:Nat} {xs queue:List Int} (h:FI len xs queue) (h8:len≤8) {b:Int} (h0:0≤b) (h1:b<(len:Int)):IntKind.i64.wrap (xs.getD b.toNat default+1)=xs.getD b.toNat default+1:=by
 have:=h.up b.toNat (by omega)
 exact wrap_of (by omega) (by omega)
theorem FI.next {len:Nat} {xs queue:List Int} (h:FI len xs queue) (h8:len≤8) {b v:Int} (h0:0≤b) (h1:b<(len:Int)) (hb:0≤xs.getD b.toNat default) (v0:0≤v) (v1:v<(len:Int)) (hv:xs.getD v.toNat default<0) :
  FI len (xs.set v.toNat (IntKind.i64.wrap (xs.getD b.toNat default+1))) (queue++[v])∧negs (xs.set v.toNat (IntKind.i64.wrap (xs.getD b.toNat default+1)))+1=negs xs∧0≤(xs.set v.toNat (IntKind.i64.wrap (xs.getD b.toNat default+1))).getD b.toNat default:=by
 rw [h.val h8 h0 h1]
 have hl:Int.toNat v<xs.length:=by rw [h.ln]; omega
 have hn:=negs_set (v:=xs.getD b.toNat default+1) hl hv (by omega)
 have hvb:Int.toNat b≠Int.toNat v:=fun e=>by rw [e] at hb; omega
 have hbu:=(h.up b.toNat (by omega)).2
 refine ⟨⟨by simp [h.ln],fun x hx=>?_,fun k hk=>?_⟩,hn,by rw [getD_set_ne _ _ _ _ hvb]; exact hb⟩
 ·rcases List.mem_append.1 hx with hx | hx
  ·obtain ⟨a1,a2,a3⟩:=h.q x hx
   refine ⟨a1,a2,?_⟩
   rw [getD_set_ne _ _ _ _ fun e=>by rw [e] at a3; omega]
   exact a3
  ·rw [List.mem_singleton.1 hx]
   exact ⟨v0,v1,by rw [getD_set_eq _ _ _ hl]; omega⟩
 ·have hk':=h.up k hk
  by_cases e:k=Int.toNat v
  ·subst e
   rw [getD_set_eq _ _ _ hl]; omega
  ·rw [getD_set_ne _ _ _ _ e]; omega
def adj (n:Qe) (w i j:Int):Prop:=0≤Qr n i j∧Qr n i j≠w
theorem adj_comm {n:Qe} {w i j:Int} (h:adj n w i j):adj n w j i:=by
 unfold adj at *; rw [linkOf_comm n j i]; exact h
structure IsDist (n:Qe) (b w:Int) (f:List Int):Prop where
 ln:f.length=n.Qa.length
 b0:f.getD b.toNat default=0
 low:∀ k,k<n.Qa.length→-1≤f.getD k default
 pred:∀ k:Nat,k<n.Qa.length→0<f.getD k default→∃ j:Nat,j<n.Qa.length∧adj n w j k∧f.getD j default=f.getD k default-1
 zero:∀ k:Nat,k<n.Qa.length→f.getD k default=0→(k:Int)=b
 clos:∀ j k:Nat,j<n.Qa.length→k<n.Qa.length→adj n w j k→0≤f.getD j default→0≤f.getD k default∧f.getD k default≤f.getD j default+1
theorem IsDist.le {n:Qe} {b w:Int} {f g:List Int} (hf:IsDist n b w f) (hg:IsDist n b w g):∀ (d k:Nat),k<n.Qa.length→f.getD k default=(d:Int)→0≤g.getD k default∧g.getD k default≤(d:Int)
 | 0,k,hk,e=>by
  have:=hf.zero k hk (by simpa using e)
  have h2:=hg.b0
  rw [← this,nn] at h2
  omega
 | d+1,k,hk,e=>by
  obtain ⟨j,hj,ha,hjd⟩:=hf.pred k hk (by omega)
  have h1:=IsDist.le hf hg d j hj (by omega)
  have h2:=hg.clos j k hj hk ha h1.1
  omega
theorem IsDist.unique {n:Qe} {b w:Int} {f g:List Int} (hf:IsDist n b w f) (hg:IsDist n b w g):f=g:=by
 refine list_eq_of_getD (hf.ln.trans hg.ln.symm) fun k hk=>?_
 rw [hf.ln] at hk
 have l1:=hf.low k hk; have l2:=hg.low k hk
 rcases Int.lt_or_le (f.getD k default) 0 with h | h
 ·rcases Int.lt_or_le (g.getD k default) 0 with h' | h'
  ·omega
  ·have:=IsDist.le hg hf (g.getD k default).toNat k hk (by omega); omega
 ·have a:=IsDist.le hf hg (f.getD k default).toNat k hk (by omega)
  have b:=IsDist.le hg hf (g.getD k default).toNat k hk (by omega)
  omega
theorem link_in {n:Qe} (h:FrameOk n) {i:Int} (h0:0≤i) (h1:i<(n.Qb.length:Int)):0≤(n.Qb.getD i.toNat default).A∧(n.Qb.getD i.toNat default).A<(n.Qa.length:Int)∧0≤(n.Qb.getD i.toNat default).B∧(n.Qb.getD i.toNat default).B<(n.Qa.length:Int):=by
 have:=h.ab i.toNat (by omega); omega
end Go.Proofs.YtmiolofjlfnohaaGreat
