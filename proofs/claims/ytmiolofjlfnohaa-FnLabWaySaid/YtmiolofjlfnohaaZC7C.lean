/- A part of the proof of FnLabWay. Texts put together: V1, P1, VA, PA, PT0, VT, PT1, VT2, PTM, PW1. -/
import Derived.Test.YtmiolofjlfnohaaRows
import Derived.Test.YtmiolofjlfnohaaZC7B
namespace Go.Proofs.Ytmiolofjlfnohaa
open Go.RowKit
set_option maxRecDepth 100000
set_option linter.unusedVariables false
set_option linter.unusedSimpArgs false
def F43 (n:Int) (low:Int) (high:Int):Bool :=
 (bif decide (n≥low) then decide (n≤high) else false)
def S43 (R:Bool) (n:Int) (low:Int) (high:Int):Spec:=⟨[.r (.c (.v (vI n))),.r (.c (.v (vI low))),.r (.c (.v (vI high)))],.v (.bool R),True⟩
theorem ok43 (n:Int) (low:Int) (high:Int):(S43 (F43 n low high) n low high).ok Try.prog 43 :=
 fnG_ok mixed (fn:=Try.f43) (ct:=.seq (.no) (.seq (.no) (.no))) Try.func43 (fun (_:True)=>(fun hF:((bif decide (n≥low) then decide (n≤high) else false):Bool)=(F43 n low high)=>ai (congrArg (fun r:Bool=>(.bool r:Value)) hF) (trivial)) (rfl)) (by kernel_rfl)
theorem as43 (n:Int) (low:Int) (high:Int):F43 n low high=(decide (low≤n∧n≤high)):=by
 simp only [F43,Bool.decide_and,bandd,geleD]
theorem oa43 (n:Int) (low:Int) (high:Int):(S43 (decide (low≤n∧n≤high)) n low high).ok Try.prog 43:=by
 intro hp; have h:=ok43 n low high hp; rw [as43 n low high] at h; exact h
structure Qk where
 A:Int
 B:Int
 deriving DecidableEq,Inhabited
def Qf (x:Qk):List Dat:=[.v (vI x.A),.v (vI x.B)]
structure Qq where
 In:Int
 Next:Int
 Out:Int
 deriving DecidableEq,Inhabited
def Qt (x:Qq):List Dat:=[.v (vI x.In),.v (vI x.Next),.v (vI x.Out)]
structure Qs where
 To:Int
 Via:Int
 Push:Int
 deriving DecidableEq,Inhabited
def Qu (x:Qs):List Dat:=[.v (vI x.To),.v (vI x.Via),.v (vI x.Push)]
structure Qj where
 Rows:List Qq
 Qi:List Qs
 deriving DecidableEq,Inhabited
def Qg (x:Qj):List Dat:=[.l 3 Qt x.Rows,.l 3 Qu x.Qi]
structure Qd where
 Qb:List Qk
 Qa:List Qj
 deriving DecidableEq,Inhabited
def Qr (x:Qd):List Dat:=[.l 2 Qf x.Qb,.l 2 Qg x.Qa]
def F48_s0 (n:Qd):Int→Lp Int Bool:=fun i40 =>
 bif (decide (i40<(n.Qb.length:Int))) then (bif (bif (bif decide ((n.Qb.getD i40.toNat default).A<0) then true else decide ((n.Qb.getD i40.toNat default).A≥(n.Qb.getD i40.toNat default).B)) then true else decide ((n.Qb.getD i40.toNat default).B≥(n.Qa.length:Int))) then (.ret false) else (bif (bif decide (i40>0) then (bif decide ((n.Qb.getD (i40-1).toNat default).A>(n.Qb.getD i40.toNat default).A) then true else (bif ((n.Qb.getD (i40-1).toNat default).A==(n.Qb.getD i40.toNat default).A) then decide ((n.Qb.getD (i40-1).toNat default).B≥(n.Qb.getD i40.toNat default).B) else false)) else false) then (.ret false) else (.next (i40+1)))) else (.done i40)
def F48 (n:Qd):Bool :=
 bif (bif (!(decide (1≤(n.Qa.length:Int)∧(n.Qa.length:Int)≤8))) then true else decide ((n.Qb.length:Int)>14)) then false else ((runL (F48_s0 n) (((n.Qb.length:Int)-0).toNat+1) 0).fin (fun r=>r) (fun i40=>true))
def S48 (n:Qd):Spec:=⟨[.r (.g (Qr n))],.v (.bool (F48 n)),True⟩
theorem ok48 (n:Qd):(S48 n).ok Try.prog 48 :=
 fnG_ok mixed (fn:=Try.f48) (ct:=.seq (.no) (.seq (.seq (.reg [(3,.call 43 (S43 (decide (1≤(n.Qa.length:Int)∧(n.Qa.length:Int)≤8)) (n.Qa.length:Int) 1 8) (oa43 (n.Qa.length:Int) 1 8) none)]) (.cond (.seq (.no) (.no)) (.no))) (.seq (.seqk [(1,0),(1,1)] (.no) (.blk (.loop (ι:=Nat×Int) (fun i=>(fun (i40:Int)=>(⟨[(1,some (.p 0 0)),(3,some (.v (vI i40)))],[(0,some (.box 26 [.h 1 0,.h 2 0])),(1,some (.shr none (.l 2 Qf n.Qb))),(2,some (.shr none (.l 2 Qg n.Qa)))],3⟩:St)) i.2) (fun i=>runL (F48_s0 n) i.1 i.2=(runL (F48_s0 n) (((n.Qb.length:Int)-0).toNat+1) 0)∧(fun (i40:Int)=>(Int.toNat ((n.Qb.length:Int)-i40)<i.1∧(0:Int)≤i40)) i.2) (fun i=>i.1) ((((n.Qb.length:Int)-0).toNat+1),0) (fun i=>(fun (i40:Int)=>(.seq (.seq (.no) (.cond (.no) (.no))) (.seq (.blk (.seq (.no) (.seq (.seq (.no) (.cond (.seq (.no) (.no)) (.no))) (.seq (.reg [(6,.bnd),(17,.bnd),(28,.bnd)]) (.cond (.seq (.no) (.no)) (.no)))))) (.reg [(1,.bnd)])))) i.2)))) (.seq (.no) (.no))))) Try.func48 (fun (_:True)=>ai (trivial) (ai ((Imp.refl (.v (vI (n.Qa.length:Int))))) (ai ((Imp.refl (.v (vI 1)))) (ai ((Imp.refl (.v (vI 8)))) (ai (fun h1:(bif (!(decide (1≤(n.Qa.length:Int)∧(n.Qa.length:Int)≤8))) then true else decide ((n.Qb.length:Int)>14))=true=>(fun hF:(false:Bool)=(F48 n)=>ai (congrArg (fun r:Bool=>(.bool r:Value)) hF) (trivial)) (condT h1 (rfl))) (fun h1:(bif (!(decide (1≤(n.Qa.length:Int)∧(n.Qa.length:Int)≤8))) then true else decide ((n.Qb.length:Int)>14))=false=>(fun _:¬ (n.Qb.length:Int)>14=>(fun _:1≤(n.Qa.length:Int)∧(n.Qa.length:Int)≤8=>fun (_:n.Qb.length≤9223372036854775807)=>fun (_:n.Qa.length≤9223372036854775807)=>ai (ai (rfl) (ai (ir) (ai (ir) ((ai (rfl:runL (F48_s0 n) (((n.Qb.length:Int)-0).toNat+1) 0=(runL (F48_s0 n) (((n.Qb.length:Int)-0).toNat+1) 0)) (ai ((Nat.lt_succ_self _:Int.toNat ((n.Qb.length:Int)-0)<(((n.Qb.length:Int)-0).toNat+1))) ((by omega:(0:Int)≤0))))))):((.int .i64 0:Value)=.int .i64 0)∧(Imp (.l 2 Qf n.Qb) (.l 2 Qf n.Qb))∧(Imp (.l 2 Qg n.Qa) (.l 2 Qg n.Qa))∧(runL (F48_s0 n) (((n.Qb.length:Int)-0).toNat+1) 0=(runL (F48_s0 n) (((n.Qb.length:Int)-0).toNat+1) 0)∧Int.toNat ((n.Qb.length:Int)-0)<(((n.Qb.length:Int)-0).toNat+1)∧(0:Int)≤0)) (fun (i0:Nat×Int) (hi0:runL (F48_s0 n) i0.1 i0.2=(runL (F48_s0 n) (((n.Qb.length:Int)-0).toNat+1) 0)∧(fun (i40:Int)=>(Int.toNat ((n.Qb.length:Int)-i40)<i0.1∧(0:Int)≤i40)) i0.2)=>(fun (m0:Nat) (i40:Int) (hI0:runL (F48_s0 n) (m0+1) i40=(runL (F48_s0 n) (((n.Qb.length:Int)-0).toNat+1) 0)) (_:Int.toNat ((n.Qb.length:Int)-i40)<m0+1) (hl0:m0<i0.1) (_:(0:Int)≤i40)=>ai (fun h3:(decide (i40<(n.Qb.length:Int)))=true=>(fun _:i40<(n.Qb.length:Int)=>ai ((by omega:0≤i40∧i40<(n.Qb.length:Int))) (ai (fun h4:(bif (bif decide ((n.Qb.getD i40.toNat default).A<0) then true else decide ((n.Qb.getD i40.toNat default).A≥(n.Qb.getD i40.toNat default).B)) then true else decide ((n.Qb.getD i40.toNat default).B≥(n.Qa.length:Int)))=true=>(fun hF:(false:Bool)=(F48 n)=>ai (congrArg (fun r:Bool=>(.bool r:Value)) hF) (trivial)) (condF h1 (finR (runL_ret hI0 (condT h3 (condT h4 (rfl)))) rfl))) (fun h4:(bif (bif decide ((n.Qb.getD i40.toNat default).A<0) then true else decide ((n.Qb.getD i40.toNat default).A≥(n.Qb.getD i40.toNat default).B)) then true else decide ((n.Qb.getD i40.toNat default).B≥(n.Qa.length:Int)))=false=>(fun _:¬ (n.Qb.getD i40.toNat default).B≥(n.Qa.length:Int)=>(fun _:¬ (n.Qb.getD i40.toNat default).A≥(n.Qb.getD i40.toNat default).B=>(fun _:¬ (n.Qb.getD i40.toNat default).A<0=>ai ((fun k5:(decide (i40>0))=true=>(fun _:i40>0=>(by unfold i64ok; omega:i64ok (i40-1))) (of_decide_eq_true k5))) (ai ((fun k6:(decide (i40>0))=true=>(fun _:i40>0=>(by omega:0≤(i40-1)∧(i40-1)<(n.Qb.length:Int))) (of_decide_eq_true k6))) (ai ((fun k8:(decide ((n.Qb.getD (i40-1).toNat default).A>(n.Qb.getD i40.toNat default).A))=false=>(fun _:¬ (n.Qb.getD (i40-1).toNat default).A>(n.Qb.getD i40.toNat default).A=>(fun k7:(decide (i40>0))=true=>(fun _:i40>0=>(by unfold i64ok; omega:i64ok (i40-1))) (of_decide_eq_true k7))) (of_decide_eq_false k8))) (ai ((fun k10:(decide ((n.Qb.getD (i40-1).toNat default).A>(n.Qb.getD i40.toNat default).A))=false=>(fun _:¬ (n.Qb.getD (i40-1).toNat default).A>(n.Qb.getD i40.toNat default).A=>(fun k9:(decide (i40>0))=true=>(fun _:i40>0=>(by omega:0≤(i40-1)∧(i40-1)<(n.Qb.length:Int))) (of_decide_eq_true k9))) (of_decide_eq_false k10))) (ai ((fun k13:((n.Qb.getD (i40-1).toNat default).A==(n.Qb.getD i40.toNat default).A)=true=>(fun _:(n.Qb.getD (i40-1).toNat default).A=(n.Qb.getD i40.toNat default).A=>(fun k12:(decide ((n.Qb.getD (i40-1).toNat default).A>(n.Qb.getD i40.toNat default).A))=false=>(fun _:¬ (n.Qb.getD (i40-1).toNat default).A>(n.Qb.getD i40.toNat default).A=>(fun k11:(decide (i40>0))=true=>(fun _:i40>0=>(by unfold i64ok; omega:i64ok (i40-1))) (of_decide_eq_true k11))) (of_decide_eq_false k12))) (eq_of_beq k13))) (ai ((fun k16:((n.Qb.getD (i40-1).toNat default).A==(n.Qb.getD i40.toNat default).A)=true=>(fun _:(n.Qb.getD (i40-1).toNat default).A=(n.Qb.getD i40.toNat default).A=>(fun k15:(decide ((n.Qb.getD (i40-1).toNat default).A>(n.Qb.getD i40.toNat default).A))=false=>(fun _:¬ (n.Qb.getD (i40-1).toNat default).A>(n.Qb.getD i40.toNat default).A=>(fun k14:(decide (i40>0))=true=>(fun _:i40>0=>(by omega:0≤(i40-1)∧(i40-1)<(n.Qb.length:Int))) (of_decide_eq_true k14))) (of_decide_eq_false k15))) (eq_of_beq k16))) (ai (fun h17:(bif decide (i40>0) then (bif decide ((n.Qb.getD (i40-1).toNat default).A>(n.Qb.getD i40.toNat default).A) then true else (bif ((n.Qb.getD (i40-1).toNat default).A==(n.Qb.getD i40.toNat default).A) then decide ((n.Qb.getD (i40-1).toNat default).B≥(n.Qb.getD i40.toNat default).B) else false)) else false)=true=>(fun _:i40>0=>(fun hF:(false:Bool)=(F48 n)=>ai (congrArg (fun r:Bool=>(.bool r:Value)) hF) (trivial)) (condF h1 (finR (runL_ret hI0 (condT h3 (condF h4 (condT h17 (rfl))))) rfl))) (of_decide_eq_true (andT1 h17))) (fun h17:(bif decide (i40>0) then (bif decide ((n.Qb.getD (i40-1).toNat default).A>(n.Qb.getD i40.toNat default).A) then true else (bif ((n.Qb.getD (i40-1).toNat default).A==(n.Qb.getD i40.toNat default).A) then decide ((n.Qb.getD (i40-1).toNat default).B≥(n.Qb.getD i40.toNat default).B) else false)) else false)=false=>ai ((by unfold i64ok; omega:i64ok (i40+1))) (Exists.intro (p:=fun j:Nat×Int=>(fun (i40_:Int)=>(((.int .i64 (i40+1):Value)=.int .i64 i40_)∧(Imp (.l 2 Qf n.Qb) (.l 2 Qf n.Qb))∧(Imp (.l 2 Qg n.Qa) (.l 2 Qg n.Qa))∧((runL (F48_s0 n) j.1 j.2=(runL (F48_s0 n) (((n.Qb.length:Int)-0).toNat+1) 0)∧Int.toNat ((n.Qb.length:Int)-i40_)<j.1∧(0:Int)≤i40_)∧j.1<i0.1))) j.2) (m0,(i40+1)) (ai (rfl) (ai (ir) (ai (ir) (ai (ai (runL_next hI0 (condT h3 (condF h4 (condF h17 (rfl))))) (ai ((by omega:Int.toNat ((n.Qb.length:Int)-(i40+1))<m0)) ((by omega:(0:Int)≤(i40+1))))) hl0))))))))))))) (of_decide_eq_false (orF1 (orF1 h4)))) (of_decide_eq_false (orF2 (orF1 h4)))) (of_decide_eq_false (orF2 h4))))) (of_decide_eq_true h3)) (fun h3:(decide (i40<(n.Qb.length:Int)))=false=>(fun _:¬ i40<(n.Qb.length:Int)=>(fun hD0_18:(runL (F48_s0 n) (((n.Qb.length:Int)-0).toNat+1) 0)=Lp.done i40=>(fun hF:(true:Bool)=(F48 n)=>ai (congrArg (fun r:Bool=>(.bool r:Value)) hF) (trivial)) (condF h1 (finD hD0_18 (rfl)))) (runL_done hI0 (condF h3 (rfl)))) (of_decide_eq_false h3))) (i0.1-1) i0.2 (hd1 hi0.1 hi0.2.1) (hd2 hi0.2.1) (hd3 hi0.2.1) hi0.2.2)) (of_decide_eq_true (notEF (orF1 h1)))) (of_decide_eq_false (orF2 h1)))))))) (by kernel_rfl)
def F97_s0 (n:Qd) (a:Int) (b:Int):Int→Lp Int Int:=fun i40 =>
 bif (decide (i40<(n.Qb.length:Int))) then (bif (bif (bif ((n.Qb.getD i40.toNat default).A==a) then ((n.Qb.getD i40.toNat default).B==b) else false) then true else (bif ((n.Qb.getD i40.toNat default).A==b) then ((n.Qb.getD i40.toNat default).B==a) else false)) then (.ret i40) else (.next (i40+1))) else (.done i40)
def F97 (n:Qd) (a:Int) (b:Int):Int :=
 (runL (F97_s0 n a b) (((n.Qb.length:Int)-0).toNat+1) 0).fin (fun r=>r) (fun i40=>(-1))
def S97 (R:Int) (n:Qd) (a:Int) (b:Int):Spec:=⟨[.r (.g (Qr n)),.r (.c (.v (vI a))),.r (.c (.v (vI b)))],.v (vI R),True⟩
theorem ok97 (n:Qd) (a:Int) (b:Int):(S97 (F97 n a b) n a b).ok Try.prog 97 :=
 fnG_ok mixed (fn:=Try.f97) (ct:=.seq (.no) (.seq (.seqk [(3,0),(3,1)] (.no) (.blk (.loop (ι:=Nat×Int) (fun i=>(fun (i40:Int)=>(⟨[(1,some (.v (vI a))),(2,some (.v (vI b))),(3,some (.p 0 0)),(7,some (.v (vI i40)))],[(0,some (.box 26 [.h 1 0,.h 2 0])),(1,some (.shr none (.l 2 Qf n.Qb))),(2,some (.shr none (.l 2 Qg n.Qa)))],3⟩:St)) i.2) (fun i=>runL (F97_s0 n a b) i.1 i.2=(runL (F97_s0 n a b) (((n.Qb.length:Int)-0).toNat+1) 0)∧(fun (i40:Int)=>(Int.toNat ((n.Qb.length:Int)-i40)<i.1∧(0:Int)≤i40)) i.2) (fun i=>i.1) ((((n.Qb.length:Int)-0).toNat+1),0) (fun i=>(fun (i40:Int)=>(.seq (.seq (.no) (.cond (.no) (.no))) (.seq (.blk (.seq (.no) (.seq (.no) (.cond (.seq (.no) (.no)) (.no))))) (.reg [(1,.bnd)])))) i.2)))) (.seq (.no) (.no)))) Try.func97 (fun (_:True)=>fun (_:n.Qb.length≤9223372036854775807)=>fun (_:n.Qa.length≤9223372036854775807)=>ai (ai (rfl) (ai (rfl) (ai (rfl) (ai (ir) (ai (ir) ((ai (rfl:runL (F97_s0 n a b) (((n.Qb.length:Int)-0).toNat+1) 0=(runL (F97_s0 n a b) (((n.Qb.length:Int)-0).toNat+1) 0)) (ai ((Nat.lt_succ_self _:Int.toNat ((n.Qb.length:Int)-0)<(((n.Qb.length:Int)-0).toNat+1))) ((by omega:(0:Int)≤0))))))))):((.int .i64 a:Value)=.int .i64 a)∧((.int .i64 b:Value)=.int .i64 b)∧((.int .i64 0:Value)=.int .i64 0)∧(Imp (.l 2 Qf n.Qb) (.l 2 Qf n.Qb))∧(Imp (.l 2 Qg n.Qa) (.l 2 Qg n.Qa))∧(runL (F97_s0 n a b) (((n.Qb.length:Int)-0).toNat+1) 0=(runL (F97_s0 n a b) (((n.Qb.length:Int)-0).toNat+1) 0)∧Int.toNat ((n.Qb.length:Int)-0)<(((n.Qb.length:Int)-0).toNat+1)∧(0:Int)≤0)) (fun (i0:Nat×Int) (hi0:runL (F97_s0 n a b) i0.1 i0.2=(runL (F97_s0 n a b) (((n.Qb.length:Int)-0).toNat+1) 0)∧(fun (i40:Int)=>(Int.toNat ((n.Qb.length:Int)-i40)<i0.1∧(0:Int)≤i40)) i0.2)=>(fun (m0:Nat) (i40:Int) (hI0:runL (F97_s0 n a b) (m0+1) i40=(runL (F97_s0 n a b) (((n.Qb.length:Int)-0).toNat+1) 0)) (_:Int.toNat ((n.Qb.length:Int)-i40)<m0+1) (hl0:m0<i0.1) (_:(0:Int)≤i40)=>ai (fun h2:(decide (i40<(n.Qb.length:Int)))=true=>(fun _:i40<(n.Qb.length:Int)=>ai ((by omega:0≤i40∧i40<(n.Qb.length:Int))) (ai (fun h3:(bif (bif ((n.Qb.getD i40.toNat default).A==a) then ((n.Qb.getD i40.toNat default).B==b) else false) then true else (bif ((n.Qb.getD i40.toNat default).A==b) then ((n.Qb.getD i40.toNat default).B==a) else false))=true=>(fun hF:(i40:Int)=(F97 n a b)=>ai (congrArg (fun r:Int=>(.int .i64 r:Value)) hF) (trivial)) (finR (runL_ret hI0 (condT h2 (condT h3 (rfl)))) rfl)) (fun h3:(bif (bif ((n.Qb.getD i40.toNat default).A==a) then ((n.Qb.getD i40.toNat default).B==b) else false) then true else (bif ((n.Qb.getD i40.toNat default).A==b) then ((n.Qb.getD i40.toNat default).B==a) else false))=false=>ai ((by unfold i64ok; omega:i64ok (i40+1))) (Exists.intro (p:=fun j:Nat×Int=>(fun (i40_:Int)=>(((.int .i64 a:Value)=.int .i64 a)∧((.int .i64 b:Value)=.int .i64 b)∧((.int .i64 (i40+1):Value)=.int .i64 i40_)∧(Imp (.l 2 Qf n.Qb) (.l 2 Qf n.Qb))∧(Imp (.l 2 Qg n.Qa) (.l 2 Qg n.Qa))∧((runL (F97_s0 n a b) j.1 j.2=(runL (F97_s0 n a b) (((n.Qb.length:Int)-0).toNat+1) 0)∧Int.toNat ((n.Qb.length:Int)-i40_)<j.1∧(0:Int)≤i40_)∧j.1<i0.1))) j.2) (m0,(i40+1)) (ai (rfl) (ai (rfl) (ai (rfl) (ai (ir) (ai (ir) (ai (ai (runL_next hI0 (condT h2 (condF h3 (rfl)))) (ai ((by omega:Int.toNat ((n.Qb.length:Int)-(i40+1))<m0)) ((by omega:(0:Int)≤(i40+1))))) hl0)))))))))) (of_decide_eq_true h2)) (fun h2:(decide (i40<(n.Qb.length:Int)))=false=>(fun _:¬ i40<(n.Qb.length:Int)=>(fun hD0_4:(runL (F97_s0 n a b) (((n.Qb.length:Int)-0).toNat+1) 0)=Lp.done i40=>(fun hF:((-1):Int)=(F97 n a b)=>ai (congrArg (fun r:Int=>(.int .i64 r:Value)) hF) (trivial)) (finD hD0_4 (rfl))) (runL_done hI0 (condF h2 (rfl)))) (of_decide_eq_false h2))) (i0.1-1) i0.2 (hd1 hi0.1 hi0.2.1) (hd2 hi0.2.1) (hd3 hi0.2.1) hi0.2.2)) (by kernel_rfl)
def F84 (n:Qd) (box:Int) (r1:Qq):Bool :=
 bif (!(decide (1≤r1.In∧r1.In≤60))) then false else (bif (r1.Next==(-1)) then (r1.Out==0) else (bif decide ((F97 n box r1.Next)≥0) then (decide (1≤r1.Out∧r1.Out≤60)) else false))
def S84 (n:Qd) (box:Int) (r1:Qq):Spec:=⟨[.r (.g (Qr n)),.r (.c (.v (vI box))),.r (.g (Qt r1))],.v (.bool (F84 n box r1)),True⟩
theorem ok84 (n:Qd) (box:Int) (r1:Qq):(S84 n box r1).ok Try.prog 84 :=
 fnG_ok mixed (fn:=Try.f84) (ct:=.seq (.no) (.seq (.seq (.reg [(2,.call 43 (S43 (decide (1≤r1.In∧r1.In≤60)) r1.In 1 60) (oa43 r1.In 1 60) none)]) (.cond (.seq (.no) (.no)) (.no))) (.seq (.seq (.no) (.cond (.seq (.no) (.no)) (.no))) (.seq (.reg [(4,.call 97 (S97 (F97 n box r1.Next) n box r1.Next) (ok97 n box r1.Next) none),(9,.call 43 (S43 (decide (1≤r1.Out∧r1.Out≤60)) r1.Out 1 60) (oa43 r1.Out 1 60) none)]) (.no))))) Try.func84 (fun (_:True)=>ai (trivial) (ai ((Imp.refl (.v (vI r1.In)))) (ai ((Imp.refl (.v (vI 1)))) (ai ((Imp.refl (.v (vI 60)))) (ai (fun h1:(!(decide (1≤r1.In∧r1.In≤60)))=true=>(fun _:¬ (1≤r1.In∧r1.In≤60)=>(fun hF:(false:Bool)=(F84 n box r1)=>ai (congrArg (fun r:Bool=>(.bool r:Value)) hF) (trivial)) (condT h1 (rfl))) (of_decide_eq_false (notET h1))) (fun h1:(!(decide (1≤r1.In∧r1.In≤60)))=false=>(fun _:1≤r1.In∧r1.In≤60=>ai (fun h2:(r1.Next==(-1))=true=>(fun _:r1.Next=(-1)=>(fun hF:((r1.Out==0):Bool)=(F84 n box r1)=>ai (congrArg (fun r:Bool=>(.bool r:Value)) hF) (trivial)) (condF h1 (condT h2 (rfl)))) (eq_of_beq h2)) (fun h2:(r1.Next==(-1))=false=>(fun _:¬ r1.Next=(-1)=>ai (trivial) (ai ((Imps.refl (Qr n))) (ai ((Imp.refl (.v (vI box)))) (ai ((Imp.refl (.v (vI r1.Next)))) (ai ((fun k3:(decide ((F97 n box r1.Next)≥0))=true=>(fun _:(F97 n box r1.Next)≥0=>trivial) (of_decide_eq_true k3))) (ai ((fun k4:(decide ((F97 n box r1.Next)≥0))=true=>(fun _:(F97 n box r1.Next)≥0=>(Imp.refl (.v (vI r1.Out)))) (of_decide_eq_true k4))) (ai ((fun k5:(decide ((F97 n box r1.Next)≥0))=true=>(fun _:(F97 n box r1.Next)≥0=>(Imp.refl (.v (vI 1)))) (of_decide_eq_true k5))) (ai ((fun k6:(decide ((F97 n box r1.Next)≥0))=true=>(fun _:(F97 n box r1.Next)≥0=>(Imp.refl (.v (vI 60)))) (of_decide_eq_true k6))) ((fun hF:((bif decide ((F97 n box r1.Next)≥0) then (decide (1≤r1.Out∧r1.Out≤60)) else false):Bool)=(F84 n box r1)=>ai (congrArg (fun r:Bool=>(.bool r:Value)) hF) (trivial)) (condF h1 (condF h2 (rfl)))))))))))) (beqF h2))) (of_decide_eq_true (notEF h1)))))))) (by kernel_rfl)
def F85 (n:Qd) (box:Int) (v1:Qs):Bool :=
 (bif (bif (bif decide ((F97 n box v1.To)≥0) then decide ((F97 n box v1.Via)≥0) else false) then (v1.To != v1.Via) else false) then (decide (1≤v1.Push∧v1.Push≤60)) else false)
def S85 (n:Qd) (box:Int) (v1:Qs):Spec:=⟨[.r (.g (Qr n)),.r (.c (.v (vI box))),.r (.g (Qu v1))],.v (.bool (F85 n box v1)),True⟩
theorem ok85 (n:Qd) (box:Int) (v1:Qs):(S85 n box v1).ok Try.prog 85 :=
 fnG_ok mixed (fn:=Try.f85) (ct:=.seq (.no) (.seq (.reg [(4,.call 97 (S97 (F97 n box v1.To) n box v1.To) (ok97 n box v1.To) none),(11,.call 97 (S97 (F97 n box v1.Via) n box v1.Via) (ok97 n box v1.Via) none),(24,.call 43 (S43 (decide (1≤v1.Push∧v1.Push≤60)) v1.Push 1 60) (oa43 v1.Push 1 60) none)]) (.no))) Try.func85 (fun (_:True)=>ai (trivial) (ai ((Imps.refl (Qr n))) (ai ((Imp.refl (.v (vI box)))) (ai ((Imp.refl (.v (vI v1.To)))) (ai ((fun k1:(decide ((F97 n box v1.To)≥0))=true=>(fun _:(F97 n box v1.To)≥0=>trivial) (of_decide_eq_true k1))) (ai ((fun k2:(decide ((F97 n box v1.To)≥0))=true=>(fun _:(F97 n box v1.To)≥0=>(Imps.refl (Qr n))) (of_decide_eq_true k2))) (ai ((fun k3:(decide ((F97 n box v1.To)≥0))=true=>(fun _:(F97 n box v1.To)≥0=>(Imp.refl (.v (vI box)))) (of_decide_eq_true k3))) (ai ((fun k4:(decide ((F97 n box v1.To)≥0))=true=>(fun _:(F97 n box v1.To)≥0=>(Imp.refl (.v (vI v1.Via)))) (of_decide_eq_true k4))) (ai ((fun k5:(bif (bif decide ((F97 n box v1.To)≥0) then decide ((F97 n box v1.Via)≥0) else false) then (v1.To != v1.Via) else false)=true=>(fun _:¬ v1.To=v1.Via=>(fun _:(F97 n box v1.Via)≥0=>(fun _:(F97 n box v1.To)≥0=>trivial) (of_decide_eq_true (andT1 (andT1 k5)))) (of_decide_eq_true (andT2 (andT1 k5)))) (bneT (andT2 k5)))) (ai ((fun k6:(bif (bif decide ((F97 n box v1.To)≥0) then decide ((F97 n box v1.Via)≥0) else false) then (v1.To != v1.Via) else false)=true=>(fun _:¬ v1.To=v1.Via=>(fun _:(F97 n box v1.Via)≥0=>(fun _:(F97 n box v1.To)≥0=>(Imp.refl (.v (vI v1.Push)))) (of_decide_eq_true (andT1 (andT1 k6)))) (of_decide_eq_true (andT2 (andT1 k6)))) (bneT (andT2 k6)))) (ai ((fun k7:(bif (bif decide ((F97 n box v1.To)≥0) then decide ((F97 n box v1.Via)≥0) else false) then (v1.To != v1.Via) else false)=true=>(fun _:¬ v1.To=v1.Via=>(fun _:(F97 n box v1.Via)≥0=>(fun _:(F97 n box v1.To)≥0=>(Imp.refl (.v (vI 1)))) (of_decide_eq_true (andT1 (andT1 k7)))) (of_decide_eq_true (andT2 (andT1 k7)))) (bneT (andT2 k7)))) (ai ((fun k8:(bif (bif decide ((F97 n box v1.To)≥0) then decide ((F97 n box v1.Via)≥0) else false) then (v1.To != v1.Via) else false)=true=>(fun _:¬ v1.To=v1.Via=>(fun _:(F97 n box v1.Via)≥0=>(fun _:(F97 n box v1.To)≥0=>(Imp.refl (.v (vI 60)))) (of_decide_eq_true (andT1 (andT1 k8)))) (of_decide_eq_true (andT2 (andT1 k8)))) (bneT (andT2 k8)))) ((fun hF:((bif (bif (bif decide ((F97 n box v1.To)≥0) then decide ((F97 n box v1.Via)≥0) else false) then (v1.To != v1.Via) else false) then (decide (1≤v1.Push∧v1.Push≤60)) else false):Bool)=(F85 n box v1)=>ai (congrArg (fun r:Bool=>(.bool r:Value)) hF) (trivial)) (rfl)))))))))))))) (by kernel_rfl)
def F49_s1 (n:Qd) (box:Int):Int→Lp Int Bool:=fun i41 =>
 bif (decide (i41<(((n.Qa.getD box.toNat default).Qi).length:Int))) then (bif (bif (!(F85 n box (((n.Qa.getD box.toNat default).Qi).getD i41.toNat default))) then true else (bif decide (i41>0) then decide ((((n.Qa.getD box.toNat default).Qi).getD (i41-1).toNat default).To≥(((n.Qa.getD box.toNat default).Qi).getD i41.toNat default).To) else false)) then (.ret false) else (.next (i41+1))) else (.done i41)
def F49_s0 (n:Qd) (box:Int):Int→Lp Int Bool:=fun i40 =>
 bif (decide (i40<(((n.Qa.getD box.toNat default).Rows).length:Int))) then (bif (bif (!(F84 n box (((n.Qa.getD box.toNat default).Rows).getD i40.toNat default))) then true else (bif decide (i40>0) then decide ((((n.Qa.getD box.toNat default).Rows).getD (i40-1).toNat default).In≥(((n.Qa.getD box.toNat default).Rows).getD i40.toNat default).In) else false)) then (.ret false) else (.next (i40+1))) else (.done i40)
def F49 (n:Qd) (box:Int):Bool :=
 (runL (F49_s0 n box) (((((n.Qa.getD box.toNat default).Rows).length:Int)-0).toNat+1) 0).fin (fun r=>r) (fun i40=>(runL (F49_s1 n box) (((((n.Qa.getD box.toNat default).Qi).length:Int)-0).toNat+1) 0).fin (fun r=>r) (fun i41=>true))
def S49 (n:Qd) (box:Int):Spec:=⟨[.r (.g (Qr n)),.r (.c (.v (vI box)))],.v (.bool (F49 n box)),0≤box∧box<(n.Qa.length:Int)⟩
theorem ok49 (n:Qd) (box:Int):(S49 n box).ok Try.prog 49 :=
 fnG_ok mixed (fn:=Try.f49) (ct:=.seq (.no) (.seq (.no) (.seq (.seqk [(2,0),(2,1),(5,0),(5,1)] (.no) (.blk (.loop (ι:=Nat×Int) (fun i=>(fun (i40:Int)=>(⟨[(1,some (.v (vI box))),(2,some (.p 0 0)),(5,some (.p 3 0)),(6,some (.v (vI i40)))],[(0,some (.box 26 [.h 1 0,.h 2 0])),(1,some (.shr none (.l 2 Qf n.Qb))),(2,some (.shr none (.l 2 Qg n.Qa))),(3,some (.box 54 [.h 4 1,.h 4 2])),(4,some (.mem none none (Qg (n.Qa.getD box.toNat default))))],5⟩:St)) i.2) (fun i=>runL (F49_s0 n box) i.1 i.2=(runL (F49_s0 n box) (((((n.Qa.getD box.toNat default).Rows).length:Int)-0).toNat+1) 0)∧(fun (i40:Int)=>(Int.toNat ((((n.Qa.getD box.toNat default).Rows).length:Int)-i40)<i.1∧(0:Int)≤i40)) i.2) (fun i=>i.1) ((((((n.Qa.getD box.toNat default).Rows).length:Int)-0).toNat+1),0) (fun i=>(fun (i40:Int)=>(.seq (.seq (.no) (.cond (.no) (.no))) (.seq (.blk (.seq (.reg [(7,.call 84 (S84 n box (((n.Qa.getD box.toNat default).Rows).getD i40.toNat default)) (ok84 n box (((n.Qa.getD box.toNat default).Rows).getD i40.toNat default)) none),(16,.bnd)]) (.cond (.seq (.no) (.no)) (.no)))) (.reg [(1,.bnd)])))) i.2)))) (.seq (.seqk [(2,0),(2,1),(5,0),(5,1)] (.no) (.blk (.loop (ι:=Nat×Int) (fun i=>(fun (i41:Int)=>(⟨[(1,some (.v (vI box))),(2,some (.p 0 0)),(5,some (.p 3 0)),(7,some (.v (vI i41)))],[(0,some (.box 26 [.h 1 0,.h 2 0])),(1,some (.shr none (.l 2 Qf n.Qb))),(2,some (.shr none (.l 2 Qg n.Qa))),(3,some (.box 54 [.h 4 1,.h 4 2])),(4,some (.mem none none (Qg (n.Qa.getD box.toNat default))))],5⟩:St)) i.2) (fun i=>runL (F49_s1 n box) i.1 i.2=(runL (F49_s1 n box) (((((n.Qa.getD box.toNat default).Qi).length:Int)-0).toNat+1) 0)∧(fun (i41:Int)=>(Int.toNat ((((n.Qa.getD box.toNat default).Qi).length:Int)-i41)<i.1∧(0:Int)≤i41)) i.2) (fun i=>i.1) ((((((n.Qa.getD box.toNat default).Qi).length:Int)-0).toNat+1),0) (fun i=>(fun (i41:Int)=>(.seq (.seq (.no) (.cond (.no) (.no))) (.seq (.blk (.seq (.reg [(7,.call 85 (S85 n box (((n.Qa.getD box.toNat default).Qi).getD i41.toNat default)) (ok85 n box (((n.Qa.getD box.toNat default).Qi).getD i41.toNat default)) none),(16,.bnd)]) (.cond (.seq (.no) (.no)) (.no)))) (.reg [(1,.bnd)])))) i.2)))) (.seq (.no) (.no)))))) Try.func49 (fun (hp:0≤box∧box<(n.Qa.length:Int))=>(fun (hpre0:0≤box) (hpre1:box<(n.Qa.length:Int))=>ai ((by omega:0≤box∧box<(n.Qa.length:Int))) (fun (_:n.Qb.length≤9223372036854775807)=>fun (_:n.Qa.length≤9223372036854775807)=>fun (_:((n.Qa.getD box.toNat default).Rows).length≤9223372036854775807)=>fun (_:((n.Qa.getD box.toNat default).Qi).length≤9223372036854775807)=>ai (ai (rfl) (ai (rfl) (ai (ir) (ai (ir) (ai ((Imps.refl _)) ((ai (rfl:runL (F49_s0 n box) (((((n.Qa.getD box.toNat default).Rows).length:Int)-0).toNat+1) 0=(runL (F49_s0 n box) (((((n.Qa.getD box.toNat default).Rows).length:Int)-0).toNat+1) 0)) (ai ((Nat.lt_succ_self _:Int.toNat ((((n.Qa.getD box.toNat default).Rows).length:Int)-0)<(((((n.Qa.getD box.toNat default).Rows).length:Int)-0).toNat+1))) ((by omega:(0:Int)≤0))))))))):((.int .i64 box:Value)=.int .i64 box)∧((.int .i64 0:Value)=.int .i64 0)∧(Imp (.l 2 Qf n.Qb) (.l 2 Qf n.Qb))∧(Imp (.l 2 Qg n.Qa) (.l 2 Qg n.Qa))∧(Imps (Qg (n.Qa.getD box.toNat default)) (Qg (n.Qa.getD box.toNat default)))∧(runL (F49_s0 n box) (((((n.Qa.getD box.toNat default).Rows).length:Int)-0).toNat+1) 0=(runL (F49_s0 n box) (((((n.Qa.getD box.toNat default).Rows).length:Int)-0).toNat+1) 0)∧Int.toNat ((((n.Qa.getD box.toNat default).Rows).length:Int)-0)<(((((n.Qa.getD box.toNat default).Rows).length:Int)-0).toNat+1)∧(0:Int)≤0)) (fun (i0:Nat×Int) (hi0:runL (F49_s0 n box) i0.1 i0.2=(runL (F49_s0 n box) (((((n.Qa.getD box.toNat default).Rows).length:Int)-0).toNat+1) 0)∧(fun (i40:Int)=>(Int.toNat ((((n.Qa.getD box.toNat default).Rows).length:Int)-i40)<i0.1∧(0:Int)≤i40)) i0.2)=>(fun (m0:Nat) (i40:Int) (hI0:runL (F49_s0 n box) (m0+1) i40=(runL (F49_s0 n box) (((((n.Qa.getD box.toNat default).Rows).length:Int)-0).toNat+1) 0)) (_:Int.toNat ((((n.Qa.getD box.toNat default).Rows).length:Int)-i40)<m0+1) (hl0:m0<i0.1) (_:(0:Int)≤i40)=>ai (fun h2:(decide (i40<(((n.Qa.getD box.toNat default).Rows).length:Int)))=true=>(fun _:i40<(((n.Qa.getD box.toNat default).Rows).length:Int)=>ai ((by omega:0≤i40∧i40<(((n.Qa.getD box.toNat default).Rows).length:Int))) (ai (trivial) (ai ((Imps.refl (Qr n))) (ai ((Imp.refl (.v (vI box)))) (ai ((Imps.refl (Qt (((n.Qa.getD box.toNat default).Rows).getD i40.toNat default)))) (ai ((fun k4:(decide (i40>0))=true=>(fun _:i40>0=>(fun k3:(!(F84 n box (((n.Qa.getD box.toNat default).Rows).getD i40.toNat default)))=false=>(by unfold i64ok; omega:i64ok (i40-1)))) (of_decide_eq_true k4))) (ai ((fun k6:(decide (i40>0))=true=>(fun _:i40>0=>(fun k5:(!(F84 n box (((n.Qa.getD box.toNat default).Rows).getD i40.toNat default)))=false=>(by omega:0≤(i40-1)∧(i40-1)<(((n.Qa.getD box.toNat default).Rows).length:Int)))) (of_decide_eq_true k6))) (ai ((fun k8:(decide (i40>0))=true=>(fun _:i40>0=>(fun k7:(!(F84 n box (((n.Qa.getD box.toNat default).Rows).getD i40.toNat default)))=false=>(by omega:0≤i40∧i40<(((n.Qa.getD box.toNat default).Rows).length:Int)))) (of_decide_eq_true k8))) (ai (fun h9:(bif (!(F84 n box (((n.Qa.getD box.toNat default).Rows).getD i40.toNat default))) then true else (bif decide (i40>0) then decide ((((n.Qa.getD box.toNat default).Rows).getD (i40-1).toNat default).In≥(((n.Qa.getD box.toNat default).Rows).getD i40.toNat default).In) else false))=true=>(fun hF:(false:Bool)=(F49 n box)=>ai (congrArg (fun r:Bool=>(.bool r:Value)) hF) (trivial)) (finR (runL_ret hI0 (condT h2 (condT h9 (rfl)))) rfl)) (fun h9:(bif (!(F84 n box (((n.Qa.getD box.toNat default).Rows).getD i40.toNat default))) then true else (bif decide (i40>0) then decide ((((n.Qa.getD box.toNat default).Rows).getD (i40-1).toNat default).In≥(((n.Qa.getD box.toNat default).Rows).getD i40.toNat default).In) else false))=false=>ai ((by unfold i64ok; omega:i64ok (i40+1))) (Exists.intro (p:=fun j:Nat×Int=>(fun (i40_:Int)=>(((.int .i64 box:Value)=.int .i64 box)∧((.int .i64 (i40+1):Value)=.int .i64 i40_)∧(Imp (.l 2 Qf n.Qb) (.l 2 Qf n.Qb))∧(Imp (.l 2 Qg n.Qa) (.l 2 Qg n.Qa))∧(Imps (Qg (n.Qa.getD box.toNat default)) (Qg (n.Qa.getD box.toNat default)))∧((runL (F49_s0 n box) j.1 j.2=(runL (F49_s0 n box) (((((n.Qa.getD box.toNat default).Rows).length:Int)-0).toNat+1) 0)∧Int.toNat ((((n.Qa.getD box.toNat default).Rows).length:Int)-i40_)<j.1∧(0:Int)≤i40_)∧j.1<i0.1))) j.2) (m0,(i40+1)) (ai (rfl) (ai (rfl) (ai (ir) (ai (ir) (ai ((Imps.refl _)) (ai (ai (runL_next hI0 (condT h2 (condF h9 (rfl)))) (ai ((by omega:Int.toNat ((((n.Qa.getD box.toNat default).Rows).length:Int)-(i40+1))<m0)) ((by omega:(0:Int)≤(i40+1))))) hl0))))))))))))))))) (of_decide_eq_true h2)) (fun h2:(decide (i40<(((n.Qa.getD box.toNat default).Rows).length:Int)))=false=>(fun _:¬ i40<(((n.Qa.getD box.toNat default).Rows).length:Int)=>(fun hD0_10:(runL (F49_s0 n box) (((((n.Qa.getD box.toNat default).Rows).length:Int)-0).toNat+1) 0)=Lp.done i40=>fun (_:n.Qb.length≤9223372036854775807)=>fun (_:n.Qa.length≤9223372036854775807)=>fun (_:((n.Qa.getD box.toNat default).Rows).length≤9223372036854775807)=>fun (_:((n.Qa.getD box.toNat default).Qi).length≤9223372036854775807)=>ai (ai (rfl) (ai (rfl) (ai (ir) (ai (ir) (ai ((Imps.refl _)) ((ai (rfl:runL (F49_s1 n box) (((((n.Qa.getD box.toNat default).Qi).length:Int)-0).toNat+1) 0=(runL (F49_s1 n box) (((((n.Qa.getD box.toNat default).Qi).length:Int)-0).toNat+1) 0)) (ai ((Nat.lt_succ_self _:Int.toNat ((((n.Qa.getD box.toNat default).Qi).length:Int)-0)<(((((n.Qa.getD box.toNat default).Qi).length:Int)-0).toNat+1))) ((by omega:(0:Int)≤0))))))))):((.int .i64 box:Value)=.int .i64 box)∧((.int .i64 0:Value)=.int .i64 0)∧(Imp (.l 2 Qf n.Qb) (.l 2 Qf n.Qb))∧(Imp (.l 2 Qg n.Qa) (.l 2 Qg n.Qa))∧(Imps (Qg (n.Qa.getD box.toNat default)) (Qg (n.Qa.getD box.toNat default)))∧(runL (F49_s1 n box) (((((n.Qa.getD box.toNat default).Qi).length:Int)-0).toNat+1) 0=(runL (F49_s1 n box) (((((n.Qa.getD box.toNat default).Qi).length:Int)-0).toNat+1) 0)∧Int.toNat ((((n.Qa.getD box.toNat default).Qi).length:Int)-0)<(((((n.Qa.getD box.toNat default).Qi).length:Int)-0).toNat+1)∧(0:Int)≤0)) (fun (i1:Nat×Int) (hi1:runL (F49_s1 n box) i1.1 i1.2=(runL (F49_s1 n box) (((((n.Qa.getD box.toNat default).Qi).length:Int)-0).toNat+1) 0)∧(fun (i41:Int)=>(Int.toNat ((((n.Qa.getD box.toNat default).Qi).length:Int)-i41)<i1.1∧(0:Int)≤i41)) i1.2)=>(fun (m1:Nat) (i41:Int) (hI1:runL (F49_s1 n box) (m1+1) i41=(runL (F49_s1 n box) (((((n.Qa.getD box.toNat default).Qi).length:Int)-0).toNat+1) 0)) (_:Int.toNat ((((n.Qa.getD box.toNat default).Qi).length:Int)-i41)<m1+1) (hl1:m1<i1.1) (_:(0:Int)≤i41)=>ai (fun h12:(decide (i41<(((n.Qa.getD box.toNat default).Qi).length:Int)))=true=>(fun _:i41<(((n.Qa.getD box.toNat default).Qi).length:Int)=>ai ((by omega:0≤i41∧i41<(((n.Qa.getD box.toNat default).Qi).length:Int))) (ai (trivial) (ai ((Imps.refl (Qr n))) (ai ((Imp.refl (.v (vI box)))) (ai ((Imps.refl (Qu (((n.Qa.getD box.toNat default).Qi).getD i41.toNat default)))) (ai ((fun k14:(decide (i41>0))=true=>(fun _:i41>0=>(fun k13:(!(F85 n box (((n.Qa.getD box.toNat default).Qi).getD i41.toNat default)))=false=>(by unfold i64ok; omega:i64ok (i41-1)))) (of_decide_eq_true k14))) (ai ((fun k16:(decide (i41>0))=true=>(fun _:i41>0=>(fun k15:(!(F85 n box (((n.Qa.getD box.toNat default).Qi).getD i41.toNat default)))=false=>(by omega:0≤(i41-1)∧(i41-1)<(((n.Qa.getD box.toNat default).Qi).length:Int)))) (of_decide_eq_true k16))) (ai ((fun k18:(decide (i41>0))=true=>(fun _:i41>0=>(fun k17:(!(F85 n box (((n.Qa.getD box.toNat default).Qi).getD i41.toNat default)))=false=>(by omega:0≤i41∧i41<(((n.Qa.getD box.toNat default).Qi).length:Int)))) (of_decide_eq_true k18))) (ai (fun h19:(bif (!(F85 n box (((n.Qa.getD box.toNat default).Qi).getD i41.toNat default))) then true else (bif decide (i41>0) then decide ((((n.Qa.getD box.toNat default).Qi).getD (i41-1).toNat default).To≥(((n.Qa.getD box.toNat default).Qi).getD i41.toNat default).To) else false))=true=>(fun hF:(false:Bool)=(F49 n box)=>ai (congrArg (fun r:Bool=>(.bool r:Value)) hF) (trivial)) (finD hD0_10 (finR (runL_ret hI1 (condT h12 (condT h19 (rfl)))) rfl))) (fun h19:(bif (!(F85 n box (((n.Qa.getD box.toNat default).Qi).getD i41.toNat default))) then true else (bif decide (i41>0) then decide ((((n.Qa.getD box.toNat default).Qi).getD (i41-1).toNat default).To≥(((n.Qa.getD box.toNat default).Qi).getD i41.toNat default).To) else false))=false=>ai ((by unfold i64ok; omega:i64ok (i41+1))) (Exists.intro (p:=fun j:Nat×Int=>(fun (i41_:Int)=>(((.int .i64 box:Value)=.int .i64 box)∧((.int .i64 (i41+1):Value)=.int .i64 i41_)∧(Imp (.l 2 Qf n.Qb) (.l 2 Qf n.Qb))∧(Imp (.l 2 Qg n.Qa) (.l 2 Qg n.Qa))∧(Imps (Qg (n.Qa.getD box.toNat default)) (Qg (n.Qa.getD box.toNat default)))∧((runL (F49_s1 n box) j.1 j.2=(runL (F49_s1 n box) (((((n.Qa.getD box.toNat default).Qi).length:Int)-0).toNat+1) 0)∧Int.toNat ((((n.Qa.getD box.toNat default).Qi).length:Int)-i41_)<j.1∧(0:Int)≤i41_)∧j.1<i1.1))) j.2) (m1,(i41+1)) (ai (rfl) (ai (rfl) (ai (ir) (ai (ir) (ai ((Imps.refl _)) (ai (ai (runL_next hI1 (condT h12 (condF h19 (rfl)))) (ai ((by omega:Int.toNat ((((n.Qa.getD box.toNat default).Qi).length:Int)-(i41+1))<m1)) ((by omega:(0:Int)≤(i41+1))))) hl1))))))))))))))))) (of_decide_eq_true h12)) (fun h12:(decide (i41<(((n.Qa.getD box.toNat default).Qi).length:Int)))=false=>(fun _:¬ i41<(((n.Qa.getD box.toNat default).Qi).length:Int)=>(fun hD1_20:(runL (F49_s1 n box) (((((n.Qa.getD box.toNat default).Qi).length:Int)-0).toNat+1) 0)=Lp.done i41=>(fun hF:(true:Bool)=(F49 n box)=>ai (congrArg (fun r:Bool=>(.bool r:Value)) hF) (trivial)) (finD hD0_10 (finD hD1_20 (rfl)))) (runL_done hI1 (condF h12 (rfl)))) (of_decide_eq_false h12))) (i1.1-1) i1.2 (hd1 hi1.1 hi1.2.1) (hd2 hi1.2.1) (hd3 hi1.2.1) hi1.2.2)) (runL_done hI0 (condF h2 (rfl)))) (of_decide_eq_false h2))) (i0.1-1) i0.2 (hd1 hi0.1 hi0.2.1) (hd2 hi0.2.1) (hd3 hi0.2.1) hi0.2.2))) hp.1 hp.2) (by kernel_rfl)
def F14_s0 (n:Qd):Int→Lp Int Bool:=fun i40 =>
 bif (decide (i40<(n.Qa.length:Int))) then (bif (!(F49 n i40)) then (.ret false) else (.next (i40+1))) else (.done i40)
def F14 (n:Qd):Bool :=
 bif (!(F48 n)) then false else ((runL (F14_s0 n) (((n.Qa.length:Int)-0).toNat+1) 0).fin (fun r=>r) (fun i40=>true))
def S14 (R:Bool) (n:Qd):Spec:=⟨[.r (.g (Qr n))],.v (.bool R),True⟩
theorem ok14 (n:Qd):(S14 (F14 n) n).ok Try.prog 14 :=
 fnG_ok mixed (fn:=Try.f14) (ct:=.seq (.no) (.seq (.seq (.reg [(1,.call 48 (S48 n) (ok48 n) none)]) (.cond (.seq (.no) (.no)) (.no))) (.seq (.seqk [(1,0),(1,1)] (.no) (.blk (.loop (ι:=Nat×Int) (fun i=>(fun (i40:Int)=>(⟨[(1,some (.p 0 0)),(3,some (.v (vI i40)))],[(0,some (.box 26 [.h 1 0,.h 2 0])),(1,some (.shr none (.l 2 Qf n.Qb))),(2,some (.shr none (.l 2 Qg n.Qa)))],3⟩:St)) i.2) (fun i=>runL (F14_s0 n) i.1 i.2=(runL (F14_s0 n) (((n.Qa.length:Int)-0).toNat+1) 0)∧(fun (i40:Int)=>(Int.toNat ((n.Qa.length:Int)-i40)<i.1∧(0:Int)≤i40)) i.2) (fun i=>i.1) ((((n.Qa.length:Int)-0).toNat+1),0) (fun i=>(fun (i40:Int)=>(.seq (.seq (.no) (.cond (.no) (.no))) (.seq (.blk (.seq (.reg [(2,.call 49 (S49 n i40) (ok49 n i40) none)]) (.cond (.seq (.no) (.no)) (.no)))) (.reg [(1,.bnd)])))) i.2)))) (.seq (.no) (.no))))) Try.func14 (fun (_:True)=>ai (trivial) (ai ((Imps.refl (Qr n))) (ai (fun h1:(!(F48 n))=true=>(fun hF:(false:Bool)=(F14 n)=>ai (congrArg (fun r:Bool=>(.bool r:Value)) hF) (trivial)) (condT h1 (rfl))) (fun h1:(!(F48 n))=false=>fun (_:n.Qb.length≤9223372036854775807)=>fun (_:n.Qa.length≤9223372036854775807)=>ai (ai (rfl) (ai (ir) (ai (ir) ((ai (rfl:runL (F14_s0 n) (((n.Qa.length:Int)-0).toNat+1) 0=(runL (F14_s0 n) (((n.Qa.length:Int)-0).toNat+1) 0)) (ai ((Nat.lt_succ_self _:Int.toNat ((n.Qa.length:Int)-0)<(((n.Qa.length:Int)-0).toNat+1))) ((by omega:(0:Int)≤0))))))):((.int .i64 0:Value)=.int .i64 0)∧(Imp (.l 2 Qf n.Qb) (.l 2 Qf n.Qb))∧(Imp (.l 2 Qg n.Qa) (.l 2 Qg n.Qa))∧(runL (F14_s0 n) (((n.Qa.length:Int)-0).toNat+1) 0=(runL (F14_s0 n) (((n.Qa.length:Int)-0).toNat+1) 0)∧Int.toNat ((n.Qa.length:Int)-0)<(((n.Qa.length:Int)-0).toNat+1)∧(0:Int)≤0)) (fun (i0:Nat×Int) (hi0:runL (F14_s0 n) i0.1 i0.2=(runL (F14_s0 n) (((n.Qa.length:Int)-0).toNat+1) 0)∧(fun (i40:Int)=>(Int.toNat ((n.Qa.length:Int)-i40)<i0.1∧(0:Int)≤i40)) i0.2)=>(fun (m0:Nat) (i40:Int) (hI0:runL (F14_s0 n) (m0+1) i40=(runL (F14_s0 n) (((n.Qa.length:Int)-0).toNat+1) 0)) (_:Int.toNat ((n.Qa.length:Int)-i40)<m0+1) (hl0:m0<i0.1) (_:(0:Int)≤i40)=>ai (fun h3:(decide (i40<(n.Qa.length:Int)))=true=>(fun _:i40<(n.Qa.length:Int)=>ai ((ai ((by omega:0≤i40)) ((by omega:i40<(n.Qa.length:Int))))) (ai ((Imps.refl (Qr n))) (ai ((Imp.refl (.v (vI i40)))) (ai (fun h4:(!(F49 n i40))=true=>(fun hF:(false:Bool)=(F14 n)=>ai (congrArg (fun r:Bool=>(.bool r:Value)) hF) (trivial)) (condF h1 (finR (runL_ret hI0 (condT h3 (condT h4 (rfl)))) rfl))) (fun h4:(!(F49 n i40))=false=>ai ((by unfold i64ok; omega:i64ok (i40+1))) (Exists.intro (p:=fun j:Nat×Int=>(fun (i40_:Int)=>(((.int .i64 (i40+1):Value)=.int .i64 i40_)∧(Imp (.l 2 Qf n.Qb) (.l 2 Qf n.Qb))∧(Imp (.l 2 Qg n.Qa) (.l 2 Qg n.Qa))∧((runL (F14_s0 n) j.1 j.2=(runL (F14_s0 n) (((n.Qa.length:Int)-0).toNat+1) 0)∧Int.toNat ((n.Qa.length:Int)-i40_)<j.1∧(0:Int)≤i40_)∧j.1<i0.1))) j.2) (m0,(i40+1)) (ai (rfl) (ai (ir) (ai (ir) (ai (ai (runL_next hI0 (condT h3 (condF h4 (rfl)))) (ai ((by omega:Int.toNat ((n.Qa.length:Int)-(i40+1))<m0)) ((by omega:(0:Int)≤(i40+1))))) hl0)))))))))) (of_decide_eq_true h3)) (fun h3:(decide (i40<(n.Qa.length:Int)))=false=>(fun _:¬ i40<(n.Qa.length:Int)=>(fun hD0_5:(runL (F14_s0 n) (((n.Qa.length:Int)-0).toNat+1) 0)=Lp.done i40=>(fun hF:(true:Bool)=(F14 n)=>ai (congrArg (fun r:Bool=>(.bool r:Value)) hF) (trivial)) (condF h1 (finD hD0_5 (rfl)))) (runL_done hI0 (condF h3 (rfl)))) (of_decide_eq_false h3))) (i0.1-1) i0.2 (hd1 hi0.1 hi0.2.1) (hd2 hi0.2.1) (hd3 hi0.2.1) hi0.2.2))))) (by kernel_rfl)
def F45 (n:Int) (low:Int) (high:Int):Bool :=
 (bif decide (low≤n) then decide (n≤high) else false)
def S45 (R:Bool) (n:Int) (low:Int) (high:Int):Spec:=⟨[.r (.c (.v (vI n))),.r (.c (.v (vI low))),.r (.c (.v (vI high)))],.v (.bool R),True⟩
theorem ok45 (n:Int) (low:Int) (high:Int):(S45 (F45 n low high) n low high).ok Try.prog 45 :=
 fnG_ok mixed (fn:=Try.f45) (ct:=.seq (.no) (.seq (.no) (.no))) Try.func45 (fun (_:True)=>(fun hF:((bif decide (low≤n) then decide (n≤high) else false):Bool)=(F45 n low high)=>ai (congrArg (fun r:Bool=>(.bool r:Value)) hF) (trivial)) (rfl)) (by kernel_rfl)
theorem as45 (n:Int) (low:Int) (high:Int):F45 n low high=(decide (low≤n∧n≤high)):=by
 simp only [F45,Bool.decide_and,bandd]
theorem oa45 (n:Int) (low:Int) (high:Int):(S45 (decide (low≤n∧n≤high)) n low high).ok Try.prog 45:=by
 intro hp; have h:=ok45 n low high hp; rw [as45 n low high] at h; exact h
def F82 (addr:Int) (length:Int) (otherAddr:Int) (otherLen:Int):Bool :=
 (bif decide (addr<otherAddr) then true else (bif (addr==otherAddr) then decide (length<otherLen) else false))
def S82 (addr:Int) (length:Int) (otherAddr:Int) (otherLen:Int):Spec:=⟨[.r (.c (.v (vI addr))),.r (.c (.v (vI length))),.r (.c (.v (vI otherAddr))),.r (.c (.v (vI otherLen)))],.v (.bool (F82 addr length otherAddr otherLen)),True⟩
theorem ok82 (addr:Int) (length:Int) (otherAddr:Int) (otherLen:Int):(S82 addr length otherAddr otherLen).ok Try.prog 82 :=
 fnG_ok mixed (fn:=Try.f82) (ct:=.seq (.no) (.seq (.no) (.no))) Try.func82 (fun (_:True)=>(fun hF:((bif decide (addr<otherAddr) then true else (bif (addr==otherAddr) then decide (length<otherLen) else false)):Bool)=(F82 addr length otherAddr otherLen)=>ai (congrArg (fun r:Bool=>(.bool r:Value)) hF) (trivial)) (rfl)) (by kernel_rfl)
def F46_s0 (n:Qd):Int→Lp Int Bool:=fun v8 =>
 bif (decide (v8<(n.Qb.length:Int))) then (bif (bif (bif decide ((n.Qb.getD v8.toNat default).A<0) then true else decide ((n.Qb.getD v8.toNat default).A≥(n.Qb.getD v8.toNat default).B)) then true else decide ((n.Qb.getD v8.toNat default).B≥(n.Qa.length:Int))) then (.ret false) else (bif (bif decide (v8>0) then (!(F82 ((n.Qb.getD (v8-1).toNat default).A) ((n.Qb.getD (v8-1).toNat default).B) ((n.Qb.getD v8.toNat default).A) ((n.Qb.getD v8.toNat default).B))) else false) then (.ret false) else (.next (v8+1)))) else (.done v8)
def F46 (n:Qd):Bool :=
 (runL (F46_s0 n) (((n.Qb.length:Int)-0).toNat+1) 0).fin (fun r=>r) (fun v8=>decide ((n.Qb.length:Int)≤14))
def S46 (n:Qd):Spec:=⟨[.r (.g (Qr n))],.v (.bool (F46 n)),True⟩
theorem ok46 (n:Qd):(S46 n).ok Try.prog 46 :=
 fnG_ok mixed (fn:=Try.f46) (ct:=.seq (.no) (.seq (.seqk [(1,0),(1,1),(6,0)] (.no) (.blk (.loop (ι:=Nat×Int) (fun i=>(fun (v8:Int)=>(⟨[(1,some (.p 0 0)),(6,some (.h 1 0)),(7,some (.v (vI (n.Qb.length:Int)))),(8,some (.v (vI v8)))],[(0,some (.box 26 [.h 1 0,.h 2 0])),(1,some (.shr none (.l 2 Qf n.Qb))),(2,some (.shr none (.l 2 Qg n.Qa)))],3⟩:St)) i.2) (fun i=>runL (F46_s0 n) i.1 i.2=(runL (F46_s0 n) (((n.Qb.length:Int)-0).toNat+1) 0)∧(fun (v8:Int)=>(Int.toNat ((n.Qb.length:Int)-v8)<i.1∧(0:Int)≤v8)) i.2) (fun i=>i.1) ((((n.Qb.length:Int)-0).toNat+1),0) (fun i=>(fun (v8:Int)=>(.seq (.no) (.seq (.cond (.no) (.no)) (.seq (.blk (.seq (.no) (.seq (.seq (.no) (.cond (.seq (.no) (.no)) (.no))) (.seq (.reg [(6,.bnd),(13,.bnd),(21,.call 82 (S82 ((n.Qb.getD (v8-1).toNat default).A) ((n.Qb.getD (v8-1).toNat default).B) ((n.Qb.getD v8.toNat default).A) ((n.Qb.getD v8.toNat default).B)) (ok82 ((n.Qb.getD (v8-1).toNat default).A) ((n.Qb.getD (v8-1).toNat default).B) ((n.Qb.getD v8.toNat default).A) ((n.Qb.getD v8.toNat default).B)) none)]) (.cond (.seq (.no) (.no)) (.no)))))) (.reg [(0,.bnd)]))))) i.2)))) (.seq (.no) (.no)))) Try.func46 (fun (_:True)=>fun (_:n.Qb.length≤9223372036854775807)=>fun (_:n.Qa.length≤9223372036854775807)=>fun (_:n.Qb.length≤9223372036854775807)=>ai (ai (rfl) (ai (rfl) (ai (ir) (ai (ir) ((ai (rfl:runL (F46_s0 n) (((n.Qb.length:Int)-0).toNat+1) 0=(runL (F46_s0 n) (((n.Qb.length:Int)-0).toNat+1) 0)) (ai ((Nat.lt_succ_self _:Int.toNat ((n.Qb.length:Int)-0)<(((n.Qb.length:Int)-0).toNat+1))) ((by omega:(0:Int)≤0)))))))):((.int .i64 (n.Qb.length:Int):Value)=.int .i64 (n.Qb.length:Int))∧((.int .i64 0:Value)=.int .i64 0)∧(Imp (.l 2 Qf n.Qb) (.l 2 Qf n.Qb))∧(Imp (.l 2 Qg n.Qa) (.l 2 Qg n.Qa))∧(runL (F46_s0 n) (((n.Qb.length:Int)-0).toNat+1) 0=(runL (F46_s0 n) (((n.Qb.length:Int)-0).toNat+1) 0)∧Int.toNat ((n.Qb.length:Int)-0)<(((n.Qb.length:Int)-0).toNat+1)∧(0:Int)≤0)) (fun (i0:Nat×Int) (hi0:runL (F46_s0 n) i0.1 i0.2=(runL (F46_s0 n) (((n.Qb.length:Int)-0).toNat+1) 0)∧(fun (v8:Int)=>(Int.toNat ((n.Qb.length:Int)-v8)<i0.1∧(0:Int)≤v8)) i0.2)=>(fun (m0:Nat) (v8:Int) (hI0:runL (F46_s0 n) (m0+1) v8=(runL (F46_s0 n) (((n.Qb.length:Int)-0).toNat+1) 0)) (_:Int.toNat ((n.Qb.length:Int)-v8)<m0+1) (hl0:m0<i0.1) (_:(0:Int)≤v8)=>ai (fun h2:(decide (v8<(n.Qb.length:Int)))=true=>(fun _:v8<(n.Qb.length:Int)=>ai ((by omega:0≤v8∧v8<(n.Qb.length:Int))) (ai (fun h3:(bif (bif decide ((n.Qb.getD v8.toNat default).A<0) then true else decide ((n.Qb.getD v8.toNat default).A≥(n.Qb.getD v8.toNat default).B)) then true else decide ((n.Qb.getD v8.toNat default).B≥(n.Qa.length:Int)))=true=>(fun hF:(false:Bool)=(F46 n)=>ai (congrArg (fun r:Bool=>(.bool r:Value)) hF) (trivial)) (finR (runL_ret hI0 (condT h2 (condT h3 (rfl)))) rfl)) (fun h3:(bif (bif decide ((n.Qb.getD v8.toNat default).A<0) then true else decide ((n.Qb.getD v8.toNat default).A≥(n.Qb.getD v8.toNat default).B)) then true else decide ((n.Qb.getD v8.toNat default).B≥(n.Qa.length:Int)))=false=>(fun _:¬ (n.Qb.getD v8.toNat default).B≥(n.Qa.length:Int)=>(fun _:¬ (n.Qb.getD v8.toNat default).A≥(n.Qb.getD v8.toNat default).B=>(fun _:¬ (n.Qb.getD v8.toNat default).A<0=>ai ((fun k4:(decide (v8>0))=true=>(fun _:v8>0=>(by unfold i64ok; omega:i64ok (v8-1))) (of_decide_eq_true k4))) (ai ((fun k5:(decide (v8>0))=true=>(fun _:v8>0=>(by omega:0≤(v8-1)∧(v8-1)<(n.Qb.length:Int))) (of_decide_eq_true k5))) (ai ((fun k6:(decide (v8>0))=true=>(fun _:v8>0=>(by unfold i64ok; omega:i64ok (v8-1))) (of_decide_eq_true k6))) (ai ((fun k7:(decide (v8>0))=true=>(fun _:v8>0=>(by omega:0≤(v8-1)∧(v8-1)<(n.Qb.length:Int))) (of_decide_eq_true k7))) (ai ((fun k8:(decide (v8>0))=true=>(fun _:v8>0=>trivial) (of_decide_eq_true k8))) (ai ((fun k9:(decide (v8>0))=true=>(fun _:v8>0=>(Imp.refl (.v (vI ((n.Qb.getD (v8-1).toNat default).A))))) (of_decide_eq_true k9))) (ai ((fun k10:(decide (v8>0))=true=>(fun _:v8>0=>(Imp.refl (.v (vI ((n.Qb.getD (v8-1).toNat default).B))))) (of_decide_eq_true k10))) (ai ((fun k11:(decide (v8>0))=true=>(fun _:v8>0=>(Imp.refl (.v (vI ((n.Qb.getD v8.toNat default).A))))) (of_decide_eq_true k11))) (ai ((fun k12:(decide (v8>0))=true=>(fun _:v8>0=>(Imp.refl (.v (vI ((n.Qb.getD v8.toNat default).B))))) (of_decide_eq_true k12))) (ai (fun h13:(bif decide (v8>0) then (!(F82 ((n.Qb.getD (v8-1).toNat default).A) ((n.Qb.getD (v8-1).toNat default).B) ((n.Qb.getD v8.toNat default).A) ((n.Qb.getD v8.toNat default).B))) else false)=true=>(fun _:v8>0=>(fun hF:(false:Bool)=(F46 n)=>ai (congrArg (fun r:Bool=>(.bool r:Value)) hF) (trivial)) (finR (runL_ret hI0 (condT h2 (condF h3 (condT h13 (rfl))))) rfl)) (of_decide_eq_true (andT1 h13))) (fun h13:(bif decide (v8>0) then (!(F82 ((n.Qb.getD (v8-1).toNat default).A) ((n.Qb.getD (v8-1).toNat default).B) ((n.Qb.getD v8.toNat default).A) ((n.Qb.getD v8.toNat default).B))) else false)=false=>ai ((by unfold i64ok; omega:i64ok (v8+1))) (Exists.intro (p:=fun j:Nat×Int=>(fun (v8_:Int)=>(((.int .i64 (n.Qb.length:Int):Value)=.int .i64 (n.Qb.length:Int))∧((.int .i64 (v8+1):Value)=.int .i64 v8_)∧(Imp (.l 2 Qf n.Qb) (.l 2 Qf n.Qb))∧(Imp (.l 2 Qg n.Qa) (.l 2 Qg n.Qa))∧((runL (F46_s0 n) j.1 j.2=(runL (F46_s0 n) (((n.Qb.length:Int)-0).toNat+1) 0)∧Int.toNat ((n.Qb.length:Int)-v8_)<j.1∧(0:Int)≤v8_)∧j.1<i0.1))) j.2) (m0,(v8+1)) (ai (rfl) (ai (rfl) (ai (ir) (ai (ir) (ai (ai (runL_next hI0 (condT h2 (condF h3 (condF h13 (rfl))))) (ai ((by omega:Int.toNat ((n.Qb.length:Int)-(v8+1))<m0)) ((by omega:(0:Int)≤(v8+1))))) hl0))))))))))))))))) (of_decide_eq_false (orF1 (orF1 h3)))) (of_decide_eq_false (orF2 (orF1 h3)))) (of_decide_eq_false (orF2 h3))))) (of_decide_eq_true h2)) (fun h2:(decide (v8<(n.Qb.length:Int)))=false=>(fun _:¬ v8<(n.Qb.length:Int)=>(fun hD0_14:(runL (F46_s0 n) (((n.Qb.length:Int)-0).toNat+1) 0)=Lp.done v8=>(fun hF:(decide ((n.Qb.length:Int)≤14):Bool)=(F46 n)=>ai (congrArg (fun r:Bool=>(.bool r:Value)) hF) (trivial)) (finD hD0_14 (rfl))) (runL_done hI0 (condF h2 (rfl)))) (of_decide_eq_false h2))) (i0.1-1) i0.2 (hd1 hi0.1 hi0.2.1) (hd2 hi0.2.1) (hd3 hi0.2.1) hi0.2.2)) (by kernel_rfl)
def F83 (label:Int):Bool :=
 (decide (1≤label∧label≤60))
def S83 (R:Bool) (label:Int):Spec:=⟨[.r (.c (.v (vI label)))],.v (.bool R),True⟩
theorem ok83 (label:Int):(S83 (F83 label) label).ok Try.prog 83 :=
 fnG_ok mixed (fn:=Try.f83) (ct:=.seq (.no) (.seq (.reg [(1,.call 45 (S45 (decide (1≤label∧label≤60)) label 1 60) (oa45 label 1 60) none)]) (.no))) Try.func83 (fun (_:True)=>ai (trivial) (ai ((Imp.refl (.v (vI label)))) (ai ((Imp.refl (.v (vI 1)))) (ai ((Imp.refl (.v (vI 60)))) ((fun hF:((decide (1≤label∧label≤60)):Bool)=(F83 label)=>ai (congrArg (fun r:Bool=>(.bool r:Value)) hF) (trivial)) (rfl)))))) (by kernel_rfl)
theorem as83 (label:Int):F83 label=(decide (1≤label∧label≤60)):=by
 rfl
theorem oa83 (label:Int):(S83 (decide (1≤label∧label≤60)) label).ok Try.prog 83:=by
 intro hp; have h:=ok83 label hp; rw [as83 label] at h; exact h
theorem eqlT36 (x0 y0:Int) (x1 y1:Int) (p q:Operand) (w:World):(do eqGuard .eql 36 p q (.agg #[.int .i64 x0,.int .i64 x1]) (.agg #[.int .i64 y0,.int .i64 y1]); binOp .eql 36 (.agg #[.int .i64 x0,.int .i64 x1]) (.agg #[.int .i64 y0,.int .i64 y1])).run Try.prog w=.ok (.bool ((x0==y0)&&(x1==y1))) w:=by
 by_cases h0:x0=y0
 case neg=>simp [go_sem,h0]
 by_cases h1:x1=y1
 case neg=>simp [go_sem,h0,h1]
 simp [go_sem,h0,h1]
def F86_s0 (s:List Qk) (v1:Qk):Int→Lp Int Int:=fun v8 =>
 bif (decide (v8<(s.length:Int))) then (bif ((v1.A==((s.getD v8.toNat default).A))&&(v1.B==((s.getD v8.toNat default).B))) then (.ret v8) else (.next (v8+1))) else (.done v8)
def F86 (s:List Qk) (v1:Qk):Int :=
 (runL (F86_s0 s v1) (((s.length:Int)-0).toNat+1) 0).fin (fun r=>r) (fun v8=>(-1))
def S86 (s:List Qk) (v1:Qk):Spec:=⟨[.r (.c (.l 2 Qf s)),.r (.g (Qf v1))],.v (vI (F86 s v1)),True⟩
theorem ok86 (s:List Qk) (v1:Qk):(S86 s v1).ok Try.prog 86 :=
 fnG_ok mixed (fn:=Try.f86) (ct:=.seqk [(0,0)] (.no) (.seq (.seqk [(0,0)] (.no) (.blk (.loop (ι:=Nat×Int) (fun i=>(fun (v8:Int)=>(⟨[(0,some (.h 0 0)),(3,some (.p 1 0)),(7,some (.v (vI (s.length:Int)))),(8,some (.v (vI v8)))],[(0,some (.shr none (.l 2 Qf s))),(1,some (.box 36 [.v (vI v1.A),.v (vI v1.B)]))],2⟩:St)) i.2) (fun i=>runL (F86_s0 s v1) i.1 i.2=(runL (F86_s0 s v1) (((s.length:Int)-0).toNat+1) 0)∧(fun (v8:Int)=>(Int.toNat ((s.length:Int)-v8)<i.1∧(0:Int)≤v8)) i.2) (fun i=>i.1) ((((s.length:Int)-0).toNat+1),0) (fun i=>(fun (v8:Int)=>(.seq (.no) (.seq (.cond (.no) (.no)) (.seq (.blk (.seq (.no) (.seq (.reg [(5,.bin .eql 36 (.agg #[.int .i64 v1.A,.int .i64 v1.B]) (.agg #[.int .i64 ((s.getD v8.toNat default).A),.int .i64 ((s.getD v8.toNat default).B)]) (.bool ((v1.A==((s.getD v8.toNat default).A))&&(v1.B==((s.getD v8.toNat default).B)))) rfl (eqlT36 v1.A ((s.getD v8.toNat default).A) v1.B ((s.getD v8.toNat default).B)))]) (.cond (.seq (.no) (.no)) (.no))))) (.reg [(0,.bnd)]))))) i.2)))) (.seq (.no) (.no)))) Try.func86 (fun (_:True)=>fun (_:s.length≤9223372036854775807)=>fun (_:s.length≤9223372036854775807)=>ai (ai (rfl) (ai (rfl) (ai (ir) (ai (rfl) (ai (rfl) ((ai (rfl:runL (F86_s0 s v1) (((s.length:Int)-0).toNat+1) 0=(runL (F86_s0 s v1) (((s.length:Int)-0).toNat+1) 0)) (ai ((Nat.lt_succ_self _:Int.toNat ((s.length:Int)-0)<(((s.length:Int)-0).toNat+1))) ((by omega:(0:Int)≤0))))))))):((.int .i64 (s.length:Int):Value)=.int .i64 (s.length:Int))∧((.int .i64 0:Value)=.int .i64 0)∧(Imp (.l 2 Qf s) (.l 2 Qf s))∧((.int .i64 v1.A:Value)=.int .i64 v1.A)∧((.int .i64 v1.B:Value)=.int .i64 v1.B)∧(runL (F86_s0 s v1) (((s.length:Int)-0).toNat+1) 0=(runL (F86_s0 s v1) (((s.length:Int)-0).toNat+1) 0)∧Int.toNat ((s.length:Int)-0)<(((s.length:Int)-0).toNat+1)∧(0:Int)≤0)) (fun (i0:Nat×Int) (hi0:runL (F86_s0 s v1) i0.1 i0.2=(runL (F86_s0 s v1) (((s.length:Int)-0).toNat+1) 0)∧(fun (v8:Int)=>(Int.toNat ((s.length:Int)-v8)<i0.1∧(0:Int)≤v8)) i0.2)=>(fun (m0:Nat) (v8:Int) (hI0:runL (F86_s0 s v1) (m0+1) v8=(runL (F86_s0 s v1) (((s.length:Int)-0).toNat+1) 0)) (_:Int.toNat ((s.length:Int)-v8)<m0+1) (hl0:m0<i0.1) (_:(0:Int)≤v8)=>ai (fun h2:(decide (v8<(s.length:Int)))=true=>(fun _:v8<(s.length:Int)=>ai ((by omega:0≤v8∧v8<(s.length:Int))) (ai ((Eq.refl (.agg #[.int .i64 v1.A,.int .i64 v1.B]:Value))) (ai ((Eq.refl (.agg #[.int .i64 ((s.getD v8.toNat default).A),.int .i64 ((s.getD v8.toNat default).B)]:Value))) (ai (fun h3:((v1.A==((s.getD v8.toNat default).A))&&(v1.B==((s.getD v8.toNat default).B)))=true=>(fun hF:(v8:Int)=(F86 s v1)=>ai (congrArg (fun r:Int=>(.int .i64 r:Value)) hF) (trivial)) (finR (runL_ret hI0 (condT h2 (condT h3 (rfl)))) rfl)) (fun h3:((v1.A==((s.getD v8.toNat default).A))&&(v1.B==((s.getD v8.toNat default).B)))=false=>ai ((by unfold i64ok; omega:i64ok (v8+1))) (Exists.intro (p:=fun j:Nat×Int=>(fun (v8_:Int)=>(((.int .i64 (s.length:Int):Value)=.int .i64 (s.length:Int))∧((.int .i64 (v8+1):Value)=.int .i64 v8_)∧(Imp (.l 2 Qf s) (.l 2 Qf s))∧((.int .i64 v1.A:Value)=.int .i64 v1.A)∧((.int .i64 v1.B:Value)=.int .i64 v1.B)∧((runL (F86_s0 s v1) j.1 j.2=(runL (F86_s0 s v1) (((s.length:Int)-0).toNat+1) 0)∧Int.toNat ((s.length:Int)-v8_)<j.1∧(0:Int)≤v8_)∧j.1<i0.1))) j.2) (m0,(v8+1)) (ai (rfl) (ai (rfl) (ai (ir) (ai (rfl) (ai (rfl) (ai (ai (runL_next hI0 (condT h2 (condF h3 (rfl)))) (ai ((by omega:Int.toNat ((s.length:Int)-(v8+1))<m0)) ((by omega:(0:Int)≤(v8+1))))) hl0)))))))))))) (of_decide_eq_true h2)) (fun h2:(decide (v8<(s.length:Int)))=false=>(fun _:¬ v8<(s.length:Int)=>(fun hD0_4:(runL (F86_s0 s v1) (((s.length:Int)-0).toNat+1) 0)=Lp.done v8=>(fun hF:((-1):Int)=(F86 s v1)=>ai (congrArg (fun r:Int=>(.int .i64 r:Value)) hF) (trivial)) (finD hD0_4 (rfl))) (runL_done hI0 (condF h2 (rfl)))) (of_decide_eq_false h2))) (i0.1-1) i0.2 (hd1 hi0.1 hi0.2.1) (hd2 hi0.2.1) (hd3 hi0.2.1) hi0.2.2)) (by kernel_rfl)
def F50 (n:Qd) (a:Int) (b:Int):Int :=
 (F86 n.Qb ⟨(if b<a then b else a),(if b>a then b else a)⟩)
def S50 (R:Int) (n:Qd) (a:Int) (b:Int):Spec:=⟨[.r (.g (Qr n)),.r (.c (.v (vI a))),.r (.c (.v (vI b)))],.v (vI R),True⟩
theorem ok50 (n:Qd) (a:Int) (b:Int):(S50 (F50 n a b) n a b).ok Try.prog 50 :=
 fnG_ok mixed (fn:=Try.f50) (ct:=.seq (.no) (.seq (.reg [(9,.call 86 (S86 n.Qb (⟨(if b<a then b else a),(if b>a then b else a)⟩:Qk)) (ok86 n.Qb (⟨(if b<a then b else a),(if b>a then b else a)⟩:Qk)) none)]) (.no))) Try.func50 (fun (_:True)=>ai (trivial) (ai ((Imp.refl (.l 2 Qf n.Qb))) (ai ((Imps.refl (Qf (⟨(if b<a then b else a),(if b>a then b else a)⟩:Qk)))) ((fun hF:((F86 n.Qb ⟨(if b<a then b else a),(if b>a then b else a)⟩):Int)=(F50 n a b)=>ai (congrArg (fun r:Int=>(.int .i64 r:Value)) hF) (trivial)) (rfl))))) (by kernel_rfl)
def F47_s1 (n:Qd) (at':Int):Int→Lp Int Bool:=fun v74 =>
 bif (decide (v74<(((n.Qa.getD at'.toNat default).Qi).length:Int))) then (bif (bif (bif (bif (bif ((((n.Qa.getD at'.toNat default).Qi).getD v74.toNat default).To==(((n.Qa.getD at'.toNat default).Qi).getD v74.toNat default).Via) then true else decide ((F50 n at' ((((n.Qa.getD at'.toNat default).Qi).getD v74.toNat default).To))<0)) then true else decide ((F50 n at' ((((n.Qa.getD at'.toNat default).Qi).getD v74.toNat default).Via))<0)) then true else (!(decide (1≤((((n.Qa.getD at'.toNat default).Qi).getD v74.toNat default).Push)∧((((n.Qa.getD at'.toNat default).Qi).getD v74.toNat default).Push)≤60)))) then true else (bif decide (v74>0) then decide ((((n.Qa.getD at'.toNat default).Qi).getD (v74-1).toNat default).To≥(((n.Qa.getD at'.toNat default).Qi).getD v74.toNat default).To) else false)) then (.ret false) else (.next (v74+1))) else (.done v74)
def F47_s0 (n:Qd) (at':Int):Int→Lp Int Bool:=fun v19 =>
 bif (decide (v19<(((n.Qa.getD at'.toNat default).Rows).length:Int))) then (bif (bif (bif (!(decide (1≤((((n.Qa.getD at'.toNat default).Rows).getD v19.toNat default).In)∧((((n.Qa.getD at'.toNat default).Rows).getD v19.toNat default).In)≤60))) then true else (bif (!(bif ((((n.Qa.getD at'.toNat default).Rows).getD v19.toNat default).Next==(-1)) then ((((n.Qa.getD at'.toNat default).Rows).getD v19.toNat default).Out==0) else false)) then (bif decide ((F50 n at' ((((n.Qa.getD at'.toNat default).Rows).getD v19.toNat default).Next))<0) then true else (!(decide (1≤((((n.Qa.getD at'.toNat default).Rows).getD v19.toNat default).Out)∧((((n.Qa.getD at'.toNat default).Rows).getD v19.toNat default).Out)≤60)))) else false)) then true else (bif decide (v19>0) then decide ((((n.Qa.getD at'.toNat default).Rows).getD (v19-1).toNat default).In≥(((n.Qa.getD at'.toNat default).Rows).getD v19.toNat default).In) else false)) then (.ret false) else (.next (v19+1))) else (.done v19)
def F47 (n:Qd) (at':Int):Bool :=
 (runL (F47_s0 n at') (((((n.Qa.getD at'.toNat default).Rows).length:Int)-0).toNat+1) 0).fin (fun r=>r) (fun v19=>(runL (F47_s1 n at') (((((n.Qa.getD at'.toNat default).Qi).length:Int)-0).toNat+1) 0).fin (fun r=>r) (fun v74=>true))
def S47 (n:Qd) (at':Int):Spec:=⟨[.r (.g (Qr n)),.r (.c (.v (vI at')))],.v (.bool (F47 n at')),0≤at'∧at'<(n.Qa.length:Int)⟩
abbrev q47_1 (n:Qd) (at':Int) (v74:Int):=(((n.Qa.getD at'.toNat default).Qi).getD v74.toNat default)
abbrev q47_2 (n:Qd) (at':Int) (v19:Int):=(((n.Qa.getD at'.toNat default).Rows).getD v19.toNat default)
abbrev q47_3 (n:Qd) (at':Int):=(n.Qa.getD at'.toNat default)
abbrev q47_4 (n:Qd) (at':Int):=(runL (F47_s1 n at') (((((q47_3 n at').Qi).length:Int)-0).toNat+1) 0)
abbrev q47_5 (n:Qd) (at':Int):=(runL (F47_s0 n at') (((((q47_3 n at').Rows).length:Int)-0).toNat+1) 0)
abbrev q47_6 (n:Qd) (at':Int) (v74:Int):=(F50 n at' ((q47_1 n at' v74).To))
abbrev q47_7 (n:Qd) (at':Int) (v74:Int):=(F50 n at' ((q47_1 n at' v74).Via))
abbrev q47_8 (n:Qd):=(Imp (.l 2 Qf n.Qb) (.l 2 Qf n.Qb))
abbrev q47_9 (n:Qd):=(Imp (.l 2 Qg n.Qa) (.l 2 Qg n.Qa))
abbrev q47_10 (n:Qd) (at':Int) (v19:Int):=(F50 n at' ((q47_2 n at' v19).Next))
abbrev q47_11 (n:Qd) (at':Int):=(Imps (Qg (q47_3 n at')) (Qg (q47_3 n at')))
theorem ok47 (n:Qd) (at':Int):(S47 n at').ok Try.prog 47 :=
 fnG_ok mixed (fn:=Try.f47) (ct:=.seq (.no) (.seq (.no) (.seq (.seqk [(2,0),(2,1),(5,0),(5,1),(17,0)] (.no) (.blk (.loop (ι:=Nat×Int) (fun i=>(fun (v19:Int)=>(⟨[(1,some (.v (vI at'))),(2,some (.p 0 0)),(5,some (.p 3 0)),(17,some (.h 4 1)),(18,some (.v (vI (((q47_3 n at').Rows).length:Int)))),(19,some (.v (vI v19)))],[(0,some (.box 26 [.h 1 0,.h 2 0])),(1,some (.shr none (.l 2 Qf n.Qb))),(2,some (.shr none (.l 2 Qg n.Qa))),(3,some (.box 54 [.h 4 1,.h 4 2])),(4,some (.mem none none (Qg (q47_3 n at'))))],5⟩:St)) i.2) (fun i=>runL (F47_s0 n at') i.1 i.2=(q47_5 n at')∧(fun (v19:Int)=>(Int.toNat ((((q47_3 n at').Rows).length:Int)-v19)<i.1∧(0:Int)≤v19)) i.2) (fun i=>i.1) ((((((q47_3 n at').Rows).length:Int)-0).toNat+1),0) (fun i=>(fun (v19:Int)=>(.seq (.no) (.seq (.cond (.no) (.no)) (.seq (.blk (.seq (.no) (.seq (.no) (.seq (.reg [(2,.call 83 (S83 (decide (1≤((q47_2 n at' v19).In)∧((q47_2 n at' v19).In)≤60)) ((q47_2 n at' v19).In)) (oa83 ((q47_2 n at' v19).In)) none),(12,.call 50 (S50 (q47_10 n at' v19) n at' ((q47_2 n at' v19).Next)) (ok50 n at' ((q47_2 n at' v19).Next)) none),(17,.call 83 (S83 (decide (1≤((q47_2 n at' v19).Out)∧((q47_2 n at' v19).Out)≤60)) ((q47_2 n at' v19).Out)) (oa83 ((q47_2 n at' v19).Out)) none),(29,.bnd)]) (.cond (.seq (.no) (.no)) (.no)))))) (.reg [(0,.bnd)]))))) i.2)))) (.seq (.seqk [(2,0),(2,1),(5,0),(5,1),(72,0)] (.no) (.blk (.loop (ι:=Nat×Int) (fun i=>(fun (v74:Int)=>(⟨[(1,some (.v (vI at'))),(2,some (.p 0 0)),(5,some (.p 3 0)),(72,some (.h 4 2)),(73,some (.v (vI (((q47_3 n at').Qi).length:Int)))),(74,some (.v (vI v74)))],[(0,some (.box 26 [.h 1 0,.h 2 0])),(1,some (.shr none (.l 2 Qf n.Qb))),(2,some (.shr none (.l 2 Qg n.Qa))),(3,some (.box 54 [.h 4 1,.h 4 2])),(4,some (.mem none none (Qg (q47_3 n at'))))],5⟩:St)) i.2) (fun i=>runL (F47_s1 n at') i.1 i.2=(q47_4 n at')∧(fun (v74:Int)=>(Int.toNat ((((q47_3 n at').Qi).length:Int)-v74)<i.1∧(0:Int)≤v74)) i.2) (fun i=>i.1) ((((((q47_3 n at').Qi).length:Int)-0).toNat+1),0) (fun i=>(fun (v74:Int)=>(.seq (.no) (.seq (.cond (.no) (.no)) (.seq (.blk (.seq (.no) (.seq (.reg [(10,.call 50 (S50 (q47_6 n at' v74) n at' ((q47_1 n at' v74).To)) (ok50 n at' ((q47_1 n at' v74).To)) none),(18,.call 50 (S50 (q47_7 n at' v74) n at' ((q47_1 n at' v74).Via)) (ok50 n at' ((q47_1 n at' v74).Via)) none),(24,.call 83 (S83 (decide (1≤((q47_1 n at' v74).Push)∧((q47_1 n at' v74).Push)≤60)) ((q47_1 n at' v74).Push)) (oa83 ((q47_1 n at' v74).Push)) none),(34,.bnd)]) (.cond (.seq (.no) (.no)) (.no))))) (.reg [(0,.bnd)]))))) i.2)))) (.seq (.no) (.no)))))) Try.func47 (fun (hp:0≤at'∧at'<(n.Qa.length:Int))=>(fun (hpre0:0≤at') (hpre1:at'<(n.Qa.length:Int))=>ai ((by omega:0≤at'∧at'<(n.Qa.length:Int))) (fun (_:n.Qb.length≤9223372036854775807)=>fun (_:n.Qa.length≤9223372036854775807)=>fun (_:((q47_3 n at').Rows).length≤9223372036854775807)=>fun (_:((q47_3 n at').Qi).length≤9223372036854775807)=>fun (_:((q47_3 n at').Rows).length≤9223372036854775807)=>ai (ai (rfl) (ai (rfl) (ai (rfl) (ai (ir) (ai (ir) (ai ((Imps.refl _)) ((ai (rfl:runL (F47_s0 n at') (((((q47_3 n at').Rows).length:Int)-0).toNat+1) 0=(q47_5 n at')) (ai ((Nat.lt_succ_self _:Int.toNat ((((q47_3 n at').Rows).length:Int)-0)<(((((q47_3 n at').Rows).length:Int)-0).toNat+1))) ((by omega:(0:Int)≤0)))))))))):((.int .i64 at':Value)=.int .i64 at')∧((.int .i64 (((q47_3 n at').Rows).length:Int):Value)=.int .i64 (((q47_3 n at').Rows).length:Int))∧((.int .i64 0:Value)=.int .i64 0)∧(q47_8 n)∧(q47_9 n)∧(q47_11 n at')∧(runL (F47_s0 n at') (((((q47_3 n at').Rows).length:Int)-0).toNat+1) 0=(q47_5 n at')∧Int.toNat ((((q47_3 n at').Rows).length:Int)-0)<(((((q47_3 n at').Rows).length:Int)-0).toNat+1)∧(0:Int)≤0)) (fun (i0:Nat×Int) (hi0:runL (F47_s0 n at') i0.1 i0.2=(q47_5 n at')∧(fun (v19:Int)=>(Int.toNat ((((q47_3 n at').Rows).length:Int)-v19)<i0.1∧(0:Int)≤v19)) i0.2)=>(fun (m0:Nat) (v19:Int) (hI0:runL (F47_s0 n at') (m0+1) v19=(q47_5 n at')) (_:Int.toNat ((((q47_3 n at').Rows).length:Int)-v19)<m0+1) (hl0:m0<i0.1) (_:(0:Int)≤v19)=>ai (fun h2:(decide (v19<(((q47_3 n at').Rows).length:Int)))=true=>(fun _:v19<(((q47_3 n at').Rows).length:Int)=>ai ((by omega:0≤v19∧v19<(((q47_3 n at').Rows).length:Int))) (ai (trivial) (ai ((Imp.refl (.v (vI ((q47_2 n at' v19).In))))) (ai ((fun k4:(!(bif ((q47_2 n at' v19).Next==(-1)) then ((q47_2 n at' v19).Out==0) else false))=true=>(fun k3:(!(decide (1≤((q47_2 n at' v19).In)∧((q47_2 n at' v19).In)≤60)))=false=>(fun _:1≤((q47_2 n at' v19).In)∧((q47_2 n at' v19).In)≤60=>trivial) (of_decide_eq_true (notEF k3))))) (ai ((fun k6:(!(bif ((q47_2 n at' v19).Next==(-1)) then ((q47_2 n at' v19).Out==0) else false))=true=>(fun k5:(!(decide (1≤((q47_2 n at' v19).In)∧((q47_2 n at' v19).In)≤60)))=false=>(fun _:1≤((q47_2 n at' v19).In)∧((q47_2 n at' v19).In)≤60=>(Imps.refl (Qr n))) (of_decide_eq_true (notEF k5))))) (ai ((fun k8:(!(bif ((q47_2 n at' v19).Next==(-1)) then ((q47_2 n at' v19).Out==0) else false))=true=>(fun k7:(!(decide (1≤((q47_2 n at' v19).In)∧((q47_2 n at' v19).In)≤60)))=false=>(fun _:1≤((q47_2 n at' v19).In)∧((q47_2 n at' v19).In)≤60=>(Imp.refl (.v (vI at')))) (of_decide_eq_true (notEF k7))))) (ai ((fun k10:(!(bif ((q47_2 n at' v19).Next==(-1)) then ((q47_2 n at' v19).Out==0) else false))=true=>(fun k9:(!(decide (1≤((q47_2 n at' v19).In)∧((q47_2 n at' v19).In)≤60)))=false=>(fun _:1≤((q47_2 n at' v19).In)∧((q47_2 n at' v19).In)≤60=>(Imp.refl (.v (vI ((q47_2 n at' v19).Next))))) (of_decide_eq_true (notEF k9))))) (ai ((fun k13:(decide ((q47_10 n at' v19)<0))=false=>(fun _:¬ (q47_10 n at' v19)<0=>(fun k12:(!(bif ((q47_2 n at' v19).Next==(-1)) then ((q47_2 n at' v19).Out==0) else false))=true=>(fun k11:(!(decide (1≤((q47_2 n at' v19).In)∧((q47_2 n at' v19).In)≤60)))=false=>(fun _:1≤((q47_2 n at' v19).In)∧((q47_2 n at' v19).In)≤60=>trivial) (of_decide_eq_true (notEF k11))))) (of_decide_eq_false k13))) (ai ((fun k16:(decide ((q47_10 n at' v19)<0))=false=>(fun _:¬ (q47_10 n at' v19)<0=>(fun k15:(!(bif ((q47_2 n at' v19).Next==(-1)) then ((q47_2 n at' v19).Out==0) else false))=true=>(fun k14:(!(decide (1≤((q47_2 n at' v19).In)∧((q47_2 n at' v19).In)≤60)))=false=>(fun _:1≤((q47_2 n at' v19).In)∧((q47_2 n at' v19).In)≤60=>(Imp.refl (.v (vI ((q47_2 n at' v19).Out))))) (of_decide_eq_true (notEF k14))))) (of_decide_eq_false k16))) (ai ((fun k18:(decide (v19>0))=true=>(fun _:v19>0=>(fun k17:(bif (!(decide (1≤((q47_2 n at' v19).In)∧((q47_2 n at' v19).In)≤60))) then true else (bif (!(bif ((q47_2 n at' v19).Next==(-1)) then ((q47_2 n at' v19).Out==0) else false)) then (bif decide ((q47_10 n at' v19)<0) then true else (!(decide (1≤((q47_2 n at' v19).Out)∧((q47_2 n at' v19).Out)≤60)))) else false))=false=>(fun _:1≤((q47_2 n at' v19).In)∧((q47_2 n at' v19).In)≤60=>(by unfold i64ok; omega:i64ok (v19-1))) (of_decide_eq_true (notEF (orF1 k17))))) (of_decide_eq_true k18))) (ai ((fun k20:(decide (v19>0))=true=>(fun _:v19>0=>(fun k19:(bif (!(decide (1≤((q47_2 n at' v19).In)∧((q47_2 n at' v19).In)≤60))) then true else (bif (!(bif ((q47_2 n at' v19).Next==(-1)) then ((q47_2 n at' v19).Out==0) else false)) then (bif decide ((q47_10 n at' v19)<0) then true else (!(decide (1≤((q47_2 n at' v19).Out)∧((q47_2 n at' v19).Out)≤60)))) else false))=false=>(fun _:1≤((q47_2 n at' v19).In)∧((q47_2 n at' v19).In)≤60=>(by omega:0≤(v19-1)∧(v19-1)<(((q47_3 n at').Rows).length:Int))) (of_decide_eq_true (notEF (orF1 k19))))) (of_decide_eq_true k20))) (ai (fun h21:(bif (bif (!(decide (1≤((q47_2 n at' v19).In)∧((q47_2 n at' v19).In)≤60))) then true else (bif (!(bif ((q47_2 n at' v19).Next==(-1)) then ((q47_2 n at' v19).Out==0) else false)) then (bif decide ((q47_10 n at' v19)<0) then true else (!(decide (1≤((q47_2 n at' v19).Out)∧((q47_2 n at' v19).Out)≤60)))) else false)) then true else (bif decide (v19>0) then decide ((((q47_3 n at').Rows).getD (v19-1).toNat default).In≥(q47_2 n at' v19).In) else false))=true=>(fun hF:(false:Bool)=(F47 n at')=>ai (congrArg (fun r:Bool=>(.bool r:Value)) hF) (trivial)) (finR (runL_ret hI0 (condT h2 (condT h21 (rfl)))) rfl)) (fun h21:(bif (bif (!(decide (1≤((q47_2 n at' v19).In)∧((q47_2 n at' v19).In)≤60))) then true else (bif (!(bif ((q47_2 n at' v19).Next==(-1)) then ((q47_2 n at' v19).Out==0) else false)) then (bif decide ((q47_10 n at' v19)<0) then true else (!(decide (1≤((q47_2 n at' v19).Out)∧((q47_2 n at' v19).Out)≤60)))) else false)) then true else (bif decide (v19>0) then decide ((((q47_3 n at').Rows).getD (v19-1).toNat default).In≥(q47_2 n at' v19).In) else false))=false=>(fun _:1≤((q47_2 n at' v19).In)∧((q47_2 n at' v19).In)≤60=>ai ((by unfold i64ok; omega:i64ok (v19+1))) (Exists.intro (p:=fun j:Nat×Int=>(fun (v19_:Int)=>(((.int .i64 at':Value)=.int .i64 at')∧((.int .i64 (((q47_3 n at').Rows).length:Int):Value)=.int .i64 (((q47_3 n at').Rows).length:Int))∧((.int .i64 (v19+1):Value)=.int .i64 v19_)∧(q47_8 n)∧(q47_9 n)∧(q47_11 n at')∧((runL (F47_s0 n at') j.1 j.2=(q47_5 n at')∧Int.toNat ((((q47_3 n at').Rows).length:Int)-v19_)<j.1∧(0:Int)≤v19_)∧j.1<i0.1))) j.2) (m0,(v19+1)) (ai (rfl) (ai (rfl) (ai (rfl) (ai (ir) (ai (ir) (ai ((Imps.refl _)) (ai (ai (runL_next hI0 (condT h2 (condF h21 (rfl)))) (ai ((by omega:Int.toNat ((((q47_3 n at').Rows).length:Int)-(v19+1))<m0)) ((by omega:(0:Int)≤(v19+1))))) hl0))))))))) (of_decide_eq_true (notEF (orF1 (orF1 h21))))))))))))))))) (of_decide_eq_true h2)) (fun h2:(decide (v19<(((q47_3 n at').Rows).length:Int)))=false=>(fun _:¬ v19<(((q47_3 n at').Rows).length:Int)=>(fun hD0_22:(q47_5 n at')=Lp.done v19=>fun (_:n.Qb.length≤9223372036854775807)=>fun (_:n.Qa.length≤9223372036854775807)=>fun (_:((q47_3 n at').Rows).length≤9223372036854775807)=>fun (_:((q47_3 n at').Qi).length≤9223372036854775807)=>fun (_:((q47_3 n at').Qi).length≤9223372036854775807)=>ai (ai (rfl) (ai (rfl) (ai (rfl) (ai (ir) (ai (ir) (ai ((Imps.refl _)) ((ai (rfl:runL (F47_s1 n at') (((((q47_3 n at').Qi).length:Int)-0).toNat+1) 0=(q47_4 n at')) (ai ((Nat.lt_succ_self _:Int.toNat ((((q47_3 n at').Qi).length:Int)-0)<(((((q47_3 n at').Qi).length:Int)-0).toNat+1))) ((by omega:(0:Int)≤0)))))))))):((.int .i64 at':Value)=.int .i64 at')∧((.int .i64 (((q47_3 n at').Qi).length:Int):Value)=.int .i64 (((q47_3 n at').Qi).length:Int))∧((.int .i64 0:Value)=.int .i64 0)∧(q47_8 n)∧(q47_9 n)∧(q47_11 n at')∧(runL (F47_s1 n at') (((((q47_3 n at').Qi).length:Int)-0).toNat+1) 0=(q47_4 n at')∧Int.toNat ((((q47_3 n at').Qi).length:Int)-0)<(((((q47_3 n at').Qi).length:Int)-0).toNat+1)∧(0:Int)≤0)) (fun (i1:Nat×Int) (hi1:runL (F47_s1 n at') i1.1 i1.2=(q47_4 n at')∧(fun (v74:Int)=>(Int.toNat ((((q47_3 n at').Qi).length:Int)-v74)<i1.1∧(0:Int)≤v74)) i1.2)=>(fun (m1:Nat) (v74:Int) (hI1:runL (F47_s1 n at') (m1+1) v74=(q47_4 n at')) (_:Int.toNat ((((q47_3 n at').Qi).length:Int)-v74)<m1+1) (hl1:m1<i1.1) (_:(0:Int)≤v74)=>ai (fun h24:(decide (v74<(((q47_3 n at').Qi).length:Int)))=true=>(fun _:v74<(((q47_3 n at').Qi).length:Int)=>ai ((by omega:0≤v74∧v74<(((q47_3 n at').Qi).length:Int))) (ai ((fun k25:((q47_1 n at' v74).To==(q47_1 n at' v74).Via)=false=>(fun _:¬ (q47_1 n at' v74).To=(q47_1 n at' v74).Via=>trivial) (beqF k25))) (ai ((fun k26:((q47_1 n at' v74).To==(q47_1 n at' v74).Via)=false=>(fun _:¬ (q47_1 n at' v74).To=(q47_1 n at' v74).Via=>(Imps.refl (Qr n))) (beqF k26))) (ai ((fun k27:((q47_1 n at' v74).To==(q47_1 n at' v74).Via)=false=>(fun _:¬ (q47_1 n at' v74).To=(q47_1 n at' v74).Via=>(Imp.refl (.v (vI at')))) (beqF k27))) (ai ((fun k28:((q47_1 n at' v74).To==(q47_1 n at' v74).Via)=false=>(fun _:¬ (q47_1 n at' v74).To=(q47_1 n at' v74).Via=>(Imp.refl (.v (vI ((q47_1 n at' v74).To))))) (beqF k28))) (ai ((fun k29:(bif ((q47_1 n at' v74).To==(q47_1 n at' v74).Via) then true else decide ((q47_6 n at' v74)<0))=false=>(fun _:¬ (q47_6 n at' v74)<0=>(fun _:¬ (q47_1 n at' v74).To=(q47_1 n at' v74).Via=>trivial) (beqF (orF1 k29))) (of_decide_eq_false (orF2 k29)))) (ai ((fun k30:(bif ((q47_1 n at' v74).To==(q47_1 n at' v74).Via) then true else decide ((q47_6 n at' v74)<0))=false=>(fun _:¬ (q47_6 n at' v74)<0=>(fun _:¬ (q47_1 n at' v74).To=(q47_1 n at' v74).Via=>(Imps.refl (Qr n))) (beqF (orF1 k30))) (of_decide_eq_false (orF2 k30)))) (ai ((fun k31:(bif ((q47_1 n at' v74).To==(q47_1 n at' v74).Via) then true else decide ((q47_6 n at' v74)<0))=false=>(fun _:¬ (q47_6 n at' v74)<0=>(fun _:¬ (q47_1 n at' v74).To=(q47_1 n at' v74).Via=>(Imp.refl (.v (vI at')))) (beqF (orF1 k31))) (of_decide_eq_false (orF2 k31)))) (ai ((fun k32:(bif ((q47_1 n at' v74).To==(q47_1 n at' v74).Via) then true else decide ((q47_6 n at' v74)<0))=false=>(fun _:¬ (q47_6 n at' v74)<0=>(fun _:¬ (q47_1 n at' v74).To=(q47_1 n at' v74).Via=>(Imp.refl (.v (vI ((q47_1 n at' v74).Via))))) (beqF (orF1 k32))) (of_decide_eq_false (orF2 k32)))) (ai ((fun k33:(bif (bif ((q47_1 n at' v74).To==(q47_1 n at' v74).Via) then true else decide ((q47_6 n at' v74)<0)) then true else decide ((q47_7 n at' v74)<0))=false=>(fun _:¬ (q47_7 n at' v74)<0=>(fun _:¬ (q47_6 n at' v74)<0=>(fun _:¬ (q47_1 n at' v74).To=(q47_1 n at' v74).Via=>trivial) (beqF (orF1 (orF1 k33)))) (of_decide_eq_false (orF2 (orF1 k33)))) (of_decide_eq_false (orF2 k33)))) (ai ((fun k34:(bif (bif ((q47_1 n at' v74).To==(q47_1 n at' v74).Via) then true else decide ((q47_6 n at' v74)<0)) then true else decide ((q47_7 n at' v74)<0))=false=>(fun _:¬ (q47_7 n at' v74)<0=>(fun _:¬ (q47_6 n at' v74)<0=>(fun _:¬ (q47_1 n at' v74).To=(q47_1 n at' v74).Via=>(Imp.refl (.v (vI ((q47_1 n at' v74).Push))))) (beqF (orF1 (orF1 k34)))) (of_decide_eq_false (orF2 (orF1 k34)))) (of_decide_eq_false (orF2 k34)))) (ai ((fun k36:(decide (v74>0))=true=>(fun _:v74>0=>(fun k35:(bif (bif (bif ((q47_1 n at' v74).To==(q47_1 n at' v74).Via) then true else decide ((q47_6 n at' v74)<0)) then true else decide ((q47_7 n at' v74)<0)) then true else (!(decide (1≤((q47_1 n at' v74).Push)∧((q47_1 n at' v74).Push)≤60))))=false=>(fun _:1≤((q47_1 n at' v74).Push)∧((q47_1 n at' v74).Push)≤60=>(fun _:¬ (q47_7 n at' v74)<0=>(fun _:¬ (q47_6 n at' v74)<0=>(fun _:¬ (q47_1 n at' v74).To=(q47_1 n at' v74).Via=>(by unfold i64ok; omega:i64ok (v74-1))) (beqF (orF1 (orF1 (orF1 k35))))) (of_decide_eq_false (orF2 (orF1 (orF1 k35))))) (of_decide_eq_false (orF2 (orF1 k35)))) (of_decide_eq_true (notEF (orF2 k35))))) (of_decide_eq_true k36))) (ai ((fun k38:(decide (v74>0))=true=>(fun _:v74>0=>(fun k37:(bif (bif (bif ((q47_1 n at' v74).To==(q47_1 n at' v74).Via) then true else decide ((q47_6 n at' v74)<0)) then true else decide ((q47_7 n at' v74)<0)) then true else (!(decide (1≤((q47_1 n at' v74).Push)∧((q47_1 n at' v74).Push)≤60))))=false=>(fun _:1≤((q47_1 n at' v74).Push)∧((q47_1 n at' v74).Push)≤60=>(fun _:¬ (q47_7 n at' v74)<0=>(fun _:¬ (q47_6 n at' v74)<0=>(fun _:¬ (q47_1 n at' v74).To=(q47_1 n at' v74).Via=>(by omega:0≤(v74-1)∧(v74-1)<(((q47_3 n at').Qi).length:Int))) (beqF (orF1 (orF1 (orF1 k37))))) (of_decide_eq_false (orF2 (orF1 (orF1 k37))))) (of_decide_eq_false (orF2 (orF1 k37)))) (of_decide_eq_true (notEF (orF2 k37))))) (of_decide_eq_true k38))) (ai (fun h39:(bif (bif (bif (bif ((q47_1 n at' v74).To==(q47_1 n at' v74).Via) then true else decide ((q47_6 n at' v74)<0)) then true else decide ((q47_7 n at' v74)<0)) then true else (!(decide (1≤((q47_1 n at' v74).Push)∧((q47_1 n at' v74).Push)≤60)))) then true else (bif decide (v74>0) then decide ((((q47_3 n at').Qi).getD (v74-1).toNat default).To≥(q47_1 n at' v74).To) else false))=true=>(fun hF:(false:Bool)=(F47 n at')=>ai (congrArg (fun r:Bool=>(.bool r:Value)) hF) (trivial)) (finD hD0_22 (finR (runL_ret hI1 (condT h24 (condT h39 (rfl)))) rfl))) (fun h39:(bif (bif (bif (bif ((q47_1 n at' v74).To==(q47_1 n at' v74).Via) then true else decide ((q47_6 n at' v74)<0)) then true else decide ((q47_7 n at' v74)<0)) then true else (!(decide (1≤((q47_1 n at' v74).Push)∧((q47_1 n at' v74).Push)≤60)))) then true else (bif decide (v74>0) then decide ((((q47_3 n at').Qi).getD (v74-1).toNat default).To≥(q47_1 n at' v74).To) else false))=false=>(fun _:1≤((q47_1 n at' v74).Push)∧((q47_1 n at' v74).Push)≤60=>(fun _:¬ (q47_7 n at' v74)<0=>(fun _:¬ (q47_6 n at' v74)<0=>(fun _:¬ (q47_1 n at' v74).To=(q47_1 n at' v74).Via=>ai ((by unfold i64ok; omega:i64ok (v74+1))) (Exists.intro (p:=fun j:Nat×Int=>(fun (v74_:Int)=>(((.int .i64 at':Value)=.int .i64 at')∧((.int .i64 (((q47_3 n at').Qi).length:Int):Value)=.int .i64 (((q47_3 n at').Qi).length:Int))∧((.int .i64 (v74+1):Value)=.int .i64 v74_)∧(q47_8 n)∧(q47_9 n)∧(q47_11 n at')∧((runL (F47_s1 n at') j.1 j.2=(q47_4 n at')∧Int.toNat ((((q47_3 n at').Qi).length:Int)-v74_)<j.1∧(0:Int)≤v74_)∧j.1<i1.1))) j.2) (m1,(v74+1)) (ai (rfl) (ai (rfl) (ai (rfl) (ai (ir) (ai (ir) (ai ((Imps.refl _)) (ai (ai (runL_next hI1 (condT h24 (condF h39 (rfl)))) (ai ((by omega:Int.toNat ((((q47_3 n at').Qi).length:Int)-(v74+1))<m1)) ((by omega:(0:Int)≤(v74+1))))) hl1))))))))) (beqF (orF1 (orF1 (orF1 (orF1 h39)))))) (of_decide_eq_false (orF2 (orF1 (orF1 (orF1 h39)))))) (of_decide_eq_false (orF2 (orF1 (orF1 h39))))) (of_decide_eq_true (notEF (orF2 (orF1 h39))))))))))))))))))) (of_decide_eq_true h24)) (fun h24:(decide (v74<(((q47_3 n at').Qi).length:Int)))=false=>(fun _:¬ v74<(((q47_3 n at').Qi).length:Int)=>(fun hD1_40:(q47_4 n at')=Lp.done v74=>(fun hF:(true:Bool)=(F47 n at')=>ai (congrArg (fun r:Bool=>(.bool r:Value)) hF) (trivial)) (finD hD0_22 (finD hD1_40 (rfl)))) (runL_done hI1 (condF h24 (rfl)))) (of_decide_eq_false h24))) (i1.1-1) i1.2 (hd1 hi1.1 hi1.2.1) (hd2 hi1.2.1) (hd3 hi1.2.1) hi1.2.2)) (runL_done hI0 (condF h2 (rfl)))) (of_decide_eq_false h2))) (i0.1-1) i0.2 (hd1 hi0.1 hi0.2.1) (hd2 hi0.2.1) (hd3 hi0.2.1) hi0.2.2))) hp.1 hp.2) (by kernel_rfl)
def F13_s0 (n:Qd):Int→Lp Int Bool:=fun v17 =>
 bif (decide (v17<(n.Qa.length:Int))) then (bif (!(F47 n v17)) then (.ret false) else (.next (v17+1))) else (.done v17)
def F13 (n:Qd):Bool :=
 bif (bif (!(decide (1≤(n.Qa.length:Int)∧(n.Qa.length:Int)≤8))) then true else (!(F46 n))) then false else ((runL (F13_s0 n) (((n.Qa.length:Int)-0).toNat+1) 0).fin (fun r=>r) (fun v17=>true))
def S13 (R:Bool) (n:Qd):Spec:=⟨[.r (.g (Qr n))],.v (.bool R),True⟩
theorem ok13 (n:Qd):(S13 (F13 n) n).ok Try.prog 13 :=
 fnG_ok mixed (fn:=Try.f13) (ct:=.seq (.no) (.seq (.seq (.reg [(3,.call 45 (S45 (decide (1≤(n.Qa.length:Int)∧(n.Qa.length:Int)≤8)) (n.Qa.length:Int) 1 8) (oa45 (n.Qa.length:Int) 1 8) none),(7,.call 46 (S46 n) (ok46 n) none)]) (.cond (.seq (.no) (.no)) (.no))) (.seq (.seqk [(1,0),(1,1)] (.no) (.blk (.loop (ι:=Nat×Int) (fun i=>(fun (v17:Int)=>(⟨[(1,some (.p 0 0)),(16,some (.v (vI (n.Qa.length:Int)))),(17,some (.v (vI v17)))],[(0,some (.box 26 [.h 1 0,.h 2 0])),(1,some (.shr none (.l 2 Qf n.Qb))),(2,some (.shr none (.l 2 Qg n.Qa)))],3⟩:St)) i.2) (fun i=>runL (F13_s0 n) i.1 i.2=(runL (F13_s0 n) (((n.Qa.length:Int)-0).toNat+1) 0)∧(fun (v17:Int)=>(Int.toNat ((n.Qa.length:Int)-v17)<i.1∧(0:Int)≤v17)) i.2) (fun i=>i.1) ((((n.Qa.length:Int)-0).toNat+1),0) (fun i=>(fun (v17:Int)=>(.seq (.no) (.seq (.cond (.no) (.no)) (.seq (.blk (.seq (.no) (.seq (.reg [(2,.call 47 (S47 n v17) (ok47 n v17) none)]) (.cond (.seq (.no) (.no)) (.no))))) (.reg [(0,.bnd)]))))) i.2)))) (.seq (.no) (.no))))) Try.func13 (fun (_:True)=>ai (trivial) (ai ((Imp.refl (.v (vI (n.Qa.length:Int))))) (ai ((Imp.refl (.v (vI 1)))) (ai ((Imp.refl (.v (vI 8)))) (ai ((fun k1:(!(decide (1≤(n.Qa.length:Int)∧(n.Qa.length:Int)≤8)))=false=>(fun _:1≤(n.Qa.length:Int)∧(n.Qa.length:Int)≤8=>trivial) (of_decide_eq_true (notEF k1)))) (ai ((fun k2:(!(decide (1≤(n.Qa.length:Int)∧(n.Qa.length:Int)≤8)))=false=>(fun _:1≤(n.Qa.length:Int)∧(n.Qa.length:Int)≤8=>(Imps.refl (Qr n))) (of_decide_eq_true (notEF k2)))) (ai (fun h3:(bif (!(decide (1≤(n.Qa.length:Int)∧(n.Qa.length:Int)≤8))) then true else (!(F46 n)))=true=>(fun hF:(false:Bool)=(F13 n)=>ai (congrArg (fun r:Bool=>(.bool r:Value)) hF) (trivial)) (condT h3 (rfl))) (fun h3:(bif (!(decide (1≤(n.Qa.length:Int)∧(n.Qa.length:Int)≤8))) then true else (!(F46 n)))=false=>(fun _:1≤(n.Qa.length:Int)∧(n.Qa.length:Int)≤8=>fun (_:n.Qb.length≤9223372036854775807)=>fun (_:n.Qa.length≤9223372036854775807)=>ai (ai (rfl) (ai (rfl) (ai (ir) (ai (ir) ((ai (rfl:runL (F13_s0 n) (((n.Qa.length:Int)-0).toNat+1) 0=(runL (F13_s0 n) (((n.Qa.length:Int)-0).toNat+1) 0)) (ai ((Nat.lt_succ_self _:Int.toNat ((n.Qa.length:Int)-0)<(((n.Qa.length:Int)-0).toNat+1))) ((by omega:(0:Int)≤0)))))))):((.int .i64 (n.Qa.length:Int):Value)=.int .i64 (n.Qa.length:Int))∧((.int .i64 0:Value)=.int .i64 0)∧(Imp (.l 2 Qf n.Qb) (.l 2 Qf n.Qb))∧(Imp (.l 2 Qg n.Qa) (.l 2 Qg n.Qa))∧(runL (F13_s0 n) (((n.Qa.length:Int)-0).toNat+1) 0=(runL (F13_s0 n) (((n.Qa.length:Int)-0).toNat+1) 0)∧Int.toNat ((n.Qa.length:Int)-0)<(((n.Qa.length:Int)-0).toNat+1)∧(0:Int)≤0)) (fun (i0:Nat×Int) (hi0:runL (F13_s0 n) i0.1 i0.2=(runL (F13_s0 n) (((n.Qa.length:Int)-0).toNat+1) 0)∧(fun (v17:Int)=>(Int.toNat ((n.Qa.length:Int)-v17)<i0.1∧(0:Int)≤v17)) i0.2)=>(fun (m0:Nat) (v17:Int) (hI0:runL (F13_s0 n) (m0+1) v17=(runL (F13_s0 n) (((n.Qa.length:Int)-0).toNat+1) 0)) (_:Int.toNat ((n.Qa.length:Int)-v17)<m0+1) (hl0:m0<i0.1) (_:(0:Int)≤v17)=>ai (fun h5:(decide (v17<(n.Qa.length:Int)))=true=>(fun _:v17<(n.Qa.length:Int)=>ai ((ai ((by omega:0≤v17)) ((by omega:v17<(n.Qa.length:Int))))) (ai ((Imps.refl (Qr n))) (ai ((Imp.refl (.v (vI v17)))) (ai (fun h6:(!(F47 n v17))=true=>(fun hF:(false:Bool)=(F13 n)=>ai (congrArg (fun r:Bool=>(.bool r:Value)) hF) (trivial)) (condF h3 (finR (runL_ret hI0 (condT h5 (condT h6 (rfl)))) rfl))) (fun h6:(!(F47 n v17))=false=>ai ((by unfold i64ok; omega:i64ok (v17+1))) (Exists.intro (p:=fun j:Nat×Int=>(fun (v17_:Int)=>(((.int .i64 (n.Qa.length:Int):Value)=.int .i64 (n.Qa.length:Int))∧((.int .i64 (v17+1):Value)=.int .i64 v17_)∧(Imp (.l 2 Qf n.Qb) (.l 2 Qf n.Qb))∧(Imp (.l 2 Qg n.Qa) (.l 2 Qg n.Qa))∧((runL (F13_s0 n) j.1 j.2=(runL (F13_s0 n) (((n.Qa.length:Int)-0).toNat+1) 0)∧Int.toNat ((n.Qa.length:Int)-v17_)<j.1∧(0:Int)≤v17_)∧j.1<i0.1))) j.2) (m0,(v17+1)) (ai (rfl) (ai (rfl) (ai (ir) (ai (ir) (ai (ai (runL_next hI0 (condT h5 (condF h6 (rfl)))) (ai ((by omega:Int.toNat ((n.Qa.length:Int)-(v17+1))<m0)) ((by omega:(0:Int)≤(v17+1))))) hl0))))))))))) (of_decide_eq_true h5)) (fun h5:(decide (v17<(n.Qa.length:Int)))=false=>(fun _:¬ v17<(n.Qa.length:Int)=>(fun hD0_7:(runL (F13_s0 n) (((n.Qa.length:Int)-0).toNat+1) 0)=Lp.done v17=>(fun hF:(true:Bool)=(F13 n)=>ai (congrArg (fun r:Bool=>(.bool r:Value)) hF) (trivial)) (condF h3 (finD hD0_7 (rfl)))) (runL_done hI0 (condF h5 (rfl)))) (of_decide_eq_false h5))) (i0.1-1) i0.2 (hd1 hi0.1 hi0.2.1) (hd2 hi0.2.1) (hd3 hi0.2.1) hi0.2.2)) (of_decide_eq_true (notEF (orF1 h3))))))))))) (by kernel_rfl)
def F67_s0 (n:Qd):(Int×List Qj)→Lp (Int×List Qj) Qd:=fun (i40,out) =>
 bif (decide (i40<(n.Qa.length:Int))) then (.next ((i40+1),(out++[(⟨(([]:List Qq)++((n.Qa.getD i40.toNat default).Rows)),(([]:List Qs)++((n.Qa.getD i40.toNat default).Qi))⟩:Qj)]))) else (.done (i40,out))
def F67 (n:Qd):Qd :=
 (runL (F67_s0 n) (((n.Qa.length:Int)-0).toNat+1) (0,([]:List Qj))).fin (fun r=>r) (fun (i40,out)=>(⟨(([]:List Qk)++n.Qb),out⟩:Qd))
def S67 (R:Qd) (n:Qd):Spec:=⟨[.r (.g (Qr n))],.ag [.ow (.l 2 Qf R.Qb),.ow (.l 2 Qg R.Qa)],n.Qb.length≤1000000000∧n.Qa.length≤1000000000∧(∀ k:Nat,(n.Qa.getD k default).Rows.length≤1000000000)∧(∀ k:Nat,(n.Qa.getD k default).Qi.length≤1000000000)⟩
theorem ok67 (n:Qd):(S67 (F67 n) n).ok Try.prog 67 :=
 fnG_ok mixed (fn:=Try.f67) (ct:=.seq (.no) (.seq (.reg [(0,.dat (.l 2 Qf ([]:List Qk))),(3,.dat (.l 2 Qf (([]:List Qk)++n.Qb))),(4,.dat (.l 2 Qg ([]:List Qj)))]) (.seq (.seqk [(1,0),(1,1),(3,0),(3,1)] (.no) (.blk (.loop (ι:=Nat×(Int×List Qj)) (fun i=>(fun (i40:Int) (out:List Qj)=>(⟨[(1,some (.p 0 0)),(2,some (.p 3 0)),(3,some (.p 4 0)),(4,some (.v (vI i40)))],[(0,some (.box 26 [.h 1 0,.h 2 0])),(1,some (.shr none (.l 2 Qf n.Qb))),(2,some (.shr none (.l 2 Qg n.Qa))),(3,some (.box 26 [.v (.slice none 0 0),.v (.slice none 0 0)])),(4,some (.box 26 [.h 5 0,.h 6 0])),(5,some (.own 5 (.l 2 Qf (([]:List Qk)++n.Qb)))),(6,some (.own 6 (.l 2 Qg out)))],7⟩:St)) i.2.1 i.2.2) (fun i=>runL (F67_s0 n) i.1 i.2=(runL (F67_s0 n) (((n.Qa.length:Int)-0).toNat+1) (0,([]:List Qj)))∧(fun (i40:Int) (out:List Qj)=>(Int.toNat ((n.Qa.length:Int)-i40)<i.1∧(out.length:Int)=i40∧(0:Int)≤i40)) i.2.1 i.2.2) (fun i=>i.1) ((((n.Qa.length:Int)-0).toNat+1),(0,([]:List Qj))) (fun i=>(fun (i40:Int) (out:List Qj)=>(.seq (.seq (.no) (.cond (.no) (.no))) (.seq (.blk (.reg [(2,.dat (.l 3 Qt ([]:List Qq))),(9,.dat (.l 3 Qt (([]:List Qq)++((n.Qa.getD i40.toNat default).Rows)))),(10,.dat (.l 3 Qu ([]:List Qs))),(17,.dat (.l 3 Qu (([]:List Qs)++((n.Qa.getD i40.toNat default).Qi)))),(20,.dat (.l 2 Qg (out++[(⟨(([]:List Qq)++((n.Qa.getD i40.toNat default).Rows)),(([]:List Qs)++((n.Qa.getD i40.toNat default).Qi))⟩:Qj)])))])) (.reg [(1,.bnd)])))) i.2.1 i.2.2)))) (.seq (.no) (.no))))) Try.func67 (fun (hp:n.Qb.length≤1000000000∧n.Qa.length≤1000000000∧(∀ k:Nat,(n.Qa.getD k default).Rows.length≤1000000000)∧(∀ k:Nat,(n.Qa.getD k default).Qi.length≤1000000000))=>(fun (hpre0:n.Qb.length≤1000000000) (hpre1:n.Qa.length≤1000000000) (hpre2:∀ k:Nat,(n.Qa.getD k default).Rows.length≤1000000000) (hpre3:∀ k:Nat,(n.Qa.getD k default).Qi.length≤1000000000)=>ai ((BuildOK.mk Qf ([]:List Qk) rfl (by exact trivial) (fun _=>rfl):BuildOK 0 2 [] (.l 2 Qf ([]:List Qk)))) (ai ((AppL.mk Qf ([]:List Qk) n.Qb (Imp.refl (.l 2 Qf ([]:List Qk))) ir (fun y=>⟨rfl,fun e he=>by simp only [Qf,List.mem_cons,List.not_mem_nil,or_false] at he; rcases he with rfl | rfl <;> exact ⟨_,rfl⟩⟩):AppL (.l 2 Qf ([]:List Qk)) (.l 2 Qf n.Qb) 2 (.l 2 Qf (([]:List Qk)++n.Qb)))) (ai ((by (try simp only [lens]); first | omega | (have:=hpre2 i40.toNat; have:=hpre3 i40.toNat; omega):((([]:List Qk)++n.Qb)).length*16≤140737488355328)) (ai ((BuildOK.mk Qg ([]:List Qj) rfl (by exact trivial) (fun _=>rfl):BuildOK 0 2 [] (.l 2 Qg ([]:List Qj)))) (fun (_:n.Qb.length≤9223372036854775807)=>fun (_:n.Qa.length≤9223372036854775807)=>fun (_:(([]:List Qk)++n.Qb).length≤9223372036854775807)=>fun (_:([]:List Qj).length≤9223372036854775807)=>ai (ai (rfl) (ai (ir) (ai (ir) (ai (rfl) (ai (rfl) (ai (ir) (ai (ir) ((ai (rfl:runL (F67_s0 n) (((n.Qa.length:Int)-0).toNat+1) (0,([]:List Qj))=(runL (F67_s0 n) (((n.Qa.length:Int)-0).toNat+1) (0,([]:List Qj)))) (ai ((Nat.lt_succ_self _:Int.toNat ((n.Qa.length:Int)-0)<(((n.Qa.length:Int)-0).toNat+1))) (ai ((by first | omega | (simp only [lens] at*<;> omega):(([]:List Qj).length:Int)=0)) ((by first | omega | (simp only [lens] at*<;> omega):(0:Int)≤0)))))))))))):((.int .i64 0:Value)=.int .i64 0)∧(Imp (.l 2 Qf n.Qb) (.l 2 Qf n.Qb))∧(Imp (.l 2 Qg n.Qa) (.l 2 Qg n.Qa))∧((.slice none 0 0:Value)=.slice none 0 0)∧((.slice none 0 0:Value)=.slice none 0 0)∧(Imp (.l 2 Qf (([]:List Qk)++n.Qb)) (.l 2 Qf (([]:List Qk)++n.Qb)))∧(Imp (.l 2 Qg ([]:List Qj)) (.l 2 Qg ([]:List Qj)))∧(runL (F67_s0 n) (((n.Qa.length:Int)-0).toNat+1) (0,([]:List Qj))=(runL (F67_s0 n) (((n.Qa.length:Int)-0).toNat+1) (0,([]:List Qj)))∧Int.toNat ((n.Qa.length:Int)-0)<(((n.Qa.length:Int)-0).toNat+1)∧(([]:List Qj).length:Int)=0∧(0:Int)≤0)) (fun (i0:Nat×(Int×List Qj)) (hi0:runL (F67_s0 n) i0.1 i0.2=(runL (F67_s0 n) (((n.Qa.length:Int)-0).toNat+1) (0,([]:List Qj)))∧(fun (i40:Int) (out:List Qj)=>(Int.toNat ((n.Qa.length:Int)-i40)<i0.1∧(out.length:Int)=i40∧(0:Int)≤i40)) i0.2.1 i0.2.2)=>(fun (m0:Nat) (i40:Int) (out:List Qj) (hI0:runL (F67_s0 n) (m0+1) (i40,out)=(runL (F67_s0 n) (((n.Qa.length:Int)-0).toNat+1) (0,([]:List Qj)))) (_:Int.toNat ((n.Qa.length:Int)-i40)<m0+1) (hl0:m0<i0.1) (_:(out.length:Int)=i40) (_:(0:Int)≤i40)=>ai (fun h2:(decide (i40<(n.Qa.length:Int)))=true=>(fun _:i40<(n.Qa.length:Int)=>ai ((BuildOK.mk Qt ([]:List Qq) rfl (by exact trivial) (fun _=>rfl):BuildOK 0 3 [] (.l 3 Qt ([]:List Qq)))) (ai ((by first | omega | (simp only [lens] at*<;> omega):0≤i40∧i40<(n.Qa.length:Int))) (ai ((AppL.mk Qt ([]:List Qq) ((n.Qa.getD i40.toNat default).Rows) (Imp.refl (.l 3 Qt ([]:List Qq))) ir (fun y=>⟨rfl,fun e he=>by simp only [Qt,List.mem_cons,List.not_mem_nil,or_false] at he; rcases he with rfl | rfl | rfl <;> exact ⟨_,rfl⟩⟩):AppL (.l 3 Qt ([]:List Qq)) (.l 3 Qt ((n.Qa.getD i40.toNat default).Rows)) 3 (.l 3 Qt (([]:List Qq)++((n.Qa.getD i40.toNat default).Rows))))) (ai ((by (try simp only [lens]); first | omega | (have:=hpre2 i40.toNat; have:=hpre3 i40.toNat; omega):((([]:List Qq)++((n.Qa.getD i40.toNat default).Rows))).length*24≤140737488355328)) (ai ((BuildOK.mk Qu ([]:List Qs) rfl (by exact trivial) (fun _=>rfl):BuildOK 0 3 [] (.l 3 Qu ([]:List Qs)))) (ai ((by first | omega | (simp only [lens] at*<;> omega):0≤i40∧i40<(n.Qa.length:Int))) (ai ((AppL.mk Qu ([]:List Qs) ((n.Qa.getD i40.toNat default).Qi) (Imp.refl (.l 3 Qu ([]:List Qs))) ir (fun y=>⟨rfl,fun e he=>by simp only [Qu,List.mem_cons,List.not_mem_nil,or_false] at he; rcases he with rfl | rfl | rfl <;> exact ⟨_,rfl⟩⟩):AppL (.l 3 Qu ([]:List Qs)) (.l 3 Qu ((n.Qa.getD i40.toNat default).Qi)) 3 (.l 3 Qu (([]:List Qs)++((n.Qa.getD i40.toNat default).Qi))))) (ai ((by (try simp only [lens]); first | omega | (have:=hpre2 i40.toNat; have:=hpre3 i40.toNat; omega):((([]:List Qs)++((n.Qa.getD i40.toNat default).Qi))).length*24≤140737488355328)) (ai ((AppA.mk Qg out [(⟨(([]:List Qq)++((n.Qa.getD i40.toNat default).Rows)),(([]:List Qs)++((n.Qa.getD i40.toNat default).Qi))⟩:Qj)] (Imp.refl (.l 2 Qg out)) rfl (by exact ai ir (ai ir (trivial))) (fun _=>rfl):AppA (.l 2 Qg out) 1 2 [.l 3 Qt (([]:List Qq)++((n.Qa.getD i40.toNat default).Rows)),.l 3 Qu (([]:List Qs)++((n.Qa.getD i40.toNat default).Qi))] (.l 2 Qg (out++[(⟨(([]:List Qq)++((n.Qa.getD i40.toNat default).Rows)),(([]:List Qs)++((n.Qa.getD i40.toNat default).Qi))⟩:Qj)])))) (ai ((by (try simp only [lens]); first | omega | (have:=hpre2 i40.toNat; have:=hpre3 i40.toNat; omega):((out++[(⟨(([]:List Qq)++((n.Qa.getD i40.toNat default).Rows)),(([]:List Qs)++((n.Qa.getD i40.toNat default).Qi))⟩:Qj)])).length*48≤140737488355328)) (ai ((by unfold i64ok; first | omega | (simp only [lens] at*<;> omega):i64ok (i40+1))) (Exists.intro (p:=fun j:Nat×(Int×List Qj)=>(fun (i40_:Int) (out_:List Qj)=>(((.int .i64 (i40+1):Value)=.int .i64 i40_)∧(Imp (.l 2 Qf n.Qb) (.l 2 Qf n.Qb))∧(Imp (.l 2 Qg n.Qa) (.l 2 Qg n.Qa))∧((.slice none 0 0:Value)=.slice none 0 0)∧((.slice none 0 0:Value)=.slice none 0 0)∧(Imp (.l 2 Qf (([]:List Qk)++n.Qb)) (.l 2 Qf (([]:List Qk)++n.Qb)))∧(Imp (.l 2 Qg (out++[(⟨(([]:List Qq)++((n.Qa.getD i40.toNat default).Rows)),(([]:List Qs)++((n.Qa.getD i40.toNat default).Qi))⟩:Qj)])) (.l 2 Qg out_))∧((runL (F67_s0 n) j.1 j.2=(runL (F67_s0 n) (((n.Qa.length:Int)-0).toNat+1) (0,([]:List Qj)))∧Int.toNat ((n.Qa.length:Int)-i40_)<j.1∧(out_.length:Int)=i40_∧(0:Int)≤i40_)∧j.1<i0.1))) j.2.1 j.2.2) (m0,((i40+1),(out++[(⟨(([]:List Qq)++((n.Qa.getD i40.toNat default).Rows)),(([]:List Qs)++((n.Qa.getD i40.toNat default).Qi))⟩:Qj)]))) (ai (rfl) (ai (ir) (ai (ir) (ai (rfl) (ai (rfl) (ai (ir) (ai (ir) (ai (ai (runL_next hI0 (condT h2 (rfl))) (ai ((by first | omega | (simp only [lens] at*<;> omega):Int.toNat ((n.Qa.length:Int)-(i40+1))<m0)) (ai ((by first | omega | (simp only [lens] at*<;> omega):((out++[(⟨(([]:List Qq)++((n.Qa.getD i40.toNat default).Rows)),(([]:List Qs)++((n.Qa.getD i40.toNat default).Qi))⟩:Qj)]).length:Int)=(i40+1))) ((by first | omega | (simp only [lens] at*<;> omega):(0:Int)≤(i40+1)))))) hl0)))))))))))))))))))) (of_decide_eq_true h2)) (fun h2:(decide (i40<(n.Qa.length:Int)))=false=>(fun _:¬ i40<(n.Qa.length:Int)=>(fun hD0_3:(runL (F67_s0 n) (((n.Qa.length:Int)-0).toNat+1) (0,([]:List Qj)))=Lp.done (i40,out)=>(fun hF:((⟨(([]:List Qk)++n.Qb),out⟩:Qd):Qd)=(F67 n)=>ai (Imp.of_eq (congrArg (fun r:Qd=>Dat.l 2 Qf r.Qb) hF)) (ai (Imp.of_eq (congrArg (fun r:Qd=>Dat.l 2 Qg r.Qa) hF)) (trivial))) (finD hD0_3 (rfl))) (runL_done hI0 (condF h2 (rfl)))) (of_decide_eq_false h2))) (i0.1-1) i0.2.1 i0.2.2 (hd1 hi0.1 hi0.2.1) (hd2 hi0.2.1) (hd3 hi0.2.1) hi0.2.2.1 hi0.2.2.2)))))) hp.1 hp.2.1 hp.2.2.1 hp.2.2.2) (by kernel_rfl)
def F70_s0 (b:Qj) (label:Int):Int→Lp Int Int:=fun i40 =>
 bif (decide (i40<(b.Rows.length:Int))) then (bif ((b.Rows.getD i40.toNat default).In==label) then (.ret i40) else (.next (i40+1))) else (.done i40)
def F70 (b:Qj) (label:Int):Int :=
 (runL (F70_s0 b label) (((b.Rows.length:Int)-0).toNat+1) 0).fin (fun r=>r) (fun i40=>(-1))
def S70 (R:Int) (b:Qj) (label:Int):Spec:=⟨[.r (.g (Qg b)),.r (.c (.v (vI label)))],.v (vI R),True⟩
theorem ok70 (b:Qj) (label:Int):(S70 (F70 b label) b label).ok Try.prog 70 :=
 fnG_ok mixed (fn:=Try.f70) (ct:=.seq (.no) (.seq (.seqk [(2,0),(2,1)] (.no) (.blk (.loop (ι:=Nat×Int) (fun i=>(fun (i40:Int)=>(⟨[(1,some (.v (vI label))),(2,some (.p 0 0)),(5,some (.v (vI i40)))],[(0,some (.box 54 [.h 1 0,.h 2 0])),(1,some (.shr none (.l 3 Qt b.Rows))),(2,some (.shr none (.l 3 Qu b.Qi)))],3⟩:St)) i.2) (fun i=>runL (F70_s0 b label) i.1 i.2=(runL (F70_s0 b label) (((b.Rows.length:Int)-0).toNat+1) 0)∧(fun (i40:Int)=>(Int.toNat ((b.Rows.length:Int)-i40)<i.1∧(0:Int)≤i40)) i.2) (fun i=>i.1) ((((b.Rows.length:Int)-0).toNat+1),0) (fun i=>(fun (i40:Int)=>(.seq (.seq (.no) (.cond (.no) (.no))) (.seq (.blk (.seq (.no) (.cond (.seq (.no) (.no)) (.no)))) (.reg [(1,.bnd)])))) i.2)))) (.seq (.no) (.no)))) Try.func70 (fun (_:True)=>fun (_:b.Rows.length≤9223372036854775807)=>fun (_:b.Qi.length≤9223372036854775807)=>ai (ai (rfl) (ai (rfl) (ai (ir) (ai (ir) ((ai (rfl:runL (F70_s0 b label) (((b.Rows.length:Int)-0).toNat+1) 0=(runL (F70_s0 b label) (((b.Rows.length:Int)-0).toNat+1) 0)) (ai ((Nat.lt_succ_self _:Int.toNat ((b.Rows.length:Int)-0)<(((b.Rows.length:Int)-0).toNat+1))) ((by omega:(0:Int)≤0)))))))):((.int .i64 label:Value)=.int .i64 label)∧((.int .i64 0:Value)=.int .i64 0)∧(Imp (.l 3 Qt b.Rows) (.l 3 Qt b.Rows))∧(Imp (.l 3 Qu b.Qi) (.l 3 Qu b.Qi))∧(runL (F70_s0 b label) (((b.Rows.length:Int)-0).toNat+1) 0=(runL (F70_s0 b label) (((b.Rows.length:Int)-0).toNat+1) 0)∧Int.toNat ((b.Rows.length:Int)-0)<(((b.Rows.length:Int)-0).toNat+1)∧(0:Int)≤0)) (fun (i0:Nat×Int) (hi0:runL (F70_s0 b label) i0.1 i0.2=(runL (F70_s0 b label) (((b.Rows.length:Int)-0).toNat+1) 0)∧(fun (i40:Int)=>(Int.toNat ((b.Rows.length:Int)-i40)<i0.1∧(0:Int)≤i40)) i0.2)=>(fun (m0:Nat) (i40:Int) (hI0:runL (F70_s0 b label) (m0+1) i40=(runL (F70_s0 b label) (((b.Rows.length:Int)-0).toNat+1) 0)) (_:Int.toNat ((b.Rows.length:Int)-i40)<m0+1) (hl0:m0<i0.1) (_:(0:Int)≤i40)=>ai (fun h2:(decide (i40<(b.Rows.length:Int)))=true=>(fun _:i40<(b.Rows.length:Int)=>ai ((by omega:0≤i40∧i40<(b.Rows.length:Int))) (ai (fun h3:((b.Rows.getD i40.toNat default).In==label)=true=>(fun _:(b.Rows.getD i40.toNat default).In=label=>(fun hF:(i40:Int)=(F70 b label)=>ai (congrArg (fun r:Int=>(.int .i64 r:Value)) hF) (trivial)) (finR (runL_ret hI0 (condT h2 (condT h3 (rfl)))) rfl)) (eq_of_beq h3)) (fun h3:((b.Rows.getD i40.toNat default).In==label)=false=>(fun _:¬ (b.Rows.getD i40.toNat default).In=label=>ai ((by unfold i64ok; omega:i64ok (i40+1))) (Exists.intro (p:=fun j:Nat×Int=>(fun (i40_:Int)=>(((.int .i64 label:Value)=.int .i64 label)∧((.int .i64 (i40+1):Value)=.int .i64 i40_)∧(Imp (.l 3 Qt b.Rows) (.l 3 Qt b.Rows))∧(Imp (.l 3 Qu b.Qi) (.l 3 Qu b.Qi))∧((runL (F70_s0 b label) j.1 j.2=(runL (F70_s0 b label) (((b.Rows.length:Int)-0).toNat+1) 0)∧Int.toNat ((b.Rows.length:Int)-i40_)<j.1∧(0:Int)≤i40_)∧j.1<i0.1))) j.2) (m0,(i40+1)) (ai (rfl) (ai (rfl) (ai (ir) (ai (ir) (ai (ai (runL_next hI0 (condT h2 (condF h3 (rfl)))) (ai ((by omega:Int.toNat ((b.Rows.length:Int)-(i40+1))<m0)) ((by omega:(0:Int)≤(i40+1))))) hl0))))))) (beqF h3)))) (of_decide_eq_true h2)) (fun h2:(decide (i40<(b.Rows.length:Int)))=false=>(fun _:¬ i40<(b.Rows.length:Int)=>(fun hD0_4:(runL (F70_s0 b label) (((b.Rows.length:Int)-0).toNat+1) 0)=Lp.done i40=>(fun hF:((-1):Int)=(F70 b label)=>ai (congrArg (fun r:Int=>(.int .i64 r:Value)) hF) (trivial)) (finD hD0_4 (rfl))) (runL_done hI0 (condF h2 (rfl)))) (of_decide_eq_false h2))) (i0.1-1) i0.2 (hd1 hi0.1 hi0.2.1) (hd2 hi0.2.1) (hd3 hi0.2.1) hi0.2.2)) (by kernel_rfl)
def F96_s0 (b:Qj) (to':Int):Int→Lp Int Int:=fun i40 =>
 bif (decide (i40<(b.Qi.length:Int))) then (bif ((b.Qi.getD i40.toNat default).To==to') then (.ret i40) else (.next (i40+1))) else (.done i40)
def F96 (b:Qj) (to':Int):Int :=
 (runL (F96_s0 b to') (((b.Qi.length:Int)-0).toNat+1) 0).fin (fun r=>r) (fun i40=>(-1))
def S96 (R:Int) (b:Qj) (to':Int):Spec:=⟨[.r (.g (Qg b)),.r (.c (.v (vI to')))],.v (vI R),True⟩
theorem ok96 (b:Qj) (to':Int):(S96 (F96 b to') b to').ok Try.prog 96 :=
 fnG_ok mixed (fn:=Try.f96) (ct:=.seq (.no) (.seq (.seqk [(2,0),(2,1)] (.no) (.blk (.loop (ι:=Nat×Int) (fun i=>(fun (i40:Int)=>(⟨[(1,some (.v (vI to'))),(2,some (.p 0 0)),(5,some (.v (vI i40)))],[(0,some (.box 54 [.h 1 0,.h 2 0])),(1,some (.shr none (.l 3 Qt b.Rows))),(2,some (.shr none (.l 3 Qu b.Qi)))],3⟩:St)) i.2) (fun i=>runL (F96_s0 b to') i.1 i.2=(runL (F96_s0 b to') (((b.Qi.length:Int)-0).toNat+1) 0)∧(fun (i40:Int)=>(Int.toNat ((b.Qi.length:Int)-i40)<i.1∧(0:Int)≤i40)) i.2) (fun i=>i.1) ((((b.Qi.length:Int)-0).toNat+1),0) (fun i=>(fun (i40:Int)=>(.seq (.seq (.no) (.cond (.no) (.no))) (.seq (.blk (.seq (.no) (.cond (.seq (.no) (.no)) (.no)))) (.reg [(1,.bnd)])))) i.2)))) (.seq (.no) (.no)))) Try.func96 (fun (_:True)=>fun (_:b.Rows.length≤9223372036854775807)=>fun (_:b.Qi.length≤9223372036854775807)=>ai (ai (rfl) (ai (rfl) (ai (ir) (ai (ir) ((ai (rfl:runL (F96_s0 b to') (((b.Qi.length:Int)-0).toNat+1) 0=(runL (F96_s0 b to') (((b.Qi.length:Int)-0).toNat+1) 0)) (ai ((Nat.lt_succ_self _:Int.toNat ((b.Qi.length:Int)-0)<(((b.Qi.length:Int)-0).toNat+1))) ((by omega:(0:Int)≤0)))))))):((.int .i64 to':Value)=.int .i64 to')∧((.int .i64 0:Value)=.int .i64 0)∧(Imp (.l 3 Qt b.Rows) (.l 3 Qt b.Rows))∧(Imp (.l 3 Qu b.Qi) (.l 3 Qu b.Qi))∧(runL (F96_s0 b to') (((b.Qi.length:Int)-0).toNat+1) 0=(runL (F96_s0 b to') (((b.Qi.length:Int)-0).toNat+1) 0)∧Int.toNat ((b.Qi.length:Int)-0)<(((b.Qi.length:Int)-0).toNat+1)∧(0:Int)≤0)) (fun (i0:Nat×Int) (hi0:runL (F96_s0 b to') i0.1 i0.2=(runL (F96_s0 b to') (((b.Qi.length:Int)-0).toNat+1) 0)∧(fun (i40:Int)=>(Int.toNat ((b.Qi.length:Int)-i40)<i0.1∧(0:Int)≤i40)) i0.2)=>(fun (m0:Nat) (i40:Int) (hI0:runL (F96_s0 b to') (m0+1) i40=(runL (F96_s0 b to') (((b.Qi.length:Int)-0).toNat+1) 0)) (_:Int.toNat ((b.Qi.length:Int)-i40)<m0+1) (hl0:m0<i0.1) (_:(0:Int)≤i40)=>ai (fun h2:(decide (i40<(b.Qi.length:Int)))=true=>(fun _:i40<(b.Qi.length:Int)=>ai ((by omega:0≤i40∧i40<(b.Qi.length:Int))) (ai (fun h3:((b.Qi.getD i40.toNat default).To==to')=true=>(fun _:(b.Qi.getD i40.toNat default).To=to'=>(fun hF:(i40:Int)=(F96 b to')=>ai (congrArg (fun r:Int=>(.int .i64 r:Value)) hF) (trivial)) (finR (runL_ret hI0 (condT h2 (condT h3 (rfl)))) rfl)) (eq_of_beq h3)) (fun h3:((b.Qi.getD i40.toNat default).To==to')=false=>(fun _:¬ (b.Qi.getD i40.toNat default).To=to'=>ai ((by unfold i64ok; omega:i64ok (i40+1))) (Exists.intro (p:=fun j:Nat×Int=>(fun (i40_:Int)=>(((.int .i64 to':Value)=.int .i64 to')∧((.int .i64 (i40+1):Value)=.int .i64 i40_)∧(Imp (.l 3 Qt b.Rows) (.l 3 Qt b.Rows))∧(Imp (.l 3 Qu b.Qi) (.l 3 Qu b.Qi))∧((runL (F96_s0 b to') j.1 j.2=(runL (F96_s0 b to') (((b.Qi.length:Int)-0).toNat+1) 0)∧Int.toNat ((b.Qi.length:Int)-i40_)<j.1∧(0:Int)≤i40_)∧j.1<i0.1))) j.2) (m0,(i40+1)) (ai (rfl) (ai (rfl) (ai (ir) (ai (ir) (ai (ai (runL_next hI0 (condT h2 (condF h3 (rfl)))) (ai ((by omega:Int.toNat ((b.Qi.length:Int)-(i40+1))<m0)) ((by omega:(0:Int)≤(i40+1))))) hl0))))))) (beqF h3)))) (of_decide_eq_true h2)) (fun h2:(decide (i40<(b.Qi.length:Int)))=false=>(fun _:¬ i40<(b.Qi.length:Int)=>(fun hD0_4:(runL (F96_s0 b to') (((b.Qi.length:Int)-0).toNat+1) 0)=Lp.done i40=>(fun hF:((-1):Int)=(F96 b to')=>ai (congrArg (fun r:Int=>(.int .i64 r:Value)) hF) (trivial)) (finD hD0_4 (rfl))) (runL_done hI0 (condF h2 (rfl)))) (of_decide_eq_false h2))) (i0.1-1) i0.2 (hd1 hi0.1 hi0.2.1) (hd2 hi0.2.1) (hd3 hi0.2.1) hi0.2.2)) (by kernel_rfl)
structure LabPacket where
 Box:Int
 Stack:List Int
 deriving DecidableEq,Inhabited
def F40 (n:Qd) (box:Int):Bool :=
 (decide (0≤box∧box≤((n.Qa.length:Int)-1)))
def S40 (R:Bool) (n:Qd) (box:Int):Spec:=⟨[.r (.g (Qr n)),.r (.c (.v (vI box)))],.v (.bool R),n.Qa.length≤9223372036854775807⟩
theorem ok40 (n:Qd) (box:Int):(S40 (F40 n box) n box).ok Try.prog 40 :=
 fnG_ok mixed (fn:=Try.f40) (ct:=.seq (.no) (.seq (.reg [(4,.bnd),(5,.call 45 (S45 (decide (0≤box∧box≤((n.Qa.length:Int)-1))) box 0 ((n.Qa.length:Int)-1)) (oa45 box 0 ((n.Qa.length:Int)-1)) none)]) (.no))) Try.func40 (fun (hpre0:n.Qa.length≤9223372036854775807)=>ai ((by unfold i64ok; omega:i64ok ((n.Qa.length:Int)-1))) (ai (trivial) (ai ((Imp.refl (.v (vI box)))) (ai ((Imp.refl (.v (vI 0)))) (ai ((Imp.refl (.v (vI ((n.Qa.length:Int)-1))))) ((fun hF:((decide (0≤box∧box≤((n.Qa.length:Int)-1))):Bool)=(F40 n box)=>ai (congrArg (fun r:Bool=>(.bool r:Value)) hF) (trivial)) (rfl))))))) (by kernel_rfl)
theorem as40 (n:Qd) (box:Int):F40 n box=(decide (0≤box∧box≤(n.Qa.length:Int)-1)):=by
 rfl
theorem oa40 (n:Qd) (box:Int):(S40 (decide (0≤box∧box≤(n.Qa.length:Int)-1)) n box).ok Try.prog 40:=by
 intro hp; have h:=ok40 n box hp; rw [as40 n box] at h; exact h
structure FrameOk (n:Qd):Prop where
 b1:1≤n.Qa.length
 b8:n.Qa.length≤8
 l14:n.Qb.length≤14
 ab:∀ k,k<n.Qb.length→0≤(n.Qb.getD k default).A∧(n.Qb.getD k default).A<(n.Qb.getD k default).B∧(n.Qb.getD k default).B<(n.Qa.length:Int)
 inc:∀ k,k+1<n.Qb.length→(n.Qb.getD k default).A<(n.Qb.getD (k+1) default).A∨((n.Qb.getD k default).A=(n.Qb.getD (k+1) default).A∧(n.Qb.getD k default).B<(n.Qb.getD (k+1) default).B)
def badL (n:Qd) (k:Nat):Bool :=
 (decide ((n.Qb.getD k default).A<0) || decide ((n.Qb.getD k default).A≥(n.Qb.getD k default).B) || decide ((n.Qb.getD k default).B≥(n.Qa.length:Int))) ||
 (decide (0<k)&&(decide ((n.Qb.getD (k-1) default).A>(n.Qb.getD k default).A) || (decide ((n.Qb.getD (k-1) default).A=(n.Qb.getD k default).A)&&decide ((n.Qb.getD (k-1) default).B≥(n.Qb.getD k default).B))))
theorem s48 (n:Qd) (k:Nat) (hk:k<n.Qb.length):F48_s0 n (k:Int)=bif badL n k then .ret false else .next ((k:Int)+1):=by
 simp only [F48_s0,ltD hk,cond_true,nn,bord,bandd,toNat_pred,pos_cast,beqD]
 rw [ret_or]
 rfl
theorem s46 (n:Qd) (k:Nat) (hk:k<n.Qb.length):F46_s0 n (k:Int)=bif badL n k then .ret false else .next ((k:Int)+1):=by
 simp only [F46_s0,ltD hk,cond_true,nn,bord,bandd,toNat_pred,pos_cast,beqD,F82]
 rw [ret_or]
 unfold badL
 congr 2
 congr 1
 (rw [Bool.eq_iff_iff]; simp only [Bool.and_eq_true,Bool.or_eq_true,Bool.not_eq_true',Bool.not_eq_false',decide_eq_true_eq,decide_eq_false_iff_not,Bool.and_eq_false_iff,Bool.or_eq_false_iff]; omega)
theorem frame_eq (n:Qd):F48 n=(decide (1≤(n.Qa.length:Int)∧(n.Qa.length:Int)≤8)&&(decide ((n.Qb.length:Int)≤14)&&(first (badL n) n.Qb.length).isNone)):=by
 unfold F48
 rw [allB (badL n) n.Qb.length _ (s48 n) (by simp [F48_s0])]
 cases decide (1≤(n.Qa.length:Int)∧(n.Qa.length:Int)≤8)
 ·rfl
 ·by_cases h:(n.Qb.length:Int)>14
  ·have h':¬ (n.Qb.length:Int)≤14:=by omega
   simp only [decide_eq_true h,decide_eq_false h']; rfl
  ·have h':(n.Qb.length:Int)≤14:=by omega
   simp only [decide_eq_false h,decide_eq_true h',Bool.and_true]; rfl
theorem linksOk_eq (n:Qd):F46 n=((first (badL n) n.Qb.length).isNone&&decide ((n.Qb.length:Int)≤14)):=by
 unfold F46
 rw [allB (badL n) n.Qb.length _ (s46 n) (by simp [F46_s0])]
theorem frame_ok {n:Qd}:F48 n=true↔FrameOk n:=by
 rw [frame_eq]
 simp only [Bool.and_eq_true,decide_eq_true_eq,allB_iff,badL,Bool.or_eq_false_iff,Bool.and_eq_false_iff,decide_eq_false_iff_not]
 constructor
 ·rintro ⟨⟨h1,h2⟩,h3,h4⟩
  refine ⟨by omega,by omega,by omega,fun k hk=>?_,fun k hk=>?_⟩
  ·have:=(h4 k hk).1; omega
  ·have:=(h4 (k+1) hk).2
   simp only [Nat.add_sub_cancel] at this
   omega
 ·intro h
  have:=h.b1; have:=h.b8; have:=h.l14
  refine ⟨⟨by omega,by omega⟩,by omega,fun k hk=>⟨?_,?_⟩⟩
  ·have:=h.ab k hk; omega
  ·cases k with
   | zero=>left; omega
   | succ k =>
    right
    have:=h.inc k hk
    simp only [Nat.add_sub_cancel]
    omega
def isLink (n:Qd) (a b:Int) (k:Nat):Bool :=
 (decide ((n.Qb.getD k default).A=a)&&decide ((n.Qb.getD k default).B=b)) || (decide ((n.Qb.getD k default).A=b)&&decide ((n.Qb.getD k default).B=a))
def Qh (n:Qd) (a b:Int):Int:=match first (isLink n a b) n.Qb.length with
 | some k=>(k:Int)
 | none=>-1
theorem specLink_eq (n:Qd) (a b:Int):F97 n a b=Qh n a b:=by
 unfold F97 Qh
 rw [search (isLink n a b) (fun k=>(k:Int)) n.Qb.length _ (fun k hk=>by simp only [F97_s0,ltD hk,cond_true,nn,bord,bandd,beqD]; rfl) (by simp [F97_s0])]
 all_goals (cases first (isLink n a b) n.Qb.length <;> rfl)
theorem implLink_eq {n:Qd} (h:FrameOk n) (a b:Int):F50 n a b=Qh n a b:=by
 unfold F50 Qh F86
 rw [search (fun k=>(decide ((if b<a then b else a)=(n.Qb.getD k default).A)&&decide ((if b>a then b else a)=(n.Qb.getD k default).B))) (fun k=>(k:Int)) n.Qb.length _
  (fun k hk=>by simp only [F86_s0,ltD hk,cond_true,nn,beqD]) (by simp [F86_s0])]
 have e:first (fun k=>(decide ((if b<a then b else a)=(n.Qb.getD k default).A)&&decide ((if b>a then b else a)=(n.Qb.getD k default).B))) n.Qb.length=first (isLink n a b) n.Qb.length:=first_congr fun k hk=>by
  have:=h.ab k hk
  unfold isLink
  split <;> split <;> (rw [Bool.eq_iff_iff]; simp only [Bool.and_eq_true,Bool.or_eq_true,Bool.not_eq_true',Bool.not_eq_false',decide_eq_true_eq,decide_eq_false_iff_not,Bool.and_eq_false_iff,Bool.or_eq_false_iff]; omega)
 rw [e]
 all_goals (cases first (isLink n a b) n.Qb.length <;> rfl)
theorem linkOf_comm (n:Qd) (a b:Int):Qh n a b=Qh n b a:=by
 unfold Qh
 have e:first (isLink n a b) n.Qb.length=first (isLink n b a) n.Qb.length:=first_congr fun k _=>by unfold isLink; exact Bool.or_comm _ _
 rw [e]
theorem linkOf_some {n:Qd} {a b:Int} (h:0≤Qh n a b):(Qh n a b).toNat<n.Qb.length∧isLink n a b (Qh n a b).toNat=true:=by
 unfold Qh at h ⊢
 cases e:first (isLink n a b) n.Qb.length with
 | none=>rw [e] at h; exact absurd h (by decide)
 | some k =>
  simp only [Int.toNat_natCast]
  have:=first_some.1 e
  exact ⟨this.1,this.2.1⟩
theorem linkOf_lt {n:Qd} (a b:Int):Qh n a b<(n.Qb.length:Int):=by
 unfold Qh
 cases e:first (isLink n a b) n.Qb.length with
 | none=>simp only; omega
 | some k=>have:=(first_some.1 e).1; simp only; omega
theorem linkOf_in {n:Qd} (h:FrameOk n) {a b:Int} (hl:0≤Qh n a b):0≤a∧a<(n.Qa.length:Int)∧0≤b∧b<(n.Qa.length:Int)∧a≠b:=by
 obtain ⟨h1,h2⟩:=linkOf_some hl
 have:=h.ab _ h1
 simp only [isLink,Bool.or_eq_true,Bool.and_eq_true,decide_eq_true_eq] at h2
 omega
theorem link_unique {n:Qd} (h:FrameOk n):∀ (d j:Nat),j+d+1<n.Qb.length→(n.Qb.getD j default).A<(n.Qb.getD (j+d+1) default).A∨((n.Qb.getD j default).A=(n.Qb.getD (j+d+1) default).A∧(n.Qb.getD j default).B<(n.Qb.getD (j+d+1) default).B)
 | 0,j,hj=>h.inc j hj
 | d+1,j,hj=>by
  have h1:=link_unique h d j (by omega)
  have h2:=h.inc (j+d+1) (by omega)
  have e:j+(d+1)+1=j+d+1+1:=by omega
  rw [e]
  omega
theorem isLink_unique {n:Qd} (h:FrameOk n) {a b:Int} {j k:Nat} (hj:j<n.Qb.length) (hk:k<n.Qb.length) (h1:isLink n a b j=true) (h2:isLink n a b k=true):j=k:=by
 simp only [isLink,Bool.or_eq_true,Bool.and_eq_true,decide_eq_true_eq] at h1 h2
 have a1:=h.ab j hj; have a2:=h.ab k hk
 rcases Nat.lt_trichotomy j k with hlt | rfl | hlt
 ·have:=link_unique h (k-j-1) j (by omega)
  have e:j+(k-j-1)+1=k:=by omega
  rw [e] at this
  omega
 ·rfl
 ·have:=link_unique h (j-k-1) k (by omega)
  have e:k+(j-k-1)+1=j:=by omega
  rw [e] at this
  omega
theorem linkOf_of {n:Qd} (h:FrameOk n) {a b:Int} {k:Nat} (hk:k<n.Qb.length) (h1:isLink n a b k=true):Qh n a b=k:=by
 unfold Qh
 cases e:first (isLink n a b) n.Qb.length with
 | none=>have:=first_none.1 e k hk; rw [this] at h1; cases h1
 | some j =>
  have:=first_some.1 e
  rw [isLink_unique h this.1 hk this.2.1 h1]
def isLabel (x:Int):Prop:=1≤x∧x≤60
instance (x:Int):Decidable (isLabel x):=inferInstanceAs (Decidable (1≤x∧x≤60))
def rowOk (n:Qd) (box:Int) (r:Qq):Prop:=isLabel r.In∧((r.Next=-1∧r.Out=0)∨(0≤Qh n box r.Next∧isLabel r.Out))
def viaOk (n:Qd) (box:Int) (v:Qs):Prop:=0≤Qh n box v.To∧0≤Qh n box v.Via∧v.To≠v.Via∧isLabel v.Push
instance (n:Qd) (b:Int) (r:Qq):Decidable (rowOk n b r):=inferInstanceAs (Decidable (_∧_))
instance (n:Qd) (b:Int) (r:Qs):Decidable (viaOk n b r):=inferInstanceAs (Decidable (_∧_))
theorem noLink {n:Qd} (h:FrameOk n) (a:Int):Qh n a (-1)<0:=by
 rcases Int.lt_or_le (Qh n a (-1)) 0 with h1 | h1
 ·exact h1
 ·have:=linkOf_in h h1; omega
theorem specRow_eq {n:Qd} (h:FrameOk n) (box:Int) (r:Qq):F84 n box r=decide (rowOk n box r):=by
 have h1:=noLink h box
 simp only [F84,specLink_eq,beqD,bandd,eqstep]
 by_cases h2:r.Next=-1
 ·rw [← h2] at h1
  rw [decide_eq_true h2,cond_true]
  (rw [Bool.eq_iff_iff]; simp only [Bool.and_eq_true,Bool.or_eq_true,Bool.not_eq_true',Bool.not_eq_false',decide_eq_true_eq,decide_eq_false_iff_not,Bool.and_eq_false_iff,Bool.or_eq_false_iff]; simp only [rowOk,isLabel]; omega)
 ·rw [decide_eq_false h2,cond_false]
  (rw [Bool.eq_iff_iff]; simp only [Bool.and_eq_true,Bool.or_eq_true,Bool.not_eq_true',Bool.not_eq_false',decide_eq_true_eq,decide_eq_false_iff_not,Bool.and_eq_false_iff,Bool.or_eq_false_iff]; simp only [rowOk,isLabel]; omega)
theorem specVia_eq (n:Qd) (box:Int) (v:Qs):F85 n box v=decide (viaOk n box v):=by
 simp only [F85,specLink_eq,bandd,neI]
 (rw [Bool.eq_iff_iff]; simp only [Bool.and_eq_true,Bool.or_eq_true,Bool.not_eq_true',Bool.not_eq_false',decide_eq_true_eq,decide_eq_false_iff_not,Bool.and_eq_false_iff,Bool.or_eq_false_iff]; simp only [viaOk,isLabel]; omega)
structure BoxOk (n:Qd) (i:Nat):Prop where
 row:∀ k,k<(n.Qa.getD i default).Rows.length→rowOk n i ((n.Qa.getD i default).Rows.getD k default)
 rinc:∀ k,k+1<(n.Qa.getD i default).Rows.length→((n.Qa.getD i default).Rows.getD k default).In<((n.Qa.getD i default).Rows.getD (k+1) default).In
 via:∀ k,k<(n.Qa.getD i default).Qi.length→viaOk n i ((n.Qa.getD i default).Qi.getD k default)
 vinc:∀ k,k+1<(n.Qa.getD i default).Qi.length→((n.Qa.getD i default).Qi.getD k default).To<((n.Qa.getD i default).Qi.getD (k+1) default).To
def badR (n:Qd) (i:Nat) (k:Nat):Bool:=!decide (rowOk n i ((n.Qa.getD i default).Rows.getD k default)) || (decide (0<k)&&decide (((n.Qa.getD i default).Rows.getD (k-1) default).In≥((n.Qa.getD i default).Rows.getD k default).In))
def badG (n:Qd) (i:Nat) (k:Nat):Bool:=!decide (viaOk n i ((n.Qa.getD i default).Qi.getD k default)) || (decide (0<k)&&decide (((n.Qa.getD i default).Qi.getD (k-1) default).To≥((n.Qa.getD i default).Qi.getD k default).To))
def boxB (n:Qd) (i:Nat):Bool:=(first (badR n i) (n.Qa.getD i default).Rows.length).isNone&&(first (badG n i) (n.Qa.getD i default).Qi.length).isNone
theorem boxB_ok {n:Qd} {i:Nat}:boxB n i=true↔BoxOk n i:=by
 simp only [boxB,Bool.and_eq_true,allB_iff,badR,badG,Bool.or_eq_false_iff,Bool.not_eq_false',decide_eq_true_eq,Bool.and_eq_false_iff,decide_eq_false_iff_not]
 constructor
 ·rintro ⟨h1,h2⟩
  refine ⟨fun k hk=>(h1 k hk).1,fun k hk=>?_,fun k hk=>(h2 k hk).1,fun k hk=>?_⟩
  ·have:=(h1 (k+1) hk).2; simp only [Nat.add_sub_cancel] at this; omega
  ·have:=(h2 (k+1) hk).2; simp only [Nat.add_sub_cancel] at this; omega
 ·rintro ⟨h1,h2,h3,h4⟩
  refine ⟨fun k hk=>⟨h1 k hk,?_⟩,fun k hk=>⟨h3 k hk,?_⟩⟩
  ·cases k with
   | zero=>left; omega
   | succ k=>right; have:=h2 k hk; simp only [Nat.add_sub_cancel]; omega
  ·cases k with
   | zero=>left; omega
   | succ k=>right; have:=h4 k hk; simp only [Nat.add_sub_cancel]; omega
theorem specBox_eq {n:Qd} (h:FrameOk n) (i:Nat):F49 n i=boxB n i:=by
 unfold F49 boxB
 simp only [nn]
 rw [allB (badR n i) _ _ (fun k hk=>by simp only [F49_s0,nn,ltD hk,cond_true,specRow_eq h,bord,bandd,toNat_pred,pos_cast]; rfl) (by simp [F49_s0])]
 rw [allB (badG n i) _ _ (fun k hk=>by simp only [F49_s1,nn,ltD hk,cond_true,specVia_eq,bord,bandd,toNat_pred,pos_cast]; rfl) (by simp [F49_s1])]
 rw [Bool.and_true]
theorem implBox_eq {n:Qd} (h:FrameOk n) (i:Nat):F47 n i=boxB n i:=by
 unfold F47 boxB
 simp only [nn]
 have hR:∀ k:Nat,k<(n.Qa.getD i default).Rows.length→F47_s0 n i k=bif badR n i k then .ret false else .next ((k:Int)+1):=fun k hk=>by
  simp only [F47_s0,nn,ltD hk,cond_true,implLink_eq h,bord,bandd,toNat_pred,pos_cast,beqD,badR,F83]
  have h1:=noLink h i
  generalize (n.Qa.getD i default).Rows.getD k default=r
  generalize decide (0<k)=x
  generalize (n.Qa.getD i default).Rows.getD (k-1) default=s
  congr 2
  by_cases h2:r.Next=-1
  ·rw [← h2] at h1
   (rw [Bool.eq_iff_iff]; simp only [Bool.and_eq_true,Bool.or_eq_true,Bool.not_eq_true',Bool.not_eq_false',decide_eq_true_eq,decide_eq_false_iff_not,Bool.and_eq_false_iff,Bool.or_eq_false_iff]; simp only [rowOk,isLabel]; omega)
  ·(rw [Bool.eq_iff_iff]; simp only [Bool.and_eq_true,Bool.or_eq_true,Bool.not_eq_true',Bool.not_eq_false',decide_eq_true_eq,decide_eq_false_iff_not,Bool.and_eq_false_iff,Bool.or_eq_false_iff]; simp only [rowOk,isLabel]; omega)
 have hG:∀ k:Nat,k<(n.Qa.getD i default).Qi.length→F47_s1 n i k=bif badG n i k then .ret false else .next ((k:Int)+1):=fun k hk=>by
  simp only [F47_s1,nn,ltD hk,cond_true,implLink_eq h,bord,bandd,toNat_pred,pos_cast,beqD,badG,F83]
  generalize (n.Qa.getD i default).Qi.getD k default=r
  generalize decide (0<k)=x
  generalize (n.Qa.getD i default).Qi.getD (k-1) default=s
  congr 2
  (rw [Bool.eq_iff_iff]; simp only [Bool.and_eq_true,Bool.or_eq_true,Bool.not_eq_true',Bool.not_eq_false',decide_eq_true_eq,decide_eq_false_iff_not,Bool.and_eq_false_iff,Bool.or_eq_false_iff]; simp only [viaOk,isLabel]; omega)
 rw [allB (badR n i) _ _ hR (by simp [F47_s0])]
 rw [allB (badG n i) _ _ hG (by simp [F47_s1])]
 rw [Bool.and_true]
structure Qn (n:Qd):Prop where
 frame:FrameOk n
 box:∀ i,i<n.Qa.length→BoxOk n i
def netB (n:Qd):Bool:=F48 n&&(first (fun i=>!boxB n i) n.Qa.length).isNone
theorem netB_ok {n:Qd}:netB n=true↔Qn n:=by
 unfold netB
 rw [Bool.and_eq_true,frame_ok,allB_iff]
 constructor
 ·rintro ⟨h1,h2⟩
  exact ⟨h1,fun i hi=>boxB_ok.1 (by simpa using h2 i hi)⟩
 ·rintro ⟨h1,h2⟩
  exact ⟨h1,fun i hi=>by simpa using boxB_ok.2 (h2 i hi)⟩
theorem specNet_eq (n:Qd):F14 n=netB n:=by
 unfold F14 netB
 cases h:F48 n
 ·rfl
 ·have hf:=frame_ok.1 h
  simp only [Bool.not_true,cond_false,Bool.true_and]
  rw [allB (fun i=>!boxB n i) n.Qa.length _ (fun k hk=>by simp only [F14_s0,ltD hk,cond_true,specBox_eq hf]) (by simp [F14_s0]),Bool.and_true]
theorem implNet_eq (n:Qd):F13 n=netB n:=by
 unfold F13 netB
 have e:(bif !decide (1≤(n.Qa.length:Int)∧(n.Qa.length:Int)≤8) then true else !F46 n)=!F48 n:=by
  rw [frame_eq,linksOk_eq,bord,← Bool.not_and,Bool.and_comm (Option.isNone _)]
 rw [e]
 cases h:F48 n
 ·rfl
 ·have hf:=frame_ok.1 h
  simp only [Bool.not_true,cond_false,Bool.true_and]
  rw [allB (fun i=>!boxB n i) n.Qa.length _ (fun k hk=>by simp only [F13_s0,ltD hk,cond_true,implBox_eq hf]) (by simp [F13_s0]),Bool.and_true]
theorem netB_T (n:Qd) (h:netB n=true):Qn n:=netB_ok.1 h
theorem netB_8 (n:Qd) (h:netB n=true):n.Qa.length≤8:=(netB_ok.1 h).frame.b8
theorem netB_14 (n:Qd) (h:netB n=true):n.Qb.length≤14:=(netB_ok.1 h).frame.l14
theorem as13 (n:Qd):F13 n=netB n:=implNet_eq n
theorem as14 (n:Qd):F14 n=netB n:=specNet_eq n
theorem as97 (n:Qd) (a b:Int):F97 n a b=Qh n a b:=specLink_eq n a b
theorem as50 (n:Qd) (a b:Int) (h:FrameOk n):F50 n a b=Qh n a b:=implLink_eq h a b
theorem as67 (n:Qd):F67 n=n:=by
 unfold F67
 rw [app_loop (fun b:Qj=>b) n.Qa [] _ (fun k xs hk=>by simp only [F67_s0,ltD hk,cond_true,nn]; rfl) (fun xs=>by simp [F67_s0])]
 simp [Lp.fin]
def rowIx (b:Qj) (label:Int):Option Nat:=first (fun k=>decide ((b.Rows.getD k default).In=label)) b.Rows.length
def guardIx (b:Qj) (x:Int):Option Nat:=first (fun k=>decide ((b.Qi.getD k default).To=x)) b.Qi.length
theorem rowIx_lt (b:Qj) (label:Int):oix (rowIx b label)<(b.Rows.length:Int):=oix_lt
theorem guardIx_lt (b:Qj) (x:Int):oix (guardIx b x)<(b.Qi.length:Int):=oix_lt
theorem as70 (b:Qj) (label:Int):F70 b label=oix (rowIx b label):=by
 unfold F70 rowIx
 rw [search _ (fun k=>(k:Int)) b.Rows.length _ (fun k hk=>by simp only [F70_s0,ltD hk,cond_true,nn,beqD]; rfl) (by simp [F70_s0])]
 all_goals (cases first (fun k=>decide ((b.Rows.getD k default).In=label)) b.Rows.length <;> rfl)
theorem as96 (b:Qj) (x:Int):F96 b x=oix (guardIx b x):=by
 unfold F96 guardIx
 rw [search _ (fun k=>(k:Int)) b.Qi.length _ (fun k hk=>by simp only [F96_s0,ltD hk,cond_true,nn,beqD]; rfl) (by simp [F96_s0])]
 all_goals (cases first (fun k=>decide ((b.Qi.getD k default).To=x)) b.Qi.length <;> rfl)
theorem row_next {n:Qd} (h:Qn n) {i k:Int} (h0:0≤i) (h1:i<(n.Qa.length:Int)) (h2:0≤k) (h3:k<((n.Qa.getD i.toNat default).Rows.length:Int)) :
  ((n.Qa.getD i.toNat default).Rows.getD k.toNat default).Next=-1∨(0≤((n.Qa.getD i.toNat default).Rows.getD k.toNat default).Next∧((n.Qa.getD i.toNat default).Rows.getD k.toNat default).Next<(n.Qa.length:Int)):=by
 have:=(h.box i.toNat (by omega)).row k.toNat (by omega)
 rcases this.2 with h4 | h4
 ·exact .inl h4.1
 ·have:=linkOf_in h.frame h4.1
  exact .inr ⟨this.2.2.1,this.2.2.2.1⟩
theorem inc_len {α:Type} [Inhabited α] (xs:List α) (f:α→Int) (lo hi:Int) (h:∀ k,k<xs.length→lo≤f (xs.getD k default)∧f (xs.getD k default)≤hi)
  (hi':∀ k,k+1<xs.length→f (xs.getD k default)<f (xs.getD (k+1) default)):(xs.length:Int)≤0∨(xs.length:Int)≤hi-lo+1:=by
 have key:∀ k,k<xs.length→lo+k≤f (xs.getD k default):=by
  intro k
  induction k with
  | zero=>intro hk; have:=(h 0 hk).1; omega
  | succ k ih=>intro hk; have h1:=ih (by omega); have h2:=hi' k hk; omega
 by_cases hz:xs.length=0
 ·exact .inl (by omega)
 ·have h1:=key (xs.length-1) (by omega)
  have h2:=(h (xs.length-1) (by omega)).2
  exact .inr (by omega)
theorem Qn.rows {n:Qd} (h:Qn n) (k:Nat):(n.Qa.getD k default).Rows.length≤60:=by
 by_cases hk:k<n.Qa.length
 ·have hb:=h.box k hk
  have:=inc_len (n.Qa.getD k default).Rows (·.In) 1 60 (fun j hj=>by have:=(hb.row j hj).1; unfold isLabel at this; omega) hb.rinc
  omega
 ·rw [getD_ge _ (by omega)]; exact Nat.zero_le _
theorem Qn.vias {n:Qd} (h:Qn n) (k:Nat):(n.Qa.getD k default).Qi.length≤8:=by
 by_cases hk:k<n.Qa.length
 ·have hb:=h.box k hk
  have h8:=h.frame.b8
  have:=inc_len (n.Qa.getD k default).Qi (·.To) 0 7 (fun j hj=>by have:=linkOf_in h.frame (hb.via j hj).1; omega) hb.vinc
  omega
 ·rw [getD_ge _ (by omega)]; exact Nat.zero_le _
theorem inc_pair {α:Type} [Inhabited α] (xs:List α) (f:α→Int) (h:∀ k,k+1<xs.length→f (xs.getD k default)<f (xs.getD (k+1) default)):xs.Pairwise (fun a b=>f a<f b):=by
 induction xs with
 | nil=>exact .nil
 | cons a t ih =>
  have ht:∀ k,k+1<t.length→f (t.getD k default)<f (t.getD (k+1) default):=fun k hk=>by
   have:=h (k+1) (by simpa using hk)
   simpa using this
  refine List.pairwise_cons.2 ⟨fun b hb=>?_,ih ht⟩
  obtain ⟨k,hk,rfl⟩:=mem_getD hb
  have key:∀ k,k<t.length→f a<f (t.getD k default):=by
   intro k
   induction k with
   | zero=>intro hk; have:=h 0 (by simpa using hk); simpa using this
   | succ k ih2=>intro hk; have h1:=ih2 (by omega); have h2:=ht k hk; omega
  exact key k hk
theorem oa97 (n:Qd) (a:Int) (b:Int):(S97 (Qh n a b) n a b).ok Try.prog 97:=by
 intro hp; have h:=ok97 n a b hp; rw [as97 n a b] at h; exact h
theorem oa14 (n:Qd):(S14 (netB n) n).ok Try.prog 14:=by
 intro hp; have h:=ok14 n hp; rw [as14 n] at h; exact h
def T50 (R:Int) (n:Qd) (a:Int) (b:Int):Spec:=⟨(S50 R n a b).args,(S50 R n a b).res,FrameOk n⟩
theorem oa50 (n:Qd) (a:Int) (b:Int):(T50 (Qh n a b) n a b).ok Try.prog 50:=by
 intro hp; have h:=ok50 n a b trivial; rw [as50 n a b hp] at h; exact h
theorem oa13 (n:Qd):(S13 (netB n) n).ok Try.prog 13:=by
 intro hp; have h:=ok13 n hp; rw [as13 n] at h; exact h
theorem oa67 (n:Qd):(S67 (n) n).ok Try.prog 67:=by
 intro hp; have h:=ok67 n hp; rw [as67 n] at h; exact h
theorem oa70 (b:Qj) (label:Int):(S70 (oix (rowIx b label)) b label).ok Try.prog 70:=by
 intro hp; have h:=ok70 b label hp; rw [as70 b label] at h; exact h
theorem oa96 (b:Qj) (to':Int):(S96 (oix (guardIx b to')) b to').ok Try.prog 96:=by
 intro hp; have h:=ok96 b to' hp; rw [as96 b to'] at h; exact h
def F26_s0 (n:Qd) (box:Int) (label:Int):(Int×Int×List Int)→Lp (Int×Int×List Int) (List Int):=fun (box1,label1,out) =>
 bif (decide ((out.length:Int)<(n.Qa.length:Int))) then (bif (decide ((oix (rowIx (n.Qa.getD box1.toNat default) label1))<0)) then (.ret ([]:List Int)) else (bif (decide ((((n.Qa.getD box1.toNat default).Rows).getD (oix (rowIx (n.Qa.getD box1.toNat default) label1)).toNat default).Next<0)) then (.ret (out++[box1])) else (.next ((((n.Qa.getD box1.toNat default).Rows).getD (oix (rowIx (n.Qa.getD box1.toNat default) label1)).toNat default).Next,(((n.Qa.getD box1.toNat default).Rows).getD (oix (rowIx (n.Qa.getD box1.toNat default) label1)).toNat default).Out,(out++[box1]))))) else (.done (box1,label1,out))
def F26 (n:Qd) (box:Int) (label:Int):List Int :=
 bif (bif (!(netB n)) then true else (!(decide (0≤box∧box≤((n.Qa.length:Int)-1))))) then ([]:List Int) else ((runL (F26_s0 n box label) (((n.Qa.length:Int)-(([]:List Int).length:Int)).toNat+1) (box,label,([]:List Int))).fin (fun r=>r) (fun (box1,label1,out)=>([]:List Int)))
def S26 (R:List Int) (n:Qd) (box:Int) (label:Int):Spec:=⟨[.r (.g (Qr n)),.r (.c (.v (vI box))),.r (.c (.v (vI label)))],.ow (.l 1 eInt R),True⟩
theorem ok26 (n:Qd) (box:Int) (label:Int):(S26 (F26 n box label) n box label).ok Try.prog 26 :=
 fnG_ok mixed (fn:=Try.f26) (ct:=.seq (.no) (.seq (.reg [(0,.dat (.l 1 eInt ([]:List Int)))]) (.seqk [(3,0),(3,1),(7,0)] (.seq (.reg [(1,.call 14 (S14 (netB n) n) (oa14 n) none),(8,.bnd),(9,.call 43 (S43 (decide (0≤box∧box≤((n.Qa.length:Int)-1))) box 0 ((n.Qa.length:Int)-1)) (oa43 box 0 ((n.Qa.length:Int)-1)) none)]) (.cond (.seq (.no) (.no)) (.no))) (.seq (.blk (.loop (ι:=Nat×(Int×Int×List Int)) (fun i=>(fun (box1:Int) (label1:Int) (out:List Int)=>(⟨[(1,some (.v (vI box1))),(2,some (.v (vI label1))),(3,some (.p 0 0)),(7,some (.h 3 0))],[(0,some (.box 26 [.h 1 0,.h 2 0])),(1,some (.shr none (.l 2 Qf n.Qb))),(2,some (.shr none (.l 2 Qg n.Qa))),(3,some (.own 3 (.l 1 eInt out)))],4⟩:St)) i.2.1 i.2.2.1 i.2.2.2) (fun i=>runL (F26_s0 n box label) i.1 i.2=(runL (F26_s0 n box label) (((n.Qa.length:Int)-(([]:List Int).length:Int)).toNat+1) (box,label,([]:List Int)))∧(fun (box1:Int) (label1:Int) (out:List Int)=>(Int.toNat ((n.Qa.length:Int)-(out.length:Int))<i.1∧0≤box1∧box1<(n.Qa.length:Int))) i.2.1 i.2.2.1 i.2.2.2) (fun i=>i.1) ((((n.Qa.length:Int)-(([]:List Int).length:Int)).toNat+1),(box,label,([]:List Int))) (fun i=>(fun (box1:Int) (label1:Int) (out:List Int)=>(.seq (.seq (.no) (.cond (.no) (.no))) (.blk (.seq (.reg [(6,.call 70 (S70 (oix (rowIx (n.Qa.getD box1.toNat default) label1)) (n.Qa.getD box1.toNat default) label1) (oa70 (n.Qa.getD box1.toNat default) label1) none)]) (.seq (.seq (.no) (.cond (.seq (.reg [(0,.dat (.l 1 eInt ([]:List Int)))]) (.no)) (.no))) (.seq (.reg [(3,.dat (.l 1 eInt (out++[box1])))]) (.seq (.no) (.seq (.seq (.no) (.cond (.seq (.no) (.no)) (.no))) (.seq (.no) (.no)))))))))) i.2.1 i.2.2.1 i.2.2.2))) (.seq (.reg [(0,.dat (.l 1 eInt ([]:List Int)))]) (.no)))))) Try.func26 (fun (_:True)=>ai ((BuildOK.mk eInt ([]:List Int) rfl (by exact trivial) (fun _=>rfl):BuildOK 0 1 [] (.l 1 eInt ([]:List Int)))) (ai (trivial) (ai ((Imps.refl (Qr n))) (ai ((fun k1:(!(netB n))=false=>(fun _:n.Qb.length≤14=>(fun _:n.Qa.length≤8=>(fun _:Qn n=>(by unfold i64ok; first | omega | (simp only [lens] at*<;> omega):i64ok ((n.Qa.length:Int)-1))) (netB_T n (notEF k1))) (netB_8 n (notEF k1))) (netB_14 n (notEF k1)))) (ai ((fun k2:(!(netB n))=false=>(fun _:n.Qb.length≤14=>(fun _:n.Qa.length≤8=>(fun _:Qn n=>trivial) (netB_T n (notEF k2))) (netB_8 n (notEF k2))) (netB_14 n (notEF k2)))) (ai ((fun k3:(!(netB n))=false=>(fun _:n.Qb.length≤14=>(fun _:n.Qa.length≤8=>(fun _:Qn n=>(Imp.refl (.v (vI box)))) (netB_T n (notEF k3))) (netB_8 n (notEF k3))) (netB_14 n (notEF k3)))) (ai ((fun k4:(!(netB n))=false=>(fun _:n.Qb.length≤14=>(fun _:n.Qa.length≤8=>(fun _:Qn n=>(Imp.refl (.v (vI 0)))) (netB_T n (notEF k4))) (netB_8 n (notEF k4))) (netB_14 n (notEF k4)))) (ai ((fun k5:(!(netB n))=false=>(fun _:n.Qb.length≤14=>(fun _:n.Qa.length≤8=>(fun _:Qn n=>(Imp.refl (.v (vI ((n.Qa.length:Int)-1))))) (netB_T n (notEF k5))) (netB_8 n (notEF k5))) (netB_14 n (notEF k5)))) (ai (fun h6:(bif (!(netB n)) then true else (!(decide (0≤box∧box≤((n.Qa.length:Int)-1)))))=true=>(fun hF:(([]:List Int):List Int)=(F26 n box label)=>ai (Imp.of_eq (congrArg (fun r:List Int=>Dat.l 1 eInt r) hF)) (trivial)) (condT h6 (rfl))) (fun h6:(bif (!(netB n)) then true else (!(decide (0≤box∧box≤((n.Qa.length:Int)-1)))))=false=>(fun _:0≤box∧box≤((n.Qa.length:Int)-1)=>(fun _:n.Qb.length≤14=>(fun _:n.Qa.length≤8=>(fun _:Qn n=>fun (_:n.Qb.length≤9223372036854775807)=>fun (_:n.Qa.length≤9223372036854775807)=>fun (_:([]:List Int).length≤9223372036854775807)=>ai (ai (rfl) (ai (rfl) (ai (ir) (ai (ir) (ai (ir) ((ai (rfl:runL (F26_s0 n box label) (((n.Qa.length:Int)-(([]:List Int).length:Int)).toNat+1) (box,label,([]:List Int))=(runL (F26_s0 n box label) (((n.Qa.length:Int)-(([]:List Int).length:Int)).toNat+1) (box,label,([]:List Int)))) (ai ((Nat.lt_succ_self _:Int.toNat ((n.Qa.length:Int)-(([]:List Int).length:Int))<(((n.Qa.length:Int)-(([]:List Int).length:Int)).toNat+1))) (ai ((by first | omega | (simp only [lens] at*<;> omega) | (have hq:=row_next (by assumption:Qn n) (i:=box1) (k:=oix (rowIx (n.Qa.getD box1.toNat default) label1)) (by omega) (by omega) (by omega) (by omega); omega):0≤box)) ((by first | omega | (simp only [lens] at*<;> omega) | (have hq:=row_next (by assumption:Qn n) (i:=box1) (k:=oix (rowIx (n.Qa.getD box1.toNat default) label1)) (by omega) (by omega) (by omega) (by omega); omega):box<(n.Qa.length:Int))))))))))):((.int .i64 box:Value)=.int .i64 box)∧((.int .i64 label:Value)=.int .i64 label)∧(Imp (.l 2 Qf n.Qb) (.l 2 Qf n.Qb))∧(Imp (.l 2 Qg n.Qa) (.l 2 Qg n.Qa))∧(Imp (.l 1 eInt ([]:List Int)) (.l 1 eInt ([]:List Int)))∧(runL (F26_s0 n box label) (((n.Qa.length:Int)-(([]:List Int).length:Int)).toNat+1) (box,label,([]:List Int))=(runL (F26_s0 n box label) (((n.Qa.length:Int)-(([]:List Int).length:Int)).toNat+1) (box,label,([]:List Int)))∧Int.toNat ((n.Qa.length:Int)-(([]:List Int).length:Int))<(((n.Qa.length:Int)-(([]:List Int).length:Int)).toNat+1)∧0≤box∧box<(n.Qa.length:Int))) (fun (i0:Nat×(Int×Int×List Int)) (hi0:runL (F26_s0 n box label) i0.1 i0.2=(runL (F26_s0 n box label) (((n.Qa.length:Int)-(([]:List Int).length:Int)).toNat+1) (box,label,([]:List Int)))∧(fun (box1:Int) (label1:Int) (out:List Int)=>(Int.toNat ((n.Qa.length:Int)-(out.length:Int))<i0.1∧0≤box1∧box1<(n.Qa.length:Int))) i0.2.1 i0.2.2.1 i0.2.2.2)=>(fun (m0:Nat) (box1:Int) (label1:Int) (out:List Int) (hI0:runL (F26_s0 n box label) (m0+1) (box1,label1,out)=(runL (F26_s0 n box label) (((n.Qa.length:Int)-(([]:List Int).length:Int)).toNat+1) (box,label,([]:List Int)))) (_:Int.toNat ((n.Qa.length:Int)-(out.length:Int))<m0+1) (hl0:m0<i0.1) (_:0≤box1) (_:box1<(n.Qa.length:Int))=>ai (fun h8:(decide ((out.length:Int)<(n.Qa.length:Int)))=true=>(fun _:(out.length:Int)<(n.Qa.length:Int)=>ai ((by first | omega | (simp only [lens] at*<;> omega):0≤box1∧box1<(n.Qa.length:Int))) (ai (trivial) (ai ((Imps.refl (Qg (n.Qa.getD box1.toNat default)))) (ai ((Imp.refl (.v (vI label1)))) ((fun gv9:(oix (rowIx (n.Qa.getD box1.toNat default) label1))<((n.Qa.getD box1.toNat default).Rows.length:Int)=>ai (fun h10:(decide ((oix (rowIx (n.Qa.getD box1.toNat default) label1))<0))=true=>(fun _:(oix (rowIx (n.Qa.getD box1.toNat default) label1))<0=>ai ((BuildOK.mk eInt ([]:List Int) rfl (by exact trivial) (fun _=>rfl):BuildOK 0 1 [] (.l 1 eInt ([]:List Int)))) ((fun hF:(([]:List Int):List Int)=(F26 n box label)=>ai (Imp.of_eq (congrArg (fun r:List Int=>Dat.l 1 eInt r) hF)) (trivial)) (condF h6 (finR (runL_ret hI0 (condT h8 (condT h10 (rfl)))) rfl)))) (of_decide_eq_true h10)) (fun h10:(decide ((oix (rowIx (n.Qa.getD box1.toNat default) label1))<0))=false=>(fun _:¬ (oix (rowIx (n.Qa.getD box1.toNat default) label1))<0=>ai ((AppA.mk eInt out [box1] (Imp.refl (.l 1 eInt out)) rfl (by exact ai ir (trivial)) (fun _=>rfl):AppA (.l 1 eInt out) 1 1 [.v (vI box1)] (.l 1 eInt (out++[box1])))) (ai ((by (try simp only [lens]); omega:((out++[box1])).length*8≤140737488355328)) (ai ((by first | omega | (simp only [lens] at*<;> omega):0≤box1∧box1<(n.Qa.length:Int))) (ai ((by first | omega | (simp only [lens] at*<;> omega):0≤(oix (rowIx (n.Qa.getD box1.toNat default) label1))∧(oix (rowIx (n.Qa.getD box1.toNat default) label1))<(((n.Qa.getD box1.toNat default).Rows).length:Int))) (ai (fun h11:(decide ((((n.Qa.getD box1.toNat default).Rows).getD (oix (rowIx (n.Qa.getD box1.toNat default) label1)).toNat default).Next<0))=true=>(fun _:(((n.Qa.getD box1.toNat default).Rows).getD (oix (rowIx (n.Qa.getD box1.toNat default) label1)).toNat default).Next<0=>(fun hF:((out++[box1]):List Int)=(F26 n box label)=>ai (Imp.of_eq (congrArg (fun r:List Int=>Dat.l 1 eInt r) hF)) (trivial)) (condF h6 (finR (runL_ret hI0 (condT h8 (condF h10 (condT h11 (rfl))))) rfl))) (of_decide_eq_true h11)) (fun h11:(decide ((((n.Qa.getD box1.toNat default).Rows).getD (oix (rowIx (n.Qa.getD box1.toNat default) label1)).toNat default).Next<0))=false=>(fun _:¬ (((n.Qa.getD box1.toNat default).Rows).getD (oix (rowIx (n.Qa.getD box1.toNat default) label1)).toNat default).Next<0=>Exists.intro (p:=fun j:Nat×(Int×Int×List Int)=>(fun (box1_:Int) (label1_:Int) (out_:List Int)=>(((.int .i64 ((((n.Qa.getD box1.toNat default).Rows).getD (oix (rowIx (n.Qa.getD box1.toNat default) label1)).toNat default).Next):Value)=.int .i64 box1_)∧((.int .i64 ((((n.Qa.getD box1.toNat default).Rows).getD (oix (rowIx (n.Qa.getD box1.toNat default) label1)).toNat default).Out):Value)=.int .i64 label1_)∧(Imp (.l 2 Qf n.Qb) (.l 2 Qf n.Qb))∧(Imp (.l 2 Qg n.Qa) (.l 2 Qg n.Qa))∧(Imp (.l 1 eInt (out++[box1])) (.l 1 eInt out_))∧((runL (F26_s0 n box label) j.1 j.2=(runL (F26_s0 n box label) (((n.Qa.length:Int)-(([]:List Int).length:Int)).toNat+1) (box,label,([]:List Int)))∧Int.toNat ((n.Qa.length:Int)-(out_.length:Int))<j.1∧0≤box1_∧box1_<(n.Qa.length:Int))∧j.1<i0.1))) j.2.1 j.2.2.1 j.2.2.2) (m0,((((n.Qa.getD box1.toNat default).Rows).getD (oix (rowIx (n.Qa.getD box1.toNat default) label1)).toNat default).Next,(((n.Qa.getD box1.toNat default).Rows).getD (oix (rowIx (n.Qa.getD box1.toNat default) label1)).toNat default).Out,(out++[box1]))) (ai (rfl) (ai (rfl) (ai (ir) (ai (ir) (ai (ir) (ai (ai (runL_next hI0 (condT h8 (condF h10 (condF h11 (rfl))))) (ai ((by first | omega | (simp only [lens] at*<;> omega) | (have hq:=row_next (by assumption:Qn n) (i:=box1) (k:=oix (rowIx (n.Qa.getD box1.toNat default) label1)) (by omega) (by omega) (by omega) (by omega); omega):Int.toNat ((n.Qa.length:Int)-((out++[box1]).length:Int))<m0)) (ai ((by first | omega | (simp only [lens] at*<;> omega) | (have hq:=row_next (by assumption:Qn n) (i:=box1) (k:=oix (rowIx (n.Qa.getD box1.toNat default) label1)) (by omega) (by omega) (by omega) (by omega); omega):0≤((((n.Qa.getD box1.toNat default).Rows).getD (oix (rowIx (n.Qa.getD box1.toNat default) label1)).toNat default).Next))) ((by first | omega | (simp only [lens] at*<;> omega) | (have hq:=row_next (by assumption:Qn n) (i:=box1) (k:=oix (rowIx (n.Qa.getD box1.toNat default) label1)) (by omega) (by omega) (by omega) (by omega); omega):((((n.Qa.getD box1.toNat default).Rows).getD (oix (rowIx (n.Qa.getD box1.toNat default) label1)).toNat default).Next)<(n.Qa.length:Int)))))) hl0))))))) (of_decide_eq_false h11))))))) (of_decide_eq_false h10))) (rowIx_lt (n.Qa.getD box1.toNat default) label1)))))) (of_decide_eq_true h8)) (fun h8:(decide ((out.length:Int)<(n.Qa.length:Int)))=false=>(fun _:¬ (out.length:Int)<(n.Qa.length:Int)=>(fun hD0_12:(runL (F26_s0 n box label) (((n.Qa.length:Int)-(([]:List Int).length:Int)).toNat+1) (box,label,([]:List Int)))=Lp.done (box1,label1,out)=>ai ((BuildOK.mk eInt ([]:List Int) rfl (by exact trivial) (fun _=>rfl):BuildOK 0 1 [] (.l 1 eInt ([]:List Int)))) ((fun hF:(([]:List Int):List Int)=(F26 n box label)=>ai (Imp.of_eq (congrArg (fun r:List Int=>Dat.l 1 eInt r) hF)) (trivial)) (condF h6 (finD hD0_12 (rfl))))) (runL_done hI0 (condF h8 (rfl)))) (of_decide_eq_false h8))) (i0.1-1) i0.2.1 i0.2.2.1 i0.2.2.2 (hd1 hi0.1 hi0.2.1) (hd2 hi0.2.1) (hd3 hi0.2.1) hi0.2.2.1 hi0.2.2.2)) (netB_T n (notEF (orF1 h6)))) (netB_8 n (notEF (orF1 h6)))) (netB_14 n (notEF (orF1 h6)))) (of_decide_eq_true (notEF (orF2 h6))))))))))))) (by kernel_rfl)
def pathFrom (n:Qd):Nat→Int→Int→Option (List (Int×Int))
 | 0,_,_=>none
 | m+1,box,label=>match rowIx (n.Qa.getD box.toNat default) label with
  | none=>none
  | some k=>if ((n.Qa.getD box.toNat default).Rows.getD k default).Next<0 then some [(box,label)]
   else (pathFrom n m ((n.Qa.getD box.toNat default).Rows.getD k default).Next ((n.Qa.getD box.toNat default).Rows.getD k default).Out).map ((box,label) :: ·)
def pathRes:Option (List (Int×Int))→List Int×List Int×Bool
 | some l=>(l.map (·.1),l.map (·.2),true)
 | none=>([],[],false)
theorem specPath_go {n:Qd} (h:Qn n) (b0 l0:Int):∀ (m:Nat) (box label:Int) (bs:List Int),0≤box→box<(n.Qa.length:Int)→bs.length+m=n.Qa.length →
  (runL (F26_s0 n b0 l0) (m+1) (box,label,bs)).fin (fun r=>r) (fun _=>([]:List Int))=match pathFrom n m box label with
   | some l=>bs++l.map (·.1)
   | none=>[]
 | 0,box,label,bs,h0,h1,hm=>by
  have hl:decide ((bs.length:Int)<(n.Qa.length:Int))=false:=by simp; omega
  have e1:F26_s0 n b0 l0 (box,label,bs)=.done (box,label,bs):=by simp only [F26_s0,hl,cond_false]
  simp only [runL,e1,Lp.fin,pathFrom]
 | m+1,box,label,bs,h0,h1,hm=>by
  have hl:decide ((bs.length:Int)<(n.Qa.length:Int))=true:=by simp; omega
  cases e:rowIx (n.Qa.getD box.toNat default) label with
  | none =>
   have e1:F26_s0 n b0 l0 (box,label,bs)=.ret []:=by
    simp only [F26_s0,hl,cond_true,e,oix]; rfl
   simp only [runL,e1,Lp.fin,pathFrom,e]
  | some k =>
   have hk:=(first_some.1 e).1
   have hn:=row_next h h0 h1 (k:=(k:Int)) (by omega) (by omega)
   rw [nn] at hn
   have e2:decide (oix (some k)<0)=false:=decide_eq_false (by simp only [oix]; omega)
   have e3:Int.toNat (oix (some k))=k:=rfl
   rw [runL]
   simp only [F26_s0,hl,cond_true,e,e2,cond_false,e3,pathFrom]
   generalize (n.Qa.getD box.toNat default).Rows.getD k default=r at *
   rcases hn with hn | hn
   ·have hp:r.Next<0:=by omega
    simp [Lp.fin,hp]
   ·have hp:¬ r.Next<0:=by omega
    simp only [decide_eq_false hp,cond_false,if_neg hp]
    refine (specPath_go h b0 l0 m r.Next r.Out (bs++[box]) hn.1 hn.2 (by simp; omega)).trans ?_
    cases pathFrom n m r.Next r.Out <;> simp
def Ql (n:Qd) (box label:Int):List Int:=bif netB n&&decide (0≤box∧box≤(n.Qa.length:Int)-1) then (pathRes (pathFrom n n.Qa.length box label)).1 else []
theorem as26 (n:Qd) (box label:Int):F26 n box label=Ql n box label:=by
 unfold F26 Ql
 cases hb:netB n
 ·rfl
 ·by_cases h:0≤box∧box≤(n.Qa.length:Int)-1
  ·rw [decide_eq_true h]
   simp only [Bool.not_true,cond_false,Bool.and_self,cond_true]
   have e:Int.toNat ((n.Qa.length:Int)-(([]:List Int).length:Int))=n.Qa.length:=by simp
   rw [e]
   refine (specPath_go (netB_T n hb) box label n.Qa.length box label [] (by omega) (by omega) (by simp)).trans ?_
   cases pathFrom n n.Qa.length box label <;> rfl
  ·rw [decide_eq_false h]; rfl
theorem pathFrom_all {n:Qd} (h:Qn n):∀ (m:Nat) (box label:Int) (l:List (Int×Int)),0≤box→box<(n.Qa.length:Int)→pathFrom n m box label=some l→∀ x∈l,0≤x.1∧x.1<(n.Qa.length:Int)
 | 0,_,_,_,_,_,he=>by simp [pathFrom] at he
 | m+1,box,label,l,h0,h1,he=>by
  unfold pathFrom at he
  cases e:rowIx (n.Qa.getD box.toNat default) label with
  | none=>rw [e] at he; cases he
  | some k =>
   rw [e] at he
   have hk:=(first_some.1 e).1
   have hn:=row_next h h0 h1 (k:=(k:Int)) (by omega) (by omega)
   rw [show Int.toNat (k:Int)=k from by omega] at hn
   by_cases hx:((n.Qa.getD box.toNat default).Rows.getD k default).Next<0
   ·simp only [hx,if_true,Option.some.injEq] at he
    subst he
    intro x hx; simp at hx; subst hx; exact ⟨h0,h1⟩
   ·simp only [hx,if_false] at he
    cases e2:pathFrom n m ((n.Qa.getD box.toNat default).Rows.getD k default).Next ((n.Qa.getD box.toNat default).Rows.getD k default).Out with
    | none=>rw [e2] at he; cases he
    | some l' =>
     rw [e2] at he
     simp only [Option.map_some,Option.some.injEq] at he
     subst he
     intro x hx'
     rcases List.mem_cons.1 hx' with hq | hq
     ·subst hq; exact ⟨h0,h1⟩
     ·exact pathFrom_all h m _ _ l' (by omega) (by omega) e2 x hq
theorem oa26 (n:Qd) (box:Int) (label:Int):(S26 (Ql n box label) n box label).ok Try.prog 26:=by
 intro hp; have h:=ok26 n box label hp; rw [as26 n box label] at h; exact h
def F105 (r1:Qq) (p1:Int) (p2:Int):Bool :=
 (bif (r1.Next==p1) then (r1.Out==p2) else false)
def F103 (b:Qj) (p1:Int) (p2:Int):Bool :=
 (b.Rows.any (fun (x0:Qq)=>F105 x0 p1 p2))
def F63 (n:Qd) (box:Int) (label:Int):Bool :=
 (n.Qa.any (fun (x0:Qj)=>F103 x0 box label))
def F108 (g:Qs) (p1:Int) (p2:Int):Bool :=
 (bif (g.Via==p1) then (g.Push==p2) else false)
def F106 (b:Qj) (p1:Int) (p2:Int):Bool :=
 (b.Qi.any (fun (x0:Qs)=>F108 x0 p1 p2))
def F64 (n:Qd) (box:Int) (label:Int):Bool :=
 (n.Qa.any (fun (x0:Qj)=>F106 x0 box label))
def F66 (r1:Qq) (p1:List Int) (p2:Int):Bool :=
 (r1.In==(p1.getD p2.toNat default))
def F22_s1 (n:Qd) (box:Int) (label:Int):(Int×List Qj)→Lp (Int×List Qj) (Qd×Int):=fun (v63,xs) =>
 bif (decide (v63<(((pathRes (pathFrom n n.Qa.length box label)).1).length:Int))) then (.next ((v63+1),(xs.set ((((pathRes (pathFrom n n.Qa.length box label)).1).getD v63.toNat default)).toNat (⟨(((xs.getD (((pathRes (pathFrom n n.Qa.length box label)).1).getD v63.toNat default).toNat default).Rows).filter (fun x=>!((fun (x0:Qq)=>F66 x0 ((pathRes (pathFrom n n.Qa.length box label)).2.1) v63) x))),(xs.getD (((pathRes (pathFrom n n.Qa.length box label)).1).getD v63.toNat default).toNat default).Qi⟩:Qj)))) else (.done (v63,xs))
def F22_s0 (n:Qd) (box:Int) (label:Int):Int→Lp Int (Qd×Int):=fun v47 =>
 bif (decide (v47<(((pathRes (pathFrom n n.Qa.length box label)).1).length:Int))) then (bif (F64 n (((pathRes (pathFrom n n.Qa.length box label)).1).getD v47.toNat default) (((pathRes (pathFrom n n.Qa.length box label)).2.1).getD v47.toNat default)) then (.ret (n,5)) else (.next (v47+1))) else (.done v47)
def F22 (n:Qd) (box:Int) (label:Int):Qd×Int :=
 bif (!(netB n)) then ((⟨[],[]⟩:Qd),1) else (bif (!(decide (0≤box∧box≤(n.Qa.length:Int)-1))) then (n,2) else (bif (!((pathRes (pathFrom n n.Qa.length box label)).2.2)) then (n,2) else (bif (F63 n box label) then (n,4) else ((runL (F22_s0 n box label) (((((pathRes (pathFrom n n.Qa.length box label)).1).length:Int)-0).toNat+1) 0).fin (fun r=>r) (fun v47=>(runL (F22_s1 n box label) (((((pathRes (pathFrom n n.Qa.length box label)).1).length:Int)-0).toNat+1) (0,n.Qa)).fin (fun r=>r) (fun (v63,xs)=>((⟨n.Qb,xs⟩:Qd),0)))))))
def F68_s1 (n:Qd) (box:Int) (label:Int) (i40:Int):Int→Lp Int Bool:=fun k =>
 bif (decide (k<(((n.Qa.getD i40.toNat default).Rows).length:Int))) then (bif (bif ((((n.Qa.getD i40.toNat default).Rows).getD k.toNat default).Next==box) then ((((n.Qa.getD i40.toNat default).Rows).getD k.toNat default).Out==label) else false) then (.ret true) else (.next (k+1))) else (.done k)
def F68_s0 (n:Qd) (box:Int) (label:Int):Int→Lp Int Bool:=fun i40 =>
 bif (decide (i40<(n.Qa.length:Int))) then ((runL (F68_s1 n box label i40) (((((n.Qa.getD i40.toNat default).Rows).length:Int)-0).toNat+1) 0).fin Lp.ret (fun k=>.next (i40+1))) else (.done i40)
def F68 (n:Qd) (box:Int) (label:Int):Bool :=
 (runL (F68_s0 n box label) (((n.Qa.length:Int)-0).toNat+1) 0).fin (fun r=>r) (fun i40=>false)
def S68 (n:Qd) (box:Int) (label:Int):Spec:=⟨[.r (.g (Qr n)),.r (.c (.v (vI box))),.r (.c (.v (vI label)))],.v (.bool (F68 n box label)),(∀ k:Nat,(n.Qa.getD k default).Rows.length≤1000000000)⟩
theorem ok68 (n:Qd) (box:Int) (label:Int):(S68 n box label).ok Try.prog 68 :=
 fnG_ok mixed (fn:=Try.f68) (ct:=.seq (.no) (.seq (.seqk [(3,0),(3,1)] (.no) (.blk (.loop (ι:=Nat×Int) (fun i=>(fun (i40:Int)=>(⟨[(1,some (.v (vI box))),(2,some (.v (vI label))),(3,some (.p 0 0)),(7,some (.v (vI i40)))],[(0,some (.box 26 [.h 1 0,.h 2 0])),(1,some (.shr none (.l 2 Qf n.Qb))),(2,some (.shr none (.l 2 Qg n.Qa)))],3⟩:St)) i.2) (fun i=>runL (F68_s0 n box label) i.1 i.2=(runL (F68_s0 n box label) (((n.Qa.length:Int)-0).toNat+1) 0)∧(fun (i40:Int)=>(Int.toNat ((n.Qa.length:Int)-i40)<i.1∧(0:Int)≤i40)) i.2) (fun i=>i.1) ((((n.Qa.length:Int)-0).toNat+1),0) (fun i=>(fun (i40:Int)=>(.seq (.seq (.no) (.cond (.no) (.no))) (.seq (.blk (.seqk [(3,0),(3,1)] (.no) (.blk (.loop (ι:=Nat×Int) (fun i=>(fun (k:Int)=>(⟨[(1,some (.v (vI box))),(2,some (.v (vI label))),(3,some (.p 0 0)),(7,some (.v (vI i40))),(8,some (.v (vI k)))],[(0,some (.box 26 [.h 1 0,.h 2 0])),(1,some (.shr none (.l 2 Qf n.Qb))),(2,some (.shr none (.l 2 Qg n.Qa)))],3⟩:St)) i.2) (fun i=>runL (F68_s1 n box label i40) i.1 i.2=(runL (F68_s1 n box label i40) (((((n.Qa.getD i40.toNat default).Rows).length:Int)-0).toNat+1) 0)∧(fun (k:Int)=>(Int.toNat ((((n.Qa.getD i40.toNat default).Rows).length:Int)-k)<i.1∧((n.Qa.getD i40.toNat default).Rows.length:Int)≤1000000000∧(0:Int)≤k)) i.2) (fun i=>i.1) ((((((n.Qa.getD i40.toNat default).Rows).length:Int)-0).toNat+1),0) (fun i=>(fun (k:Int)=>(.seq (.seq (.no) (.cond (.no) (.no))) (.seq (.blk (.seq (.no) (.cond (.seq (.no) (.no)) (.no)))) (.reg [(1,.bnd)])))) i.2))))) (.reg [(1,.bnd)])))) i.2)))) (.seq (.no) (.no)))) Try.func68 (fun (hpre0:∀ k:Nat,(n.Qa.getD k default).Rows.length≤1000000000)=>fun (_:n.Qb.length≤9223372036854775807)=>fun (_:n.Qa.length≤9223372036854775807)=>ai (ai (rfl) (ai (rfl) (ai (rfl) (ai (ir) (ai (ir) ((ai (rfl:runL (F68_s0 n box label) (((n.Qa.length:Int)-0).toNat+1) 0=(runL (F68_s0 n box label) (((n.Qa.length:Int)-0).toNat+1) 0)) (ai ((Nat.lt_succ_self _:Int.toNat ((n.Qa.length:Int)-0)<(((n.Qa.length:Int)-0).toNat+1))) ((by omega:(0:Int)≤0))))))))):((.int .i64 box:Value)=.int .i64 box)∧((.int .i64 label:Value)=.int .i64 label)∧((.int .i64 0:Value)=.int .i64 0)∧(Imp (.l 2 Qf n.Qb) (.l 2 Qf n.Qb))∧(Imp (.l 2 Qg n.Qa) (.l 2 Qg n.Qa))∧(runL (F68_s0 n box label) (((n.Qa.length:Int)-0).toNat+1) 0=(runL (F68_s0 n box label) (((n.Qa.length:Int)-0).toNat+1) 0)∧Int.toNat ((n.Qa.length:Int)-0)<(((n.Qa.length:Int)-0).toNat+1)∧(0:Int)≤0)) (fun (i0:Nat×Int) (hi0:runL (F68_s0 n box label) i0.1 i0.2=(runL (F68_s0 n box label) (((n.Qa.length:Int)-0).toNat+1) 0)∧(fun (i40:Int)=>(Int.toNat ((n.Qa.length:Int)-i40)<i0.1∧(0:Int)≤i40)) i0.2)=>(fun (m0:Nat) (i40:Int) (hI0:runL (F68_s0 n box label) (m0+1) i40=(runL (F68_s0 n box label) (((n.Qa.length:Int)-0).toNat+1) 0)) (_:Int.toNat ((n.Qa.length:Int)-i40)<m0+1) (hl0:m0<i0.1) (_:(0:Int)≤i40)=>ai (fun h2:(decide (i40<(n.Qa.length:Int)))=true=>(fun _:i40<(n.Qa.length:Int)=>fun (_:n.Qb.length≤9223372036854775807)=>fun (_:n.Qa.length≤9223372036854775807)=>ai (ai (rfl) (ai (rfl) (ai (rfl) (ai (rfl) (ai (ir) (ai (ir) ((ai (rfl:runL (F68_s1 n box label i40) (((((n.Qa.getD i40.toNat default).Rows).length:Int)-0).toNat+1) 0=(runL (F68_s1 n box label i40) (((((n.Qa.getD i40.toNat default).Rows).length:Int)-0).toNat+1) 0)) (ai ((Nat.lt_succ_self _:Int.toNat ((((n.Qa.getD i40.toNat default).Rows).length:Int)-0)<(((((n.Qa.getD i40.toNat default).Rows).length:Int)-0).toNat+1))) (ai ((by first | omega | (simp only [lens] at*<;> omega) | (have:=hpre0 i40.toNat; omega):((n.Qa.getD i40.toNat default).Rows.length:Int)≤1000000000)) ((by first | omega | (simp only [lens] at*<;> omega) | (have:=hpre0 i40.toNat; omega):(0:Int)≤0))))))))))):((.int .i64 box:Value)=.int .i64 box)∧((.int .i64 label:Value)=.int .i64 label)∧((.int .i64 i40:Value)=.int .i64 i40)∧((.int .i64 0:Value)=.int .i64 0)∧(Imp (.l 2 Qf n.Qb) (.l 2 Qf n.Qb))∧(Imp (.l 2 Qg n.Qa) (.l 2 Qg n.Qa))∧(runL (F68_s1 n box label i40) (((((n.Qa.getD i40.toNat default).Rows).length:Int)-0).toNat+1) 0=(runL (F68_s1 n box label i40) (((((n.Qa.getD i40.toNat default).Rows).length:Int)-0).toNat+1) 0)∧Int.toNat ((((n.Qa.getD i40.toNat default).Rows).length:Int)-0)<(((((n.Qa.getD i40.toNat default).Rows).length:Int)-0).toNat+1)∧((n.Qa.getD i40.toNat default).Rows.length:Int)≤1000000000∧(0:Int)≤0)) (fun (i1:Nat×Int) (hi1:runL (F68_s1 n box label i40) i1.1 i1.2=(runL (F68_s1 n box label i40) (((((n.Qa.getD i40.toNat default).Rows).length:Int)-0).toNat+1) 0)∧(fun (k:Int)=>(Int.toNat ((((n.Qa.getD i40.toNat default).Rows).length:Int)-k)<i1.1∧((n.Qa.getD i40.toNat default).Rows.length:Int)≤1000000000∧(0:Int)≤k)) i1.2)=>(fun (m1:Nat) (k:Int) (hI1:runL (F68_s1 n box label i40) (m1+1) k=(runL (F68_s1 n box label i40) (((((n.Qa.getD i40.toNat default).Rows).length:Int)-0).toNat+1) 0)) (_:Int.toNat ((((n.Qa.getD i40.toNat default).Rows).length:Int)-k)<m1+1) (hl1:m1<i1.1) (_:((n.Qa.getD i40.toNat default).Rows.length:Int)≤1000000000) (_:(0:Int)≤k)=>ai ((by omega:0≤i40∧i40<(n.Qa.length:Int))) (ai (fun h4:(decide (k<(((n.Qa.getD i40.toNat default).Rows).length:Int)))=true=>(fun _:k<(((n.Qa.getD i40.toNat default).Rows).length:Int)=>ai ((by omega:0≤i40∧i40<(n.Qa.length:Int))) (ai ((by omega:0≤k∧k<(((n.Qa.getD i40.toNat default).Rows).length:Int))) (ai ((fun k5:((((n.Qa.getD i40.toNat default).Rows).getD k.toNat default).Next==box)=true=>(fun _:(((n.Qa.getD i40.toNat default).Rows).getD k.toNat default).Next=box=>(by omega:0≤i40∧i40<(n.Qa.length:Int))) (eq_of_beq k5))) (ai ((fun k6:((((n.Qa.getD i40.toNat default).Rows).getD k.toNat default).Next==box)=true=>(fun _:(((n.Qa.getD i40.toNat default).Rows).getD k.toNat default).Next=box=>(by omega:0≤k∧k<(((n.Qa.getD i40.toNat default).Rows).length:Int))) (eq_of_beq k6))) (ai (fun h7:(bif ((((n.Qa.getD i40.toNat default).Rows).getD k.toNat default).Next==box) then ((((n.Qa.getD i40.toNat default).Rows).getD k.toNat default).Out==label) else false)=true=>(fun _:(((n.Qa.getD i40.toNat default).Rows).getD k.toNat default).Out=label=>(fun _:(((n.Qa.getD i40.toNat default).Rows).getD k.toNat default).Next=box=>(fun hF:(true:Bool)=(F68 n box label)=>ai (congrArg (fun r:Bool=>(.bool r:Value)) hF) (trivial)) (finR (runL_ret hI0 (condT h2 (finR (runL_ret hI1 (condT h4 (condT h7 (rfl)))) rfl))) rfl)) (eq_of_beq (andT1 h7))) (eq_of_beq (andT2 h7))) (fun h7:(bif ((((n.Qa.getD i40.toNat default).Rows).getD k.toNat default).Next==box) then ((((n.Qa.getD i40.toNat default).Rows).getD k.toNat default).Out==label) else false)=false=>ai ((by unfold i64ok; omega:i64ok (k+1))) (Exists.intro (p:=fun j:Nat×Int=>(fun (k_:Int)=>(((.int .i64 box:Value)=.int .i64 box)∧((.int .i64 label:Value)=.int .i64 label)∧((.int .i64 i40:Value)=.int .i64 i40)∧((.int .i64 (k+1):Value)=.int .i64 k_)∧(Imp (.l 2 Qf n.Qb) (.l 2 Qf n.Qb))∧(Imp (.l 2 Qg n.Qa) (.l 2 Qg n.Qa))∧((runL (F68_s1 n box label i40) j.1 j.2=(runL (F68_s1 n box label i40) (((((n.Qa.getD i40.toNat default).Rows).length:Int)-0).toNat+1) 0)∧Int.toNat ((((n.Qa.getD i40.toNat default).Rows).length:Int)-k_)<j.1∧((n.Qa.getD i40.toNat default).Rows.length:Int)≤1000000000∧(0:Int)≤k_)∧j.1<i1.1))) j.2) (m1,(k+1)) (ai (rfl) (ai (rfl) (ai (rfl) (ai (rfl) (ai (ir) (ai (ir) (ai (ai (runL_next hI1 (condT h4 (condF h7 (rfl)))) (ai ((by first | omega | (simp only [lens] at*<;> omega) | (have:=hpre0 i40.toNat; omega):Int.toNat ((((n.Qa.getD i40.toNat default).Rows).length:Int)-(k+1))<m1)) (ai ((by first | omega | (simp only [lens] at*<;> omega) | (have:=hpre0 i40.toNat; omega):((n.Qa.getD i40.toNat default).Rows.length:Int)≤1000000000)) ((by first | omega | (simp only [lens] at*<;> omega) | (have:=hpre0 i40.toNat; omega):(0:Int)≤(k+1)))))) hl1)))))))))))))) (of_decide_eq_true h4)) (fun h4:(decide (k<(((n.Qa.getD i40.toNat default).Rows).length:Int)))=false=>(fun _:¬ k<(((n.Qa.getD i40.toNat default).Rows).length:Int)=>(fun hD1_8:(runL (F68_s1 n box label i40) (((((n.Qa.getD i40.toNat default).Rows).length:Int)-0).toNat+1) 0)=Lp.done k=>ai ((by unfold i64ok; omega:i64ok (i40+1))) (Exists.intro (p:=fun j:Nat×Int=>(fun (i40_:Int)=>(((.int .i64 box:Value)=.int .i64 box)∧((.int .i64 label:Value)=.int .i64 label)∧((.int .i64 (i40+1):Value)=.int .i64 i40_)∧(Imp (.l 2 Qf n.Qb) (.l 2 Qf n.Qb))∧(Imp (.l 2 Qg n.Qa) (.l 2 Qg n.Qa))∧((runL (F68_s0 n box label) j.1 j.2=(runL (F68_s0 n box label) (((n.Qa.length:Int)-0).toNat+1) 0)∧Int.toNat ((n.Qa.length:Int)-i40_)<j.1∧(0:Int)≤i40_)∧j.1<i0.1))) j.2) (m0,(i40+1)) (ai (rfl) (ai (rfl) (ai (rfl) (ai (ir) (ai (ir) (ai (ai (runL_next hI0 (condT h2 (finD hD1_8 (rfl)))) (ai ((by omega:Int.toNat ((n.Qa.length:Int)-(i40+1))<m0)) ((by omega:(0:Int)≤(i40+1))))) hl0)))))))) (runL_done hI1 (condF h4 (rfl)))) (of_decide_eq_false h4)))) (i1.1-1) i1.2 (hd1 hi1.1 hi1.2.1) (hd2 hi1.2.1) (hd3 hi1.2.1) hi1.2.2.1 hi1.2.2.2)) (of_decide_eq_true h2)) (fun h2:(decide (i40<(n.Qa.length:Int)))=false=>(fun _:¬ i40<(n.Qa.length:Int)=>(fun hD0_9:(runL (F68_s0 n box label) (((n.Qa.length:Int)-0).toNat+1) 0)=Lp.done i40=>(fun hF:(false:Bool)=(F68 n box label)=>ai (congrArg (fun r:Bool=>(.bool r:Value)) hF) (trivial)) (finD hD0_9 (rfl))) (runL_done hI0 (condF h2 (rfl)))) (of_decide_eq_false h2))) (i0.1-1) i0.2 (hd1 hi0.1 hi0.2.1) (hd2 hi0.2.1) (hd3 hi0.2.1) hi0.2.2)) (by kernel_rfl)
def F69_s1 (n:Qd) (box:Int) (label:Int) (i40:Int):Int→Lp Int Bool:=fun k =>
 bif (decide (k<(((n.Qa.getD i40.toNat default).Qi).length:Int))) then (bif (bif ((((n.Qa.getD i40.toNat default).Qi).getD k.toNat default).Via==box) then ((((n.Qa.getD i40.toNat default).Qi).getD k.toNat default).Push==label) else false) then (.ret true) else (.next (k+1))) else (.done k)
def F69_s0 (n:Qd) (box:Int) (label:Int):Int→Lp Int Bool:=fun i40 =>
 bif (decide (i40<(n.Qa.length:Int))) then ((runL (F69_s1 n box label i40) (((((n.Qa.getD i40.toNat default).Qi).length:Int)-0).toNat+1) 0).fin Lp.ret (fun k=>.next (i40+1))) else (.done i40)
def F69 (n:Qd) (box:Int) (label:Int):Bool :=
 (runL (F69_s0 n box label) (((n.Qa.length:Int)-0).toNat+1) 0).fin (fun r=>r) (fun i40=>false)
def S69 (n:Qd) (box:Int) (label:Int):Spec:=⟨[.r (.g (Qr n)),.r (.c (.v (vI box))),.r (.c (.v (vI label)))],.v (.bool (F69 n box label)),(∀ k:Nat,(n.Qa.getD k default).Qi.length≤1000000000)⟩
theorem ok69 (n:Qd) (box:Int) (label:Int):(S69 n box label).ok Try.prog 69 :=
 fnG_ok mixed (fn:=Try.f69) (ct:=.seq (.no) (.seq (.seqk [(3,0),(3,1)] (.no) (.blk (.loop (ι:=Nat×Int) (fun i=>(fun (i40:Int)=>(⟨[(1,some (.v (vI box))),(2,some (.v (vI label))),(3,some (.p 0 0)),(7,some (.v (vI i40)))],[(0,some (.box 26 [.h 1 0,.h 2 0])),(1,some (.shr none (.l 2 Qf n.Qb))),(2,some (.shr none (.l 2 Qg n.Qa)))],3⟩:St)) i.2) (fun i=>runL (F69_s0 n box label) i.1 i.2=(runL (F69_s0 n box label) (((n.Qa.length:Int)-0).toNat+1) 0)∧(fun (i40:Int)=>(Int.toNat ((n.Qa.length:Int)-i40)<i.1∧(0:Int)≤i40)) i.2) (fun i=>i.1) ((((n.Qa.length:Int)-0).toNat+1),0) (fun i=>(fun (i40:Int)=>(.seq (.seq (.no) (.cond (.no) (.no))) (.seq (.blk (.seqk [(3,0),(3,1)] (.no) (.blk (.loop (ι:=Nat×Int) (fun i=>(fun (k:Int)=>(⟨[(1,some (.v (vI box))),(2,some (.v (vI label))),(3,some (.p 0 0)),(7,some (.v (vI i40))),(8,some (.v (vI k)))],[(0,some (.box 26 [.h 1 0,.h 2 0])),(1,some (.shr none (.l 2 Qf n.Qb))),(2,some (.shr none (.l 2 Qg n.Qa)))],3⟩:St)) i.2) (fun i=>runL (F69_s1 n box label i40) i.1 i.2=(runL (F69_s1 n box label i40) (((((n.Qa.getD i40.toNat default).Qi).length:Int)-0).toNat+1) 0)∧(fun (k:Int)=>(Int.toNat ((((n.Qa.getD i40.toNat default).Qi).length:Int)-k)<i.1∧((n.Qa.getD i40.toNat default).Qi.length:Int)≤1000000000∧(0:Int)≤k)) i.2) (fun i=>i.1) ((((((n.Qa.getD i40.toNat default).Qi).length:Int)-0).toNat+1),0) (fun i=>(fun (k:Int)=>(.seq (.seq (.no) (.cond (.no) (.no))) (.seq (.blk (.seq (.no) (.cond (.seq (.no) (.no)) (.no)))) (.reg [(1,.bnd)])))) i.2))))) (.reg [(1,.bnd)])))) i.2)))) (.seq (.no) (.no)))) Try.func69 (fun (hpre0:∀ k:Nat,(n.Qa.getD k default).Qi.length≤1000000000)=>fun (_:n.Qb.length≤9223372036854775807)=>fun (_:n.Qa.length≤9223372036854775807)=>ai (ai (rfl) (ai (rfl) (ai (rfl) (ai (ir) (ai (ir) ((ai (rfl:runL (F69_s0 n box label) (((n.Qa.length:Int)-0).toNat+1) 0=(runL (F69_s0 n box label) (((n.Qa.length:Int)-0).toNat+1) 0)) (ai ((Nat.lt_succ_self _:Int.toNat ((n.Qa.length:Int)-0)<(((n.Qa.length:Int)-0).toNat+1))) ((by omega:(0:Int)≤0))))))))):((.int .i64 box:Value)=.int .i64 box)∧((.int .i64 label:Value)=.int .i64 label)∧((.int .i64 0:Value)=.int .i64 0)∧(Imp (.l 2 Qf n.Qb) (.l 2 Qf n.Qb))∧(Imp (.l 2 Qg n.Qa) (.l 2 Qg n.Qa))∧(runL (F69_s0 n box label) (((n.Qa.length:Int)-0).toNat+1) 0=(runL (F69_s0 n box label) (((n.Qa.length:Int)-0).toNat+1) 0)∧Int.toNat ((n.Qa.length:Int)-0)<(((n.Qa.length:Int)-0).toNat+1)∧(0:Int)≤0)) (fun (i0:Nat×Int) (hi0:runL (F69_s0 n box label) i0.1 i0.2=(runL (F69_s0 n box label) (((n.Qa.length:Int)-0).toNat+1) 0)∧(fun (i40:Int)=>(Int.toNat ((n.Qa.length:Int)-i40)<i0.1∧(0:Int)≤i40)) i0.2)=>(fun (m0:Nat) (i40:Int) (hI0:runL (F69_s0 n box label) (m0+1) i40=(runL (F69_s0 n box label) (((n.Qa.length:Int)-0).toNat+1) 0)) (_:Int.toNat ((n.Qa.length:Int)-i40)<m0+1) (hl0:m0<i0.1) (_:(0:Int)≤i40)=>ai (fun h2:(decide (i40<(n.Qa.length:Int)))=true=>(fun _:i40<(n.Qa.length:Int)=>fun (_:n.Qb.length≤9223372036854775807)=>fun (_:n.Qa.length≤9223372036854775807)=>ai (ai (rfl) (ai (rfl) (ai (rfl) (ai (rfl) (ai (ir) (ai (ir) ((ai (rfl:runL (F69_s1 n box label i40) (((((n.Qa.getD i40.toNat default).Qi).length:Int)-0).toNat+1) 0=(runL (F69_s1 n box label i40) (((((n.Qa.getD i40.toNat default).Qi).length:Int)-0).toNat+1) 0)) (ai ((Nat.lt_succ_self _:Int.toNat ((((n.Qa.getD i40.toNat default).Qi).length:Int)-0)<(((((n.Qa.getD i40.toNat default).Qi).length:Int)-0).toNat+1))) (ai ((by first | omega | (simp only [lens] at*<;> omega) | (have:=hpre0 i40.toNat; omega):((n.Qa.getD i40.toNat default).Qi.length:Int)≤1000000000)) ((by first | omega | (simp only [lens] at*<;> omega) | (have:=hpre0 i40.toNat; omega):(0:Int)≤0))))))))))):((.int .i64 box:Value)=.int .i64 box)∧((.int .i64 label:Value)=.int .i64 label)∧((.int .i64 i40:Value)=.int .i64 i40)∧((.int .i64 0:Value)=.int .i64 0)∧(Imp (.l 2 Qf n.Qb) (.l 2 Qf n.Qb))∧(Imp (.l 2 Qg n.Qa) (.l 2 Qg n.Qa))∧(runL (F69_s1 n box label i40) (((((n.Qa.getD i40.toNat default).Qi).length:Int)-0).toNat+1) 0=(runL (F69_s1 n box label i40) (((((n.Qa.getD i40.toNat default).Qi).length:Int)-0).toNat+1) 0)∧Int.toNat ((((n.Qa.getD i40.toNat default).Qi).length:Int)-0)<(((((n.Qa.getD i40.toNat default).Qi).length:Int)-0).toNat+1)∧((n.Qa.getD i40.toNat default).Qi.length:Int)≤1000000000∧(0:Int)≤0)) (fun (i1:Nat×Int) (hi1:runL (F69_s1 n box label i40) i1.1 i1.2=(runL (F69_s1 n box label i40) (((((n.Qa.getD i40.toNat default).Qi).length:Int)-0).toNat+1) 0)∧(fun (k:Int)=>(Int.toNat ((((n.Qa.getD i40.toNat default).Qi).length:Int)-k)<i1.1∧((n.Qa.getD i40.toNat default).Qi.length:Int)≤1000000000∧(0:Int)≤k)) i1.2)=>(fun (m1:Nat) (k:Int) (hI1:runL (F69_s1 n box label i40) (m1+1) k=(runL (F69_s1 n box label i40) (((((n.Qa.getD i40.toNat default).Qi).length:Int)-0).toNat+1) 0)) (_:Int.toNat ((((n.Qa.getD i40.toNat default).Qi).length:Int)-k)<m1+1) (hl1:m1<i1.1) (_:((n.Qa.getD i40.toNat default).Qi.length:Int)≤1000000000) (_:(0:Int)≤k)=>ai ((by omega:0≤i40∧i40<(n.Qa.length:Int))) (ai (fun h4:(decide (k<(((n.Qa.getD i40.toNat default).Qi).length:Int)))=true=>(fun _:k<(((n.Qa.getD i40.toNat default).Qi).length:Int)=>ai ((by omega:0≤i40∧i40<(n.Qa.length:Int))) (ai ((by omega:0≤k∧k<(((n.Qa.getD i40.toNat default).Qi).length:Int))) (ai ((fun k5:((((n.Qa.getD i40.toNat default).Qi).getD k.toNat default).Via==box)=true=>(fun _:(((n.Qa.getD i40.toNat default).Qi).getD k.toNat default).Via=box=>(by omega:0≤i40∧i40<(n.Qa.length:Int))) (eq_of_beq k5))) (ai ((fun k6:((((n.Qa.getD i40.toNat default).Qi).getD k.toNat default).Via==box)=true=>(fun _:(((n.Qa.getD i40.toNat default).Qi).getD k.toNat default).Via=box=>(by omega:0≤k∧k<(((n.Qa.getD i40.toNat default).Qi).length:Int))) (eq_of_beq k6))) (ai (fun h7:(bif ((((n.Qa.getD i40.toNat default).Qi).getD k.toNat default).Via==box) then ((((n.Qa.getD i40.toNat default).Qi).getD k.toNat default).Push==label) else false)=true=>(fun _:(((n.Qa.getD i40.toNat default).Qi).getD k.toNat default).Push=label=>(fun _:(((n.Qa.getD i40.toNat default).Qi).getD k.toNat default).Via=box=>(fun hF:(true:Bool)=(F69 n box label)=>ai (congrArg (fun r:Bool=>(.bool r:Value)) hF) (trivial)) (finR (runL_ret hI0 (condT h2 (finR (runL_ret hI1 (condT h4 (condT h7 (rfl)))) rfl))) rfl)) (eq_of_beq (andT1 h7))) (eq_of_beq (andT2 h7))) (fun h7:(bif ((((n.Qa.getD i40.toNat default).Qi).getD k.toNat default).Via==box) then ((((n.Qa.getD i40.toNat default).Qi).getD k.toNat default).Push==label) else false)=false=>ai ((by unfold i64ok; omega:i64ok (k+1))) (Exists.intro (p:=fun j:Nat×Int=>(fun (k_:Int)=>(((.int .i64 box:Value)=.int .i64 box)∧((.int .i64 label:Value)=.int .i64 label)∧((.int .i64 i40:Value)=.int .i64 i40)∧((.int .i64 (k+1):Value)=.int .i64 k_)∧(Imp (.l 2 Qf n.Qb) (.l 2 Qf n.Qb))∧(Imp (.l 2 Qg n.Qa) (.l 2 Qg n.Qa))∧((runL (F69_s1 n box label i40) j.1 j.2=(runL (F69_s1 n box label i40) (((((n.Qa.getD i40.toNat default).Qi).length:Int)-0).toNat+1) 0)∧Int.toNat ((((n.Qa.getD i40.toNat default).Qi).length:Int)-k_)<j.1∧((n.Qa.getD i40.toNat default).Qi.length:Int)≤1000000000∧(0:Int)≤k_)∧j.1<i1.1))) j.2) (m1,(k+1)) (ai (rfl) (ai (rfl) (ai (rfl) (ai (rfl) (ai (ir) (ai (ir) (ai (ai (runL_next hI1 (condT h4 (condF h7 (rfl)))) (ai ((by first | omega | (simp only [lens] at*<;> omega) | (have:=hpre0 i40.toNat; omega):Int.toNat ((((n.Qa.getD i40.toNat default).Qi).length:Int)-(k+1))<m1)) (ai ((by first | omega | (simp only [lens] at*<;> omega) | (have:=hpre0 i40.toNat; omega):((n.Qa.getD i40.toNat default).Qi.length:Int)≤1000000000)) ((by first | omega | (simp only [lens] at*<;> omega) | (have:=hpre0 i40.toNat; omega):(0:Int)≤(k+1)))))) hl1)))))))))))))) (of_decide_eq_true h4)) (fun h4:(decide (k<(((n.Qa.getD i40.toNat default).Qi).length:Int)))=false=>(fun _:¬ k<(((n.Qa.getD i40.toNat default).Qi).length:Int)=>(fun hD1_8:(runL (F69_s1 n box label i40) (((((n.Qa.getD i40.toNat default).Qi).length:Int)-0).toNat+1) 0)=Lp.done k=>ai ((by unfold i64ok; omega:i64ok (i40+1))) (Exists.intro (p:=fun j:Nat×Int=>(fun (i40_:Int)=>(((.int .i64 box:Value)=.int .i64 box)∧((.int .i64 label:Value)=.int .i64 label)∧((.int .i64 (i40+1):Value)=.int .i64 i40_)∧(Imp (.l 2 Qf n.Qb) (.l 2 Qf n.Qb))∧(Imp (.l 2 Qg n.Qa) (.l 2 Qg n.Qa))∧((runL (F69_s0 n box label) j.1 j.2=(runL (F69_s0 n box label) (((n.Qa.length:Int)-0).toNat+1) 0)∧Int.toNat ((n.Qa.length:Int)-i40_)<j.1∧(0:Int)≤i40_)∧j.1<i0.1))) j.2) (m0,(i40+1)) (ai (rfl) (ai (rfl) (ai (rfl) (ai (ir) (ai (ir) (ai (ai (runL_next hI0 (condT h2 (finD hD1_8 (rfl)))) (ai ((by omega:Int.toNat ((n.Qa.length:Int)-(i40+1))<m0)) ((by omega:(0:Int)≤(i40+1))))) hl0)))))))) (runL_done hI1 (condF h4 (rfl)))) (of_decide_eq_false h4)))) (i1.1-1) i1.2 (hd1 hi1.1 hi1.2.1) (hd2 hi1.2.1) (hd3 hi1.2.1) hi1.2.2.1 hi1.2.2.2)) (of_decide_eq_true h2)) (fun h2:(decide (i40<(n.Qa.length:Int)))=false=>(fun _:¬ i40<(n.Qa.length:Int)=>(fun hD0_9:(runL (F69_s0 n box label) (((n.Qa.length:Int)-0).toNat+1) 0)=Lp.done i40=>(fun hF:(false:Bool)=(F69 n box label)=>ai (congrArg (fun r:Bool=>(.bool r:Value)) hF) (trivial)) (finD hD0_9 (rfl))) (runL_done hI0 (condF h2 (rfl)))) (of_decide_eq_false h2))) (i0.1-1) i0.2 (hd1 hi0.1 hi0.2.1) (hd2 hi0.2.1) (hd3 hi0.2.1) hi0.2.2)) (by kernel_rfl)
def tearBox (n:Qd) (l:List (Int×Int)) (k:Nat):Qj :=
 ⟨(n.Qa.getD k default).Rows.filter (fun r=>!(l.any (fun x=>decide (Int.toNat x.1=k)&&decide (r.In=x.2)))),(n.Qa.getD k default).Qi⟩
theorem tearBox_nil (n:Qd) (k:Nat):tearBox n [] k=n.Qa.getD k default:=by
 unfold tearBox
 simp only [List.any_nil,Bool.not_false]
 rw [List.filter_eq_self.2 (fun _ _=>rfl)]
theorem tearBox_next (n:Qd) (l:List (Int×Int)) (x:Int×Int) (k:Nat) :
  tearBox n (l++[x]) k=if Int.toNat x.1=k then ⟨(tearBox n l k).Rows.filter (fun r=>!(decide (r.In=x.2))),(tearBox n l k).Qi⟩ else tearBox n l k:=by
 unfold tearBox
 by_cases h:Int.toNat x.1=k
 ·simp only [h,if_true,List.any_append,List.any_cons,List.any_nil,Bool.or_false,decide_true,Bool.true_and,List.filter_filter,Bool.not_or]
  congr 1
  apply List.filter_congr
  intro r _
  rw [Bool.and_comm]
 ·simp only [h,if_false,List.any_append,List.any_cons,List.any_nil,Bool.or_false,decide_false,Bool.false_and]
def TearI (n:Qd) (l:List (Int×Int)) (xs:List Qj):Prop :=
 xs.length=n.Qa.length∧∀ k,k<n.Qa.length→xs.getD k default=tearBox n l k
theorem TearI.uniq {n:Qd} {l:List (Int×Int)} {xs ys:List Qj} (h:TearI n l xs) (g:TearI n l ys):xs=ys:=by
 refine List.ext_getElem (by rw [h.1,g.1]) fun k h1 h2=>?_
 have e1:=h.2 k (by have:=h.1; omega)
 have e2:=g.2 k (by have:=g.1; omega)
 rw [getD_lt _ h1] at e1
 rw [getD_lt _ h2] at e2
 rw [e1,e2]
theorem TearI.next {n:Qd} {l:List (Int×Int)} {xs:List Qj} (h:TearI n l xs) (x:Int×Int) (b:Qj) (hx:Int.toNat x.1<n.Qa.length)
  (hb:b=⟨(tearBox n l (Int.toNat x.1)).Rows.filter (fun r=>!(decide (r.In=x.2))),(tearBox n l (Int.toNat x.1)).Qi⟩):TearI n (l++[x]) (xs.set (Int.toNat x.1) b):=by
 refine ⟨by rw [List.length_set]; exact h.1,fun k hk=>?_⟩
 rw [tearBox_next,List.getD_eq_getElem?_getD,List.getElem?_set]
 have h1:=h.1
 by_cases e:Int.toNat x.1=k
 ·subst e
  simp only [if_true,h1,hx,Option.getD_some,hb]
 ·simp only [e,if_false]
  rw [← h.2 k hk,List.getD_eq_getElem?_getD]
theorem erase_filter {xs:List Qq} {c:Int}:∀ (_:xs.Pairwise (fun a b=>a.In<b.In)) {j:Nat},j<xs.length→(xs.getD j default).In=c→xs.take j++xs.drop (j+1)=xs.filter (fun r=>!(decide (r.In=c))):=by
 induction xs with
 | nil=>intro _ j hj; simp at hj
 | cons a t ih =>
  intro hp j hj hc
  rw [List.pairwise_cons] at hp
  cases j with
  | zero =>
   have hc':a.In=c:=by simpa using hc
   rw [List.filter_cons]
   simp only [hc',decide_true,Bool.not_true,List.take_zero,List.nil_append,List.drop_succ_cons,List.drop_zero,Bool.false_eq_true,if_false]
   symm
   refine List.filter_eq_self.2 fun b hb=>?_
   have:=hp.1 b hb
   have:¬ b.In=c:=by omega
   simp [this]
  | succ j =>
   have hj':j<t.length:=by simpa using hj
   have hc':(t.getD j default).In=c:=by simpa using hc
   have hm:t.getD j default∈t:=getD_mem t hj'
   have:=hp.1 _ hm
   have hne:¬ a.In=c:=by omega
   rw [List.filter_cons]
   simp only [hne,decide_false,Bool.not_false,if_true,List.take_succ_cons,List.drop_succ_cons,List.cons_append]
   rw [ih hp.2 hj' hc']
theorem path_step {n:Qd}:∀ (m:Nat) (box label:Int) (l:List (Int×Int)),pathFrom n m box label=some l →
  l.length≠0∧l.getD 0 default=(box,label)∧(∀ i,i<l.length→∃ k,rowIx (n.Qa.getD (Int.toNat (l.getD i default).1) default) (l.getD i default).2=some k ∧
   (i+1<l.length→(l.getD (i+1) default).2=((n.Qa.getD (Int.toNat (l.getD i default).1) default).Rows.getD k default).Out)) ∧
  ∀ i,i<l.length→pathFrom n (m-i) (l.getD i default).1 (l.getD i default).2=some (l.drop i)
 | 0,_,_,_,he=>by simp [pathFrom] at he
 | m+1,box,label,l,he=>by
  have he0:=he
  unfold pathFrom at he
  cases e:rowIx (n.Qa.getD box.toNat default) label with
  | none=>rw [e] at he; cases he
  | some k =>
   rw [e] at he
   by_cases hx:((n.Qa.getD box.toNat default).Rows.getD k default).Next<0
   ·simp only [hx,if_true,Option.some.injEq] at he
    subst he
    refine ⟨by simp,rfl,fun i hi=>?_,fun i hi=>?_⟩
    ·have:i=0:=by simp at hi; omega
     subst this
     exact ⟨k,e,fun h=>by simp at h⟩
    ·have:i=0:=by simp at hi; omega
     subst this
     exact he0
   ·simp only [hx,if_false] at he
    cases e2:pathFrom n m ((n.Qa.getD box.toNat default).Rows.getD k default).Next ((n.Qa.getD box.toNat default).Rows.getD k default).Out with
    | none=>rw [e2] at he; cases he
    | some l' =>
     rw [e2] at he
     simp only [Option.map_some,Option.some.injEq] at he
     subst he
     obtain ⟨g1,g2,g3,g4⟩:=path_step m _ _ l' e2
     refine ⟨by simp,rfl,fun i hi=>?_,fun i hi=>?_⟩
     ·cases i with
      | zero=>exact ⟨k,e,fun h=>by rw [List.getD_cons_succ,g2]; rfl⟩
      | succ i =>
       obtain ⟨k',h1,h2⟩:=g3 i (by simpa using hi)
       refine ⟨k',by simpa only [List.getD_cons_succ] using h1,fun h=>?_⟩
       have:=h2 (by simpa using h)
       simpa only [List.getD_cons_succ] using this
     ·cases i with
      | zero=>exact he0
      | succ i =>
       have:=g4 i (by simpa using hi)
       simpa only [List.getD_cons_succ,Nat.succ_sub_succ,List.drop_succ_cons,Nat.add_sub_add_right] using this
theorem pathFrom_mono {n:Qd}:∀ (m:Nat) (box label:Int) (l:List (Int×Int)),pathFrom n m box label=some l→∀ j,pathFrom n (m+j) box label=some l
 | 0,_,_,_,he,_=>by simp [pathFrom] at he
 | m+1,box,label,l,he,j=>by
  rw [Nat.add_right_comm]
  unfold pathFrom at he ⊢
  cases e:rowIx (n.Qa.getD box.toNat default) label with
  | none=>rw [e] at he; cases he
  | some k =>
   rw [e] at he
   by_cases hx:((n.Qa.getD box.toNat default).Rows.getD k default).Next<0
   ·simp only [hx,if_true] at he ⊢; exact he
   ·simp only [hx,if_false] at he ⊢
    cases e2:pathFrom n m ((n.Qa.getD box.toNat default).Rows.getD k default).Next ((n.Qa.getD box.toNat default).Rows.getD k default).Out with
    | none=>rw [e2] at he; cases he
    | some l'=>rw [pathFrom_mono m _ _ l' e2 j]; rw [e2] at he; exact he
theorem path_inj {n:Qd} {m:Nat} {box label:Int} {l:List (Int×Int)} (h:pathFrom n m box label=some l) {i j:Nat} (hi:i<l.length) (hj:j<l.length) (e:l.getD i default=l.getD j default):i=j:=by
 have g:=(path_step m box label l h).2.2.2
 have h1:=g i hi
 have h2:=g j hj
 rw [e] at h1
 have k1:=pathFrom_mono _ _ _ _ h1 (m-j)
 have k2:=pathFrom_mono _ _ _ _ h2 (m-i)
 rw [Nat.add_comm] at k2
 rw [k1] at k2
 have:=congrArg List.length (Option.some.inj k2)
 simp only [List.length_drop] at this
 omega
theorem pair_uniq {xs:List Qq} (h:xs.Pairwise (fun a b=>a.In<b.In)) {a b:Qq} (ha:a∈xs) (hb:b∈xs) (e:a.In=b.In):a=b:=by
 induction xs with
 | nil=>cases ha
 | cons x t ih =>
  rw [List.pairwise_cons] at h
  rcases List.mem_cons.1 ha with ha | ha <;> rcases List.mem_cons.1 hb with hb | hb
  ·rw [ha,hb]
  ·have:=h.1 b hb; rw [← ha] at this; omega
  ·have:=h.1 a ha; rw [← hb] at this; omega
  ·exact ih h.2 ha hb
theorem tear_row {n:Qd} (h:Qn n) {box label:Int} {l:List (Int×Int)} (h0:0≤box) (h1:box<(n.Qa.length:Int)) (hp:pathFrom n n.Qa.length box label=some l) {i:Nat} (hi:i<l.length) {xs:List Qj} (hT:TearI n (l.take i) xs) :
  ∃ k,rowIx (xs.getD (Int.toNat (l.getD i default).1) default) (l.getD i default).2=some k ∧
   (i+1<l.length→(l.getD (i+1) default).2=((xs.getD (Int.toNat (l.getD i default).1) default).Rows.getD k default).Out) ∧
   TearI n (l.take (i+1)) (xs.set (Int.toNat (l.getD i default).1) ⟨(xs.getD (Int.toNat (l.getD i default).1) default).Rows.take k++(xs.getD (Int.toNat (l.getD i default).1) default).Rows.drop (k+1),(xs.getD (Int.toNat (l.getD i default).1) default).Qi⟩):=by
 obtain ⟨k0,e0,n0⟩:=(path_step _ _ _ _ hp).2.2.1 i hi
 have hr:=pathFrom_all h _ _ _ _ h0 h1 hp _ (getD_mem l hi)
 have inj:=fun j hj (e:l.getD j default=l.getD i default)=>path_inj hp hj hi e
 have htake:l.take (i+1)=l.take i++[l.getD i default]:=by rw [List.take_add_one,List.getElem?_eq_getElem hi,getD_lt l hi]; rfl
 generalize hx:l.getD i default=x at *
 obtain ⟨b,c⟩:=x
 simp only at e0 n0 hr inj ⊢
 have hb:Int.toNat b<n.Qa.length:=by omega
 have eb:=hT.2 _ hb
 have hpw:(n.Qa.getD b.toNat default).Rows.Pairwise (fun a b=>a.In<b.In):=inc_pair _ (fun r:Qq=>r.In) (h.box _ hb).rinc
 obtain ⟨f1,f2,_⟩:=first_some.1 e0
 have f2':((n.Qa.getD b.toNat default).Rows.getD k0 default).In=c:=by simpa using f2
 have hm:=getD_mem _ f1
 have hpw':(xs.getD b.toNat default).Rows.Pairwise (fun a b=>a.In<b.In):=by rw [eb]; exact hpw.filter _
 have hm':(n.Qa.getD b.toNat default).Rows.getD k0 default∈(xs.getD b.toNat default).Rows:=by
  rw [eb]
  refine List.mem_filter.2 ⟨hm,?_⟩
  simp only [Bool.not_eq_true',List.any_eq_false,Bool.and_eq_true,decide_eq_true_eq,not_and]
  intro y hy e1 e2
  obtain ⟨j,hj,rfl⟩:=mem_getD hy
  have hj':j<i∧j<l.length:=by rw [List.length_take] at hj; omega
  have ej:(l.take i).getD j default=l.getD j default:=by rw [getD_lt _ hj,getD_lt l hj'.2,List.getElem_take]
  rw [ej] at e1 e2
  have hrj:=pathFrom_all h _ _ _ _ h0 h1 hp _ (getD_mem l hj'.2)
  have:l.getD j default=(b,c):=Prod.ext (by show (l.getD j default).1=b; omega) (by show (l.getD j default).2=c; rw [← e2]; exact f2')
  have:=inj j hj'.2 this
  omega
 obtain ⟨k1,hk1,ek1⟩:=mem_getD hm'
 cases e:rowIx (xs.getD b.toNat default) c with
 | none =>
  have:=first_none.1 e k1 hk1
  rw [ek1,f2'] at this
  simp at this
 | some k =>
  obtain ⟨g1,g2,_⟩:=first_some.1 e
  have g2':((xs.getD b.toNat default).Rows.getD k default).In=c:=by simpa using g2
  have er:=pair_uniq hpw' (getD_mem _ g1) hm' (g2'.trans f2'.symm)
  refine ⟨k,rfl,fun hh=>by rw [er]; exact n0 hh,?_⟩
  rw [htake]
  refine hT.next (b,c) _ hb ?_
  rw [← eb,erase_filter hpw' g1 g2']
structure TearS (n:Qd) (box label:Int) (at':Int) (i:Int) (xs:List Qj):Prop where
 net:Qn n
 h0:0≤box
 h1:box<(n.Qa.length:Int)
 hi:0≤i
 ex:∃ l,Ql n box label=l.map (·.1)∧pathFrom n n.Qa.length box label=some l∧TearI n (l.take i.toNat) xs∧(i<(l.length:Int)→at'=(l.getD i.toNat default).2)
theorem getD_map1 {α β:Type} [Inhabited α] [Inhabited β] (f:α→β) (l:List α) {k:Nat} (h:k<l.length):(l.map f).getD k default=f (l.getD k default):=by
 rw [getD_lt _ (by simpa using h),getD_lt _ h,List.getElem_map]
theorem TearS.zero {n:Qd} {box label:Int} (h:¬ ((Ql n box label).length:Int)=0):TearS n box label label 0 n.Qa:=by
 unfold Ql at h
 cases hb:netB n&&decide (0≤box∧box≤(n.Qa.length:Int)-1) with
 | false=>rw [hb] at h; exact absurd rfl h
 | true =>
  have hb2:=hb
  rw [hb,cond_true] at h
  simp only [Bool.and_eq_true,decide_eq_true_eq] at hb2
  obtain ⟨h1,h2,h3⟩:=hb2
  cases e:pathFrom n n.Qa.length box label with
  | none=>rw [e] at h; exact absurd rfl h
  | some l =>
   refine ⟨netB_T n h1,h2,by omega,by omega,l,?_,e,?_,fun _=>?_⟩
   ·unfold Ql; rw [hb,cond_true,e]; rfl
   ·exact ⟨rfl,fun k _=>(tearBox_nil n k).symm⟩
   ·rw [show Int.toNat 0=0 from rfl,(path_step _ _ _ _ e).2.1]
theorem TearI.bound {n:Qd} (h:Qn n) {l:List (Int×Int)} {xs:List Qj} (hT:TearI n l xs) (k:Nat):(xs.getD k default).Rows.length≤60∧(xs.getD k default).Qi.length≤60:=by
 by_cases hk:k<n.Qa.length
 ·rw [hT.2 k hk]
  have h1:=Qn.rows h k
  have h2:=Qn.vias h k
  have h3:=List.length_filter_le (fun r=>!(l.any (fun x=>decide (Int.toNat x.1=k)&&decide (r.In=x.2)))) (n.Qa.getD k default).Rows
  unfold tearBox
  exact ⟨by simp only; omega,by simp only; omega⟩
 ·have:=hT.1
  rw [getD_ge _ (by omega)]; exact ⟨Nat.zero_le _,Nat.zero_le _⟩
theorem TearS.bound {n:Qd} {box label at' i:Int} {xs:List Qj} (h:TearS n box label at' i xs) (k:Nat):(xs.getD k default).Rows.length≤60∧(xs.getD k default).Qi.length≤60:=by
 obtain ⟨net,h0,h1,h2,l,e1,e2,e3,e4⟩:=h
 exact e3.bound net k
theorem TearS.in_ {n:Qd} {box label at' i:Int} {xs:List Qj} (h:TearS n box label at' i xs) (hi:i<((Ql n box label).length:Int)) :
  0≤(Ql n box label).getD i.toNat default∧(Ql n box label).getD i.toNat default<(n.Qa.length:Int)∧xs.length=n.Qa.length ∧
  0≤oix (rowIx (xs.getD ((Ql n box label).getD i.toNat default).toNat default) at')∧(xs.getD ((Ql n box label).getD i.toNat default).toNat default).Rows.length≤60:=by
 have hbd:=h.bound ((Ql n box label).getD i.toNat default).toNat
 obtain ⟨net,h0,h1,h2,l,e1,e2,e3,e4⟩:=h
 rw [e1] at hi hbd ⊢
 simp only [List.length_map] at hi
 have hk:Int.toNat i<l.length:=by omega
 rw [getD_map1 _ _ hk] at hbd
 rw [getD_map1 _ _ hk,e4 hi]
 have hr:=pathFrom_all net _ _ _ _ h0 h1 e2 _ (getD_mem l hk)
 obtain ⟨k,f1,_⟩:=tear_row net h0 h1 e2 hk e3
 rw [f1]
 exact ⟨hr.1,hr.2,e3.1,by simp only [oix]; omega,hbd.1⟩
theorem TearS.next {n:Qd} {box label at' i:Int} {xs:List Qj} (h:TearS n box label at' i xs) (hi:i<((Ql n box label).length:Int)) :
  TearS n box label (((xs.getD ((Ql n box label).getD i.toNat default).toNat default).Rows).getD (oix (rowIx (xs.getD ((Ql n box label).getD i.toNat default).toNat default) at')).toNat default).Out (i+1)
   (xs.set ((Ql n box label).getD i.toNat default).toNat ⟨(([]:List Qq)++(xs.getD ((Ql n box label).getD i.toNat default).toNat default).Rows.take (oix (rowIx (xs.getD ((Ql n box label).getD i.toNat default).toNat default) at')).toNat)++(xs.getD ((Ql n box label).getD i.toNat default).toNat default).Rows.drop (oix (rowIx (xs.getD ((Ql n box label).getD i.toNat default).toNat default) at')+1).toNat,(xs.getD ((Ql n box label).getD i.toNat default).toNat default).Qi⟩):=by
 obtain ⟨net,h0,h1,h2,l,e1,e2,e3,e4⟩:=h
 refine ⟨net,h0,h1,by omega,l,e1,e2,?_⟩
 rw [e1] at hi ⊢
 simp only [List.length_map] at hi
 have hk:Int.toNat i<l.length:=by omega
 rw [getD_map1 _ _ hk,e4 hi]
 obtain ⟨k,f1,f2,f3⟩:=tear_row net h0 h1 e2 hk e3
 rw [f1]
 simp only [oix,List.nil_append]
 rw [show Int.toNat (k:Int)=k from by omega,show Int.toNat ((k:Int)+1)=k+1 from by omega,show Int.toNat (i+1)=Int.toNat i+1 from by omega]
 exact ⟨f3,fun hh=>(f2 (by omega)).symm⟩
def F23_s0 (n:Qd) (box:Int) (label:Int):(Int×Int×List Qj)→Lp (Int×Int×List Qj) (Qd×Int):=fun (at',i40,xs) =>
 bif (decide (i40<((Ql n box label).length:Int))) then (bif (F69 n ((Ql n box label).getD i40.toNat default) at') then (.ret (n,5)) else (.next ((((xs.getD ((Ql n box label).getD i40.toNat default).toNat default).Rows).getD (oix (rowIx (xs.getD ((Ql n box label).getD i40.toNat default).toNat default) at')).toNat default).Out,(i40+1),(xs.set (((Ql n box label).getD i40.toNat default)).toNat (⟨((([]:List Qq)++(((xs.getD ((Ql n box label).getD i40.toNat default).toNat default).Rows).take (oix (rowIx (xs.getD ((Ql n box label).getD i40.toNat default).toNat default) at')).toNat))++(((xs.getD ((Ql n box label).getD i40.toNat default).toNat default).Rows).drop ((oix (rowIx (xs.getD ((Ql n box label).getD i40.toNat default).toNat default) at'))+1).toNat)),(xs.getD ((Ql n box label).getD i40.toNat default).toNat default).Qi⟩:Qj))))) else (.done (at',i40,xs))
def F23_j0 (n:Qd) (box:Int) (label:Int):Lp (List Qj) (Qd×Int) :=
 (runL (F23_s0 n box label) ((((Ql n box label).length:Int)-0).toNat+1) (label,0,n.Qa)).fin Lp.ret (fun (at',i40,xs)=>.done xs)
def F23 (n:Qd) (box:Int) (label:Int):Qd×Int :=
 bif (!(netB n)) then ((⟨[],[]⟩:Qd),1) else (bif (((Ql n box label).length:Int)==0) then (n,2) else (bif (F68 n box label) then (n,4) else ((F23_j0 n box label).fin (fun r=>r) (fun x9=>((⟨n.Qb,x9⟩:Qd),0)))))
def S23 (R:Qd×Int) (n:Qd) (box:Int) (label:Int):Spec:=⟨[.r (.g (Qr n)),.r (.c (.v (vI box))),.r (.c (.v (vI label)))],.tu [.ag [.ow (.l 2 Qf R.1.Qb),.ow (.l 2 Qg R.1.Qa)],.v (vI R.2)],True⟩
theorem ok23 (n:Qd) (box:Int) (label:Int):(S23 (F23 n box label) n box label).ok Try.prog 23 :=
 fnG_ok mixed (fn:=Try.f23) (ct:=.seq (.no) (.seq (.seq (.reg [(1,.call 14 (S14 (netB n) n) (oa14 n) none)]) (.cond (.seq (.no) (.no)) (.no))) (.seq (.reg [(1,.call 67 (S67 n n) (oa67 n) none)]) (.seq (.reg [(3,.call 26 (S26 (Ql n box label) n box label) (oa26 n box label) none)]) (.seq (.seq (.no) (.cond (.seq (.no) (.no)) (.no))) (.seq (.seq (.reg [(3,.call 68 (S68 n box label) (ok68 n box label) none)]) (.cond (.seq (.no) (.no)) (.no))) (.seq (.no) (.cut (ι:=List Qj) (fun j=>(fun (x9:List Qj)=>(⟨[(6,some (.p 0 0)),(8,some (.p 1 0))],[(0,some (.box 26 [.v (.slice none 0 0),.v (.slice none 0 0)])),(1,some (.box 26 [.h 2 0,.h 3 0])),(2,some (.own 2 (.l 2 Qf n.Qb))),(3,some (.own 3 (.l 2 Qg x9)))],4⟩:St)) j) (fun j=>(fun (x9:List Qj)=>((F23_j0 n box label)=Lp.done j∧x9.length=n.Qa.length∧(∀ k:Nat,(x9.getD k default).Rows.length≤60∧(x9.getD k default).Qi.length≤60))) j) (.seqk [(3,0),(3,1),(8,0),(8,1),(9,0)] (.no) (.blk (.loop (ι:=Nat×(Int×Int×List Qj)) (fun i=>(fun (at':Int) (i40:Int) (xs:List Qj)=>(⟨[(3,some (.p 0 0)),(6,some (.p 3 0)),(8,some (.p 4 0)),(9,some (.h 7 0)),(10,some (.v (vI at'))),(11,some (.v (vI i40)))],[(0,some (.box 26 [.h 1 0,.h 2 0])),(1,some (.shr none (.l 2 Qf n.Qb))),(2,some (.shr none (.l 2 Qg n.Qa))),(3,some (.box 26 [.v (.slice none 0 0),.v (.slice none 0 0)])),(4,some (.box 26 [.h 5 0,.h 6 0])),(5,some (.own 5 (.l 2 Qf n.Qb))),(6,some (.own 6 (.l 2 Qg xs))),(7,some (.own 7 (.l 1 eInt (Ql n box label))))],8⟩:St)) i.2.1 i.2.2.1 i.2.2.2) (fun i=>runL (F23_s0 n box label) i.1 i.2=(runL (F23_s0 n box label) ((((Ql n box label).length:Int)-0).toNat+1) (label,0,n.Qa))∧(fun (at':Int) (i40:Int) (xs:List Qj)=>(Int.toNat (((Ql n box label).length:Int)-i40)<i.1∧TearS n box label at' i40 xs∧(i40<((Ql n box label).length:Int)→0≤(Ql n box label).getD i40.toNat default∧(Ql n box label).getD i40.toNat default<(n.Qa.length:Int)∧xs.length=n.Qa.length∧0≤oix (rowIx (xs.getD ((Ql n box label).getD i40.toNat default).toNat default) at')∧(xs.getD ((Ql n box label).getD i40.toNat default).toNat default).Rows.length≤60)∧(0:Int)≤i40∧xs.length=n.Qa.length)) i.2.1 i.2.2.1 i.2.2.2) (fun i=>i.1) (((((Ql n box label).length:Int)-0).toNat+1),(label,0,n.Qa)) (fun i=>(fun (at':Int) (i40:Int) (xs:List Qj)=>(.seq (.seq (.no) (.cond (.no) (.no))) (.seq (.blk (.seq (.seq (.reg [(6,.call 69 (S69 n ((Ql n box label).getD i40.toNat default) at') (ok69 n ((Ql n box label).getD i40.toNat default) at') none)]) (.cond (.seq (.reg [(1,.call 67 (S67 n n) (oa67 n) none)]) (.no)) (.no))) (.seq (.reg [(9,.call 70 (S70 (oix (rowIx (xs.getD ((Ql n box label).getD i40.toNat default).toNat default) at')) (xs.getD ((Ql n box label).getD i40.toNat default).toNat default) at') (oa70 (xs.getD ((Ql n box label).getD i40.toNat default).toNat default) at') none)]) (.seq (.no) (.reg [(6,.dat (.l 3 Qt ([]:List Qq))),(18,.dat (.l 3 Qt (([]:List Qq)++(((xs.getD ((Ql n box label).getD i40.toNat default).toNat default).Rows).take (oix (rowIx (xs.getD ((Ql n box label).getD i40.toNat default).toNat default) at')).toNat)))),(29,.bnd),(31,.dat (.l 3 Qt ((([]:List Qq)++(((xs.getD ((Ql n box label).getD i40.toNat default).toNat default).Rows).take (oix (rowIx (xs.getD ((Ql n box label).getD i40.toNat default).toNat default) at')).toNat))++(((xs.getD ((Ql n box label).getD i40.toNat default).toNat default).Rows).drop ((oix (rowIx (xs.getD ((Ql n box label).getD i40.toNat default).toNat default) at'))+1).toNat)))),(34,.dat (.l 2 Qg (xs.set (((Ql n box label).getD i40.toNat default)).toNat (⟨((([]:List Qq)++(((xs.getD ((Ql n box label).getD i40.toNat default).toNat default).Rows).take (oix (rowIx (xs.getD ((Ql n box label).getD i40.toNat default).toNat default) at')).toNat))++(((xs.getD ((Ql n box label).getD i40.toNat default).toNat default).Rows).drop ((oix (rowIx (xs.getD ((Ql n box label).getD i40.toNat default).toNat default) at'))+1).toNat)),(xs.getD ((Ql n box label).getD i40.toNat default).toNat default).Qi⟩:Qj))))]))))) (.reg [(1,.bnd)])))) i.2.1 i.2.2.1 i.2.2.2)))) (fun j=>(fun (x9:List Qj)=>(.seq (.reg [(1,.call 67 (S67 (⟨n.Qb,x9⟩:Qd) (⟨n.Qb,x9⟩:Qd)) (oa67 (⟨n.Qb,x9⟩:Qd)) none)]) (.no))) j))))))))) Try.func23 (fun (_:True)=>ai (trivial) (ai ((Imps.refl (Qr n))) (ai (fun h1:(!(netB n))=true=>(fun hF:((⟨[],[]⟩:Qd),1)=(F23 n box label)=>ai ((Imp.nil 2 Qf).trans (Imp.of_eq (congrArg (fun r:Qd×Int=>Dat.l 2 Qf r.1.Qb) hF))) (ai ((Imp.nil 2 Qg).trans (Imp.of_eq (congrArg (fun r:Qd×Int=>Dat.l 2 Qg r.1.Qa) hF))) (ai (congrArg (fun r:Qd×Int=>(.int .i64 r.2:Value)) hF) (trivial)))) (condT h1 (rfl))) (fun h1:(!(netB n))=false=>(fun _:n.Qb.length≤14=>(fun _:n.Qa.length≤8=>(fun _:Qn n=>ai ((ai ((by first | omega | (intro k; have:=(by assumption:∀ k:Nat,(x9.getD k default).Rows.length≤60∧(x9.getD k default).Qi.length≤60) k; omega) | (intro k; have:=Qn.rows (by assumption:Qn n) k; have:=Qn.vias (by assumption:Qn n) k; omega):n.Qb.length≤1000000000)) (ai ((by first | omega | (intro k; have:=(by assumption:∀ k:Nat,(x9.getD k default).Rows.length≤60∧(x9.getD k default).Qi.length≤60) k; omega) | (intro k; have:=Qn.rows (by assumption:Qn n) k; have:=Qn.vias (by assumption:Qn n) k; omega):n.Qa.length≤1000000000)) (ai ((by first | omega | (intro k; have:=(by assumption:∀ k:Nat,(x9.getD k default).Rows.length≤60∧(x9.getD k default).Qi.length≤60) k; omega) | (intro k; have:=Qn.rows (by assumption:Qn n) k; have:=Qn.vias (by assumption:Qn n) k; omega):∀ k:Nat,(n.Qa.getD k default).Rows.length≤1000000000)) ((by first | omega | (intro k; have:=(by assumption:∀ k:Nat,(x9.getD k default).Rows.length≤60∧(x9.getD k default).Qi.length≤60) k; omega) | (intro k; have:=Qn.rows (by assumption:Qn n) k; have:=Qn.vias (by assumption:Qn n) k; omega):∀ k:Nat,(n.Qa.getD k default).Qi.length≤1000000000)))))) (ai ((Imps.refl (Qr n))) (ai (trivial) (ai ((Imps.refl (Qr n))) (ai ((Imp.refl (.v (vI box)))) (ai ((Imp.refl (.v (vI label)))) (ai (fun h2:(((Ql n box label).length:Int)==0)=true=>(fun _:((Ql n box label).length:Int)=0=>(fun hF:(n,2)=(F23 n box label)=>ai (Imp.of_eq (congrArg (fun r:Qd×Int=>Dat.l 2 Qf r.1.Qb) hF)) (ai (Imp.of_eq (congrArg (fun r:Qd×Int=>Dat.l 2 Qg r.1.Qa) hF)) (ai (congrArg (fun r:Qd×Int=>(.int .i64 r.2:Value)) hF) (trivial)))) (condF h1 (condT h2 (rfl)))) (eq_of_beq h2)) (fun h2:(((Ql n box label).length:Int)==0)=false=>(fun _:¬ ((Ql n box label).length:Int)=0=>ai (((by (intro k; have:=Qn.rows (by assumption:Qn n) k; omega):∀ k:Nat,(n.Qa.getD k default).Rows.length≤1000000000))) (ai ((Imps.refl (Qr n))) (ai ((Imp.refl (.v (vI box)))) (ai ((Imp.refl (.v (vI label)))) (ai (fun h3:(F68 n box label)=true=>(fun hF:(n,4)=(F23 n box label)=>ai (Imp.of_eq (congrArg (fun r:Qd×Int=>Dat.l 2 Qf r.1.Qb) hF)) (ai (Imp.of_eq (congrArg (fun r:Qd×Int=>Dat.l 2 Qg r.1.Qa) hF)) (ai (congrArg (fun r:Qd×Int=>(.int .i64 r.2:Value)) hF) (trivial)))) (condF h1 (condF h2 (condT h3 (rfl))))) (fun h3:(F68 n box label)=false=>ai (fun (_:n.Qb.length≤9223372036854775807)=>fun (_:n.Qa.length≤9223372036854775807)=>fun (_:n.Qb.length≤9223372036854775807)=>fun (_:n.Qa.length≤9223372036854775807)=>fun (_:(Ql n box label).length≤9223372036854775807)=>ai (ai (rfl) (ai (rfl) (ai (ir) (ai (ir) (ai (rfl) (ai (rfl) (ai (ir) (ai (ir) (ai (ir) ((ai (rfl:runL (F23_s0 n box label) ((((Ql n box label).length:Int)-0).toNat+1) (label,0,n.Qa)=(runL (F23_s0 n box label) ((((Ql n box label).length:Int)-0).toNat+1) (label,0,n.Qa))) (ai ((Nat.lt_succ_self _:Int.toNat (((Ql n box label).length:Int)-0)<((((Ql n box label).length:Int)-0).toNat+1))) (ai ((by first | omega | (simp only [lens] at*<;> omega) | (exact TearS.zero (by assumption)) | (exact TearS.next (by assumption) (by assumption)) | (exact fun hi=>TearS.in_ (by first | assumption | exact TearS.zero (by assumption) | exact TearS.next (by assumption) (by assumption)) hi):TearS n box label label 0 n.Qa)) (ai ((by first | omega | (simp only [lens] at*<;> omega) | (exact TearS.zero (by assumption)) | (exact TearS.next (by assumption) (by assumption)) | (exact fun hi=>TearS.in_ (by first | assumption | exact TearS.zero (by assumption) | exact TearS.next (by assumption) (by assumption)) hi):0<((Ql n box label).length:Int)→0≤(Ql n box label).getD (Int.toNat 0) default∧(Ql n box label).getD (Int.toNat 0) default<(n.Qa.length:Int)∧n.Qa.length=n.Qa.length∧0≤oix (rowIx (n.Qa.getD ((Ql n box label).getD (Int.toNat 0) default).toNat default) label)∧(n.Qa.getD ((Ql n box label).getD (Int.toNat 0) default).toNat default).Rows.length≤60)) (ai ((by first | omega | (simp only [lens] at*<;> omega) | (exact TearS.zero (by assumption)) | (exact TearS.next (by assumption) (by assumption)) | (exact fun hi=>TearS.in_ (by first | assumption | exact TearS.zero (by assumption) | exact TearS.next (by assumption) (by assumption)) hi):(0:Int)≤0)) ((by first | omega | (simp only [lens] at*<;> omega) | (exact TearS.zero (by assumption)) | (exact TearS.next (by assumption) (by assumption)) | (exact fun hi=>TearS.in_ (by first | assumption | exact TearS.zero (by assumption) | exact TearS.next (by assumption) (by assumption)) hi):n.Qa.length=n.Qa.length)))))))))))))))):((.int .i64 label:Value)=.int .i64 label)∧((.int .i64 0:Value)=.int .i64 0)∧(Imp (.l 2 Qf n.Qb) (.l 2 Qf n.Qb))∧(Imp (.l 2 Qg n.Qa) (.l 2 Qg n.Qa))∧((.slice none 0 0:Value)=.slice none 0 0)∧((.slice none 0 0:Value)=.slice none 0 0)∧(Imp (.l 2 Qf n.Qb) (.l 2 Qf n.Qb))∧(Imp (.l 2 Qg n.Qa) (.l 2 Qg n.Qa))∧(Imp (.l 1 eInt (Ql n box label)) (.l 1 eInt (Ql n box label)))∧(runL (F23_s0 n box label) ((((Ql n box label).length:Int)-0).toNat+1) (label,0,n.Qa)=(runL (F23_s0 n box label) ((((Ql n box label).length:Int)-0).toNat+1) (label,0,n.Qa))∧Int.toNat (((Ql n box label).length:Int)-0)<((((Ql n box label).length:Int)-0).toNat+1)∧TearS n box label label 0 n.Qa∧(0<((Ql n box label).length:Int)→0≤(Ql n box label).getD (Int.toNat 0) default∧(Ql n box label).getD (Int.toNat 0) default<(n.Qa.length:Int)∧n.Qa.length=n.Qa.length∧0≤oix (rowIx (n.Qa.getD ((Ql n box label).getD (Int.toNat 0) default).toNat default) label)∧(n.Qa.getD ((Ql n box label).getD (Int.toNat 0) default).toNat default).Rows.length≤60)∧(0:Int)≤0∧n.Qa.length=n.Qa.length)) (fun (i0:Nat×(Int×Int×List Qj)) (hi0:runL (F23_s0 n box label) i0.1 i0.2=(runL (F23_s0 n box label) ((((Ql n box label).length:Int)-0).toNat+1) (label,0,n.Qa))∧(fun (at':Int) (i40:Int) (xs:List Qj)=>(Int.toNat (((Ql n box label).length:Int)-i40)<i0.1∧TearS n box label at' i40 xs∧(i40<((Ql n box label).length:Int)→0≤(Ql n box label).getD i40.toNat default∧(Ql n box label).getD i40.toNat default<(n.Qa.length:Int)∧xs.length=n.Qa.length∧0≤oix (rowIx (xs.getD ((Ql n box label).getD i40.toNat default).toNat default) at')∧(xs.getD ((Ql n box label).getD i40.toNat default).toNat default).Rows.length≤60)∧(0:Int)≤i40∧xs.length=n.Qa.length)) i0.2.1 i0.2.2.1 i0.2.2.2)=>(fun (m0:Nat) (at':Int) (i40:Int) (xs:List Qj) (hI0:runL (F23_s0 n box label) (m0+1) (at',i40,xs)=(runL (F23_s0 n box label) ((((Ql n box label).length:Int)-0).toNat+1) (label,0,n.Qa))) (_:Int.toNat (((Ql n box label).length:Int)-i40)<m0+1) (hl0:m0<i0.1) (_:TearS n box label at' i40 xs) (_:i40<((Ql n box label).length:Int)→0≤(Ql n box label).getD i40.toNat default∧(Ql n box label).getD i40.toNat default<(n.Qa.length:Int)∧xs.length=n.Qa.length∧0≤oix (rowIx (xs.getD ((Ql n box label).getD i40.toNat default).toNat default) at')∧(xs.getD ((Ql n box label).getD i40.toNat default).toNat default).Rows.length≤60) (_:(0:Int)≤i40) (_:xs.length=n.Qa.length)=>ai (fun h5:(decide (i40<((Ql n box label).length:Int)))=true=>(fun _:i40<((Ql n box label).length:Int)=>ai ((by first | omega | (simp only [lens] at*<;> omega):0≤i40∧i40<((Ql n box label).length:Int))) (ai (((by (intro k; have:=Qn.vias (by assumption:Qn n) k; omega):∀ k:Nat,(n.Qa.getD k default).Qi.length≤1000000000))) (ai ((Imps.refl (Qr n))) (ai ((Imp.refl (.v (vI ((Ql n box label).getD i40.toNat default))))) (ai ((Imp.refl (.v (vI at')))) (ai (fun h6:(F69 n ((Ql n box label).getD i40.toNat default) at')=true=>ai ((ai ((by first | omega | (intro k; have:=(by assumption:∀ k:Nat,(x9.getD k default).Rows.length≤60∧(x9.getD k default).Qi.length≤60) k; omega) | (intro k; have:=Qn.rows (by assumption:Qn n) k; have:=Qn.vias (by assumption:Qn n) k; omega):n.Qb.length≤1000000000)) (ai ((by first | omega | (intro k; have:=(by assumption:∀ k:Nat,(x9.getD k default).Rows.length≤60∧(x9.getD k default).Qi.length≤60) k; omega) | (intro k; have:=Qn.rows (by assumption:Qn n) k; have:=Qn.vias (by assumption:Qn n) k; omega):n.Qa.length≤1000000000)) (ai ((by first | omega | (intro k; have:=(by assumption:∀ k:Nat,(x9.getD k default).Rows.length≤60∧(x9.getD k default).Qi.length≤60) k; omega) | (intro k; have:=Qn.rows (by assumption:Qn n) k; have:=Qn.vias (by assumption:Qn n) k; omega):∀ k:Nat,(n.Qa.getD k default).Rows.length≤1000000000)) ((by first | omega | (intro k; have:=(by assumption:∀ k:Nat,(x9.getD k default).Rows.length≤60∧(x9.getD k default).Qi.length≤60) k; omega) | (intro k; have:=Qn.rows (by assumption:Qn n) k; have:=Qn.vias (by assumption:Qn n) k; omega):∀ k:Nat,(n.Qa.getD k default).Qi.length≤1000000000)))))) (ai ((Imps.refl (Qr n))) ((fun hF:(n,5)=(F23 n box label)=>ai (Imp.of_eq (congrArg (fun r:Qd×Int=>Dat.l 2 Qf r.1.Qb) hF)) (ai (Imp.of_eq (congrArg (fun r:Qd×Int=>Dat.l 2 Qg r.1.Qa) hF)) (ai (congrArg (fun r:Qd×Int=>(.int .i64 r.2:Value)) hF) (trivial)))) (condF h1 (condF h2 (condF h3 (finR (Eq.symm (finR (runL_ret hI0 (condT h5 (condT h6 (rfl)))) rfl)) rfl))))))) (fun h6:(F69 n ((Ql n box label).getD i40.toNat default) at')=false=>ai ((by first | omega | (simp only [lens] at*<;> omega):0≤i40∧i40<((Ql n box label).length:Int))) (ai ((by first | omega | (simp only [lens] at*<;> omega):0≤((Ql n box label).getD i40.toNat default)∧((Ql n box label).getD i40.toNat default)<(xs.length:Int))) (ai (trivial) (ai ((Imps.refl (Qg (xs.getD ((Ql n box label).getD i40.toNat default).toNat default)))) (ai ((Imp.refl (.v (vI at')))) ((fun gv7:(oix (rowIx (xs.getD ((Ql n box label).getD i40.toNat default).toNat default) at'))<((xs.getD ((Ql n box label).getD i40.toNat default).toNat default).Rows.length:Int)=>ai ((by first | omega | (simp only [lens] at*<;> omega):0≤i40∧i40<((Ql n box label).length:Int))) (ai ((by first | omega | (simp only [lens] at*<;> omega):0≤((Ql n box label).getD i40.toNat default)∧((Ql n box label).getD i40.toNat default)<(xs.length:Int))) (ai ((by first | omega | (simp only [lens] at*<;> omega):0≤(oix (rowIx (xs.getD ((Ql n box label).getD i40.toNat default).toNat default) at'))∧(oix (rowIx (xs.getD ((Ql n box label).getD i40.toNat default).toNat default) at'))<(((xs.getD ((Ql n box label).getD i40.toNat default).toNat default).Rows).length:Int))) (ai ((by first | omega | (simp only [lens] at*<;> omega):0≤i40∧i40<((Ql n box label).length:Int))) (ai ((BuildOK.mk Qt ([]:List Qq) rfl (by exact trivial) (fun _=>rfl):BuildOK 0 3 [] (.l 3 Qt ([]:List Qq)))) (ai ((by first | omega | (simp only [lens] at*<;> omega):0≤i40∧i40<((Ql n box label).length:Int))) (ai ((by first | omega | (simp only [lens] at*<;> omega):0≤((Ql n box label).getD i40.toNat default)∧((Ql n box label).getD i40.toNat default)<(xs.length:Int))) (ai ((by first | omega | (simp only [lens] at*<;> omega):0≤(0:Int)∧(0:Int)≤(oix (rowIx (xs.getD ((Ql n box label).getD i40.toNat default).toNat default) at'))∧(oix (rowIx (xs.getD ((Ql n box label).getD i40.toNat default).toNat default) at'))≤(((xs.getD ((Ql n box label).getD i40.toNat default).toNat default).Rows).length:Int))) (ai ((AppL.mk Qt ([]:List Qq) (((xs.getD ((Ql n box label).getD i40.toNat default).toNat default).Rows).take (oix (rowIx (xs.getD ((Ql n box label).getD i40.toNat default).toNat default) at')).toNat) (Imp.refl (.l 3 Qt ([]:List Qq))) ir (fun y=>⟨rfl,fun e he=>by simp only [Qt,List.mem_cons,List.not_mem_nil,or_false] at he; rcases he with rfl | rfl | rfl <;> exact ⟨_,rfl⟩⟩):AppL (.l 3 Qt ([]:List Qq)) (.l 3 Qt (((xs.getD ((Ql n box label).getD i40.toNat default).toNat default).Rows).take (oix (rowIx (xs.getD ((Ql n box label).getD i40.toNat default).toNat default) at')).toNat)) 3 (.l 3 Qt (([]:List Qq)++(((xs.getD ((Ql n box label).getD i40.toNat default).toNat default).Rows).take (oix (rowIx (xs.getD ((Ql n box label).getD i40.toNat default).toNat default) at')).toNat))))) (ai ((by (try simp only [lens]); omega:((([]:List Qq)++(((xs.getD ((Ql n box label).getD i40.toNat default).toNat default).Rows).take (oix (rowIx (xs.getD ((Ql n box label).getD i40.toNat default).toNat default) at')).toNat))).length*24≤140737488355328)) (ai ((by first | omega | (simp only [lens] at*<;> omega):0≤i40∧i40<((Ql n box label).length:Int))) (ai ((by first | omega | (simp only [lens] at*<;> omega):0≤((Ql n box label).getD i40.toNat default)∧((Ql n box label).getD i40.toNat default)<(xs.length:Int))) (ai ((by unfold i64ok; first | omega | (simp only [lens] at*<;> omega):i64ok ((oix (rowIx (xs.getD ((Ql n box label).getD i40.toNat default).toNat default) at'))+1))) (ai ((by first | omega | (simp only [lens] at*<;> omega):0≤((oix (rowIx (xs.getD ((Ql n box label).getD i40.toNat default).toNat default) at'))+1)∧((oix (rowIx (xs.getD ((Ql n box label).getD i40.toNat default).toNat default) at'))+1)≤(((xs.getD ((Ql n box label).getD i40.toNat default).toNat default).Rows).length:Int)∧(((xs.getD ((Ql n box label).getD i40.toNat default).toNat default).Rows).length:Int)≤(((xs.getD ((Ql n box label).getD i40.toNat default).toNat default).Rows).length:Int))) (ai ((AppL.mk Qt (([]:List Qq)++(((xs.getD ((Ql n box label).getD i40.toNat default).toNat default).Rows).take (oix (rowIx (xs.getD ((Ql n box label).getD i40.toNat default).toNat default) at')).toNat)) (((xs.getD ((Ql n box label).getD i40.toNat default).toNat default).Rows).drop ((oix (rowIx (xs.getD ((Ql n box label).getD i40.toNat default).toNat default) at'))+1).toNat) (Imp.refl (.l 3 Qt (([]:List Qq)++(((xs.getD ((Ql n box label).getD i40.toNat default).toNat default).Rows).take (oix (rowIx (xs.getD ((Ql n box label).getD i40.toNat default).toNat default) at')).toNat)))) ir (fun y=>⟨rfl,fun e he=>by simp only [Qt,List.mem_cons,List.not_mem_nil,or_false] at he; rcases he with rfl | rfl | rfl <;> exact ⟨_,rfl⟩⟩):AppL (.l 3 Qt (([]:List Qq)++(((xs.getD ((Ql n box label).getD i40.toNat default).toNat default).Rows).take (oix (rowIx (xs.getD ((Ql n box label).getD i40.toNat default).toNat default) at')).toNat))) (.l 3 Qt (((xs.getD ((Ql n box label).getD i40.toNat default).toNat default).Rows).drop ((oix (rowIx (xs.getD ((Ql n box label).getD i40.toNat default).toNat default) at'))+1).toNat)) 3 (.l 3 Qt ((([]:List Qq)++(((xs.getD ((Ql n box label).getD i40.toNat default).toNat default).Rows).take (oix (rowIx (xs.getD ((Ql n box label).getD i40.toNat default).toNat default) at')).toNat))++(((xs.getD ((Ql n box label).getD i40.toNat default).toNat default).Rows).drop ((oix (rowIx (xs.getD ((Ql n box label).getD i40.toNat default).toNat default) at'))+1).toNat))))) (ai ((by (try simp only [lens]); omega:(((([]:List Qq)++(((xs.getD ((Ql n box label).getD i40.toNat default).toNat default).Rows).take (oix (rowIx (xs.getD ((Ql n box label).getD i40.toNat default).toNat default) at')).toNat))++(((xs.getD ((Ql n box label).getD i40.toNat default).toNat default).Rows).drop ((oix (rowIx (xs.getD ((Ql n box label).getD i40.toNat default).toNat default) at'))+1).toNat))).length*24≤140737488355328)) (ai ((by first | omega | (simp only [lens] at*<;> omega):0≤((Ql n box label).getD i40.toNat default)∧((Ql n box label).getD i40.toNat default)<(xs.length:Int))) (ai ((SetOK.mk Qg xs (⟨((([]:List Qq)++(((xs.getD ((Ql n box label).getD i40.toNat default).toNat default).Rows).take (oix (rowIx (xs.getD ((Ql n box label).getD i40.toNat default).toNat default) at')).toNat))++(((xs.getD ((Ql n box label).getD i40.toNat default).toNat default).Rows).drop ((oix (rowIx (xs.getD ((Ql n box label).getD i40.toNat default).toNat default) at'))+1).toNat)),(xs.getD ((Ql n box label).getD i40.toNat default).toNat default).Qi⟩:Qj) rfl (by exact ai ir (ai ir (trivial))):SetOK (.l 2 Qg xs) (((Ql n box label).getD i40.toNat default)).toNat (Qg (xs.getD ((Ql n box label).getD i40.toNat default).toNat default)) [.l 3 Qt ((([]:List Qq)++(((xs.getD ((Ql n box label).getD i40.toNat default).toNat default).Rows).take (oix (rowIx (xs.getD ((Ql n box label).getD i40.toNat default).toNat default) at')).toNat))++(((xs.getD ((Ql n box label).getD i40.toNat default).toNat default).Rows).drop ((oix (rowIx (xs.getD ((Ql n box label).getD i40.toNat default).toNat default) at'))+1).toNat)),.l 3 Qu ((xs.getD ((Ql n box label).getD i40.toNat default).toNat default).Qi)] (.l 2 Qg (xs.set (((Ql n box label).getD i40.toNat default)).toNat (⟨((([]:List Qq)++(((xs.getD ((Ql n box label).getD i40.toNat default).toNat default).Rows).take (oix (rowIx (xs.getD ((Ql n box label).getD i40.toNat default).toNat default) at')).toNat))++(((xs.getD ((Ql n box label).getD i40.toNat default).toNat default).Rows).drop ((oix (rowIx (xs.getD ((Ql n box label).getD i40.toNat default).toNat default) at'))+1).toNat)),(xs.getD ((Ql n box label).getD i40.toNat default).toNat default).Qi⟩:Qj))))) (ai ((by unfold i64ok; first | omega | (simp only [lens] at*<;> omega):i64ok (i40+1))) (Exists.intro (p:=fun j:Nat×(Int×Int×List Qj)=>(fun (at'_:Int) (i40_:Int) (xs_:List Qj)=>(((.int .i64 ((((xs.getD ((Ql n box label).getD i40.toNat default).toNat default).Rows).getD (oix (rowIx (xs.getD ((Ql n box label).getD i40.toNat default).toNat default) at')).toNat default).Out):Value)=.int .i64 at'_)∧((.int .i64 (i40+1):Value)=.int .i64 i40_)∧(Imp (.l 2 Qf n.Qb) (.l 2 Qf n.Qb))∧(Imp (.l 2 Qg n.Qa) (.l 2 Qg n.Qa))∧((.slice none 0 0:Value)=.slice none 0 0)∧((.slice none 0 0:Value)=.slice none 0 0)∧(Imp (.l 2 Qf n.Qb) (.l 2 Qf n.Qb))∧(Imp (.l 2 Qg (xs.set (((Ql n box label).getD i40.toNat default)).toNat (⟨((([]:List Qq)++(((xs.getD ((Ql n box label).getD i40.toNat default).toNat default).Rows).take (oix (rowIx (xs.getD ((Ql n box label).getD i40.toNat default).toNat default) at')).toNat))++(((xs.getD ((Ql n box label).getD i40.toNat default).toNat default).Rows).drop ((oix (rowIx (xs.getD ((Ql n box label).getD i40.toNat default).toNat default) at'))+1).toNat)),(xs.getD ((Ql n box label).getD i40.toNat default).toNat default).Qi⟩:Qj))) (.l 2 Qg xs_))∧(Imp (.l 1 eInt (Ql n box label)) (.l 1 eInt (Ql n box label)))∧((runL (F23_s0 n box label) j.1 j.2=(runL (F23_s0 n box label) ((((Ql n box label).length:Int)-0).toNat+1) (label,0,n.Qa))∧Int.toNat (((Ql n box label).length:Int)-i40_)<j.1∧TearS n box label at'_ i40_ xs_∧(i40_<((Ql n box label).length:Int)→0≤(Ql n box label).getD i40_.toNat default∧(Ql n box label).getD i40_.toNat default<(n.Qa.length:Int)∧xs_.length=n.Qa.length∧0≤oix (rowIx (xs_.getD ((Ql n box label).getD i40_.toNat default).toNat default) at'_)∧(xs_.getD ((Ql n box label).getD i40_.toNat default).toNat default).Rows.length≤60)∧(0:Int)≤i40_∧xs_.length=n.Qa.length)∧j.1<i0.1))) j.2.1 j.2.2.1 j.2.2.2) (m0,((((xs.getD ((Ql n box label).getD i40.toNat default).toNat default).Rows).getD (oix (rowIx (xs.getD ((Ql n box label).getD i40.toNat default).toNat default) at')).toNat default).Out,(i40+1),(xs.set (((Ql n box label).getD i40.toNat default)).toNat (⟨((([]:List Qq)++(((xs.getD ((Ql n box label).getD i40.toNat default).toNat default).Rows).take (oix (rowIx (xs.getD ((Ql n box label).getD i40.toNat default).toNat default) at')).toNat))++(((xs.getD ((Ql n box label).getD i40.toNat default).toNat default).Rows).drop ((oix (rowIx (xs.getD ((Ql n box label).getD i40.toNat default).toNat default) at'))+1).toNat)),(xs.getD ((Ql n box label).getD i40.toNat default).toNat default).Qi⟩:Qj)))) (ai (rfl) (ai (rfl) (ai (ir) (ai (ir) (ai (rfl) (ai (rfl) (ai (ir) (ai (ir) (ai (ir) (ai (ai (runL_next hI0 (condT h5 (condF h6 (rfl)))) (ai ((by first | omega | (simp only [lens] at*<;> omega) | (exact TearS.zero (by assumption)) | (exact TearS.next (by assumption) (by assumption)) | (exact fun hi=>TearS.in_ (by first | assumption | exact TearS.zero (by assumption) | exact TearS.next (by assumption) (by assumption)) hi):Int.toNat (((Ql n box label).length:Int)-(i40+1))<m0)) (ai ((by first | omega | (simp only [lens] at*<;> omega) | (exact TearS.zero (by assumption)) | (exact TearS.next (by assumption) (by assumption)) | (exact fun hi=>TearS.in_ (by first | assumption | exact TearS.zero (by assumption) | exact TearS.next (by assumption) (by assumption)) hi):TearS n box label ((((xs.getD ((Ql n box label).getD i40.toNat default).toNat default).Rows).getD (oix (rowIx (xs.getD ((Ql n box label).getD i40.toNat default).toNat default) at')).toNat default).Out) (i40+1) (xs.set (((Ql n box label).getD i40.toNat default)).toNat (⟨((([]:List Qq)++(((xs.getD ((Ql n box label).getD i40.toNat default).toNat default).Rows).take (oix (rowIx (xs.getD ((Ql n box label).getD i40.toNat default).toNat default) at')).toNat))++(((xs.getD ((Ql n box label).getD i40.toNat default).toNat default).Rows).drop ((oix (rowIx (xs.getD ((Ql n box label).getD i40.toNat default).toNat default) at'))+1).toNat)),(xs.getD ((Ql n box label).getD i40.toNat default).toNat default).Qi⟩:Qj)))) (ai ((by first | omega | (simp only [lens] at*<;> omega) | (exact TearS.zero (by assumption)) | (exact TearS.next (by assumption) (by assumption)) | (exact fun hi=>TearS.in_ (by first | assumption | exact TearS.zero (by assumption) | exact TearS.next (by assumption) (by assumption)) hi):(i40+1)<((Ql n box label).length:Int)→0≤(Ql n box label).getD (i40+1).toNat default∧(Ql n box label).getD (i40+1).toNat default<(n.Qa.length:Int)∧(xs.set (((Ql n box label).getD i40.toNat default)).toNat (⟨((([]:List Qq)++(((xs.getD ((Ql n box label).getD i40.toNat default).toNat default).Rows).take (oix (rowIx (xs.getD ((Ql n box label).getD i40.toNat default).toNat default) at')).toNat))++(((xs.getD ((Ql n box label).getD i40.toNat default).toNat default).Rows).drop ((oix (rowIx (xs.getD ((Ql n box label).getD i40.toNat default).toNat default) at'))+1).toNat)),(xs.getD ((Ql n box label).getD i40.toNat default).toNat default).Qi⟩:Qj)).length=n.Qa.length∧0≤oix (rowIx ((xs.set (((Ql n box label).getD i40.toNat default)).toNat (⟨((([]:List Qq)++(((xs.getD ((Ql n box label).getD i40.toNat default).toNat default).Rows).take (oix (rowIx (xs.getD ((Ql n box label).getD i40.toNat default).toNat default) at')).toNat))++(((xs.getD ((Ql n box label).getD i40.toNat default).toNat default).Rows).drop ((oix (rowIx (xs.getD ((Ql n box label).getD i40.toNat default).toNat default) at'))+1).toNat)),(xs.getD ((Ql n box label).getD i40.toNat default).toNat default).Qi⟩:Qj)).getD ((Ql n box label).getD (i40+1).toNat default).toNat default) ((((xs.getD ((Ql n box label).getD i40.toNat default).toNat default).Rows).getD (oix (rowIx (xs.getD ((Ql n box label).getD i40.toNat default).toNat default) at')).toNat default).Out))∧((xs.set (((Ql n box label).getD i40.toNat default)).toNat (⟨((([]:List Qq)++(((xs.getD ((Ql n box label).getD i40.toNat default).toNat default).Rows).take (oix (rowIx (xs.getD ((Ql n box label).getD i40.toNat default).toNat default) at')).toNat))++(((xs.getD ((Ql n box label).getD i40.toNat default).toNat default).Rows).drop ((oix (rowIx (xs.getD ((Ql n box label).getD i40.toNat default).toNat default) at'))+1).toNat)),(xs.getD ((Ql n box label).getD i40.toNat default).toNat default).Qi⟩:Qj)).getD ((Ql n box label).getD (i40+1).toNat default).toNat default).Rows.length≤60)) (ai ((by first | omega | (simp only [lens] at*<;> omega) | (exact TearS.zero (by assumption)) | (exact TearS.next (by assumption) (by assumption)) | (exact fun hi=>TearS.in_ (by first | assumption | exact TearS.zero (by assumption) | exact TearS.next (by assumption) (by assumption)) hi):(0:Int)≤(i40+1))) ((by first | omega | (simp only [lens] at*<;> omega) | (exact TearS.zero (by assumption)) | (exact TearS.next (by assumption) (by assumption)) | (exact fun hi=>TearS.in_ (by first | assumption | exact TearS.zero (by assumption) | exact TearS.next (by assumption) (by assumption)) hi):(xs.set (((Ql n box label).getD i40.toNat default)).toNat (⟨((([]:List Qq)++(((xs.getD ((Ql n box label).getD i40.toNat default).toNat default).Rows).take (oix (rowIx (xs.getD ((Ql n box label).getD i40.toNat default).toNat default) at')).toNat))++(((xs.getD ((Ql n box label).getD i40.toNat default).toNat default).Rows).drop ((oix (rowIx (xs.getD ((Ql n box label).getD i40.toNat default).toNat default) at'))+1).toNat)),(xs.getD ((Ql n box label).getD i40.toNat default).toNat default).Qi⟩:Qj)).length=n.Qa.length))))))) hl0)))))))))))))))))))))))))))))) (rowIx_lt (xs.getD ((Ql n box label).getD i40.toNat default).toNat default) at'))))))))))))) (of_decide_eq_true h5)) (fun h5:(decide (i40<((Ql n box label).length:Int)))=false=>(fun _:¬ i40<((Ql n box label).length:Int)=>(fun hD0_8:(runL (F23_s0 n box label) ((((Ql n box label).length:Int)-0).toNat+1) (label,0,n.Qa))=Lp.done (at',i40,xs)=>Exists.intro (p:=fun j:List Qj=>(fun (x9_:List Qj)=>(((.slice none 0 0:Value)=.slice none 0 0)∧((.slice none 0 0:Value)=.slice none 0 0)∧(Imp (.l 2 Qf n.Qb) (.l 2 Qf n.Qb))∧(Imp (.l 2 Qg xs) (.l 2 Qg x9_))∧(F23_j0 n box label)=Lp.done j∧x9_.length=n.Qa.length∧(∀ k:Nat,(x9_.getD k default).Rows.length≤60∧(x9_.getD k default).Qi.length≤60))) j) (xs) (ai (rfl) (ai (rfl) (ai (ir) (ai (ir) (ai (Eq.symm (finD hD0_8 (rfl))) (ai ((by first | omega | (simp only [lens] at*<;> omega) | omega | exact TearS.bound (by assumption):xs.length=n.Qa.length)) ((by first | omega | (simp only [lens] at*<;> omega) | omega | exact TearS.bound (by assumption):∀ k:Nat,(xs.getD k default).Rows.length≤60∧(xs.getD k default).Qi.length≤60))))))))) (runL_done hI0 (condF h5 (rfl)))) (of_decide_eq_false h5))) (i0.1-1) i0.2.1 i0.2.2.1 i0.2.2.2 (hd1 hi0.1 hi0.2.1) (hd2 hi0.2.1) (hd3 hi0.2.1) hi0.2.2.1 hi0.2.2.2.1 hi0.2.2.2.2.1 hi0.2.2.2.2.2)) (fun (j:List Qj) (hj:(fun (x9:List Qj)=>((F23_j0 n box label)=Lp.done j∧x9.length=n.Qa.length∧(∀ k:Nat,(x9.getD k default).Rows.length≤60∧(x9.getD k default).Qi.length≤60))) j)=>(fun (x9:List Qj) (hJ0_9:(F23_j0 n box label)=Lp.done x9) (_:x9.length=n.Qa.length) (_:∀ k:Nat,(x9.getD k default).Rows.length≤60∧(x9.getD k default).Qi.length≤60)=>ai ((ai ((by first | omega | (intro k; have:=(by assumption:∀ k:Nat,(x9.getD k default).Rows.length≤60∧(x9.getD k default).Qi.length≤60) k; omega) | (intro k; have:=Qn.rows (by assumption:Qn n) k; have:=Qn.vias (by assumption:Qn n) k; omega):n.Qb.length≤1000000000)) (ai ((by first | omega | (intro k; have:=(by assumption:∀ k:Nat,(x9.getD k default).Rows.length≤60∧(x9.getD k default).Qi.length≤60) k; omega) | (intro k; have:=Qn.rows (by assumption:Qn n) k; have:=Qn.vias (by assumption:Qn n) k; omega):x9.length≤1000000000)) (ai ((by first | omega | (intro k; have:=(by assumption:∀ k:Nat,(x9.getD k default).Rows.length≤60∧(x9.getD k default).Qi.length≤60) k; omega) | (intro k; have:=Qn.rows (by assumption:Qn n) k; have:=Qn.vias (by assumption:Qn n) k; omega):∀ k:Nat,(x9.getD k default).Rows.length≤1000000000)) ((by first | omega | (intro k; have:=(by assumption:∀ k:Nat,(x9.getD k default).Rows.length≤60∧(x9.getD k default).Qi.length≤60) k; omega) | (intro k; have:=Qn.rows (by assumption:Qn n) k; have:=Qn.vias (by assumption:Qn n) k; omega):∀ k:Nat,(x9.getD k default).Qi.length≤1000000000)))))) (ai ((Imps.refl (Qr (⟨n.Qb,x9⟩:Qd)))) ((fun hF:((⟨n.Qb,x9⟩:Qd),0)=(F23 n box label)=>ai (Imp.of_eq (congrArg (fun r:Qd×Int=>Dat.l 2 Qf r.1.Qb) hF)) (ai (Imp.of_eq (congrArg (fun r:Qd×Int=>Dat.l 2 Qg r.1.Qa) hF)) (ai (congrArg (fun r:Qd×Int=>(.int .i64 r.2:Value)) hF) (trivial)))) (condF h1 (condF h2 (condF h3 (finD hJ0_9 (rfl)))))))) j hj.1 hj.2.1 hj.2.2))))))) (beqF h2))))))))) (netB_T n (notEF h1))) (netB_8 n (notEF h1))) (netB_14 n (notEF h1)))))) (by kernel_rfl)
theorem anyLoop {α τ:Type} [Inhabited α] (p:α→Bool) (xs:List α) (step:Int→Lp Int Bool) (hs:∀ k:Nat,k<xs.length→step (k:Int)=bif p (xs.getD k default) then .ret true else .next ((k:Int)+1)) (he:step (xs.length:Int)=.done (xs.length:Int)) (f:Bool→τ) (g:Int→τ) :
  (runL step (((xs.length:Int)-0).toNat+1) 0).fin f g=bif xs.any p then f true else g xs.length:=by
 rw [search (fun k=>p (xs.getD k default)) (fun _=>true) xs.length step hs he,← any_idx]
 unfold idxI
 cases first (fun k=>p (xs.getD k default)) xs.length with
 | none=>rfl
 | some k=>rw [show decide (oix (some k)≥0)=true from decide_eq_true (by simp only [oix]; omega)]; rfl
theorem comes_eq (n:Qd) (box label:Int):F68 n box label=F63 n box label:=by
 unfold F68 F63
 rw [anyLoop (fun x0=>F103 x0 box label) n.Qa _ (fun k hk=>by
  simp only [F68_s0,ltD hk,cond_true,nn]
  rw [anyLoop (fun x0=>F105 x0 box label) _ _ (fun j hj=>by
   simp only [F68_s1,nn,ltD hj,cond_true]; rfl) (by simp [F68_s1])]
  rfl) (by simp [F68_s0])]
 cases List.any _ _ <;> rfl
theorem guarding_eq (n:Qd) (box label:Int):F69 n box label=F64 n box label:=by
 unfold F69 F64
 rw [anyLoop (fun x0=>F106 x0 box label) n.Qa _ (fun k hk=>by
  simp only [F69_s0,ltD hk,cond_true,nn]
  rw [anyLoop (fun x0=>F108 x0 box label) _ _ (fun j hj=>by
   simp only [F69_s1,nn,ltD hj,cond_true]; rfl) (by simp [F69_s1])]
  rfl) (by simp [F69_s0])]
 cases List.any _ _ <;> rfl
theorem tear_eq (n:Qd) (box label:Int):F23 n box label=F22 n box label∧((netB n=false∧(F22 n box label).1=⟨[],[]⟩)∨(F22 n box label).1=n∨∃ l xs,TearI n l xs∧(F22 n box label).1=⟨n.Qb,xs⟩):=by
 unfold F23 F22
 cases hb:netB n
 ·exact ⟨rfl,.inl ⟨rfl,rfl⟩⟩
 simp only [Bool.not_true,cond_false]
 by_cases hr:0≤box∧box≤(n.Qa.length:Int)-1
 rotate_left
 ·have:Ql n box label=[]:=by unfold Ql; rw [decide_eq_false hr,Bool.and_false]; rfl
  rw [this,decide_eq_false hr]; exact ⟨rfl,.inr (.inl rfl)⟩
 rw [decide_eq_true hr]
 have hN:=netB_T n hb
 have hlp:Ql n box label=(pathRes (pathFrom n n.Qa.length box label)).1:=by unfold Ql; rw [hb,decide_eq_true hr]; rfl
 cases e:pathFrom n n.Qa.length box label with
 | none=>rw [hlp,e]; exact ⟨rfl,.inr (.inl rfl)⟩
 | some l =>
  have hl:Ql n box label=l.map (·.1):=by rw [hlp,e]; rfl
  have hne:=(path_step _ _ _ _ e).1
  have h0:¬ ((Ql n box label).length:Int)=0:=by rw [hl,List.length_map]; omega
  rw [show (((Ql n box label).length:Int)==0)=false from by simpa using h0,comes_eq]
  simp only [pathRes,Bool.not_true,cond_false]
  cases F63 n box label
  rotate_left
  ·exact ⟨rfl,.inr (.inl rfl)⟩
  simp only [cond_false]
  let Gd:Nat→Bool:=fun k=>F64 n (l.getD k default).1 (l.getD k default).2
  have hlen:(l.map (·.1)).length=l.length:=List.length_map _
  have hi0:=fun (g:Int→Qd×Int)=>search (τ:=Qd×Int) Gd (fun _=>((n,5):Qd×Int)) (l.map (·.1)).length (F22_s0 n box label) (fun k hk=>by
   have hk':k<l.length:=by rw [← hlen]; exact hk
   simp only [F22_s0,e,pathRes,ltD hk,cond_true,nn,Gd,getD_map1 _ _ hk']) (by simp [F22_s0,e,pathRes]) (fun r=>r) g
  have hi1:=runL_rule (step:=F22_s1 n box label) (fun (k:Nat) (s:List Qj)=>((k:Int),s)) l.length (fun k s=>TearI n (l.take k) s) (fun _=>False)
   (fun k s hk hI=>by
    refine .inl ⟨_,by simp only [F22_s1,e,pathRes,hlen,ltD hk,cond_true,nn,getD_map1 _ _ hk]; rfl,?_⟩
    have hx:=pathFrom_all hN _ _ _ _ hr.1 (by omega) e _ (getD_mem l hk)
    rw [show l.take (k+1)=l.take k++[l.getD k default] from by rw [List.take_add_one,List.getElem?_eq_getElem hk,getD_lt l hk]; rfl]
    refine hI.next _ _ (by omega) ?_
    rw [hI.2 _ (by omega)]
    congr 1
    refine List.filter_congr fun r _=>?_
    simp only [F66,nn,getD_map1 _ _ hk,beqD])
   (fun s _=>by simp [F22_s1,e,pathRes]) l.length 0 n.Qa (by omega) ⟨rfl,fun k _=>(tearBox_nil n k).symm⟩ (l.length+1) (Nat.lt_succ_self _)
  have hs:=runL_rule (step:=F23_s0 n box label) (fun (k:Nat) (s:Int×List Qj)=>(s.1,(k:Int),s.2)) l.length (fun k s=>TearS n box label s.1 (k:Int) s.2∧∀ j,j<k→Gd j=false) (fun r=>r=(n,5)∧∃ j,j<l.length∧Gd j=true)
   (fun k s hk ⟨hI,hG⟩=>by
    have hkl:(k:Int)<((Ql n box label).length:Int):=by rw [hl,hlen]; omega
    obtain ⟨net,_,_,_,l',e1,e2,e3,e4⟩:=id hI
    have el:l'=l:=by rw [e] at e2; exact (Option.some.inj e2).symm
    subst el
    have ea:=e4 (by omega)
    simp only [nn] at ea
    have ep:(Ql n box label).getD k default=(l'.getD k default).1:=by rw [hl]; exact getD_map1 _ _ hk
    cases hg:Gd k with
    | true=>exact .inr ⟨(n,5),by simp only [F23_s0,decide_eq_true hkl,cond_true,nn,guarding_eq,ep,ea]; rw [show F64 n (l'.getD k default).1 (l'.getD k default).2=true from hg]; rfl,rfl,k,hk,hg⟩
    | false =>
     refine .inl ⟨(_,_),?_,⟨TearS.next hI hkl,fun j hj=>?_⟩⟩
     ·simp only [F23_s0,decide_eq_true hkl,cond_true,nn,guarding_eq,ep]
      rw [show F64 n (l'.getD k default).1 s.1=false from by rw [ea]; exact hg]
      rfl
     ·by_cases hjk:j<k
      ·exact hG j hjk
      ·have:j=k:=by omega
       rw [this]; exact hg)
   (fun s _=>by simp [F23_s0,hl]) l.length 0 (label,n.Qa) (by omega) ⟨TearS.zero h0,fun j hj=>by omega⟩ (l.length+1) (Nat.lt_succ_self _)
  rw [hi0,hlen]
  have hn:Int.toNat (((Ql n box label).length:Int)-0)+1=l.length+1:=by rw [hl,hlen]; omega
  have hn2:Int.toNat ((l.length:Int)-0)+1=l.length+1:=by omega
  unfold F23_j0
  rw [hn]
  rcases hs with ⟨⟨a,xs⟩,h1,h2,h3⟩ | ⟨r,h1,hr',j,hj,hg⟩
  ·rw [first_none.2 h3]
   rw [show ((label,(0:Int),n.Qa):Int×Int×List Qj)=(label,((0:Nat):Int),n.Qa) from rfl,h1]
   rcases hi1 with ⟨ys,g1,g2⟩ | ⟨_,_,hf⟩
   ·simp only [hn2]
    rw [show ((0:Int),n.Qa)=(((0:Nat):Int),n.Qa) from rfl,g1]
    obtain ⟨net,_,_,_,l',e1,e2,e3,e4⟩:=h2
    have el:l'=l:=by rw [e] at e2; exact (Option.some.inj e2).symm
    subst el
    have:=TearI.uniq e3 g2
    simp only at this
    subst this
    exact ⟨rfl,.inr (.inr ⟨_,_,g2,rfl⟩)⟩
   ·exact hf.elim
  ·rw [show ((label,(0:Int),n.Qa):Int×Int×List Qj)=(label,((0:Nat):Int),n.Qa) from rfl,h1,hr']
   cases e3:first Gd l.length with
   | none=>rw [first_none.1 e3 j hj] at hg; cases hg
   | some k=>exact ⟨rfl,.inr (.inl rfl)⟩
theorem BoxOk.of_pair {n:Qd} {i:Nat} (h1:∀ r∈(n.Qa.getD i default).Rows,rowOk n i r) (h2:(n.Qa.getD i default).Rows.Pairwise (fun a b=>a.In<b.In)) (h3:∀ k,k<(n.Qa.getD i default).Qi.length→viaOk n i ((n.Qa.getD i default).Qi.getD k default))
  (h4:∀ k,k+1<(n.Qa.getD i default).Qi.length→((n.Qa.getD i default).Qi.getD k default).To<((n.Qa.getD i default).Qi.getD (k+1) default).To):BoxOk n i :=
 ⟨fun k hk=>h1 _ (getD_mem _ hk),fun k hk=>by
  have:=List.pairwise_iff_getElem.1 h2 k (k+1) (by omega) hk (by omega)
  rw [getD_lt _ hk,getD_lt _ (by omega:k<_)]; exact this,h3,h4⟩
theorem BoxOk.mem {n:Qd} {i:Nat} (h:BoxOk n i):∀ r∈(n.Qa.getD i default).Rows,rowOk n i r:=fun r hr=>by
 obtain ⟨k,hk,rfl⟩:=mem_getD hr
 exact h.row k hk
theorem tear_net {n:Qd} (h:Qn n) {l:List (Int×Int)} {xs:List Qj} (hT:TearI n l xs):Qn ⟨n.Qb,xs⟩:=by
 have hlk:∀ a b:Int,Qh (⟨n.Qb,xs⟩:Qd) a b=Qh n a b:=fun _ _=>rfl
 refine ⟨?_,fun i hi=>?_⟩
 ·have hf:=h.frame
  refine ⟨by show 1≤xs.length; rw [hT.1]; exact hf.b1,by show xs.length≤8; rw [hT.1]; exact hf.b8,hf.l14,fun k hk=>?_,hf.inc⟩
  have:=hf.ab k hk
  refine ⟨this.1,this.2.1,?_⟩
  show _<(xs.length:Int)
  rw [hT.1]; exact this.2.2
 ·have hi':i<n.Qa.length:=by have:=hT.1; have h2:i<xs.length:=hi; omega
  have e:(⟨n.Qb,xs⟩:Qd).Qa.getD i default=tearBox n l i:=hT.2 i hi'
  have hb:=h.box i hi'
  refine BoxOk.of_pair ?_ ?_ ?_ ?_
  ·rw [e]
   intro r hr
   exact hb.mem r (List.mem_filter.1 hr).1
  ·rw [e]
   exact (inc_pair _ (fun r:Qq=>r.In) hb.rinc).filter _
  ·rw [e]; exact hb.via
  ·rw [e]; exact hb.vinc
def labTear (n:Qd) (box label:Int):Qd×Int:=F22 n box label
theorem as23 (n:Qd) (box label:Int):F23 n box label=labTear n box label:=(tear_eq n box label).1
theorem labTear_l (n:Qd) (box label:Int):(labTear n box label).2=0→(labTear n box label).1.Qa.length=n.Qa.length:=by
 intro h0
 rcases (tear_eq n box label).2 with ⟨h1,_⟩ | h1 | ⟨l,xs,h1,h2⟩
 ·exfalso
  unfold labTear F22 at h0
  rw [h1] at h0
  simp at h0
 ·unfold labTear; rw [h1]
 ·unfold labTear; rw [h2]; exact h1.1
theorem labTear_net (n:Qd) (box label:Int) (h:Qn n):Qn (labTear n box label).1:=by
 rcases (tear_eq n box label).2 with ⟨h1,_⟩ | h1 | ⟨l,xs,h1,h2⟩
 ·rw [netB_ok.2 h] at h1; cases h1
 ·unfold labTear; rw [h1]; exact h
 ·unfold labTear; rw [h2]; exact tear_net h h1
def negs (xs:List Int):Nat:=xs.countP (fun x=>decide (x<0))
theorem negs_set {xs:List Int} {k:Nat} {v:Int} (hk:k<xs.length) (h:xs.getD k default<0) (hv:0≤v):negs (xs.set k v)+1=negs xs:=by
 induction xs generalizing k with
 | nil=>simp at hk
 | cons x xs ih =>
  cases k with
  | zero =>
   have h:x<0:=h
   have h':¬ v<0:=by omega
   simp [negs,List.countP_cons,h,h']
  | succ k =>
   have:=ih (k:=k) (by simpa using hk) (by simpa using h)
   simp only [negs,List.set_cons_succ,List.countP_cons] at this ⊢
   omega
theorem negs_rep (n:Nat):negs (List.replicate n (-1))=n:=by
 simp [negs,List.countP_replicate]
theorem rep_get (n k:Nat) (h:k<n):(List.replicate n (-1:Int)).getD k default=-1:=by
 rw [List.getD_eq_getElem?_getD,List.getElem?_replicate,if_pos h]; rfl
def FillI (xs:List Int) (i:Int):Prop:=∀ k:Nat,(k:Int)<i→xs.getD k default=-1
theorem FillI.zero (xs:List Int):FillI xs 0:=fun k hk=>by omega
theorem FillI.next {xs:List Int} {i:Int} (h:FillI xs i) (h0:0≤i) (hl:i<(xs.length:Int)):FillI (xs.set i.toNat (-1)) (i+1):=fun k hk=>by
 by_cases e:k=Int.toNat i
 ·subst e
  exact getD_set_eq _ _ _ (by omega)
 ·rw [getD_set_ne _ _ _ _ e]
  exact h k (by omega)
theorem FillI.done {xs:List Int} {i:Int} {n:Nat} (h:FillI xs i) (hl:xs.length=n) (hi:¬ i<(n:Int)):xs=List.replicate n (-1):=by
 subst hl
 refine list_eq_of_getD (by simp) fun k hk=>?_
 rw [h k (by omega),rep_get _ _ hk]
structure FI (len:Nat) (xs queue:List Int):Prop where
 ln:xs.length=len
 q:∀ x∈queue,0≤x∧x<(len:Int)∧0≤xs.getD x.toNat default
 up:∀ k,k<len→-1≤xs.getD k default∧xs.getD k default+(negs xs:Int)+1≤(len:Int)
theorem FI.init {len:Nat} {b:Int} (h0:0≤b) (h1:b<(len:Int)):FI len ((List.replicate len (-1)).set b.toNat 0) [b]∧negs ((List.replicate len (-1)).set b.toNat 0)+1=len:=by
 have hl:Int.toNat b<(List.replicate len (-1:Int)).length:=by simp; omega
 have hn:=negs_set (v:=0) hl (by rw [rep_get _ _ (by omega)]; decide) (by omega)
 rw [negs_rep] at hn
 refine ⟨⟨by simp,fun x hx=>?_,fun k hk=>?_⟩,hn⟩
 ·rw [List.mem_singleton.1 hx]
  exact ⟨h0,h1,by rw [getD_set_eq _ _ _ hl]; omega⟩
 ·by_cases e:k=Int.toNat b
  ·subst e
   rw [getD_set_eq _ _ _ hl]; omega
  ·rw [getD_set_ne _ _ _ _ e,rep_get _ _ hk]; omega
theorem FI.head {len:Nat} {xs queue:List Int} (h:FI len xs queue) (hq:(queue.length:Int)>0):0≤queue.getD (Int.toNat 0) default∧queue.getD (Int.toNat 0) default<(len:Int)∧0≤xs.getD (queue.getD (Int.toNat 0) default).toNat default :=
 h.q _ (getD_mem _ (by omega))
theorem FI.tail {len:Nat} {xs queue:List Int} (h:FI len xs queue):FI len xs (queue.drop (Int.toNat 1)):=⟨h.ln,fun x hx=>h.q x (List.mem_of_mem_drop hx),h.up⟩
theorem FI.val {len:Nat} {xs queue:List Int} (h:FI len xs queue) (h8:len≤8) {b:Int} (h0:0≤b) (h1:b<(len:Int)):IntKind.i64.wrap (xs.getD b.toNat default+1)=xs.getD b.toNat default+1:=by
 have:=h.up b.toNat (by omega)
 exact wrap_of (by omega) (by omega)
theorem FI.next {len:Nat} {xs queue:List Int} (h:FI len xs queue) (h8:len≤8) {b v:Int} (h0:0≤b) (h1:b<(len:Int)) (hb:0≤xs.getD b.toNat default) (v0:0≤v) (v1:v<(len:Int)) (hv:xs.getD v.toNat default<0) :
  FI len (xs.set v.toNat (IntKind.i64.wrap (xs.getD b.toNat default+1))) (queue++[v])∧negs (xs.set v.toNat (IntKind.i64.wrap (xs.getD b.toNat default+1)))+1=negs xs∧0≤(xs.set v.toNat (IntKind.i64.wrap (xs.getD b.toNat default+1))).getD b.toNat default:=by
 rw [h.val h8 h0 h1]
 have hl:Int.toNat v<xs.length:=by rw [h.ln]; omega
 have hn:=negs_set (v:=xs.getD b.toNat default+1) hl hv (by omega)
 have hvb:Int.toNat b≠Int.toNat v:=fun e=>by rw [e] at hb; omega
 have hbu:=(h.up b.toNat (by omega)).2
 refine ⟨⟨by simp [h.ln],fun x hx=>?_,fun k hk=>?_⟩,hn,by rw [getD_set_ne _ _ _ _ hvb]; exact hb⟩
 ·rcases List.mem_append.1 hx with hx | hx
  ·obtain ⟨a1,a2,a3⟩:=h.q x hx
   refine ⟨a1,a2,?_⟩
   rw [getD_set_ne _ _ _ _ fun e=>by rw [e] at a3; omega]
   exact a3
  ·rw [List.mem_singleton.1 hx]
   exact ⟨v0,v1,by rw [getD_set_eq _ _ _ hl]; omega⟩
 ·have hk':=h.up k hk
  by_cases e:k=Int.toNat v
  ·subst e
   rw [getD_set_eq _ _ _ hl]; omega
  ·rw [getD_set_ne _ _ _ _ e]; omega
def adj (n:Qd) (w i j:Int):Prop:=0≤Qh n i j∧Qh n i j≠w
theorem adj_comm {n:Qd} {w i j:Int} (h:adj n w i j):adj n w j i:=by
 unfold adj at *; rw [linkOf_comm n j i]; exact h
structure IsDist (n:Qd) (b w:Int) (f:List Int):Prop where
 ln:f.length=n.Qa.length
 b0:f.getD b.toNat default=0
 low:∀ k,k<n.Qa.length→-1≤f.getD k default
 pred:∀ k:Nat,k<n.Qa.length→0<f.getD k default→∃ j:Nat,j<n.Qa.length∧adj n w j k∧f.getD j default=f.getD k default-1
 zero:∀ k:Nat,k<n.Qa.length→f.getD k default=0→(k:Int)=b
 clos:∀ j k:Nat,j<n.Qa.length→k<n.Qa.length→adj n w j k→0≤f.getD j default→0≤f.getD k default∧f.getD k default≤f.getD j default+1
theorem IsDist.le {n:Qd} {b w:Int} {f g:List Int} (hf:IsDist n b w f) (hg:IsDist n b w g):∀ (d k:Nat),k<n.Qa.length→f.getD k default=(d:Int)→0≤g.getD k default∧g.getD k default≤(d:Int)
 | 0,k,hk,e=>by
  have:=hf.zero k hk (by simpa using e)
  have h2:=hg.b0
  rw [← this,nn] at h2
  omega
 | d+1,k,hk,e=>by
  obtain ⟨j,hj,ha,hjd⟩:=hf.pred k hk (by omega)
  have h1:=IsDist.le hf hg d j hj (by omega)
  have h2:=hg.clos j k hj hk ha h1.1
  omega
theorem IsDist.unique {n:Qd} {b w:Int} {f g:List Int} (hf:IsDist n b w f) (hg:IsDist n b w g):f=g:=by
 refine list_eq_of_getD (hf.ln.trans hg.ln.symm) fun k hk=>?_
 rw [hf.ln] at hk
 have l1:=hf.low k hk; have l2:=hg.low k hk
 rcases Int.lt_or_le (f.getD k default) 0 with h | h
 ·rcases Int.lt_or_le (g.getD k default) 0 with h' | h'
  ·omega
  ·have:=IsDist.le hg hf (g.getD k default).toNat k hk (by omega); omega
 ·have a:=IsDist.le hf hg (f.getD k default).toNat k hk (by omega)
  have b:=IsDist.le hg hf (g.getD k default).toNat k hk (by omega)
  omega
theorem link_in {n:Qd} (h:FrameOk n) {i:Int} (h0:0≤i) (h1:i<(n.Qb.length:Int)):0≤(n.Qb.getD i.toNat default).A∧(n.Qb.getD i.toNat default).A<(n.Qa.length:Int)∧0≤(n.Qb.getD i.toNat default).B∧(n.Qb.getD i.toNat default).B<(n.Qa.length:Int):=by
 have:=h.ab i.toNat (by omega); omega
end Go.Proofs.Ytmiolofjlfnohaa
