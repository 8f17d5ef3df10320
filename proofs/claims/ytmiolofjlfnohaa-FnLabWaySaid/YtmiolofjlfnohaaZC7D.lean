/- A part of the proof of FnLabWay. Texts put together: VW1, PW2, PW3, VW2, PW4, VL1, PL1, PL2, VL2, PL3, VL3, PL4, VG0, PG1. -/
import Derived.Test.YtmiolofjlfnohaaRows
import Derived.Test.YtmiolofjlfnohaaZC7C
namespace Go.Proofs.Ytmiolofjlfnohaa
open Go.RowKit
set_option maxRecDepth 100000
set_option linter.unusedVariables false
set_option linter.unusedSimpArgs false
theorem oa23 (n:Qd) (box:Int) (label:Int):(S23 (labTear n box label) n box label).ok Try.prog 23:=by
 intro hp; have h:=ok23 n box label hp; rw [as23 n box label] at h; exact h
def F42 (n:Qd) (a:Int) (b:Int) (Qe:Int):Bool :=
 (bif decide ((Qh n a b)≥0) then ((Qh n a b) != Qe) else false)
def S42 (R:Bool) (n:Qd) (a:Int) (b:Int) (Qe:Int):Spec:=⟨[.r (.g (Qr n)),.r (.c (.v (vI a))),.r (.c (.v (vI b))),.r (.c (.v (vI Qe)))],.v (.bool R),FrameOk n⟩
theorem ok42 (n:Qd) (a:Int) (b:Int) (Qe:Int):(S42 (F42 n a b Qe) n a b Qe).ok Try.prog 42 :=
 fnG_ok mixed (fn:=Try.f42) (ct:=.seq (.no) (.seq (.reg [(3,.call 50 (T50 (Qh n a b) n a b) (oa50 n a b) none)]) (.seq (.no) (.no)))) Try.func42 (fun (hpre0:FrameOk n)=>ai (((by first | assumption | exact Qn.frame (by assumption):FrameOk n))) (ai ((Imps.refl (Qr n))) (ai ((Imp.refl (.v (vI a)))) (ai ((Imp.refl (.v (vI b)))) ((fun hF:((bif decide ((Qh n a b)≥0) then ((Qh n a b) != Qe) else false):Bool)=(F42 n a b Qe)=>ai (congrArg (fun r:Bool=>(.bool r:Value)) hF) (trivial)) (rfl)))))) (by kernel_rfl)
theorem as42 (n:Qd) (a:Int) (b:Int) (Qe:Int):F42 n a b Qe=(decide (0≤Qh n a b∧Qh n a b≠Qe)):=by
 simp only [F42,bandd,neI,Bool.decide_and,geleD,decide_not,ne_eq]
theorem oa42 (n:Qd) (a:Int) (b:Int) (Qe:Int):(S42 (decide (0≤Qh n a b∧Qh n a b≠Qe)) n a b Qe).ok Try.prog 42:=by
 intro hp; have h:=ok42 n a b Qe hp; rw [as42 n a b Qe] at h; exact h
def F41_s0 (n:Qd) (to':Int) (Qe:Int):(Int×List Int)→Lp (Int×List Int) (List Int):=fun (v18,xs) =>
 bif (decide (v18<((List.replicate (n.Qa.length:Int).toNat (0:Int)).length:Int))) then (.next ((v18+1),(xs.set (v18).toNat (-1)))) else (.done (v18,xs))
def F41_j0 (n:Qd) (to':Int) (Qe:Int):Lp (List Int) (List Int) :=
 (runL (F41_s0 n to' Qe) ((((List.replicate (n.Qa.length:Int).toNat (0:Int)).length:Int)-0).toNat+1) (0,(List.replicate (n.Qa.length:Int).toNat (0:Int)))).fin Lp.ret (fun (v18,xs)=>.done xs)
def F41_s2 (n:Qd) (to':Int) (Qe:Int) (far:List Int) (queue:List Int) (xs1:List Int):(List Int×Int×List Int)→Lp (List Int×Int×List Int) (List Int):=fun (queue1,v40,xs2) =>
 bif (decide (v40<(xs1.length:Int))) then (bif (bif decide ((xs2.getD v40.toNat default)<0) then (decide (0≤Qh n (queue.getD (Int.toNat 0) default) v40∧Qh n (queue.getD (Int.toNat 0) default) v40≠Qe)) else false) then (.next ((queue1++[v40]),(v40+1),(xs2.set (v40).toNat (IntKind.i64.wrap ((xs2.getD (queue.getD (Int.toNat 0) default).toNat default)+1))))) else (.next (queue1,(v40+1),xs2))) else (.done (queue1,v40,xs2))
def F41_s1 (n:Qd) (to':Int) (Qe:Int) (far:List Int):(List Int×List Int)→Lp (List Int×List Int) (List Int):=fun (queue,xs1) =>
 bif (decide ((queue.length:Int)>0)) then ((runL (F41_s2 n to' Qe far queue xs1) (((xs1.length:Int)-0).toNat+1) ((queue.drop (Int.toNat 1)),0,xs1)).fin Lp.ret (fun (queue1,v40,xs2)=>.next (queue1,xs2))) else (.done (queue,xs1))
def F41 (n:Qd) (to':Int) (Qe:Int):List Int :=
 (F41_j0 n to' Qe).fin (fun r=>r) (fun far=>(runL (F41_s1 n to' Qe far) ((([to']:List Int).length+negs (far.set (to').toNat 0))+1) (([to']:List Int),(far.set (to').toNat 0))).fin (fun r=>r) (fun (queue,xs1)=>xs1))
def S41 (R:List Int) (n:Qd) (to':Int) (Qe:Int):Spec:=⟨[.r (.g (Qr n)),.r (.c (.v (vI to'))),.r (.c (.v (vI Qe)))],.ow (.l 1 eInt R),FrameOk n∧0≤to'∧to'<(n.Qa.length:Int)∧n.Qa.length≤8⟩
theorem ok41 (n:Qd) (to':Int) (Qe:Int):(S41 (F41 n to' Qe) n to' Qe).ok Try.prog 41 :=
 fnG_ok mixed (fn:=Try.f41) (ct:=.seq (.no) (.seq (.reg [(3,.dat (.l 1 eInt (List.replicate (n.Qa.length:Int).toNat (0:Int))))]) (.cut (ι:=List Int) (fun j=>(fun (far:List Int)=>(⟨[(1,some (.v (vI to'))),(2,some (.v (vI Qe))),(3,some (.p 0 0)),(7,some (.h 3 0))],[(0,some (.box 26 [.h 1 0,.h 2 0])),(1,some (.shr none (.l 2 Qf n.Qb))),(2,some (.shr none (.l 2 Qg n.Qa))),(3,some (.own 3 (.l 1 eInt far)))],4⟩:St)) j) (fun j=>(fun (far:List Int)=>((F41_j0 n to' Qe)=Lp.done j∧far=List.replicate n.Qa.length (-1)∧far.length=n.Qa.length)) j) (.seqk [(7,0)] (.no) (.blk (.loop (ι:=Nat×(Int×List Int)) (fun i=>(fun (v18:Int) (xs:List Int)=>(⟨[(1,some (.v (vI to'))),(2,some (.v (vI Qe))),(3,some (.p 0 0)),(7,some (.h 3 0)),(17,some (.v (vI ((List.replicate (n.Qa.length:Int).toNat (0:Int)).length:Int)))),(18,some (.v (vI v18)))],[(0,some (.box 26 [.h 1 0,.h 2 0])),(1,some (.shr none (.l 2 Qf n.Qb))),(2,some (.shr none (.l 2 Qg n.Qa))),(3,some (.own 3 (.l 1 eInt xs)))],4⟩:St)) i.2.1 i.2.2) (fun i=>runL (F41_s0 n to' Qe) i.1 i.2=(runL (F41_s0 n to' Qe) ((((List.replicate (n.Qa.length:Int).toNat (0:Int)).length:Int)-0).toNat+1) (0,(List.replicate (n.Qa.length:Int).toNat (0:Int))))∧(fun (v18:Int) (xs:List Int)=>(Int.toNat (((List.replicate (n.Qa.length:Int).toNat (0:Int)).length:Int)-v18)<i.1∧FillI xs v18∧(0:Int)≤v18∧xs.length=(List.replicate (n.Qa.length:Int).toNat (0:Int)).length)) i.2.1 i.2.2) (fun i=>i.1) (((((List.replicate (n.Qa.length:Int).toNat (0:Int)).length:Int)-0).toNat+1),(0,(List.replicate (n.Qa.length:Int).toNat (0:Int)))) (fun i=>(fun (v18:Int) (xs:List Int)=>(.seq (.no) (.seq (.cond (.no) (.no)) (.seq (.blk (.seq (.no) (.reg [(3,.dat (.l 1 eInt (xs.set (v18).toNat (-1))))]))) (.reg [(0,.bnd)]))))) i.2.1 i.2.2)))) (fun j=>(fun (far:List Int)=>(.seq (.reg [(3,.dat (.l 1 eInt (far.set (to').toNat 0)))]) (.seqk [(3,0),(3,1),(7,0),(9,0)] (.reg [(1,.dat (.l 1 eInt ([to']:List Int)))]) (.seq (.blk (.loop (ι:=Nat×(List Int×List Int)) (fun i=>(fun (queue:List Int) (xs1:List Int)=>(⟨[(2,some (.v (vI Qe))),(3,some (.p 0 0)),(7,some (.h 3 0)),(9,some (.h 4 0))],[(0,some (.box 26 [.h 1 0,.h 2 0])),(1,some (.shr none (.l 2 Qf n.Qb))),(2,some (.shr none (.l 2 Qg n.Qa))),(3,some (.own 3 (.l 1 eInt xs1))),(4,some (.own 4 (.l 1 eInt queue)))],5⟩:St)) i.2.1 i.2.2) (fun i=>runL (F41_s1 n to' Qe far) i.1 i.2=(runL (F41_s1 n to' Qe far) ((([to']:List Int).length+negs (far.set (to').toNat 0))+1) (([to']:List Int),(far.set (to').toNat 0)))∧(fun (queue:List Int) (xs1:List Int)=>(queue.length+negs xs1<i.1∧FI n.Qa.length xs1 queue∧queue.length+negs xs1≤n.Qa.length∧xs1.length=n.Qa.length∧xs1.length=(far.set (to').toNat 0).length)) i.2.1 i.2.2) (fun i=>i.1) (((([to']:List Int).length+negs (far.set (to').toNat 0))+1),(([to']:List Int),(far.set (to').toNat 0))) (fun i=>(fun (queue:List Int) (xs1:List Int)=>(.seq (.seq (.no) (.cond (.no) (.no))) (.blk (.seq (.no) (.seq (.reg [(1,.own)]) (.seqk [(3,0),(3,1),(7,0),(9,0)] (.no) (.blk (.loop (ι:=Nat×(List Int×Int×List Int)) (fun i=>(fun (queue1:List Int) (v40:Int) (xs2:List Int)=>(⟨[(2,some (.v (vI Qe))),(3,some (.p 0 0)),(7,some (.h 3 0)),(9,some (.h 4 0)),(10,some (.v (vI (queue.getD (Int.toNat 0) default)))),(39,some (.v (vI (xs1.length:Int)))),(40,some (.v (vI v40)))],[(0,some (.box 26 [.h 1 0,.h 2 0])),(1,some (.shr none (.l 2 Qf n.Qb))),(2,some (.shr none (.l 2 Qg n.Qa))),(3,some (.own 3 (.l 1 eInt xs2))),(4,some (.own 4 (.l 1 eInt queue1)))],5⟩:St)) i.2.1 i.2.2.1 i.2.2.2) (fun i=>runL (F41_s2 n to' Qe far queue xs1) i.1 i.2=(runL (F41_s2 n to' Qe far queue xs1) (((xs1.length:Int)-0).toNat+1) ((queue.drop (Int.toNat 1)),0,xs1))∧(fun (queue1:List Int) (v40:Int) (xs2:List Int)=>(Int.toNat ((xs1.length:Int)-v40)<i.1∧FI n.Qa.length xs2 queue1∧queue1.length+negs xs2+1=queue.length+negs xs1∧(0≤queue.getD (Int.toNat 0) default∧queue.getD (Int.toNat 0) default<(n.Qa.length:Int)∧0≤xs2.getD (queue.getD (Int.toNat 0) default).toNat default)∧xs2.length=n.Qa.length∧(0:Int)≤v40∧xs2.length=xs1.length)) i.2.1 i.2.2.1 i.2.2.2) (fun i=>i.1) ((((xs1.length:Int)-0).toNat+1),((queue.drop (Int.toNat 1)),0,xs1)) (fun i=>(fun (queue1:List Int) (v40:Int) (xs2:List Int)=>(.seq (.no) (.seq (.cond (.no) (.no)) (.seq (.blk (.seq (.no) (.seq (.reg [(10,.call 42 (S42 (decide (0≤Qh n (queue.getD (Int.toNat 0) default) v40∧Qh n (queue.getD (Int.toNat 0) default) v40≠Qe)) n (queue.getD (Int.toNat 0) default) v40 Qe) (oa42 n (queue.getD (Int.toNat 0) default) v40 Qe) none)]) (.cond (.seq (.reg [(8,.dat (.l 1 eInt (xs2.set (v40).toNat (IntKind.i64.wrap ((xs2.getD (queue.getD (Int.toNat 0) default).toNat default)+1)))))]) (.reg [(3,.dat (.l 1 eInt (queue1++[v40])))])) (.no))))) (.reg [(0,.bnd)]))))) i.2.1 i.2.2.1 i.2.2.2))))))))) i.2.1 i.2.2))) (.seq (.no) (.no)))))) j)))) Try.func41 (fun (hp:FrameOk n∧0≤to'∧to'<(n.Qa.length:Int)∧n.Qa.length≤8)=>(fun (hpre0:FrameOk n) (hpre1:0≤to') (hpre2:to'<(n.Qa.length:Int)) (hpre3:n.Qa.length≤8)=>ai ((by first | omega | (simp only [lens] at*<;> omega):0≤(n.Qa.length:Int)∧(n.Qa.length:Int)≤(n.Qa.length:Int)∧(8:Int)*(n.Qa.length:Int)≤281474976710656)) (ai ((MakeOK.mk eInt (0:Int) (by exact ai ir (trivial)):MakeOK 1 [.v (vI 0)] (n.Qa.length:Int).toNat (.l 1 eInt (List.replicate (n.Qa.length:Int).toNat (0:Int))))) (ai (fun (_:(List.replicate (n.Qa.length:Int).toNat (0:Int)).length≤9223372036854775807)=>ai (ai (rfl) (ai (rfl) (ai (rfl) (ai (rfl) (ai (ir) (ai (ir) (ai (ir) ((ai (rfl:runL (F41_s0 n to' Qe) ((((List.replicate (n.Qa.length:Int).toNat (0:Int)).length:Int)-0).toNat+1) (0,(List.replicate (n.Qa.length:Int).toNat (0:Int)))=(runL (F41_s0 n to' Qe) ((((List.replicate (n.Qa.length:Int).toNat (0:Int)).length:Int)-0).toNat+1) (0,(List.replicate (n.Qa.length:Int).toNat (0:Int))))) (ai ((Nat.lt_succ_self _:Int.toNat (((List.replicate (n.Qa.length:Int).toNat (0:Int)).length:Int)-0)<((((List.replicate (n.Qa.length:Int).toNat (0:Int)).length:Int)-0).toNat+1))) (ai ((by first | omega | (simp only [lens] at*<;> omega) | exact FillI.zero _ | exact FillI.next (by assumption) (by omega) (by simp only [lens] at *; omega):FillI (List.replicate (n.Qa.length:Int).toNat (0:Int)) 0)) (ai ((by first | omega | (simp only [lens] at*<;> omega) | exact FillI.zero _ | exact FillI.next (by assumption) (by omega) (by simp only [lens] at *; omega):(0:Int)≤0)) ((by first | omega | (simp only [lens] at*<;> omega) | exact FillI.zero _ | exact FillI.next (by assumption) (by omega) (by simp only [lens] at *; omega):(List.replicate (n.Qa.length:Int).toNat (0:Int)).length=(List.replicate (n.Qa.length:Int).toNat (0:Int)).length))))))))))))):((.int .i64 to':Value)=.int .i64 to')∧((.int .i64 Qe:Value)=.int .i64 Qe)∧((.int .i64 ((List.replicate (n.Qa.length:Int).toNat (0:Int)).length:Int):Value)=.int .i64 ((List.replicate (n.Qa.length:Int).toNat (0:Int)).length:Int))∧((.int .i64 0:Value)=.int .i64 0)∧(Imp (.l 2 Qf n.Qb) (.l 2 Qf n.Qb))∧(Imp (.l 2 Qg n.Qa) (.l 2 Qg n.Qa))∧(Imp (.l 1 eInt (List.replicate (n.Qa.length:Int).toNat (0:Int))) (.l 1 eInt (List.replicate (n.Qa.length:Int).toNat (0:Int))))∧(runL (F41_s0 n to' Qe) ((((List.replicate (n.Qa.length:Int).toNat (0:Int)).length:Int)-0).toNat+1) (0,(List.replicate (n.Qa.length:Int).toNat (0:Int)))=(runL (F41_s0 n to' Qe) ((((List.replicate (n.Qa.length:Int).toNat (0:Int)).length:Int)-0).toNat+1) (0,(List.replicate (n.Qa.length:Int).toNat (0:Int))))∧Int.toNat (((List.replicate (n.Qa.length:Int).toNat (0:Int)).length:Int)-0)<((((List.replicate (n.Qa.length:Int).toNat (0:Int)).length:Int)-0).toNat+1)∧FillI (List.replicate (n.Qa.length:Int).toNat (0:Int)) 0∧(0:Int)≤0∧(List.replicate (n.Qa.length:Int).toNat (0:Int)).length=(List.replicate (n.Qa.length:Int).toNat (0:Int)).length)) (fun (i0:Nat×(Int×List Int)) (hi0:runL (F41_s0 n to' Qe) i0.1 i0.2=(runL (F41_s0 n to' Qe) ((((List.replicate (n.Qa.length:Int).toNat (0:Int)).length:Int)-0).toNat+1) (0,(List.replicate (n.Qa.length:Int).toNat (0:Int))))∧(fun (v18:Int) (xs:List Int)=>(Int.toNat (((List.replicate (n.Qa.length:Int).toNat (0:Int)).length:Int)-v18)<i0.1∧FillI xs v18∧(0:Int)≤v18∧xs.length=(List.replicate (n.Qa.length:Int).toNat (0:Int)).length)) i0.2.1 i0.2.2)=>(fun (m0:Nat) (v18:Int) (xs:List Int) (hI0:runL (F41_s0 n to' Qe) (m0+1) (v18,xs)=(runL (F41_s0 n to' Qe) ((((List.replicate (n.Qa.length:Int).toNat (0:Int)).length:Int)-0).toNat+1) (0,(List.replicate (n.Qa.length:Int).toNat (0:Int))))) (_:Int.toNat (((List.replicate (n.Qa.length:Int).toNat (0:Int)).length:Int)-v18)<m0+1) (hl0:m0<i0.1) (_:FillI xs v18) (_:(0:Int)≤v18) (_:xs.length=(List.replicate (n.Qa.length:Int).toNat (0:Int)).length)=>ai (fun h2:(decide (v18<((List.replicate (n.Qa.length:Int).toNat (0:Int)).length:Int)))=true=>(fun _:v18<((List.replicate (n.Qa.length:Int).toNat (0:Int)).length:Int)=>ai ((by first | omega | (simp only [lens] at*<;> omega):0≤v18∧v18<(xs.length:Int))) (ai ((SetOK.mk eInt xs (-1) rfl (by exact ai ir (trivial)):SetOK (.l 1 eInt xs) (v18).toNat (eInt (xs.getD v18.toNat default)) [.v (vI (-1))] (.l 1 eInt (xs.set (v18).toNat (-1))))) (ai ((by unfold i64ok; first | omega | (simp only [lens] at*<;> omega):i64ok (v18+1))) (Exists.intro (p:=fun j:Nat×(Int×List Int)=>(fun (v18_:Int) (xs_:List Int)=>(((.int .i64 to':Value)=.int .i64 to')∧((.int .i64 Qe:Value)=.int .i64 Qe)∧((.int .i64 ((List.replicate (n.Qa.length:Int).toNat (0:Int)).length:Int):Value)=.int .i64 ((List.replicate (n.Qa.length:Int).toNat (0:Int)).length:Int))∧((.int .i64 (v18+1):Value)=.int .i64 v18_)∧(Imp (.l 2 Qf n.Qb) (.l 2 Qf n.Qb))∧(Imp (.l 2 Qg n.Qa) (.l 2 Qg n.Qa))∧(Imp (.l 1 eInt (xs.set (v18).toNat (-1))) (.l 1 eInt xs_))∧((runL (F41_s0 n to' Qe) j.1 j.2=(runL (F41_s0 n to' Qe) ((((List.replicate (n.Qa.length:Int).toNat (0:Int)).length:Int)-0).toNat+1) (0,(List.replicate (n.Qa.length:Int).toNat (0:Int))))∧Int.toNat (((List.replicate (n.Qa.length:Int).toNat (0:Int)).length:Int)-v18_)<j.1∧FillI xs_ v18_∧(0:Int)≤v18_∧xs_.length=(List.replicate (n.Qa.length:Int).toNat (0:Int)).length)∧j.1<i0.1))) j.2.1 j.2.2) (m0,((v18+1),(xs.set (v18).toNat (-1)))) (ai (rfl) (ai (rfl) (ai (rfl) (ai (rfl) (ai (ir) (ai (ir) (ai (ir) (ai (ai (runL_next hI0 (condT h2 (rfl))) (ai ((by first | omega | (simp only [lens] at*<;> omega) | exact FillI.zero _ | exact FillI.next (by assumption) (by omega) (by simp only [lens] at *; omega):Int.toNat (((List.replicate (n.Qa.length:Int).toNat (0:Int)).length:Int)-(v18+1))<m0)) (ai ((by first | omega | (simp only [lens] at*<;> omega) | exact FillI.zero _ | exact FillI.next (by assumption) (by omega) (by simp only [lens] at *; omega):FillI (xs.set (v18).toNat (-1)) (v18+1))) (ai ((by first | omega | (simp only [lens] at*<;> omega) | exact FillI.zero _ | exact FillI.next (by assumption) (by omega) (by simp only [lens] at *; omega):(0:Int)≤(v18+1))) ((by first | omega | (simp only [lens] at*<;> omega) | exact FillI.zero _ | exact FillI.next (by assumption) (by omega) (by simp only [lens] at *; omega):(xs.set (v18).toNat (-1)).length=(List.replicate (n.Qa.length:Int).toNat (0:Int)).length)))))) hl0)))))))))))) (of_decide_eq_true h2)) (fun h2:(decide (v18<((List.replicate (n.Qa.length:Int).toNat (0:Int)).length:Int)))=false=>(fun _:¬ v18<((List.replicate (n.Qa.length:Int).toNat (0:Int)).length:Int)=>(fun hD0_3:(runL (F41_s0 n to' Qe) ((((List.replicate (n.Qa.length:Int).toNat (0:Int)).length:Int)-0).toNat+1) (0,(List.replicate (n.Qa.length:Int).toNat (0:Int))))=Lp.done (v18,xs)=>Exists.intro (p:=fun j:List Int=>(fun (far_:List Int)=>(((.int .i64 to':Value)=.int .i64 to')∧((.int .i64 Qe:Value)=.int .i64 Qe)∧(Imp (.l 2 Qf n.Qb) (.l 2 Qf n.Qb))∧(Imp (.l 2 Qg n.Qa) (.l 2 Qg n.Qa))∧(Imp (.l 1 eInt xs) (.l 1 eInt far_))∧(F41_j0 n to' Qe)=Lp.done j∧far_=List.replicate n.Qa.length (-1)∧far_.length=n.Qa.length)) j) (xs) (ai (rfl) (ai (rfl) (ai (ir) (ai (ir) (ai (ir) (ai (Eq.symm (finD hD0_3 (rfl))) (ai ((by first | omega | (simp only [lens] at*<;> omega) | (simp only [lens] at *; first | omega | exact FillI.done (by assumption) (by omega) (by omega)):xs=List.replicate n.Qa.length (-1))) ((by first | omega | (simp only [lens] at*<;> omega) | (simp only [lens] at *; first | omega | exact FillI.done (by assumption) (by omega) (by omega)):xs.length=n.Qa.length)))))))))) (runL_done hI0 (condF h2 (rfl)))) (of_decide_eq_false h2))) (i0.1-1) i0.2.1 i0.2.2 (hd1 hi0.1 hi0.2.1) (hd2 hi0.2.1) (hd3 hi0.2.1) hi0.2.2.1 hi0.2.2.2.1 hi0.2.2.2.2)) (fun (j:List Int) (hj:(fun (far:List Int)=>((F41_j0 n to' Qe)=Lp.done j∧far=List.replicate n.Qa.length (-1)∧far.length=n.Qa.length)) j)=>(fun (far:List Int) (hJ0_4:(F41_j0 n to' Qe)=Lp.done far) (_:far=List.replicate n.Qa.length (-1)) (_:far.length=n.Qa.length)=>ai ((by first | omega | (simp only [lens] at*<;> omega):0≤to'∧to'<(far.length:Int))) (ai ((SetOK.mk eInt far 0 rfl (by exact ai ir (trivial)):SetOK (.l 1 eInt far) (to').toNat (eInt (far.getD to'.toNat default)) [.v (vI 0)] (.l 1 eInt (far.set (to').toNat 0)))) (ai ((BuildOK.mk eInt ([to']:List Int) rfl (by exact ai ir (trivial)) (fun _=>rfl):BuildOK 1 1 [.v (vI to')] (.l 1 eInt ([to']:List Int)))) (fun (_:n.Qb.length≤9223372036854775807)=>fun (_:n.Qa.length≤9223372036854775807)=>fun (_:(far.set (to').toNat 0).length≤9223372036854775807)=>fun (_:([to']:List Int).length≤9223372036854775807)=>ai (ai (rfl) (ai (ir) (ai (ir) (ai (ir) (ai (ir) ((ai (rfl:runL (F41_s1 n to' Qe far) ((([to']:List Int).length+negs (far.set (to').toNat 0))+1) (([to']:List Int),(far.set (to').toNat 0))=(runL (F41_s1 n to' Qe far) ((([to']:List Int).length+negs (far.set (to').toNat 0))+1) (([to']:List Int),(far.set (to').toNat 0)))) (ai ((Nat.lt_succ_self _:([to']:List Int).length+negs (far.set (to').toNat 0)<((([to']:List Int).length+negs (far.set (to').toNat 0))+1))) (ai ((by first | omega | (simp only [lens] at*<;> omega) | assumption | (subst_vars; exact (FI.init (by assumption) (by assumption)).1) | (subst_vars; have hq:=(FI.init (len:=n.Qa.length) (b:=to') (by assumption) (by assumption)).2; (try simp only [lens]); omega) | (subst_vars; simp only [lens]):FI n.Qa.length (far.set (to').toNat 0) ([to']:List Int))) (ai ((by first | omega | (simp only [lens] at*<;> omega) | assumption | (subst_vars; exact (FI.init (by assumption) (by assumption)).1) | (subst_vars; have hq:=(FI.init (len:=n.Qa.length) (b:=to') (by assumption) (by assumption)).2; (try simp only [lens]); omega) | (subst_vars; simp only [lens]):([to']:List Int).length+negs (far.set (to').toNat 0)≤n.Qa.length)) (ai ((by first | omega | (simp only [lens] at*<;> omega) | assumption | (subst_vars; exact (FI.init (by assumption) (by assumption)).1) | (subst_vars; have hq:=(FI.init (len:=n.Qa.length) (b:=to') (by assumption) (by assumption)).2; (try simp only [lens]); omega) | (subst_vars; simp only [lens]):(far.set (to').toNat 0).length=n.Qa.length)) ((by first | omega | (simp only [lens] at*<;> omega) | assumption | (subst_vars; exact (FI.init (by assumption) (by assumption)).1) | (subst_vars; have hq:=(FI.init (len:=n.Qa.length) (b:=to') (by assumption) (by assumption)).2; (try simp only [lens]); omega) | (subst_vars; simp only [lens]):(far.set (to').toNat 0).length=(far.set (to').toNat 0).length)))))))))))):((.int .i64 Qe:Value)=.int .i64 Qe)∧(Imp (.l 2 Qf n.Qb) (.l 2 Qf n.Qb))∧(Imp (.l 2 Qg n.Qa) (.l 2 Qg n.Qa))∧(Imp (.l 1 eInt (far.set (to').toNat 0)) (.l 1 eInt (far.set (to').toNat 0)))∧(Imp (.l 1 eInt ([to']:List Int)) (.l 1 eInt ([to']:List Int)))∧(runL (F41_s1 n to' Qe far) ((([to']:List Int).length+negs (far.set (to').toNat 0))+1) (([to']:List Int),(far.set (to').toNat 0))=(runL (F41_s1 n to' Qe far) ((([to']:List Int).length+negs (far.set (to').toNat 0))+1) (([to']:List Int),(far.set (to').toNat 0)))∧([to']:List Int).length+negs (far.set (to').toNat 0)<((([to']:List Int).length+negs (far.set (to').toNat 0))+1)∧FI n.Qa.length (far.set (to').toNat 0) ([to']:List Int)∧([to']:List Int).length+negs (far.set (to').toNat 0)≤n.Qa.length∧(far.set (to').toNat 0).length=n.Qa.length∧(far.set (to').toNat 0).length=(far.set (to').toNat 0).length)) (fun (i1:Nat×(List Int×List Int)) (hi1:runL (F41_s1 n to' Qe far) i1.1 i1.2=(runL (F41_s1 n to' Qe far) ((([to']:List Int).length+negs (far.set (to').toNat 0))+1) (([to']:List Int),(far.set (to').toNat 0)))∧(fun (queue:List Int) (xs1:List Int)=>(queue.length+negs xs1<i1.1∧FI n.Qa.length xs1 queue∧queue.length+negs xs1≤n.Qa.length∧xs1.length=n.Qa.length∧xs1.length=(far.set (to').toNat 0).length)) i1.2.1 i1.2.2)=>(fun (m1:Nat) (queue:List Int) (xs1:List Int) (hI1:runL (F41_s1 n to' Qe far) (m1+1) (queue,xs1)=(runL (F41_s1 n to' Qe far) ((([to']:List Int).length+negs (far.set (to').toNat 0))+1) (([to']:List Int),(far.set (to').toNat 0)))) (_:queue.length+negs xs1<m1+1) (hl1:m1<i1.1) (_:FI n.Qa.length xs1 queue) (_:queue.length+negs xs1≤n.Qa.length) (_:xs1.length=n.Qa.length) (_:xs1.length=(far.set (to').toNat 0).length)=>ai (fun h6:(decide ((queue.length:Int)>0))=true=>(fun _:(queue.length:Int)>0=>ai ((by first | omega | (simp only [lens] at*<;> omega):0≤(0:Int)∧(0:Int)<(queue.length:Int))) (ai ((by first | omega | (simp only [lens] at*<;> omega):0≤(1:Int)∧(1:Int)≤(queue.length:Int)∧(queue.length:Int)≤(queue.length:Int))) (fun (_:n.Qb.length≤9223372036854775807)=>fun (_:n.Qa.length≤9223372036854775807)=>fun (_:xs1.length≤9223372036854775807)=>fun (_:(queue.drop (Int.toNat 1)).length≤9223372036854775807)=>ai (ai (rfl) (ai (rfl) (ai (rfl) (ai (rfl) (ai (ir) (ai (ir) (ai (ir) (ai (ir) ((ai (rfl:runL (F41_s2 n to' Qe far queue xs1) (((xs1.length:Int)-0).toNat+1) ((queue.drop (Int.toNat 1)),0,xs1)=(runL (F41_s2 n to' Qe far queue xs1) (((xs1.length:Int)-0).toNat+1) ((queue.drop (Int.toNat 1)),0,xs1))) (ai ((Nat.lt_succ_self _:Int.toNat ((xs1.length:Int)-0)<(((xs1.length:Int)-0).toNat+1))) (ai ((by first | omega | (simp only [lens] at*<;> omega) | assumption | (exact FI.tail (by assumption)) | (exact FI.head (by assumption) (by assumption)) | (exact (FI.next (by assumption) (by assumption) (by omega) (by omega) (by omega) (by omega) (by omega) (by assumption)).1) | (exact ⟨by omega,by omega,(FI.next (by assumption:FI n.Qa.length xs2 queue1) (by assumption) (b:=queue.getD (Int.toNat 0) default) (v:=v40) (by omega) (by omega) (by omega) (by omega) (by omega) (by assumption)).2.2⟩) | (have hq:=FI.next (by assumption:FI n.Qa.length xs2 queue1) (by assumption) (b:=queue.getD (Int.toNat 0) default) (v:=v40) (by omega) (by omega) (by omega) (by omega) (by omega) (by assumption); simp only [lens]; omega):FI n.Qa.length xs1 (queue.drop (Int.toNat 1)))) (ai ((by first | omega | (simp only [lens] at*<;> omega) | assumption | (exact FI.tail (by assumption)) | (exact FI.head (by assumption) (by assumption)) | (exact (FI.next (by assumption) (by assumption) (by omega) (by omega) (by omega) (by omega) (by omega) (by assumption)).1) | (exact ⟨by omega,by omega,(FI.next (by assumption:FI n.Qa.length xs2 queue1) (by assumption) (b:=queue.getD (Int.toNat 0) default) (v:=v40) (by omega) (by omega) (by omega) (by omega) (by omega) (by assumption)).2.2⟩) | (have hq:=FI.next (by assumption:FI n.Qa.length xs2 queue1) (by assumption) (b:=queue.getD (Int.toNat 0) default) (v:=v40) (by omega) (by omega) (by omega) (by omega) (by omega) (by assumption); simp only [lens]; omega):(queue.drop (Int.toNat 1)).length+negs xs1+1=queue.length+negs xs1)) (ai ((by first | omega | (simp only [lens] at*<;> omega) | assumption | (exact FI.tail (by assumption)) | (exact FI.head (by assumption) (by assumption)) | (exact (FI.next (by assumption) (by assumption) (by omega) (by omega) (by omega) (by omega) (by omega) (by assumption)).1) | (exact ⟨by omega,by omega,(FI.next (by assumption:FI n.Qa.length xs2 queue1) (by assumption) (b:=queue.getD (Int.toNat 0) default) (v:=v40) (by omega) (by omega) (by omega) (by omega) (by omega) (by assumption)).2.2⟩) | (have hq:=FI.next (by assumption:FI n.Qa.length xs2 queue1) (by assumption) (b:=queue.getD (Int.toNat 0) default) (v:=v40) (by omega) (by omega) (by omega) (by omega) (by omega) (by assumption); simp only [lens]; omega):0≤queue.getD (Int.toNat 0) default∧queue.getD (Int.toNat 0) default<(n.Qa.length:Int)∧0≤xs1.getD (queue.getD (Int.toNat 0) default).toNat default)) (ai ((by first | omega | (simp only [lens] at*<;> omega) | assumption | (exact FI.tail (by assumption)) | (exact FI.head (by assumption) (by assumption)) | (exact (FI.next (by assumption) (by assumption) (by omega) (by omega) (by omega) (by omega) (by omega) (by assumption)).1) | (exact ⟨by omega,by omega,(FI.next (by assumption:FI n.Qa.length xs2 queue1) (by assumption) (b:=queue.getD (Int.toNat 0) default) (v:=v40) (by omega) (by omega) (by omega) (by omega) (by omega) (by assumption)).2.2⟩) | (have hq:=FI.next (by assumption:FI n.Qa.length xs2 queue1) (by assumption) (b:=queue.getD (Int.toNat 0) default) (v:=v40) (by omega) (by omega) (by omega) (by omega) (by omega) (by assumption); simp only [lens]; omega):xs1.length=n.Qa.length)) (ai ((by first | omega | (simp only [lens] at*<;> omega) | assumption | (exact FI.tail (by assumption)) | (exact FI.head (by assumption) (by assumption)) | (exact (FI.next (by assumption) (by assumption) (by omega) (by omega) (by omega) (by omega) (by omega) (by assumption)).1) | (exact ⟨by omega,by omega,(FI.next (by assumption:FI n.Qa.length xs2 queue1) (by assumption) (b:=queue.getD (Int.toNat 0) default) (v:=v40) (by omega) (by omega) (by omega) (by omega) (by omega) (by assumption)).2.2⟩) | (have hq:=FI.next (by assumption:FI n.Qa.length xs2 queue1) (by assumption) (b:=queue.getD (Int.toNat 0) default) (v:=v40) (by omega) (by omega) (by omega) (by omega) (by omega) (by assumption); simp only [lens]; omega):(0:Int)≤0)) ((by first | omega | (simp only [lens] at*<;> omega) | assumption | (exact FI.tail (by assumption)) | (exact FI.head (by assumption) (by assumption)) | (exact (FI.next (by assumption) (by assumption) (by omega) (by omega) (by omega) (by omega) (by omega) (by assumption)).1) | (exact ⟨by omega,by omega,(FI.next (by assumption:FI n.Qa.length xs2 queue1) (by assumption) (b:=queue.getD (Int.toNat 0) default) (v:=v40) (by omega) (by omega) (by omega) (by omega) (by omega) (by assumption)).2.2⟩) | (have hq:=FI.next (by assumption:FI n.Qa.length xs2 queue1) (by assumption) (b:=queue.getD (Int.toNat 0) default) (v:=v40) (by omega) (by omega) (by omega) (by omega) (by omega) (by assumption); simp only [lens]; omega):xs1.length=xs1.length))))))))))))))))):((.int .i64 Qe:Value)=.int .i64 Qe)∧((.int .i64 (queue.getD (Int.toNat 0) default):Value)=.int .i64 (queue.getD (Int.toNat 0) default))∧((.int .i64 (xs1.length:Int):Value)=.int .i64 (xs1.length:Int))∧((.int .i64 0:Value)=.int .i64 0)∧(Imp (.l 2 Qf n.Qb) (.l 2 Qf n.Qb))∧(Imp (.l 2 Qg n.Qa) (.l 2 Qg n.Qa))∧(Imp (.l 1 eInt xs1) (.l 1 eInt xs1))∧(Imp (.l 1 eInt (queue.drop (Int.toNat 1))) (.l 1 eInt (queue.drop (Int.toNat 1))))∧(runL (F41_s2 n to' Qe far queue xs1) (((xs1.length:Int)-0).toNat+1) ((queue.drop (Int.toNat 1)),0,xs1)=(runL (F41_s2 n to' Qe far queue xs1) (((xs1.length:Int)-0).toNat+1) ((queue.drop (Int.toNat 1)),0,xs1))∧Int.toNat ((xs1.length:Int)-0)<(((xs1.length:Int)-0).toNat+1)∧FI n.Qa.length xs1 (queue.drop (Int.toNat 1))∧(queue.drop (Int.toNat 1)).length+negs xs1+1=queue.length+negs xs1∧(0≤queue.getD (Int.toNat 0) default∧queue.getD (Int.toNat 0) default<(n.Qa.length:Int)∧0≤xs1.getD (queue.getD (Int.toNat 0) default).toNat default)∧xs1.length=n.Qa.length∧(0:Int)≤0∧xs1.length=xs1.length)) (fun (i2:Nat×(List Int×Int×List Int)) (hi2:runL (F41_s2 n to' Qe far queue xs1) i2.1 i2.2=(runL (F41_s2 n to' Qe far queue xs1) (((xs1.length:Int)-0).toNat+1) ((queue.drop (Int.toNat 1)),0,xs1))∧(fun (queue1:List Int) (v40:Int) (xs2:List Int)=>(Int.toNat ((xs1.length:Int)-v40)<i2.1∧FI n.Qa.length xs2 queue1∧queue1.length+negs xs2+1=queue.length+negs xs1∧(0≤queue.getD (Int.toNat 0) default∧queue.getD (Int.toNat 0) default<(n.Qa.length:Int)∧0≤xs2.getD (queue.getD (Int.toNat 0) default).toNat default)∧xs2.length=n.Qa.length∧(0:Int)≤v40∧xs2.length=xs1.length)) i2.2.1 i2.2.2.1 i2.2.2.2)=>(fun (m2:Nat) (queue1:List Int) (v40:Int) (xs2:List Int) (hI2:runL (F41_s2 n to' Qe far queue xs1) (m2+1) (queue1,v40,xs2)=(runL (F41_s2 n to' Qe far queue xs1) (((xs1.length:Int)-0).toNat+1) ((queue.drop (Int.toNat 1)),0,xs1))) (_:Int.toNat ((xs1.length:Int)-v40)<m2+1) (hl2:m2<i2.1) (_:FI n.Qa.length xs2 queue1) (_:queue1.length+negs xs2+1=queue.length+negs xs1) (_:0≤queue.getD (Int.toNat 0) default∧queue.getD (Int.toNat 0) default<(n.Qa.length:Int)∧0≤xs2.getD (queue.getD (Int.toNat 0) default).toNat default) (_:xs2.length=n.Qa.length) (_:(0:Int)≤v40) (_:xs2.length=xs1.length)=>ai (fun h8:(decide (v40<(xs1.length:Int)))=true=>(fun _:v40<(xs1.length:Int)=>ai ((by first | omega | (simp only [lens] at*<;> omega):0≤v40∧v40<(xs2.length:Int))) (ai ((fun k9:(decide ((xs2.getD v40.toNat default)<0))=true=>(fun _:(xs2.getD v40.toNat default)<0=>((by first | assumption | exact Qn.frame (by assumption):FrameOk n))) (of_decide_eq_true k9))) (ai ((fun k10:(decide ((xs2.getD v40.toNat default)<0))=true=>(fun _:(xs2.getD v40.toNat default)<0=>(Imps.refl (Qr n))) (of_decide_eq_true k10))) (ai ((fun k11:(decide ((xs2.getD v40.toNat default)<0))=true=>(fun _:(xs2.getD v40.toNat default)<0=>(Imp.refl (.v (vI (queue.getD (Int.toNat 0) default))))) (of_decide_eq_true k11))) (ai ((fun k12:(decide ((xs2.getD v40.toNat default)<0))=true=>(fun _:(xs2.getD v40.toNat default)<0=>(Imp.refl (.v (vI v40)))) (of_decide_eq_true k12))) (ai ((fun k13:(decide ((xs2.getD v40.toNat default)<0))=true=>(fun _:(xs2.getD v40.toNat default)<0=>(Imp.refl (.v (vI Qe)))) (of_decide_eq_true k13))) (ai (fun h14:(bif decide ((xs2.getD v40.toNat default)<0) then (decide (0≤Qh n (queue.getD (Int.toNat 0) default) v40∧Qh n (queue.getD (Int.toNat 0) default) v40≠Qe)) else false)=true=>(fun _:0≤Qh n (queue.getD (Int.toNat 0) default) v40∧Qh n (queue.getD (Int.toNat 0) default) v40≠Qe=>(fun _:(xs2.getD v40.toNat default)<0=>ai ((by first | omega | (simp only [lens] at*<;> omega):0≤(queue.getD (Int.toNat 0) default)∧(queue.getD (Int.toNat 0) default)<(xs2.length:Int))) (ai ((by first | omega | (simp only [lens] at*<;> omega):0≤v40∧v40<(xs2.length:Int))) (ai ((SetOK.mk eInt xs2 (IntKind.i64.wrap ((xs2.getD (queue.getD (Int.toNat 0) default).toNat default)+1)) rfl (by exact ai ir (trivial)):SetOK (.l 1 eInt xs2) (v40).toNat (eInt (xs2.getD v40.toNat default)) [.v (vI (IntKind.i64.wrap ((xs2.getD (queue.getD (Int.toNat 0) default).toNat default)+1)))] (.l 1 eInt (xs2.set (v40).toNat (IntKind.i64.wrap ((xs2.getD (queue.getD (Int.toNat 0) default).toNat default)+1)))))) (ai ((AppA.mk eInt queue1 [v40] (Imp.refl (.l 1 eInt queue1)) rfl (by exact ai ir (trivial)) (fun _=>rfl):AppA (.l 1 eInt queue1) 1 1 [.v (vI v40)] (.l 1 eInt (queue1++[v40])))) (ai ((by (try simp only [lens]); omega:((queue1++[v40])).length*8≤140737488355328)) (ai ((by unfold i64ok; first | omega | (simp only [lens] at*<;> omega):i64ok (v40+1))) (Exists.intro (p:=fun j:Nat×(List Int×Int×List Int)=>(fun (queue1_:List Int) (v40_:Int) (xs2_:List Int)=>(((.int .i64 Qe:Value)=.int .i64 Qe)∧((.int .i64 (queue.getD (Int.toNat 0) default):Value)=.int .i64 (queue.getD (Int.toNat 0) default))∧((.int .i64 (xs1.length:Int):Value)=.int .i64 (xs1.length:Int))∧((.int .i64 (v40+1):Value)=.int .i64 v40_)∧(Imp (.l 2 Qf n.Qb) (.l 2 Qf n.Qb))∧(Imp (.l 2 Qg n.Qa) (.l 2 Qg n.Qa))∧(Imp (.l 1 eInt (xs2.set (v40).toNat (IntKind.i64.wrap ((xs2.getD (queue.getD (Int.toNat 0) default).toNat default)+1)))) (.l 1 eInt xs2_))∧(Imp (.l 1 eInt (queue1++[v40])) (.l 1 eInt queue1_))∧((runL (F41_s2 n to' Qe far queue xs1) j.1 j.2=(runL (F41_s2 n to' Qe far queue xs1) (((xs1.length:Int)-0).toNat+1) ((queue.drop (Int.toNat 1)),0,xs1))∧Int.toNat ((xs1.length:Int)-v40_)<j.1∧FI n.Qa.length xs2_ queue1_∧queue1_.length+negs xs2_+1=queue.length+negs xs1∧(0≤queue.getD (Int.toNat 0) default∧queue.getD (Int.toNat 0) default<(n.Qa.length:Int)∧0≤xs2_.getD (queue.getD (Int.toNat 0) default).toNat default)∧xs2_.length=n.Qa.length∧(0:Int)≤v40_∧xs2_.length=xs1.length)∧j.1<i2.1))) j.2.1 j.2.2.1 j.2.2.2) (m2,((queue1++[v40]),(v40+1),(xs2.set (v40).toNat (IntKind.i64.wrap ((xs2.getD (queue.getD (Int.toNat 0) default).toNat default)+1))))) (ai (rfl) (ai (rfl) (ai (rfl) (ai (rfl) (ai (ir) (ai (ir) (ai (ir) (ai (ir) (ai (ai (runL_next hI2 (condT h8 (condT h14 (rfl)))) (ai ((by first | omega | (simp only [lens] at*<;> omega) | assumption | (exact FI.tail (by assumption)) | (exact FI.head (by assumption) (by assumption)) | (exact (FI.next (by assumption) (by assumption) (by omega) (by omega) (by omega) (by omega) (by omega) (by assumption)).1) | (exact ⟨by omega,by omega,(FI.next (by assumption:FI n.Qa.length xs2 queue1) (by assumption) (b:=queue.getD (Int.toNat 0) default) (v:=v40) (by omega) (by omega) (by omega) (by omega) (by omega) (by assumption)).2.2⟩) | (have hq:=FI.next (by assumption:FI n.Qa.length xs2 queue1) (by assumption) (b:=queue.getD (Int.toNat 0) default) (v:=v40) (by omega) (by omega) (by omega) (by omega) (by omega) (by assumption); simp only [lens]; omega):Int.toNat ((xs1.length:Int)-(v40+1))<m2)) (ai ((by first | omega | (simp only [lens] at*<;> omega) | assumption | (exact FI.tail (by assumption)) | (exact FI.head (by assumption) (by assumption)) | (exact (FI.next (by assumption) (by assumption) (by omega) (by omega) (by omega) (by omega) (by omega) (by assumption)).1) | (exact ⟨by omega,by omega,(FI.next (by assumption:FI n.Qa.length xs2 queue1) (by assumption) (b:=queue.getD (Int.toNat 0) default) (v:=v40) (by omega) (by omega) (by omega) (by omega) (by omega) (by assumption)).2.2⟩) | (have hq:=FI.next (by assumption:FI n.Qa.length xs2 queue1) (by assumption) (b:=queue.getD (Int.toNat 0) default) (v:=v40) (by omega) (by omega) (by omega) (by omega) (by omega) (by assumption); simp only [lens]; omega):FI n.Qa.length (xs2.set (v40).toNat (IntKind.i64.wrap ((xs2.getD (queue.getD (Int.toNat 0) default).toNat default)+1))) (queue1++[v40]))) (ai ((by first | omega | (simp only [lens] at*<;> omega) | assumption | (exact FI.tail (by assumption)) | (exact FI.head (by assumption) (by assumption)) | (exact (FI.next (by assumption) (by assumption) (by omega) (by omega) (by omega) (by omega) (by omega) (by assumption)).1) | (exact ⟨by omega,by omega,(FI.next (by assumption:FI n.Qa.length xs2 queue1) (by assumption) (b:=queue.getD (Int.toNat 0) default) (v:=v40) (by omega) (by omega) (by omega) (by omega) (by omega) (by assumption)).2.2⟩) | (have hq:=FI.next (by assumption:FI n.Qa.length xs2 queue1) (by assumption) (b:=queue.getD (Int.toNat 0) default) (v:=v40) (by omega) (by omega) (by omega) (by omega) (by omega) (by assumption); simp only [lens]; omega):(queue1++[v40]).length+negs (xs2.set (v40).toNat (IntKind.i64.wrap ((xs2.getD (queue.getD (Int.toNat 0) default).toNat default)+1)))+1=queue.length+negs xs1)) (ai ((by first | omega | (simp only [lens] at*<;> omega) | assumption | (exact FI.tail (by assumption)) | (exact FI.head (by assumption) (by assumption)) | (exact (FI.next (by assumption) (by assumption) (by omega) (by omega) (by omega) (by omega) (by omega) (by assumption)).1) | (exact ⟨by omega,by omega,(FI.next (by assumption:FI n.Qa.length xs2 queue1) (by assumption) (b:=queue.getD (Int.toNat 0) default) (v:=v40) (by omega) (by omega) (by omega) (by omega) (by omega) (by assumption)).2.2⟩) | (have hq:=FI.next (by assumption:FI n.Qa.length xs2 queue1) (by assumption) (b:=queue.getD (Int.toNat 0) default) (v:=v40) (by omega) (by omega) (by omega) (by omega) (by omega) (by assumption); simp only [lens]; omega):0≤queue.getD (Int.toNat 0) default∧queue.getD (Int.toNat 0) default<(n.Qa.length:Int)∧0≤(xs2.set (v40).toNat (IntKind.i64.wrap ((xs2.getD (queue.getD (Int.toNat 0) default).toNat default)+1))).getD (queue.getD (Int.toNat 0) default).toNat default)) (ai ((by first | omega | (simp only [lens] at*<;> omega) | assumption | (exact FI.tail (by assumption)) | (exact FI.head (by assumption) (by assumption)) | (exact (FI.next (by assumption) (by assumption) (by omega) (by omega) (by omega) (by omega) (by omega) (by assumption)).1) | (exact ⟨by omega,by omega,(FI.next (by assumption:FI n.Qa.length xs2 queue1) (by assumption) (b:=queue.getD (Int.toNat 0) default) (v:=v40) (by omega) (by omega) (by omega) (by omega) (by omega) (by assumption)).2.2⟩) | (have hq:=FI.next (by assumption:FI n.Qa.length xs2 queue1) (by assumption) (b:=queue.getD (Int.toNat 0) default) (v:=v40) (by omega) (by omega) (by omega) (by omega) (by omega) (by assumption); simp only [lens]; omega):(xs2.set (v40).toNat (IntKind.i64.wrap ((xs2.getD (queue.getD (Int.toNat 0) default).toNat default)+1))).length=n.Qa.length)) (ai ((by first | omega | (simp only [lens] at*<;> omega) | assumption | (exact FI.tail (by assumption)) | (exact FI.head (by assumption) (by assumption)) | (exact (FI.next (by assumption) (by assumption) (by omega) (by omega) (by omega) (by omega) (by omega) (by assumption)).1) | (exact ⟨by omega,by omega,(FI.next (by assumption:FI n.Qa.length xs2 queue1) (by assumption) (b:=queue.getD (Int.toNat 0) default) (v:=v40) (by omega) (by omega) (by omega) (by omega) (by omega) (by assumption)).2.2⟩) | (have hq:=FI.next (by assumption:FI n.Qa.length xs2 queue1) (by assumption) (b:=queue.getD (Int.toNat 0) default) (v:=v40) (by omega) (by omega) (by omega) (by omega) (by omega) (by assumption); simp only [lens]; omega):(0:Int)≤(v40+1))) ((by first | omega | (simp only [lens] at*<;> omega) | assumption | (exact FI.tail (by assumption)) | (exact FI.head (by assumption) (by assumption)) | (exact (FI.next (by assumption) (by assumption) (by omega) (by omega) (by omega) (by omega) (by omega) (by assumption)).1) | (exact ⟨by omega,by omega,(FI.next (by assumption:FI n.Qa.length xs2 queue1) (by assumption) (b:=queue.getD (Int.toNat 0) default) (v:=v40) (by omega) (by omega) (by omega) (by omega) (by omega) (by assumption)).2.2⟩) | (have hq:=FI.next (by assumption:FI n.Qa.length xs2 queue1) (by assumption) (b:=queue.getD (Int.toNat 0) default) (v:=v40) (by omega) (by omega) (by omega) (by omega) (by omega) (by assumption); simp only [lens]; omega):(xs2.set (v40).toNat (IntKind.i64.wrap ((xs2.getD (queue.getD (Int.toNat 0) default).toNat default)+1))).length=xs1.length))))))))) hl2)))))))))))))))) (of_decide_eq_true (andT1 h14))) (of_decide_eq_true (andT2 h14))) (fun h14:(bif decide ((xs2.getD v40.toNat default)<0) then (decide (0≤Qh n (queue.getD (Int.toNat 0) default) v40∧Qh n (queue.getD (Int.toNat 0) default) v40≠Qe)) else false)=false=>ai ((by unfold i64ok; first | omega | (simp only [lens] at*<;> omega):i64ok (v40+1))) (Exists.intro (p:=fun j:Nat×(List Int×Int×List Int)=>(fun (queue1_:List Int) (v40_:Int) (xs2_:List Int)=>(((.int .i64 Qe:Value)=.int .i64 Qe)∧((.int .i64 (queue.getD (Int.toNat 0) default):Value)=.int .i64 (queue.getD (Int.toNat 0) default))∧((.int .i64 (xs1.length:Int):Value)=.int .i64 (xs1.length:Int))∧((.int .i64 (v40+1):Value)=.int .i64 v40_)∧(Imp (.l 2 Qf n.Qb) (.l 2 Qf n.Qb))∧(Imp (.l 2 Qg n.Qa) (.l 2 Qg n.Qa))∧(Imp (.l 1 eInt xs2) (.l 1 eInt xs2_))∧(Imp (.l 1 eInt queue1) (.l 1 eInt queue1_))∧((runL (F41_s2 n to' Qe far queue xs1) j.1 j.2=(runL (F41_s2 n to' Qe far queue xs1) (((xs1.length:Int)-0).toNat+1) ((queue.drop (Int.toNat 1)),0,xs1))∧Int.toNat ((xs1.length:Int)-v40_)<j.1∧FI n.Qa.length xs2_ queue1_∧queue1_.length+negs xs2_+1=queue.length+negs xs1∧(0≤queue.getD (Int.toNat 0) default∧queue.getD (Int.toNat 0) default<(n.Qa.length:Int)∧0≤xs2_.getD (queue.getD (Int.toNat 0) default).toNat default)∧xs2_.length=n.Qa.length∧(0:Int)≤v40_∧xs2_.length=xs1.length)∧j.1<i2.1))) j.2.1 j.2.2.1 j.2.2.2) (m2,(queue1,(v40+1),xs2)) (ai (rfl) (ai (rfl) (ai (rfl) (ai (rfl) (ai (ir) (ai (ir) (ai (ir) (ai (ir) (ai (ai (runL_next hI2 (condT h8 (condF h14 (rfl)))) (ai ((by first | omega | (simp only [lens] at*<;> omega) | assumption | (exact FI.tail (by assumption)) | (exact FI.head (by assumption) (by assumption)) | (exact (FI.next (by assumption) (by assumption) (by omega) (by omega) (by omega) (by omega) (by omega) (by assumption)).1) | (exact ⟨by omega,by omega,(FI.next (by assumption:FI n.Qa.length xs2 queue1) (by assumption) (b:=queue.getD (Int.toNat 0) default) (v:=v40) (by omega) (by omega) (by omega) (by omega) (by omega) (by assumption)).2.2⟩) | (have hq:=FI.next (by assumption:FI n.Qa.length xs2 queue1) (by assumption) (b:=queue.getD (Int.toNat 0) default) (v:=v40) (by omega) (by omega) (by omega) (by omega) (by omega) (by assumption); simp only [lens]; omega):Int.toNat ((xs1.length:Int)-(v40+1))<m2)) (ai ((by first | omega | (simp only [lens] at*<;> omega) | assumption | (exact FI.tail (by assumption)) | (exact FI.head (by assumption) (by assumption)) | (exact (FI.next (by assumption) (by assumption) (by omega) (by omega) (by omega) (by omega) (by omega) (by assumption)).1) | (exact ⟨by omega,by omega,(FI.next (by assumption:FI n.Qa.length xs2 queue1) (by assumption) (b:=queue.getD (Int.toNat 0) default) (v:=v40) (by omega) (by omega) (by omega) (by omega) (by omega) (by assumption)).2.2⟩) | (have hq:=FI.next (by assumption:FI n.Qa.length xs2 queue1) (by assumption) (b:=queue.getD (Int.toNat 0) default) (v:=v40) (by omega) (by omega) (by omega) (by omega) (by omega) (by assumption); simp only [lens]; omega):FI n.Qa.length xs2 queue1)) (ai ((by first | omega | (simp only [lens] at*<;> omega) | assumption | (exact FI.tail (by assumption)) | (exact FI.head (by assumption) (by assumption)) | (exact (FI.next (by assumption) (by assumption) (by omega) (by omega) (by omega) (by omega) (by omega) (by assumption)).1) | (exact ⟨by omega,by omega,(FI.next (by assumption:FI n.Qa.length xs2 queue1) (by assumption) (b:=queue.getD (Int.toNat 0) default) (v:=v40) (by omega) (by omega) (by omega) (by omega) (by omega) (by assumption)).2.2⟩) | (have hq:=FI.next (by assumption:FI n.Qa.length xs2 queue1) (by assumption) (b:=queue.getD (Int.toNat 0) default) (v:=v40) (by omega) (by omega) (by omega) (by omega) (by omega) (by assumption); simp only [lens]; omega):queue1.length+negs xs2+1=queue.length+negs xs1)) (ai ((by first | omega | (simp only [lens] at*<;> omega) | assumption | (exact FI.tail (by assumption)) | (exact FI.head (by assumption) (by assumption)) | (exact (FI.next (by assumption) (by assumption) (by omega) (by omega) (by omega) (by omega) (by omega) (by assumption)).1) | (exact ⟨by omega,by omega,(FI.next (by assumption:FI n.Qa.length xs2 queue1) (by assumption) (b:=queue.getD (Int.toNat 0) default) (v:=v40) (by omega) (by omega) (by omega) (by omega) (by omega) (by assumption)).2.2⟩) | (have hq:=FI.next (by assumption:FI n.Qa.length xs2 queue1) (by assumption) (b:=queue.getD (Int.toNat 0) default) (v:=v40) (by omega) (by omega) (by omega) (by omega) (by omega) (by assumption); simp only [lens]; omega):0≤queue.getD (Int.toNat 0) default∧queue.getD (Int.toNat 0) default<(n.Qa.length:Int)∧0≤xs2.getD (queue.getD (Int.toNat 0) default).toNat default)) (ai ((by first | omega | (simp only [lens] at*<;> omega) | assumption | (exact FI.tail (by assumption)) | (exact FI.head (by assumption) (by assumption)) | (exact (FI.next (by assumption) (by assumption) (by omega) (by omega) (by omega) (by omega) (by omega) (by assumption)).1) | (exact ⟨by omega,by omega,(FI.next (by assumption:FI n.Qa.length xs2 queue1) (by assumption) (b:=queue.getD (Int.toNat 0) default) (v:=v40) (by omega) (by omega) (by omega) (by omega) (by omega) (by assumption)).2.2⟩) | (have hq:=FI.next (by assumption:FI n.Qa.length xs2 queue1) (by assumption) (b:=queue.getD (Int.toNat 0) default) (v:=v40) (by omega) (by omega) (by omega) (by omega) (by omega) (by assumption); simp only [lens]; omega):xs2.length=n.Qa.length)) (ai ((by first | omega | (simp only [lens] at*<;> omega) | assumption | (exact FI.tail (by assumption)) | (exact FI.head (by assumption) (by assumption)) | (exact (FI.next (by assumption) (by assumption) (by omega) (by omega) (by omega) (by omega) (by omega) (by assumption)).1) | (exact ⟨by omega,by omega,(FI.next (by assumption:FI n.Qa.length xs2 queue1) (by assumption) (b:=queue.getD (Int.toNat 0) default) (v:=v40) (by omega) (by omega) (by omega) (by omega) (by omega) (by assumption)).2.2⟩) | (have hq:=FI.next (by assumption:FI n.Qa.length xs2 queue1) (by assumption) (b:=queue.getD (Int.toNat 0) default) (v:=v40) (by omega) (by omega) (by omega) (by omega) (by omega) (by assumption); simp only [lens]; omega):(0:Int)≤(v40+1))) ((by first | omega | (simp only [lens] at*<;> omega) | assumption | (exact FI.tail (by assumption)) | (exact FI.head (by assumption) (by assumption)) | (exact (FI.next (by assumption) (by assumption) (by omega) (by omega) (by omega) (by omega) (by omega) (by assumption)).1) | (exact ⟨by omega,by omega,(FI.next (by assumption:FI n.Qa.length xs2 queue1) (by assumption) (b:=queue.getD (Int.toNat 0) default) (v:=v40) (by omega) (by omega) (by omega) (by omega) (by omega) (by assumption)).2.2⟩) | (have hq:=FI.next (by assumption:FI n.Qa.length xs2 queue1) (by assumption) (b:=queue.getD (Int.toNat 0) default) (v:=v40) (by omega) (by omega) (by omega) (by omega) (by omega) (by assumption); simp only [lens]; omega):xs2.length=xs1.length))))))))) hl2)))))))))))))))))) (of_decide_eq_true h8)) (fun h8:(decide (v40<(xs1.length:Int)))=false=>(fun _:¬ v40<(xs1.length:Int)=>(fun hD2_15:(runL (F41_s2 n to' Qe far queue xs1) (((xs1.length:Int)-0).toNat+1) ((queue.drop (Int.toNat 1)),0,xs1))=Lp.done (queue1,v40,xs2)=>Exists.intro (p:=fun j:Nat×(List Int×List Int)=>(fun (queue_:List Int) (xs1_:List Int)=>(((.int .i64 Qe:Value)=.int .i64 Qe)∧(Imp (.l 2 Qf n.Qb) (.l 2 Qf n.Qb))∧(Imp (.l 2 Qg n.Qa) (.l 2 Qg n.Qa))∧(Imp (.l 1 eInt xs2) (.l 1 eInt xs1_))∧(Imp (.l 1 eInt queue1) (.l 1 eInt queue_))∧((runL (F41_s1 n to' Qe far) j.1 j.2=(runL (F41_s1 n to' Qe far) ((([to']:List Int).length+negs (far.set (to').toNat 0))+1) (([to']:List Int),(far.set (to').toNat 0)))∧queue_.length+negs xs1_<j.1∧FI n.Qa.length xs1_ queue_∧queue_.length+negs xs1_≤n.Qa.length∧xs1_.length=n.Qa.length∧xs1_.length=(far.set (to').toNat 0).length)∧j.1<i1.1))) j.2.1 j.2.2) (m1,(queue1,xs2)) (ai (rfl) (ai (ir) (ai (ir) (ai (ir) (ai (ir) (ai (ai (runL_next hI1 (condT h6 (finD hD2_15 (rfl)))) (ai ((by first | omega | (simp only [lens] at*<;> omega) | assumption | (subst_vars; exact (FI.init (by assumption) (by assumption)).1) | (subst_vars; have hq:=(FI.init (len:=n.Qa.length) (b:=to') (by assumption) (by assumption)).2; (try simp only [lens]); omega) | (subst_vars; simp only [lens]):queue1.length+negs xs2<m1)) (ai ((by first | omega | (simp only [lens] at*<;> omega) | assumption | (subst_vars; exact (FI.init (by assumption) (by assumption)).1) | (subst_vars; have hq:=(FI.init (len:=n.Qa.length) (b:=to') (by assumption) (by assumption)).2; (try simp only [lens]); omega) | (subst_vars; simp only [lens]):FI n.Qa.length xs2 queue1)) (ai ((by first | omega | (simp only [lens] at*<;> omega) | assumption | (subst_vars; exact (FI.init (by assumption) (by assumption)).1) | (subst_vars; have hq:=(FI.init (len:=n.Qa.length) (b:=to') (by assumption) (by assumption)).2; (try simp only [lens]); omega) | (subst_vars; simp only [lens]):queue1.length+negs xs2≤n.Qa.length)) (ai ((by first | omega | (simp only [lens] at*<;> omega) | assumption | (subst_vars; exact (FI.init (by assumption) (by assumption)).1) | (subst_vars; have hq:=(FI.init (len:=n.Qa.length) (b:=to') (by assumption) (by assumption)).2; (try simp only [lens]); omega) | (subst_vars; simp only [lens]):xs2.length=n.Qa.length)) ((by first | omega | (simp only [lens] at*<;> omega) | assumption | (subst_vars; exact (FI.init (by assumption) (by assumption)).1) | (subst_vars; have hq:=(FI.init (len:=n.Qa.length) (b:=to') (by assumption) (by assumption)).2; (try simp only [lens]); omega) | (subst_vars; simp only [lens]):xs2.length=(far.set (to').toNat 0).length))))))) hl1))))))) (runL_done hI2 (condF h8 (rfl)))) (of_decide_eq_false h8))) (i2.1-1) i2.2.1 i2.2.2.1 i2.2.2.2 (hd1 hi2.1 hi2.2.1) (hd2 hi2.2.1) (hd3 hi2.2.1) hi2.2.2.1 hi2.2.2.2.1 hi2.2.2.2.2.1 hi2.2.2.2.2.2.1 hi2.2.2.2.2.2.2.1 hi2.2.2.2.2.2.2.2)))) (of_decide_eq_true h6)) (fun h6:(decide ((queue.length:Int)>0))=false=>(fun _:¬ (queue.length:Int)>0=>(fun hD1_16:(runL (F41_s1 n to' Qe far) ((([to']:List Int).length+negs (far.set (to').toNat 0))+1) (([to']:List Int),(far.set (to').toNat 0)))=Lp.done (queue,xs1)=>(fun hF:(xs1:List Int)=(F41 n to' Qe)=>ai (Imp.of_eq (congrArg (fun r:List Int=>Dat.l 1 eInt r) hF)) (trivial)) (finD hJ0_4 (finD hD1_16 (rfl)))) (runL_done hI1 (condF h6 (rfl)))) (of_decide_eq_false h6))) (i1.1-1) i1.2.1 i1.2.2 (hd1 hi1.1 hi1.2.1) (hd2 hi1.2.1) (hd3 hi1.2.1) hi1.2.2.1 hi1.2.2.2.1 hi1.2.2.2.2.1 hi1.2.2.2.2.2))))) j hj.1 hj.2.1 hj.2.2)))) hp.1 hp.2.1 hp.2.2.1 hp.2.2.2) (by kernel_rfl)
def F80_s0 (n:Qd) (b:Int) (Qe:Int):(Int×List Int)→Lp (Int×List Int) (List Int):=fun (i40,xs) =>
 bif (decide (i40<(xs.length:Int))) then (.next ((i40+1),(xs.set (i40).toNat (-1)))) else (.done (i40,xs))
def F80_j0 (n:Qd) (b:Int) (Qe:Int):Lp (List Int) (List Int) :=
 (runL (F80_s0 n b Qe) ((((List.replicate (n.Qa.length:Int).toNat (0:Int)).length:Int)-0).toNat+1) (0,(List.replicate (n.Qa.length:Int).toNat (0:Int)))).fin Lp.ret (fun (i40,xs)=>.done xs)
def F80_j9 (n:Qd) (b:Int) (Qe:Int) (far:List Int) (d1:Int) (xs1:List Int) (i41:Int) (xs2:List Int):Lp (List Int) (List Int) :=
 bif (bif ((xs2.getD ((n.Qb.getD i41.toNat default).A).toNat default)==d1) then decide ((xs2.getD ((n.Qb.getD i41.toNat default).B).toNat default)<0) else false) then (.done (xs2.set ((n.Qb.getD i41.toNat default).B).toNat (d1+1))) else (.done xs2)
def F80_s2 (n:Qd) (b:Int) (Qe:Int) (far:List Int) (d1:Int) (xs1:List Int):(Int×List Int)→Lp (Int×List Int) (List Int):=fun (i41,xs2) =>
 bif (decide (i41<(n.Qb.length:Int))) then (bif (i41==Qe) then (.next ((i41+1),xs2)) else ((F80_j9 n b Qe far d1 xs1 i41 xs2).fin Lp.ret (fun xs3=>bif (bif ((xs3.getD ((n.Qb.getD i41.toNat default).B).toNat default)==d1) then decide ((xs3.getD ((n.Qb.getD i41.toNat default).A).toNat default)<0) else false) then (.next ((i41+1),(xs3.set ((n.Qb.getD i41.toNat default).A).toNat (d1+1)))) else (.next ((i41+1),xs3))))) else (.done (i41,xs2))
def F80_s1 (n:Qd) (b:Int) (Qe:Int) (far:List Int):(Int×List Int)→Lp (Int×List Int) (List Int):=fun (d1,xs1) =>
 bif (decide (d1<(xs1.length:Int))) then ((runL (F80_s2 n b Qe far d1 xs1) (((n.Qb.length:Int)-0).toNat+1) (0,xs1)).fin Lp.ret (fun (i41,xs2)=>.next ((d1+1),xs2))) else (.done (d1,xs1))
def F80 (n:Qd) (b:Int) (Qe:Int):List Int :=
 (F80_j0 n b Qe).fin (fun r=>r) (fun far=>(runL (F80_s1 n b Qe far) ((((far.set (b).toNat 0).length:Int)-0).toNat+1) (0,(far.set (b).toNat 0))).fin (fun r=>r) (fun (d1,xs1)=>xs1))
def S80 (n:Qd) (b:Int) (Qe:Int):Spec:=⟨[.r (.g (Qr n)),.r (.c (.v (vI b))),.r (.c (.v (vI Qe)))],.ow (.l 1 eInt (F80 n b Qe)),FrameOk n∧0≤b∧b<(n.Qa.length:Int)∧n.Qa.length≤8⟩
abbrev q80_1 (n:Qd):=(List.replicate (n.Qa.length:Int).toNat (0:Int))
abbrev q80_2 (n:Qd) (i41:Int):=(n.Qb.getD i41.toNat default)
abbrev q80_3 (n:Qd) (b:Int) (Qe:Int) (far:List Int):=(runL (F80_s1 n b Qe far) ((((far.set (b).toNat 0).length:Int)-0).toNat+1) (0,(far.set (b).toNat 0)))
abbrev q80_4 (n:Qd):=(Imp (.l 2 Qf n.Qb) (.l 2 Qf n.Qb))
abbrev q80_5 (n:Qd):=(Imp (.l 2 Qg n.Qa) (.l 2 Qg n.Qa))
abbrev q80_6 (n:Qd) (b:Int) (Qe:Int) (far:List Int) (d1:Int) (xs1:List Int):=(runL (F80_s2 n b Qe far d1 xs1) (((n.Qb.length:Int)-0).toNat+1) (0,xs1))
abbrev q80_7 (n:Qd) (b:Int) (Qe:Int):=(runL (F80_s0 n b Qe) ((((q80_1 n).length:Int)-0).toNat+1) (0,(q80_1 n)))
abbrev q80_8 (n:Qd) (i41:Int):=(n.Qb.getD (i41+1).toNat default)
abbrev q80_9 (n:Qd):=(n.Qb.getD (Int.toNat 0) default)
theorem ok80 (n:Qd) (b:Int) (Qe:Int):(S80 n b Qe).ok Try.prog 80 :=
 fnG_ok mixed (fn:=Try.f80) (ct:=.seq (.no) (.seq (.reg [(3,.dat (.l 1 eInt (q80_1 n)))]) (.cut (ι:=List Int) (fun j=>(fun (far:List Int)=>(⟨[(1,some (.v (vI b))),(2,some (.v (vI Qe))),(3,some (.p 0 0)),(7,some (.h 3 0))],[(0,some (.box 26 [.h 1 0,.h 2 0])),(1,some (.shr none (.l 2 Qf n.Qb))),(2,some (.shr none (.l 2 Qg n.Qa))),(3,some (.own 3 (.l 1 eInt far)))],4⟩:St)) j) (fun j=>(fun (far:List Int)=>((F80_j0 n b Qe)=Lp.done j∧far.length=n.Qa.length)) j) (.seqk [(7,0)] (.no) (.blk (.loop (ι:=Nat×(Int×List Int)) (fun i=>(fun (i40:Int) (xs:List Int)=>(⟨[(1,some (.v (vI b))),(2,some (.v (vI Qe))),(3,some (.p 0 0)),(7,some (.h 3 0)),(8,some (.v (vI i40)))],[(0,some (.box 26 [.h 1 0,.h 2 0])),(1,some (.shr none (.l 2 Qf n.Qb))),(2,some (.shr none (.l 2 Qg n.Qa))),(3,some (.own 3 (.l 1 eInt xs)))],4⟩:St)) i.2.1 i.2.2) (fun i=>runL (F80_s0 n b Qe) i.1 i.2=(q80_7 n b Qe)∧(fun (i40:Int) (xs:List Int)=>(Int.toNat ((xs.length:Int)-i40)<i.1∧(0:Int)≤i40∧xs.length=(q80_1 n).length)) i.2.1 i.2.2) (fun i=>i.1) (((((q80_1 n).length:Int)-0).toNat+1),(0,(q80_1 n))) (fun i=>(fun (i40:Int) (xs:List Int)=>(.seq (.seq (.no) (.cond (.no) (.no))) (.seq (.blk (.reg [(3,.dat (.l 1 eInt (xs.set (i40).toNat (-1))))])) (.reg [(1,.bnd)])))) i.2.1 i.2.2)))) (fun j=>(fun (far:List Int)=>(.seq (.reg [(3,.dat (.l 1 eInt (far.set (b).toNat 0)))]) (.seq (.seqk [(3,0),(3,1),(7,0)] (.no) (.blk (.loop (ι:=Nat×(Int×List Int)) (fun i=>(fun (d1:Int) (xs1:List Int)=>(⟨[(2,some (.v (vI Qe))),(3,some (.p 0 0)),(7,some (.h 3 0)),(9,some (.v (vI d1)))],[(0,some (.box 26 [.h 1 0,.h 2 0])),(1,some (.shr none (.l 2 Qf n.Qb))),(2,some (.shr none (.l 2 Qg n.Qa))),(3,some (.own 3 (.l 1 eInt xs1)))],4⟩:St)) i.2.1 i.2.2) (fun i=>runL (F80_s1 n b Qe far) i.1 i.2=(q80_3 n b Qe far)∧(fun (d1:Int) (xs1:List Int)=>(Int.toNat ((xs1.length:Int)-d1)<i.1∧xs1.length=n.Qa.length∧(0:Int)≤d1∧xs1.length=(far.set (b).toNat 0).length)) i.2.1 i.2.2) (fun i=>i.1) (((((far.set (b).toNat 0).length:Int)-0).toNat+1),(0,(far.set (b).toNat 0))) (fun i=>(fun (d1:Int) (xs1:List Int)=>(.seq (.seq (.no) (.cond (.no) (.no))) (.seq (.blk (.seqk [(3,0),(3,1),(7,0)] (.no) (.blk (.loop (ι:=Nat×(Int×List Int)) (fun i=>(fun (i41:Int) (xs2:List Int)=>(⟨[(2,some (.v (vI Qe))),(3,some (.p 0 0)),(7,some (.h 3 0)),(9,some (.v (vI d1))),(10,some (.v (vI i41)))],[(0,some (.box 26 [.h 1 0,.h 2 0])),(1,some (.shr none (.l 2 Qf n.Qb))),(2,some (.shr none (.l 2 Qg n.Qa))),(3,some (.own 3 (.l 1 eInt xs2)))],4⟩:St)) i.2.1 i.2.2) (fun i=>runL (F80_s2 n b Qe far d1 xs1) i.1 i.2=(q80_6 n b Qe far d1 xs1)∧(fun (i41:Int) (xs2:List Int)=>(Int.toNat ((n.Qb.length:Int)-i41)<i.1∧xs2.length=n.Qa.length∧(i41<(n.Qb.length:Int)→0≤(q80_2 n i41).A∧(q80_2 n i41).A<(n.Qa.length:Int)∧0≤(q80_2 n i41).B∧(q80_2 n i41).B<(n.Qa.length:Int))∧(0:Int)≤i41∧xs2.length=xs1.length)) i.2.1 i.2.2) (fun i=>i.1) ((((n.Qb.length:Int)-0).toNat+1),(0,xs1)) (fun i=>(fun (i41:Int) (xs2:List Int)=>(.seq (.seq (.no) (.cond (.no) (.no))) (.seq (.blk (.seq (.no) (.seq (.seq (.no) (.cond (.no) (.no))) (.cut (ι:=List Int) (fun j=>(fun (xs3:List Int)=>(⟨[(2,some (.v (vI Qe))),(3,some (.p 0 0)),(7,some (.h 3 0)),(9,some (.v (vI d1))),(10,some (.v (vI i41))),(11,some (.p 4 0))],[(0,some (.box 26 [.h 1 0,.h 2 0])),(1,some (.shr none (.l 2 Qf n.Qb))),(2,some (.shr none (.l 2 Qg n.Qa))),(3,some (.own 3 (.l 1 eInt xs3))),(4,some (.box 36 [.v (vI ((q80_2 n i41).A)),.v (vI ((q80_2 n i41).B))]))],5⟩:St)) j) (fun j=>(fun (xs3:List Int)=>((F80_j9 n b Qe far d1 xs1 i41 xs2)=Lp.done j∧xs3.length=xs2.length)) j) (.seq (.no) (.cond (.reg [(4,.bnd),(6,.dat (.l 1 eInt (xs2.set ((q80_2 n i41).B).toNat (d1+1))))]) (.no))) (fun j=>(fun (xs3:List Int)=>(.seq (.no) (.cond (.reg [(4,.bnd),(6,.dat (.l 1 eInt (xs3.set ((q80_2 n i41).A).toNat (d1+1))))]) (.no)))) j))))) (.reg [(1,.bnd)])))) i.2.1 i.2.2))))) (.reg [(1,.bnd)])))) i.2.1 i.2.2)))) (.seq (.no) (.no))))) j)))) Try.func80 (fun (hp:FrameOk n∧0≤b∧b<(n.Qa.length:Int)∧n.Qa.length≤8)=>(fun (hpre0:FrameOk n) (hpre1:0≤b) (hpre2:b<(n.Qa.length:Int)) (hpre3:n.Qa.length≤8)=>ai ((by first | omega | (simp only [lens] at*<;> omega):0≤(n.Qa.length:Int)∧(n.Qa.length:Int)≤(n.Qa.length:Int)∧(8:Int)*(n.Qa.length:Int)≤281474976710656)) (ai ((MakeOK.mk eInt (0:Int) (by exact ai ir (trivial)):MakeOK 1 [.v (vI 0)] (n.Qa.length:Int).toNat (.l 1 eInt (q80_1 n)))) (ai (fun (_:(q80_1 n).length≤9223372036854775807)=>ai (ai (rfl) (ai (rfl) (ai (rfl) (ai (ir) (ai (ir) (ai (ir) ((ai (rfl:runL (F80_s0 n b Qe) ((((q80_1 n).length:Int)-0).toNat+1) (0,(q80_1 n))=(q80_7 n b Qe)) (ai ((Nat.lt_succ_self _:Int.toNat (((q80_1 n).length:Int)-0)<((((q80_1 n).length:Int)-0).toNat+1))) (ai ((by first | omega | (simp only [lens] at*<;> omega):(0:Int)≤0)) ((by first | omega | (simp only [lens] at*<;> omega):(q80_1 n).length=(q80_1 n).length))))))))))):((.int .i64 b:Value)=.int .i64 b)∧((.int .i64 Qe:Value)=.int .i64 Qe)∧((.int .i64 0:Value)=.int .i64 0)∧(q80_4 n)∧(q80_5 n)∧(Imp (.l 1 eInt (q80_1 n)) (.l 1 eInt (q80_1 n)))∧(runL (F80_s0 n b Qe) ((((q80_1 n).length:Int)-0).toNat+1) (0,(q80_1 n))=(q80_7 n b Qe)∧Int.toNat (((q80_1 n).length:Int)-0)<((((q80_1 n).length:Int)-0).toNat+1)∧(0:Int)≤0∧(q80_1 n).length=(q80_1 n).length)) (fun (i0:Nat×(Int×List Int)) (hi0:runL (F80_s0 n b Qe) i0.1 i0.2=(q80_7 n b Qe)∧(fun (i40:Int) (xs:List Int)=>(Int.toNat ((xs.length:Int)-i40)<i0.1∧(0:Int)≤i40∧xs.length=(q80_1 n).length)) i0.2.1 i0.2.2)=>(fun (m0:Nat) (i40:Int) (xs:List Int) (hI0:runL (F80_s0 n b Qe) (m0+1) (i40,xs)=(q80_7 n b Qe)) (_:Int.toNat ((xs.length:Int)-i40)<m0+1) (hl0:m0<i0.1) (_:(0:Int)≤i40) (_:xs.length=(q80_1 n).length)=>ai (fun h2:(decide (i40<(xs.length:Int)))=true=>(fun _:i40<(xs.length:Int)=>ai ((by first | omega | (simp only [lens] at*<;> omega):0≤i40∧i40<(xs.length:Int))) (ai ((SetOK.mk eInt xs (-1) rfl (by exact ai ir (trivial)):SetOK (.l 1 eInt xs) (i40).toNat (eInt (xs.getD i40.toNat default)) [.v (vI (-1))] (.l 1 eInt (xs.set (i40).toNat (-1))))) (ai ((by unfold i64ok; first | omega | (simp only [lens] at*<;> omega):i64ok (i40+1))) (Exists.intro (p:=fun j:Nat×(Int×List Int)=>(fun (i40_:Int) (xs_:List Int)=>(((.int .i64 b:Value)=.int .i64 b)∧((.int .i64 Qe:Value)=.int .i64 Qe)∧((.int .i64 (i40+1):Value)=.int .i64 i40_)∧(q80_4 n)∧(q80_5 n)∧(Imp (.l 1 eInt (xs.set (i40).toNat (-1))) (.l 1 eInt xs_))∧((runL (F80_s0 n b Qe) j.1 j.2=(q80_7 n b Qe)∧Int.toNat ((xs_.length:Int)-i40_)<j.1∧(0:Int)≤i40_∧xs_.length=(q80_1 n).length)∧j.1<i0.1))) j.2.1 j.2.2) (m0,((i40+1),(xs.set (i40).toNat (-1)))) (ai (rfl) (ai (rfl) (ai (rfl) (ai (ir) (ai (ir) (ai (ir) (ai (ai (runL_next hI0 (condT h2 (rfl))) (ai ((by first | omega | (simp only [lens] at*<;> omega):Int.toNat (((xs.set (i40).toNat (-1)).length:Int)-(i40+1))<m0)) (ai ((by first | omega | (simp only [lens] at*<;> omega):(0:Int)≤(i40+1))) ((by first | omega | (simp only [lens] at*<;> omega):(xs.set (i40).toNat (-1)).length=(q80_1 n).length))))) hl0))))))))))) (of_decide_eq_true h2)) (fun h2:(decide (i40<(xs.length:Int)))=false=>(fun _:¬ i40<(xs.length:Int)=>(fun hD0_3:(q80_7 n b Qe)=Lp.done (i40,xs)=>Exists.intro (p:=fun j:List Int=>(fun (far_:List Int)=>(((.int .i64 b:Value)=.int .i64 b)∧((.int .i64 Qe:Value)=.int .i64 Qe)∧(q80_4 n)∧(q80_5 n)∧(Imp (.l 1 eInt xs) (.l 1 eInt far_))∧(F80_j0 n b Qe)=Lp.done j∧far_.length=n.Qa.length)) j) (xs) (ai (rfl) (ai (rfl) (ai (ir) (ai (ir) (ai (ir) (ai (Eq.symm (finD hD0_3 (rfl))) ((by first | omega | (simp only [lens] at*<;> omega):xs.length=n.Qa.length))))))))) (runL_done hI0 (condF h2 (rfl)))) (of_decide_eq_false h2))) (i0.1-1) i0.2.1 i0.2.2 (hd1 hi0.1 hi0.2.1) (hd2 hi0.2.1) (hd3 hi0.2.1) hi0.2.2.1 hi0.2.2.2)) (fun (j:List Int) (hj:(fun (far:List Int)=>((F80_j0 n b Qe)=Lp.done j∧far.length=n.Qa.length)) j)=>(fun (far:List Int) (hJ0_4:(F80_j0 n b Qe)=Lp.done far) (_:far.length=n.Qa.length)=>ai ((by first | omega | (simp only [lens] at*<;> omega):0≤b∧b<(far.length:Int))) (ai ((SetOK.mk eInt far 0 rfl (by exact ai ir (trivial)):SetOK (.l 1 eInt far) (b).toNat (eInt (far.getD b.toNat default)) [.v (vI 0)] (.l 1 eInt (far.set (b).toNat 0)))) (fun (_:n.Qb.length≤9223372036854775807)=>fun (_:n.Qa.length≤9223372036854775807)=>fun (_:(far.set (b).toNat 0).length≤9223372036854775807)=>ai (ai (rfl) (ai (rfl) (ai (ir) (ai (ir) (ai (ir) ((ai (rfl:runL (F80_s1 n b Qe far) ((((far.set (b).toNat 0).length:Int)-0).toNat+1) (0,(far.set (b).toNat 0))=(q80_3 n b Qe far)) (ai ((Nat.lt_succ_self _:Int.toNat (((far.set (b).toNat 0).length:Int)-0)<((((far.set (b).toNat 0).length:Int)-0).toNat+1))) (ai ((by first | omega | (simp only [lens] at*<;> omega):(far.set (b).toNat 0).length=n.Qa.length)) (ai ((by first | omega | (simp only [lens] at*<;> omega):(0:Int)≤0)) ((by first | omega | (simp only [lens] at*<;> omega):(far.set (b).toNat 0).length=(far.set (b).toNat 0).length))))))))))):((.int .i64 Qe:Value)=.int .i64 Qe)∧((.int .i64 0:Value)=.int .i64 0)∧(q80_4 n)∧(q80_5 n)∧(Imp (.l 1 eInt (far.set (b).toNat 0)) (.l 1 eInt (far.set (b).toNat 0)))∧(runL (F80_s1 n b Qe far) ((((far.set (b).toNat 0).length:Int)-0).toNat+1) (0,(far.set (b).toNat 0))=(q80_3 n b Qe far)∧Int.toNat (((far.set (b).toNat 0).length:Int)-0)<((((far.set (b).toNat 0).length:Int)-0).toNat+1)∧(far.set (b).toNat 0).length=n.Qa.length∧(0:Int)≤0∧(far.set (b).toNat 0).length=(far.set (b).toNat 0).length)) (fun (i1:Nat×(Int×List Int)) (hi1:runL (F80_s1 n b Qe far) i1.1 i1.2=(q80_3 n b Qe far)∧(fun (d1:Int) (xs1:List Int)=>(Int.toNat ((xs1.length:Int)-d1)<i1.1∧xs1.length=n.Qa.length∧(0:Int)≤d1∧xs1.length=(far.set (b).toNat 0).length)) i1.2.1 i1.2.2)=>(fun (m1:Nat) (d1:Int) (xs1:List Int) (hI1:runL (F80_s1 n b Qe far) (m1+1) (d1,xs1)=(q80_3 n b Qe far)) (_:Int.toNat ((xs1.length:Int)-d1)<m1+1) (hl1:m1<i1.1) (_:xs1.length=n.Qa.length) (_:(0:Int)≤d1) (_:xs1.length=(far.set (b).toNat 0).length)=>ai (fun h6:(decide (d1<(xs1.length:Int)))=true=>(fun _:d1<(xs1.length:Int)=>fun (_:n.Qb.length≤9223372036854775807)=>fun (_:n.Qa.length≤9223372036854775807)=>fun (_:xs1.length≤9223372036854775807)=>ai (ai (rfl) (ai (rfl) (ai (rfl) (ai (ir) (ai (ir) (ai (ir) ((ai (rfl:runL (F80_s2 n b Qe far d1 xs1) (((n.Qb.length:Int)-0).toNat+1) (0,xs1)=(q80_6 n b Qe far d1 xs1)) (ai ((Nat.lt_succ_self _:Int.toNat ((n.Qb.length:Int)-0)<(((n.Qb.length:Int)-0).toNat+1))) (ai ((by first | omega | (simp only [lens] at*<;> omega) | exact fun hi=>link_in (by assumption) (by omega) hi:xs1.length=n.Qa.length)) (ai ((by first | omega | (simp only [lens] at*<;> omega) | exact fun hi=>link_in (by assumption) (by omega) hi:0<(n.Qb.length:Int)→0≤(q80_9 n).A∧(q80_9 n).A<(n.Qa.length:Int)∧0≤(q80_9 n).B∧(q80_9 n).B<(n.Qa.length:Int))) (ai ((by first | omega | (simp only [lens] at*<;> omega) | exact fun hi=>link_in (by assumption) (by omega) hi:(0:Int)≤0)) ((by first | omega | (simp only [lens] at*<;> omega) | exact fun hi=>link_in (by assumption) (by omega) hi:xs1.length=xs1.length))))))))))))):((.int .i64 Qe:Value)=.int .i64 Qe)∧((.int .i64 d1:Value)=.int .i64 d1)∧((.int .i64 0:Value)=.int .i64 0)∧(q80_4 n)∧(q80_5 n)∧(Imp (.l 1 eInt xs1) (.l 1 eInt xs1))∧(runL (F80_s2 n b Qe far d1 xs1) (((n.Qb.length:Int)-0).toNat+1) (0,xs1)=(q80_6 n b Qe far d1 xs1)∧Int.toNat ((n.Qb.length:Int)-0)<(((n.Qb.length:Int)-0).toNat+1)∧xs1.length=n.Qa.length∧(0<(n.Qb.length:Int)→0≤(q80_9 n).A∧(q80_9 n).A<(n.Qa.length:Int)∧0≤(q80_9 n).B∧(q80_9 n).B<(n.Qa.length:Int))∧(0:Int)≤0∧xs1.length=xs1.length)) (fun (i2:Nat×(Int×List Int)) (hi2:runL (F80_s2 n b Qe far d1 xs1) i2.1 i2.2=(q80_6 n b Qe far d1 xs1)∧(fun (i41:Int) (xs2:List Int)=>(Int.toNat ((n.Qb.length:Int)-i41)<i2.1∧xs2.length=n.Qa.length∧(i41<(n.Qb.length:Int)→0≤(q80_2 n i41).A∧(q80_2 n i41).A<(n.Qa.length:Int)∧0≤(q80_2 n i41).B∧(q80_2 n i41).B<(n.Qa.length:Int))∧(0:Int)≤i41∧xs2.length=xs1.length)) i2.2.1 i2.2.2)=>(fun (m2:Nat) (i41:Int) (xs2:List Int) (hI2:runL (F80_s2 n b Qe far d1 xs1) (m2+1) (i41,xs2)=(q80_6 n b Qe far d1 xs1)) (_:Int.toNat ((n.Qb.length:Int)-i41)<m2+1) (hl2:m2<i2.1) (_:xs2.length=n.Qa.length) (_:i41<(n.Qb.length:Int)→0≤(q80_2 n i41).A∧(q80_2 n i41).A<(n.Qa.length:Int)∧0≤(q80_2 n i41).B∧(q80_2 n i41).B<(n.Qa.length:Int)) (_:(0:Int)≤i41) (_:xs2.length=xs1.length)=>ai (fun h8:(decide (i41<(n.Qb.length:Int)))=true=>(fun _:i41<(n.Qb.length:Int)=>ai ((by first | omega | (simp only [lens] at*<;> omega):0≤i41∧i41<(n.Qb.length:Int))) (ai (fun h9:(i41==Qe)=true=>(fun _:i41=Qe=>ai ((by unfold i64ok; first | omega | (simp only [lens] at*<;> omega):i64ok (i41+1))) (Exists.intro (p:=fun j:Nat×(Int×List Int)=>(fun (i41_:Int) (xs2_:List Int)=>(((.int .i64 Qe:Value)=.int .i64 Qe)∧((.int .i64 d1:Value)=.int .i64 d1)∧((.int .i64 (i41+1):Value)=.int .i64 i41_)∧(q80_4 n)∧(q80_5 n)∧(Imp (.l 1 eInt xs2) (.l 1 eInt xs2_))∧((runL (F80_s2 n b Qe far d1 xs1) j.1 j.2=(q80_6 n b Qe far d1 xs1)∧Int.toNat ((n.Qb.length:Int)-i41_)<j.1∧xs2_.length=n.Qa.length∧(i41_<(n.Qb.length:Int)→0≤(n.Qb.getD i41_.toNat default).A∧(n.Qb.getD i41_.toNat default).A<(n.Qa.length:Int)∧0≤(n.Qb.getD i41_.toNat default).B∧(n.Qb.getD i41_.toNat default).B<(n.Qa.length:Int))∧(0:Int)≤i41_∧xs2_.length=xs1.length)∧j.1<i2.1))) j.2.1 j.2.2) (m2,((i41+1),xs2)) (ai (rfl) (ai (rfl) (ai (rfl) (ai (ir) (ai (ir) (ai (ir) (ai (ai (runL_next hI2 (condT h8 (condT h9 (rfl)))) (ai ((by first | omega | (simp only [lens] at*<;> omega) | exact fun hi=>link_in (by assumption) (by omega) hi:Int.toNat ((n.Qb.length:Int)-(i41+1))<m2)) (ai ((by first | omega | (simp only [lens] at*<;> omega) | exact fun hi=>link_in (by assumption) (by omega) hi:xs2.length=n.Qa.length)) (ai ((by first | omega | (simp only [lens] at*<;> omega) | exact fun hi=>link_in (by assumption) (by omega) hi:(i41+1)<(n.Qb.length:Int)→0≤(q80_8 n i41).A∧(q80_8 n i41).A<(n.Qa.length:Int)∧0≤(q80_8 n i41).B∧(q80_8 n i41).B<(n.Qa.length:Int))) (ai ((by first | omega | (simp only [lens] at*<;> omega) | exact fun hi=>link_in (by assumption) (by omega) hi:(0:Int)≤(i41+1))) ((by first | omega | (simp only [lens] at*<;> omega) | exact fun hi=>link_in (by assumption) (by omega) hi:xs2.length=xs1.length))))))) hl2))))))))) (eq_of_beq h9)) (fun h9:(i41==Qe)=false=>(fun _:¬ i41=Qe=>ai (ai ((by first | omega | (simp only [lens] at*<;> omega):0≤(q80_2 n i41).A∧(q80_2 n i41).A<(xs2.length:Int))) (ai ((fun k10:((xs2.getD ((q80_2 n i41).A).toNat default)==d1)=true=>(fun _:(xs2.getD ((q80_2 n i41).A).toNat default)=d1=>(by first | omega | (simp only [lens] at*<;> omega):0≤(q80_2 n i41).B∧(q80_2 n i41).B<(xs2.length:Int))) (eq_of_beq k10))) (ai (fun h11:(bif ((xs2.getD ((q80_2 n i41).A).toNat default)==d1) then decide ((xs2.getD ((q80_2 n i41).B).toNat default)<0) else false)=true=>(fun _:(xs2.getD ((q80_2 n i41).B).toNat default)<0=>(fun _:(xs2.getD ((q80_2 n i41).A).toNat default)=d1=>ai ((by unfold i64ok; first | omega | (simp only [lens] at*<;> omega):i64ok (d1+1))) (ai ((by first | omega | (simp only [lens] at*<;> omega):0≤(q80_2 n i41).B∧(q80_2 n i41).B<(xs2.length:Int))) (ai ((SetOK.mk eInt xs2 (d1+1) rfl (by exact ai ir (trivial)):SetOK (.l 1 eInt xs2) ((q80_2 n i41).B).toNat (eInt (xs2.getD ((q80_2 n i41).B).toNat default)) [.v (vI (d1+1))] (.l 1 eInt (xs2.set ((q80_2 n i41).B).toNat (d1+1))))) (Exists.intro (p:=fun j:List Int=>(fun (xs3_:List Int)=>(((.int .i64 Qe:Value)=.int .i64 Qe)∧((.int .i64 d1:Value)=.int .i64 d1)∧((.int .i64 i41:Value)=.int .i64 i41)∧(q80_4 n)∧(q80_5 n)∧(Imp (.l 1 eInt (xs2.set ((q80_2 n i41).B).toNat (d1+1))) (.l 1 eInt xs3_))∧((.int .i64 ((q80_2 n i41).A):Value)=.int .i64 ((q80_2 n i41).A))∧((.int .i64 ((q80_2 n i41).B):Value)=.int .i64 ((q80_2 n i41).B))∧(F80_j9 n b Qe far d1 xs1 i41 xs2)=Lp.done j∧xs3_.length=xs2.length)) j) ((xs2.set ((q80_2 n i41).B).toNat (d1+1))) (ai (rfl) (ai (rfl) (ai (rfl) (ai (ir) (ai (ir) (ai (ir) (ai (rfl) (ai (rfl) (ai (Eq.symm (condT h11 (rfl))) ((by first | omega | (simp only [lens] at*<;> omega):(xs2.set ((q80_2 n i41).B).toNat (d1+1)).length=xs2.length))))))))))))))) (eq_of_beq (andT1 h11))) (of_decide_eq_true (andT2 h11))) (fun h11:(bif ((xs2.getD ((q80_2 n i41).A).toNat default)==d1) then decide ((xs2.getD ((q80_2 n i41).B).toNat default)<0) else false)=false=>Exists.intro (p:=fun j:List Int=>(fun (xs3_:List Int)=>(((.int .i64 Qe:Value)=.int .i64 Qe)∧((.int .i64 d1:Value)=.int .i64 d1)∧((.int .i64 i41:Value)=.int .i64 i41)∧(q80_4 n)∧(q80_5 n)∧(Imp (.l 1 eInt xs2) (.l 1 eInt xs3_))∧((.int .i64 ((q80_2 n i41).A):Value)=.int .i64 ((q80_2 n i41).A))∧((.int .i64 ((q80_2 n i41).B):Value)=.int .i64 ((q80_2 n i41).B))∧(F80_j9 n b Qe far d1 xs1 i41 xs2)=Lp.done j∧xs3_.length=xs2.length)) j) (xs2) (ai (rfl) (ai (rfl) (ai (rfl) (ai (ir) (ai (ir) (ai (ir) (ai (rfl) (ai (rfl) (ai (Eq.symm (condF h11 (rfl))) ((by first | omega | (simp only [lens] at*<;> omega):xs2.length=xs2.length))))))))))))))) (fun (j:List Int) (hj:(fun (xs3:List Int)=>((F80_j9 n b Qe far d1 xs1 i41 xs2)=Lp.done j∧xs3.length=xs2.length)) j)=>(fun (xs3:List Int) (hJ9_12:(F80_j9 n b Qe far d1 xs1 i41 xs2)=Lp.done xs3) (_:xs3.length=xs2.length)=>ai ((by first | omega | (simp only [lens] at*<;> omega):0≤(q80_2 n i41).B∧(q80_2 n i41).B<(xs3.length:Int))) (ai ((fun k13:((xs3.getD ((q80_2 n i41).B).toNat default)==d1)=true=>(fun _:(xs3.getD ((q80_2 n i41).B).toNat default)=d1=>(by first | omega | (simp only [lens] at*<;> omega):0≤(q80_2 n i41).A∧(q80_2 n i41).A<(xs3.length:Int))) (eq_of_beq k13))) (ai (fun h14:(bif ((xs3.getD ((q80_2 n i41).B).toNat default)==d1) then decide ((xs3.getD ((q80_2 n i41).A).toNat default)<0) else false)=true=>(fun _:(xs3.getD ((q80_2 n i41).A).toNat default)<0=>(fun _:(xs3.getD ((q80_2 n i41).B).toNat default)=d1=>ai ((by unfold i64ok; first | omega | (simp only [lens] at*<;> omega):i64ok (d1+1))) (ai ((by first | omega | (simp only [lens] at*<;> omega):0≤(q80_2 n i41).A∧(q80_2 n i41).A<(xs3.length:Int))) (ai ((SetOK.mk eInt xs3 (d1+1) rfl (by exact ai ir (trivial)):SetOK (.l 1 eInt xs3) ((q80_2 n i41).A).toNat (eInt (xs3.getD ((q80_2 n i41).A).toNat default)) [.v (vI (d1+1))] (.l 1 eInt (xs3.set ((q80_2 n i41).A).toNat (d1+1))))) (ai ((by unfold i64ok; first | omega | (simp only [lens] at*<;> omega):i64ok (i41+1))) (Exists.intro (p:=fun j:Nat×(Int×List Int)=>(fun (i41_:Int) (xs2_:List Int)=>(((.int .i64 Qe:Value)=.int .i64 Qe)∧((.int .i64 d1:Value)=.int .i64 d1)∧((.int .i64 (i41+1):Value)=.int .i64 i41_)∧(q80_4 n)∧(q80_5 n)∧(Imp (.l 1 eInt (xs3.set ((q80_2 n i41).A).toNat (d1+1))) (.l 1 eInt xs2_))∧((runL (F80_s2 n b Qe far d1 xs1) j.1 j.2=(q80_6 n b Qe far d1 xs1)∧Int.toNat ((n.Qb.length:Int)-i41_)<j.1∧xs2_.length=n.Qa.length∧(i41_<(n.Qb.length:Int)→0≤(n.Qb.getD i41_.toNat default).A∧(n.Qb.getD i41_.toNat default).A<(n.Qa.length:Int)∧0≤(n.Qb.getD i41_.toNat default).B∧(n.Qb.getD i41_.toNat default).B<(n.Qa.length:Int))∧(0:Int)≤i41_∧xs2_.length=xs1.length)∧j.1<i2.1))) j.2.1 j.2.2) (m2,((i41+1),(xs3.set ((q80_2 n i41).A).toNat (d1+1)))) (ai (rfl) (ai (rfl) (ai (rfl) (ai (ir) (ai (ir) (ai (ir) (ai (ai (runL_next hI2 (condT h8 (condF h9 (finD hJ9_12 (condT h14 (rfl)))))) (ai ((by first | omega | (simp only [lens] at*<;> omega) | exact fun hi=>link_in (by assumption) (by omega) hi:Int.toNat ((n.Qb.length:Int)-(i41+1))<m2)) (ai ((by first | omega | (simp only [lens] at*<;> omega) | exact fun hi=>link_in (by assumption) (by omega) hi:(xs3.set ((q80_2 n i41).A).toNat (d1+1)).length=n.Qa.length)) (ai ((by first | omega | (simp only [lens] at*<;> omega) | exact fun hi=>link_in (by assumption) (by omega) hi:(i41+1)<(n.Qb.length:Int)→0≤(q80_8 n i41).A∧(q80_8 n i41).A<(n.Qa.length:Int)∧0≤(q80_8 n i41).B∧(q80_8 n i41).B<(n.Qa.length:Int))) (ai ((by first | omega | (simp only [lens] at*<;> omega) | exact fun hi=>link_in (by assumption) (by omega) hi:(0:Int)≤(i41+1))) ((by first | omega | (simp only [lens] at*<;> omega) | exact fun hi=>link_in (by assumption) (by omega) hi:(xs3.set ((q80_2 n i41).A).toNat (d1+1)).length=xs1.length))))))) hl2)))))))))))) (eq_of_beq (andT1 h14))) (of_decide_eq_true (andT2 h14))) (fun h14:(bif ((xs3.getD ((q80_2 n i41).B).toNat default)==d1) then decide ((xs3.getD ((q80_2 n i41).A).toNat default)<0) else false)=false=>ai ((by unfold i64ok; first | omega | (simp only [lens] at*<;> omega):i64ok (i41+1))) (Exists.intro (p:=fun j:Nat×(Int×List Int)=>(fun (i41_:Int) (xs2_:List Int)=>(((.int .i64 Qe:Value)=.int .i64 Qe)∧((.int .i64 d1:Value)=.int .i64 d1)∧((.int .i64 (i41+1):Value)=.int .i64 i41_)∧(q80_4 n)∧(q80_5 n)∧(Imp (.l 1 eInt xs3) (.l 1 eInt xs2_))∧((runL (F80_s2 n b Qe far d1 xs1) j.1 j.2=(q80_6 n b Qe far d1 xs1)∧Int.toNat ((n.Qb.length:Int)-i41_)<j.1∧xs2_.length=n.Qa.length∧(i41_<(n.Qb.length:Int)→0≤(n.Qb.getD i41_.toNat default).A∧(n.Qb.getD i41_.toNat default).A<(n.Qa.length:Int)∧0≤(n.Qb.getD i41_.toNat default).B∧(n.Qb.getD i41_.toNat default).B<(n.Qa.length:Int))∧(0:Int)≤i41_∧xs2_.length=xs1.length)∧j.1<i2.1))) j.2.1 j.2.2) (m2,((i41+1),xs3)) (ai (rfl) (ai (rfl) (ai (rfl) (ai (ir) (ai (ir) (ai (ir) (ai (ai (runL_next hI2 (condT h8 (condF h9 (finD hJ9_12 (condF h14 (rfl)))))) (ai ((by first | omega | (simp only [lens] at*<;> omega) | exact fun hi=>link_in (by assumption) (by omega) hi:Int.toNat ((n.Qb.length:Int)-(i41+1))<m2)) (ai ((by first | omega | (simp only [lens] at*<;> omega) | exact fun hi=>link_in (by assumption) (by omega) hi:xs3.length=n.Qa.length)) (ai ((by first | omega | (simp only [lens] at*<;> omega) | exact fun hi=>link_in (by assumption) (by omega) hi:(i41+1)<(n.Qb.length:Int)→0≤(q80_8 n i41).A∧(q80_8 n i41).A<(n.Qa.length:Int)∧0≤(q80_8 n i41).B∧(q80_8 n i41).B<(n.Qa.length:Int))) (ai ((by first | omega | (simp only [lens] at*<;> omega) | exact fun hi=>link_in (by assumption) (by omega) hi:(0:Int)≤(i41+1))) ((by first | omega | (simp only [lens] at*<;> omega) | exact fun hi=>link_in (by assumption) (by omega) hi:xs3.length=xs1.length))))))) hl2)))))))))))) j hj.1 hj.2)) (beqF h9)))) (of_decide_eq_true h8)) (fun h8:(decide (i41<(n.Qb.length:Int)))=false=>(fun _:¬ i41<(n.Qb.length:Int)=>(fun hD2_15:(q80_6 n b Qe far d1 xs1)=Lp.done (i41,xs2)=>ai ((by unfold i64ok; first | omega | (simp only [lens] at*<;> omega):i64ok (d1+1))) (Exists.intro (p:=fun j:Nat×(Int×List Int)=>(fun (d1_:Int) (xs1_:List Int)=>(((.int .i64 Qe:Value)=.int .i64 Qe)∧((.int .i64 (d1+1):Value)=.int .i64 d1_)∧(q80_4 n)∧(q80_5 n)∧(Imp (.l 1 eInt xs2) (.l 1 eInt xs1_))∧((runL (F80_s1 n b Qe far) j.1 j.2=(q80_3 n b Qe far)∧Int.toNat ((xs1_.length:Int)-d1_)<j.1∧xs1_.length=n.Qa.length∧(0:Int)≤d1_∧xs1_.length=(far.set (b).toNat 0).length)∧j.1<i1.1))) j.2.1 j.2.2) (m1,((d1+1),xs2)) (ai (rfl) (ai (rfl) (ai (ir) (ai (ir) (ai (ir) (ai (ai (runL_next hI1 (condT h6 (finD hD2_15 (rfl)))) (ai ((by first | omega | (simp only [lens] at*<;> omega):Int.toNat ((xs2.length:Int)-(d1+1))<m1)) (ai ((by first | omega | (simp only [lens] at*<;> omega):xs2.length=n.Qa.length)) (ai ((by first | omega | (simp only [lens] at*<;> omega):(0:Int)≤(d1+1))) ((by first | omega | (simp only [lens] at*<;> omega):xs2.length=(far.set (b).toNat 0).length)))))) hl1)))))))) (runL_done hI2 (condF h8 (rfl)))) (of_decide_eq_false h8))) (i2.1-1) i2.2.1 i2.2.2 (hd1 hi2.1 hi2.2.1) (hd2 hi2.2.1) (hd3 hi2.2.1) hi2.2.2.1 hi2.2.2.2.1 hi2.2.2.2.2.1 hi2.2.2.2.2.2)) (of_decide_eq_true h6)) (fun h6:(decide (d1<(xs1.length:Int)))=false=>(fun _:¬ d1<(xs1.length:Int)=>(fun hD1_16:(q80_3 n b Qe far)=Lp.done (d1,xs1)=>(fun hF:(xs1:List Int)=(F80 n b Qe)=>ai (Imp.of_eq (congrArg (fun r:List Int=>Dat.l 1 eInt r) hF)) (trivial)) (finD hJ0_4 (finD hD1_16 (rfl)))) (runL_done hI1 (condF h6 (rfl)))) (of_decide_eq_false h6))) (i1.1-1) i1.2.1 i1.2.2 (hd1 hi1.1 hi1.2.1) (hd2 hi1.2.1) (hd3 hi1.2.1) hi1.2.2.1 hi1.2.2.2.1 hi1.2.2.2.2)))) j hj.1 hj.2)))) hp.1 hp.2.1 hp.2.2.1 hp.2.2.2) (by kernel_rfl)
theorem runL_meas {σ ρ:Type} {step:σ→Lp σ ρ} (I:σ→Prop) (mu:σ→Nat) (Q:σ→Prop) (h:∀ s,I s→(step s=.done s∧Q s)∨∃ s',step s=.next s'∧I s'∧mu s'<mu s):∀ (m:Nat) (s:σ),I s→mu s<m→∃ s',runL step m s=.done s'∧I s'∧Q s'
 | 0,s,_,hm=>by omega
 | m+1,s,hs,hm=>by
  rcases h s hs with ⟨e,hq⟩ | ⟨s',e,hi,hl⟩
  ·exact ⟨s,by simp only [runL,e],hs,hq⟩
  ·obtain ⟨s2,e2,h2⟩:=runL_meas I mu Q h m s' hi (by omega)
   exact ⟨s2,by simp only [runL,e]; exact e2,h2⟩
structure BI (n:Qd) (b w:Int) (f:Nat→Int):Prop where
 b0:f b.toNat=0
 low:∀ k,k<n.Qa.length→-1≤f k
 pred:∀ k:Nat,k<n.Qa.length→0<f k→∃ j:Nat,j<n.Qa.length∧adj n w j k∧f j=f k-1
 zero:∀ k:Nat,k<n.Qa.length→f k=0→(k:Int)=b
structure Outer (n:Qd) (b w:Int) (f:Nat→Int) (queue:List Int):Prop where
 bi:BI n b w f
 qr:∀ x∈queue,0≤x∧x<(n.Qa.length:Int)∧0≤f x.toNat
 srt:queue.Pairwise fun x y=>f x.toNat≤f y.toNat
 top:∀ x,queue.head?=some x→∀ k,k<n.Qa.length→f k≤f x.toNat+1
 fr:∀ j:Nat,j<n.Qa.length→0≤f j→(j:Int) ∉ queue→∀ k:Nat,k<n.Qa.length→adj n w j k→0≤f k∧f k≤f j+1
structure Inner (n:Qd) (b w:Int) (f:Nat→Int) (queue:List Int) (box d:Int) (v:Nat):Prop where
 bi:BI n b w f
 r0:0≤box
 r1:box<(n.Qa.length:Int)
 fb:f box.toNat=d
 d0:0≤d
 qr:∀ x∈queue,0≤x∧x<(n.Qa.length:Int)∧0≤f x.toNat
 srt:queue.Pairwise fun x y=>f x.toNat≤f y.toNat
 qd:∀ x∈queue,d≤f x.toNat
 top:∀ k,k<n.Qa.length→f k≤d+1
 fr:∀ j:Nat,j<n.Qa.length→0≤f j→(j:Int) ∉ queue→(j:Int)≠box→∀ k:Nat,k<n.Qa.length→adj n w j k→0≤f k∧f k≤f j+1
 part:∀ k:Nat,k<v→adj n w box k→0≤f k
theorem Outer.inner {n:Qd} {b w:Int} {f:Nat→Int} {box:Int} {q:List Int} (h:Outer n b w f (box :: q)):Inner n b w f q box (f box.toNat) 0 where
 bi:=h.bi
 r0:=(h.qr box List.mem_cons_self).1
 r1:=(h.qr box List.mem_cons_self).2.1
 fb:=rfl
 d0:=(h.qr box List.mem_cons_self).2.2
 qr:=fun x hx=>h.qr x (List.mem_cons_of_mem _ hx)
 srt:=(List.pairwise_cons.1 h.srt).2
 qd:=(List.pairwise_cons.1 h.srt).1
 top:=h.top box rfl
 fr:=fun j hj h0 hq hb=>h.fr j hj h0 fun hm=>by
  rcases List.mem_cons.1 hm with e | hm
  ·exact hb e
  ·exact hq hm
 part:=fun k hk=>by omega
theorem Inner.outer {n:Qd} {b w:Int} {f:Nat→Int} {box d:Int} {q:List Int} (h:Inner n b w f q box d n.Qa.length):Outer n b w f q where
 bi:=h.bi
 qr:=h.qr
 srt:=h.srt
 top:=fun x hx k hk=>by
  have:=h.qd x (List.mem_of_mem_head? hx)
  have:=h.top k hk
  omega
 fr:=fun j hj h0 hq k hk ha=>by
  by_cases e:(j:Int)=box
  ·rw [e] at ha
   refine ⟨h.part k hk ha,?_⟩
   have h1:=h.top k hk
   have h2:=h.fb
   rw [← e,nn] at h2
   omega
  ·exact h.fr j hj h0 hq e k hk ha
theorem Inner.skip {n:Qd} {b w:Int} {f:Nat→Int} {box d:Int} {q:List Int} {v:Nat} (h:Inner n b w f q box d v) (hv:0≤f v∨¬ adj n w box v):Inner n b w f q box d (v+1) :=
 ⟨h.bi,h.r0,h.r1,h.fb,h.d0,h.qr,h.srt,h.qd,h.top,h.fr,fun k hk ha=>by
  rcases Nat.lt_succ_iff_lt_or_eq.1 hk with hk | rfl
  ·exact h.part k hk ha
  ·rcases hv with hv | hv
   ·exact hv
   ·exact absurd ha hv⟩
theorem Inner.push {n:Qd} {b w:Int} {f g:Nat→Int} {box d:Int} {q:List Int} {v:Nat} (h:Inner n b w f q box d v) (hvl:v<n.Qa.length) (hn:f v<0) (ha:adj n w box v) (hg:g v=d+1) (hgn:∀ k,k≠v→g k=f k):Inner n b w g (q++[(v:Int)]) box d (v+1):=by
 have hd:=h.d0
 have hvis:∀ k,0≤f k→g k=f k:=fun k hk=>hgn k fun e=>by rw [e] at hk; omega
 have hbv:Int.toNat box≠v:=fun e=>by have:=h.fb; rw [e] at this; omega
 have hqv:∀ x∈q,g x.toNat=f x.toNat:=fun x hx=>hvis _ (h.qr x hx).2.2
 refine ⟨⟨?_,fun k hk=>?_,fun k hk h0=>?_,fun k hk h0=>?_⟩,h.r0,h.r1,?_,hd,fun x hx=>?_,?_,fun x hx=>?_,fun k hk=>?_,fun j hj h0 hq hb k hk hadj=>?_,fun k hk hadj=>?_⟩
 ·rw [hvis _ (by rw [h.bi.b0]; omega)]; exact h.bi.b0
 ·by_cases e:k=v
  ·rw [e,hg]; omega
  ·rw [hgn k e]; exact h.bi.low k hk
 ·by_cases e:k=v
  ·subst e
   refine ⟨Int.toNat box,by have:=h.r0; have:=h.r1; omega,by have:=h.r0; rw [Int.toNat_of_nonneg this]; exact ha,?_⟩
   rw [hgn _ hbv,h.fb,hg]; omega
  ·rw [hgn k e] at h0 ⊢
   obtain ⟨j,h1,h2,h3⟩:=h.bi.pred k hk h0
   exact ⟨j,h1,h2,by rw [hvis j (by omega)]; exact h3⟩
 ·by_cases e:k=v
  ·rw [e,hg] at h0; omega
  ·rw [hgn k e] at h0; exact h.bi.zero k hk h0
 ·rw [hgn _ hbv]; exact h.fb
 ·rcases List.mem_append.1 hx with hx | hx
  ·rw [hqv x hx]; exact h.qr x hx
  ·rw [List.mem_singleton.1 hx,nn,hg]; omega
 ·refine List.pairwise_append.2 ⟨?_,by simp,fun x hx y hy=>?_⟩
  ·exact h.srt.imp_of_mem fun {x y} hx hy hxy=>by rw [hqv x hx,hqv y hy]; exact hxy
  ·rw [List.mem_singleton.1 hy,nn,hg,hqv x hx]
   have:=h.qr x hx
   exact h.top _ (by omega)
 ·rcases List.mem_append.1 hx with hx | hx
  ·rw [hqv x hx]; exact h.qd x hx
  ·rw [List.mem_singleton.1 hx,nn,hg]; omega
 ·by_cases e:k=v
  ·rw [e,hg]; omega
  ·rw [hgn k e]; exact h.top k hk
 ·have hjv:j≠v:=fun e=>hq (List.mem_append_right _ (by rw [e]; exact List.mem_singleton_self _))
  rw [hgn j hjv] at h0 ⊢
  have:=h.fr j hj h0 (fun hm=>hq (List.mem_append_left _ hm)) hb k hk hadj
  rw [hvis k this.1]; exact this
 ·by_cases e:k=v
  ·rw [e,hg]; omega
  ·rw [hgn k e]
   exact h.part k (by omega) hadj
theorem Outer.init {n:Qd} {b w:Int} (h0:0≤b) (h1:b<(n.Qa.length:Int)) (f:Nat→Int) (hb:f b.toNat=0) (hn:∀ k,k<n.Qa.length→k≠Int.toNat b→f k=-1):Outer n b w f [b]:=by
 have hall:∀ k,k<n.Qa.length→f k≤0∧-1≤f k:=fun k hk=>by
  by_cases e:k=Int.toNat b
  ·rw [e,hb]; omega
  ·rw [hn k hk e]; omega
 refine ⟨⟨hb,fun k hk=>(hall k hk).2,fun k hk h=>by have:=(hall k hk).1; omega,fun k hk h=>?_⟩,fun x hx=>?_,by simp,fun x hx k hk=>?_,fun j hj h hq=>?_⟩
 ·by_cases e:k=Int.toNat b
  ·omega
  ·rw [hn k hk e] at h; omega
 ·rw [List.mem_singleton.1 hx,hb]; omega
 ·simp only [List.head?_cons,Option.some.injEq] at hx
  subst hx
  rw [hb]
  have:=(hall k hk).1; omega
 ·exfalso
  by_cases e:j=Int.toNat b
  ·exact hq (by rw [e,Int.toNat_of_nonneg h0]; exact List.mem_singleton_self _)
  ·rw [hn j hj e] at h; omega
theorem Outer.dist {n:Qd} {b w:Int} {xs:List Int} (hl:xs.length=n.Qa.length) (h:Outer n b w (fun k=>xs.getD k default) []):IsDist n b w xs :=
 ⟨hl,h.bi.b0,h.bi.low,h.bi.pred,h.bi.zero,fun j k hj hk ha h0=>h.fr j hj h0 (by simp) k hk ha⟩
theorem implFar_fill (n:Qd) (b w:Int):F41_j0 n b w=.done (List.replicate n.Qa.length (-1)):=by
 unfold F41_j0
 have h:=runL_rule (step:=F41_s0 n b w) (fun (k:Nat) (s:List Int)=>((k:Int),s)) n.Qa.length (fun k s=>s.length=n.Qa.length∧FillI s k) (fun _=>False)
  (fun k s hk ⟨h1,h2⟩=>.inl ⟨s.set k (-1),by simp only [F41_s0,nn,List.length_replicate,ltD hk,cond_true]; rfl,by simp [h1],by have:=h2.next (by omega) (by omega); rwa [nn] at this⟩)
  (fun s _=>by simp [F41_s0]) n.Qa.length 0 (List.replicate n.Qa.length 0) (by omega) ⟨by simp,FillI.zero _⟩ (n.Qa.length+1) (Nat.lt_succ_self _)
 rcases h with ⟨s,h,h1,h2⟩ | ⟨_,_,h⟩
 ·have h:runL (F41_s0 n b w) (n.Qa.length+1) (0,List.replicate n.Qa.length 0)=.done ((n.Qa.length:Int),s):=h
  simp only [nn,List.length_replicate,n0,h,Lp.fin]
  rw [h2.done h1 (by omega)]
 ·exact h.elim
theorem implFar_round {n:Qd} (h8:n.Qa.length≤8) (b w:Int) (f0:List Int) (box:Int) (q xs:List Int) (hF:FI n.Qa.length xs (box :: q)) (hO:Outer n b w (fun k=>xs.getD k default) (box :: q)) :
  ∃ q' xs',runL (F41_s2 n b w f0 (box :: q) xs) (((xs.length:Int)-0).toNat+1) (((box :: q).drop (Int.toNat 1)),0,xs)=.done (q',(n.Qa.length:Int),xs')∧FI n.Qa.length xs' q'∧Outer n b w (fun k=>xs'.getD k default) q'∧q'.length+negs xs'+1=(box :: q).length+negs xs:=by
 have hln:=hF.ln
 have hbox:=hF.q box List.mem_cons_self
 have h:=runL_rule (step:=F41_s2 n b w f0 (box :: q) xs) (fun (k:Nat) (s:List Int×List Int)=>(s.1,(k:Int),s.2)) n.Qa.length
  (fun k s=>FI n.Qa.length s.2 s.1∧Inner n b w (fun k=>s.2.getD k default) s.1 box (xs.getD box.toNat default) k∧s.1.length+negs s.2+1=(box :: q).length+negs xs) (fun _=>False)
  (fun k s hk ⟨g1,g2,g3⟩=>by
   obtain ⟨q1,ys⟩:=s
   simp only at g1 g2 g3
   have hv:=g1.val h8 g2.r0 g2.r1
   have hfb:=g2.fb
   by_cases hc:ys.getD k default<0
   ·by_cases ha:adj n w box k
    ·have hp:=g1.next h8 g2.r0 g2.r1 (by have:=g2.d0; omega) (v:=(k:Int)) (by omega) (by omega) (by rw [nn]; exact hc)
     refine .inl ⟨(q1++[(k:Int)],ys.set k (IntKind.i64.wrap (ys.getD box.toNat default+1))),?_,by simpa only [nn] using hp.1,?_,?_⟩
     ·have ha':decide (0≤Qh n box (k:Int)∧Qh n box (k:Int)≠w)=true:=decide_eq_true ha
      simp only [F41_s2,hln,ltD hk,cond_true,nn,decide_eq_true hc,List.getD_cons_zero,show Int.toNat 0=0 from rfl,ha']
      rfl
     ·refine g2.push hk hc ha ?_ fun j hj=>getD_set_ne _ _ _ _ hj
      simp only
      rw [getD_set_eq _ _ _ (by rw [g1.ln]; exact hk),hv,hfb]
     ·have:=hp.2.1
      simp only [nn] at this
      simp only [List.length_append,List.length_singleton]
      omega
    ·have ha':decide (0≤Qh n box (k:Int)∧Qh n box (k:Int)≠w)=false:=decide_eq_false ha
     refine .inl ⟨(q1,ys),?_,g1,g2.skip (.inr ha),g3⟩
     simp only [F41_s2,hln,ltD hk,cond_true,nn,decide_eq_true hc,List.getD_cons_zero,show Int.toNat 0=0 from rfl,ha',cond_false]
     rfl
   ·refine .inl ⟨(q1,ys),?_,g1,g2.skip (.inl (by show 0≤ys.getD k default; omega)),g3⟩
    simp only [F41_s2,hln,ltD hk,cond_true,nn,decide_eq_false hc,cond_false]
    rfl)
  (fun s _=>by simp [F41_s2,hln]) n.Qa.length 0 (q,xs) (by omega) ⟨⟨hF.ln,fun x hx=>hF.q x (List.mem_cons_of_mem _ hx),hF.up⟩,hO.inner,by simp only [List.length_cons]; omega⟩ (n.Qa.length+1) (Nat.lt_succ_self _)
 rcases h with ⟨⟨q',xs'⟩,h,h1,h2,h3⟩ | ⟨_,_,h⟩
 ·refine ⟨q',xs',?_,h1,h2.outer,h3⟩
  rw [n0,hln]
  exact h
 ·exact h.elim
theorem implFar_dist {n:Qd} (h8:n.Qa.length≤8) {b:Int} (h0:0≤b) (h1:b<(n.Qa.length:Int)) (w:Int):IsDist n b w (F41 n b w):=by
 unfold F41
 rw [implFar_fill]
 simp only [Lp.fin]
 obtain ⟨hF,hN⟩:=FI.init h0 h1
 have hl:Int.toNat b<(List.replicate n.Qa.length (-1:Int)).length:=by simp; omega
 have hO:Outer n b w (fun k=>((List.replicate n.Qa.length (-1)).set b.toNat 0).getD k default) [b]:=Outer.init h0 h1 _ (getD_set_eq _ _ _ hl) fun k hk e=>by
  show ((List.replicate n.Qa.length (-1)).set b.toNat 0).getD k default=-1
  rw [getD_set_ne _ _ _ _ e,rep_get _ _ hk]
 generalize hX:(List.replicate n.Qa.length (-1:Int)).set b.toNat 0=X at hF hN hO
 obtain ⟨⟨q',xs'⟩,h,⟨g1,g2⟩,g3⟩:=runL_meas (step:=F41_s1 n b w (List.replicate n.Qa.length (-1))) (fun s=>FI n.Qa.length s.2 s.1∧Outer n b w (fun k=>s.2.getD k default) s.1) (fun s=>s.1.length+negs s.2) (fun s=>s.1=[])
  (fun s ⟨g1,g2⟩=>by
   obtain ⟨q,xs⟩:=s
   cases q with
   | nil=>exact .inl ⟨by simp [F41_s1],rfl⟩
   | cons box q =>
    obtain ⟨q',xs',e,k1,k2,k3⟩:=implFar_round h8 b w (List.replicate n.Qa.length (-1)) box q xs g1 g2
    refine .inr ⟨(q',xs'),?_,⟨k1,k2⟩,by show q'.length+negs xs'<(box :: q).length+negs xs; omega⟩
    have hc:decide (((box :: q).length:Int)>0)=true:=decide_eq_true (by simp only [List.length_cons]; omega)
    simp only [F41_s1,hc,cond_true,e,Lp.fin]) ([b].length+negs X+1) ([b],X) ⟨hF,hO⟩ (Nat.lt_succ_self _)
 rw [h]
 simp only at g1 g2 g3 ⊢
 subst g3
 exact Outer.dist g1.ln g2
theorem countP_two {α:Type} (p q r:α→Bool) (hp:∀ x,p x=true→r x=true∧q x=false) (hq:∀ x,q x=true→r x=true):∀ l:List α,l.countP p+l.countP q≤l.countP r
 | []=>by simp
 | x :: l=>by
  have ih:=countP_two p q r hp hq l
  simp only [List.countP_cons]
  cases h1:p x <;> cases h2:q x <;> cases h3:r x <;> simp_all <;> omega
theorem chain_le (len:Nat) (f:Nat→Int) (hpred:∀ k,k<len→0<f k→∃ j,j<len∧f j=f k-1):∀ (d:Nat) (k:Nat),k<len→f k=(d:Int)→d+1≤(List.range len).countP (fun k=>decide (0≤f k)&&decide (f k<(d:Int)+1))
 | 0,k,hk,e=>by
  have:0<(List.range len).countP (fun k=>decide (0≤f k)&&decide (f k<((0:Nat):Int)+1)):=List.countP_pos_iff.2 ⟨k,List.mem_range.2 hk,by simp [e]⟩
  omega
 | d+1,k,hk,e=>by
  obtain ⟨j,hj,ej⟩:=hpred k hk (by omega)
  have ih:=chain_le len f hpred d j hj (by omega)
  have h1:0<(List.range len).countP (fun k=>decide (f k=(d:Int)+1)):=List.countP_pos_iff.2 ⟨k,List.mem_range.2 hk,by simp [e]⟩
  have h2:=countP_two (fun k=>decide (0≤f k)&&decide (f k<(d:Int)+1)) (fun k=>decide (f k=(d:Int)+1)) (fun k=>decide (0≤f k)&&decide (f k<((d+1:Nat):Int)+1))
   (fun x hx=>by
    simp only [Bool.and_eq_true,decide_eq_true_eq,decide_eq_false_iff_not] at hx ⊢
    omega) (fun x hx=>by
    simp only [Bool.and_eq_true,decide_eq_true_eq] at hx ⊢
    omega) (List.range len)
  omega
theorem BI.lt {n:Qd} {b w:Int} {f:Nat→Int} (h:BI n b w f) {k:Nat} (hk:k<n.Qa.length):f k<(n.Qa.length:Int):=by
 rcases Int.lt_or_le (f k) 0 with h0 | h0
 ·omega
 ·have h1:=chain_le n.Qa.length f (fun k hk h0=>by
   obtain ⟨j,h1,_,h2⟩:=h.pred k hk h0
   exact ⟨j,h1,h2⟩) (Int.toNat (f k)) k hk (by omega)
  have h2:=List.countP_le_length (p:=fun k'=>decide (0≤f k')&&decide (f k'<((Int.toNat (f k):Nat):Int)+1)) (l:=List.range n.Qa.length)
  rw [List.length_range] at h2
  omega
structure Rd (n:Qd) (b w:Int) (f:Nat→Int) (d:Int):Prop where
 bi:BI n b w f
 d0:0≤d
 top:∀ k,k<n.Qa.length→f k≤d
 fr:∀ j:Nat,j<n.Qa.length→0≤f j→f j<d→∀ k:Nat,k<n.Qa.length→adj n w j k→0≤f k∧f k≤f j+1
structure Ri (n:Qd) (b w:Int) (f:Nat→Int) (d:Int) (i:Nat):Prop where
 bi:BI n b w f
 d0:0≤d
 top:∀ k,k<n.Qa.length→f k≤d+1
 fr:∀ j:Nat,j<n.Qa.length→0≤f j→f j<d→∀ k:Nat,k<n.Qa.length→adj n w j k→0≤f k∧f k≤f j+1
 part:∀ m:Nat,m<i→(m:Int)≠w→(f (Int.toNat (n.Qb.getD m default).A)=d→0≤f (Int.toNat (n.Qb.getD m default).B))∧(f (Int.toNat (n.Qb.getD m default).B)=d→0≤f (Int.toNat (n.Qb.getD m default).A))
theorem Rd.start {n:Qd} {b w:Int} {f:Nat→Int} {d:Int} (h:Rd n b w f d):Ri n b w f d 0 :=
 ⟨h.bi,h.d0,fun k hk=>by have:=h.top k hk; omega,h.fr,fun m hm=>by omega⟩
theorem Ri.done {n:Qd} (hf:FrameOk n) {b w:Int} {f:Nat→Int} {d:Int} (h:Ri n b w f d n.Qb.length):Rd n b w f (d+1) :=
 ⟨h.bi,by have:=h.d0; omega,h.top,fun j hj h0 hd k hk ha=>by
  rcases Int.lt_or_le (f j) d with hlt | hge
  ·exact h.fr j hj h0 hlt k hk ha
  ·have ej:f j=d:=by omega
   obtain ⟨m1,m2⟩:=linkOf_some ha.1
   have hw:((Qh n j k).toNat:Int)≠w:=fun e=>ha.2 (by rw [← e]; have:=ha.1; omega)
   have hp:=h.part _ m1 hw
   have hab:=hf.ab _ m1
   simp only [isLink,Bool.or_eq_true,Bool.and_eq_true,decide_eq_true_eq] at m2
   generalize n.Qb.getD (Qh n j k).toNat default=l at *
   have ht:=h.top k hk
   refine ⟨?_,by omega⟩
   rcases m2 with ⟨e1,e2⟩ | ⟨e1,e2⟩
   ·rw [e1,e2,nn,nn] at hp
    exact hp.1 ej
   ·rw [e1,e2,nn,nn] at hp
    exact hp.2 ej⟩
theorem Ri.set {n:Qd} {b w:Int} {f g:Nat→Int} {d:Int} {i j v:Nat} (h:Ri n b w f d i) (hj:j<n.Qa.length) (hv:v<n.Qa.length) (hfj:f j=d) (hfv:f v<0) (ha:adj n w j v) (hg:g v=d+1) (hgn:∀ k,k≠v→g k=f k):Ri n b w g d i:=by
 have hd:=h.d0
 have hvis:∀ k,0≤f k→g k=f k:=fun k hk=>hgn k fun e=>by rw [e] at hk; omega
 have hdiff:∀ k,g k=d→f k=d:=fun k hk=>by
  by_cases e:k=v
  ·rw [e,hg] at hk; omega
  ·rw [hgn k e] at hk; exact hk
 have hge:∀ k,0≤f k→0≤g k:=fun k hk=>by rw [hvis k hk]; exact hk
 refine ⟨⟨?_,fun k hk=>?_,fun k hk h0=>?_,fun k hk h0=>?_⟩,hd,fun k hk=>?_,fun j' hj' h0 hlt k hk hadj=>?_,fun m hm hw=>⟨fun e=>hge _ ((h.part m hm hw).1 (hdiff _ e)),fun e=>hge _ ((h.part m hm hw).2 (hdiff _ e))⟩⟩
 ·rw [hvis _ (by rw [h.bi.b0]; omega)]; exact h.bi.b0
 ·by_cases e:k=v
  ·rw [e,hg]; omega
  ·rw [hgn k e]; exact h.bi.low k hk
 ·by_cases e:k=v
  ·subst e
   exact ⟨j,hj,ha,by rw [hvis j (by omega),hg]; omega⟩
  ·rw [hgn k e] at h0 ⊢
   obtain ⟨j2,h1,h2,h3⟩:=h.bi.pred k hk h0
   exact ⟨j2,h1,h2,by rw [hvis j2 (by omega)]; exact h3⟩
 ·by_cases e:k=v
  ·rw [e,hg] at h0; omega
  ·rw [hgn k e] at h0; exact h.bi.zero k hk h0
 ·by_cases e:k=v
  ·rw [e,hg]; omega
  ·rw [hgn k e]; exact h.top k hk
 ·have hjv:j'≠v:=fun e=>by rw [e,hg] at hlt; omega
  rw [hgn j' hjv] at h0 hlt ⊢
  have:=h.fr j' hj' h0 hlt k hk hadj
  rw [hvis k this.1]; exact this
theorem Ri.next {n:Qd} {b w:Int} {f:Nat→Int} {d:Int} {i:Nat} (h:Ri n b w f d i) (hp:(i:Int)≠w→(f (Int.toNat (n.Qb.getD i default).A)=d→0≤f (Int.toNat (n.Qb.getD i default).B))∧(f (Int.toNat (n.Qb.getD i default).B)=d→0≤f (Int.toNat (n.Qb.getD i default).A))):Ri n b w f d (i+1) :=
 ⟨h.bi,h.d0,h.top,h.fr,fun m hm hw=>by
  rcases Nat.lt_succ_iff_lt_or_eq.1 hm with hm | rfl
  ·exact h.part m hm hw
  ·exact hp hw⟩
theorem Rd.dist {n:Qd} {b w:Int} {xs:List Int} (hl:xs.length=n.Qa.length) (h:Rd n b w (fun k=>xs.getD k default) n.Qa.length):IsDist n b w xs :=
 ⟨hl,h.bi.b0,h.bi.low,h.bi.pred,h.bi.zero,fun j k hj hk ha h0=>h.fr j hj h0 (h.bi.lt hj) k hk ha⟩
theorem specFar_fill (n:Qd) (b w:Int):F80_j0 n b w=.done (List.replicate n.Qa.length (-1)):=by
 unfold F80_j0
 have h:=runL_rule (step:=F80_s0 n b w) (fun (k:Nat) (s:List Int)=>((k:Int),s)) n.Qa.length (fun k s=>s.length=n.Qa.length∧FillI s k) (fun _=>False)
  (fun k s hk ⟨h1,h2⟩=>.inl ⟨s.set k (-1),by simp only [F80_s0,nn,h1,ltD hk,cond_true]; rfl,by simp [h1],by have:=h2.next (by omega) (by omega); rwa [nn] at this⟩)
  (fun s ⟨h1,_⟩=>by simp [F80_s0,h1]) n.Qa.length 0 (List.replicate n.Qa.length 0) (by omega) ⟨by simp,FillI.zero _⟩ (n.Qa.length+1) (Nat.lt_succ_self _)
 rcases h with ⟨s,h,h1,h2⟩ | ⟨_,_,h⟩
 ·have h:runL (F80_s0 n b w) (n.Qa.length+1) (0,List.replicate n.Qa.length 0)=.done ((n.Qa.length:Int),s):=h
  simp only [nn,List.length_replicate,n0,h,Lp.fin]
  rw [h2.done h1 (by omega)]
 ·exact h.elim
theorem Ri.half {n:Qd} {b w:Int} {xs:List Int} {d:Int} {i:Nat} (hl:xs.length=n.Qa.length) (h:Ri n b w (fun k=>xs.getD k default) d i) {x y:Int} (hx0:0≤x) (hx:x<(n.Qa.length:Int)) (hy0:0≤y) (hy:y<(n.Qa.length:Int)) (ha:adj n w x y) :
  ∃ ys,(bif (bif ((xs.getD x.toNat default)==d) then decide ((xs.getD y.toNat default)<0) else false) then (xs.set y.toNat (d+1)) else xs)=ys∧ys.length=n.Qa.length∧Ri n b w (fun k=>ys.getD k default) d i∧(ys.getD x.toNat default=d→0≤ys.getD y.toNat default)∧(∀ k,0≤xs.getD k default→ys.getD k default=xs.getD k default):=by
 by_cases h1:xs.getD x.toNat default=d
 ·by_cases h2:xs.getD y.toNat default<0
  ·refine ⟨xs.set y.toNat (d+1),by rw [h1]; simp only [beq_self_eq_true,cond_true,decide_eq_true h2],by simp [hl],?_,fun _=>?_,fun k hk=>getD_set_ne _ _ _ _ fun e=>by rw [e] at hk; omega⟩
   ·refine h.set (j:=Int.toNat x) (v:=Int.toNat y) (by omega) (by omega) h1 h2 (by rw [Int.toNat_of_nonneg hx0,Int.toNat_of_nonneg hy0]; exact ha) (getD_set_eq _ _ _ (by omega)) fun k hk=>getD_set_ne _ _ _ _ hk
   ·rw [getD_set_eq _ _ _ (by omega)]
    have:=h.d0; omega
  ·exact ⟨xs,by rw [h1]; simp only [beq_self_eq_true,cond_true,decide_eq_false h2,cond_false],hl,h,fun _=>by omega,fun _ _=>rfl⟩
 ·refine ⟨xs,?_,hl,h,fun e=>absurd e h1,fun _ _=>rfl⟩
  have:(xs.getD x.toNat default==d)=false:=by rw [beqD]; exact decide_eq_false h1
  rw [this]; rfl
theorem specFar_round {n:Qd} (hf:FrameOk n) (b w:Int) (f0:List Int) (d:Int) (xs:List Int) (hl:xs.length=n.Qa.length) (h:Rd n b w (fun k=>xs.getD k default) d) :
  ∃ ys,runL (F80_s2 n b w f0 d xs) (((n.Qb.length:Int)-0).toNat+1) (0,xs)=.done ((n.Qb.length:Int),ys)∧ys.length=n.Qa.length∧Rd n b w (fun k=>ys.getD k default) (d+1):=by
 have hh:=runL_rule (step:=F80_s2 n b w f0 d xs) (fun (k:Nat) (s:List Int)=>((k:Int),s)) n.Qb.length
  (fun k s=>s.length=n.Qa.length∧Ri n b w (fun k=>s.getD k default) d k) (fun _=>False)
  (fun k s hk ⟨g1,g2⟩=>by
   have hab:=hf.ab k hk
   by_cases hw:(k:Int)=w
   ·refine .inl ⟨s,?_,g1,g2.next fun e=>absurd hw e⟩
    have:((k:Int)==w)=true:=by simp [hw]
    simp only [F80_s2,ltD hk,cond_true,this]
    rfl
   ·have hlk:∀ x y:Int,isLink n x y k=true→adj n w x y:=fun x y hi=>by
     have e:=linkOf_of hf hk hi
     exact ⟨by rw [e]; omega,by rw [e]; exact hw⟩
    have hA:adj n w (n.Qb.getD k default).A (n.Qb.getD k default).B:=hlk _ _ (by simp [isLink])
    obtain ⟨ys,e1,l1,i1,p1,k1⟩:=g2.half g1 (by omega) (by omega) (by omega) (by omega) hA
    obtain ⟨zs,e2,l2,i2,p2,k2⟩:=i1.half l1 (by omega) (by omega) (by omega) (by omega) (adj_comm hA)
    have hj9:F80_j9 n b w f0 d xs (k:Int) s=.done ys:=by
     rw [← e1]
     simp only [F80_j9,nn]
     cases (bif (s.getD (Int.toNat (n.Qb.getD k default).A) default==d) then decide (s.getD (Int.toNat (n.Qb.getD k default).B) default<0) else false) <;> rfl
    refine .inl ⟨zs,?_,l2,i2.next fun _=>⟨fun e=>?_,fun e=>p2 e⟩⟩
    ·have:((k:Int)==w)=false:=by simp [hw]
     simp only [F80_s2,ltD hk,cond_true,this,cond_false,hj9,Lp.fin,nn]
     rw [← e2]
     cases (bif (ys.getD (Int.toNat (n.Qb.getD k default).B) default==d) then decide (ys.getD (Int.toNat (n.Qb.getD k default).A) default<0) else false) <;> rfl
    ·
     have hA':ys.getD (Int.toNat (n.Qb.getD k default).A) default=d:=by
      by_cases hneg:ys.getD (Int.toNat (n.Qb.getD k default).A) default<0
      ·exfalso
       have h3:zs.getD (Int.toNat (n.Qb.getD k default).A) default=d:=e
       have h4:=e2
       by_cases hB:ys.getD (Int.toNat (n.Qb.getD k default).B) default=d
       ·simp only [hB,beq_self_eq_true,cond_true,decide_eq_true hneg] at h4
        rw [← h4,getD_set_eq _ _ _ (by omega)] at h3
        omega
       ·have:(ys.getD (Int.toNat (n.Qb.getD k default).B) default==d)=false:=by rw [beqD]; exact decide_eq_false hB
        rw [this] at h4
        simp only [cond_false] at h4
        rw [← h4] at h3
        have:=g2.d0
        omega
      ·rw [← k2 _ (by omega)]; exact e
     have:=p1 hA'
     show 0≤zs.getD _ default
     rw [k2 _ this]; exact this)
  (fun s _=>by simp [F80_s2]) n.Qb.length 0 xs (by omega) ⟨hl,h.start⟩ (n.Qb.length+1) (Nat.lt_succ_self _)
 rcases hh with ⟨ys,hh,h1,h2⟩ | ⟨_,_,hh⟩
 ·refine ⟨ys,?_,h1,h2.done hf⟩
  rw [n0]; exact hh
 ·exact hh.elim
theorem specFar_dist {n:Qd} (hf:FrameOk n) {b:Int} (h0:0≤b) (h1:b<(n.Qa.length:Int)) (w:Int):IsDist n b w (F80 n b w):=by
 unfold F80
 rw [specFar_fill]
 simp only [Lp.fin]
 have hl:Int.toNat b<(List.replicate n.Qa.length (-1:Int)).length:=by simp; omega
 have hO:Outer n b w (fun k=>((List.replicate n.Qa.length (-1)).set b.toNat 0).getD k default) [b]:=Outer.init h0 h1 _ (getD_set_eq _ _ _ hl) fun k hk e=>by
  show ((List.replicate n.Qa.length (-1)).set b.toNat 0).getD k default=-1
  rw [getD_set_ne _ _ _ _ e,rep_get _ _ hk]
 have hX:((List.replicate n.Qa.length (-1)).set b.toNat 0).length=n.Qa.length:=by simp
 have hall:∀ k,k<n.Qa.length→((List.replicate n.Qa.length (-1)).set b.toNat 0).getD k default≤0:=fun k hk=>by
  by_cases e:k=Int.toNat b
  ·rw [e,getD_set_eq _ _ _ hl]; omega
  ·rw [getD_set_ne _ _ _ _ e,rep_get _ _ hk]; omega
 generalize (List.replicate n.Qa.length (-1:Int)).set b.toNat 0=X at hO hX hall
 have hR:Rd n b w (fun k=>X.getD k default) 0:=⟨hO.bi,by omega,hall,fun j hj h1 h2=>by omega⟩
 have hh:=runL_rule (step:=F80_s1 n b w (List.replicate n.Qa.length (-1))) (fun (k:Nat) (s:List Int)=>((k:Int),s)) n.Qa.length
  (fun k s=>s.length=n.Qa.length∧Rd n b w (fun j=>s.getD j default) k) (fun _=>False)
  (fun k s hk ⟨g1,g2⟩=>by
   obtain ⟨ys,e,l1,r1⟩:=specFar_round hf b w (List.replicate n.Qa.length (-1)) k s g1 g2
   refine .inl ⟨ys,?_,l1,r1⟩
   simp only [F80_s1,g1,ltD hk,cond_true,e,Lp.fin]
   rfl)
  (fun s ⟨g1,_⟩=>by simp [F80_s1,g1]) n.Qa.length 0 X (by omega) ⟨hX,hR⟩ (n.Qa.length+1) (Nat.lt_succ_self _)
 rcases hh with ⟨ys,hh,g1,g2⟩ | ⟨_,_,hh⟩
 ·have hh:runL (F80_s1 n b w (List.replicate n.Qa.length (-1))) (n.Qa.length+1) (0,X)=.done ((n.Qa.length:Int),ys):=hh
  rw [hX,n0,hh]
  exact Rd.dist g1 g2
 ·exact hh.elim
theorem far_eq {n:Qd} (hf:FrameOk n) {b:Int} (h0:0≤b) (h1:b<(n.Qa.length:Int)) (w:Int):F41 n b w=F80 n b w :=
 (implFar_dist hf.b8 h0 h1 w).unique (specFar_dist hf h0 h1 w)
theorem IsDist.lt {n:Qd} {b w:Int} {f:List Int} (h:IsDist n b w f) {k:Int} (h0:0≤k) (hk:k<(n.Qa.length:Int)):-1≤f.getD k.toNat default∧f.getD k.toNat default<(n.Qa.length:Int) :=
 ⟨h.low _ (by omega),BI.lt (f:=fun k=>f.getD k default) ⟨h.b0,h.low,h.pred,h.zero⟩ (by omega)⟩
theorem IsDist.pos {n:Qd} {b w:Int} {f:List Int} (h:IsDist n b w f) {k:Int} (h0:0≤k) (hk:k<(n.Qa.length:Int)) (hb:¬ k=b) (hd:0≤f.getD k.toNat default):0<f.getD k.toNat default:=by
 rcases Int.lt_or_le 0 (f.getD k.toNat default) with h1 | h1
 ·exact h1
 ·have:=h.zero k.toNat (by omega) (by omega); omega
theorem IsDist.wr {n:Qd} {b w:Int} {f:List Int} (h:IsDist n b w f) (h8:n.Qa.length≤8) {k:Int} (h0:0≤k) (hk:k<(n.Qa.length:Int)):IntKind.i64.wrap (f.getD k.toNat default-1)=f.getD k.toNat default-1:=by
 have:=h.lt h0 hk
 exact wrap_of (by omega) (by omega)
def nextB (n:Qd) (f:List Int) (w a v:Int):Bool:=bif decide (0≤Qh n a v∧Qh n a v≠w) then (f.getD v.toNat default==IntKind.i64.wrap (f.getD a.toNat default-1)) else false
def nextOf (n:Qd) (f:List Int) (a w:Int):Int:=oix (first (fun k=>nextB n f w a (k:Int)) f.length)
def NoNext (n:Qd) (f:List Int) (w a v:Int):Prop:=∀ k:Nat,(k:Int)<v→nextB n f w a (k:Int)=false
theorem NoNext.zero {n:Qd} {f:List Int} {w a:Int}:NoNext n f w a 0:=fun k hk=>by omega
theorem NoNext.next {n:Qd} {f:List Int} {w a v:Int} (h:NoNext n f w a v) (h0:0≤v) (hc:nextB n f w a v=false):NoNext n f w a (v+1):=fun k hk=>by
 by_cases e:(k:Int)=v
 ·rw [e]; exact hc
 ·exact h k (by omega)
theorem IsDist.next {n:Qd} {b w:Int} {f:List Int} (h:IsDist n b w f) (h8:n.Qa.length≤8) {a:Int} (h0:0≤a) (h1:a<(n.Qa.length:Int)) (hd:0<f.getD a.toNat default):∃ k:Nat,k<n.Qa.length∧nextB n f w a (k:Int)=true:=by
 obtain ⟨j,hj,ha,e⟩:=h.pred a.toNat (by omega) hd
 refine ⟨j,hj,?_⟩
 have ha:=adj_comm ha
 rw [Int.toNat_of_nonneg h0] at ha
 unfold nextB
 have ha2:0≤Qh n a j∧Qh n a j≠w:=ha
 rw [decide_eq_true ha2,cond_true,nn,h.wr h8 h0 h1,e]
 exact beq_self_eq_true _
theorem nextB_T {n:Qd} {b w:Int} {f:List Int} (h:IsDist n b w f) (h8:n.Qa.length≤8) {a v:Int} (h0:0≤a) (h1:a<(n.Qa.length:Int)) (hc:nextB n f w a v=true):f.getD v.toNat default=f.getD a.toNat default-1:=by
 unfold nextB at hc
 rw [h.wr h8 h0 h1] at hc
 exact eq_of_beq (andT2 hc)
theorem nextB_U {n:Qd} {b w:Int} {f:List Int} {a v:Int} (hc:(bif decide (0≤Qh n a v∧Qh n a v≠w) then (f.getD v.toNat default==IntKind.i64.wrap (f.getD a.toNat default-1)) else false)=true) (h:IsDist n b w f) (h8:n.Qa.length≤8) (h0:0≤a) (h1:a<(n.Qa.length:Int)):f.getD v.toNat default=f.getD a.toNat default-1:=nextB_T h h8 h0 h1 hc
theorem NoNext.nextU {n:Qd} {f:List Int} {w a v:Int} (hc:(bif decide (0≤Qh n a v∧Qh n a v≠w) then (f.getD v.toNat default==IntKind.i64.wrap (f.getD a.toNat default-1)) else false)=false) (h:NoNext n f w a v) (h0:0≤v):NoNext n f w a (v+1):=h.next h0 hc
theorem noNext_absurd {n:Qd} {b w:Int} {f:List Int} (h:IsDist n b w f) (h8:n.Qa.length≤8) {a v:Int} (h0:0≤a) (h1:a<(n.Qa.length:Int)) (hd:0<f.getD a.toNat default) (hn:NoNext n f w a v) (hv:(n.Qa.length:Int)≤v):False:=by
 obtain ⟨k,hk,e⟩:=h.next h8 h0 h1 hd
 rw [hn k (by omega)] at e
 cases e
theorem noNext_absurdU {n:Qd} {b w:Int} {f:List Int} {a v:Int} (hn:NoNext n f w a v) (h:IsDist n b w f) (hb:¬ a=b) (h8:n.Qa.length≤8) (h0:0≤a) (h1:a<(n.Qa.length:Int)) (hd:0≤f.getD a.toNat default) (hv:(n.Qa.length:Int)≤v):False :=
 noNext_absurd h h8 h0 h1 (h.pos h0 h1 hb hd) hn hv
theorem nextOf_ok {n:Qd} {b w:Int} {f:List Int} (h:IsDist n b w f) (h8:n.Qa.length≤8) {a:Int} (h0:0≤a) (h1:a<(n.Qa.length:Int)) (hd:0<f.getD a.toNat default):0≤nextOf n f a w∧nextOf n f a w<(n.Qa.length:Int)∧f.getD (nextOf n f a w).toNat default=f.getD a.toNat default-1∧nextB n f w a (nextOf n f a w)=true∧∀ k:Nat,(k:Int)<nextOf n f a w→nextB n f w a (k:Int)=false:=by
 unfold nextOf
 cases e:first (fun k=>nextB n f w a (k:Int)) f.length with
 | none =>
  obtain ⟨k,hk,e2⟩:=h.next h8 h0 h1 hd
  have:=first_none.1 e k (by rw [h.ln]; exact hk)
  simp only [e2] at this
  cases this
 | some k =>
  obtain ⟨k1,k2,k3⟩:=first_some.1 e
  simp only [oix]
  exact ⟨by omega,by rw [← h.ln]; omega,nextB_T h h8 h0 h1 k2,k2,fun j hj=>k3 j (by omega)⟩
theorem far_isDist (n:Qd) (b w:Int) (hf:FrameOk n) (h0:0≤b) (h1:b<(n.Qa.length:Int)):IsDist n b w (F80 n b w):=specFar_dist hf h0 h1 w
theorem far_len (n:Qd) (b w:Int) (hf:FrameOk n) (h0:0≤b) (h1:b<(n.Qa.length:Int)):(F80 n b w).length=n.Qa.length:=(specFar_dist hf h0 h1 w).ln
theorem as41 (n:Qd) (b w:Int) (hf:FrameOk n) (h0:0≤b) (h1:b<(n.Qa.length:Int)):F41 n b w=F80 n b w:=far_eq hf h0 h1 w
def T41 (R:List Int) (n:Qd) (to':Int) (Qe:Int):Spec:=⟨(S41 R n to' Qe).args,(S41 R n to' Qe).res,FrameOk n∧0≤to'∧to'<(n.Qa.length:Int)∧n.Qa.length≤8⟩
theorem oa41 (n:Qd) (to':Int) (Qe:Int):(T41 (F80 n to' Qe) n to' Qe).ok Try.prog 41:=by
 intro hp; have h:=ok41 n to' Qe hp; rw [as41 n to' Qe hp.1 hp.2.1 hp.2.2.1] at h; exact h
def F81_s0 (n:Qd) (far:List Int) (at':Int) (Qe:Int):Int→Lp Int Int:=fun k =>
 bif (decide (k<(far.length:Int))) then (bif (bif (bif decide ((Qh n at' k)≥0) then ((Qh n at' k) != Qe) else false) then ((far.getD k.toNat default)==(IntKind.i64.wrap ((far.getD at'.toNat default)-1))) else false) then (.ret k) else (.next (k+1))) else (.done k)
def F81 (n:Qd) (far:List Int) (at':Int) (Qe:Int):Int :=
 (runL (F81_s0 n far at' Qe) (((far.length:Int)-0).toNat+1) 0).fin (fun r=>r) (fun k=>(-1))
def S81 (R:Int) (n:Qd) (far:List Int) (at':Int) (Qe:Int):Spec:=⟨[.r (.g (Qr n)),.r (.c (.l 1 eInt far)),.r (.c (.v (vI at'))),.r (.c (.v (vI Qe)))],.v (vI R),0≤at'∧at'<(far.length:Int)⟩
theorem ok81 (n:Qd) (far:List Int) (at':Int) (Qe:Int):(S81 (F81 n far at' Qe) n far at' Qe).ok Try.prog 81 :=
 fnG_ok mixed (fn:=Try.f81) (ct:=.seqk [(1,0)] (.no) (.seq (.seqk [(1,0),(4,0),(4,1)] (.no) (.blk (.loop (ι:=Nat×Int) (fun i=>(fun (k:Int)=>(⟨[(1,some (.h 0 0)),(2,some (.v (vI at'))),(3,some (.v (vI Qe))),(4,some (.p 1 0)),(9,some (.v (vI k)))],[(0,some (.shr none (.l 1 eInt far))),(1,some (.box 26 [.h 2 0,.h 3 0])),(2,some (.shr none (.l 2 Qf n.Qb))),(3,some (.shr none (.l 2 Qg n.Qa)))],4⟩:St)) i.2) (fun i=>runL (F81_s0 n far at' Qe) i.1 i.2=(runL (F81_s0 n far at' Qe) (((far.length:Int)-0).toNat+1) 0)∧(fun (k:Int)=>(Int.toNat ((far.length:Int)-k)<i.1∧(0:Int)≤k)) i.2) (fun i=>i.1) ((((far.length:Int)-0).toNat+1),0) (fun i=>(fun (k:Int)=>(.seq (.seq (.no) (.cond (.no) (.no))) (.seq (.blk (.seq (.reg [(3,.call 97 (S97 (Qh n at' k) n at' k) (oa97 n at' k) none)]) (.seq (.no) (.cond (.seq (.no) (.no)) (.no))))) (.reg [(1,.bnd)])))) i.2)))) (.seq (.no) (.no)))) Try.func81 (fun (hp:0≤at'∧at'<(far.length:Int))=>(fun (hpre0:0≤at') (hpre1:at'<(far.length:Int))=>fun (_:far.length≤9223372036854775807)=>fun (_:far.length≤9223372036854775807)=>fun (_:n.Qb.length≤9223372036854775807)=>fun (_:n.Qa.length≤9223372036854775807)=>ai (ai (rfl) (ai (rfl) (ai (rfl) (ai (ir) (ai (ir) (ai (ir) ((ai (rfl:runL (F81_s0 n far at' Qe) (((far.length:Int)-0).toNat+1) 0=(runL (F81_s0 n far at' Qe) (((far.length:Int)-0).toNat+1) 0)) (ai ((Nat.lt_succ_self _:Int.toNat ((far.length:Int)-0)<(((far.length:Int)-0).toNat+1))) ((by omega:(0:Int)≤0)))))))))):((.int .i64 at':Value)=.int .i64 at')∧((.int .i64 Qe:Value)=.int .i64 Qe)∧((.int .i64 0:Value)=.int .i64 0)∧(Imp (.l 1 eInt far) (.l 1 eInt far))∧(Imp (.l 2 Qf n.Qb) (.l 2 Qf n.Qb))∧(Imp (.l 2 Qg n.Qa) (.l 2 Qg n.Qa))∧(runL (F81_s0 n far at' Qe) (((far.length:Int)-0).toNat+1) 0=(runL (F81_s0 n far at' Qe) (((far.length:Int)-0).toNat+1) 0)∧Int.toNat ((far.length:Int)-0)<(((far.length:Int)-0).toNat+1)∧(0:Int)≤0)) (fun (i0:Nat×Int) (hi0:runL (F81_s0 n far at' Qe) i0.1 i0.2=(runL (F81_s0 n far at' Qe) (((far.length:Int)-0).toNat+1) 0)∧(fun (k:Int)=>(Int.toNat ((far.length:Int)-k)<i0.1∧(0:Int)≤k)) i0.2)=>(fun (m0:Nat) (k:Int) (hI0:runL (F81_s0 n far at' Qe) (m0+1) k=(runL (F81_s0 n far at' Qe) (((far.length:Int)-0).toNat+1) 0)) (_:Int.toNat ((far.length:Int)-k)<m0+1) (hl0:m0<i0.1) (_:(0:Int)≤k)=>ai (fun h2:(decide (k<(far.length:Int)))=true=>(fun _:k<(far.length:Int)=>ai (trivial) (ai ((Imps.refl (Qr n))) (ai ((Imp.refl (.v (vI at')))) (ai ((Imp.refl (.v (vI k)))) (ai ((fun k3:(bif decide ((Qh n at' k)≥0) then ((Qh n at' k) != Qe) else false)=true=>(fun _:¬ (Qh n at' k)=Qe=>(fun _:(Qh n at' k)≥0=>(by omega:0≤k∧k<(far.length:Int))) (of_decide_eq_true (andT1 k3))) (bneT (andT2 k3)))) (ai ((fun k4:(bif decide ((Qh n at' k)≥0) then ((Qh n at' k) != Qe) else false)=true=>(fun _:¬ (Qh n at' k)=Qe=>(fun _:(Qh n at' k)≥0=>(by omega:0≤at'∧at'<(far.length:Int))) (of_decide_eq_true (andT1 k4))) (bneT (andT2 k4)))) (ai (fun h5:(bif (bif decide ((Qh n at' k)≥0) then ((Qh n at' k) != Qe) else false) then ((far.getD k.toNat default)==(IntKind.i64.wrap ((far.getD at'.toNat default)-1))) else false)=true=>(fun _:(far.getD k.toNat default)=(IntKind.i64.wrap ((far.getD at'.toNat default)-1))=>(fun _:¬ (Qh n at' k)=Qe=>(fun _:(Qh n at' k)≥0=>(fun hF:(k:Int)=(F81 n far at' Qe)=>ai (congrArg (fun r:Int=>(.int .i64 r:Value)) hF) (trivial)) (finR (runL_ret hI0 (condT h2 (condT h5 (rfl)))) rfl)) (of_decide_eq_true (andT1 (andT1 h5)))) (bneT (andT2 (andT1 h5)))) (eq_of_beq (andT2 h5))) (fun h5:(bif (bif decide ((Qh n at' k)≥0) then ((Qh n at' k) != Qe) else false) then ((far.getD k.toNat default)==(IntKind.i64.wrap ((far.getD at'.toNat default)-1))) else false)=false=>ai ((by unfold i64ok; omega:i64ok (k+1))) (Exists.intro (p:=fun j:Nat×Int=>(fun (k_:Int)=>(((.int .i64 at':Value)=.int .i64 at')∧((.int .i64 Qe:Value)=.int .i64 Qe)∧((.int .i64 (k+1):Value)=.int .i64 k_)∧(Imp (.l 1 eInt far) (.l 1 eInt far))∧(Imp (.l 2 Qf n.Qb) (.l 2 Qf n.Qb))∧(Imp (.l 2 Qg n.Qa) (.l 2 Qg n.Qa))∧((runL (F81_s0 n far at' Qe) j.1 j.2=(runL (F81_s0 n far at' Qe) (((far.length:Int)-0).toNat+1) 0)∧Int.toNat ((far.length:Int)-k_)<j.1∧(0:Int)≤k_)∧j.1<i0.1))) j.2) (m0,(k+1)) (ai (rfl) (ai (rfl) (ai (rfl) (ai (ir) (ai (ir) (ai (ir) (ai (ai (runL_next hI0 (condT h2 (condF h5 (rfl)))) (ai ((by omega:Int.toNat ((far.length:Int)-(k+1))<m0)) ((by omega:(0:Int)≤(k+1))))) hl0)))))))))))))))) (of_decide_eq_true h2)) (fun h2:(decide (k<(far.length:Int)))=false=>(fun _:¬ k<(far.length:Int)=>(fun hD0_6:(runL (F81_s0 n far at' Qe) (((far.length:Int)-0).toNat+1) 0)=Lp.done k=>(fun hF:((-1):Int)=(F81 n far at' Qe)=>ai (congrArg (fun r:Int=>(.int .i64 r:Value)) hF) (trivial)) (finD hD0_6 (rfl))) (runL_done hI0 (condF h2 (rfl)))) (of_decide_eq_false h2))) (i0.1-1) i0.2 (hd1 hi0.1 hi0.2.1) (hd2 hi0.2.1) (hd3 hi0.2.1) hi0.2.2)) hp.1 hp.2) (by kernel_rfl)
theorem as81 (n:Qd) (far:List Int) (at':Int) (Qe:Int):F81 n far at' Qe=(nextOf n far at' Qe):=by
 unfold F81 nextOf
 rw [search (fun k=>nextB n far Qe at' (k:Int)) (fun k=>(k:Int)) far.length _ (fun k hk=>by simp only [F81_s0,ltD hk,cond_true,nextB,Bool.decide_and,bandd,decide_not,ne_eq,neI,geleD]) (by simp [F81_s0])]
 all_goals (cases first (fun k=>nextB n far Qe at' (k:Int)) far.length <;> rfl)
theorem oa81 (n:Qd) (far:List Int) (at':Int) (Qe:Int):(S81 (nextOf n far at' Qe) n far at' Qe).ok Try.prog 81:=by
 intro hp; have h:=ok81 n far at' Qe hp; rw [as81 n far at' Qe] at h; exact h
def F44_s0 (n:Qd) (a:Int) (b:Int) (Qe:Int):(List Int×Int×Int)→Lp (List Int×Int×Int) (List Int):=fun (out,at',d1) =>
 bif (decide (d1>0)) then (.next ((out++[(nextOf n (F80 n b Qe) at' Qe)]),(nextOf n (F80 n b Qe) at' Qe),(d1-1))) else (.done (out,at',d1))
def F44 (n:Qd) (a:Int) (b:Int) (Qe:Int):List Int :=
 bif (decide (((F80 n b Qe).getD a.toNat default)<0)) then ([]:List Int) else ((runL (F44_s0 n a b Qe) (((F80 n b Qe).getD a.toNat default).toNat+1) (([a]:List Int),a,((F80 n b Qe).getD a.toNat default))).fin (fun r=>r) (fun (out,at',d1)=>out))
def S44 (R:List Int) (n:Qd) (a:Int) (b:Int) (Qe:Int):Spec:=⟨[.r (.g (Qr n)),.r (.c (.v (vI a))),.r (.c (.v (vI b))),.r (.c (.v (vI Qe)))],.ow (.l 1 eInt R),FrameOk n∧n.Qa.length≤8∧0≤a∧a<(n.Qa.length:Int)∧0≤b∧b<(n.Qa.length:Int)⟩
theorem ok44 (n:Qd) (a:Int) (b:Int) (Qe:Int):(S44 (F44 n a b Qe) n a b Qe).ok Try.prog 44 :=
 fnG_ok mixed (fn:=Try.f44) (ct:=.seq (.no) (.seq (.reg [(3,.call 80 (S80 n b Qe) (ok80 n b Qe) none)]) (.seq (.seq (.no) (.cond (.seq (.reg [(0,.dat (.l 1 eInt ([]:List Int)))]) (.no)) (.no))) (.seq (.reg [(1,.dat (.l 1 eInt ([a]:List Int)))]) (.seq (.no) (.seq (.seqk [(4,0),(4,1),(9,0),(10,0)] (.no) (.blk (.loop (ι:=Nat×(List Int×Int×Int)) (fun i=>(fun (out:List Int) (at':Int) (d1:Int)=>(⟨[(3,some (.v (vI Qe))),(4,some (.p 0 0)),(9,some (.h 3 0)),(10,some (.h 4 0)),(11,some (.v (vI at'))),(12,some (.v (vI d1)))],[(0,some (.box 26 [.h 1 0,.h 2 0])),(1,some (.shr none (.l 2 Qf n.Qb))),(2,some (.shr none (.l 2 Qg n.Qa))),(3,some (.own 3 (.l 1 eInt (F80 n b Qe)))),(4,some (.own 4 (.l 1 eInt out)))],5⟩:St)) i.2.1 i.2.2.1 i.2.2.2) (fun i=>runL (F44_s0 n a b Qe) i.1 i.2=(runL (F44_s0 n a b Qe) (((F80 n b Qe).getD a.toNat default).toNat+1) (([a]:List Int),a,((F80 n b Qe).getD a.toNat default)))∧(fun (out:List Int) (at':Int) (d1:Int)=>(Int.toNat d1<i.1∧0≤at'∧at'<(n.Qa.length:Int)∧(F80 n b Qe).getD at'.toNat default=d1∧(out.length:Int)+d1≤8∧0≤d1)) i.2.1 i.2.2.1 i.2.2.2) (fun i=>i.1) ((((F80 n b Qe).getD a.toNat default).toNat+1),(([a]:List Int),a,((F80 n b Qe).getD a.toNat default))) (fun i=>(fun (out:List Int) (at':Int) (d1:Int)=>(.seq (.seq (.no) (.cond (.no) (.no))) (.seq (.blk (.seq (.reg [(4,.call 81 (S81 (nextOf n (F80 n b Qe) at' Qe) n (F80 n b Qe) at' Qe) (oa81 n (F80 n b Qe) at' Qe) none)]) (.reg [(3,.dat (.l 1 eInt (out++[(nextOf n (F80 n b Qe) at' Qe)])))]))) (.reg [(1,.bnd)])))) i.2.1 i.2.2.1 i.2.2.2)))) (.seq (.no) (.no)))))))) Try.func44 (fun (hp:FrameOk n∧n.Qa.length≤8∧0≤a∧a<(n.Qa.length:Int)∧0≤b∧b<(n.Qa.length:Int))=>(fun (hpre0:FrameOk n) (hpre1:n.Qa.length≤8) (hpre2:0≤a) (hpre3:a<(n.Qa.length:Int)) (hpre4:0≤b) (hpre5:b<(n.Qa.length:Int))=>ai ((ai ((by first | assumption | exact Qn.frame (by assumption):FrameOk n)) (ai ((by first | omega | (simp only [lens] at*<;> omega):0≤b)) (ai ((by first | omega | (simp only [lens] at*<;> omega):b<(n.Qa.length:Int))) ((by first | omega | (simp only [lens] at*<;> omega):n.Qa.length≤8)))))) (ai ((Imps.refl (Qr n))) (ai ((Imp.refl (.v (vI b)))) (ai ((Imp.refl (.v (vI Qe)))) ((fun gv1:IsDist n b Qe (F80 n b Qe)=>(fun gv2:(F80 n b Qe).length=n.Qa.length=>ai ((by first | omega | (simp only [lens] at*<;> omega):0≤a∧a<((F80 n b Qe).length:Int))) (ai (fun h3:(decide (((F80 n b Qe).getD a.toNat default)<0))=true=>(fun _:((F80 n b Qe).getD a.toNat default)<0=>ai ((BuildOK.mk eInt ([]:List Int) rfl (by exact trivial) (fun _=>rfl):BuildOK 0 1 [] (.l 1 eInt ([]:List Int)))) ((fun hF:(([]:List Int):List Int)=(F44 n a b Qe)=>ai (Imp.of_eq (congrArg (fun r:List Int=>Dat.l 1 eInt r) hF)) (trivial)) (condT h3 (rfl)))) (of_decide_eq_true h3)) (fun h3:(decide (((F80 n b Qe).getD a.toNat default)<0))=false=>(fun _:¬ ((F80 n b Qe).getD a.toNat default)<0=>ai ((BuildOK.mk eInt ([a]:List Int) rfl (by exact ai ir (trivial)) (fun _=>rfl):BuildOK 1 1 [.v (vI a)] (.l 1 eInt ([a]:List Int)))) (ai ((by first | omega | (simp only [lens] at*<;> omega):0≤a∧a<((F80 n b Qe).length:Int))) (fun (_:n.Qb.length≤9223372036854775807)=>fun (_:n.Qa.length≤9223372036854775807)=>fun (_:(F80 n b Qe).length≤9223372036854775807)=>fun (_:([a]:List Int).length≤9223372036854775807)=>ai (ai (rfl) (ai (rfl) (ai (rfl) (ai (ir) (ai (ir) (ai (ir) (ai (ir) ((ai (rfl:runL (F44_s0 n a b Qe) (((F80 n b Qe).getD a.toNat default).toNat+1) (([a]:List Int),a,((F80 n b Qe).getD a.toNat default))=(runL (F44_s0 n a b Qe) (((F80 n b Qe).getD a.toNat default).toNat+1) (([a]:List Int),a,((F80 n b Qe).getD a.toNat default)))) (ai ((Nat.lt_succ_self _:Int.toNat ((F80 n b Qe).getD a.toNat default)<(((F80 n b Qe).getD a.toNat default).toNat+1))) (ai ((by first | omega | (simp only [lens] at*<;> omega) | (have hl:=IsDist.lt (by assumption) (k:=a) (by assumption) (by assumption); (try simp only [lens]); omega) | (have hq:=nextOf_ok (by assumption) (by assumption) (a:=at') (by omega) (by omega) (by omega); (try simp only [lens]); omega):0≤a)) (ai ((by first | omega | (simp only [lens] at*<;> omega) | (have hl:=IsDist.lt (by assumption) (k:=a) (by assumption) (by assumption); (try simp only [lens]); omega) | (have hq:=nextOf_ok (by assumption) (by assumption) (a:=at') (by omega) (by omega) (by omega); (try simp only [lens]); omega):a<(n.Qa.length:Int))) (ai ((by first | omega | (simp only [lens] at*<;> omega) | (have hl:=IsDist.lt (by assumption) (k:=a) (by assumption) (by assumption); (try simp only [lens]); omega) | (have hq:=nextOf_ok (by assumption) (by assumption) (a:=at') (by omega) (by omega) (by omega); (try simp only [lens]); omega):(F80 n b Qe).getD a.toNat default=((F80 n b Qe).getD a.toNat default))) (ai ((by first | omega | (simp only [lens] at*<;> omega) | (have hl:=IsDist.lt (by assumption) (k:=a) (by assumption) (by assumption); (try simp only [lens]); omega) | (have hq:=nextOf_ok (by assumption) (by assumption) (a:=at') (by omega) (by omega) (by omega); (try simp only [lens]); omega):(([a]:List Int).length:Int)+((F80 n b Qe).getD a.toNat default)≤8)) ((by first | omega | (simp only [lens] at*<;> omega) | (have hl:=IsDist.lt (by assumption) (k:=a) (by assumption) (by assumption); (try simp only [lens]); omega) | (have hq:=nextOf_ok (by assumption) (by assumption) (a:=at') (by omega) (by omega) (by omega); (try simp only [lens]); omega):0≤((F80 n b Qe).getD a.toNat default)))))))))))))))):((.int .i64 Qe:Value)=.int .i64 Qe)∧((.int .i64 a:Value)=.int .i64 a)∧((.int .i64 ((F80 n b Qe).getD a.toNat default):Value)=.int .i64 ((F80 n b Qe).getD a.toNat default))∧(Imp (.l 2 Qf n.Qb) (.l 2 Qf n.Qb))∧(Imp (.l 2 Qg n.Qa) (.l 2 Qg n.Qa))∧(Imp (.l 1 eInt (F80 n b Qe)) (.l 1 eInt (F80 n b Qe)))∧(Imp (.l 1 eInt ([a]:List Int)) (.l 1 eInt ([a]:List Int)))∧(runL (F44_s0 n a b Qe) (((F80 n b Qe).getD a.toNat default).toNat+1) (([a]:List Int),a,((F80 n b Qe).getD a.toNat default))=(runL (F44_s0 n a b Qe) (((F80 n b Qe).getD a.toNat default).toNat+1) (([a]:List Int),a,((F80 n b Qe).getD a.toNat default)))∧Int.toNat ((F80 n b Qe).getD a.toNat default)<(((F80 n b Qe).getD a.toNat default).toNat+1)∧0≤a∧a<(n.Qa.length:Int)∧(F80 n b Qe).getD a.toNat default=((F80 n b Qe).getD a.toNat default)∧(([a]:List Int).length:Int)+((F80 n b Qe).getD a.toNat default)≤8∧0≤((F80 n b Qe).getD a.toNat default))) (fun (i0:Nat×(List Int×Int×Int)) (hi0:runL (F44_s0 n a b Qe) i0.1 i0.2=(runL (F44_s0 n a b Qe) (((F80 n b Qe).getD a.toNat default).toNat+1) (([a]:List Int),a,((F80 n b Qe).getD a.toNat default)))∧(fun (out:List Int) (at':Int) (d1:Int)=>(Int.toNat d1<i0.1∧0≤at'∧at'<(n.Qa.length:Int)∧(F80 n b Qe).getD at'.toNat default=d1∧(out.length:Int)+d1≤8∧0≤d1)) i0.2.1 i0.2.2.1 i0.2.2.2)=>(fun (m0:Nat) (out:List Int) (at':Int) (d1:Int) (hI0:runL (F44_s0 n a b Qe) (m0+1) (out,at',d1)=(runL (F44_s0 n a b Qe) (((F80 n b Qe).getD a.toNat default).toNat+1) (([a]:List Int),a,((F80 n b Qe).getD a.toNat default)))) (_:Int.toNat d1<m0+1) (hl0:m0<i0.1) (_:0≤at') (_:at'<(n.Qa.length:Int)) (_:(F80 n b Qe).getD at'.toNat default=d1) (_:(out.length:Int)+d1≤8) (_:0≤d1)=>ai (fun h5:(decide (d1>0))=true=>(fun _:d1>0=>ai ((ai ((by first | omega | (simp only [lens] at*<;> omega):0≤at')) ((by first | omega | (simp only [lens] at*<;> omega):at'<((F80 n b Qe).length:Int))))) (ai ((Imps.refl (Qr n))) (ai ((Imp.refl (.l 1 eInt (F80 n b Qe)))) (ai ((Imp.refl (.v (vI at')))) (ai ((Imp.refl (.v (vI Qe)))) (ai ((AppA.mk eInt out [(nextOf n (F80 n b Qe) at' Qe)] (Imp.refl (.l 1 eInt out)) rfl (by exact ai ir (trivial)) (fun _=>rfl):AppA (.l 1 eInt out) 1 1 [.v (vI (nextOf n (F80 n b Qe) at' Qe))] (.l 1 eInt (out++[(nextOf n (F80 n b Qe) at' Qe)])))) (ai ((by (try simp only [lens]); omega:((out++[(nextOf n (F80 n b Qe) at' Qe)])).length*8≤140737488355328)) (ai ((by unfold i64ok; first | omega | (simp only [lens] at*<;> omega):i64ok (d1-1))) (Exists.intro (p:=fun j:Nat×(List Int×Int×Int)=>(fun (out_:List Int) (at'_:Int) (d1_:Int)=>(((.int .i64 Qe:Value)=.int .i64 Qe)∧((.int .i64 (nextOf n (F80 n b Qe) at' Qe):Value)=.int .i64 at'_)∧((.int .i64 (d1-1):Value)=.int .i64 d1_)∧(Imp (.l 2 Qf n.Qb) (.l 2 Qf n.Qb))∧(Imp (.l 2 Qg n.Qa) (.l 2 Qg n.Qa))∧(Imp (.l 1 eInt (F80 n b Qe)) (.l 1 eInt (F80 n b Qe)))∧(Imp (.l 1 eInt (out++[(nextOf n (F80 n b Qe) at' Qe)])) (.l 1 eInt out_))∧((runL (F44_s0 n a b Qe) j.1 j.2=(runL (F44_s0 n a b Qe) (((F80 n b Qe).getD a.toNat default).toNat+1) (([a]:List Int),a,((F80 n b Qe).getD a.toNat default)))∧Int.toNat d1_<j.1∧0≤at'_∧at'_<(n.Qa.length:Int)∧(F80 n b Qe).getD (Int.toNat at'_) default=d1_∧(out_.length:Int)+d1_≤8∧0≤d1_)∧j.1<i0.1))) j.2.1 j.2.2.1 j.2.2.2) (m0,((out++[(nextOf n (F80 n b Qe) at' Qe)]),(nextOf n (F80 n b Qe) at' Qe),(d1-1))) (ai (rfl) (ai (rfl) (ai (rfl) (ai (ir) (ai (ir) (ai (ir) (ai (ir) (ai (ai (runL_next hI0 (condT h5 (rfl))) (ai ((by first | omega | (simp only [lens] at*<;> omega) | (have hl:=IsDist.lt (by assumption) (k:=a) (by assumption) (by assumption); (try simp only [lens]); omega) | (have hq:=nextOf_ok (by assumption) (by assumption) (a:=at') (by omega) (by omega) (by omega); (try simp only [lens]); omega):Int.toNat (d1-1)<m0)) (ai ((by first | omega | (simp only [lens] at*<;> omega) | (have hl:=IsDist.lt (by assumption) (k:=a) (by assumption) (by assumption); (try simp only [lens]); omega) | (have hq:=nextOf_ok (by assumption) (by assumption) (a:=at') (by omega) (by omega) (by omega); (try simp only [lens]); omega):0≤(nextOf n (F80 n b Qe) at' Qe))) (ai ((by first | omega | (simp only [lens] at*<;> omega) | (have hl:=IsDist.lt (by assumption) (k:=a) (by assumption) (by assumption); (try simp only [lens]); omega) | (have hq:=nextOf_ok (by assumption) (by assumption) (a:=at') (by omega) (by omega) (by omega); (try simp only [lens]); omega):(nextOf n (F80 n b Qe) at' Qe)<(n.Qa.length:Int))) (ai ((by first | omega | (simp only [lens] at*<;> omega) | (have hl:=IsDist.lt (by assumption) (k:=a) (by assumption) (by assumption); (try simp only [lens]); omega) | (have hq:=nextOf_ok (by assumption) (by assumption) (a:=at') (by omega) (by omega) (by omega); (try simp only [lens]); omega):(F80 n b Qe).getD (nextOf n (F80 n b Qe) at' Qe).toNat default=(d1-1))) (ai ((by first | omega | (simp only [lens] at*<;> omega) | (have hl:=IsDist.lt (by assumption) (k:=a) (by assumption) (by assumption); (try simp only [lens]); omega) | (have hq:=nextOf_ok (by assumption) (by assumption) (a:=at') (by omega) (by omega) (by omega); (try simp only [lens]); omega):((out++[(nextOf n (F80 n b Qe) at' Qe)]).length:Int)+(d1-1)≤8)) ((by first | omega | (simp only [lens] at*<;> omega) | (have hl:=IsDist.lt (by assumption) (k:=a) (by assumption) (by assumption); (try simp only [lens]); omega) | (have hq:=nextOf_ok (by assumption) (by assumption) (a:=at') (by omega) (by omega) (by omega); (try simp only [lens]); omega):0≤(d1-1))))))))) hl0))))))))))))))))) (of_decide_eq_true h5)) (fun h5:(decide (d1>0))=false=>(fun _:¬ d1>0=>(fun hD0_6:(runL (F44_s0 n a b Qe) (((F80 n b Qe).getD a.toNat default).toNat+1) (([a]:List Int),a,((F80 n b Qe).getD a.toNat default)))=Lp.done (out,at',d1)=>(fun hF:(out:List Int)=(F44 n a b Qe)=>ai (Imp.of_eq (congrArg (fun r:List Int=>Dat.l 1 eInt r) hF)) (trivial)) (condF h3 (finD hD0_6 (rfl)))) (runL_done hI0 (condF h5 (rfl)))) (of_decide_eq_false h5))) (i0.1-1) i0.2.1 i0.2.2.1 i0.2.2.2 (hd1 hi0.1 hi0.2.1) (hd2 hi0.2.1) (hd3 hi0.2.1) hi0.2.2.1 hi0.2.2.2.1 hi0.2.2.2.2.1 hi0.2.2.2.2.2.1 hi0.2.2.2.2.2.2)))) (of_decide_eq_false h3)))) (far_len n b Qe (by first | assumption | exact Qn.frame (by assumption):FrameOk n) (by first | omega | (simp only [lens] at*<;> omega):0≤b) (by first | omega | (simp only [lens] at*<;> omega):b<(n.Qa.length:Int)))) (far_isDist n b Qe (by first | assumption | exact Qn.frame (by assumption):FrameOk n) (by first | omega | (simp only [lens] at*<;> omega):0≤b) (by first | omega | (simp only [lens] at*<;> omega):b<(n.Qa.length:Int)))))))) hp.1 hp.2.1 hp.2.2.1 hp.2.2.2.1 hp.2.2.2.2.1 hp.2.2.2.2.2) (by kernel_rfl)
def F12 (n:Qd) (a:Int) (b:Int) (Qe:Int):List Int :=
 bif (bif (bif (!(netB n)) then true else (!(decide (0≤a∧a≤((n.Qa.length:Int)-1))))) then true else (!(decide (0≤b∧b≤((n.Qa.length:Int)-1))))) then ([]:List Int) else (F44 n a b Qe)
def S12 (R:List Int) (n:Qd) (a:Int) (b:Int) (Qe:Int):Spec:=⟨[.r (.g (Qr n)),.r (.c (.v (vI a))),.r (.c (.v (vI b))),.r (.c (.v (vI Qe)))],.ow (.l 1 eInt R),True⟩
theorem ok12 (n:Qd) (a:Int) (b:Int) (Qe:Int):(S12 (F12 n a b Qe) n a b Qe).ok Try.prog 12 :=
 fnG_ok mixed (fn:=Try.f12) (ct:=.seq (.no) (.seq (.seq (.reg [(1,.call 14 (S14 (netB n) n) (oa14 n) none),(8,.bnd),(9,.call 43 (S43 (decide (0≤a∧a≤((n.Qa.length:Int)-1))) a 0 ((n.Qa.length:Int)-1)) (oa43 a 0 ((n.Qa.length:Int)-1)) none),(17,.bnd),(18,.call 43 (S43 (decide (0≤b∧b≤((n.Qa.length:Int)-1))) b 0 ((n.Qa.length:Int)-1)) (oa43 b 0 ((n.Qa.length:Int)-1)) none)]) (.cond (.seq (.reg [(0,.dat (.l 1 eInt ([]:List Int)))]) (.no)) (.no))) (.seq (.reg [(4,.call 44 (S44 (F44 n a b Qe) n a b Qe) (ok44 n a b Qe) none)]) (.no)))) Try.func12 (fun (_:True)=>ai (trivial) (ai ((Imps.refl (Qr n))) (ai ((fun k1:(!(netB n))=false=>(fun _:n.Qb.length≤14=>(fun _:n.Qa.length≤8=>(fun _:Qn n=>(by unfold i64ok; omega:i64ok ((n.Qa.length:Int)-1))) (netB_T n (notEF k1))) (netB_8 n (notEF k1))) (netB_14 n (notEF k1)))) (ai ((fun k2:(!(netB n))=false=>(fun _:n.Qb.length≤14=>(fun _:n.Qa.length≤8=>(fun _:Qn n=>trivial) (netB_T n (notEF k2))) (netB_8 n (notEF k2))) (netB_14 n (notEF k2)))) (ai ((fun k3:(!(netB n))=false=>(fun _:n.Qb.length≤14=>(fun _:n.Qa.length≤8=>(fun _:Qn n=>(Imp.refl (.v (vI a)))) (netB_T n (notEF k3))) (netB_8 n (notEF k3))) (netB_14 n (notEF k3)))) (ai ((fun k4:(!(netB n))=false=>(fun _:n.Qb.length≤14=>(fun _:n.Qa.length≤8=>(fun _:Qn n=>(Imp.refl (.v (vI 0)))) (netB_T n (notEF k4))) (netB_8 n (notEF k4))) (netB_14 n (notEF k4)))) (ai ((fun k5:(!(netB n))=false=>(fun _:n.Qb.length≤14=>(fun _:n.Qa.length≤8=>(fun _:Qn n=>(Imp.refl (.v (vI ((n.Qa.length:Int)-1))))) (netB_T n (notEF k5))) (netB_8 n (notEF k5))) (netB_14 n (notEF k5)))) (ai ((fun k6:(bif (!(netB n)) then true else (!(decide (0≤a∧a≤((n.Qa.length:Int)-1)))))=false=>(fun _:0≤a∧a≤((n.Qa.length:Int)-1)=>(fun _:n.Qb.length≤14=>(fun _:n.Qa.length≤8=>(fun _:Qn n=>(by unfold i64ok; omega:i64ok ((n.Qa.length:Int)-1))) (netB_T n (notEF (orF1 k6)))) (netB_8 n (notEF (orF1 k6)))) (netB_14 n (notEF (orF1 k6)))) (of_decide_eq_true (notEF (orF2 k6))))) (ai ((fun k7:(bif (!(netB n)) then true else (!(decide (0≤a∧a≤((n.Qa.length:Int)-1)))))=false=>(fun _:0≤a∧a≤((n.Qa.length:Int)-1)=>(fun _:n.Qb.length≤14=>(fun _:n.Qa.length≤8=>(fun _:Qn n=>trivial) (netB_T n (notEF (orF1 k7)))) (netB_8 n (notEF (orF1 k7)))) (netB_14 n (notEF (orF1 k7)))) (of_decide_eq_true (notEF (orF2 k7))))) (ai ((fun k8:(bif (!(netB n)) then true else (!(decide (0≤a∧a≤((n.Qa.length:Int)-1)))))=false=>(fun _:0≤a∧a≤((n.Qa.length:Int)-1)=>(fun _:n.Qb.length≤14=>(fun _:n.Qa.length≤8=>(fun _:Qn n=>(Imp.refl (.v (vI b)))) (netB_T n (notEF (orF1 k8)))) (netB_8 n (notEF (orF1 k8)))) (netB_14 n (notEF (orF1 k8)))) (of_decide_eq_true (notEF (orF2 k8))))) (ai ((fun k9:(bif (!(netB n)) then true else (!(decide (0≤a∧a≤((n.Qa.length:Int)-1)))))=false=>(fun _:0≤a∧a≤((n.Qa.length:Int)-1)=>(fun _:n.Qb.length≤14=>(fun _:n.Qa.length≤8=>(fun _:Qn n=>(Imp.refl (.v (vI 0)))) (netB_T n (notEF (orF1 k9)))) (netB_8 n (notEF (orF1 k9)))) (netB_14 n (notEF (orF1 k9)))) (of_decide_eq_true (notEF (orF2 k9))))) (ai ((fun k10:(bif (!(netB n)) then true else (!(decide (0≤a∧a≤((n.Qa.length:Int)-1)))))=false=>(fun _:0≤a∧a≤((n.Qa.length:Int)-1)=>(fun _:n.Qb.length≤14=>(fun _:n.Qa.length≤8=>(fun _:Qn n=>(Imp.refl (.v (vI ((n.Qa.length:Int)-1))))) (netB_T n (notEF (orF1 k10)))) (netB_8 n (notEF (orF1 k10)))) (netB_14 n (notEF (orF1 k10)))) (of_decide_eq_true (notEF (orF2 k10))))) (ai (fun h11:(bif (bif (!(netB n)) then true else (!(decide (0≤a∧a≤((n.Qa.length:Int)-1))))) then true else (!(decide (0≤b∧b≤((n.Qa.length:Int)-1)))))=true=>ai ((BuildOK.mk eInt ([]:List Int) rfl (by exact trivial) (fun _=>rfl):BuildOK 0 1 [] (.l 1 eInt ([]:List Int)))) ((fun hF:(([]:List Int):List Int)=(F12 n a b Qe)=>ai (Imp.of_eq (congrArg (fun r:List Int=>Dat.l 1 eInt r) hF)) (trivial)) (condT h11 (rfl)))) (fun h11:(bif (bif (!(netB n)) then true else (!(decide (0≤a∧a≤((n.Qa.length:Int)-1))))) then true else (!(decide (0≤b∧b≤((n.Qa.length:Int)-1)))))=false=>(fun _:0≤b∧b≤((n.Qa.length:Int)-1)=>(fun _:0≤a∧a≤((n.Qa.length:Int)-1)=>(fun _:n.Qb.length≤14=>(fun _:n.Qa.length≤8=>(fun _:Qn n=>ai ((ai ((by first | assumption | exact Qn.frame (by assumption):FrameOk n)) (ai ((by omega:n.Qa.length≤8)) (ai ((by omega:0≤a)) (ai ((by omega:a<(n.Qa.length:Int))) (ai ((by omega:0≤b)) ((by omega:b<(n.Qa.length:Int))))))))) (ai ((Imps.refl (Qr n))) (ai ((Imp.refl (.v (vI a)))) (ai ((Imp.refl (.v (vI b)))) (ai ((Imp.refl (.v (vI Qe)))) ((fun hF:((F44 n a b Qe):List Int)=(F12 n a b Qe)=>ai (Imp.of_eq (congrArg (fun r:List Int=>Dat.l 1 eInt r) hF)) (trivial)) (condF h11 (rfl)))))))) (netB_T n (notEF (orF1 (orF1 h11))))) (netB_8 n (notEF (orF1 (orF1 h11))))) (netB_14 n (notEF (orF1 (orF1 h11))))) (of_decide_eq_true (notEF (orF2 (orF1 h11))))) (of_decide_eq_true (notEF (orF2 h11))))))))))))))))) (by kernel_rfl)
def F10_s1 (n:Qd) (a:Int) (b:Int) (Qe:Int) (way:List Int) (last:Int):(Int×Int)→Lp (Int×Int) (List Int):=fun (last2,v45) =>
 bif (decide (v45<((F80 n b Qe).length:Int))) then (bif (bif (decide (0≤Qh n last2 v45∧Qh n last2 v45≠Qe)) then (((F80 n b Qe).getD v45.toNat default)==(IntKind.i64.wrap (((F80 n b Qe).getD last2.toNat default)-1))) else false) then (.done (v45,v45)) else (.next (last2,(v45+1)))) else (.done (last2,v45))
def F10_j2 (n:Qd) (a:Int) (b:Int) (Qe:Int) (way:List Int) (last:Int):Lp Int (List Int) :=
 (runL (F10_s1 n a b Qe way last) ((((F80 n b Qe).length:Int)-0).toNat+1) (last,0)).fin Lp.ret (fun (last2,v45)=>.done last2)
def F10_s0 (n:Qd) (a:Int) (b:Int) (Qe:Int):(List Int×Int)→Lp (List Int×Int) (List Int):=fun (way,last) =>
 bif (last != b) then ((F10_j2 n a b Qe way last).fin Lp.ret (fun last1=>.next ((way++[last1]),last1))) else (.done (way,last))
def F10 (n:Qd) (a:Int) (b:Int) (Qe:Int):List Int :=
 bif (bif (bif (!(netB n)) then true else (!(decide (0≤a∧a≤(n.Qa.length:Int)-1)))) then true else (!(decide (0≤b∧b≤(n.Qa.length:Int)-1)))) then ([]:List Int) else (bif (decide (((F80 n b Qe).getD a.toNat default)<0)) then ([]:List Int) else ((runL (F10_s0 n a b Qe) (((F80 n b Qe).getD a.toNat default).toNat+1) (([a]:List Int),a)).fin (fun r=>r) (fun (way,last)=>way)))
def S10 (R:List Int) (n:Qd) (a:Int) (b:Int) (Qe:Int):Spec:=⟨[.r (.g (Qr n)),.r (.c (.v (vI a))),.r (.c (.v (vI b))),.r (.c (.v (vI Qe)))],.ow (.l 1 eInt R),True⟩
theorem ok10 (n:Qd) (a:Int) (b:Int) (Qe:Int):(S10 (F10 n a b Qe) n a b Qe).ok Try.prog 10 :=
 fnG_ok mixed (fn:=Try.f10) (ct:=.seq (.no) (.seq (.seq (.reg [(1,.call 13 (S13 (netB n) n) (oa13 n) none),(6,.call 40 (S40 (decide (0≤a∧a≤(n.Qa.length:Int)-1)) n a) (oa40 n a) none),(12,.call 40 (S40 (decide (0≤b∧b≤(n.Qa.length:Int)-1)) n b) (oa40 n b) none)]) (.cond (.seq (.no) (.no)) (.no))) (.seq (.reg [(3,.call 41 (T41 (F80 n b Qe) n b Qe) (oa41 n b Qe) none)]) (.seq (.seq (.no) (.cond (.seq (.no) (.no)) (.no))) (.seq (.reg [(1,.dat (.l 1 eInt ([a]:List Int)))]) (.seq (.seqk [(4,0),(4,1),(9,0),(10,0)] (.no) (.blk (.loop (ι:=Nat×(List Int×Int)) (fun i=>(fun (way:List Int) (last:Int)=>(⟨[(2,some (.v (vI b))),(3,some (.v (vI Qe))),(4,some (.p 0 0)),(9,some (.h 3 0)),(10,some (.h 4 0)),(11,some (.v (vI last)))],[(0,some (.box 26 [.h 1 0,.h 2 0])),(1,some (.shr none (.l 2 Qf n.Qb))),(2,some (.shr none (.l 2 Qg n.Qa))),(3,some (.own 3 (.l 1 eInt (F80 n b Qe)))),(4,some (.own 4 (.l 1 eInt way)))],5⟩:St)) i.2.1 i.2.2) (fun i=>runL (F10_s0 n a b Qe) i.1 i.2=(runL (F10_s0 n a b Qe) (((F80 n b Qe).getD a.toNat default).toNat+1) (([a]:List Int),a))∧(fun (way:List Int) (last:Int)=>(Int.toNat ((F80 n b Qe).getD last.toNat default)<i.1∧(0≤last∧last<(n.Qa.length:Int))∧0≤(F80 n b Qe).getD last.toNat default∧(way.length:Int)+(F80 n b Qe).getD last.toNat default≤8)) i.2.1 i.2.2) (fun i=>i.1) ((((F80 n b Qe).getD a.toNat default).toNat+1),(([a]:List Int),a)) (fun i=>(fun (way:List Int) (last:Int)=>(.seq (.seq (.no) (.cond (.no) (.no))) (.blk (.cut (ι:=Int) (fun j=>(fun (last1:Int)=>(⟨[(2,some (.v (vI b))),(3,some (.v (vI Qe))),(4,some (.p 0 0)),(9,some (.h 3 0)),(10,some (.h 4 0)),(11,some (.v (vI last1)))],[(0,some (.box 26 [.h 1 0,.h 2 0])),(1,some (.shr none (.l 2 Qf n.Qb))),(2,some (.shr none (.l 2 Qg n.Qa))),(3,some (.own 3 (.l 1 eInt (F80 n b Qe)))),(4,some (.own 4 (.l 1 eInt way)))],5⟩:St)) j) (fun j=>(fun (last1:Int)=>((F10_j2 n a b Qe way last)=Lp.done j∧(0≤last1∧last1<(n.Qa.length:Int))∧(F80 n b Qe).getD last1.toNat default=(F80 n b Qe).getD last.toNat default-1)) j) (.seqk [(4,0),(4,1),(9,0)] (.no) (.blk (.loop (ι:=Nat×(Int×Int)) (fun i=>(fun (last2:Int) (v45:Int)=>(⟨[(2,some (.v (vI b))),(3,some (.v (vI Qe))),(4,some (.p 0 0)),(9,some (.h 3 0)),(10,some (.h 4 0)),(11,some (.v (vI last2))),(44,some (.v (vI ((F80 n b Qe).length:Int)))),(45,some (.v (vI v45)))],[(0,some (.box 26 [.h 1 0,.h 2 0])),(1,some (.shr none (.l 2 Qf n.Qb))),(2,some (.shr none (.l 2 Qg n.Qa))),(3,some (.own 3 (.l 1 eInt (F80 n b Qe)))),(4,some (.own 4 (.l 1 eInt way)))],5⟩:St)) i.2.1 i.2.2) (fun i=>runL (F10_s1 n a b Qe way last) i.1 i.2=(runL (F10_s1 n a b Qe way last) ((((F80 n b Qe).length:Int)-0).toNat+1) (last,0))∧(fun (last2:Int) (v45:Int)=>(Int.toNat (((F80 n b Qe).length:Int)-v45)<i.1∧last2=last∧NoNext n (F80 n b Qe) Qe last2 v45∧(0:Int)≤v45)) i.2.1 i.2.2) (fun i=>i.1) (((((F80 n b Qe).length:Int)-0).toNat+1),(last,0)) (fun i=>(fun (last2:Int) (v45:Int)=>(.seq (.no) (.seq (.cond (.no) (.no)) (.seq (.blk (.seq (.no) (.seq (.reg [(4,.call 42 (S42 (decide (0≤Qh n last2 v45∧Qh n last2 v45≠Qe)) n last2 v45 Qe) (oa42 n last2 v45 Qe) none)]) (.cond (.seq (.no) (.no)) (.no))))) (.reg [(0,.bnd)]))))) i.2.1 i.2.2)))) (fun j=>(fun (last1:Int)=>(.reg [(3,.dat (.l 1 eInt (way++[last1])))])) j))))) i.2.1 i.2.2)))) (.seq (.no) (.no)))))))) Try.func10 (fun (_:True)=>ai (trivial) (ai ((Imps.refl (Qr n))) (ai ((fun k1:(!(netB n))=false=>(fun _:n.Qb.length≤14=>(fun _:n.Qa.length≤8=>(fun _:Qn n=>((by first | omega | (simp only [lens] at*<;> omega):n.Qa.length≤9223372036854775807))) (netB_T n (notEF k1))) (netB_8 n (notEF k1))) (netB_14 n (notEF k1)))) (ai ((fun k2:(!(netB n))=false=>(fun _:n.Qb.length≤14=>(fun _:n.Qa.length≤8=>(fun _:Qn n=>(Imps.refl (Qr n))) (netB_T n (notEF k2))) (netB_8 n (notEF k2))) (netB_14 n (notEF k2)))) (ai ((fun k3:(!(netB n))=false=>(fun _:n.Qb.length≤14=>(fun _:n.Qa.length≤8=>(fun _:Qn n=>(Imp.refl (.v (vI a)))) (netB_T n (notEF k3))) (netB_8 n (notEF k3))) (netB_14 n (notEF k3)))) (ai ((fun k4:(bif (!(netB n)) then true else (!(decide (0≤a∧a≤(n.Qa.length:Int)-1))))=false=>(fun _:0≤a∧a≤(n.Qa.length:Int)-1=>(fun _:n.Qb.length≤14=>(fun _:n.Qa.length≤8=>(fun _:Qn n=>((by first | omega | (simp only [lens] at*<;> omega):n.Qa.length≤9223372036854775807))) (netB_T n (notEF (orF1 k4)))) (netB_8 n (notEF (orF1 k4)))) (netB_14 n (notEF (orF1 k4)))) (of_decide_eq_true (notEF (orF2 k4))))) (ai ((fun k5:(bif (!(netB n)) then true else (!(decide (0≤a∧a≤(n.Qa.length:Int)-1))))=false=>(fun _:0≤a∧a≤(n.Qa.length:Int)-1=>(fun _:n.Qb.length≤14=>(fun _:n.Qa.length≤8=>(fun _:Qn n=>(Imps.refl (Qr n))) (netB_T n (notEF (orF1 k5)))) (netB_8 n (notEF (orF1 k5)))) (netB_14 n (notEF (orF1 k5)))) (of_decide_eq_true (notEF (orF2 k5))))) (ai ((fun k6:(bif (!(netB n)) then true else (!(decide (0≤a∧a≤(n.Qa.length:Int)-1))))=false=>(fun _:0≤a∧a≤(n.Qa.length:Int)-1=>(fun _:n.Qb.length≤14=>(fun _:n.Qa.length≤8=>(fun _:Qn n=>(Imp.refl (.v (vI b)))) (netB_T n (notEF (orF1 k6)))) (netB_8 n (notEF (orF1 k6)))) (netB_14 n (notEF (orF1 k6)))) (of_decide_eq_true (notEF (orF2 k6))))) (ai (fun h7:(bif (bif (!(netB n)) then true else (!(decide (0≤a∧a≤(n.Qa.length:Int)-1)))) then true else (!(decide (0≤b∧b≤(n.Qa.length:Int)-1))))=true=>(fun hF:(([]:List Int):List Int)=(F10 n a b Qe)=>ai ((Imp.nil 1 eInt).trans (Imp.of_eq (congrArg (fun r:List Int=>Dat.l 1 eInt r) hF))) (trivial)) (condT h7 (rfl))) (fun h7:(bif (bif (!(netB n)) then true else (!(decide (0≤a∧a≤(n.Qa.length:Int)-1)))) then true else (!(decide (0≤b∧b≤(n.Qa.length:Int)-1))))=false=>(fun _:0≤b∧b≤(n.Qa.length:Int)-1=>(fun _:0≤a∧a≤(n.Qa.length:Int)-1=>(fun _:n.Qb.length≤14=>(fun _:n.Qa.length≤8=>(fun _:Qn n=>ai ((ai ((by first | assumption | exact Qn.frame (by assumption):FrameOk n)) (ai ((by first | omega | (simp only [lens] at*<;> omega):0≤b)) (ai ((by first | omega | (simp only [lens] at*<;> omega):b<(n.Qa.length:Int))) ((by first | omega | (simp only [lens] at*<;> omega):n.Qa.length≤8)))))) (ai ((Imps.refl (Qr n))) (ai ((Imp.refl (.v (vI b)))) (ai ((Imp.refl (.v (vI Qe)))) ((fun gv8:IsDist n b Qe (F80 n b Qe)=>(fun gv9:(F80 n b Qe).length=n.Qa.length=>ai ((by first | omega | (simp only [lens] at*<;> omega):0≤a∧a<((F80 n b Qe).length:Int))) (ai (fun h10:(decide (((F80 n b Qe).getD a.toNat default)<0))=true=>(fun _:((F80 n b Qe).getD a.toNat default)<0=>(fun hF:(([]:List Int):List Int)=(F10 n a b Qe)=>ai ((Imp.nil 1 eInt).trans (Imp.of_eq (congrArg (fun r:List Int=>Dat.l 1 eInt r) hF))) (trivial)) (condF h7 (condT h10 (rfl)))) (of_decide_eq_true h10)) (fun h10:(decide (((F80 n b Qe).getD a.toNat default)<0))=false=>(fun _:¬ ((F80 n b Qe).getD a.toNat default)<0=>ai ((BuildOK.mk eInt ([a]:List Int) rfl (by exact ai ir (trivial)) (fun _=>rfl):BuildOK 1 1 [.v (vI a)] (.l 1 eInt ([a]:List Int)))) (fun (_:n.Qb.length≤9223372036854775807)=>fun (_:n.Qa.length≤9223372036854775807)=>fun (_:(F80 n b Qe).length≤9223372036854775807)=>fun (_:([a]:List Int).length≤9223372036854775807)=>ai (ai (rfl) (ai (rfl) (ai (rfl) (ai (ir) (ai (ir) (ai (ir) (ai (ir) ((ai (rfl:runL (F10_s0 n a b Qe) (((F80 n b Qe).getD a.toNat default).toNat+1) (([a]:List Int),a)=(runL (F10_s0 n a b Qe) (((F80 n b Qe).getD a.toNat default).toNat+1) (([a]:List Int),a))) (ai ((Nat.lt_succ_self _:Int.toNat ((F80 n b Qe).getD a.toNat default)<(((F80 n b Qe).getD a.toNat default).toNat+1))) (ai ((by first | omega | (simp only [lens] at*<;> omega) | (have hl:=IsDist.lt (by assumption) (k:=a) (by omega) (by omega); (try simp only [lens]); omega) | (have hp:=IsDist.pos (by assumption) (k:=last) (by omega) (by omega) (by assumption) (by omega); (try simp only [lens]); omega):0≤a∧a<(n.Qa.length:Int))) (ai ((by first | omega | (simp only [lens] at*<;> omega) | (have hl:=IsDist.lt (by assumption) (k:=a) (by omega) (by omega); (try simp only [lens]); omega) | (have hp:=IsDist.pos (by assumption) (k:=last) (by omega) (by omega) (by assumption) (by omega); (try simp only [lens]); omega):0≤(F80 n b Qe).getD a.toNat default)) ((by first | omega | (simp only [lens] at*<;> omega) | (have hl:=IsDist.lt (by assumption) (k:=a) (by omega) (by omega); (try simp only [lens]); omega) | (have hp:=IsDist.pos (by assumption) (k:=last) (by omega) (by omega) (by assumption) (by omega); (try simp only [lens]); omega):(([a]:List Int).length:Int)+(F80 n b Qe).getD a.toNat default≤8))))))))))))):((.int .i64 b:Value)=.int .i64 b)∧((.int .i64 Qe:Value)=.int .i64 Qe)∧((.int .i64 a:Value)=.int .i64 a)∧(Imp (.l 2 Qf n.Qb) (.l 2 Qf n.Qb))∧(Imp (.l 2 Qg n.Qa) (.l 2 Qg n.Qa))∧(Imp (.l 1 eInt (F80 n b Qe)) (.l 1 eInt (F80 n b Qe)))∧(Imp (.l 1 eInt ([a]:List Int)) (.l 1 eInt ([a]:List Int)))∧(runL (F10_s0 n a b Qe) (((F80 n b Qe).getD a.toNat default).toNat+1) (([a]:List Int),a)=(runL (F10_s0 n a b Qe) (((F80 n b Qe).getD a.toNat default).toNat+1) (([a]:List Int),a))∧Int.toNat ((F80 n b Qe).getD a.toNat default)<(((F80 n b Qe).getD a.toNat default).toNat+1)∧(0≤a∧a<(n.Qa.length:Int))∧0≤(F80 n b Qe).getD a.toNat default∧(([a]:List Int).length:Int)+(F80 n b Qe).getD a.toNat default≤8)) (fun (i0:Nat×(List Int×Int)) (hi0:runL (F10_s0 n a b Qe) i0.1 i0.2=(runL (F10_s0 n a b Qe) (((F80 n b Qe).getD a.toNat default).toNat+1) (([a]:List Int),a))∧(fun (way:List Int) (last:Int)=>(Int.toNat ((F80 n b Qe).getD last.toNat default)<i0.1∧(0≤last∧last<(n.Qa.length:Int))∧0≤(F80 n b Qe).getD last.toNat default∧(way.length:Int)+(F80 n b Qe).getD last.toNat default≤8)) i0.2.1 i0.2.2)=>(fun (m0:Nat) (way:List Int) (last:Int) (hI0:runL (F10_s0 n a b Qe) (m0+1) (way,last)=(runL (F10_s0 n a b Qe) (((F80 n b Qe).getD a.toNat default).toNat+1) (([a]:List Int),a))) (_:Int.toNat ((F80 n b Qe).getD last.toNat default)<m0+1) (hl0:m0<i0.1) (_:0≤last∧last<(n.Qa.length:Int)) (_:0≤(F80 n b Qe).getD last.toNat default) (_:(way.length:Int)+(F80 n b Qe).getD last.toNat default≤8)=>ai (fun h12:(last != b)=true=>(fun _:¬ last=b=>ai (fun (_:n.Qb.length≤9223372036854775807)=>fun (_:n.Qa.length≤9223372036854775807)=>fun (_:(F80 n b Qe).length≤9223372036854775807)=>ai (ai (rfl) (ai (rfl) (ai (rfl) (ai (rfl) (ai (rfl) (ai (ir) (ai (ir) (ai (ir) (ai (ir) ((ai (rfl:runL (F10_s1 n a b Qe way last) ((((F80 n b Qe).length:Int)-0).toNat+1) (last,0)=(runL (F10_s1 n a b Qe way last) ((((F80 n b Qe).length:Int)-0).toNat+1) (last,0))) (ai ((Nat.lt_succ_self _:Int.toNat (((F80 n b Qe).length:Int)-0)<((((F80 n b Qe).length:Int)-0).toNat+1))) (ai ((by first | omega | (simp only [lens] at*<;> omega) | exact NoNext.zero | exact NoNext.nextU (by assumption) (by assumption) (by omega):last=last)) (ai ((by first | omega | (simp only [lens] at*<;> omega) | exact NoNext.zero | exact NoNext.nextU (by assumption) (by assumption) (by omega):NoNext n (F80 n b Qe) Qe last 0)) ((by first | omega | (simp only [lens] at*<;> omega) | exact NoNext.zero | exact NoNext.nextU (by assumption) (by assumption) (by omega):(0:Int)≤0))))))))))))))):((.int .i64 b:Value)=.int .i64 b)∧((.int .i64 Qe:Value)=.int .i64 Qe)∧((.int .i64 last:Value)=.int .i64 last)∧((.int .i64 ((F80 n b Qe).length:Int):Value)=.int .i64 ((F80 n b Qe).length:Int))∧((.int .i64 0:Value)=.int .i64 0)∧(Imp (.l 2 Qf n.Qb) (.l 2 Qf n.Qb))∧(Imp (.l 2 Qg n.Qa) (.l 2 Qg n.Qa))∧(Imp (.l 1 eInt (F80 n b Qe)) (.l 1 eInt (F80 n b Qe)))∧(Imp (.l 1 eInt way) (.l 1 eInt way))∧(runL (F10_s1 n a b Qe way last) ((((F80 n b Qe).length:Int)-0).toNat+1) (last,0)=(runL (F10_s1 n a b Qe way last) ((((F80 n b Qe).length:Int)-0).toNat+1) (last,0))∧Int.toNat (((F80 n b Qe).length:Int)-0)<((((F80 n b Qe).length:Int)-0).toNat+1)∧last=last∧NoNext n (F80 n b Qe) Qe last 0∧(0:Int)≤0)) (fun (i1:Nat×(Int×Int)) (hi1:runL (F10_s1 n a b Qe way last) i1.1 i1.2=(runL (F10_s1 n a b Qe way last) ((((F80 n b Qe).length:Int)-0).toNat+1) (last,0))∧(fun (last2:Int) (v45:Int)=>(Int.toNat (((F80 n b Qe).length:Int)-v45)<i1.1∧last2=last∧NoNext n (F80 n b Qe) Qe last2 v45∧(0:Int)≤v45)) i1.2.1 i1.2.2)=>(fun (m1:Nat) (last2:Int) (v45:Int) (hI1:runL (F10_s1 n a b Qe way last) (m1+1) (last2,v45)=(runL (F10_s1 n a b Qe way last) ((((F80 n b Qe).length:Int)-0).toNat+1) (last,0))) (_:Int.toNat (((F80 n b Qe).length:Int)-v45)<m1+1) (hl1:m1<i1.1) (_:last2=last) (_:NoNext n (F80 n b Qe) Qe last2 v45) (_:(0:Int)≤v45)=>ai (fun h14:(decide (v45<((F80 n b Qe).length:Int)))=true=>(fun _:v45<((F80 n b Qe).length:Int)=>ai (((by first | assumption | exact Qn.frame (by assumption):FrameOk n))) (ai ((Imps.refl (Qr n))) (ai ((Imp.refl (.v (vI last2)))) (ai ((Imp.refl (.v (vI v45)))) (ai ((Imp.refl (.v (vI Qe)))) (ai ((fun k15:(decide (0≤Qh n last2 v45∧Qh n last2 v45≠Qe))=true=>(fun _:0≤Qh n last2 v45∧Qh n last2 v45≠Qe=>(by first | omega | (simp only [lens] at*<;> omega):0≤v45∧v45<((F80 n b Qe).length:Int))) (of_decide_eq_true k15))) (ai ((fun k16:(decide (0≤Qh n last2 v45∧Qh n last2 v45≠Qe))=true=>(fun _:0≤Qh n last2 v45∧Qh n last2 v45≠Qe=>(by first | omega | (simp only [lens] at*<;> omega):0≤last2∧last2<((F80 n b Qe).length:Int))) (of_decide_eq_true k16))) (ai (fun h17:(bif (decide (0≤Qh n last2 v45∧Qh n last2 v45≠Qe)) then (((F80 n b Qe).getD v45.toNat default)==(IntKind.i64.wrap (((F80 n b Qe).getD last2.toNat default)-1))) else false)=true=>(fun _:((F80 n b Qe).getD v45.toNat default)=(IntKind.i64.wrap (((F80 n b Qe).getD last2.toNat default)-1))=>(fun _:0≤Qh n last2 v45∧Qh n last2 v45≠Qe=>(fun hD1_18:(runL (F10_s1 n a b Qe way last) ((((F80 n b Qe).length:Int)-0).toNat+1) (last,0))=Lp.done (v45,v45)=>Exists.intro (p:=fun j:Int=>(fun (last1_:Int)=>(((.int .i64 b:Value)=.int .i64 b)∧((.int .i64 Qe:Value)=.int .i64 Qe)∧((.int .i64 (v45):Value)=.int .i64 last1_)∧(Imp (.l 2 Qf n.Qb) (.l 2 Qf n.Qb))∧(Imp (.l 2 Qg n.Qa) (.l 2 Qg n.Qa))∧(Imp (.l 1 eInt (F80 n b Qe)) (.l 1 eInt (F80 n b Qe)))∧(Imp (.l 1 eInt way) (.l 1 eInt way))∧(F10_j2 n a b Qe way last)=Lp.done j∧(0≤last1_∧last1_<(n.Qa.length:Int))∧(F80 n b Qe).getD last1_.toNat default=(F80 n b Qe).getD last.toNat default-1)) j) (v45) (ai (rfl) (ai (rfl) (ai (rfl) (ai (ir) (ai (ir) (ai (ir) (ai (ir) (ai (Eq.symm (finD hD1_18 (rfl))) (ai ((by first | omega | (simp only [lens] at*<;> omega) | (subst_vars; exact nextB_U (by assumption) (by assumption) (by assumption) (by omega) (by omega)) | (exfalso; subst_vars; exact noNext_absurdU (by assumption) (by assumption) (by assumption) (by assumption) (by omega) (by omega) (by omega) (by omega)):0≤(v45)∧(v45)<(n.Qa.length:Int))) ((by first | omega | (simp only [lens] at*<;> omega) | (subst_vars; exact nextB_U (by assumption) (by assumption) (by assumption) (by omega) (by omega)) | (exfalso; subst_vars; exact noNext_absurdU (by assumption) (by assumption) (by assumption) (by assumption) (by omega) (by omega) (by omega) (by omega)):(F80 n b Qe).getD (v45).toNat default=(F80 n b Qe).getD last.toNat default-1)))))))))))) (runL_done hI1 (condT h14 (condT h17 (rfl))))) (of_decide_eq_true (andT1 h17))) (eq_of_beq (andT2 h17))) (fun h17:(bif (decide (0≤Qh n last2 v45∧Qh n last2 v45≠Qe)) then (((F80 n b Qe).getD v45.toNat default)==(IntKind.i64.wrap (((F80 n b Qe).getD last2.toNat default)-1))) else false)=false=>ai ((by unfold i64ok; first | omega | (simp only [lens] at*<;> omega):i64ok (v45+1))) (Exists.intro (p:=fun j:Nat×(Int×Int)=>(fun (last2_:Int) (v45_:Int)=>(((.int .i64 b:Value)=.int .i64 b)∧((.int .i64 Qe:Value)=.int .i64 Qe)∧((.int .i64 last2:Value)=.int .i64 last2_)∧((.int .i64 ((F80 n b Qe).length:Int):Value)=.int .i64 ((F80 n b Qe).length:Int))∧((.int .i64 (v45+1):Value)=.int .i64 v45_)∧(Imp (.l 2 Qf n.Qb) (.l 2 Qf n.Qb))∧(Imp (.l 2 Qg n.Qa) (.l 2 Qg n.Qa))∧(Imp (.l 1 eInt (F80 n b Qe)) (.l 1 eInt (F80 n b Qe)))∧(Imp (.l 1 eInt way) (.l 1 eInt way))∧((runL (F10_s1 n a b Qe way last) j.1 j.2=(runL (F10_s1 n a b Qe way last) ((((F80 n b Qe).length:Int)-0).toNat+1) (last,0))∧Int.toNat (((F80 n b Qe).length:Int)-v45_)<j.1∧last2_=last∧NoNext n (F80 n b Qe) Qe last2_ v45_∧(0:Int)≤v45_)∧j.1<i1.1))) j.2.1 j.2.2) (m1,(last2,(v45+1))) (ai (rfl) (ai (rfl) (ai (rfl) (ai (rfl) (ai (rfl) (ai (ir) (ai (ir) (ai (ir) (ai (ir) (ai (ai (runL_next hI1 (condT h14 (condF h17 (rfl)))) (ai ((by first | omega | (simp only [lens] at*<;> omega) | exact NoNext.zero | exact NoNext.nextU (by assumption) (by assumption) (by omega):Int.toNat (((F80 n b Qe).length:Int)-(v45+1))<m1)) (ai ((by first | omega | (simp only [lens] at*<;> omega) | exact NoNext.zero | exact NoNext.nextU (by assumption) (by assumption) (by omega):last2=last)) (ai ((by first | omega | (simp only [lens] at*<;> omega) | exact NoNext.zero | exact NoNext.nextU (by assumption) (by assumption) (by omega):NoNext n (F80 n b Qe) Qe last2 (v45+1))) ((by first | omega | (simp only [lens] at*<;> omega) | exact NoNext.zero | exact NoNext.nextU (by assumption) (by assumption) (by omega):(0:Int)≤(v45+1))))))) hl1)))))))))))))))))))) (of_decide_eq_true h14)) (fun h14:(decide (v45<((F80 n b Qe).length:Int)))=false=>(fun _:¬ v45<((F80 n b Qe).length:Int)=>(fun hD1_19:(runL (F10_s1 n a b Qe way last) ((((F80 n b Qe).length:Int)-0).toNat+1) (last,0))=Lp.done (last2,v45)=>Exists.intro (p:=fun j:Int=>(fun (last1_:Int)=>(((.int .i64 b:Value)=.int .i64 b)∧((.int .i64 Qe:Value)=.int .i64 Qe)∧((.int .i64 last2:Value)=.int .i64 last1_)∧(Imp (.l 2 Qf n.Qb) (.l 2 Qf n.Qb))∧(Imp (.l 2 Qg n.Qa) (.l 2 Qg n.Qa))∧(Imp (.l 1 eInt (F80 n b Qe)) (.l 1 eInt (F80 n b Qe)))∧(Imp (.l 1 eInt way) (.l 1 eInt way))∧(F10_j2 n a b Qe way last)=Lp.done j∧(0≤last1_∧last1_<(n.Qa.length:Int))∧(F80 n b Qe).getD last1_.toNat default=(F80 n b Qe).getD last.toNat default-1)) j) (last2) (ai (rfl) (ai (rfl) (ai (rfl) (ai (ir) (ai (ir) (ai (ir) (ai (ir) (ai (Eq.symm (finD hD1_19 (rfl))) (ai ((by first | omega | (simp only [lens] at*<;> omega) | (subst_vars; exact nextB_U (by assumption) (by assumption) (by assumption) (by omega) (by omega)) | (exfalso; subst_vars; exact noNext_absurdU (by assumption) (by assumption) (by assumption) (by assumption) (by omega) (by omega) (by omega) (by omega)):0≤last2∧last2<(n.Qa.length:Int))) ((by first | omega | (simp only [lens] at*<;> omega) | (subst_vars; exact nextB_U (by assumption) (by assumption) (by assumption) (by omega) (by omega)) | (exfalso; subst_vars; exact noNext_absurdU (by assumption) (by assumption) (by assumption) (by assumption) (by omega) (by omega) (by omega) (by omega)):(F80 n b Qe).getD last2.toNat default=(F80 n b Qe).getD last.toNat default-1)))))))))))) (runL_done hI1 (condF h14 (rfl)))) (of_decide_eq_false h14))) (i1.1-1) i1.2.1 i1.2.2 (hd1 hi1.1 hi1.2.1) (hd2 hi1.2.1) (hd3 hi1.2.1) hi1.2.2.1 hi1.2.2.2.1 hi1.2.2.2.2)) (fun (j:Int) (hj:(fun (last1:Int)=>((F10_j2 n a b Qe way last)=Lp.done j∧(0≤last1∧last1<(n.Qa.length:Int))∧(F80 n b Qe).getD last1.toNat default=(F80 n b Qe).getD last.toNat default-1)) j)=>(fun (last1:Int) (hJ2_20:(F10_j2 n a b Qe way last)=Lp.done last1) (_:0≤last1∧last1<(n.Qa.length:Int)) (_:(F80 n b Qe).getD last1.toNat default=(F80 n b Qe).getD last.toNat default-1)=>ai ((AppA.mk eInt way [last1] (Imp.refl (.l 1 eInt way)) rfl (by exact ai ir (trivial)) (fun _=>rfl):AppA (.l 1 eInt way) 1 1 [.v (vI last1)] (.l 1 eInt (way++[last1])))) (ai ((by (try simp only [lens]); omega:((way++[last1])).length*8≤140737488355328)) (Exists.intro (p:=fun j:Nat×(List Int×Int)=>(fun (way_:List Int) (last_:Int)=>(((.int .i64 b:Value)=.int .i64 b)∧((.int .i64 Qe:Value)=.int .i64 Qe)∧((.int .i64 last1:Value)=.int .i64 last_)∧(Imp (.l 2 Qf n.Qb) (.l 2 Qf n.Qb))∧(Imp (.l 2 Qg n.Qa) (.l 2 Qg n.Qa))∧(Imp (.l 1 eInt (F80 n b Qe)) (.l 1 eInt (F80 n b Qe)))∧(Imp (.l 1 eInt (way++[last1])) (.l 1 eInt way_))∧((runL (F10_s0 n a b Qe) j.1 j.2=(runL (F10_s0 n a b Qe) (((F80 n b Qe).getD a.toNat default).toNat+1) (([a]:List Int),a))∧Int.toNat ((F80 n b Qe).getD last_.toNat default)<j.1∧(0≤last_∧last_<(n.Qa.length:Int))∧0≤(F80 n b Qe).getD last_.toNat default∧(way_.length:Int)+(F80 n b Qe).getD last_.toNat default≤8)∧j.1<i0.1))) j.2.1 j.2.2) (m0,((way++[last1]),last1)) (ai (rfl) (ai (rfl) (ai (rfl) (ai (ir) (ai (ir) (ai (ir) (ai (ir) (ai (ai (runL_next hI0 (condT h12 (finD hJ2_20 (rfl)))) (ai ((by first | omega | (simp only [lens] at*<;> omega) | (have hl:=IsDist.lt (by assumption) (k:=a) (by omega) (by omega); (try simp only [lens]); omega) | (have hp:=IsDist.pos (by assumption) (k:=last) (by omega) (by omega) (by assumption) (by omega); (try simp only [lens]); omega):Int.toNat ((F80 n b Qe).getD last1.toNat default)<m0)) (ai ((by first | omega | (simp only [lens] at*<;> omega) | (have hl:=IsDist.lt (by assumption) (k:=a) (by omega) (by omega); (try simp only [lens]); omega) | (have hp:=IsDist.pos (by assumption) (k:=last) (by omega) (by omega) (by assumption) (by omega); (try simp only [lens]); omega):0≤last1∧last1<(n.Qa.length:Int))) (ai ((by first | omega | (simp only [lens] at*<;> omega) | (have hl:=IsDist.lt (by assumption) (k:=a) (by omega) (by omega); (try simp only [lens]); omega) | (have hp:=IsDist.pos (by assumption) (k:=last) (by omega) (by omega) (by assumption) (by omega); (try simp only [lens]); omega):0≤(F80 n b Qe).getD last1.toNat default)) ((by first | omega | (simp only [lens] at*<;> omega) | (have hl:=IsDist.lt (by assumption) (k:=a) (by omega) (by omega); (try simp only [lens]); omega) | (have hp:=IsDist.pos (by assumption) (k:=last) (by omega) (by omega) (by assumption) (by omega); (try simp only [lens]); omega):((way++[last1]).length:Int)+(F80 n b Qe).getD last1.toNat default≤8)))))) hl0))))))))))) j hj.1 hj.2.1 hj.2.2)) (bneT h12)) (fun h12:(last != b)=false=>(fun _:last=b=>(fun hD0_21:(runL (F10_s0 n a b Qe) (((F80 n b Qe).getD a.toNat default).toNat+1) (([a]:List Int),a))=Lp.done (way,last)=>(fun hF:(way:List Int)=(F10 n a b Qe)=>ai (Imp.of_eq (congrArg (fun r:List Int=>Dat.l 1 eInt r) hF)) (trivial)) (condF h7 (condF h10 (finD hD0_21 (rfl))))) (runL_done hI0 (condF h12 (rfl)))) (bneF h12))) (i0.1-1) i0.2.1 i0.2.2 (hd1 hi0.1 hi0.2.1) (hd2 hi0.2.1) (hd3 hi0.2.1) hi0.2.2.1 hi0.2.2.2.1 hi0.2.2.2.2))) (of_decide_eq_false h10)))) (far_len n b Qe (by first | assumption | exact Qn.frame (by assumption):FrameOk n) (by first | omega | (simp only [lens] at*<;> omega):0≤b) (by first | omega | (simp only [lens] at*<;> omega):b<(n.Qa.length:Int)))) (far_isDist n b Qe (by first | assumption | exact Qn.frame (by assumption):FrameOk n) (by first | omega | (simp only [lens] at*<;> omega):0≤b) (by first | omega | (simp only [lens] at*<;> omega):b<(n.Qa.length:Int)))))))) (netB_T n (notEF (orF1 (orF1 h7))))) (netB_8 n (notEF (orF1 (orF1 h7))))) (netB_14 n (notEF (orF1 (orF1 h7))))) (of_decide_eq_true (notEF (orF2 (orF1 h7))))) (of_decide_eq_true (notEF (orF2 h7))))))))))))) (by kernel_rfl)
theorem search_break {τ ρ:Type} {step:τ→Lp τ ρ} (emb:Nat→τ) (p:Nat→Bool) {n k0:Nat} (h:first p n=some k0) (hs:∀ k,k<n→p k=false→step (emb k)=.next (emb (k+1))) (x:τ) (hd:step (emb k0)=.done x):∀ (m k:Nat),k+m=k0→∀ M,m<M→runL step M (emb k)=.done x
 | 0,k,hk,M,hM=>by
  obtain ⟨M,rfl⟩:∃ M',M=M'+1:=⟨M-1,by omega⟩
  obtain rfl:k=k0:=by omega
  simp only [runL,hd]
 | m+1,k,hk,M,hM=>by
  obtain ⟨M,rfl⟩:∃ M',M=M'+1:=⟨M-1,by omega⟩
  obtain ⟨h1,h2,h3⟩:=first_some.1 h
  simp only [runL,hs k (by omega) (h3 k (by omega))]
  exact search_break emb p h hs x hd m (k+1) (by omega) M (by omega)
def wayGo (n:Qd) (f:List Int) (w:Int):Nat→Int→List Int
 | 0,_=>[]
 | m+1,x=>nextOf n f x w :: wayGo n f w m (nextOf n f x w)
theorem wayGo_len (n:Qd) (f:List Int) (w:Int):∀ (m:Nat) (x:Int),(wayGo n f w m x).length=m
 | 0,_=>rfl
 | m+1,x=>by simp only [wayGo,List.length_cons,wayGo_len n f w m]
def Qp (n:Qd) (a b w:Int):List Int:=bif decide ((F80 n b w).getD a.toNat default<0) then [] else a :: wayGo n (F80 n b w) w ((F80 n b w).getD a.toNat default).toNat a
theorem specWay_go (n:Qd) (a b w:Int):∀ (m:Nat) (out:List Int) (x:Int),(runL (F44_s0 n a b w) (m+1) (out,x,(m:Int))).fin (fun r=>r) (fun s=>s.1)=out++wayGo n (F80 n b w) w m x
 | 0,out,x=>by simp [runL,F44_s0,Lp.fin,wayGo]
 | m+1,out,x=>by
  have hc:decide (((m+1:Nat):Int)>0)=true:=decide_eq_true (by omega)
  rw [runL]
  simp only [F44_s0,hc,cond_true]
  have e:((m+1:Nat):Int)-1=(m:Int):=by omega
  rw [e]
  refine (specWay_go n a b w m _ _).trans ?_
  simp [wayGo]
theorem specWay_eq (n:Qd) (a b w:Int):F44 n a b w=Qp n a b w:=by
 unfold F44 Qp
 by_cases h:(F80 n b w).getD a.toNat default<0
 ·rw [decide_eq_true h]; rfl
 ·rw [decide_eq_false h]
  simp only [cond_false]
  have e:(F80 n b w).getD a.toNat default=((Int.toNat ((F80 n b w).getD a.toNat default):Nat):Int):=by omega
  have h2:=specWay_go n a b w ((F80 n b w).getD a.toNat default).toNat [a] a
  rw [← e] at h2
  exact h2
theorem implWay_next {n:Qd} (hf:FrameOk n) (a b w:Int) (hb0:0≤b) (hb1:b<(n.Qa.length:Int)) (way:List Int) {x:Int} (h0:0≤x) (h1:x<(n.Qa.length:Int)) (hd:0<(F80 n b w).getD x.toNat default) :
  F10_j2 n a b w way x=.done (nextOf n (F80 n b w) x w):=by
 have hD:=far_isDist n b w hf hb0 hb1
 obtain ⟨n1,n2,n3,n4,n5⟩:=nextOf_ok hD hf.b8 h0 h1 hd
 unfold F10_j2
 rw [n0,hD.ln]
 have hfirst:first (fun k=>nextB n (F80 n b w) w x (k:Int)) n.Qa.length=some (nextOf n (F80 n b w) x w).toNat :=
  first_some.2 ⟨by omega,by show nextB _ _ _ _ _=true; rw [Int.toNat_of_nonneg n1]; exact n4,fun j hj=>n5 j (by omega)⟩
 have:=search_break (step:=F10_s1 n a b w way x) (fun k=>(x,(k:Int))) _ hfirst (fun k hk hp=>by
   unfold nextB at hp
   simp only [F10_s1,hD.ln,ltD hk,cond_true,hp,cond_false]
   rfl) (nextOf n (F80 n b w) x w,nextOf n (F80 n b w) x w) (by
   have hp:=n4
   unfold nextB at hp
   have hc:decide (nextOf n (F80 n b w) x w<((F80 n b w).length:Int))=true:=decide_eq_true (by rw [hD.ln]; omega)
   simp only [F10_s1,Int.toNat_of_nonneg n1,hc,cond_true,hp]) (Int.toNat (nextOf n (F80 n b w) x w)) 0 (by omega) (n.Qa.length+1) (by omega)
 have this:runL (F10_s1 n a b w way x) (n.Qa.length+1) (x,0)=_:=this
 rw [this]; rfl
theorem implWay_go {n:Qd} (hf:FrameOk n) (a b w:Int) (hb0:0≤b) (hb1:b<(n.Qa.length:Int)):∀ (m:Nat) (way:List Int) (x:Int),0≤x→x<(n.Qa.length:Int)→(F80 n b w).getD x.toNat default=(m:Int) →
  (runL (F10_s0 n a b w) (m+1) (way,x)).fin (fun r=>r) (fun s=>s.1)=way++wayGo n (F80 n b w) w m x
 | 0,way,x,h0,h1,hd=>by
  have hD:=far_isDist n b w hf hb0 hb1
  have:=hD.zero x.toNat (by omega) hd
  have hx:(x != b)=false:=by
   have:x=b:=by omega
   simp [this]
  simp [runL,F10_s0,hx,Lp.fin,wayGo]
 | m+1,way,x,h0,h1,hd=>by
  have hD:=far_isDist n b w hf hb0 hb1
  have hx:(x != b)=true:=by
   have:x≠b:=fun e=>by rw [e,hD.b0] at hd; omega
   simp [this]
  obtain ⟨n1,n2,n3,_⟩:=nextOf_ok hD hf.b8 h0 h1 (by omega)
  rw [runL]
  simp only [F10_s0,hx,cond_true,implWay_next hf a b w hb0 hb1 way h0 h1 (by omega),Lp.fin]
  refine (implWay_go hf a b w hb0 hb1 m _ _ n1 n2 (by rw [n3,hd]; omega)).trans ?_
  simp [wayGo]
def labWay (n:Qd) (a b w:Int):List Int:=bif netB n&&(decide (0≤a∧a≤(n.Qa.length:Int)-1)&&decide (0≤b∧b≤(n.Qa.length:Int)-1)) then Qp n a b w else []
theorem as12 (n:Qd) (a b w:Int):F12 n a b w=labWay n a b w:=by
 unfold F12 labWay
 rw [specWay_eq]
 cases netB n
 ·rfl
 ·cases decide (0≤a∧a≤(n.Qa.length:Int)-1)
  ·rfl
  ·cases decide (0≤b∧b≤(n.Qa.length:Int)-1) <;> rfl
theorem as10 (n:Qd) (a b w:Int):F10 n a b w=labWay n a b w:=by
 unfold F10 labWay
 cases hn:netB n
 ·rfl
 ·have hf:=(netB_T n hn).frame
  by_cases ha:0≤a∧a≤(n.Qa.length:Int)-1
  ·by_cases hb:0≤b∧b≤(n.Qa.length:Int)-1
   ·rw [decide_eq_true ha,decide_eq_true hb]
    simp only [Bool.not_true,cond_false,Bool.and_self,cond_true]
    unfold Qp
    by_cases h:(F80 n b w).getD a.toNat default<0
    ·rw [decide_eq_true h]; rfl
    ·rw [decide_eq_false h]
     simp only [cond_false]
     exact implWay_go hf a b w hb.1 (by omega) _ [a] a ha.1 (by omega) (by omega)
   ·rw [decide_eq_true ha,decide_eq_false hb]; rfl
  ·rw [decide_eq_false ha]; rfl
theorem as44 (n:Qd) (a b w:Int):F44 n a b w=Qp n a b w:=specWay_eq n a b w
theorem wayOf_len {n:Qd} (hf:FrameOk n) {a b:Int} (w:Int) (ha0:0≤a) (ha1:a<(n.Qa.length:Int)) (hb0:0≤b) (hb1:b<(n.Qa.length:Int)):(Qp n a b w).length≤n.Qa.length:=by
 have hD:=far_isDist n b w hf hb0 hb1
 unfold Qp
 by_cases h:(F80 n b w).getD a.toNat default<0
 ·rw [decide_eq_true h]; exact Nat.zero_le _
 ·rw [decide_eq_false h]
  simp only [cond_false,List.length_cons,wayGo_len]
  have:=(hD.lt ha0 ha1).2
  omega
theorem labWay_len (n:Qd) (a b w:Int):(labWay n a b w).length≤8:=by
 unfold labWay
 cases hn:netB n
 ·exact Nat.zero_le _
 ·have hf:=(netB_T n hn).frame
  by_cases ha:0≤a∧a≤(n.Qa.length:Int)-1
  ·by_cases hb:0≤b∧b≤(n.Qa.length:Int)-1
   ·rw [decide_eq_true ha,decide_eq_true hb]
    have:=wayOf_len hf w ha.1 (by omega:a<_) hb.1 (by omega:b<_)
    have:=hf.b8
    simp only [Bool.and_self,cond_true]; omega
   ·rw [decide_eq_true ha,decide_eq_false hb]; exact Nat.zero_le _
  ·rw [decide_eq_false ha]; exact Nat.zero_le _
theorem oa44 (n:Qd) (a:Int) (b:Int) (Qe:Int):(S44 (Qp n a b Qe) n a b Qe).ok Try.prog 44:=by
 intro hp; have h:=ok44 n a b Qe hp; rw [as44 n a b Qe] at h; exact h
theorem oa12 (n:Qd) (a:Int) (b:Int) (Qe:Int):(S12 (labWay n a b Qe) n a b Qe).ok Try.prog 12:=by
 intro hp; have h:=ok12 n a b Qe hp; rw [as12 n a b Qe] at h; exact h
theorem oa10 (n:Qd) (a:Int) (b:Int) (Qe:Int):(S10 (labWay n a b Qe) n a b Qe).ok Try.prog 10:=by
 intro hp; have h:=ok10 n a b Qe hp; rw [as10 n a b Qe] at h; exact h
def F76_s1 (n:Qd) (path:List Int) (i40:Int):Int→Lp Int Bool:=fun k =>
 bif (decide (k<i40)) then (bif ((path.getD k.toNat default)==(path.getD i40.toNat default)) then (.ret false) else (.next (k+1))) else (.done k)
def F76_s0 (n:Qd) (path:List Int):Int→Lp Int Bool:=fun i40 =>
 bif (decide (i40<(path.length:Int))) then (bif (bif (!(decide (0≤(path.getD i40.toNat default)∧(path.getD i40.toNat default)≤((n.Qa.length:Int)-1)))) then true else (bif decide (i40>0) then decide ((Qh n (path.getD (i40-1).toNat default) (path.getD i40.toNat default))<0) else false)) then (.ret false) else ((runL (F76_s1 n path i40) ((i40-0).toNat+1) 0).fin Lp.ret (fun k=>.next (i40+1)))) else (.done i40)
def F76 (n:Qd) (path:List Int):Bool :=
 bif (!(decide (2≤(path.length:Int)∧(path.length:Int)≤(n.Qa.length:Int)))) then false else ((runL (F76_s0 n path) (((path.length:Int)-0).toNat+1) 0).fin (fun r=>r) (fun i40=>true))
def S76 (R:Bool) (n:Qd) (path:List Int):Spec:=⟨[.r (.g (Qr n)),.r (.c (.l 1 eInt path))],.v (.bool R),True⟩
theorem ok76 (n:Qd) (path:List Int):(S76 (F76 n path) n path).ok Try.prog 76 :=
 fnG_ok mixed (fn:=Try.f76) (ct:=.seqk [(1,0)] (.no) (.seq (.seq (.reg [(5,.call 43 (S43 (decide (2≤(path.length:Int)∧(path.length:Int)≤(n.Qa.length:Int))) (path.length:Int) 2 (n.Qa.length:Int)) (oa43 (path.length:Int) 2 (n.Qa.length:Int)) none)]) (.cond (.seq (.no) (.no)) (.no))) (.seq (.seqk [(1,0),(2,0),(2,1)] (.no) (.blk (.loop (ι:=Nat×Int) (fun i=>(fun (i40:Int)=>(⟨[(1,some (.h 0 0)),(2,some (.p 1 0)),(5,some (.v (vI i40)))],[(0,some (.shr none (.l 1 eInt path))),(1,some (.box 26 [.h 2 0,.h 3 0])),(2,some (.shr none (.l 2 Qf n.Qb))),(3,some (.shr none (.l 2 Qg n.Qa)))],4⟩:St)) i.2) (fun i=>runL (F76_s0 n path) i.1 i.2=(runL (F76_s0 n path) (((path.length:Int)-0).toNat+1) 0)∧(fun (i40:Int)=>(Int.toNat ((path.length:Int)-i40)<i.1∧(0:Int)≤i40)) i.2) (fun i=>i.1) ((((path.length:Int)-0).toNat+1),0) (fun i=>(fun (i40:Int)=>(.seq (.seq (.no) (.cond (.no) (.no))) (.seq (.blk (.seq (.seq (.reg [(7,.bnd),(8,.call 43 (S43 (decide (0≤(path.getD i40.toNat default)∧(path.getD i40.toNat default)≤((n.Qa.length:Int)-1))) (path.getD i40.toNat default) 0 ((n.Qa.length:Int)-1)) (oa43 (path.getD i40.toNat default) 0 ((n.Qa.length:Int)-1)) none),(17,.bnd),(24,.call 97 (S97 (Qh n (path.getD (i40-1).toNat default) (path.getD i40.toNat default)) n (path.getD (i40-1).toNat default) (path.getD i40.toNat default)) (oa97 n (path.getD (i40-1).toNat default) (path.getD i40.toNat default)) none)]) (.cond (.seq (.no) (.no)) (.no))) (.seqk [(1,0)] (.no) (.blk (.loop (ι:=Nat×Int) (fun i=>(fun (k:Int)=>(⟨[(1,some (.h 0 0)),(2,some (.p 1 0)),(5,some (.v (vI i40))),(6,some (.v (vI k)))],[(0,some (.shr none (.l 1 eInt path))),(1,some (.box 26 [.h 2 0,.h 3 0])),(2,some (.shr none (.l 2 Qf n.Qb))),(3,some (.shr none (.l 2 Qg n.Qa)))],4⟩:St)) i.2) (fun i=>runL (F76_s1 n path i40) i.1 i.2=(runL (F76_s1 n path i40) ((i40-0).toNat+1) 0)∧(fun (k:Int)=>(Int.toNat (i40-k)<i.1∧(0:Int)≤k)) i.2) (fun i=>i.1) (((i40-0).toNat+1),0) (fun i=>(fun (k:Int)=>(.seq (.seq (.no) (.cond (.no) (.no))) (.seq (.blk (.seq (.no) (.cond (.seq (.no) (.no)) (.no)))) (.reg [(1,.bnd)])))) i.2)))))) (.reg [(1,.bnd)])))) i.2)))) (.seq (.no) (.no))))) Try.func76 (fun (_:True)=>fun (_:path.length≤9223372036854775807)=>ai (trivial) (ai ((Imp.refl (.v (vI (path.length:Int))))) (ai ((Imp.refl (.v (vI 2)))) (ai ((Imp.refl (.v (vI (n.Qa.length:Int))))) (ai (fun h1:(!(decide (2≤(path.length:Int)∧(path.length:Int)≤(n.Qa.length:Int))))=true=>(fun _:¬ (2≤(path.length:Int)∧(path.length:Int)≤(n.Qa.length:Int))=>(fun hF:(false:Bool)=(F76 n path)=>ai (congrArg (fun r:Bool=>(.bool r:Value)) hF) (trivial)) (condT h1 (rfl))) (of_decide_eq_false (notET h1))) (fun h1:(!(decide (2≤(path.length:Int)∧(path.length:Int)≤(n.Qa.length:Int))))=false=>(fun _:2≤(path.length:Int)∧(path.length:Int)≤(n.Qa.length:Int)=>fun (_:path.length≤9223372036854775807)=>fun (_:n.Qb.length≤9223372036854775807)=>fun (_:n.Qa.length≤9223372036854775807)=>ai (ai (rfl) (ai (ir) (ai (ir) (ai (ir) ((ai (rfl:runL (F76_s0 n path) (((path.length:Int)-0).toNat+1) 0=(runL (F76_s0 n path) (((path.length:Int)-0).toNat+1) 0)) (ai ((Nat.lt_succ_self _:Int.toNat ((path.length:Int)-0)<(((path.length:Int)-0).toNat+1))) ((by omega:(0:Int)≤0)))))))):((.int .i64 0:Value)=.int .i64 0)∧(Imp (.l 1 eInt path) (.l 1 eInt path))∧(Imp (.l 2 Qf n.Qb) (.l 2 Qf n.Qb))∧(Imp (.l 2 Qg n.Qa) (.l 2 Qg n.Qa))∧(runL (F76_s0 n path) (((path.length:Int)-0).toNat+1) 0=(runL (F76_s0 n path) (((path.length:Int)-0).toNat+1) 0)∧Int.toNat ((path.length:Int)-0)<(((path.length:Int)-0).toNat+1)∧(0:Int)≤0)) (fun (i0:Nat×Int) (hi0:runL (F76_s0 n path) i0.1 i0.2=(runL (F76_s0 n path) (((path.length:Int)-0).toNat+1) 0)∧(fun (i40:Int)=>(Int.toNat ((path.length:Int)-i40)<i0.1∧(0:Int)≤i40)) i0.2)=>(fun (m0:Nat) (i40:Int) (hI0:runL (F76_s0 n path) (m0+1) i40=(runL (F76_s0 n path) (((path.length:Int)-0).toNat+1) 0)) (_:Int.toNat ((path.length:Int)-i40)<m0+1) (hl0:m0<i0.1) (_:(0:Int)≤i40)=>ai (fun h3:(decide (i40<(path.length:Int)))=true=>(fun _:i40<(path.length:Int)=>ai ((by omega:0≤i40∧i40<(path.length:Int))) (ai ((by unfold i64ok; omega:i64ok ((n.Qa.length:Int)-1))) (ai (trivial) (ai ((Imp.refl (.v (vI (path.getD i40.toNat default))))) (ai ((Imp.refl (.v (vI 0)))) (ai ((Imp.refl (.v (vI ((n.Qa.length:Int)-1))))) (ai ((fun k5:(decide (i40>0))=true=>(fun _:i40>0=>(fun k4:(!(decide (0≤(path.getD i40.toNat default)∧(path.getD i40.toNat default)≤((n.Qa.length:Int)-1))))=false=>(fun _:0≤(path.getD i40.toNat default)∧(path.getD i40.toNat default)≤((n.Qa.length:Int)-1)=>(by unfold i64ok; omega:i64ok (i40-1))) (of_decide_eq_true (notEF k4)))) (of_decide_eq_true k5))) (ai ((fun k7:(decide (i40>0))=true=>(fun _:i40>0=>(fun k6:(!(decide (0≤(path.getD i40.toNat default)∧(path.getD i40.toNat default)≤((n.Qa.length:Int)-1))))=false=>(fun _:0≤(path.getD i40.toNat default)∧(path.getD i40.toNat default)≤((n.Qa.length:Int)-1)=>(by omega:0≤(i40-1)∧(i40-1)<(path.length:Int))) (of_decide_eq_true (notEF k6)))) (of_decide_eq_true k7))) (ai ((fun k9:(decide (i40>0))=true=>(fun _:i40>0=>(fun k8:(!(decide (0≤(path.getD i40.toNat default)∧(path.getD i40.toNat default)≤((n.Qa.length:Int)-1))))=false=>(fun _:0≤(path.getD i40.toNat default)∧(path.getD i40.toNat default)≤((n.Qa.length:Int)-1)=>(by omega:0≤i40∧i40<(path.length:Int))) (of_decide_eq_true (notEF k8)))) (of_decide_eq_true k9))) (ai ((fun k11:(decide (i40>0))=true=>(fun _:i40>0=>(fun k10:(!(decide (0≤(path.getD i40.toNat default)∧(path.getD i40.toNat default)≤((n.Qa.length:Int)-1))))=false=>(fun _:0≤(path.getD i40.toNat default)∧(path.getD i40.toNat default)≤((n.Qa.length:Int)-1)=>trivial) (of_decide_eq_true (notEF k10)))) (of_decide_eq_true k11))) (ai ((fun k13:(decide (i40>0))=true=>(fun _:i40>0=>(fun k12:(!(decide (0≤(path.getD i40.toNat default)∧(path.getD i40.toNat default)≤((n.Qa.length:Int)-1))))=false=>(fun _:0≤(path.getD i40.toNat default)∧(path.getD i40.toNat default)≤((n.Qa.length:Int)-1)=>(Imps.refl (Qr n))) (of_decide_eq_true (notEF k12)))) (of_decide_eq_true k13))) (ai ((fun k15:(decide (i40>0))=true=>(fun _:i40>0=>(fun k14:(!(decide (0≤(path.getD i40.toNat default)∧(path.getD i40.toNat default)≤((n.Qa.length:Int)-1))))=false=>(fun _:0≤(path.getD i40.toNat default)∧(path.getD i40.toNat default)≤((n.Qa.length:Int)-1)=>(Imp.refl (.v (vI (path.getD (i40-1).toNat default))))) (of_decide_eq_true (notEF k14)))) (of_decide_eq_true k15))) (ai ((fun k17:(decide (i40>0))=true=>(fun _:i40>0=>(fun k16:(!(decide (0≤(path.getD i40.toNat default)∧(path.getD i40.toNat default)≤((n.Qa.length:Int)-1))))=false=>(fun _:0≤(path.getD i40.toNat default)∧(path.getD i40.toNat default)≤((n.Qa.length:Int)-1)=>(Imp.refl (.v (vI (path.getD i40.toNat default))))) (of_decide_eq_true (notEF k16)))) (of_decide_eq_true k17))) (ai (fun h18:(bif (!(decide (0≤(path.getD i40.toNat default)∧(path.getD i40.toNat default)≤((n.Qa.length:Int)-1)))) then true else (bif decide (i40>0) then decide ((Qh n (path.getD (i40-1).toNat default) (path.getD i40.toNat default))<0) else false))=true=>(fun hF:(false:Bool)=(F76 n path)=>ai (congrArg (fun r:Bool=>(.bool r:Value)) hF) (trivial)) (condF h1 (finR (runL_ret hI0 (condT h3 (condT h18 (rfl)))) rfl))) (fun h18:(bif (!(decide (0≤(path.getD i40.toNat default)∧(path.getD i40.toNat default)≤((n.Qa.length:Int)-1)))) then true else (bif decide (i40>0) then decide ((Qh n (path.getD (i40-1).toNat default) (path.getD i40.toNat default))<0) else false))=false=>(fun _:0≤(path.getD i40.toNat default)∧(path.getD i40.toNat default)≤((n.Qa.length:Int)-1)=>fun (_:path.length≤9223372036854775807)=>ai (ai (rfl) (ai (rfl) (ai (ir) (ai (ir) (ai (ir) ((ai (rfl:runL (F76_s1 n path i40) ((i40-0).toNat+1) 0=(runL (F76_s1 n path i40) ((i40-0).toNat+1) 0)) (ai ((Nat.lt_succ_self _:Int.toNat (i40-0)<((i40-0).toNat+1))) ((by omega:(0:Int)≤0))))))))):((.int .i64 i40:Value)=.int .i64 i40)∧((.int .i64 0:Value)=.int .i64 0)∧(Imp (.l 1 eInt path) (.l 1 eInt path))∧(Imp (.l 2 Qf n.Qb) (.l 2 Qf n.Qb))∧(Imp (.l 2 Qg n.Qa) (.l 2 Qg n.Qa))∧(runL (F76_s1 n path i40) ((i40-0).toNat+1) 0=(runL (F76_s1 n path i40) ((i40-0).toNat+1) 0)∧Int.toNat (i40-0)<((i40-0).toNat+1)∧(0:Int)≤0)) (fun (i1:Nat×Int) (hi1:runL (F76_s1 n path i40) i1.1 i1.2=(runL (F76_s1 n path i40) ((i40-0).toNat+1) 0)∧(fun (k:Int)=>(Int.toNat (i40-k)<i1.1∧(0:Int)≤k)) i1.2)=>(fun (m1:Nat) (k:Int) (hI1:runL (F76_s1 n path i40) (m1+1) k=(runL (F76_s1 n path i40) ((i40-0).toNat+1) 0)) (_:Int.toNat (i40-k)<m1+1) (hl1:m1<i1.1) (_:(0:Int)≤k)=>ai (fun h20:(decide (k<i40))=true=>(fun _:k<i40=>ai ((by omega:0≤k∧k<(path.length:Int))) (ai ((by omega:0≤i40∧i40<(path.length:Int))) (ai (fun h21:((path.getD k.toNat default)==(path.getD i40.toNat default))=true=>(fun _:(path.getD k.toNat default)=(path.getD i40.toNat default)=>(fun hF:(false:Bool)=(F76 n path)=>ai (congrArg (fun r:Bool=>(.bool r:Value)) hF) (trivial)) (condF h1 (finR (runL_ret hI0 (condT h3 (condF h18 (finR (runL_ret hI1 (condT h20 (condT h21 (rfl)))) rfl)))) rfl))) (eq_of_beq h21)) (fun h21:((path.getD k.toNat default)==(path.getD i40.toNat default))=false=>(fun _:¬ (path.getD k.toNat default)=(path.getD i40.toNat default)=>ai ((by unfold i64ok; omega:i64ok (k+1))) (Exists.intro (p:=fun j:Nat×Int=>(fun (k_:Int)=>(((.int .i64 i40:Value)=.int .i64 i40)∧((.int .i64 (k+1):Value)=.int .i64 k_)∧(Imp (.l 1 eInt path) (.l 1 eInt path))∧(Imp (.l 2 Qf n.Qb) (.l 2 Qf n.Qb))∧(Imp (.l 2 Qg n.Qa) (.l 2 Qg n.Qa))∧((runL (F76_s1 n path i40) j.1 j.2=(runL (F76_s1 n path i40) ((i40-0).toNat+1) 0)∧Int.toNat (i40-k_)<j.1∧(0:Int)≤k_)∧j.1<i1.1))) j.2) (m1,(k+1)) (ai (rfl) (ai (rfl) (ai (ir) (ai (ir) (ai (ir) (ai (ai (runL_next hI1 (condT h20 (condF h21 (rfl)))) (ai ((by omega:Int.toNat (i40-(k+1))<m1)) ((by omega:(0:Int)≤(k+1))))) hl1)))))))) (beqF h21))))) (of_decide_eq_true h20)) (fun h20:(decide (k<i40))=false=>(fun _:¬ k<i40=>(fun hD1_22:(runL (F76_s1 n path i40) ((i40-0).toNat+1) 0)=Lp.done k=>ai ((by unfold i64ok; omega:i64ok (i40+1))) (Exists.intro (p:=fun j:Nat×Int=>(fun (i40_:Int)=>(((.int .i64 (i40+1):Value)=.int .i64 i40_)∧(Imp (.l 1 eInt path) (.l 1 eInt path))∧(Imp (.l 2 Qf n.Qb) (.l 2 Qf n.Qb))∧(Imp (.l 2 Qg n.Qa) (.l 2 Qg n.Qa))∧((runL (F76_s0 n path) j.1 j.2=(runL (F76_s0 n path) (((path.length:Int)-0).toNat+1) 0)∧Int.toNat ((path.length:Int)-i40_)<j.1∧(0:Int)≤i40_)∧j.1<i0.1))) j.2) (m0,(i40+1)) (ai (rfl) (ai (ir) (ai (ir) (ai (ir) (ai (ai (runL_next hI0 (condT h3 (condF h18 (finD hD1_22 (rfl))))) (ai ((by omega:Int.toNat ((path.length:Int)-(i40+1))<m0)) ((by omega:(0:Int)≤(i40+1))))) hl0))))))) (runL_done hI1 (condF h20 (rfl)))) (of_decide_eq_false h20))) (i1.1-1) i1.2 (hd1 hi1.1 hi1.2.1) (hd2 hi1.2.1) (hd3 hi1.2.1) hi1.2.2)) (of_decide_eq_true (notEF (orF1 h18)))))))))))))))))) (of_decide_eq_true h3)) (fun h3:(decide (i40<(path.length:Int)))=false=>(fun _:¬ i40<(path.length:Int)=>(fun hD0_23:(runL (F76_s0 n path) (((path.length:Int)-0).toNat+1) 0)=Lp.done i40=>(fun hF:(true:Bool)=(F76 n path)=>ai (congrArg (fun r:Bool=>(.bool r:Value)) hF) (trivial)) (condF h1 (finD hD0_23 (rfl)))) (runL_done hI0 (condF h3 (rfl)))) (of_decide_eq_false h3))) (i0.1-1) i0.2 (hd1 hi0.1 hi0.2.1) (hd2 hi0.2.1) (hd3 hi0.2.1) hi0.2.2)) (of_decide_eq_true (notEF h1)))))))) (by kernel_rfl)
def F118_s0 (b:Qj):Int→Lp Int Int:=fun label =>
 bif (decide (label≤60)) then (bif (decide ((oix (rowIx b label))<0)) then (.ret label) else (.next (label+1))) else (.done label)
def F118 (b:Qj):Int :=
 (runL (F118_s0 b) ((Int.toNat (60-1+1))+1) 1).fin (fun r=>r) (fun label=>0)
def S118 (R:Int) (b:Qj):Spec:=⟨[.r (.g (Qg b))],.v (vI R),True⟩
theorem ok118 (b:Qj):(S118 (F118 b) b).ok Try.prog 118 :=
 fnG_ok mixed (fn:=Try.f118) (ct:=.seq (.no) (.seq (.seqk [(1,0),(1,1)] (.no) (.blk (.loop (ι:=Nat×Int) (fun i=>(fun (label:Int)=>(⟨[(1,some (.p 0 0)),(3,some (.v (vI label)))],[(0,some (.box 54 [.h 1 0,.h 2 0])),(1,some (.shr none (.l 3 Qt b.Rows))),(2,some (.shr none (.l 3 Qu b.Qi)))],3⟩:St)) i.2) (fun i=>runL (F118_s0 b) i.1 i.2=(runL (F118_s0 b) ((Int.toNat (60-1+1))+1) 1)∧(fun (label:Int)=>(Int.toNat (60-label+1)<i.1∧(0:Int)≤label)) i.2) (fun i=>i.1) (((Int.toNat (60-1+1))+1),1) (fun i=>(fun (label:Int)=>(.seq (.seq (.no) (.cond (.no) (.no))) (.seq (.blk (.seq (.reg [(2,.call 70 (S70 (oix (rowIx b label)) b label) (oa70 b label) none)]) (.cond (.seq (.no) (.no)) (.no)))) (.reg [(1,.bnd)])))) i.2)))) (.seq (.no) (.no)))) Try.func118 (fun (_:True)=>fun (_:b.Rows.length≤9223372036854775807)=>fun (_:b.Qi.length≤9223372036854775807)=>ai (ai (rfl) (ai (ir) (ai (ir) ((ai (rfl:runL (F118_s0 b) ((Int.toNat (60-1+1))+1) 1=(runL (F118_s0 b) ((Int.toNat (60-1+1))+1) 1)) (ai ((Nat.lt_succ_self _:Int.toNat (60-1+1)<((Int.toNat (60-1+1))+1))) ((by omega:(0:Int)≤1))))))):((.int .i64 1:Value)=.int .i64 1)∧(Imp (.l 3 Qt b.Rows) (.l 3 Qt b.Rows))∧(Imp (.l 3 Qu b.Qi) (.l 3 Qu b.Qi))∧(runL (F118_s0 b) ((Int.toNat (60-1+1))+1) 1=(runL (F118_s0 b) ((Int.toNat (60-1+1))+1) 1)∧Int.toNat (60-1+1)<((Int.toNat (60-1+1))+1)∧(0:Int)≤1)) (fun (i0:Nat×Int) (hi0:runL (F118_s0 b) i0.1 i0.2=(runL (F118_s0 b) ((Int.toNat (60-1+1))+1) 1)∧(fun (label:Int)=>(Int.toNat (60-label+1)<i0.1∧(0:Int)≤label)) i0.2)=>(fun (m0:Nat) (label:Int) (hI0:runL (F118_s0 b) (m0+1) label=(runL (F118_s0 b) ((Int.toNat (60-1+1))+1) 1)) (_:Int.toNat (60-label+1)<m0+1) (hl0:m0<i0.1) (_:(0:Int)≤label)=>ai (fun h2:(decide (label≤60))=true=>(fun _:label≤60=>ai (trivial) (ai ((Imps.refl (Qg b))) (ai ((Imp.refl (.v (vI label)))) ((fun gv3:(oix (rowIx b label))<(b.Rows.length:Int)=>ai (fun h4:(decide ((oix (rowIx b label))<0))=true=>(fun _:(oix (rowIx b label))<0=>(fun hF:(label:Int)=(F118 b)=>ai (congrArg (fun r:Int=>(.int .i64 r:Value)) hF) (trivial)) (finR (runL_ret hI0 (condT h2 (condT h4 (rfl)))) rfl)) (of_decide_eq_true h4)) (fun h4:(decide ((oix (rowIx b label))<0))=false=>(fun _:¬ (oix (rowIx b label))<0=>ai ((by unfold i64ok; omega:i64ok (label+1))) (Exists.intro (p:=fun j:Nat×Int=>(fun (label_:Int)=>(((.int .i64 (label+1):Value)=.int .i64 label_)∧(Imp (.l 3 Qt b.Rows) (.l 3 Qt b.Rows))∧(Imp (.l 3 Qu b.Qi) (.l 3 Qu b.Qi))∧((runL (F118_s0 b) j.1 j.2=(runL (F118_s0 b) ((Int.toNat (60-1+1))+1) 1)∧Int.toNat (60-label_+1)<j.1∧(0:Int)≤label_)∧j.1<i0.1))) j.2) (m0,(label+1)) (ai (rfl) (ai (ir) (ai (ir) (ai (ai (runL_next hI0 (condT h2 (condF h4 (rfl)))) (ai ((by omega:Int.toNat (60-(label+1)+1)<m0)) ((by omega:(0:Int)≤(label+1))))) hl0)))))) (of_decide_eq_false h4))) (rowIx_lt b label))))) (of_decide_eq_true h2)) (fun h2:(decide (label≤60))=false=>(fun _:¬ label≤60=>(fun hD0_5:(runL (F118_s0 b) ((Int.toNat (60-1+1))+1) 1)=Lp.done label=>(fun hF:(0:Int)=(F118 b)=>ai (congrArg (fun r:Int=>(.int .i64 r:Value)) hF) (trivial)) (finD hD0_5 (rfl))) (runL_done hI0 (condF h2 (rfl)))) (of_decide_eq_false h2))) (i0.1-1) i0.2 (hd1 hi0.1 hi0.2.1) (hd2 hi0.2.1) (hd3 hi0.2.1) hi0.2.2)) (by kernel_rfl)
def F89_s0 (list:List Qq) (r1:Qq):Int→Lp Int (List Qq):=fun k400 =>
 bif (bif decide (k400<(list.length:Int)) then decide ((list.getD k400.toNat default).In<r1.In) else false) then (.next (k400+1)) else (.done k400)
def F89_j0 (list:List Qq) (r1:Qq):Lp Int (List Qq) :=
 (runL (F89_s0 list r1) (((list.length:Int)-0).toNat+1) 0).fin Lp.ret (fun k400=>.done k400)
def F89 (list:List Qq) (r1:Qq):List Qq :=
 (F89_j0 list r1).fin (fun r=>r) (fun k=>(((([]:List Qq)++(list.take k.toNat))++[r1])++(list.drop k.toNat)))
def S89 (R:List Qq) (list:List Qq) (r1:Qq):Spec:=⟨[.r (.c (.l 3 Qt list)),.r (.g (Qt r1))],.ow (.l 3 Qt R),list.length≤1000000000⟩
theorem ok89 (list:List Qq) (r1:Qq):(S89 (F89 list r1) list r1).ok Try.prog 89 :=
 fnG_ok mixed (fn:=Try.f89) (ct:=.seqk [(0,0)] (.no) (.seqk [(0,0)] (.no) (.cut (ι:=Int) (fun j=>(fun (k:Int)=>(⟨[(0,some (.h 0 0)),(3,some (.p 1 0)),(5,some (.v (vI k)))],[(0,some (.shr none (.l 3 Qt list))),(1,some (.box 68 [.v (vI r1.In),.v (vI r1.Next),.v (vI r1.Out)]))],2⟩:St)) j) (fun j=>(fun (k:Int)=>((F89_j0 list r1)=Lp.done j∧0≤k∧k≤(list.length:Int))) j) (.blk (.loop (ι:=Nat×Int) (fun i=>(fun (k400:Int)=>(⟨[(0,some (.h 0 0)),(3,some (.p 1 0)),(5,some (.v (vI k400)))],[(0,some (.shr none (.l 3 Qt list))),(1,some (.box 68 [.v (vI r1.In),.v (vI r1.Next),.v (vI r1.Out)]))],2⟩:St)) i.2) (fun i=>runL (F89_s0 list r1) i.1 i.2=(runL (F89_s0 list r1) (((list.length:Int)-0).toNat+1) 0)∧(fun (k400:Int)=>(Int.toNat ((list.length:Int)-k400)<i.1∧k400≤(list.length:Int)∧(0:Int)≤k400)) i.2) (fun i=>i.1) ((((list.length:Int)-0).toNat+1),0) (fun i=>(fun (k400:Int)=>(.seq (.seq (.no) (.cond (.no) (.no))) (.blk (.reg [(1,.bnd)])))) i.2))) (fun j=>(fun (k:Int)=>(.seq (.reg [(0,.dat (.l 3 Qt ([]:List Qq))),(4,.dat (.l 3 Qt (([]:List Qq)++(list.take k.toNat)))),(7,.dat (.l 3 Qt ((([]:List Qq)++(list.take k.toNat))++[r1]))),(11,.dat (.l 3 Qt (((([]:List Qq)++(list.take k.toNat))++[r1])++(list.drop k.toNat))))]) (.no))) j)))) Try.func89 (fun (hpre0:list.length≤1000000000)=>fun (_:list.length≤9223372036854775807)=>fun (_:list.length≤9223372036854775807)=>ai (ai (ai (rfl) (ai (ir) (ai (rfl) (ai (rfl) (ai (rfl) ((ai (rfl:runL (F89_s0 list r1) (((list.length:Int)-0).toNat+1) 0=(runL (F89_s0 list r1) (((list.length:Int)-0).toNat+1) 0)) (ai ((Nat.lt_succ_self _:Int.toNat ((list.length:Int)-0)<(((list.length:Int)-0).toNat+1))) (ai ((by first | omega | (simp only [lens] at*<;> omega):0≤(list.length:Int))) ((by first | omega | (simp only [lens] at*<;> omega):(0:Int)≤0)))))))))):((.int .i64 0:Value)=.int .i64 0)∧(Imp (.l 3 Qt list) (.l 3 Qt list))∧((.int .i64 r1.In:Value)=.int .i64 r1.In)∧((.int .i64 r1.Next:Value)=.int .i64 r1.Next)∧((.int .i64 r1.Out:Value)=.int .i64 r1.Out)∧(runL (F89_s0 list r1) (((list.length:Int)-0).toNat+1) 0=(runL (F89_s0 list r1) (((list.length:Int)-0).toNat+1) 0)∧Int.toNat ((list.length:Int)-0)<(((list.length:Int)-0).toNat+1)∧0≤(list.length:Int)∧(0:Int)≤0)) (fun (i0:Nat×Int) (hi0:runL (F89_s0 list r1) i0.1 i0.2=(runL (F89_s0 list r1) (((list.length:Int)-0).toNat+1) 0)∧(fun (k400:Int)=>(Int.toNat ((list.length:Int)-k400)<i0.1∧k400≤(list.length:Int)∧(0:Int)≤k400)) i0.2)=>(fun (m0:Nat) (k400:Int) (hI0:runL (F89_s0 list r1) (m0+1) k400=(runL (F89_s0 list r1) (((list.length:Int)-0).toNat+1) 0)) (_:Int.toNat ((list.length:Int)-k400)<m0+1) (hl0:m0<i0.1) (_:k400≤(list.length:Int)) (_:(0:Int)≤k400)=>ai ((fun k2:(decide (k400<(list.length:Int)))=true=>(fun _:k400<(list.length:Int)=>(by first | omega | (simp only [lens] at*<;> omega):0≤k400∧k400<(list.length:Int))) (of_decide_eq_true k2))) (ai (fun h3:(bif decide (k400<(list.length:Int)) then decide ((list.getD k400.toNat default).In<r1.In) else false)=true=>(fun _:(list.getD k400.toNat default).In<r1.In=>(fun _:k400<(list.length:Int)=>ai ((by unfold i64ok; first | omega | (simp only [lens] at*<;> omega):i64ok (k400+1))) (Exists.intro (p:=fun j:Nat×Int=>(fun (k400_:Int)=>(((.int .i64 (k400+1):Value)=.int .i64 k400_)∧(Imp (.l 3 Qt list) (.l 3 Qt list))∧((.int .i64 r1.In:Value)=.int .i64 r1.In)∧((.int .i64 r1.Next:Value)=.int .i64 r1.Next)∧((.int .i64 r1.Out:Value)=.int .i64 r1.Out)∧((runL (F89_s0 list r1) j.1 j.2=(runL (F89_s0 list r1) (((list.length:Int)-0).toNat+1) 0)∧Int.toNat ((list.length:Int)-k400_)<j.1∧k400_≤(list.length:Int)∧(0:Int)≤k400_)∧j.1<i0.1))) j.2) (m0,(k400+1)) (ai (rfl) (ai (ir) (ai (rfl) (ai (rfl) (ai (rfl) (ai (ai (runL_next hI0 (condT h3 (rfl))) (ai ((by first | omega | (simp only [lens] at*<;> omega):Int.toNat ((list.length:Int)-(k400+1))<m0)) (ai ((by first | omega | (simp only [lens] at*<;> omega):(k400+1)≤(list.length:Int))) ((by first | omega | (simp only [lens] at*<;> omega):(0:Int)≤(k400+1)))))) hl0)))))))) (of_decide_eq_true (andT1 h3))) (of_decide_eq_true (andT2 h3))) (fun h3:(bif decide (k400<(list.length:Int)) then decide ((list.getD k400.toNat default).In<r1.In) else false)=false=>(fun hD0_4:(runL (F89_s0 list r1) (((list.length:Int)-0).toNat+1) 0)=Lp.done k400=>Exists.intro (p:=fun j:Int=>(fun (k_:Int)=>(((.int .i64 k400:Value)=.int .i64 k_)∧(Imp (.l 3 Qt list) (.l 3 Qt list))∧((.int .i64 r1.In:Value)=.int .i64 r1.In)∧((.int .i64 r1.Next:Value)=.int .i64 r1.Next)∧((.int .i64 r1.Out:Value)=.int .i64 r1.Out)∧(F89_j0 list r1)=Lp.done j∧0≤k_∧k_≤(list.length:Int))) j) (k400) (ai (rfl) (ai (ir) (ai (rfl) (ai (rfl) (ai (rfl) (ai (Eq.symm (finD hD0_4 (rfl))) (ai ((by first | omega | (simp only [lens] at*<;> omega):0≤k400)) ((by first | omega | (simp only [lens] at*<;> omega):k400≤(list.length:Int))))))))))) (runL_done hI0 (condF h3 (rfl)))))) (i0.1-1) i0.2 (hd1 hi0.1 hi0.2.1) (hd2 hi0.2.1) (hd3 hi0.2.1) hi0.2.2.1 hi0.2.2.2)) (fun (j:Int) (hj:(fun (k:Int)=>((F89_j0 list r1)=Lp.done j∧0≤k∧k≤(list.length:Int))) j)=>(fun (k:Int) (hJ0_5:(F89_j0 list r1)=Lp.done k) (_:0≤k) (_:k≤(list.length:Int))=>ai ((BuildOK.mk Qt ([]:List Qq) rfl (by exact trivial) (fun _=>rfl):BuildOK 0 3 [] (.l 3 Qt ([]:List Qq)))) (ai ((by first | omega | (simp only [lens] at*<;> omega):0≤(0:Int)∧(0:Int)≤k∧k≤(list.length:Int))) (ai ((AppL.mk Qt ([]:List Qq) (list.take k.toNat) (Imp.refl (.l 3 Qt ([]:List Qq))) ir (fun y=>⟨rfl,fun e he=>by simp only [Qt,List.mem_cons,List.not_mem_nil,or_false] at he; rcases he with rfl | rfl | rfl <;> exact ⟨_,rfl⟩⟩):AppL (.l 3 Qt ([]:List Qq)) (.l 3 Qt (list.take k.toNat)) 3 (.l 3 Qt (([]:List Qq)++(list.take k.toNat))))) (ai ((by (try simp only [lens]); omega:((([]:List Qq)++(list.take k.toNat))).length*24≤140737488355328)) (ai ((AppA.mk Qt (([]:List Qq)++(list.take k.toNat)) [r1] (Imp.refl (.l 3 Qt (([]:List Qq)++(list.take k.toNat)))) rfl (by exact ai ir (ai ir (ai ir (trivial)))) (fun _=>rfl):AppA (.l 3 Qt (([]:List Qq)++(list.take k.toNat))) 1 3 [.v (vI r1.In),.v (vI r1.Next),.v (vI r1.Out)] (.l 3 Qt ((([]:List Qq)++(list.take k.toNat))++[r1])))) (ai ((by (try simp only [lens]); omega:(((([]:List Qq)++(list.take k.toNat))++[r1])).length*24≤140737488355328)) (ai ((by first | omega | (simp only [lens] at*<;> omega):0≤k∧k≤(list.length:Int)∧(list.length:Int)≤(list.length:Int))) (ai ((AppL.mk Qt ((([]:List Qq)++(list.take k.toNat))++[r1]) (list.drop k.toNat) (Imp.refl (.l 3 Qt ((([]:List Qq)++(list.take k.toNat))++[r1]))) ir (fun y=>⟨rfl,fun e he=>by simp only [Qt,List.mem_cons,List.not_mem_nil,or_false] at he; rcases he with rfl | rfl | rfl <;> exact ⟨_,rfl⟩⟩):AppL (.l 3 Qt ((([]:List Qq)++(list.take k.toNat))++[r1])) (.l 3 Qt (list.drop k.toNat)) 3 (.l 3 Qt (((([]:List Qq)++(list.take k.toNat))++[r1])++(list.drop k.toNat))))) (ai ((by (try simp only [lens]); omega:((((([]:List Qq)++(list.take k.toNat))++[r1])++(list.drop k.toNat))).length*24≤140737488355328)) ((fun hF:((((([]:List Qq)++(list.take k.toNat))++[r1])++(list.drop k.toNat)):List Qq)=(F89 list r1)=>ai (Imp.of_eq (congrArg (fun r:List Qq=>Dat.l 3 Qt r) hF)) (trivial)) (finD hJ0_5 (rfl)))))))))))) j hj.1 hj.2.1 hj.2.2)) (by kernel_rfl)
theorem getD_mapL {α β:Type} [Inhabited α] [Inhabited β] (f:α→β) (l:List α) {k:Nat} (h:k<l.length):(l.map f).getD k default=f (l.getD k default):=by
 rw [getD_lt _ (by simpa using h),getD_lt _ h,List.getElem_map]
theorem search1 {ρ τ:Type} (p:Nat→Bool) (r:Nat→ρ) (n:Nat) (step:Int→Lp Int ρ) (hs:∀ k:Nat,k<n→step ((k:Int)+1)=bif p k then .ret (r k) else .next ((k:Int)+1+1)) (he:step ((n:Int)+1)=.done ((n:Int)+1)) (f:ρ→τ) (g:Int→τ) :
  (runL step (n+1) 1).fin f g=match first p n with | some k=>f (r k) | none=>g ((n:Int)+1):=by
 have h:=runL_rule (step:=step) (fun (k:Nat) (_:Unit)=>(k:Int)+1) n (fun k _=>∀ j,j<k→p j=false) (fun x=>∃ k,first p n=some k∧x=r k)
  (fun k _ hk hI=>by
   cases hp:p k with
   | false =>
    refine .inl ⟨(),by rw [hs k hk,hp]; rfl,fun j hj=>?_⟩
    rcases Nat.lt_succ_iff_lt_or_eq.1 hj with h | rfl
    ·exact hI j h
    ·exact hp
   | true=>exact .inr ⟨r k,by rw [hs k hk,hp]; rfl,k,first_some.2 ⟨hk,hp,hI⟩,rfl⟩)
  (fun _ _=>he) n 0 () (by omega) (fun j hj=>by omega) (n+1) (Nat.lt_succ_self _)
 rcases h with ⟨_,h,hI⟩ | ⟨x,h,k,hk,rfl⟩
 ·have h:runL step (n+1) 1=.done ((n:Int)+1):=h
  rw [h,first_none.2 hI]; rfl
 ·have h:runL step (n+1) 1=.ret (r k):=h
  rw [h,hk]; rfl
def stopAt (p:Nat→Bool) (n:Nat):Nat:=(first (fun k=>!(p k)) n).getD n
theorem stopAt_le (p:Nat→Bool) (n:Nat):stopAt p n≤n:=by
 unfold stopAt
 cases h:first (fun k=>!(p k)) n with
 | none=>exact Nat.le_refl _
 | some k=>exact Nat.le_of_lt (first_some.1 h).1
theorem stopAt_lt {p:Nat→Bool} {n k:Nat} (h:k<stopAt p n):p k=true:=by
 unfold stopAt at h
 cases e:first (fun k=>!(p k)) n with
 | none=>rw [e] at h; have:=first_none.1 e k h; simpa using this
 | some j=>rw [e] at h; have:=(first_some.1 e).2.2 k h; simpa using this
theorem stopAt_at {p:Nat→Bool} {n:Nat} (h:stopAt p n<n):p (stopAt p n)=false:=by
 unfold stopAt at h ⊢
 cases e:first (fun k=>!(p k)) n with
 | none=>rw [e] at h; exact absurd h (Nat.lt_irrefl _)
 | some j=>have:=(first_some.1 e).2.1; simpa using this
theorem whileL {ρ:Type} (p:Nat→Bool) (n:Nat) (step:Int→Lp Int ρ) (hs:∀ k:Nat,k≤n→step (k:Int)=bif (decide (k<n)&&p k) then .next ((k:Int)+1) else .done (k:Int)) :
  runL step (n+1) 0=.done (stopAt p n:Int):=by
 have key:∀ m k,k+m=stopAt p n→∀ M,m<M→runL step M (k:Int)=.done (stopAt p n:Int):=by
  intro m
  induction m with
  | zero =>
   intro k hk M hM
   obtain ⟨M,rfl⟩:∃ M',M=M'+1:=⟨M-1,by omega⟩
   have hle:=stopAt_le p n
   have hk':k=stopAt p n:=by omega
   have:(decide (k<n)&&p k)=false:=by
    by_cases hlt:k<n
    ·rw [hk'] at hlt ⊢; rw [stopAt_at hlt,Bool.and_false]
    ·rw [decide_eq_false hlt]; rfl
   simp only [runL]
   rw [hs k (by omega),this,hk']; rfl
  | succ m ih =>
   intro k hk M hM
   obtain ⟨M,rfl⟩:∃ M',M=M'+1:=⟨M-1,by omega⟩
   have hle:=stopAt_le p n
   have h1:p k=true:=stopAt_lt (n:=n) (by omega)
   have h2:decide (k<n)=true:=decide_eq_true (by omega)
   simp only [runL,hs k (by omega),h1,h2,Bool.and_self,cond_true]
   exact ih (k+1) (by omega) M (by omega)
 have hle:=stopAt_le p n
 exact key (stopAt p n) 0 (by omega) (n+1) (by omega)
def putK {α:Type} [Inhabited α] (key:α→Int) (xs:List α) (r:α):List α :=
 xs.take (stopAt (fun k=>decide (key (xs.getD k default)<key r)) xs.length)++[r]++xs.drop (stopAt (fun k=>decide (key (xs.getD k default)<key r)) xs.length)
theorem putK_perm {α:Type} [Inhabited α] (key:α→Int) (xs:List α) (r:α):(putK key xs r).Perm (xs++[r]):=by
 unfold putK
 generalize stopAt _ _=k
 have h1:(xs.take k++[r]++xs.drop k).Perm (xs.take k++(xs.drop k++[r])):=by
  rw [List.append_assoc]
  exact List.Perm.append_left _ (List.perm_append_comm)
 refine h1.trans ?_
 rw [← List.append_assoc,List.take_append_drop]
theorem putK_mem {α:Type} [Inhabited α] {key:α→Int} {xs:List α} {r x:α}:x∈putK key xs r↔x∈xs∨x=r:=by
 rw [(putK_perm key xs r).mem_iff]; simp
theorem putK_inc {α:Type} [Inhabited α] (key:α→Int) (xs:List α) (r:α) (hk:xs.Pairwise (fun a b=>key a<key b)) (hn:∀ a∈xs,key a≠key r):(putK key xs r).Pairwise (fun a b=>key a<key b):=by
 unfold putK
 generalize hg:stopAt (fun k=>decide (key (xs.getD k default)<key r)) xs.length=k
 have hkl:k≤xs.length:=by rw [← hg]; exact stopAt_le _ _
 have hA:∀ a∈xs.take k,key a<key r:=by
  intro a ha
  obtain ⟨i,hi,rfl⟩:=List.mem_iff_getElem.1 ha
  have hi':i<k:=by simp at hi; omega
  have:=stopAt_lt (p:=fun k=>decide (key (xs.getD k default)<key r)) (n:=xs.length) (k:=i) (by rw [hg]; exact hi')
  have:=of_decide_eq_true this
  rw [getD_lt xs (by omega)] at this
  rw [List.getElem_take]; exact this
 have hB:∀ a∈xs.drop k,key r<key a:=by
  by_cases hlt:k<xs.length
  ·have h0:=stopAt_at (p:=fun k=>decide (key (xs.getD k default)<key r)) (n:=xs.length) (by rw [hg]; exact hlt)
   rw [hg] at h0
   have h0:=of_decide_eq_false h0
   rw [getD_lt xs hlt] at h0
   have hne:=hn _ (List.getElem_mem hlt)
   have hpd:(xs.drop k).Pairwise (fun a b=>key a<key b):=hk.drop
   rw [List.drop_eq_getElem_cons hlt] at hpd ⊢
   intro a ha
   rcases List.mem_cons.1 ha with rfl | ha
   ·omega
   ·have:=(List.pairwise_cons.1 hpd).1 a ha; omega
  ·rw [List.drop_of_length_le (by omega)]; intro a ha; cases ha
 rw [List.append_assoc,List.pairwise_append]
 refine ⟨hk.take,?_,?_⟩
 ·rw [List.singleton_append,List.pairwise_cons]
  exact ⟨hB,hk.drop⟩
 ·intro a ha b hb
  rw [List.singleton_append] at hb
  have h1:=hA a ha
  rcases List.mem_cons.1 hb with rfl | hb
  ·exact h1
  ·have:=hB b hb; omega
theorem pairK_uniq {α:Type} {key:α→Int} {xs:List α} (h:xs.Pairwise (fun a b=>key a<key b)) {a b:α} (ha:a∈xs) (hb:b∈xs) (e:key a=key b):a=b:=by
 induction xs with
 | nil=>cases ha
 | cons x t ih =>
  rw [List.pairwise_cons] at h
  rcases List.mem_cons.1 ha with ha | ha <;> rcases List.mem_cons.1 hb with hb | hb
  ·rw [ha,hb]
  ·have:=h.1 b hb; rw [← ha] at this; omega
  ·have:=h.1 a ha; rw [← hb] at this; omega
  ·exact ih h.2 ha hb
def badP (n:Qd) (path:List Int) (i:Nat):Bool :=
 (!decide (0≤path.getD i default∧path.getD i default≤(n.Qa.length:Int)-1)) || ((decide (0<i)&&decide (Qh n (path.getD (i-1) default) (path.getD i default)<0)) || (first (fun k=>decide (path.getD k default=path.getD i default)) i).isSome)
def pathB (n:Qd) (path:List Int):Bool:=decide (2≤(path.length:Int)∧(path.length:Int)≤(n.Qa.length:Int))&&(first (badP n path) path.length).isNone
structure PathOk (n:Qd) (path:List Int):Prop where
 two:2≤path.length
 most:path.length≤n.Qa.length
 rng:∀ i,i<path.length→0≤path.getD i default∧path.getD i default<(n.Qa.length:Int)
 lnk:∀ i,i+1<path.length→0≤Qh n (path.getD i default) (path.getD (i+1) default)
 inj:∀ i j,i<path.length→j<path.length→path.getD i default=path.getD j default→i=j
theorem pathB_ok {n:Qd} {path:List Int}:pathB n path=true↔PathOk n path:=by
 unfold pathB
 simp only [Bool.and_eq_true,decide_eq_true_eq,allB_iff,badP,Bool.or_eq_false_iff,Bool.not_eq_false',Bool.and_eq_false_iff,decide_eq_false_iff_not,Option.isSome_eq_false_iff,Option.isNone_iff_eq_none,first_none]
 constructor
 ·rintro ⟨⟨h1,h2⟩,h3⟩
  refine ⟨by omega,by omega,fun i hi=>?_,fun i hi=>?_,?_⟩
  ·have:=(h3 i hi).1; omega
  ·have:=(h3 (i+1) hi).2.1; simp only [Nat.add_sub_cancel] at this; omega
  ·have key:∀ i j,j<path.length→i<j→path.getD i default≠path.getD j default:=fun i j hj hij=>(h3 j hj).2.2 i hij
   intro i j hi hj e
   rcases Nat.lt_trichotomy i j with h | h | h
   ·exact absurd e (key i j hj h)
   ·exact h
   ·exact absurd e.symm (key j i hi h)
 ·intro h
  have:=h.two; have:=h.most
  refine ⟨by omega,fun i hi=>⟨?_,?_,fun k hk e=>?_⟩⟩
  ·have:=h.rng i hi; omega
  ·cases i with
   | zero=>left; omega
   | succ i=>right; have:=h.lnk i hi; simp only [Nat.add_sub_cancel]; omega
  ·have:=h.inj k i (by omega) hi e; omega
theorem pathB_T (n:Qd) (path:List Int) (h:pathB n path=true):PathOk n path:=pathB_ok.1 h
theorem pathB_len (n:Qd) (path:List Int) (h:pathB n path=true):path.length≤n.Qa.length:=(pathB_ok.1 h).most
theorem as76 (n:Qd) (path:List Int):F76 n path=pathB n path:=by
 unfold F76 pathB
 rw [search (badP n path) (fun _=>false) path.length _ (fun i hi=>by
  simp only [F76_s0,ltD hi,cond_true,nn,bord,bandd,toNat_pred,pos_cast]
  rw [search (fun k=>decide (path.getD k default=path.getD i default)) (fun _=>false) i _ (fun k hk=>by simp only [F76_s1,ltD hk,cond_true,nn,beqD]) (by simp [F76_s1])]
  unfold badP
  rw [← Bool.or_assoc]
  cases (!decide (0≤path.getD i default∧path.getD i default≤(n.Qa.length:Int)-1) || (decide (0<i)&&decide (Qh n (path.getD (i-1) default) (path.getD i default)<0)))
  ·cases first (fun k=>decide (path.getD k default=path.getD i default)) i <;> rfl
  ·rfl) (by simp [F76_s0])]
 cases decide (2≤(path.length:Int)∧(path.length:Int)≤(n.Qa.length:Int))
 ·rfl
 ·cases first (badP n path) path.length <;> rfl
def freeOf (b:Qj):Int:=match first (fun k=>(rowIx b ((k:Int)+1)).isNone) 60 with
 | some k=>(k:Int)+1
 | none=>0
theorem freeOf_ok {b:Qj} (h:freeOf b≠0):isLabel (freeOf b)∧rowIx b (freeOf b)=none:=by
 unfold freeOf at h ⊢
 cases e:first (fun k=>(rowIx b ((k:Int)+1)).isNone) 60 with
 | none=>rw [e] at h; exact absurd rfl h
 | some k =>
  obtain ⟨h1,h2,_⟩:=first_some.1 e
  simp only at h1 h2 ⊢
  exact ⟨⟨by omega,by omega⟩,Option.isNone_iff_eq_none.1 h2⟩
theorem as118 (b:Qj):F118 b=freeOf b:=by
 unfold F118 freeOf
 rw [show (Int.toNat (60-1+1))+1=60+1 from rfl]
 rw [search1 (fun k=>(rowIx b ((k:Int)+1)).isNone) (fun k=>(k:Int)+1) 60 _ (fun k hk=>by
  simp only [F118_s0]
  rw [show decide ((k:Int)+1≤60)=true from decide_eq_true (by omega),cond_true]
  cases rowIx b ((k:Int)+1) with
  | none=>rfl
  | some j=>rw [show decide (oix (some j)<0)=false from decide_eq_false (by simp only [oix]; omega)]; rfl) (by simp [F118_s0])]
theorem free_new {b:Qj} (h:freeOf b≠0):∀ r∈b.Rows,r.In≠freeOf b:=by
 intro r hr e
 obtain ⟨k,hk,rfl⟩:=mem_getD hr
 have:=first_none.1 (freeOf_ok h).2 k hk
 rw [e] at this; simp at this
def BoxP (n:Qd) (i:Int) (b:Qj):Prop :=
 ((∀ r∈b.Rows,rowOk n i r)∧b.Rows.Pairwise (fun x y=>x.In<y.In))∧(∀ v∈b.Qi,viaOk n i v)∧b.Qi.Pairwise (fun x y=>x.To<y.To)
theorem pair_inc {α:Type} [Inhabited α] {xs:List α} {f:α→Int} (h:xs.Pairwise (fun a b=>f a<f b)) (k:Nat) (hk:k+1<xs.length):f (xs.getD k default)<f (xs.getD (k+1) default):=by
 rw [getD_lt xs (by omega),getD_lt xs hk]
 exact List.pairwise_iff_getElem.1 h k (k+1) (by omega) hk (by omega)
theorem boxP_ok {n:Qd} {i:Nat}:BoxOk n i↔BoxP n i (n.Qa.getD i default):=by
 constructor
 ·intro h
  refine ⟨⟨fun r hr=>?_,inc_pair _ (fun r:Qq=>r.In) h.rinc⟩,fun v hv=>?_,inc_pair _ (fun r:Qs=>r.To) h.vinc⟩
  ·obtain ⟨k,hk,rfl⟩:=mem_getD hr; exact h.row k hk
  ·obtain ⟨k,hk,rfl⟩:=mem_getD hv; exact h.via k hk
 ·rintro ⟨⟨h1,h2⟩,h3,h4⟩
  exact ⟨fun k hk=>h1 _ (getD_mem _ hk),fun k hk=>pair_inc (f:=fun r:Qq=>r.In) h2 k hk,fun k hk=>h3 _ (getD_mem _ hk),fun k hk=>pair_inc (f:=fun r:Qs=>r.To) h4 k hk⟩
theorem getD_set {α:Type} [Inhabited α] (xs:List α) (i:Nat) (x:α) (k:Nat):(xs.set i x).getD k default=if i=k∧k<xs.length then x else xs.getD k default:=by
 rw [List.getD_eq_getElem?_getD,List.getElem?_set]
 by_cases h1:i=k
 ·subst h1
  by_cases h2:i<xs.length
  ·simp [h2]
  ·rw [if_pos rfl,if_neg h2,if_neg (by simp [h2]),getD_ge _ (by omega)]; rfl
 ·simp [h1,List.getD_eq_getElem?_getD]
theorem netOk_set {n:Qd} (h:Qn n) {i:Nat} {b:Qj} (hb:BoxP n i b):Qn ⟨n.Qb,n.Qa.set i b⟩:=by
 obtain ⟨f,g⟩:=h
 refine ⟨⟨by simpa using f.b1,by simpa using f.b8,f.l14,fun k hk=>?_,f.inc⟩,fun k hk=>?_⟩
 ·have:=f.ab k hk
  simpa using this
 ·have hk':k<n.Qa.length:=by simpa using hk
  rw [boxP_ok]
  show BoxP n k ((n.Qa.set i b).getD k default)
  rw [getD_set]
  by_cases e:i=k
  ·subst e; rw [if_pos ⟨rfl,hk'⟩]; exact hb
  ·rw [if_neg (fun h=>e h.1)]; exact boxP_ok.1 (g k hk')
def rowAt (path labels:List Int) (i:Nat):Qq :=
 ⟨labels.getD i default,bif decide ((i:Int)+1<(path.length:Int)) then path.getD (i+1) default else -1,bif decide ((i:Int)+1<(path.length:Int)) then labels.getD (i+1) default else 0⟩
def layTo (n:Qd) (path labels:List Int):Nat→List Qj
 | 0=>n.Qa
 | i+1=>(layTo n path labels i).set (path.getD i default).toNat ⟨putK (fun x:Qq=>x.In) ((layTo n path labels i).getD (path.getD i default).toNat default).Rows (rowAt path labels i),((layTo n path labels i).getD (path.getD i default).toNat default).Qi⟩
theorem layTo_len (n:Qd) (path labels:List Int):∀ i,(layTo n path labels i).length=n.Qa.length
 | 0=>rfl
 | i+1=>by simp [layTo,layTo_len n path labels i]
theorem PathOk.ne {n:Qd} {path:List Int} (h:PathOk n path) {i j:Nat} (hi:i<path.length) (hj:j<path.length) (hij:i≠j):Int.toNat (path.getD i default)≠Int.toNat (path.getD j default):=fun e=>by
 have h1:=h.rng i hi; have h2:=h.rng j hj
 exact hij (h.inj i j hi hj (by omega))
theorem layTo_at {n:Qd} {path:List Int} (h:PathOk n path) (labels:List Int):∀ i j,i≤j→j<path.length→(layTo n path labels i).getD (path.getD j default).toNat default=n.Qa.getD (path.getD j default).toNat default
 | 0,_,_,_=>rfl
 | i+1,j,hij,hj=>by
  rw [layTo,getD_set,if_neg (fun e=>h.ne (by omega) hj (by omega) e.1)]
  exact layTo_at h labels i j (by omega) hj
def freeOn (n:Qd) (b:Int):Int:=freeOf (n.Qa.getD b.toNat default)
structure LayP (n:Qd) (path labels:List Int):Prop where
 net:Qn n
 pth:PathOk n path
 lab:labels=path.map (freeOn n)
 nz:∀ x∈labels,x≠0
theorem LayP.len {n:Qd} {path labels:List Int} (h:LayP n path labels):labels.length=path.length:=by rw [h.lab,List.length_map]
theorem LayP.at_ {n:Qd} {path labels:List Int} (h:LayP n path labels) {i:Nat} (hi:i<path.length):labels.getD i default=freeOf (n.Qa.getD (path.getD i default).toNat default)∧freeOf (n.Qa.getD (path.getD i default).toNat default)≠0:=by
 have hl:=h.len
 have e:labels.getD i default=freeOf (n.Qa.getD (path.getD i default).toNat default):=by rw [h.lab,getD_mapL _ _ hi]; rfl
 exact ⟨e,e ▸ h.nz _ (getD_mem _ (by omega))⟩
theorem LayP.lbl {n:Qd} {path labels:List Int} (h:LayP n path labels) {i:Nat} (hi:i<path.length):isLabel (labels.getD i default):=by
 obtain ⟨h1,h2⟩:=h.at_ hi
 rw [h1]; exact (freeOf_ok h2).1
theorem LayP.row {n:Qd} {path labels:List Int} (h:LayP n path labels) {i:Nat} (hi:i<path.length):rowOk n (path.getD i default) (rowAt path labels i):=by
 refine ⟨h.lbl hi,?_⟩
 by_cases hx:(i:Int)+1<(path.length:Int)
 ·right
  simp only [rowAt,decide_eq_true hx,cond_true]
  exact ⟨h.pth.lnk i (by omega),h.lbl (by omega)⟩
 ·left
  simp [rowAt,decide_eq_false hx]
theorem LayP.new {n:Qd} {path labels:List Int} (h:LayP n path labels) {i:Nat} (hi:i<path.length):∀ r∈(n.Qa.getD (path.getD i default).toNat default).Rows,r.In≠(rowAt path labels i).In:=by
 obtain ⟨h1,h2⟩:=h.at_ hi
 intro r hr
 show r.In≠labels.getD i default
 rw [h1]; exact free_new h2 r hr
theorem LayP.box {n:Qd} {path labels:List Int} (h:LayP n path labels) {i:Nat} (hi:i<path.length):BoxP n (path.getD i default) (n.Qa.getD (path.getD i default).toNat default):=by
 have:=h.pth.rng i hi
 have hb:=boxP_ok.1 (h.net.box (path.getD i default).toNat (by omega))
 rwa [show ((Int.toNat (path.getD i default):Nat):Int)=path.getD i default from by omega] at hb
theorem LayP.putOk {n:Qd} {path labels:List Int} (h:LayP n path labels) {i:Nat} (hi:i<path.length) :
  BoxP n (path.getD i default) ⟨putK (fun x:Qq=>x.In) (n.Qa.getD (path.getD i default).toNat default).Rows (rowAt path labels i),(n.Qa.getD (path.getD i default).toNat default).Qi⟩:=by
 obtain ⟨⟨h1,h2⟩,h3⟩:=h.box hi
 refine ⟨⟨fun r hr=>?_,putK_inc (fun x:Qq=>x.In) _ _ h2 (h.new hi)⟩,h3⟩
 rcases putK_mem.1 hr with hr | rfl
 ·exact h1 r hr
 ·exact h.row hi
theorem LayP.netTo {n:Qd} {path labels:List Int} (h:LayP n path labels):∀ i,i≤path.length→Qn ⟨n.Qb,layTo n path labels i⟩
 | 0,_=>h.net
 | i+1,hi=>by
  have ih:=h.netTo i (by omega)
  have hr:=h.pth.rng i (by omega)
  rw [layTo,layTo_at h.pth labels i i (Nat.le_refl _) (by omega)]
  have hb:=h.putOk (i:=i) (by omega)
  exact netOk_set (n:=⟨n.Qb,layTo n path labels i⟩) ih (i:=Int.toNat (path.getD i default)) (by
   rw [show ((Int.toNat (path.getD i default):Nat):Int)=path.getD i default from by omega]; exact hb)
structure LayS (n:Qd) (path labels:List Int) (i:Int) (xs:List Qj):Prop where
 p:LayP n path labels
 hi:0≤i
 hl:i≤(path.length:Int)
 xs:xs=layTo n path labels i.toNat
theorem LayS.zero {n:Qd} {path labels:List Int} (h:LayP n path labels):LayS n path labels 0 n.Qa:=⟨h,by omega,by omega,rfl⟩
theorem LayS.in_ {n:Qd} {path labels:List Int} {i:Int} {xs:List Qj} (h:LayS n path labels i xs) (hi:i<(path.length:Int)) :
  0≤path.getD i.toNat default∧path.getD i.toNat default<(xs.length:Int)∧(xs.getD (path.getD i.toNat default).toNat default).Rows.length≤60:=by
 obtain ⟨p,h0,_,rfl⟩:=h
 have:=p.pth.rng i.toNat (by omega)
 rw [layTo_len,layTo_at p.pth labels i.toNat i.toNat (Nat.le_refl _) (by omega)]
 exact ⟨this.1,this.2,Qn.rows p.net _⟩
theorem LayS.next {n:Qd} {path labels:List Int} {i:Int} {xs:List Qj} (h:LayS n path labels i xs) (hi:i<(path.length:Int)) {r:Qq} (hr:r=rowAt path labels i.toNat) :
  LayS n path labels (i+1) (xs.set (path.getD i.toNat default).toNat ⟨putK (fun x:Qq=>x.In) (xs.getD (path.getD i.toNat default).toNat default).Rows r,(xs.getD (path.getD i.toNat default).toNat default).Qi⟩):=by
 obtain ⟨p,h0,_,rfl⟩:=h
 subst hr
 refine ⟨p,by omega,by omega,?_⟩
 rw [show Int.toNat (i+1)=Int.toNat i+1 from by omega]; rfl
theorem rowAt_T {path labels:List Int} {i:Int} (h0:0≤i) (h:i+1<(path.length:Int)):(⟨labels.getD i.toNat default,path.getD (i+1).toNat default,labels.getD (i+1).toNat default⟩:Qq)=rowAt path labels i.toNat:=by
 unfold rowAt
 rw [decide_eq_true (show ((Int.toNat i:Nat):Int)+1<(path.length:Int) from by omega),show Int.toNat (i+1)=Int.toNat i+1 from by omega]
 rfl
theorem rowAt_F {path labels:List Int} {i:Int} (h0:0≤i) (h:¬ i+1<(path.length:Int)):(⟨labels.getD i.toNat default,-1,0⟩:Qq)=rowAt path labels i.toNat:=by
 unfold rowAt
 rw [decide_eq_false (show ¬ ((Int.toNat i:Nat):Int)+1<(path.length:Int) from by omega)]
 rfl
theorem PathOk.in_ {n:Qd} {path:List Int} (h:PathOk n path) {i:Int} (h0:0≤i) (hi:i<(path.length:Int)):0≤path.getD i.toNat default∧path.getD i.toNat default<(n.Qa.length:Int):=h.rng _ (by omega)
structure LabI (n:Qd) (path:List Int) (i:Int) (xs:List Int):Prop where
 hi:0≤i
 hl:i≤(path.length:Int)
 eq:xs=(path.take i.toNat).map (freeOn n)
 nz:∀ x∈xs,x≠0
theorem LabI.zero (n:Qd) (path:List Int):LabI n path 0 []:=⟨by omega,by omega,rfl,fun x hx=>by cases hx⟩
theorem LabI.next {n:Qd} {path:List Int} {i:Int} {xs:List Int} (h:LabI n path i xs) (hi:i<(path.length:Int)) (hz:¬ freeOf (n.Qa.getD (path.getD i.toNat default).toNat default)=0) :
  LabI n path (i+1) (xs++[freeOf (n.Qa.getD (path.getD i.toNat default).toNat default)]):=by
 obtain ⟨h0,_,rfl,h3⟩:=h
 refine ⟨by omega,by omega,?_,fun x hx=>?_⟩
 ·rw [show Int.toNat (i+1)=Int.toNat i+1 from by omega,take_next (by omega),List.map_append]; rfl
 ·rcases List.mem_append.1 hx with hx | hx
  ·exact h3 x hx
  ·rw [List.mem_singleton.1 hx]; exact hz
theorem LabI.done {n:Qd} {path:List Int} {i:Int} {xs:List Int} (h:LabI n path i xs) (hi:¬ i<(path.length:Int)) (hn:Qn n) (hp:PathOk n path):LayP n path xs:=by
 obtain ⟨h0,h1,h2,h3⟩:=h
 rw [List.take_of_length_le (by omega)] at h2
 exact ⟨hn,hp,h2,h3⟩
theorem LabI.len {n:Qd} {path:List Int} {i:Int} {xs:List Int} (h:LabI n path i xs):(xs.length:Int)=i:=by
 obtain ⟨h0,h1,h2,h3⟩:=h
 rw [h2,List.length_map,List.length_take]; omega
theorem whilePut {α ρ:Type} [Inhabited α] (key:α→Int) (xs:List α) (r:α) (step:Int→Lp Int ρ) (hs:∀ k,step k=bif (bif decide (k<(xs.length:Int)) then decide (key (xs.getD k.toNat default)<key r) else false) then .next (k+1) else .done k) :
  runL step (((xs.length:Int)-0).toNat+1) 0=.done (stopAt (fun k=>decide (key (xs.getD k default)<key r)) xs.length:Int):=by
 rw [n0]
 refine whileL _ _ step fun k hk=>?_
 rw [hs,bandd,nn]
 congr 2
 simp
theorem as89 (list:List Qq) (r1:Qq):F89 list r1=putK (fun x:Qq=>x.In) list r1:=by
 unfold F89 F89_j0 putK
 rw [whilePut (fun x:Qq=>x.In) list r1 (F89_s0 list r1) (fun k=>rfl)]
 simp only [Lp.fin,nn,List.nil_append]
theorem oa76 (n:Qd) (path:List Int):(S76 (pathB n path) n path).ok Try.prog 76:=by
 intro hp; have h:=ok76 n path hp; rw [as76 n path] at h; exact h
theorem oa118 (b:Qj):(S118 (freeOf b) b).ok Try.prog 118:=by
 intro hp; have h:=ok118 b hp; rw [as118 b] at h; exact h
def T89 (R:List Qq) (list:List Qq) (r1:Qq):Spec:=⟨(S89 R list r1).args,(S89 R list r1).res,list.length≤1000000000⟩
theorem oa89 (list:List Qq) (r1:Qq):(T89 (putK (fun x:Qq=>x.In) list r1) list r1).ok Try.prog 89:=by
 intro hp; have h:=ok89 list r1 hp; rw [as89 list r1] at h; exact h
def F77_s0 (n:Qd) (path:List Int):(List Int×Int)→Lp (List Int×Int) (List Int):=fun (out,i40) =>
 bif (decide (i40<(path.length:Int))) then (bif ((freeOf (n.Qa.getD (path.getD i40.toNat default).toNat default))==0) then (.ret ([]:List Int)) else (.next ((out++[(freeOf (n.Qa.getD (path.getD i40.toNat default).toNat default))]),(i40+1)))) else (.done (out,i40))
def F77 (n:Qd) (path:List Int):List Int :=
 (runL (F77_s0 n path) (((path.length:Int)-0).toNat+1) (([]:List Int),0)).fin (fun r=>r) (fun (out,i40)=>out)
def S77 (R:List Int) (n:Qd) (path:List Int):Spec:=⟨[.r (.g (Qr n)),.r (.c (.l 1 eInt path))],.ow (.l 1 eInt R),PathOk n path∧path.length≤8⟩
theorem ok77 (n:Qd) (path:List Int):(S77 (F77 n path) n path).ok Try.prog 77 :=
 fnG_ok mixed (fn:=Try.f77) (ct:=.seqk [(1,0)] (.no) (.seq (.reg [(0,.dat (.l 1 eInt ([]:List Int)))]) (.seq (.seqk [(1,0),(2,0),(2,1),(5,0)] (.no) (.blk (.loop (ι:=Nat×(List Int×Int)) (fun i=>(fun (out:List Int) (i40:Int)=>(⟨[(1,some (.h 0 0)),(2,some (.p 1 0)),(5,some (.h 4 0)),(6,some (.v (vI i40)))],[(0,some (.shr none (.l 1 eInt path))),(1,some (.box 26 [.h 2 0,.h 3 0])),(2,some (.shr none (.l 2 Qf n.Qb))),(3,some (.shr none (.l 2 Qg n.Qa))),(4,some (.own 4 (.l 1 eInt out)))],5⟩:St)) i.2.1 i.2.2) (fun i=>runL (F77_s0 n path) i.1 i.2=(runL (F77_s0 n path) (((path.length:Int)-0).toNat+1) (([]:List Int),0))∧(fun (out:List Int) (i40:Int)=>(Int.toNat ((path.length:Int)-i40)<i.1∧LabI n path i40 out∧(out.length:Int)=i40∧i40≤(path.length:Int)∧(i40<(path.length:Int)→0≤path.getD i40.toNat default∧path.getD i40.toNat default<(n.Qa.length:Int))∧(0:Int)≤i40)) i.2.1 i.2.2) (fun i=>i.1) ((((path.length:Int)-0).toNat+1),(([]:List Int),0)) (fun i=>(fun (out:List Int) (i40:Int)=>(.seq (.seq (.no) (.cond (.no) (.no))) (.seq (.blk (.seq (.reg [(8,.call 118 (S118 (freeOf (n.Qa.getD (path.getD i40.toNat default).toNat default)) (n.Qa.getD (path.getD i40.toNat default).toNat default)) (oa118 (n.Qa.getD (path.getD i40.toNat default).toNat default)) none)]) (.seq (.seq (.no) (.cond (.seq (.reg [(0,.dat (.l 1 eInt ([]:List Int)))]) (.no)) (.no))) (.reg [(3,.dat (.l 1 eInt (out++[(freeOf (n.Qa.getD (path.getD i40.toNat default).toNat default))])))])))) (.reg [(1,.bnd)])))) i.2.1 i.2.2)))) (.seq (.no) (.no))))) Try.func77 (fun (hp:PathOk n path∧path.length≤8)=>(fun (hpre0:PathOk n path) (hpre1:path.length≤8)=>fun (_:path.length≤9223372036854775807)=>ai ((BuildOK.mk eInt ([]:List Int) rfl (by exact trivial) (fun _=>rfl):BuildOK 0 1 [] (.l 1 eInt ([]:List Int)))) (fun (_:path.length≤9223372036854775807)=>fun (_:n.Qb.length≤9223372036854775807)=>fun (_:n.Qa.length≤9223372036854775807)=>fun (_:([]:List Int).length≤9223372036854775807)=>ai (ai (rfl) (ai (ir) (ai (ir) (ai (ir) (ai (ir) ((ai (rfl:runL (F77_s0 n path) (((path.length:Int)-0).toNat+1) (([]:List Int),0)=(runL (F77_s0 n path) (((path.length:Int)-0).toNat+1) (([]:List Int),0))) (ai ((Nat.lt_succ_self _:Int.toNat ((path.length:Int)-0)<(((path.length:Int)-0).toNat+1))) (ai ((by first | omega | (simp only [lens] at*<;> omega) | (exact LabI.zero _ _) | (exact LabI.next (by assumption) (by assumption) (by assumption)) | (exact fun hi=>PathOk.in_ (by assumption) (by omega) hi):LabI n path 0 ([]:List Int))) (ai ((by first | omega | (simp only [lens] at*<;> omega) | (exact LabI.zero _ _) | (exact LabI.next (by assumption) (by assumption) (by assumption)) | (exact fun hi=>PathOk.in_ (by assumption) (by omega) hi):(([]:List Int).length:Int)=0)) (ai ((by first | omega | (simp only [lens] at*<;> omega) | (exact LabI.zero _ _) | (exact LabI.next (by assumption) (by assumption) (by assumption)) | (exact fun hi=>PathOk.in_ (by assumption) (by omega) hi):0≤(path.length:Int))) (ai ((by first | omega | (simp only [lens] at*<;> omega) | (exact LabI.zero _ _) | (exact LabI.next (by assumption) (by assumption) (by assumption)) | (exact fun hi=>PathOk.in_ (by assumption) (by omega) hi):0<(path.length:Int)→0≤path.getD (Int.toNat 0) default∧path.getD (Int.toNat 0) default<(n.Qa.length:Int))) ((by first | omega | (simp only [lens] at*<;> omega) | (exact LabI.zero _ _) | (exact LabI.next (by assumption) (by assumption) (by assumption)) | (exact fun hi=>PathOk.in_ (by assumption) (by omega) hi):(0:Int)≤0))))))))))))):((.int .i64 0:Value)=.int .i64 0)∧(Imp (.l 1 eInt path) (.l 1 eInt path))∧(Imp (.l 2 Qf n.Qb) (.l 2 Qf n.Qb))∧(Imp (.l 2 Qg n.Qa) (.l 2 Qg n.Qa))∧(Imp (.l 1 eInt ([]:List Int)) (.l 1 eInt ([]:List Int)))∧(runL (F77_s0 n path) (((path.length:Int)-0).toNat+1) (([]:List Int),0)=(runL (F77_s0 n path) (((path.length:Int)-0).toNat+1) (([]:List Int),0))∧Int.toNat ((path.length:Int)-0)<(((path.length:Int)-0).toNat+1)∧LabI n path 0 ([]:List Int)∧(([]:List Int).length:Int)=0∧0≤(path.length:Int)∧(0<(path.length:Int)→0≤path.getD (Int.toNat 0) default∧path.getD (Int.toNat 0) default<(n.Qa.length:Int))∧(0:Int)≤0)) (fun (i0:Nat×(List Int×Int)) (hi0:runL (F77_s0 n path) i0.1 i0.2=(runL (F77_s0 n path) (((path.length:Int)-0).toNat+1) (([]:List Int),0))∧(fun (out:List Int) (i40:Int)=>(Int.toNat ((path.length:Int)-i40)<i0.1∧LabI n path i40 out∧(out.length:Int)=i40∧i40≤(path.length:Int)∧(i40<(path.length:Int)→0≤path.getD i40.toNat default∧path.getD i40.toNat default<(n.Qa.length:Int))∧(0:Int)≤i40)) i0.2.1 i0.2.2)=>(fun (m0:Nat) (out:List Int) (i40:Int) (hI0:runL (F77_s0 n path) (m0+1) (out,i40)=(runL (F77_s0 n path) (((path.length:Int)-0).toNat+1) (([]:List Int),0))) (_:Int.toNat ((path.length:Int)-i40)<m0+1) (hl0:m0<i0.1) (_:LabI n path i40 out) (_:(out.length:Int)=i40) (_:i40≤(path.length:Int)) (_:i40<(path.length:Int)→0≤path.getD i40.toNat default∧path.getD i40.toNat default<(n.Qa.length:Int)) (_:(0:Int)≤i40)=>ai (fun h2:(decide (i40<(path.length:Int)))=true=>(fun _:i40<(path.length:Int)=>ai ((by first | omega | (simp only [lens] at*<;> omega):0≤i40∧i40<(path.length:Int))) (ai ((by first | omega | (simp only [lens] at*<;> omega):0≤(path.getD i40.toNat default)∧(path.getD i40.toNat default)<(n.Qa.length:Int))) (ai (trivial) (ai ((Imps.refl (Qg (n.Qa.getD (path.getD i40.toNat default).toNat default)))) (ai (fun h3:((freeOf (n.Qa.getD (path.getD i40.toNat default).toNat default))==0)=true=>(fun _:(freeOf (n.Qa.getD (path.getD i40.toNat default).toNat default))=0=>ai ((BuildOK.mk eInt ([]:List Int) rfl (by exact trivial) (fun _=>rfl):BuildOK 0 1 [] (.l 1 eInt ([]:List Int)))) ((fun hF:(([]:List Int):List Int)=(F77 n path)=>ai (Imp.of_eq (congrArg (fun r:List Int=>Dat.l 1 eInt r) hF)) (trivial)) (finR (runL_ret hI0 (condT h2 (condT h3 (rfl)))) rfl))) (eq_of_beq h3)) (fun h3:((freeOf (n.Qa.getD (path.getD i40.toNat default).toNat default))==0)=false=>(fun _:¬ (freeOf (n.Qa.getD (path.getD i40.toNat default).toNat default))=0=>ai ((AppA.mk eInt out [(freeOf (n.Qa.getD (path.getD i40.toNat default).toNat default))] (Imp.refl (.l 1 eInt out)) rfl (by exact ai ir (trivial)) (fun _=>rfl):AppA (.l 1 eInt out) 1 1 [.v (vI (freeOf (n.Qa.getD (path.getD i40.toNat default).toNat default)))] (.l 1 eInt (out++[(freeOf (n.Qa.getD (path.getD i40.toNat default).toNat default))])))) (ai ((by (try simp only [lens]); omega:((out++[(freeOf (n.Qa.getD (path.getD i40.toNat default).toNat default))])).length*8≤140737488355328)) (ai ((by unfold i64ok; first | omega | (simp only [lens] at*<;> omega):i64ok (i40+1))) (Exists.intro (p:=fun j:Nat×(List Int×Int)=>(fun (out_:List Int) (i40_:Int)=>(((.int .i64 (i40+1):Value)=.int .i64 i40_)∧(Imp (.l 1 eInt path) (.l 1 eInt path))∧(Imp (.l 2 Qf n.Qb) (.l 2 Qf n.Qb))∧(Imp (.l 2 Qg n.Qa) (.l 2 Qg n.Qa))∧(Imp (.l 1 eInt (out++[(freeOf (n.Qa.getD (path.getD i40.toNat default).toNat default))])) (.l 1 eInt out_))∧((runL (F77_s0 n path) j.1 j.2=(runL (F77_s0 n path) (((path.length:Int)-0).toNat+1) (([]:List Int),0))∧Int.toNat ((path.length:Int)-i40_)<j.1∧LabI n path i40_ out_∧(out_.length:Int)=i40_∧i40_≤(path.length:Int)∧(i40_<(path.length:Int)→0≤path.getD i40_.toNat default∧path.getD i40_.toNat default<(n.Qa.length:Int))∧(0:Int)≤i40_)∧j.1<i0.1))) j.2.1 j.2.2) (m0,((out++[(freeOf (n.Qa.getD (path.getD i40.toNat default).toNat default))]),(i40+1))) (ai (rfl) (ai (ir) (ai (ir) (ai (ir) (ai (ir) (ai (ai (runL_next hI0 (condT h2 (condF h3 (rfl)))) (ai ((by first | omega | (simp only [lens] at*<;> omega) | (exact LabI.zero _ _) | (exact LabI.next (by assumption) (by assumption) (by assumption)) | (exact fun hi=>PathOk.in_ (by assumption) (by omega) hi):Int.toNat ((path.length:Int)-(i40+1))<m0)) (ai ((by first | omega | (simp only [lens] at*<;> omega) | (exact LabI.zero _ _) | (exact LabI.next (by assumption) (by assumption) (by assumption)) | (exact fun hi=>PathOk.in_ (by assumption) (by omega) hi):LabI n path (i40+1) (out++[(freeOf (n.Qa.getD (path.getD i40.toNat default).toNat default))]))) (ai ((by first | omega | (simp only [lens] at*<;> omega) | (exact LabI.zero _ _) | (exact LabI.next (by assumption) (by assumption) (by assumption)) | (exact fun hi=>PathOk.in_ (by assumption) (by omega) hi):((out++[(freeOf (n.Qa.getD (path.getD i40.toNat default).toNat default))]).length:Int)=(i40+1))) (ai ((by first | omega | (simp only [lens] at*<;> omega) | (exact LabI.zero _ _) | (exact LabI.next (by assumption) (by assumption) (by assumption)) | (exact fun hi=>PathOk.in_ (by assumption) (by omega) hi):(i40+1)≤(path.length:Int))) (ai ((by first | omega | (simp only [lens] at*<;> omega) | (exact LabI.zero _ _) | (exact LabI.next (by assumption) (by assumption) (by assumption)) | (exact fun hi=>PathOk.in_ (by assumption) (by omega) hi):(i40+1)<(path.length:Int)→0≤path.getD (i40+1).toNat default∧path.getD (i40+1).toNat default<(n.Qa.length:Int))) ((by first | omega | (simp only [lens] at*<;> omega) | (exact LabI.zero _ _) | (exact LabI.next (by assumption) (by assumption) (by assumption)) | (exact fun hi=>PathOk.in_ (by assumption) (by omega) hi):(0:Int)≤(i40+1))))))))) hl0)))))))))) (beqF h3))))))) (of_decide_eq_true h2)) (fun h2:(decide (i40<(path.length:Int)))=false=>(fun _:¬ i40<(path.length:Int)=>(fun hD0_4:(runL (F77_s0 n path) (((path.length:Int)-0).toNat+1) (([]:List Int),0))=Lp.done (out,i40)=>(fun hF:(out:List Int)=(F77 n path)=>ai (Imp.of_eq (congrArg (fun r:List Int=>Dat.l 1 eInt r) hF)) (trivial)) (finD hD0_4 (rfl))) (runL_done hI0 (condF h2 (rfl)))) (of_decide_eq_false h2))) (i0.1-1) i0.2.1 i0.2.2 (hd1 hi0.1 hi0.2.1) (hd2 hi0.2.1) (hd3 hi0.2.1) hi0.2.2.1 hi0.2.2.2.1 hi0.2.2.2.2.1 hi0.2.2.2.2.2.1 hi0.2.2.2.2.2.2))) hp.1 hp.2) (by kernel_rfl)
def F78_j2 (n:Qd) (path:List Int) (labels:List Int) (i40:Int) (xs:List Qj):Lp (Int×Int) Qd :=
 bif (decide ((i40+1)<(path.length:Int))) then (.done ((path.getD (i40+1).toNat default),(labels.getD (i40+1).toNat default))) else (.done ((-1),0))
def F78_s0 (n:Qd) (path:List Int) (labels:List Int):(Int×List Qj)→Lp (Int×List Qj) Qd:=fun (i40,xs) =>
 bif (decide (i40<(path.length:Int))) then ((F78_j2 n path labels i40 xs).fin Lp.ret (fun (r1,r2)=>.next ((i40+1),(xs.set ((path.getD i40.toNat default)).toNat (⟨(putK (fun x:Qq=>x.In) ((xs.getD (path.getD i40.toNat default).toNat default).Rows) (⟨(labels.getD i40.toNat default),r1,r2⟩:Qq)),(xs.getD (path.getD i40.toNat default).toNat default).Qi⟩:Qj))))) else (.done (i40,xs))
def F78 (n:Qd) (path:List Int) (labels:List Int):Qd :=
 (runL (F78_s0 n path labels) (((path.length:Int)-0).toNat+1) (0,n.Qa)).fin (fun r=>r) (fun (i40,xs)=>(⟨n.Qb,xs⟩:Qd))
def S78 (R:Qd) (n:Qd) (path:List Int) (labels:List Int):Spec:=⟨[.ot (Qr n),.r (.c (.l 1 eInt path)),.r (.c (.l 1 eInt labels))],.ag [.ow (.l 2 Qf R.Qb),.ow (.l 2 Qg R.Qa)],LayP n path labels∧labels.length=path.length⟩
theorem ok78 (n:Qd) (path:List Int) (labels:List Int):(S78 (F78 n path labels) n path labels).ok Try.prog 78 :=
 fnG_ok mixed (fn:=Try.f78) (ct:=.seqk [(1,0),(2,0)] (.no) (.seq (.seqk [(1,0),(2,0),(3,0),(3,1)] (.no) (.blk (.loop (ι:=Nat×(Int×List Qj)) (fun i=>(fun (i40:Int) (xs:List Qj)=>(⟨[(1,some (.h 0 0)),(2,some (.h 1 0)),(3,some (.p 2 0)),(6,some (.p 5 0)),(7,some (.v (vI i40)))],[(0,some (.shr none (.l 1 eInt path))),(1,some (.shr none (.l 1 eInt labels))),(2,some (.box 26 [.h 3 0,.h 4 0])),(3,some (.own 3 (.l 2 Qf n.Qb))),(4,some (.own 4 (.l 2 Qg xs))),(5,some (.box 26 [.v (.slice none 0 0),.v (.slice none 0 0)]))],6⟩:St)) i.2.1 i.2.2) (fun i=>runL (F78_s0 n path labels) i.1 i.2=(runL (F78_s0 n path labels) (((path.length:Int)-0).toNat+1) (0,n.Qa))∧(fun (i40:Int) (xs:List Qj)=>(Int.toNat ((path.length:Int)-i40)<i.1∧LayS n path labels i40 xs∧(i40<(path.length:Int)→0≤path.getD i40.toNat default∧path.getD i40.toNat default<(xs.length:Int)∧(xs.getD (path.getD i40.toNat default).toNat default).Rows.length≤60)∧(0:Int)≤i40∧xs.length=n.Qa.length)) i.2.1 i.2.2) (fun i=>i.1) ((((path.length:Int)-0).toNat+1),(0,n.Qa)) (fun i=>(fun (i40:Int) (xs:List Qj)=>(.seq (.seq (.no) (.cond (.no) (.no))) (.seq (.blk (.seq (.no) (.cut (ι:=Int×Int) (fun j=>(fun (r1:Int) (r2:Int)=>(⟨[(1,some (.h 0 0)),(2,some (.h 1 0)),(3,some (.p 2 0)),(6,some (.p 5 0)),(7,some (.v (vI i40))),(8,some (.p 6 0))],[(0,some (.shr none (.l 1 eInt path))),(1,some (.shr none (.l 1 eInt labels))),(2,some (.box 26 [.h 3 0,.h 4 0])),(3,some (.own 3 (.l 2 Qf n.Qb))),(4,some (.own 4 (.l 2 Qg xs))),(5,some (.box 26 [.v (.slice none 0 0),.v (.slice none 0 0)])),(6,some (.box 68 [.v (vI (labels.getD i40.toNat default)),.v (vI r1),.v (vI r2)]))],7⟩:St)) j.1 j.2) (fun j=>(fun (r1:Int) (r2:Int)=>((F78_j2 n path labels i40 xs)=Lp.done j∧(⟨labels.getD i40.toNat default,r1,r2⟩:Qq)=rowAt path labels i40.toNat)) j.1 j.2) (.seq (.reg [(1,.bnd)]) (.cond (.seq (.reg [(2,.bnd)]) (.reg [(2,.bnd)])) (.no))) (fun j=>(fun (r1:Int) (r2:Int)=>(.reg [(16,.call 89 (T89 (putK (fun x:Qq=>x.In) ((xs.getD (path.getD i40.toNat default).toNat default).Rows) (⟨(labels.getD i40.toNat default),r1,r2⟩:Qq)) ((xs.getD (path.getD i40.toNat default).toNat default).Rows) (⟨(labels.getD i40.toNat default),r1,r2⟩:Qq)) (oa89 ((xs.getD (path.getD i40.toNat default).toNat default).Rows) (⟨(labels.getD i40.toNat default),r1,r2⟩:Qq)) none),(19,.dat (.l 2 Qg (xs.set ((path.getD i40.toNat default)).toNat (⟨(putK (fun x:Qq=>x.In) ((xs.getD (path.getD i40.toNat default).toNat default).Rows) (⟨(labels.getD i40.toNat default),r1,r2⟩:Qq)),(xs.getD (path.getD i40.toNat default).toNat default).Qi⟩:Qj))))])) j.1 j.2)))) (.reg [(1,.bnd)])))) i.2.1 i.2.2)))) (.seq (.no) (.no)))) Try.func78 (fun (hp:LayP n path labels∧labels.length=path.length)=>(fun (hpre0:LayP n path labels) (hpre1:labels.length=path.length)=>fun (_:path.length≤9223372036854775807)=>fun (_:labels.length≤9223372036854775807)=>fun (_:path.length≤9223372036854775807)=>fun (_:labels.length≤9223372036854775807)=>fun (_:n.Qb.length≤9223372036854775807)=>fun (_:n.Qa.length≤9223372036854775807)=>ai (ai (rfl) (ai (ir) (ai (ir) (ai (ir) (ai (ir) (ai (rfl) (ai (rfl) ((ai (rfl:runL (F78_s0 n path labels) (((path.length:Int)-0).toNat+1) (0,n.Qa)=(runL (F78_s0 n path labels) (((path.length:Int)-0).toNat+1) (0,n.Qa))) (ai ((Nat.lt_succ_self _:Int.toNat ((path.length:Int)-0)<(((path.length:Int)-0).toNat+1))) (ai ((by first | omega | (simp only [lens] at*<;> omega) | (exact LayS.zero (by assumption)) | (exact LayS.next (by assumption) (by assumption) (by assumption)) | (exact fun hi=>LayS.in_ (by first | assumption | exact LayS.zero (by assumption) | exact LayS.next (by assumption) (by assumption) (by assumption)) hi):LayS n path labels 0 n.Qa)) (ai ((by first | omega | (simp only [lens] at*<;> omega) | (exact LayS.zero (by assumption)) | (exact LayS.next (by assumption) (by assumption) (by assumption)) | (exact fun hi=>LayS.in_ (by first | assumption | exact LayS.zero (by assumption) | exact LayS.next (by assumption) (by assumption) (by assumption)) hi):0<(path.length:Int)→0≤path.getD (Int.toNat 0) default∧path.getD (Int.toNat 0) default<(n.Qa.length:Int)∧(n.Qa.getD (path.getD (Int.toNat 0) default).toNat default).Rows.length≤60)) (ai ((by first | omega | (simp only [lens] at*<;> omega) | (exact LayS.zero (by assumption)) | (exact LayS.next (by assumption) (by assumption) (by assumption)) | (exact fun hi=>LayS.in_ (by first | assumption | exact LayS.zero (by assumption) | exact LayS.next (by assumption) (by assumption) (by assumption)) hi):(0:Int)≤0)) ((by first | omega | (simp only [lens] at*<;> omega) | (exact LayS.zero (by assumption)) | (exact LayS.next (by assumption) (by assumption) (by assumption)) | (exact fun hi=>LayS.in_ (by first | assumption | exact LayS.zero (by assumption) | exact LayS.next (by assumption) (by assumption) (by assumption)) hi):n.Qa.length=n.Qa.length)))))))))))))):((.int .i64 0:Value)=.int .i64 0)∧(Imp (.l 1 eInt path) (.l 1 eInt path))∧(Imp (.l 1 eInt labels) (.l 1 eInt labels))∧(Imp (.l 2 Qf n.Qb) (.l 2 Qf n.Qb))∧(Imp (.l 2 Qg n.Qa) (.l 2 Qg n.Qa))∧((.slice none 0 0:Value)=.slice none 0 0)∧((.slice none 0 0:Value)=.slice none 0 0)∧(runL (F78_s0 n path labels) (((path.length:Int)-0).toNat+1) (0,n.Qa)=(runL (F78_s0 n path labels) (((path.length:Int)-0).toNat+1) (0,n.Qa))∧Int.toNat ((path.length:Int)-0)<(((path.length:Int)-0).toNat+1)∧LayS n path labels 0 n.Qa∧(0<(path.length:Int)→0≤path.getD (Int.toNat 0) default∧path.getD (Int.toNat 0) default<(n.Qa.length:Int)∧(n.Qa.getD (path.getD (Int.toNat 0) default).toNat default).Rows.length≤60)∧(0:Int)≤0∧n.Qa.length=n.Qa.length)) (fun (i0:Nat×(Int×List Qj)) (hi0:runL (F78_s0 n path labels) i0.1 i0.2=(runL (F78_s0 n path labels) (((path.length:Int)-0).toNat+1) (0,n.Qa))∧(fun (i40:Int) (xs:List Qj)=>(Int.toNat ((path.length:Int)-i40)<i0.1∧LayS n path labels i40 xs∧(i40<(path.length:Int)→0≤path.getD i40.toNat default∧path.getD i40.toNat default<(xs.length:Int)∧(xs.getD (path.getD i40.toNat default).toNat default).Rows.length≤60)∧(0:Int)≤i40∧xs.length=n.Qa.length)) i0.2.1 i0.2.2)=>(fun (m0:Nat) (i40:Int) (xs:List Qj) (hI0:runL (F78_s0 n path labels) (m0+1) (i40,xs)=(runL (F78_s0 n path labels) (((path.length:Int)-0).toNat+1) (0,n.Qa))) (_:Int.toNat ((path.length:Int)-i40)<m0+1) (hl0:m0<i0.1) (_:LayS n path labels i40 xs) (_:i40<(path.length:Int)→0≤path.getD i40.toNat default∧path.getD i40.toNat default<(xs.length:Int)∧(xs.getD (path.getD i40.toNat default).toNat default).Rows.length≤60) (_:(0:Int)≤i40) (_:xs.length=n.Qa.length)=>ai (fun h2:(decide (i40<(path.length:Int)))=true=>(fun _:i40<(path.length:Int)=>ai ((by first | omega | (simp only [lens] at*<;> omega):0≤i40∧i40<(labels.length:Int))) (ai (ai ((by unfold i64ok; first | omega | (simp only [lens] at*<;> omega):i64ok (i40+1))) (ai (fun h3:(decide ((i40+1)<(path.length:Int)))=true=>(fun _:(i40+1)<(path.length:Int)=>ai ((by unfold i64ok; first | omega | (simp only [lens] at*<;> omega):i64ok (i40+1))) (ai ((by first | omega | (simp only [lens] at*<;> omega):0≤(i40+1)∧(i40+1)<(path.length:Int))) (ai ((by unfold i64ok; first | omega | (simp only [lens] at*<;> omega):i64ok (i40+1))) (ai ((by first | omega | (simp only [lens] at*<;> omega):0≤(i40+1)∧(i40+1)<(labels.length:Int))) (Exists.intro (p:=fun j:Int×Int=>(fun (r1_:Int) (r2_:Int)=>(((.int .i64 i40:Value)=.int .i64 i40)∧(Imp (.l 1 eInt path) (.l 1 eInt path))∧(Imp (.l 1 eInt labels) (.l 1 eInt labels))∧(Imp (.l 2 Qf n.Qb) (.l 2 Qf n.Qb))∧(Imp (.l 2 Qg xs) (.l 2 Qg xs))∧((.slice none 0 0:Value)=.slice none 0 0)∧((.slice none 0 0:Value)=.slice none 0 0)∧((.int .i64 (labels.getD i40.toNat default):Value)=.int .i64 (labels.getD i40.toNat default))∧((.int .i64 (path.getD (i40+1).toNat default):Value)=.int .i64 r1_)∧((.int .i64 (labels.getD (i40+1).toNat default):Value)=.int .i64 r2_)∧(F78_j2 n path labels i40 xs)=Lp.done j∧(⟨labels.getD i40.toNat default,r1_,r2_⟩:Qq)=rowAt path labels i40.toNat)) j.1 j.2) (((path.getD (i40+1).toNat default),(labels.getD (i40+1).toNat default))) (ai (rfl) (ai (ir) (ai (ir) (ai (ir) (ai (ir) (ai (rfl) (ai (rfl) (ai (rfl) (ai (rfl) (ai (rfl) (ai (Eq.symm (condT h3 (rfl))) ((by first | omega | (simp only [lens] at*<;> omega) | exact rowAt_T (by assumption) (by assumption) | exact rowAt_F (by assumption) (by assumption):(⟨labels.getD i40.toNat default,(path.getD (i40+1).toNat default),(labels.getD (i40+1).toNat default)⟩:Qq)=rowAt path labels i40.toNat)))))))))))))))))) (of_decide_eq_true h3)) (fun h3:(decide ((i40+1)<(path.length:Int)))=false=>(fun _:¬ (i40+1)<(path.length:Int)=>Exists.intro (p:=fun j:Int×Int=>(fun (r1_:Int) (r2_:Int)=>(((.int .i64 i40:Value)=.int .i64 i40)∧(Imp (.l 1 eInt path) (.l 1 eInt path))∧(Imp (.l 1 eInt labels) (.l 1 eInt labels))∧(Imp (.l 2 Qf n.Qb) (.l 2 Qf n.Qb))∧(Imp (.l 2 Qg xs) (.l 2 Qg xs))∧((.slice none 0 0:Value)=.slice none 0 0)∧((.slice none 0 0:Value)=.slice none 0 0)∧((.int .i64 (labels.getD i40.toNat default):Value)=.int .i64 (labels.getD i40.toNat default))∧((.int .i64 (-1):Value)=.int .i64 r1_)∧((.int .i64 0:Value)=.int .i64 r2_)∧(F78_j2 n path labels i40 xs)=Lp.done j∧(⟨labels.getD i40.toNat default,r1_,r2_⟩:Qq)=rowAt path labels i40.toNat)) j.1 j.2) (((-1),0)) (ai (rfl) (ai (ir) (ai (ir) (ai (ir) (ai (ir) (ai (rfl) (ai (rfl) (ai (rfl) (ai (rfl) (ai (rfl) (ai (Eq.symm (condF h3 (rfl))) ((by first | omega | (simp only [lens] at*<;> omega) | exact rowAt_T (by assumption) (by assumption) | exact rowAt_F (by assumption) (by assumption):(⟨labels.getD i40.toNat default,(-1),0⟩:Qq)=rowAt path labels i40.toNat)))))))))))))) (of_decide_eq_false h3)))) (fun (j:Int×Int) (hj:(fun (r1:Int) (r2:Int)=>((F78_j2 n path labels i40 xs)=Lp.done j∧(⟨labels.getD i40.toNat default,r1,r2⟩:Qq)=rowAt path labels i40.toNat)) j.1 j.2)=>(fun (r1:Int) (r2:Int) (hJ2_4:(F78_j2 n path labels i40 xs)=Lp.done (r1,r2)) (_:(⟨labels.getD i40.toNat default,r1,r2⟩:Qq)=rowAt path labels i40.toNat)=>ai ((by first | omega | (simp only [lens] at*<;> omega):0≤i40∧i40<(path.length:Int))) (ai ((by first | omega | (simp only [lens] at*<;> omega):0≤i40∧i40<(path.length:Int))) (ai ((by first | omega | (simp only [lens] at*<;> omega):0≤(path.getD i40.toNat default)∧(path.getD i40.toNat default)<(xs.length:Int))) (ai (((by first | omega | (simp only [lens] at*<;> omega):((xs.getD (path.getD i40.toNat default).toNat default).Rows).length≤1000000000))) (ai ((Imp.refl (.l 3 Qt ((xs.getD (path.getD i40.toNat default).toNat default).Rows)))) (ai ((Imps.refl (Qt (⟨(labels.getD i40.toNat default),r1,r2⟩:Qq)))) (ai ((by first | omega | (simp only [lens] at*<;> omega):0≤(path.getD i40.toNat default)∧(path.getD i40.toNat default)<(xs.length:Int))) (ai ((SetOK.mk Qg xs (⟨(putK (fun x:Qq=>x.In) ((xs.getD (path.getD i40.toNat default).toNat default).Rows) (⟨(labels.getD i40.toNat default),r1,r2⟩:Qq)),(xs.getD (path.getD i40.toNat default).toNat default).Qi⟩:Qj) rfl (by exact ai ir (ai ir (trivial))):SetOK (.l 2 Qg xs) ((path.getD i40.toNat default)).toNat (Qg (xs.getD (path.getD i40.toNat default).toNat default)) [.l 3 Qt (putK (fun x:Qq=>x.In) ((xs.getD (path.getD i40.toNat default).toNat default).Rows) (⟨(labels.getD i40.toNat default),r1,r2⟩:Qq)),.l 3 Qu ((xs.getD (path.getD i40.toNat default).toNat default).Qi)] (.l 2 Qg (xs.set ((path.getD i40.toNat default)).toNat (⟨(putK (fun x:Qq=>x.In) ((xs.getD (path.getD i40.toNat default).toNat default).Rows) (⟨(labels.getD i40.toNat default),r1,r2⟩:Qq)),(xs.getD (path.getD i40.toNat default).toNat default).Qi⟩:Qj))))) (ai ((by unfold i64ok; first | omega | (simp only [lens] at*<;> omega):i64ok (i40+1))) (Exists.intro (p:=fun j:Nat×(Int×List Qj)=>(fun (i40_:Int) (xs_:List Qj)=>(((.int .i64 (i40+1):Value)=.int .i64 i40_)∧(Imp (.l 1 eInt path) (.l 1 eInt path))∧(Imp (.l 1 eInt labels) (.l 1 eInt labels))∧(Imp (.l 2 Qf n.Qb) (.l 2 Qf n.Qb))∧(Imp (.l 2 Qg (xs.set ((path.getD i40.toNat default)).toNat (⟨(putK (fun x:Qq=>x.In) ((xs.getD (path.getD i40.toNat default).toNat default).Rows) (⟨(labels.getD i40.toNat default),r1,r2⟩:Qq)),(xs.getD (path.getD i40.toNat default).toNat default).Qi⟩:Qj))) (.l 2 Qg xs_))∧((.slice none 0 0:Value)=.slice none 0 0)∧((.slice none 0 0:Value)=.slice none 0 0)∧((runL (F78_s0 n path labels) j.1 j.2=(runL (F78_s0 n path labels) (((path.length:Int)-0).toNat+1) (0,n.Qa))∧Int.toNat ((path.length:Int)-i40_)<j.1∧LayS n path labels i40_ xs_∧(i40_<(path.length:Int)→0≤path.getD i40_.toNat default∧path.getD i40_.toNat default<(xs_.length:Int)∧(xs_.getD (path.getD i40_.toNat default).toNat default).Rows.length≤60)∧(0:Int)≤i40_∧xs_.length=n.Qa.length)∧j.1<i0.1))) j.2.1 j.2.2) (m0,((i40+1),(xs.set ((path.getD i40.toNat default)).toNat (⟨(putK (fun x:Qq=>x.In) ((xs.getD (path.getD i40.toNat default).toNat default).Rows) (⟨(labels.getD i40.toNat default),r1,r2⟩:Qq)),(xs.getD (path.getD i40.toNat default).toNat default).Qi⟩:Qj)))) (ai (rfl) (ai (ir) (ai (ir) (ai (ir) (ai (ir) (ai (rfl) (ai (rfl) (ai (ai (runL_next hI0 (condT h2 (finD hJ2_4 (rfl)))) (ai ((by first | omega | (simp only [lens] at*<;> omega) | (exact LayS.zero (by assumption)) | (exact LayS.next (by assumption) (by assumption) (by assumption)) | (exact fun hi=>LayS.in_ (by first | assumption | exact LayS.zero (by assumption) | exact LayS.next (by assumption) (by assumption) (by assumption)) hi):Int.toNat ((path.length:Int)-(i40+1))<m0)) (ai ((by first | omega | (simp only [lens] at*<;> omega) | (exact LayS.zero (by assumption)) | (exact LayS.next (by assumption) (by assumption) (by assumption)) | (exact fun hi=>LayS.in_ (by first | assumption | exact LayS.zero (by assumption) | exact LayS.next (by assumption) (by assumption) (by assumption)) hi):LayS n path labels (i40+1) (xs.set ((path.getD i40.toNat default)).toNat (⟨(putK (fun x:Qq=>x.In) ((xs.getD (path.getD i40.toNat default).toNat default).Rows) (⟨(labels.getD i40.toNat default),r1,r2⟩:Qq)),(xs.getD (path.getD i40.toNat default).toNat default).Qi⟩:Qj)))) (ai ((by first | omega | (simp only [lens] at*<;> omega) | (exact LayS.zero (by assumption)) | (exact LayS.next (by assumption) (by assumption) (by assumption)) | (exact fun hi=>LayS.in_ (by first | assumption | exact LayS.zero (by assumption) | exact LayS.next (by assumption) (by assumption) (by assumption)) hi):(i40+1)<(path.length:Int)→0≤path.getD (i40+1).toNat default∧path.getD (i40+1).toNat default<((xs.set ((path.getD i40.toNat default)).toNat (⟨(putK (fun x:Qq=>x.In) ((xs.getD (path.getD i40.toNat default).toNat default).Rows) (⟨(labels.getD i40.toNat default),r1,r2⟩:Qq)),(xs.getD (path.getD i40.toNat default).toNat default).Qi⟩:Qj)).length:Int)∧((xs.set ((path.getD i40.toNat default)).toNat (⟨(putK (fun x:Qq=>x.In) ((xs.getD (path.getD i40.toNat default).toNat default).Rows) (⟨(labels.getD i40.toNat default),r1,r2⟩:Qq)),(xs.getD (path.getD i40.toNat default).toNat default).Qi⟩:Qj)).getD (path.getD (i40+1).toNat default).toNat default).Rows.length≤60)) (ai ((by first | omega | (simp only [lens] at*<;> omega) | (exact LayS.zero (by assumption)) | (exact LayS.next (by assumption) (by assumption) (by assumption)) | (exact fun hi=>LayS.in_ (by first | assumption | exact LayS.zero (by assumption) | exact LayS.next (by assumption) (by assumption) (by assumption)) hi):(0:Int)≤(i40+1))) ((by first | omega | (simp only [lens] at*<;> omega) | (exact LayS.zero (by assumption)) | (exact LayS.next (by assumption) (by assumption) (by assumption)) | (exact fun hi=>LayS.in_ (by first | assumption | exact LayS.zero (by assumption) | exact LayS.next (by assumption) (by assumption) (by assumption)) hi):(xs.set ((path.getD i40.toNat default)).toNat (⟨(putK (fun x:Qq=>x.In) ((xs.getD (path.getD i40.toNat default).toNat default).Rows) (⟨(labels.getD i40.toNat default),r1,r2⟩:Qq)),(xs.getD (path.getD i40.toNat default).toNat default).Qi⟩:Qj)).length=n.Qa.length))))))) hl0)))))))))))))))))) j.1 j.2 hj.1 hj.2))) (of_decide_eq_true h2)) (fun h2:(decide (i40<(path.length:Int)))=false=>(fun _:¬ i40<(path.length:Int)=>(fun hD0_5:(runL (F78_s0 n path labels) (((path.length:Int)-0).toNat+1) (0,n.Qa))=Lp.done (i40,xs)=>(fun hF:((⟨n.Qb,xs⟩:Qd):Qd)=(F78 n path labels)=>ai (Imp.of_eq (congrArg (fun r:Qd=>Dat.l 2 Qf r.Qb) hF)) (ai (Imp.of_eq (congrArg (fun r:Qd=>Dat.l 2 Qg r.Qa) hF)) (trivial))) (finD hD0_5 (rfl))) (runL_done hI0 (condF h2 (rfl)))) (of_decide_eq_false h2))) (i0.1-1) i0.2.1 i0.2.2 (hd1 hi0.1 hi0.2.1) (hd2 hi0.2.1) (hd3 hi0.2.1) hi0.2.2.1 hi0.2.2.2.1 hi0.2.2.2.2.1 hi0.2.2.2.2.2)) hp.1 hp.2) (by kernel_rfl)
def labsOf (n:Qd) (path:List Int):List Int:=path.map (freeOn n)
def labsB (n:Qd) (path:List Int):Bool:=(labsOf n path).all (fun x=>!decide (x=0))
def labsR (n:Qd) (path:List Int):List Int:=bif labsB n path then labsOf n path else []
theorem labs_loop {ρ:Type} (n:Qd) (path:List Int) (r0:ρ) (step:List Int×Int→Lp (List Int×Int) ρ)
  (hs:∀ (k:Nat) xs,k<path.length→step (xs,(k:Int))=bif (freeOn n (path.getD k default)==0) then .ret r0 else .next (xs++[freeOn n (path.getD k default)],(k:Int)+1)) (he:∀ xs,step (xs,(path.length:Int))=.done (xs,(path.length:Int))) :
  runL step (((path.length:Int)-0).toNat+1) ([],0)=bif labsB n path then .done (labsOf n path,(path.length:Int)) else .ret r0:=by
 have h:=runL_rule (step:=step) (fun (k:Nat) (xs:List Int)=>(xs,(k:Int))) path.length (fun k xs=>xs=(path.take k).map (freeOn n)∧∀ x∈xs,x≠0) (fun r=>r=r0∧labsB n path=false)
  (fun k xs hk ⟨h1,h2⟩=>by
   rw [hs k xs hk,beqD]
   by_cases hz:freeOn n (path.getD k default)=0
   ·refine .inr ⟨r0,by rw [decide_eq_true hz]; rfl,rfl,?_⟩
    unfold labsB
    rw [List.all_eq_false]
    refine ⟨freeOn n (path.getD k default),List.mem_map_of_mem (getD_mem _ hk),by rw [hz]; decide⟩
   ·refine .inl ⟨_,by rw [decide_eq_false hz]; rfl,by rw [h1,take_next hk,List.map_append]; rfl,fun x hx=>?_⟩
    rcases List.mem_append.1 hx with hx | hx
    ·exact h2 x hx
    ·rw [List.mem_singleton.1 hx]; exact hz)
  (fun xs _=>he xs) path.length 0 [] (by omega) ⟨rfl,fun x hx=>by cases hx⟩ (path.length+1) (Nat.lt_succ_self _)
 rw [n0]
 rcases h with ⟨xs,h,h1,h2⟩ | ⟨r,h,rfl,h1⟩
 ·rw [List.take_length] at h1
  have hb:labsB n path=true:=by
   unfold labsB
   rw [List.all_eq_true]
   intro x hx
   have:x∈xs:=by rw [h1]; exact hx
   simpa using h2 x this
  rw [hb,cond_true]
  rw [h1] at h
  exact h
 ·rw [h1,cond_false]; exact h
theorem as77 (n:Qd) (path:List Int):F77 n path=labsR n path:=by
 unfold F77 labsR
 rw [labs_loop n path ([]:List Int) _ (fun k xs hk=>by simp only [F77_s0,ltD hk,cond_true,nn]; rfl) (fun xs=>by simp [F77_s0])]
 cases labsB n path <;> rfl
theorem LayP.of_labs {n:Qd} {path:List Int} (h:Qn n) (hp:PathOk n path) (hz:¬ ((labsR n path).length:Int)=0):LayP n path (labsR n path):=by
 unfold labsR at hz ⊢
 cases e:labsB n path with
 | false=>rw [e] at hz; exact absurd rfl hz
 | true =>
  refine ⟨h,hp,rfl,fun x hx=>?_⟩
  unfold labsB at e
  have:=List.all_eq_true.1 e x hx
  simpa using this
theorem lay_loop {ρ:Type} {n:Qd} {path labels:List Int} (hp:LayP n path labels) (step:Int×List Qj→Lp (Int×List Qj) ρ)
  (hs:∀ (k:Nat) xs,k<path.length→LayS n path labels (k:Int) xs→step ((k:Int),xs)=.next ((k:Int)+1,xs.set (path.getD k default).toNat ⟨putK (fun x:Qq=>x.In) (xs.getD (path.getD k default).toNat default).Rows (rowAt path labels k),(xs.getD (path.getD k default).toNat default).Qi⟩))
  (he:∀ xs,step ((path.length:Int),xs)=.done ((path.length:Int),xs)) :
  runL step (((path.length:Int)-0).toNat+1) (0,n.Qa)=.done ((path.length:Int),layTo n path labels path.length):=by
 have h:=runL_rule (step:=step) (fun (k:Nat) (xs:List Qj)=>((k:Int),xs)) path.length (fun k xs=>LayS n path labels (k:Int) xs) (fun _=>False)
  (fun k xs hk hI=>.inl ⟨_,hs k xs hk hI,by
   have:=hI.next (r:=rowAt path labels k) (by omega) (by rw [nn])
   rw [nn] at this
   exact this⟩)
  (fun xs _=>he xs) path.length 0 n.Qa (by omega) (LayS.zero hp) (path.length+1) (Nat.lt_succ_self _)
 rw [n0]
 rcases h with ⟨xs,h,h1⟩ | ⟨_,_,h⟩
 ·have:=h1.xs
  rw [nn] at this
  rw [← this]; exact h
 ·exact h.elim
theorem as78 (n:Qd) (path labels:List Int) (hp:LayP n path labels):F78 n path labels=(⟨n.Qb,layTo n path labels path.length⟩:Qd):=by
 unfold F78
 rw [lay_loop hp _ (fun k xs hk hI=>by
  simp only [F78_s0,ltD hk,cond_true,nn]
  unfold F78_j2 rowAt
  by_cases hx:(k:Int)+1<(path.length:Int)
  ·rw [decide_eq_true hx]; rfl
  ·rw [decide_eq_false hx]; rfl) (fun xs=>by simp [F78_s0])]
 rfl
def layR (n:Qd) (path:List Int):Int×Int×Qd :=
 bif pathB n path then (bif labsB n path then ((labsOf n path).getD 0 default,0,⟨n.Qb,layTo n path (labsOf n path) path.length⟩) else (0,3,n)) else (0,2,n)
theorem layP_of {n:Qd} {path:List Int} (h:Qn n) (hp:pathB n path=true) (hb:labsB n path=true):LayP n path (labsOf n path):=by
 refine ⟨h,pathB_ok.1 hp,rfl,fun x hx=>?_⟩
 have:=List.all_eq_true.1 hb x hx
 simpa using this
theorem layR_net {n:Qd} (h:Qn n) (path:List Int):Qn (layR n path).2.2:=by
 unfold layR
 cases hp:pathB n path
 ·exact h
 cases hb:labsB n path
 ·exact h
 exact (layP_of h hp hb).netTo _ (Nat.le_refl _)
theorem LayP.bound {n:Qd} {path labels:List Int} (h:LayP n path labels):(layTo n path labels path.length).length≤1000000000∧∀ k:Nat,((layTo n path labels path.length).getD k default).Rows.length≤1000000000∧((layTo n path labels path.length).getD k default).Qi.length≤1000000000:=by
 have hn:=h.netTo _ (Nat.le_refl _)
 have h8:=hn.frame.b8
 refine ⟨by have:(layTo n path labels path.length).length≤8:=h8; omega,fun k=>?_⟩
 have h1:=Qn.rows hn k
 have h2:=Qn.vias hn k
 exact ⟨by have:((layTo n path labels path.length).getD k default).Rows.length≤60:=h1; omega,by have:((layTo n path labels path.length).getD k default).Qi.length≤8:=h2; omega⟩
def T77 (R:List Int) (n:Qd) (path:List Int):Spec:=⟨(S77 R n path).args,(S77 R n path).res,PathOk n path∧path.length≤8⟩
theorem oa77 (n:Qd) (path:List Int):(T77 (labsR n path) n path).ok Try.prog 77:=by
 intro hp; have h:=ok77 n path hp; rw [as77 n path] at h; exact h
def T78 (R:Qd) (n:Qd) (path:List Int) (labels:List Int):Spec:=⟨(S78 R n path labels).args,(S78 R n path labels).res,LayP n path labels∧labels.length=path.length⟩
theorem oa78 (n:Qd) (path:List Int) (labels:List Int):(T78 ((⟨n.Qb,layTo n path labels path.length⟩:Qd)) n path labels).ok Try.prog 78:=by
 intro hp; have h:=ok78 n path labels hp; rw [as78 n path labels hp.1] at h; exact h
def F35 (n:Qd) (path:List Int):Qd×Int×Int :=
 bif (!(netB n)) then ((⟨[],[]⟩:Qd),0,1) else (bif (!(pathB n path)) then (n,0,2) else (bif (((labsR n path).length:Int)==0) then (n,0,3) else ((⟨n.Qb,layTo n path (labsR n path) path.length⟩:Qd),((labsR n path).getD (Int.toNat 0) default),0)))
def S35 (R:Qd×Int×Int) (n:Qd) (path:List Int):Spec:=⟨[.r (.g (Qr n)),.r (.c (.l 1 eInt path))],.tu [.ag [.ow (.l 2 Qf R.1.Qb),.ow (.l 2 Qg R.1.Qa)],.v (vI R.2.1),.v (vI R.2.2)],True⟩
theorem ok35 (n:Qd) (path:List Int):(S35 (F35 n path) n path).ok Try.prog 35 :=
 fnG_ok mixed (fn:=Try.f35) (ct:=.seqk [(1,0)] (.no) (.seq (.seq (.reg [(1,.call 14 (S14 (netB n) n) (oa14 n) none)]) (.cond (.seq (.no) (.no)) (.no))) (.seq (.reg [(1,.call 67 (S67 n n) (oa67 n) none)]) (.seq (.seq (.reg [(2,.call 76 (S76 (pathB n path) n path) (oa76 n path) none)]) (.cond (.seq (.no) (.no)) (.no))) (.seq (.reg [(2,.call 77 (T77 (labsR n path) n path) (oa77 n path) none)]) (.seq (.seq (.no) (.cond (.seq (.no) (.no)) (.no))) (.seq (.reg [(3,.call 78 (T78 (⟨n.Qb,layTo n path (labsR n path) path.length⟩:Qd) n path (labsR n path)) (oa78 n path (labsR n path)) none),(4,.call 67 (S67 (⟨n.Qb,layTo n path (labsR n path) path.length⟩:Qd) (⟨n.Qb,layTo n path (labsR n path) path.length⟩:Qd)) (oa67 (⟨n.Qb,layTo n path (labsR n path) path.length⟩:Qd)) none)]) (.no)))))))) Try.func35 (fun (_:True)=>fun (_:path.length≤9223372036854775807)=>ai (trivial) (ai ((Imps.refl (Qr n))) (ai (fun h1:(!(netB n))=true=>(fun hF:((⟨[],[]⟩:Qd),0,1)=(F35 n path)=>ai ((Imp.nil 2 Qf).trans (Imp.of_eq (congrArg (fun r:Qd×Int×Int=>Dat.l 2 Qf r.1.Qb) hF))) (ai ((Imp.nil 2 Qg).trans (Imp.of_eq (congrArg (fun r:Qd×Int×Int=>Dat.l 2 Qg r.1.Qa) hF))) (ai (congrArg (fun r:Qd×Int×Int=>(.int .i64 r.2.1:Value)) hF) (ai (congrArg (fun r:Qd×Int×Int=>(.int .i64 r.2.2:Value)) hF) (trivial))))) (condT h1 (rfl))) (fun h1:(!(netB n))=false=>(fun _:n.Qb.length≤14=>(fun _:n.Qa.length≤8=>(fun _:Qn n=>ai ((ai ((by first | omega | (intro k; have:=Qn.rows (by assumption:Qn n) k; have:=Qn.vias (by assumption:Qn n) k; omega) | (have hq:=LayP.bound (LayP.of_labs (by assumption) (by assumption) (by assumption)); first | exact hq.1 | exact fun k=>(hq.2 k).1 | exact fun k=>(hq.2 k).2):n.Qb.length≤1000000000)) (ai ((by first | omega | (intro k; have:=Qn.rows (by assumption:Qn n) k; have:=Qn.vias (by assumption:Qn n) k; omega) | (have hq:=LayP.bound (LayP.of_labs (by assumption) (by assumption) (by assumption)); first | exact hq.1 | exact fun k=>(hq.2 k).1 | exact fun k=>(hq.2 k).2):n.Qa.length≤1000000000)) (ai ((by first | omega | (intro k; have:=Qn.rows (by assumption:Qn n) k; have:=Qn.vias (by assumption:Qn n) k; omega) | (have hq:=LayP.bound (LayP.of_labs (by assumption) (by assumption) (by assumption)); first | exact hq.1 | exact fun k=>(hq.2 k).1 | exact fun k=>(hq.2 k).2):∀ k:Nat,(n.Qa.getD k default).Rows.length≤1000000000)) ((by first | omega | (intro k; have:=Qn.rows (by assumption:Qn n) k; have:=Qn.vias (by assumption:Qn n) k; omega) | (have hq:=LayP.bound (LayP.of_labs (by assumption) (by assumption) (by assumption)); first | exact hq.1 | exact fun k=>(hq.2 k).1 | exact fun k=>(hq.2 k).2):∀ k:Nat,(n.Qa.getD k default).Qi.length≤1000000000)))))) (ai ((Imps.refl (Qr n))) (ai (trivial) (ai ((Imps.refl (Qr n))) (ai ((Imp.refl (.l 1 eInt path))) (ai (fun h2:(!(pathB n path))=true=>(fun hF:(n,0,2)=(F35 n path)=>ai (Imp.of_eq (congrArg (fun r:Qd×Int×Int=>Dat.l 2 Qf r.1.Qb) hF)) (ai (Imp.of_eq (congrArg (fun r:Qd×Int×Int=>Dat.l 2 Qg r.1.Qa) hF)) (ai (congrArg (fun r:Qd×Int×Int=>(.int .i64 r.2.1:Value)) hF) (ai (congrArg (fun r:Qd×Int×Int=>(.int .i64 r.2.2:Value)) hF) (trivial))))) (condF h1 (condT h2 (rfl)))) (fun h2:(!(pathB n path))=false=>(fun _:path.length≤n.Qa.length=>(fun _:PathOk n path=>ai ((ai ((by omega:PathOk n path)) ((by omega:path.length≤8)))) (ai ((Imps.refl (Qr n))) (ai ((Imp.refl (.l 1 eInt path))) (ai (fun h3:(((labsR n path).length:Int)==0)=true=>(fun _:((labsR n path).length:Int)=0=>(fun hF:(n,0,3)=(F35 n path)=>ai (Imp.of_eq (congrArg (fun r:Qd×Int×Int=>Dat.l 2 Qf r.1.Qb) hF)) (ai (Imp.of_eq (congrArg (fun r:Qd×Int×Int=>Dat.l 2 Qg r.1.Qa) hF)) (ai (congrArg (fun r:Qd×Int×Int=>(.int .i64 r.2.1:Value)) hF) (ai (congrArg (fun r:Qd×Int×Int=>(.int .i64 r.2.2:Value)) hF) (trivial))))) (condF h1 (condF h2 (condT h3 (rfl))))) (eq_of_beq h3)) (fun h3:(((labsR n path).length:Int)==0)=false=>(fun _:¬ ((labsR n path).length:Int)=0=>ai ((ai ((by first | exact LayP.of_labs (by assumption) (by assumption) (by assumption) | exact (LayP.of_labs (by assumption) (by assumption) (by assumption)).len:LayP n path (labsR n path))) ((by first | exact LayP.of_labs (by assumption) (by assumption) (by assumption) | exact (LayP.of_labs (by assumption) (by assumption) (by assumption)).len:(labsR n path).length=path.length)))) (ai ((Imps.refl (Qr n))) (ai ((Imp.refl (.l 1 eInt path))) (ai ((Imp.refl (.l 1 eInt (labsR n path)))) (ai ((ai ((by first | omega | (intro k; have:=Qn.rows (by assumption:Qn n) k; have:=Qn.vias (by assumption:Qn n) k; omega) | (have hq:=LayP.bound (LayP.of_labs (by assumption) (by assumption) (by assumption)); first | exact hq.1 | exact fun k=>(hq.2 k).1 | exact fun k=>(hq.2 k).2):n.Qb.length≤1000000000)) (ai ((by first | omega | (intro k; have:=Qn.rows (by assumption:Qn n) k; have:=Qn.vias (by assumption:Qn n) k; omega) | (have hq:=LayP.bound (LayP.of_labs (by assumption) (by assumption) (by assumption)); first | exact hq.1 | exact fun k=>(hq.2 k).1 | exact fun k=>(hq.2 k).2):(layTo n path (labsR n path) path.length).length≤1000000000)) (ai ((by first | omega | (intro k; have:=Qn.rows (by assumption:Qn n) k; have:=Qn.vias (by assumption:Qn n) k; omega) | (have hq:=LayP.bound (LayP.of_labs (by assumption) (by assumption) (by assumption)); first | exact hq.1 | exact fun k=>(hq.2 k).1 | exact fun k=>(hq.2 k).2):∀ k:Nat,((layTo n path (labsR n path) path.length).getD k default).Rows.length≤1000000000)) ((by first | omega | (intro k; have:=Qn.rows (by assumption:Qn n) k; have:=Qn.vias (by assumption:Qn n) k; omega) | (have hq:=LayP.bound (LayP.of_labs (by assumption) (by assumption) (by assumption)); first | exact hq.1 | exact fun k=>(hq.2 k).1 | exact fun k=>(hq.2 k).2):∀ k:Nat,((layTo n path (labsR n path) path.length).getD k default).Qi.length≤1000000000)))))) (ai ((Imps.refl (Qr (⟨n.Qb,layTo n path (labsR n path) path.length⟩:Qd)))) (ai ((by omega:0≤(0:Int)∧(0:Int)<((labsR n path).length:Int))) ((fun hF:((⟨n.Qb,layTo n path (labsR n path) path.length⟩:Qd),((labsR n path).getD (Int.toNat 0) default),0)=(F35 n path)=>ai (Imp.of_eq (congrArg (fun r:Qd×Int×Int=>Dat.l 2 Qf r.1.Qb) hF)) (ai (Imp.of_eq (congrArg (fun r:Qd×Int×Int=>Dat.l 2 Qg r.1.Qa) hF)) (ai (congrArg (fun r:Qd×Int×Int=>(.int .i64 r.2.1:Value)) hF) (ai (congrArg (fun r:Qd×Int×Int=>(.int .i64 r.2.2:Value)) hF) (trivial))))) (condF h1 (condF h2 (condF h3 (rfl)))))))))))) (beqF h3)))))) (pathB_T n path (notEF h2))) (pathB_len n path (notEF h2))))))))) (netB_T n (notEF h1))) (netB_8 n (notEF h1))) (netB_14 n (notEF h1)))))) (by kernel_rfl)
def Qo (n:Qd) (path:List Int):Qd×Int×Int:=bif netB n then ((layR n path).2.2,(layR n path).1,(layR n path).2.1) else (⟨[],[]⟩,0,1)
theorem as35 (n:Qd) (path:List Int):F35 n path=Qo n path:=by
 unfold F35 Qo layR
 cases hb:netB n
 ·rfl
 simp only [Bool.not_true,cond_false,cond_true]
 cases hp:pathB n path
 ·rfl
 simp only [Bool.not_true,cond_false,cond_true]
 unfold labsR
 cases hl:labsB n path
 ·rfl
 have h2:=(pathB_ok.1 hp).two
 have:(labsOf n path).length=path.length:=List.length_map _
 simp only [cond_true]
 rw [beqD,decide_eq_false (show ¬ ((labsOf n path).length:Int)=0 from by omega)]
 rfl
theorem oa35 (n:Qd) (path:List Int):(S35 (Qo n path) n path).ok Try.prog 35:=by
 intro hp; have h:=ok35 n path hp; rw [as35 n path] at h; exact h
def F119_s0 (list:List Qs) (v1:Qs):Int→Lp Int (List Qs):=fun k400 =>
 bif (bif decide (k400<(list.length:Int)) then decide ((list.getD k400.toNat default).To<v1.To) else false) then (.next (k400+1)) else (.done k400)
def F119_j0 (list:List Qs) (v1:Qs):Lp Int (List Qs) :=
 (runL (F119_s0 list v1) (((list.length:Int)-0).toNat+1) 0).fin Lp.ret (fun k400=>.done k400)
def F119 (list:List Qs) (v1:Qs):List Qs :=
 (F119_j0 list v1).fin (fun r=>r) (fun k=>(((([]:List Qs)++(list.take k.toNat))++[v1])++(list.drop k.toNat)))
def S119 (R:List Qs) (list:List Qs) (v1:Qs):Spec:=⟨[.r (.c (.l 3 Qu list)),.r (.g (Qu v1))],.ow (.l 3 Qu R),list.length≤1000000000⟩
theorem ok119 (list:List Qs) (v1:Qs):(S119 (F119 list v1) list v1).ok Try.prog 119 :=
 fnG_ok mixed (fn:=Try.f119) (ct:=.seqk [(0,0)] (.no) (.seqk [(0,0)] (.no) (.cut (ι:=Int) (fun j=>(fun (k:Int)=>(⟨[(0,some (.h 0 0)),(3,some (.p 1 0)),(5,some (.v (vI k)))],[(0,some (.shr none (.l 3 Qu list))),(1,some (.box 95 [.v (vI v1.To),.v (vI v1.Via),.v (vI v1.Push)]))],2⟩:St)) j) (fun j=>(fun (k:Int)=>((F119_j0 list v1)=Lp.done j∧0≤k∧k≤(list.length:Int))) j) (.blk (.loop (ι:=Nat×Int) (fun i=>(fun (k400:Int)=>(⟨[(0,some (.h 0 0)),(3,some (.p 1 0)),(5,some (.v (vI k400)))],[(0,some (.shr none (.l 3 Qu list))),(1,some (.box 95 [.v (vI v1.To),.v (vI v1.Via),.v (vI v1.Push)]))],2⟩:St)) i.2) (fun i=>runL (F119_s0 list v1) i.1 i.2=(runL (F119_s0 list v1) (((list.length:Int)-0).toNat+1) 0)∧(fun (k400:Int)=>(Int.toNat ((list.length:Int)-k400)<i.1∧k400≤(list.length:Int)∧(0:Int)≤k400)) i.2) (fun i=>i.1) ((((list.length:Int)-0).toNat+1),0) (fun i=>(fun (k400:Int)=>(.seq (.seq (.no) (.cond (.no) (.no))) (.blk (.reg [(1,.bnd)])))) i.2))) (fun j=>(fun (k:Int)=>(.seq (.reg [(0,.dat (.l 3 Qu ([]:List Qs))),(4,.dat (.l 3 Qu (([]:List Qs)++(list.take k.toNat)))),(7,.dat (.l 3 Qu ((([]:List Qs)++(list.take k.toNat))++[v1]))),(11,.dat (.l 3 Qu (((([]:List Qs)++(list.take k.toNat))++[v1])++(list.drop k.toNat))))]) (.no))) j)))) Try.func119 (fun (hpre0:list.length≤1000000000)=>fun (_:list.length≤9223372036854775807)=>fun (_:list.length≤9223372036854775807)=>ai (ai (ai (rfl) (ai (ir) (ai (rfl) (ai (rfl) (ai (rfl) ((ai (rfl:runL (F119_s0 list v1) (((list.length:Int)-0).toNat+1) 0=(runL (F119_s0 list v1) (((list.length:Int)-0).toNat+1) 0)) (ai ((Nat.lt_succ_self _:Int.toNat ((list.length:Int)-0)<(((list.length:Int)-0).toNat+1))) (ai ((by first | omega | (simp only [lens] at*<;> omega):0≤(list.length:Int))) ((by first | omega | (simp only [lens] at*<;> omega):(0:Int)≤0)))))))))):((.int .i64 0:Value)=.int .i64 0)∧(Imp (.l 3 Qu list) (.l 3 Qu list))∧((.int .i64 v1.To:Value)=.int .i64 v1.To)∧((.int .i64 v1.Via:Value)=.int .i64 v1.Via)∧((.int .i64 v1.Push:Value)=.int .i64 v1.Push)∧(runL (F119_s0 list v1) (((list.length:Int)-0).toNat+1) 0=(runL (F119_s0 list v1) (((list.length:Int)-0).toNat+1) 0)∧Int.toNat ((list.length:Int)-0)<(((list.length:Int)-0).toNat+1)∧0≤(list.length:Int)∧(0:Int)≤0)) (fun (i0:Nat×Int) (hi0:runL (F119_s0 list v1) i0.1 i0.2=(runL (F119_s0 list v1) (((list.length:Int)-0).toNat+1) 0)∧(fun (k400:Int)=>(Int.toNat ((list.length:Int)-k400)<i0.1∧k400≤(list.length:Int)∧(0:Int)≤k400)) i0.2)=>(fun (m0:Nat) (k400:Int) (hI0:runL (F119_s0 list v1) (m0+1) k400=(runL (F119_s0 list v1) (((list.length:Int)-0).toNat+1) 0)) (_:Int.toNat ((list.length:Int)-k400)<m0+1) (hl0:m0<i0.1) (_:k400≤(list.length:Int)) (_:(0:Int)≤k400)=>ai ((fun k2:(decide (k400<(list.length:Int)))=true=>(fun _:k400<(list.length:Int)=>(by first | omega | (simp only [lens] at*<;> omega):0≤k400∧k400<(list.length:Int))) (of_decide_eq_true k2))) (ai (fun h3:(bif decide (k400<(list.length:Int)) then decide ((list.getD k400.toNat default).To<v1.To) else false)=true=>(fun _:(list.getD k400.toNat default).To<v1.To=>(fun _:k400<(list.length:Int)=>ai ((by unfold i64ok; first | omega | (simp only [lens] at*<;> omega):i64ok (k400+1))) (Exists.intro (p:=fun j:Nat×Int=>(fun (k400_:Int)=>(((.int .i64 (k400+1):Value)=.int .i64 k400_)∧(Imp (.l 3 Qu list) (.l 3 Qu list))∧((.int .i64 v1.To:Value)=.int .i64 v1.To)∧((.int .i64 v1.Via:Value)=.int .i64 v1.Via)∧((.int .i64 v1.Push:Value)=.int .i64 v1.Push)∧((runL (F119_s0 list v1) j.1 j.2=(runL (F119_s0 list v1) (((list.length:Int)-0).toNat+1) 0)∧Int.toNat ((list.length:Int)-k400_)<j.1∧k400_≤(list.length:Int)∧(0:Int)≤k400_)∧j.1<i0.1))) j.2) (m0,(k400+1)) (ai (rfl) (ai (ir) (ai (rfl) (ai (rfl) (ai (rfl) (ai (ai (runL_next hI0 (condT h3 (rfl))) (ai ((by first | omega | (simp only [lens] at*<;> omega):Int.toNat ((list.length:Int)-(k400+1))<m0)) (ai ((by first | omega | (simp only [lens] at*<;> omega):(k400+1)≤(list.length:Int))) ((by first | omega | (simp only [lens] at*<;> omega):(0:Int)≤(k400+1)))))) hl0)))))))) (of_decide_eq_true (andT1 h3))) (of_decide_eq_true (andT2 h3))) (fun h3:(bif decide (k400<(list.length:Int)) then decide ((list.getD k400.toNat default).To<v1.To) else false)=false=>(fun hD0_4:(runL (F119_s0 list v1) (((list.length:Int)-0).toNat+1) 0)=Lp.done k400=>Exists.intro (p:=fun j:Int=>(fun (k_:Int)=>(((.int .i64 k400:Value)=.int .i64 k_)∧(Imp (.l 3 Qu list) (.l 3 Qu list))∧((.int .i64 v1.To:Value)=.int .i64 v1.To)∧((.int .i64 v1.Via:Value)=.int .i64 v1.Via)∧((.int .i64 v1.Push:Value)=.int .i64 v1.Push)∧(F119_j0 list v1)=Lp.done j∧0≤k_∧k_≤(list.length:Int))) j) (k400) (ai (rfl) (ai (ir) (ai (rfl) (ai (rfl) (ai (rfl) (ai (Eq.symm (finD hD0_4 (rfl))) (ai ((by first | omega | (simp only [lens] at*<;> omega):0≤k400)) ((by first | omega | (simp only [lens] at*<;> omega):k400≤(list.length:Int))))))))))) (runL_done hI0 (condF h3 (rfl)))))) (i0.1-1) i0.2 (hd1 hi0.1 hi0.2.1) (hd2 hi0.2.1) (hd3 hi0.2.1) hi0.2.2.1 hi0.2.2.2)) (fun (j:Int) (hj:(fun (k:Int)=>((F119_j0 list v1)=Lp.done j∧0≤k∧k≤(list.length:Int))) j)=>(fun (k:Int) (hJ0_5:(F119_j0 list v1)=Lp.done k) (_:0≤k) (_:k≤(list.length:Int))=>ai ((BuildOK.mk Qu ([]:List Qs) rfl (by exact trivial) (fun _=>rfl):BuildOK 0 3 [] (.l 3 Qu ([]:List Qs)))) (ai ((by first | omega | (simp only [lens] at*<;> omega):0≤(0:Int)∧(0:Int)≤k∧k≤(list.length:Int))) (ai ((AppL.mk Qu ([]:List Qs) (list.take k.toNat) (Imp.refl (.l 3 Qu ([]:List Qs))) ir (fun y=>⟨rfl,fun e he=>by simp only [Qu,List.mem_cons,List.not_mem_nil,or_false] at he; rcases he with rfl | rfl | rfl <;> exact ⟨_,rfl⟩⟩):AppL (.l 3 Qu ([]:List Qs)) (.l 3 Qu (list.take k.toNat)) 3 (.l 3 Qu (([]:List Qs)++(list.take k.toNat))))) (ai ((by (try simp only [lens]); omega:((([]:List Qs)++(list.take k.toNat))).length*24≤140737488355328)) (ai ((AppA.mk Qu (([]:List Qs)++(list.take k.toNat)) [v1] (Imp.refl (.l 3 Qu (([]:List Qs)++(list.take k.toNat)))) rfl (by exact ai ir (ai ir (ai ir (trivial)))) (fun _=>rfl):AppA (.l 3 Qu (([]:List Qs)++(list.take k.toNat))) 1 3 [.v (vI v1.To),.v (vI v1.Via),.v (vI v1.Push)] (.l 3 Qu ((([]:List Qs)++(list.take k.toNat))++[v1])))) (ai ((by (try simp only [lens]); omega:(((([]:List Qs)++(list.take k.toNat))++[v1])).length*24≤140737488355328)) (ai ((by first | omega | (simp only [lens] at*<;> omega):0≤k∧k≤(list.length:Int)∧(list.length:Int)≤(list.length:Int))) (ai ((AppL.mk Qu ((([]:List Qs)++(list.take k.toNat))++[v1]) (list.drop k.toNat) (Imp.refl (.l 3 Qu ((([]:List Qs)++(list.take k.toNat))++[v1]))) ir (fun y=>⟨rfl,fun e he=>by simp only [Qu,List.mem_cons,List.not_mem_nil,or_false] at he; rcases he with rfl | rfl | rfl <;> exact ⟨_,rfl⟩⟩):AppL (.l 3 Qu ((([]:List Qs)++(list.take k.toNat))++[v1])) (.l 3 Qu (list.drop k.toNat)) 3 (.l 3 Qu (((([]:List Qs)++(list.take k.toNat))++[v1])++(list.drop k.toNat))))) (ai ((by (try simp only [lens]); omega:((((([]:List Qs)++(list.take k.toNat))++[v1])++(list.drop k.toNat))).length*24≤140737488355328)) ((fun hF:((((([]:List Qs)++(list.take k.toNat))++[v1])++(list.drop k.toNat)):List Qs)=(F119 list v1)=>ai (Imp.of_eq (congrArg (fun r:List Qs=>Dat.l 3 Qu r) hF)) (trivial)) (finD hJ0_5 (rfl)))))))))))) j hj.1 hj.2.1 hj.2.2)) (by kernel_rfl)
theorem wayGo_at {n:Qd} {b w:Int} {f:List Int} (hD:IsDist n b w f) (h8:n.Qa.length≤8):∀ (m:Nat) (x:Int),0≤x→x<(n.Qa.length:Int)→f.getD x.toNat default=(m:Int) →
  ∀ i,i≤m→0≤(x :: wayGo n f w m x).getD i default∧(x :: wayGo n f w m x).getD i default<(n.Qa.length:Int)∧f.getD ((x :: wayGo n f w m x).getD i default).toNat default=(m:Int)-i ∧
   (i<m→adj n w ((x :: wayGo n f w m x).getD i default) ((x :: wayGo n f w m x).getD (i+1) default))
 | 0,x,h0,h1,hd,i,hi=>by
  obtain rfl:i=0:=by omega
  exact ⟨h0,h1,by simpa using hd,fun h=>by omega⟩
 | m+1,x,h0,h1,hd,i,hi=>by
  obtain ⟨n1,n2,n3,n4,_⟩:=nextOf_ok hD h8 h0 h1 (by omega)
  have ih:=wayGo_at hD h8 m (nextOf n f x w) n1 n2 (by omega)
  have hadj:adj n w x (nextOf n f x w):=by
   unfold nextB at n4
   cases hc:decide (0≤Qh n x (nextOf n f x w)∧Qh n x (nextOf n f x w)≠w) with
   | false=>rw [hc] at n4; cases n4
   | true=>exact (of_decide_eq_true hc:0≤Qh n x (nextOf n f x w)∧Qh n x (nextOf n f x w)≠w)
  cases i with
  | zero=>exact ⟨h0,h1,by rw [List.getD_cons_zero,hd]; omega,fun _=>hadj⟩
  | succ i =>
   obtain ⟨g1,g2,g3,g4⟩:=ih i (by omega)
   simp only [wayGo,List.getD_cons_succ] at g1 g2 g3 g4 ⊢
   exact ⟨g1,g2,by rw [g3]; omega,fun h=>g4 (by omega)⟩
def wayP (n:Qd) (a b:Int):List Int:=Qp n a b (Qh n a b)
theorem way_path {n:Qd} (hf:FrameOk n) {a b:Int} (hl:0≤Qh n a b) (hne:(wayP n a b).length≠0) :
  PathOk n (wayP n a b)∧(wayP n a b).getD 0 default=a∧(wayP n a b).getD 1 default≠b∧∀ i,i+1<(wayP n a b).length→adj n (Qh n a b) ((wayP n a b).getD i default) ((wayP n a b).getD (i+1) default):=by
 obtain ⟨a0,a1,b0,b1,hab⟩:=linkOf_in hf hl
 have hD:=far_isDist n b (Qh n a b) hf b0 b1
 have hwl:=wayOf_len hf (Qh n a b) a0 a1 b0 b1
 unfold wayP at hne ⊢
 unfold Qp at hne hwl ⊢
 by_cases hneg:(F80 n b (Qh n a b)).getD a.toNat default<0
 ·rw [decide_eq_true hneg] at hne; exact absurd rfl hne
 rw [decide_eq_false hneg] at hwl ⊢
 simp only [cond_false] at hwl ⊢
 have hpos:=hD.pos a0 a1 hab (by omega)
 generalize hm:Int.toNat ((F80 n b (Qh n a b)).getD a.toNat default)=m at *
 have hat:=wayGo_at hD hf.b8 m a a0 a1 (by omega)
 have hlen:(a :: wayGo n (F80 n b (Qh n a b)) (Qh n a b) m a).length=m+1:=by rw [List.length_cons,wayGo_len]
 have hadj:∀ i,i+1<(a :: wayGo n (F80 n b (Qh n a b)) (Qh n a b) m a).length→adj n (Qh n a b) ((a :: wayGo n (F80 n b (Qh n a b)) (Qh n a b) m a).getD i default) ((a :: wayGo n (F80 n b (Qh n a b)) (Qh n a b) m a).getD (i+1) default):=fun i hi=>(hat i (by omega)).2.2.2 (by omega)
 refine ⟨⟨by omega,hwl,fun i hi=>?_,fun i hi=>(hadj i hi).1,fun i j hi hj e=>?_⟩,rfl,fun e=>?_,hadj⟩
 ·have:=hat i (by omega); exact ⟨this.1,this.2.1⟩
 ·have h1:=(hat i (by omega)).2.2.1
  have h2:=(hat j (by omega)).2.2.1
  rw [e] at h1; omega
 ·have:=hadj 0 (by omega)
  rw [e] at this
  exact this.2 rfl
theorem layTo_done {n:Qd} {path:List Int} (h:PathOk n path) (labels:List Int):∀ m i,i<m→m≤path.length →
  (layTo n path labels m).getD (path.getD i default).toNat default=⟨putK (fun x:Qq=>x.In) (n.Qa.getD (path.getD i default).toNat default).Rows (rowAt path labels i),(n.Qa.getD (path.getD i default).toNat default).Qi⟩
 | 0,_,h0,_=>absurd h0 (Nat.not_lt_zero _)
 | m+1,i,hi,hm=>by
  rw [layTo,getD_set]
  by_cases e:i=m
  ·subst e
   have:=h.rng i (by omega)
   rw [if_pos ⟨rfl,by rw [layTo_len]; omega⟩,layTo_at h labels i i (Nat.le_refl _) (by omega)]
  ·rw [if_neg (fun hh=>h.ne (by omega) (by omega) (Ne.symm e) hh.1)]
   exact layTo_done h labels m i (by omega) (by omega)
theorem layTo_guards (n:Qd) (path labels:List Int) (k:Nat):∀ m,((layTo n path labels m).getD k default).Qi=(n.Qa.getD k default).Qi
 | 0=>rfl
 | m+1=>by
  rw [layTo,getD_set]
  split
  ·rename_i h
   rw [h.1]
   exact layTo_guards n path labels k m
  ·exact layTo_guards n path labels k m
theorem lay_found {n:Qd} {path labels:List Int} (h:LayP n path labels) {i:Nat} (hi:i<path.length) :
  ∃ k,rowIx ((layTo n path labels path.length).getD (path.getD i default).toNat default) (labels.getD i default)=some k∧((layTo n path labels path.length).getD (path.getD i default).toNat default).Rows.getD k default=rowAt path labels i:=by
 rw [layTo_done h.pth labels path.length i hi (Nat.le_refl _)]
 obtain ⟨⟨_,hpw⟩,_⟩:=h.putOk hi
 have hm:rowAt path labels i∈putK (fun x:Qq=>x.In) (n.Qa.getD (path.getD i default).toNat default).Rows (rowAt path labels i):=putK_mem.2 (.inr rfl)
 obtain ⟨j,hj,ej⟩:=mem_getD hm
 unfold rowIx
 simp only at hpw ⊢
 cases e:first (fun k=>decide (((putK (fun x:Qq=>x.In) (n.Qa.getD (path.getD i default).toNat default).Rows (rowAt path labels i)).getD k default).In=labels.getD i default)) (putK (fun x:Qq=>x.In) (n.Qa.getD (path.getD i default).toNat default).Rows (rowAt path labels i)).length with
 | none =>
  have:=first_none.1 e j hj
  rw [ej] at this
  exact absurd rfl (of_decide_eq_false this)
 | some k =>
  obtain ⟨h1,h2,_⟩:=first_some.1 e
  exact ⟨k,rfl,pairK_uniq hpw (getD_mem _ h1) hm (of_decide_eq_true h2)⟩
theorem guard_net {n:Qd} (h:Qn n) {a b:Int} (hl:0≤Qh n a b) (hg:guardIx (n.Qa.getD a.toNat default) b=none) {v:Qs} (hv:v.To=b) (hv2:0≤Qh n a v.Via∧b≠v.Via∧isLabel v.Push) :
  Qn ⟨n.Qb,n.Qa.set a.toNat ⟨(n.Qa.getD a.toNat default).Rows,putK (fun x:Qs=>x.To) (n.Qa.getD a.toNat default).Qi v⟩⟩:=by
 obtain ⟨a0,a1,b0,b1,_⟩:=linkOf_in h.frame hl
 have hb:=boxP_ok.1 (h.box a.toNat (by omega))
 rw [show ((Int.toNat a:Nat):Int)=a from by omega] at hb
 obtain ⟨h12,h3,h4⟩:=hb
 refine netOk_set h ?_
 rw [show ((Int.toNat a:Nat):Int)=a from by omega]
 refine ⟨h12,fun x hx=>?_,putK_inc (fun x:Qs=>x.To) _ _ h4 fun x hx e=>?_⟩
 ·rcases putK_mem.1 hx with hx | rfl
  ·exact h3 x hx
  ·exact ⟨by rw [hv]; exact hl,hv2.1,by rw [hv]; exact hv2.2.1,hv2.2.2⟩
 ·obtain ⟨k,hk,rfl⟩:=mem_getD hx
  have:=first_none.1 hg k hk
  exact of_decide_eq_false this (e.trans hv)
def guardV (n:Qd) (a b:Int):Qs:=⟨b,(wayP n a b).getD 1 default,(labsOf n (wayP n a b)).getD 1 default⟩
def laidN (n:Qd) (a b:Int):Qd:=⟨n.Qb,layTo n (wayP n a b) (labsOf n (wayP n a b)) (wayP n a b).length⟩
def guardN (n:Qd) (a b:Int):Qd:=⟨n.Qb,(laidN n a b).Qa.set a.toNat ⟨((laidN n a b).Qa.getD a.toNat default).Rows,putK (fun x:Qs=>x.To) ((laidN n a b).Qa.getD a.toNat default).Qi (guardV n a b)⟩⟩
def guardR (n:Qd) (a b:Int):Int×Qd :=
 bif decide (Qh n a b<0) then (2,n) else bif (guardIx (n.Qa.getD a.toNat default) b).isSome then (4,n) else bif decide ((wayP n a b).length=0) then (5,n) else bif labsB n (wayP n a b) then (0,guardN n a b) else (3,n)
structure GuardP (n:Qd) (a b:Int):Prop where
 net:Qn n
 lnk:0≤Qh n a b
 none:guardIx (n.Qa.getD a.toNat default) b=none
 lay:LayP n (wayP n a b) (labsOf n (wayP n a b))
theorem GuardP.mk' {n:Qd} {a b:Int} (h:Qn n) (hl:¬ Qh n a b<0) (hg:guardIx (n.Qa.getD a.toNat default) b=Option.none) (hw:¬ (wayP n a b).length=0) (hb:labsB n (wayP n a b)=true):GuardP n a b :=
 ⟨h,by omega,hg,layP_of h (pathB_ok.2 (way_path h.frame (by omega) hw).1) hb⟩
section
variable {n:Qd} {a b:Int} (h:GuardP n a b)
include h
theorem GuardP.ne:(wayP n a b).length≠0:=by have:=h.lay.pth.two; omega
theorem GuardP.laid:Qn (laidN n a b):=h.lay.netTo _ (Nat.le_refl _)
theorem GuardP.none':guardIx ((laidN n a b).Qa.getD a.toNat default) b=Option.none:=by
 have:=layTo_guards n (wayP n a b) (labsOf n (wayP n a b)) a.toNat (wayP n a b).length
 have h2:=h.none
 unfold guardIx at h2 ⊢
 show first (fun k=>decide ((((layTo n (wayP n a b) (labsOf n (wayP n a b)) (wayP n a b).length).getD a.toNat default).Qi.getD k default).To=b)) ((layTo n (wayP n a b) (labsOf n (wayP n a b)) (wayP n a b).length).getD a.toNat default).Qi.length=Option.none
 rw [this]; exact h2
theorem GuardP.found:∃ k,rowIx ((laidN n a b).Qa.getD a.toNat default) ((labsOf n (wayP n a b)).getD 0 default)=some k∧(((laidN n a b).Qa.getD a.toNat default).Rows.getD k default).Next=(guardV n a b).Via∧(((laidN n a b).Qa.getD a.toNat default).Rows.getD k default).Out=(guardV n a b).Push:=by
 have h2:=h.lay.pth.two
 obtain ⟨_,w0,_⟩:=way_path h.net.frame h.lnk h.ne
 obtain ⟨k,h1,e⟩:=lay_found h.lay (i:=0) (by omega)
 rw [w0] at h1 e
 have hx:((0:Nat):Int)+1<((wayP n a b).length:Int):=by omega
 refine ⟨k,h1,?_,?_⟩
 ·show (((layTo n (wayP n a b) (labsOf n (wayP n a b)) (wayP n a b).length).getD a.toNat default).Rows.getD k default).Next=_
  rw [e]; simp only [rowAt,decide_eq_true hx,cond_true]; rfl
 ·show (((layTo n (wayP n a b) (labsOf n (wayP n a b)) (wayP n a b).length).getD a.toNat default).Rows.getD k default).Out=_
  rw [e]; simp only [rowAt,decide_eq_true hx,cond_true]; rfl
theorem GuardP.via:0≤Qh n a (guardV n a b).Via∧b≠(guardV n a b).Via∧isLabel (guardV n a b).Push:=by
 have h2:=h.lay.pth.two
 obtain ⟨_,w0,w1,w2⟩:=way_path h.net.frame h.lnk h.ne
 have:=w2 0 (by omega)
 rw [w0] at this
 exact ⟨this.1,fun e=>w1 e.symm,h.lay.lbl (i:=1) (by omega)⟩
theorem GuardP.netN:Qn (guardN n a b):=by
 have hl:0≤Qh (laidN n a b) a b:=h.lnk
 exact guard_net h.laid hl h.none' (v:=guardV n a b) rfl h.via
end
theorem guardR_net {n:Qd} (h:Qn n) (a b:Int):Qn (guardR n a b).2:=by
 unfold guardR
 by_cases hl:Qh n a b<0
 ·rw [decide_eq_true hl]; exact h
 rw [decide_eq_false hl]
 cases hg:guardIx (n.Qa.getD a.toNat default) b with
 | some k=>exact h
 | none =>
  by_cases hw:(wayP n a b).length=0
  ·rw [decide_eq_true hw]; exact h
  rw [decide_eq_false hw]
  cases hb:labsB n (wayP n a b) with
  | false=>exact h
  | true=>exact (GuardP.mk' h hl hg hw hb).netN
theorem layR_way {n:Qd} (h:Qn n) {a b:Int} (hl:¬ Qh n a b<0) (hw:¬ (wayP n a b).length=0):layR n (wayP n a b)=bif labsB n (wayP n a b) then ((labsOf n (wayP n a b)).getD 0 default,0,laidN n a b) else (0,3,n):=by
 unfold layR
 rw [pathB_ok.2 (way_path h.frame (by omega) hw).1]
 rfl
theorem labLay_way {n:Qd} (h:Qn n) (p:List Int):Qo n p=((layR n p).2.2,(layR n p).1,(layR n p).2.1):=by
 unfold Qo; rw [netB_ok.2 h]; rfl
theorem as119 (list:List Qs) (v1:Qs):F119 list v1=putK (fun x:Qs=>x.To) list v1:=by
 unfold F119 F119_j0 putK
 rw [whilePut (fun x:Qs=>x.To) list v1 (F119_s0 list v1) (fun k=>rfl)]
 simp only [Lp.fin,nn,List.nil_append]
theorem linkOf_in4 {n:Qd} (h:Qn n) {a b:Int} (hl:0≤Qh n a b):0≤a∧a<(n.Qa.length:Int)∧0≤b∧b<(n.Qa.length:Int):=by
 have:=linkOf_in h.frame hl; exact ⟨this.1,this.2.1,this.2.2.1,this.2.2.2.1⟩
theorem layR_len (n:Qd) (p:List Int):(layR n p).2.2.Qa.length=n.Qa.length:=by
 unfold layR
 cases pathB n p
 ·rfl
 cases labsB n p
 ·rfl
 exact layTo_len _ _ _ _
theorem labLay_len {n:Qd} (h:Qn n) (p:List Int):(Qo n p).1.Qa.length=n.Qa.length:=by
 rw [labLay_way h]; exact layR_len n p
theorem guard_P {n:Qd} (h:Qn n) {a b:Int} (h1:¬ Qh n a b<0) (h2:guardIx (n.Qa.getD a.toNat default) b=none) (h3:¬ (wayP n a b).length=0) (h4:(layR n (wayP n a b)).2.1=0):GuardP n a b∧layR n (wayP n a b)=((labsOf n (wayP n a b)).getD 0 default,0,laidN n a b):=by
 rw [layR_way h h1 h3] at h4 ⊢
 cases hb:labsB n (wayP n a b) with
 | false=>rw [hb] at h4; cases h4
 | true=>exact ⟨GuardP.mk' h h1 h2 h3 hb,rfl⟩
theorem layR_vias {n:Qd} (h:Qn n) (p:List Int) (k:Nat):((layR n p).2.2.Qa.getD k default).Qi.length≤8:=Qn.vias (layR_net h p) k
theorem guard_vc2 {n:Qd} (h:Qn n) {a b:Int} (h1:¬ Qh n a b<0) (h2:¬ oix (guardIx (n.Qa.getD a.toNat default) b)≥0) (h3:¬ ((Qp n a b (Qh n a b)).length:Int)=0) (h4:(Qo n (Qp n a b (Qh n a b))).2.2=0) :
  GuardP n a b∧Qo n (Qp n a b (Qh n a b))=(laidN n a b,(labsOf n (wayP n a b)).getD 0 default,0):=by
 rw [labLay_way h] at h4 ⊢
 have hg:guardIx (n.Qa.getD a.toNat default) b=none:=oix_neg.1 (by omega)
 obtain ⟨hP,e⟩:=guard_P h h1 hg (by unfold wayP; omega) h4
 refine ⟨hP,?_⟩
 have e2:layR n (Qp n a b (Qh n a b))=_:=e
 rw [e2]
theorem guard_vcf {n:Qd} (h:Qn n) {a b:Int} (h1:¬ Qh n a b<0) (h2:¬ oix (guardIx (n.Qa.getD a.toNat default) b)≥0) (h3:¬ ((Qp n a b (Qh n a b)).length:Int)=0) (h4:(Qo n (Qp n a b (Qh n a b))).2.2=0) :
  0≤oix (rowIx (((Qo n (Qp n a b (Qh n a b))).1.Qa).getD a.toNat default) (Qo n (Qp n a b (Qh n a b))).2.1):=by
 obtain ⟨hP,e⟩:=guard_vc2 h h1 h2 h3 h4
 rw [e]
 obtain ⟨k,k1,_⟩:=hP.found
 rw [k1]; simp only [oix]; omega
theorem guard_vcn {n:Qd} (h:Qn n) {a b:Int} (h1:¬ Qh n a b<0) (h2:¬ oix (guardIx (n.Qa.getD a.toNat default) b)≥0) (h3:¬ ((Qp n a b (Qh n a b)).length:Int)=0) (h4:(Qo n (Qp n a b (Qh n a b))).2.2=0) :
  (((Qo n (Qp n a b (Qh n a b))).1).Qa).set a.toNat (⟨((((Qo n (Qp n a b (Qh n a b))).1).Qa).getD a.toNat default).Rows,(putK (fun x:Qs=>x.To) (((((Qo n (Qp n a b (Qh n a b))).1).Qa).getD a.toNat default).Qi) (⟨b,((((((Qo n (Qp n a b (Qh n a b))).1).Qa).getD a.toNat default).Rows).getD (oix (rowIx ((((Qo n (Qp n a b (Qh n a b))).1).Qa).getD a.toNat default) ((Qo n (Qp n a b (Qh n a b))).2.1))).toNat default).Next,((((((Qo n (Qp n a b (Qh n a b))).1).Qa).getD a.toNat default).Rows).getD (oix (rowIx ((((Qo n (Qp n a b (Qh n a b))).1).Qa).getD a.toNat default) ((Qo n (Qp n a b (Qh n a b))).2.1))).toNat default).Out⟩:Qs))⟩:Qj)=(guardN n a b).Qa:=by
 obtain ⟨hP,e⟩:=guard_vc2 h h1 h2 h3 h4
 rw [e]
 obtain ⟨k,k1,k2,k3⟩:=hP.found
 simp only [k1,oix,nn,k2,k3]
 rfl
theorem net_bounds {n:Qd} (h:Qn n) {xs:List Qj} (e:xs=n.Qa):xs.length≤1000000000∧∀ k:Nat,(xs.getD k default).Rows.length≤1000000000∧(xs.getD k default).Qi.length≤1000000000:=by
 subst e
 have h8:=h.frame.b8
 refine ⟨by omega,fun k=>?_⟩
 have h1:=Qn.rows h k
 have h2:=Qn.vias h k
 omega
theorem labLay_vias {n:Qd} (h:Qn n) (p:List Int) (k:Nat):((Qo n p).1.Qa.getD k default).Qi.length≤8:=by
 rw [labLay_way h]; exact layR_vias h p k
theorem labLay_links {n:Qd} (h:Qn n) (p:List Int):(Qo n p).1.Qb=n.Qb:=by
 rw [labLay_way h]
 unfold layR
 cases pathB n p
 ·rfl
 cases labsB n p <;> rfl
end Go.Proofs.Ytmiolofjlfnohaa
