/- A part of the proof of FnLabGuard. Texts put together: VW1, PW2, PW3, VW2, PW4, VL1, PL1, PL2. -/
import Derived.Test.YtmiolofjlfnohaaGreatRows
import Derived.Test.YtmiolofjlfnohaaGreatZC12C
namespace Go.Proofs.YtmiolofjlfnohaaGreat
open Go.RowKit
set_option maxRecDepth 100000
set_option linter.unusedVariables false
set_option linter.unusedSimpArgs false
theorem oa92 (n:Qe) (box:Int) (label:Int):(S92 (labTear n box label) n box label).ok Tryz.prog 92:=by
 intro hp; have h:=ok92 n box label hp; rw [as92 n box label] at h; exact h
def F84 (n:Qe) (a:Int) (b:Int) (Qq:Int):Bool :=
 (bif decide ((Qr n a b)≥0) then ((Qr n a b) != Qq) else false)
def S84 (R:Bool) (n:Qe) (a:Int) (b:Int) (Qq:Int):Spec:=⟨[.r (.g (Qf n)),.r (.c (.v (vI a))),.r (.c (.v (vI b))),.r (.c (.v (vI Qq)))],.v (.bool R),FrameOk n⟩
theorem ok84 (n:Qe) (a:Int) (b:Int) (Qq:Int):(S84 (F84 n a b Qq) n a b Qq).ok Tryz.prog 84 :=
 fnG_ok mixed (fn:=Tryz.f84) (ct:=.seq (.no) (.seq (.reg [(3,.call 48 (T48 (Qr n a b) n a b) (oa48 n a b) none)]) (.seq (.no) (.no)))) Tryz.func84 (fun (hpre0:FrameOk n)=>ai (((by first | assumption | exact Qt.frame (by assumption):FrameOk n))) (ai ((Imps.refl (Qf n))) (ai ((Imp.refl (.v (vI a)))) (ai ((Imp.refl (.v (vI b)))) ((fun hF:((bif decide ((Qr n a b)≥0) then ((Qr n a b) != Qq) else false):Bool)=(F84 n a b Qq)=>ai (congrArg (fun r:Bool=>(.bool r:Value)) hF) (trivial)) (rfl)))))) (by kernel_rfl)
theorem as84 (n:Qe) (a:Int) (b:Int) (Qq:Int):F84 n a b Qq=(decide (0≤Qr n a b∧Qr n a b≠Qq)):=by
 simp only [F84,bandd,neI,Bool.decide_and,geleD,decide_not,ne_eq]
theorem oa84 (n:Qe) (a:Int) (b:Int) (Qq:Int):(S84 (decide (0≤Qr n a b∧Qr n a b≠Qq)) n a b Qq).ok Tryz.prog 84:=by
 intro hp; have h:=ok84 n a b Qq hp; rw [as84 n a b Qq] at h; exact h
def F83_s0 (n:Qe) (to':Int) (Qq:Int):(Int×List Int)→Lp (Int×List Int) (List Int):=fun (v18,xs) =>
 bif (decide (v18<((List.replicate (n.Qa.length:Int).toNat (0:Int)).length:Int))) then (.next ((v18+1),(xs.set (v18).toNat (-1)))) else (.done (v18,xs))
def F83_j0 (n:Qe) (to':Int) (Qq:Int):Lp (List Int) (List Int) :=
 (runL (F83_s0 n to' Qq) ((((List.replicate (n.Qa.length:Int).toNat (0:Int)).length:Int)-0).toNat+1) (0,(List.replicate (n.Qa.length:Int).toNat (0:Int)))).fin Lp.ret (fun (v18,xs)=>.done xs)
def F83_s2 (n:Qe) (to':Int) (Qq:Int) (far:List Int) (queue:List Int) (xs1:List Int):(List Int×Int×List Int)→Lp (List Int×Int×List Int) (List Int):=fun (queue1,v40,xs2) =>
 bif (decide (v40<(xs1.length:Int))) then (bif (bif decide ((xs2.getD v40.toNat default)<0) then (decide (0≤Qr n (queue.getD (Int.toNat 0) default) v40∧Qr n (queue.getD (Int.toNat 0) default) v40≠Qq)) else false) then (.next ((queue1++[v40]),(v40+1),(xs2.set (v40).toNat (IntKind.i64.wrap ((xs2.getD (queue.getD (Int.toNat 0) default).toNat default)+1))))) else (.next (queue1,(v40+1),xs2))) else (.done (queue1,v40,xs2))
def F83_s1 (n:Qe) (to':Int) (Qq:Int) (far:List Int):(List Int×List Int)→Lp (List Int×List Int) (List Int):=fun (queue,xs1) =>
 bif (decide ((queue.length:Int)>0)) then ((runL (F83_s2 n to' Qq far queue xs1) (((xs1.length:Int)-0).toNat+1) ((queue.drop (Int.toNat 1)),0,xs1)).fin Lp.ret (fun (queue1,v40,xs2)=>.next (queue1,xs2))) else (.done (queue,xs1))
def F83 (n:Qe) (to':Int) (Qq:Int):List Int :=
 (F83_j0 n to' Qq).fin (fun r=>r) (fun far=>(runL (F83_s1 n to' Qq far) ((([to']:List Int).length+negs (far.set (to').toNat 0))+1) (([to']:List Int),(far.set (to').toNat 0))).fin (fun r=>r) (fun (queue,xs1)=>xs1))
def S83 (R:List Int) (n:Qe) (to':Int) (Qq:Int):Spec:=⟨[.r (.g (Qf n)),.r (.c (.v (vI to'))),.r (.c (.v (vI Qq)))],.ow (.l 1 eInt R),FrameOk n∧0≤to'∧to'<(n.Qa.length:Int)∧n.Qa.length≤8⟩
theorem ok83 (n:Qe) (to':Int) (Qq:Int):(S83 (F83 n to' Qq) n to' Qq).ok Tryz.prog 83 :=
 fnG_ok mixed (fn:=Tryz.f83) (ct:=.seq (.no) (.seq (.reg [(3,.dat (.l 1 eInt (List.replicate (n.Qa.length:Int).toNat (0:Int))))]) (.cut (ι:=List Int) (fun j=>(fun (far:List Int)=>(⟨[(1,some (.v (vI to'))),(2,some (.v (vI Qq))),(3,some (.p 0 0)),(7,some (.h 3 0))],[(0,some (.box 26 [.h 1 0,.h 2 0])),(1,some (.shr none (.l 2 Qh n.Qb))),(2,some (.shr none (.l 2 Qj n.Qa))),(3,some (.own 3 (.l 1 eInt far)))],4⟩:St)) j) (fun j=>(fun (far:List Int)=>((F83_j0 n to' Qq)=Lp.done j∧far=List.replicate n.Qa.length (-1)∧far.length=n.Qa.length)) j) (.seqk [(7,0)] (.no) (.blk (.loop (ι:=Nat×(Int×List Int)) (fun i=>(fun (v18:Int) (xs:List Int)=>(⟨[(1,some (.v (vI to'))),(2,some (.v (vI Qq))),(3,some (.p 0 0)),(7,some (.h 3 0)),(17,some (.v (vI ((List.replicate (n.Qa.length:Int).toNat (0:Int)).length:Int)))),(18,some (.v (vI v18)))],[(0,some (.box 26 [.h 1 0,.h 2 0])),(1,some (.shr none (.l 2 Qh n.Qb))),(2,some (.shr none (.l 2 Qj n.Qa))),(3,some (.own 3 (.l 1 eInt xs)))],4⟩:St)) i.2.1 i.2.2) (fun i=>runL (F83_s0 n to' Qq) i.1 i.2=(runL (F83_s0 n to' Qq) ((((List.replicate (n.Qa.length:Int).toNat (0:Int)).length:Int)-0).toNat+1) (0,(List.replicate (n.Qa.length:Int).toNat (0:Int))))∧(fun (v18:Int) (xs:List Int)=>(Int.toNat (((List.replicate (n.Qa.length:Int).toNat (0:Int)).length:Int)-v18)<i.1∧FillI xs v18∧(0:Int)≤v18∧xs.length=(List.replicate (n.Qa.length:Int).toNat (0:Int)).length)) i.2.1 i.2.2) (fun i=>i.1) (((((List.replicate (n.Qa.length:Int).toNat (0:Int)).length:Int)-0).toNat+1),(0,(List.replicate (n.Qa.length:Int).toNat (0:Int)))) (fun i=>(fun (v18:Int) (xs:List Int)=>(.seq (.no) (.seq (.cond (.no) (.no)) (.seq (.blk (.seq (.no) (.reg [(3,.dat (.l 1 eInt (xs.set (v18).toNat (-1))))]))) (.reg [(0,.bnd)]))))) i.2.1 i.2.2)))) (fun j=>(fun (far:List Int)=>(.seq (.reg [(3,.dat (.l 1 eInt (far.set (to').toNat 0)))]) (.seqk [(3,0),(3,1),(7,0),(9,0)] (.reg [(1,.dat (.l 1 eInt ([to']:List Int)))]) (.seq (.blk (.loop (ι:=Nat×(List Int×List Int)) (fun i=>(fun (queue:List Int) (xs1:List Int)=>(⟨[(2,some (.v (vI Qq))),(3,some (.p 0 0)),(7,some (.h 3 0)),(9,some (.h 4 0))],[(0,some (.box 26 [.h 1 0,.h 2 0])),(1,some (.shr none (.l 2 Qh n.Qb))),(2,some (.shr none (.l 2 Qj n.Qa))),(3,some (.own 3 (.l 1 eInt xs1))),(4,some (.own 4 (.l 1 eInt queue)))],5⟩:St)) i.2.1 i.2.2) (fun i=>runL (F83_s1 n to' Qq far) i.1 i.2=(runL (F83_s1 n to' Qq far) ((([to']:List Int).length+negs (far.set (to').toNat 0))+1) (([to']:List Int),(far.set (to').toNat 0)))∧(fun (queue:List Int) (xs1:List Int)=>(queue.length+negs xs1<i.1∧FI n.Qa.length xs1 queue∧queue.length+negs xs1≤n.Qa.length∧xs1.length=n.Qa.length∧xs1.length=(far.set (to').toNat 0).length)) i.2.1 i.2.2) (fun i=>i.1) (((([to']:List Int).length+negs (far.set (to').toNat 0))+1),(([to']:List Int),(far.set (to').toNat 0))) (fun i=>(fun (queue:List Int) (xs1:List Int)=>(.seq (.seq (.no) (.cond (.no) (.no))) (.blk (.seq (.no) (.seq (.reg [(1,.own)]) (.seqk [(3,0),(3,1),(7,0),(9,0)] (.no) (.blk (.loop (ι:=Nat×(List Int×Int×List Int)) (fun i=>(fun (queue1:List Int) (v40:Int) (xs2:List Int)=>(⟨[(2,some (.v (vI Qq))),(3,some (.p 0 0)),(7,some (.h 3 0)),(9,some (.h 4 0)),(10,some (.v (vI (queue.getD (Int.toNat 0) default)))),(39,some (.v (vI (xs1.length:Int)))),(40,some (.v (vI v40)))],[(0,some (.box 26 [.h 1 0,.h 2 0])),(1,some (.shr none (.l 2 Qh n.Qb))),(2,some (.shr none (.l 2 Qj n.Qa))),(3,some (.own 3 (.l 1 eInt xs2))),(4,some (.own 4 (.l 1 eInt queue1)))],5⟩:St)) i.2.1 i.2.2.1 i.2.2.2) (fun i=>runL (F83_s2 n to' Qq far queue xs1) i.1 i.2=(runL (F83_s2 n to' Qq far queue xs1) (((xs1.length:Int)-0).toNat+1) ((queue.drop (Int.toNat 1)),0,xs1))∧(fun (queue1:List Int) (v40:Int) (xs2:List Int)=>(Int.toNat ((xs1.length:Int)-v40)<i.1∧FI n.Qa.length xs2 queue1∧queue1.length+negs xs2+1=queue.length+negs xs1∧(0≤queue.getD (Int.toNat 0) default∧queue.getD (Int.toNat 0) default<(n.Qa.length:Int)∧0≤xs2.getD (queue.getD (Int.toNat 0) default).toNat default)∧xs2.length=n.Qa.length∧(0:Int)≤v40∧xs2.length=xs1.length)) i.2.1 i.2.2.1 i.2.2.2) (fun i=>i.1) ((((xs1.length:Int)-0).toNat+1),((queue.drop (Int.toNat 1)),0,xs1)) (fun i=>(fun (queue1:List Int) (v40:Int) (xs2:List Int)=>(.seq (.no) (.seq (.cond (.no) (.no)) (.seq (.blk (.seq (.no) (.seq (.reg [(10,.call 84 (S84 (decide (0≤Qr n (queue.getD (Int.toNat 0) default) v40∧Qr n (queue.getD (Int.toNat 0) default) v40≠Qq)) n (queue.getD (Int.toNat 0) default) v40 Qq) (oa84 n (queue.getD (Int.toNat 0) default) v40 Qq) none)]) (.cond (.seq (.reg [(8,.dat (.l 1 eInt (xs2.set (v40).toNat (IntKind.i64.wrap ((xs2.getD (queue.getD (Int.toNat 0) default).toNat default)+1)))))]) (.reg [(3,.dat (.l 1 eInt (queue1++[v40])))])) (.no))))) (.reg [(0,.bnd)]))))) i.2.1 i.2.2.1 i.2.2.2))))))))) i.2.1 i.2.2))) (.seq (.no) (.no)))))) j)))) Tryz.func83 (fun (hp:FrameOk n∧0≤to'∧to'<(n.Qa.length:Int)∧n.Qa.length≤8)=>(fun (hpre0:FrameOk n) (hpre1:0≤to') (hpre2:to'<(n.Qa.length:Int)) (hpre3:n.Qa.length≤8)=>ai ((by first | omega | (simp only [lens] at*<;> omega):0≤(n.Qa.length:Int)∧(n.Qa.length:Int)≤(n.Qa.length:Int)∧(8:Int)*(n.Qa.length:Int)≤281474976710656)) (ai ((MakeOK.mk eInt (0:Int) (by exact ai ir (trivial)):MakeOK 1 [.v (vI 0)] (n.Qa.length:Int).toNat (.l 1 eInt (List.replicate (n.Qa.length:Int).toNat (0:Int))))) (ai (fun (_:(List.replicate (n.Qa.length:Int).toNat (0:Int)).length≤9223372036854775807)=>ai (ai (rfl) (ai (rfl) (ai (rfl) (ai (rfl) (ai (ir) (ai (ir) (ai (ir) ((ai (rfl:runL (F83_s0 n to' Qq) ((((List.replicate (n.Qa.length:Int).toNat (0:Int)).length:Int)-0).toNat+1) (0,(List.replicate (n.Qa.length:Int).toNat (0:Int)))=(runL (F83_s0 n to' Qq) ((((List.replicate (n.Qa.length:Int).toNat (0:Int)).length:Int)-0).toNat+1) (0,(List.replicate (n.Qa.length:Int).toNat (0:Int))))) (ai ((Nat.lt_succ_self _:Int.toNat (((List.replicate (n.Qa.length:Int).toNat (0:Int)).length:Int)-0)<((((List.replicate (n.Qa.length:Int).toNat (0:Int)).length:Int)-0).toNat+1))) (ai ((by first | omega | (simp only [lens] at*<;> omega) | exact FillI.zero _ | exact FillI.next (by assumption) (by omega) (by simp only [lens] at *; omega):FillI (List.replicate (n.Qa.length:Int).toNat (0:Int)) 0)) (ai ((by first | omega | (simp only [lens] at*<;> omega) | exact FillI.zero _ | exact FillI.next (by assumption) (by omega) (by simp only [lens] at *; omega):(0:Int)≤0)) ((by first | omega | (simp only [lens] at*<;> omega) | exact FillI.zero _ | exact FillI.next (by assumption) (by omega) (by simp only [lens] at *; omega):(List.replicate (n.Qa.length:Int).toNat (0:Int)).length=(List.replicate (n.Qa.length:Int).toNat (0:Int)).length))))))))))))):((.int .i64 to':Value)=.int .i64 to')∧((.int .i64 Qq:Value)=.int .i64 Qq)∧((.int .i64 ((List.replicate (n.Qa.length:Int).toNat (0:Int)).length:Int):Value)=.int .i64 ((List.replicate (n.Qa.length:Int).toNat (0:Int)).length:Int))∧((.int .i64 0:Value)=.int .i64 0)∧(Imp (.l 2 Qh n.Qb) (.l 2 Qh n.Qb))∧(Imp (.l 2 Qj n.Qa) (.l 2 Qj n.Qa))∧(Imp (.l 1 eInt (List.replicate (n.Qa.length:Int).toNat (0:Int))) (.l 1 eInt (List.replicate (n.Qa.length:Int).toNat (0:Int))))∧(runL (F83_s0 n to' Qq) ((((List.replicate (n.Qa.length:Int).toNat (0:Int)).length:Int)-0).toNat+1) (0,(List.replicate (n.Qa.length:Int).toNat (0:Int)))=(runL (F83_s0 n to' Qq) ((((List.replicate (n.Qa.length:Int).toNat (0:Int)).length:Int)-0).toNat+1) (0,(List.replicate (n.Qa.length:Int).toNat (0:Int))))∧Int.toNat (((List.replicate (n.Qa.length:Int).toNat (0:Int)).length:Int)-0)<((((List.replicate (n.Qa.length:Int).toNat (0:Int)).length:Int)-0).toNat+1)∧FillI (List.replicate (n.Qa.length:Int).toNat (0:Int)) 0∧(0:Int)≤0∧(List.replicate (n.Qa.length:Int).toNat (0:Int)).length=(List.replicate (n.Qa.length:Int).toNat (0:Int)).length)) (fun (i0:Nat×(Int×List Int)) (hi0:runL (F83_s0 n to' Qq) i0.1 i0.2=(runL (F83_s0 n to' Qq) ((((List.replicate (n.Qa.length:Int).toNat (0:Int)).length:Int)-0).toNat+1) (0,(List.replicate (n.Qa.length:Int).toNat (0:Int))))∧(fun (v18:Int) (xs:List Int)=>(Int.toNat (((List.replicate (n.Qa.length:Int).toNat (0:Int)).length:Int)-v18)<i0.1∧FillI xs v18∧(0:Int)≤v18∧xs.length=(List.replicate (n.Qa.length:Int).toNat (0:Int)).length)) i0.2.1 i0.2.2)=>(fun (m0:Nat) (v18:Int) (xs:List Int) (hI0:runL (F83_s0 n to' Qq) (m0+1) (v18,xs)=(runL (F83_s0 n to' Qq) ((((List.replicate (n.Qa.length:Int).toNat (0:Int)).length:Int)-0).toNat+1) (0,(List.replicate (n.Qa.length:Int).toNat (0:Int))))) (_:Int.toNat (((List.replicate (n.Qa.length:Int).toNat (0:Int)).length:Int)-v18)<m0+1) (hl0:m0<i0.1) (_:FillI xs v18) (_:(0:Int)≤v18) (_:xs.length=(List.replicate (n.Qa.length:Int).toNat (0:Int)).length)=>ai (fun h2:(decide (v18<((List.replicate (n.Qa.length:Int).toNat (0:Int)).length:Int)))=true=>(fun _:v18<((List.replicate (n.Qa.length:Int).toNat (0:Int)).length:Int)=>ai ((by first | omega | (simp only [lens] at*<;> omega):0≤v18∧v18<(xs.length:Int))) (ai ((SetOK.mk eInt xs (-1) rfl (by exact ai ir (trivial)):SetOK (.l 1 eInt xs) (v18).toNat (eInt (xs.getD v18.toNat default)) [.v (vI (-1))] (.l 1 eInt (xs.set (v18).toNat (-1))))) (ai ((by unfold i64ok; first | omega | (simp only [lens] at*<;> omega):i64ok (v18+1))) (Exists.intro (p:=fun j:Nat×(Int×List Int)=>(fun (v18_:Int) (xs_:List Int)=>(((.int .i64 to':Value)=.int .i64 to')∧((.int .i64 Qq:Value)=.int .i64 Qq)∧((.int .i64 ((List.replicate (n.Qa.length:Int).toNat (0:Int)).length:Int):Value)=.int .i64 ((List.replicate (n.Qa.length:Int).toNat (0:Int)).length:Int))∧((.int .i64 (v18+1):Value)=.int .i64 v18_)∧(Imp (.l 2 Qh n.Qb) (.l 2 Qh n.Qb))∧(Imp (.l 2 Qj n.Qa) (.l 2 Qj n.Qa))∧(Imp (.l 1 eInt (xs.set (v18).toNat (-1))) (.l 1 eInt xs_))∧((runL (F83_s0 n to' Qq) j.1 j.2=(runL (F83_s0 n to' Qq) ((((List.replicate (n.Qa.length:Int).toNat (0:Int)).length:Int)-0).toNat+1) (0,(List.replicate (n.Qa.length:Int).toNat (0:Int))))∧Int.toNat (((List.replicate (n.Qa.length:Int).toNat (0:Int)).length:Int)-v18_)<j.1∧FillI xs_ v18_∧(0:Int)≤v18_∧xs_.length=(List.replicate (n.Qa.length:Int).toNat (0:Int)).length)∧j.1<i0.1))) j.2.1 j.2.2) (m0,((v18+1),(xs.set (v18).toNat (-1)))) (ai (rfl) (ai (rfl) (ai (rfl) (ai (rfl) (ai (ir) (ai (ir) (ai (ir) (ai (ai (runL_next hI0 (condT h2 (rfl))) (ai ((by first | omega | (simp only [lens] at*<;> omega) | exact FillI.zero _ | exact FillI.next (by assumption) (by omega) (by simp only [lens] at *; omega):Int.toNat (((List.replicate (n.Qa.length:Int).toNat (0:Int)).length:Int)-(v18+1))<m0)) (ai ((by first | omega | (simp only [lens] at*<;> omega) | exact FillI.zero _ | exact FillI.next (by assumption) (by omega) (by simp only [lens] at *; omega):FillI (xs.set (v18).toNat (-1)) (v18+1))) (ai ((by first | omega | (simp only [lens] at*<;> omega) | exact FillI.zero _ | exact FillI.next (by assumption) (by omega) (by simp only [lens] at *; omega):(0:Int)≤(v18+1))) ((by first | omega | (simp only [lens] at*<;> omega) | exact FillI.zero _ | exact FillI.next (by assumption) (by omega) (by simp only [lens] at *; omega):(xs.set (v18).toNat (-1)).length=(List.replicate (n.Qa.length:Int).toNat (0:Int)).length)))))) hl0)))))))))))) (of_decide_eq_true h2)) (fun h2:(decide (v18<((List.replicate (n.Qa.length:Int).toNat (0:Int)).length:Int)))=false=>(fun _:¬ v18<((List.replicate (n.Qa.length:Int).toNat (0:Int)).length:Int)=>(fun hD0_3:(runL (F83_s0 n to' Qq) ((((List.replicate (n.Qa.length:Int).toNat (0:Int)).length:Int)-0).toNat+1) (0,(List.replicate (n.Qa.length:Int).toNat (0:Int))))=Lp.done (v18,xs)=>Exists.intro (p:=fun j:List Int=>(fun (far_:List Int)=>(((.int .i64 to':Value)=.int .i64 to')∧((.int .i64 Qq:Value)=.int .i64 Qq)∧(Imp (.l 2 Qh n.Qb) (.l 2 Qh n.Qb))∧(Imp (.l 2 Qj n.Qa) (.l 2 Qj n.Qa))∧(Imp (.l 1 eInt xs) (.l 1 eInt far_))∧(F83_j0 n to' Qq)=Lp.done j∧far_=List.replicate n.Qa.length (-1)∧far_.length=n.Qa.length)) j) (xs) (ai (rfl) (ai (rfl) (ai (ir) (ai (ir) (ai (ir) (ai (Eq.symm (finD hD0_3 (rfl))) (ai ((by first | omega | (simp only [lens] at*<;> omega) | (simp only [lens] at *; first | omega | exact FillI.done (by assumption) (by omega) (by omega)):xs=List.replicate n.Qa.length (-1))) ((by first | omega | (simp only [lens] at*<;> omega) | (simp only [lens] at *; first | omega | exact FillI.done (by assumption) (by omega) (by omega)):xs.length=n.Qa.length)))))))))) (runL_done hI0 (condF h2 (rfl)))) (of_decide_eq_false h2))) (i0.1-1) i0.2.1 i0.2.2 (hd1 hi0.1 hi0.2.1) (hd2 hi0.2.1) (hd3 hi0.2.1) hi0.2.2.1 hi0.2.2.2.1 hi0.2.2.2.2)) (fun (j:List Int) (hj:(fun (far:List Int)=>((F83_j0 n to' Qq)=Lp.done j∧far=List.replicate n.Qa.length (-1)∧far.length=n.Qa.length)) j)=>(fun (far:List Int) (hJ0_4:(F83_j0 n to' Qq)=Lp.done far) (_:far=List.replicate n.Qa.length (-1)) (_:far.length=n.Qa.length)=>ai ((by first | omega | (simp only [lens] at*<;> omega):0≤to'∧to'<(far.length:Int))) (ai ((SetOK.mk eInt far 0 rfl (by exact ai ir (trivial)):SetOK (.l 1 eInt far) (to').toNat (eInt (far.getD to'.toNat default)) [.v (vI 0)] (.l 1 eInt (far.set (to').toNat 0)))) (ai ((BuildOK.mk eInt ([to']:List Int) rfl (by exact ai ir (trivial)) (fun _=>rfl):BuildOK 1 1 [.v (vI to')] (.l 1 eInt ([to']:List Int)))) (fun (_:n.Qb.length≤9223372036854775807)=>fun (_:n.Qa.length≤9223372036854775807)=>fun (_:(far.set (to').toNat 0).length≤9223372036854775807)=>fun (_:([to']:List Int).length≤9223372036854775807)=>ai (ai (rfl) (ai (ir) (ai (ir) (ai (ir) (ai (ir) ((ai (rfl:runL (F83_s1 n to' Qq far) ((([to']:List Int).length+negs (far.set (to').toNat 0))+1) (([to']:List Int),(far.set (to').toNat 0))=(runL (F83_s1 n to' Qq far) ((([to']:List Int).length+negs (far.set (to').toNat 0))+1) (([to']:List Int),(far.set (to').toNat 0)))) (ai ((Nat.lt_succ_self _:([to']:List Int).length+negs (far.set (to').toNat 0)<((([to']:List Int).length+negs (far.set (to').toNat 0))+1))) (ai ((by first | omega | (simp only [lens] at*<;> omega) | assumption | (subst_vars; exact (FI.init (by assumption) (by assumption)).1) | (subst_vars; have hq:=(FI.init (len:=n.Qa.length) (b:=to') (by assumption) (by assumption)).2; (try simp only [lens]); omega) | (subst_vars; simp only [lens]):FI n.Qa.length (far.set (to').toNat 0) ([to']:List Int))) (ai ((by first | omega | (simp only [lens] at*<;> omega) | assumption | (subst_vars; exact (FI.init (by assumption) (by assumption)).1) | (subst_vars; have hq:=(FI.init (len:=n.Qa.length) (b:=to') (by assumption) (by assumption)).2; (try simp only [lens]); omega) | (subst_vars; simp only [lens]):([to']:List Int).length+negs (far.set (to').toNat 0)≤n.Qa.length)) (ai ((by first | omega | (simp only [lens] at*<;> omega) | assumption | (subst_vars; exact (FI.init (by assumption) (by assumption)).1) | (subst_vars; have hq:=(FI.init (len:=n.Qa.length) (b:=to') (by assumption) (by assumption)).2; (try simp only [lens]); omega) | (subst_vars; simp only [lens]):(far.set (to').toNat 0).length=n.Qa.length)) ((by first | omega | (simp only [lens] at*<;> omega) | assumption | (subst_vars; exact (FI.init (by assumption) (by assumption)).1) | (subst_vars; have hq:=(FI.init (len:=n.Qa.length) (b:=to') (by assumption) (by assumption)).2; (try simp only [lens]); omega) | (subst_vars; simp only [lens]):(far.set (to').toNat 0).length=(far.set (to').toNat 0).length)))))))))))):((.int .i64 Qq:Value)=.int .i64 Qq)∧(Imp (.l 2 Qh n.Qb) (.l 2 Qh n.Qb))∧(Imp (.l 2 Qj n.Qa) (.l 2 Qj n.Qa))∧(Imp (.l 1 eInt (far.set (to').toNat 0)) (.l 1 eInt (far.set (to').toNat 0)))∧(Imp (.l 1 eInt ([to']:List Int)) (.l 1 eInt ([to']:List Int)))∧(runL (F83_s1 n to' Qq far) ((([to']:List Int).length+negs (far.set (to').toNat 0))+1) (([to']:List Int),(far.set (to').toNat 0))=(runL (F83_s1 n to' Qq far) ((([to']:List Int).length+negs (far.set (to').toNat 0))+1) (([to']:List Int),(far.set (to').toNat 0)))∧([to']:List Int).length+negs (far.set (to').toNat 0)<((([to']:List Int).length+negs (far.set (to').toNat 0))+1)∧FI n.Qa.length (far.set (to').toNat 0) ([to']:List Int)∧([to']:List Int).length+negs (far.set (to').toNat 0)≤n.Qa.length∧(far.set (to').toNat 0).length=n.Qa.length∧(far.set (to').toNat 0).length=(far.set (to').toNat 0).length)) (fun (i1:Nat×(List Int×List Int)) (hi1:runL (F83_s1 n to' Qq far) i1.1 i1.2=(runL (F83_s1 n to' Qq far) ((([to']:List Int).length+negs (far.set (to').toNat 0))+1) (([to']:List Int),(far.set (to').toNat 0)))∧(fun (queue:List Int) (xs1:List Int)=>(queue.length+negs xs1<i1.1∧FI n.Qa.length xs1 queue∧queue.length+negs xs1≤n.Qa.length∧xs1.length=n.Qa.length∧xs1.length=(far.set (to').toNat 0).length)) i1.2.1 i1.2.2)=>(fun (m1:Nat) (queue:List Int) (xs1:List Int) (hI1:runL (F83_s1 n to' Qq far) (m1+1) (queue,xs1)=(runL (F83_s1 n to' Qq far) ((([to']:List Int).length+negs (far.set (to').toNat 0))+1) (([to']:List Int),(far.set (to').toNat 0)))) (_:queue.length+negs xs1<m1+1) (hl1:m1<i1.1) (_:FI n.Qa.length xs1 queue) (_:queue.length+negs xs1≤n.Qa.length) (_:xs1.length=n.Qa.length) (_:xs1.length=(far.set (to').toNat 0).length)=>ai (fun h6:(decide ((queue.length:Int)>0))=true=>(fun _:(queue.length:Int)>0=>ai ((by first | omega | (simp only [lens] at*<;> omega):0≤(0:Int)∧(0:Int)<(queue.length:Int))) (ai ((by first | omega | (simp only [lens] at*<;> omega):0≤(1:Int)∧(1:Int)≤(queue.length:Int)∧(queue.length:Int)≤(queue.length:Int))) (fun (_:n.Qb.length≤9223372036854775807)=>fun (_:n.Qa.length≤9223372036854775807)=>fun (_:xs1.length≤9223372036854775807)=>fun (_:(queue.drop (Int.toNat 1)).length≤9223372036854775807)=>ai (ai (rfl) (ai (rfl) (ai (rfl) (ai (rfl) (ai (ir) (ai (ir) (ai (ir) (ai (ir) ((ai (rfl:runL (F83_s2 n to' Qq far queue xs1) (((xs1.length:Int)-0).toNat+1) ((queue.drop (Int.toNat 1)),0,xs1)=(runL (F83_s2 n to' Qq far queue xs1) (((xs1.length:Int)-0).toNat+1) ((queue.drop (Int.toNat 1)),0,xs1))) (ai ((Nat.lt_succ_self _:Int.toNat ((xs1.length:Int)-0)<(((xs1.length:Int)-0).toNat+1))) (ai ((by first | omega | (simp only [lens] at*<;> omega) | assumption | (exact FI.tail (by assumption)) | (exact FI.head (by assumption) (by assumption)) | (exact (FI.next (by assumption) (by assumption) (by omega) (by omega) (by omega) (by omega) (by omega) (by assumption)).1) | (exact ⟨by omega,by omega,(FI.next (by assumption:FI n.Qa.length xs2 queue1) (by assumption) (b:=queue.getD (Int.toNat 0) default) (v:=v40) (by omega) (by omega) (by omega) (by omega) (by omega) (by assumption)).2.2⟩) | (have hq:=FI.next (by assumption:FI n.Qa.length xs2 queue1) (by assumption) (b:=queue.getD (Int.toNat 0) default) (v:=v40) (by omega) (by omega) (by omega) (by omega) (by omega) (by assumption); simp only [lens]; omega):FI n.Qa.length xs1 (queue.drop (Int.toNat 1)))) (ai ((by first | omega | (simp only [lens] at*<;> omega) | assumption | (exact FI.tail (by assumption)) | (exact FI.head (by assumption) (by assumption)) | (exact (FI.next (by assumption) (by assumption) (by omega) (by omega) (by omega) (by omega) (by omega) (by assumption)).1) | (exact ⟨by omega,by omega,(FI.next (by assumption:FI n.Qa.length xs2 queue1) (by assumption) (b:=queue.getD (Int.toNat 0) default) (v:=v40) (by omega) (by omega) (by omega) (by omega) (by omega) (by assumption)).2.2⟩) | (have hq:=FI.next (by assumption:FI n.Qa.length xs2 queue1) (by assumption) (b:=queue.getD (Int.toNat 0) default) (v:=v40) (by omega) (by omega) (by omega) (by omega) (by omega) (by assumption); simp only [lens]; omega):(queue.drop (Int.toNat 1)).length+negs xs1+1=queue.length+negs xs1)) (ai ((by first | omega | (simp only [lens] at*<;> omega) | assumption | (exact FI.tail (by assumption)) | (exact FI.head (by assumption) (by assumption)) | (exact (FI.next (by assumption) (by assumption) (by omega) (by omega) (by omega) (by omega) (by omega) (by assumption)).1) | (exact ⟨by omega,by omega,(FI.next (by assumption:FI n.Qa.length xs2 queue1) (by assumption) (b:=queue.getD (Int.toNat 0) default) (v:=v40) (by omega) (by omega) (by omega) (by omega) (by omega) (by assumption)).2.2⟩) | (have hq:=FI.next (by assumption:FI n.Qa.length xs2 queue1) (by assumption) (b:=queue.getD (Int.toNat 0) default) (v:=v40) (by omega) (by omega) (by omega) (by omega) (by omega) (by assumption); simp only [lens]; omega):0≤queue.getD (Int.toNat 0) default∧queue.getD (Int.toNat 0) default<(n.Qa.length:Int)∧0≤xs1.getD (queue.getD (Int.toNat 0) default).toNat default)) (ai ((by first | omega | (simp only [lens] at*<;> omega) | assumption | (exact FI.tail (by assumption)) | (exact FI.head (by assumption) (by assumption)) | (exact (FI.next (by assumption) (by assumption) (by omega) (by omega) (by omega) (by omega) (by omega) (by assumption)).1) | (exact ⟨by omega,by omega,(FI.next (by assumption:FI n.Qa.length xs2 queue1) (by assumption) (b:=queue.getD (Int.toNat 0) default) (v:=v40) (by omega) (by omega) (by omega) (by omega) (by omega) (by assumption)).2.2⟩) | (have hq:=FI.next (by assumption:FI n.Qa.length xs2 queue1) (by assumption) (b:=queue.getD (Int.toNat 0) default) (v:=v40) (by omega) (by omega) (by omega) (by omega) (by omega) (by assumption); simp only [lens]; omega):xs1.length=n.Qa.length)) (ai ((by first | omega | (simp only [lens] at*<;> omega) | assumption | (exact FI.tail (by assumption)) | (exact FI.head (by assumption) (by assumption)) | (exact (FI.next (by assumption) (by assumption) (by omega) (by omega) (by omega) (by omega) (by omega) (by assumption)).1) | (exact ⟨by omega,by omega,(FI.next (by assumption:FI n.Qa.length xs2 queue1) (by assumption) (b:=queue.getD (Int.toNat 0) default) (v:=v40) (by omega) (by omega) (by omega) (by omega) (by omega) (by assumption)).2.2⟩) | (have hq:=FI.next (by assumption:FI n.Qa.length xs2 queue1) (by assumption) (b:=queue.getD (Int.toNat 0) default) (v:=v40) (by omega) (by omega) (by omega) (by omega) (by omega) (by assumption); simp only [lens]; omega):(0:Int)≤0)) ((by first | omega | (simp only [lens] at*<;> omega) | assumption | (exact FI.tail (by assumption)) | (exact FI.head (by assumption) (by assumption)) | (exact (FI.next (by assumption) (by assumption) (by omega) (by omega) (by omega) (by omega) (by omega) (by assumption)).1) | (exact ⟨by omega,by omega,(FI.next (by assumption:FI n.Qa.length xs2 queue1) (by assumption) (b:=queue.getD (Int.toNat 0) default) (v:=v40) (by omega) (by omega) (by omega) (by omega) (by omega) (by assumption)).2.2⟩) | (have hq:=FI.next (by assumption:FI n.Qa.length xs2 queue1) (by assumption) (b:=queue.getD (Int.toNat 0) default) (v:=v40) (by omega) (by omega) (by omega) (by omega) (by omega) (by assumption); simp only [lens]; omega):xs1.length=xs1.length))))))))))))))))):((.int .i64 Qq:Value)=.int .i64 Qq)∧((.int .i64 (queue.getD (Int.toNat 0) default):Value)=.int .i64 (queue.getD (Int.toNat 0) default))∧((.int .i64 (xs1.length:Int):Value)=.int .i64 (xs1.length:Int))∧((.int .i64 0:Value)=.int .i64 0)∧(Imp (.l 2 Qh n.Qb) (.l 2 Qh n.Qb))∧(Imp (.l 2 Qj n.Qa) (.l 2 Qj n.Qa))∧(Imp (.l 1 eInt xs1) (.l 1 eInt xs1))∧(Imp (.l 1 eInt (queue.drop (Int.toNat 1))) (.l 1 eInt (queue.drop (Int.toNat 1))))∧(runL (F83_s2 n to' Qq far queue xs1) (((xs1.length:Int)-0).toNat+1) ((queue.drop (Int.toNat 1)),0,xs1)=(runL (F83_s2 n to' Qq far queue xs1) (((xs1.length:Int)-0).toNat+1) ((queue.drop (Int.toNat 1)),0,xs1))∧Int.toNat ((xs1.length:Int)-0)<(((xs1.length:Int)-0).toNat+1)∧FI n.Qa.length xs1 (queue.drop (Int.toNat 1))∧(queue.drop (Int.toNat 1)).length+negs xs1+1=queue.length+negs xs1∧(0≤queue.getD (Int.toNat 0) default∧queue.getD (Int.toNat 0) default<(n.Qa.length:Int)∧0≤xs1.getD (queue.getD (Int.toNat 0) default).toNat default)∧xs1.length=n.Qa.length∧(0:Int)≤0∧xs1.length=xs1.length)) (fun (i2:Nat×(List Int×Int×List Int)) (hi2:runL (F83_s2 n to' Qq far queue xs1) i2.1 i2.2=(runL (F83_s2 n to' Qq far queue xs1) (((xs1.length:Int)-0).toNat+1) ((queue.drop (Int.toNat 1)),0,xs1))∧(fun (queue1:List Int) (v40:Int) (xs2:List Int)=>(Int.toNat ((xs1.length:Int)-v40)<i2.1∧FI n.Qa.length xs2 queue1∧queue1.length+negs xs2+1=queue.length+negs xs1∧(0≤queue.getD (Int.toNat 0) default∧queue.getD (Int.toNat 0) default<(n.Qa.length:Int)∧0≤xs2.getD (queue.getD (Int.toNat 0) default).toNat default)∧xs2.length=n.Qa.length∧(0:Int)≤v40∧xs2.length=xs1.length)) i2.2.1 i2.2.2.1 i2.2.2.2)=>(fun (m2:Nat) (queue1:List Int) (v40:Int) (xs2:List Int) (hI2:runL (F83_s2 n to' Qq far queue xs1) (m2+1) (queue1,v40,xs2)=(runL (F83_s2 n to' Qq far queue xs1) (((xs1.length:Int)-0).toNat+1) ((queue.drop (Int.toNat 1)),0,xs1))) (_:Int.toNat ((xs1.length:Int)-v40)<m2+1) (hl2:m2<i2.1) (_:FI n.Qa.length xs2 queue1) (_:queue1.length+negs xs2+1=queue.length+negs xs1) (_:0≤queue.getD (Int.toNat 0) default∧queue.getD (Int.toNat 0) default<(n.Qa.length:Int)∧0≤xs2.getD (queue.getD (Int.toNat 0) default).toNat default) (_:xs2.length=n.Qa.length) (_:(0:Int)≤v40) (_:xs2.length=xs1.length)=>ai (fun h8:(decide (v40<(xs1.length:Int)))=true=>(fun _:v40<(xs1.length:Int)=>ai ((by first | omega | (simp only [lens] at*<;> omega):0≤v40∧v40<(xs2.length:Int))) (ai ((fun k9:(decide ((xs2.getD v40.toNat default)<0))=true=>(fun _:(xs2.getD v40.toNat default)<0=>((by first | assumption | exact Qt.frame (by assumption):FrameOk n))) (of_decide_eq_true k9))) (ai ((fun k10:(decide ((xs2.getD v40.toNat default)<0))=true=>(fun _:(xs2.getD v40.toNat default)<0=>(Imps.refl (Qf n))) (of_decide_eq_true k10))) (ai ((fun k11:(decide ((xs2.getD v40.toNat default)<0))=true=>(fun _:(xs2.getD v40.toNat default)<0=>(Imp.refl (.v (vI (queue.getD (Int.toNat 0) default))))) (of_decide_eq_true k11))) (ai ((fun k12:(decide ((xs2.getD v40.toNat default)<0))=true=>(fun _:(xs2.getD v40.toNat default)<0=>(Imp.refl (.v (vI v40)))) (of_decide_eq_true k12))) (ai ((fun k13:(decide ((xs2.getD v40.toNat default)<0))=true=>(fun _:(xs2.getD v40.toNat default)<0=>(Imp.refl (.v (vI Qq)))) (of_decide_eq_true k13))) (ai (fun h14:(bif decide ((xs2.getD v40.toNat default)<0) then (decide (0≤Qr n (queue.getD (Int.toNat 0) default) v40∧Qr n (queue.getD (Int.toNat 0) default) v40≠Qq)) else false)=true=>(fun _:0≤Qr n (queue.getD (Int.toNat 0) default) v40∧Qr n (queue.getD (Int.toNat 0) default) v40≠Qq=>(fun _:(xs2.getD v40.toNat default)<0=>ai ((by first | omega | (simp only [lens] at*<;> omega):0≤(queue.getD (Int.toNat 0) default)∧(queue.getD (Int.toNat 0) default)<(xs2.length:Int))) (ai ((by first | omega | (simp only [lens] at*<;> omega):0≤v40∧v40<(xs2.length:Int))) (ai ((SetOK.mk eInt xs2 (IntKind.i64.wrap ((xs2.getD (queue.getD (Int.toNat 0) default).toNat default)+1)) rfl (by exact ai ir (trivial)):SetOK (.l 1 eInt xs2) (v40).toNat (eInt (xs2.getD v40.toNat default)) [.v (vI (IntKind.i64.wrap ((xs2.getD (queue.getD (Int.toNat 0) default).toNat default)+1)))] (.l 1 eInt (xs2.set (v40).toNat (IntKind.i64.wrap ((xs2.getD (queue.getD (Int.toNat 0) default).toNat default)+1)))))) (ai ((AppA.mk eInt queue1 [v40] (Imp.refl (.l 1 eInt queue1)) rfl (by exact ai ir (trivial)) (fun _=>rfl):AppA (.l 1 eInt queue1) 1 1 [.v (vI v40)] (.l 1 eInt (queue1++[v40])))) (ai ((by (try simp only [lens]); omega:((queue1++[v40])).length*8≤140737488355328)) (ai ((by unfold i64ok; first | omega | (simp only [lens] at*<;> omega):i64ok (v40+1))) (Exists.intro (p:=fun j:Nat×(List Int×Int×List Int)=>(fun (queue1_:List Int) (v40_:Int) (xs2_:List Int)=>(((.int .i64 Qq:Value)=.int .i64 Qq)∧((.int .i64 (queue.getD (Int.toNat 0) default):Value)=.int .i64 (queue.getD (Int.toNat 0) default))∧((.int .i64 (xs1.length:Int):Value)=.int .i64 (xs1.length:Int))∧((.int .i64 (v40+1):Value)=.int .i64 v40_)∧(Imp (.l 2 Qh n.Qb) (.l 2 Qh n.Qb))∧(Imp (.l 2 Qj n.Qa) (.l 2 Qj n.Qa))∧(Imp (.l 1 eInt (xs2.set (v40).toNat (IntKind.i64.wrap ((xs2.getD (queue.getD (Int.toNat 0) default).toNat default)+1)))) (.l 1 eInt xs2_))∧(Imp (.l 1 eInt (queue1++[v40])) (.l 1 eInt queue1_))∧((runL (F83_s2 n to' Qq far queue xs1) j.1 j.2=(runL (F83_s2 n to' Qq far queue xs1) (((xs1.length:Int)-0).toNat+1) ((queue.drop (Int.toNat 1)),0,xs1))∧Int.toNat ((xs1.length:Int)-v40_)<j.1∧FI n.Qa.length xs2_ queue1_∧queue1_.length+negs xs2_+1=queue.length+negs xs1∧(0≤queue.getD (Int.toNat 0) default∧queue.getD (Int.toNat 0) default<(n.Qa.length:Int)∧0≤xs2_.getD (queue.getD (Int.toNat 0) default).toNat default)∧xs2_.length=n.Qa.length∧(0:Int)≤v40_∧xs2_.length=xs1.length)∧j.1<i2.1))) j.2.1 j.2.2.1 j.2.2.2) (m2,((queue1++[v40]),(v40+1),(xs2.set (v40).toNat (IntKind.i64.wrap ((xs2.getD (queue.getD (Int.toNat 0) default).toNat default)+1))))) (ai (rfl) (ai (rfl) (ai (rfl) (ai (rfl) (ai (ir) (ai (ir) (ai (ir) (ai (ir) (ai (ai (runL_next hI2 (condT h8 (condT h14 (rfl)))) (ai ((by first | omega | (simp only [lens] at*<;> omega) | assumption | (exact FI.tail (by assumption)) | (exact FI.head (by assumption) (by assumption)) | (exact (FI.next (by assumption) (by assumption) (by omega) (by omega) (by omega) (by omega) (by omega) (by assumption)).1) | (exact ⟨by omega,by omega,(FI.next (by assumption:FI n.Qa.length xs2 queue1) (by assumption) (b:=queue.getD (Int.toNat 0) default) (v:=v40) (by omega) (by omega) (by omega) (by omega) (by omega) (by assumption)).2.2⟩) | (have hq:=FI.next (by assumption:FI n.Qa.length xs2 queue1) (by assumption) (b:=queue.getD (Int.toNat 0) default) (v:=v40) (by omega) (by omega) (by omega) (by omega) (by omega) (by assumption); simp only [lens]; omega):Int.toNat ((xs1.length:Int)-(v40+1))<m2)) (ai ((by first | omega | (simp only [lens] at*<;> omega) | assumption | (exact FI.tail (by assumption)) | (exact FI.head (by assumption) (by assumption)) | (exact (FI.next (by assumption) (by assumption) (by omega) (by omega) (by omega) (by omega) (by omega) (by assumption)).1) | (exact ⟨by omega,by omega,(FI.next (by assumption:FI n.Qa.length xs2 queue1) (by assumption) (b:=queue.getD (Int.toNat 0) default) (v:=v40) (by omega) (by omega) (by omega) (by omega) (by omega) (by assumption)).2.2⟩) | (have hq:=FI.next (by assumption:FI n.Qa.length xs2 queue1) (by assumption) (b:=queue.getD (Int.toNat 0) default) (v:=v40) (by omega) (by omega) (by omega) (by omega) (by omega) (by assumption); simp only [lens]; omega):FI n.Qa.length (xs2.set (v40).toNat (IntKind.i64.wrap ((xs2.getD (queue.getD (Int.toNat 0) default).toNat default)+1))) (queue1++[v40]))) (ai ((by first | omega | (simp only [lens] at*<;> omega) | assumption | (exact FI.tail (by assumption)) | (exact FI.head (by assumption) (by assumption)) | (exact (FI.next (by assumption) (by assumption) (by omega) (by omega) (by omega) (by omega) (by omega) (by assumption)).1) | (exact ⟨by omega,by omega,(FI.next (by assumption:FI n.Qa.length xs2 queue1) (by assumption) (b:=queue.getD (Int.toNat 0) default) (v:=v40) (by omega) (by omega) (by omega) (by omega) (by omega) (by assumption)).2.2⟩) | (have hq:=FI.next (by assumption:FI n.Qa.length xs2 queue1) (by assumption) (b:=queue.getD (Int.toNat 0) default) (v:=v40) (by omega) (by omega) (by omega) (by omega) (by omega) (by assumption); simp only [lens]; omega):(queue1++[v40]).length+negs (xs2.set (v40).toNat (IntKind.i64.wrap ((xs2.getD (queue.getD (Int.toNat 0) default).toNat default)+1)))+1=queue.length+negs xs1)) (ai ((by first | omega | (simp only [lens] at*<;> omega) | assumption | (exact FI.tail (by assumption)) | (exact FI.head (by assumption) (by assumption)) | (exact (FI.next (by assumption) (by assumption) (by omega) (by omega) (by omega) (by omega) (by omega) (by assumption)).1) | (exact ⟨by omega,by omega,(FI.next (by assumption:FI n.Qa.length xs2 queue1) (by assumption) (b:=queue.getD (Int.toNat 0) default) (v:=v40) (by omega) (by omega) (by omega) (by omega) (by omega) (by assumption)).2.2⟩) | (have hq:=FI.next (by assumption:FI n.Qa.length xs2 queue1) (by assumption) (b:=queue.getD (Int.toNat 0) default) (v:=v40) (by omega) (by omega) (by omega) (by omega) (by omega) (by assumption); simp only [lens]; omega):0≤queue.getD (Int.toNat 0) default∧queue.getD (Int.toNat 0) default<(n.Qa.length:Int)∧0≤(xs2.set (v40).toNat (IntKind.i64.wrap ((xs2.getD (queue.getD (Int.toNat 0) default).toNat default)+1))).getD (queue.getD (Int.toNat 0) default).toNat default)) (ai ((by first | omega | (simp only [lens] at*<;> omega) | assumption | (exact FI.tail (by assumption)) | (exact FI.head (by assumption) (by assumption)) | (exact (FI.next (by assumption) (by assumption) (by omega) (by omega) (by omega) (by omega) (by omega) (by assumption)).1) | (exact ⟨by omega,by omega,(FI.next (by assumption:FI n.Qa.length xs2 queue1) (by assumption) (b:=queue.getD (Int.toNat 0) default) (v:=v40) (by omega) (by omega) (by omega) (by omega) (by omega) (by assumption)).2.2⟩) | (have hq:=FI.next (by assumption:FI n.Qa.length xs2 queue1) (by assumption) (b:=queue.getD (Int.toNat 0) default) (v:=v40) (by omega) (by omega) (by omega) (by omega) (by omega) (by assumption); simp only [lens]; omega):(xs2.set (v40).toNat (IntKind.i64.wrap ((xs2.getD (queue.getD (Int.toNat 0) default).toNat default)+1))).length=n.Qa.length)) (ai ((by first | omega | (simp only [lens] at*<;> omega) | assumption | (exact FI.tail (by assumption)) | (exact FI.head (by assumption) (by assumption)) | (exact (FI.next (by assumption) (by assumption) (by omega) (by omega) (by omega) (by omega) (by omega) (by assumption)).1) | (exact ⟨by omega,by omega,(FI.next (by assumption:FI n.Qa.length xs2 queue1) (by assumption) (b:=queue.getD (Int.toNat 0) default) (v:=v40) (by omega) (by omega) (by omega) (by omega) (by omega) (by assumption)).2.2⟩) | (have hq:=FI.next (by assumption:FI n.Qa.length xs2 queue1) (by assumption) (b:=queue.getD (Int.toNat 0) default) (v:=v40) (by omega) (by omega) (by omega) (by omega) (by omega) (by assumption); simp only [lens]; omega):(0:Int)≤(v40+1))) ((by first | omega | (simp only [lens] at*<;> omega) | assumption | (exact FI.tail (by assumption)) | (exact FI.head (by assumption) (by assumption)) | (exact (FI.next (by assumption) (by assumption) (by omega) (by omega) (by omega) (by omega) (by omega) (by assumption)).1) | (exact ⟨by omega,by omega,(FI.next (by assumption:FI n.Qa.length xs2 queue1) (by assumption) (b:=queue.getD (Int.toNat 0) default) (v:=v40) (by omega) (by omega) (by omega) (by omega) (by omega) (by assumption)).2.2⟩) | (have hq:=FI.next (by assumption:FI n.Qa.length xs2 queue1) (by assumption) (b:=queue.getD (Int.toNat 0) default) (v:=v40) (by omega) (by omega) (by omega) (by omega) (by omega) (by assumption); simp only [lens]; omega):(xs2.set (v40).toNat (IntKind.i64.wrap ((xs2.getD (queue.getD (Int.toNat 0) default).toNat default)+1))).length=xs1.length))))))))) hl2)))))))))))))))) (of_decide_eq_true (andT1 h14))) (of_decide_eq_true (andT2 h14))) (fun h14:(bif decide ((xs2.getD v40.toNat default)<0) then (decide (0≤Qr n (queue.getD (Int.toNat 0) default) v40∧Qr n (queue.getD (Int.toNat 0) default) v40≠Qq)) else false)=false=>ai ((by unfold i64ok; first | omega | (simp only [lens] at*<;> omega):i64ok (v40+1))) (Exists.intro (p:=fun j:Nat×(List Int×Int×List Int)=>(fun (queue1_:List Int) (v40_:Int) (xs2_:List Int)=>(((.int .i64 Qq:Value)=.int .i64 Qq)∧((.int .i64 (queue.getD (Int.toNat 0) default):Value)=.int .i64 (queue.getD (Int.toNat 0) default))∧((.int .i64 (xs1.length:Int):Value)=.int .i64 (xs1.length:Int))∧((.int .i64 (v40+1):Value)=.int .i64 v40_)∧(Imp (.l 2 Qh n.Qb) (.l 2 Qh n.Qb))∧(Imp (.l 2 Qj n.Qa) (.l 2 Qj n.Qa))∧(Imp (.l 1 eInt xs2) (.l 1 eInt xs2_))∧(Imp (.l 1 eInt queue1) (.l 1 eInt queue1_))∧((runL (F83_s2 n to' Qq far queue xs1) j.1 j.2=(runL (F83_s2 n to' Qq far queue xs1) (((xs1.length:Int)-0).toNat+1) ((queue.drop (Int.toNat 1)),0,xs1))∧Int.toNat ((xs1.length:Int)-v40_)<j.1∧FI n.Qa.length xs2_ queue1_∧queue1_.length+negs xs2_+1=queue.length+negs xs1∧(0≤queue.getD (Int.toNat 0) default∧queue.getD (Int.toNat 0) default<(n.Qa.length:Int)∧0≤xs2_.getD (queue.getD (Int.toNat 0) default).toNat default)∧xs2_.length=n.Qa.length∧(0:Int)≤v40_∧xs2_.length=xs1.length)∧j.1<i2.1))) j.2.1 j.2.2.1 j.2.2.2) (m2,(queue1,(v40+1),xs2)) (ai (rfl) (ai (rfl) (ai (rfl) (ai (rfl) (ai (ir) (ai (ir) (ai (ir) (ai (ir) (ai (ai (runL_next hI2 (condT h8 (condF h14 (rfl)))) (ai ((by first | omega | (simp only [lens] at*<;> omega) | assumption | (exact FI.tail (by assumption)) | (exact FI.head (by assumption) (by assumption)) | (exact (FI.next (by assumption) (by assumption) (by omega) (by omega) (by omega) (by omega) (by omega) (by assumption)).1) | (exact ⟨by omega,by omega,(FI.next (by assumption:FI n.Qa.length xs2 queue1) (by assumption) (b:=queue.getD (Int.toNat 0) default) (v:=v40) (by omega) (by omega) (by omega) (by omega) (by omega) (by assumption)).2.2⟩) | (have hq:=FI.next (by assumption:FI n.Qa.length xs2 queue1) (by assumption) (b:=queue.getD (Int.toNat 0) default) (v:=v40) (by omega) (by omega) (by omega) (by omega) (by omega) (by assumption); simp only [lens]; omega):Int.toNat ((xs1.length:Int)-(v40+1))<m2)) (ai ((by first | omega | (simp only [lens] at*<;> omega) | assumption | (exact FI.tail (by assumption)) | (exact FI.head (by assumption) (by assumption)) | (exact (FI.next (by assumption) (by assumption) (by omega) (by omega) (by omega) (by omega) (by omega) (by assumption)).1) | (exact ⟨by omega,by omega,(FI.next (by assumption:FI n.Qa.length xs2 queue1) (by assumption) (b:=queue.getD (Int.toNat 0) default) (v:=v40) (by omega) (by omega) (by omega) (by omega) (by omega) (by assumption)).2.2⟩) | (have hq:=FI.next (by assumption:FI n.Qa.length xs2 queue1) (by assumption) (b:=queue.getD (Int.toNat 0) default) (v:=v40) (by omega) (by omega) (by omega) (by omega) (by omega) (by assumption); simp only [lens]; omega):FI n.Qa.length xs2 queue1)) (ai ((by first | omega | (simp only [lens] at*<;> omega) | assumption | (exact FI.tail (by assumption)) | (exact FI.head (by assumption) (by assumption)) | (exact (FI.next (by assumption) (by assumption) (by omega) (by omega) (by omega) (by omega) (by omega) (by assumption)).1) | (exact ⟨by omega,by omega,(FI.next (by assumption:FI n.Qa.length xs2 queue1) (by assumption) (b:=queue.getD (Int.toNat 0) default) (v:=v40) (by omega) (by omega) (by omega) (by omega) (by omega) (by assumption)).2.2⟩) | (have hq:=FI.next (by assumption:FI n.Qa.length xs2 queue1) (by assumption) (b:=queue.getD (Int.toNat 0) default) (v:=v40) (by omega) (by omega) (by omega) (by omega) (by omega) (by assumption); simp only [lens]; omega):queue1.length+negs xs2+1=queue.length+negs xs1)) (ai ((by first | omega | (simp only [lens] at*<;> omega) | assumption | (exact FI.tail (by assumption)) | (exact FI.head (by assumption) (by assumption)) | (exact (FI.next (by assumption) (by assumption) (by omega) (by omega) (by omega) (by omega) (by omega) (by assumption)).1) | (exact ⟨by omega,by omega,(FI.next (by assumption:FI n.Qa.length xs2 queue1) (by assumption) (b:=queue.getD (Int.toNat 0) default) (v:=v40) (by omega) (by omega) (by omega) (by omega) (by omega) (by assumption)).2.2⟩) | (have hq:=FI.next (by assumption:FI n.Qa.length xs2 queue1) (by assumption) (b:=queue.getD (Int.toNat 0) default) (v:=v40) (by omega) (by omega) (by omega) (by omega) (by omega) (by assumption); simp only [lens]; omega):0≤queue.getD (Int.toNat 0) default∧queue.getD (Int.toNat 0) default<(n.Qa.length:Int)∧0≤xs2.getD (queue.getD (Int.toNat 0) default).toNat default)) (ai ((by first | omega | (simp only [lens] at*<;> omega) | assumption | (exact FI.tail (by assumption)) | (exact FI.head (by assumption) (by assumption)) | (exact (FI.next (by assumption) (by assumption) (by omega) (by omega) (by omega) (by omega) (by omega) (by assumption)).1) | (exact ⟨by omega,by omega,(FI.next (by assumption:FI n.Qa.length xs2 queue1) (by assumption) (b:=queue.getD (Int.toNat 0) default) (v:=v40) (by omega) (by omega) (by omega) (by omega) (by omega) (by assumption)).2.2⟩) | (have hq:=FI.next (by assumption:FI n.Qa.length xs2 queue1) (by assumption) (b:=queue.getD (Int.toNat 0) default) (v:=v40) (by omega) (by omega) (by omega) (by omega) (by omega) (by assumption); simp only [lens]; omega):xs2.length=n.Qa.length)) (ai ((by first | omega | (simp only [lens] at*<;> omega) | assumption | (exact FI.tail (by assumption)) | (exact FI.head (by assumption) (by assumption)) | (exact (FI.next (by assumption) (by assumption) (by omega) (by omega) (by omega) (by omega) (by omega) (by assumption)).1) | (exact ⟨by omega,by omega,(FI.next (by assumption:FI n.Qa.length xs2 queue1) (by assumption) (b:=queue.getD (Int.toNat 0) default) (v:=v40) (by omega) (by omega) (by omega) (by omega) (by omega) (by assumption)).2.2⟩) | (have hq:=FI.next (by assumption:FI n.Qa.length xs2 queue1) (by assumption) (b:=queue.getD (Int.toNat 0) default) (v:=v40) (by omega) (by omega) (by omega) (by omega) (by omega) (by assumption); simp only [lens]; omega):(0:Int)≤(v40+1))) ((by first | omega | (simp only [lens] at*<;> omega) | assumption | (exact FI.tail (by assumption)) | (exact FI.head (by assumption) (by assumption)) | (exact (FI.next (by assumption) (by assumption) (by omega) (by omega) (by omega) (by omega) (by omega) (by assumption)).1) | (exact ⟨by omega,by omega,(FI.next (by assumption:FI n.Qa.length xs2 queue1) (by assumption) (b:=queue.getD (Int.toNat 0) default) (v:=v40) (by omega) (by omega) (by omega) (by omega) (by omega) (by assumption)).2.2⟩) | (have hq:=FI.next (by assumption:FI n.Qa.length xs2 queue1) (by assumption) (b:=queue.getD (Int.toNat 0) default) (v:=v40) (by omega) (by omega) (by omega) (by omega) (by omega) (by assumption); simp only [lens]; omega):xs2.length=xs1.length))))))))) hl2)))))))))))))))))) (of_decide_eq_true h8)) (fun h8:(decide (v40<(xs1.length:Int)))=false=>(fun _:¬ v40<(xs1.length:Int)=>(fun hD2_15:(runL (F83_s2 n to' Qq far queue xs1) (((xs1.length:Int)-0).toNat+1) ((queue.drop (Int.toNat 1)),0,xs1))=Lp.done (queue1,v40,xs2)=>Exists.intro (p:=fun j:Nat×(List Int×List Int)=>(fun (queue_:List Int) (xs1_:List Int)=>(((.int .i64 Qq:Value)=.int .i64 Qq)∧(Imp (.l 2 Qh n.Qb) (.l 2 Qh n.Qb))∧(Imp (.l 2 Qj n.Qa) (.l 2 Qj n.Qa))∧(Imp (.l 1 eInt xs2) (.l 1 eInt xs1_))∧(Imp (.l 1 eInt queue1) (.l 1 eInt queue_))∧((runL (F83_s1 n to' Qq far) j.1 j.2=(runL (F83_s1 n to' Qq far) ((([to']:List Int).length+negs (far.set (to').toNat 0))+1) (([to']:List Int),(far.set (to').toNat 0)))∧queue_.length+negs xs1_<j.1∧FI n.Qa.length xs1_ queue_∧queue_.length+negs xs1_≤n.Qa.length∧xs1_.length=n.Qa.length∧xs1_.length=(far.set (to').toNat 0).length)∧j.1<i1.1))) j.2.1 j.2.2) (m1,(queue1,xs2)) (ai (rfl) (ai (ir) (ai (ir) (ai (ir) (ai (ir) (ai (ai (runL_next hI1 (condT h6 (finD hD2_15 (rfl)))) (ai ((by first | omega | (simp only [lens] at*<;> omega) | assumption | (subst_vars; exact (FI.init (by assumption) (by assumption)).1) | (subst_vars; have hq:=(FI.init (len:=n.Qa.length) (b:=to') (by assumption) (by assumption)).2; (try simp only [lens]); omega) | (subst_vars; simp only [lens]):queue1.length+negs xs2<m1)) (ai ((by first | omega | (simp only [lens] at*<;> omega) | assumption | (subst_vars; exact (FI.init (by assumption) (by assumption)).1) | (subst_vars; have hq:=(FI.init (len:=n.Qa.length) (b:=to') (by assumption) (by assumption)).2; (try simp only [lens]); omega) | (subst_vars; simp only [lens]):FI n.Qa.length xs2 queue1)) (ai ((by first | omega | (simp only [lens] at*<;> omega) | assumption | (subst_vars; exact (FI.init (by assumption) (by assumption)).1) | (subst_vars; have hq:=(FI.init (len:=n.Qa.length) (b:=to') (by assumption) (by assumption)).2; (try simp only [lens]); omega) | (subst_vars; simp only [lens]):queue1.length+negs xs2≤n.Qa.length)) (ai ((by first | omega | (simp only [lens] at*<;> omega) | assumption | (subst_vars; exact (FI.init (by assumption) (by assumption)).1) | (subst_vars; have hq:=(FI.init (len:=n.Qa.length) (b:=to') (by assumption) (by assumption)).2; (try simp only [lens]); omega) | (subst_vars; simp only [lens]):xs2.length=n.Qa.length)) ((by first | omega | (simp only [lens] at*<;> omega) | assumption | (subst_vars; exact (FI.init (by assumption) (by assumption)).1) | (subst_vars; have hq:=(FI.init (len:=n.Qa.length) (b:=to') (by assumption) (by assumption)).2; (try simp only [lens]); omega) | (subst_vars; simp only [lens]):xs2.length=(far.set (to').toNat 0).length))))))) hl1))))))) (runL_done hI2 (condF h8 (rfl)))) (of_decide_eq_false h8))) (i2.1-1) i2.2.1 i2.2.2.1 i2.2.2.2 (hd1 hi2.1 hi2.2.1) (hd2 hi2.2.1) (hd3 hi2.2.1) hi2.2.2.1 hi2.2.2.2.1 hi2.2.2.2.2.1 hi2.2.2.2.2.2.1 hi2.2.2.2.2.2.2.1 hi2.2.2.2.2.2.2.2)))) (of_decide_eq_true h6)) (fun h6:(decide ((queue.length:Int)>0))=false=>(fun _:¬ (queue.length:Int)>0=>(fun hD1_16:(runL (F83_s1 n to' Qq far) ((([to']:List Int).length+negs (far.set (to').toNat 0))+1) (([to']:List Int),(far.set (to').toNat 0)))=Lp.done (queue,xs1)=>(fun hF:(xs1:List Int)=(F83 n to' Qq)=>ai (Imp.of_eq (congrArg (fun r:List Int=>Dat.l 1 eInt r) hF)) (trivial)) (finD hJ0_4 (finD hD1_16 (rfl)))) (runL_done hI1 (condF h6 (rfl)))) (of_decide_eq_false h6))) (i1.1-1) i1.2.1 i1.2.2 (hd1 hi1.1 hi1.2.1) (hd2 hi1.2.1) (hd3 hi1.2.1) hi1.2.2.1 hi1.2.2.2.1 hi1.2.2.2.2.1 hi1.2.2.2.2.2))))) j hj.1 hj.2.1 hj.2.2)))) hp.1 hp.2.1 hp.2.2.1 hp.2.2.2) (by kernel_rfl)
def F54_s0 (n:Qe) (b:Int) (Qq:Int):(Int×List Int)→Lp (Int×List Int) (List Int):=fun (i40,xs) =>
 bif (decide (i40<(xs.length:Int))) then (.next ((i40+1),(xs.set (i40).toNat (-1)))) else (.done (i40,xs))
def F54_j0 (n:Qe) (b:Int) (Qq:Int):Lp (List Int) (List Int) :=
 (runL (F54_s0 n b Qq) ((((List.replicate (n.Qa.length:Int).toNat (0:Int)).length:Int)-0).toNat+1) (0,(List.replicate (n.Qa.length:Int).toNat (0:Int)))).fin Lp.ret (fun (i40,xs)=>.done xs)
def F54_j9 (n:Qe) (b:Int) (Qq:Int) (far:List Int) (d1:Int) (xs1:List Int) (i41:Int) (xs2:List Int):Lp (List Int) (List Int) :=
 bif (bif ((xs2.getD (n.Qb.getD i41.toNat default).A.toNat default)==d1) then decide ((xs2.getD (n.Qb.getD i41.toNat default).B.toNat default)<0) else false) then (.done (xs2.set (n.Qb.getD i41.toNat default).B.toNat (d1+1))) else (.done xs2)
def F54_s2 (n:Qe) (b:Int) (Qq:Int) (far:List Int) (d1:Int) (xs1:List Int):(Int×List Int)→Lp (Int×List Int) (List Int):=fun (i41,xs2) =>
 bif (decide (i41<(n.Qb.length:Int))) then (bif (i41==Qq) then (.next ((i41+1),xs2)) else ((F54_j9 n b Qq far d1 xs1 i41 xs2).fin Lp.ret (fun xs3=>bif (bif ((xs3.getD (n.Qb.getD i41.toNat default).B.toNat default)==d1) then decide ((xs3.getD (n.Qb.getD i41.toNat default).A.toNat default)<0) else false) then (.next ((i41+1),(xs3.set (n.Qb.getD i41.toNat default).A.toNat (d1+1)))) else (.next ((i41+1),xs3))))) else (.done (i41,xs2))
def F54_s1 (n:Qe) (b:Int) (Qq:Int) (far:List Int):(Int×List Int)→Lp (Int×List Int) (List Int):=fun (d1,xs1) =>
 bif (decide (d1<(xs1.length:Int))) then ((runL (F54_s2 n b Qq far d1 xs1) (((n.Qb.length:Int)-0).toNat+1) (0,xs1)).fin Lp.ret (fun (i41,xs2)=>.next ((d1+1),xs2))) else (.done (d1,xs1))
def F54 (n:Qe) (b:Int) (Qq:Int):List Int :=
 (F54_j0 n b Qq).fin (fun r=>r) (fun far=>(runL (F54_s1 n b Qq far) ((((far.set (b).toNat 0).length:Int)-0).toNat+1) (0,(far.set (b).toNat 0))).fin (fun r=>r) (fun (d1,xs1)=>xs1))
def S54 (n:Qe) (b:Int) (Qq:Int):Spec:=⟨[.r (.g (Qf n)),.r (.c (.v (vI b))),.r (.c (.v (vI Qq)))],.ow (.l 1 eInt (F54 n b Qq)),FrameOk n∧0≤b∧b<(n.Qa.length:Int)∧n.Qa.length≤8⟩
abbrev q54_1 (n:Qe):=(List.replicate (n.Qa.length:Int).toNat (0:Int))
abbrev q54_2 (n:Qe) (i41:Int):=(n.Qb.getD i41.toNat default)
abbrev q54_3 (n:Qe) (b:Int) (Qq:Int) (far:List Int):=(runL (F54_s1 n b Qq far) ((((far.set (b).toNat 0).length:Int)-0).toNat+1) (0,(far.set (b).toNat 0)))
abbrev q54_4 (n:Qe):=(Imp (.l 2 Qh n.Qb) (.l 2 Qh n.Qb))
abbrev q54_5 (n:Qe):=(Imp (.l 2 Qj n.Qa) (.l 2 Qj n.Qa))
abbrev q54_6 (n:Qe) (b:Int) (Qq:Int) (far:List Int) (d1:Int) (xs1:List Int):=(runL (F54_s2 n b Qq far d1 xs1) (((n.Qb.length:Int)-0).toNat+1) (0,xs1))
abbrev q54_7 (n:Qe) (b:Int) (Qq:Int):=(runL (F54_s0 n b Qq) ((((q54_1 n).length:Int)-0).toNat+1) (0,(q54_1 n)))
abbrev q54_8 (n:Qe) (i41:Int):=(n.Qb.getD (i41+1).toNat default)
abbrev q54_9 (n:Qe):=(n.Qb.getD (Int.toNat 0) default)
theorem ok54 (n:Qe) (b:Int) (Qq:Int):(S54 n b Qq).ok Tryz.prog 54 :=
 fnG_ok mixed (fn:=Tryz.f54) (ct:=.seq (.no) (.seq (.reg [(3,.dat (.l 1 eInt (q54_1 n)))]) (.cut (ι:=List Int) (fun j=>(fun (far:List Int)=>(⟨[(1,some (.v (vI b))),(2,some (.v (vI Qq))),(3,some (.p 0 0)),(7,some (.h 3 0))],[(0,some (.box 26 [.h 1 0,.h 2 0])),(1,some (.shr none (.l 2 Qh n.Qb))),(2,some (.shr none (.l 2 Qj n.Qa))),(3,some (.own 3 (.l 1 eInt far)))],4⟩:St)) j) (fun j=>(fun (far:List Int)=>((F54_j0 n b Qq)=Lp.done j∧far.length=n.Qa.length)) j) (.seqk [(7,0)] (.no) (.blk (.loop (ι:=Nat×(Int×List Int)) (fun i=>(fun (i40:Int) (xs:List Int)=>(⟨[(1,some (.v (vI b))),(2,some (.v (vI Qq))),(3,some (.p 0 0)),(7,some (.h 3 0)),(8,some (.v (vI i40)))],[(0,some (.box 26 [.h 1 0,.h 2 0])),(1,some (.shr none (.l 2 Qh n.Qb))),(2,some (.shr none (.l 2 Qj n.Qa))),(3,some (.own 3 (.l 1 eInt xs)))],4⟩:St)) i.2.1 i.2.2) (fun i=>runL (F54_s0 n b Qq) i.1 i.2=(q54_7 n b Qq)∧(fun (i40:Int) (xs:List Int)=>(Int.toNat ((xs.length:Int)-i40)<i.1∧(0:Int)≤i40∧xs.length=(q54_1 n).length)) i.2.1 i.2.2) (fun i=>i.1) (((((q54_1 n).length:Int)-0).toNat+1),(0,(q54_1 n))) (fun i=>(fun (i40:Int) (xs:List Int)=>(.seq (.seq (.no) (.cond (.no) (.no))) (.seq (.blk (.reg [(3,.dat (.l 1 eInt (xs.set (i40).toNat (-1))))])) (.reg [(1,.bnd)])))) i.2.1 i.2.2)))) (fun j=>(fun (far:List Int)=>(.seq (.reg [(3,.dat (.l 1 eInt (far.set (b).toNat 0)))]) (.seq (.seqk [(3,0),(3,1),(7,0)] (.no) (.blk (.loop (ι:=Nat×(Int×List Int)) (fun i=>(fun (d1:Int) (xs1:List Int)=>(⟨[(2,some (.v (vI Qq))),(3,some (.p 0 0)),(7,some (.h 3 0)),(9,some (.v (vI d1)))],[(0,some (.box 26 [.h 1 0,.h 2 0])),(1,some (.shr none (.l 2 Qh n.Qb))),(2,some (.shr none (.l 2 Qj n.Qa))),(3,some (.own 3 (.l 1 eInt xs1)))],4⟩:St)) i.2.1 i.2.2) (fun i=>runL (F54_s1 n b Qq far) i.1 i.2=(q54_3 n b Qq far)∧(fun (d1:Int) (xs1:List Int)=>(Int.toNat ((xs1.length:Int)-d1)<i.1∧xs1.length=n.Qa.length∧(0:Int)≤d1∧xs1.length=(far.set (b).toNat 0).length)) i.2.1 i.2.2) (fun i=>i.1) (((((far.set (b).toNat 0).length:Int)-0).toNat+1),(0,(far.set (b).toNat 0))) (fun i=>(fun (d1:Int) (xs1:List Int)=>(.seq (.seq (.no) (.cond (.no) (.no))) (.seq (.blk (.seqk [(3,0),(3,1),(7,0)] (.no) (.blk (.loop (ι:=Nat×(Int×List Int)) (fun i=>(fun (i41:Int) (xs2:List Int)=>(⟨[(2,some (.v (vI Qq))),(3,some (.p 0 0)),(7,some (.h 3 0)),(9,some (.v (vI d1))),(10,some (.v (vI i41)))],[(0,some (.box 26 [.h 1 0,.h 2 0])),(1,some (.shr none (.l 2 Qh n.Qb))),(2,some (.shr none (.l 2 Qj n.Qa))),(3,some (.own 3 (.l 1 eInt xs2)))],4⟩:St)) i.2.1 i.2.2) (fun i=>runL (F54_s2 n b Qq far d1 xs1) i.1 i.2=(q54_6 n b Qq far d1 xs1)∧(fun (i41:Int) (xs2:List Int)=>(Int.toNat ((n.Qb.length:Int)-i41)<i.1∧xs2.length=n.Qa.length∧(i41<(n.Qb.length:Int)→0≤(q54_2 n i41).A∧(q54_2 n i41).A<(n.Qa.length:Int)∧0≤(q54_2 n i41).B∧(q54_2 n i41).B<(n.Qa.length:Int))∧(0:Int)≤i41∧xs2.length=xs1.length)) i.2.1 i.2.2) (fun i=>i.1) ((((n.Qb.length:Int)-0).toNat+1),(0,xs1)) (fun i=>(fun (i41:Int) (xs2:List Int)=>(.seq (.seq (.no) (.cond (.no) (.no))) (.seq (.blk (.seq (.no) (.seq (.seq (.no) (.cond (.no) (.no))) (.cut (ι:=List Int) (fun j=>(fun (xs3:List Int)=>(⟨[(2,some (.v (vI Qq))),(3,some (.p 0 0)),(7,some (.h 3 0)),(9,some (.v (vI d1))),(10,some (.v (vI i41))),(11,some (.p 4 0))],[(0,some (.box 26 [.h 1 0,.h 2 0])),(1,some (.shr none (.l 2 Qh n.Qb))),(2,some (.shr none (.l 2 Qj n.Qa))),(3,some (.own 3 (.l 1 eInt xs3))),(4,some (.box 64 [.v (vI (q54_2 n i41).A),.v (vI (q54_2 n i41).B)]))],5⟩:St)) j) (fun j=>(fun (xs3:List Int)=>((F54_j9 n b Qq far d1 xs1 i41 xs2)=Lp.done j∧xs3.length=xs2.length)) j) (.seq (.no) (.cond (.reg [(4,.bnd),(6,.dat (.l 1 eInt (xs2.set (q54_2 n i41).B.toNat (d1+1))))]) (.no))) (fun j=>(fun (xs3:List Int)=>(.seq (.no) (.cond (.reg [(4,.bnd),(6,.dat (.l 1 eInt (xs3.set (q54_2 n i41).A.toNat (d1+1))))]) (.no)))) j))))) (.reg [(1,.bnd)])))) i.2.1 i.2.2))))) (.reg [(1,.bnd)])))) i.2.1 i.2.2)))) (.seq (.no) (.no))))) j)))) Tryz.func54 (fun (hp:FrameOk n∧0≤b∧b<(n.Qa.length:Int)∧n.Qa.length≤8)=>(fun (hpre0:FrameOk n) (hpre1:0≤b) (hpre2:b<(n.Qa.length:Int)) (hpre3:n.Qa.length≤8)=>ai ((by first | omega | (simp only [lens] at*<;> omega):0≤(n.Qa.length:Int)∧(n.Qa.length:Int)≤(n.Qa.length:Int)∧(8:Int)*(n.Qa.length:Int)≤281474976710656)) (ai ((MakeOK.mk eInt (0:Int) (by exact ai ir (trivial)):MakeOK 1 [.v (vI 0)] (n.Qa.length:Int).toNat (.l 1 eInt (q54_1 n)))) (ai (fun (_:(q54_1 n).length≤9223372036854775807)=>ai (ai (rfl) (ai (rfl) (ai (rfl) (ai (ir) (ai (ir) (ai (ir) ((ai (rfl:runL (F54_s0 n b Qq) ((((q54_1 n).length:Int)-0).toNat+1) (0,(q54_1 n))=(q54_7 n b Qq)) (ai ((Nat.lt_succ_self _:Int.toNat (((q54_1 n).length:Int)-0)<((((q54_1 n).length:Int)-0).toNat+1))) (ai ((by first | omega | (simp only [lens] at*<;> omega):(0:Int)≤0)) ((by first | omega | (simp only [lens] at*<;> omega):(q54_1 n).length=(q54_1 n).length))))))))))):((.int .i64 b:Value)=.int .i64 b)∧((.int .i64 Qq:Value)=.int .i64 Qq)∧((.int .i64 0:Value)=.int .i64 0)∧(q54_4 n)∧(q54_5 n)∧(Imp (.l 1 eInt (q54_1 n)) (.l 1 eInt (q54_1 n)))∧(runL (F54_s0 n b Qq) ((((q54_1 n).length:Int)-0).toNat+1) (0,(q54_1 n))=(q54_7 n b Qq)∧Int.toNat (((q54_1 n).length:Int)-0)<((((q54_1 n).length:Int)-0).toNat+1)∧(0:Int)≤0∧(q54_1 n).length=(q54_1 n).length)) (fun (i0:Nat×(Int×List Int)) (hi0:runL (F54_s0 n b Qq) i0.1 i0.2=(q54_7 n b Qq)∧(fun (i40:Int) (xs:List Int)=>(Int.toNat ((xs.length:Int)-i40)<i0.1∧(0:Int)≤i40∧xs.length=(q54_1 n).length)) i0.2.1 i0.2.2)=>(fun (m0:Nat) (i40:Int) (xs:List Int) (hI0:runL (F54_s0 n b Qq) (m0+1) (i40,xs)=(q54_7 n b Qq)) (_:Int.toNat ((xs.length:Int)-i40)<m0+1) (hl0:m0<i0.1) (_:(0:Int)≤i40) (_:xs.length=(q54_1 n).length)=>ai (fun h2:(decide (i40<(xs.length:Int)))=true=>(fun _:i40<(xs.length:Int)=>ai ((by first | omega | (simp only [lens] at*<;> omega):0≤i40∧i40<(xs.length:Int))) (ai ((SetOK.mk eInt xs (-1) rfl (by exact ai ir (trivial)):SetOK (.l 1 eInt xs) (i40).toNat (eInt (xs.getD i40.toNat default)) [.v (vI (-1))] (.l 1 eInt (xs.set (i40).toNat (-1))))) (ai ((by unfold i64ok; first | omega | (simp only [lens] at*<;> omega):i64ok (i40+1))) (Exists.intro (p:=fun j:Nat×(Int×List Int)=>(fun (i40_:Int) (xs_:List Int)=>(((.int .i64 b:Value)=.int .i64 b)∧((.int .i64 Qq:Value)=.int .i64 Qq)∧((.int .i64 (i40+1):Value)=.int .i64 i40_)∧(q54_4 n)∧(q54_5 n)∧(Imp (.l 1 eInt (xs.set (i40).toNat (-1))) (.l 1 eInt xs_))∧((runL (F54_s0 n b Qq) j.1 j.2=(q54_7 n b Qq)∧Int.toNat ((xs_.length:Int)-i40_)<j.1∧(0:Int)≤i40_∧xs_.length=(q54_1 n).length)∧j.1<i0.1))) j.2.1 j.2.2) (m0,((i40+1),(xs.set (i40).toNat (-1)))) (ai (rfl) (ai (rfl) (ai (rfl) (ai (ir) (ai (ir) (ai (ir) (ai (ai (runL_next hI0 (condT h2 (rfl))) (ai ((by first | omega | (simp only [lens] at*<;> omega):Int.toNat (((xs.set (i40).toNat (-1)).length:Int)-(i40+1))<m0)) (ai ((by first | omega | (simp only [lens] at*<;> omega):(0:Int)≤(i40+1))) ((by first | omega | (simp only [lens] at*<;> omega):(xs.set (i40).toNat (-1)).length=(q54_1 n).length))))) hl0))))))))))) (of_decide_eq_true h2)) (fun h2:(decide (i40<(xs.length:Int)))=false=>(fun _:¬ i40<(xs.length:Int)=>(fun hD0_3:(q54_7 n b Qq)=Lp.done (i40,xs)=>Exists.intro (p:=fun j:List Int=>(fun (far_:List Int)=>(((.int .i64 b:Value)=.int .i64 b)∧((.int .i64 Qq:Value)=.int .i64 Qq)∧(q54_4 n)∧(q54_5 n)∧(Imp (.l 1 eInt xs) (.l 1 eInt far_))∧(F54_j0 n b Qq)=Lp.done j∧far_.length=n.Qa.length)) j) (xs) (ai (rfl) (ai (rfl) (ai (ir) (ai (ir) (ai (ir) (ai (Eq.symm (finD hD0_3 (rfl))) ((by first | omega | (simp only [lens] at*<;> omega):xs.length=n.Qa.length))))))))) (runL_done hI0 (condF h2 (rfl)))) (of_decide_eq_false h2))) (i0.1-1) i0.2.1 i0.2.2 (hd1 hi0.1 hi0.2.1) (hd2 hi0.2.1) (hd3 hi0.2.1) hi0.2.2.1 hi0.2.2.2)) (fun (j:List Int) (hj:(fun (far:List Int)=>((F54_j0 n b Qq)=Lp.done j∧far.length=n.Qa.length)) j)=>(fun (far:List Int) (hJ0_4:(F54_j0 n b Qq)=Lp.done far) (_:far.length=n.Qa.length)=>ai ((by first | omega | (simp only [lens] at*<;> omega):0≤b∧b<(far.length:Int))) (ai ((SetOK.mk eInt far 0 rfl (by exact ai ir (trivial)):SetOK (.l 1 eInt far) (b).toNat (eInt (far.getD b.toNat default)) [.v (vI 0)] (.l 1 eInt (far.set (b).toNat 0)))) (fun (_:n.Qb.length≤9223372036854775807)=>fun (_:n.Qa.length≤9223372036854775807)=>fun (_:(far.set (b).toNat 0).length≤9223372036854775807)=>ai (ai (rfl) (ai (rfl) (ai (ir) (ai (ir) (ai (ir) ((ai (rfl:runL (F54_s1 n b Qq far) ((((far.set (b).toNat 0).length:Int)-0).toNat+1) (0,(far.set (b).toNat 0))=(q54_3 n b Qq far)) (ai ((Nat.lt_succ_self _:Int.toNat (((far.set (b).toNat 0).length:Int)-0)<((((far.set (b).toNat 0).length:Int)-0).toNat+1))) (ai ((by first | omega | (simp only [lens] at*<;> omega):(far.set (b).toNat 0).length=n.Qa.length)) (ai ((by first | omega | (simp only [lens] at*<;> omega):(0:Int)≤0)) ((by first | omega | (simp only [lens] at*<;> omega):(far.set (b).toNat 0).length=(far.set (b).toNat 0).length))))))))))):((.int .i64 Qq:Value)=.int .i64 Qq)∧((.int .i64 0:Value)=.int .i64 0)∧(q54_4 n)∧(q54_5 n)∧(Imp (.l 1 eInt (far.set (b).toNat 0)) (.l 1 eInt (far.set (b).toNat 0)))∧(runL (F54_s1 n b Qq far) ((((far.set (b).toNat 0).length:Int)-0).toNat+1) (0,(far.set (b).toNat 0))=(q54_3 n b Qq far)∧Int.toNat (((far.set (b).toNat 0).length:Int)-0)<((((far.set (b).toNat 0).length:Int)-0).toNat+1)∧(far.set (b).toNat 0).length=n.Qa.length∧(0:Int)≤0∧(far.set (b).toNat 0).length=(far.set (b).toNat 0).length)) (fun (i1:Nat×(Int×List Int)) (hi1:runL (F54_s1 n b Qq far) i1.1 i1.2=(q54_3 n b Qq far)∧(fun (d1:Int) (xs1:List Int)=>(Int.toNat ((xs1.length:Int)-d1)<i1.1∧xs1.length=n.Qa.length∧(0:Int)≤d1∧xs1.length=(far.set (b).toNat 0).length)) i1.2.1 i1.2.2)=>(fun (m1:Nat) (d1:Int) (xs1:List Int) (hI1:runL (F54_s1 n b Qq far) (m1+1) (d1,xs1)=(q54_3 n b Qq far)) (_:Int.toNat ((xs1.length:Int)-d1)<m1+1) (hl1:m1<i1.1) (_:xs1.length=n.Qa.length) (_:(0:Int)≤d1) (_:xs1.length=(far.set (b).toNat 0).length)=>ai (fun h6:(decide (d1<(xs1.length:Int)))=true=>(fun _:d1<(xs1.length:Int)=>fun (_:n.Qb.length≤9223372036854775807)=>fun (_:n.Qa.length≤9223372036854775807)=>fun (_:xs1.length≤9223372036854775807)=>ai (ai (rfl) (ai (rfl) (ai (rfl) (ai (ir) (ai (ir) (ai (ir) ((ai (rfl:runL (F54_s2 n b Qq far d1 xs1) (((n.Qb.length:Int)-0).toNat+1) (0,xs1)=(q54_6 n b Qq far d1 xs1)) (ai ((Nat.lt_succ_self _:Int.toNat ((n.Qb.length:Int)-0)<(((n.Qb.length:Int)-0).toNat+1))) (ai ((by first | omega | (simp only [lens] at*<;> omega) | exact fun hi=>link_in (by assumption) (by omega) hi:xs1.length=n.Qa.length)) (ai ((by first | omega | (simp only [lens] at*<;> omega) | exact fun hi=>link_in (by assumption) (by omega) hi:0<(n.Qb.length:Int)→0≤(q54_9 n).A∧(q54_9 n).A<(n.Qa.length:Int)∧0≤(q54_9 n).B∧(q54_9 n).B<(n.Qa.length:Int))) (ai ((by first | omega | (simp only [lens] at*<;> omega) | exact fun hi=>link_in (by assumption) (by omega) hi:(0:Int)≤0)) ((by first | omega | (simp only [lens] at*<;> omega) | exact fun hi=>link_in (by assumption) (by omega) hi:xs1.length=xs1.length))))))))))))):((.int .i64 Qq:Value)=.int .i64 Qq)∧((.int .i64 d1:Value)=.int .i64 d1)∧((.int .i64 0:Value)=.int .i64 0)∧(q54_4 n)∧(q54_5 n)∧(Imp (.l 1 eInt xs1) (.l 1 eInt xs1))∧(runL (F54_s2 n b Qq far d1 xs1) (((n.Qb.length:Int)-0).toNat+1) (0,xs1)=(q54_6 n b Qq far d1 xs1)∧Int.toNat ((n.Qb.length:Int)-0)<(((n.Qb.length:Int)-0).toNat+1)∧xs1.length=n.Qa.length∧(0<(n.Qb.length:Int)→0≤(q54_9 n).A∧(q54_9 n).A<(n.Qa.length:Int)∧0≤(q54_9 n).B∧(q54_9 n).B<(n.Qa.length:Int))∧(0:Int)≤0∧xs1.length=xs1.length)) (fun (i2:Nat×(Int×List Int)) (hi2:runL (F54_s2 n b Qq far d1 xs1) i2.1 i2.2=(q54_6 n b Qq far d1 xs1)∧(fun (i41:Int) (xs2:List Int)=>(Int.toNat ((n.Qb.length:Int)-i41)<i2.1∧xs2.length=n.Qa.length∧(i41<(n.Qb.length:Int)→0≤(q54_2 n i41).A∧(q54_2 n i41).A<(n.Qa.length:Int)∧0≤(q54_2 n i41).B∧(q54_2 n i41).B<(n.Qa.length:Int))∧(0:Int)≤i41∧xs2.length=xs1.length)) i2.2.1 i2.2.2)=>(fun (m2:Nat) (i41:Int) (xs2:List Int) (hI2:runL (F54_s2 n b Qq far d1 xs1) (m2+1) (i41,xs2)=(q54_6 n b Qq far d1 xs1)) (_:Int.toNat ((n.Qb.length:Int)-i41)<m2+1) (hl2:m2<i2.1) (_:xs2.length=n.Qa.length) (_:i41<(n.Qb.length:Int)→0≤(q54_2 n i41).A∧(q54_2 n i41).A<(n.Qa.length:Int)∧0≤(q54_2 n i41).B∧(q54_2 n i41).B<(n.Qa.length:Int)) (_:(0:Int)≤i41) (_:xs2.length=xs1.length)=>ai (fun h8:(decide (i41<(n.Qb.length:Int)))=true=>(fun _:i41<(n.Qb.length:Int)=>ai ((by first | omega | (simp only [lens] at*<;> omega):0≤i41∧i41<(n.Qb.length:Int))) (ai (fun h9:(i41==Qq)=true=>(fun _:i41=Qq=>ai ((by unfold i64ok; first | omega | (simp only [lens] at*<;> omega):i64ok (i41+1))) (Exists.intro (p:=fun j:Nat×(Int×List Int)=>(fun (i41_:Int) (xs2_:List Int)=>(((.int .i64 Qq:Value)=.int .i64 Qq)∧((.int .i64 d1:Value)=.int .i64 d1)∧((.int .i64 (i41+1):Value)=.int .i64 i41_)∧(q54_4 n)∧(q54_5 n)∧(Imp (.l 1 eInt xs2) (.l 1 eInt xs2_))∧((runL (F54_s2 n b Qq far d1 xs1) j.1 j.2=(q54_6 n b Qq far d1 xs1)∧Int.toNat ((n.Qb.length:Int)-i41_)<j.1∧xs2_.length=n.Qa.length∧(i41_<(n.Qb.length:Int)→0≤(n.Qb.getD i41_.toNat default).A∧(n.Qb.getD i41_.toNat default).A<(n.Qa.length:Int)∧0≤(n.Qb.getD i41_.toNat default).B∧(n.Qb.getD i41_.toNat default).B<(n.Qa.length:Int))∧(0:Int)≤i41_∧xs2_.length=xs1.length)∧j.1<i2.1))) j.2.1 j.2.2) (m2,((i41+1),xs2)) (ai (rfl) (ai (rfl) (ai (rfl) (ai (ir) (ai (ir) (ai (ir) (ai (ai (runL_next hI2 (condT h8 (condT h9 (rfl)))) (ai ((by first | omega | (simp only [lens] at*<;> omega) | exact fun hi=>link_in (by assumption) (by omega) hi:Int.toNat ((n.Qb.length:Int)-(i41+1))<m2)) (ai ((by first | omega | (simp only [lens] at*<;> omega) | exact fun hi=>link_in (by assumption) (by omega) hi:xs2.length=n.Qa.length)) (ai ((by first | omega | (simp only [lens] at*<;> omega) | exact fun hi=>link_in (by assumption) (by omega) hi:(i41+1)<(n.Qb.length:Int)→0≤(q54_8 n i41).A∧(q54_8 n i41).A<(n.Qa.length:Int)∧0≤(q54_8 n i41).B∧(q54_8 n i41).B<(n.Qa.length:Int))) (ai ((by first | omega | (simp only [lens] at*<;> omega) | exact fun hi=>link_in (by assumption) (by omega) hi:(0:Int)≤(i41+1))) ((by first | omega | (simp only [lens] at*<;> omega) | exact fun hi=>link_in (by assumption) (by omega) hi:xs2.length=xs1.length))))))) hl2))))))))) (eq_of_beq h9)) (fun h9:(i41==Qq)=false=>(fun _:¬ i41=Qq=>ai (ai ((by first | omega | (simp only [lens] at*<;> omega):0≤(q54_2 n i41).A∧(q54_2 n i41).A<(xs2.length:Int))) (ai ((fun k10:((xs2.getD (q54_2 n i41).A.toNat default)==d1)=true=>(fun _:(xs2.getD (q54_2 n i41).A.toNat default)=d1=>(by first | omega | (simp only [lens] at*<;> omega):0≤(q54_2 n i41).B∧(q54_2 n i41).B<(xs2.length:Int))) (eq_of_beq k10))) (ai (fun h11:(bif ((xs2.getD (q54_2 n i41).A.toNat default)==d1) then decide ((xs2.getD (q54_2 n i41).B.toNat default)<0) else false)=true=>(fun _:(xs2.getD (q54_2 n i41).B.toNat default)<0=>(fun _:(xs2.getD (q54_2 n i41).A.toNat default)=d1=>ai ((by unfold i64ok; first | omega | (simp only [lens] at*<;> omega):i64ok (d1+1))) (ai ((by first | omega | (simp only [lens] at*<;> omega):0≤(q54_2 n i41).B∧(q54_2 n i41).B<(xs2.length:Int))) (ai ((SetOK.mk eInt xs2 (d1+1) rfl (by exact ai ir (trivial)):SetOK (.l 1 eInt xs2) (q54_2 n i41).B.toNat (eInt (xs2.getD (q54_2 n i41).B.toNat default)) [.v (vI (d1+1))] (.l 1 eInt (xs2.set (q54_2 n i41).B.toNat (d1+1))))) (Exists.intro (p:=fun j:List Int=>(fun (xs3_:List Int)=>(((.int .i64 Qq:Value)=.int .i64 Qq)∧((.int .i64 d1:Value)=.int .i64 d1)∧((.int .i64 i41:Value)=.int .i64 i41)∧(q54_4 n)∧(q54_5 n)∧(Imp (.l 1 eInt (xs2.set (q54_2 n i41).B.toNat (d1+1))) (.l 1 eInt xs3_))∧((.int .i64 (q54_2 n i41).A:Value)=.int .i64 (q54_2 n i41).A)∧((.int .i64 (q54_2 n i41).B:Value)=.int .i64 (q54_2 n i41).B)∧(F54_j9 n b Qq far d1 xs1 i41 xs2)=Lp.done j∧xs3_.length=xs2.length)) j) ((xs2.set (q54_2 n i41).B.toNat (d1+1))) (ai (rfl) (ai (rfl) (ai (rfl) (ai (ir) (ai (ir) (ai (ir) (ai (rfl) (ai (rfl) (ai (Eq.symm (condT h11 (rfl))) ((by first | omega | (simp only [lens] at*<;> omega):(xs2.set (q54_2 n i41).B.toNat (d1+1)).length=xs2.length))))))))))))))) (eq_of_beq (andT1 h11))) (of_decide_eq_true (andT2 h11))) (fun h11:(bif ((xs2.getD (q54_2 n i41).A.toNat default)==d1) then decide ((xs2.getD (q54_2 n i41).B.toNat default)<0) else false)=false=>Exists.intro (p:=fun j:List Int=>(fun (xs3_:List Int)=>(((.int .i64 Qq:Value)=.int .i64 Qq)∧((.int .i64 d1:Value)=.int .i64 d1)∧((.int .i64 i41:Value)=.int .i64 i41)∧(q54_4 n)∧(q54_5 n)∧(Imp (.l 1 eInt xs2) (.l 1 eInt xs3_))∧((.int .i64 (q54_2 n i41).A:Value)=.int .i64 (q54_2 n i41).A)∧((.int .i64 (q54_2 n i41).B:Value)=.int .i64 (q54_2 n i41).B)∧(F54_j9 n b Qq far d1 xs1 i41 xs2)=Lp.done j∧xs3_.length=xs2.length)) j) (xs2) (ai (rfl) (ai (rfl) (ai (rfl) (ai (ir) (ai (ir) (ai (ir) (ai (rfl) (ai (rfl) (ai (Eq.symm (condF h11 (rfl))) ((by first | omega | (simp only [lens] at*<;> omega):xs2.length=xs2.length))))))))))))))) (fun (j:List Int) (hj:(fun (xs3:List Int)=>((F54_j9 n b Qq far d1 xs1 i41 xs2)=Lp.done j∧xs3.length=xs2.length)) j)=>(fun (xs3:List Int) (hJ9_12:(F54_j9 n b Qq far d1 xs1 i41 xs2)=Lp.done xs3) (_:xs3.length=xs2.length)=>ai ((by first | omega | (simp only [lens] at*<;> omega):0≤(q54_2 n i41).B∧(q54_2 n i41).B<(xs3.length:Int))) (ai ((fun k13:((xs3.getD (q54_2 n i41).B.toNat default)==d1)=true=>(fun _:(xs3.getD (q54_2 n i41).B.toNat default)=d1=>(by first | omega | (simp only [lens] at*<;> omega):0≤(q54_2 n i41).A∧(q54_2 n i41).A<(xs3.length:Int))) (eq_of_beq k13))) (ai (fun h14:(bif ((xs3.getD (q54_2 n i41).B.toNat default)==d1) then decide ((xs3.getD (q54_2 n i41).A.toNat default)<0) else false)=true=>(fun _:(xs3.getD (q54_2 n i41).A.toNat default)<0=>(fun _:(xs3.getD (q54_2 n i41).B.toNat default)=d1=>ai ((by unfold i64ok; first | omega | (simp only [lens] at*<;> omega):i64ok (d1+1))) (ai ((by first | omega | (simp only [lens] at*<;> omega):0≤(q54_2 n i41).A∧(q54_2 n i41).A<(xs3.length:Int))) (ai ((SetOK.mk eInt xs3 (d1+1) rfl (by exact ai ir (trivial)):SetOK (.l 1 eInt xs3) (q54_2 n i41).A.toNat (eInt (xs3.getD (q54_2 n i41).A.toNat default)) [.v (vI (d1+1))] (.l 1 eInt (xs3.set (q54_2 n i41).A.toNat (d1+1))))) (ai ((by unfold i64ok; first | omega | (simp only [lens] at*<;> omega):i64ok (i41+1))) (Exists.intro (p:=fun j:Nat×(Int×List Int)=>(fun (i41_:Int) (xs2_:List Int)=>(((.int .i64 Qq:Value)=.int .i64 Qq)∧((.int .i64 d1:Value)=.int .i64 d1)∧((.int .i64 (i41+1):Value)=.int .i64 i41_)∧(q54_4 n)∧(q54_5 n)∧(Imp (.l 1 eInt (xs3.set (q54_2 n i41).A.toNat (d1+1))) (.l 1 eInt xs2_))∧((runL (F54_s2 n b Qq far d1 xs1) j.1 j.2=(q54_6 n b Qq far d1 xs1)∧Int.toNat ((n.Qb.length:Int)-i41_)<j.1∧xs2_.length=n.Qa.length∧(i41_<(n.Qb.length:Int)→0≤(n.Qb.getD i41_.toNat default).A∧(n.Qb.getD i41_.toNat default).A<(n.Qa.length:Int)∧0≤(n.Qb.getD i41_.toNat default).B∧(n.Qb.getD i41_.toNat default).B<(n.Qa.length:Int))∧(0:Int)≤i41_∧xs2_.length=xs1.length)∧j.1<i2.1))) j.2.1 j.2.2) (m2,((i41+1),(xs3.set (q54_2 n i41).A.toNat (d1+1)))) (ai (rfl) (ai (rfl) (ai (rfl) (ai (ir) (ai (ir) (ai (ir) (ai (ai (runL_next hI2 (condT h8 (condF h9 (finD hJ9_12 (condT h14 (rfl)))))) (ai ((by first | omega | (simp only [lens] at*<;> omega) | exact fun hi=>link_in (by assumption) (by omega) hi:Int.toNat ((n.Qb.length:Int)-(i41+1))<m2)) (ai ((by first | omega | (simp only [lens] at*<;> omega) | exact fun hi=>link_in (by assumption) (by omega) hi:(xs3.set (q54_2 n i41).A.toNat (d1+1)).length=n.Qa.length)) (ai ((by first | omega | (simp only [lens] at*<;> omega) | exact fun hi=>link_in (by assumption) (by omega) hi:(i41+1)<(n.Qb.length:Int)→0≤(q54_8 n i41).A∧(q54_8 n i41).A<(n.Qa.length:Int)∧0≤(q54_8 n i41).B∧(q54_8 n i41).B<(n.Qa.length:Int))) (ai ((by first | omega | (simp only [lens] at*<;> omega) | exact fun hi=>link_in (by assumption) (by omega) hi:(0:Int)≤(i41+1))) ((by first | omega | (simp only [lens] at*<;> omega) | exact fun hi=>link_in (by assumption) (by omega) hi:(xs3.set (q54_2 n i41).A.toNat (d1+1)).length=xs1.length))))))) hl2)))))))))))) (eq_of_beq (andT1 h14))) (of_decide_eq_true (andT2 h14))) (fun h14:(bif ((xs3.getD (q54_2 n i41).B.toNat default)==d1) then decide ((xs3.getD (q54_2 n i41).A.toNat default)<0) else false)=false=>ai ((by unfold i64ok; first | omega | (simp only [lens] at*<;> omega):i64ok (i41+1))) (Exists.intro (p:=fun j:Nat×(Int×List Int)=>(fun (i41_:Int) (xs2_:List Int)=>(((.int .i64 Qq:Value)=.int .i64 Qq)∧((.int .i64 d1:Value)=.int .i64 d1)∧((.int .i64 (i41+1):Value)=.int .i64 i41_)∧(q54_4 n)∧(q54_5 n)∧(Imp (.l 1 eInt xs3) (.l 1 eInt xs2_))∧((runL (F54_s2 n b Qq far d1 xs1) j.1 j.2=(q54_6 n b Qq far d1 xs1)∧Int.toNat ((n.Qb.length:Int)-i41_)<j.1∧xs2_.length=n.Qa.length∧(i41_<(n.Qb.length:Int)→0≤(n.Qb.getD i41_.toNat default).A∧(n.Qb.getD i41_.toNat default).A<(n.Qa.length:Int)∧0≤(n.Qb.getD i41_.toNat default).B∧(n.Qb.getD i41_.toNat default).B<(n.Qa.length:Int))∧(0:Int)≤i41_∧xs2_.length=xs1.length)∧j.1<i2.1))) j.2.1 j.2.2) (m2,((i41+1),xs3)) (ai (rfl) (ai (rfl) (ai (rfl) (ai (ir) (ai (ir) (ai (ir) (ai (ai (runL_next hI2 (condT h8 (condF h9 (finD hJ9_12 (condF h14 (rfl)))))) (ai ((by first | omega | (simp only [lens] at*<;> omega) | exact fun hi=>link_in (by assumption) (by omega) hi:Int.toNat ((n.Qb.length:Int)-(i41+1))<m2)) (ai ((by first | omega | (simp only [lens] at*<;> omega) | exact fun hi=>link_in (by assumption) (by omega) hi:xs3.length=n.Qa.length)) (ai ((by first | omega | (simp only [lens] at*<;> omega) | exact fun hi=>link_in (by assumption) (by omega) hi:(i41+1)<(n.Qb.length:Int)→0≤(q54_8 n i41).A∧(q54_8 n i41).A<(n.Qa.length:Int)∧0≤(q54_8 n i41).B∧(q54_8 n i41).B<(n.Qa.length:Int))) (ai ((by first | omega | (simp only [lens] at*<;> omega) | exact fun hi=>link_in (by assumption) (by omega) hi:(0:Int)≤(i41+1))) ((by first | omega | (simp only [lens] at*<;> omega) | exact fun hi=>link_in (by assumption) (by omega) hi:xs3.length=xs1.length))))))) hl2)))))))))))) j hj.1 hj.2)) (beqF h9)))) (of_decide_eq_true h8)) (fun h8:(decide (i41<(n.Qb.length:Int)))=false=>(fun _:¬ i41<(n.Qb.length:Int)=>(fun hD2_15:(q54_6 n b Qq far d1 xs1)=Lp.done (i41,xs2)=>ai ((by unfold i64ok; first | omega | (simp only [lens] at*<;> omega):i64ok (d1+1))) (Exists.intro (p:=fun j:Nat×(Int×List Int)=>(fun (d1_:Int) (xs1_:List Int)=>(((.int .i64 Qq:Value)=.int .i64 Qq)∧((.int .i64 (d1+1):Value)=.int .i64 d1_)∧(q54_4 n)∧(q54_5 n)∧(Imp (.l 1 eInt xs2) (.l 1 eInt xs1_))∧((runL (F54_s1 n b Qq far) j.1 j.2=(q54_3 n b Qq far)∧Int.toNat ((xs1_.length:Int)-d1_)<j.1∧xs1_.length=n.Qa.length∧(0:Int)≤d1_∧xs1_.length=(far.set (b).toNat 0).length)∧j.1<i1.1))) j.2.1 j.2.2) (m1,((d1+1),xs2)) (ai (rfl) (ai (rfl) (ai (ir) (ai (ir) (ai (ir) (ai (ai (runL_next hI1 (condT h6 (finD hD2_15 (rfl)))) (ai ((by first | omega | (simp only [lens] at*<;> omega):Int.toNat ((xs2.length:Int)-(d1+1))<m1)) (ai ((by first | omega | (simp only [lens] at*<;> omega):xs2.length=n.Qa.length)) (ai ((by first | omega | (simp only [lens] at*<;> omega):(0:Int)≤(d1+1))) ((by first | omega | (simp only [lens] at*<;> omega):xs2.length=(far.set (b).toNat 0).length)))))) hl1)))))))) (runL_done hI2 (condF h8 (rfl)))) (of_decide_eq_false h8))) (i2.1-1) i2.2.1 i2.2.2 (hd1 hi2.1 hi2.2.1) (hd2 hi2.2.1) (hd3 hi2.2.1) hi2.2.2.1 hi2.2.2.2.1 hi2.2.2.2.2.1 hi2.2.2.2.2.2)) (of_decide_eq_true h6)) (fun h6:(decide (d1<(xs1.length:Int)))=false=>(fun _:¬ d1<(xs1.length:Int)=>(fun hD1_16:(q54_3 n b Qq far)=Lp.done (d1,xs1)=>(fun hF:(xs1:List Int)=(F54 n b Qq)=>ai (Imp.of_eq (congrArg (fun r:List Int=>Dat.l 1 eInt r) hF)) (trivial)) (finD hJ0_4 (finD hD1_16 (rfl)))) (runL_done hI1 (condF h6 (rfl)))) (of_decide_eq_false h6))) (i1.1-1) i1.2.1 i1.2.2 (hd1 hi1.1 hi1.2.1) (hd2 hi1.2.1) (hd3 hi1.2.1) hi1.2.2.1 hi1.2.2.2.1 hi1.2.2.2.2)))) j hj.1 hj.2)))) hp.1 hp.2.1 hp.2.2.1 hp.2.2.2) (by kernel_rfl)
theorem runL_meas {σ ρ:Type} {step:σ→Lp σ ρ} (I:σ→Prop) (mu:σ→Nat) (Q:σ→Prop) (h:∀ s,I s→(step s=.done s∧Q s)∨∃ s',step s=.next s'∧I s'∧mu s'<mu s):∀ (m:Nat) (s:σ),I s→mu s<m→∃ s',runL step m s=.done s'∧I s'∧Q s'
 | 0,s,_,hm=>by omega
 | m+1,s,hs,hm=>by
  rcases h s hs with ⟨e,hq⟩ | ⟨s',e,hi,hl⟩
  ·exact ⟨s,by simp only [runL,e],hs,hq⟩
  ·obtain ⟨s2,e2,h2⟩:=runL_meas I mu Q h m s' hi (by omega)
   exact ⟨s2,by simp only [runL,e]; exact e2,h2⟩
structure BI (n:Qe) (b w:Int) (f:Nat→Int):Prop where
 b0:f b.toNat=0
 low:∀ k,k<n.Qa.length→-1≤f k
 pred:∀ k:Nat,k<n.Qa.length→0<f k→∃ j:Nat,j<n.Qa.length∧adj n w j k∧f j=f k-1
 zero:∀ k:Nat,k<n.Qa.length→f k=0→(k:Int)=b
structure Outer (n:Qe) (b w:Int) (f:Nat→Int) (queue:List Int):Prop where
 bi:BI n b w f
 qr:∀ x∈queue,0≤x∧x<(n.Qa.length:Int)∧0≤f x.toNat
 srt:queue.Pairwise fun x y=>f x.toNat≤f y.toNat
 top:∀ x,queue.head?=some x→∀ k,k<n.Qa.length→f k≤f x.toNat+1
 fr:∀ j:Nat,j<n.Qa.length→0≤f j→(j:Int) ∉ queue→∀ k:Nat,k<n.Qa.length→adj n w j k→0≤f k∧f k≤f j+1
structure Inner (n:Qe) (b w:Int) (f:Nat→Int) (queue:List Int) (box d:Int) (v:Nat):Prop where
 bi:BI n b w f
 r0:0≤box
 r1:box<(n.Qa.length:Int)
 fb:f box.toNat=d
 d0:0≤d
 qr:∀ x∈queue,0≤x∧x<(n.Qa.length:Int)∧0≤f x.toNat
 srt:queue.Pairwise fun x y=>f x.toNat≤f y.toNat
 qd:∀ x∈queue,d≤f x.toNat
 top:∀ k,k<n.Qa.length→f k≤d+1
 fr:∀ j:Nat,j<n.Qa.length→0≤f j→(j:Int) ∉ queue→(j:Int)≠box→∀ k:Nat,k<n.Qa.length→adj n w j k→0≤f k∧f k≤f j+1
 part:∀ k:Nat,k<v→adj n w box k→0≤f k
theorem Outer.inner {n:Qe} {b w:Int} {f:Nat→Int} {box:Int} {q:List Int} (h:Outer n b w f (box :: q)):Inner n b w f q box (f box.toNat) 0 where
 bi:=h.bi
 r0:=(h.qr box List.mem_cons_self).1
 r1:=(h.qr box List.mem_cons_self).2.1
 fb:=rfl
 d0:=(h.qr box List.mem_cons_self).2.2
 qr:=fun x hx=>h.qr x (List.mem_cons_of_mem _ hx)
 srt:=(List.pairwise_cons.1 h.srt).2
 qd:=(List.pairwise_cons.1 h.srt).1
 top:=h.top box rfl
 fr:=fun j hj h0 hq hb=>h.fr j hj h0 fun hm=>by
  rcases List.mem_cons.1 hm with e | hm
  ·exact hb e
  ·exact hq hm
 part:=fun k hk=>by omega
theorem Inner.outer {n:Qe} {b w:Int} {f:Nat→Int} {box d:Int} {q:List Int} (h:Inner n b w f q box d n.Qa.length):Outer n b w f q where
 bi:=h.bi
 qr:=h.qr
 srt:=h.srt
 top:=fun x hx k hk=>by
  have:=h.qd x (List.mem_of_mem_head? hx)
  have:=h.top k hk
  omega
 fr:=fun j hj h0 hq k hk ha=>by
  by_cases e:(j:Int)=box
  ·rw [e] at ha
   refine ⟨h.part k hk ha,?_⟩
   have h1:=h.top k hk
   have h2:=h.fb
   rw [← e,nn] at h2
   omega
  ·exact h.fr j hj h0 hq e k hk ha
theorem Inner.skip {n:Qe} {b w:Int} {f:Nat→Int} {box d:Int} {q:List Int} {v:Nat} (h:Inner n b w f q box d v) (hv:0≤f v∨¬ adj n w box v):Inner n b w f q box d (v+1) :=
 ⟨h.bi,h.r0,h.r1,h.fb,h.d0,h.qr,h.srt,h.qd,h.top,h.fr,fun k hk ha=>by
  rcases Nat.lt_succ_iff_lt_or_eq.1 hk with hk | rfl
  ·exact h.part k hk ha
  ·rcases hv with hv | hv
   ·exact hv
   ·exact absurd ha hv⟩
theorem Inner.push {n:Qe} {b w:Int} {f g:Nat→Int} {box d:Int} {q:List Int} {v:Nat} (h:Inner n b w f q box d v) (hvl:v<n.Qa.length) (hn:f v<0) (ha:adj n w box v) (hg:g v=d+1) (hgn:∀ k,k≠v→g k=f k):Inner n b w g (q++[(v:Int)]) box d (v+1):=by
 have hd:=h.d0
 have hvis:∀ k,0≤f k→g k=f k:=fun k hk=>hgn k fun e=>by rw [e] at hk; omega
 have hbv:Int.toNat box≠v:=fun e=>by have:=h.fb; rw [e] at this; omega
 have hqv:∀ x∈q,g x.toNat=f x.toNat:=fun x hx=>hvis _ (h.qr x hx).2.2
 refine ⟨⟨?_,fun k hk=>?_,fun k hk h0=>?_,fun k hk h0=>?_⟩,h.r0,h.r1,?_,hd,fun x hx=>?_,?_,fun x hx=>?_,fun k hk=>?_,fun j hj h0 hq hb k hk hadj=>?_,fun k hk hadj=>?_⟩
 ·rw [hvis _ (by rw [h.bi.b0]; omega)]; exact h.bi.b0
 ·by_cases e:k=v
  ·rw [e,hg]; omega
  ·rw [hgn k e]; exact h.bi.low k hk
 ·by_cases e:k=v
  ·subst e
   refine ⟨Int.toNat box,by have:=h.r0; have:=h.r1; omega,by have:=h.r0; rw [Int.toNat_of_nonneg this]; exact ha,?_⟩
   rw [hgn _ hbv,h.fb,hg]; omega
  ·rw [hgn k e] at h0 ⊢
   obtain ⟨j,h1,h2,h3⟩:=h.bi.pred k hk h0
   exact ⟨j,h1,h2,by rw [hvis j (by omega)]; exact h3⟩
 ·by_cases e:k=v
  ·rw [e,hg] at h0; omega
  ·rw [hgn k e] at h0; exact h.bi.zero k hk h0
 ·rw [hgn _ hbv]; exact h.fb
 ·rcases List.mem_append.1 hx with hx | hx
  ·rw [hqv x hx]; exact h.qr x hx
  ·rw [List.mem_singleton.1 hx,nn,hg]; omega
 ·refine List.pairwise_append.2 ⟨?_,by simp,fun x hx y hy=>?_⟩
  ·exact h.srt.imp_of_mem fun {x y} hx hy hxy=>by rw [hqv x hx,hqv y hy]; exact hxy
  ·rw [List.mem_singleton.1 hy,nn,hg,hqv x hx]
   have:=h.qr x hx
   exact h.top _ (by omega)
 ·rcases List.mem_append.1 hx with hx | hx
  ·rw [hqv x hx]; exact h.qd x hx
  ·rw [List.mem_singleton.1 hx,nn,hg]; omega
 ·by_cases e:k=v
  ·rw [e,hg]; omega
  ·rw [hgn k e]; exact h.top k hk
 ·have hjv:j≠v:=fun e=>hq (List.mem_append_right _ (by rw [e]; exact List.mem_singleton_self _))
  rw [hgn j hjv] at h0 ⊢
  have:=h.fr j hj h0 (fun hm=>hq (List.mem_append_left _ hm)) hb k hk hadj
  rw [hvis k this.1]; exact this
 ·by_cases e:k=v
  ·rw [e,hg]; omega
  ·rw [hgn k e]
   exact h.part k (by omega) hadj
theorem Outer.init {n:Qe} {b w:Int} (h0:0≤b) (h1:b<(n.Qa.length:Int)) (f:Nat→Int) (hb:f b.toNat=0) (hn:∀ k,k<n.Qa.length→k≠Int.toNat b→f k=-1):Outer n b w f [b]:=by
 have hall:∀ k,k<n.Qa.length→f k≤0∧-1≤f k:=fun k hk=>by
  by_cases e:k=Int.toNat b
  ·rw [e,hb]; omega
  ·rw [hn k hk e]; omega
 refine ⟨⟨hb,fun k hk=>(hall k hk).2,fun k hk h=>by have:=(hall k hk).1; omega,fun k hk h=>?_⟩,fun x hx=>?_,by simp,fun x hx k hk=>?_,fun j hj h hq=>?_⟩
 ·by_cases e:k=Int.toNat b
  ·omega
  ·rw [hn k hk e] at h; omega
 ·rw [List.mem_singleton.1 hx,hb]; omega
 ·simp only [List.head?_cons,Option.some.injEq] at hx
  subst hx
  rw [hb]
  have:=(hall k hk).1; omega
 ·exfalso
  by_cases e:j=Int.toNat b
  ·exact hq (by rw [e,Int.toNat_of_nonneg h0]; exact List.mem_singleton_self _)
  ·rw [hn j hj e] at h; omega
theorem Outer.dist {n:Qe} {b w:Int} {xs:List Int} (hl:xs.length=n.Qa.length) (h:Outer n b w (fun k=>xs.getD k default) []):IsDist n b w xs :=
 ⟨hl,h.bi.b0,h.bi.low,h.bi.pred,h.bi.zero,fun j k hj hk ha h0=>h.fr j hj h0 (by simp) k hk ha⟩
theorem implFar_fill (n:Qe) (b w:Int):F83_j0 n b w=.done (List.replicate n.Qa.length (-1)):=by
 unfold F83_j0
 have h:=runL_rule (step:=F83_s0 n b w) (fun (k:Nat) (s:List Int)=>((k:Int),s)) n.Qa.length (fun k s=>s.length=n.Qa.length∧FillI s k) (fun _=>False)
  (fun k s hk ⟨h1,h2⟩=>.inl ⟨s.set k (-1),by simp only [F83_s0,nn,List.length_replicate,ltD hk,cond_true]; rfl,by simp [h1],by have:=h2.next (by omega) (by omega); rwa [nn] at this⟩)
  (fun s _=>by simp [F83_s0]) n.Qa.length 0 (List.replicate n.Qa.length 0) (by omega) ⟨by simp,FillI.zero _⟩ (n.Qa.length+1) (Nat.lt_succ_self _)
 rcases h with ⟨s,h,h1,h2⟩ | ⟨_,_,h⟩
 ·have h:runL (F83_s0 n b w) (n.Qa.length+1) (0,List.replicate n.Qa.length 0)=.done ((n.Qa.length:Int),s):=h
  simp only [nn,List.length_replicate,n0,h,Lp.fin]
  rw [h2.done h1 (by omega)]
 ·exact h.elim
theorem implFar_round {n:Qe} (h8:n.Qa.length≤8) (b w:Int) (f0:List Int) (box:Int) (q xs:List Int) (hF:FI n.Qa.length xs (box :: q)) (hO:Outer n b w (fun k=>xs.getD k default) (box :: q)) :
  ∃ q' xs',runL (F83_s2 n b w f0 (box :: q) xs) (((xs.length:Int)-0).toNat+1) (((box :: q).drop (Int.toNat 1)),0,xs)=.done (q',(n.Qa.length:Int),xs')∧FI n.Qa.length xs' q'∧Outer n b w (fun k=>xs'.getD k default) q'∧q'.length+negs xs'+1=(box :: q).length+negs xs:=by
 have hln:=hF.ln
 have hbox:=hF.q box List.mem_cons_self
 have h:=runL_rule (step:=F83_s2 n b w f0 (box :: q) xs) (fun (k:Nat) (s:List Int×List Int)=>(s.1,(k:Int),s.2)) n.Qa.length
  (fun k s=>FI n.Qa.length s.2 s.1∧Inner n b w (fun k=>s.2.getD k default) s.1 box (xs.getD box.toNat default) k∧s.1.length+negs s.2+1=(box :: q).length+negs xs) (fun _=>False)
  (fun k s hk ⟨g1,g2,g3⟩=>by
   obtain ⟨q1,ys⟩:=s
   simp only at g1 g2 g3
   have hv:=g1.val h8 g2.r0 g2.r1
   have hfb:=g2.fb
   by_cases hc:ys.getD k default<0
   ·by_cases ha:adj n w box k
    ·have hp:=g1.next h8 g2.r0 g2.r1 (by have:=g2.d0; omega) (v:=(k:Int)) (by omega) (by omega) (by rw [nn]; exact hc)
     refine .inl ⟨(q1++[(k:Int)],ys.set k (IntKind.i64.wrap (ys.getD box.toNat default+1))),?_,by simpa only [nn] using hp.1,?_,?_⟩
     ·have ha':decide (0≤Qr n box (k:Int)∧Qr n box (k:Int)≠w)=true:=decide_eq_true ha
      simp only [F83_s2,hln,ltD hk,cond_true,nn,decide_eq_true hc,List.getD_cons_zero,show Int.toNat 0=0 from rfl,ha']
      rfl
     ·refine g2.push hk hc ha ?_ fun j hj=>getD_set_ne _ _ _ _ hj
      simp only
      rw [getD_set_eq _ _ _ (by rw [g1.ln]; exact hk),hv,hfb]
     ·have:=hp.2.1
      simp only [nn] at this
      simp only [List.length_append,List.length_singleton]
      omega
    ·have ha':decide (0≤Qr n box (k:Int)∧Qr n box (k:Int)≠w)=false:=decide_eq_false ha
     refine .inl ⟨(q1,ys),?_,g1,g2.skip (.inr ha),g3⟩
     simp only [F83_s2,hln,ltD hk,cond_true,nn,decide_eq_true hc,List.getD_cons_zero,show Int.toNat 0=0 from rfl,ha',cond_false]
     rfl
   ·refine .inl ⟨(q1,ys),?_,g1,g2.skip (.inl (by show 0≤ys.getD k default; omega)),g3⟩
    simp only [F83_s2,hln,ltD hk,cond_true,nn,decide_eq_false hc,cond_false]
    rfl)
  (fun s _=>by simp [F83_s2,hln]) n.Qa.length 0 (q,xs) (by omega) ⟨⟨hF.ln,fun x hx=>hF.q x (List.mem_cons_of_mem _ hx),hF.up⟩,hO.inner,by simp only [List.length_cons]; omega⟩ (n.Qa.length+1) (Nat.lt_succ_self _)
 rcases h with ⟨⟨q',xs'⟩,h,h1,h2,h3⟩ | ⟨_,_,h⟩
 ·refine ⟨q',xs',?_,h1,h2.outer,h3⟩
  rw [n0,hln]
  exact h
 ·exact h.elim
theorem implFar_dist {n:Qe} (h8:n.Qa.length≤8) {b:Int} (h0:0≤b) (h1:b<(n.Qa.length:Int)) (w:Int):IsDist n b w (F83 n b w):=by
 unfold F83
 rw [implFar_fill]
 simp only [Lp.fin]
 obtain ⟨hF,hN⟩:=FI.init h0 h1
 have hl:Int.toNat b<(List.replicate n.Qa.length (-1:Int)).length:=by simp; omega
 have hO:Outer n b w (fun k=>((List.replicate n.Qa.length (-1)).set b.toNat 0).getD k default) [b]:=Outer.init h0 h1 _ (getD_set_eq _ _ _ hl) fun k hk e=>by
  show ((List.replicate n.Qa.length (-1)).set b.toNat 0).getD k default=-1
  rw [getD_set_ne _ _ _ _ e,rep_get _ _ hk]
 generalize hX:(List.replicate n.Qa.length (-1:Int)).set b.toNat 0=X at hF hN hO
 obtain ⟨⟨q',xs'⟩,h,⟨g1,g2⟩,g3⟩:=runL_meas (step:=F83_s1 n b w (List.replicate n.Qa.length (-1))) (fun s=>FI n.Qa.length s.2 s.1∧Outer n b w (fun k=>s.2.getD k default) s.1) (fun s=>s.1.length+negs s.2) (fun s=>s.1=[])
  (fun s ⟨g1,g2⟩=>by
   obtain ⟨q,xs⟩:=s
   cases q with
   | nil=>exact .inl ⟨by simp [F83_s1],rfl⟩
   | cons box q =>
    obtain ⟨q',xs',e,k1,k2,k3⟩:=implFar_round h8 b w (List.replicate n.Qa.length (-1)) box q xs g1 g2
    refine .inr ⟨(q',xs'),?_,⟨k1,k2⟩,by show q'.length+negs xs'<(box :: q).length+negs xs; omega⟩
    have hc:decide (((box :: q).length:Int)>0)=true:=decide_eq_true (by simp only [List.length_cons]; omega)
    simp only [F83_s1,hc,cond_true,e,Lp.fin]) ([b].length+negs X+1) ([b],X) ⟨hF,hO⟩ (Nat.lt_succ_self _)
 rw [h]
 simp only at g1 g2 g3 ⊢
 subst g3
 exact Outer.dist g1.ln g2
theorem countP_two {α:Type} (p q r:α→Bool) (hp:∀ x,p x=true→r x=true∧q x=false) (hq:∀ x,q x=true→r x=true):∀ l:List α,l.countP p+l.countP q≤l.countP r
 | []=>by simp
 | x :: l=>by
  have ih:=countP_two p q r hp hq l
  simp only [List.countP_cons]
  cases h1:p x <;> cases h2:q x <;> cases h3:r x <;> simp_all <;> omega
theorem chain_le (len:Nat) (f:Nat→Int) (hpred:∀ k,k<len→0<f k→∃ j,j<len∧f j=f k-1):∀ (d:Nat) (k:Nat),k<len→f k=(d:Int)→d+1≤(List.range len).countP (fun k=>decide (0≤f k)&&decide (f k<(d:Int)+1))
 | 0,k,hk,e=>by
  have:0<(List.range len).countP (fun k=>decide (0≤f k)&&decide (f k<((0:Nat):Int)+1)):=List.countP_pos_iff.2 ⟨k,List.mem_range.2 hk,by simp [e]⟩
  omega
 | d+1,k,hk,e=>by
  obtain ⟨j,hj,ej⟩:=hpred k hk (by omega)
  have ih:=chain_le len f hpred d j hj (by omega)
  have h1:0<(List.range len).countP (fun k=>decide (f k=(d:Int)+1)):=List.countP_pos_iff.2 ⟨k,List.mem_range.2 hk,by simp [e]⟩
  have h2:=countP_two (fun k=>decide (0≤f k)&&decide (f k<(d:Int)+1)) (fun k=>decide (f k=(d:Int)+1)) (fun k=>decide (0≤f k)&&decide (f k<((d+1:Nat):Int)+1))
   (fun x hx=>by
    simp only [Bool.and_eq_true,decide_eq_true_eq,decide_eq_false_iff_not] at hx ⊢
    omega) (fun x hx=>by
    simp only [Bool.and_eq_true,decide_eq_true_eq] at hx ⊢
    omega) (List.range len)
  omega
theorem BI.lt {n:Qe} {b w:Int} {f:Nat→Int} (h:BI n b w f) {k:Nat} (hk:k<n.Qa.length):f k<(n.Qa.length:Int):=by
 rcases Int.lt_or_le (f k) 0 with h0 | h0
 ·omega
 ·have h1:=chain_le n.Qa.length f (fun k hk h0=>by
   obtain ⟨j,h1,_,h2⟩:=h.pred k hk h0
   exact ⟨j,h1,h2⟩) (Int.toNat (f k)) k hk (by omega)
  have h2:=List.countP_le_length (p:=fun k'=>decide (0≤f k')&&decide (f k'<((Int.toNat (f k):Nat):Int)+1)) (l:=List.range n.Qa.length)
  rw [List.length_range] at h2
  omega
structure Rd (n:Qe) (b w:Int) (f:Nat→Int) (d:Int):Prop where
 bi:BI n b w f
 d0:0≤d
 top:∀ k,k<n.Qa.length→f k≤d
 fr:∀ j:Nat,j<n.Qa.length→0≤f j→f j<d→∀ k:Nat,k<n.Qa.length→adj n w j k→0≤f k∧f k≤f j+1
structure Ri (n:Qe) (b w:Int) (f:Nat→Int) (d:Int) (i:Nat):Prop where
 bi:BI n b w f
 d0:0≤d
 top:∀ k,k<n.Qa.length→f k≤d+1
 fr:∀ j:Nat,j<n.Qa.length→0≤f j→f j<d→∀ k:Nat,k<n.Qa.length→adj n w j k→0≤f k∧f k≤f j+1
 part:∀ m:Nat,m<i→(m:Int)≠w→(f (Int.toNat (n.Qb.getD m default).A)=d→0≤f (Int.toNat (n.Qb.getD m default).B))∧(f (Int.toNat (n.Qb.getD m default).B)=d→0≤f (Int.toNat (n.Qb.getD m default).A))
theorem Rd.start {n:Qe} {b w:Int} {f:Nat→Int} {d:Int} (h:Rd n b w f d):Ri n b w f d 0 :=
 ⟨h.bi,h.d0,fun k hk=>by have:=h.top k hk; omega,h.fr,fun m hm=>by omega⟩
theorem Ri.done {n:Qe} (hf:FrameOk n) {b w:Int} {f:Nat→Int} {d:Int} (h:Ri n b w f d n.Qb.length):Rd n b w f (d+1) :=
 ⟨h.bi,by have:=h.d0; omega,h.top,fun j hj h0 hd k hk ha=>by
  rcases Int.lt_or_le (f j) d with hlt | hge
  ·exact h.fr j hj h0 hlt k hk ha
  ·have ej:f j=d:=by omega
   obtain ⟨m1,m2⟩:=linkOf_some ha.1
   have hw:((Qr n j k).toNat:Int)≠w:=fun e=>ha.2 (by rw [← e]; have:=ha.1; omega)
   have hp:=h.part _ m1 hw
   have hab:=hf.ab _ m1
   simp only [isLink,Bool.or_eq_true,Bool.and_eq_true,decide_eq_true_eq] at m2
   generalize n.Qb.getD (Qr n j k).toNat default=l at *
   have ht:=h.top k hk
   refine ⟨?_,by omega⟩
   rcases m2 with ⟨e1,e2⟩ | ⟨e1,e2⟩
   ·rw [e1,e2,nn,nn] at hp
    exact hp.1 ej
   ·rw [e1,e2,nn,nn] at hp
    exact hp.2 ej⟩
theorem Ri.set {n:Qe} {b w:Int} {f g:Nat→Int} {d:Int} {i j v:Nat} (h:Ri n b w f d i) (hj:j<n.Qa.length) (hv:v<n.Qa.length) (hfj:f j=d) (hfv:f v<0) (ha:adj n w j v) (hg:g v=d+1) (hgn:∀ k,k≠v→g k=f k):Ri n b w g d i:=by
 have hd:=h.d0
 have hvis:∀ k,0≤f k→g k=f k:=fun k hk=>hgn k fun e=>by rw [e] at hk; omega
 have hdiff:∀ k,g k=d→f k=d:=fun k hk=>by
  by_cases e:k=v
  ·rw [e,hg] at hk; omega
  ·rw [hgn k e] at hk; exact hk
 have hge:∀ k,0≤f k→0≤g k:=fun k hk=>by rw [hvis k hk]; exact hk
 refine ⟨⟨?_,fun k hk=>?_,fun k hk h0=>?_,fun k hk h0=>?_⟩,hd,fun k hk=>?_,fun j' hj' h0 hlt k hk hadj=>?_,fun m hm hw=>⟨fun e=>hge _ ((h.part m hm hw).1 (hdiff _ e)),fun e=>hge _ ((h.part m hm hw).2 (hdiff _ e))⟩⟩
 ·rw [hvis _ (by rw [h.bi.b0]; omega)]; exact h.bi.b0
 ·by_cases e:k=v
  ·rw [e,hg]; omega
  ·rw [hgn k e]; exact h.bi.low k hk
 ·by_cases e:k=v
  ·subst e
   exact ⟨j,hj,ha,by rw [hvis j (by omega),hg]; omega⟩
  ·rw [hgn k e] at h0 ⊢
   obtain ⟨j2,h1,h2,h3⟩:=h.bi.pred k hk h0
   exact ⟨j2,h1,h2,by rw [hvis j2 (by omega)]; exact h3⟩
 ·by_cases e:k=v
  ·rw [e,hg] at h0; omega
  ·rw [hgn k e] at h0; exact h.bi.zero k hk h0
 ·by_cases e:k=v
  ·rw [e,hg]; omega
  ·rw [hgn k e]; exact h.top k hk
 ·have hjv:j'≠v:=fun e=>by rw [e,hg] at hlt; omega
  rw [hgn j' hjv] at h0 hlt ⊢
  have:=h.fr j' hj' h0 hlt k hk hadj
  rw [hvis k this.1]; exact this
theorem Ri.next {n:Qe} {b w:Int} {f:Nat→Int} {d:Int} {i:Nat} (h:Ri n b w f d i) (hp:(i:Int)≠w→(f (Int.toNat (n.Qb.getD i default).A)=d→0≤f (Int.toNat (n.Qb.getD i default).B))∧(f (Int.toNat (n.Qb.getD i default).B)=d→0≤f (Int.toNat (n.Qb.getD i default).A))):Ri n b w f d (i+1) :=
 ⟨h.bi,h.d0,h.top,h.fr,fun m hm hw=>by
  rcases Nat.lt_succ_iff_lt_or_eq.1 hm with hm | rfl
  ·exact h.part m hm hw
  ·exact hp hw⟩
theorem Rd.dist {n:Qe} {b w:Int} {xs:List Int} (hl:xs.length=n.Qa.length) (h:Rd n b w (fun k=>xs.getD k default) n.Qa.length):IsDist n b w xs :=
 ⟨hl,h.bi.b0,h.bi.low,h.bi.pred,h.bi.zero,fun j k hj hk ha h0=>h.fr j hj h0 (h.bi.lt hj) k hk ha⟩
theorem specFar_fill (n:Qe) (b w:Int):F54_j0 n b w=.done (List.replicate n.Qa.length (-1)):=by
 unfold F54_j0
 have h:=runL_rule (step:=F54_s0 n b w) (fun (k:Nat) (s:List Int)=>((k:Int),s)) n.Qa.length (fun k s=>s.length=n.Qa.length∧FillI s k) (fun _=>False)
  (fun k s hk ⟨h1,h2⟩=>.inl ⟨s.set k (-1),by simp only [F54_s0,nn,h1,ltD hk,cond_true]; rfl,by simp [h1],by have:=h2.next (by omega) (by omega); rwa [nn] at this⟩)
  (fun s ⟨h1,_⟩=>by simp [F54_s0,h1]) n.Qa.length 0 (List.replicate n.Qa.length 0) (by omega) ⟨by simp,FillI.zero _⟩ (n.Qa.length+1) (Nat.lt_succ_self _)
 rcases h with ⟨s,h,h1,h2⟩ | ⟨_,_,h⟩
 ·have h:runL (F54_s0 n b w) (n.Qa.length+1) (0,List.replicate n.Qa.length 0)=.done ((n.Qa.length:Int),s):=h
  simp only [nn,List.length_replicate,n0,h,Lp.fin]
  rw [h2.done h1 (by omega)]
 ·exact h.elim
theorem Ri.half {n:Qe} {b w:Int} {xs:List Int} {d:Int} {i:Nat} (hl:xs.length=n.Qa.length) (h:Ri n b w (fun k=>xs.getD k default) d i) {x y:Int} (hx0:0≤x) (hx:x<(n.Qa.length:Int)) (hy0:0≤y) (hy:y<(n.Qa.length:Int)) (ha:adj n w x y) :
  ∃ ys,(bif (bif ((xs.getD x.toNat default)==d) then decide ((xs.getD y.toNat default)<0) else false) then (xs.set y.toNat (d+1)) else xs)=ys∧ys.length=n.Qa.length∧Ri n b w (fun k=>ys.getD k default) d i∧(ys.getD x.toNat default=d→0≤ys.getD y.toNat default)∧(∀ k,0≤xs.getD k default→ys.getD k default=xs.getD k default):=by
 by_cases h1:xs.getD x.toNat default=d
 ·by_cases h2:xs.getD y.toNat default<0
  ·refine ⟨xs.set y.toNat (d+1),by rw [h1]; simp only [beq_self_eq_true,cond_true,decide_eq_true h2],by simp [hl],?_,fun _=>?_,fun k hk=>getD_set_ne _ _ _ _ fun e=>by rw [e] at hk; omega⟩
   ·refine h.set (j:=Int.toNat x) (v:=Int.toNat y) (by omega) (by omega) h1 h2 (by rw [Int.toNat_of_nonneg hx0,Int.toNat_of_nonneg hy0]; exact ha) (getD_set_eq _ _ _ (by omega)) fun k hk=>getD_set_ne _ _ _ _ hk
   ·rw [getD_set_eq _ _ _ (by omega)]
    have:=h.d0; omega
  ·exact ⟨xs,by rw [h1]; simp only [beq_self_eq_true,cond_true,decide_eq_false h2,cond_false],hl,h,fun _=>by omega,fun _ _=>rfl⟩
 ·refine ⟨xs,?_,hl,h,fun e=>absurd e h1,fun _ _=>rfl⟩
  have:(xs.getD x.toNat default==d)=false:=by rw [beqD]; exact decide_eq_false h1
  rw [this]; rfl
theorem specFar_round {n:Qe} (hf:FrameOk n) (b w:Int) (f0:List Int) (d:Int) (xs:List Int) (hl:xs.length=n.Qa.length) (h:Rd n b w (fun k=>xs.getD k default) d) :
  ∃ ys,runL (F54_s2 n b w f0 d xs) (((n.Qb.length:Int)-0).toNat+1) (0,xs)=.done ((n.Qb.length:Int),ys)∧ys.length=n.Qa.length∧Rd n b w (fun k=>ys.getD k default) (d+1):=by
 have hh:=runL_rule (step:=F54_s2 n b w f0 d xs) (fun (k:Nat) (s:List Int)=>((k:Int),s)) n.Qb.length
  (fun k s=>s.length=n.Qa.length∧Ri n b w (fun k=>s.getD k default) d k) (fun _=>False)
  (fun k s hk ⟨g1,g2⟩=>by
   have hab:=hf.ab k hk
   by_cases hw:(k:Int)=w
   ·refine .inl ⟨s,?_,g1,g2.next fun e=>absurd hw e⟩
    have:((k:Int)==w)=true:=by simp [hw]
    simp only [F54_s2,ltD hk,cond_true,this]
    rfl
   ·have hlk:∀ x y:Int,isLink n x y k=true→adj n w x y:=fun x y hi=>by
     have e:=linkOf_of hf hk hi
     exact ⟨by rw [e]; omega,by rw [e]; exact hw⟩
    have hA:adj n w (n.Qb.getD k default).A (n.Qb.getD k default).B:=hlk _ _ (by simp [isLink])
    obtain ⟨ys,e1,l1,i1,p1,k1⟩:=g2.half g1 (by omega) (by omega) (by omega) (by omega) hA
    obtain ⟨zs,e2,l2,i2,p2,k2⟩:=i1.half l1 (by omega) (by omega) (by omega) (by omega) (adj_comm hA)
    have hj9:F54_j9 n b w f0 d xs (k:Int) s=.done ys:=by
     rw [← e1]
     simp only [F54_j9,nn]
     cases (bif (s.getD (Int.toNat (n.Qb.getD k default).A) default==d) then decide (s.getD (Int.toNat (n.Qb.getD k default).B) default<0) else false) <;> rfl
    refine .inl ⟨zs,?_,l2,i2.next fun _=>⟨fun e=>?_,fun e=>p2 e⟩⟩
    ·have:((k:Int)==w)=false:=by simp [hw]
     simp only [F54_s2,ltD hk,cond_true,this,cond_false,hj9,Lp.fin,nn]
     rw [← e2]
     cases (bif (ys.getD (Int.toNat (n.Qb.getD k default).B) default==d) then decide (ys.getD (Int.toNat (n.Qb.getD k default).A) default<0) else false) <;> rfl
    ·
     have hA':ys.getD (Int.toNat (n.Qb.getD k default).A) default=d:=by
      by_cases hneg:ys.getD (Int.toNat (n.Qb.getD k default).A) default<0
      ·exfalso
       have h3:zs.getD (Int.toNat (n.Qb.getD k default).A) default=d:=e
       have h4:=e2
       by_cases hB:ys.getD (Int.toNat (n.Qb.getD k default).B) default=d
       ·simp only [hB,beq_self_eq_true,cond_true,decide_eq_true hneg] at h4
        rw [← h4,getD_set_eq _ _ _ (by omega)] at h3
        omega
       ·have:(ys.getD (Int.toNat (n.Qb.getD k default).B) default==d)=false:=by rw [beqD]; exact decide_eq_false hB
        rw [this] at h4
        simp only [cond_false] at h4
        rw [← h4] at h3
        have:=g2.d0
        omega
      ·rw [← k2 _ (by omega)]; exact e
     have:=p1 hA'
     show 0≤zs.getD _ default
     rw [k2 _ this]; exact this)
  (fun s _=>by simp [F54_s2]) n.Qb.length 0 xs (by omega) ⟨hl,h.start⟩ (n.Qb.length+1) (Nat.lt_succ_self _)
 rcases hh with ⟨ys,hh,h1,h2⟩ | ⟨_,_,hh⟩
 ·refine ⟨ys,?_,h1,h2.done hf⟩
  rw [n0]; exact hh
 ·exact hh.elim
theorem specFar_dist {n:Qe} (hf:FrameOk n) {b:Int} (h0:0≤b) (h1:b<(n.Qa.length:Int)) (w:Int):IsDist n b w (F54 n b w):=by
 unfold F54
 rw [specFar_fill]
 simp only [Lp.fin]
 have hl:Int.toNat b<(List.replicate n.Qa.length (-1:Int)).length:=by simp; omega
 have hO:Outer n b w (fun k=>((List.replicate n.Qa.length (-1)).set b.toNat 0).getD k default) [b]:=Outer.init h0 h1 _ (getD_set_eq _ _ _ hl) fun k hk e=>by
  show ((List.replicate n.Qa.length (-1)).set b.toNat 0).getD k default=-1
  rw [getD_set_ne _ _ _ _ e,rep_get _ _ hk]
 have hX:((List.replicate n.Qa.length (-1)).set b.toNat 0).length=n.Qa.length:=by simp
 have hall:∀ k,k<n.Qa.length→((List.replicate n.Qa.length (-1)).set b.toNat 0).getD k default≤0:=fun k hk=>by
  by_cases e:k=Int.toNat b
  ·rw [e,getD_set_eq _ _ _ hl]; omega
  ·rw [getD_set_ne _ _ _ _ e,rep_get _ _ hk]; omega
 generalize (List.replicate n.Qa.length (-1:Int)).set b.toNat 0=X at hO hX hall
 have hR:Rd n b w (fun k=>X.getD k default) 0:=⟨hO.bi,by omega,hall,fun j hj h1 h2=>by omega⟩
 have hh:=runL_rule (step:=F54_s1 n b w (List.replicate n.Qa.length (-1))) (fun (k:Nat) (s:List Int)=>((k:Int),s)) n.Qa.length
  (fun k s=>s.length=n.Qa.length∧Rd n b w (fun j=>s.getD j default) k) (fun _=>False)
  (fun k s hk ⟨g1,g2⟩=>by
   obtain ⟨ys,e,l1,r1⟩:=specFar_round hf b w (List.replicate n.Qa.length (-1)) k s g1 g2
   refine .inl ⟨ys,?_,l1,r1⟩
   simp only [F54_s1,g1,ltD hk,cond_true,e,Lp.fin]
   rfl)
  (fun s ⟨g1,_⟩=>by simp [F54_s1,g1]) n.Qa.length 0 X (by omega) ⟨hX,hR⟩ (n.Qa.length+1) (Nat.lt_succ_self _)
 rcases hh with ⟨ys,hh,g1,g2⟩ | ⟨_,_,hh⟩
 ·have hh:runL (F54_s1 n b w (List.replicate n.Qa.length (-1))) (n.Qa.length+1) (0,X)=.done ((n.Qa.length:Int),ys):=hh
  rw [hX,n0,hh]
  exact Rd.dist g1 g2
 ·exact hh.elim
theorem far_eq {n:Qe} (hf:FrameOk n) {b:Int} (h0:0≤b) (h1:b<(n.Qa.length:Int)) (w:Int):F83 n b w=F54 n b w :=
 (implFar_dist hf.b8 h0 h1 w).unique (specFar_dist hf h0 h1 w)
theorem IsDist.lt {n:Qe} {b w:Int} {f:List Int} (h:IsDist n b w f) {k:Int} (h0:0≤k) (hk:k<(n.Qa.length:Int)):-1≤f.getD k.toNat default∧f.getD k.toNat default<(n.Qa.length:Int) :=
 ⟨h.low _ (by omega),BI.lt (f:=fun k=>f.getD k default) ⟨h.b0,h.low,h.pred,h.zero⟩ (by omega)⟩
theorem IsDist.pos {n:Qe} {b w:Int} {f:List Int} (h:IsDist n b w f) {k:Int} (h0:0≤k) (hk:k<(n.Qa.length:Int)) (hb:¬ k=b) (hd:0≤f.getD k.toNat default):0<f.getD k.toNat default:=by
 rcases Int.lt_or_le 0 (f.getD k.toNat default) with h1 | h1
 ·exact h1
 ·have:=h.zero k.toNat (by omega) (by omega); omega
theorem IsDist.wr {n:Qe} {b w:Int} {f:List Int} (h:IsDist n b w f) (h8:n.Qa.length≤8) {k:Int} (h0:0≤k) (hk:k<(n.Qa.length:Int)):IntKind.i64.wrap (f.getD k.toNat default-1)=f.getD k.toNat default-1:=by
 have:=h.lt h0 hk
 exact wrap_of (by omega) (by omega)
def nextB (n:Qe) (f:List Int) (w a v:Int):Bool:=bif decide (0≤Qr n a v∧Qr n a v≠w) then (f.getD v.toNat default==IntKind.i64.wrap (f.getD a.toNat default-1)) else false
def nextOf (n:Qe) (f:List Int) (a w:Int):Int:=oix (first (fun k=>nextB n f w a (k:Int)) f.length)
def NoNext (n:Qe) (f:List Int) (w a v:Int):Prop:=∀ k:Nat,(k:Int)<v→nextB n f w a (k:Int)=false
theorem NoNext.zero {n:Qe} {f:List Int} {w a:Int}:NoNext n f w a 0:=fun k hk=>by omega
theorem NoNext.next {n:Qe} {f:List Int} {w a v:Int} (h:NoNext n f w a v) (h0:0≤v) (hc:nextB n f w a v=false):NoNext n f w a (v+1):=fun k hk=>by
 by_cases e:(k:Int)=v
 ·rw [e]; exact hc
 ·exact h k (by omega)
theorem IsDist.next {n:Qe} {b w:Int} {f:List Int} (h:IsDist n b w f) (h8:n.Qa.length≤8) {a:Int} (h0:0≤a) (h1:a<(n.Qa.length:Int)) (hd:0<f.getD a.toNat default):∃ k:Nat,k<n.Qa.length∧nextB n f w a (k:Int)=true:=by
 obtain ⟨j,hj,ha,e⟩:=h.pred a.toNat (by omega) hd
 refine ⟨j,hj,?_⟩
 have ha:=adj_comm ha
 rw [Int.toNat_of_nonneg h0] at ha
 unfold nextB
 have ha2:0≤Qr n a j∧Qr n a j≠w:=ha
 rw [decide_eq_true ha2,cond_true,nn,h.wr h8 h0 h1,e]
 exact beq_self_eq_true _
theorem nextB_T {n:Qe} {b w:Int} {f:List Int} (h:IsDist n b w f) (h8:n.Qa.length≤8) {a v:Int} (h0:0≤a) (h1:a<(n.Qa.length:Int)) (hc:nextB n f w a v=true):f.getD v.toNat default=f.getD a.toNat default-1:=by
 unfold nextB at hc
 rw [h.wr h8 h0 h1] at hc
 exact eq_of_beq (andT2 hc)
theorem nextB_U {n:Qe} {b w:Int} {f:List Int} {a v:Int} (hc:(bif decide (0≤Qr n a v∧Qr n a v≠w) then (f.getD v.toNat default==IntKind.i64.wrap (f.getD a.toNat default-1)) else false)=true) (h:IsDist n b w f) (h8:n.Qa.length≤8) (h0:0≤a) (h1:a<(n.Qa.length:Int)):f.getD v.toNat default=f.getD a.toNat default-1:=nextB_T h h8 h0 h1 hc
theorem NoNext.nextU {n:Qe} {f:List Int} {w a v:Int} (hc:(bif decide (0≤Qr n a v∧Qr n a v≠w) then (f.getD v.toNat default==IntKind.i64.wrap (f.getD a.toNat default-1)) else false)=false) (h:NoNext n f w a v) (h0:0≤v):NoNext n f w a (v+1):=h.next h0 hc
theorem noNext_absurd {n:Qe} {b w:Int} {f:List Int} (h:IsDist n b w f) (h8:n.Qa.length≤8) {a v:Int} (h0:0≤a) (h1:a<(n.Qa.length:Int)) (hd:0<f.getD a.toNat default) (hn:NoNext n f w a v) (hv:(n.Qa.length:Int)≤v):False:=by
 obtain ⟨k,hk,e⟩:=h.next h8 h0 h1 hd
 rw [hn k (by omega)] at e
 cases e
theorem noNext_absurdU {n:Qe} {b w:Int} {f:List Int} {a v:Int} (hn:NoNext n f w a v) (h:IsDist n b w f) (hb:¬ a=b) (h8:n.Qa.length≤8) (h0:0≤a) (h1:a<(n.Qa.length:Int)) (hd:0≤f.getD a.toNat default) (hv:(n.Qa.length:Int)≤v):False :=
 noNext_absurd h h8 h0 h1 (h.pos h0 h1 hb hd) hn hv
theorem nextOf_ok {n:Qe} {b w:Int} {f:List Int} (h:IsDist n b w f) (h8:n.Qa.length≤8) {a:Int} (h0:0≤a) (h1:a<(n.Qa.length:Int)) (hd:0<f.getD a.toNat default):0≤nextOf n f a w∧nextOf n f a w<(n.Qa.length:Int)∧f.getD (nextOf n f a w).toNat default=f.getD a.toNat default-1∧nextB n f w a (nextOf n f a w)=true∧∀ k:Nat,(k:Int)<nextOf n f a w→nextB n f w a (k:Int)=false:=by
 unfold nextOf
 cases e:first (fun k=>nextB n f w a (k:Int)) f.length with
 | none =>
  obtain ⟨k,hk,e2⟩:=h.next h8 h0 h1 hd
  have:=first_none.1 e k (by rw [h.ln]; exact hk)
  simp only [e2] at this
  cases this
 | some k =>
  obtain ⟨k1,k2,k3⟩:=first_some.1 e
  simp only [oix]
  exact ⟨by omega,by rw [← h.ln]; omega,nextB_T h h8 h0 h1 k2,k2,fun j hj=>k3 j (by omega)⟩
theorem far_isDist (n:Qe) (b w:Int) (hf:FrameOk n) (h0:0≤b) (h1:b<(n.Qa.length:Int)):IsDist n b w (F54 n b w):=specFar_dist hf h0 h1 w
theorem far_len (n:Qe) (b w:Int) (hf:FrameOk n) (h0:0≤b) (h1:b<(n.Qa.length:Int)):(F54 n b w).length=n.Qa.length:=(specFar_dist hf h0 h1 w).ln
theorem as83 (n:Qe) (b w:Int) (hf:FrameOk n) (h0:0≤b) (h1:b<(n.Qa.length:Int)):F83 n b w=F54 n b w:=far_eq hf h0 h1 w
def T83 (R:List Int) (n:Qe) (to':Int) (Qq:Int):Spec:=⟨(S83 R n to' Qq).args,(S83 R n to' Qq).res,FrameOk n∧0≤to'∧to'<(n.Qa.length:Int)∧n.Qa.length≤8⟩
theorem oa83 (n:Qe) (to':Int) (Qq:Int):(T83 (F54 n to' Qq) n to' Qq).ok Tryz.prog 83:=by
 intro hp; have h:=ok83 n to' Qq hp; rw [as83 n to' Qq hp.1 hp.2.1 hp.2.2.1] at h; exact h
def F55_s0 (n:Qe) (far:List Int) (at':Int) (Qq:Int):Int→Lp Int Int:=fun k =>
 bif (decide (k<(far.length:Int))) then (bif (bif (bif decide ((Qr n at' k)≥0) then ((Qr n at' k) != Qq) else false) then ((far.getD k.toNat default)==(IntKind.i64.wrap ((far.getD at'.toNat default)-1))) else false) then (.ret k) else (.next (k+1))) else (.done k)
def F55 (n:Qe) (far:List Int) (at':Int) (Qq:Int):Int :=
 (runL (F55_s0 n far at' Qq) (((far.length:Int)-0).toNat+1) 0).fin (fun r=>r) (fun k=>(-1))
def S55 (R:Int) (n:Qe) (far:List Int) (at':Int) (Qq:Int):Spec:=⟨[.r (.g (Qf n)),.r (.c (.l 1 eInt far)),.r (.c (.v (vI at'))),.r (.c (.v (vI Qq)))],.v (vI R),0≤at'∧at'<(far.length:Int)⟩
theorem ok55 (n:Qe) (far:List Int) (at':Int) (Qq:Int):(S55 (F55 n far at' Qq) n far at' Qq).ok Tryz.prog 55 :=
 fnG_ok mixed (fn:=Tryz.f55) (ct:=.seqk [(1,0)] (.no) (.seq (.seqk [(1,0),(4,0),(4,1)] (.no) (.blk (.loop (ι:=Nat×Int) (fun i=>(fun (k:Int)=>(⟨[(1,some (.h 0 0)),(2,some (.v (vI at'))),(3,some (.v (vI Qq))),(4,some (.p 1 0)),(9,some (.v (vI k)))],[(0,some (.shr none (.l 1 eInt far))),(1,some (.box 26 [.h 2 0,.h 3 0])),(2,some (.shr none (.l 2 Qh n.Qb))),(3,some (.shr none (.l 2 Qj n.Qa)))],4⟩:St)) i.2) (fun i=>runL (F55_s0 n far at' Qq) i.1 i.2=(runL (F55_s0 n far at' Qq) (((far.length:Int)-0).toNat+1) 0)∧(fun (k:Int)=>(Int.toNat ((far.length:Int)-k)<i.1∧(0:Int)≤k)) i.2) (fun i=>i.1) ((((far.length:Int)-0).toNat+1),0) (fun i=>(fun (k:Int)=>(.seq (.seq (.no) (.cond (.no) (.no))) (.seq (.blk (.seq (.reg [(3,.call 44 (S44 (Qr n at' k) n at' k) (oa44 n at' k) none)]) (.seq (.no) (.cond (.seq (.no) (.no)) (.no))))) (.reg [(1,.bnd)])))) i.2)))) (.seq (.no) (.no)))) Tryz.func55 (fun (hp:0≤at'∧at'<(far.length:Int))=>(fun (hpre0:0≤at') (hpre1:at'<(far.length:Int))=>fun (_:far.length≤9223372036854775807)=>fun (_:far.length≤9223372036854775807)=>fun (_:n.Qb.length≤9223372036854775807)=>fun (_:n.Qa.length≤9223372036854775807)=>ai (ai (rfl) (ai (rfl) (ai (rfl) (ai (ir) (ai (ir) (ai (ir) ((ai (rfl:runL (F55_s0 n far at' Qq) (((far.length:Int)-0).toNat+1) 0=(runL (F55_s0 n far at' Qq) (((far.length:Int)-0).toNat+1) 0)) (ai ((Nat.lt_succ_self _:Int.toNat ((far.length:Int)-0)<(((far.length:Int)-0).toNat+1))) ((by omega:(0:Int)≤0)))))))))):((.int .i64 at':Value)=.int .i64 at')∧((.int .i64 Qq:Value)=.int .i64 Qq)∧((.int .i64 0:Value)=.int .i64 0)∧(Imp (.l 1 eInt far) (.l 1 eInt far))∧(Imp (.l 2 Qh n.Qb) (.l 2 Qh n.Qb))∧(Imp (.l 2 Qj n.Qa) (.l 2 Qj n.Qa))∧(runL (F55_s0 n far at' Qq) (((far.length:Int)-0).toNat+1) 0=(runL (F55_s0 n far at' Qq) (((far.length:Int)-0).toNat+1) 0)∧Int.toNat ((far.length:Int)-0)<(((far.length:Int)-0).toNat+1)∧(0:Int)≤0)) (fun (i0:Nat×Int) (hi0:runL (F55_s0 n far at' Qq) i0.1 i0.2=(runL (F55_s0 n far at' Qq) (((far.length:Int)-0).toNat+1) 0)∧(fun (k:Int)=>(Int.toNat ((far.length:Int)-k)<i0.1∧(0:Int)≤k)) i0.2)=>(fun (m0:Nat) (k:Int) (hI0:runL (F55_s0 n far at' Qq) (m0+1) k=(runL (F55_s0 n far at' Qq) (((far.length:Int)-0).toNat+1) 0)) (_:Int.toNat ((far.length:Int)-k)<m0+1) (hl0:m0<i0.1) (_:(0:Int)≤k)=>ai (fun h2:(decide (k<(far.length:Int)))=true=>(fun _:k<(far.length:Int)=>ai (trivial) (ai ((Imps.refl (Qf n))) (ai ((Imp.refl (.v (vI at')))) (ai ((Imp.refl (.v (vI k)))) (ai ((fun k3:(bif decide ((Qr n at' k)≥0) then ((Qr n at' k) != Qq) else false)=true=>(fun _:¬ (Qr n at' k)=Qq=>(fun _:(Qr n at' k)≥0=>(by omega:0≤k∧k<(far.length:Int))) (of_decide_eq_true (andT1 k3))) (bneT (andT2 k3)))) (ai ((fun k4:(bif decide ((Qr n at' k)≥0) then ((Qr n at' k) != Qq) else false)=true=>(fun _:¬ (Qr n at' k)=Qq=>(fun _:(Qr n at' k)≥0=>(by omega:0≤at'∧at'<(far.length:Int))) (of_decide_eq_true (andT1 k4))) (bneT (andT2 k4)))) (ai (fun h5:(bif (bif decide ((Qr n at' k)≥0) then ((Qr n at' k) != Qq) else false) then ((far.getD k.toNat default)==(IntKind.i64.wrap ((far.getD at'.toNat default)-1))) else false)=true=>(fun _:(far.getD k.toNat default)=(IntKind.i64.wrap ((far.getD at'.toNat default)-1))=>(fun _:¬ (Qr n at' k)=Qq=>(fun _:(Qr n at' k)≥0=>(fun hF:(k:Int)=(F55 n far at' Qq)=>ai (congrArg (fun r:Int=>(.int .i64 r:Value)) hF) (trivial)) (finR (runL_ret hI0 (condT h2 (condT h5 (rfl)))) rfl)) (of_decide_eq_true (andT1 (andT1 h5)))) (bneT (andT2 (andT1 h5)))) (eq_of_beq (andT2 h5))) (fun h5:(bif (bif decide ((Qr n at' k)≥0) then ((Qr n at' k) != Qq) else false) then ((far.getD k.toNat default)==(IntKind.i64.wrap ((far.getD at'.toNat default)-1))) else false)=false=>ai ((by unfold i64ok; omega:i64ok (k+1))) (Exists.intro (p:=fun j:Nat×Int=>(fun (k_:Int)=>(((.int .i64 at':Value)=.int .i64 at')∧((.int .i64 Qq:Value)=.int .i64 Qq)∧((.int .i64 (k+1):Value)=.int .i64 k_)∧(Imp (.l 1 eInt far) (.l 1 eInt far))∧(Imp (.l 2 Qh n.Qb) (.l 2 Qh n.Qb))∧(Imp (.l 2 Qj n.Qa) (.l 2 Qj n.Qa))∧((runL (F55_s0 n far at' Qq) j.1 j.2=(runL (F55_s0 n far at' Qq) (((far.length:Int)-0).toNat+1) 0)∧Int.toNat ((far.length:Int)-k_)<j.1∧(0:Int)≤k_)∧j.1<i0.1))) j.2) (m0,(k+1)) (ai (rfl) (ai (rfl) (ai (rfl) (ai (ir) (ai (ir) (ai (ir) (ai (ai (runL_next hI0 (condT h2 (condF h5 (rfl)))) (ai ((by omega:Int.toNat ((far.length:Int)-(k+1))<m0)) ((by omega:(0:Int)≤(k+1))))) hl0)))))))))))))))) (of_decide_eq_true h2)) (fun h2:(decide (k<(far.length:Int)))=false=>(fun _:¬ k<(far.length:Int)=>(fun hD0_6:(runL (F55_s0 n far at' Qq) (((far.length:Int)-0).toNat+1) 0)=Lp.done k=>(fun hF:((-1):Int)=(F55 n far at' Qq)=>ai (congrArg (fun r:Int=>(.int .i64 r:Value)) hF) (trivial)) (finD hD0_6 (rfl))) (runL_done hI0 (condF h2 (rfl)))) (of_decide_eq_false h2))) (i0.1-1) i0.2 (hd1 hi0.1 hi0.2.1) (hd2 hi0.2.1) (hd3 hi0.2.1) hi0.2.2)) hp.1 hp.2) (by kernel_rfl)
theorem as55 (n:Qe) (far:List Int) (at':Int) (Qq:Int):F55 n far at' Qq=(nextOf n far at' Qq):=by
 unfold F55 nextOf
 rw [search (fun k=>nextB n far Qq at' (k:Int)) (fun k=>(k:Int)) far.length _ (fun k hk=>by simp only [F55_s0,ltD hk,cond_true,nextB,Bool.decide_and,bandd,decide_not,ne_eq,neI,geleD]) (by simp [F55_s0])]
 all_goals (cases first (fun k=>nextB n far Qq at' (k:Int)) far.length <;> rfl)
theorem oa55 (n:Qe) (far:List Int) (at':Int) (Qq:Int):(S55 (nextOf n far at' Qq) n far at' Qq).ok Tryz.prog 55:=by
 intro hp; have h:=ok55 n far at' Qq hp; rw [as55 n far at' Qq] at h; exact h
def F25_s0 (n:Qe) (a:Int) (b:Int) (Qq:Int):(List Int×Int×Int)→Lp (List Int×Int×Int) (List Int):=fun (out,at',d1) =>
 bif (decide (d1>0)) then (.next ((out++[(nextOf n (F54 n b Qq) at' Qq)]),(nextOf n (F54 n b Qq) at' Qq),(d1-1))) else (.done (out,at',d1))
def F25 (n:Qe) (a:Int) (b:Int) (Qq:Int):List Int :=
 bif (decide (((F54 n b Qq).getD a.toNat default)<0)) then ([]:List Int) else ((runL (F25_s0 n a b Qq) (((F54 n b Qq).getD a.toNat default).toNat+1) (([a]:List Int),a,((F54 n b Qq).getD a.toNat default))).fin (fun r=>r) (fun (out,at',d1)=>out))
def S25 (R:List Int) (n:Qe) (a:Int) (b:Int) (Qq:Int):Spec:=⟨[.r (.g (Qf n)),.r (.c (.v (vI a))),.r (.c (.v (vI b))),.r (.c (.v (vI Qq)))],.ow (.l 1 eInt R),FrameOk n∧n.Qa.length≤8∧0≤a∧a<(n.Qa.length:Int)∧0≤b∧b<(n.Qa.length:Int)⟩
theorem ok25 (n:Qe) (a:Int) (b:Int) (Qq:Int):(S25 (F25 n a b Qq) n a b Qq).ok Tryz.prog 25 :=
 fnG_ok mixed (fn:=Tryz.f25) (ct:=.seq (.no) (.seq (.reg [(3,.call 54 (S54 n b Qq) (ok54 n b Qq) none)]) (.seq (.seq (.no) (.cond (.seq (.reg [(0,.dat (.l 1 eInt ([]:List Int)))]) (.no)) (.no))) (.seq (.reg [(1,.dat (.l 1 eInt ([a]:List Int)))]) (.seq (.no) (.seq (.seqk [(4,0),(4,1),(9,0),(10,0)] (.no) (.blk (.loop (ι:=Nat×(List Int×Int×Int)) (fun i=>(fun (out:List Int) (at':Int) (d1:Int)=>(⟨[(3,some (.v (vI Qq))),(4,some (.p 0 0)),(9,some (.h 3 0)),(10,some (.h 4 0)),(11,some (.v (vI at'))),(12,some (.v (vI d1)))],[(0,some (.box 26 [.h 1 0,.h 2 0])),(1,some (.shr none (.l 2 Qh n.Qb))),(2,some (.shr none (.l 2 Qj n.Qa))),(3,some (.own 3 (.l 1 eInt (F54 n b Qq)))),(4,some (.own 4 (.l 1 eInt out)))],5⟩:St)) i.2.1 i.2.2.1 i.2.2.2) (fun i=>runL (F25_s0 n a b Qq) i.1 i.2=(runL (F25_s0 n a b Qq) (((F54 n b Qq).getD a.toNat default).toNat+1) (([a]:List Int),a,((F54 n b Qq).getD a.toNat default)))∧(fun (out:List Int) (at':Int) (d1:Int)=>(Int.toNat d1<i.1∧0≤at'∧at'<(n.Qa.length:Int)∧(F54 n b Qq).getD at'.toNat default=d1∧(out.length:Int)+d1≤8∧0≤d1)) i.2.1 i.2.2.1 i.2.2.2) (fun i=>i.1) ((((F54 n b Qq).getD a.toNat default).toNat+1),(([a]:List Int),a,((F54 n b Qq).getD a.toNat default))) (fun i=>(fun (out:List Int) (at':Int) (d1:Int)=>(.seq (.seq (.no) (.cond (.no) (.no))) (.seq (.blk (.seq (.reg [(4,.call 55 (S55 (nextOf n (F54 n b Qq) at' Qq) n (F54 n b Qq) at' Qq) (oa55 n (F54 n b Qq) at' Qq) none)]) (.reg [(3,.dat (.l 1 eInt (out++[(nextOf n (F54 n b Qq) at' Qq)])))]))) (.reg [(1,.bnd)])))) i.2.1 i.2.2.1 i.2.2.2)))) (.seq (.no) (.no)))))))) Tryz.func25 (fun (hp:FrameOk n∧n.Qa.length≤8∧0≤a∧a<(n.Qa.length:Int)∧0≤b∧b<(n.Qa.length:Int))=>(fun (hpre0:FrameOk n) (hpre1:n.Qa.length≤8) (hpre2:0≤a) (hpre3:a<(n.Qa.length:Int)) (hpre4:0≤b) (hpre5:b<(n.Qa.length:Int))=>ai ((ai ((by first | assumption | exact Qt.frame (by assumption):FrameOk n)) (ai ((by first | omega | (simp only [lens] at*<;> omega):0≤b)) (ai ((by first | omega | (simp only [lens] at*<;> omega):b<(n.Qa.length:Int))) ((by first | omega | (simp only [lens] at*<;> omega):n.Qa.length≤8)))))) (ai ((Imps.refl (Qf n))) (ai ((Imp.refl (.v (vI b)))) (ai ((Imp.refl (.v (vI Qq)))) ((fun gv1:IsDist n b Qq (F54 n b Qq)=>(fun gv2:(F54 n b Qq).length=n.Qa.length=>ai ((by first | omega | (simp only [lens] at*<;> omega):0≤a∧a<((F54 n b Qq).length:Int))) (ai (fun h3:(decide (((F54 n b Qq).getD a.toNat default)<0))=true=>(fun _:((F54 n b Qq).getD a.toNat default)<0=>ai ((BuildOK.mk eInt ([]:List Int) rfl (by exact trivial) (fun _=>rfl):BuildOK 0 1 [] (.l 1 eInt ([]:List Int)))) ((fun hF:(([]:List Int):List Int)=(F25 n a b Qq)=>ai (Imp.of_eq (congrArg (fun r:List Int=>Dat.l 1 eInt r) hF)) (trivial)) (condT h3 (rfl)))) (of_decide_eq_true h3)) (fun h3:(decide (((F54 n b Qq).getD a.toNat default)<0))=false=>(fun _:¬ ((F54 n b Qq).getD a.toNat default)<0=>ai ((BuildOK.mk eInt ([a]:List Int) rfl (by exact ai ir (trivial)) (fun _=>rfl):BuildOK 1 1 [.v (vI a)] (.l 1 eInt ([a]:List Int)))) (ai ((by first | omega | (simp only [lens] at*<;> omega):0≤a∧a<((F54 n b Qq).length:Int))) (fun (_:n.Qb.length≤9223372036854775807)=>fun (_:n.Qa.length≤9223372036854775807)=>fun (_:(F54 n b Qq).length≤9223372036854775807)=>fun (_:([a]:List Int).length≤9223372036854775807)=>ai (ai (rfl) (ai (rfl) (ai (rfl) (ai (ir) (ai (ir) (ai (ir) (ai (ir) ((ai (rfl:runL (F25_s0 n a b Qq) (((F54 n b Qq).getD a.toNat default).toNat+1) (([a]:List Int),a,((F54 n b Qq).getD a.toNat default))=(runL (F25_s0 n a b Qq) (((F54 n b Qq).getD a.toNat default).toNat+1) (([a]:List Int),a,((F54 n b Qq).getD a.toNat default)))) (ai ((Nat.lt_succ_self _:Int.toNat ((F54 n b Qq).getD a.toNat default)<(((F54 n b Qq).getD a.toNat default).toNat+1))) (ai ((by first | omega | (simp only [lens] at*<;> omega) | (have hl:=IsDist.lt (by assumption) (k:=a) (by assumption) (by assumption); (try simp only [lens]); omega) | (have hq:=nextOf_ok (by assumption) (by assumption) (a:=at') (by omega) (by omega) (by omega); (try simp only [lens]); omega):0≤a)) (ai ((by first | omega | (simp only [lens] at*<;> omega) | (have hl:=IsDist.lt (by assumption) (k:=a) (by assumption) (by assumption); (try simp only [lens]); omega) | (have hq:=nextOf_ok (by assumption) (by assumption) (a:=at') (by omega) (by omega) (by omega); (try simp only [lens]); omega):a<(n.Qa.length:Int))) (ai ((by first | omega | (simp only [lens] at*<;> omega) | (have hl:=IsDist.lt (by assumption) (k:=a) (by assumption) (by assumption); (try simp only [lens]); omega) | (have hq:=nextOf_ok (by assumption) (by assumption) (a:=at') (by omega) (by omega) (by omega); (try simp only [lens]); omega):(F54 n b Qq).getD a.toNat default=((F54 n b Qq).getD a.toNat default))) (ai ((by first | omega | (simp only [lens] at*<;> omega) | (have hl:=IsDist.lt (by assumption) (k:=a) (by assumption) (by assumption); (try simp only [lens]); omega) | (have hq:=nextOf_ok (by assumption) (by assumption) (a:=at') (by omega) (by omega) (by omega); (try simp only [lens]); omega):(([a]:List Int).length:Int)+((F54 n b Qq).getD a.toNat default)≤8)) ((by first | omega | (simp only [lens] at*<;> omega) | (have hl:=IsDist.lt (by assumption) (k:=a) (by assumption) (by assumption); (try simp only [lens]); omega) | (have hq:=nextOf_ok (by assumption) (by assumption) (a:=at') (by omega) (by omega) (by omega); (try simp only [lens]); omega):0≤((F54 n b Qq).getD a.toNat default)))))))))))))))):((.int .i64 Qq:Value)=.int .i64 Qq)∧((.int .i64 a:Value)=.int .i64 a)∧((.int .i64 ((F54 n b Qq).getD a.toNat default):Value)=.int .i64 ((F54 n b Qq).getD a.toNat default))∧(Imp (.l 2 Qh n.Qb) (.l 2 Qh n.Qb))∧(Imp (.l 2 Qj n.Qa) (.l 2 Qj n.Qa))∧(Imp (.l 1 eInt (F54 n b Qq)) (.l 1 eInt (F54 n b Qq)))∧(Imp (.l 1 eInt ([a]:List Int)) (.l 1 eInt ([a]:List Int)))∧(runL (F25_s0 n a b Qq) (((F54 n b Qq).getD a.toNat default).toNat+1) (([a]:List Int),a,((F54 n b Qq).getD a.toNat default))=(runL (F25_s0 n a b Qq) (((F54 n b Qq).getD a.toNat default).toNat+1) (([a]:List Int),a,((F54 n b Qq).getD a.toNat default)))∧Int.toNat ((F54 n b Qq).getD a.toNat default)<(((F54 n b Qq).getD a.toNat default).toNat+1)∧0≤a∧a<(n.Qa.length:Int)∧(F54 n b Qq).getD a.toNat default=((F54 n b Qq).getD a.toNat default)∧(([a]:List Int).length:Int)+((F54 n b Qq).getD a.toNat default)≤8∧0≤((F54 n b Qq).getD a.toNat default))) (fun (i0:Nat×(List Int×Int×Int)) (hi0:runL (F25_s0 n a b Qq) i0.1 i0.2=(runL (F25_s0 n a b Qq) (((F54 n b Qq).getD a.toNat default).toNat+1) (([a]:List Int),a,((F54 n b Qq).getD a.toNat default)))∧(fun (out:List Int) (at':Int) (d1:Int)=>(Int.toNat d1<i0.1∧0≤at'∧at'<(n.Qa.length:Int)∧(F54 n b Qq).getD at'.toNat default=d1∧(out.length:Int)+d1≤8∧0≤d1)) i0.2.1 i0.2.2.1 i0.2.2.2)=>(fun (m0:Nat) (out:List Int) (at':Int) (d1:Int) (hI0:runL (F25_s0 n a b Qq) (m0+1) (out,at',d1)=(runL (F25_s0 n a b Qq) (((F54 n b Qq).getD a.toNat default).toNat+1) (([a]:List Int),a,((F54 n b Qq).getD a.toNat default)))) (_:Int.toNat d1<m0+1) (hl0:m0<i0.1) (_:0≤at') (_:at'<(n.Qa.length:Int)) (_:(F54 n b Qq).getD at'.toNat default=d1) (_:(out.length:Int)+d1≤8) (_:0≤d1)=>ai (fun h5:(decide (d1>0))=true=>(fun _:d1>0=>ai ((ai ((by first | omega | (simp only [lens] at*<;> omega):0≤at')) ((by first | omega | (simp only [lens] at*<;> omega):at'<((F54 n b Qq).length:Int))))) (ai ((Imps.refl (Qf n))) (ai ((Imp.refl (.l 1 eInt (F54 n b Qq)))) (ai ((Imp.refl (.v (vI at')))) (ai ((Imp.refl (.v (vI Qq)))) (ai ((AppA.mk eInt out [(nextOf n (F54 n b Qq) at' Qq)] (Imp.refl (.l 1 eInt out)) rfl (by exact ai ir (trivial)) (fun _=>rfl):AppA (.l 1 eInt out) 1 1 [.v (vI (nextOf n (F54 n b Qq) at' Qq))] (.l 1 eInt (out++[(nextOf n (F54 n b Qq) at' Qq)])))) (ai ((by (try simp only [lens]); omega:((out++[(nextOf n (F54 n b Qq) at' Qq)])).length*8≤140737488355328)) (ai ((by unfold i64ok; first | omega | (simp only [lens] at*<;> omega):i64ok (d1-1))) (Exists.intro (p:=fun j:Nat×(List Int×Int×Int)=>(fun (out_:List Int) (at'_:Int) (d1_:Int)=>(((.int .i64 Qq:Value)=.int .i64 Qq)∧((.int .i64 (nextOf n (F54 n b Qq) at' Qq):Value)=.int .i64 at'_)∧((.int .i64 (d1-1):Value)=.int .i64 d1_)∧(Imp (.l 2 Qh n.Qb) (.l 2 Qh n.Qb))∧(Imp (.l 2 Qj n.Qa) (.l 2 Qj n.Qa))∧(Imp (.l 1 eInt (F54 n b Qq)) (.l 1 eInt (F54 n b Qq)))∧(Imp (.l 1 eInt (out++[(nextOf n (F54 n b Qq) at' Qq)])) (.l 1 eInt out_))∧((runL (F25_s0 n a b Qq) j.1 j.2=(runL (F25_s0 n a b Qq) (((F54 n b Qq).getD a.toNat default).toNat+1) (([a]:List Int),a,((F54 n b Qq).getD a.toNat default)))∧Int.toNat d1_<j.1∧0≤at'_∧at'_<(n.Qa.length:Int)∧(F54 n b Qq).getD (Int.toNat at'_) default=d1_∧(out_.length:Int)+d1_≤8∧0≤d1_)∧j.1<i0.1))) j.2.1 j.2.2.1 j.2.2.2) (m0,((out++[(nextOf n (F54 n b Qq) at' Qq)]),(nextOf n (F54 n b Qq) at' Qq),(d1-1))) (ai (rfl) (ai (rfl) (ai (rfl) (ai (ir) (ai (ir) (ai (ir) (ai (ir) (ai (ai (runL_next hI0 (condT h5 (rfl))) (ai ((by first | omega | (simp only [lens] at*<;> omega) | (have hl:=IsDist.lt (by assumption) (k:=a) (by assumption) (by assumption); (try simp only [lens]); omega) | (have hq:=nextOf_ok (by assumption) (by assumption) (a:=at') (by omega) (by omega) (by omega); (try simp only [lens]); omega):Int.toNat (d1-1)<m0)) (ai ((by first | omega | (simp only [lens] at*<;> omega) | (have hl:=IsDist.lt (by assumption) (k:=a) (by assumption) (by assumption); (try simp only [lens]); omega) | (have hq:=nextOf_ok (by assumption) (by assumption) (a:=at') (by omega) (by omega) (by omega); (try simp only [lens]); omega):0≤(nextOf n (F54 n b Qq) at' Qq))) (ai ((by first | omega | (simp only [lens] at*<;> omega) | (have hl:=IsDist.lt (by assumption) (k:=a) (by assumption) (by assumption); (try simp only [lens]); omega) | (have hq:=nextOf_ok (by assumption) (by assumption) (a:=at') (by omega) (by omega) (by omega); (try simp only [lens]); omega):(nextOf n (F54 n b Qq) at' Qq)<(n.Qa.length:Int))) (ai ((by first | omega | (simp only [lens] at*<;> omega) | (have hl:=IsDist.lt (by assumption) (k:=a) (by assumption) (by assumption); (try simp only [lens]); omega) | (have hq:=nextOf_ok (by assumption) (by assumption) (a:=at') (by omega) (by omega) (by omega); (try simp only [lens]); omega):(F54 n b Qq).getD (nextOf n (F54 n b Qq) at' Qq).toNat default=(d1-1))) (ai ((by first | omega | (simp only [lens] at*<;> omega) | (have hl:=IsDist.lt (by assumption) (k:=a) (by assumption) (by assumption); (try simp only [lens]); omega) | (have hq:=nextOf_ok (by assumption) (by assumption) (a:=at') (by omega) (by omega) (by omega); (try simp only [lens]); omega):((out++[(nextOf n (F54 n b Qq) at' Qq)]).length:Int)+(d1-1)≤8)) ((by first | omega | (simp only [lens] at*<;> omega) | (have hl:=IsDist.lt (by assumption) (k:=a) (by assumption) (by assumption); (try simp only [lens]); omega) | (have hq:=nextOf_ok (by assumption) (by assumption) (a:=at') (by omega) (by omega) (by omega); (try simp only [lens]); omega):0≤(d1-1))))))))) hl0))))))))))))))))) (of_decide_eq_true h5)) (fun h5:(decide (d1>0))=false=>(fun _:¬ d1>0=>(fun hD0_6:(runL (F25_s0 n a b Qq) (((F54 n b Qq).getD a.toNat default).toNat+1) (([a]:List Int),a,((F54 n b Qq).getD a.toNat default)))=Lp.done (out,at',d1)=>(fun hF:(out:List Int)=(F25 n a b Qq)=>ai (Imp.of_eq (congrArg (fun r:List Int=>Dat.l 1 eInt r) hF)) (trivial)) (condF h3 (finD hD0_6 (rfl)))) (runL_done hI0 (condF h5 (rfl)))) (of_decide_eq_false h5))) (i0.1-1) i0.2.1 i0.2.2.1 i0.2.2.2 (hd1 hi0.1 hi0.2.1) (hd2 hi0.2.1) (hd3 hi0.2.1) hi0.2.2.1 hi0.2.2.2.1 hi0.2.2.2.2.1 hi0.2.2.2.2.2.1 hi0.2.2.2.2.2.2)))) (of_decide_eq_false h3)))) (far_len n b Qq (by first | assumption | exact Qt.frame (by assumption):FrameOk n) (by first | omega | (simp only [lens] at*<;> omega):0≤b) (by first | omega | (simp only [lens] at*<;> omega):b<(n.Qa.length:Int)))) (far_isDist n b Qq (by first | assumption | exact Qt.frame (by assumption):FrameOk n) (by first | omega | (simp only [lens] at*<;> omega):0≤b) (by first | omega | (simp only [lens] at*<;> omega):b<(n.Qa.length:Int)))))))) hp.1 hp.2.1 hp.2.2.1 hp.2.2.2.1 hp.2.2.2.2.1 hp.2.2.2.2.2) (by kernel_rfl)
def F62_s1 (n:Qe) (a:Int) (b:Int) (Qq:Int) (way:List Int) (last:Int):(Int×Int)→Lp (Int×Int) (List Int):=fun (last2,v45) =>
 bif (decide (v45<((F54 n b Qq).length:Int))) then (bif (bif (decide (0≤Qr n last2 v45∧Qr n last2 v45≠Qq)) then (((F54 n b Qq).getD v45.toNat default)==(IntKind.i64.wrap (((F54 n b Qq).getD last2.toNat default)-1))) else false) then (.done (v45,v45)) else (.next (last2,(v45+1)))) else (.done (last2,v45))
def F62_j2 (n:Qe) (a:Int) (b:Int) (Qq:Int) (way:List Int) (last:Int):Lp Int (List Int) :=
 (runL (F62_s1 n a b Qq way last) ((((F54 n b Qq).length:Int)-0).toNat+1) (last,0)).fin Lp.ret (fun (last2,v45)=>.done last2)
def F62_s0 (n:Qe) (a:Int) (b:Int) (Qq:Int):(List Int×Int)→Lp (List Int×Int) (List Int):=fun (way,last) =>
 bif (last != b) then ((F62_j2 n a b Qq way last).fin Lp.ret (fun last1=>.next ((way++[last1]),last1))) else (.done (way,last))
def F62 (n:Qe) (a:Int) (b:Int) (Qq:Int):List Int :=
 bif (bif (bif (!(netB n)) then true else (!(decide (0≤a∧a≤(n.Qa.length:Int)-1)))) then true else (!(decide (0≤b∧b≤(n.Qa.length:Int)-1)))) then ([]:List Int) else (bif (decide (((F54 n b Qq).getD a.toNat default)<0)) then ([]:List Int) else ((runL (F62_s0 n a b Qq) (((F54 n b Qq).getD a.toNat default).toNat+1) (([a]:List Int),a)).fin (fun r=>r) (fun (way,last)=>way)))
def S62 (R:List Int) (n:Qe) (a:Int) (b:Int) (Qq:Int):Spec:=⟨[.r (.g (Qf n)),.r (.c (.v (vI a))),.r (.c (.v (vI b))),.r (.c (.v (vI Qq)))],.ow (.l 1 eInt R),True⟩
theorem ok62 (n:Qe) (a:Int) (b:Int) (Qq:Int):(S62 (F62 n a b Qq) n a b Qq).ok Tryz.prog 62 :=
 fnG_ok mixed (fn:=Tryz.f62) (ct:=.seq (.no) (.seq (.seq (.reg [(1,.call 7 (S7 (netB n) n) (oa7 n) none),(6,.call 49 (S49 (decide (0≤a∧a≤(n.Qa.length:Int)-1)) n a) (oa49 n a) none),(12,.call 49 (S49 (decide (0≤b∧b≤(n.Qa.length:Int)-1)) n b) (oa49 n b) none)]) (.cond (.seq (.no) (.no)) (.no))) (.seq (.reg [(3,.call 83 (T83 (F54 n b Qq) n b Qq) (oa83 n b Qq) none)]) (.seq (.seq (.no) (.cond (.seq (.no) (.no)) (.no))) (.seq (.reg [(1,.dat (.l 1 eInt ([a]:List Int)))]) (.seq (.seqk [(4,0),(4,1),(9,0),(10,0)] (.no) (.blk (.loop (ι:=Nat×(List Int×Int)) (fun i=>(fun (way:List Int) (last:Int)=>(⟨[(2,some (.v (vI b))),(3,some (.v (vI Qq))),(4,some (.p 0 0)),(9,some (.h 3 0)),(10,some (.h 4 0)),(11,some (.v (vI last)))],[(0,some (.box 26 [.h 1 0,.h 2 0])),(1,some (.shr none (.l 2 Qh n.Qb))),(2,some (.shr none (.l 2 Qj n.Qa))),(3,some (.own 3 (.l 1 eInt (F54 n b Qq)))),(4,some (.own 4 (.l 1 eInt way)))],5⟩:St)) i.2.1 i.2.2) (fun i=>runL (F62_s0 n a b Qq) i.1 i.2=(runL (F62_s0 n a b Qq) (((F54 n b Qq).getD a.toNat default).toNat+1) (([a]:List Int),a))∧(fun (way:List Int) (last:Int)=>(Int.toNat ((F54 n b Qq).getD last.toNat default)<i.1∧(0≤last∧last<(n.Qa.length:Int))∧0≤(F54 n b Qq).getD last.toNat default∧(way.length:Int)+(F54 n b Qq).getD last.toNat default≤8)) i.2.1 i.2.2) (fun i=>i.1) ((((F54 n b Qq).getD a.toNat default).toNat+1),(([a]:List Int),a)) (fun i=>(fun (way:List Int) (last:Int)=>(.seq (.seq (.no) (.cond (.no) (.no))) (.blk (.cut (ι:=Int) (fun j=>(fun (last1:Int)=>(⟨[(2,some (.v (vI b))),(3,some (.v (vI Qq))),(4,some (.p 0 0)),(9,some (.h 3 0)),(10,some (.h 4 0)),(11,some (.v (vI last1)))],[(0,some (.box 26 [.h 1 0,.h 2 0])),(1,some (.shr none (.l 2 Qh n.Qb))),(2,some (.shr none (.l 2 Qj n.Qa))),(3,some (.own 3 (.l 1 eInt (F54 n b Qq)))),(4,some (.own 4 (.l 1 eInt way)))],5⟩:St)) j) (fun j=>(fun (last1:Int)=>((F62_j2 n a b Qq way last)=Lp.done j∧(0≤last1∧last1<(n.Qa.length:Int))∧(F54 n b Qq).getD last1.toNat default=(F54 n b Qq).getD last.toNat default-1)) j) (.seqk [(4,0),(4,1),(9,0)] (.no) (.blk (.loop (ι:=Nat×(Int×Int)) (fun i=>(fun (last2:Int) (v45:Int)=>(⟨[(2,some (.v (vI b))),(3,some (.v (vI Qq))),(4,some (.p 0 0)),(9,some (.h 3 0)),(10,some (.h 4 0)),(11,some (.v (vI last2))),(44,some (.v (vI ((F54 n b Qq).length:Int)))),(45,some (.v (vI v45)))],[(0,some (.box 26 [.h 1 0,.h 2 0])),(1,some (.shr none (.l 2 Qh n.Qb))),(2,some (.shr none (.l 2 Qj n.Qa))),(3,some (.own 3 (.l 1 eInt (F54 n b Qq)))),(4,some (.own 4 (.l 1 eInt way)))],5⟩:St)) i.2.1 i.2.2) (fun i=>runL (F62_s1 n a b Qq way last) i.1 i.2=(runL (F62_s1 n a b Qq way last) ((((F54 n b Qq).length:Int)-0).toNat+1) (last,0))∧(fun (last2:Int) (v45:Int)=>(Int.toNat (((F54 n b Qq).length:Int)-v45)<i.1∧last2=last∧NoNext n (F54 n b Qq) Qq last2 v45∧(0:Int)≤v45)) i.2.1 i.2.2) (fun i=>i.1) (((((F54 n b Qq).length:Int)-0).toNat+1),(last,0)) (fun i=>(fun (last2:Int) (v45:Int)=>(.seq (.no) (.seq (.cond (.no) (.no)) (.seq (.blk (.seq (.no) (.seq (.reg [(4,.call 84 (S84 (decide (0≤Qr n last2 v45∧Qr n last2 v45≠Qq)) n last2 v45 Qq) (oa84 n last2 v45 Qq) none)]) (.cond (.seq (.no) (.no)) (.no))))) (.reg [(0,.bnd)]))))) i.2.1 i.2.2)))) (fun j=>(fun (last1:Int)=>(.reg [(3,.dat (.l 1 eInt (way++[last1])))])) j))))) i.2.1 i.2.2)))) (.seq (.no) (.no)))))))) Tryz.func62 (fun (_:True)=>ai (trivial) (ai ((Imps.refl (Qf n))) (ai ((fun k1:(!(netB n))=false=>(fun _:n.Qb.length≤14=>(fun _:n.Qa.length≤8=>(fun _:Qt n=>((by first | omega | (simp only [lens] at*<;> omega):n.Qa.length≤9223372036854775807))) (netB_T n (notEF k1))) (netB_8 n (notEF k1))) (netB_14 n (notEF k1)))) (ai ((fun k2:(!(netB n))=false=>(fun _:n.Qb.length≤14=>(fun _:n.Qa.length≤8=>(fun _:Qt n=>(Imps.refl (Qf n))) (netB_T n (notEF k2))) (netB_8 n (notEF k2))) (netB_14 n (notEF k2)))) (ai ((fun k3:(!(netB n))=false=>(fun _:n.Qb.length≤14=>(fun _:n.Qa.length≤8=>(fun _:Qt n=>(Imp.refl (.v (vI a)))) (netB_T n (notEF k3))) (netB_8 n (notEF k3))) (netB_14 n (notEF k3)))) (ai ((fun k4:(bif (!(netB n)) then true else (!(decide (0≤a∧a≤(n.Qa.length:Int)-1))))=false=>(fun _:0≤a∧a≤(n.Qa.length:Int)-1=>(fun _:n.Qb.length≤14=>(fun _:n.Qa.length≤8=>(fun _:Qt n=>((by first | omega | (simp only [lens] at*<;> omega):n.Qa.length≤9223372036854775807))) (netB_T n (notEF (orF1 k4)))) (netB_8 n (notEF (orF1 k4)))) (netB_14 n (notEF (orF1 k4)))) (of_decide_eq_true (notEF (orF2 k4))))) (ai ((fun k5:(bif (!(netB n)) then true else (!(decide (0≤a∧a≤(n.Qa.length:Int)-1))))=false=>(fun _:0≤a∧a≤(n.Qa.length:Int)-1=>(fun _:n.Qb.length≤14=>(fun _:n.Qa.length≤8=>(fun _:Qt n=>(Imps.refl (Qf n))) (netB_T n (notEF (orF1 k5)))) (netB_8 n (notEF (orF1 k5)))) (netB_14 n (notEF (orF1 k5)))) (of_decide_eq_true (notEF (orF2 k5))))) (ai ((fun k6:(bif (!(netB n)) then true else (!(decide (0≤a∧a≤(n.Qa.length:Int)-1))))=false=>(fun _:0≤a∧a≤(n.Qa.length:Int)-1=>(fun _:n.Qb.length≤14=>(fun _:n.Qa.length≤8=>(fun _:Qt n=>(Imp.refl (.v (vI b)))) (netB_T n (notEF (orF1 k6)))) (netB_8 n (notEF (orF1 k6)))) (netB_14 n (notEF (orF1 k6)))) (of_decide_eq_true (notEF (orF2 k6))))) (ai (fun h7:(bif (bif (!(netB n)) then true else (!(decide (0≤a∧a≤(n.Qa.length:Int)-1)))) then true else (!(decide (0≤b∧b≤(n.Qa.length:Int)-1))))=true=>(fun hF:(([]:List Int):List Int)=(F62 n a b Qq)=>ai ((Imp.nil 1 eInt).trans (Imp.of_eq (congrArg (fun r:List Int=>Dat.l 1 eInt r) hF))) (trivial)) (condT h7 (rfl))) (fun h7:(bif (bif (!(netB n)) then true else (!(decide (0≤a∧a≤(n.Qa.length:Int)-1)))) then true else (!(decide (0≤b∧b≤(n.Qa.length:Int)-1))))=false=>(fun _:0≤b∧b≤(n.Qa.length:Int)-1=>(fun _:0≤a∧a≤(n.Qa.length:Int)-1=>(fun _:n.Qb.length≤14=>(fun _:n.Qa.length≤8=>(fun _:Qt n=>ai ((ai ((by first | assumption | exact Qt.frame (by assumption):FrameOk n)) (ai ((by first | omega | (simp only [lens] at*<;> omega):0≤b)) (ai ((by first | omega | (simp only [lens] at*<;> omega):b<(n.Qa.length:Int))) ((by first | omega | (simp only [lens] at*<;> omega):n.Qa.length≤8)))))) (ai ((Imps.refl (Qf n))) (ai ((Imp.refl (.v (vI b)))) (ai ((Imp.refl (.v (vI Qq)))) ((fun gv8:IsDist n b Qq (F54 n b Qq)=>(fun gv9:(F54 n b Qq).length=n.Qa.length=>ai ((by first | omega | (simp only [lens] at*<;> omega):0≤a∧a<((F54 n b Qq).length:Int))) (ai (fun h10:(decide (((F54 n b Qq).getD a.toNat default)<0))=true=>(fun _:((F54 n b Qq).getD a.toNat default)<0=>(fun hF:(([]:List Int):List Int)=(F62 n a b Qq)=>ai ((Imp.nil 1 eInt).trans (Imp.of_eq (congrArg (fun r:List Int=>Dat.l 1 eInt r) hF))) (trivial)) (condF h7 (condT h10 (rfl)))) (of_decide_eq_true h10)) (fun h10:(decide (((F54 n b Qq).getD a.toNat default)<0))=false=>(fun _:¬ ((F54 n b Qq).getD a.toNat default)<0=>ai ((BuildOK.mk eInt ([a]:List Int) rfl (by exact ai ir (trivial)) (fun _=>rfl):BuildOK 1 1 [.v (vI a)] (.l 1 eInt ([a]:List Int)))) (fun (_:n.Qb.length≤9223372036854775807)=>fun (_:n.Qa.length≤9223372036854775807)=>fun (_:(F54 n b Qq).length≤9223372036854775807)=>fun (_:([a]:List Int).length≤9223372036854775807)=>ai (ai (rfl) (ai (rfl) (ai (rfl) (ai (ir) (ai (ir) (ai (ir) (ai (ir) ((ai (rfl:runL (F62_s0 n a b Qq) (((F54 n b Qq).getD a.toNat default).toNat+1) (([a]:List Int),a)=(runL (F62_s0 n a b Qq) (((F54 n b Qq).getD a.toNat default).toNat+1) (([a]:List Int),a))) (ai ((Nat.lt_succ_self _:Int.toNat ((F54 n b Qq).getD a.toNat default)<(((F54 n b Qq).getD a.toNat default).toNat+1))) (ai ((by first | omega | (simp only [lens] at*<;> omega) | (have hl:=IsDist.lt (by assumption) (k:=a) (by omega) (by omega); (try simp only [lens]); omega) | (have hp:=IsDist.pos (by assumption) (k:=last) (by omega) (by omega) (by assumption) (by omega); (try simp only [lens]); omega):0≤a∧a<(n.Qa.length:Int))) (ai ((by first | omega | (simp only [lens] at*<;> omega) | (have hl:=IsDist.lt (by assumption) (k:=a) (by omega) (by omega); (try simp only [lens]); omega) | (have hp:=IsDist.pos (by assumption) (k:=last) (by omega) (by omega) (by assumption) (by omega); (try simp only [lens]); omega):0≤(F54 n b Qq).getD a.toNat default)) ((by first | omega | (simp only [lens] at*<;> omega) | (have hl:=IsDist.lt (by assumption) (k:=a) (by omega) (by omega); (try simp only [lens]); omega) | (have hp:=IsDist.pos (by assumption) (k:=last) (by omega) (by omega) (by assumption) (by omega); (try simp only [lens]); omega):(([a]:List Int).length:Int)+(F54 n b Qq).getD a.toNat default≤8))))))))))))):((.int .i64 b:Value)=.int .i64 b)∧((.int .i64 Qq:Value)=.int .i64 Qq)∧((.int .i64 a:Value)=.int .i64 a)∧(Imp (.l 2 Qh n.Qb) (.l 2 Qh n.Qb))∧(Imp (.l 2 Qj n.Qa) (.l 2 Qj n.Qa))∧(Imp (.l 1 eInt (F54 n b Qq)) (.l 1 eInt (F54 n b Qq)))∧(Imp (.l 1 eInt ([a]:List Int)) (.l 1 eInt ([a]:List Int)))∧(runL (F62_s0 n a b Qq) (((F54 n b Qq).getD a.toNat default).toNat+1) (([a]:List Int),a)=(runL (F62_s0 n a b Qq) (((F54 n b Qq).getD a.toNat default).toNat+1) (([a]:List Int),a))∧Int.toNat ((F54 n b Qq).getD a.toNat default)<(((F54 n b Qq).getD a.toNat default).toNat+1)∧(0≤a∧a<(n.Qa.length:Int))∧0≤(F54 n b Qq).getD a.toNat default∧(([a]:List Int).length:Int)+(F54 n b Qq).getD a.toNat default≤8)) (fun (i0:Nat×(List Int×Int)) (hi0:runL (F62_s0 n a b Qq) i0.1 i0.2=(runL (F62_s0 n a b Qq) (((F54 n b Qq).getD a.toNat default).toNat+1) (([a]:List Int),a))∧(fun (way:List Int) (last:Int)=>(Int.toNat ((F54 n b Qq).getD last.toNat default)<i0.1∧(0≤last∧last<(n.Qa.length:Int))∧0≤(F54 n b Qq).getD last.toNat default∧(way.length:Int)+(F54 n b Qq).getD last.toNat default≤8)) i0.2.1 i0.2.2)=>(fun (m0:Nat) (way:List Int) (last:Int) (hI0:runL (F62_s0 n a b Qq) (m0+1) (way,last)=(runL (F62_s0 n a b Qq) (((F54 n b Qq).getD a.toNat default).toNat+1) (([a]:List Int),a))) (_:Int.toNat ((F54 n b Qq).getD last.toNat default)<m0+1) (hl0:m0<i0.1) (_:0≤last∧last<(n.Qa.length:Int)) (_:0≤(F54 n b Qq).getD last.toNat default) (_:(way.length:Int)+(F54 n b Qq).getD last.toNat default≤8)=>ai (fun h12:(last != b)=true=>(fun _:¬ last=b=>ai (fun (_:n.Qb.length≤9223372036854775807)=>fun (_:n.Qa.length≤9223372036854775807)=>fun (_:(F54 n b Qq).length≤9223372036854775807)=>ai (ai (rfl) (ai (rfl) (ai (rfl) (ai (rfl) (ai (rfl) (ai (ir) (ai (ir) (ai (ir) (ai (ir) ((ai (rfl:runL (F62_s1 n a b Qq way last) ((((F54 n b Qq).length:Int)-0).toNat+1) (last,0)=(runL (F62_s1 n a b Qq way last) ((((F54 n b Qq).length:Int)-0).toNat+1) (last,0))) (ai ((Nat.lt_succ_self _:Int.toNat (((F54 n b Qq).length:Int)-0)<((((F54 n b Qq).length:Int)-0).toNat+1))) (ai ((by first | omega | (simp only [lens] at*<;> omega) | exact NoNext.zero | exact NoNext.nextU (by assumption) (by assumption) (by omega):last=last)) (ai ((by first | omega | (simp only [lens] at*<;> omega) | exact NoNext.zero | exact NoNext.nextU (by assumption) (by assumption) (by omega):NoNext n (F54 n b Qq) Qq last 0)) ((by first | omega | (simp only [lens] at*<;> omega) | exact NoNext.zero | exact NoNext.nextU (by assumption) (by assumption) (by omega):(0:Int)≤0))))))))))))))):((.int .i64 b:Value)=.int .i64 b)∧((.int .i64 Qq:Value)=.int .i64 Qq)∧((.int .i64 last:Value)=.int .i64 last)∧((.int .i64 ((F54 n b Qq).length:Int):Value)=.int .i64 ((F54 n b Qq).length:Int))∧((.int .i64 0:Value)=.int .i64 0)∧(Imp (.l 2 Qh n.Qb) (.l 2 Qh n.Qb))∧(Imp (.l 2 Qj n.Qa) (.l 2 Qj n.Qa))∧(Imp (.l 1 eInt (F54 n b Qq)) (.l 1 eInt (F54 n b Qq)))∧(Imp (.l 1 eInt way) (.l 1 eInt way))∧(runL (F62_s1 n a b Qq way last) ((((F54 n b Qq).length:Int)-0).toNat+1) (last,0)=(runL (F62_s1 n a b Qq way last) ((((F54 n b Qq).length:Int)-0).toNat+1) (last,0))∧Int.toNat (((F54 n b Qq).length:Int)-0)<((((F54 n b Qq).length:Int)-0).toNat+1)∧last=last∧NoNext n (F54 n b Qq) Qq last 0∧(0:Int)≤0)) (fun (i1:Nat×(Int×Int)) (hi1:runL (F62_s1 n a b Qq way last) i1.1 i1.2=(runL (F62_s1 n a b Qq way last) ((((F54 n b Qq).length:Int)-0).toNat+1) (last,0))∧(fun (last2:Int) (v45:Int)=>(Int.toNat (((F54 n b Qq).length:Int)-v45)<i1.1∧last2=last∧NoNext n (F54 n b Qq) Qq last2 v45∧(0:Int)≤v45)) i1.2.1 i1.2.2)=>(fun (m1:Nat) (last2:Int) (v45:Int) (hI1:runL (F62_s1 n a b Qq way last) (m1+1) (last2,v45)=(runL (F62_s1 n a b Qq way last) ((((F54 n b Qq).length:Int)-0).toNat+1) (last,0))) (_:Int.toNat (((F54 n b Qq).length:Int)-v45)<m1+1) (hl1:m1<i1.1) (_:last2=last) (_:NoNext n (F54 n b Qq) Qq last2 v45) (_:(0:Int)≤v45)=>ai (fun h14:(decide (v45<((F54 n b Qq).length:Int)))=true=>(fun _:v45<((F54 n b Qq).length:Int)=>ai (((by first | assumption | exact Qt.frame (by assumption):FrameOk n))) (ai ((Imps.refl (Qf n))) (ai ((Imp.refl (.v (vI last2)))) (ai ((Imp.refl (.v (vI v45)))) (ai ((Imp.refl (.v (vI Qq)))) (ai ((fun k15:(decide (0≤Qr n last2 v45∧Qr n last2 v45≠Qq))=true=>(fun _:0≤Qr n last2 v45∧Qr n last2 v45≠Qq=>(by first | omega | (simp only [lens] at*<;> omega):0≤v45∧v45<((F54 n b Qq).length:Int))) (of_decide_eq_true k15))) (ai ((fun k16:(decide (0≤Qr n last2 v45∧Qr n last2 v45≠Qq))=true=>(fun _:0≤Qr n last2 v45∧Qr n last2 v45≠Qq=>(by first | omega | (simp only [lens] at*<;> omega):0≤last2∧last2<((F54 n b Qq).length:Int))) (of_decide_eq_true k16))) (ai (fun h17:(bif (decide (0≤Qr n last2 v45∧Qr n last2 v45≠Qq)) then (((F54 n b Qq).getD v45.toNat default)==(IntKind.i64.wrap (((F54 n b Qq).getD last2.toNat default)-1))) else false)=true=>(fun _:((F54 n b Qq).getD v45.toNat default)=(IntKind.i64.wrap (((F54 n b Qq).getD last2.toNat default)-1))=>(fun _:0≤Qr n last2 v45∧Qr n last2 v45≠Qq=>(fun hD1_18:(runL (F62_s1 n a b Qq way last) ((((F54 n b Qq).length:Int)-0).toNat+1) (last,0))=Lp.done (v45,v45)=>Exists.intro (p:=fun j:Int=>(fun (last1_:Int)=>(((.int .i64 b:Value)=.int .i64 b)∧((.int .i64 Qq:Value)=.int .i64 Qq)∧((.int .i64 (v45):Value)=.int .i64 last1_)∧(Imp (.l 2 Qh n.Qb) (.l 2 Qh n.Qb))∧(Imp (.l 2 Qj n.Qa) (.l 2 Qj n.Qa))∧(Imp (.l 1 eInt (F54 n b Qq)) (.l 1 eInt (F54 n b Qq)))∧(Imp (.l 1 eInt way) (.l 1 eInt way))∧(F62_j2 n a b Qq way last)=Lp.done j∧(0≤last1_∧last1_<(n.Qa.length:Int))∧(F54 n b Qq).getD last1_.toNat default=(F54 n b Qq).getD last.toNat default-1)) j) (v45) (ai (rfl) (ai (rfl) (ai (rfl) (ai (ir) (ai (ir) (ai (ir) (ai (ir) (ai (Eq.symm (finD hD1_18 (rfl))) (ai ((by first | omega | (simp only [lens] at*<;> omega) | (subst_vars; exact nextB_U (by assumption) (by assumption) (by assumption) (by omega) (by omega)) | (exfalso; subst_vars; exact noNext_absurdU (by assumption) (by assumption) (by assumption) (by assumption) (by omega) (by omega) (by omega) (by omega)):0≤(v45)∧(v45)<(n.Qa.length:Int))) ((by first | omega | (simp only [lens] at*<;> omega) | (subst_vars; exact nextB_U (by assumption) (by assumption) (by assumption) (by omega) (by omega)) | (exfalso; subst_vars; exact noNext_absurdU (by assumption) (by assumption) (by assumption) (by assumption) (by omega) (by omega) (by omega) (by omega)):(F54 n b Qq).getD (v45).toNat default=(F54 n b Qq).getD last.toNat default-1)))))))))))) (runL_done hI1 (condT h14 (condT h17 (rfl))))) (of_decide_eq_true (andT1 h17))) (eq_of_beq (andT2 h17))) (fun h17:(bif (decide (0≤Qr n last2 v45∧Qr n last2 v45≠Qq)) then (((F54 n b Qq).getD v45.toNat default)==(IntKind.i64.wrap (((F54 n b Qq).getD last2.toNat default)-1))) else false)=false=>ai ((by unfold i64ok; first | omega | (simp only [lens] at*<;> omega):i64ok (v45+1))) (Exists.intro (p:=fun j:Nat×(Int×Int)=>(fun (last2_:Int) (v45_:Int)=>(((.int .i64 b:Value)=.int .i64 b)∧((.int .i64 Qq:Value)=.int .i64 Qq)∧((.int .i64 last2:Value)=.int .i64 last2_)∧((.int .i64 ((F54 n b Qq).length:Int):Value)=.int .i64 ((F54 n b Qq).length:Int))∧((.int .i64 (v45+1):Value)=.int .i64 v45_)∧(Imp (.l 2 Qh n.Qb) (.l 2 Qh n.Qb))∧(Imp (.l 2 Qj n.Qa) (.l 2 Qj n.Qa))∧(Imp (.l 1 eInt (F54 n b Qq)) (.l 1 eInt (F54 n b Qq)))∧(Imp (.l 1 eInt way) (.l 1 eInt way))∧((runL (F62_s1 n a b Qq way last) j.1 j.2=(runL (F62_s1 n a b Qq way last) ((((F54 n b Qq).length:Int)-0).toNat+1) (last,0))∧Int.toNat (((F54 n b Qq).length:Int)-v45_)<j.1∧last2_=last∧NoNext n (F54 n b Qq) Qq last2_ v45_∧(0:Int)≤v45_)∧j.1<i1.1))) j.2.1 j.2.2) (m1,(last2,(v45+1))) (ai (rfl) (ai (rfl) (ai (rfl) (ai (rfl) (ai (rfl) (ai (ir) (ai (ir) (ai (ir) (ai (ir) (ai (ai (runL_next hI1 (condT h14 (condF h17 (rfl)))) (ai ((by first | omega | (simp only [lens] at*<;> omega) | exact NoNext.zero | exact NoNext.nextU (by assumption) (by assumption) (by omega):Int.toNat (((F54 n b Qq).length:Int)-(v45+1))<m1)) (ai ((by first | omega | (simp only [lens] at*<;> omega) | exact NoNext.zero | exact NoNext.nextU (by assumption) (by assumption) (by omega):last2=last)) (ai ((by first | omega | (simp only [lens] at*<;> omega) | exact NoNext.zero | exact NoNext.nextU (by assumption) (by assumption) (by omega):NoNext n (F54 n b Qq) Qq last2 (v45+1))) ((by first | omega | (simp only [lens] at*<;> omega) | exact NoNext.zero | exact NoNext.nextU (by assumption) (by assumption) (by omega):(0:Int)≤(v45+1))))))) hl1)))))))))))))))))))) (of_decide_eq_true h14)) (fun h14:(decide (v45<((F54 n b Qq).length:Int)))=false=>(fun _:¬ v45<((F54 n b Qq).length:Int)=>(fun hD1_19:(runL (F62_s1 n a b Qq way last) ((((F54 n b Qq).length:Int)-0).toNat+1) (last,0))=Lp.done (last2,v45)=>Exists.intro (p:=fun j:Int=>(fun (last1_:Int)=>(((.int .i64 b:Value)=.int .i64 b)∧((.int .i64 Qq:Value)=.int .i64 Qq)∧((.int .i64 last2:Value)=.int .i64 last1_)∧(Imp (.l 2 Qh n.Qb) (.l 2 Qh n.Qb))∧(Imp (.l 2 Qj n.Qa) (.l 2 Qj n.Qa))∧(Imp (.l 1 eInt (F54 n b Qq)) (.l 1 eInt (F54 n b Qq)))∧(Imp (.l 1 eInt way) (.l 1 eInt way))∧(F62_j2 n a b Qq way last)=Lp.done j∧(0≤last1_∧last1_<(n.Qa.length:Int))∧(F54 n b Qq).getD last1_.toNat default=(F54 n b Qq).getD last.toNat default-1)) j) (last2) (ai (rfl) (ai (rfl) (ai (rfl) (ai (ir) (ai (ir) (ai (ir) (ai (ir) (ai (Eq.symm (finD hD1_19 (rfl))) (ai ((by first | omega | (simp only [lens] at*<;> omega) | (subst_vars; exact nextB_U (by assumption) (by assumption) (by assumption) (by omega) (by omega)) | (exfalso; subst_vars; exact noNext_absurdU (by assumption) (by assumption) (by assumption) (by assumption) (by omega) (by omega) (by omega) (by omega)):0≤last2∧last2<(n.Qa.length:Int))) ((by first | omega | (simp only [lens] at*<;> omega) | (subst_vars; exact nextB_U (by assumption) (by assumption) (by assumption) (by omega) (by omega)) | (exfalso; subst_vars; exact noNext_absurdU (by assumption) (by assumption) (by assumption) (by assumption) (by omega) (by omega) (by omega) (by omega)):(F54 n b Qq).getD last2.toNat default=(F54 n b Qq).getD last.toNat default-1)))))))))))) (runL_done hI1 (condF h14 (rfl)))) (of_decide_eq_false h14))) (i1.1-1) i1.2.1 i1.2.2 (hd1 hi1.1 hi1.2.1) (hd2 hi1.2.1) (hd3 hi1.2.1) hi1.2.2.1 hi1.2.2.2.1 hi1.2.2.2.2)) (fun (j:Int) (hj:(fun (last1:Int)=>((F62_j2 n a b Qq way last)=Lp.done j∧(0≤last1∧last1<(n.Qa.length:Int))∧(F54 n b Qq).getD last1.toNat default=(F54 n b Qq).getD last.toNat default-1)) j)=>(fun (last1:Int) (hJ2_20:(F62_j2 n a b Qq way last)=Lp.done last1) (_:0≤last1∧last1<(n.Qa.length:Int)) (_:(F54 n b Qq).getD last1.toNat default=(F54 n b Qq).getD last.toNat default-1)=>ai ((AppA.mk eInt way [last1] (Imp.refl (.l 1 eInt way)) rfl (by exact ai ir (trivial)) (fun _=>rfl):AppA (.l 1 eInt way) 1 1 [.v (vI last1)] (.l 1 eInt (way++[last1])))) (ai ((by (try simp only [lens]); omega:((way++[last1])).length*8≤140737488355328)) (Exists.intro (p:=fun j:Nat×(List Int×Int)=>(fun (way_:List Int) (last_:Int)=>(((.int .i64 b:Value)=.int .i64 b)∧((.int .i64 Qq:Value)=.int .i64 Qq)∧((.int .i64 last1:Value)=.int .i64 last_)∧(Imp (.l 2 Qh n.Qb) (.l 2 Qh n.Qb))∧(Imp (.l 2 Qj n.Qa) (.l 2 Qj n.Qa))∧(Imp (.l 1 eInt (F54 n b Qq)) (.l 1 eInt (F54 n b Qq)))∧(Imp (.l 1 eInt (way++[last1])) (.l 1 eInt way_))∧((runL (F62_s0 n a b Qq) j.1 j.2=(runL (F62_s0 n a b Qq) (((F54 n b Qq).getD a.toNat default).toNat+1) (([a]:List Int),a))∧Int.toNat ((F54 n b Qq).getD last_.toNat default)<j.1∧(0≤last_∧last_<(n.Qa.length:Int))∧0≤(F54 n b Qq).getD last_.toNat default∧(way_.length:Int)+(F54 n b Qq).getD last_.toNat default≤8)∧j.1<i0.1))) j.2.1 j.2.2) (m0,((way++[last1]),last1)) (ai (rfl) (ai (rfl) (ai (rfl) (ai (ir) (ai (ir) (ai (ir) (ai (ir) (ai (ai (runL_next hI0 (condT h12 (finD hJ2_20 (rfl)))) (ai ((by first | omega | (simp only [lens] at*<;> omega) | (have hl:=IsDist.lt (by assumption) (k:=a) (by omega) (by omega); (try simp only [lens]); omega) | (have hp:=IsDist.pos (by assumption) (k:=last) (by omega) (by omega) (by assumption) (by omega); (try simp only [lens]); omega):Int.toNat ((F54 n b Qq).getD last1.toNat default)<m0)) (ai ((by first | omega | (simp only [lens] at*<;> omega) | (have hl:=IsDist.lt (by assumption) (k:=a) (by omega) (by omega); (try simp only [lens]); omega) | (have hp:=IsDist.pos (by assumption) (k:=last) (by omega) (by omega) (by assumption) (by omega); (try simp only [lens]); omega):0≤last1∧last1<(n.Qa.length:Int))) (ai ((by first | omega | (simp only [lens] at*<;> omega) | (have hl:=IsDist.lt (by assumption) (k:=a) (by omega) (by omega); (try simp only [lens]); omega) | (have hp:=IsDist.pos (by assumption) (k:=last) (by omega) (by omega) (by assumption) (by omega); (try simp only [lens]); omega):0≤(F54 n b Qq).getD last1.toNat default)) ((by first | omega | (simp only [lens] at*<;> omega) | (have hl:=IsDist.lt (by assumption) (k:=a) (by omega) (by omega); (try simp only [lens]); omega) | (have hp:=IsDist.pos (by assumption) (k:=last) (by omega) (by omega) (by assumption) (by omega); (try simp only [lens]); omega):((way++[last1]).length:Int)+(F54 n b Qq).getD last1.toNat default≤8)))))) hl0))))))))))) j hj.1 hj.2.1 hj.2.2)) (bneT h12)) (fun h12:(last != b)=false=>(fun _:last=b=>(fun hD0_21:(runL (F62_s0 n a b Qq) (((F54 n b Qq).getD a.toNat default).toNat+1) (([a]:List Int),a))=Lp.done (way,last)=>(fun hF:(way:List Int)=(F62 n a b Qq)=>ai (Imp.of_eq (congrArg (fun r:List Int=>Dat.l 1 eInt r) hF)) (trivial)) (condF h7 (condF h10 (finD hD0_21 (rfl))))) (runL_done hI0 (condF h12 (rfl)))) (bneF h12))) (i0.1-1) i0.2.1 i0.2.2 (hd1 hi0.1 hi0.2.1) (hd2 hi0.2.1) (hd3 hi0.2.1) hi0.2.2.1 hi0.2.2.2.1 hi0.2.2.2.2))) (of_decide_eq_false h10)))) (far_len n b Qq (by first | assumption | exact Qt.frame (by assumption):FrameOk n) (by first | omega | (simp only [lens] at*<;> omega):0≤b) (by first | omega | (simp only [lens] at*<;> omega):b<(n.Qa.length:Int)))) (far_isDist n b Qq (by first | assumption | exact Qt.frame (by assumption):FrameOk n) (by first | omega | (simp only [lens] at*<;> omega):0≤b) (by first | omega | (simp only [lens] at*<;> omega):b<(n.Qa.length:Int)))))))) (netB_T n (notEF (orF1 (orF1 h7))))) (netB_8 n (notEF (orF1 (orF1 h7))))) (netB_14 n (notEF (orF1 (orF1 h7))))) (of_decide_eq_true (notEF (orF2 (orF1 h7))))) (of_decide_eq_true (notEF (orF2 h7))))))))))))) (by kernel_rfl)
theorem search_break {τ ρ:Type} {step:τ→Lp τ ρ} (emb:Nat→τ) (p:Nat→Bool) {n k0:Nat} (h:first p n=some k0) (hs:∀ k,k<n→p k=false→step (emb k)=.next (emb (k+1))) (x:τ) (hd:step (emb k0)=.done x):∀ (m k:Nat),k+m=k0→∀ M,m<M→runL step M (emb k)=.done x
 | 0,k,hk,M,hM=>by
  obtain ⟨M,rfl⟩:∃ M',M=M'+1:=⟨M-1,by omega⟩
  obtain rfl:k=k0:=by omega
  simp only [runL,hd]
 | m+1,k,hk,M,hM=>by
  obtain ⟨M,rfl⟩:∃ M',M=M'+1:=⟨M-1,by omega⟩
  obtain ⟨h1,h2,h3⟩:=first_some.1 h
  simp only [runL,hs k (by omega) (h3 k (by omega))]
  exact search_break emb p h hs x hd m (k+1) (by omega) M (by omega)
def wayGo (n:Qe) (f:List Int) (w:Int):Nat→Int→List Int
 | 0,_=>[]
 | m+1,x=>nextOf n f x w :: wayGo n f w m (nextOf n f x w)
theorem wayGo_len (n:Qe) (f:List Int) (w:Int):∀ (m:Nat) (x:Int),(wayGo n f w m x).length=m
 | 0,_=>rfl
 | m+1,x=>by simp only [wayGo,List.length_cons,wayGo_len n f w m]
def Qy (n:Qe) (a b w:Int):List Int:=bif decide ((F54 n b w).getD a.toNat default<0) then [] else a :: wayGo n (F54 n b w) w ((F54 n b w).getD a.toNat default).toNat a
theorem specWay_go (n:Qe) (a b w:Int):∀ (m:Nat) (out:List Int) (x:Int),(runL (F25_s0 n a b w) (m+1) (out,x,(m:Int))).fin (fun r=>r) (fun s=>s.1)=out++wayGo n (F54 n b w) w m x
 | 0,out,x=>by simp [runL,F25_s0,Lp.fin,wayGo]
 | m+1,out,x=>by
  have hc:decide (((m+1:Nat):Int)>0)=true:=decide_eq_true (by omega)
  rw [runL]
  simp only [F25_s0,hc,cond_true]
  have e:((m+1:Nat):Int)-1=(m:Int):=by omega
  rw [e]
  refine (specWay_go n a b w m _ _).trans ?_
  simp [wayGo]
theorem specWay_eq (n:Qe) (a b w:Int):F25 n a b w=Qy n a b w:=by
 unfold F25 Qy
 by_cases h:(F54 n b w).getD a.toNat default<0
 ·rw [decide_eq_true h]; rfl
 ·rw [decide_eq_false h]
  simp only [cond_false]
  have e:(F54 n b w).getD a.toNat default=((Int.toNat ((F54 n b w).getD a.toNat default):Nat):Int):=by omega
  have h2:=specWay_go n a b w ((F54 n b w).getD a.toNat default).toNat [a] a
  rw [← e] at h2
  exact h2
theorem implWay_next {n:Qe} (hf:FrameOk n) (a b w:Int) (hb0:0≤b) (hb1:b<(n.Qa.length:Int)) (way:List Int) {x:Int} (h0:0≤x) (h1:x<(n.Qa.length:Int)) (hd:0<(F54 n b w).getD x.toNat default) :
  F62_j2 n a b w way x=.done (nextOf n (F54 n b w) x w):=by
 have hD:=far_isDist n b w hf hb0 hb1
 obtain ⟨n1,n2,n3,n4,n5⟩:=nextOf_ok hD hf.b8 h0 h1 hd
 unfold F62_j2
 rw [n0,hD.ln]
 have hfirst:first (fun k=>nextB n (F54 n b w) w x (k:Int)) n.Qa.length=some (nextOf n (F54 n b w) x w).toNat :=
  first_some.2 ⟨by omega,by show nextB _ _ _ _ _=true; rw [Int.toNat_of_nonneg n1]; exact n4,fun j hj=>n5 j (by omega)⟩
 have:=search_break (step:=F62_s1 n a b w way x) (fun k=>(x,(k:Int))) _ hfirst (fun k hk hp=>by
   unfold nextB at hp
   simp only [F62_s1,hD.ln,ltD hk,cond_true,hp,cond_false]
   rfl) (nextOf n (F54 n b w) x w,nextOf n (F54 n b w) x w) (by
   have hp:=n4
   unfold nextB at hp
   have hc:decide (nextOf n (F54 n b w) x w<((F54 n b w).length:Int))=true:=decide_eq_true (by rw [hD.ln]; omega)
   simp only [F62_s1,Int.toNat_of_nonneg n1,hc,cond_true,hp]) (Int.toNat (nextOf n (F54 n b w) x w)) 0 (by omega) (n.Qa.length+1) (by omega)
 have this:runL (F62_s1 n a b w way x) (n.Qa.length+1) (x,0)=_:=this
 rw [this]; rfl
theorem implWay_go {n:Qe} (hf:FrameOk n) (a b w:Int) (hb0:0≤b) (hb1:b<(n.Qa.length:Int)):∀ (m:Nat) (way:List Int) (x:Int),0≤x→x<(n.Qa.length:Int)→(F54 n b w).getD x.toNat default=(m:Int) →
  (runL (F62_s0 n a b w) (m+1) (way,x)).fin (fun r=>r) (fun s=>s.1)=way++wayGo n (F54 n b w) w m x
 | 0,way,x,h0,h1,hd=>by
  have hD:=far_isDist n b w hf hb0 hb1
  have:=hD.zero x.toNat (by omega) hd
  have hx:(x != b)=false:=by
   have:x=b:=by omega
   simp [this]
  simp [runL,F62_s0,hx,Lp.fin,wayGo]
 | m+1,way,x,h0,h1,hd=>by
  have hD:=far_isDist n b w hf hb0 hb1
  have hx:(x != b)=true:=by
   have:x≠b:=fun e=>by rw [e,hD.b0] at hd; omega
   simp [this]
  obtain ⟨n1,n2,n3,_⟩:=nextOf_ok hD hf.b8 h0 h1 (by omega)
  rw [runL]
  simp only [F62_s0,hx,cond_true,implWay_next hf a b w hb0 hb1 way h0 h1 (by omega),Lp.fin]
  refine (implWay_go hf a b w hb0 hb1 m _ _ n1 n2 (by rw [n3,hd]; omega)).trans ?_
  simp [wayGo]
def Qx (n:Qe) (a b w:Int):List Int:=bif netB n&&(decide (0≤a∧a≤(n.Qa.length:Int)-1)&&decide (0≤b∧b≤(n.Qa.length:Int)-1)) then Qy n a b w else []
theorem as62 (n:Qe) (a b w:Int):F62 n a b w=Qx n a b w:=by
 unfold F62 Qx
 cases hn:netB n
 ·rfl
 ·have hf:=(netB_T n hn).frame
  by_cases ha:0≤a∧a≤(n.Qa.length:Int)-1
  ·by_cases hb:0≤b∧b≤(n.Qa.length:Int)-1
   ·rw [decide_eq_true ha,decide_eq_true hb]
    simp only [Bool.not_true,cond_false,Bool.and_self,cond_true]
    unfold Qy
    by_cases h:(F54 n b w).getD a.toNat default<0
    ·rw [decide_eq_true h]; rfl
    ·rw [decide_eq_false h]
     simp only [cond_false]
     exact implWay_go hf a b w hb.1 (by omega) _ [a] a ha.1 (by omega) (by omega)
   ·rw [decide_eq_true ha,decide_eq_false hb]; rfl
  ·rw [decide_eq_false ha]; rfl
theorem as25 (n:Qe) (a b w:Int):F25 n a b w=Qy n a b w:=specWay_eq n a b w
theorem wayOf_len {n:Qe} (hf:FrameOk n) {a b:Int} (w:Int) (ha0:0≤a) (ha1:a<(n.Qa.length:Int)) (hb0:0≤b) (hb1:b<(n.Qa.length:Int)):(Qy n a b w).length≤n.Qa.length:=by
 have hD:=far_isDist n b w hf hb0 hb1
 unfold Qy
 by_cases h:(F54 n b w).getD a.toNat default<0
 ·rw [decide_eq_true h]; exact Nat.zero_le _
 ·rw [decide_eq_false h]
  simp only [cond_false,List.length_cons,wayGo_len]
  have:=(hD.lt ha0 ha1).2
  omega
theorem oa25 (n:Qe) (a:Int) (b:Int) (Qq:Int):(S25 (Qy n a b Qq) n a b Qq).ok Tryz.prog 25:=by
 intro hp; have h:=ok25 n a b Qq hp; rw [as25 n a b Qq] at h; exact h
theorem oa62 (n:Qe) (a:Int) (b:Int) (Qq:Int):(S62 (Qx n a b Qq) n a b Qq).ok Tryz.prog 62:=by
 intro hp; have h:=ok62 n a b Qq hp; rw [as62 n a b Qq] at h; exact h
def F103_s0 (s:List Int) (v1:Int):Int→Lp Int Int:=fun v8 =>
 bif (decide (v8<(s.length:Int))) then (bif (v1==(s.getD v8.toNat default)) then (.ret v8) else (.next (v8+1))) else (.done v8)
def F103 (s:List Int) (v1:Int):Int :=
 (runL (F103_s0 s v1) (((s.length:Int)-0).toNat+1) 0).fin (fun r=>r) (fun v8=>(-1))
def S103 (R:Int) (s:List Int) (v1:Int):Spec:=⟨[.r (.c (.l 1 eInt s)),.r (.c (.v (vI v1)))],.v (vI R),True⟩
theorem ok103 (s:List Int) (v1:Int):(S103 (F103 s v1) s v1).ok Tryz.prog 103 :=
 fnG_ok mixed (fn:=Tryz.f103) (ct:=.seqk [(0,0)] (.no) (.seq (.seqk [(0,0)] (.no) (.blk (.loop (ι:=Nat×Int) (fun i=>(fun (v8:Int)=>(⟨[(0,some (.h 0 0)),(1,some (.v (vI v1))),(7,some (.v (vI (s.length:Int)))),(8,some (.v (vI v8)))],[(0,some (.shr none (.l 1 eInt s)))],1⟩:St)) i.2) (fun i=>runL (F103_s0 s v1) i.1 i.2=(runL (F103_s0 s v1) (((s.length:Int)-0).toNat+1) 0)∧(fun (v8:Int)=>(Int.toNat ((s.length:Int)-v8)<i.1∧(0:Int)≤v8)) i.2) (fun i=>i.1) ((((s.length:Int)-0).toNat+1),0) (fun i=>(fun (v8:Int)=>(.seq (.no) (.seq (.cond (.no) (.no)) (.seq (.blk (.seq (.no) (.seq (.no) (.cond (.seq (.no) (.no)) (.no))))) (.reg [(0,.bnd)]))))) i.2)))) (.seq (.no) (.no)))) Tryz.func103 (fun (_:True)=>fun (_:s.length≤9223372036854775807)=>fun (_:s.length≤9223372036854775807)=>ai (ai (rfl) (ai (rfl) (ai (rfl) (ai (ir) ((ai (rfl:runL (F103_s0 s v1) (((s.length:Int)-0).toNat+1) 0=(runL (F103_s0 s v1) (((s.length:Int)-0).toNat+1) 0)) (ai ((Nat.lt_succ_self _:Int.toNat ((s.length:Int)-0)<(((s.length:Int)-0).toNat+1))) ((by omega:(0:Int)≤0)))))))):((.int .i64 v1:Value)=.int .i64 v1)∧((.int .i64 (s.length:Int):Value)=.int .i64 (s.length:Int))∧((.int .i64 0:Value)=.int .i64 0)∧(Imp (.l 1 eInt s) (.l 1 eInt s))∧(runL (F103_s0 s v1) (((s.length:Int)-0).toNat+1) 0=(runL (F103_s0 s v1) (((s.length:Int)-0).toNat+1) 0)∧Int.toNat ((s.length:Int)-0)<(((s.length:Int)-0).toNat+1)∧(0:Int)≤0)) (fun (i0:Nat×Int) (hi0:runL (F103_s0 s v1) i0.1 i0.2=(runL (F103_s0 s v1) (((s.length:Int)-0).toNat+1) 0)∧(fun (v8:Int)=>(Int.toNat ((s.length:Int)-v8)<i0.1∧(0:Int)≤v8)) i0.2)=>(fun (m0:Nat) (v8:Int) (hI0:runL (F103_s0 s v1) (m0+1) v8=(runL (F103_s0 s v1) (((s.length:Int)-0).toNat+1) 0)) (_:Int.toNat ((s.length:Int)-v8)<m0+1) (hl0:m0<i0.1) (_:(0:Int)≤v8)=>ai (fun h2:(decide (v8<(s.length:Int)))=true=>(fun _:v8<(s.length:Int)=>ai ((by omega:0≤v8∧v8<(s.length:Int))) (ai (fun h3:(v1==(s.getD v8.toNat default))=true=>(fun _:v1=(s.getD v8.toNat default)=>(fun hF:(v8:Int)=(F103 s v1)=>ai (congrArg (fun r:Int=>(.int .i64 r:Value)) hF) (trivial)) (finR (runL_ret hI0 (condT h2 (condT h3 (rfl)))) rfl)) (eq_of_beq h3)) (fun h3:(v1==(s.getD v8.toNat default))=false=>(fun _:¬ v1=(s.getD v8.toNat default)=>ai ((by unfold i64ok; omega:i64ok (v8+1))) (Exists.intro (p:=fun j:Nat×Int=>(fun (v8_:Int)=>(((.int .i64 v1:Value)=.int .i64 v1)∧((.int .i64 (s.length:Int):Value)=.int .i64 (s.length:Int))∧((.int .i64 (v8+1):Value)=.int .i64 v8_)∧(Imp (.l 1 eInt s) (.l 1 eInt s))∧((runL (F103_s0 s v1) j.1 j.2=(runL (F103_s0 s v1) (((s.length:Int)-0).toNat+1) 0)∧Int.toNat ((s.length:Int)-v8_)<j.1∧(0:Int)≤v8_)∧j.1<i0.1))) j.2) (m0,(v8+1)) (ai (rfl) (ai (rfl) (ai (rfl) (ai (ir) (ai (ai (runL_next hI0 (condT h2 (condF h3 (rfl)))) (ai ((by omega:Int.toNat ((s.length:Int)-(v8+1))<m0)) ((by omega:(0:Int)≤(v8+1))))) hl0))))))) (beqF h3)))) (of_decide_eq_true h2)) (fun h2:(decide (v8<(s.length:Int)))=false=>(fun _:¬ v8<(s.length:Int)=>(fun hD0_4:(runL (F103_s0 s v1) (((s.length:Int)-0).toNat+1) 0)=Lp.done v8=>(fun hF:((-1):Int)=(F103 s v1)=>ai (congrArg (fun r:Int=>(.int .i64 r:Value)) hF) (trivial)) (finD hD0_4 (rfl))) (runL_done hI0 (condF h2 (rfl)))) (of_decide_eq_false h2))) (i0.1-1) i0.2 (hd1 hi0.1 hi0.2.1) (hd2 hi0.2.1) (hd3 hi0.2.1) hi0.2.2)) (by kernel_rfl)
theorem as103 (s:List Int) (v1:Int):F103 s v1=(idxI (fun y=>decide (v1=y)) s):=by
 exact idx_loop (fun y=>decide (v1=y)) s (F103_s0 s v1) (fun i=>by simp only [F103_s0,beqD])
theorem oa103 (s:List Int) (v1:Int):(S103 (idxI (fun y=>decide (v1=y)) s) s v1).ok Tryz.prog 103:=by
 intro hp; have h:=ok103 s v1 hp; rw [as103 s v1] at h; exact h
def F89 (s:List Int) (v1:Int):Bool :=
 decide ((idxI (fun y=>decide (v1=y)) s)≥0)
def S89 (R:Bool) (s:List Int) (v1:Int):Spec:=⟨[.r (.c (.l 1 eInt s)),.r (.c (.v (vI v1)))],.v (.bool R),True⟩
theorem ok89 (s:List Int) (v1:Int):(S89 (F89 s v1) s v1).ok Tryz.prog 89 :=
 fnG_ok mixed (fn:=Tryz.f89) (ct:=.seqk [(0,0)] (.no) (.seq (.reg [(2,.call 103 (S103 (idxI (fun y=>decide (v1=y)) s) s v1) (oa103 s v1) none)]) (.no))) Tryz.func89 (fun (_:True)=>fun (_:s.length≤9223372036854775807)=>ai (trivial) (ai ((Imp.refl (.l 1 eInt s))) (ai ((Imp.refl (.v (vI v1)))) ((fun hF:(decide ((idxI (fun y=>decide (v1=y)) s)≥0):Bool)=(F89 s v1)=>ai (congrArg (fun r:Bool=>(.bool r:Value)) hF) (trivial)) (rfl))))) (by kernel_rfl)
theorem as89 (s:List Int) (v1:Int):F89 s v1=(decide (v1∈s)):=by
 exact (any_idx (fun y=>decide (v1=y)) s).trans (mem_idx v1 s)
theorem oa89 (s:List Int) (v1:Int):(S89 (decide (v1∈s)) s v1).ok Tryz.prog 89:=by
 intro hp; have h:=ok89 s v1 hp; rw [as89 s v1] at h; exact h
def F68_s0 (n:Qe) (path:List Int):Int→Lp Int Bool:=fun v16 =>
 bif (decide (v16<(path.length:Int))) then (bif (bif (decide ((path.getD v16.toNat default)∈(path.take v16.toNat))) then true else (bif decide (v16>0) then decide ((Qr n (path.getD (v16-1).toNat default) (path.getD v16.toNat default))<0) else false)) then (.ret false) else (.next (v16+1))) else (.done v16)
def F68 (n:Qe) (path:List Int):Bool :=
 bif (!(decide (2≤(path.length:Int)∧(path.length:Int)≤(n.Qa.length:Int)))) then false else ((runL (F68_s0 n path) (((path.length:Int)-0).toNat+1) 0).fin (fun r=>r) (fun v16=>true))
def S68 (R:Bool) (n:Qe) (path:List Int):Spec:=⟨[.r (.g (Qf n)),.r (.c (.l 1 eInt path))],.v (.bool R),FrameOk n⟩
abbrev q68_1 (path:List Int) (v16:Int):=((path.getD v16.toNat default)∈(path.take v16.toNat))
abbrev q68_2 (n:Qe) (path:List Int):=(runL (F68_s0 n path) (((path.length:Int)-0).toNat+1) 0)
theorem ok68 (n:Qe) (path:List Int):(S68 (F68 n path) n path).ok Tryz.prog 68 :=
 fnG_ok mixed (fn:=Tryz.f68) (ct:=.seqk [(1,0)] (.no) (.seq (.seq (.reg [(5,.call 27 (S27 (decide (2≤(path.length:Int)∧(path.length:Int)≤(n.Qa.length:Int))) (path.length:Int) 2 (n.Qa.length:Int)) (oa27 (path.length:Int) 2 (n.Qa.length:Int)) none)]) (.cond (.seq (.no) (.no)) (.no))) (.seq (.seqk [(1,0),(2,0),(2,1),(14,0)] (.no) (.blk (.loop (ι:=Nat×Int) (fun i=>(fun (v16:Int)=>(⟨[(1,some (.h 0 0)),(2,some (.p 1 0)),(14,some (.h 0 0)),(15,some (.v (vI (path.length:Int)))),(16,some (.v (vI v16)))],[(0,some (.shr none (.l 1 eInt path))),(1,some (.box 26 [.h 2 0,.h 3 0])),(2,some (.shr none (.l 2 Qh n.Qb))),(3,some (.shr none (.l 2 Qj n.Qa)))],4⟩:St)) i.2) (fun i=>runL (F68_s0 n path) i.1 i.2=(q68_2 n path)∧(fun (v16:Int)=>(Int.toNat ((path.length:Int)-v16)<i.1∧(0:Int)≤v16)) i.2) (fun i=>i.1) ((((path.length:Int)-0).toNat+1),0) (fun i=>(fun (v16:Int)=>(.seq (.no) (.seq (.cond (.no) (.no)) (.seq (.blk (.seq (.no) (.seq (.reg [(4,.call 89 (S89 (decide (q68_1 path v16)) (path.take v16.toNat) (path.getD v16.toNat default)) (oa89 (path.take v16.toNat) (path.getD v16.toNat default)) none),(12,.bnd),(16,.call 48 (T48 (Qr n (path.getD (v16-1).toNat default) (path.getD v16.toNat default)) n (path.getD (v16-1).toNat default) (path.getD v16.toNat default)) (oa48 n (path.getD (v16-1).toNat default) (path.getD v16.toNat default)) none)]) (.cond (.seq (.no) (.no)) (.no))))) (.reg [(0,.bnd)]))))) i.2)))) (.seq (.no) (.no))))) Tryz.func68 (fun (hpre0:FrameOk n)=>fun (_:path.length≤9223372036854775807)=>ai (trivial) (ai ((Imp.refl (.v (vI (path.length:Int))))) (ai ((Imp.refl (.v (vI 2)))) (ai ((Imp.refl (.v (vI (n.Qa.length:Int))))) (ai (fun h1:(!(decide (2≤(path.length:Int)∧(path.length:Int)≤(n.Qa.length:Int))))=true=>(fun _:¬ (2≤(path.length:Int)∧(path.length:Int)≤(n.Qa.length:Int))=>(fun hF:(false:Bool)=(F68 n path)=>ai (congrArg (fun r:Bool=>(.bool r:Value)) hF) (trivial)) (condT h1 (rfl))) (of_decide_eq_false (notET h1))) (fun h1:(!(decide (2≤(path.length:Int)∧(path.length:Int)≤(n.Qa.length:Int))))=false=>(fun _:2≤(path.length:Int)∧(path.length:Int)≤(n.Qa.length:Int)=>fun (_:path.length≤9223372036854775807)=>fun (_:n.Qb.length≤9223372036854775807)=>fun (_:n.Qa.length≤9223372036854775807)=>fun (_:path.length≤9223372036854775807)=>ai (ai (rfl) (ai (rfl) (ai (ir) (ai (ir) (ai (ir) ((ai (rfl:runL (F68_s0 n path) (((path.length:Int)-0).toNat+1) 0=(q68_2 n path)) (ai ((Nat.lt_succ_self _:Int.toNat ((path.length:Int)-0)<(((path.length:Int)-0).toNat+1))) ((by first | omega | (simp only [lens] at*<;> omega):(0:Int)≤0))))))))):((.int .i64 (path.length:Int):Value)=.int .i64 (path.length:Int))∧((.int .i64 0:Value)=.int .i64 0)∧(Imp (.l 1 eInt path) (.l 1 eInt path))∧(Imp (.l 2 Qh n.Qb) (.l 2 Qh n.Qb))∧(Imp (.l 2 Qj n.Qa) (.l 2 Qj n.Qa))∧(runL (F68_s0 n path) (((path.length:Int)-0).toNat+1) 0=(q68_2 n path)∧Int.toNat ((path.length:Int)-0)<(((path.length:Int)-0).toNat+1)∧(0:Int)≤0)) (fun (i0:Nat×Int) (hi0:runL (F68_s0 n path) i0.1 i0.2=(q68_2 n path)∧(fun (v16:Int)=>(Int.toNat ((path.length:Int)-v16)<i0.1∧(0:Int)≤v16)) i0.2)=>(fun (m0:Nat) (v16:Int) (hI0:runL (F68_s0 n path) (m0+1) v16=(q68_2 n path)) (_:Int.toNat ((path.length:Int)-v16)<m0+1) (hl0:m0<i0.1) (_:(0:Int)≤v16)=>ai (fun h3:(decide (v16<(path.length:Int)))=true=>(fun _:v16<(path.length:Int)=>ai ((by first | omega | (simp only [lens] at*<;> omega):0≤v16∧v16<(path.length:Int))) (ai ((by first | omega | (simp only [lens] at*<;> omega):0≤(0:Int)∧(0:Int)≤v16∧v16≤(path.length:Int))) (ai (trivial) (ai ((Imp.refl (.l 1 eInt (path.take v16.toNat)))) (ai ((Imp.refl (.v (vI (path.getD v16.toNat default))))) (ai ((fun k5:(decide (v16>0))=true=>(fun _:v16>0=>(fun k4:(decide (q68_1 path v16))=false=>(fun _:¬ (q68_1 path v16)=>(by unfold i64ok; first | omega | (simp only [lens] at*<;> omega):i64ok (v16-1))) (of_decide_eq_false k4))) (of_decide_eq_true k5))) (ai ((fun k7:(decide (v16>0))=true=>(fun _:v16>0=>(fun k6:(decide (q68_1 path v16))=false=>(fun _:¬ (q68_1 path v16)=>(by first | omega | (simp only [lens] at*<;> omega):0≤(v16-1)∧(v16-1)<(path.length:Int))) (of_decide_eq_false k6))) (of_decide_eq_true k7))) (ai ((fun k9:(decide (v16>0))=true=>(fun _:v16>0=>(fun k8:(decide (q68_1 path v16))=false=>(fun _:¬ (q68_1 path v16)=>((by first | assumption | exact Qt.frame (by assumption):FrameOk n))) (of_decide_eq_false k8))) (of_decide_eq_true k9))) (ai ((fun k11:(decide (v16>0))=true=>(fun _:v16>0=>(fun k10:(decide (q68_1 path v16))=false=>(fun _:¬ (q68_1 path v16)=>(Imps.refl (Qf n))) (of_decide_eq_false k10))) (of_decide_eq_true k11))) (ai ((fun k13:(decide (v16>0))=true=>(fun _:v16>0=>(fun k12:(decide (q68_1 path v16))=false=>(fun _:¬ (q68_1 path v16)=>(Imp.refl (.v (vI (path.getD (v16-1).toNat default))))) (of_decide_eq_false k12))) (of_decide_eq_true k13))) (ai ((fun k15:(decide (v16>0))=true=>(fun _:v16>0=>(fun k14:(decide (q68_1 path v16))=false=>(fun _:¬ (q68_1 path v16)=>(Imp.refl (.v (vI (path.getD v16.toNat default))))) (of_decide_eq_false k14))) (of_decide_eq_true k15))) (ai (fun h16:(bif (decide (q68_1 path v16)) then true else (bif decide (v16>0) then decide ((Qr n (path.getD (v16-1).toNat default) (path.getD v16.toNat default))<0) else false))=true=>(fun hF:(false:Bool)=(F68 n path)=>ai (congrArg (fun r:Bool=>(.bool r:Value)) hF) (trivial)) (condF h1 (finR (runL_ret hI0 (condT h3 (condT h16 (rfl)))) rfl))) (fun h16:(bif (decide (q68_1 path v16)) then true else (bif decide (v16>0) then decide ((Qr n (path.getD (v16-1).toNat default) (path.getD v16.toNat default))<0) else false))=false=>(fun _:¬ (q68_1 path v16)=>ai ((by unfold i64ok; first | omega | (simp only [lens] at*<;> omega):i64ok (v16+1))) (Exists.intro (p:=fun j:Nat×Int=>(fun (v16_:Int)=>(((.int .i64 (path.length:Int):Value)=.int .i64 (path.length:Int))∧((.int .i64 (v16+1):Value)=.int .i64 v16_)∧(Imp (.l 1 eInt path) (.l 1 eInt path))∧(Imp (.l 2 Qh n.Qb) (.l 2 Qh n.Qb))∧(Imp (.l 2 Qj n.Qa) (.l 2 Qj n.Qa))∧((runL (F68_s0 n path) j.1 j.2=(q68_2 n path)∧Int.toNat ((path.length:Int)-v16_)<j.1∧(0:Int)≤v16_)∧j.1<i0.1))) j.2) (m0,(v16+1)) (ai (rfl) (ai (rfl) (ai (ir) (ai (ir) (ai (ir) (ai (ai (runL_next hI0 (condT h3 (condF h16 (rfl)))) (ai ((by first | omega | (simp only [lens] at*<;> omega):Int.toNat ((path.length:Int)-(v16+1))<m0)) ((by first | omega | (simp only [lens] at*<;> omega):(0:Int)≤(v16+1))))) hl0)))))))) (of_decide_eq_false (orF1 h16))))))))))))))) (of_decide_eq_true h3)) (fun h3:(decide (v16<(path.length:Int)))=false=>(fun _:¬ v16<(path.length:Int)=>(fun hD0_17:(q68_2 n path)=Lp.done v16=>(fun hF:(true:Bool)=(F68 n path)=>ai (congrArg (fun r:Bool=>(.bool r:Value)) hF) (trivial)) (condF h1 (finD hD0_17 (rfl)))) (runL_done hI0 (condF h3 (rfl)))) (of_decide_eq_false h3))) (i0.1-1) i0.2 (hd1 hi0.1 hi0.2.1) (hd2 hi0.2.1) (hd3 hi0.2.1) hi0.2.2)) (of_decide_eq_true (notEF h1)))))))) (by kernel_rfl)
def F69_s0 (b:Qi):Int→Lp Int Int:=fun label =>
 bif (decide (label≤60)) then (bif (!(Qw b label).2) then (.ret label) else (.next (label+1))) else (.done label)
def F69 (b:Qi):Int :=
 (runL (F69_s0 b) ((Int.toNat (60-1+1))+1) 1).fin (fun r=>r) (fun label=>0)
def S69 (R:Int) (b:Qi):Spec:=⟨[.r (.g (Qj b))],.v (vI R),True⟩
theorem ok69 (b:Qi):(S69 (F69 b) b).ok Tryz.prog 69 :=
 fnG_ok mixed (fn:=Tryz.f69) (ct:=.seq (.no) (.seq (.seqk [(1,0),(1,1)] (.no) (.blk (.loop (ι:=Nat×Int) (fun i=>(fun (label:Int)=>(⟨[(1,some (.p 0 0)),(3,some (.v (vI label)))],[(0,some (.box 49 [.h 1 0,.h 2 0])),(1,some (.shr none (.l 3 Ql b.Rows))),(2,some (.shr none (.l 3 Qo b.Qc)))],3⟩:St)) i.2) (fun i=>runL (F69_s0 b) i.1 i.2=(runL (F69_s0 b) ((Int.toNat (60-1+1))+1) 1)∧(fun (label:Int)=>(Int.toNat (60-label+1)<i.1∧(0:Int)≤label)) i.2) (fun i=>i.1) (((Int.toNat (60-1+1))+1),1) (fun i=>(fun (label:Int)=>(.seq (.seq (.no) (.cond (.no) (.no))) (.seq (.blk (.seq (.reg [(2,.call 63 (S63 (Qw b label) b label) (oa63 b label) none)]) (.seq (.no) (.cond (.seq (.no) (.no)) (.no))))) (.reg [(1,.bnd)])))) i.2)))) (.seq (.no) (.no)))) Tryz.func69 (fun (_:True)=>fun (_:b.Rows.length≤9223372036854775807)=>fun (_:b.Qc.length≤9223372036854775807)=>ai (ai (rfl) (ai (ir) (ai (ir) ((ai (rfl:runL (F69_s0 b) ((Int.toNat (60-1+1))+1) 1=(runL (F69_s0 b) ((Int.toNat (60-1+1))+1) 1)) (ai ((Nat.lt_succ_self _:Int.toNat (60-1+1)<((Int.toNat (60-1+1))+1))) ((by omega:(0:Int)≤1))))))):((.int .i64 1:Value)=.int .i64 1)∧(Imp (.l 3 Ql b.Rows) (.l 3 Ql b.Rows))∧(Imp (.l 3 Qo b.Qc) (.l 3 Qo b.Qc))∧(runL (F69_s0 b) ((Int.toNat (60-1+1))+1) 1=(runL (F69_s0 b) ((Int.toNat (60-1+1))+1) 1)∧Int.toNat (60-1+1)<((Int.toNat (60-1+1))+1)∧(0:Int)≤1)) (fun (i0:Nat×Int) (hi0:runL (F69_s0 b) i0.1 i0.2=(runL (F69_s0 b) ((Int.toNat (60-1+1))+1) 1)∧(fun (label:Int)=>(Int.toNat (60-label+1)<i0.1∧(0:Int)≤label)) i0.2)=>(fun (m0:Nat) (label:Int) (hI0:runL (F69_s0 b) (m0+1) label=(runL (F69_s0 b) ((Int.toNat (60-1+1))+1) 1)) (_:Int.toNat (60-label+1)<m0+1) (hl0:m0<i0.1) (_:(0:Int)≤label)=>ai (fun h2:(decide (label≤60))=true=>(fun _:label≤60=>ai (trivial) (ai ((Imps.refl (Qj b))) (ai ((Imp.refl (.v (vI label)))) (ai (fun h3:(!(Qw b label).2)=true=>(fun _:(Qw b label).2=false=>(fun hF:(label:Int)=(F69 b)=>ai (congrArg (fun r:Int=>(.int .i64 r:Value)) hF) (trivial)) (finR (runL_ret hI0 (condT h2 (condT h3 (rfl)))) rfl)) ((notET h3))) (fun h3:(!(Qw b label).2)=false=>(fun _:(Qw b label).2=true=>ai ((by unfold i64ok; omega:i64ok (label+1))) (Exists.intro (p:=fun j:Nat×Int=>(fun (label_:Int)=>(((.int .i64 (label+1):Value)=.int .i64 label_)∧(Imp (.l 3 Ql b.Rows) (.l 3 Ql b.Rows))∧(Imp (.l 3 Qo b.Qc) (.l 3 Qo b.Qc))∧((runL (F69_s0 b) j.1 j.2=(runL (F69_s0 b) ((Int.toNat (60-1+1))+1) 1)∧Int.toNat (60-label_+1)<j.1∧(0:Int)≤label_)∧j.1<i0.1))) j.2) (m0,(label+1)) (ai (rfl) (ai (ir) (ai (ir) (ai (ai (runL_next hI0 (condT h2 (condF h3 (rfl)))) (ai ((by omega:Int.toNat (60-(label+1)+1)<m0)) ((by omega:(0:Int)≤(label+1))))) hl0)))))) ((notEF h3))))))) (of_decide_eq_true h2)) (fun h2:(decide (label≤60))=false=>(fun _:¬ label≤60=>(fun hD0_4:(runL (F69_s0 b) ((Int.toNat (60-1+1))+1) 1)=Lp.done label=>(fun hF:(0:Int)=(F69 b)=>ai (congrArg (fun r:Int=>(.int .i64 r:Value)) hF) (trivial)) (finD hD0_4 (rfl))) (runL_done hI0 (condF h2 (rfl)))) (of_decide_eq_false h2))) (i0.1-1) i0.2 (hd1 hi0.1 hi0.2.1) (hd2 hi0.2.1) (hd3 hi0.2.1) hi0.2.2)) (by kernel_rfl)
def F38_s1 (n:Qe) (path:List Int) (i40:Int):Int→Lp Int Bool:=fun k =>
 bif (decide (k<i40)) then (bif ((path.getD k.toNat default)==(path.getD i40.toNat default)) then (.ret false) else (.next (k+1))) else (.done k)
def F38_s0 (n:Qe) (path:List Int):Int→Lp Int Bool:=fun i40 =>
 bif (decide (i40<(path.length:Int))) then (bif (bif (!(decide (0≤(path.getD i40.toNat default)∧(path.getD i40.toNat default)≤((n.Qa.length:Int)-1)))) then true else (bif decide (i40>0) then decide ((Qr n (path.getD (i40-1).toNat default) (path.getD i40.toNat default))<0) else false)) then (.ret false) else ((runL (F38_s1 n path i40) ((i40-0).toNat+1) 0).fin Lp.ret (fun k=>.next (i40+1)))) else (.done i40)
def F38 (n:Qe) (path:List Int):Bool :=
 bif (!(decide (2≤(path.length:Int)∧(path.length:Int)≤(n.Qa.length:Int)))) then false else ((runL (F38_s0 n path) (((path.length:Int)-0).toNat+1) 0).fin (fun r=>r) (fun i40=>true))
def S38 (R:Bool) (n:Qe) (path:List Int):Spec:=⟨[.r (.g (Qf n)),.r (.c (.l 1 eInt path))],.v (.bool R),True⟩
abbrev q38_1 (path:List Int) (i40:Int):=(path.getD i40.toNat default)
abbrev q38_2 (n:Qe) (path:List Int):=(runL (F38_s0 n path) (((path.length:Int)-0).toNat+1) 0)
abbrev q38_3 (n:Qe) (path:List Int) (i40:Int):=(runL (F38_s1 n path i40) ((i40-0).toNat+1) 0)
abbrev q38_4 (n:Qe):=(Imp (.l 2 Qh n.Qb) (.l 2 Qh n.Qb))
abbrev q38_5 (n:Qe):=(Imp (.l 2 Qj n.Qa) (.l 2 Qj n.Qa))
theorem ok38 (n:Qe) (path:List Int):(S38 (F38 n path) n path).ok Tryz.prog 38 :=
 fnG_ok mixed (fn:=Tryz.f38) (ct:=.seqk [(1,0)] (.no) (.seq (.seq (.reg [(5,.call 75 (S75 (decide (2≤(path.length:Int)∧(path.length:Int)≤(n.Qa.length:Int))) (path.length:Int) 2 (n.Qa.length:Int)) (oa75 (path.length:Int) 2 (n.Qa.length:Int)) none)]) (.cond (.seq (.no) (.no)) (.no))) (.seq (.seqk [(1,0),(2,0),(2,1)] (.no) (.blk (.loop (ι:=Nat×Int) (fun i=>(fun (i40:Int)=>(⟨[(1,some (.h 0 0)),(2,some (.p 1 0)),(5,some (.v (vI i40)))],[(0,some (.shr none (.l 1 eInt path))),(1,some (.box 26 [.h 2 0,.h 3 0])),(2,some (.shr none (.l 2 Qh n.Qb))),(3,some (.shr none (.l 2 Qj n.Qa)))],4⟩:St)) i.2) (fun i=>runL (F38_s0 n path) i.1 i.2=(q38_2 n path)∧(fun (i40:Int)=>(Int.toNat ((path.length:Int)-i40)<i.1∧(0:Int)≤i40)) i.2) (fun i=>i.1) ((((path.length:Int)-0).toNat+1),0) (fun i=>(fun (i40:Int)=>(.seq (.seq (.no) (.cond (.no) (.no))) (.seq (.blk (.seq (.seq (.reg [(7,.bnd),(8,.call 75 (S75 (decide (0≤(q38_1 path i40)∧(q38_1 path i40)≤((n.Qa.length:Int)-1))) (q38_1 path i40) 0 ((n.Qa.length:Int)-1)) (oa75 (q38_1 path i40) 0 ((n.Qa.length:Int)-1)) none),(17,.bnd),(24,.call 44 (S44 (Qr n (path.getD (i40-1).toNat default) (q38_1 path i40)) n (path.getD (i40-1).toNat default) (q38_1 path i40)) (oa44 n (path.getD (i40-1).toNat default) (q38_1 path i40)) none)]) (.cond (.seq (.no) (.no)) (.no))) (.seqk [(1,0)] (.no) (.blk (.loop (ι:=Nat×Int) (fun i=>(fun (k:Int)=>(⟨[(1,some (.h 0 0)),(2,some (.p 1 0)),(5,some (.v (vI i40))),(6,some (.v (vI k)))],[(0,some (.shr none (.l 1 eInt path))),(1,some (.box 26 [.h 2 0,.h 3 0])),(2,some (.shr none (.l 2 Qh n.Qb))),(3,some (.shr none (.l 2 Qj n.Qa)))],4⟩:St)) i.2) (fun i=>runL (F38_s1 n path i40) i.1 i.2=(q38_3 n path i40)∧(fun (k:Int)=>(Int.toNat (i40-k)<i.1∧(0:Int)≤k)) i.2) (fun i=>i.1) (((i40-0).toNat+1),0) (fun i=>(fun (k:Int)=>(.seq (.seq (.no) (.cond (.no) (.no))) (.seq (.blk (.seq (.no) (.cond (.seq (.no) (.no)) (.no)))) (.reg [(1,.bnd)])))) i.2)))))) (.reg [(1,.bnd)])))) i.2)))) (.seq (.no) (.no))))) Tryz.func38 (fun (_:True)=>fun (_:path.length≤9223372036854775807)=>ai (trivial) (ai ((Imp.refl (.v (vI (path.length:Int))))) (ai ((Imp.refl (.v (vI 2)))) (ai ((Imp.refl (.v (vI (n.Qa.length:Int))))) (ai (fun h1:(!(decide (2≤(path.length:Int)∧(path.length:Int)≤(n.Qa.length:Int))))=true=>(fun _:¬ (2≤(path.length:Int)∧(path.length:Int)≤(n.Qa.length:Int))=>(fun hF:(false:Bool)=(F38 n path)=>ai (congrArg (fun r:Bool=>(.bool r:Value)) hF) (trivial)) (condT h1 (rfl))) (of_decide_eq_false (notET h1))) (fun h1:(!(decide (2≤(path.length:Int)∧(path.length:Int)≤(n.Qa.length:Int))))=false=>(fun _:2≤(path.length:Int)∧(path.length:Int)≤(n.Qa.length:Int)=>fun (_:path.length≤9223372036854775807)=>fun (_:n.Qb.length≤9223372036854775807)=>fun (_:n.Qa.length≤9223372036854775807)=>ai (ai (rfl) (ai (ir) (ai (ir) (ai (ir) ((ai (rfl:runL (F38_s0 n path) (((path.length:Int)-0).toNat+1) 0=(q38_2 n path)) (ai ((Nat.lt_succ_self _:Int.toNat ((path.length:Int)-0)<(((path.length:Int)-0).toNat+1))) ((by omega:(0:Int)≤0)))))))):((.int .i64 0:Value)=.int .i64 0)∧(Imp (.l 1 eInt path) (.l 1 eInt path))∧(q38_4 n)∧(q38_5 n)∧(runL (F38_s0 n path) (((path.length:Int)-0).toNat+1) 0=(q38_2 n path)∧Int.toNat ((path.length:Int)-0)<(((path.length:Int)-0).toNat+1)∧(0:Int)≤0)) (fun (i0:Nat×Int) (hi0:runL (F38_s0 n path) i0.1 i0.2=(q38_2 n path)∧(fun (i40:Int)=>(Int.toNat ((path.length:Int)-i40)<i0.1∧(0:Int)≤i40)) i0.2)=>(fun (m0:Nat) (i40:Int) (hI0:runL (F38_s0 n path) (m0+1) i40=(q38_2 n path)) (_:Int.toNat ((path.length:Int)-i40)<m0+1) (hl0:m0<i0.1) (_:(0:Int)≤i40)=>ai (fun h3:(decide (i40<(path.length:Int)))=true=>(fun _:i40<(path.length:Int)=>ai ((by omega:0≤i40∧i40<(path.length:Int))) (ai ((by unfold i64ok; omega:i64ok ((n.Qa.length:Int)-1))) (ai (trivial) (ai ((Imp.refl (.v (vI (q38_1 path i40))))) (ai ((Imp.refl (.v (vI 0)))) (ai ((Imp.refl (.v (vI ((n.Qa.length:Int)-1))))) (ai ((fun k5:(decide (i40>0))=true=>(fun _:i40>0=>(fun k4:(!(decide (0≤(q38_1 path i40)∧(q38_1 path i40)≤((n.Qa.length:Int)-1))))=false=>(fun _:0≤(q38_1 path i40)∧(q38_1 path i40)≤((n.Qa.length:Int)-1)=>(by unfold i64ok; omega:i64ok (i40-1))) (of_decide_eq_true (notEF k4)))) (of_decide_eq_true k5))) (ai ((fun k7:(decide (i40>0))=true=>(fun _:i40>0=>(fun k6:(!(decide (0≤(q38_1 path i40)∧(q38_1 path i40)≤((n.Qa.length:Int)-1))))=false=>(fun _:0≤(q38_1 path i40)∧(q38_1 path i40)≤((n.Qa.length:Int)-1)=>(by omega:0≤(i40-1)∧(i40-1)<(path.length:Int))) (of_decide_eq_true (notEF k6)))) (of_decide_eq_true k7))) (ai ((fun k9:(decide (i40>0))=true=>(fun _:i40>0=>(fun k8:(!(decide (0≤(q38_1 path i40)∧(q38_1 path i40)≤((n.Qa.length:Int)-1))))=false=>(fun _:0≤(q38_1 path i40)∧(q38_1 path i40)≤((n.Qa.length:Int)-1)=>(by omega:0≤i40∧i40<(path.length:Int))) (of_decide_eq_true (notEF k8)))) (of_decide_eq_true k9))) (ai ((fun k11:(decide (i40>0))=true=>(fun _:i40>0=>(fun k10:(!(decide (0≤(q38_1 path i40)∧(q38_1 path i40)≤((n.Qa.length:Int)-1))))=false=>(fun _:0≤(q38_1 path i40)∧(q38_1 path i40)≤((n.Qa.length:Int)-1)=>trivial) (of_decide_eq_true (notEF k10)))) (of_decide_eq_true k11))) (ai ((fun k13:(decide (i40>0))=true=>(fun _:i40>0=>(fun k12:(!(decide (0≤(q38_1 path i40)∧(q38_1 path i40)≤((n.Qa.length:Int)-1))))=false=>(fun _:0≤(q38_1 path i40)∧(q38_1 path i40)≤((n.Qa.length:Int)-1)=>(Imps.refl (Qf n))) (of_decide_eq_true (notEF k12)))) (of_decide_eq_true k13))) (ai ((fun k15:(decide (i40>0))=true=>(fun _:i40>0=>(fun k14:(!(decide (0≤(q38_1 path i40)∧(q38_1 path i40)≤((n.Qa.length:Int)-1))))=false=>(fun _:0≤(q38_1 path i40)∧(q38_1 path i40)≤((n.Qa.length:Int)-1)=>(Imp.refl (.v (vI (path.getD (i40-1).toNat default))))) (of_decide_eq_true (notEF k14)))) (of_decide_eq_true k15))) (ai ((fun k17:(decide (i40>0))=true=>(fun _:i40>0=>(fun k16:(!(decide (0≤(q38_1 path i40)∧(q38_1 path i40)≤((n.Qa.length:Int)-1))))=false=>(fun _:0≤(q38_1 path i40)∧(q38_1 path i40)≤((n.Qa.length:Int)-1)=>(Imp.refl (.v (vI (q38_1 path i40))))) (of_decide_eq_true (notEF k16)))) (of_decide_eq_true k17))) (ai (fun h18:(bif (!(decide (0≤(q38_1 path i40)∧(q38_1 path i40)≤((n.Qa.length:Int)-1)))) then true else (bif decide (i40>0) then decide ((Qr n (path.getD (i40-1).toNat default) (q38_1 path i40))<0) else false))=true=>(fun hF:(false:Bool)=(F38 n path)=>ai (congrArg (fun r:Bool=>(.bool r:Value)) hF) (trivial)) (condF h1 (finR (runL_ret hI0 (condT h3 (condT h18 (rfl)))) rfl))) (fun h18:(bif (!(decide (0≤(q38_1 path i40)∧(q38_1 path i40)≤((n.Qa.length:Int)-1)))) then true else (bif decide (i40>0) then decide ((Qr n (path.getD (i40-1).toNat default) (q38_1 path i40))<0) else false))=false=>(fun _:0≤(q38_1 path i40)∧(q38_1 path i40)≤((n.Qa.length:Int)-1)=>fun (_:path.length≤9223372036854775807)=>ai (ai (rfl) (ai (rfl) (ai (ir) (ai (ir) (ai (ir) ((ai (rfl:runL (F38_s1 n path i40) ((i40-0).toNat+1) 0=(q38_3 n path i40)) (ai ((Nat.lt_succ_self _:Int.toNat (i40-0)<((i40-0).toNat+1))) ((by omega:(0:Int)≤0))))))))):((.int .i64 i40:Value)=.int .i64 i40)∧((.int .i64 0:Value)=.int .i64 0)∧(Imp (.l 1 eInt path) (.l 1 eInt path))∧(q38_4 n)∧(q38_5 n)∧(runL (F38_s1 n path i40) ((i40-0).toNat+1) 0=(q38_3 n path i40)∧Int.toNat (i40-0)<((i40-0).toNat+1)∧(0:Int)≤0)) (fun (i1:Nat×Int) (hi1:runL (F38_s1 n path i40) i1.1 i1.2=(q38_3 n path i40)∧(fun (k:Int)=>(Int.toNat (i40-k)<i1.1∧(0:Int)≤k)) i1.2)=>(fun (m1:Nat) (k:Int) (hI1:runL (F38_s1 n path i40) (m1+1) k=(q38_3 n path i40)) (_:Int.toNat (i40-k)<m1+1) (hl1:m1<i1.1) (_:(0:Int)≤k)=>ai (fun h20:(decide (k<i40))=true=>(fun _:k<i40=>ai ((by omega:0≤k∧k<(path.length:Int))) (ai ((by omega:0≤i40∧i40<(path.length:Int))) (ai (fun h21:((path.getD k.toNat default)==(q38_1 path i40))=true=>(fun _:(path.getD k.toNat default)=(q38_1 path i40)=>(fun hF:(false:Bool)=(F38 n path)=>ai (congrArg (fun r:Bool=>(.bool r:Value)) hF) (trivial)) (condF h1 (finR (runL_ret hI0 (condT h3 (condF h18 (finR (runL_ret hI1 (condT h20 (condT h21 (rfl)))) rfl)))) rfl))) (eq_of_beq h21)) (fun h21:((path.getD k.toNat default)==(q38_1 path i40))=false=>(fun _:¬ (path.getD k.toNat default)=(q38_1 path i40)=>ai ((by unfold i64ok; omega:i64ok (k+1))) (Exists.intro (p:=fun j:Nat×Int=>(fun (k_:Int)=>(((.int .i64 i40:Value)=.int .i64 i40)∧((.int .i64 (k+1):Value)=.int .i64 k_)∧(Imp (.l 1 eInt path) (.l 1 eInt path))∧(q38_4 n)∧(q38_5 n)∧((runL (F38_s1 n path i40) j.1 j.2=(q38_3 n path i40)∧Int.toNat (i40-k_)<j.1∧(0:Int)≤k_)∧j.1<i1.1))) j.2) (m1,(k+1)) (ai (rfl) (ai (rfl) (ai (ir) (ai (ir) (ai (ir) (ai (ai (runL_next hI1 (condT h20 (condF h21 (rfl)))) (ai ((by omega:Int.toNat (i40-(k+1))<m1)) ((by omega:(0:Int)≤(k+1))))) hl1)))))))) (beqF h21))))) (of_decide_eq_true h20)) (fun h20:(decide (k<i40))=false=>(fun _:¬ k<i40=>(fun hD1_22:(q38_3 n path i40)=Lp.done k=>ai ((by unfold i64ok; omega:i64ok (i40+1))) (Exists.intro (p:=fun j:Nat×Int=>(fun (i40_:Int)=>(((.int .i64 (i40+1):Value)=.int .i64 i40_)∧(Imp (.l 1 eInt path) (.l 1 eInt path))∧(q38_4 n)∧(q38_5 n)∧((runL (F38_s0 n path) j.1 j.2=(q38_2 n path)∧Int.toNat ((path.length:Int)-i40_)<j.1∧(0:Int)≤i40_)∧j.1<i0.1))) j.2) (m0,(i40+1)) (ai (rfl) (ai (ir) (ai (ir) (ai (ir) (ai (ai (runL_next hI0 (condT h3 (condF h18 (finD hD1_22 (rfl))))) (ai ((by omega:Int.toNat ((path.length:Int)-(i40+1))<m0)) ((by omega:(0:Int)≤(i40+1))))) hl0))))))) (runL_done hI1 (condF h20 (rfl)))) (of_decide_eq_false h20))) (i1.1-1) i1.2 (hd1 hi1.1 hi1.2.1) (hd2 hi1.2.1) (hd3 hi1.2.1) hi1.2.2)) (of_decide_eq_true (notEF (orF1 h18)))))))))))))))))) (of_decide_eq_true h3)) (fun h3:(decide (i40<(path.length:Int)))=false=>(fun _:¬ i40<(path.length:Int)=>(fun hD0_23:(q38_2 n path)=Lp.done i40=>(fun hF:(true:Bool)=(F38 n path)=>ai (congrArg (fun r:Bool=>(.bool r:Value)) hF) (trivial)) (condF h1 (finD hD0_23 (rfl)))) (runL_done hI0 (condF h3 (rfl)))) (of_decide_eq_false h3))) (i0.1-1) i0.2 (hd1 hi0.1 hi0.2.1) (hd2 hi0.2.1) (hd3 hi0.2.1) hi0.2.2)) (of_decide_eq_true (notEF h1)))))))) (by kernel_rfl)
def F76_s0 (b:Qi):Int→Lp Int Int:=fun label =>
 bif (decide (label≤60)) then (bif (decide ((oix (rowIx b label))<0)) then (.ret label) else (.next (label+1))) else (.done label)
def F76 (b:Qi):Int :=
 (runL (F76_s0 b) ((Int.toNat (60-1+1))+1) 1).fin (fun r=>r) (fun label=>0)
def S76 (R:Int) (b:Qi):Spec:=⟨[.r (.g (Qj b))],.v (vI R),True⟩
theorem ok76 (b:Qi):(S76 (F76 b) b).ok Tryz.prog 76 :=
 fnG_ok mixed (fn:=Tryz.f76) (ct:=.seq (.no) (.seq (.seqk [(1,0),(1,1)] (.no) (.blk (.loop (ι:=Nat×Int) (fun i=>(fun (label:Int)=>(⟨[(1,some (.p 0 0)),(3,some (.v (vI label)))],[(0,some (.box 49 [.h 1 0,.h 2 0])),(1,some (.shr none (.l 3 Ql b.Rows))),(2,some (.shr none (.l 3 Qo b.Qc)))],3⟩:St)) i.2) (fun i=>runL (F76_s0 b) i.1 i.2=(runL (F76_s0 b) ((Int.toNat (60-1+1))+1) 1)∧(fun (label:Int)=>(Int.toNat (60-label+1)<i.1∧(0:Int)≤label)) i.2) (fun i=>i.1) (((Int.toNat (60-1+1))+1),1) (fun i=>(fun (label:Int)=>(.seq (.seq (.no) (.cond (.no) (.no))) (.seq (.blk (.seq (.reg [(2,.call 46 (S46 (oix (rowIx b label)) b label) (oa46 b label) none)]) (.cond (.seq (.no) (.no)) (.no)))) (.reg [(1,.bnd)])))) i.2)))) (.seq (.no) (.no)))) Tryz.func76 (fun (_:True)=>fun (_:b.Rows.length≤9223372036854775807)=>fun (_:b.Qc.length≤9223372036854775807)=>ai (ai (rfl) (ai (ir) (ai (ir) ((ai (rfl:runL (F76_s0 b) ((Int.toNat (60-1+1))+1) 1=(runL (F76_s0 b) ((Int.toNat (60-1+1))+1) 1)) (ai ((Nat.lt_succ_self _:Int.toNat (60-1+1)<((Int.toNat (60-1+1))+1))) ((by omega:(0:Int)≤1))))))):((.int .i64 1:Value)=.int .i64 1)∧(Imp (.l 3 Ql b.Rows) (.l 3 Ql b.Rows))∧(Imp (.l 3 Qo b.Qc) (.l 3 Qo b.Qc))∧(runL (F76_s0 b) ((Int.toNat (60-1+1))+1) 1=(runL (F76_s0 b) ((Int.toNat (60-1+1))+1) 1)∧Int.toNat (60-1+1)<((Int.toNat (60-1+1))+1)∧(0:Int)≤1)) (fun (i0:Nat×Int) (hi0:runL (F76_s0 b) i0.1 i0.2=(runL (F76_s0 b) ((Int.toNat (60-1+1))+1) 1)∧(fun (label:Int)=>(Int.toNat (60-label+1)<i0.1∧(0:Int)≤label)) i0.2)=>(fun (m0:Nat) (label:Int) (hI0:runL (F76_s0 b) (m0+1) label=(runL (F76_s0 b) ((Int.toNat (60-1+1))+1) 1)) (_:Int.toNat (60-label+1)<m0+1) (hl0:m0<i0.1) (_:(0:Int)≤label)=>ai (fun h2:(decide (label≤60))=true=>(fun _:label≤60=>ai (trivial) (ai ((Imps.refl (Qj b))) (ai ((Imp.refl (.v (vI label)))) ((fun gv3:(oix (rowIx b label))<(b.Rows.length:Int)=>ai (fun h4:(decide ((oix (rowIx b label))<0))=true=>(fun _:(oix (rowIx b label))<0=>(fun hF:(label:Int)=(F76 b)=>ai (congrArg (fun r:Int=>(.int .i64 r:Value)) hF) (trivial)) (finR (runL_ret hI0 (condT h2 (condT h4 (rfl)))) rfl)) (of_decide_eq_true h4)) (fun h4:(decide ((oix (rowIx b label))<0))=false=>(fun _:¬ (oix (rowIx b label))<0=>ai ((by unfold i64ok; omega:i64ok (label+1))) (Exists.intro (p:=fun j:Nat×Int=>(fun (label_:Int)=>(((.int .i64 (label+1):Value)=.int .i64 label_)∧(Imp (.l 3 Ql b.Rows) (.l 3 Ql b.Rows))∧(Imp (.l 3 Qo b.Qc) (.l 3 Qo b.Qc))∧((runL (F76_s0 b) j.1 j.2=(runL (F76_s0 b) ((Int.toNat (60-1+1))+1) 1)∧Int.toNat (60-label_+1)<j.1∧(0:Int)≤label_)∧j.1<i0.1))) j.2) (m0,(label+1)) (ai (rfl) (ai (ir) (ai (ir) (ai (ai (runL_next hI0 (condT h2 (condF h4 (rfl)))) (ai ((by omega:Int.toNat (60-(label+1)+1)<m0)) ((by omega:(0:Int)≤(label+1))))) hl0)))))) (of_decide_eq_false h4))) (rowIx_lt b label))))) (of_decide_eq_true h2)) (fun h2:(decide (label≤60))=false=>(fun _:¬ label≤60=>(fun hD0_5:(runL (F76_s0 b) ((Int.toNat (60-1+1))+1) 1)=Lp.done label=>(fun hF:(0:Int)=(F76 b)=>ai (congrArg (fun r:Int=>(.int .i64 r:Value)) hF) (trivial)) (finD hD0_5 (rfl))) (runL_done hI0 (condF h2 (rfl)))) (of_decide_eq_false h2))) (i0.1-1) i0.2 (hd1 hi0.1 hi0.2.1) (hd2 hi0.2.1) (hd3 hi0.2.1) hi0.2.2)) (by kernel_rfl)
def F77_s0 (list:List Qk) (r1:Qk):Int→Lp Int (List Qk):=fun k400 =>
 bif (bif decide (k400<(list.length:Int)) then decide ((list.getD k400.toNat default).In<r1.In) else false) then (.next (k400+1)) else (.done k400)
def F77_j0 (list:List Qk) (r1:Qk):Lp Int (List Qk) :=
 (runL (F77_s0 list r1) (((list.length:Int)-0).toNat+1) 0).fin Lp.ret (fun k400=>.done k400)
def F77 (list:List Qk) (r1:Qk):List Qk :=
 (F77_j0 list r1).fin (fun r=>r) (fun k=>(((([]:List Qk)++(list.take k.toNat))++[r1])++(list.drop k.toNat)))
def S77 (R:List Qk) (list:List Qk) (r1:Qk):Spec:=⟨[.r (.c (.l 3 Ql list)),.r (.g (Ql r1))],.ow (.l 3 Ql R),list.length≤1000000000⟩
theorem ok77 (list:List Qk) (r1:Qk):(S77 (F77 list r1) list r1).ok Tryz.prog 77 :=
 fnG_ok mixed (fn:=Tryz.f77) (ct:=.seqk [(0,0)] (.no) (.seqk [(0,0)] (.no) (.cut (ι:=Int) (fun j=>(fun (k:Int)=>(⟨[(0,some (.h 0 0)),(3,some (.p 1 0)),(5,some (.v (vI k)))],[(0,some (.shr none (.l 3 Ql list))),(1,some (.box 66 [.v (vI r1.In),.v (vI r1.Next),.v (vI r1.Out)]))],2⟩:St)) j) (fun j=>(fun (k:Int)=>((F77_j0 list r1)=Lp.done j∧0≤k∧k≤(list.length:Int))) j) (.blk (.loop (ι:=Nat×Int) (fun i=>(fun (k400:Int)=>(⟨[(0,some (.h 0 0)),(3,some (.p 1 0)),(5,some (.v (vI k400)))],[(0,some (.shr none (.l 3 Ql list))),(1,some (.box 66 [.v (vI r1.In),.v (vI r1.Next),.v (vI r1.Out)]))],2⟩:St)) i.2) (fun i=>runL (F77_s0 list r1) i.1 i.2=(runL (F77_s0 list r1) (((list.length:Int)-0).toNat+1) 0)∧(fun (k400:Int)=>(Int.toNat ((list.length:Int)-k400)<i.1∧k400≤(list.length:Int)∧(0:Int)≤k400)) i.2) (fun i=>i.1) ((((list.length:Int)-0).toNat+1),0) (fun i=>(fun (k400:Int)=>(.seq (.seq (.no) (.cond (.no) (.no))) (.blk (.reg [(1,.bnd)])))) i.2))) (fun j=>(fun (k:Int)=>(.seq (.reg [(0,.dat (.l 3 Ql ([]:List Qk))),(4,.dat (.l 3 Ql (([]:List Qk)++(list.take k.toNat)))),(7,.dat (.l 3 Ql ((([]:List Qk)++(list.take k.toNat))++[r1]))),(11,.dat (.l 3 Ql (((([]:List Qk)++(list.take k.toNat))++[r1])++(list.drop k.toNat))))]) (.no))) j)))) Tryz.func77 (fun (hpre0:list.length≤1000000000)=>fun (_:list.length≤9223372036854775807)=>fun (_:list.length≤9223372036854775807)=>ai (ai (ai (rfl) (ai (ir) (ai (rfl) (ai (rfl) (ai (rfl) ((ai (rfl:runL (F77_s0 list r1) (((list.length:Int)-0).toNat+1) 0=(runL (F77_s0 list r1) (((list.length:Int)-0).toNat+1) 0)) (ai ((Nat.lt_succ_self _:Int.toNat ((list.length:Int)-0)<(((list.length:Int)-0).toNat+1))) (ai ((by first | omega | (simp only [lens] at*<;> omega):0≤(list.length:Int))) ((by first | omega | (simp only [lens] at*<;> omega):(0:Int)≤0)))))))))):((.int .i64 0:Value)=.int .i64 0)∧(Imp (.l 3 Ql list) (.l 3 Ql list))∧((.int .i64 r1.In:Value)=.int .i64 r1.In)∧((.int .i64 r1.Next:Value)=.int .i64 r1.Next)∧((.int .i64 r1.Out:Value)=.int .i64 r1.Out)∧(runL (F77_s0 list r1) (((list.length:Int)-0).toNat+1) 0=(runL (F77_s0 list r1) (((list.length:Int)-0).toNat+1) 0)∧Int.toNat ((list.length:Int)-0)<(((list.length:Int)-0).toNat+1)∧0≤(list.length:Int)∧(0:Int)≤0)) (fun (i0:Nat×Int) (hi0:runL (F77_s0 list r1) i0.1 i0.2=(runL (F77_s0 list r1) (((list.length:Int)-0).toNat+1) 0)∧(fun (k400:Int)=>(Int.toNat ((list.length:Int)-k400)<i0.1∧k400≤(list.length:Int)∧(0:Int)≤k400)) i0.2)=>(fun (m0:Nat) (k400:Int) (hI0:runL (F77_s0 list r1) (m0+1) k400=(runL (F77_s0 list r1) (((list.length:Int)-0).toNat+1) 0)) (_:Int.toNat ((list.length:Int)-k400)<m0+1) (hl0:m0<i0.1) (_:k400≤(list.length:Int)) (_:(0:Int)≤k400)=>ai ((fun k2:(decide (k400<(list.length:Int)))=true=>(fun _:k400<(list.length:Int)=>(by first | omega | (simp only [lens] at*<;> omega):0≤k400∧k400<(list.length:Int))) (of_decide_eq_true k2))) (ai (fun h3:(bif decide (k400<(list.length:Int)) then decide ((list.getD k400.toNat default).In<r1.In) else false)=true=>(fun _:(list.getD k400.toNat default).In<r1.In=>(fun _:k400<(list.length:Int)=>ai ((by unfold i64ok; first | omega | (simp only [lens] at*<;> omega):i64ok (k400+1))) (Exists.intro (p:=fun j:Nat×Int=>(fun (k400_:Int)=>(((.int .i64 (k400+1):Value)=.int .i64 k400_)∧(Imp (.l 3 Ql list) (.l 3 Ql list))∧((.int .i64 r1.In:Value)=.int .i64 r1.In)∧((.int .i64 r1.Next:Value)=.int .i64 r1.Next)∧((.int .i64 r1.Out:Value)=.int .i64 r1.Out)∧((runL (F77_s0 list r1) j.1 j.2=(runL (F77_s0 list r1) (((list.length:Int)-0).toNat+1) 0)∧Int.toNat ((list.length:Int)-k400_)<j.1∧k400_≤(list.length:Int)∧(0:Int)≤k400_)∧j.1<i0.1))) j.2) (m0,(k400+1)) (ai (rfl) (ai (ir) (ai (rfl) (ai (rfl) (ai (rfl) (ai (ai (runL_next hI0 (condT h3 (rfl))) (ai ((by first | omega | (simp only [lens] at*<;> omega):Int.toNat ((list.length:Int)-(k400+1))<m0)) (ai ((by first | omega | (simp only [lens] at*<;> omega):(k400+1)≤(list.length:Int))) ((by first | omega | (simp only [lens] at*<;> omega):(0:Int)≤(k400+1)))))) hl0)))))))) (of_decide_eq_true (andT1 h3))) (of_decide_eq_true (andT2 h3))) (fun h3:(bif decide (k400<(list.length:Int)) then decide ((list.getD k400.toNat default).In<r1.In) else false)=false=>(fun hD0_4:(runL (F77_s0 list r1) (((list.length:Int)-0).toNat+1) 0)=Lp.done k400=>Exists.intro (p:=fun j:Int=>(fun (k_:Int)=>(((.int .i64 k400:Value)=.int .i64 k_)∧(Imp (.l 3 Ql list) (.l 3 Ql list))∧((.int .i64 r1.In:Value)=.int .i64 r1.In)∧((.int .i64 r1.Next:Value)=.int .i64 r1.Next)∧((.int .i64 r1.Out:Value)=.int .i64 r1.Out)∧(F77_j0 list r1)=Lp.done j∧0≤k_∧k_≤(list.length:Int))) j) (k400) (ai (rfl) (ai (ir) (ai (rfl) (ai (rfl) (ai (rfl) (ai (Eq.symm (finD hD0_4 (rfl))) (ai ((by first | omega | (simp only [lens] at*<;> omega):0≤k400)) ((by first | omega | (simp only [lens] at*<;> omega):k400≤(list.length:Int))))))))))) (runL_done hI0 (condF h3 (rfl)))))) (i0.1-1) i0.2 (hd1 hi0.1 hi0.2.1) (hd2 hi0.2.1) (hd3 hi0.2.1) hi0.2.2.1 hi0.2.2.2)) (fun (j:Int) (hj:(fun (k:Int)=>((F77_j0 list r1)=Lp.done j∧0≤k∧k≤(list.length:Int))) j)=>(fun (k:Int) (hJ0_5:(F77_j0 list r1)=Lp.done k) (_:0≤k) (_:k≤(list.length:Int))=>ai ((BuildOK.mk Ql ([]:List Qk) rfl (by exact trivial) (fun _=>rfl):BuildOK 0 3 [] (.l 3 Ql ([]:List Qk)))) (ai ((by first | omega | (simp only [lens] at*<;> omega):0≤(0:Int)∧(0:Int)≤k∧k≤(list.length:Int))) (ai ((AppL.mk Ql ([]:List Qk) (list.take k.toNat) (Imp.refl (.l 3 Ql ([]:List Qk))) ir (fun y=>⟨rfl,fun e he=>by simp only [Ql,List.mem_cons,List.not_mem_nil,or_false] at he; rcases he with rfl | rfl | rfl <;> exact ⟨_,rfl⟩⟩):AppL (.l 3 Ql ([]:List Qk)) (.l 3 Ql (list.take k.toNat)) 3 (.l 3 Ql (([]:List Qk)++(list.take k.toNat))))) (ai ((by (try simp only [lens]); omega:((([]:List Qk)++(list.take k.toNat))).length*24≤140737488355328)) (ai ((AppA.mk Ql (([]:List Qk)++(list.take k.toNat)) [r1] (Imp.refl (.l 3 Ql (([]:List Qk)++(list.take k.toNat)))) rfl (by exact ai ir (ai ir (ai ir (trivial)))) (fun _=>rfl):AppA (.l 3 Ql (([]:List Qk)++(list.take k.toNat))) 1 3 [.v (vI r1.In),.v (vI r1.Next),.v (vI r1.Out)] (.l 3 Ql ((([]:List Qk)++(list.take k.toNat))++[r1])))) (ai ((by (try simp only [lens]); omega:(((([]:List Qk)++(list.take k.toNat))++[r1])).length*24≤140737488355328)) (ai ((by first | omega | (simp only [lens] at*<;> omega):0≤k∧k≤(list.length:Int)∧(list.length:Int)≤(list.length:Int))) (ai ((AppL.mk Ql ((([]:List Qk)++(list.take k.toNat))++[r1]) (list.drop k.toNat) (Imp.refl (.l 3 Ql ((([]:List Qk)++(list.take k.toNat))++[r1]))) ir (fun y=>⟨rfl,fun e he=>by simp only [Ql,List.mem_cons,List.not_mem_nil,or_false] at he; rcases he with rfl | rfl | rfl <;> exact ⟨_,rfl⟩⟩):AppL (.l 3 Ql ((([]:List Qk)++(list.take k.toNat))++[r1])) (.l 3 Ql (list.drop k.toNat)) 3 (.l 3 Ql (((([]:List Qk)++(list.take k.toNat))++[r1])++(list.drop k.toNat))))) (ai ((by (try simp only [lens]); omega:((((([]:List Qk)++(list.take k.toNat))++[r1])++(list.drop k.toNat))).length*24≤140737488355328)) ((fun hF:((((([]:List Qk)++(list.take k.toNat))++[r1])++(list.drop k.toNat)):List Qk)=(F77 list r1)=>ai (Imp.of_eq (congrArg (fun r:List Qk=>Dat.l 3 Ql r) hF)) (trivial)) (finD hJ0_5 (rfl)))))))))))) j hj.1 hj.2.1 hj.2.2)) (by kernel_rfl)
def F71 (a:Qk) (b:Qk):Int :=
 (IntKind.i64.wrap (a.In-b.In))
def S71 (a:Qk) (b:Qk):Spec:=⟨[.r (.g (Ql a)),.r (.g (Ql b))],.v (vI (F71 a b)),True⟩
theorem ok71 (a:Qk) (b:Qk):(S71 a b).ok Tryz.prog 71 :=
 fnG_ok mixed (fn:=Tryz.f71) (ct:=.seq (.no) (.seq (.no) (.no))) Tryz.func71 (fun (_:True)=>(fun hF:((IntKind.i64.wrap (a.In-b.In)):Int)=(F71 a b)=>ai (congrArg (fun r:Int=>(.int .i64 r:Value)) hF) (trivial)) (rfl)) (by kernel_rfl)
theorem getD_mapL {α β:Type} [Inhabited α] [Inhabited β] (f:α→β) (l:List α) {k:Nat} (h:k<l.length):(l.map f).getD k default=f (l.getD k default):=by
 rw [getD_lt _ (by simpa using h),getD_lt _ h,List.getElem_map]
theorem search1 {ρ τ:Type} (p:Nat→Bool) (r:Nat→ρ) (n:Nat) (step:Int→Lp Int ρ) (hs:∀ k:Nat,k<n→step ((k:Int)+1)=bif p k then .ret (r k) else .next ((k:Int)+1+1)) (he:step ((n:Int)+1)=.done ((n:Int)+1)) (f:ρ→τ) (g:Int→τ) :
  (runL step (n+1) 1).fin f g=match first p n with | some k=>f (r k) | none=>g ((n:Int)+1):=by
 have h:=runL_rule (step:=step) (fun (k:Nat) (_:Unit)=>(k:Int)+1) n (fun k _=>∀ j,j<k→p j=false) (fun x=>∃ k,first p n=some k∧x=r k)
  (fun k _ hk hI=>by
   cases hp:p k with
   | false =>
    refine .inl ⟨(),by rw [hs k hk,hp]; rfl,fun j hj=>?_⟩
    rcases Nat.lt_succ_iff_lt_or_eq.1 hj with h | rfl
    ·exact hI j h
    ·exact hp
   | true=>exact .inr ⟨r k,by rw [hs k hk,hp]; rfl,k,first_some.2 ⟨hk,hp,hI⟩,rfl⟩)
  (fun _ _=>he) n 0 () (by omega) (fun j hj=>by omega) (n+1) (Nat.lt_succ_self _)
 rcases h with ⟨_,h,hI⟩ | ⟨x,h,k,hk,rfl⟩
 ·have h:runL step (n+1) 1=.done ((n:Int)+1):=h
  rw [h,first_none.2 hI]; rfl
 ·have h:runL step (n+1) 1=.ret (r k):=h
  rw [h,hk]; rfl
def stopAt (p:Nat→Bool) (n:Nat):Nat:=(first (fun k=>!(p k)) n).getD n
theorem stopAt_le (p:Nat→Bool) (n:Nat):stopAt p n≤n:=by
 unfold stopAt
 cases h:first (fun k=>!(p k)) n with
 | none=>exact Nat.le_refl _
 | some k=>exact Nat.le_of_lt (first_some.1 h).1
theorem stopAt_lt {p:Nat→Bool} {n k:Nat} (h:k<stopAt p n):p k=true:=by
 unfold stopAt at h
 cases e:first (fun k=>!(p k)) n with
 | none=>rw [e] at h; have:=first_none.1 e k h; simpa using this
 | some j=>rw [e] at h; have:=(first_some.1 e).2.2 k h; simpa using this
theorem stopAt_at {p:Nat→Bool} {n:Nat} (h:stopAt p n<n):p (stopAt p n)=false:=by
 unfold stopAt at h ⊢
 cases e:first (fun k=>!(p k)) n with
 | none=>rw [e] at h; exact absurd h (Nat.lt_irrefl _)
 | some j=>have:=(first_some.1 e).2.1; simpa using this
theorem whileL {ρ:Type} (p:Nat→Bool) (n:Nat) (step:Int→Lp Int ρ) (hs:∀ k:Nat,k≤n→step (k:Int)=bif (decide (k<n)&&p k) then .next ((k:Int)+1) else .done (k:Int)) :
  runL step (n+1) 0=.done (stopAt p n:Int):=by
 have key:∀ m k,k+m=stopAt p n→∀ M,m<M→runL step M (k:Int)=.done (stopAt p n:Int):=by
  intro m
  induction m with
  | zero =>
   intro k hk M hM
   obtain ⟨M,rfl⟩:∃ M',M=M'+1:=⟨M-1,by omega⟩
   have hle:=stopAt_le p n
   have hk':k=stopAt p n:=by omega
   have:(decide (k<n)&&p k)=false:=by
    by_cases hlt:k<n
    ·rw [hk'] at hlt ⊢; rw [stopAt_at hlt,Bool.and_false]
    ·rw [decide_eq_false hlt]; rfl
   simp only [runL]
   rw [hs k (by omega),this,hk']; rfl
  | succ m ih =>
   intro k hk M hM
   obtain ⟨M,rfl⟩:∃ M',M=M'+1:=⟨M-1,by omega⟩
   have hle:=stopAt_le p n
   have h1:p k=true:=stopAt_lt (n:=n) (by omega)
   have h2:decide (k<n)=true:=decide_eq_true (by omega)
   simp only [runL,hs k (by omega),h1,h2,Bool.and_self,cond_true]
   exact ih (k+1) (by omega) M (by omega)
 have hle:=stopAt_le p n
 exact key (stopAt p n) 0 (by omega) (n+1) (by omega)
def putK {α:Type} [Inhabited α] (key:α→Int) (xs:List α) (r:α):List α :=
 xs.take (stopAt (fun k=>decide (key (xs.getD k default)<key r)) xs.length)++[r]++xs.drop (stopAt (fun k=>decide (key (xs.getD k default)<key r)) xs.length)
theorem putK_perm {α:Type} [Inhabited α] (key:α→Int) (xs:List α) (r:α):(putK key xs r).Perm (xs++[r]):=by
 unfold putK
 generalize stopAt _ _=k
 have h1:(xs.take k++[r]++xs.drop k).Perm (xs.take k++(xs.drop k++[r])):=by
  rw [List.append_assoc]
  exact List.Perm.append_left _ (List.perm_append_comm)
 refine h1.trans ?_
 rw [← List.append_assoc,List.take_append_drop]
theorem putK_len {α:Type} [Inhabited α] (key:α→Int) (xs:List α) (r:α):(putK key xs r).length=xs.length+1:=by
 rw [(putK_perm key xs r).length_eq]; simp
theorem putK_mem {α:Type} [Inhabited α] {key:α→Int} {xs:List α} {r x:α}:x∈putK key xs r↔x∈xs∨x=r:=by
 rw [(putK_perm key xs r).mem_iff]; simp
theorem putK_inc {α:Type} [Inhabited α] (key:α→Int) (xs:List α) (r:α) (hk:xs.Pairwise (fun a b=>key a<key b)) (hn:∀ a∈xs,key a≠key r):(putK key xs r).Pairwise (fun a b=>key a<key b):=by
 unfold putK
 generalize hg:stopAt (fun k=>decide (key (xs.getD k default)<key r)) xs.length=k
 have hkl:k≤xs.length:=by rw [← hg]; exact stopAt_le _ _
 have hA:∀ a∈xs.take k,key a<key r:=by
  intro a ha
  obtain ⟨i,hi,rfl⟩:=List.mem_iff_getElem.1 ha
  have hi':i<k:=by simp at hi; omega
  have:=stopAt_lt (p:=fun k=>decide (key (xs.getD k default)<key r)) (n:=xs.length) (k:=i) (by rw [hg]; exact hi')
  have:=of_decide_eq_true this
  rw [getD_lt xs (by omega)] at this
  rw [List.getElem_take]; exact this
 have hB:∀ a∈xs.drop k,key r<key a:=by
  by_cases hlt:k<xs.length
  ·have h0:=stopAt_at (p:=fun k=>decide (key (xs.getD k default)<key r)) (n:=xs.length) (by rw [hg]; exact hlt)
   rw [hg] at h0
   have h0:=of_decide_eq_false h0
   rw [getD_lt xs hlt] at h0
   have hne:=hn _ (List.getElem_mem hlt)
   have hpd:(xs.drop k).Pairwise (fun a b=>key a<key b):=hk.drop
   rw [List.drop_eq_getElem_cons hlt] at hpd ⊢
   intro a ha
   rcases List.mem_cons.1 ha with rfl | ha
   ·omega
   ·have:=(List.pairwise_cons.1 hpd).1 a ha; omega
  ·rw [List.drop_of_length_le (by omega)]; intro a ha; cases ha
 rw [List.append_assoc,List.pairwise_append]
 refine ⟨hk.take,?_,?_⟩
 ·rw [List.singleton_append,List.pairwise_cons]
  exact ⟨hB,hk.drop⟩
 ·intro a ha b hb
  rw [List.singleton_append] at hb
  have h1:=hA a ha
  rcases List.mem_cons.1 hb with rfl | hb
  ·exact h1
  ·have:=hB b hb; omega
theorem pairK_uniq {α:Type} {key:α→Int} {xs:List α} (h:xs.Pairwise (fun a b=>key a<key b)) {a b:α} (ha:a∈xs) (hb:b∈xs) (e:key a=key b):a=b:=by
 induction xs with
 | nil=>cases ha
 | cons x t ih =>
  rw [List.pairwise_cons] at h
  rcases List.mem_cons.1 ha with ha | ha <;> rcases List.mem_cons.1 hb with hb | hb
  ·rw [ha,hb]
  ·have:=h.1 b hb; rw [← ha] at this; omega
  ·have:=h.1 a ha; rw [← hb] at this; omega
  ·exact ih h.2 ha hb
theorem sort_put {α:Type} [Inhabited α] (key:α→Int) (cf:α→α→Int) (xs:List α) (r:α) (hk:xs.Pairwise (fun a b=>key a<key b)) (hn:∀ a∈xs,key a≠key r)
  (hc:∀ a∈xs++[r],∀ b∈xs++[r],(cf a b<0↔key a<key b)):SortPre cf (xs++[r])∧sortL cf (xs++[r])=putK key xs r:=by
 have hp:=putK_perm key xs r
 have hi:=putK_inc key xs r hk hn
 have hm:∀ a,a∈xs++[r]→a∈putK key xs r:=fun a ha=>hp.symm.subset ha
 have h:SortPre cf (xs++[r]):=by
  constructor
  ·intro x hx; rw [hc x hx x hx]; omega
  ·intro x hx y hy z hz h1 h2
   rw [hc x hx y hy] at h1; rw [hc y hy z hz] at h2; rw [hc x hx z hz]; omega
  ·intro x hx y hy z hz h1 h2
   rw [hc x hx y hy] at h1; rw [hc y hy z hz] at h2; rw [hc x hx z hz]; omega
  ·intro x hx y hy h1 h2
   rw [hc x hx y hy] at h1; rw [hc y hy x hx] at h2
   exact pairK_uniq hi (hm x hx) (hm y hy) (by omega)
 refine ⟨h,(sortL_unique h hp ?_).symm⟩
 refine hi.imp_of_mem fun {a b} ha hb hab=>?_
 rw [hc b (hp.subset hb) a (hp.subset ha)]; omega
def badP (n:Qe) (path:List Int) (i:Nat):Bool :=
 (!decide (0≤path.getD i default∧path.getD i default≤(n.Qa.length:Int)-1)) || ((decide (0<i)&&decide (Qr n (path.getD (i-1) default) (path.getD i default)<0)) || (first (fun k=>decide (path.getD k default=path.getD i default)) i).isSome)
def pathB (n:Qe) (path:List Int):Bool:=decide (2≤(path.length:Int)∧(path.length:Int)≤(n.Qa.length:Int))&&(first (badP n path) path.length).isNone
structure PathOk (n:Qe) (path:List Int):Prop where
 two:2≤path.length
 most:path.length≤n.Qa.length
 rng:∀ i,i<path.length→0≤path.getD i default∧path.getD i default<(n.Qa.length:Int)
 lnk:∀ i,i+1<path.length→0≤Qr n (path.getD i default) (path.getD (i+1) default)
 inj:∀ i j,i<path.length→j<path.length→path.getD i default=path.getD j default→i=j
theorem pathB_ok {n:Qe} {path:List Int}:pathB n path=true↔PathOk n path:=by
 unfold pathB
 simp only [Bool.and_eq_true,decide_eq_true_eq,allB_iff,badP,Bool.or_eq_false_iff,Bool.not_eq_false',Bool.and_eq_false_iff,decide_eq_false_iff_not,Option.isSome_eq_false_iff,Option.isNone_iff_eq_none,first_none]
 constructor
 ·rintro ⟨⟨h1,h2⟩,h3⟩
  refine ⟨by omega,by omega,fun i hi=>?_,fun i hi=>?_,?_⟩
  ·have:=(h3 i hi).1; omega
  ·have:=(h3 (i+1) hi).2.1; simp only [Nat.add_sub_cancel] at this; omega
  ·have key:∀ i j,j<path.length→i<j→path.getD i default≠path.getD j default:=fun i j hj hij=>(h3 j hj).2.2 i hij
   intro i j hi hj e
   rcases Nat.lt_trichotomy i j with h | h | h
   ·exact absurd e (key i j hj h)
   ·exact h
   ·exact absurd e.symm (key j i hi h)
 ·intro h
  have:=h.two; have:=h.most
  refine ⟨by omega,fun i hi=>⟨?_,?_,fun k hk e=>?_⟩⟩
  ·have:=h.rng i hi; omega
  ·cases i with
   | zero=>left; omega
   | succ i=>right; have:=h.lnk i hi; simp only [Nat.add_sub_cancel]; omega
  ·have:=h.inj k i (by omega) hi e; omega
theorem pathB_T (n:Qe) (path:List Int) (h:pathB n path=true):PathOk n path:=pathB_ok.1 h
theorem pathB_len (n:Qe) (path:List Int) (h:pathB n path=true):path.length≤n.Qa.length:=(pathB_ok.1 h).most
theorem as38 (n:Qe) (path:List Int):F38 n path=pathB n path:=by
 unfold F38 pathB
 rw [search (badP n path) (fun _=>false) path.length _ (fun i hi=>by
  simp only [F38_s0,ltD hi,cond_true,nn,bord,bandd,toNat_pred,pos_cast]
  rw [search (fun k=>decide (path.getD k default=path.getD i default)) (fun _=>false) i _ (fun k hk=>by simp only [F38_s1,ltD hk,cond_true,nn,beqD]) (by simp [F38_s1])]
  unfold badP
  rw [← Bool.or_assoc]
  cases (!decide (0≤path.getD i default∧path.getD i default≤(n.Qa.length:Int)-1) || (decide (0<i)&&decide (Qr n (path.getD (i-1) default) (path.getD i default)<0)))
  ·cases first (fun k=>decide (path.getD k default=path.getD i default)) i <;> rfl
  ·rfl) (by simp [F38_s0])]
 cases decide (2≤(path.length:Int)∧(path.length:Int)≤(n.Qa.length:Int))
 ·rfl
 ·cases first (badP n path) path.length <;> rfl
theorem mem_take_idx (path:List Int) {i:Nat} (hi:i<path.length):decide (path.getD i default∈path.take i)=(first (fun k=>decide (path.getD k default=path.getD i default)) i).isSome:=by
 cases e:first (fun k=>decide (path.getD k default=path.getD i default)) i with
 | none =>
  have h:=first_none.1 e
  refine decide_eq_false fun hm=>?_
  obtain ⟨k,hk,ek⟩:=List.mem_iff_getElem.1 hm
  have hk':k<i:=by simp at hk; omega
  have:=h k hk'
  rw [List.getElem_take] at ek
  rw [getD_lt path (by omega),ek] at this
  simp at this
 | some k =>
  obtain ⟨h1,h2,_⟩:=first_some.1 e
  refine decide_eq_true ?_
  rw [← of_decide_eq_true h2,getD_lt path (by omega)]
  have:(path.take i)[k]'(by simp; omega)=path[k]:=List.getElem_take
  rw [← this]; exact List.getElem_mem _
theorem as68 (n:Qe) (path:List Int) (hf:FrameOk n):F68 n path=pathB n path:=by
 unfold F68
 rw [Bool.eq_iff_iff,pathB_ok]
 let q:Nat→Bool:=fun i=>(first (fun k=>decide (path.getD k default=path.getD i default)) i).isSome || (decide (0<i)&&decide (Qr n (path.getD (i-1) default) (path.getD i default)<0))
 rw [search q (fun _=>false) path.length _ (fun i hi=>by
  simp only [F68_s0,ltD hi,cond_true,nn,bord,bandd,toNat_pred,pos_cast,mem_take_idx path hi]; rfl) (by simp [F68_s0])]
 have hq:((!decide (2≤(path.length:Int)∧(path.length:Int)≤(n.Qa.length:Int)))=false∧first q path.length=none)↔PathOk n path:=by
  rw [first_none,Bool.not_eq_false',decide_eq_true_eq]
  simp only [q,Bool.or_eq_false_iff,Bool.and_eq_false_iff,decide_eq_false_iff_not,Option.isSome_eq_false_iff,Option.isNone_iff_eq_none,first_none]
  constructor
  ·rintro ⟨⟨h1,h2⟩,h3⟩
   have hl:∀ i,i+1<path.length→0≤Qr n (path.getD i default) (path.getD (i+1) default):=fun i hi=>by
    have:=(h3 (i+1) hi).2; simp only [Nat.add_sub_cancel] at this; omega
   refine ⟨by omega,by omega,fun i hi=>?_,hl,?_⟩
   ·cases i with
    | zero=>have:=linkOf_in hf (hl 0 (by omega)); omega
    | succ i=>have:=linkOf_in hf (hl i hi); omega
   ·have key:∀ i j,j<path.length→i<j→path.getD i default≠path.getD j default:=fun i j hj hij=>(h3 j hj).1 i hij
    intro i j hi hj e
    rcases Nat.lt_trichotomy i j with h | h | h
    ·exact absurd e (key i j hj h)
    ·exact h
    ·exact absurd e.symm (key j i hi h)
  ·intro h
   have:=h.two; have:=h.most
   refine ⟨by omega,fun i hi=>⟨fun k hk e=>?_,?_⟩⟩
   ·have:=h.inj k i (by omega) hi e; omega
   ·cases i with
    | zero=>left; omega
    | succ i=>right; have:=h.lnk i hi; simp only [Nat.add_sub_cancel]; omega
 rw [← hq]
 cases (!decide (2≤(path.length:Int)∧(path.length:Int)≤(n.Qa.length:Int))) <;> cases first q path.length <;> simp
def Qz (b:Qi):Int:=match first (fun k=>(rowIx b ((k:Int)+1)).isNone) 60 with
 | some k=>(k:Int)+1
 | none=>0
theorem freeOf_ok {b:Qi} (h:Qz b≠0):isLabel (Qz b)∧rowIx b (Qz b)=none:=by
 unfold Qz at h ⊢
 cases e:first (fun k=>(rowIx b ((k:Int)+1)).isNone) 60 with
 | none=>rw [e] at h; exact absurd rfl h
 | some k =>
  obtain ⟨h1,h2,_⟩:=first_some.1 e
  simp only at h1 h2 ⊢
  exact ⟨⟨by omega,by omega⟩,Option.isNone_iff_eq_none.1 h2⟩
theorem as76 (b:Qi):F76 b=Qz b:=by
 unfold F76 Qz
 rw [show (Int.toNat (60-1+1))+1=60+1 from rfl]
 rw [search1 (fun k=>(rowIx b ((k:Int)+1)).isNone) (fun k=>(k:Int)+1) 60 _ (fun k hk=>by
  simp only [F76_s0]
  rw [show decide ((k:Int)+1≤60)=true from decide_eq_true (by omega),cond_true]
  cases rowIx b ((k:Int)+1) with
  | none=>rfl
  | some j=>rw [show decide (oix (some j)<0)=false from decide_eq_false (by simp only [oix]; omega)]; rfl) (by simp [F76_s0])]
theorem as69 (b:Qi):F69 b=Qz b:=by
 unfold F69 Qz
 rw [show (Int.toNat (60-1+1))+1=60+1 from rfl]
 rw [search1 (fun k=>(rowIx b ((k:Int)+1)).isNone) (fun k=>(k:Int)+1) 60 _ (fun k hk=>by
  simp only [F69_s0]
  rw [show decide ((k:Int)+1≤60)=true from decide_eq_true (by omega),cond_true]
  unfold Qw
  cases rowIx b ((k:Int)+1) <;> rfl) (by simp [F69_s0])]
theorem free_new {b:Qi} (h:Qz b≠0):∀ r∈b.Rows,r.In≠Qz b:=by
 intro r hr e
 obtain ⟨k,hk,rfl⟩:=mem_getD hr
 have:=first_none.1 (freeOf_ok h).2 k hk
 rw [e] at this; simp at this
def BoxP (n:Qe) (i:Int) (b:Qi):Prop :=
 ((∀ r∈b.Rows,rowOk n i r)∧b.Rows.Pairwise (fun x y=>x.In<y.In))∧(∀ v∈b.Qc,viaOk n i v)∧b.Qc.Pairwise (fun x y=>x.To<y.To)
theorem pair_inc {α:Type} [Inhabited α] {xs:List α} {f:α→Int} (h:xs.Pairwise (fun a b=>f a<f b)) (k:Nat) (hk:k+1<xs.length):f (xs.getD k default)<f (xs.getD (k+1) default):=by
 rw [getD_lt xs (by omega),getD_lt xs hk]
 exact List.pairwise_iff_getElem.1 h k (k+1) (by omega) hk (by omega)
theorem boxP_ok {n:Qe} {i:Nat}:BoxOk n i↔BoxP n i (n.Qa.getD i default):=by
 constructor
 ·intro h
  refine ⟨⟨fun r hr=>?_,inc_pair _ (fun r:Qk=>r.In) h.rinc⟩,fun v hv=>?_,inc_pair _ (fun r:Qn=>r.To) h.vinc⟩
  ·obtain ⟨k,hk,rfl⟩:=mem_getD hr; exact h.row k hk
  ·obtain ⟨k,hk,rfl⟩:=mem_getD hv; exact h.via k hk
 ·rintro ⟨⟨h1,h2⟩,h3,h4⟩
  exact ⟨fun k hk=>h1 _ (getD_mem _ hk),fun k hk=>pair_inc (f:=fun r:Qk=>r.In) h2 k hk,fun k hk=>h3 _ (getD_mem _ hk),fun k hk=>pair_inc (f:=fun r:Qn=>r.To) h4 k hk⟩
theorem getD_set {α:Type} [Inhabited α] (xs:List α) (i:Nat) (x:α) (k:Nat):(xs.set i x).getD k default=if i=k∧k<xs.length then x else xs.getD k default:=by
 rw [List.getD_eq_getElem?_getD,List.getElem?_set]
 by_cases h1:i=k
 ·subst h1
  by_cases h2:i<xs.length
  ·simp [h2]
  ·rw [if_pos rfl,if_neg h2,if_neg (by simp [h2]),getD_ge _ (by omega)]; rfl
 ·simp [h1,List.getD_eq_getElem?_getD]
theorem netOk_set {n:Qe} (h:Qt n) {i:Nat} {b:Qi} (hb:BoxP n i b):Qt ⟨n.Qb,n.Qa.set i b⟩:=by
 obtain ⟨f,g⟩:=h
 refine ⟨⟨by simpa using f.b1,by simpa using f.b8,f.l14,fun k hk=>?_,f.inc⟩,fun k hk=>?_⟩
 ·have:=f.ab k hk
  simpa using this
 ·have hk':k<n.Qa.length:=by simpa using hk
  rw [boxP_ok]
  show BoxP n k ((n.Qa.set i b).getD k default)
  rw [getD_set]
  by_cases e:i=k
  ·subst e; rw [if_pos ⟨rfl,hk'⟩]; exact hb
  ·rw [if_neg (fun h=>e h.1)]; exact boxP_ok.1 (g k hk')
def rowAt (path labels:List Int) (i:Nat):Qk :=
 ⟨labels.getD i default,bif decide ((i:Int)+1<(path.length:Int)) then path.getD (i+1) default else -1,bif decide ((i:Int)+1<(path.length:Int)) then labels.getD (i+1) default else 0⟩
def layTo (n:Qe) (path labels:List Int):Nat→List Qi
 | 0=>n.Qa
 | i+1=>(layTo n path labels i).set (path.getD i default).toNat ⟨putK (fun x:Qk=>x.In) ((layTo n path labels i).getD (path.getD i default).toNat default).Rows (rowAt path labels i),((layTo n path labels i).getD (path.getD i default).toNat default).Qc⟩
theorem layTo_len (n:Qe) (path labels:List Int):∀ i,(layTo n path labels i).length=n.Qa.length
 | 0=>rfl
 | i+1=>by simp [layTo,layTo_len n path labels i]
theorem PathOk.ne {n:Qe} {path:List Int} (h:PathOk n path) {i j:Nat} (hi:i<path.length) (hj:j<path.length) (hij:i≠j):Int.toNat (path.getD i default)≠Int.toNat (path.getD j default):=fun e=>by
 have h1:=h.rng i hi; have h2:=h.rng j hj
 exact hij (h.inj i j hi hj (by omega))
theorem layTo_at {n:Qe} {path:List Int} (h:PathOk n path) (labels:List Int):∀ i j,i≤j→j<path.length→(layTo n path labels i).getD (path.getD j default).toNat default=n.Qa.getD (path.getD j default).toNat default
 | 0,_,_,_=>rfl
 | i+1,j,hij,hj=>by
  rw [layTo,getD_set,if_neg (fun e=>h.ne (by omega) hj (by omega) e.1)]
  exact layTo_at h labels i j (by omega) hj
def freeOn (n:Qe) (b:Int):Int:=Qz (n.Qa.getD b.toNat default)
structure LayP (n:Qe) (path labels:List Int):Prop where
 net:Qt n
 pth:PathOk n path
 lab:labels=path.map (freeOn n)
 nz:∀ x∈labels,x≠0
theorem LayP.len {n:Qe} {path labels:List Int} (h:LayP n path labels):labels.length=path.length:=by rw [h.lab,List.length_map]
theorem LayP.at_ {n:Qe} {path labels:List Int} (h:LayP n path labels) {i:Nat} (hi:i<path.length):labels.getD i default=Qz (n.Qa.getD (path.getD i default).toNat default)∧Qz (n.Qa.getD (path.getD i default).toNat default)≠0:=by
 have hl:=h.len
 have e:labels.getD i default=Qz (n.Qa.getD (path.getD i default).toNat default):=by rw [h.lab,getD_mapL _ _ hi]; rfl
 exact ⟨e,e ▸ h.nz _ (getD_mem _ (by omega))⟩
theorem LayP.lbl {n:Qe} {path labels:List Int} (h:LayP n path labels) {i:Nat} (hi:i<path.length):isLabel (labels.getD i default):=by
 obtain ⟨h1,h2⟩:=h.at_ hi
 rw [h1]; exact (freeOf_ok h2).1
theorem LayP.row {n:Qe} {path labels:List Int} (h:LayP n path labels) {i:Nat} (hi:i<path.length):rowOk n (path.getD i default) (rowAt path labels i):=by
 refine ⟨h.lbl hi,?_⟩
 by_cases hx:(i:Int)+1<(path.length:Int)
 ·right
  simp only [rowAt,decide_eq_true hx,cond_true]
  exact ⟨h.pth.lnk i (by omega),h.lbl (by omega)⟩
 ·left
  simp [rowAt,decide_eq_false hx]
theorem LayP.new {n:Qe} {path labels:List Int} (h:LayP n path labels) {i:Nat} (hi:i<path.length):∀ r∈(n.Qa.getD (path.getD i default).toNat default).Rows,r.In≠(rowAt path labels i).In:=by
 obtain ⟨h1,h2⟩:=h.at_ hi
 intro r hr
 show r.In≠labels.getD i default
 rw [h1]; exact free_new h2 r hr
theorem LayP.box {n:Qe} {path labels:List Int} (h:LayP n path labels) {i:Nat} (hi:i<path.length):BoxP n (path.getD i default) (n.Qa.getD (path.getD i default).toNat default):=by
 have:=h.pth.rng i hi
 have hb:=boxP_ok.1 (h.net.box (path.getD i default).toNat (by omega))
 rwa [show ((Int.toNat (path.getD i default):Nat):Int)=path.getD i default from by omega] at hb
theorem LayP.putOk {n:Qe} {path labels:List Int} (h:LayP n path labels) {i:Nat} (hi:i<path.length) :
  BoxP n (path.getD i default) ⟨putK (fun x:Qk=>x.In) (n.Qa.getD (path.getD i default).toNat default).Rows (rowAt path labels i),(n.Qa.getD (path.getD i default).toNat default).Qc⟩:=by
 obtain ⟨⟨h1,h2⟩,h3⟩:=h.box hi
 refine ⟨⟨fun r hr=>?_,putK_inc (fun x:Qk=>x.In) _ _ h2 (h.new hi)⟩,h3⟩
 rcases putK_mem.1 hr with hr | rfl
 ·exact h1 r hr
 ·exact h.row hi
theorem LayP.netTo {n:Qe} {path labels:List Int} (h:LayP n path labels):∀ i,i≤path.length→Qt ⟨n.Qb,layTo n path labels i⟩
 | 0,_=>h.net
 | i+1,hi=>by
  have ih:=h.netTo i (by omega)
  have hr:=h.pth.rng i (by omega)
  rw [layTo,layTo_at h.pth labels i i (Nat.le_refl _) (by omega)]
  have hb:=h.putOk (i:=i) (by omega)
  exact netOk_set (n:=⟨n.Qb,layTo n path labels i⟩) ih (i:=Int.toNat (path.getD i default)) (by
   rw [show ((Int.toNat (path.getD i default):Nat):Int)=path.getD i default from by omega]; exact hb)
structure LayS (n:Qe) (path labels:List Int) (i:Int) (xs:List Qi):Prop where
 p:LayP n path labels
 hi:0≤i
 hl:i≤(path.length:Int)
 xs:xs=layTo n path labels i.toNat
theorem LayS.zero {n:Qe} {path labels:List Int} (h:LayP n path labels):LayS n path labels 0 n.Qa:=⟨h,by omega,by omega,rfl⟩
theorem LayS.in_ {n:Qe} {path labels:List Int} {i:Int} {xs:List Qi} (h:LayS n path labels i xs) (hi:i<(path.length:Int)) :
  0≤path.getD i.toNat default∧path.getD i.toNat default<(xs.length:Int)∧(xs.getD (path.getD i.toNat default).toNat default).Rows.length≤60:=by
 obtain ⟨p,h0,_,rfl⟩:=h
 have:=p.pth.rng i.toNat (by omega)
 rw [layTo_len,layTo_at p.pth labels i.toNat i.toNat (Nat.le_refl _) (by omega)]
 exact ⟨this.1,this.2,Qt.rows p.net _⟩
theorem LayS.sort {n:Qe} {path labels:List Int} {i:Int} {xs:List Qi} (h:LayS n path labels i xs) (hi:i<(path.length:Int)) {r:Qk} (hr:r=rowAt path labels i.toNat) :
  SortPre (fun (x0:Qk) (x1:Qk)=>F71 x0 x1) ((xs.getD (path.getD i.toNat default).toNat default).Rows++[r]) ∧
  sortL (fun (x0:Qk) (x1:Qk)=>F71 x0 x1) ((xs.getD (path.getD i.toNat default).toNat default).Rows++[r])=putK (fun x:Qk=>x.In) (xs.getD (path.getD i.toNat default).toNat default).Rows r:=by
 obtain ⟨p,h0,_,rfl⟩:=h
 subst hr
 have hk:Int.toNat i<path.length:=by omega
 rw [layTo_at p.pth labels i.toNat i.toNat (Nat.le_refl _) hk]
 obtain ⟨⟨h1,h2⟩,_⟩:=p.box hk
 have hl:∀ a∈(n.Qa.getD (path.getD i.toNat default).toNat default).Rows++[rowAt path labels i.toNat],1≤a.In∧a.In≤60:=by
  intro a ha
  rcases List.mem_append.1 ha with ha | ha
  ·exact (h1 a ha).1
  ·rw [List.mem_singleton.1 ha]; exact (p.row hk).1
 exact sort_put (fun x:Qk=>x.In) _ _ _ h2 (p.new hk) fun a ha b hb=>by
  have:=hl a ha; have:=hl b hb
  unfold F71
  rw [wrap_of (by omega) (by omega)]
  omega
theorem LayS.next {n:Qe} {path labels:List Int} {i:Int} {xs:List Qi} (h:LayS n path labels i xs) (hi:i<(path.length:Int)) {r:Qk} (hr:r=rowAt path labels i.toNat) :
  LayS n path labels (i+1) (xs.set (path.getD i.toNat default).toNat ⟨putK (fun x:Qk=>x.In) (xs.getD (path.getD i.toNat default).toNat default).Rows r,(xs.getD (path.getD i.toNat default).toNat default).Qc⟩):=by
 obtain ⟨p,h0,_,rfl⟩:=h
 subst hr
 refine ⟨p,by omega,by omega,?_⟩
 rw [show Int.toNat (i+1)=Int.toNat i+1 from by omega]; rfl
theorem LayS.next' {n:Qe} {path labels:List Int} {i:Int} {xs:List Qi} (h:LayS n path labels i xs) (hi:i<(path.length:Int)) {r:Qk} (hr:r=rowAt path labels i.toNat) :
  LayS n path labels (i+1) (xs.set (path.getD i.toNat default).toNat ⟨sortL (fun (x0:Qk) (x1:Qk)=>F71 x0 x1) ((xs.getD (path.getD i.toNat default).toNat default).Rows++[r]),(xs.getD (path.getD i.toNat default).toNat default).Qc⟩):=by
 rw [(h.sort hi hr).2]; exact h.next hi hr
theorem rowAt_T {path labels:List Int} {i:Int} (h0:0≤i) (h:i+1<(path.length:Int)):(⟨labels.getD i.toNat default,path.getD (i+1).toNat default,labels.getD (i+1).toNat default⟩:Qk)=rowAt path labels i.toNat:=by
 unfold rowAt
 rw [decide_eq_true (show ((Int.toNat i:Nat):Int)+1<(path.length:Int) from by omega),show Int.toNat (i+1)=Int.toNat i+1 from by omega]
 rfl
theorem rowAt_F {path labels:List Int} {i:Int} (h0:0≤i) (h:¬ i+1<(path.length:Int)):(⟨labels.getD i.toNat default,-1,0⟩:Qk)=rowAt path labels i.toNat:=by
 unfold rowAt
 rw [decide_eq_false (show ¬ ((Int.toNat i:Nat):Int)+1<(path.length:Int) from by omega)]
 rfl
theorem PathOk.in_ {n:Qe} {path:List Int} (h:PathOk n path) {i:Int} (h0:0≤i) (hi:i<(path.length:Int)):0≤path.getD i.toNat default∧path.getD i.toNat default<(n.Qa.length:Int):=h.rng _ (by omega)
structure LabI (n:Qe) (path:List Int) (i:Int) (xs:List Int):Prop where
 hi:0≤i
 hl:i≤(path.length:Int)
 eq:xs=(path.take i.toNat).map (freeOn n)
 nz:∀ x∈xs,x≠0
theorem LabI.zero (n:Qe) (path:List Int):LabI n path 0 []:=⟨by omega,by omega,rfl,fun x hx=>by cases hx⟩
theorem LabI.next {n:Qe} {path:List Int} {i:Int} {xs:List Int} (h:LabI n path i xs) (hi:i<(path.length:Int)) (hz:¬ Qz (n.Qa.getD (path.getD i.toNat default).toNat default)=0) :
  LabI n path (i+1) (xs++[Qz (n.Qa.getD (path.getD i.toNat default).toNat default)]):=by
 obtain ⟨h0,_,rfl,h3⟩:=h
 refine ⟨by omega,by omega,?_,fun x hx=>?_⟩
 ·rw [show Int.toNat (i+1)=Int.toNat i+1 from by omega,take_next (by omega),List.map_append]; rfl
 ·rcases List.mem_append.1 hx with hx | hx
  ·exact h3 x hx
  ·rw [List.mem_singleton.1 hx]; exact hz
theorem LabI.done {n:Qe} {path:List Int} {i:Int} {xs:List Int} (h:LabI n path i xs) (hi:¬ i<(path.length:Int)) (hn:Qt n) (hp:PathOk n path):LayP n path xs:=by
 obtain ⟨h0,h1,h2,h3⟩:=h
 rw [List.take_of_length_le (by omega)] at h2
 exact ⟨hn,hp,h2,h3⟩
theorem LabI.len {n:Qe} {path:List Int} {i:Int} {xs:List Int} (h:LabI n path i xs):(xs.length:Int)=i:=by
 obtain ⟨h0,h1,h2,h3⟩:=h
 rw [h2,List.length_map,List.length_take]; omega
theorem whilePut {α ρ:Type} [Inhabited α] (key:α→Int) (xs:List α) (r:α) (step:Int→Lp Int ρ) (hs:∀ k,step k=bif (bif decide (k<(xs.length:Int)) then decide (key (xs.getD k.toNat default)<key r) else false) then .next (k+1) else .done k) :
  runL step (((xs.length:Int)-0).toNat+1) 0=.done (stopAt (fun k=>decide (key (xs.getD k default)<key r)) xs.length:Int):=by
 rw [n0]
 refine whileL _ _ step fun k hk=>?_
 rw [hs,bandd,nn]
 congr 2
 simp
theorem as77 (list:List Qk) (r1:Qk):F77 list r1=putK (fun x:Qk=>x.In) list r1:=by
 unfold F77 F77_j0 putK
 rw [whilePut (fun x:Qk=>x.In) list r1 (F77_s0 list r1) (fun k=>rfl)]
 simp only [Lp.fin,nn,List.nil_append]
end Go.Proofs.YtmiolofjlfnohaaGreat
