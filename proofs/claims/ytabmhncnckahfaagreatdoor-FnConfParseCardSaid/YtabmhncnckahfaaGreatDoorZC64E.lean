/- A part of the proof of FnConfParse. Texts put together: VCKD, PCE0, PCE1, PCE2, PCHA, VCH, PCH, VSZ, PSZ, PSO, VJO, PJO, VDF, PDF, VMK, PMK, PDFL0, PPA0, VPA, PPA, VPB, PPB, VPC, PPC, PMA0, VMA, PMA1, VMB, PMB, PDXB, VDC0, PDC0, VDC1, PDC1, VDC2, PDC2, VDC3, PDC3, VDM1, PDM1, VDM2, PDM2, VDM3, PDM3. -/
import Derived.Test.YtabmhncnckahfaaGreatDoorRows
import Derived.Test.YtabmhncnckahfaaGreatDoorZC64D
namespace Go.Proofs.YtabmhncnckahfaaGreatDoor
open Go.RowKit
set_option maxRecDepth 100000
set_option linter.unusedVariables false
set_option linter.unusedSimpArgs false
theorem kc117 (c:l52Cut) (k:Int) {K_:Prop} (p0_:0<=k) (k_:K_):(0<=k)/\(Imps (el52Cut c) (el52Cut c))/\(Imp (.v (vI k)) (.v (vI k)))/\K_:=⟨p0_,Imps.refl _,Imp.refl _,k_⟩
abbrev kh117 (c:l52Cut) (k:Int):Hint true Tryz.prog:=.call 117 (S117 c k) (ok117 c k) none
theorem kg117 {K_:Prop} (c_ b_:Bool) (c:l52Cut) (k:Int) (p_:c_=b_->0<=k) (k_:K_):(c_=b_->0<=k)/\(c_=b_->Imps (el52Cut c) (el52Cut c))/\(c_=b_->Imp (.v (vI k)) (.v (vI k)))/\K_:=⟨p_,fun _=>Imps.refl _,fun _=>Imp.refl _,k_⟩
def F60_s0 (all:List l52Cut):Int->Lp Int Bool:=fun i40 =>
 bif (decide (i40<(all.length:Int))) then (bif (bif ((F117 (all.getD (Int.toNat i40) default) 0).toList==Zk.toList) then ((F117 (all.getD (Int.toNat i40) default) 2).toList==Zr.toList) else false) then (.ret true) else (.next (i40+1))) else (.done i40)
def F60 (all:List l52Cut):Bool :=
 (runL (F60_s0 all) ((Int.toNat ((all.length:Int)-0))+1) 0).fin (fun r=>r) (fun i40=>false)
abbrev lN60_0 (all:List l52Cut):Nat×Int:=(((Int.toNat ((all.length:Int)-0))+1),0)
abbrev lI60_0 (all:List l52Cut) (m39:Nat) (i40:Int):Prop:=Int.toNat ((all.length:Int)-i40)<m39/\(0:Int)<=i40
abbrev lX60_0 (all:List l52Cut):Lp Int Bool:=LpX (F60_s0 all) (lN60_0 all)
abbrev lJ60_0 (all:List l52Cut) (i:Nat×Int):Prop:=LpJ (F60_s0 all) (lN60_0 all) i (lI60_0 all i.1 i.2)
abbrev lH60_0 (all:List l52Cut) (i:Nat×Int) (m39:Nat) (i40:Int):Prop:=LpH (F60_s0 all) (lN60_0 all) i m39 i40 (lI60_0 all (m39+1) i40)
abbrev lE60_0 (all:List l52Cut) (i40:Int) (i40_:Int) (K39:Prop):Prop:=((.int .i64 i40:Value)=.int .i64 i40_)/\(Im (.l 1 el52Cut all))/\K39
theorem un60_0 (all:List l52Cut) (i:Nat×Int) (h:lJ60_0 all i):lH60_0 all i (i.1-1) i.2:=⟨hd1 h.1 h.2.1,hd3 h.2.1,hd2 h.2.1,h.2.2⟩
theorem bk60_0 (all:List l52Cut) (i:Nat×Int) (m39:Nat) (i40:Int) (hl:m39<i.1) (e:runL (F60_s0 all) m39 i40=lX60_0 all) (h:lI60_0 all m39 i40):∃ j:Nat×Int,lE60_0 all i40 j.2 (lJ60_0 all j/\j.1<i.1):=⟨(m39,i40),rfl,Imp.refl _,⟨e,h⟩,hl⟩
theorem en60_0 (all:List l52Cut) (h:(0:Int)<=0):lE60_0 all 0 0 (lJ60_0 all (lN60_0 all)):=⟨rfl,Imp.refl _,rfl,Qr _,h⟩
def S60 (all:List l52Cut):Spec:=⟨[.r (.c (.l 1 el52Cut all))],.v (.bool (F60 all)),True⟩
theorem ok60 (all:List l52Cut):(S60 all).ok Tryz.prog 60 :=
 fnG_ok mixed (fn:=Tryz.f60) (ct:=.seqk [(0,0)] .no (.seq (.seqk [(0,0)] .no (.blk (.loop (ι:=Nat×Int) (fun i=>(fun (i40:Int)=>(⟨[(0,some (.h 0 0)),(3,some (.v (vI i40)))],[(0,some (.shr none (.l 1 el52Cut all)))],1⟩:St)) i.2) (lJ60_0 all) (fun i=>i.1) (lN60_0 all) (fun i=>(fun (i40:Int)=>(.seq (.seq .no (.cond .no .no)) (.seq (.blk (.seq (.reg [(4,kh117 (all.getD (Int.toNat i40) default) 0),(11,kh117 (all.getD (Int.toNat i40) default) 2)]) (.cond (.seq .no .no) .no))) (.reg [(1,.bnd)])))) i.2)))) (.seq .no .no))) Tryz.func60 (fun (_:True)=>kn all fun _=>kn all fun _=>ai (en60_0 all uu0) (fun (i0:Nat×Int) (hi0:lJ60_0 all i0)=>(fun (m0:Nat) (i40:Int) (hh0:lH60_0 all i0 m0 i40)=>have hI0:=hh0.1; have hl0:=hh0.2.1; have _:=hh0.2.2.1; have _:=hh0.2.2.2; ifd (i40<(all.length:Int)) (fun h2 _=>ai (uu0:ib i40 all) (kc117 (all.getD (Int.toNat i40) default) 0 uu0 (ai (fun k3:((F117 (all.getD (Int.toNat i40) default) 0).toList==Zk.toList)=true=>(uu0:ib i40 all)) (kg117 ((F117 (all.getD (Int.toNat i40) default) 0).toList==Zk.toList) true (all.getD (Int.toNat i40) default) 2 (fun k4=>uu0) (ifb (bif ((F117 (all.getD (Int.toNat i40) default) 0).toList==Zk.toList) then ((F117 (all.getD (Int.toNat i40) default) 2).toList==Zr.toList) else false) (fun h5=>have _:((F117 (all.getD (Int.toNat i40) default) 0).toList==Zk.toList)=true:=(andT1 h5); have _:((F117 (all.getD (Int.toNat i40) default) 2).toList==Zr.toList)=true:=(andT2 h5); fiB true (F60 all) (finR (runL_ret hI0 (condT h2 (condT h5 rfl))) rfl)) (fun h5=>ai (iok (i40+1) uu0) (bk60_0 all i0 m0 (i40+1) hl0 (runL_next hI0 (condT h2 (condF h5 rfl))) uu6))))))) (fun h2 _=>have hD0_6:lX60_0 all=Lp.done i40:=runL_done hI0 (condF h2 rfl); fiB false (F60 all) (finD hD0_6 rfl))) (i0.1-1) i0.2 (un60_0 all i0 hi0))) uu3
def F118_s0 (all:List l52Cut) (name:Za):(Int×Int)->Lp (Int×Int) Int:=fun (n,i40) =>
 bif (decide (i40<(all.length:Int))) then (bif (bif ((F117 (all.getD (Int.toNat i40) default) 0).toList==Zg.toList) then ((F117 (all.getD (Int.toNat i40) default) 1).toList==name.toList) else false) then (.next ((n+1),(i40+1))) else (.next (n,(i40+1)))) else (.done (n,i40))
def F118 (all:List l52Cut) (name:Za):Int :=
 (runL (F118_s0 all name) ((Int.toNat ((all.length:Int)-0))+1) (0,0)).fin (fun r=>r) (fun (n,i40)=>n)
abbrev lN118_0 (all:List l52Cut):Nat×(Int×Int):=(((Int.toNat ((all.length:Int)-0))+1),(0,0))
abbrev lI118_0 (all:List l52Cut) (m39:Nat) (n:Int) (i40:Int):Prop:=Int.toNat ((all.length:Int)-i40)<m39/\(0:Int)<=n/\(n:Int)<=i40/\(0:Int)<=n/\(0:Int)<=i40
abbrev lX118_0 (all:List l52Cut) (name:Za):Lp (Int×Int) Int:=LpX (F118_s0 all name) (lN118_0 all)
abbrev lJ118_0 (all:List l52Cut) (name:Za) (i:Nat×(Int×Int)):Prop:=LpJ (F118_s0 all name) (lN118_0 all) i (lI118_0 all i.1 i.2.1 i.2.2)
abbrev lH118_0 (all:List l52Cut) (name:Za) (i:Nat×(Int×Int)) (m39:Nat) (n:Int) (i40:Int):Prop:=LpH (F118_s0 all name) (lN118_0 all) i m39 (n,i40) (lI118_0 all (m39+1) n i40)
abbrev lE118_0 (all:List l52Cut) (name:Za) (n:Int) (i40:Int) (n_:Int) (i40_:Int) (K39:Prop):Prop:=(Rf (.string name))/\((.int .i64 n:Value)=.int .i64 n_)/\((.int .i64 i40:Value)=.int .i64 i40_)/\(Im (.l 1 el52Cut all))/\K39
theorem un118_0 (all:List l52Cut) (name:Za) (i:Nat×(Int×Int)) (h:lJ118_0 all name i):lH118_0 all name i (i.1-1) i.2.1 i.2.2:=⟨hd1 h.1 h.2.1,hd3 h.2.1,hd2 h.2.1,h.2.2⟩
theorem bk118_0 (all:List l52Cut) (name:Za) (i:Nat×(Int×Int)) (m39:Nat) (n:Int) (i40:Int) (hl:m39<i.1) (e:runL (F118_s0 all name) m39 (n,i40)=lX118_0 all name) (h:lI118_0 all m39 n i40):∃ j:Nat×(Int×Int),lE118_0 all name n i40 j.2.1 j.2.2 (lJ118_0 all name j/\j.1<i.1):=⟨(m39,(n,i40)),rfl,rfl,rfl,Imp.refl _,⟨e,h⟩,hl⟩
theorem en118_0 (all:List l52Cut) (name:Za) (h:(0:Int)<=0/\(0:Int)<=0/\(0:Int)<=0/\(0:Int)<=0):lE118_0 all name 0 0 0 0 (lJ118_0 all name (lN118_0 all)):=⟨rfl,rfl,rfl,Imp.refl _,rfl,Qr _,h⟩
def S118 (all:List l52Cut) (name:Za):Spec:=⟨[.r (.c (.l 1 el52Cut all)),.r (.c (.v (.string name)))],.v (vI (F118 all name)),True⟩
theorem ok118 (all:List l52Cut) (name:Za):(S118 all name).ok Tryz.prog 118 :=
 fnG_ok mixed (fn:=Tryz.f118) (ct:=.seqk [(0,0)] .no (.seq .no (.seq (.seqk [(0,0)] .no (.blk (.loop (ι:=Nat×(Int×Int)) (fun i=>(fun (n:Int) (i40:Int)=>(⟨[(0,some (.h 0 0)),(1,some (.v (.string name))),(5,some (.v (vI n))),(6,some (.v (vI i40)))],[(0,some (.shr none (.l 1 el52Cut all)))],1⟩:St)) i.2.1 i.2.2) (lJ118_0 all name) (fun i=>i.1) (lN118_0 all) (fun i=>(fun (n:Int) (i40:Int)=>(.seq (.seq .no (.cond .no .no)) (.seq (.blk (.seq (.reg [(4,kh117 (all.getD (Int.toNat i40) default) 0),(11,kh117 (all.getD (Int.toNat i40) default) 1)]) (.cond (.reg [(1,.bnd)]) .no))) (.reg [(1,.bnd)])))) i.2.1 i.2.2)))) (.seq .no .no)))) Tryz.func118 (fun (_:True)=>kn all fun _=>kn all fun _=>ai (en118_0 all name uu39) (fun (i0:Nat×(Int×Int)) (hi0:lJ118_0 all name i0)=>(fun (m0:Nat) (n:Int) (i40:Int) (hh0:lH118_0 all name i0 m0 n i40)=>have hI0:=hh0.1; have hl0:=hh0.2.1; have _:=hh0.2.2.1; have _:=hh0.2.2.2; ifd (i40<(all.length:Int)) (fun h2 _=>ai (uu0:ib i40 all) (kc117 (all.getD (Int.toNat i40) default) 0 uu0 (ai (fun k3:((F117 (all.getD (Int.toNat i40) default) 0).toList==Zg.toList)=true=>(uu0:ib i40 all)) (kg117 ((F117 (all.getD (Int.toNat i40) default) 0).toList==Zg.toList) true (all.getD (Int.toNat i40) default) 1 (fun k4=>uu0) (ifb (bif ((F117 (all.getD (Int.toNat i40) default) 0).toList==Zg.toList) then ((F117 (all.getD (Int.toNat i40) default) 1).toList==name.toList) else false) (fun h5=>have _:((F117 (all.getD (Int.toNat i40) default) 0).toList==Zg.toList)=true:=(andT1 h5); have _:=(andT2 h5); ai (iok (n+1) uu0) (ai (iok (i40+1) uu0) (bk118_0 all name i0 m0 (n+1) (i40+1) hl0 (runL_next hI0 (condT h2 (condT h5 rfl))) uu27))) (fun h5=>ai (iok (i40+1) uu0) (bk118_0 all name i0 m0 n (i40+1) hl0 (runL_next hI0 (condT h2 (condF h5 rfl))) uu27))))))) (fun h2 _=>have hD0_6:lX118_0 all name=Lp.done (n,i40):=runL_done hI0 (condF h2 rfl); fiI n (F118 all name) (finD hD0_6 rfl))) (i0.1-1) i0.2.1 i0.2.2 (un118_0 all name i0 hi0))) uu3
theorem kg118 {K_:Prop} (c_ b_:Bool) (all:List l52Cut) (name:Za) (k_:K_):(c_=b_->True)/\(c_=b_->Imp (.l 1 el52Cut all) (.l 1 el52Cut all))/\(c_=b_->Imp (.v (.string name)) (.v (.string name)))/\K_:=⟨fun _=>trivial,fun _=>Imp.refl _,fun _=>Imp.refl _,k_⟩
abbrev kh118 (all:List l52Cut) (name:Za):Hint true Tryz.prog:=.call 118 (S118 all name) (ok118 all name) none
def F61_s0 (all:List l52Cut):Int->Lp Int Bool:=fun i40 =>
 bif (decide (i40<(all.length:Int))) then (bif (bif (bif ((F117 (all.getD (Int.toNat i40) default) 0).toList==Ze.toList) then (!((F117 (all.getD (Int.toNat i40) default) 4).toList==Zf.toList)) else false) then ((F118 all (F117 (all.getD (Int.toNat i40) default) 4))==0) else false) then (.ret false) else (bif (bif ((F117 (all.getD (Int.toNat i40) default) 0).toList==Zg.toList) then decide ((F118 all (F117 (all.getD (Int.toNat i40) default) 1))>12) else false) then (.ret false) else (.next (i40+1)))) else (.done i40)
def F61 (all:List l52Cut):Bool :=
 (runL (F61_s0 all) ((Int.toNat ((all.length:Int)-0))+1) 0).fin (fun r=>r) (fun i40=>true)
abbrev lN61_0 (all:List l52Cut):Nat×Int:=(((Int.toNat ((all.length:Int)-0))+1),0)
abbrev lI61_0 (all:List l52Cut) (m39:Nat) (i40:Int):Prop:=Int.toNat ((all.length:Int)-i40)<m39/\(0:Int)<=i40
abbrev lX61_0 (all:List l52Cut):Lp Int Bool:=LpX (F61_s0 all) (lN61_0 all)
abbrev lJ61_0 (all:List l52Cut) (i:Nat×Int):Prop:=LpJ (F61_s0 all) (lN61_0 all) i (lI61_0 all i.1 i.2)
abbrev lH61_0 (all:List l52Cut) (i:Nat×Int) (m39:Nat) (i40:Int):Prop:=LpH (F61_s0 all) (lN61_0 all) i m39 i40 (lI61_0 all (m39+1) i40)
abbrev lE61_0 (all:List l52Cut) (i40:Int) (i40_:Int) (K39:Prop):Prop:=((.int .i64 i40:Value)=.int .i64 i40_)/\(Im (.l 1 el52Cut all))/\K39
theorem un61_0 (all:List l52Cut) (i:Nat×Int) (h:lJ61_0 all i):lH61_0 all i (i.1-1) i.2:=⟨hd1 h.1 h.2.1,hd3 h.2.1,hd2 h.2.1,h.2.2⟩
theorem bk61_0 (all:List l52Cut) (i:Nat×Int) (m39:Nat) (i40:Int) (hl:m39<i.1) (e:runL (F61_s0 all) m39 i40=lX61_0 all) (h:lI61_0 all m39 i40):∃ j:Nat×Int,lE61_0 all i40 j.2 (lJ61_0 all j/\j.1<i.1):=⟨(m39,i40),rfl,Imp.refl _,⟨e,h⟩,hl⟩
theorem en61_0 (all:List l52Cut) (h:(0:Int)<=0):lE61_0 all 0 0 (lJ61_0 all (lN61_0 all)):=⟨rfl,Imp.refl _,rfl,Qr _,h⟩
def S61 (all:List l52Cut):Spec:=⟨[.r (.c (.l 1 el52Cut all))],.v (.bool (F61 all)),True⟩
abbrev q61_1 (all:List l52Cut) (i40:Int):=(all.getD (Int.toNat i40) default)
theorem ok61 (all:List l52Cut):(S61 all).ok Tryz.prog 61 :=
 fnG_ok mixed (fn:=Tryz.f61) (ct:=.seqk [(0,0)] .no (.seq (.seqk [(0,0)] .no (.blk (.loop (ι:=Nat×Int) (fun i=>(fun (i40:Int)=>(⟨[(0,some (.h 0 0)),(3,some (.v (vI i40)))],[(0,some (.shr none (.l 1 el52Cut all)))],1⟩:St)) i.2) (lJ61_0 all) (fun i=>i.1) (lN61_0 all) (fun i=>(fun (i40:Int)=>(.seq (.seq .no (.cond .no .no)) (.seq (.blk (.seq (.seq (.reg [(4,kh117 (q61_1 all i40) 0),(11,kh117 (q61_1 all i40) 4),(20,kh117 (q61_1 all i40) 4),(21,kh118 all (F117 (q61_1 all i40) 4))]) (.cond (.seq .no .no) .no)) (.seq (.reg [(4,kh117 (q61_1 all i40) 0),(12,kh117 (q61_1 all i40) 1),(13,kh118 all (F117 (q61_1 all i40) 1))]) (.cond (.seq .no .no) .no)))) (.reg [(1,.bnd)])))) i.2)))) (.seq .no .no))) Tryz.func61 (fun (_:True)=>kn all fun _=>kn all fun _=>ai (en61_0 all uu0) (fun (i0:Nat×Int) (hi0:lJ61_0 all i0)=>(fun (m0:Nat) (i40:Int) (hh0:lH61_0 all i0 m0 i40)=>have hI0:=hh0.1; have hl0:=hh0.2.1; have _:=hh0.2.2.1; have _:=hh0.2.2.2; ifd (i40<(all.length:Int)) (fun h2 _=>ai (uu0:ib i40 all) (kc117 (q61_1 all i40) 0 uu0 (ai (fun k3:((F117 (q61_1 all i40) 0).toList==Ze.toList)=true=>(uu0:ib i40 all)) (kg117 ((F117 (q61_1 all i40) 0).toList==Ze.toList) true (q61_1 all i40) 4 (fun k4=>uu0) (ai (fun k5:(bif ((F117 (q61_1 all i40) 0).toList==Ze.toList) then (!((F117 (q61_1 all i40) 4).toList==Zf.toList)) else false)=true=>have _:((F117 (q61_1 all i40) 0).toList==Ze.toList)=true:=(andT1 k5); have _:(!((F117 (q61_1 all i40) 4).toList==Zf.toList))=true:=(andT2 k5); (uu0:ib i40 all)) (kg117 (bif ((F117 (q61_1 all i40) 0).toList==Ze.toList) then (!((F117 (q61_1 all i40) 4).toList==Zf.toList)) else false) true (q61_1 all i40) 4 (fun k6=>have _:((F117 (q61_1 all i40) 0).toList==Ze.toList)=true:=(andT1 k6); have _:(!((F117 (q61_1 all i40) 4).toList==Zf.toList))=true:=(andT2 k6); uu0) (kg118 (bif ((F117 (q61_1 all i40) 0).toList==Ze.toList) then (!((F117 (q61_1 all i40) 4).toList==Zf.toList)) else false) true all (F117 (q61_1 all i40) 4) (ifb (bif (bif ((F117 (q61_1 all i40) 0).toList==Ze.toList) then (!((F117 (q61_1 all i40) 4).toList==Zf.toList)) else false) then ((F118 all (F117 (q61_1 all i40) 4))==0) else false) (fun h8=>have _:((F117 (q61_1 all i40) 0).toList==Ze.toList)=true:=(andT1 (andT1 h8)); have _:(!((F117 (q61_1 all i40) 4).toList==Zf.toList))=true:=(andT2 (andT1 h8)); have _:=eq_of_beq (andT2 h8); fiB false (F61 all) (finR (runL_ret hI0 (condT h2 (condT h8 rfl))) rfl)) (fun h8=>ai (uu0:ib i40 all) (kc117 (q61_1 all i40) 0 uu0 (ai (fun k9:((F117 (q61_1 all i40) 0).toList==Zg.toList)=true=>(uu0:ib i40 all)) (kg117 ((F117 (q61_1 all i40) 0).toList==Zg.toList) true (q61_1 all i40) 1 (fun k10=>uu0) (kg118 ((F117 (q61_1 all i40) 0).toList==Zg.toList) true all (F117 (q61_1 all i40) 1) (ifb (bif ((F117 (q61_1 all i40) 0).toList==Zg.toList) then decide ((F118 all (F117 (q61_1 all i40) 1))>12) else false) (fun h12=>have _:((F117 (q61_1 all i40) 0).toList==Zg.toList)=true:=(andT1 h12); have _:=Qd (andT2 h12); fiB false (F61 all) (finR (runL_ret hI0 (condT h2 (condF h8 (condT h12 rfl)))) rfl)) (fun h12=>ai (iok (i40+1) uu0) (bk61_0 all i0 m0 (i40+1) hl0 (runL_next hI0 (condT h2 (condF h8 (condF h12 rfl)))) uu6)))))))))))))))) (fun h2 _=>have hD0_13:lX61_0 all=Lp.done i40:=runL_done hI0 (condF h2 rfl); fiB true (F61 all) (finD hD0_13 rfl))) (i0.1-1) i0.2 (un61_0 all i0 hi0))) uu3
def F62_s1 (all:List l52Cut) (i40:Int):Int->Lp Int Bool:=fun k =>
 bif (decide (k<i40)) then (bif (bif (!((F117 (all.getD (Int.toNat i40) default) 0).toList==Ze.toList)) then true else (!((F117 (all.getD (Int.toNat k) default) 0).toList==Ze.toList))) then (.next (k+1)) else (bif (bif decide ((F119 (F117 (all.getD (Int.toNat i40) default) 2)).1<(IntKind.i64.wrap ((F119 (F117 (all.getD (Int.toNat k) default) 2)).1+(F119 (F117 (all.getD (Int.toNat k) default) 2)).2))) then decide ((F119 (F117 (all.getD (Int.toNat k) default) 2)).1<(IntKind.i64.wrap ((F119 (F117 (all.getD (Int.toNat i40) default) 2)).1+(F119 (F117 (all.getD (Int.toNat i40) default) 2)).2))) else false) then (.ret false) else (.next (k+1)))) else (.done k)
def F62_s0 (all:List l52Cut):Int->Lp Int Bool:=fun i40 =>
 bif (decide (i40<(all.length:Int))) then ((runL (F62_s1 all i40) ((Int.toNat (i40-0))+1) 0).fin Lp.ret (fun k=>.next (i40+1))) else (.done i40)
def F62 (all:List l52Cut):Bool :=
 (runL (F62_s0 all) ((Int.toNat ((all.length:Int)-0))+1) 0).fin (fun r=>r) (fun i40=>true)
abbrev lN62_1 (i40:Int):Nat×Int:=(((Int.toNat (i40-0))+1),0)
abbrev lI62_1 (i40:Int) (m39:Nat) (k:Int):Prop:=Int.toNat (i40-k)<m39/\(0:Int)<=k
abbrev lX62_1 (all:List l52Cut) (i40:Int):Lp Int Bool:=LpX (F62_s1 all i40) (lN62_1 i40)
abbrev lJ62_1 (all:List l52Cut) (i40:Int) (i:Nat×Int):Prop:=LpJ (F62_s1 all i40) (lN62_1 i40) i (lI62_1 i40 i.1 i.2)
abbrev lH62_1 (all:List l52Cut) (i40:Int) (i:Nat×Int) (m39:Nat) (k:Int):Prop:=LpH (F62_s1 all i40) (lN62_1 i40) i m39 k (lI62_1 i40 (m39+1) k)
abbrev lE62_1 (all:List l52Cut) (i40:Int) (k:Int) (k_:Int) (K39:Prop):Prop:=(Rf (.int .i64 i40))/\((.int .i64 k:Value)=.int .i64 k_)/\(Im (.l 1 el52Cut all))/\K39
theorem un62_1 (all:List l52Cut) (i40:Int) (i:Nat×Int) (h:lJ62_1 all i40 i):lH62_1 all i40 i (i.1-1) i.2:=⟨hd1 h.1 h.2.1,hd3 h.2.1,hd2 h.2.1,h.2.2⟩
theorem bk62_1 (all:List l52Cut) (i40:Int) (i:Nat×Int) (m39:Nat) (k:Int) (hl:m39<i.1) (e:runL (F62_s1 all i40) m39 k=lX62_1 all i40) (h:lI62_1 i40 m39 k):∃ j:Nat×Int,lE62_1 all i40 k j.2 (lJ62_1 all i40 j/\j.1<i.1):=⟨(m39,k),rfl,rfl,Imp.refl _,⟨e,h⟩,hl⟩
theorem en62_1 (all:List l52Cut) (i40:Int) (h:(0:Int)<=0):lE62_1 all i40 0 0 (lJ62_1 all i40 (lN62_1 i40)):=⟨rfl,rfl,Imp.refl _,rfl,Qr _,h⟩
abbrev lN62_0 (all:List l52Cut):Nat×Int:=(((Int.toNat ((all.length:Int)-0))+1),0)
abbrev lI62_0 (all:List l52Cut) (m39:Nat) (i40:Int):Prop:=Int.toNat ((all.length:Int)-i40)<m39/\(0:Int)<=i40
abbrev lX62_0 (all:List l52Cut):Lp Int Bool:=LpX (F62_s0 all) (lN62_0 all)
abbrev lJ62_0 (all:List l52Cut) (i:Nat×Int):Prop:=LpJ (F62_s0 all) (lN62_0 all) i (lI62_0 all i.1 i.2)
abbrev lH62_0 (all:List l52Cut) (i:Nat×Int) (m39:Nat) (i40:Int):Prop:=LpH (F62_s0 all) (lN62_0 all) i m39 i40 (lI62_0 all (m39+1) i40)
abbrev lE62_0 (all:List l52Cut) (i40:Int) (i40_:Int) (K39:Prop):Prop:=((.int .i64 i40:Value)=.int .i64 i40_)/\(Im (.l 1 el52Cut all))/\K39
theorem un62_0 (all:List l52Cut) (i:Nat×Int) (h:lJ62_0 all i):lH62_0 all i (i.1-1) i.2:=⟨hd1 h.1 h.2.1,hd3 h.2.1,hd2 h.2.1,h.2.2⟩
theorem bk62_0 (all:List l52Cut) (i:Nat×Int) (m39:Nat) (i40:Int) (hl:m39<i.1) (e:runL (F62_s0 all) m39 i40=lX62_0 all) (h:lI62_0 all m39 i40):∃ j:Nat×Int,lE62_0 all i40 j.2 (lJ62_0 all j/\j.1<i.1):=⟨(m39,i40),rfl,Imp.refl _,⟨e,h⟩,hl⟩
theorem en62_0 (all:List l52Cut) (h:(0:Int)<=0):lE62_0 all 0 0 (lJ62_0 all (lN62_0 all)):=⟨rfl,Imp.refl _,rfl,Qr _,h⟩
def S62 (all:List l52Cut):Spec:=⟨[.r (.c (.l 1 el52Cut all))],.v (.bool (F62 all)),(∀ k j:Nat,((all.getD k default).w.getD j default).size<=1048576)⟩
abbrev q62_1 (all:List l52Cut) (i40:Int):=(all.getD (Int.toNat i40) default)
abbrev q62_2 (all:List l52Cut) (k:Int):=(all.getD (Int.toNat k) default)
theorem ok62 (all:List l52Cut):(S62 all).ok Tryz.prog 62 :=
 fnG_ok mixed (fn:=Tryz.f62) (ct:=.seqk [(0,0)] .no (.seq (.seqk [(0,0)] .no (.blk (.loop (ι:=Nat×Int) (fun i=>(fun (i40:Int)=>(⟨[(0,some (.h 0 0)),(3,some (.v (vI i40)))],[(0,some (.shr none (.l 1 el52Cut all)))],1⟩:St)) i.2) (lJ62_0 all) (fun i=>i.1) (lN62_0 all) (fun i=>(fun (i40:Int)=>(.seq (.seq .no (.cond .no .no)) (.seq (.blk (.seqk [(0,0)] .no (.blk (.loop (ι:=Nat×Int) (fun i=>(fun (k:Int)=>(⟨[(0,some (.h 0 0)),(3,some (.v (vI i40))),(4,some (.v (vI k)))],[(0,some (.shr none (.l 1 el52Cut all)))],1⟩:St)) i.2) (lJ62_1 all i40) (fun i=>i.1) (lN62_1 i40) (fun i=>(fun (k:Int)=>(.seq (.seq .no (.cond .no .no)) (.seq (.blk (.seq (.seq (.reg [(4,kh117 (q62_1 all i40) 0),(11,kh117 (q62_2 all k) 0)]) (.cond .no .no)) (.seq (.reg [(4,kh117 (q62_1 all i40) 2),(5,kh119 (F117 (q62_1 all i40) 2))]) (.seq (.reg [(4,kh117 (q62_2 all k) 2),(5,kh119 (F117 (q62_2 all k) 2))]) (.seq .no (.cond (.seq .no .no) .no)))))) (.reg [(1,.bnd)])))) i.2))))) (.reg [(1,.bnd)])))) i.2)))) (.seq .no .no))) Tryz.func62 (fun (hpre0:∀ k j:Nat,((all.getD k default).w.getD j default).size<=1048576)=>kn all fun _=>kn all fun _=>ai (en62_0 all uu0) (fun (i0:Nat×Int) (hi0:lJ62_0 all i0)=>(fun (m0:Nat) (i40:Int) (hh0:lH62_0 all i0 m0 i40)=>have hI0:=hh0.1; have hl0:=hh0.2.1; have _:=hh0.2.2.1; have _:=hh0.2.2.2; ifd (i40<(all.length:Int)) (fun h2 _=>kn all fun _=>ai (en62_1 all i40 uu0) (fun (i1:Nat×Int) (hi1:lJ62_1 all i40 i1)=>(fun (m1:Nat) (k:Int) (hh1:lH62_1 all i40 i1 m1 k)=>have hI1:=hh1.1; have hl1:=hh1.2.1; have _:=hh1.2.2.1; have _:=hh1.2.2.2; ifd (k<i40) (fun h4 _=>ai (uu0:ib i40 all) (kc117 (q62_1 all i40) 0 uu0 (ai (fun k5:(!((F117 (q62_1 all i40) 0).toList==Ze.toList))=false=>(uu0:ib k all)) (kg117 (!((F117 (q62_1 all i40) 0).toList==Ze.toList)) false (q62_2 all k) 0 (fun k6=>uu0) (ifb (bif (!((F117 (q62_1 all i40) 0).toList==Ze.toList)) then true else (!((F117 (q62_2 all k) 0).toList==Ze.toList))) (fun h7=>ai (iok (k+1) uu0) (bk62_1 all i40 i1 m1 (k+1) hl1 (runL_next hI1 (condT h4 (condT h7 rfl))) uu6)) (fun h7=>have _:(!((F117 (q62_1 all i40) 0).toList==Ze.toList))=false:=(orF1 h7); have _:(!((F117 (q62_2 all k) 0).toList==Ze.toList))=false:=(orF2 h7); ai (uu0:ib i40 all) (kc117 (q62_1 all i40) 2 uu0 (kc119 (F117 (q62_1 all i40) 2) uu21 (ai (uu0:ib k all) (kc117 (q62_2 all k) 2 uu0 (kc119 (F117 (q62_2 all k) 2) uu21 (ifb (bif decide ((F119 (F117 (q62_1 all i40) 2)).1<(IntKind.i64.wrap ((F119 (F117 (q62_2 all k) 2)).1+(F119 (F117 (q62_2 all k) 2)).2))) then decide ((F119 (F117 (q62_2 all k) 2)).1<(IntKind.i64.wrap ((F119 (F117 (q62_1 all i40) 2)).1+(F119 (F117 (q62_1 all i40) 2)).2))) else false) (fun h8=>have _:=Qd (andT1 h8); have _:=Qd (andT2 h8); fiB false (F62 all) (finR (runL_ret hI0 (condT h2 (finR (runL_ret hI1 (condT h4 (condF h7 (condT h8 rfl)))) rfl))) rfl)) (fun h8=>ai (iok (k+1) uu0) (bk62_1 all i40 i1 m1 (k+1) hl1 (runL_next hI1 (condT h4 (condF h7 (condF h8 rfl)))) uu6)))))))))))))) (fun h4 _=>have hD1_9:lX62_1 all i40=Lp.done k:=runL_done hI1 (condF h4 rfl); ai (iok (i40+1) uu0) (bk62_0 all i0 m0 (i40+1) hl0 (runL_next hI0 (condT h2 (finD hD1_9 rfl))) uu6))) (i1.1-1) i1.2 (un62_1 all i40 i1 hi1))) (fun h2 _=>have hD0_10:lX62_0 all=Lp.done i40:=runL_done hI0 (condF h2 rfl); fiB true (F62 all) (finD hD0_10 rfl))) (i0.1-1) i0.2 (un62_0 all i0 hi0))) uu3
def F120_s0 (all:List l52Cut) (addr:Int):Int->Lp Int Bool:=fun i40 =>
 bif (decide (i40<(all.length:Int))) then (bif ((F117 (all.getD (Int.toNat i40) default) 0).toList==Ze.toList) then (bif (bif decide (addr>(F119 (F117 (all.getD (Int.toNat i40) default) 2)).1) then decide (addr<(IntKind.i64.wrap ((F119 (F117 (all.getD (Int.toNat i40) default) 2)).1+(F119 (F117 (all.getD (Int.toNat i40) default) 2)).2))) else false) then (.ret true) else (.next (i40+1))) else (.next (i40+1))) else (.done i40)
def F120 (all:List l52Cut) (addr:Int):Bool :=
 (runL (F120_s0 all addr) ((Int.toNat ((all.length:Int)-0))+1) 0).fin (fun r=>r) (fun i40=>false)
abbrev lN120_0 (all:List l52Cut):Nat×Int:=(((Int.toNat ((all.length:Int)-0))+1),0)
abbrev lI120_0 (all:List l52Cut) (m39:Nat) (i40:Int):Prop:=Int.toNat ((all.length:Int)-i40)<m39/\(0:Int)<=i40
abbrev lX120_0 (all:List l52Cut) (addr:Int):Lp Int Bool:=LpX (F120_s0 all addr) (lN120_0 all)
abbrev lJ120_0 (all:List l52Cut) (addr:Int) (i:Nat×Int):Prop:=LpJ (F120_s0 all addr) (lN120_0 all) i (lI120_0 all i.1 i.2)
abbrev lH120_0 (all:List l52Cut) (addr:Int) (i:Nat×Int) (m39:Nat) (i40:Int):Prop:=LpH (F120_s0 all addr) (lN120_0 all) i m39 i40 (lI120_0 all (m39+1) i40)
abbrev lE120_0 (all:List l52Cut) (addr:Int) (i40:Int) (i40_:Int) (K39:Prop):Prop:=(Rf (.int .i64 addr))/\((.int .i64 i40:Value)=.int .i64 i40_)/\(Im (.l 1 el52Cut all))/\K39
theorem un120_0 (all:List l52Cut) (addr:Int) (i:Nat×Int) (h:lJ120_0 all addr i):lH120_0 all addr i (i.1-1) i.2:=⟨hd1 h.1 h.2.1,hd3 h.2.1,hd2 h.2.1,h.2.2⟩
theorem bk120_0 (all:List l52Cut) (addr:Int) (i:Nat×Int) (m39:Nat) (i40:Int) (hl:m39<i.1) (e:runL (F120_s0 all addr) m39 i40=lX120_0 all addr) (h:lI120_0 all m39 i40):∃ j:Nat×Int,lE120_0 all addr i40 j.2 (lJ120_0 all addr j/\j.1<i.1):=⟨(m39,i40),rfl,rfl,Imp.refl _,⟨e,h⟩,hl⟩
theorem en120_0 (all:List l52Cut) (addr:Int) (h:(0:Int)<=0):lE120_0 all addr 0 0 (lJ120_0 all addr (lN120_0 all)):=⟨rfl,rfl,Imp.refl _,rfl,Qr _,h⟩
def S120 (all:List l52Cut) (addr:Int):Spec:=⟨[.r (.c (.l 1 el52Cut all)),.r (.c (.v (vI addr)))],.v (.bool (F120 all addr)),(∀ k j:Nat,((all.getD k default).w.getD j default).size<=1048576)⟩
theorem ok120 (all:List l52Cut) (addr:Int):(S120 all addr).ok Tryz.prog 120 :=
 fnG_ok mixed (fn:=Tryz.f120) (ct:=.seqk [(0,0)] .no (.seq (.seqk [(0,0)] .no (.blk (.loop (ι:=Nat×Int) (fun i=>(fun (i40:Int)=>(⟨[(0,some (.h 0 0)),(1,some (.v (vI addr))),(5,some (.v (vI i40)))],[(0,some (.shr none (.l 1 el52Cut all)))],1⟩:St)) i.2) (lJ120_0 all addr) (fun i=>i.1) (lN120_0 all) (fun i=>(fun (i40:Int)=>(.seq (.seq .no (.cond .no .no)) (.seq (.blk (.seq (.reg [(4,kh117 (all.getD (Int.toNat i40) default) 0)]) (.cond (.seq (.reg [(4,kh117 (all.getD (Int.toNat i40) default) 2),(5,kh119 (F117 (all.getD (Int.toNat i40) default) 2))]) (.seq .no (.cond (.seq .no .no) .no))) .no))) (.reg [(1,.bnd)])))) i.2)))) (.seq .no .no))) Tryz.func120 (fun (hpre0:∀ k j:Nat,((all.getD k default).w.getD j default).size<=1048576)=>kn all fun _=>kn all fun _=>ai (en120_0 all addr uu0) (fun (i0:Nat×Int) (hi0:lJ120_0 all addr i0)=>(fun (m0:Nat) (i40:Int) (hh0:lH120_0 all addr i0 m0 i40)=>have hI0:=hh0.1; have hl0:=hh0.2.1; have _:=hh0.2.2.1; have _:=hh0.2.2.2; ifd (i40<(all.length:Int)) (fun h2 _=>ai (uu0:ib i40 all) (kc117 (all.getD (Int.toNat i40) default) 0 uu0 (ifb ((F117 (all.getD (Int.toNat i40) default) 0).toList==Ze.toList) (fun h3=>ai (uu0:ib i40 all) (kc117 (all.getD (Int.toNat i40) default) 2 uu0 (kc119 (F117 (all.getD (Int.toNat i40) default) 2) uu21 (ifb (bif decide (addr>(F119 (F117 (all.getD (Int.toNat i40) default) 2)).1) then decide (addr<(IntKind.i64.wrap ((F119 (F117 (all.getD (Int.toNat i40) default) 2)).1+(F119 (F117 (all.getD (Int.toNat i40) default) 2)).2))) else false) (fun h4=>have _:=Qd (andT1 h4); have _:=Qd (andT2 h4); fiB true (F120 all addr) (finR (runL_ret hI0 (condT h2 (condT h3 (condT h4 rfl)))) rfl)) (fun h4=>ai (iok (i40+1) uu0) (bk120_0 all addr i0 m0 (i40+1) hl0 (runL_next hI0 (condT h2 (condT h3 (condF h4 rfl)))) uu6)))))) (fun h3=>ai (iok (i40+1) uu0) (bk120_0 all addr i0 m0 (i40+1) hl0 (runL_next hI0 (condT h2 (condF h3 rfl))) uu6))))) (fun h2 _=>have hD0_5:lX120_0 all addr=Lp.done i40:=runL_done hI0 (condF h2 rfl); fiB false (F120 all addr) (finD hD0_5 rfl))) (i0.1-1) i0.2 (un120_0 all addr i0 hi0))) uu3
theorem kc120 (all:List l52Cut) (addr:Int) {K_:Prop} (p0_:∀ k j:Nat,((all.getD k default).w.getD j default).size<=1048576) (k_:K_):(∀ k j:Nat,((all.getD k default).w.getD j default).size<=1048576)/\(Imp (.l 1 el52Cut all) (.l 1 el52Cut all))/\(Imp (.v (vI addr)) (.v (vI addr)))/\K_:=⟨p0_,Imp.refl _,Imp.refl _,k_⟩
abbrev kh120 (all:List l52Cut) (addr:Int):Hint true Tryz.prog:=.call 120 (S120 all addr) (ok120 all addr) none
def F63_s0 (all:List l52Cut):Int->Lp Int Bool:=fun i40 =>
 bif (decide (i40<(all.length:Int))) then (bif ((F117 (all.getD (Int.toNat i40) default) 0).toList==Zi.toList) then (bif (!(F120 all (F95 (F117 (all.getD (Int.toNat i40) default) 2)))) then (.ret false) else (.next (i40+1))) else (bif ((F117 (all.getD (Int.toNat i40) default) 0).toList==Zh.toList) then (bif (!(F120 all (F95 (F117 (all.getD (Int.toNat i40) default) 1)))) then (.ret false) else (.next (i40+1))) else (.next (i40+1)))) else (.done i40)
def F63 (all:List l52Cut):Bool :=
 (runL (F63_s0 all) ((Int.toNat ((all.length:Int)-0))+1) 0).fin (fun r=>r) (fun i40=>true)
abbrev lN63_0 (all:List l52Cut):Nat×Int:=(((Int.toNat ((all.length:Int)-0))+1),0)
abbrev lI63_0 (all:List l52Cut) (m39:Nat) (i40:Int):Prop:=Int.toNat ((all.length:Int)-i40)<m39/\(0:Int)<=i40
abbrev lX63_0 (all:List l52Cut):Lp Int Bool:=LpX (F63_s0 all) (lN63_0 all)
abbrev lJ63_0 (all:List l52Cut) (i:Nat×Int):Prop:=LpJ (F63_s0 all) (lN63_0 all) i (lI63_0 all i.1 i.2)
abbrev lH63_0 (all:List l52Cut) (i:Nat×Int) (m39:Nat) (i40:Int):Prop:=LpH (F63_s0 all) (lN63_0 all) i m39 i40 (lI63_0 all (m39+1) i40)
abbrev lE63_0 (all:List l52Cut) (i40:Int) (i40_:Int) (K39:Prop):Prop:=((.int .i64 i40:Value)=.int .i64 i40_)/\(Im (.l 1 el52Cut all))/\K39
theorem un63_0 (all:List l52Cut) (i:Nat×Int) (h:lJ63_0 all i):lH63_0 all i (i.1-1) i.2:=⟨hd1 h.1 h.2.1,hd3 h.2.1,hd2 h.2.1,h.2.2⟩
theorem bk63_0 (all:List l52Cut) (i:Nat×Int) (m39:Nat) (i40:Int) (hl:m39<i.1) (e:runL (F63_s0 all) m39 i40=lX63_0 all) (h:lI63_0 all m39 i40):∃ j:Nat×Int,lE63_0 all i40 j.2 (lJ63_0 all j/\j.1<i.1):=⟨(m39,i40),rfl,Imp.refl _,⟨e,h⟩,hl⟩
theorem en63_0 (all:List l52Cut) (h:(0:Int)<=0):lE63_0 all 0 0 (lJ63_0 all (lN63_0 all)):=⟨rfl,Imp.refl _,rfl,Qr _,h⟩
def S63 (all:List l52Cut):Spec:=⟨[.r (.c (.l 1 el52Cut all))],.v (.bool (F63 all)),(∀ k j:Nat,((all.getD k default).w.getD j default).size<=1048576)⟩
abbrev q63_1 (all:List l52Cut) (i40:Int):=(all.getD (Int.toNat i40) default)
theorem ok63 (all:List l52Cut):(S63 all).ok Tryz.prog 63 :=
 fnG_ok mixed (fn:=Tryz.f63) (ct:=.seqk [(0,0)] .no (.seq (.seqk [(0,0)] .no (.blk (.loop (ι:=Nat×Int) (fun i=>(fun (i40:Int)=>(⟨[(0,some (.h 0 0)),(3,some (.v (vI i40)))],[(0,some (.shr none (.l 1 el52Cut all)))],1⟩:St)) i.2) (lJ63_0 all) (fun i=>i.1) (lN63_0 all) (fun i=>(fun (i40:Int)=>(.seq (.seq .no (.cond .no .no)) (.seq (.blk (.seq (.reg [(4,kh117 (q63_1 all i40) 0)]) (.blk (.seq .no (.cond (.seq (.reg [(5,kh117 (q63_1 all i40) 2),(6,kh95 (F117 (q63_1 all i40) 2)),(7,kh120 all (F95 (F117 (q63_1 all i40) 2)))]) (.cond (.seq .no .no) .no)) (.seq .no (.cond (.seq (.reg [(5,kh117 (q63_1 all i40) 1),(6,kh95 (F117 (q63_1 all i40) 1)),(7,kh120 all (F95 (F117 (q63_1 all i40) 1)))]) (.cond (.seq .no .no) .no)) .no))))))) (.reg [(1,.bnd)])))) i.2)))) (.seq .no .no))) Tryz.func63 (fun (hpre0:∀ k j:Nat,((all.getD k default).w.getD j default).size<=1048576)=>kn all fun _=>kn all fun _=>ai (en63_0 all uu0) (fun (i0:Nat×Int) (hi0:lJ63_0 all i0)=>(fun (m0:Nat) (i40:Int) (hh0:lH63_0 all i0 m0 i40)=>have hI0:=hh0.1; have hl0:=hh0.2.1; have _:=hh0.2.2.1; have _:=hh0.2.2.2; ifd (i40<(all.length:Int)) (fun h2 _=>ai (uu0:ib i40 all) (kc117 (q63_1 all i40) 0 uu0 (ifb ((F117 (q63_1 all i40) 0).toList==Zi.toList) (fun h3=>ai (uu0:ib i40 all) (kc117 (q63_1 all i40) 2 uu0 (kc95 (F117 (q63_1 all i40) 2) uu21 (kc120 all (F95 (F117 (q63_1 all i40) 2)) uu9 (ifb (!(F120 all (F95 (F117 (q63_1 all i40) 2)))) (fun h4=>fiB false (F63 all) (finR (runL_ret hI0 (condT h2 (condT h3 (condT h4 rfl)))) rfl)) (fun h4=>ai (iok (i40+1) uu0) (bk63_0 all i0 m0 (i40+1) hl0 (runL_next hI0 (condT h2 (condT h3 (condF h4 rfl)))) uu6))))))) (fun h3=>ifb ((F117 (q63_1 all i40) 0).toList==Zh.toList) (fun h5=>ai (uu0:ib i40 all) (kc117 (q63_1 all i40) 1 uu0 (kc95 (F117 (q63_1 all i40) 1) uu21 (kc120 all (F95 (F117 (q63_1 all i40) 1)) uu9 (ifb (!(F120 all (F95 (F117 (q63_1 all i40) 1)))) (fun h6=>fiB false (F63 all) (finR (runL_ret hI0 (condT h2 (condF h3 (condT h5 (condT h6 rfl))))) rfl)) (fun h6=>ai (iok (i40+1) uu0) (bk63_0 all i0 m0 (i40+1) hl0 (runL_next hI0 (condT h2 (condF h3 (condT h5 (condF h6 rfl))))) uu6))))))) (fun h5=>ai (iok (i40+1) uu0) (bk63_0 all i0 m0 (i40+1) hl0 (runL_next hI0 (condT h2 (condF h3 (condF h5 rfl)))) uu6)))))) (fun h2 _=>have hD0_7:lX63_0 all=Lp.done i40:=runL_done hI0 (condF h2 rfl); fiB true (F63 all) (finD hD0_7 rfl))) (i0.1-1) i0.2 (un63_0 all i0 hi0))) uu3
def F121_s0 (all:List l52Cut):Int->Lp Int Int:=fun i40 =>
 bif (decide (i40<(all.length:Int))) then (bif ((F117 (all.getD (Int.toNat i40) default) 0).toList==Zc.toList) then (.ret i40) else (.next (i40+1))) else (.done i40)
def F121 (all:List l52Cut):Int :=
 (runL (F121_s0 all) ((Int.toNat ((all.length:Int)-0))+1) 0).fin (fun r=>r) (fun i40=>(-1))
abbrev lN121_0 (all:List l52Cut):Nat×Int:=(((Int.toNat ((all.length:Int)-0))+1),0)
abbrev lI121_0 (all:List l52Cut) (m39:Nat) (i40:Int):Prop:=Int.toNat ((all.length:Int)-i40)<m39/\(0:Int)<=i40
abbrev lX121_0 (all:List l52Cut):Lp Int Int:=LpX (F121_s0 all) (lN121_0 all)
abbrev lJ121_0 (all:List l52Cut) (i:Nat×Int):Prop:=LpJ (F121_s0 all) (lN121_0 all) i (lI121_0 all i.1 i.2)
abbrev lH121_0 (all:List l52Cut) (i:Nat×Int) (m39:Nat) (i40:Int):Prop:=LpH (F121_s0 all) (lN121_0 all) i m39 i40 (lI121_0 all (m39+1) i40)
abbrev lE121_0 (all:List l52Cut) (i40:Int) (i40_:Int) (K39:Prop):Prop:=((.int .i64 i40:Value)=.int .i64 i40_)/\(Im (.l 1 el52Cut all))/\K39
theorem un121_0 (all:List l52Cut) (i:Nat×Int) (h:lJ121_0 all i):lH121_0 all i (i.1-1) i.2:=⟨hd1 h.1 h.2.1,hd3 h.2.1,hd2 h.2.1,h.2.2⟩
theorem bk121_0 (all:List l52Cut) (i:Nat×Int) (m39:Nat) (i40:Int) (hl:m39<i.1) (e:runL (F121_s0 all) m39 i40=lX121_0 all) (h:lI121_0 all m39 i40):∃ j:Nat×Int,lE121_0 all i40 j.2 (lJ121_0 all j/\j.1<i.1):=⟨(m39,i40),rfl,Imp.refl _,⟨e,h⟩,hl⟩
theorem en121_0 (all:List l52Cut) (h:(0:Int)<=0):lE121_0 all 0 0 (lJ121_0 all (lN121_0 all)):=⟨rfl,Imp.refl _,rfl,Qr _,h⟩
def S121 (R:Int) (all:List l52Cut):Spec:=⟨[.r (.c (.l 1 el52Cut all))],.v (vI R),True⟩
theorem ok121 (all:List l52Cut):(S121 (F121 all) all).ok Tryz.prog 121 :=
 fnG_ok mixed (fn:=Tryz.f121) (ct:=.seqk [(0,0)] .no (.seq (.seqk [(0,0)] .no (.blk (.loop (ι:=Nat×Int) (fun i=>(fun (i40:Int)=>(⟨[(0,some (.h 0 0)),(3,some (.v (vI i40)))],[(0,some (.shr none (.l 1 el52Cut all)))],1⟩:St)) i.2) (lJ121_0 all) (fun i=>i.1) (lN121_0 all) (fun i=>(fun (i40:Int)=>(.seq (.seq .no (.cond .no .no)) (.seq (.blk (.seq (.reg [(4,kh117 (all.getD (Int.toNat i40) default) 0)]) (.cond (.seq .no .no) .no))) (.reg [(1,.bnd)])))) i.2)))) (.seq .no .no))) Tryz.func121 (fun (_:True)=>kn all fun _=>kn all fun _=>ai (en121_0 all uu0) (fun (i0:Nat×Int) (hi0:lJ121_0 all i0)=>(fun (m0:Nat) (i40:Int) (hh0:lH121_0 all i0 m0 i40)=>have hI0:=hh0.1; have hl0:=hh0.2.1; have _:=hh0.2.2.1; have _:=hh0.2.2.2; ifd (i40<(all.length:Int)) (fun h2 _=>ai (uu0:ib i40 all) (kc117 (all.getD (Int.toNat i40) default) 0 uu0 (ifb ((F117 (all.getD (Int.toNat i40) default) 0).toList==Zc.toList) (fun h3=>fiI i40 (F121 all) (finR (runL_ret hI0 (condT h2 (condT h3 rfl))) rfl)) (fun h3=>ai (iok (i40+1) uu0) (bk121_0 all i0 m0 (i40+1) hl0 (runL_next hI0 (condT h2 (condF h3 rfl))) uu6))))) (fun h2 _=>have hD0_4:lX121_0 all=Lp.done i40:=runL_done hI0 (condF h2 rfl); fiI (-1) (F121 all) (finD hD0_4 rfl))) (i0.1-1) i0.2 (un121_0 all i0 hi0))) uu3
theorem as121 (all:List l52Cut):F121 all=(idxI (fun c=>((F117 c 0).toList==Zc.toList)) all):=by
 exact idx_loop (fun c=>((F117 c 0).toList==Zc.toList)) all (F121_s0 all) (fun i=>rfl)
theorem oa121 (all:List l52Cut):(S121 (idxI (fun c=>((F117 c 0).toList==Zc.toList)) all) all).ok Tryz.prog 121:=by
 intro hp; have h:=ok121 all hp; rw [as121 all] at h; exact h
theorem g121_0 (all:List l52Cut):(idxI (fun c=>((F117 c 0).toList==Zc.toList)) all)<(all.length:Int):=by
 exact idxI_lt _ all
theorem kg123 {K_:Prop} (c_ b_:Bool) (s:Za) (p_:c_=b_->s.size<=1048576) (k_:K_):(c_=b_->s.size<=1048576)/\(c_=b_->Imp (.v (.string s)) (.v (.string s)))/\K_:=⟨p_,fun _=>Imp.refl _,k_⟩
def F122_s0 (all:List l52Cut) (at':Int) (nat:l52Cut):Int->Lp Int Bool:=fun i40 =>
 bif (decide (i40<at')) then (bif (bif (bif (bif ((F117 (all.getD (Int.toNat i40) default) 0).toList==Zb.toList) then ((F117 (all.getD (Int.toNat i40) default) 1).toList==(F117 (all.getD (Int.toNat at') default) 1).toList) else false) then ((F117 (all.getD (Int.toNat i40) default) 3).toList==(F117 (all.getD (Int.toNat at') default) 3).toList) else false) then ((F117 (all.getD (Int.toNat i40) default) 4).toList==(F117 (all.getD (Int.toNat at') default) 4).toList) else false) then (.ret false) else (.next (i40+1))) else (.done i40)
def F122 (all:List l52Cut) (at':Int) (nat:l52Cut):Bool :=
 bif (bif (bif decide ((F95 (F117 (all.getD (Int.toNat at') default) 3))<(F119 (F117 nat 1)).1) then true else decide ((F95 (F117 (all.getD (Int.toNat at') default) 3))>=(IntKind.i64.wrap ((F119 (F117 nat 1)).1+(F119 (F117 nat 1)).2)))) then true else (decide ((F123 (F117 nat 3))<=F123 (F117 (all.getD (Int.toNat at') default) 2)/\F123 (F117 (all.getD (Int.toNat at') default) 2)<=(F123 (F117 nat 4))))) then false else ((runL (F122_s0 all at' nat) ((Int.toNat (at'-0))+1) 0).fin (fun r=>r) (fun i40=>true))
abbrev lN122_0 (at':Int):Nat×Int:=(((Int.toNat (at'-0))+1),0)
abbrev lI122_0 (at':Int) (m39:Nat) (i40:Int):Prop:=Int.toNat (at'-i40)<m39/\(0:Int)<=i40
abbrev lX122_0 (all:List l52Cut) (at':Int) (nat:l52Cut):Lp Int Bool:=LpX (F122_s0 all at' nat) (lN122_0 at')
abbrev lJ122_0 (all:List l52Cut) (at':Int) (nat:l52Cut) (i:Nat×Int):Prop:=LpJ (F122_s0 all at' nat) (lN122_0 at') i (lI122_0 at' i.1 i.2)
abbrev lH122_0 (all:List l52Cut) (at':Int) (nat:l52Cut) (i:Nat×Int) (m39:Nat) (i40:Int):Prop:=LpH (F122_s0 all at' nat) (lN122_0 at') i m39 i40 (lI122_0 at' (m39+1) i40)
abbrev lE122_0 (all:List l52Cut) (at':Int) (i40:Int) (i40_:Int) (K39:Prop):Prop:=(Rf (.int .i64 at'))/\((.int .i64 i40:Value)=.int .i64 i40_)/\(Im (.l 1 el52Cut all))/\(Ims (el52Cut (all.getD (Int.toNat at') default)))/\K39
theorem un122_0 (all:List l52Cut) (at':Int) (nat:l52Cut) (i:Nat×Int) (h:lJ122_0 all at' nat i):lH122_0 all at' nat i (i.1-1) i.2:=⟨hd1 h.1 h.2.1,hd3 h.2.1,hd2 h.2.1,h.2.2⟩
theorem bk122_0 (all:List l52Cut) (at':Int) (nat:l52Cut) (i:Nat×Int) (m39:Nat) (i40:Int) (hl:m39<i.1) (e:runL (F122_s0 all at' nat) m39 i40=lX122_0 all at' nat) (h:lI122_0 at' m39 i40):∃ j:Nat×Int,lE122_0 all at' i40 j.2 (lJ122_0 all at' nat j/\j.1<i.1):=⟨(m39,i40),rfl,rfl,Imp.refl _,Imps.refl _,⟨e,h⟩,hl⟩
theorem en122_0 (all:List l52Cut) (at':Int) (nat:l52Cut) (h:(0:Int)<=0):lE122_0 all at' 0 0 (lJ122_0 all at' nat (lN122_0 at')):=⟨rfl,rfl,Imp.refl _,Imps.refl _,rfl,Qr _,h⟩
def S122 (all:List l52Cut) (at':Int) (nat:l52Cut):Spec:=⟨[.r (.c (.l 1 el52Cut all)),.r (.c (.v (vI at'))),.r (.g (el52Cut nat))],.v (.bool (F122 all at' nat)),0<=at'/\at'<(all.length:Int)/\(∀ j:Nat,(nat.w.getD j default).size<=1048576)/\(∀ k j:Nat,((all.getD k default).w.getD j default).size<=1048576)⟩
abbrev q122_1 (all:List l52Cut) (at':Int):=(all.getD (Int.toNat at') default)
abbrev q122_2 (all:List l52Cut) (i40:Int):=(all.getD (Int.toNat i40) default)
abbrev q122_3 (all:List l52Cut) (at':Int):=(F95 (F117 (q122_1 all at') 3))
theorem ok122 (all:List l52Cut) (at':Int) (nat:l52Cut):(S122 all at' nat).ok Tryz.prog 122 :=
 fnG_ok mixed (fn:=Tryz.f122) (ct:=.seqk [(0,0)] .no (.seq .no (.seq (.reg [(1,kh117 nat 1),(2,kh119 (F117 nat 1))]) (.seq (.reg [(1,kh117 (q122_1 all at') 3),(2,kh95 (F117 (q122_1 all at') 3))]) (.seq (.seq (.reg [(12,kh117 (q122_1 all at') 2),(14,kh117 nat 3),(15,kh123 (F117 nat 3)),(17,kh117 nat 4),(18,kh123 (F117 nat 4)),(19,kh93a (F117 (q122_1 all at') 2) (F123 (F117 nat 3)) (F123 (F117 nat 4)))]) (.cond (.seq .no .no) .no)) (.seq (.seqk [(0,0),(7,0)] .no (.blk (.loop (ι:=Nat×Int) (fun i=>(fun (i40:Int)=>(⟨[(0,some (.h 0 0)),(1,some (.v (vI at'))),(7,some (.p 1 0)),(11,some (.v (vI i40)))],[(0,some (.shr none (.l 1 el52Cut all))),(1,some (.box 117 [.h 2 1])),(2,some (.mem none none (el52Cut (q122_1 all at'))))],3⟩:St)) i.2) (lJ122_0 all at' nat) (fun i=>i.1) (lN122_0 at') (fun i=>(fun (i40:Int)=>(.seq (.seq .no (.cond .no .no)) (.seq (.blk (.seq (.reg [(4,kh117 (q122_2 all i40) 0),(11,kh117 (q122_2 all i40) 1),(13,kh117 (q122_1 all at') 1),(21,kh117 (q122_2 all i40) 3),(23,kh117 (q122_1 all at') 3),(31,kh117 (q122_2 all i40) 4),(33,kh117 (q122_1 all at') 4)]) (.cond (.seq .no .no) .no))) (.reg [(1,.bnd)])))) i.2)))) (.seq .no .no))))))) Tryz.func122 (fun (hp:0<=at'/\at'<(all.length:Int)/\(∀ j:Nat,(nat.w.getD j default).size<=1048576)/\(∀ k j:Nat,((all.getD k default).w.getD j default).size<=1048576))=>have hpre0:=hp.1; have hpre1:=hp.2.1; have hpre2:=hp.2.2.1; have hpre3:=hp.2.2.2; kn all fun _=>ai (uu0:ib at' all) (kc117 nat 1 uu0 (kc119 (F117 nat 1) (by exact at_sz1 (by assumption) _) (kc117 (q122_1 all at') 3 uu0 (kc95 (F117 (q122_1 all at') 3) uu21 (kg117 (bif decide ((q122_3 all at')<(F119 (F117 nat 1)).1) then true else decide ((q122_3 all at')>=(IntKind.i64.wrap ((F119 (F117 nat 1)).1+(F119 (F117 nat 1)).2)))) false (q122_1 all at') 2 (fun k1=>have _:=Qv (orF1 k1); have _:=Qv (orF2 k1); uu0) (kg117 (bif decide ((q122_3 all at')<(F119 (F117 nat 1)).1) then true else decide ((q122_3 all at')>=(IntKind.i64.wrap ((F119 (F117 nat 1)).1+(F119 (F117 nat 1)).2)))) false nat 3 (fun k2=>have _:=Qv (orF1 k2); have _:=Qv (orF2 k2); uu0) (kg123 (bif decide ((q122_3 all at')<(F119 (F117 nat 1)).1) then true else decide ((q122_3 all at')>=(IntKind.i64.wrap ((F119 (F117 nat 1)).1+(F119 (F117 nat 1)).2)))) false (F117 nat 3) (fun k3=>have _:=Qv (orF1 k3); have _:=Qv (orF2 k3); (by exact at_sz1 (by assumption) _)) (kg117 (bif decide ((q122_3 all at')<(F119 (F117 nat 1)).1) then true else decide ((q122_3 all at')>=(IntKind.i64.wrap ((F119 (F117 nat 1)).1+(F119 (F117 nat 1)).2)))) false nat 4 (fun k4=>have _:=Qv (orF1 k4); have _:=Qv (orF2 k4); uu0) (kg123 (bif decide ((q122_3 all at')<(F119 (F117 nat 1)).1) then true else decide ((q122_3 all at')>=(IntKind.i64.wrap ((F119 (F117 nat 1)).1+(F119 (F117 nat 1)).2)))) false (F117 nat 4) (fun k5=>have _:=Qv (orF1 k5); have _:=Qv (orF2 k5); (by exact at_sz1 (by assumption) _)) (kg93a (bif decide ((q122_3 all at')<(F119 (F117 nat 1)).1) then true else decide ((q122_3 all at')>=(IntKind.i64.wrap ((F119 (F117 nat 1)).1+(F119 (F117 nat 1)).2)))) false (F117 (q122_1 all at') 2) (F123 (F117 nat 3)) (F123 (F117 nat 4)) (fun k6=>have _:=Qv (orF1 k6); have _:=Qv (orF2 k6); uu21) (ifb (bif (bif decide ((q122_3 all at')<(F119 (F117 nat 1)).1) then true else decide ((q122_3 all at')>=(IntKind.i64.wrap ((F119 (F117 nat 1)).1+(F119 (F117 nat 1)).2)))) then true else (decide ((F123 (F117 nat 3))<=F123 (F117 (q122_1 all at') 2)/\F123 (F117 (q122_1 all at') 2)<=(F123 (F117 nat 4))))) (fun h7=>fiB false (F122 all at' nat) (condT h7 rfl)) (fun h7=>have _:=Qv (orF1 (orF1 h7)); have _:=Qv (orF2 (orF1 h7)); have _:=Qv (orF2 h7); kn all fun _=>kn (q122_1 all at').w fun _=>ai (en122_0 all at' nat uu0) (fun (i0:Nat×Int) (hi0:lJ122_0 all at' nat i0)=>(fun (m0:Nat) (i40:Int) (hh0:lH122_0 all at' nat i0 m0 i40)=>have hI0:=hh0.1; have hl0:=hh0.2.1; have _:=hh0.2.2.1; have _:=hh0.2.2.2; ifd (i40<at') (fun h9 _=>ai (uu0:ib i40 all) (kc117 (q122_2 all i40) 0 uu0 (ai (fun k10:((F117 (q122_2 all i40) 0).toList==Zb.toList)=true=>(uu0:ib i40 all)) (kg117 ((F117 (q122_2 all i40) 0).toList==Zb.toList) true (q122_2 all i40) 1 (fun k11=>uu0) (kg117 ((F117 (q122_2 all i40) 0).toList==Zb.toList) true (q122_1 all at') 1 (fun k12=>uu0) (ai (fun k13:(bif ((F117 (q122_2 all i40) 0).toList==Zb.toList) then ((F117 (q122_2 all i40) 1).toList==(F117 (q122_1 all at') 1).toList) else false)=true=>have _:((F117 (q122_2 all i40) 0).toList==Zb.toList)=true:=(andT1 k13); have _:=(andT2 k13); (uu0:ib i40 all)) (kg117 (bif ((F117 (q122_2 all i40) 0).toList==Zb.toList) then ((F117 (q122_2 all i40) 1).toList==(F117 (q122_1 all at') 1).toList) else false) true (q122_2 all i40) 3 (fun k14=>have _:((F117 (q122_2 all i40) 0).toList==Zb.toList)=true:=(andT1 k14); have _:=(andT2 k14); uu0) (kg117 (bif ((F117 (q122_2 all i40) 0).toList==Zb.toList) then ((F117 (q122_2 all i40) 1).toList==(F117 (q122_1 all at') 1).toList) else false) true (q122_1 all at') 3 (fun k15=>have _:((F117 (q122_2 all i40) 0).toList==Zb.toList)=true:=(andT1 k15); have _:=(andT2 k15); uu0) (ai (fun k16:(bif (bif ((F117 (q122_2 all i40) 0).toList==Zb.toList) then ((F117 (q122_2 all i40) 1).toList==(F117 (q122_1 all at') 1).toList) else false) then ((F117 (q122_2 all i40) 3).toList==(F117 (q122_1 all at') 3).toList) else false)=true=>have _:((F117 (q122_2 all i40) 0).toList==Zb.toList)=true:=(andT1 (andT1 k16)); have _:=(andT2 (andT1 k16)); have _:=(andT2 k16); (uu0:ib i40 all)) (kg117 (bif (bif ((F117 (q122_2 all i40) 0).toList==Zb.toList) then ((F117 (q122_2 all i40) 1).toList==(F117 (q122_1 all at') 1).toList) else false) then ((F117 (q122_2 all i40) 3).toList==(F117 (q122_1 all at') 3).toList) else false) true (q122_2 all i40) 4 (fun k17=>have _:((F117 (q122_2 all i40) 0).toList==Zb.toList)=true:=(andT1 (andT1 k17)); have _:=(andT2 (andT1 k17)); have _:=(andT2 k17); uu0) (kg117 (bif (bif ((F117 (q122_2 all i40) 0).toList==Zb.toList) then ((F117 (q122_2 all i40) 1).toList==(F117 (q122_1 all at') 1).toList) else false) then ((F117 (q122_2 all i40) 3).toList==(F117 (q122_1 all at') 3).toList) else false) true (q122_1 all at') 4 (fun k18=>have _:((F117 (q122_2 all i40) 0).toList==Zb.toList)=true:=(andT1 (andT1 k18)); have _:=(andT2 (andT1 k18)); have _:=(andT2 k18); uu0) (ifb (bif (bif (bif ((F117 (q122_2 all i40) 0).toList==Zb.toList) then ((F117 (q122_2 all i40) 1).toList==(F117 (q122_1 all at') 1).toList) else false) then ((F117 (q122_2 all i40) 3).toList==(F117 (q122_1 all at') 3).toList) else false) then ((F117 (q122_2 all i40) 4).toList==(F117 (q122_1 all at') 4).toList) else false) (fun h19=>have _:((F117 (q122_2 all i40) 0).toList==Zb.toList)=true:=(andT1 (andT1 (andT1 h19))); have _:=(andT2 (andT1 (andT1 h19))); have _:=(andT2 (andT1 h19)); have _:=(andT2 h19); fiB false (F122 all at' nat) (condF h7 (finR (runL_ret hI0 (condT h9 (condT h19 rfl))) rfl))) (fun h19=>ai (iok (i40+1) uu0) (bk122_0 all at' nat i0 m0 (i40+1) hl0 (runL_next hI0 (condT h9 (condF h19 rfl))) uu6)))))))))))))) (fun h9 _=>have hD0_20:lX122_0 all at' nat=Lp.done i40:=runL_done hI0 (condF h9 rfl); fiB true (F122 all at' nat) (condF h7 (finD hD0_20 rfl)))) (i0.1-1) i0.2 (un122_0 all at' nat i0 hi0))))))))))))))) uu3
theorem kc121a (all:List l52Cut) {K_:Prop} (k_:((idxI (fun c=>((F117 c 0).toList==Zc.toList)) all)<(all.length:Int))->K_):(True)/\(Imp (.l 1 el52Cut all) (.l 1 el52Cut all))/\K_:=⟨trivial,Imp.refl _,k_ (g121_0 all)⟩
abbrev kh121a (all:List l52Cut):Hint true Tryz.prog:=.call 121 (S121 (idxI (fun c=>((F117 c 0).toList==Zc.toList)) all) all) (oa121 all) none
theorem kg122 {K_:Prop} (c_ b_:Bool) (all:List l52Cut) (at':Int) (nat:l52Cut) (p_:c_=b_->0<=at'/\at'<(all.length:Int)/\(∀ j:Nat,(nat.w.getD j default).size<=1048576)/\(∀ k j:Nat,((all.getD k default).w.getD j default).size<=1048576)) (k_:K_):(c_=b_->0<=at'/\at'<(all.length:Int)/\(∀ j:Nat,(nat.w.getD j default).size<=1048576)/\(∀ k j:Nat,((all.getD k default).w.getD j default).size<=1048576))/\(c_=b_->Imp (.l 1 el52Cut all) (.l 1 el52Cut all))/\(c_=b_->Imp (.v (vI at')) (.v (vI at')))/\(c_=b_->Imps (el52Cut nat) (el52Cut nat))/\K_:=⟨p_,fun _=>Imp.refl _,fun _=>Imp.refl _,fun _=>Imps.refl _,k_⟩
abbrev kh122 (all:List l52Cut) (at':Int) (nat:l52Cut):Hint true Tryz.prog:=.call 122 (S122 all at' nat) (ok122 all at' nat) none
def F64_s0 (all:List l52Cut):(Int×Int)->Lp (Int×Int) Bool:=fun (doors,i40) =>
 bif (decide (i40<(all.length:Int))) then (bif (!((F117 (all.getD (Int.toNat i40) default) 0).toList==Zb.toList)) then (.next (doors,(i40+1))) else (bif (bif decide ((idxI (fun c=>((F117 c 0).toList==Zc.toList)) all)<0) then true else (!(F122 all i40 (all.getD (Int.toNat (idxI (fun c=>((F117 c 0).toList==Zc.toList)) all)) default)))) then (.ret false) else (.next ((doors+1),(i40+1))))) else (.done (doors,i40))
def F64 (all:List l52Cut):Bool :=
 (runL (F64_s0 all) ((Int.toNat ((all.length:Int)-0))+1) (0,0)).fin (fun r=>r) (fun (doors,i40)=>bif (decide ((idxI (fun c=>((F117 c 0).toList==Zc.toList)) all)<0)) then true else (bif (bif decide (doors<=6) then (bif decide ((F95 (F117 (all.getD (Int.toNat (idxI (fun c=>((F117 c 0).toList==Zc.toList)) all)) default) 2))<(F119 (F117 (all.getD (Int.toNat (idxI (fun c=>((F117 c 0).toList==Zc.toList)) all)) default) 1)).1) then true else decide ((F95 (F117 (all.getD (Int.toNat (idxI (fun c=>((F117 c 0).toList==Zc.toList)) all)) default) 2))>=(IntKind.i64.wrap ((F119 (F117 (all.getD (Int.toNat (idxI (fun c=>((F117 c 0).toList==Zc.toList)) all)) default) 1)).1+(F119 (F117 (all.getD (Int.toNat (idxI (fun c=>((F117 c 0).toList==Zc.toList)) all)) default) 1)).2)))) else false) then decide ((F123 (F117 (all.getD (Int.toNat (idxI (fun c=>((F117 c 0).toList==Zc.toList)) all)) default) 3))<=(F123 (F117 (all.getD (Int.toNat (idxI (fun c=>((F117 c 0).toList==Zc.toList)) all)) default) 4))) else false))
abbrev lN64_0 (all:List l52Cut):Nat×(Int×Int):=(((Int.toNat ((all.length:Int)-0))+1),(0,0))
abbrev lI64_0 (all:List l52Cut) (m39:Nat) (doors:Int) (i40:Int):Prop:=Int.toNat ((all.length:Int)-i40)<m39/\(0:Int)<=doors/\(doors:Int)<=i40/\(0:Int)<=doors/\(0:Int)<=i40
abbrev lX64_0 (all:List l52Cut):Lp (Int×Int) Bool:=LpX (F64_s0 all) (lN64_0 all)
abbrev lJ64_0 (all:List l52Cut) (i:Nat×(Int×Int)):Prop:=LpJ (F64_s0 all) (lN64_0 all) i (lI64_0 all i.1 i.2.1 i.2.2)
abbrev lH64_0 (all:List l52Cut) (i:Nat×(Int×Int)) (m39:Nat) (doors:Int) (i40:Int):Prop:=LpH (F64_s0 all) (lN64_0 all) i m39 (doors,i40) (lI64_0 all (m39+1) doors i40)
abbrev lE64_0 (all:List l52Cut) (doors:Int) (i40:Int) (doors_:Int) (i40_:Int) (K39:Prop):Prop:=(Rf (.int .i64 (idxI (fun c=>((F117 c 0).toList==Zc.toList)) all)))/\((.int .i64 doors:Value)=.int .i64 doors_)/\((.int .i64 i40:Value)=.int .i64 i40_)/\(Im (.l 1 el52Cut all))/\K39
theorem un64_0 (all:List l52Cut) (i:Nat×(Int×Int)) (h:lJ64_0 all i):lH64_0 all i (i.1-1) i.2.1 i.2.2:=⟨hd1 h.1 h.2.1,hd3 h.2.1,hd2 h.2.1,h.2.2⟩
theorem bk64_0 (all:List l52Cut) (i:Nat×(Int×Int)) (m39:Nat) (doors:Int) (i40:Int) (hl:m39<i.1) (e:runL (F64_s0 all) m39 (doors,i40)=lX64_0 all) (h:lI64_0 all m39 doors i40):∃ j:Nat×(Int×Int),lE64_0 all doors i40 j.2.1 j.2.2 (lJ64_0 all j/\j.1<i.1):=⟨(m39,(doors,i40)),rfl,rfl,rfl,Imp.refl _,⟨e,h⟩,hl⟩
theorem en64_0 (all:List l52Cut) (h:(0:Int)<=0/\(0:Int)<=0/\(0:Int)<=0/\(0:Int)<=0):lE64_0 all 0 0 0 0 (lJ64_0 all (lN64_0 all)):=⟨rfl,rfl,rfl,Imp.refl _,rfl,Qr _,h⟩
def S64 (all:List l52Cut):Spec:=⟨[.r (.c (.l 1 el52Cut all))],.v (.bool (F64 all)),(∀ k j:Nat,((all.getD k default).w.getD j default).size<=1048576)⟩
theorem ok64 (all:List l52Cut):(S64 all).ok Tryz.prog 64 :=
 fnG_ok mixed (fn:=Tryz.f64) (ct:=.seqk [(0,0)] .no (.seq (.reg [(1,kh121a all)]) (.seq .no (.seq (.seqk [(0,0)] .no (.blk (.loop (ι:=Nat×(Int×Int)) (fun i=>(fun (doors:Int) (i40:Int)=>(⟨[(0,some (.h 0 0)),(3,some (.v (vI (idxI (fun c=>((F117 c 0).toList==Zc.toList)) all)))),(4,some (.v (vI doors))),(5,some (.v (vI i40)))],[(0,some (.shr none (.l 1 el52Cut all)))],1⟩:St)) i.2.1 i.2.2) (lJ64_0 all) (fun i=>i.1) (lN64_0 all) (fun i=>(fun (doors:Int) (i40:Int)=>(.seq (.seq .no (.cond .no .no)) (.seq (.blk (.seq (.seq (.reg [(4,kh117 (all.getD (Int.toNat i40) default) 0)]) (.cond .no .no)) (.seq (.reg [(1,.bnd)]) (.seq (.reg [(9,kh122 all i40 (all.getD (Int.toNat (idxI (fun c=>((F117 c 0).toList==Zc.toList)) all)) default))]) (.cond (.seq .no .no) .no))))) (.reg [(1,.bnd)])))) i.2.1 i.2.2)))) (.seq (.seq .no (.cond (.seq .no .no) .no)) (.seq (.reg [(4,kh117 (all.getD (Int.toNat (idxI (fun c=>((F117 c 0).toList==Zc.toList)) all)) default) 1),(5,kh119 (F117 (all.getD (Int.toNat (idxI (fun c=>((F117 c 0).toList==Zc.toList)) all)) default) 1))]) (.seq (.reg [(4,kh117 (all.getD (Int.toNat (idxI (fun c=>((F117 c 0).toList==Zc.toList)) all)) default) 2),(5,kh95 (F117 (all.getD (Int.toNat (idxI (fun c=>((F117 c 0).toList==Zc.toList)) all)) default) 2))]) (.seq (.reg [(19,kh117 (all.getD (Int.toNat (idxI (fun c=>((F117 c 0).toList==Zc.toList)) all)) default) 3),(20,kh123 (F117 (all.getD (Int.toNat (idxI (fun c=>((F117 c 0).toList==Zc.toList)) all)) default) 3)),(25,kh117 (all.getD (Int.toNat (idxI (fun c=>((F117 c 0).toList==Zc.toList)) all)) default) 4),(26,kh123 (F117 (all.getD (Int.toNat (idxI (fun c=>((F117 c 0).toList==Zc.toList)) all)) default) 4))]) .no)))))))) Tryz.func64 (fun (hpre0:∀ k j:Nat,((all.getD k default).w.getD j default).size<=1048576)=>kn all fun _=>kc121a all (fun gv1=>kn all fun _=>ai (en64_0 all uu39) (fun (i0:Nat×(Int×Int)) (hi0:lJ64_0 all i0)=>(fun (m0:Nat) (doors:Int) (i40:Int) (hh0:lH64_0 all i0 m0 doors i40)=>have hI0:=hh0.1; have hl0:=hh0.2.1; have _:=hh0.2.2.1; have _:=hh0.2.2.2; ifd (i40<(all.length:Int)) (fun h3 _=>ai (uu0:ib i40 all) (kc117 (all.getD (Int.toNat i40) default) 0 uu0 (ifb (!((F117 (all.getD (Int.toNat i40) default) 0).toList==Zb.toList)) (fun h4=>ai (iok (i40+1) uu0) (bk64_0 all i0 m0 doors (i40+1) hl0 (runL_next hI0 (condT h3 (condT h4 rfl))) uu27)) (fun h4=>ai (iok (doors+1) uu0) (ai (fun k5:(decide ((idxI (fun c=>((F117 c 0).toList==Zc.toList)) all)<0))=false=>have _:¬ (idxI (fun c=>((F117 c 0).toList==Zc.toList)) all)<0:=Qv k5; (uu0:ib (idxI (fun c=>((F117 c 0).toList==Zc.toList)) all) all)) (kg122 (decide ((idxI (fun c=>((F117 c 0).toList==Zc.toList)) all)<0)) false all i40 (all.getD (Int.toNat (idxI (fun c=>((F117 c 0).toList==Zc.toList)) all)) default) (fun k6=>have _:¬ (idxI (fun c=>((F117 c 0).toList==Zc.toList)) all)<0:=Qv k6; ⟨uu0,uu0,(by exact fun j=>(by assumption:∀ k j:Nat,((all.getD k default).w.getD j default).size<=1048576) _ j),uu0⟩) (ifb (bif decide ((idxI (fun c=>((F117 c 0).toList==Zc.toList)) all)<0) then true else (!(F122 all i40 (all.getD (Int.toNat (idxI (fun c=>((F117 c 0).toList==Zc.toList)) all)) default)))) (fun h7=>fiB false (F64 all) (finR (runL_ret hI0 (condT h3 (condF h4 (condT h7 rfl)))) rfl)) (fun h7=>have _:¬ (idxI (fun c=>((F117 c 0).toList==Zc.toList)) all)<0:=Qv (orF1 h7); ai (iok (i40+1) uu0) (bk64_0 all i0 m0 (doors+1) (i40+1) hl0 (runL_next hI0 (condT h3 (condF h4 (condF h7 rfl)))) uu27))))))))) (fun h3 _=>have hD0_8:lX64_0 all=Lp.done (doors,i40):=runL_done hI0 (condF h3 rfl); ifd ((idxI (fun c=>((F117 c 0).toList==Zc.toList)) all)<0) (fun h9 _=>fiB true (F64 all) (finD hD0_8 (condT h9 rfl))) (fun h9 _=>ai (uu0:ib (idxI (fun c=>((F117 c 0).toList==Zc.toList)) all) all) (kc117 (all.getD (Int.toNat (idxI (fun c=>((F117 c 0).toList==Zc.toList)) all)) default) 1 uu0 (kc119 (F117 (all.getD (Int.toNat (idxI (fun c=>((F117 c 0).toList==Zc.toList)) all)) default) 1) uu21 (ai (uu0:ib (idxI (fun c=>((F117 c 0).toList==Zc.toList)) all) all) (kc117 (all.getD (Int.toNat (idxI (fun c=>((F117 c 0).toList==Zc.toList)) all)) default) 2 uu0 (kc95 (F117 (all.getD (Int.toNat (idxI (fun c=>((F117 c 0).toList==Zc.toList)) all)) default) 2) uu21 (ai (fun k10:(bif decide (doors<=6) then (bif decide ((F95 (F117 (all.getD (Int.toNat (idxI (fun c=>((F117 c 0).toList==Zc.toList)) all)) default) 2))<(F119 (F117 (all.getD (Int.toNat (idxI (fun c=>((F117 c 0).toList==Zc.toList)) all)) default) 1)).1) then true else decide ((F95 (F117 (all.getD (Int.toNat (idxI (fun c=>((F117 c 0).toList==Zc.toList)) all)) default) 2))>=(IntKind.i64.wrap ((F119 (F117 (all.getD (Int.toNat (idxI (fun c=>((F117 c 0).toList==Zc.toList)) all)) default) 1)).1+(F119 (F117 (all.getD (Int.toNat (idxI (fun c=>((F117 c 0).toList==Zc.toList)) all)) default) 1)).2)))) else false)=true=>have _:=Qd (andT1 k10); (uu0:ib (idxI (fun c=>((F117 c 0).toList==Zc.toList)) all) all)) (kg117 (bif decide (doors<=6) then (bif decide ((F95 (F117 (all.getD (Int.toNat (idxI (fun c=>((F117 c 0).toList==Zc.toList)) all)) default) 2))<(F119 (F117 (all.getD (Int.toNat (idxI (fun c=>((F117 c 0).toList==Zc.toList)) all)) default) 1)).1) then true else decide ((F95 (F117 (all.getD (Int.toNat (idxI (fun c=>((F117 c 0).toList==Zc.toList)) all)) default) 2))>=(IntKind.i64.wrap ((F119 (F117 (all.getD (Int.toNat (idxI (fun c=>((F117 c 0).toList==Zc.toList)) all)) default) 1)).1+(F119 (F117 (all.getD (Int.toNat (idxI (fun c=>((F117 c 0).toList==Zc.toList)) all)) default) 1)).2)))) else false) true (all.getD (Int.toNat (idxI (fun c=>((F117 c 0).toList==Zc.toList)) all)) default) 3 (fun k11=>have _:=Qd (andT1 k11); uu0) (kg123 (bif decide (doors<=6) then (bif decide ((F95 (F117 (all.getD (Int.toNat (idxI (fun c=>((F117 c 0).toList==Zc.toList)) all)) default) 2))<(F119 (F117 (all.getD (Int.toNat (idxI (fun c=>((F117 c 0).toList==Zc.toList)) all)) default) 1)).1) then true else decide ((F95 (F117 (all.getD (Int.toNat (idxI (fun c=>((F117 c 0).toList==Zc.toList)) all)) default) 2))>=(IntKind.i64.wrap ((F119 (F117 (all.getD (Int.toNat (idxI (fun c=>((F117 c 0).toList==Zc.toList)) all)) default) 1)).1+(F119 (F117 (all.getD (Int.toNat (idxI (fun c=>((F117 c 0).toList==Zc.toList)) all)) default) 1)).2)))) else false) true (F117 (all.getD (Int.toNat (idxI (fun c=>((F117 c 0).toList==Zc.toList)) all)) default) 3) (fun k12=>have _:=Qd (andT1 k12); uu21) (ai (fun k13:(bif decide (doors<=6) then (bif decide ((F95 (F117 (all.getD (Int.toNat (idxI (fun c=>((F117 c 0).toList==Zc.toList)) all)) default) 2))<(F119 (F117 (all.getD (Int.toNat (idxI (fun c=>((F117 c 0).toList==Zc.toList)) all)) default) 1)).1) then true else decide ((F95 (F117 (all.getD (Int.toNat (idxI (fun c=>((F117 c 0).toList==Zc.toList)) all)) default) 2))>=(IntKind.i64.wrap ((F119 (F117 (all.getD (Int.toNat (idxI (fun c=>((F117 c 0).toList==Zc.toList)) all)) default) 1)).1+(F119 (F117 (all.getD (Int.toNat (idxI (fun c=>((F117 c 0).toList==Zc.toList)) all)) default) 1)).2)))) else false)=true=>have _:=Qd (andT1 k13); (uu0:ib (idxI (fun c=>((F117 c 0).toList==Zc.toList)) all) all)) (kg117 (bif decide (doors<=6) then (bif decide ((F95 (F117 (all.getD (Int.toNat (idxI (fun c=>((F117 c 0).toList==Zc.toList)) all)) default) 2))<(F119 (F117 (all.getD (Int.toNat (idxI (fun c=>((F117 c 0).toList==Zc.toList)) all)) default) 1)).1) then true else decide ((F95 (F117 (all.getD (Int.toNat (idxI (fun c=>((F117 c 0).toList==Zc.toList)) all)) default) 2))>=(IntKind.i64.wrap ((F119 (F117 (all.getD (Int.toNat (idxI (fun c=>((F117 c 0).toList==Zc.toList)) all)) default) 1)).1+(F119 (F117 (all.getD (Int.toNat (idxI (fun c=>((F117 c 0).toList==Zc.toList)) all)) default) 1)).2)))) else false) true (all.getD (Int.toNat (idxI (fun c=>((F117 c 0).toList==Zc.toList)) all)) default) 4 (fun k14=>have _:=Qd (andT1 k14); uu0) (kg123 (bif decide (doors<=6) then (bif decide ((F95 (F117 (all.getD (Int.toNat (idxI (fun c=>((F117 c 0).toList==Zc.toList)) all)) default) 2))<(F119 (F117 (all.getD (Int.toNat (idxI (fun c=>((F117 c 0).toList==Zc.toList)) all)) default) 1)).1) then true else decide ((F95 (F117 (all.getD (Int.toNat (idxI (fun c=>((F117 c 0).toList==Zc.toList)) all)) default) 2))>=(IntKind.i64.wrap ((F119 (F117 (all.getD (Int.toNat (idxI (fun c=>((F117 c 0).toList==Zc.toList)) all)) default) 1)).1+(F119 (F117 (all.getD (Int.toNat (idxI (fun c=>((F117 c 0).toList==Zc.toList)) all)) default) 1)).2)))) else false) true (F117 (all.getD (Int.toNat (idxI (fun c=>((F117 c 0).toList==Zc.toList)) all)) default) 4) (fun k15=>have _:=Qd (andT1 k15); uu21) (fiB (bif (bif decide (doors<=6) then (bif decide ((F95 (F117 (all.getD (Int.toNat (idxI (fun c=>((F117 c 0).toList==Zc.toList)) all)) default) 2))<(F119 (F117 (all.getD (Int.toNat (idxI (fun c=>((F117 c 0).toList==Zc.toList)) all)) default) 1)).1) then true else decide ((F95 (F117 (all.getD (Int.toNat (idxI (fun c=>((F117 c 0).toList==Zc.toList)) all)) default) 2))>=(IntKind.i64.wrap ((F119 (F117 (all.getD (Int.toNat (idxI (fun c=>((F117 c 0).toList==Zc.toList)) all)) default) 1)).1+(F119 (F117 (all.getD (Int.toNat (idxI (fun c=>((F117 c 0).toList==Zc.toList)) all)) default) 1)).2)))) else false) then decide ((F123 (F117 (all.getD (Int.toNat (idxI (fun c=>((F117 c 0).toList==Zc.toList)) all)) default) 3))<=(F123 (F117 (all.getD (Int.toNat (idxI (fun c=>((F117 c 0).toList==Zc.toList)) all)) default) 4))) else false) (F64 all) (finD hD0_8 (condF h9 rfl))))))))))))))))) (i0.1-1) i0.2.1 i0.2.2 (un64_0 all i0 hi0)))) uu3
theorem getD_mapG {α β:Type} [Inhabited α] [Inhabited β] (f:α->β) (ls:List α) (i:Nat) (h:i<ls.length):(ls.map f).getD i default=f (ls.getD i default):=by
 rw [getD_lt _ (by simpa using h),getD_lt _ h,List.getElem_map]
def wsL (lines:List Za):List (List Za):=lines.map fun l=>(F11 l).1
def hdB (w:List Za) (l:List UInt8):Bool:=(w.getD 0 default).data.toList==l
def hUser:List UInt8:=[117,115,101,114]
def hPort:List UInt8:=[112,111,114,116]
def hRule:List UInt8:=[114,117,108,101]
def hRoute:List UInt8:=[114,111,117,116,101]
def hPeer:List UInt8:=[112,101,101,114]
def hNat:List UInt8:=[110,97,116]
def hDoor:List UInt8:=[100,111,111,114]
theorem linesL_ws (lines:List Za) (h:F58 lines=0) (word:Za):linesL lines word=(wsL lines).filter fun w=>hdB w word.data.toList:=by
 unfold linesL wsL
 have e:(lines.map fun l=>splitS l Zd)=lines.map fun l=>(F11 l).1:=T6 fun l hl=>kept_split l ((nt_facts lines h).2 l hl)
 rw [e]; rfl
theorem ws_form (lines:List Za) (h:F58 lines=0):∀ w∈wsL lines,FormP w:=fun w hw=>by
 obtain ⟨l,hl,rfl⟩:=Sr.1 hw
 exact (keptP l ((nt_facts lines h).2 l hl)).form
theorem ws_no (lines:List Za):∀ w∈wsL lines,∀ x∈w,(32:UInt8) ∉ x.data.toList/\x.data.toList≠[]/\x.size<=24:=fun w hw=>by
 obtain ⟨l,hl,rfl⟩:=Sr.1 hw
 exact word_no l
theorem at_n (c:l52Cut) (k:Nat):F117 c (k:Int)=c.w.getD k default:=by
 unfold F117
 by_cases h:k<c.w.length
 ·rw [ltD h,Qc,nn]
 ·rw [Qq uu0,Qb,getD_ge _ uu0]; rfl
theorem at0 (c:l52Cut):F117 c 0=c.w.getD 0 default:=at_n c 0
theorem at1 (c:l52Cut):F117 c 1=c.w.getD 1 default:=at_n c 1
theorem at2 (c:l52Cut):F117 c 2=c.w.getD 2 default:=at_n c 2
theorem at3 (c:l52Cut):F117 c 3=c.w.getD 3 default:=at_n c 3
theorem at4 (c:l52Cut):F117 c 4=c.w.getD 4 default:=at_n c 4
theorem any_cuts (ws:List (List Za)) (p:l52Cut->Bool):(ws.map l52Cut.mk).any p=ws.any fun w=>p ⟨w⟩:=by rw [Hg]; rfl
theorem any_congr_mem {α:Type} {p q:α->Bool}:∀ {xs:List α},(∀ x∈xs,p x=q x)->xs.any p=xs.any q
 | [],_=>rfl
 | x :: xs,h=>by rw [Ga,Ga,h x Qi,any_congr_mem fun y hy=>h y (Qg _ hy)]
theorem root_eq (all:List l52Cut):F60 all=all.any fun c=>hdB c.w hUser&&((c.w.getD 2 default).data.toList==[97,108,108]):=by
 unfold F60
 have:=anyL all (fun c=>hdB c.w hUser&&((c.w.getD 2 default).data.toList==[97,108,108])) true (F60_s0 all) (fun i hi=>by
  simp only [F60_s0,ltD hi,Qc,nn,at0,at2,blit,cb1]
  rfl) (by simp only [F60_s0,geD,Qb]) (fun r=>r) (fun i40=>false) false (fun _=>rfl)
 refine this.trans ?_
 cases (all.any fun c=>hdB c.w hUser&&((c.w.getD 2 default).data.toList==[97,108,108])) <;> rfl
theorem noRuler_same (lines:List Za) (h:F58 lines=0):F53 lines=!F60 ((wsL lines).map l52Cut.mk):=by
 unfold F53
 rw [root_eq,any_cuts,linesL_ws lines h,T5]
 congr 1
 refine any_congr_mem fun w _=>?_
 unfold F104
 rw [blit]; rfl
def nRules (ws:List (List Za)) (name:List UInt8):Nat:=(ws.filter fun w=>hdB w hRule&&((w.getD 1 default).data.toList==name)).length
theorem rulesOf_eq (lines:List Za) (h:F58 lines=0) (name:Za):F105 lines name=(nRules (wsL lines) name.data.toList:Int):=by
 unfold F105
 have:=fold_loop0 (linesL lines Zg) (fun (n:Int) w=>bif ((w.getD 1 default).data.toList==name.data.toList) then n+1 else n) (fun n i=>(n,i)) (F105_s0 lines name) (fun i s hi=>by
  simp only [F105_s0,ltD hi,Qc,nn,byteToList]
  show (bif (((linesL lines Zg).getD i default).getD 1 default).data.toList==name.data.toList then _ else _)=_
  cases ((((linesL lines Zg).getD i default).getD 1 default).data.toList==name.data.toList) <;> rfl) (fun s=>by simp only [F105_s0,geD,Qb]) (fun r=>r) (fun (n,v11)=>n) 0
 refine this.trans ?_
 show (linesL lines Zg).foldl _ (0:Int)=_
 rw [foldl_count (fun w:List Za=>((w.getD 1 default).data.toList==name.data.toList)),linesL_ws lines h,List.filter_filter,Int.zero_add]
 unfold nRules
 rw [show (fun a:List Za=>((a.getD 1 default).data.toList==name.data.toList&&hdB a Zg.data.toList))=fun w=>hdB w hRule&&((w.getD 1 default).data.toList==name.data.toList) from funext fun w=>Bool.and_comm _ _]
theorem list_eq' (all:List l52Cut) (name:Za):F118 all name=((all.filter fun c=>hdB c.w hRule&&((c.w.getD 1 default).data.toList==name.data.toList)).length:Int):=by
 unfold F118
 have:=fold_loop0 all (fun (n:Int) c=>bif (hdB c.w hRule&&((c.w.getD 1 default).data.toList==name.data.toList)) then n+1 else n) (fun n i=>(n,i)) (F118_s0 all name) (fun i s hi=>by
  simp only [F118_s0,ltD hi,Qc,nn,at0,at1,blit,cb1]
  rw [byteToList,byteToList]
  show (bif (hdB (all.getD i default).w hRule&&(((all.getD i default).w.getD 1 default).data.toList==name.data.toList)) then _ else _)=_
  cases (hdB (all.getD i default).w hRule&&(((all.getD i default).w.getD 1 default).data.toList==name.data.toList)) <;> rfl) (fun s=>by simp only [F118_s0,geD,Qb]) (fun r=>r) (fun (n,i40)=>n) 0
 refine this.trans ?_
 show all.foldl _ (0:Int)=_
 rw [foldl_count (fun c:l52Cut=>hdB c.w hRule&&((c.w.getD 1 default).data.toList==name.data.toList)),Int.zero_add]
theorem list_ws (ws:List (List Za)) (name:Za):F118 (ws.map l52Cut.mk) name=(nRules ws name.data.toList:Int):=by
 rw [list_eq',Hk,Sg]; rfl
theorem lists_eq (all:List l52Cut):F61 all=!all.any fun c=>(hdB c.w hPort&&(!((c.w.getD 4 default).data.toList==[])&&((F118 all (c.w.getD 4 default))==0))) || (hdB c.w hRule&&decide (F118 all (c.w.getD 1 default)>12)):=by
 unfold F61
 have:=anyL all (fun c=>(hdB c.w hPort&&(!((c.w.getD 4 default).data.toList==[])&&((F118 all (c.w.getD 4 default))==0))) || (hdB c.w hRule&&decide (F118 all (c.w.getD 1 default)>12))) false (F61_s0 all) (fun i hi=>by
  simp only [F61_s0,ltD hi,Qc,nn,at0,at1,at4,blit,cb1,Tc]
  show (bif (hdB (all.getD i default).w hPort&&(!(((all.getD i default).w.getD 4 default).data.toList==[])&&(F118 all ((all.getD i default).w.getD 4 default)==0))) then _ else (bif (hdB (all.getD i default).w hRule&&_) then _ else _))=_
  cases (hdB (all.getD i default).w hPort&&(!(((all.getD i default).w.getD 4 default).data.toList==[])&&(F118 all ((all.getD i default).w.getD 4 default)==0))) <;> cases (hdB (all.getD i default).w hRule&&decide (F118 all ((all.getD i default).w.getD 1 default)>12)) <;> rfl) (by simp only [F61_s0,geD,Qb]) (fun r=>r) (fun i40=>true) true (fun _=>rfl)
 refine this.trans ?_
 cases all.any _ <;> rfl
theorem any_or {α:Type} (p q:α->Bool):∀ xs:List α,xs.any (fun x=>p x || q x)=(xs.any p || xs.any q)
 | []=>rfl
 | x :: xs=>by
  simp only [Ga,any_or p q xs]
  cases p x <;> cases q x <;> simp
theorem port_five {w:List Za} (h:portP w) (hn:∀ x∈w,x.data.toList≠[]):decide ((w.length:Int)>4)=!((w.getD 4 default).data.toList==[]):=by
 by_cases hl:4<w.length
 ·rw [Qs uu0]
  have:=hn _ (getD_mem w hl)
  rw [Qw.2 this]; rfl
 ·rw [Qq uu0,getD_ge w uu0]; rfl
theorem listsWrong_same (lines:List Za) (h:F58 lines=0):F54 lines=!F61 ((wsL lines).map l52Cut.mk):=by
 rw [lists_eq,Bool.not_not,any_cuts,any_or]
 unfold F54
 have:=anyL (linesL lines Ze) (fun w=>decide ((w.length:Int)>4)&&(F105 lines (w.getD 4 default)==0)) true (F54_s0 lines) (fun i hi=>by
  simp only [F54_s0,ltD hi,Qc,nn,cb1]; rfl) (by simp only [F54_s0,geD,Qb]) (fun r=>r) (fun v8=>(linesL lines Zg).any (fun (x0:List Za)=>F106 x0 lines)) _ (fun _=>rfl)
 refine this.trans ?_
 rw [linesL_ws lines h,linesL_ws lines h,T5,T5,cb2]
 congr 1
 ·refine any_congr_mem fun w hw=>?_
  have e4:F118 ((wsL lines).map l52Cut.mk) (w.getD 4 default)=F105 lines (w.getD 4 default):=by rw [list_ws,rulesOf_eq lines h]
  rw [e4]
  cases hp:hdB w hPort with
  | false =>
   have hp':hdB w Ze.data.toList=false:=hp
   rw [hp',S3,S3]
  | true =>
   have hp':hdB w Ze.data.toList=true:=hp
   have hpp:=port_of (ws_form lines h w hw) (eq_of_beq hp)
   rw [hp',port_five hpp fun x hx=>(ws_no lines w hw x hx).2.1]
 ·refine any_congr_mem fun w hw=>?_
  have e1:F118 ((wsL lines).map l52Cut.mk) (w.getD 1 default)=F105 lines (w.getD 1 default):=by rw [list_ws,rulesOf_eq lines h]
  show (hdB w hRule&&_)=(hdB w hRule&&_)
  rw [e1]; rfl
def pairR {α:Type} (ov:α->α->Bool):List α->List α->Bool
 | _,[]=>false
 | seen,x :: r=>seen.any (ov x) || pairR ov (seen++[x]) r
theorem pair_loop {α:Type} [Inhabited α] (ov:α->α->Bool) (xs:List α):∀ (m i:Nat),i+m=xs.length->anyF (fun i=>(xs.take i).any (ov (xs.getD i default))) i m=pairR ov (xs.take i) (xs.drop i)
 | 0,i,h=>by rw [Q3 uu0]; rfl
 | m+1,i,h=>by
  have hd:xs.drop i=xs.getD i default :: xs.drop (i+1):=by
   rw [Rd (show i<xs.length by omega),Qe,Qj (show i<xs.length by omega)]; rfl
  rw [hd,pairR,anyF,pair_loop ov xs m (i+1) uu0,take_next (show i<xs.length by omega)]
theorem pair_filter {α:Type} (P:α->Bool) (ov:α->α->Bool):∀ (xs seen:List α),pairR (fun x y=>P x&&(P y&&ov x y)) seen xs=pairR ov (seen.filter P) (xs.filter P)
 | [],seen=>rfl
 | x :: xs,seen=>by
  rw [pairR,pair_filter P ov xs]
  cases h:P x with
  | true =>
   rw [R6 h,pairR,Tk,T5]
   simp only [Sm,R6 h,List.filter_nil]
  | false =>
   rw [Ru uu23,Tk,Ru uu23,List.filter_nil,Su]
   simp only [S3]
   rw [show seen.any (fun _=>false)=false by simp,G7]
theorem pair_map {α γ:Type} (f:α->γ) (ov:γ->γ->Bool):∀ (xs seen:List α),pairR ov (seen.map f) (xs.map f)=pairR (fun x y=>ov (f x) (f y)) seen xs
 | [],_=>rfl
 | x :: xs,seen=>by
  rw [Rc,pairR,pairR,<- pair_map f ov xs,T4,Hg]; rfl
theorem pair_congr {α:Type} {ov ov':α->α->Bool} {Q:α->Prop} (h:∀ x y,Q x->Q y->ov x y=ov' x y):∀ (xs seen:List α),(∀ x∈xs,Q x)->(∀ x∈seen,Q x)->pairR ov seen xs=pairR ov' seen xs
 | [],_,_,_=>rfl
 | x :: xs,seen,h1,h2=>by
  have hx:=h1 x Qi
  rw [pairR,pairR,any_congr_mem (fun y hy=>h x y hx (h2 y hy)),pair_congr h xs (seen++[x]) (fun y hy=>h1 y (Qg _ hy)) (fun y hy=>by
   rcases Q4.1 hy with hy | hy
   ·exact h2 y hy
   ·rw [Qy.1 hy]; exact hx)]
theorem anyF_take {α:Type} [Inhabited α] (xs:List α) (p:α->Bool) (i:Nat) (h:i<=xs.length):anyF (fun k=>p (xs.getD k default)) 0 i=(xs.take i).any p:=by
 have hl:(xs.take i).length=i:=by rw [Rm]; omega
 have h1:=anyF_dropG (xs.take i) p i 0 uu0
 rw [Ro] at h1
 rw [<- h1]
 have:∀ (m k:Nat),k+m=i->anyF (fun k=>p (xs.getD k default)) k m=anyF (fun k=>p ((xs.take i).getD k default)) k m:=by
  intro m
  induction m with
  | zero=>intro k _; rfl
  | succ m ih =>
   intro k hk
   rw [anyF,anyF,ih (k+1) uu0]
   congr 2
   rw [Qe,Qe,Rb,if_pos uu0]
 exact this i 0 uu0
theorem size_pow (L:Int) (h0:0<=L) (h1:L<=16):F153 L=((2 ^ (16-L.toNat):Nat):Int):=by
 have h3:L=0\/L=1\/L=2\/L=3\/L=4\/L=5\/L=6\/L=7\/L=8\/L=9\/L=10\/L=11\/L=12\/L=13\/L=14\/L=15\/L=16:=by omega
 rcases h3 with rfl | rfl | rfl | rfl | rfl | rfl | rfl | rfl | rfl | rfl | rfl | rfl | rfl | rfl | rfl | rfl | rfl <;> exact Qd rfl
theorem has_eq (a L x:Int) (ha:0<=a/\a<=65535) (hL:0<=L/\L<=16):F113 (⟨a,L⟩:NetPrefix) x=decide (a<=x/\x<a+F153 L):=by
 unfold F113 F151
 have hs:=g153_0 L hL.1 hL.2
 have e:F179 (⟨a,L⟩:NetPrefix)=F153 L:=size_same a L hL.1 hL.2
 rw [e]
 simp only
 have w1:IntKind.i64.wrap (a+F153 L)=a+F153 L:=wrap_of uu0 uu0
 have w2:IntKind.i64.wrap (a+F153 L-1)=a+F153 L-1:=wrap_of uu0 uu0
 rw [w1,w2]
 exact T1.2 uu0
theorem ov_arith (a b n m c:Int) (hm:1<=m) (hn:n=m*c) (ha:n ∣ a) (hb:m ∣ b) (h:a<b+m):a<=b:=by
 obtain ⟨x,rfl⟩:=ha
 obtain ⟨y,rfl⟩:=hb
 subst hn
 have h1:m*(c*x)<m*(y+1):=by rw [Int.mul_add,Int.mul_one,<- Int.mul_assoc]; exact h
 have h2:c*x<y+1:=Int.lt_of_mul_lt_mul_left h1 uu0
 rw [Int.mul_assoc]
 exact Int.mul_le_mul_of_nonneg_left uu0 uu0
theorem size_mul (L M:Int) (h:0<=L/\L<=M/\M<=16):∃ c:Int,F153 L=F153 M*c:=by
 rw [size_pow L h.1 uu0,size_pow M uu0 h.2.2]
 refine ⟨((2 ^ (M.toNat-L.toNat):Nat):Int),?_⟩
 rw [<- Int.natCast_mul,<- Nat.pow_add]
 congr 2
 omega
theorem pfxL_dvd {l:List UInt8} {a n:Int} (h:pfxL l=some (a,n)):F153 n ∣ a/\0<=a/\a<=65535/\0<=n/\n<=16:=by
 have hb:=pfx2_nn h
 refine ⟨?_,hb⟩
 unfold pfxL at h
 match hs:splitL 47 l,h with
 | [x,y],h =>
  rw [pfx2] at h
  cases hc:decide (0<=addrL x)&&(in16 (num6 y)&&((addrL x).tmod (F153 (num6 y))==0)) with
  | false=>rw [hc] at h; cases h
  | true =>
   rw [hc] at h
   simp only [Qc,Qa,Q7] at h
   obtain ⟨rfl,rfl⟩:=h
   simp only [Qo,Sb] at hc
   exact Int.dvd_of_tmod_eq_zero hc.2.2
 | [],h=>cases h
 | [x],h=>cases h
 | x :: y :: z :: r,h=>cases h
theorem pfx_both (s:Za) (h:F94 s=true):∃ a L:Int,F114 s=((⟨a,L⟩:NetPrefix),true)/\F119 s=(a,F153 L)/\F153 L ∣ a/\(0<=a/\a<=65535)/\(0<=L/\L<=16)/\1<=F153 L/\F153 L<=65536:=by
 rw [specIsPfx_eq] at h
 cases hp:pfxL s.data.toList with
 | none=>rw [hp] at h; cases h
 | some q =>
  obtain ⟨a,L⟩:=q
  have hd:=pfxL_dvd hp
  have hs:=g153_0 L hd.2.2.2.1 hd.2.2.2.2
  exact ⟨a,L,by rw [implPfx_eq,hp],by rw [specPfx_eq,hp],hd.1,⟨hd.2.1,hd.2.2.1⟩,hd.2.2.2,hs⟩
def ovI (x y:Za):Bool:=F108 (F114 x).1 (F114 y).1 || F108 (F114 y).1 (F114 x).1
def ovS (x y:Za):Bool:=decide ((F119 x).1<IntKind.i64.wrap ((F119 y).1+(F119 y).2))&&decide ((F119 y).1<IntKind.i64.wrap ((F119 x).1+(F119 x).2))
theorem ov_same (x y:Za) (hx:F94 x=true) (hy:F94 y=true):ovI x y=ovS x y:=by
 obtain ⟨a,L,e1,e2,d1,b1,c1,s1⟩:=pfx_both x hx
 obtain ⟨b,M,f1,f2,d2,b2,c2,s2⟩:=pfx_both y hy
 unfold ovI ovS F108
 rw [e1,e2,f1,f2]
 simp only [has_eq _ _ _ b1 c1,has_eq _ _ _ b2 c2,cb1]
 rw [wrap_of uu0 uu0,wrap_of uu0 uu0,<- Gl,<- Gl,<- Gl,<- Bool.decide_or]
 refine T1.2 ⟨fun h=>?_,fun h=>?_⟩
 ·rcases h with h | h <;> omega
 ·rcases Int.le_total L M with hl | hl
  ·obtain ⟨c,hc⟩:=size_mul L M ⟨c1.1,hl,c2.2⟩
   exact .inr ⟨hl,ov_arith a b _ _ c s2.1 hc d1 d2 h.1,h.2⟩
  ·obtain ⟨c,hc⟩:=size_mul M L ⟨c2.1,hl,c1.2⟩
   exact .inl ⟨hl,ov_arith b a _ _ c s1.1 hc d2 d1 h.2,h.1⟩
theorem overlap_eq (lines:List Za):F55 lines=pairR (fun p q=>F108 p q || F108 q p) [] (portsL lines):=by
 unfold F55
 have:=any_loop (F55_s0 lines) (portsL lines).length (fun i=>((portsL lines).take i).any (fun q=>F108 ((portsL lines).getD i default) q || F108 q ((portsL lines).getD i default))) true (fun r=>r) false (fun i hi=>by
  simp only [F55_s0,ltD hi,Qc,nn]
  exact anyL ((portsL lines).take i) (fun q=>F108 ((portsL lines).getD i default) q || F108 q ((portsL lines).getD i default)) true (F55_s1 lines (i:Int)) (fun j hj=>by
   simp only [F55_s1,nn,ltD hj,Qc,cb2]; rfl) (by simp only [F55_s1,nn,geD,Qb]) Lp.ret _ _ (fun _=>rfl)) (by simp only [F55_s0,geD,Qb]) (portsL lines).length 0 uu0 (Int.toNat (((portsL lines).length:Int)-0)+1) uu0
 rw [pair_loop (fun p q=>F108 p q || F108 q p) (portsL lines) (portsL lines).length 0 uu0,Gd,Ro] at this
 refine Eq.trans this ?_
 cases pairR (fun p q=>F108 p q || F108 q p) [] (portsL lines) <;> rfl
theorem apart_eq (all:List l52Cut):F62 all=!pairR (fun c e=>hdB c.w hPort&&(hdB e.w hPort&&ovS (c.w.getD 2 default) (e.w.getD 2 default))) [] all:=by
 unfold F62
 have:=any_loop (F62_s0 all) all.length (fun i=>(all.take i).any (fun e=>hdB (all.getD i default).w hPort&&(hdB e.w hPort&&ovS ((all.getD i default).w.getD 2 default) (e.w.getD 2 default)))) false (fun r=>r) true (fun i hi=>by
  simp only [F62_s0,ltD hi,Qc]
  have h1:=any_loop (F62_s1 all (i:Int)) i (fun k=>hdB (all.getD i default).w hPort&&(hdB (all.getD k default).w hPort&&ovS ((all.getD i default).w.getD 2 default) ((all.getD k default).w.getD 2 default))) false (Lp.ret:Bool->Lp Int Bool) (.next ((i+1:Nat):Int)) (fun k hk=>by
   simp only [F62_s1,ltD hk,Qc,nn,at0,at2,blit,cb1,cb2]
   show (bif (!(hdB (all.getD i default).w hPort) || !(hdB (all.getD k default).w hPort)) then _ else (bif ovS ((all.getD i default).w.getD 2 default) ((all.getD k default).w.getD 2 default) then _ else _))=_
   cases hdB (all.getD i default).w hPort <;> cases hdB (all.getD k default).w hPort <;> cases ovS ((all.getD i default).w.getD 2 default) ((all.getD k default).w.getD 2 default) <;> rfl) (by
   simp only [F62_s1,Qq (show ¬ (i:Int)<(i:Int) by omega),Qb]) i 0 uu0 (Int.toNat ((i:Int)-0)+1) uu0
  rw [anyF_take all (fun e=>hdB (all.getD i default).w hPort&&(hdB e.w hPort&&ovS ((all.getD i default).w.getD 2 default) (e.w.getD 2 default))) i uu0] at h1
  exact h1) (by simp only [F62_s0,geD,Qb]) all.length 0 uu0 (Int.toNat ((all.length:Int)-0)+1) uu0
 rw [pair_loop (fun c e=>hdB c.w hPort&&(hdB e.w hPort&&ovS (c.w.getD 2 default) (e.w.getD 2 default))) all all.length 0 uu0,Gd,Ro] at this
 refine Eq.trans this ?_
 cases pairR (fun (c e:l52Cut)=>hdB c.w hPort&&(hdB e.w hPort&&ovS (c.w.getD 2 default) (e.w.getD 2 default))) [] all <;> rfl
theorem overlap_same (lines:List Za) (h:F58 lines=0):F55 lines=!F62 ((wsL lines).map l52Cut.mk):=by
 rw [apart_eq,Bool.not_not,overlap_eq]
 have e1:=pair_map l52Cut.mk (fun (c e:l52Cut)=>hdB c.w hPort&&(hdB e.w hPort&&ovS (c.w.getD 2 default) (e.w.getD 2 default))) (wsL lines) []
 rw [Hd] at e1
 rw [e1]
 have e2:=pair_filter (fun w:List Za=>hdB w hPort) (fun w v=>ovS (w.getD 2 default) (v.getD 2 default)) (wsL lines) []
 refine Eq.trans ?_ e2.symm
 have e3:=pair_map (fun w:List Za=>(F114 (w.getD 2 default)).1) (fun p q=>F108 p q || F108 q p) (linesL lines Ze) []
 rw [Hd] at e3
 have e4:portsL lines=(linesL lines Ze).map (fun w:List Za=>(F114 (w.getD 2 default)).1):=rfl
 rw [e4,e3,linesL_ws lines h]
 refine pair_congr (Q:=fun w=>portP w) (fun w v hw hv=>ov_same _ _ (by unfold portP at hw; exact hw.2.2.2.2) (by unfold portP at hv; exact hv.2.2.2.2)) _ [] (fun w hw=>?_) (fun w hw=>by cases hw)
 obtain ⟨h1,h2⟩:=Sz.1 hw
 exact port_of (ws_form lines h w h1) (eq_of_beq h2)
def nearW (w:List Za) (addr:Int):Bool:=hdB w hPort&&(decide (addr>(F119 (w.getD 2 default)).1)&&decide (addr<IntKind.i64.wrap ((F119 (w.getD 2 default)).1+(F119 (w.getD 2 default)).2)))
theorem near_eq (all:List l52Cut) (addr:Int):F120 all addr=all.any fun c=>nearW c.w addr:=by
 unfold F120
 have:=anyL all (fun c=>nearW c.w addr) true (F120_s0 all addr) (fun i hi=>by
  simp only [F120_s0,ltD hi,Qc,nn,at0,at2,blit,cb1]
  show (bif hdB (all.getD i default).w hPort then (bif _ then _ else _) else _)=bif (hdB (all.getD i default).w hPort&&_) then _ else _
  cases hdB (all.getD i default).w hPort <;> rfl) (by simp only [F120_s0,geD,Qb]) (fun r=>r) (fun i40=>false) false (fun _=>rfl)
 refine this.trans ?_
 cases all.any (fun c=>nearW c.w addr) <;> rfl
theorem nears_eq (all:List l52Cut):F63 all=!all.any fun c=>(hdB c.w hRoute&&!F120 all (F95 (c.w.getD 2 default))) || (hdB c.w hPeer&&!F120 all (F95 (c.w.getD 1 default))):=by
 unfold F63
 have:=anyL all (fun c=>(hdB c.w hRoute&&!F120 all (F95 (c.w.getD 2 default))) || (hdB c.w hPeer&&!F120 all (F95 (c.w.getD 1 default)))) false (F63_s0 all) (fun i hi=>by
  simp only [F63_s0,ltD hi,Qc,nn,at0,at1,at2,blit]
  show (bif hdB (all.getD i default).w hRoute then (bif !F120 all (F95 ((all.getD i default).w.getD 2 default)) then _ else _) else (bif hdB (all.getD i default).w hPeer then (bif !F120 all (F95 ((all.getD i default).w.getD 1 default)) then _ else _) else _))=_
  cases hr:hdB (all.getD i default).w hRoute with
  | true =>
   have hp:hdB (all.getD i default).w hPeer=false:=by
    rw [hdB,Sb] at hr
    rw [hdB,hr]; decide
   rw [hp]
   cases (!F120 all (F95 ((all.getD i default).w.getD 2 default))) <;> rfl
  | false=>cases hdB (all.getD i default).w hPeer <;> cases (!F120 all (F95 ((all.getD i default).w.getD 1 default))) <;> rfl) (by simp only [F63_s0,geD,Qb]) (fun r=>r) (fun i40=>true) true (fun _=>rfl)
 refine this.trans ?_
 cases all.any _ <;> rfl
theorem nextsWrong_eq (lines:List Za):F56 lines=(((linesL lines Zi).map fun w=>w.getD 2 default)++((linesL lines Zh).map fun w=>w.getD 1 default)).any fun x0=>F109 x0 (portsL lines):=by
 have h0:F56_j0 lines=Lp.done ((linesL lines Zi).map fun w=>w.getD 2 default):=by
  unfold F56_j0
  have:=fold_loop0 (linesL lines Zi) (fun (s:List Za) w=>s++[w.getD 2 default]) (fun s i=>(s,i)) (F56_s0 lines) (fun i s hi=>by
   simp only [F56_s0,ltD hi,Qc,nn]; rfl) (fun s=>by simp only [F56_s0,geD,Qb]) Lp.ret (fun (addrs1,v13)=>Lp.done addrs1) []
  refine this.trans ?_
  rw [foldl_map',R0]
 have h1:∀ a,F56_j1 lines a=Lp.done (a++(linesL lines Zh).map fun w=>w.getD 1 default):=fun a=>by
  unfold F56_j1
  have:=fold_loop0 (linesL lines Zh) (fun (s:List Za) w=>s++[w.getD 1 default]) (fun s i=>(s,i)) (F56_s1 lines a) (fun i s hi=>by
   simp only [F56_s1,ltD hi,Qc,nn]; rfl) (fun s=>by simp only [F56_s1,geD,Qb]) Lp.ret (fun (addrs3,v27)=>Lp.done addrs3) a
  refine this.trans ?_
  rw [foldl_map']
 unfold F56
 rw [h0]
 show (F56_j1 lines _).fin _ _=_
 rw [h1]; rfl
theorem near_same (lines:List Za) (h:F58 lines=0) (t:Za):F109 t (portsL lines)=!F120 ((wsL lines).map l52Cut.mk) (F95 t):=by
 rw [near_eq,any_cuts]
 unfold F109
 rw [addr_same]
 congr 1
 have e4:portsL lines=(linesL lines Ze).map (fun w:List Za=>(F114 (w.getD 2 default)).1):=rfl
 rw [e4,Hg,linesL_ws lines h,T5]
 refine any_congr_mem fun w hw=>?_
 show (hdB w hPort&&_)=(hdB w hPort&&_)
 cases hp:hdB w hPort with
 | false=>rfl
 | true =>
  have hpp:=port_of (ws_form lines h w hw) (eq_of_beq hp)
  obtain ⟨a,L,e1,e2,d1,b1,c1,s1⟩:=pfx_both (w.getD 2 default) (by unfold portP at hpp; exact hpp.2.2.2.2)
  rw [Sm,Sm]
  show F112 (F114 (w.getD 2 default)).1 (F95 t)=_
  unfold F112
  rw [e1,e2,has_eq _ _ _ b1 c1,cb1,wrap_of (by simp only; omega) (by simp only; omega),neI]
  simp only
  rw [<- decide_not,<- Gl,<- Gl]
  exact T1.2 uu0
theorem nextsWrong_same (lines:List Za) (h:F58 lines=0):F56 lines=!F63 ((wsL lines).map l52Cut.mk):=by
 rw [nears_eq,Bool.not_not,any_cuts,nextsWrong_eq,List.any_append,any_or,Hg,Hg,linesL_ws lines h,linesL_ws lines h,T5,T5]
 congr 1
 ·refine any_congr_mem fun w hw=>?_
  show (hdB w hRoute&&F109 (w.getD 2 default) (portsL lines))=_
  rw [near_same lines h]
 ·refine any_congr_mem fun w hw=>?_
  show (hdB w hPeer&&F109 (w.getD 1 default) (portsL lines))=_
  rw [near_same lines h]
theorem cnt_loop {α ρ τ:Type} [Inhabited α] (xs:List α) (P:α->Bool) (B:Nat->Bool) (bad:ρ) (step:Int×Int->Lp (Int×Int) ρ)
  (h1:∀ (i:Nat) (n:Int),i<xs.length->step (n,(i:Int))=bif P (xs.getD i default) then (bif B i then .ret bad else .next (n+1,((i+1:Nat):Int))) else .next (n,((i+1:Nat):Int)))
  (h2:∀ n:Int,step (n,(xs.length:Int))=.done (n,(xs.length:Int))) (f:ρ->τ) (g:Int×Int->τ) :
  ∀ (m i:Nat) (n:Int),i+m=xs.length->∀ fuel,m<fuel->(runL step fuel (n,(i:Int))).fin f g=bif anyF (fun i=>P (xs.getD i default)&&B i) i m then f bad else g (n+(((xs.drop i).filter P).length:Int),(xs.length:Int))
 | m,i,_,_,0,hf=>absurd hf (R5 _)
 | 0,i,n,h,fuel+1,hf=>by
  obtain rfl:i=xs.length:=by omega
  rw [runL_d _ (h2 n),Q3 (Qn _)]
  show g _=g _
  simp
 | m+1,i,n,h,fuel+1,hf=>by
  have hst:=h1 i n uu0
  have hd:xs.drop i=xs.getD i default :: xs.drop (i+1):=by
   rw [Rd (show i<xs.length by omega),Qe,Qj (show i<xs.length by omega)]; rfl
  rw [anyF,hd]
  cases hp:P (xs.getD i default) with
  | false =>
   rw [hp,Qb] at hst
   rw [runL_n _ hst,cnt_loop xs P B bad step h1 h2 f g m (i+1) _ uu0 fuel uu0,Ru (by rw [hp]; exact Tz)]
   simp
  | true =>
   rw [hp,Qc] at hst
   rw [Sm]
   cases hb:B i with
   | true=>rw [hb,Qc] at hst; rw [runL_r _ hst]; rfl
   | false =>
    rw [hb,Qb] at hst
    rw [runL_n _ hst,cnt_loop xs P B bad step h1 h2 f g m (i+1) _ uu0 fuel uu0,R6 hp,G7,Qx]
    congr 2
    rw [Int.natCast_add,Int.add_assoc,Int.add_comm (1:Int)]; rfl
theorem idx_filter {α:Type} [Inhabited α] (p:α->Bool) (xs:List α):(idxI p xs<0↔xs.filter p=[])/\(0<=idxI p xs->xs.getD (idxI p xs).toNat default=(xs.filter p).getD 0 default):=by
 unfold idxI
 cases h:first (fun k=>p (xs.getD k default)) xs.length with
 | none =>
  have h1:=first_none.1 h
  refine ⟨⟨fun _=>?_,fun _=>by decide⟩,fun h=>absurd h uu1⟩
  rw [List.filter_eq_nil_iff]
  intro x hx
  obtain ⟨k,hk,rfl⟩:=mem_getD hx
  rw [h1 k hk]; exact Tz
 | some k =>
  obtain ⟨h1,h2,h3⟩:=first_some.1 h
  have hs:xs.filter p=xs.getD k default :: (xs.drop (k+1)).filter p:=by
   have e:xs=xs.take k++xs.getD k default :: xs.drop (k+1):=by
    rw [getD_lt _ h1,<- Rd h1,Rx]
   have h4:(xs.take k).filter p=[]:=by
    rw [List.filter_eq_nil_iff]
    intro x hx
    obtain ⟨j,hj,rfl⟩:=mem_getD hx
    have hl:j<k:=by rw [Rm] at hj; omega
    rw [Qe,Rb,if_pos hl,<- Qe]
    rw [h3 j hl]; exact Tz
   conv=>lhs; rw [e]
   rw [Tk,h4,R0,R6 h2]
  refine ⟨⟨fun h=>absurd h (by show ¬ ((k:Int)<0); omega),fun h=>by rw [hs] at h; cases h⟩,fun _=>?_⟩
  rw [hs]
  show xs.getD (k:Int).toNat default=xs.getD k default
  rw [nn]
theorem anyF_or (p q:Nat->Bool):∀ (m i:Nat),anyF (fun k=>p k || q k) i m=(anyF p i m || anyF q i m)
 | 0,_=>rfl
 | m+1,i=>by
  rw [anyF,anyF,anyF,anyF_or p q m (i+1)]
  cases p i <;> cases q i <;> simp
theorem anyF_congr {p q:Nat->Bool}:∀ (m i:Nat),(∀ k,i<=k->k<i+m->p k=q k)->anyF p i m=anyF q i m
 | 0,_,_=>rfl
 | m+1,i,h=>by rw [anyF,anyF,h i (Qn _) uu0,anyF_congr m (i+1) fun k h1 h2=>h k uu0 uu0]
def badD (a n lo hi:Int) (d:List Za):Bool:=(decide (F95 (d.getD 3 default)<a) || decide (F95 (d.getD 3 default)>=a+n)) || decide (lo<=F123 (d.getD 2 default)/\F123 (d.getD 2 default)<=hi)
def sameD (x y:List Za):Bool:=(((y.getD 1 default).toList==(x.getD 1 default).toList)&&((y.getD 3 default).toList==(x.getD 3 default).toList))&&((y.getD 4 default).toList==(x.getD 4 default).toList)
theorem door_eq (all:List l52Cut) (i:Nat) (hi:i<all.length) (nat:l52Cut) (a n:Int) (hp:F119 (nat.w.getD 1 default)=(a,n)) (hb:0<=a/\a<=65535/\1<=n/\n<=65536) :
  F122 all (i:Int) nat=!(badD a n (F123 (nat.w.getD 3 default)) (F123 (nat.w.getD 4 default)) (all.getD i default).w || (all.take i).any fun e=>hdB e.w hDoor&&sameD (all.getD i default).w e.w):=by
 unfold F122
 simp only [at1,at2,at3,at4,nn,hp,cb2]
 rw [wrap_of uu0 uu0]
 have h1:=any_loop (F122_s0 all (i:Int) nat) i (fun k=>hdB (all.getD k default).w hDoor&&sameD (all.getD i default).w (all.getD k default).w) false (fun r=>r) true (fun k hk=>by
  simp only [F122_s0,ltD hk,Qc,nn,at0,at1,at3,at4,cb1]
  show (bif (((_&&_)&&_)&&_) then _ else _)=bif (hdB (all.getD k default).w hDoor&&((_&&_)&&_)) then _ else _
  rw [blit,Tc,Tc,Tc]; rfl) (by simp only [F122_s0,Qq (show ¬ (i:Int)<(i:Int) by omega),Qb]) i 0 uu0 (Int.toNat ((i:Int)-0)+1) uu0
 rw [anyF_take all (fun e=>hdB e.w hDoor&&sameD (all.getD i default).w e.w) i uu0] at h1
 rw [Bool.not_or]
 show (bif badD a n _ _ _ then false else _)=_
 refine (Qh (fun z=>bif badD a n (F123 (nat.w.getD 3 default)) (F123 (nat.w.getD 4 default)) (all.getD i default).w then false else z) h1).trans ?_
 cases badD a n (F123 (nat.w.getD 3 default)) (F123 (nat.w.getD 4 default)) (all.getD i default).w <;> cases ((all.take i).any fun e=>hdB e.w hDoor&&sameD (all.getD i default).w e.w) <;> rfl
def badAll (a n lo hi:Int) (ds:List (List Za)):Bool:=ds.any (badD a n lo hi) || pairR sameD [] ds
theorem translates_eq (ws:List (List Za)):F64 (ws.map l52Cut.mk)=match ws.filter (fun w=>hdB w hNat) with
  | []=>!(ws.any fun w=>hdB w hDoor)
  | w :: _=>bif anyF (fun i=>hdB ((ws.map l52Cut.mk).getD i default).w hDoor&&!F122 (ws.map l52Cut.mk) (i:Int) ⟨w⟩) 0 ws.length then false else
    ((decide (((ws.filter fun w=>hdB w hDoor).length:Int)<=6)&&(decide (F95 (w.getD 2 default)<(F119 (w.getD 1 default)).1) || decide (F95 (w.getD 2 default)>=IntKind.i64.wrap ((F119 (w.getD 1 default)).1+(F119 (w.getD 1 default)).2))))&&decide (F123 (w.getD 3 default)<=F123 (w.getD 4 default))):=by
 generalize hall:ws.map l52Cut.mk=all
 have hlen:all.length=ws.length:=by rw [<- hall,Sg]
 have hidx:=idx_filter (fun c=>((F117 c 0).toList==Zc.toList)) all
 have hnf:all.filter (fun c=>((F117 c 0).toList==Zc.toList))=(ws.filter fun w=>hdB w hNat).map l52Cut.mk:=by
  rw [<- hall,Hk]
  congr 2
  funext w
  show ((F117 ⟨w⟩ 0).toList==_)=_
  rw [at0,blit]; rfl
 rw [hnf] at hidx
 have hdf:all.filter (fun c=>hdB c.w hDoor)=(ws.filter fun w=>hdB w hDoor).map l52Cut.mk:=by
  rw [<- hall,Hk]; rfl
 have e211:F121 all=idxI (fun c=>((F117 c 0).toList==Zc.toList)) all:=as121 all
 unfold F64
 generalize hk:idxI (fun c=>((F117 c 0).toList==Zc.toList)) all=k at hidx
 have hloop:=cnt_loop all (fun c=>hdB c.w hDoor) (fun i=>decide (k<0) || !F122 all (i:Int) (all.getD (Int.toNat k) default)) false (F64_s0 all) (fun i n hi=>by
  simp only [F64_s0,ltD hi,Qc,nn,hk,e211]
  simp only [at0,blit,cb2]
  show (bif !(hdB (all.getD i default).w hDoor) then _ else _)=bif hdB (all.getD i default).w hDoor then _ else _
  cases hdB (all.getD i default).w hDoor <;> rfl) (fun n=>by simp only [F64_s0,geD,Qb]) (fun r=>r)
  (fun (doors,i40)=>bif (decide (k<0)) then true else (((decide (doors<=6)&&(decide (F95 ((all.getD k.toNat default).w.getD 2 default)<(F119 ((all.getD k.toNat default).w.getD 1 default)).1) || decide (F95 ((all.getD k.toNat default).w.getD 2 default)>=IntKind.i64.wrap ((F119 ((all.getD k.toNat default).w.getD 1 default)).1+(F119 ((all.getD k.toNat default).w.getD 1 default)).2)))))&&decide (F123 ((all.getD k.toNat default).w.getD 3 default)<=F123 ((all.getD k.toNat default).w.getD 4 default)))) all.length 0 0 uu0 (Int.toNat ((all.length:Int)-0)+1) uu0
 simp only [hk,e211]
 simp only [at1,at2,at3,at4,cb1,cb2]
 refine Eq.trans hloop ?_
 rw [Ro,hdf,Sg,hlen]
 cases hn:ws.filter (fun w=>hdB w hNat) with
 | nil =>
  rw [hn] at hidx
  have hk0:=hidx.1.2 rfl
  simp only [Qs hk0,Bool.true_or,Td,Qc]
  have:=anyF_dropG all (fun c=>hdB c.w hDoor) all.length 0 uu0
  rw [Ro,hlen] at this
  rw [this,<- hall,Hg]
  show (bif ws.any (fun w=>hdB w hDoor) then false else true)=!ws.any fun w=>hdB w hDoor
  cases ws.any fun w=>hdB w hDoor <;> rfl
 | cons w r =>
  rw [hn] at hidx
  have hk0:¬ k<0:=fun h=>by have:=hidx.1.1 h; cases this
  have hw:all.getD k.toNat default=⟨w⟩:=(hidx.2 uu0).trans rfl
  simp only [Qq hk0,G7,Qb,hw]
  rw [Int.zero_add]
theorem natWrong_eq (lines:List Za) (w:List Za) (r:List (List Za)) (hn:linesL lines Zc=w :: r) :
  F57 lines=(((F113 (F114 (w.getD 1 default)).1 (F110 (w.getD 2 default)) || decide (F115 (w.getD 3 default)>F115 (w.getD 4 default))) || decide (((linesL lines Zb).length:Int)>6)) ||
   ((linesL lines Zb).any (fun d=>!F113 (F114 (w.getD 1 default)).1 (F110 (d.getD 3 default)) || decide (F115 (w.getD 3 default)<=F115 (d.getD 2 default)/\F115 (d.getD 2 default)<=F115 (w.getD 4 default))) || pairR sameD [] (linesL lines Zb))):=by
 unfold F57
 have e0:((linesL lines Zc).getD (Int.toNat 0) default)=w:=by rw [hn]; rfl
 have hl:((((linesL lines Zc).length:Int)==0))=false:=by rw [hn,Qw,Qx]; omega
 rw [hl,Qb]
 simp only [e0,cb2]
 generalize hds:linesL lines Zb=ds
 have hloop:=any_loop (F57_s0 lines) ds.length (fun i=>(!F113 (F114 (w.getD 1 default)).1 (F110 ((ds.getD i default).getD 3 default)) || decide (F115 (w.getD 3 default)<=F115 ((ds.getD i default).getD 2 default)/\F115 ((ds.getD i default).getD 2 default)<=F115 (w.getD 4 default))) || (ds.take i).any (sameD (ds.getD i default))) true (fun r=>r) false (fun i hi=>by
  simp only [F57_s0,hds,ltD hi,Qc,nn,e0,cb2]
  have h1:=anyL (ds.take i) (sameD (ds.getD i default)) true (F57_s1 lines (i:Int)) (fun j hj=>by
   simp only [F57_s1,hds,nn,ltD hj,Qc,cb1]; rfl) (by simp only [F57_s1,hds,nn,geD,Qb]) (Lp.ret:Bool->Lp Int Bool) (fun v89=>.next ((i:Int)+1)) (.next ((i:Int)+1)) (fun _=>rfl)
  rw [h1]
  show (bif (!F113 (F114 (w.getD 1 default)).1 (F110 ((ds.getD i default).getD 3 default)) || decide (F115 (w.getD 3 default)<=F115 ((ds.getD i default).getD 2 default)/\F115 ((ds.getD i default).getD 2 default)<=F115 (w.getD 4 default))) then _ else _)=_
  cases (!F113 (F114 (w.getD 1 default)).1 (F110 ((ds.getD i default).getD 3 default)) || decide (F115 (w.getD 3 default)<=F115 ((ds.getD i default).getD 2 default)/\F115 ((ds.getD i default).getD 2 default)<=F115 (w.getD 4 default))) <;> cases ((ds.take i).any (sameD (ds.getD i default))) <;> rfl) (by simp only [F57_s0,hds,geD,Qb]) ds.length 0 uu0 (Int.toNat ((ds.length:Int)-0)+1) uu0
 rw [anyF_or,pair_loop sameD ds ds.length 0 uu0,Gd,Ro] at hloop
 have h2:=anyF_dropG ds (fun d=>(!F113 (F114 (w.getD 1 default)).1 (F110 (d.getD 3 default)) || decide (F115 (w.getD 3 default)<=F115 (d.getD 2 default)/\F115 (d.getD 2 default)<=F115 (w.getD 4 default)))) ds.length 0 uu0
 rw [Ro] at h2
 rw [h2] at hloop
 refine (Qh (fun z=>bif ((F113 (F114 (w.getD 1 default)).1 (F110 (w.getD 2 default)) || decide (F115 (w.getD 3 default)>F115 (w.getD 4 default))) || decide ((ds.length:Int)>6)) then true else z) hloop).trans ?_
 rw [cb2]
 congr 1
 cases ((ds.any fun d=>!F113 (F114 (w.getD 1 default)).1 (F110 (d.getD 3 default)) || decide (F115 (w.getD 3 default)<=F115 (d.getD 2 default)/\F115 (d.getD 2 default)<=F115 (w.getD 4 default))) || pairR sameD [] ds) <;> rfl
theorem natWrong_same (lines:List Za) (h:F58 lines=0):F57 lines=!F64 ((wsL lines).map l52Cut.mk):=by
 rw [translates_eq]
 have hN:linesL lines Zc=(wsL lines).filter fun w=>hdB w hNat:=linesL_ws lines h _
 have hD:linesL lines Zb=(wsL lines).filter fun w=>hdB w hDoor:=linesL_ws lines h _
 cases hn:(wsL lines).filter fun w=>hdB w hNat with
 | nil =>
  rw [hn] at hN
  unfold F57
  rw [hN,hD]
  show decide ((((wsL lines).filter fun w=>hdB w hDoor).length:Int)>0)=!!_
  rw [Bool.not_not,Tt,Rj,Ry]
  constructor
  ·intro hl
   have hl:0<((wsL lines).filter fun w=>hdB w hDoor).length:=by omega
   have:=Sz.1 (He hl)
   exact ⟨_,this.1,this.2⟩
  ·rintro ⟨x,hx,hp⟩
   have:=List.length_pos_of_mem (Sz.2 ⟨hx,hp⟩:x∈(wsL lines).filter fun w=>hdB w hDoor)
   omega
 | cons w r =>
  have hwm:w∈(wsL lines).filter fun w=>hdB w hNat:=by rw [hn]; exact Qi
  rw [hn] at hN
  obtain ⟨hw1,hw2⟩:=Sz.1 hwm
  have hnp:=nat_of (ws_form lines h w hw1) (eq_of_beq hw2)
  unfold natP at hnp
  obtain ⟨a,L,e1,e2,d1,b1,c1,s1⟩:=pfx_both (w.getD 1 default) hnp.2.2.1
  rw [natWrong_eq lines w r hN]
  simp only [e1,e2,has_eq _ _ _ b1 c1,number_same,addr_same]
  rw [wrap_of uu0 uu0,hD]
  have hdoor:anyF (fun i=>hdB (((wsL lines).map l52Cut.mk).getD i default).w hDoor&&!F122 ((wsL lines).map l52Cut.mk) (i:Int) ⟨w⟩) 0 (wsL lines).length=badAll a (F153 L) (F123 (w.getD 3 default)) (F123 (w.getD 4 default)) ((wsL lines).filter fun w=>hdB w hDoor):=by
   have hc:=anyF_congr (p:=fun i=>hdB (((wsL lines).map l52Cut.mk).getD i default).w hDoor&&!F122 ((wsL lines).map l52Cut.mk) (i:Int) ⟨w⟩) (q:=fun i=>(hdB ((wsL lines).getD i default) hDoor&&badD a (F153 L) (F123 (w.getD 3 default)) (F123 (w.getD 4 default)) ((wsL lines).getD i default)) || ((wsL lines).take i).any (fun e=>hdB ((wsL lines).getD i default) hDoor&&(hdB e hDoor&&sameD ((wsL lines).getD i default) e))) (wsL lines).length 0 (fun k _ hk=>by
    have hk:k<(wsL lines).length:=by omega
    have hg:((wsL lines).map l52Cut.mk).getD k default=⟨(wsL lines).getD k default⟩:=getD_mapG _ _ _ hk
    rw [door_eq _ k (by simpa using hk) ⟨w⟩ a _ e2 ⟨b1.1,b1.2,s1⟩,Bool.not_not,hg,<- List.map_take,any_cuts]
    show (hdB ((wsL lines).getD k default) hDoor&&_)=_
    cases hdB ((wsL lines).getD k default) hDoor with
    | true=>simp only [Sm]
    | false =>
     simp only [S3]
     rw [show ((wsL lines).take k).any (fun _=>false)=false by simp]; rfl)
   rw [hc,anyF_or,pair_loop (fun x e=>hdB x hDoor&&(hdB e hDoor&&sameD x e)) (wsL lines) (wsL lines).length 0 uu0,Gd,Ro,pair_filter]
   have h3:=anyF_dropG (wsL lines) (fun d=>hdB d hDoor&&badD a (F153 L) (F123 (w.getD 3 default)) (F123 (w.getD 4 default)) d) (wsL lines).length 0 uu0
   rw [Ro] at h3
   rw [h3]
   unfold badAll
   rw [T5]; rfl
  rw [hdoor]
  have hbd:((wsL lines).filter fun w=>hdB w hDoor).any (fun d=>!decide (a<=F95 (d.getD 3 default)/\F95 (d.getD 3 default)<a+F153 L) || decide (F123 (w.getD 3 default)<=F123 (d.getD 2 default)/\F123 (d.getD 2 default)<=F123 (w.getD 4 default)))=((wsL lines).filter fun w=>hdB w hDoor).any (badD a (F153 L) (F123 (w.getD 3 default)) (F123 (w.getD 4 default))):=any_congr_mem fun d _=>by
   unfold badD
   congr 1
   rw [<- decide_not,<- Bool.decide_or]
   exact T1.2 uu0
  rw [hbd]
  show (_ || badAll a (F153 L) (F123 (w.getD 3 default)) (F123 (w.getD 4 default)) ((wsL lines).filter fun w=>hdB w hDoor))=_
  have g1:decide (a<=F95 (w.getD 2 default)/\F95 (w.getD 2 default)<a+F153 L)=!(decide (F95 (w.getD 2 default)<a) || decide (F95 (w.getD 2 default)>=a+F153 L)):=by
   rw [<- Bool.decide_or,<- decide_not]
   exact T1.2 uu0
  have g2:decide (F123 (w.getD 3 default)>F123 (w.getD 4 default))=!decide (F123 (w.getD 3 default)<=F123 (w.getD 4 default)):=by
   rw [<- decide_not]
   exact T1.2 uu0
  have g3:decide ((((wsL lines).filter fun w=>hdB w hDoor).length:Int)>6)=!decide ((((wsL lines).filter fun w=>hdB w hDoor).length:Int)<=6):=by
   rw [<- decide_not]
   exact T1.2 uu0
  rw [g1,g2,g3]
  generalize (decide (F95 (w.getD 2 default)<a) || decide (F95 (w.getD 2 default)>=a+F153 L))=x1,decide (F123 (w.getD 3 default)<=F123 (w.getD 4 default))=x2,decide ((((wsL lines).filter fun w=>hdB w hDoor).length:Int)<=6)=x3,badAll a (F153 L) (F123 (w.getD 3 default)) (F123 (w.getD 4 default)) ((wsL lines).filter fun w=>hdB w hDoor)=x4
  cases x1 <;> cases x2 <;> cases x3 <;> cases x4 <;> rfl
theorem check_pre (lines:List Za) (hz:∀ k:Nat,(lines.getD k default).size<=1048576) (h:F52 lines=0):F58 lines=0/\lines.length<=16/\∀ k:Nat,(lines.getD k default).size<=1048576:=by
 rw [neat_same] at h
 exact ⟨h,neat_len lines h,hz⟩
theorem cuts_sz (lines:List Za) (hz:∀ k:Nat,(lines.getD k default).size<=1048576):∀ k j:Nat,(((lines.map (fun l=>(⟨(F11 l).1⟩:l52Cut))).getD k default).w.getD j default).size<=1048576:=fun k j=>by
 by_cases hk:k<lines.length
 ·rw [getD_mapG _ _ _ hk]
  exact specwords_sz (lines.getD k default) j
 ·have e:(lines.map (fun l=>(⟨(F11 l).1⟩:l52Cut))).getD k default=default:=by
   rw [Qe,Gg (by rw [Sg]; omega)]; rfl
  rw [e]
  exact Re _
theorem kc52 (lines:List Za) {K_:Prop} (p0_:∀ k:Nat,(lines.getD k default).size<=1048576) (k_:K_):(∀ k:Nat,(lines.getD k default).size<=1048576)/\(Imp (.l 1 eStr lines) (.l 1 eStr lines))/\K_:=⟨p0_,Imp.refl _,k_⟩
abbrev kh52 (lines:List Za):Hint false Tryz.prog:=.call 52 (S52 lines) (ok52 lines) none
def fsB58 (p:(List Za)->Bool):FnSpec:=⟨List Za,fun i=>[.c (.x (PX (.l 1 eStr i) (F58 i=0/\i.length<=16/\∀ k:Nat,(i.getD k default).size<=1048576)))],fun i=>.bool (p i)⟩
def eFn58 (p:(List Za)->Bool):List Dat:=[.x (FnX Tryz.prog (fsB58 p))]
def fh53:FnH Tryz.prog:=⟨false,53,fsB58 (fun x0=>F53 x0),[],rfl,True,fun i=>ok_px (ok53 i)⟩
theorem ca53:callable Tryz.prog 53=true:=by kernel_rfl
def fh54:FnH Tryz.prog:=⟨false,54,fsB58 (fun x0=>F54 x0),[],rfl,True,fun i=>ok_px (ok54 i)⟩
theorem ca54:callable Tryz.prog 54=true:=by kernel_rfl
def fh55:FnH Tryz.prog:=⟨false,55,fsB58 (fun x0=>F55 x0),[],rfl,True,fun i=>ok_px (ok55 i)⟩
theorem ca55:callable Tryz.prog 55=true:=by kernel_rfl
def fh56:FnH Tryz.prog:=⟨false,56,fsB58 (fun x0=>F56 x0),[],rfl,True,fun i=>ok_px (ok56 i)⟩
theorem ca56:callable Tryz.prog 56=true:=by kernel_rfl
def fh57:FnH Tryz.prog:=⟨false,57,fsB58 (fun x0=>F57 x0),[],rfl,True,fun i=>ok_px (ok57 i)⟩
theorem ca57:callable Tryz.prog 57=true:=by kernel_rfl
def F18_s0 (lines:List Za):Int->Lp Int Int:=fun v13 =>
 bif (decide (v13<(([(fun x0=>F53 x0),(fun x0=>F54 x0),(fun x0=>F55 x0),(fun x0=>F56 x0),(fun x0=>F57 x0)]:List ((List Za)->Bool)).length:Int))) then (bif ((([(fun x0=>F53 x0),(fun x0=>F54 x0),(fun x0=>F55 x0),(fun x0=>F56 x0),(fun x0=>F57 x0)]:List ((List Za)->Bool)).getD v13.toNat default) lines) then (.ret (5+v13)) else (.next (v13+1))) else (.done v13)
def F18 (lines:List Za):Int :=
 bif ((F52 lines) != 0) then (F52 lines) else ((runL (F18_s0 lines) (((([(fun x0=>F53 x0),(fun x0=>F54 x0),(fun x0=>F55 x0),(fun x0=>F56 x0),(fun x0=>F57 x0)]:List ((List Za)->Bool)).length:Int)-0).toNat+1) 0).fin (fun r=>r) (fun v13=>0))
abbrev lN18_0:Nat×Int:=((((([(fun x0=>F53 x0),(fun x0=>F54 x0),(fun x0=>F55 x0),(fun x0=>F56 x0),(fun x0=>F57 x0)]:List ((List Za)->Bool)).length:Int)-0).toNat+1),0)
abbrev lI18_0 (m39:Nat) (v13:Int):Prop:=(Int.toNat ((([(fun x0=>F53 x0),(fun x0=>F54 x0),(fun x0=>F55 x0),(fun x0=>F56 x0),(fun x0=>F57 x0)]:List ((List Za)->Bool)).length:Int)-v13)<m39)/\(0:Int)<=v13
abbrev lX18_0 (lines:List Za):Lp Int Int:=LpX (F18_s0 lines) (lN18_0)
abbrev lJ18_0 (lines:List Za) (i:Nat×Int):Prop:=LpJ (F18_s0 lines) (lN18_0) i (lI18_0 i.1 i.2)
abbrev lH18_0 (lines:List Za) (i:Nat×Int) (m39:Nat) (v13:Int):Prop:=LpH (F18_s0 lines) (lN18_0) i m39 v13 (lI18_0 (m39+1) v13)
abbrev lE18_0 (lines:List Za) (v13:Int) (v13_:Int) (K39:Prop):Prop:=(Rf (.int .i64 (([(fun x0=>F53 x0),(fun x0=>F54 x0),(fun x0=>F55 x0),(fun x0=>F56 x0),(fun x0=>F57 x0)]:List ((List Za)->Bool)).length:Int)))/\((.int .i64 v13:Value)=.int .i64 v13_)/\(Im (.l 1 eStr lines))/\(Im (.l 1 eFn58 ([(fun x0=>F53 x0),(fun x0=>F54 x0),(fun x0=>F55 x0),(fun x0=>F56 x0),(fun x0=>F57 x0)]:List ((List Za)->Bool))))/\K39
theorem un18_0 (lines:List Za) (i:Nat×Int) (h:lJ18_0 lines i):lH18_0 lines i (i.1-1) i.2:=⟨hd1 h.1 h.2.1,hd3 h.2.1,hd2 h.2.1,h.2.2⟩
theorem bk18_0 (lines:List Za) (i:Nat×Int) (m39:Nat) (v13:Int) (hl:m39<i.1) (e:runL (F18_s0 lines) m39 v13=lX18_0 lines) (h:lI18_0 m39 v13):∃ j:Nat×Int,lE18_0 lines v13 j.2 (lJ18_0 lines j/\j.1<i.1):=⟨(m39,v13),rfl,rfl,Imp.refl _,Imp.refl _,⟨e,h⟩,hl⟩
theorem en18_0 (lines:List Za) (h:(0:Int)<=0):lE18_0 lines 0 0 (lJ18_0 lines (lN18_0)):=⟨rfl,rfl,Imp.refl _,Imp.refl _,rfl,Qr _,h⟩
def S18 (lines:List Za):Spec:=⟨[.r (.c (.l 1 eStr lines))],.v (vI (F18 lines)),lines.length<=1048576/\(∀ k:Nat,(lines.getD k default).size<=1048576)⟩
theorem ok18 (lines:List Za):(S18 lines).ok Tryz.prog 18 false :=
 fnG_ok mixed (fn:=Tryz.f18) (ct:=.seqk [(0,0)] .no (.seq (.seq (.reg [(1,kh52 lines)]) (.seq .no (.cond (.seq .no .no) .no))) (.seq (.seqk [(0,0),(11,0)] (.reg [(0,.dat (.l 1 eFn58 ([(fun x0=>F53 x0),(fun x0=>F54 x0),(fun x0=>F55 x0),(fun x0=>F56 x0),(fun x0=>F57 x0)]:List ((List Za)->Bool))))]) (.blk (.loop (ι:=Nat×Int) (fun i=>(fun (v13:Int)=>(⟨[(0,some (.h 0 0)),(11,some (.h 1 0)),(12,some (.v (vI (([(fun x0=>F53 x0),(fun x0=>F54 x0),(fun x0=>F55 x0),(fun x0=>F56 x0),(fun x0=>F57 x0)]:List ((List Za)->Bool)).length:Int)))),(13,some (.v (vI v13)))],[(0,some (.shr none (.l 1 eStr lines))),(1,some (.own 1 (.l 1 eFn58 ([(fun x0=>F53 x0),(fun x0=>F54 x0),(fun x0=>F55 x0),(fun x0=>F56 x0),(fun x0=>F57 x0)]:List ((List Za)->Bool)))))],2⟩:St)) i.2) (lJ18_0 lines) (fun i=>i.1) (lN18_0) (fun i=>(fun (v13:Int)=>(.seq .no (.seq (.cond .no .no) (.seq (.blk (.seq .no (.seq (.reg [(2,.fnv (fsB58 (([(fun x0=>F53 x0),(fun x0=>F54 x0),(fun x0=>F55 x0),(fun x0=>F56 x0),(fun x0=>F57 x0)]:List ((List Za)->Bool)).getD v13.toNat default)) lines)]) (.cond (.seq (.reg [(1,.bnd)]) .no) .no)))) (.reg [(0,.bnd)]))))) i.2)))) (.seq .no .no)))) Tryz.func18 (fun (hp:lines.length<=1048576/\(∀ k:Nat,(lines.getD k default).size<=1048576))=>have hpre0:=hp.1; have hpre1:=hp.2; kn lines fun _=>kc52 lines uu37 (ifn (F52 lines) 0 (fun h1 _=>fiI (F52 lines) (F18 lines) (condT h1 rfl)) (fun h1 _=>ai (BuildOK.mk eFn58 ([(fun x0=>F53 x0),(fun x0=>F54 x0),(fun x0=>F55 x0),(fun x0=>F56 x0),(fun x0=>F57 x0)]:List ((List Za)->Bool)) rfl (by exact ai (Imp.fn fh53 rfl trivial ca53) (ai (Imp.fn fh54 rfl trivial ca54) (ai (Imp.fn fh55 rfl trivial ca55) (ai (Imp.fn fh56 rfl trivial ca56) (ai (Imp.fn fh57 rfl trivial ca57) trivial))))) (fun _=>rfl):BuildOK 5 1 [.v (.func (.func 53) #[] #[]),.v (.func (.func 54) #[] #[]),.v (.func (.func 55) #[] #[]),.v (.func (.func 56) #[] #[]),.v (.func (.func 57) #[] #[])] (.l 1 eFn58 ([(fun x0=>F53 x0),(fun x0=>F54 x0),(fun x0=>F55 x0),(fun x0=>F56 x0),(fun x0=>F57 x0)]:List ((List Za)->Bool)))) (kn lines fun _=>kn ([(fun x0=>F53 x0),(fun x0=>F54 x0),(fun x0=>F55 x0),(fun x0=>F56 x0),(fun x0=>F57 x0)]:List ((List Za)->Bool)) fun _=>ai (en18_0 lines uu0) (fun (i0:Nat×Int) (hi0:lJ18_0 lines i0)=>(fun (m0:Nat) (v13:Int) (hh0:lH18_0 lines i0 m0 v13)=>have hI0:=hh0.1; have hl0:=hh0.2.1; have _:=hh0.2.2.1; have _:=hh0.2.2.2; ifd (v13<(([(fun x0=>F53 x0),(fun x0=>F54 x0),(fun x0=>F55 x0),(fun x0=>F56 x0),(fun x0=>F57 x0)]:List ((List Za)->Bool)).length:Int)) (fun h3 _=>ai (uu0:ib v13 ([(fun x0=>F53 x0),(fun x0=>F54 x0),(fun x0=>F55 x0),(fun x0=>F56 x0),(fun x0=>F57 x0)]:List ((List Za)->Bool))) (ai (Eq.refl (FnX Tryz.prog (fsB58 (([(fun x0=>F53 x0),(fun x0=>F54 x0),(fun x0=>F55 x0),(fun x0=>F56 x0),(fun x0=>F57 x0)]:List ((List Za)->Bool)).getD v13.toNat default)))) (ai (Imp.px (d:=.l 1 eStr lines) (by exact check_pre lines (by assumption) (by omega):F58 lines=0/\lines.length<=16/\∀ k:Nat,(lines.getD k default).size<=1048576)) (ifb ((([(fun x0=>F53 x0),(fun x0=>F54 x0),(fun x0=>F55 x0),(fun x0=>F56 x0),(fun x0=>F57 x0)]:List ((List Za)->Bool)).getD v13.toNat default) lines) (fun h4=>ai (iok (5+v13) uu72) (fiI (5+v13) (F18 lines) (condF h1 (finR (runL_ret hI0 (condT h3 (condT h4 rfl))) rfl)))) (fun h4=>ai (iok (v13+1) uu72) (bk18_0 lines i0 m0 (v13+1) hl0 (runL_next hI0 (condT h3 (condF h4 rfl))) uu6)))))) (fun h3 _=>have hD0_5:lX18_0 lines=Lp.done v13:=runL_done hI0 (condF h3 rfl); fiI 0 (F18 lines) (condF h1 (finD hD0_5 rfl)))) (i0.1-1) i0.2 (un18_0 lines i0 hi0)))))) uu3
theorem kc58 (lines:List Za) {K_:Prop} (p0_:∀ k:Nat,(lines.getD k default).size<=1048576) (k_:K_):(∀ k:Nat,(lines.getD k default).size<=1048576)/\(Imp (.l 1 eStr lines) (.l 1 eStr lines))/\K_:=⟨p0_,Imp.refl _,k_⟩
abbrev kh58 (lines:List Za):Hint true Tryz.prog:=.call 58 (S58 lines) (ok58 lines) none
theorem kc59a (lines:List Za) {K_:Prop} (p0_:lines.length<=16) (p1_:∀ k:Nat,(lines.getD k default).size<=1048576) (k_:K_):(lines.length<=16/\(∀ k:Nat,(lines.getD k default).size<=1048576))/\(Imp (.l 1 eStr lines) (.l 1 eStr lines))/\K_:=⟨⟨p0_,p1_⟩,Imp.refl _,k_⟩
abbrev kh59a (lines:List Za):Hint true Tryz.prog:=.call 59 (T59 (lines.map (fun l=>(⟨(F11 l).1⟩:l52Cut))) lines) (oa59 lines) none
def F19 (lines:List Za):Int :=
 bif ((F58 lines) != 0) then (F58 lines) else (bif (!(F60 (lines.map (fun l=>(⟨(F11 l).1⟩:l52Cut))))) then 5 else (bif (!(F61 (lines.map (fun l=>(⟨(F11 l).1⟩:l52Cut))))) then 6 else (bif (!(F62 (lines.map (fun l=>(⟨(F11 l).1⟩:l52Cut))))) then 7 else (bif (!(F63 (lines.map (fun l=>(⟨(F11 l).1⟩:l52Cut))))) then 8 else (bif (!(F64 (lines.map (fun l=>(⟨(F11 l).1⟩:l52Cut))))) then 9 else 0)))))
def S19 (lines:List Za):Spec:=⟨[.r (.c (.l 1 eStr lines))],.v (vI (F19 lines)),lines.length<=1048576/\(∀ k:Nat,(lines.getD k default).size<=1048576)⟩
theorem ok19 (lines:List Za):(S19 lines).ok Tryz.prog 19 :=
 fnG_ok mixed (fn:=Tryz.f19) (ct:=.seqk [(0,0)] .no (.seq (.reg [(1,kh58 lines)]) (.seq (.seq .no (.cond (.seq .no .no) .no)) (.seq (.reg [(1,kh59a lines)]) (.seq (.blk (.seq (.reg [(1,.call 60 (S60 (lines.map (fun l=>(⟨(F11 l).1⟩:l52Cut)))) (ok60 (lines.map (fun l=>(⟨(F11 l).1⟩:l52Cut)))) none)]) (.cond (.seq .no .no) (.seq (.reg [(1,.call 61 (S61 (lines.map (fun l=>(⟨(F11 l).1⟩:l52Cut)))) (ok61 (lines.map (fun l=>(⟨(F11 l).1⟩:l52Cut)))) none)]) (.cond (.seq .no .no) (.seq (.reg [(1,.call 62 (S62 (lines.map (fun l=>(⟨(F11 l).1⟩:l52Cut)))) (ok62 (lines.map (fun l=>(⟨(F11 l).1⟩:l52Cut)))) none)]) (.cond (.seq .no .no) (.seq (.reg [(1,.call 63 (S63 (lines.map (fun l=>(⟨(F11 l).1⟩:l52Cut)))) (ok63 (lines.map (fun l=>(⟨(F11 l).1⟩:l52Cut)))) none)]) (.cond (.seq .no .no) (.seq (.reg [(1,.call 64 (S64 (lines.map (fun l=>(⟨(F11 l).1⟩:l52Cut)))) (ok64 (lines.map (fun l=>(⟨(F11 l).1⟩:l52Cut)))) none)]) (.cond (.seq .no .no) .no))))))))))) (.seq .no .no)))))) Tryz.func19 (fun (hp:lines.length<=1048576/\(∀ k:Nat,(lines.getD k default).size<=1048576))=>have hpre0:=hp.1; have hpre1:=hp.2; kn lines fun _=>kc58 lines uu37 (ifn (F58 lines) 0 (fun h1 _=>fiI (F58 lines) (F19 lines) (condT h1 rfl)) (fun h1 _=>kc59a lines uu73 uu73 (ai trivial (ai (Imp.refl (.l 1 el52Cut (lines.map (fun l=>(⟨(F11 l).1⟩:l52Cut))))) (ifb (!(F60 (lines.map (fun l=>(⟨(F11 l).1⟩:l52Cut))))) (fun h2=>fiI 5 (F19 lines) (condF h1 (condT h2 rfl))) (fun h2=>ai trivial (ai (Imp.refl (.l 1 el52Cut (lines.map (fun l=>(⟨(F11 l).1⟩:l52Cut))))) (ifb (!(F61 (lines.map (fun l=>(⟨(F11 l).1⟩:l52Cut))))) (fun h3=>fiI 6 (F19 lines) (condF h1 (condF h2 (condT h3 rfl)))) (fun h3=>ai (uu56:∀ k j:Nat,(((lines.map (fun l=>(⟨(F11 l).1⟩:l52Cut))).getD k default).w.getD j default).size<=1048576) (ai (Imp.refl (.l 1 el52Cut (lines.map (fun l=>(⟨(F11 l).1⟩:l52Cut))))) (ifb (!(F62 (lines.map (fun l=>(⟨(F11 l).1⟩:l52Cut))))) (fun h4=>fiI 7 (F19 lines) (condF h1 (condF h2 (condF h3 (condT h4 rfl))))) (fun h4=>ai (uu56:∀ k j:Nat,(((lines.map (fun l=>(⟨(F11 l).1⟩:l52Cut))).getD k default).w.getD j default).size<=1048576) (ai (Imp.refl (.l 1 el52Cut (lines.map (fun l=>(⟨(F11 l).1⟩:l52Cut))))) (ifb (!(F63 (lines.map (fun l=>(⟨(F11 l).1⟩:l52Cut))))) (fun h5=>fiI 8 (F19 lines) (condF h1 (condF h2 (condF h3 (condF h4 (condT h5 rfl)))))) (fun h5=>ai (uu56:∀ k j:Nat,(((lines.map (fun l=>(⟨(F11 l).1⟩:l52Cut))).getD k default).w.getD j default).size<=1048576) (ai (Imp.refl (.l 1 el52Cut (lines.map (fun l=>(⟨(F11 l).1⟩:l52Cut))))) (ifb (!(F64 (lines.map (fun l=>(⟨(F11 l).1⟩:l52Cut))))) (fun h6=>fiI 9 (F19 lines) (condF h1 (condF h2 (condF h3 (condF h4 (condF h5 (condT h6 rfl))))))) (fun h6=>fiI 0 (F19 lines) (condF h1 (condF h2 (condF h3 (condF h4 (condF h5 (condF h6 rfl))))))))))))))))))))))))) uu3
theorem check_same (lines:List Za):F18 lines=F19 lines:=by
 unfold F18 F19
 rw [neat_same]
 cases hn:(F58 lines != 0) with
 | true=>rfl
 | false =>
  have h0:F58 lines=0:=by simpa using hn
  rw [Qb,Qb]
  have e:(lines.map (fun l=>(⟨(F11 l).1⟩:l52Cut)))=(wsL lines).map l52Cut.mk:=by
   unfold wsL
   rw [Gp]; rfl
  rw [e]
  have k1:=noRuler_same lines h0
  have k2:=listsWrong_same lines h0
  have k3:=overlap_same lines h0
  have k4:=nextsWrong_same lines h0
  have k5:=natWrong_same lines h0
  rw [<- k1,<- k2,<- k3,<- k4,<- k5]
  have s0:F18_s0 lines 0=bif F53 lines then .ret 5 else .next 1:=rfl
  have s1:F18_s0 lines 1=bif F54 lines then .ret 6 else .next 2:=rfl
  have s2:F18_s0 lines 2=bif F55 lines then .ret 7 else .next 3:=rfl
  have s3:F18_s0 lines 3=bif F56 lines then .ret 8 else .next 4:=rfl
  have s4:F18_s0 lines 4=bif F57 lines then .ret 9 else .next 5:=rfl
  have s5:F18_s0 lines 5=.done 5:=rfl
  show (runL (F18_s0 lines) 6 0).fin _ _=_
  cases b0:F53 lines with
  | true=>rw [b0,Qc] at s0; rw [runL_r _ s0]; rfl
  | false =>
  rw [b0,Qb] at s0; rw [runL_n _ s0]
  cases b1:F54 lines with
  | true=>rw [b1,Qc] at s1; rw [runL_r _ s1]; rfl
  | false =>
  rw [b1,Qb] at s1; rw [runL_n _ s1]
  cases b2:F55 lines with
  | true=>rw [b2,Qc] at s2; rw [runL_r _ s2]; rfl
  | false =>
  rw [b2,Qb] at s2; rw [runL_n _ s2]
  cases b3:F56 lines with
  | true=>rw [b3,Qc] at s3; rw [runL_r _ s3]; rfl
  | false =>
  rw [b3,Qb] at s3; rw [runL_n _ s3]
  cases b4:F57 lines with
  | true=>rw [b4,Qc] at s4; rw [runL_r _ s4]; rfl
  | false =>
  rw [b4,Qb] at s4; rw [runL_n _ s4,runL_d _ s5]; rfl
theorem check_len (lines:List Za) (h:F19 lines=0):lines.length<=16:=by
 unfold F19 at h
 cases hn:(F58 lines != 0) with
 | true=>rw [hn,Qc] at h; rw [h] at hn; exact absurd hn uu1
 | false=>exact neat_len lines (by simpa using hn)
theorem check_lenI (lines:List Za) (h:F18 lines=0):lines.length<=16:=check_len lines (by rw [<- check_same]; exact h)
theorem sz1:Zn.size=1:=rfl


def ltB (a b:Za):Bool:=Op.bytesLess a.toList b.toList
theorem bless_eq:∀ (x y:List UInt8),Op.bytesLess x y=decide (x<y)
 | [],[]=>by simp [Op.bytesLess]
 | _ :: _,[]=>by simp [Op.bytesLess]
 | [],_ :: _=>by simp [Op.bytesLess]
 | a :: x,b :: y=>by
  rw [Op.bytesLess,bless_eq x y]
  simp only [List.cons_lt_cons_iff]
  by_cases h1:a<b <;> by_cases h2:a=b <;> by_cases h3:x<y <;> simp [h1,h2,h3]
theorem ltB_iff (a b:Za):ltB a b=true↔a.data.toList<b.data.toList:=by
 unfold ltB
 rw [byteToList,byteToList,bless_eq,Rj]
theorem ltB_irrefl (a:Za):ltB a a=false:=by
 rw [Sw,ne_eq,ltB_iff]
 exact List.lt_irrefl _
theorem ltB_trans {a b c:Za} (h1:ltB a b=true) (h2:ltB b c=true):ltB a c=true:=by
 rw [ltB_iff] at *
 exact List.lt_trans h1 h2
theorem ltB_tri (a b:Za):ltB a b=true\/a=b\/ltB b a=true:=by
 rw [ltB_iff,ltB_iff]
 rcases Sk (a.data.toList<b.data.toList) with h | h
 ·exact .inl h
 ·rcases Sk (b.data.toList<a.data.toList) with h2 | h2
  ·exact .inr (.inr h2)
  ·refine .inr (.inl (ba_ext (List.le_antisymm ?_ ?_)))
   ·exact List.not_lt.1 h2
   ·exact List.not_lt.1 h
theorem ltB_asymm {a b:Za} (h:ltB a b=true):ltB b a=false:=by
 rw [Sw]
 intro h2
 have:=ltB_trans h h2
 rw [ltB_irrefl] at this
 cases this
def SortedB (xs:List Za):Prop:=xs.Pairwise fun a b=>ltB a b=true
theorem sorted_ext:∀ {xs ys:List Za},SortedB xs->SortedB ys->(∀ z,z∈xs↔z∈ys)->xs=ys
 | [],[],_,_,_=>rfl
 | [],y :: ys,_,_,h=>absurd ((h y).2 Qi) Rl
 | x :: xs,[],_,_,h=>absurd ((h x).1 Qi) Rl
 | x :: xs,y :: ys,hx,hy,h=>by
  obtain ⟨hx1,hx2⟩:=Gf.1 hx
  obtain ⟨hy1,hy2⟩:=Gf.1 hy
  have hno:∀ {a:Za} {r:List Za},(∀ b∈r,ltB a b=true)->a ∉ r:=fun h hm=>by
   have:=h _ hm
   rw [ltB_irrefl] at this
   cases this
  have e:x=y:=by
   rcases Qt.1 ((h x).1 Qi) with e | hm
   ·exact e
   ·rcases Qt.1 ((h y).2 Qi) with e | hm2
    ·exact e.symm
    ·have:=ltB_asymm (hy1 x hm)
     rw [hx1 y hm2] at this
     cases this
  subst e
  rw [sorted_ext hx2 hy2 fun z=>⟨fun hz=>?_,fun hz=>?_⟩]
  ·rcases Qt.1 ((h z).1 (Qg _ hz)) with rfl | hm
   ·exact absurd hz (hno hx1)
   ·exact hm
  ·rcases Qt.1 ((h z).2 (Qg _ hz)) with rfl | hm
   ·exact absurd hz (hno hy1)
   ·exact hm
theorem sortS_perm (xs:List Za):(sortS xs).Perm xs:=by
 unfold sortS
 have h:=(List.mergeSort_perm (xs.map (·.data.toList)) fun x y=>decide (x<=y)).map fun l:List UInt8=>(⟨l.toArray⟩:Za)
 refine h.trans (List.Perm.of_eq ?_)
 rw [Gp]
 exact (T6 fun a _=>show (⟨a.data.toList.toArray⟩:Za)=a from by simp).trans (Hl _)
theorem sortS_mem {xs:List Za} {z:Za}:z∈sortS xs↔z∈xs:=(sortS_perm xs).mem_iff
theorem sortS_sorted (xs:List Za) (h:xs.Nodup):SortedB (sortS xs):=by
 have hn:(sortS xs).Nodup:=(sortS_perm xs).nodup_iff.2 h
 have hp:(sortS xs).Pairwise fun a b=>ltB b a=false:=by
  unfold sortS
  rw [List.pairwise_map]
  refine (List.pairwise_mergeSort (le:=fun x y:List UInt8=>decide (x<=y)) ?_ ?_ _).imp ?_
  ·intro a b c h1 h2
   simp only [Rj] at *
   exact List.le_trans h1 h2
  ·intro a b
   simp only [Se,Rj]
   exact List.le_total a b
  ·intro a b h1
   rw [Sw,ne_eq,ltB_iff]
   simp only [Rj] at h1
   exact List.not_lt.2 h1
 refine (hp.and hn).imp ?_
 rintro a b ⟨h1,h2⟩
 rcases ltB_tri a b with h | h | h
 ·exact h
 ·exact absurd h h2
 ·rw [h1] at h; cases h
theorem sorted_at {xs:List Za} (h:∀ i,i+1<xs.length->ltB (xs.getD i default) (xs.getD (i+1) default)=true):SortedB xs:=by
 induction xs with
 | nil=>exact List.Pairwise.nil
 | cons x xs ih =>
  have h2:SortedB xs:=ih fun i hi=>by
   have:=h (i+1) (by simpa using hi)
   simpa using this
  refine Gf.2 ⟨fun y hy=>?_,h2⟩
  cases xs with
  | nil=>cases hy
  | cons z r =>
   have h0:ltB x z=true:=by simpa using h 0 uu14
   rcases Qt.1 hy with rfl | hm
   ·exact h0
   ·exact ltB_trans h0 ((Gf.1 h2).1 y hm)
theorem anyF_no {p:Nat->Bool}:∀ (m i:Nat),anyF p i m=false->∀ k,i<=k->k<i+m->p k=false
 | 0,i,_,k,h1,h2=>by omega
 | m+1,i,h,k,h1,h2=>by
  rw [anyF,Tn] at h
  rcases Nat.eq_or_lt_of_le h1 with rfl | hlt
  ·exact h.1
  ·exact anyF_no m (i+1) h.2 k hlt uu0
theorem neat_sorted (lines:List Za) (h:F58 lines=0):SortedB lines:=by
 have hk:=(nt_facts lines h).2
 unfold F58 at h
 cases h16:decide ((lines.length:Int)>16) with
 | true=>rw [h16,Qc] at h; exact absurd h uu1
 | false =>
 rw [h16,Qb] at h
 have h0:=fun (f:Int->Int) (g:Int->Int) (y:Int) (hg:∀ i,g i=y)=>anyL lines (fun l=>!F47 l) (2:Int) (F58_s0 lines) (fun i hi=>by
  simp only [F58_s0,ltD hi,Qc,nn,getD_map _ _ _ hi,key_empty]
  rfl) uu45 f g y hg
 have hany:(lines.any fun l=>!F47 l)=false:=by
  rw [Sw]
  intro hc
  obtain ⟨x,hx,hp⟩:=Ry.1 hc
  rw [hk x hx] at hp
  cases hp
 rw [h0 (fun r=>r) _ _ (fun _=>rfl),hany,Qb] at h
 refine sorted_at fun i hi=>?_
 have h1:=fun (y:Int)=>any_loop (F58_s1 lines) lines.length (fun k=>!ltB (lines.getD (k-1) default) (lines.getD k default)) (3:Int) (fun r=>r) y (fun k hk=>by
  simp only [F58_s1,ltD hk,Qc,nn]
  rw [show Int.toNat ((k:Int)-1)=k-1 by omega]; rfl) (by simp only [F58_s1,geD,Qb]) (lines.length-1) 1 uu0 (Int.toNat ((lines.length:Int)-1)+1) uu0
 have h2:=h1 ((runL (F58_s2 lines) (((lines.length:Int)-0).toNat+1) 0).fin (fun r=>r) (fun i42=>0))
 have h3:=h2.symm.trans h
 cases ha:anyF (fun k=>!ltB (lines.getD (k-1) default) (lines.getD k default)) 1 (lines.length-1) with
 | true=>rw [ha,Qc] at h3; exact absurd h3 uu1
 | false =>
  have:=anyF_no _ _ ha (i+1) uu0 uu0
  simpa using this
def F66 (x9:List Za):List Za :=
 sortS x9
def S66 (x9:List Za):Spec:=⟨[.ow (.l 1 eStr x9) (some (.l 1 eStr (F66 x9)))],.tu [],x9.length<=4000000000000000000⟩
theorem ok66 (x9:List Za):(S66 x9).ok Tryz.prog 66 :=
 sortS_ok laySortS x9
theorem kc66 (x9:List Za) {K_:Prop} (p0_:x9.length<=4000000000000000000) (k_:K_):(x9.length<=4000000000000000000)/\(Imp (.l 1 eStr x9) (.l 1 eStr x9))/\K_:=⟨p0_,Imp.refl _,k_⟩
theorem mem_sz {xs:List Za} {n:Nat} (h:∀ k:Nat,(xs.getD k default).size<=n) {x:Za} (hx:x∈xs):x.size<=n:=by
 obtain ⟨k,hk,rfl⟩:=mem_getD hx
 exact h k
theorem getD_sz {xs:List Za} {n:Nat} (h:∀ x∈xs,x.size<=n) (k:Nat):(xs.getD k default).size<=n:=by
 rw [Qe]
 cases hx:xs[k]? with
 | none=>exact Re n
 | some x=>exact h x (Rg hx)

theorem drop_at (xs:List Za) (i:Nat) (h:i<xs.length):xs.drop i=xs.getD i default :: xs.drop (i+1):=by
 rw [Rd h,Qe,Qj h]; rfl



theorem cutS_len (s:Za) (a:Int):1<=(F85 s a).length/\(F85 s a).length<=s.size+1:=by
 obtain ⟨c,e⟩:=cutS_any s a
 rw [e,<- splitS_mk]
 exact ⟨splitS_pos s _ (Qn 1),splitS_le s _ (Qn 1)⟩
theorem cutS_pos (s:Za) (a:Int):1<=(F85 s a).length:=(cutS_len s a).1
theorem specLine_sz (line:Za):(F9 line).1.size<=1048576:=by
 unfold F9
 rw [specJoin_eq,<- words_same]
 cases (bif (!((F10 line).2)) then true else (!(F36 ((F10 line).1)))) with
 | true=>exact Re _
 | false =>
  have h:=join_sz (F10 line).1 Zd 24 (words_sz24 line)
  have hl:=words_len line
  have h2:(F10 line).1.length*(24+Zd.size)<=8*25:=Ra 25 hl
  show (joinS (F10 line).1 Zd).size<=1048576
  omega
theorem implLine_sz (line:Za):(F8 line).1.size<=1048576:=by
 rw [line_same]; exact specLine_sz line
def F70 (text:Za):List Za :=
 bif (((F85 text 10).getD (((F85 text 10).length:Int)-1).toNat default).toList==Zf.toList) then ((F85 text 10).take (((F85 text 10).length:Int)-1).toNat) else (F85 text 10)
theorem fi70 (text:Za) (r:List Za) (hF:r=(F70 text)):(Imp (.l 1 eStr r) (.l 1 eStr (F70 text)))/\True:=by cases hF; exact ⟨Imp.refl _,trivial⟩
def S70 (text:Za):Spec:=⟨[.r (.c (.v (.string text)))],.ow (.l 1 eStr (F70 text)),text.size<=1048576⟩
theorem ok70 (text:Za):(S70 text).ok Tryz.prog 70 :=
 fnG_ok mixed (fn:=Tryz.f70) (ct:=.seq .no (.seq (.reg [(1,kh85 text 10)]) (.seq (.seq (.reg [(3,.bnd)]) (.cond (.seq (.reg [(3,.bnd),(4,.own)]) .no) .no)) (.seq .no .no)))) Tryz.func70 (fun (hpre0:text.size<=1048576)=>kc85 text 10 uu2 uu2 (fun gv1=>have gv2:1<=(F85 text 10).length:=(by exact cutS_pos _ _); have gv3:(F85 text 10).length<=text.size+1:=(by exact (cutS_len _ _).2); ai (iok (((F85 text 10).length:Int)-1) uu2) (ai (uu2:ib (((F85 text 10).length:Int)-1) (F85 text 10)) (ifb (((F85 text 10).getD (((F85 text 10).length:Int)-1).toNat default).toList==Zf.toList) (fun h4=>ai (iok (((F85 text 10).length:Int)-1) uu2) (ai (uu2:0<=(0:Int)/\(0:Int)<=(((F85 text 10).length:Int)-1)/\(((F85 text 10).length:Int)-1)<=((F85 text 10).length:Int)) (fi70 text ((F85 text 10).take (((F85 text 10).length:Int)-1).toNat) (condT h4 rfl)))) (fun h4=>fi70 text (F85 text 10) (condF h4 rfl)))))) uu3
def F99_s0 (lines:List Za) (key:Za):Int->Lp Int Int:=fun i40 =>
 bif (decide (i40<(lines.length:Int))) then (bif ((F14 (lines.getD i40.toNat default)).toList==key.toList) then (.ret i40) else (.next (i40+1))) else (.done i40)
def F99 (lines:List Za) (key:Za):Int :=
 (runL (F99_s0 lines key) (((lines.length:Int)-0).toNat+1) 0).fin (fun r=>r) (fun i40=>(-1))
abbrev lN99_0 (lines:List Za):Nat×Int:=((((lines.length:Int)-0).toNat+1),0)
abbrev lI99_0 (lines:List Za) (m39:Nat) (i40:Int):Prop:=Int.toNat ((lines.length:Int)-i40)<m39/\(0:Int)<=i40
abbrev lX99_0 (lines:List Za) (key:Za):Lp Int Int:=LpX (F99_s0 lines key) (lN99_0 lines)
abbrev lJ99_0 (lines:List Za) (key:Za) (i:Nat×Int):Prop:=LpJ (F99_s0 lines key) (lN99_0 lines) i (lI99_0 lines i.1 i.2)
abbrev lH99_0 (lines:List Za) (key:Za) (i:Nat×Int) (m39:Nat) (i40:Int):Prop:=LpH (F99_s0 lines key) (lN99_0 lines) i m39 i40 (lI99_0 lines (m39+1) i40)
abbrev lE99_0 (lines:List Za) (key:Za) (i40:Int) (i40_:Int) (K39:Prop):Prop:=(Rf (.string key))/\((.int .i64 i40:Value)=.int .i64 i40_)/\(Im (.l 1 eStr lines))/\K39
theorem un99_0 (lines:List Za) (key:Za) (i:Nat×Int) (h:lJ99_0 lines key i):lH99_0 lines key i (i.1-1) i.2:=⟨hd1 h.1 h.2.1,hd3 h.2.1,hd2 h.2.1,h.2.2⟩
theorem bk99_0 (lines:List Za) (key:Za) (i:Nat×Int) (m39:Nat) (i40:Int) (hl:m39<i.1) (e:runL (F99_s0 lines key) m39 i40=lX99_0 lines key) (h:lI99_0 lines m39 i40):∃ j:Nat×Int,lE99_0 lines key i40 j.2 (lJ99_0 lines key j/\j.1<i.1):=⟨(m39,i40),rfl,rfl,Imp.refl _,⟨e,h⟩,hl⟩
theorem en99_0 (lines:List Za) (key:Za) (h:(0:Int)<=0):lE99_0 lines key 0 0 (lJ99_0 lines key (lN99_0 lines)):=⟨rfl,rfl,Imp.refl _,rfl,Qr _,h⟩
def S99 (lines:List Za) (key:Za):Spec:=⟨[.r (.c (.l 1 eStr lines)),.r (.c (.v (.string key)))],.v (vI (F99 lines key)),(∀ k:Nat,(lines.getD k default).size<=1048576)⟩
theorem ok99 (lines:List Za) (key:Za):(S99 lines key).ok Tryz.prog 99 :=
 fnG_ok mixed (fn:=Tryz.f99) (ct:=.seqk [(0,0)] .no (.seq (.seqk [(0,0)] .no (.blk (.loop (ι:=Nat×Int) (fun i=>(fun (i40:Int)=>(⟨[(0,some (.h 0 0)),(1,some (.v (.string key))),(5,some (.v (vI i40)))],[(0,some (.shr none (.l 1 eStr lines)))],1⟩:St)) i.2) (lJ99_0 lines key) (fun i=>i.1) (lN99_0 lines) (fun i=>(fun (i40:Int)=>(.seq (.seq .no (.cond .no .no)) (.seq (.blk (.seq (.reg [(4,kh14 (lines.getD i40.toNat default))]) (.cond (.seq .no .no) .no))) (.reg [(1,.bnd)])))) i.2)))) (.seq .no .no))) Tryz.func99 (fun (hpre0:∀ k:Nat,(lines.getD k default).size<=1048576)=>kn lines fun _=>kn lines fun _=>ai (en99_0 lines key uu0) (fun (i0:Nat×Int) (hi0:lJ99_0 lines key i0)=>(fun (m0:Nat) (i40:Int) (hh0:lH99_0 lines key i0 m0 i40)=>have hI0:=hh0.1; have hl0:=hh0.2.1; have _:=hh0.2.2.1; have _:=hh0.2.2.2; ifd (i40<(lines.length:Int)) (fun h2 _=>ai (uu0:ib i40 lines) (kc14 (lines.getD i40.toNat default) uu70 (ifb ((F14 (lines.getD i40.toNat default)).toList==key.toList) (fun h3=>fiI i40 (F99 lines key) (finR (runL_ret hI0 (condT h2 (condT h3 rfl))) rfl)) (fun h3=>ai (iok (i40+1) uu0) (bk99_0 lines key i0 m0 (i40+1) hl0 (runL_next hI0 (condT h2 (condF h3 rfl))) uu6))))) (fun h2 _=>have hD0_4:lX99_0 lines key=Lp.done i40:=runL_done hI0 (condF h2 rfl); fiI (-1) (F99 lines key) (finD hD0_4 rfl))) (i0.1-1) i0.2 (un99_0 lines key i0 hi0))) uu3
def F79_s0 (lines:List Za) (line:Za):Int->Lp Int (List Za):=fun k400 =>
 bif (bif decide (k400<(lines.length:Int)) then (Op.bytesLess (lines.getD k400.toNat default).toList line.toList) else false) then (.next (k400+1)) else (.done k400)
def F79_j0 (lines:List Za) (line:Za):Lp Int (List Za) :=
 (runL (F79_s0 lines line) (((lines.length:Int)-0).toNat+1) 0).fin Lp.ret (fun k400=>.done k400)
def F79 (lines:List Za) (line:Za):List Za :=
 (F79_j0 lines line).fin (fun r=>r) (fun k=>(((([]:List Za)++(lines.take k.toNat))++[line])++(lines.drop k.toNat)))
abbrev lN79_0 (lines:List Za):Nat×Int:=((((lines.length:Int)-0).toNat+1),0)
abbrev lI79_0 (lines:List Za) (m39:Nat) (k400:Int):Prop:=Int.toNat ((lines.length:Int)-k400)<m39/\(0:Int)<=k400/\k400<=(lines.length:Int)/\(0:Int)<=k400
abbrev lX79_0 (lines:List Za) (line:Za):Lp Int (List Za):=LpX (F79_s0 lines line) (lN79_0 lines)
abbrev lJ79_0 (lines:List Za) (line:Za) (i:Nat×Int):Prop:=LpJ (F79_s0 lines line) (lN79_0 lines) i (lI79_0 lines i.1 i.2)
abbrev lH79_0 (lines:List Za) (line:Za) (i:Nat×Int) (m39:Nat) (k400:Int):Prop:=LpH (F79_s0 lines line) (lN79_0 lines) i m39 k400 (lI79_0 lines (m39+1) k400)
abbrev lE79_0 (lines:List Za) (line:Za) (k400:Int) (k400_:Int) (K39:Prop):Prop:=(Rf (.string line))/\((.int .i64 k400:Value)=.int .i64 k400_)/\(Im (.l 1 eStr lines))/\K39
theorem un79_0 (lines:List Za) (line:Za) (i:Nat×Int) (h:lJ79_0 lines line i):lH79_0 lines line i (i.1-1) i.2:=⟨hd1 h.1 h.2.1,hd3 h.2.1,hd2 h.2.1,h.2.2⟩
theorem bk79_0 (lines:List Za) (line:Za) (i:Nat×Int) (m39:Nat) (k400:Int) (hl:m39<i.1) (e:runL (F79_s0 lines line) m39 k400=lX79_0 lines line) (h:lI79_0 lines m39 k400):∃ j:Nat×Int,lE79_0 lines line k400 j.2 (lJ79_0 lines line j/\j.1<i.1):=⟨(m39,k400),rfl,rfl,Imp.refl _,⟨e,h⟩,hl⟩
theorem en79_0 (lines:List Za) (line:Za) (h:(0:Int)<=0/\0<=(lines.length:Int)/\(0:Int)<=0):lE79_0 lines line 0 0 (lJ79_0 lines line (lN79_0 lines)):=⟨rfl,rfl,Imp.refl _,rfl,Qr _,h⟩
abbrev jI79_0 (lines:List Za) (line:Za) (k:Int):Prop:=0<=k/\k<=(lines.length:Int)
abbrev jJ79_0 (lines:List Za) (line:Za) (j:Int):Prop:=(F79_j0 lines line)=Lp.done j/\jI79_0 lines line j
theorem jn79_0 (lines:List Za) (line:Za) (k:Int) (e:(F79_j0 lines line)=Lp.done k) (h:jI79_0 lines line k):∃ j:Int,((.string line:Value)=.string line)/\((.int .i64 k:Value)=.int .i64 j)/\(Imp (.l 1 eStr lines) (.l 1 eStr lines))/\jJ79_0 lines line j:=⟨k,rfl,rfl,Imp.refl _,e,h⟩
theorem fi79 (lines:List Za) (line:Za) (r:List Za) (hF:r=(F79 lines line)):(Imp (.l 1 eStr r) (.l 1 eStr (F79 lines line)))/\True:=by cases hF; exact ⟨Imp.refl _,trivial⟩
def S79 (lines:List Za) (line:Za):Spec:=⟨[.r (.c (.l 1 eStr lines)),.r (.c (.v (.string line)))],.ow (.l 1 eStr (F79 lines line)),lines.length<=1048576/\(∀ k:Nat,(lines.getD k default).size<=1048576)⟩
theorem ok79 (lines:List Za) (line:Za):(S79 lines line).ok Tryz.prog 79 :=
 fnG_ok mixed (fn:=Tryz.f79) (ct:=.seqk [(0,0)] .no (.seqk [(0,0)] .no (.cut (ι:=Int) (fun j=>(fun (k:Int)=>(⟨[(0,some (.h 0 0)),(1,some (.v (.string line))),(5,some (.v (vI k)))],[(0,some (.shr none (.l 1 eStr lines)))],1⟩:St)) j) (jJ79_0 lines line) (.blk (.loop (ι:=Nat×Int) (fun i=>(fun (k400:Int)=>(⟨[(0,some (.h 0 0)),(1,some (.v (.string line))),(5,some (.v (vI k400)))],[(0,some (.shr none (.l 1 eStr lines)))],1⟩:St)) i.2) (lJ79_0 lines line) (fun i=>i.1) (lN79_0 lines) (fun i=>(fun (k400:Int)=>(.seq (.seq .no (.cond .no .no)) (.blk (.reg [(1,.bnd)])))) i.2))) (fun j=>(fun (k:Int)=>(.seq (.reg [(0,.dat (.l 1 eStr ([]:List Za))),(4,.dat (.l 1 eStr (([]:List Za)++(lines.take k.toNat)))),(7,.dat (.l 1 eStr ((([]:List Za)++(lines.take k.toNat))++[line]))),(11,.dat (.l 1 eStr (((([]:List Za)++(lines.take k.toNat))++[line])++(lines.drop k.toNat))))]) .no)) j)))) Tryz.func79 (fun (hp:lines.length<=1048576/\(∀ k:Nat,(lines.getD k default).size<=1048576))=>have hpre0:=hp.1; have hpre1:=hp.2; kn lines fun _=>kn lines fun _=>ai (ai (en79_0 lines line (by refine ⟨?_,?_,?_⟩ <;> first | omega | (simp only [lens,ib] at*<;> omega) | omega | (simp only [Gu,Gh,Se,Qo,Tn,Gi,Rj,Tm,Sb,Qw,Qu,Qx,Rs] at *; omega))) (fun (i0:Nat×Int) (hi0:lJ79_0 lines line i0)=>(fun (m0:Nat) (k400:Int) (hh0:lH79_0 lines line i0 m0 k400)=>have hI0:=hh0.1; have hl0:=hh0.2.1; have _:=hh0.2.2.1; have _:=hh0.2.2.2; ai (fun k2:(decide (k400<(lines.length:Int)))=true=>have _:=Qd k2; (by (first | omega | (simp only [Gu,Gh,Se,Qo,Tn,Gi,Rj,Tm,Sb,Qw,Qu,Qx,Rs] at *; omega)):0<=k400/\k400<(lines.length:Int))) (ifb (bif decide (k400<(lines.length:Int)) then (Op.bytesLess (lines.getD k400.toNat default).toList line.toList) else false) (fun h3=>have _:=Qd (andT1 h3); have _:=(andT2 h3); ai (iok (k400+1) uu2) (bk79_0 lines line i0 m0 (k400+1) hl0 (runL_next hI0 (condT h3 rfl)) (by refine ⟨?_,?_,?_,?_⟩ <;> first | omega | (simp only [lens,ib] at*<;> omega) | omega | (simp only [Gu,Gh,Se,Qo,Tn,Gi,Rj,Tm,Sb,Qw,Qu,Qx,Rs] at *; omega)))) (fun h3=>have hD0_4:lX79_0 lines line=Lp.done k400:=runL_done hI0 (condF h3 rfl); jn79_0 lines line k400 (S5 (finD hD0_4 rfl)) uu20))) (i0.1-1) i0.2 (un79_0 lines line i0 hi0))) (fun (j:Int) (hj:jJ79_0 lines line j)=>(fun (k:Int) (hJ0_5:(F79_j0 lines line)=Lp.done k) (hw:jI79_0 lines line k)=>have _:=hw.1; have _:=hw.2; ai (bokr 1 eStr ([]:List Za) fun _=>rfl) (ai (uu2:0<=(0:Int)/\(0:Int)<=k/\k<=(lines.length:Int)) (ai (AppL.mk eStr ([]:List Za) (lines.take k.toNat) (Imp.refl (.l 1 eStr ([]:List Za))) ir (fun y=>⟨rfl,fun e he=>by simp only [eStr,Qt,Rl,Gy] at he; rcases he with rfl <;> exact ⟨_,rfl⟩⟩):AppL (.l 1 eStr ([]:List Za)) (.l 1 eStr (lines.take k.toNat)) 1 (.l 1 eStr (([]:List Za)++(lines.take k.toNat)))) (ai (uu17:(([]:List Za)++(lines.take k.toNat)).length*16<=140737488355328) (ai (appr 1 eStr (([]:List Za)++(lines.take k.toNat)) [line] fun _=>rfl) (ai (uu17:((([]:List Za)++(lines.take k.toNat))++[line]).length*16<=140737488355328) (ai (uu2:0<=k/\k<=(lines.length:Int)/\(lines.length:Int)<=(lines.length:Int)) (ai (AppL.mk eStr ((([]:List Za)++(lines.take k.toNat))++[line]) (lines.drop k.toNat) (Imp.refl (.l 1 eStr ((([]:List Za)++(lines.take k.toNat))++[line]))) ir (fun y=>⟨rfl,fun e he=>by simp only [eStr,Qt,Rl,Gy] at he; rcases he with rfl <;> exact ⟨_,rfl⟩⟩):AppL (.l 1 eStr ((([]:List Za)++(lines.take k.toNat))++[line])) (.l 1 eStr (lines.drop k.toNat)) 1 (.l 1 eStr (((([]:List Za)++(lines.take k.toNat))++[line])++(lines.drop k.toNat)))) (ai (uu17:(((([]:List Za)++(lines.take k.toNat))++[line])++(lines.drop k.toNat)).length*16<=140737488355328) (fi79 lines line (((([]:List Za)++(lines.take k.toNat))++[line])++(lines.drop k.toNat)) (finD hJ0_5 rfl))))))))))) j hj.1 hj.2)) uu3
theorem pieces_eq (text:Za):F70 text=bif (((splitS text Zn).getD ((splitS text Zn).length-1) default).toList==Zf.toList) then (splitS text Zn).take ((splitS text Zn).length-1) else splitS text Zn:=by
 unfold F70
 have e:F85 text 10=splitS text Zn:=specCut_split text 10
 rw [e,show Int.toNat (((splitS text Zn).length:Int)-1)=(splitS text Zn).length-1 by omega]
theorem pieces_len (text:Za) (h:text.size<=1048576):(F70 text).length<=1048577:=by
 rw [pieces_eq]
 have:=splitS_le text Zn (Qn 1)
 cases (((splitS text Zn).getD ((splitS text Zn).length-1) default).toList==Zf.toList) with
 | true=>rw [Qc,Rm]; omega
 | false=>rw [Qb]; omega
theorem pieces_sz (text:Za) (h:text.size<=1048576):∀ k:Nat,((F70 text).getD k default).size<=1048576:=by
 have hs:∀ x∈splitS text Zn,x.size<=1048576:=fun x hx=>mem_sz (fun k=>by
  have:=cutS_sz text 10 h k
  rw [show F85 text 10=splitS text Zn from specCut_split text 10] at this
  exact this) hx
 refine getD_sz fun x hx=>?_
 rw [pieces_eq] at hx
 cases hc:(((splitS text Zn).getD ((splitS text Zn).length-1) default).toList==Zf.toList) with
 | true=>rw [hc,Qc] at hx; exact hs x (Ta hx)
 | false=>rw [hc,Qb] at hx; exact hs x hx
theorem put_at (lines:List Za) (line:Za):∀ (m i:Nat),i+m=lines.length->(∀ j,j<i->ltB (lines.getD j default) line=true)->∀ fuel,m<fuel ->
  ∃ k:Nat,k<=lines.length/\(runL (F79_s0 lines line) fuel (i:Int)).fin Lp.ret (fun k=>.done k)=(.done (k:Int):Lp Int (List Za))/\(∀ j,j<k->ltB (lines.getD j default) line=true)/\(k<lines.length->ltB (lines.getD k default) line=false)
 | m,i,_,_,0,hf=>absurd hf (R5 _)
 | 0,i,h,hb,fuel+1,hf=>by
  obtain rfl:i=lines.length:=by omega
  have e:F79_s0 lines line (lines.length:Int)=.done (lines.length:Int):=by
   simp only [F79_s0,geD,Qb]
  exact ⟨lines.length,Qn _,by rw [runL_d _ e]; rfl,hb,fun h=>absurd h (Nat.lt_irrefl _)⟩
 | m+1,i,h,hb,fuel+1,hf=>by
  have e:F79_s0 lines line (i:Int)=bif ltB (lines.getD i default) line then .next ((i+1:Nat):Int) else .done (i:Int):=by
   simp only [F79_s0,ltD (show i<lines.length by omega),Qc,nn]
   rfl
  cases hl:ltB (lines.getD i default) line with
  | true =>
   rw [hl,Qc] at e
   rw [runL_n _ e]
   exact put_at lines line m (i+1) uu0 (fun j hj=>by
    rcases Gm j i with h1 | h1
    ·exact hb j h1
    ·obtain rfl:j=i:=by omega
     exact hl) fuel uu0
  | false =>
   rw [hl,Qb] at e
   exact ⟨i,by omega,by rw [runL_d _ e]; rfl,hb,fun _=>hl⟩
theorem put_eq (lines:List Za) (line:Za):∃ k:Nat,k<=lines.length/\F79 lines line=lines.take k++line :: lines.drop k/\(∀ j,j<k->ltB (lines.getD j default) line=true)/\(k<lines.length->ltB (lines.getD k default) line=false):=by
 obtain ⟨k,h1,h2,h3,h4⟩:=put_at lines line lines.length 0 uu0 (fun j h=>absurd h (R5 _)) (Int.toNat ((lines.length:Int)-0)+1) uu0
 refine ⟨k,h1,?_,h3,h4⟩
 unfold F79 F79_j0
 refine (Qh (fun z:Lp Int (List Za)=>z.fin (fun r=>r) (fun k=>(((([]:List Za)++(lines.take k.toNat))++[line])++(lines.drop k.toNat)))) h2).trans ?_
 show ((([]:List Za)++(lines.take (k:Int).toNat))++[line])++(lines.drop (k:Int).toNat)=_
 rw [Rr]
 simp
theorem put_len (lines:List Za) (line:Za):(F79 lines line).length=lines.length+1:=by
 obtain ⟨k,h1,h2,_⟩:=put_eq lines line
 rw [h2]
 simp
 omega
theorem put_mem {lines:List Za} {line z:Za}:z∈F79 lines line↔z=line\/z∈lines:=by
 obtain ⟨k,h1,h2,_⟩:=put_eq lines line
 rw [h2,Q4,Qt]
 conv=>rhs; rhs; rw [<- Rx k lines,Q4]
 constructor
 ·rintro (h | h | h)
  ·exact .inr (.inl h)
  ·exact .inl h
  ·exact .inr (.inr h)
 ·rintro (h | h | h)
  ·exact .inr (.inl h)
  ·exact .inl h
  ·exact .inr (.inr h)
theorem put_sz (lines:List Za) (line:Za) (h:∀ k:Nat,(lines.getD k default).size<=1048576) (hl:line.size<=1048576):∀ k:Nat,((F79 lines line).getD k default).size<=1048576 :=
 getD_sz fun x hx=>by
  rcases put_mem.1 hx with rfl | hx
  ·exact hl
  ·exact mem_sz h hx
theorem put_sorted {lines:List Za} {line:Za} (h:SortedB lines) (hn:line ∉ lines):SortedB (F79 lines line):=by
 obtain ⟨k,h1,h2,h3,h4⟩:=put_eq lines line
 rw [h2]
 have hsp:=h
 rw [<- Rx k lines] at hsp
 obtain ⟨a1,a2,a3⟩:=List.pairwise_append.1 hsp
 have hlt:∀ x∈lines.take k,ltB x line=true:=fun x hx=>by
  obtain ⟨j,hj,rfl⟩:=mem_getD hx
  have hl:j<k:=by rw [Rm] at hj; omega
  rw [Qe,Rb,if_pos hl,<- Qe]
  exact h3 j hl
 have hgt:∀ x∈lines.drop k,ltB line x=true:=fun x hx=>by
  have hk:k<lines.length:=by
   rcases Gm k lines.length with h | h
   ·exact h
   ·rw [Q3 h] at hx; cases hx
  have hd:=drop_at lines k hk
  have h0:ltB line (lines.getD k default)=true:=by
   rcases ltB_tri line (lines.getD k default) with h | h | h
   ·exact h
   ·exact absurd (h ▸ getD_mem lines hk) hn
   ·rw [h4 hk] at h; cases h
  rw [hd] at hx a2
  rcases Qt.1 hx with rfl | hx
  ·exact h0
  ·exact ltB_trans h0 ((Gf.1 a2).1 x hx)
 refine List.pairwise_append.2 ⟨a1,Gf.2 ⟨hgt,a2⟩,fun x hx y hy=>?_⟩
 rcases Qt.1 hy with rfl | hy
 ·exact hlt x hx
 ·exact a3 x hx y hy
structure ConfFault where
 Line:Int
 Code:Int
 deriving DecidableEq,Inhabited
theorem kc99 (lines:List Za) (key:Za) {K_:Prop} (p0_:∀ k:Nat,(lines.getD k default).size<=1048576) (k_:K_):(∀ k:Nat,(lines.getD k default).size<=1048576)/\(Imp (.l 1 eStr lines) (.l 1 eStr lines))/\(Imp (.v (.string key)) (.v (.string key)))/\K_:=⟨p0_,Imp.refl _,Imp.refl _,k_⟩
abbrev kh99 (lines:List Za) (key:Za):Hint true Tryz.prog:=.call 99 (S99 lines key) (ok99 lines key) none
theorem kc79 (lines:List Za) (line:Za) {K_:Prop} (p0_:lines.length<=1048576) (p1_:∀ k:Nat,(lines.getD k default).size<=1048576) (q0_:∀ k:Nat,(lines.getD k default).size<=1048576) (q1_:line.size<=1048576) (k_:((F79 lines line).length=lines.length+1)->(∀ k:Nat,((F79 lines line).getD k default).size<=1048576)->K_):(lines.length<=1048576/\(∀ k:Nat,(lines.getD k default).size<=1048576))/\(Imp (.l 1 eStr lines) (.l 1 eStr lines))/\(Imp (.v (.string line)) (.v (.string line)))/\K_:=⟨⟨p0_,p1_⟩,Imp.refl _,Imp.refl _,k_ (put_len lines line) (put_sz lines line q0_ q1_)⟩
abbrev kh79 (lines:List Za) (line:Za):Hint true Tryz.prog:=.call 79 (S79 lines line) (ok79 lines line) none
def F71_s0 (list:List Za):(List Za×Int)->Lp (List Za×Int) (List Za×ConfFault):=fun (out,i40) =>
 bif (decide (i40<(list.length:Int))) then (bif (bif (F11 (list.getD i40.toNat default)).2 then (((F11 (list.getD i40.toNat default)).1.length:Int)==0) else false) then (.next (out,(i40+1))) else (bif (!(F9 (list.getD i40.toNat default)).2) then (.ret (([]:List Za),(⟨(i40+1),2⟩:ConfFault))) else (bif (decide ((F99 out (F14 (F9 (list.getD i40.toNat default)).1))>=0)) then (.ret (([]:List Za),(⟨(i40+1),4⟩:ConfFault))) else (bif ((out.length:Int)==16) then (.ret (([]:List Za),(⟨(i40+1),1⟩:ConfFault))) else (.next ((F79 out (F9 (list.getD i40.toNat default)).1),(i40+1))))))) else (.done (out,i40))
def F71 (list:List Za):List Za×ConfFault :=
 (runL (F71_s0 list) (((list.length:Int)-0).toNat+1) (([]:List Za),0)).fin (fun r=>r) (fun (out,i40)=>(out,(⟨0,0⟩:ConfFault)))
abbrev lN71_0 (list:List Za):Nat×(List Za×Int):=((((list.length:Int)-0).toNat+1),(([]:List Za),0))
abbrev lI71_0 (list:List Za) (m39:Nat) (out:List Za) (i40:Int):Prop:=Int.toNat ((list.length:Int)-i40)<m39/\out.length<=16/\(∀ k:Nat,(out.getD k default).size<=1048576)/\(0:Int)<=i40
abbrev lX71_0 (list:List Za):Lp (List Za×Int) (List Za×ConfFault):=LpX (F71_s0 list) (lN71_0 list)
abbrev lJ71_0 (list:List Za) (i:Nat×(List Za×Int)):Prop:=LpJ (F71_s0 list) (lN71_0 list) i (lI71_0 list i.1 i.2.1 i.2.2)
abbrev lH71_0 (list:List Za) (i:Nat×(List Za×Int)) (m39:Nat) (out:List Za) (i40:Int):Prop:=LpH (F71_s0 list) (lN71_0 list) i m39 (out,i40) (lI71_0 list (m39+1) out i40)
abbrev lE71_0 (list:List Za) (out:List Za) (i40:Int) (out_:List Za) (i40_:Int) (K39:Prop):Prop:=((.int .i64 i40:Value)=.int .i64 i40_)/\(Im (.l 1 eStr list))/\(Rf (.int .i64 0))/\(Rf (.int .i64 0))/\(Imp (.l 1 eStr out) (.l 1 eStr out_))/\K39
theorem un71_0 (list:List Za) (i:Nat×(List Za×Int)) (h:lJ71_0 list i):lH71_0 list i (i.1-1) i.2.1 i.2.2:=⟨hd1 h.1 h.2.1,hd3 h.2.1,hd2 h.2.1,h.2.2⟩
theorem bk71_0 (list:List Za) (i:Nat×(List Za×Int)) (m39:Nat) (out:List Za) (i40:Int) (hl:m39<i.1) (e:runL (F71_s0 list) m39 (out,i40)=lX71_0 list) (h:lI71_0 list m39 out i40):∃ j:Nat×(List Za×Int),lE71_0 list out i40 j.2.1 j.2.2 (lJ71_0 list j/\j.1<i.1):=⟨(m39,(out,i40)),rfl,Imp.refl _,rfl,rfl,Imp.refl _,⟨e,h⟩,hl⟩
theorem en71_0 (list:List Za) (h:([]:List Za).length<=16/\(∀ k:Nat,(([]:List Za).getD k default).size<=1048576)/\(0:Int)<=0):lE71_0 list ([]:List Za) 0 ([]:List Za) 0 (lJ71_0 list (lN71_0 list)):=⟨rfl,Imp.refl _,rfl,rfl,Imp.refl _,rfl,Qr _,h⟩
theorem fi71 (list:List Za) (r:List Za×ConfFault) (hF:r=(F71 list)):(Imp (.l 1 eStr r.1) (.l 1 eStr (F71 list).1))/\((.int .i64 r.2.Line:Value)=.int .i64 (F71 list).2.Line)/\((.int .i64 r.2.Code:Value)=.int .i64 (F71 list).2.Code)/\True:=by cases hF; exact ⟨Imp.refl _,rfl,rfl,trivial⟩
def S71 (list:List Za):Spec:=⟨[.r (.c (.l 1 eStr list))],.tu [.ow (.l 1 eStr (F71 list).1),.ag [.v (vI (F71 list).2.Line),.v (vI (F71 list).2.Code)]],list.length<=1048577/\(∀ k:Nat,(list.getD k default).size<=1048576)⟩
abbrev q71_1 (list:List Za) (i40:Int):=(list.getD i40.toNat default)
theorem ok71 (list:List Za):(S71 list).ok Tryz.prog 71 :=
 fnG_ok mixed (fn:=Tryz.f71) (ct:=.seqk [(0,0)] .no (.seq (.reg [(0,.dat (.l 1 eStr ([]:List Za)))]) (.seq (.seqk [(0,0),(4,0)] .no (.blk (.loop (ι:=Nat×(List Za×Int)) (fun i=>(fun (out:List Za) (i40:Int)=>(⟨[(0,some (.h 0 0)),(3,some (.p 1 0)),(4,some (.h 2 0)),(5,some (.v (vI i40)))],[(0,some (.shr none (.l 1 eStr list))),(1,some (.box 36 [.v (vI 0),.v (vI 0)])),(2,some (.own 2 (.l 1 eStr out)))],3⟩:St)) i.2.1 i.2.2) (lJ71_0 list) (fun i=>i.1) (lN71_0 list) (fun i=>(fun (out:List Za) (i40:Int)=>(.seq (.seq .no (.cond .no .no)) (.seq (.blk (.seq (.reg [(4,kh11 (q71_1 list i40))]) (.seq (.seq .no (.cond .no .no)) (.seq (.reg [(4,kh9 (q71_1 list i40))]) (.seq (.blk (.seq .no (.cond (.seq (.reg [(0,.dat (.l 1 eStr ([]:List Za))),(2,.bnd)]) .no) (.seq (.reg [(2,kh14 (F9 (q71_1 list i40)).1),(3,kh99 out (F14 (F9 (q71_1 list i40)).1))]) (.cond (.seq (.reg [(0,.dat (.l 1 eStr ([]:List Za))),(2,.bnd)]) .no) (.seq .no (.cond (.seq (.reg [(0,.dat (.l 1 eStr ([]:List Za))),(2,.bnd)]) .no) .no))))))) (.reg [(2,kh79 out (F9 (q71_1 list i40)).1)])))))) (.reg [(1,.bnd)])))) i.2.1 i.2.2)))) (.seq .no .no)))) Tryz.func71 (fun (hp:list.length<=1048577/\(∀ k:Nat,(list.getD k default).size<=1048576))=>have hpre0:=hp.1; have hpre1:=hp.2; kn list fun _=>ai (bokr 1 eStr ([]:List Za) fun _=>rfl) (kn list fun _=>kn ([]:List Za) fun _=>ai (en71_0 list (by refine ⟨?_,?_,?_⟩ <;> first | omega | (simp only [lens,ib] at*<;> omega) | exact sz_nil | assumption | omega | (simp only [Gu,Gh,Se,Qo,Tn,Gi,Rj,Tm,Sb,Qw,Qu,Qx,Rs] at *; omega))) (fun (i0:Nat×(List Za×Int)) (hi0:lJ71_0 list i0)=>(fun (m0:Nat) (out:List Za) (i40:Int) (hh0:lH71_0 list i0 m0 out i40)=>have hI0:=hh0.1; have hl0:=hh0.2.1; have _:=hh0.2.2.1; have _:=hh0.2.2.2.1; have _:=hh0.2.2.2.2.1; have _:=hh0.2.2.2.2.2; ifd (i40<(list.length:Int)) (fun h2 _=>ai (uu0:ib i40 list) (kc11 (q71_1 list i40) (by first | omega | exact hpre1 _ | exact gv3 | exact gv3 _ | exact gv9 | exact gv9 _ | exact gv3 | exact gv3 _ | exact gv9 | exact gv9 _ | (intros; exact trivial) | (intros; exact Re _)) (fun gv3 gv4=>ifb (bif (F11 (q71_1 list i40)).2 then (((F11 (q71_1 list i40)).1.length:Int)==0) else false) (fun h5=>have _:=(andT1 h5); have _:=eq_of_beq (andT2 h5); ai (iok (i40+1) uu0) (bk71_0 list i0 m0 out (i40+1) hl0 (runL_next hI0 (condT h2 (condT h5 rfl))) uu74)) (fun h5=>ai (uu0:ib i40 list) (kc9 (q71_1 list i40) (by first | omega | exact hpre1 _ | exact gv3 | exact gv3 _ | exact gv9 | exact gv9 _ | exact gv3 | exact gv3 _ | exact gv9 | exact gv9 _ | exact gv4 | exact gv4 _ | (intros; exact trivial) | (intros; exact Re _)) (ifb (!(F9 (q71_1 list i40)).2) (fun h6=>have _:=(notET h6); ai (bokr 1 eStr ([]:List Za) fun _=>rfl) (ai (iok (i40+1) uu0) (fi71 list (([]:List Za),(⟨(i40+1),2⟩:ConfFault)) (finR (runL_ret hI0 (condT h2 (condF h5 (condT h6 rfl)))) rfl)))) (fun h6=>have _:=(notEF h6); kc14 (F9 (q71_1 list i40)).1 (by exact specLine_sz _) (kc99 out (F14 (F9 (q71_1 list i40)).1) uu9 (ifd ((F99 out (F14 (F9 (q71_1 list i40)).1))>=0) (fun h7 _=>ai (bokr 1 eStr ([]:List Za) fun _=>rfl) (ai (iok (i40+1) uu0) (fi71 list (([]:List Za),(⟨(i40+1),4⟩:ConfFault)) (finR (runL_ret hI0 (condT h2 (condF h5 (condF h6 (condT h7 rfl))))) rfl)))) (fun h7 _=>ife (out.length:Int) 16 (fun h8 _=>ai (bokr 1 eStr ([]:List Za) fun _=>rfl) (ai (iok (i40+1) uu0) (fi71 list (([]:List Za),(⟨(i40+1),1⟩:ConfFault)) (finR (runL_ret hI0 (condT h2 (condF h5 (condF h6 (condF h7 (condT h8 rfl)))))) rfl)))) (fun h8 _=>kc79 out (F9 (q71_1 list i40)).1 uu49 uu49 uu49 uu49 (fun gv9 gv10=>ai (iok (i40+1) uu0) (bk71_0 list i0 m0 (F79 out (F9 (q71_1 list i40)).1) (i40+1) hl0 (runL_next hI0 (condT h2 (condF h5 (condF h6 (condF h7 (condF h8 rfl)))))) uu74))))))))))))) (fun h2 _=>have hD0_11:lX71_0 list=Lp.done (out,i40):=runL_done hI0 (condF h2 rfl); fi71 list (out,(⟨0,0⟩:ConfFault)) (finD hD0_11 rfl))) (i0.1-1) i0.2.1 i0.2.2 (un71_0 list i0 hi0)))) uu3
def F124 (l:Za) (p1:Za):Bool :=
 ((F13 l).toList==(F13 p1).toList)
def S124 (l:Za) (p1:Za):Spec:=⟨[.r (.c (.v (.string l))),.rp ([.v (.string p1)])],.v (.bool (F124 l p1)),l.size<=1048576/\p1.size<=1048576⟩
theorem ok124 (l:Za) (p1:Za):(S124 l p1).ok Tryz.prog 124 false :=
 fnG_ok mixed (fn:=Tryz.f124) (ct:=.seq .no (.seq (.reg [(1,kh13 l),(3,kh13 p1)]) .no)) Tryz.func124 (fun (hp:l.size<=1048576/\p1.size<=1048576)=>have hpre0:=hp.1; have hpre1:=hp.2; kc13 l uu0 (kc13 p1 uu0 (fiB ((F13 l).toList==(F13 p1).toList) (F124 l p1) rfl))) uu3
def F65 (lines:List Za) (text:Za):Za×Int :=
 bif (!(F8 text).2) then (Zf,2) else (bif (lines.any (fun (x0:Za)=>F124 x0 (F8 text).1)) then (Zf,4) else (bif ((lines.length:Int)==16) then (Zf,1) else ((F8 text).1,0)))
theorem fi65 (lines:List Za) (text:Za) (r:Za×Int) (hF:r=(F65 lines text)):((.string r.1:Value)=.string (F65 lines text).1)/\((.int .i64 r.2:Value)=.int .i64 (F65 lines text).2)/\True:=by cases hF; exact ⟨rfl,rfl,trivial⟩
def S65 (lines:List Za) (text:Za):Spec:=⟨[.r (.c (.l 1 eStr lines)),.r (.c (.v (.string text)))],.tu [.v (.string (F65 lines text).1),.v (vI (F65 lines text).2)],text.size<=1048576/\(∀ k:Nat,(lines.getD k default).size<=1048576)⟩
theorem ok65 (lines:List Za) (text:Za):(S65 lines text).ok Tryz.prog 65 false :=
 fnG_ok mixed (fn:=Tryz.f65) (ct:=.seqk [(0,0)] .no (.seq (.reg [(1,kh8 text)]) (.seq (.blk (.seq .no (.cond (.seq .no .no) (.seq (.reg [(2,.call 43 (S43 (lines.any (fun (x0:Za)=>F124 x0 (F8 text).1)) lines (fun (x0:Za)=>F124 x0 (F8 text).1) (fun (x0:Za)=>x0.size<=1048576/\(F8 text).1.size<=1048576)) (oa43 lines (fun (x0:Za)=>F124 x0 (F8 text).1) (fun (x0:Za)=>x0.size<=1048576/\(F8 text).1.size<=1048576)) (some ⟨false,124,fsQ64 (fun (x0:Za)=>x0.size<=1048576/\(F8 text).1.size<=1048576) (fun (x0:Za)=>F124 x0 (F8 text).1),[.rp ([.v (.string (F8 text).1)])],rfl,True,fun i=>ok_px (ok124 i (F8 text).1)⟩))]) (.cond (.seq .no .no) (.seq .no (.cond (.seq .no .no) .no))))))) (.seq .no .no)))) Tryz.func65 (fun (hp:text.size<=1048576/\(∀ k:Nat,(lines.getD k default).size<=1048576))=>have hpre0:=hp.1; have hpre1:=hp.2; kn lines fun _=>kc8 text uu0 (ifb (!(F8 text).2) (fun h1=>have _:=(notET h1); fi65 lines text (Zf,2) (condT h1 rfl)) (fun h1=>have _:=(notEF h1); ai (by exact fun k _=>⟨(by assumption:∀ k:Nat,(lines.getD k default).size<=1048576) k,implLine_sz _⟩:∀ k:Nat,k<lines.length->(fun (x0:Za)=>x0.size<=1048576/\(F8 text).1.size<=1048576) (lines.getD k default)) (ai (Imp.refl (.l 1 eStr lines)) (ai (Eq.refl (fsQ64 (fun (x0:Za)=>x0.size<=1048576/\(F8 text).1.size<=1048576) (fun (x0:Za)=>F124 x0 (F8 text).1))) (ai trivial (ai (Imps.refl [.v (.string (F8 text).1)]) (ifb (lines.any (fun (x0:Za)=>F124 x0 (F8 text).1)) (fun h2=>fi65 lines text (Zf,4) (condF h1 (condT h2 rfl))) (fun h2=>ife (lines.length:Int) 16 (fun h3 _=>fi65 lines text (Zf,1) (condF h1 (condF h2 (condT h3 rfl)))) (fun h3 _=>fi65 lines text ((F8 text).1,0) (condF h1 (condF h2 (condF h3 rfl))))))))))))) uu3
def readF (put:List Za->Za->List Za):Nat->List Za->List Za->List Za×ConfFault
 | _,acc,[]=>(acc,⟨0,0⟩)
 | i,acc,c :: r=>bif ((F11 c).2&&((F11 c).1.length==0)) then readF put (i+1) acc r
  else bif !(F9 c).2 then ([],⟨((i+1:Nat):Int),2⟩)
  else bif acc.any (fun l=>F14 l==F14 (F9 c).1) then ([],⟨((i+1:Nat):Int),4⟩)
  else bif acc.length==16 then ([],⟨((i+1:Nat):Int),1⟩)
  else readF put (i+1) (put acc (F9 c).1) r
theorem len_beq (a b:Nat):((a:Int)==(b:Int))=(a==b):=by
 rw [Tt,Sb,Sb]
 exact Int.ofNat_inj
theorem key_any (out:List Za) (k:Za):decide (F99 out k>=0)=out.any fun l=>F14 l==k:=by
 have h:=idx_loop (fun l:Za=>(F14 l).toList==k.toList) out (F99_s0 out k) (fun i=>rfl)
 have e:F99 out k=idxI (fun l:Za=>(F14 l).toList==k.toList) out:=h
 rw [e,any_idx]
 congr 1
 funext l
 rw [beq_ba,Tt,Rj,Sb]
theorem specRead_loop (list:List Za):∀ (m i:Nat) (out:List Za),i+m=list.length->∀ fuel,m<fuel ->
  (runL (F71_s0 list) fuel (out,(i:Int))).fin (fun r=>r) (fun (x:List Za×Int)=>(x.1,(⟨0,0⟩:ConfFault)))=readF F79 i out (list.drop i)
 | m,i,out,_,0,hf=>absurd hf (R5 _)
 | 0,i,out,h,fuel+1,hf=>by
  obtain rfl:i=list.length:=by omega
  have e:F71_s0 list (out,(list.length:Int))=.done (out,(list.length:Int)):=by
   simp only [F71_s0,geD,Qb]
  rw [runL_d _ e,Q3 (Qn _)]; rfl
 | m+1,i,out,h,fuel+1,hf=>by
  rw [drop_at list i uu0,readF]
  generalize hc:list.getD i default=c
  have e:F71_s0 list (out,(i:Int))=bif ((F11 c).2&&((F11 c).1.length==0)) then .next (out,((i+1:Nat):Int))
    else bif !(F9 c).2 then .ret ([],⟨((i+1:Nat):Int),2⟩) else bif out.any (fun l=>F14 l==F14 (F9 c).1) then .ret ([],⟨((i+1:Nat):Int),4⟩)
    else bif out.length==16 then .ret ([],⟨((i+1:Nat):Int),1⟩) else .next (F79 out (F9 c).1,((i+1:Nat):Int)):=by
   simp only [F71_s0,ltD (show i<list.length by omega),Qc,nn,hc,key_any]
   rw [show ((((F11 c).1.length:Nat):Int)==0)=((F11 c).1.length==0) from len_beq _ 0,show (((out.length:Nat):Int)==16)=(out.length==16) from len_beq _ 16]
   cases (F11 c).2 <;> rfl
  cases h1:((F11 c).2&&((F11 c).1.length==0)) with
  | true=>rw [h1,Qc] at e; rw [runL_n _ e,specRead_loop list m (i+1) out uu0 fuel uu0,Qc]
  | false =>
  rw [h1,Qb] at e; rw [Qb]
  cases h2:(!(F9 c).2) with
  | true=>rw [h2,Qc] at e; rw [runL_r _ e]; rfl
  | false =>
  rw [h2,Qb] at e; rw [Qb]
  cases h3:out.any (fun l=>F14 l==F14 (F9 c).1) with
  | true=>rw [h3,Qc] at e; rw [runL_r _ e]; rfl
  | false =>
  rw [h3,Qb] at e; rw [Qb]
  cases h4:(out.length==16) with
  | true=>rw [h4,Qc] at e; rw [runL_r _ e]; rfl
  | false =>
  rw [h4,Qb] at e; rw [Qb,runL_n _ e,specRead_loop list m (i+1) _ uu0 fuel uu0]
theorem specRead_eq (list:List Za):F71 list=readF F79 0 [] list:=by
 have:=specRead_loop list list.length 0 [] uu0 (Int.toNat ((list.length:Int)-0)+1) uu0
 rw [Ro] at this
 exact this
theorem readF_inv (put:List Za->Za->List Za) (hl:∀ a x,(put a x).length=a.length+1) (hm:∀ a x z,z∈put a x->z=x\/z∈a):∀ (r:List Za) (i:Nat) (acc:List Za),acc.length<=16->(∀ z∈acc,z.size<=1048576)->(readF put i acc r).1.length<=16/\∀ z∈(readF put i acc r).1,z.size<=1048576
 | [],i,acc,h1,h2=>⟨h1,h2⟩
 | c :: r,i,acc,h1,h2=>by
  rw [readF]
  cases ((F11 c).2&&((F11 c).1.length==0)) with
  | true=>exact readF_inv put hl hm r (i+1) acc h1 h2
  | false =>
  cases (!(F9 c).2) with
  | true=>exact ⟨Re _,fun z hz=>by cases hz⟩
  | false =>
  cases acc.any (fun l=>F14 l==F14 (F9 c).1) with
  | true=>exact ⟨Re _,fun z hz=>by cases hz⟩
  | false =>
  cases h4:(acc.length==16) with
  | true=>exact ⟨Re _,fun z hz=>by cases hz⟩
  | false =>
   have hne:acc.length≠16:=Qw.1 h4
   refine readF_inv put hl hm r (i+1) _ (by rw [hl]; omega) fun z hz=>?_
   rcases hm _ _ _ hz with rfl | hz
   ·exact specLine_sz c
   ·exact h2 z hz
theorem read_all (list:List Za):(F71 list).1.length<=16/\∀ z∈(F71 list).1,z.size<=1048576:=by
 rw [specRead_eq]
 exact readF_inv _ put_len (fun a x z h=>put_mem.1 h) list 0 [] (Re _) fun z hz=>by cases hz
theorem read_len (list:List Za):(F71 list).1.length<=16:=(read_all list).1
theorem read_sz (list:List Za):∀ k:Nat,((F71 list).1.getD k default).size<=1048576:=getD_sz (read_all list).2
theorem readF_same:∀ (r:List Za) (i:Nat) (L O:List Za),SortedB O->(∀ z,z∈L↔z∈O)->L.Nodup->L.length=O.length ->
  (readF (fun a x=>a++[x]) i L r).2=(readF F79 i O r).2/\SortedB (readF F79 i O r).1/\(∀ z,z∈(readF (fun a x=>a++[x]) i L r).1↔z∈(readF F79 i O r).1)/\(readF (fun a x=>a++[x]) i L r).1.Nodup
 | [],i,L,O,h1,h2,h3,h4=>⟨rfl,h1,h2,h3⟩
 | c :: r,i,L,O,h1,h2,h3,h4=>by
  rw [readF,readF]
  cases ((F11 c).2&&((F11 c).1.length==0)) with
  | true=>exact readF_same r (i+1) L O h1 h2 h3 h4
  | false =>
  rw [Qb,Qb]
  cases (!(F9 c).2) with
  | true=>exact ⟨rfl,List.Pairwise.nil,fun z=>Iff.rfl,List.Pairwise.nil⟩
  | false =>
  rw [Qb,Qb]
  have ha:L.any (fun l=>F14 l==F14 (F9 c).1)=O.any (fun l=>F14 l==F14 (F9 c).1):=by
   rw [Tt,Ry,Ry]
   exact ⟨fun ⟨x,hx,hp⟩=>⟨x,(h2 x).1 hx,hp⟩,fun ⟨x,hx,hp⟩=>⟨x,(h2 x).2 hx,hp⟩⟩
  rw [ha,h4]
  cases hk:O.any (fun l=>F14 l==F14 (F9 c).1) with
  | true=>exact ⟨rfl,List.Pairwise.nil,fun z=>Iff.rfl,List.Pairwise.nil⟩
  | false =>
  rw [Qb,Qb]
  cases (O.length==16) with
  | true=>exact ⟨rfl,List.Pairwise.nil,fun z=>Iff.rfl,List.Pairwise.nil⟩
  | false =>
   have hn:(F9 c).1 ∉ O:=fun hm=>by
    rw [Ry.2 ⟨_,hm,by simp⟩] at hk
    cases hk
   refine readF_same r (i+1) _ _ (put_sorted h1 hn) (fun z=>?_) ?_ (by rw [put_len,Qu,h4]; rfl)
   ·rw [put_mem,Q4,Qy,h2 z]
    exact Or.comm
   ·refine List.pairwise_append.2 ⟨h3,List.pairwise_singleton _ _,fun x hx y hy e=>?_⟩
    rw [Qy] at hy
    subst hy; subst e
    exact hn ((h2 _).1 hx)
theorem split_sz10 (text:Za) (h:text.size<=1048576):∀ k:Nat,((F41 text Zn).getD k default).size<=1048576:=fun k=>by
 have:=cutS_sz text 10 h k
 rw [show F85 text 10=splitS text Zn from specCut_split text 10] at this
 exact this
theorem take_sz {xs:List Za} {n:Nat} (h:∀ k:Nat,(xs.getD k default).size<=n) (m:Nat):∀ k:Nat,((xs.take m).getD k default).size<=n:=getD_sz fun x hx=>mem_sz h (Ta hx)
theorem readLine_ok (lines:List Za) (text:Za) (h:(F65 lines text).2=0):lines.length≠16:=fun hl=>by
 unfold F65 at h
 rw [hl] at h
 revert h
 cases (!((F8 text).2)) <;> cases (lines.any (fun (x0:Za)=>F124 x0 ((F8 text).1))) <;> simp
theorem readLine_sz (lines:List Za) (text:Za):(F65 lines text).1.size<=1048576:=by
 unfold F65
 cases (!((F8 text).2)) <;> cases (lines.any (fun (x0:Za)=>F124 x0 ((F8 text).1))) <;> cases (((lines.length:Int))==16) <;> first | exact Re _ | exact implLine_sz text
theorem sortS_sz {xs:List Za} {n:Nat} (h:∀ k:Nat,(xs.getD k default).size<=n):∀ k:Nat,((F66 xs).getD k default).size<=n:=getD_sz fun x hx=>mem_sz h (sortS_mem.1 hx)
theorem srtL_len (xs:List Za):(F66 xs).length=xs.length:=sortS_len xs
theorem kc65 (lines:List Za) (text:Za) {K_:Prop} (p0_:text.size<=1048576) (p1_:∀ k:Nat,(lines.getD k default).size<=1048576) (k_:K_):(text.size<=1048576/\(∀ k:Nat,(lines.getD k default).size<=1048576))/\(Imp (.l 1 eStr lines) (.l 1 eStr lines))/\(Imp (.v (.string text)) (.v (.string text)))/\K_:=⟨⟨p0_,p1_⟩,Imp.refl _,Imp.refl _,k_⟩
abbrev kh65 (lines:List Za) (text:Za):Hint false Tryz.prog:=.call 65 (S65 lines text) (ok65 lines text) none
abbrev kh66f (x9:List Za):Hint false Tryz.prog:=.call 66 (S66 x9) ((ok66 x9).to false) none
theorem kc18 (lines:List Za) {K_:Prop} (p0_:lines.length<=1048576) (p1_:∀ k:Nat,(lines.getD k default).size<=1048576) (k_:K_):(lines.length<=1048576/\(∀ k:Nat,(lines.getD k default).size<=1048576))/\(Imp (.l 1 eStr lines) (.l 1 eStr lines))/\K_:=⟨⟨p0_,p1_⟩,Imp.refl _,k_⟩
abbrev kh18 (lines:List Za):Hint false Tryz.prog:=.call 18 (S18 lines) (ok18 lines) none
def F20_j0 (text:Za):Lp (List Za) (List Za×ConfFault) :=
 bif (((F41 text Zn).getD (((F41 text Zn).length:Int)-1).toNat default).toList==Zf.toList) then (.done ((F41 text Zn).take (((F41 text Zn).length:Int)-1).toNat)) else (.done (F41 text Zn))
def F20_s0 (text:Za) (cuts:List Za):(List Za×Int)->Lp (List Za×Int) (List Za×ConfFault):=fun (lines1,v39) =>
 bif (decide (v39<(cuts.length:Int))) then (bif (bif (F10 (cuts.getD v39.toNat default)).2 then (((F10 (cuts.getD v39.toNat default)).1.length:Int)==0) else false) then (.next (lines1,(v39+1))) else (bif ((F65 lines1 (cuts.getD v39.toNat default)).2 != 0) then (.ret (([]:List Za),(⟨(v39+1),(F65 lines1 (cuts.getD v39.toNat default)).2⟩:ConfFault))) else (.next ((lines1++[(F65 lines1 (cuts.getD v39.toNat default)).1]),(v39+1))))) else (.done (lines1,v39))
def F20_j1 (text:Za) (cuts:List Za):Lp (List Za) (List Za×ConfFault) :=
 (runL (F20_s0 text cuts) (((cuts.length:Int)-0).toNat+1) (([]:List Za),0)).fin Lp.ret (fun (lines1,v39)=>.done lines1)
def F20 (text:Za):List Za×ConfFault :=
 (F20_j0 text).fin (fun r=>r) (fun cuts=>bif (bif decide ((text.size:Int)>4000) then true else decide ((cuts.length:Int)>80)) then (([]:List Za),(⟨0,10⟩:ConfFault)) else ((F20_j1 text cuts).fin (fun r=>r) (fun lines=>bif ((F18 (F66 lines)) != 0) then (([]:List Za),(⟨0,(F18 (F66 lines))⟩:ConfFault)) else ((F66 lines),(⟨0,0⟩:ConfFault)))))
abbrev jI20_0 (text:Za) (cuts:List Za):Prop:=(∀ k:Nat,(cuts.getD k default).size<=1048576)/\True
abbrev jJ20_0 (text:Za) (j:List Za):Prop:=(F20_j0 text)=Lp.done j/\jI20_0 text j
theorem jn20_0 (text:Za) (cuts:List Za) (e:(F20_j0 text)=Lp.done cuts) (h:jI20_0 text cuts):∃ j:List Za,((.string text:Value)=.string text)/\((.int .i64 0:Value)=.int .i64 0)/\((.int .i64 0:Value)=.int .i64 0)/\(Imp (.l 1 eStr cuts) (.l 1 eStr j))/\jJ20_0 text j:=⟨cuts,rfl,rfl,rfl,Imp.refl _,e,h⟩
abbrev lN20_0 (cuts:List Za):Nat×(List Za×Int):=((((cuts.length:Int)-0).toNat+1),(([]:List Za),0))
abbrev lI20_0 (cuts:List Za) (m39:Nat) (lines1:List Za) (v39:Int):Prop:=Int.toNat ((cuts.length:Int)-v39)<m39/\lines1.length<=16/\(∀ k:Nat,(lines1.getD k default).size<=1048576)/\(0:Int)<=v39
abbrev lX20_0 (text:Za) (cuts:List Za):Lp (List Za×Int) (List Za×ConfFault):=LpX (F20_s0 text cuts) (lN20_0 cuts)
abbrev lJ20_0 (text:Za) (cuts:List Za) (i:Nat×(List Za×Int)):Prop:=LpJ (F20_s0 text cuts) (lN20_0 cuts) i (lI20_0 cuts i.1 i.2.1 i.2.2)
abbrev lH20_0 (text:Za) (cuts:List Za) (i:Nat×(List Za×Int)) (m39:Nat) (lines1:List Za) (v39:Int):Prop:=LpH (F20_s0 text cuts) (lN20_0 cuts) i m39 (lines1,v39) (lI20_0 cuts (m39+1) lines1 v39)
abbrev lE20_0 (cuts:List Za) (lines1:List Za) (v39:Int) (lines1_:List Za) (v39_:Int) (K39:Prop):Prop:=(Rf (.int .i64 (cuts.length:Int)))/\((.int .i64 v39:Value)=.int .i64 v39_)/\(Rf (.int .i64 0))/\(Rf (.int .i64 0))/\(Imp (.l 1 eStr lines1) (.l 1 eStr lines1_))/\(Im (.l 1 eStr cuts))/\K39
theorem un20_0 (text:Za) (cuts:List Za) (i:Nat×(List Za×Int)) (h:lJ20_0 text cuts i):lH20_0 text cuts i (i.1-1) i.2.1 i.2.2:=⟨hd1 h.1 h.2.1,hd3 h.2.1,hd2 h.2.1,h.2.2⟩
theorem bk20_0 (text:Za) (cuts:List Za) (i:Nat×(List Za×Int)) (m39:Nat) (lines1:List Za) (v39:Int) (hl:m39<i.1) (e:runL (F20_s0 text cuts) m39 (lines1,v39)=lX20_0 text cuts) (h:lI20_0 cuts m39 lines1 v39):∃ j:Nat×(List Za×Int),lE20_0 cuts lines1 v39 j.2.1 j.2.2 (lJ20_0 text cuts j/\j.1<i.1):=⟨(m39,(lines1,v39)),rfl,rfl,rfl,rfl,Imp.refl _,Imp.refl _,⟨e,h⟩,hl⟩
theorem en20_0 (text:Za) (cuts:List Za) (h:([]:List Za).length<=16/\(∀ k:Nat,(([]:List Za).getD k default).size<=1048576)/\(0:Int)<=0):lE20_0 cuts ([]:List Za) 0 ([]:List Za) 0 (lJ20_0 text cuts (lN20_0 cuts)):=⟨rfl,rfl,rfl,rfl,Imp.refl _,Imp.refl _,rfl,Qr _,h⟩
abbrev jI20_1 (text:Za) (cuts:List Za) (lines:List Za):Prop:=lines.length<=16/\(∀ k:Nat,(lines.getD k default).size<=1048576)
abbrev jJ20_1 (text:Za) (cuts:List Za) (j:List Za):Prop:=(F20_j1 text cuts)=Lp.done j/\jI20_1 text cuts j
theorem jn20_1 (text:Za) (cuts:List Za) (lines:List Za) (e:(F20_j1 text cuts)=Lp.done lines) (h:jI20_1 text cuts lines):∃ j:List Za,((.int .i64 0:Value)=.int .i64 0)/\((.int .i64 0:Value)=.int .i64 0)/\(Imp (.l 1 eStr lines) (.l 1 eStr j))/\jJ20_1 text cuts j:=⟨lines,rfl,rfl,Imp.refl _,e,h⟩
theorem fi20 (text:Za) (r:List Za×ConfFault) (hF:r=(F20 text)):(Imp (.l 1 eStr r.1) (.l 1 eStr (F20 text).1))/\((.int .i64 r.2.Line:Value)=.int .i64 (F20 text).2.Line)/\((.int .i64 r.2.Code:Value)=.int .i64 (F20 text).2.Code)/\True:=by cases hF; exact ⟨Imp.refl _,rfl,rfl,trivial⟩
def S20 (text:Za):Spec:=⟨[.r (.c (.v (.string text)))],.tu [.ow (.l 1 eStr (F20 text).1),.ag [.v (vI (F20 text).2.Line),.v (vI (F20 text).2.Code)]],text.size<=1048576⟩
abbrev q20_1 (cuts:List Za) (v39:Int):=(cuts.getD v39.toNat default)
theorem ok20 (text:Za):(S20 text).ok Tryz.prog 20 false :=
 fnG_ok mixed (fn:=Tryz.f20) (ct:=.seq .no (.seq (.reg [(1,kh41f text Zn)]) (.cut (ι:=List Za) (fun j=>(fun (cuts:List Za)=>(⟨[(0,some (.v (.string text))),(3,some (.p 0 0)),(4,some (.h 1 0))],[(0,some (.box 36 [.v (vI 0),.v (vI 0)])),(1,some (.own 1 (.l 1 eStr cuts)))],2⟩:St)) j) (jJ20_0 text) (.seq (.reg [(3,.bnd)]) (.cond (.reg [(3,.bnd),(4,.own)]) .no)) (fun j=>(fun (cuts:List Za)=>(.seq (.seq .no (.cond (.seq .no .no) .no)) (.seq (.reg [(0,.dat (.l 1 eStr ([]:List Za)))]) (.cut (ι:=List Za) (fun j=>(fun (lines:List Za)=>(⟨[(3,some (.p 0 0)),(5,some (.h 1 0))],[(0,some (.box 36 [.v (vI 0),.v (vI 0)])),(1,some (.own 1 (.l 1 eStr lines)))],2⟩:St)) j) (jJ20_1 text cuts) (.seqk [(5,0),(37,0)] .no (.blk (.loop (ι:=Nat×(List Za×Int)) (fun i=>(fun (lines1:List Za) (v39:Int)=>(⟨[(3,some (.p 0 0)),(5,some (.h 1 0)),(37,some (.h 2 0)),(38,some (.v (vI (cuts.length:Int)))),(39,some (.v (vI v39)))],[(0,some (.box 36 [.v (vI 0),.v (vI 0)])),(1,some (.own 1 (.l 1 eStr lines1))),(2,some (.own 2 (.l 1 eStr cuts)))],3⟩:St)) i.2.1 i.2.2) (lJ20_0 text cuts) (fun i=>i.1) (lN20_0 cuts) (fun i=>(fun (lines1:List Za) (v39:Int)=>(.seq .no (.seq (.cond .no .no) (.seq (.blk (.seq .no (.seq (.seq (.reg [(1,kh10 (q20_1 cuts v39))]) (.seq .no (.cond .no .no))) (.seq (.reg [(2,kh65 lines1 (q20_1 cuts v39))]) (.seq (.seq .no (.cond (.seq (.reg [(1,.bnd)]) .no) .no)) (.reg [(3,.dat (.l 1 eStr (lines1++[(F65 lines1 (q20_1 cuts v39)).1])))])))))) (.reg [(0,.bnd)]))))) i.2.1 i.2.2)))) (fun j=>(fun (lines:List Za)=>(.seq (.reg [(1,kh66f lines)]) (.seq (.seq (.reg [(1,kh18 (F66 lines))]) (.seq .no (.cond (.seq .no .no) .no))) (.seq .no .no)))) j))))) j)))) Tryz.func20 (fun (hpre0:text.size<=1048576)=>kc41 text Zn uu2 uu1 uu1 uu1 (fun gv1 gv2=>have gv3:1<=(F41 text Zn).length:=(by exact splitS_pos _ _ (Qn 1)); have gv4:(F41 text Zn).length<=text.size+1:=(by exact splitS_le _ _ (Qn 1)); have gv5:∀ k:Nat,((F41 text Zn).getD k default).size<=1048576:=(by exact split_sz10 text (by first | omega | (simp only [lens,ib] at*<;> omega))); ai (ai (iok (((F41 text Zn).length:Int)-1) uu2) (ai (uu2:ib (((F41 text Zn).length:Int)-1) (F41 text Zn)) (ifb (((F41 text Zn).getD (((F41 text Zn).length:Int)-1).toNat default).toList==Zf.toList) (fun h6=>ai (iok (((F41 text Zn).length:Int)-1) uu2) (ai (uu2:0<=(0:Int)/\(0:Int)<=(((F41 text Zn).length:Int)-1)/\(((F41 text Zn).length:Int)-1)<=((F41 text Zn).length:Int)) (jn20_0 text ((F41 text Zn).take (((F41 text Zn).length:Int)-1).toNat) (S5 (condT h6 rfl)) uu75))) (fun h6=>jn20_0 text (F41 text Zn) (S5 (condF h6 rfl)) uu75)))) (fun (j:List Za) (hj:jJ20_0 text j)=>(fun (cuts:List Za) (hJ0_7:(F20_j0 text)=Lp.done cuts) (hw:jI20_0 text cuts)=>have _:=hw.1; ifb (bif decide ((text.size:Int)>4000) then true else decide ((cuts.length:Int)>80)) (fun h8=>(fun hF:(([]:List Za),(⟨0,10⟩:ConfFault))=(F20 text)=>ai ((Imp.nil 1 eStr).trans (Imp.of_eq (Qh (fun r:List Za×ConfFault=>Dat.l 1 eStr r.1) hF))) (ai (Qh (fun r:List Za×ConfFault=>(.int .i64 r.2.Line:Value)) hF) (ai (Qh (fun r:List Za×ConfFault=>(.int .i64 r.2.Code:Value)) hF) trivial))) (finD hJ0_7 (condT h8 rfl))) (fun h8=>have _:=Qv (orF1 h8); have _:=Qv (orF2 h8); ai (bokr 1 eStr ([]:List Za) fun _=>rfl) (ai (kn ([]:List Za) fun _=>kn cuts fun _=>ai (en20_0 text cuts (by refine ⟨?_,?_,?_⟩ <;> first | omega | (simp only [lens,ib] at*<;> omega) | omega | exact sz_nil | assumption | exact sz_app (by assumption) (readLine_sz _ _) | (have h9:=readLine_ok lines1 (q20_1 cuts v39) (by first | assumption | omega); simp only [Qu,Qx,Rs] at *; omega))) (fun (i0:Nat×(List Za×Int)) (hi0:lJ20_0 text cuts i0)=>(fun (m0:Nat) (lines1:List Za) (v39:Int) (hh0:lH20_0 text cuts i0 m0 lines1 v39)=>have hI0:=hh0.1; have hl0:=hh0.2.1; have _:=hh0.2.2.1; have _:=hh0.2.2.2.1; have _:=hh0.2.2.2.2.1; have _:=hh0.2.2.2.2.2; ifd (v39<(cuts.length:Int)) (fun h10 _=>ai (uu2:ib v39 cuts) (kc10 (q20_1 cuts v39) (by exact (by assumption:∀ k:Nat,(cuts.getD k default).size<=1048576) _) (fun gv11 gv12=>ifb (bif (F10 (q20_1 cuts v39)).2 then (((F10 (q20_1 cuts v39)).1.length:Int)==0) else false) (fun h13=>have _:=(andT1 h13); have _:=eq_of_beq (andT2 h13); ai (iok (v39+1) uu2) (bk20_0 text cuts i0 m0 lines1 (v39+1) hl0 (runL_next hI0 (condT h10 (condT h13 rfl))) uu76)) (fun h13=>kc65 lines1 (q20_1 cuts v39) uu77 uu77 (have gv14:(F65 lines1 (q20_1 cuts v39)).1.size<=1048576:=(by exact readLine_sz _ _); ifn (F65 lines1 (q20_1 cuts v39)).2 0 (fun h15 _=>ai (iok (v39+1) uu2) ((fun hF:(([]:List Za),(⟨(v39+1),(F65 lines1 (q20_1 cuts v39)).2⟩:ConfFault))=(F20 text)=>ai ((Imp.nil 1 eStr).trans (Imp.of_eq (Qh (fun r:List Za×ConfFault=>Dat.l 1 eStr r.1) hF))) (ai (Qh (fun r:List Za×ConfFault=>(.int .i64 r.2.Line:Value)) hF) (ai (Qh (fun r:List Za×ConfFault=>(.int .i64 r.2.Code:Value)) hF) trivial))) (finD hJ0_7 (condF h8 (finR (S5 (finR (runL_ret hI0 (condT h10 (condF h13 (condT h15 rfl)))) rfl)) rfl))))) (fun h15 _=>ai (appr 1 eStr lines1 [(F65 lines1 (q20_1 cuts v39)).1] fun _=>rfl) (ai (uu17:(lines1++[(F65 lines1 (q20_1 cuts v39)).1]).length*16<=140737488355328) (ai (iok (v39+1) uu2) (bk20_0 text cuts i0 m0 (lines1++[(F65 lines1 (q20_1 cuts v39)).1]) (v39+1) hl0 (runL_next hI0 (condT h10 (condF h13 (condF h15 rfl)))) uu76))))))))) (fun h10 _=>have hD0_16:lX20_0 text cuts=Lp.done (lines1,v39):=runL_done hI0 (condF h10 rfl); jn20_1 text cuts lines1 (S5 (finD hD0_16 rfl)) (by refine ⟨?_,?_⟩ <;> first | omega | (simp only [lens,ib] at*<;> omega) | assumption | exact take_sz (by assumption) _))) (i0.1-1) i0.2.1 i0.2.2 (un20_0 text cuts i0 hi0))) (fun (j:List Za) (hj:jJ20_1 text cuts j)=>(fun (lines:List Za) (hJ1_17:(F20_j1 text cuts)=Lp.done lines) (hw:jI20_1 text cuts lines)=>have _:=hw.1; have _:=hw.2; kc66 lines uu2 (kc18 (F66 lines) uu78 uu78 (ifn (F18 (F66 lines)) 0 (fun h18 _=>(fun hF:(([]:List Za),(⟨0,(F18 (F66 lines))⟩:ConfFault))=(F20 text)=>ai ((Imp.nil 1 eStr).trans (Imp.of_eq (Qh (fun r:List Za×ConfFault=>Dat.l 1 eStr r.1) hF))) (ai (Qh (fun r:List Za×ConfFault=>(.int .i64 r.2.Line:Value)) hF) (ai (Qh (fun r:List Za×ConfFault=>(.int .i64 r.2.Code:Value)) hF) trivial))) (finD hJ0_7 (condF h8 (finD hJ1_17 (condT h18 rfl))))) (fun h18 _=>fi20 text ((F66 lines),(⟨0,0⟩:ConfFault)) (finD hJ0_7 (condF h8 (finD hJ1_17 (condF h18 rfl)))))))) j hj.1 hj.2)))) j hj.1 hj.2))) uu3
theorem kc70 (text:Za) {K_:Prop} (p0_:text.size<=1048576) (q0_:text.size<=1048576) (q1_:text.size<=1048576) (k_:((F70 text).length<=1048577)->(∀ k:Nat,((F70 text).getD k default).size<=1048576)->K_):(text.size<=1048576)/\(Imp (.v (.string text)) (.v (.string text)))/\K_:=⟨p0_,Imp.refl _,k_ (pieces_len text q0_) (pieces_sz text q1_)⟩
abbrev kh70 (text:Za):Hint true Tryz.prog:=.call 70 (S70 text) (ok70 text) none
theorem kc71 (list:List Za) {K_:Prop} (p0_:list.length<=1048577) (p1_:∀ k:Nat,(list.getD k default).size<=1048576) (k_:((F71 list).1.length<=16)->(∀ k:Nat,((F71 list).1.getD k default).size<=1048576)->K_):(list.length<=1048577/\(∀ k:Nat,(list.getD k default).size<=1048576))/\(Imp (.l 1 eStr list) (.l 1 eStr list))/\K_:=⟨⟨p0_,p1_⟩,Imp.refl _,k_ (read_len list) (read_sz list)⟩
abbrev kh71 (list:List Za):Hint true Tryz.prog:=.call 71 (S71 list) (ok71 list) none
theorem kc19 (lines:List Za) {K_:Prop} (p0_:lines.length<=1048576) (p1_:∀ k:Nat,(lines.getD k default).size<=1048576) (k_:K_):(lines.length<=1048576/\(∀ k:Nat,(lines.getD k default).size<=1048576))/\(Imp (.l 1 eStr lines) (.l 1 eStr lines))/\K_:=⟨⟨p0_,p1_⟩,Imp.refl _,k_⟩
abbrev kh19 (lines:List Za):Hint true Tryz.prog:=.call 19 (S19 lines) (ok19 lines) none
def F22 (text:Za):List Za×ConfFault :=
 bif (decide ((text.size:Int)>4000)) then (([]:List Za),(⟨0,10⟩:ConfFault)) else (bif (decide (((F70 text).length:Int)>80)) then (([]:List Za),(⟨0,10⟩:ConfFault)) else (bif ((F71 (F70 text)).2.Code != 0) then (([]:List Za),(F71 (F70 text)).2) else (bif ((F19 (F71 (F70 text)).1) != 0) then (([]:List Za),(⟨0,(F19 (F71 (F70 text)).1)⟩:ConfFault)) else ((F71 (F70 text)).1,(⟨0,0⟩:ConfFault)))))
theorem fi22 (text:Za) (r:List Za×ConfFault) (hF:r=(F22 text)):(Imp (.l 1 eStr r.1) (.l 1 eStr (F22 text).1))/\((.int .i64 r.2.Line:Value)=.int .i64 (F22 text).2.Line)/\((.int .i64 r.2.Code:Value)=.int .i64 (F22 text).2.Code)/\True:=by cases hF; exact ⟨Imp.refl _,rfl,rfl,trivial⟩
def S22 (text:Za):Spec:=⟨[.r (.c (.v (.string text)))],.tu [.ow (.l 1 eStr (F22 text).1),.ag [.v (vI (F22 text).2.Line),.v (vI (F22 text).2.Code)]],text.size<=1048576⟩
theorem ok22 (text:Za):(S22 text).ok Tryz.prog 22 :=
 fnG_ok mixed (fn:=Tryz.f22) (ct:=.seq .no (.seq (.seq .no (.cond (.seq (.reg [(0,.dat (.l 1 eStr ([]:List Za)))]) .no) .no)) (.seq (.reg [(1,kh70 text)]) (.seq (.seq .no (.cond (.seq (.reg [(0,.dat (.l 1 eStr ([]:List Za)))]) .no) .no)) (.seq (.reg [(1,kh71 (F70 text))]) (.seq (.seq .no (.cond (.seq (.reg [(0,.dat (.l 1 eStr ([]:List Za)))]) .no) .no)) (.seq (.reg [(1,kh19 (F71 (F70 text)).1)]) (.seq (.seq .no (.cond (.seq (.reg [(0,.dat (.l 1 eStr ([]:List Za)))]) .no) .no)) (.seq .no .no))))))))) Tryz.func22 (fun (hpre0:text.size<=1048576)=>ifd ((text.size:Int)>4000) (fun h1 _=>ai (bokr 1 eStr ([]:List Za) fun _=>rfl) (fi22 text (([]:List Za),(⟨0,10⟩:ConfFault)) (condT h1 rfl))) (fun h1 _=>kc70 text uu0 uu0 uu0 (fun gv2 gv3=>ifd (((F70 text).length:Int)>80) (fun h4 _=>ai (bokr 1 eStr ([]:List Za) fun _=>rfl) (fi22 text (([]:List Za),(⟨0,10⟩:ConfFault)) (condF h1 (condT h4 rfl)))) (fun h4 _=>kc71 (F70 text) uu0 uu35 (fun gv5 gv6=>ifn (F71 (F70 text)).2.Code 0 (fun h7 _=>ai (bokr 1 eStr ([]:List Za) fun _=>rfl) (fi22 text (([]:List Za),(F71 (F70 text)).2) (condF h1 (condF h4 (condT h7 rfl))))) (fun h7 _=>kc19 (F71 (F70 text)).1 uu0 (by first | assumption | exact gv3 | exact gv6 | (intros; exact trivial) | (intros; exact Re _)) (ifn (F19 (F71 (F70 text)).1) 0 (fun h8 _=>ai (bokr 1 eStr ([]:List Za) fun _=>rfl) (fi22 text (([]:List Za),(⟨0,(F19 (F71 (F70 text)).1)⟩:ConfFault)) (condF h1 (condF h4 (condF h7 (condT h8 rfl)))))) (fun h8 _=>fi22 text ((F71 (F70 text)).1,(⟨0,0⟩:ConfFault)) (condF h1 (condF h4 (condF h7 (condF h8 rfl)))))))))))) uu3
theorem readLine_eq (lines:List Za) (text:Za):F65 lines text=bif !(F9 text).2 then (Zf,2) else bif lines.any (fun l=>F14 l==F14 (F9 text).1) then (Zf,4) else bif lines.length==16 then (Zf,1) else ((F9 text).1,0):=by
 unfold F65
 rw [line_same,show (((lines.length:Nat):Int)==16)=(lines.length==16) from len_beq _ 16]
 have e:(fun (x0:Za)=>F124 x0 (F9 text).1)=fun l=>F14 l==F14 (F9 text).1:=by
  funext l
  unfold F124
  rw [key_same,key_same,beq_ba,Tt,Rj,Sb]
 rw [e]
def appF (a:List Za) (x:Za):List Za:=a++[x]
theorem implRead_loop (text:Za) (cuts:List Za):∀ (m i:Nat) (L:List Za),i+m=cuts.length->∀ fuel,m<fuel ->
  (runL (F20_s0 text cuts) fuel (L,(i:Int))).fin Lp.ret (fun (x:List Za×Int)=>(.done x.1:Lp (List Za) (List Za×ConfFault)))=bif (readF appF i L (cuts.drop i)).2.Code==0 then .done (readF appF i L (cuts.drop i)).1 else .ret ([],(readF appF i L (cuts.drop i)).2)
 | m,i,L,_,0,hf=>absurd hf (R5 _)
 | 0,i,L,h,fuel+1,hf=>by
  obtain rfl:i=cuts.length:=by omega
  have e:F20_s0 text cuts (L,(cuts.length:Int))=.done (L,(cuts.length:Int)):=by
   simp only [F20_s0,geD,Qb]
  rw [runL_d _ e,Q3 (Qn _)]; rfl
 | m+1,i,L,h,fuel+1,hf=>by
  rw [drop_at cuts i uu0,readF]
  generalize hc:cuts.getD i default=c
  have e:F20_s0 text cuts (L,(i:Int))=bif ((F11 c).2&&((F11 c).1.length==0)) then .next (L,((i+1:Nat):Int))
    else bif (F65 L c).2 != 0 then .ret ([],⟨((i+1:Nat):Int),(F65 L c).2⟩) else .next (L++[(F65 L c).1],((i+1:Nat):Int)):=by
   simp only [F20_s0,ltD (show i<cuts.length by omega),Qc,nn,hc,words_same]
   rw [show ((((F11 c).1.length:Nat):Int)==0)=((F11 c).1.length==0) from len_beq _ 0]
   cases (F11 c).2 <;> rfl
  rw [readLine_eq] at e
  cases h1:((F11 c).2&&((F11 c).1.length==0)) with
  | true=>rw [h1,Qc] at e; rw [runL_n _ e,implRead_loop text cuts m (i+1) L uu0 fuel uu0,Qc]
  | false =>
  rw [h1,Qb] at e; rw [Qb]
  cases h2:(!(F9 c).2) with
  | true=>rw [h2,Qc] at e; rw [runL_r _ e]; rfl
  | false =>
  rw [h2,Qb] at e; rw [Qb]
  cases h3:L.any (fun l=>F14 l==F14 (F9 c).1) with
  | true=>rw [h3,Qc] at e; rw [runL_r _ e]; rfl
  | false =>
  rw [h3,Qb] at e; rw [Qb]
  cases h4:(L.length==16) with
  | true=>rw [h4,Qc] at e; rw [runL_r _ e]; rfl
  | false =>
  rw [h4,Qb] at e; rw [Qb,runL_n _ e,implRead_loop text cuts m (i+1) _ uu0 fuel uu0]
  rfl
theorem parse_same (text:Za):F20 text=F22 text:=by
 have hj0:F20_j0 text=.done (F70 text):=by
  rw [pieces_eq]
  unfold F20_j0
  show (bif (((splitS text Zn).getD (((splitS text Zn).length:Int)-1).toNat default).toList==Zf.toList) then (Lp.done ((splitS text Zn).take (((splitS text Zn).length:Int)-1).toNat)) else (.done (splitS text Zn)))=_
  rw [show Int.toNat (((splitS text Zn).length:Int)-1)=(splitS text Zn).length-1 by omega]
  cases (((splitS text Zn).getD ((splitS text Zn).length-1) default).toList==Zf.toList) <;> rfl
 unfold F20 F22
 rw [hj0]
 generalize F70 text=cuts
 show (bif (bif decide ((text.size:Int)>4000) then true else decide ((cuts.length:Int)>80)) then _ else _)=_
 cases decide ((text.size:Int)>4000) with
 | true=>rfl
 | false =>
 rw [Qb,Qb]
 cases decide ((cuts.length:Int)>80) with
 | true=>rfl
 | false =>
 rw [Qb,Qb]
 have hl:=implRead_loop text cuts cuts.length 0 [] uu0 (Int.toNat ((cuts.length:Int)-0)+1) uu0
 rw [Ro] at hl
 have hl:F20_j1 text cuts=bif (readF appF 0 [] cuts).2.Code==0 then .done (readF appF 0 [] cuts).1 else .ret ([],(readF appF 0 [] cuts).2):=hl
 rw [hl,specRead_eq]
 obtain ⟨k1,k2,k3,k4⟩:=readF_same cuts 0 [] [] List.Pairwise.nil (fun z=>Iff.rfl) List.Pairwise.nil rfl
 have k1:(readF appF 0 [] cuts).2=(readF F79 0 [] cuts).2:=k1
 have k5:F66 (readF appF 0 [] cuts).1=(readF F79 0 [] cuts).1:=by
  refine sorted_ext (sortS_sorted _ k4) k2 fun z=>?_
  exact sortS_mem.trans (k3 z)
 rw [k1]
 cases hc:((readF F79 0 [] cuts).2.Code==0) with
 | false =>
  rw [show ((readF F79 0 [] cuts).2.Code != 0)=true by rw [bne,hc]; rfl]
  rfl
 | true =>
  rw [show ((readF F79 0 [] cuts).2.Code != 0)=false by rw [bne,hc]; rfl]
  show (bif ((F18 (F66 (readF appF 0 [] cuts).1)) != 0) then _ else _)=_
  rw [k5,check_same]
  rfl
theorem parse_len (text:Za):(F22 text).1.length<=16:=by
 unfold F22
 have h:=read_len (F70 text)
 cases decide ((text.size:Int)>4000) <;> cases decide (((F70 text).length:Int)>80) <;> cases ((F71 (F70 text)).2.Code != 0) <;> cases (F19 ((F71 (F70 text)).1) != 0) <;> first | exact Re _ | exact h
theorem parse_lenI (text:Za):(F20 text).1.length<=16:=by rw [parse_same]; exact parse_len text
theorem key_idx (out:List Za) (k:Za):F99 out k=idxI (fun l:Za=>(F14 l).toList==k.toList) out:=idx_loop (fun l:Za=>(F14 l).toList==k.toList) out (F99_s0 out k) (fun i=>rfl)
theorem key_lt (out:List Za) (k:Za):F99 out k<(out.length:Int):=by rw [key_idx]; exact idxI_lt _ _

theorem specLine_200 (line:Za):(F9 line).1.size<=200:=by
 unfold F9
 rw [specJoin_eq,<- words_same]
 cases (bif (!((F10 line).2)) then true else (!(F36 ((F10 line).1)))) with
 | true=>exact Re _
 | false =>
  have h:=join_sz (F10 line).1 Zd 24 (words_sz24 line)
  have hl:=words_len line
  have h2:(F10 line).1.length*(24+Zd.size)<=8*25:=Ra 25 hl
  show (joinS (F10 line).1 Zd).size<=200
  omega
theorem neat_200 (lines:List Za) (h:F58 lines=0):∀ l∈lines,l.size<=200:=fun l hl=>by
 have hk:=(nt_facts lines h).2 l hl
 have:=specLine_200 l
 rw [((kept_iff l).1 hk).2] at this
 exact this
abbrev w22_:Za:=⟨#[117,115,101,114,32]⟩
theorem mem_join (c:UInt8):∀ (ws:List (List UInt8)) (b:UInt8),b∈Lib.join ws [c]->b=c\/∃ w∈ws,b∈w
 | [],b,h=>by cases h
 | [x],b,h=>by rw [Lib.join_one] at h; exact .inr ⟨x,Qi,h⟩
 | x :: y :: r,b,h=>by
  rw [Lib.join_cons] at h
  rcases Q4.1 h with h | h
  ·exact .inr ⟨x,Qi,h⟩
  ·have e:Lib.joinTail [c] (y :: r)=c :: Lib.join (y :: r) [c]:=by rw [Lib.join_cons]; rfl
   rw [e] at h
   rcases Qt.1 h with h | h
   ·exact .inl h
   ·rcases mem_join c (y :: r) b h with h | ⟨w,hw,hb⟩
    ·exact .inl h
    ·exact .inr ⟨w,Qg _ hw,hb⟩
theorem mem_splitL (c:UInt8):∀ (l w:List UInt8),w∈splitL c l->∀ b∈w,b∈l
 | [],w,h,b,hb=>by rw [splitL,Qy] at h; rw [h] at hb; cases hb
 | x :: l,w,h,b,hb=>by
  have ih:=mem_splitL c l
  rw [splitL] at h
  by_cases hx:x=c
  ·rw [if_pos hx] at h
   rcases Qt.1 h with rfl | h
   ·cases hb
   ·exact Qg _ (ih w h b hb)
  ·rw [if_neg hx] at h
   cases hs:splitL c l with
   | nil =>
    rw [hs,Qy] at h
    rw [h] at hb
    rcases Qt.1 hb with rfl | hb
    ·exact Qi
    ·cases hb
   | cons p ps =>
    rw [hs] at h ih
    rcases Qt.1 h with rfl | h
    ·rcases Qt.1 hb with rfl | hb
     ·exact Qi
     ·exact Qg _ (ih p Qi b hb)
    ·exact Qg _ (ih w (Qg _ h) b hb)
theorem kept_bytes (l:Za) (hk:F47 l=true):(35:UInt8) ∉ l.data.toList/\wordsOf l.data.toList=((F11 l).1,true):=by
 have hp:=keptP l hk
 have hw:=spec_words l
 have h35:(35:UInt8) ∉ (cut3 l Zj).1.data.toList:=by
  rcases cut_cases l 35 with ⟨h1,h2⟩ | ⟨a,b,h1,h2,h3⟩
  ·rw [h2]; exact h1
  ·rw [h3]; simpa using h2
 have hno:(35:UInt8) ∉ l.data.toList:=fun hm=>by
  rw [<- hp.joins,joinS_data] at hm
  rcases mem_join 32 _ _ hm with h | ⟨w,hw1,hb⟩
  ·exact absurd h uu1
  ·obtain ⟨x,hx,rfl⟩:=Sr.1 hw1
   rw [hw] at hx
   unfold wordsOf at hx
   cases hc:((cut3 l Zj).1.data.toList.all okB&&fitW (wordsL (cut3 l Zj).1.data.toList)) with
   | false=>rw [hc,Qb] at hx; cases hx
   | true =>
    rw [hc,Qc] at hx
    obtain ⟨y,hy,rfl⟩:=Sr.1 hx
    unfold wordsL at hy
    exact h35 (mem_splitL 32 _ y (Sz.1 hy).1 35 hb)
 refine ⟨hno,?_⟩
 have hcut:(cut3 l Zj).1=l:=by
  rcases cut_cases l 35 with ⟨h1,h2⟩ | ⟨a,b,h1,h2,h3⟩
  ·rw [h2]
  ·exact absurd (by rw [h1]; simp) hno
 rw [hcut] at hw
 rw [<- hw,hp.words]
theorem xor_in {a b:Int} (ha:0<=a) (ha2:a<4611686018427387904) (hb:0<=b) (hb2:b<4611686018427387904):0<=bitI .xor .i64 a b:=by
 obtain ⟨m,rfl⟩:=T3 ha
 obtain ⟨k,rfl⟩:=T3 hb
 have h1:m<2 ^ 62:=by omega
 have h2:k<2 ^ 62:=by omega
 have hx:m ^^^ k<2 ^ 62:=Nat.xor_lt_two_pow h1 h2
 unfold bitI
 have e:(BitVec.ofInt IntKind.i64.bits (m:Int) ^^^ BitVec.ofInt IntKind.i64.bits (k:Int)).toNat=m ^^^ k:=by
  rw [BitVec.toNat_xor,BitVec.toNat_ofInt,BitVec.toNat_ofInt]
  have hb:(2 ^ IntKind.i64.bits:Nat)=18446744073709551616:=by decide
  have e1:((m:Int)%((2 ^ IntKind.i64.bits:Nat):Int)).toNat=m:=by rw [hb]; omega
  have e2:((k:Int)%((2 ^ IntKind.i64.bits:Nat):Int)).toNat=k:=by rw [hb]; omega
  rw [e1,e2]
 simp only [e]
 rw [wrap_of uu0 uu0]
 omega
theorem tmod_ix {a b:Int} (h0:0<=a) (h1:0<b):0<=a.tmod b/\a.tmod b<b:=by
 rw [Int.tmod_eq_emod_of_nonneg h0]
 exact ⟨Int.emod_nonneg _ uu0,Int.emod_lt_of_pos _ h1⟩
theorem tmod_in {a n:Int} (h0:0<=a):0<=a.tmod n/\(1<=n->a.tmod n<n):=by
 refine ⟨?_,fun h=>(tmod_ix h0 uu0).2⟩
 rw [Int.tmod_eq_emod_of_nonneg h0]
 by_cases h:n=0
 ·subst h; simpa using h0
 ·exact Int.emod_nonneg _ h
theorem wrap73 {k:Int} (h0:0<=k) (h1:k<=2000000000):0<=IntKind.i64.wrap (IntKind.i64.wrap (k*7)+3):=by
 rw [wrap_of (n:=k*7) uu0 uu0,wrap_of uu0 uu0]; omega
structure l51Rd where
 b:List Int
 p:Int
 deriving DecidableEq,Inhabited
def F33 (Ua:SV) (code:List Int):l51Rd×SV :=
 bif (decide ((code.length:Int)>2000)) then ((⟨(code.take (Int.toNat 2000)),0⟩:l51Rd),(cutSV 1 (Int.toNat 0) (code.take (Int.toNat 2000)).length Ua)) else ((⟨code,0⟩:l51Rd),Ua)
def S33 (Ua:SV) (code:List Int):Spec:=⟨[.vl (sv Ua) (.l 1 eByte code)],.pt 86 [.v (sv (F33 Ua code).2),.v (vI (F33 Ua code).1.p)],True⟩
theorem ok33 (Ua:SV) (code:List Int):(S33 Ua code).ok Tryz.prog 33 :=
 fnG_ok mixed (fn:=Tryz.f33) (ct:=.seqk [(0,0)] .no (.seq (.seq .no (.cond (.reg [(1,.sv)]) .no)) (.seq .no .no))) Tryz.func33 (fun (_:True)=>kn code fun _=>ifd ((code.length:Int)>2000) (fun h1 _=>ai (uu2:0<=(0:Int)/\(0:Int)<=(2000:Int)/\(2000:Int)<=(code.length:Int)) ((fun hF:((⟨(code.take (Int.toNat 2000)),0⟩:l51Rd),(cutSV 1 (Int.toNat 0) (code.take (Int.toNat 2000)).length Ua))=(F33 Ua code)=>ai (ai (Imp.of_eq (Qh (fun r:l51Rd×SV=>Dat.v (sv r.2)) hF)) (ai (Imp.of_eq (Qh (fun r:l51Rd×SV=>Dat.v (vI r.1.p)) hF)) trivial)) trivial) (condT h1 rfl))) (fun h1 _=>(fun hF:((⟨code,0⟩:l51Rd),Ua)=(F33 Ua code)=>ai (ai (Imp.of_eq (Qh (fun r:l51Rd×SV=>Dat.v (sv r.2)) hF)) (ai (Imp.of_eq (Qh (fun r:l51Rd×SV=>Dat.v (vI r.1.p)) hF)) trivial)) trivial) (condF h1 rfl))) uu3
def F48 (r1:l51Rd) (n:Int):Int×Int :=
 bif (bif decide (n<1) then true else ((r1.b.length:Int)==0)) then (0,(r1.p+1)) else (bif (decide (((r1.p+1)-1)<(r1.b.length:Int))) then (((IntKind.i64.wrap ((r1.b.getD ((r1.p+1)-1).toNat default)%256)).tmod n),(r1.p+1)) else (((bitI .xor .i64 (IntKind.i64.wrap ((IntKind.i64.wrap ((IntKind.i64.wrap ((IntKind.i64.wrap ((IntKind.i64.wrap ((r1.b.getD (((r1.p+1)-1).tmod (r1.b.length:Int)).toNat default)%256))*131))+(IntKind.i64.wrap ((IntKind.i64.wrap ((r1.b.getD ((IntKind.i64.wrap ((IntKind.i64.wrap (((r1.p+1)-1)*7))+3)).tmod (r1.b.length:Int)).toNat default)%256))*1117))))+(IntKind.i64.wrap (((r1.p+1)-1)*29))))+(IntKind.i64.wrap ((IntKind.i64.wrap (((r1.p+1)-1).tdiv (r1.b.length:Int)))*53)))) (IntKind.i64.wrap ((IntKind.i64.wrap ((IntKind.i64.wrap ((IntKind.i64.wrap ((IntKind.i64.wrap ((IntKind.i64.wrap ((r1.b.getD (((r1.p+1)-1).tmod (r1.b.length:Int)).toNat default)%256))*131))+(IntKind.i64.wrap ((IntKind.i64.wrap ((r1.b.getD ((IntKind.i64.wrap ((IntKind.i64.wrap (((r1.p+1)-1)*7))+3)).tmod (r1.b.length:Int)).toNat default)%256))*1117))))+(IntKind.i64.wrap (((r1.p+1)-1)*29))))+(IntKind.i64.wrap ((IntKind.i64.wrap (((r1.p+1)-1).tdiv (r1.b.length:Int)))*53)))).tdiv 64))).tmod n),(r1.p+1)))
def S48 (r1X:SV) (gr1:Nat) (r1:l51Rd) (n:Int):Spec:=⟨[.ptg gr1 86 (sv r1X) (.l 1 eByte r1.b) [.v (vI r1.p)] [.v (vI (F48 r1 n).2)],.r (.c (.v (vI n)))],.v (vI (F48 r1 n).1),0<=r1.p/\r1.p<=1000000000/\r1.b.length<=2000⟩
theorem ok48 (r1X:SV) (gr1:Nat) (r1:l51Rd) (n:Int):(S48 r1X gr1 r1 n).ok Tryz.prog 48 :=
 fnG_ok mixed (fn:=Tryz.f48) (ct:=.seqk [(0,0)] .no (.seq (.reg [(5,.bnd)]) (.seq (.seq .no (.cond (.seq .no .no) .no)) (.seq (.reg [(4,.bnd)]) (.seq (.seq .no (.cond (.seq .no .no) .no)) (.seq .no (.seq .no (.seq .no .no)))))))) Tryz.func48 (fun (hp:0<=r1.p/\r1.p<=1000000000/\r1.b.length<=2000)=>have hpre0:=hp.1; have hpre1:=hp.2.1; have hpre2:=hp.2.2; kn r1.b fun _=>ai (iok (r1.p+1) uu0) (ifb (bif decide (n<1) then true else ((r1.b.length:Int)==0)) (fun h1=>(fun hF:(0,(r1.p+1))=(F48 r1 n)=>ai (Qh (fun r:Int×Int=>(.int .i64 r.1:Value)) hF) (ai (ai (Imp.refl (Dat.v (sv r1X))) (ai (Imp.of_eq (Qh (fun r:Int×Int=>Dat.v (vI r.2)) hF)) trivial)) trivial)) (condT h1 rfl)) (fun h1=>have _:=Qv (orF1 h1); have _:=beqF (orF2 h1); ai (iok ((r1.p+1)-1) uu0) (ifd (((r1.p+1)-1)<(r1.b.length:Int)) (fun h2 _=>ai (uu57:0<=((r1.p+1)-1)/\((r1.p+1)-1)<(r1.b.length:Int)) (ai (uu0:¬ n=0) ((fun hF:(((IntKind.i64.wrap ((r1.b.getD ((r1.p+1)-1).toNat default)%256)).tmod n),(r1.p+1))=(F48 r1 n)=>ai (Qh (fun r:Int×Int=>(.int .i64 r.1:Value)) hF) (ai (ai (Imp.refl (Dat.v (sv r1X))) (ai (Imp.of_eq (Qh (fun r:Int×Int=>Dat.v (vI r.2)) hF)) trivial)) trivial)) (condF h1 (condT h2 rfl))))) (fun h2 _=>ai (uu0:¬ (r1.b.length:Int)=0) (ai (uu57:0<=(((r1.p+1)-1).tmod (r1.b.length:Int))/\(((r1.p+1)-1).tmod (r1.b.length:Int))<(r1.b.length:Int)) (ai (uu0:¬ (r1.b.length:Int)=0) (ai (uu57:0<=((IntKind.i64.wrap ((IntKind.i64.wrap (((r1.p+1)-1)*7))+3)).tmod (r1.b.length:Int))/\((IntKind.i64.wrap ((IntKind.i64.wrap (((r1.p+1)-1)*7))+3)).tmod (r1.b.length:Int))<(r1.b.length:Int)) (ai (uu0:¬ (r1.b.length:Int)=0) (ai (uu0:¬ (64:Int)=0) (ai (uu0:¬ n=0) ((fun hF:(((bitI .xor .i64 (IntKind.i64.wrap ((IntKind.i64.wrap ((IntKind.i64.wrap ((IntKind.i64.wrap ((IntKind.i64.wrap ((r1.b.getD (((r1.p+1)-1).tmod (r1.b.length:Int)).toNat default)%256))*131))+(IntKind.i64.wrap ((IntKind.i64.wrap ((r1.b.getD ((IntKind.i64.wrap ((IntKind.i64.wrap (((r1.p+1)-1)*7))+3)).tmod (r1.b.length:Int)).toNat default)%256))*1117))))+(IntKind.i64.wrap (((r1.p+1)-1)*29))))+(IntKind.i64.wrap ((IntKind.i64.wrap (((r1.p+1)-1).tdiv (r1.b.length:Int)))*53)))) (IntKind.i64.wrap ((IntKind.i64.wrap ((IntKind.i64.wrap ((IntKind.i64.wrap ((IntKind.i64.wrap ((IntKind.i64.wrap ((r1.b.getD (((r1.p+1)-1).tmod (r1.b.length:Int)).toNat default)%256))*131))+(IntKind.i64.wrap ((IntKind.i64.wrap ((r1.b.getD ((IntKind.i64.wrap ((IntKind.i64.wrap (((r1.p+1)-1)*7))+3)).tmod (r1.b.length:Int)).toNat default)%256))*1117))))+(IntKind.i64.wrap (((r1.p+1)-1)*29))))+(IntKind.i64.wrap ((IntKind.i64.wrap (((r1.p+1)-1).tdiv (r1.b.length:Int)))*53)))).tdiv 64))).tmod n),(r1.p+1))=(F48 r1 n)=>ai (Qh (fun r:Int×Int=>(.int .i64 r.1:Value)) hF) (ai (ai (Imp.refl (Dat.v (sv r1X))) (ai (Imp.of_eq (Qh (fun r:Int×Int=>Dat.v (vI r.2)) hF)) trivial)) trivial)) (condF h1 (condF h2 rfl)))))))))))))) uu3
theorem pick_x {b1 b2 k q:Int} (h1:0<=b1/\b1<256) (h2:0<=b2/\b2<256) (hk:0<=k/\k<=2000000000) (hq:0<=q/\q<=2000000000) :
  IntKind.i64.wrap (IntKind.i64.wrap (IntKind.i64.wrap (IntKind.i64.wrap (IntKind.i64.wrap b1*131)+IntKind.i64.wrap (IntKind.i64.wrap b2*1117))+IntKind.i64.wrap (k*29))+IntKind.i64.wrap (IntKind.i64.wrap q*53))=b1*131+b2*1117+k*29+q*53:=by
 rw [wrap_of (n:=b1) uu0 uu0,wrap_of (n:=b2) uu0 uu0,wrap_of (n:=q) uu0 uu0,wrap_of (n:=b1*131) uu0 uu0,wrap_of (n:=b2*1117) uu0 uu0,wrap_of (n:=k*29) uu0 uu0,wrap_of (n:=q*53) uu0 uu0,
  wrap_of (n:=b1*131+b2*1117) uu0 uu0,wrap_of (n:=b1*131+b2*1117+k*29) uu0 uu0,wrap_of uu0 uu0]
theorem pick_y {a n:Int} (h0:0<=a) (h1:a<4611686018427387904):0<=(bitI .xor .i64 a (IntKind.i64.wrap (a.tdiv 64))).tmod n/\(1<=n->(bitI .xor .i64 a (IntKind.i64.wrap (a.tdiv 64))).tmod n<n):=by
 have e:a.tdiv 64=a / 64:=Int.tdiv_eq_ediv_of_nonneg h0
 rw [e,wrap_of uu0 uu0]
 exact tmod_in (xor_in h0 h1 uu0 uu0)
theorem tdiv_in {k n:Int} (h0:0<=k) (h1:0<=n):0<=k.tdiv n/\k.tdiv n<=k:=by
 rw [Int.tdiv_eq_ediv_of_nonneg h0]
 exact ⟨Int.ediv_nonneg h0 h1,Int.ediv_le_self _ h0⟩
theorem pick_p (r1:l51Rd) (n:Int):(F48 r1 n).2=r1.p+1:=by
 unfold F48
 cases (bif decide (n<1) then true else ((r1.b.length:Int)==0))
 ·simp only [Qb]
  cases decide (((r1.p+1)-1)<(r1.b.length:Int)) <;> rfl
 ·rfl
theorem pick_in (r1:l51Rd) (n:Int) (h0:0<=r1.p) (h1:r1.p<=1000000000):0<=(F48 r1 n).1/\(1<=n->(F48 r1 n).1<n)/\(F48 r1 n).2=r1.p+1:=by
 unfold F48
 cases h2:(bif decide (n<1) then true else ((r1.b.length:Int)==0)) with
 | true=>simp only [Qc]; exact ⟨by omega,fun h=>by omega,trivial⟩
 | false =>
  simp only [Qb]
  cases h3:decide (((r1.p+1)-1)<(r1.b.length:Int)) with
  | true =>
   simp only [Qc]
   have h4:0<=IntKind.i64.wrap (r1.b.getD ((r1.p+1)-1).toNat default%256):=by rw [wrap_of uu0 uu0]; omega
   have:=tmod_in (n:=n) h4
   exact ⟨this.1,this.2,trivial⟩
  | false =>
   simp only [Qb]
   have hq:=tdiv_in (k:=(r1.p+1)-1) (n:=(r1.b.length:Int)) uu0 uu0
   rw [pick_x uu0 uu0 uu0 uu0]
   have:=pick_y (n:=n) (a:=r1.b.getD (((r1.p+1)-1).tmod (r1.b.length:Int)).toNat default%256*131+r1.b.getD ((IntKind.i64.wrap ((IntKind.i64.wrap (((r1.p+1)-1)*7))+3)).tmod (r1.b.length:Int)).toNat default%256*1117+(r1.p+1-1)*29+(r1.p+1-1).tdiv (r1.b.length:Int)*53) uu0 uu0
   exact ⟨this.1,this.2,trivial⟩
theorem open_b (Ua:SV) (code:List Int):(F33 Ua code).1.b.length<=2000/\(F33 Ua code).1.p=0:=by
 unfold F33
 by_cases h:(code.length:Int)>2000
 ·rw [Qs h,Qc]; exact ⟨by simp only [Rm]; omega,rfl⟩
 ·rw [Qq h,Qb]; exact ⟨by simp only; omega,rfl⟩
theorem gd33 (Ua:SV) (code:List Int):GD (sv Ua) (.l 1 eByte code) (sv (F33 Ua code).2) (.l 1 eByte (F33 Ua code).1.b):=by
 unfold F33
 intro S w h
 by_cases hl:(code.length:Int)>2000
 ·rw [Qs hl,Qc]
  obtain ⟨a,c,e1,e2,e3,e4⟩:=h
  simp only [sv,Value.slice.injEq] at e1
  obtain ⟨rfl,-,rfl⟩:=e1
  show RdV S w (.l 1 eByte (code.take 2000)) (.slice (if Ua.c=0 then Ua.a else Ua.a.map (·.add (0*1))) (code.take 2000).length (Ua.c-0))
  have hz:(if Ua.c=0 then Ua.a else Ua.a.map (·.add (0*1)))=Ua.a:=by
   by_cases hc:Ua.c=0
   ·rw [if_pos hc]
   ·rw [if_neg hc]
    cases ha:Ua.a with
    | none=>rfl
    | some a =>
     obtain ⟨x,hx⟩:∃ x,code[0]?=some x:=⟨_,Qj uu0⟩
     obtain ⟨f1,_⟩:=e4 0 x hx
     rw [ha] at f1
     rw [f1]
     simp [Addr.add_lit,ab,ao]
  rw [hz,Nat.sub_zero]
  refine ⟨_,_,rfl,by simp only [Rm]; omega,by simp only [Rm]; omega,fun i y hy=>?_⟩
  rw [Rb] at hy
  split at hy
  ·exact e4 i y hy
  ·cases hy
 ·rw [Qq hl,Qb]; exact h
theorem kc48l (X_:SV) (b_:List Int) (pp_:Int) (n:Int) {K_:Prop} (p0_:0<=pp_) (p1_:pp_<=1000000000) (p2_:b_.length<=2000) (q0_:0<=pp_) (q1_:pp_<=1000000000) (k_:(0<=(F48 ⟨b_,pp_⟩ n).1/\(1<=n->(F48 ⟨b_,pp_⟩ n).1<n)/\(F48 ⟨b_,pp_⟩ n).2=pp_+1)->K_):(0<=pp_/\pp_<=1000000000/\b_.length<=2000)/\(sv X_=sv X_)/\(Imp (.l 1 eByte b_) (.l 1 eByte b_))/\(Imps ([.v (vI pp_)]) ([.v (vI pp_)]))/\(Imp (.v (vI n)) (.v (vI n)))/\K_:=⟨⟨p0_,p1_,p2_⟩,rfl,Imp.refl _,Imps.refl _,Imp.refl _,k_ (pick_in ⟨b_,pp_⟩ n q0_ q1_)⟩
abbrev kh48l (X_:SV) (g_:Nat) (b_:List Int) (pp_:Int) (n:Int):Hint true Tryz.prog:=.call 48 (S48 X_ g_ (⟨b_,pp_⟩:l51Rd) n) (ok48 X_ g_ (⟨b_,pp_⟩:l51Rd) n) none
def F67 (r1:l51Rd) (list:List Za):Za×Int :=
 ((list.getD (F48 ⟨r1.b,r1.p⟩ (list.length:Int)).1.toNat default),(F48 ⟨r1.b,r1.p⟩ (list.length:Int)).2)
def S67 (r1X:SV) (gr1:Nat) (r1:l51Rd) (list:List Za):Spec:=⟨[.ptg gr1 86 (sv r1X) (.l 1 eByte r1.b) [.v (vI r1.p)] [.v (vI (F67 r1 list).2)],.r (.c (.l 1 eStr list))],.v (.string (F67 r1 list).1),0<=r1.p/\r1.p<=1000000000/\r1.b.length<=2000/\1<=list.length/\(∀ x∈list,x.size<=4000)⟩
theorem ok67 (r1X:SV) (gr1:Nat) (r1:l51Rd) (list:List Za):(S67 r1X gr1 r1 list).ok Tryz.prog 67 :=
 fnG_ok mixed (fn:=Tryz.f67) (ct:=.seqk [(0,0),(1,0)] .no (.seq (.reg [(4,kh48l r1X 0 r1.b r1.p (list.length:Int))]) .no)) Tryz.func67 (fun (hp:0<=r1.p/\r1.p<=1000000000/\r1.b.length<=2000/\1<=list.length/\(∀ x∈list,x.size<=4000))=>have hpre0:=hp.1; have hpre1:=hp.2.1; have hpre2:=hp.2.2.1; have hpre3:=hp.2.2.2.1; have hpre4:=hp.2.2.2.2; kn r1.b fun _=>kn list fun _=>kc48l r1X r1.b r1.p (list.length:Int) uu0 uu0 uu0 uu0 uu0 (fun gv1=>ai (uu0:ib (F48 ⟨r1.b,r1.p⟩ (list.length:Int)).1 list) ((fun hF:((list.getD (F48 ⟨r1.b,r1.p⟩ (list.length:Int)).1.toNat default),(F48 ⟨r1.b,r1.p⟩ (list.length:Int)).2)=(F67 r1 list)=>ai (Qh (fun r:Za×Int=>(.string r.1:Value)) hF) (ai (ai (Imp.refl (Dat.v (sv r1X))) (ai (Imp.of_eq (Qh (fun r:Za×Int=>Dat.v (vI r.2)) hF)) trivial)) trivial)) rfl))) uu3
theorem of_p (r1:l51Rd) (list:List Za):(F67 r1 list).2=r1.p+1:=by
 unfold F67
 exact pick_p _ _
theorem of_le {n:Nat} (r1:l51Rd) (list:List Za) (h:∀ x∈list,x.size<=n):(F67 r1 list).1.size<=n:=by
 unfold F67
 exact getD_sz h _
theorem of_q (r1:l51Rd) (list:List Za) (h0:0<=r1.p) (h1:r1.p<=1000000000) (h:∀ x∈list,x.size<=4000):(F67 r1 list).1.size<=4000/\(F67 r1 list).2=r1.p+1:=⟨of_le r1 list h,of_p r1 list⟩
theorem kc67l (X_:SV) (b_:List Int) (pp_:Int) (list:List Za) {K_:Prop} (p0_:0<=pp_) (p1_:pp_<=1000000000) (p2_:b_.length<=2000) (p3_:1<=list.length) (p4_:∀ x∈list,x.size<=4000) (q0_:0<=pp_) (q1_:pp_<=1000000000) (q2_:∀ x∈list,x.size<=4000) (k_:((F67 ⟨b_,pp_⟩ list).1.size<=4000/\(F67 ⟨b_,pp_⟩ list).2=pp_+1)->K_):(0<=pp_/\pp_<=1000000000/\b_.length<=2000/\1<=list.length/\(∀ x∈list,x.size<=4000))/\(sv X_=sv X_)/\(Imp (.l 1 eByte b_) (.l 1 eByte b_))/\(Imps ([.v (vI pp_)]) ([.v (vI pp_)]))/\(Imp (.l 1 eStr list) (.l 1 eStr list))/\K_:=⟨⟨p0_,p1_,p2_,p3_,p4_⟩,rfl,Imp.refl _,Imps.refl _,Imp.refl _,k_ (of_q (⟨b_,pp_⟩:l51Rd) list q0_ q1_ q2_)⟩
abbrev kh67l (X_:SV) (g_:Nat) (b_:List Int) (pp_:Int) (list:List Za):Hint true Tryz.prog:=.call 67 (S67 X_ g_ (⟨b_,pp_⟩:l51Rd) list) (ok67 X_ g_ (⟨b_,pp_⟩:l51Rd) list) none
abbrev w24_:Za:=⟨#[49,48,46,48,47,49,54]⟩
abbrev w25_:Za:=⟨#[49,48,46,49,50,56,47,57]⟩
abbrev w26_:Za:=⟨#[49,49,46,48,47,56]⟩
abbrev w27_:Za:=⟨#[48,46,48,47,48]⟩
abbrev w28_:Za:=⟨#[49,49,46,52,47,49,54]⟩
abbrev w29_:Za:=⟨#[50,48,48,46,48,47,49,53]⟩
abbrev w30_:Za:=⟨#[50,48,48,46,48,47,57]⟩
def F131 (r1:l51Rd):Za×Int :=
 ((F67 ⟨r1.b,r1.p⟩ ([Z1,(⟨#[49,48,46,48,47,49,54]⟩:Za),(⟨#[49,48,46,49,50,56,47,57]⟩:Za),(⟨#[49,49,46,48,47,56]⟩:Za),(⟨#[48,46,48,47,48]⟩:Za),(⟨#[49,49,46,52,47,49,54]⟩:Za),(⟨#[50,48,48,46,48,47,49,53]⟩:Za),(⟨#[50,48,48,46,48,47,57]⟩:Za)]:List Za)).1,(F67 ⟨r1.b,r1.p⟩ ([Z1,(⟨#[49,48,46,48,47,49,54]⟩:Za),(⟨#[49,48,46,49,50,56,47,57]⟩:Za),(⟨#[49,49,46,48,47,56]⟩:Za),(⟨#[48,46,48,47,48]⟩:Za),(⟨#[49,49,46,52,47,49,54]⟩:Za),(⟨#[50,48,48,46,48,47,49,53]⟩:Za),(⟨#[50,48,48,46,48,47,57]⟩:Za)]:List Za)).2)
def S131 (r1X:SV) (gr1:Nat) (r1:l51Rd):Spec:=⟨[.ptg gr1 86 (sv r1X) (.l 1 eByte r1.b) [.v (vI r1.p)] [.v (vI (F131 r1).2)]],.v (.string (F131 r1).1),0<=r1.p/\r1.p<=1000000000/\r1.b.length<=2000⟩
abbrev Wp:List Za:=[Z1,w24_,w25_,w26_,w27_,w28_,w29_,w30_]
theorem ok131 (r1X:SV) (gr1:Nat) (r1:l51Rd):(S131 r1X gr1 r1).ok Tryz.prog 131 :=
 fnG_ok mixed (fn:=Tryz.f131) (ct:=.seqk [(0,0)] .no (.seq (.reg [(1,.dat (.l 1 eStr Wp)),(2,kh67l r1X 0 r1.b r1.p Wp)]) .no)) Tryz.func131 (fun (hp:0<=r1.p/\r1.p<=1000000000/\r1.b.length<=2000)=>have hpre0:=hp.1; have hpre1:=hp.2.1; have hpre2:=hp.2.2; kn r1.b fun _=>ai (bokr 1 eStr Wp fun _=>rfl) (kc67l r1X r1.b r1.p Wp uu7 uu7 uu7 uu7 uu7 uu7 uu7 uu7 (fun gv1=>(fun hF:((F67 ⟨r1.b,r1.p⟩ Wp).1,(F67 ⟨r1.b,r1.p⟩ Wp).2)=(F131 r1)=>ai (Qh (fun r:Za×Int=>(.string r.1:Value)) hF) (ai (ai (Imp.refl (Dat.v (sv r1X))) (ai (Imp.of_eq (Qh (fun r:Za×Int=>Dat.v (vI r.2)) hF)) trivial)) trivial)) rfl))) uu3
abbrev w32_:Za:=⟨#[49,48,46,50]⟩
abbrev w35_:Za:=⟨#[48,46,48]⟩
abbrev w36_:Za:=⟨#[50,53,53,46,50,53,53]⟩
def F132 (r1:l51Rd):Za×Int :=
 ((F67 ⟨r1.b,r1.p⟩ ([Z5,(⟨#[49,48,46,50]⟩:Za),Z6,Z7,(⟨#[48,46,48]⟩:Za),(⟨#[50,53,53,46,50,53,53]⟩:Za)]:List Za)).1,(F67 ⟨r1.b,r1.p⟩ ([Z5,(⟨#[49,48,46,50]⟩:Za),Z6,Z7,(⟨#[48,46,48]⟩:Za),(⟨#[50,53,53,46,50,53,53]⟩:Za)]:List Za)).2)
def S132 (r1X:SV) (gr1:Nat) (r1:l51Rd):Spec:=⟨[.ptg gr1 86 (sv r1X) (.l 1 eByte r1.b) [.v (vI r1.p)] [.v (vI (F132 r1).2)]],.v (.string (F132 r1).1),0<=r1.p/\r1.p<=1000000000/\r1.b.length<=2000⟩
abbrev Wq:List Za:=[Z5,w32_,Z6,Z7,w35_,w36_]
theorem ok132 (r1X:SV) (gr1:Nat) (r1:l51Rd):(S132 r1X gr1 r1).ok Tryz.prog 132 :=
 fnG_ok mixed (fn:=Tryz.f132) (ct:=.seqk [(0,0)] .no (.seq (.reg [(1,.dat (.l 1 eStr Wq)),(2,kh67l r1X 0 r1.b r1.p Wq)]) .no)) Tryz.func132 (fun (hp:0<=r1.p/\r1.p<=1000000000/\r1.b.length<=2000)=>have hpre0:=hp.1; have hpre1:=hp.2.1; have hpre2:=hp.2.2; kn r1.b fun _=>ai (bokr 1 eStr Wq fun _=>rfl) (kc67l r1X r1.b r1.p Wq uu7 uu7 uu7 uu7 uu7 uu7 uu7 uu7 (fun gv1=>(fun hF:((F67 ⟨r1.b,r1.p⟩ Wq).1,(F67 ⟨r1.b,r1.p⟩ Wq).2)=(F132 r1)=>ai (Qh (fun r:Za×Int=>(.string r.1:Value)) hF) (ai (ai (Imp.refl (Dat.v (sv r1X))) (ai (Imp.of_eq (Qh (fun r:Za×Int=>Dat.v (vI r.2)) hF)) trivial)) trivial)) rfl))) uu3
theorem prefix_q (r1:l51Rd) (h0:0<=r1.p) (h1:r1.p<=1000000000):(F131 r1).1.size<=80/\(F131 r1).2=r1.p+1:=by
 unfold F131
 exact ⟨of_le _ _ uu1,of_p _ _⟩
theorem addr_q (r1:l51Rd) (h0:0<=r1.p) (h1:r1.p<=1000000000):(F132 r1).1.size<=80/\(F132 r1).2=r1.p+1:=by
 unfold F132
 exact ⟨of_le _ _ uu1,of_p _ _⟩
theorem prefix_le (r1:l51Rd):(F131 r1).1.size<=80:=by
 unfold F131
 exact of_le _ _ uu1
theorem addr_le (r1:l51Rd):(F132 r1).1.size<=80:=by
 unfold F132
 exact of_le _ _ uu1
theorem prefix_p (r1:l51Rd):(F131 r1).2=r1.p+1:=by
 unfold F131
 exact of_p _ _
theorem addr_p (r1:l51Rd):(F132 r1).2=r1.p+1:=by
 unfold F132
 exact of_p _ _
theorem app_le {x y:Za} {a b:Nat} (hx:x.size<=a) (hy:y.size<=b):(x++y).size<=a+b:=by
 rw [Q9]; omega
theorem lit_le (a:Array UInt8):(⟨a⟩:Za).size<=a.size:=Qn _
theorem condS_le {c:Bool} {x y:Za} {a b:Nat} (hx:x.size<=a) (hy:y.size<=b):(bif c then x else y).size<=a+b:=by
 cases c
 ·show y.size<=a+b; omega
 ·show x.size<=a+b; omega
theorem sumLe {x y:Za} {a b:Nat} (hx:x.size<=a) (hy:y.size<=b) (h:a+b<=1000000000):((x.size+y.size:Nat):Int)<=9223372036854775807:=by omega
theorem szLe {s:Za} {n m:Nat} (h:s.size<=n) (hn:n<=m):s.size<=m:=Q0 h hn
theorem cond_P {α:Type} {P:α->Prop} {c:Bool} {x y:α} (hx:P x) (hy:P y):P (bif c then x else y):=by
 cases c
 ·exact hy
 ·exact hx
theorem kc131l (X_:SV) (b_:List Int) (pp_:Int) {K_:Prop} (p0_:0<=pp_) (p1_:pp_<=1000000000) (p2_:b_.length<=2000) (q0_:0<=pp_) (q1_:pp_<=1000000000) (k_:((F131 ⟨b_,pp_⟩).1.size<=80/\(F131 ⟨b_,pp_⟩).2=pp_+1)->K_):(0<=pp_/\pp_<=1000000000/\b_.length<=2000)/\(sv X_=sv X_)/\(Imp (.l 1 eByte b_) (.l 1 eByte b_))/\(Imps ([.v (vI pp_)]) ([.v (vI pp_)]))/\K_:=⟨⟨p0_,p1_,p2_⟩,rfl,Imp.refl _,Imps.refl _,k_ (prefix_q (⟨b_,pp_⟩:l51Rd) q0_ q1_)⟩
abbrev kh131l (X_:SV) (g_:Nat) (b_:List Int) (pp_:Int):Hint true Tryz.prog:=.call 131 (S131 X_ g_ (⟨b_,pp_⟩:l51Rd)) (ok131 X_ g_ (⟨b_,pp_⟩:l51Rd)) none
theorem kc132l (X_:SV) (b_:List Int) (pp_:Int) {K_:Prop} (p0_:0<=pp_) (p1_:pp_<=1000000000) (p2_:b_.length<=2000) (q0_:0<=pp_) (q1_:pp_<=1000000000) (k_:((F132 ⟨b_,pp_⟩).1.size<=80/\(F132 ⟨b_,pp_⟩).2=pp_+1)->K_):(0<=pp_/\pp_<=1000000000/\b_.length<=2000)/\(sv X_=sv X_)/\(Imp (.l 1 eByte b_) (.l 1 eByte b_))/\(Imps ([.v (vI pp_)]) ([.v (vI pp_)]))/\K_:=⟨⟨p0_,p1_,p2_⟩,rfl,Imp.refl _,Imps.refl _,k_ (addr_q (⟨b_,pp_⟩:l51Rd) q0_ q1_)⟩
abbrev kh132l (X_:SV) (g_:Nat) (b_:List Int) (pp_:Int):Hint true Tryz.prog:=.call 132 (S132 X_ g_ (⟨b_,pp_⟩:l51Rd)) (ok132 X_ g_ (⟨b_,pp_⟩:l51Rd)) none
abbrev w39_:Za:=⟨#[52,48,32,52,51]⟩
abbrev w40_:Za:=⟨#[50,50,32,50,50]⟩
abbrev w41_:Za:=⟨#[57,32,56]⟩
abbrev w42_:Za:=⟨#[49,32,54,53,53,51,53]⟩
abbrev w43_:Za:=⟨#[116,101,114,110]⟩
abbrev w44_:Za:=⟨#[116,50]⟩
abbrev w45_:Za:=⟨#[97,45,98]⟩
abbrev w56_:Za:=⟨#[50]⟩
abbrev w66_:Za:=⟨#[110,97,116,32]⟩
abbrev w67_:Za:=⟨#[104,111,115,116,32]⟩
abbrev w68_:Za:=⟨#[32,105,110,32]⟩
abbrev w69_:Za:=⟨#[112,111,114,116,32]⟩
abbrev w70_:Za:=⟨#[114,117,108,101,32]⟩
abbrev w71_:Za:=⟨#[114,111,117,116,101,32]⟩
abbrev w72_:Za:=⟨#[112,101,101,114,32]⟩
abbrev w73_:Za:=⟨#[100,111,111,114,32]⟩
def F86_j0 (r1:l51Rd):Lp Bool (Za×Int) :=
 bif ((F48 ⟨r1.b,r1.p⟩ 10).1==2) then (.done ((F48 ⟨r1.b,r1.p⟩ 10).1==2)) else (.done ((F48 ⟨r1.b,r1.p⟩ 10).1==3))
abbrev Xz:List Za:=[Zv,Zw]
def F86_j1 (r1:l51Rd) (v39:Bool):Lp (Za×Int) (Za×Int) :=
 bif ((F48 ⟨r1.b,(F48 ⟨r1.b,r1.p⟩ 10).2⟩ 3).1==0) then (.done (((⟨#[32,105,110,32]⟩:Za)++(F67 ⟨r1.b,(F48 ⟨r1.b,(F48 ⟨r1.b,r1.p⟩ 10).2⟩ 3).2⟩ Xz).1),(F67 ⟨r1.b,(F48 ⟨r1.b,(F48 ⟨r1.b,r1.p⟩ 10).2⟩ 3).2⟩ Xz).2)) else (.done (Zf,(F48 ⟨r1.b,(F48 ⟨r1.b,r1.p⟩ 10).2⟩ 3).2))
abbrev X6:List Za:=[Z1,Z8,Z9]
abbrev X7:List Za:=[Z7,Z6,Z5]
abbrev X8:List Za:=[Yd,Ye,Yf,Yg]
abbrev Wh:List Za:=[Zr,Zu,Zi,Y4,Zk,Y5]
abbrev X2:List Za:=[Zo,Z2,Zx,Z3]
abbrev Wi:List Za:=[Zo,Zl,Zm]
abbrev X5:List Za:=[Zl,Z4]
abbrev X9:List Za:=[Zm,Ya]
abbrev X0:List Za:=[Zl,Zm]
abbrev X4:List Za:=[Zp,Zy,Zz]
abbrev Wa:List Za:=[Zp,Zl]
def F86 (r1:l51Rd):Za×Int :=
 bif ((F48 ⟨r1.b,r1.p⟩ 10).1==9) then (((((((⟨#[110,97,116,32]⟩:Za)++(F67 ⟨r1.b,(F48 ⟨r1.b,r1.p⟩ 10).2⟩ X6).1)++Zd)++(F67 ⟨r1.b,(F67 ⟨r1.b,(F48 ⟨r1.b,r1.p⟩ 10).2⟩ X6).2⟩ X7).1)++Zd)++(F67 ⟨r1.b,(F67 ⟨r1.b,(F67 ⟨r1.b,(F48 ⟨r1.b,r1.p⟩ 10).2⟩ X6).2⟩ X7).2⟩ ([(⟨#[52,48,32,52,51]⟩:Za),(⟨#[50,50,32,50,50]⟩:Za),(⟨#[57,32,56]⟩:Za),(⟨#[49,32,54,53,53,51,53]⟩:Za)]:List Za)).1),(F67 ⟨r1.b,(F67 ⟨r1.b,(F67 ⟨r1.b,(F48 ⟨r1.b,r1.p⟩ 10).2⟩ X6).2⟩ X7).2⟩ ([(⟨#[52,48,32,52,51]⟩:Za),(⟨#[50,50,32,50,50]⟩:Za),(⟨#[57,32,56]⟩:Za),(⟨#[49,32,54,53,53,51,53]⟩:Za)]:List Za)).2) else (bif ((F48 ⟨r1.b,r1.p⟩ 10).1==0) then (((⟨#[104,111,115,116,32]⟩:Za)++(F67 ⟨r1.b,(F48 ⟨r1.b,r1.p⟩ 10).2⟩ ([(⟨#[116,101,114,110]⟩:Za),(⟨#[116,50]⟩:Za),(⟨#[97,45,98]⟩:Za)]:List Za)).1),(F67 ⟨r1.b,(F48 ⟨r1.b,r1.p⟩ 10).2⟩ ([(⟨#[116,101,114,110]⟩:Za),(⟨#[116,50]⟩:Za),(⟨#[97,45,98]⟩:Za)]:List Za)).2) else (bif ((F48 ⟨r1.b,r1.p⟩ 10).1==1) then (((((⟨#[117,115,101,114,32]⟩:Za)++(F67 ⟨r1.b,(F48 ⟨r1.b,r1.p⟩ 10).2⟩ X8).1)++Zd)++(F67 ⟨r1.b,(F67 ⟨r1.b,(F48 ⟨r1.b,r1.p⟩ 10).2⟩ X8).2⟩ Wh).1),(F67 ⟨r1.b,(F67 ⟨r1.b,(F48 ⟨r1.b,r1.p⟩ 10).2⟩ X8).2⟩ Wh).2) else ((F86_j0 r1).fin (fun r=>r) (fun v39=>bif v39 then ((F86_j1 r1 v39).fin (fun r=>r) (fun (tail,r2)=>((((((⟨#[112,111,114,116,32]⟩:Za)++(F67 ⟨r1.b,r2⟩ ([Zo,Zl,(⟨#[50]⟩:Za),Zm]:List Za)).1)++Zd)++(F131 ⟨r1.b,(F67 ⟨r1.b,r2⟩ ([Zo,Zl,(⟨#[50]⟩:Za),Zm]:List Za)).2⟩).1)++tail),(F131 ⟨r1.b,(F67 ⟨r1.b,r2⟩ ([Zo,Zl,(⟨#[50]⟩:Za),Zm]:List Za)).2⟩).2))) else (bif ((F48 ⟨r1.b,r1.p⟩ 10).1==4) then (((((((((((((⟨#[114,117,108,101,32]⟩:Za)++(F67 ⟨r1.b,(F48 ⟨r1.b,r1.p⟩ 10).2⟩ Xz).1)++Zd)++(F67 ⟨r1.b,(F67 ⟨r1.b,(F48 ⟨r1.b,r1.p⟩ 10).2⟩ Xz).2⟩ X2).1)++Zd)++(F67 ⟨r1.b,(F67 ⟨r1.b,(F67 ⟨r1.b,(F48 ⟨r1.b,r1.p⟩ 10).2⟩ Xz).2⟩ X2).2⟩ X3).1)++Zd)++(F131 ⟨r1.b,(F67 ⟨r1.b,(F67 ⟨r1.b,(F67 ⟨r1.b,(F48 ⟨r1.b,r1.p⟩ 10).2⟩ Xz).2⟩ X2).2⟩ X3).2⟩).1)++Zd)++(F131 ⟨r1.b,(F131 ⟨r1.b,(F67 ⟨r1.b,(F67 ⟨r1.b,(F67 ⟨r1.b,(F48 ⟨r1.b,r1.p⟩ 10).2⟩ Xz).2⟩ X2).2⟩ X3).2⟩).2⟩).1)++Zd)++(F67 ⟨r1.b,(F131 ⟨r1.b,(F131 ⟨r1.b,(F67 ⟨r1.b,(F67 ⟨r1.b,(F67 ⟨r1.b,(F48 ⟨r1.b,r1.p⟩ 10).2⟩ Xz).2⟩ X2).2⟩ X3).2⟩).2⟩).2⟩ Wi).1),(F67 ⟨r1.b,(F131 ⟨r1.b,(F131 ⟨r1.b,(F67 ⟨r1.b,(F67 ⟨r1.b,(F67 ⟨r1.b,(F48 ⟨r1.b,r1.p⟩ 10).2⟩ Xz).2⟩ X2).2⟩ X3).2⟩).2⟩).2⟩ Wi).2) else (bif ((F48 ⟨r1.b,r1.p⟩ 10).1==5) then (bif ((F48 ⟨r1.b,r1.p⟩ 10).1==5) then (((((⟨#[114,111,117,116,101,32]⟩:Za)++(F131 ⟨r1.b,(F48 ⟨r1.b,r1.p⟩ 10).2⟩).1)++Zd)++(F132 ⟨r1.b,(F131 ⟨r1.b,(F48 ⟨r1.b,r1.p⟩ 10).2⟩).2⟩).1),(F132 ⟨r1.b,(F131 ⟨r1.b,(F48 ⟨r1.b,r1.p⟩ 10).2⟩).2⟩).2) else (bif ((F48 ⟨r1.b,r1.p⟩ 10).1==7) then (((((((⟨#[112,101,101,114,32]⟩:Za)++(F132 ⟨r1.b,(F48 ⟨r1.b,r1.p⟩ 10).2⟩).1)++Zd)++(F67 ⟨r1.b,(F132 ⟨r1.b,(F48 ⟨r1.b,r1.p⟩ 10).2⟩).2⟩ X5).1)++Zd)++(F67 ⟨r1.b,(F67 ⟨r1.b,(F132 ⟨r1.b,(F48 ⟨r1.b,r1.p⟩ 10).2⟩).2⟩ X5).2⟩ X9).1),(F67 ⟨r1.b,(F67 ⟨r1.b,(F132 ⟨r1.b,(F48 ⟨r1.b,r1.p⟩ 10).2⟩).2⟩ X5).2⟩ X9).2) else (((((((((⟨#[100,111,111,114,32]⟩:Za)++(F67 ⟨r1.b,(F48 ⟨r1.b,r1.p⟩ 10).2⟩ X0).1)++Zd)++(F67 ⟨r1.b,(F67 ⟨r1.b,(F48 ⟨r1.b,r1.p⟩ 10).2⟩ X0).2⟩ X4).1)++Zd)++(F132 ⟨r1.b,(F67 ⟨r1.b,(F67 ⟨r1.b,(F48 ⟨r1.b,r1.p⟩ 10).2⟩ X0).2⟩ X4).2⟩).1)++Zd)++(F67 ⟨r1.b,(F132 ⟨r1.b,(F67 ⟨r1.b,(F67 ⟨r1.b,(F48 ⟨r1.b,r1.p⟩ 10).2⟩ X0).2⟩ X4).2⟩).2⟩ Wa).1),(F67 ⟨r1.b,(F132 ⟨r1.b,(F67 ⟨r1.b,(F67 ⟨r1.b,(F48 ⟨r1.b,r1.p⟩ 10).2⟩ X0).2⟩ X4).2⟩).2⟩ Wa).2))) else (bif ((F48 ⟨r1.b,r1.p⟩ 10).1==6) then (((((⟨#[114,111,117,116,101,32]⟩:Za)++(F131 ⟨r1.b,(F48 ⟨r1.b,r1.p⟩ 10).2⟩).1)++Zd)++(F132 ⟨r1.b,(F131 ⟨r1.b,(F48 ⟨r1.b,r1.p⟩ 10).2⟩).2⟩).1),(F132 ⟨r1.b,(F131 ⟨r1.b,(F48 ⟨r1.b,r1.p⟩ 10).2⟩).2⟩).2) else (bif ((F48 ⟨r1.b,r1.p⟩ 10).1==7) then (((((((⟨#[112,101,101,114,32]⟩:Za)++(F132 ⟨r1.b,(F48 ⟨r1.b,r1.p⟩ 10).2⟩).1)++Zd)++(F67 ⟨r1.b,(F132 ⟨r1.b,(F48 ⟨r1.b,r1.p⟩ 10).2⟩).2⟩ X5).1)++Zd)++(F67 ⟨r1.b,(F67 ⟨r1.b,(F132 ⟨r1.b,(F48 ⟨r1.b,r1.p⟩ 10).2⟩).2⟩ X5).2⟩ X9).1),(F67 ⟨r1.b,(F67 ⟨r1.b,(F132 ⟨r1.b,(F48 ⟨r1.b,r1.p⟩ 10).2⟩).2⟩ X5).2⟩ X9).2) else (((((((((⟨#[100,111,111,114,32]⟩:Za)++(F67 ⟨r1.b,(F48 ⟨r1.b,r1.p⟩ 10).2⟩ X0).1)++Zd)++(F67 ⟨r1.b,(F67 ⟨r1.b,(F48 ⟨r1.b,r1.p⟩ 10).2⟩ X0).2⟩ X4).1)++Zd)++(F132 ⟨r1.b,(F67 ⟨r1.b,(F67 ⟨r1.b,(F48 ⟨r1.b,r1.p⟩ 10).2⟩ X0).2⟩ X4).2⟩).1)++Zd)++(F67 ⟨r1.b,(F132 ⟨r1.b,(F67 ⟨r1.b,(F67 ⟨r1.b,(F48 ⟨r1.b,r1.p⟩ 10).2⟩ X0).2⟩ X4).2⟩).2⟩ Wa).1),(F67 ⟨r1.b,(F132 ⟨r1.b,(F67 ⟨r1.b,(F67 ⟨r1.b,(F48 ⟨r1.b,r1.p⟩ 10).2⟩ X0).2⟩ X4).2⟩).2⟩ Wa).2)))))))))
abbrev jJ86_0 (r1X:SV) (r1:l51Rd) (j:Bool):Prop:=(F86_j0 r1)=Lp.done j
theorem jn86_0 (r1X:SV) (r1:l51Rd) (v39:Bool) (e:(F86_j0 r1)=Lp.done v39):∃ j:Bool,((.int .i64 (F48 ⟨r1.b,r1.p⟩ 10).1:Value)=.int .i64 (F48 ⟨r1.b,r1.p⟩ 10).1)/\((.bool v39:Value)=.bool j)/\((.int .i64 (F48 ⟨r1.b,r1.p⟩ 10).2:Value)=.int .i64 (F48 ⟨r1.b,r1.p⟩ 10).2)/\((sv r1X:Value)=sv r1X)/\(Imp (.l 1 eByte r1.b) (.l 1 eByte r1.b))/\jJ86_0 r1X r1 j:=⟨v39,rfl,rfl,rfl,rfl,Imp.refl _,e⟩
abbrev jI86_1 (r1X:SV) (r1:l51Rd) (v39:Bool) (tail:Za) (r2:Int):Prop:=tail.size<=100/\0<=r2/\r2<=r1.p+3
abbrev jJ86_1 (r1X:SV) (r1:l51Rd) (v39:Bool) (j:Za×Int):Prop:=(F86_j1 r1 v39)=Lp.done j/\jI86_1 r1X r1 v39 j.1 j.2
theorem jn86_1 (r1X:SV) (r1:l51Rd) (v39:Bool) (tail:Za) (r2:Int) (e:(F86_j1 r1 v39)=Lp.done (tail,r2)) (h:jI86_1 r1X r1 v39 tail r2):∃ j:Za×Int,((.string tail:Value)=.string j.1)/\((.int .i64 r2:Value)=.int .i64 j.2)/\((sv r1X:Value)=sv r1X)/\(Imp (.l 1 eByte r1.b) (.l 1 eByte r1.b))/\jJ86_1 r1X r1 v39 j:=⟨(tail,r2),rfl,rfl,rfl,Imp.refl _,e,h⟩
def S86 (r1X:SV) (gr1:Nat) (r1:l51Rd):Spec:=⟨[.ptg gr1 86 (sv r1X) (.l 1 eByte r1.b) [.v (vI r1.p)] [.v (vI (F86 r1).2)]],.v (.string (F86 r1).1),0<=r1.p/\r1.p<=900000000/\r1.b.length<=2000⟩
abbrev Wm:List Za:=[w39_,w40_,w41_,w42_]
abbrev Wn:List Za:=[w43_,w44_,w45_]
abbrev Wc:List Za:=[Zo,Zl,w56_,Zm]
set_option maxHeartbeats 4000000 in
theorem ok86 (r1X:SV) (gr1:Nat) (r1:l51Rd):(S86 r1X gr1 r1).ok Tryz.prog 86 :=
 fnG_ok mixed (fn:=Tryz.f86) (ct:=.seqk [(0,0)] .no (.seq (.seq (.reg [(1,kh48l r1X 0 r1.b r1.p 10)]) (.blk (.seq .no (.cond (.seq (.reg [(1,.dat (.l 1 eStr X6)),(2,kh67l r1X 0 r1.b (F48 ⟨r1.b,r1.p⟩ 10).2 X6),(6,.dat (.l 1 eStr X7)),(7,kh67l r1X 0 r1.b (F67 ⟨r1.b,(F48 ⟨r1.b,r1.p⟩ 10).2⟩ X6).2 X7),(11,.dat (.l 1 eStr Wm)),(12,kh67l r1X 0 r1.b (F67 ⟨r1.b,(F67 ⟨r1.b,(F48 ⟨r1.b,r1.p⟩ 10).2⟩ X6).2⟩ X7).2 Wm)]) .no) (.seq .no (.cond (.seq (.reg [(1,.dat (.l 1 eStr Wn)),(2,kh67l r1X 0 r1.b (F48 ⟨r1.b,r1.p⟩ 10).2 Wn)]) .no) (.seq .no (.cond (.seq (.reg [(1,.dat (.l 1 eStr X8)),(2,kh67l r1X 0 r1.b (F48 ⟨r1.b,r1.p⟩ 10).2 X8),(6,.dat (.l 1 eStr Wh)),(7,kh67l r1X 0 r1.b (F67 ⟨r1.b,(F48 ⟨r1.b,r1.p⟩ 10).2⟩ X8).2 Wh)]) .no) (.cut (ι:=Bool) (fun j=>(fun (v39:Bool)=>(⟨[(0,some (.p 0 0)),(5,some (.v (vI (F48 ⟨r1.b,r1.p⟩ 10).1))),(39,some (.v (.bool v39)))],[(0,some (.box 86 [.h 1 0,.v (vI (F48 ⟨r1.b,r1.p⟩ 10).2)])),(1,some (.vl (sv r1X) (.l 1 eByte r1.b)))],2⟩:St)) j) (jJ86_0 r1X r1) (.seq .no (.cond .no .no)) (fun j=>(fun (v39:Bool)=>(.cond (.seq .no (.cut (ι:=Za×Int) (fun j=>(fun (tail:Za) (r2:Int)=>(⟨[(0,some (.p 0 0)),(3,some (.v (.string tail)))],[(0,some (.box 86 [.h 1 0,.v (vI r2)])),(1,some (.vl (sv r1X) (.l 1 eByte r1.b)))],2⟩:St)) j.1 j.2) (jJ86_1 r1X r1 v39) (.seq (.reg [(1,kh48l r1X 1 r1.b (F48 ⟨r1.b,r1.p⟩ 10).2 3)]) (.cond (.reg [(1,.dat (.l 1 eStr Xz)),(2,kh67l r1X 1 r1.b (F48 ⟨r1.b,(F48 ⟨r1.b,r1.p⟩ 10).2⟩ 3).2 Xz)]) .no)) (fun j=>(fun (tail:Za) (r2:Int)=>(.seq (.reg [(1,.dat (.l 1 eStr Wc)),(2,kh67l r1X 1 r1.b r2 Wc),(6,kh131l r1X 1 r1.b (F67 ⟨r1.b,r2⟩ Wc).2)]) .no)) j.1 j.2))) (.seq .no (.cond (.seq (.reg [(1,.dat (.l 1 eStr Xz)),(2,kh67l r1X 1 r1.b (F48 ⟨r1.b,r1.p⟩ 10).2 Xz),(6,.dat (.l 1 eStr X2)),(7,kh67l r1X 1 r1.b (F67 ⟨r1.b,(F48 ⟨r1.b,r1.p⟩ 10).2⟩ Xz).2 X2),(11,.dat (.l 1 eStr X3)),(12,kh67l r1X 1 r1.b (F67 ⟨r1.b,(F67 ⟨r1.b,(F48 ⟨r1.b,r1.p⟩ 10).2⟩ Xz).2⟩ X2).2 X3),(16,kh131l r1X 1 r1.b (F67 ⟨r1.b,(F67 ⟨r1.b,(F67 ⟨r1.b,(F48 ⟨r1.b,r1.p⟩ 10).2⟩ Xz).2⟩ X2).2⟩ X3).2),(20,kh131l r1X 1 r1.b (F131 ⟨r1.b,(F67 ⟨r1.b,(F67 ⟨r1.b,(F67 ⟨r1.b,(F48 ⟨r1.b,r1.p⟩ 10).2⟩ Xz).2⟩ X2).2⟩ X3).2⟩).2),(24,.dat (.l 1 eStr Wi)),(25,kh67l r1X 1 r1.b (F131 ⟨r1.b,(F131 ⟨r1.b,(F67 ⟨r1.b,(F67 ⟨r1.b,(F67 ⟨r1.b,(F48 ⟨r1.b,r1.p⟩ 10).2⟩ Xz).2⟩ X2).2⟩ X3).2⟩).2⟩).2 Wi)]) .no) (.seq (.seq .no (.cond .no .no)) (.cond (.seq (.reg [(1,kh131l r1X 1 r1.b (F48 ⟨r1.b,r1.p⟩ 10).2),(5,kh132l r1X 1 r1.b (F131 ⟨r1.b,(F48 ⟨r1.b,r1.p⟩ 10).2⟩).2)]) .no) (.seq .no (.cond (.seq (.reg [(1,kh132l r1X 1 r1.b (F48 ⟨r1.b,r1.p⟩ 10).2),(5,.dat (.l 1 eStr X5)),(6,kh67l r1X 1 r1.b (F132 ⟨r1.b,(F48 ⟨r1.b,r1.p⟩ 10).2⟩).2 X5),(10,.dat (.l 1 eStr X9)),(11,kh67l r1X 1 r1.b (F67 ⟨r1.b,(F132 ⟨r1.b,(F48 ⟨r1.b,r1.p⟩ 10).2⟩).2⟩ X5).2 X9)]) .no) .no)))))))) j)))))))))) (.seq (.reg [(1,.dat (.l 1 eStr X0)),(2,kh67l r1X 1 r1.b (F48 ⟨r1.b,r1.p⟩ 10).2 X0),(6,.dat (.l 1 eStr X4)),(7,kh67l r1X 1 r1.b (F67 ⟨r1.b,(F48 ⟨r1.b,r1.p⟩ 10).2⟩ X0).2 X4),(11,kh132l r1X 1 r1.b (F67 ⟨r1.b,(F67 ⟨r1.b,(F48 ⟨r1.b,r1.p⟩ 10).2⟩ X0).2⟩ X4).2),(15,.dat (.l 1 eStr Wa)),(16,kh67l r1X 1 r1.b (F132 ⟨r1.b,(F67 ⟨r1.b,(F67 ⟨r1.b,(F48 ⟨r1.b,r1.p⟩ 10).2⟩ X0).2⟩ X4).2⟩).2 Wa)]) .no))) Tryz.func86 (fun (hp:0<=r1.p/\r1.p<=900000000/\r1.b.length<=2000)=>have hpre0:=hp.1; have hpre1:=hp.2.1; have hpre2:=hp.2.2; kn r1.b fun _=>kc48l r1X r1.b r1.p 10 uu0 uu0 uu0 uu0 uu0 (fun gv1=>ife (F48 ⟨r1.b,r1.p⟩ 10).1 9 (fun h2 _=>ai (bokr 1 eStr X6 fun _=>rfl) (kc67l r1X r1.b (F48 ⟨r1.b,r1.p⟩ 10).2 X6 uu0 uu0 uu0 uu1 uu1 uu0 uu0 uu1 (fun gv3=>ai (sumLe (lit_le _) (of_le (n:=80) _ _ uu1) uu1:((w66_.size+(F67 ⟨r1.b,(F48 ⟨r1.b,r1.p⟩ 10).2⟩ X6).1.size:Nat):Int)<=9223372036854775807) (ai (sumLe (app_le (lit_le _) (of_le (n:=80) _ _ uu1)) (lit_le _) uu1:(((w66_++(F67 ⟨r1.b,(F48 ⟨r1.b,r1.p⟩ 10).2⟩ X6).1).size+Zd.size:Nat):Int)<=9223372036854775807) (ai (bokr 1 eStr X7 fun _=>rfl) (kc67l r1X r1.b (F67 ⟨r1.b,(F48 ⟨r1.b,r1.p⟩ 10).2⟩ X6).2 X7 uu0 uu0 uu0 uu1 uu1 uu0 uu0 uu1 (fun gv4=>ai (sumLe (app_le (app_le (lit_le _) (of_le (n:=80) _ _ uu1)) (lit_le _)) (of_le (n:=80) _ _ uu1) uu1:((((w66_++(F67 ⟨r1.b,(F48 ⟨r1.b,r1.p⟩ 10).2⟩ X6).1)++Zd).size+(F67 ⟨r1.b,(F67 ⟨r1.b,(F48 ⟨r1.b,r1.p⟩ 10).2⟩ X6).2⟩ X7).1.size:Nat):Int)<=9223372036854775807) (ai (sumLe (app_le (app_le (app_le (lit_le _) (of_le (n:=80) _ _ uu1)) (lit_le _)) (of_le (n:=80) _ _ uu1)) (lit_le _) uu1:(((((w66_++(F67 ⟨r1.b,(F48 ⟨r1.b,r1.p⟩ 10).2⟩ X6).1)++Zd)++(F67 ⟨r1.b,(F67 ⟨r1.b,(F48 ⟨r1.b,r1.p⟩ 10).2⟩ X6).2⟩ X7).1).size+Zd.size:Nat):Int)<=9223372036854775807) (ai (bokr 1 eStr Wm fun _=>rfl) (kc67l r1X r1.b (F67 ⟨r1.b,(F67 ⟨r1.b,(F48 ⟨r1.b,r1.p⟩ 10).2⟩ X6).2⟩ X7).2 Wm uu0 uu0 uu0 uu1 uu1 uu0 uu0 uu1 (fun gv5=>ai (sumLe (app_le (app_le (app_le (app_le (lit_le _) (of_le (n:=80) _ _ uu1)) (lit_le _)) (of_le (n:=80) _ _ uu1)) (lit_le _)) (of_le (n:=80) _ _ uu1) uu1:((((((w66_++(F67 ⟨r1.b,(F48 ⟨r1.b,r1.p⟩ 10).2⟩ X6).1)++Zd)++(F67 ⟨r1.b,(F67 ⟨r1.b,(F48 ⟨r1.b,r1.p⟩ 10).2⟩ X6).2⟩ X7).1)++Zd).size+(F67 ⟨r1.b,(F67 ⟨r1.b,(F67 ⟨r1.b,(F48 ⟨r1.b,r1.p⟩ 10).2⟩ X6).2⟩ X7).2⟩ Wm).1.size:Nat):Int)<=9223372036854775807) ((fun hF:((((((w66_++(F67 ⟨r1.b,(F48 ⟨r1.b,r1.p⟩ 10).2⟩ X6).1)++Zd)++(F67 ⟨r1.b,(F67 ⟨r1.b,(F48 ⟨r1.b,r1.p⟩ 10).2⟩ X6).2⟩ X7).1)++Zd)++(F67 ⟨r1.b,(F67 ⟨r1.b,(F67 ⟨r1.b,(F48 ⟨r1.b,r1.p⟩ 10).2⟩ X6).2⟩ X7).2⟩ Wm).1),(F67 ⟨r1.b,(F67 ⟨r1.b,(F67 ⟨r1.b,(F48 ⟨r1.b,r1.p⟩ 10).2⟩ X6).2⟩ X7).2⟩ Wm).2)=(F86 r1)=>ai (Qh (fun r:Za×Int=>(.string r.1:Value)) hF) (ai (ai (Imp.refl (Dat.v (sv r1X))) (ai (Imp.of_eq (Qh (fun r:Za×Int=>Dat.v (vI r.2)) hF)) trivial)) trivial)) (condT h2 rfl))))))))))))) (fun h2 _=>ife (F48 ⟨r1.b,r1.p⟩ 10).1 0 (fun h6 _=>ai (bokr 1 eStr Wn fun _=>rfl) (kc67l r1X r1.b (F48 ⟨r1.b,r1.p⟩ 10).2 Wn uu0 uu0 uu0 uu1 uu1 uu0 uu0 uu1 (fun gv7=>ai (sumLe (lit_le _) (of_le (n:=80) _ _ uu1) uu1:((w67_.size+(F67 ⟨r1.b,(F48 ⟨r1.b,r1.p⟩ 10).2⟩ Wn).1.size:Nat):Int)<=9223372036854775807) ((fun hF:((w67_++(F67 ⟨r1.b,(F48 ⟨r1.b,r1.p⟩ 10).2⟩ Wn).1),(F67 ⟨r1.b,(F48 ⟨r1.b,r1.p⟩ 10).2⟩ Wn).2)=(F86 r1)=>ai (Qh (fun r:Za×Int=>(.string r.1:Value)) hF) (ai (ai (Imp.refl (Dat.v (sv r1X))) (ai (Imp.of_eq (Qh (fun r:Za×Int=>Dat.v (vI r.2)) hF)) trivial)) trivial)) (condF h2 (condT h6 rfl)))))) (fun h6 _=>ife (F48 ⟨r1.b,r1.p⟩ 10).1 1 (fun h8 _=>ai (bokr 1 eStr X8 fun _=>rfl) (kc67l r1X r1.b (F48 ⟨r1.b,r1.p⟩ 10).2 X8 uu0 uu0 uu0 uu1 uu1 uu0 uu0 uu1 (fun gv9=>ai (sumLe (lit_le _) (of_le (n:=80) _ _ uu1) uu1:((w22_.size+(F67 ⟨r1.b,(F48 ⟨r1.b,r1.p⟩ 10).2⟩ X8).1.size:Nat):Int)<=9223372036854775807) (ai (sumLe (app_le (lit_le _) (of_le (n:=80) _ _ uu1)) (lit_le _) uu1:(((w22_++(F67 ⟨r1.b,(F48 ⟨r1.b,r1.p⟩ 10).2⟩ X8).1).size+Zd.size:Nat):Int)<=9223372036854775807) (ai (bokr 1 eStr Wh fun _=>rfl) (kc67l r1X r1.b (F67 ⟨r1.b,(F48 ⟨r1.b,r1.p⟩ 10).2⟩ X8).2 Wh uu0 uu0 uu0 uu1 uu1 uu0 uu0 uu1 (fun gv10=>ai (sumLe (app_le (app_le (lit_le _) (of_le (n:=80) _ _ uu1)) (lit_le _)) (of_le (n:=80) _ _ uu1) uu1:((((w22_++(F67 ⟨r1.b,(F48 ⟨r1.b,r1.p⟩ 10).2⟩ X8).1)++Zd).size+(F67 ⟨r1.b,(F67 ⟨r1.b,(F48 ⟨r1.b,r1.p⟩ 10).2⟩ X8).2⟩ Wh).1.size:Nat):Int)<=9223372036854775807) ((fun hF:((((w22_++(F67 ⟨r1.b,(F48 ⟨r1.b,r1.p⟩ 10).2⟩ X8).1)++Zd)++(F67 ⟨r1.b,(F67 ⟨r1.b,(F48 ⟨r1.b,r1.p⟩ 10).2⟩ X8).2⟩ Wh).1),(F67 ⟨r1.b,(F67 ⟨r1.b,(F48 ⟨r1.b,r1.p⟩ 10).2⟩ X8).2⟩ Wh).2)=(F86 r1)=>ai (Qh (fun r:Za×Int=>(.string r.1:Value)) hF) (ai (ai (Imp.refl (Dat.v (sv r1X))) (ai (Imp.of_eq (Qh (fun r:Za×Int=>Dat.v (vI r.2)) hF)) trivial)) trivial)) (condF h2 (condF h6 (condT h8 rfl))))))))))) (fun h8 _=>ai (ife (F48 ⟨r1.b,r1.p⟩ 10).1 2 (fun h11 _=>jn86_0 r1X r1 ((F48 ⟨r1.b,r1.p⟩ 10).1==2) (S5 (condT h11 rfl)) ) (fun h11 _=>jn86_0 r1X r1 ((F48 ⟨r1.b,r1.p⟩ 10).1==3) (S5 (condF h11 rfl)) )) (fun (j:Bool) (hj:jJ86_0 r1X r1 j)=>(fun (v39:Bool) (hJ0_12:(F86_j0 r1)=Lp.done v39)=>ifb v39 (fun h13=>ai (kc48l r1X r1.b (F48 ⟨r1.b,r1.p⟩ 10).2 3 uu0 uu0 uu0 uu0 uu0 (fun gv14=>ife (F48 ⟨r1.b,(F48 ⟨r1.b,r1.p⟩ 10).2⟩ 3).1 0 (fun h15 _=>ai (bokr 1 eStr Xz fun _=>rfl) (kc67l r1X r1.b (F48 ⟨r1.b,(F48 ⟨r1.b,r1.p⟩ 10).2⟩ 3).2 Xz uu0 uu0 uu0 uu1 uu1 uu0 uu0 uu1 (fun gv16=>ai (sumLe (lit_le _) (of_le (n:=80) _ _ uu1) uu1:((w68_.size+(F67 ⟨r1.b,(F48 ⟨r1.b,(F48 ⟨r1.b,r1.p⟩ 10).2⟩ 3).2⟩ Xz).1.size:Nat):Int)<=9223372036854775807) (jn86_1 r1X r1 v39 (w68_++(F67 ⟨r1.b,(F48 ⟨r1.b,(F48 ⟨r1.b,r1.p⟩ 10).2⟩ 3).2⟩ Xz).1) (F67 ⟨r1.b,(F48 ⟨r1.b,(F48 ⟨r1.b,r1.p⟩ 10).2⟩ 3).2⟩ Xz).2 (S5 (condT h15 rfl)) uu79)))) (fun h15 _=>jn86_1 r1X r1 v39 Zf (F48 ⟨r1.b,(F48 ⟨r1.b,r1.p⟩ 10).2⟩ 3).2 (S5 (condF h15 rfl)) uu79))) (fun (j:Za×Int) (hj:jJ86_1 r1X r1 v39 j)=>(fun (tail:Za) (r2:Int) (hJ1_17:(F86_j1 r1 v39)=Lp.done (tail,r2)) (hw:jI86_1 r1X r1 v39 tail r2)=>have _:=hw.1; have _:=hw.2.1; have _:=hw.2.2; ai (bokr 1 eStr Wc fun _=>rfl) (kc67l r1X r1.b r2 Wc uu0 uu0 uu0 uu1 uu1 uu0 uu0 uu1 (fun gv18=>ai (sumLe (lit_le _) (of_le (n:=80) _ _ uu1) uu1:((w69_.size+(F67 ⟨r1.b,r2⟩ Wc).1.size:Nat):Int)<=9223372036854775807) (ai (sumLe (app_le (lit_le _) (of_le (n:=80) _ _ uu1)) (lit_le _) uu1:(((w69_++(F67 ⟨r1.b,r2⟩ Wc).1).size+Zd.size:Nat):Int)<=9223372036854775807) (kc131l r1X r1.b (F67 ⟨r1.b,r2⟩ Wc).2 uu0 uu0 uu0 uu0 uu0 (fun gv19=>ai (sumLe (app_le (app_le (lit_le _) (of_le (n:=80) _ _ uu1)) (lit_le _)) (prefix_le _) uu1:((((w69_++(F67 ⟨r1.b,r2⟩ Wc).1)++Zd).size+(F131 ⟨r1.b,(F67 ⟨r1.b,r2⟩ Wc).2⟩).1.size:Nat):Int)<=9223372036854775807) (ai (sumLe (app_le (app_le (app_le (lit_le _) (of_le (n:=80) _ _ uu1)) (lit_le _)) (prefix_le _)) (uu9:tail.size<=100) uu1:(((((w69_++(F67 ⟨r1.b,r2⟩ Wc).1)++Zd)++(F131 ⟨r1.b,(F67 ⟨r1.b,r2⟩ Wc).2⟩).1).size+tail.size:Nat):Int)<=9223372036854775807) ((fun hF:(((((w69_++(F67 ⟨r1.b,r2⟩ Wc).1)++Zd)++(F131 ⟨r1.b,(F67 ⟨r1.b,r2⟩ Wc).2⟩).1)++tail),(F131 ⟨r1.b,(F67 ⟨r1.b,r2⟩ Wc).2⟩).2)=(F86 r1)=>ai (Qh (fun r:Za×Int=>(.string r.1:Value)) hF) (ai (ai (Imp.refl (Dat.v (sv r1X))) (ai (Imp.of_eq (Qh (fun r:Za×Int=>Dat.v (vI r.2)) hF)) trivial)) trivial)) (condF h2 (condF h6 (condF h8 (finD hJ0_12 (condT h13 (finD hJ1_17 rfl)))))))))))))) j.1 j.2 hj.1 hj.2)) (fun h13=>ife (F48 ⟨r1.b,r1.p⟩ 10).1 4 (fun h20 _=>ai (bokr 1 eStr Xz fun _=>rfl) (kc67l r1X r1.b (F48 ⟨r1.b,r1.p⟩ 10).2 Xz uu0 uu0 uu0 uu1 uu1 uu0 uu0 uu1 (fun gv21=>ai (sumLe (lit_le _) (of_le (n:=80) _ _ uu1) uu1:((w70_.size+(F67 ⟨r1.b,(F48 ⟨r1.b,r1.p⟩ 10).2⟩ Xz).1.size:Nat):Int)<=9223372036854775807) (ai (sumLe (app_le (lit_le _) (of_le (n:=80) _ _ uu1)) (lit_le _) uu1:(((w70_++(F67 ⟨r1.b,(F48 ⟨r1.b,r1.p⟩ 10).2⟩ Xz).1).size+Zd.size:Nat):Int)<=9223372036854775807) (ai (bokr 1 eStr X2 fun _=>rfl) (kc67l r1X r1.b (F67 ⟨r1.b,(F48 ⟨r1.b,r1.p⟩ 10).2⟩ Xz).2 X2 uu0 uu0 uu0 uu1 uu1 uu0 uu0 uu1 (fun gv22=>ai (sumLe (app_le (app_le (lit_le _) (of_le (n:=80) _ _ uu1)) (lit_le _)) (of_le (n:=80) _ _ uu1) uu1:((((w70_++(F67 ⟨r1.b,(F48 ⟨r1.b,r1.p⟩ 10).2⟩ Xz).1)++Zd).size+(F67 ⟨r1.b,(F67 ⟨r1.b,(F48 ⟨r1.b,r1.p⟩ 10).2⟩ Xz).2⟩ X2).1.size:Nat):Int)<=9223372036854775807) (ai (sumLe (app_le (app_le (app_le (lit_le _) (of_le (n:=80) _ _ uu1)) (lit_le _)) (of_le (n:=80) _ _ uu1)) (lit_le _) uu1:(((((w70_++(F67 ⟨r1.b,(F48 ⟨r1.b,r1.p⟩ 10).2⟩ Xz).1)++Zd)++(F67 ⟨r1.b,(F67 ⟨r1.b,(F48 ⟨r1.b,r1.p⟩ 10).2⟩ Xz).2⟩ X2).1).size+Zd.size:Nat):Int)<=9223372036854775807) (ai (bokr 1 eStr X3 fun _=>rfl) (kc67l r1X r1.b (F67 ⟨r1.b,(F67 ⟨r1.b,(F48 ⟨r1.b,r1.p⟩ 10).2⟩ Xz).2⟩ X2).2 X3 uu0 uu0 uu0 uu1 uu1 uu0 uu0 uu1 (fun gv23=>ai (sumLe (app_le (app_le (app_le (app_le (lit_le _) (of_le (n:=80) _ _ uu1)) (lit_le _)) (of_le (n:=80) _ _ uu1)) (lit_le _)) (of_le (n:=80) _ _ uu1) uu1:((((((w70_++(F67 ⟨r1.b,(F48 ⟨r1.b,r1.p⟩ 10).2⟩ Xz).1)++Zd)++(F67 ⟨r1.b,(F67 ⟨r1.b,(F48 ⟨r1.b,r1.p⟩ 10).2⟩ Xz).2⟩ X2).1)++Zd).size+(F67 ⟨r1.b,(F67 ⟨r1.b,(F67 ⟨r1.b,(F48 ⟨r1.b,r1.p⟩ 10).2⟩ Xz).2⟩ X2).2⟩ X3).1.size:Nat):Int)<=9223372036854775807) (ai (sumLe (app_le (app_le (app_le (app_le (app_le (lit_le _) (of_le (n:=80) _ _ uu1)) (lit_le _)) (of_le (n:=80) _ _ uu1)) (lit_le _)) (of_le (n:=80) _ _ uu1)) (lit_le _) uu1:(((((((w70_++(F67 ⟨r1.b,(F48 ⟨r1.b,r1.p⟩ 10).2⟩ Xz).1)++Zd)++(F67 ⟨r1.b,(F67 ⟨r1.b,(F48 ⟨r1.b,r1.p⟩ 10).2⟩ Xz).2⟩ X2).1)++Zd)++(F67 ⟨r1.b,(F67 ⟨r1.b,(F67 ⟨r1.b,(F48 ⟨r1.b,r1.p⟩ 10).2⟩ Xz).2⟩ X2).2⟩ X3).1).size+Zd.size:Nat):Int)<=9223372036854775807) (kc131l r1X r1.b (F67 ⟨r1.b,(F67 ⟨r1.b,(F67 ⟨r1.b,(F48 ⟨r1.b,r1.p⟩ 10).2⟩ Xz).2⟩ X2).2⟩ X3).2 uu0 uu0 uu0 uu0 uu0 (fun gv24=>ai (sumLe (app_le (app_le (app_le (app_le (app_le (app_le (lit_le _) (of_le (n:=80) _ _ uu1)) (lit_le _)) (of_le (n:=80) _ _ uu1)) (lit_le _)) (of_le (n:=80) _ _ uu1)) (lit_le _)) (prefix_le _) uu1:((((((((w70_++(F67 ⟨r1.b,(F48 ⟨r1.b,r1.p⟩ 10).2⟩ Xz).1)++Zd)++(F67 ⟨r1.b,(F67 ⟨r1.b,(F48 ⟨r1.b,r1.p⟩ 10).2⟩ Xz).2⟩ X2).1)++Zd)++(F67 ⟨r1.b,(F67 ⟨r1.b,(F67 ⟨r1.b,(F48 ⟨r1.b,r1.p⟩ 10).2⟩ Xz).2⟩ X2).2⟩ X3).1)++Zd).size+(F131 ⟨r1.b,(F67 ⟨r1.b,(F67 ⟨r1.b,(F67 ⟨r1.b,(F48 ⟨r1.b,r1.p⟩ 10).2⟩ Xz).2⟩ X2).2⟩ X3).2⟩).1.size:Nat):Int)<=9223372036854775807) (ai (sumLe (app_le (app_le (app_le (app_le (app_le (app_le (app_le (lit_le _) (of_le (n:=80) _ _ uu1)) (lit_le _)) (of_le (n:=80) _ _ uu1)) (lit_le _)) (of_le (n:=80) _ _ uu1)) (lit_le _)) (prefix_le _)) (lit_le _) uu1:(((((((((w70_++(F67 ⟨r1.b,(F48 ⟨r1.b,r1.p⟩ 10).2⟩ Xz).1)++Zd)++(F67 ⟨r1.b,(F67 ⟨r1.b,(F48 ⟨r1.b,r1.p⟩ 10).2⟩ Xz).2⟩ X2).1)++Zd)++(F67 ⟨r1.b,(F67 ⟨r1.b,(F67 ⟨r1.b,(F48 ⟨r1.b,r1.p⟩ 10).2⟩ Xz).2⟩ X2).2⟩ X3).1)++Zd)++(F131 ⟨r1.b,(F67 ⟨r1.b,(F67 ⟨r1.b,(F67 ⟨r1.b,(F48 ⟨r1.b,r1.p⟩ 10).2⟩ Xz).2⟩ X2).2⟩ X3).2⟩).1).size+Zd.size:Nat):Int)<=9223372036854775807) (kc131l r1X r1.b (F131 ⟨r1.b,(F67 ⟨r1.b,(F67 ⟨r1.b,(F67 ⟨r1.b,(F48 ⟨r1.b,r1.p⟩ 10).2⟩ Xz).2⟩ X2).2⟩ X3).2⟩).2 uu0 uu0 uu0 uu0 uu0 (fun gv25=>ai (sumLe (app_le (app_le (app_le (app_le (app_le (app_le (app_le (app_le (lit_le _) (of_le (n:=80) _ _ uu1)) (lit_le _)) (of_le (n:=80) _ _ uu1)) (lit_le _)) (of_le (n:=80) _ _ uu1)) (lit_le _)) (prefix_le _)) (lit_le _)) (prefix_le _) uu1:((((((((((w70_++(F67 ⟨r1.b,(F48 ⟨r1.b,r1.p⟩ 10).2⟩ Xz).1)++Zd)++(F67 ⟨r1.b,(F67 ⟨r1.b,(F48 ⟨r1.b,r1.p⟩ 10).2⟩ Xz).2⟩ X2).1)++Zd)++(F67 ⟨r1.b,(F67 ⟨r1.b,(F67 ⟨r1.b,(F48 ⟨r1.b,r1.p⟩ 10).2⟩ Xz).2⟩ X2).2⟩ X3).1)++Zd)++(F131 ⟨r1.b,(F67 ⟨r1.b,(F67 ⟨r1.b,(F67 ⟨r1.b,(F48 ⟨r1.b,r1.p⟩ 10).2⟩ Xz).2⟩ X2).2⟩ X3).2⟩).1)++Zd).size+(F131 ⟨r1.b,(F131 ⟨r1.b,(F67 ⟨r1.b,(F67 ⟨r1.b,(F67 ⟨r1.b,(F48 ⟨r1.b,r1.p⟩ 10).2⟩ Xz).2⟩ X2).2⟩ X3).2⟩).2⟩).1.size:Nat):Int)<=9223372036854775807) (ai (sumLe (app_le (app_le (app_le (app_le (app_le (app_le (app_le (app_le (app_le (lit_le _) (of_le (n:=80) _ _ uu1)) (lit_le _)) (of_le (n:=80) _ _ uu1)) (lit_le _)) (of_le (n:=80) _ _ uu1)) (lit_le _)) (prefix_le _)) (lit_le _)) (prefix_le _)) (lit_le _) uu1:(((((((((((w70_++(F67 ⟨r1.b,(F48 ⟨r1.b,r1.p⟩ 10).2⟩ Xz).1)++Zd)++(F67 ⟨r1.b,(F67 ⟨r1.b,(F48 ⟨r1.b,r1.p⟩ 10).2⟩ Xz).2⟩ X2).1)++Zd)++(F67 ⟨r1.b,(F67 ⟨r1.b,(F67 ⟨r1.b,(F48 ⟨r1.b,r1.p⟩ 10).2⟩ Xz).2⟩ X2).2⟩ X3).1)++Zd)++(F131 ⟨r1.b,(F67 ⟨r1.b,(F67 ⟨r1.b,(F67 ⟨r1.b,(F48 ⟨r1.b,r1.p⟩ 10).2⟩ Xz).2⟩ X2).2⟩ X3).2⟩).1)++Zd)++(F131 ⟨r1.b,(F131 ⟨r1.b,(F67 ⟨r1.b,(F67 ⟨r1.b,(F67 ⟨r1.b,(F48 ⟨r1.b,r1.p⟩ 10).2⟩ Xz).2⟩ X2).2⟩ X3).2⟩).2⟩).1).size+Zd.size:Nat):Int)<=9223372036854775807) (ai (bokr 1 eStr Wi fun _=>rfl) (kc67l r1X r1.b (F131 ⟨r1.b,(F131 ⟨r1.b,(F67 ⟨r1.b,(F67 ⟨r1.b,(F67 ⟨r1.b,(F48 ⟨r1.b,r1.p⟩ 10).2⟩ Xz).2⟩ X2).2⟩ X3).2⟩).2⟩).2 Wi uu0 uu0 uu0 uu1 uu1 uu0 uu0 uu1 (fun gv26=>ai (sumLe (app_le (app_le (app_le (app_le (app_le (app_le (app_le (app_le (app_le (app_le (lit_le _) (of_le (n:=80) _ _ uu1)) (lit_le _)) (of_le (n:=80) _ _ uu1)) (lit_le _)) (of_le (n:=80) _ _ uu1)) (lit_le _)) (prefix_le _)) (lit_le _)) (prefix_le _)) (lit_le _)) (of_le (n:=80) _ _ uu1) uu1:((((((((((((w70_++(F67 ⟨r1.b,(F48 ⟨r1.b,r1.p⟩ 10).2⟩ Xz).1)++Zd)++(F67 ⟨r1.b,(F67 ⟨r1.b,(F48 ⟨r1.b,r1.p⟩ 10).2⟩ Xz).2⟩ X2).1)++Zd)++(F67 ⟨r1.b,(F67 ⟨r1.b,(F67 ⟨r1.b,(F48 ⟨r1.b,r1.p⟩ 10).2⟩ Xz).2⟩ X2).2⟩ X3).1)++Zd)++(F131 ⟨r1.b,(F67 ⟨r1.b,(F67 ⟨r1.b,(F67 ⟨r1.b,(F48 ⟨r1.b,r1.p⟩ 10).2⟩ Xz).2⟩ X2).2⟩ X3).2⟩).1)++Zd)++(F131 ⟨r1.b,(F131 ⟨r1.b,(F67 ⟨r1.b,(F67 ⟨r1.b,(F67 ⟨r1.b,(F48 ⟨r1.b,r1.p⟩ 10).2⟩ Xz).2⟩ X2).2⟩ X3).2⟩).2⟩).1)++Zd).size+(F67 ⟨r1.b,(F131 ⟨r1.b,(F131 ⟨r1.b,(F67 ⟨r1.b,(F67 ⟨r1.b,(F67 ⟨r1.b,(F48 ⟨r1.b,r1.p⟩ 10).2⟩ Xz).2⟩ X2).2⟩ X3).2⟩).2⟩).2⟩ Wi).1.size:Nat):Int)<=9223372036854775807) ((fun hF:((((((((((((w70_++(F67 ⟨r1.b,(F48 ⟨r1.b,r1.p⟩ 10).2⟩ Xz).1)++Zd)++(F67 ⟨r1.b,(F67 ⟨r1.b,(F48 ⟨r1.b,r1.p⟩ 10).2⟩ Xz).2⟩ X2).1)++Zd)++(F67 ⟨r1.b,(F67 ⟨r1.b,(F67 ⟨r1.b,(F48 ⟨r1.b,r1.p⟩ 10).2⟩ Xz).2⟩ X2).2⟩ X3).1)++Zd)++(F131 ⟨r1.b,(F67 ⟨r1.b,(F67 ⟨r1.b,(F67 ⟨r1.b,(F48 ⟨r1.b,r1.p⟩ 10).2⟩ Xz).2⟩ X2).2⟩ X3).2⟩).1)++Zd)++(F131 ⟨r1.b,(F131 ⟨r1.b,(F67 ⟨r1.b,(F67 ⟨r1.b,(F67 ⟨r1.b,(F48 ⟨r1.b,r1.p⟩ 10).2⟩ Xz).2⟩ X2).2⟩ X3).2⟩).2⟩).1)++Zd)++(F67 ⟨r1.b,(F131 ⟨r1.b,(F131 ⟨r1.b,(F67 ⟨r1.b,(F67 ⟨r1.b,(F67 ⟨r1.b,(F48 ⟨r1.b,r1.p⟩ 10).2⟩ Xz).2⟩ X2).2⟩ X3).2⟩).2⟩).2⟩ Wi).1),(F67 ⟨r1.b,(F131 ⟨r1.b,(F131 ⟨r1.b,(F67 ⟨r1.b,(F67 ⟨r1.b,(F67 ⟨r1.b,(F48 ⟨r1.b,r1.p⟩ 10).2⟩ Xz).2⟩ X2).2⟩ X3).2⟩).2⟩).2⟩ Wi).2)=(F86 r1)=>ai (Qh (fun r:Za×Int=>(.string r.1:Value)) hF) (ai (ai (Imp.refl (Dat.v (sv r1X))) (ai (Imp.of_eq (Qh (fun r:Za×Int=>Dat.v (vI r.2)) hF)) trivial)) trivial)) (condF h2 (condF h6 (condF h8 (finD hJ0_12 (condF h13 (condT h20 rfl)))))))))))))))))))))))))))) (fun h20 _=>ife (F48 ⟨r1.b,r1.p⟩ 10).1 5 (fun h27 _=>ife (F48 ⟨r1.b,r1.p⟩ 10).1 5 (fun h28 _=>kc131l r1X r1.b (F48 ⟨r1.b,r1.p⟩ 10).2 uu0 uu0 uu0 uu0 uu0 (fun gv29=>ai (sumLe (lit_le _) (prefix_le _) uu1:((w71_.size+(F131 ⟨r1.b,(F48 ⟨r1.b,r1.p⟩ 10).2⟩).1.size:Nat):Int)<=9223372036854775807) (ai (sumLe (app_le (lit_le _) (prefix_le _)) (lit_le _) uu1:(((w71_++(F131 ⟨r1.b,(F48 ⟨r1.b,r1.p⟩ 10).2⟩).1).size+Zd.size:Nat):Int)<=9223372036854775807) (kc132l r1X r1.b (F131 ⟨r1.b,(F48 ⟨r1.b,r1.p⟩ 10).2⟩).2 uu0 uu0 uu0 uu0 uu0 (fun gv30=>ai (sumLe (app_le (app_le (lit_le _) (prefix_le _)) (lit_le _)) (addr_le _) uu1:((((w71_++(F131 ⟨r1.b,(F48 ⟨r1.b,r1.p⟩ 10).2⟩).1)++Zd).size+(F132 ⟨r1.b,(F131 ⟨r1.b,(F48 ⟨r1.b,r1.p⟩ 10).2⟩).2⟩).1.size:Nat):Int)<=9223372036854775807) ((fun hF:((((w71_++(F131 ⟨r1.b,(F48 ⟨r1.b,r1.p⟩ 10).2⟩).1)++Zd)++(F132 ⟨r1.b,(F131 ⟨r1.b,(F48 ⟨r1.b,r1.p⟩ 10).2⟩).2⟩).1),(F132 ⟨r1.b,(F131 ⟨r1.b,(F48 ⟨r1.b,r1.p⟩ 10).2⟩).2⟩).2)=(F86 r1)=>ai (Qh (fun r:Za×Int=>(.string r.1:Value)) hF) (ai (ai (Imp.refl (Dat.v (sv r1X))) (ai (Imp.of_eq (Qh (fun r:Za×Int=>Dat.v (vI r.2)) hF)) trivial)) trivial)) (condF h2 (condF h6 (condF h8 (finD hJ0_12 (condF h13 (condF h20 (condT h27 (condT h28 rfl)))))))))))))) (fun h28 _=>ife (F48 ⟨r1.b,r1.p⟩ 10).1 7 (fun h31 _=>kc132l r1X r1.b (F48 ⟨r1.b,r1.p⟩ 10).2 uu0 uu0 uu0 uu0 uu0 (fun gv32=>ai (sumLe (lit_le _) (addr_le _) uu1:((w72_.size+(F132 ⟨r1.b,(F48 ⟨r1.b,r1.p⟩ 10).2⟩).1.size:Nat):Int)<=9223372036854775807) (ai (sumLe (app_le (lit_le _) (addr_le _)) (lit_le _) uu1:(((w72_++(F132 ⟨r1.b,(F48 ⟨r1.b,r1.p⟩ 10).2⟩).1).size+Zd.size:Nat):Int)<=9223372036854775807) (ai (bokr 1 eStr X5 fun _=>rfl) (kc67l r1X r1.b (F132 ⟨r1.b,(F48 ⟨r1.b,r1.p⟩ 10).2⟩).2 X5 uu0 uu0 uu0 uu0 uu0 uu0 uu0 uu0 (fun gv33=>ai (sumLe (app_le (app_le (lit_le _) (addr_le _)) (lit_le _)) (of_le (n:=80) _ _ uu1) uu1:((((w72_++(F132 ⟨r1.b,(F48 ⟨r1.b,r1.p⟩ 10).2⟩).1)++Zd).size+(F67 ⟨r1.b,(F132 ⟨r1.b,(F48 ⟨r1.b,r1.p⟩ 10).2⟩).2⟩ X5).1.size:Nat):Int)<=9223372036854775807) (ai (sumLe (app_le (app_le (app_le (lit_le _) (addr_le _)) (lit_le _)) (of_le (n:=80) _ _ uu1)) (lit_le _) uu1:(((((w72_++(F132 ⟨r1.b,(F48 ⟨r1.b,r1.p⟩ 10).2⟩).1)++Zd)++(F67 ⟨r1.b,(F132 ⟨r1.b,(F48 ⟨r1.b,r1.p⟩ 10).2⟩).2⟩ X5).1).size+Zd.size:Nat):Int)<=9223372036854775807) (ai (bokr 1 eStr X9 fun _=>rfl) (kc67l r1X r1.b (F67 ⟨r1.b,(F132 ⟨r1.b,(F48 ⟨r1.b,r1.p⟩ 10).2⟩).2⟩ X5).2 X9 uu0 uu0 uu0 uu0 uu0 uu0 uu0 uu0 (fun gv34=>ai (sumLe (app_le (app_le (app_le (app_le (lit_le _) (addr_le _)) (lit_le _)) (of_le (n:=80) _ _ uu1)) (lit_le _)) (of_le (n:=80) _ _ uu1) uu1:((((((w72_++(F132 ⟨r1.b,(F48 ⟨r1.b,r1.p⟩ 10).2⟩).1)++Zd)++(F67 ⟨r1.b,(F132 ⟨r1.b,(F48 ⟨r1.b,r1.p⟩ 10).2⟩).2⟩ X5).1)++Zd).size+(F67 ⟨r1.b,(F67 ⟨r1.b,(F132 ⟨r1.b,(F48 ⟨r1.b,r1.p⟩ 10).2⟩).2⟩ X5).2⟩ X9).1.size:Nat):Int)<=9223372036854775807) ((fun hF:((((((w72_++(F132 ⟨r1.b,(F48 ⟨r1.b,r1.p⟩ 10).2⟩).1)++Zd)++(F67 ⟨r1.b,(F132 ⟨r1.b,(F48 ⟨r1.b,r1.p⟩ 10).2⟩).2⟩ X5).1)++Zd)++(F67 ⟨r1.b,(F67 ⟨r1.b,(F132 ⟨r1.b,(F48 ⟨r1.b,r1.p⟩ 10).2⟩).2⟩ X5).2⟩ X9).1),(F67 ⟨r1.b,(F67 ⟨r1.b,(F132 ⟨r1.b,(F48 ⟨r1.b,r1.p⟩ 10).2⟩).2⟩ X5).2⟩ X9).2)=(F86 r1)=>ai (Qh (fun r:Za×Int=>(.string r.1:Value)) hF) (ai (ai (Imp.refl (Dat.v (sv r1X))) (ai (Imp.of_eq (Qh (fun r:Za×Int=>Dat.v (vI r.2)) hF)) trivial)) trivial)) (condF h2 (condF h6 (condF h8 (finD hJ0_12 (condF h13 (condF h20 (condT h27 (condF h28 (condT h31 rfl)))))))))))))))))))) (fun h31 _=>ai (bokr 1 eStr X0 fun _=>rfl) (kc67l r1X r1.b (F48 ⟨r1.b,r1.p⟩ 10).2 X0 uu0 uu0 uu0 uu0 uu0 uu0 uu0 uu0 (fun gv35=>ai (sumLe (lit_le _) (of_le (n:=80) _ _ uu1) uu1:((w73_.size+(F67 ⟨r1.b,(F48 ⟨r1.b,r1.p⟩ 10).2⟩ X0).1.size:Nat):Int)<=9223372036854775807) (ai (sumLe (app_le (lit_le _) (of_le (n:=80) _ _ uu1)) (lit_le _) uu1:(((w73_++(F67 ⟨r1.b,(F48 ⟨r1.b,r1.p⟩ 10).2⟩ X0).1).size+Zd.size:Nat):Int)<=9223372036854775807) (ai (bokr 1 eStr X4 fun _=>rfl) (kc67l r1X r1.b (F67 ⟨r1.b,(F48 ⟨r1.b,r1.p⟩ 10).2⟩ X0).2 X4 uu0 uu0 uu0 uu0 uu0 uu0 uu0 uu0 (fun gv36=>ai (sumLe (app_le (app_le (lit_le _) (of_le (n:=80) _ _ uu1)) (lit_le _)) (of_le (n:=80) _ _ uu1) uu1:((((w73_++(F67 ⟨r1.b,(F48 ⟨r1.b,r1.p⟩ 10).2⟩ X0).1)++Zd).size+(F67 ⟨r1.b,(F67 ⟨r1.b,(F48 ⟨r1.b,r1.p⟩ 10).2⟩ X0).2⟩ X4).1.size:Nat):Int)<=9223372036854775807) (ai (sumLe (app_le (app_le (app_le (lit_le _) (of_le (n:=80) _ _ uu1)) (lit_le _)) (of_le (n:=80) _ _ uu1)) (lit_le _) uu1:(((((w73_++(F67 ⟨r1.b,(F48 ⟨r1.b,r1.p⟩ 10).2⟩ X0).1)++Zd)++(F67 ⟨r1.b,(F67 ⟨r1.b,(F48 ⟨r1.b,r1.p⟩ 10).2⟩ X0).2⟩ X4).1).size+Zd.size:Nat):Int)<=9223372036854775807) (kc132l r1X r1.b (F67 ⟨r1.b,(F67 ⟨r1.b,(F48 ⟨r1.b,r1.p⟩ 10).2⟩ X0).2⟩ X4).2 uu0 uu0 uu0 uu0 uu0 (fun gv37=>ai (sumLe (app_le (app_le (app_le (app_le (lit_le _) (of_le (n:=80) _ _ uu1)) (lit_le _)) (of_le (n:=80) _ _ uu1)) (lit_le _)) (addr_le _) uu1:((((((w73_++(F67 ⟨r1.b,(F48 ⟨r1.b,r1.p⟩ 10).2⟩ X0).1)++Zd)++(F67 ⟨r1.b,(F67 ⟨r1.b,(F48 ⟨r1.b,r1.p⟩ 10).2⟩ X0).2⟩ X4).1)++Zd).size+(F132 ⟨r1.b,(F67 ⟨r1.b,(F67 ⟨r1.b,(F48 ⟨r1.b,r1.p⟩ 10).2⟩ X0).2⟩ X4).2⟩).1.size:Nat):Int)<=9223372036854775807) (ai (sumLe (app_le (app_le (app_le (app_le (app_le (lit_le _) (of_le (n:=80) _ _ uu1)) (lit_le _)) (of_le (n:=80) _ _ uu1)) (lit_le _)) (addr_le _)) (lit_le _) uu1:(((((((w73_++(F67 ⟨r1.b,(F48 ⟨r1.b,r1.p⟩ 10).2⟩ X0).1)++Zd)++(F67 ⟨r1.b,(F67 ⟨r1.b,(F48 ⟨r1.b,r1.p⟩ 10).2⟩ X0).2⟩ X4).1)++Zd)++(F132 ⟨r1.b,(F67 ⟨r1.b,(F67 ⟨r1.b,(F48 ⟨r1.b,r1.p⟩ 10).2⟩ X0).2⟩ X4).2⟩).1).size+Zd.size:Nat):Int)<=9223372036854775807) (ai (bokr 1 eStr Wa fun _=>rfl) (kc67l r1X r1.b (F132 ⟨r1.b,(F67 ⟨r1.b,(F67 ⟨r1.b,(F48 ⟨r1.b,r1.p⟩ 10).2⟩ X0).2⟩ X4).2⟩).2 Wa uu0 uu0 uu0 uu0 uu0 uu0 uu0 uu0 (fun gv38=>ai (sumLe (app_le (app_le (app_le (app_le (app_le (app_le (lit_le _) (of_le (n:=80) _ _ uu1)) (lit_le _)) (of_le (n:=80) _ _ uu1)) (lit_le _)) (addr_le _)) (lit_le _)) (of_le (n:=80) _ _ uu1) uu1:((((((((w73_++(F67 ⟨r1.b,(F48 ⟨r1.b,r1.p⟩ 10).2⟩ X0).1)++Zd)++(F67 ⟨r1.b,(F67 ⟨r1.b,(F48 ⟨r1.b,r1.p⟩ 10).2⟩ X0).2⟩ X4).1)++Zd)++(F132 ⟨r1.b,(F67 ⟨r1.b,(F67 ⟨r1.b,(F48 ⟨r1.b,r1.p⟩ 10).2⟩ X0).2⟩ X4).2⟩).1)++Zd).size+(F67 ⟨r1.b,(F132 ⟨r1.b,(F67 ⟨r1.b,(F67 ⟨r1.b,(F48 ⟨r1.b,r1.p⟩ 10).2⟩ X0).2⟩ X4).2⟩).2⟩ Wa).1.size:Nat):Int)<=9223372036854775807) ((fun hF:((((((((w73_++(F67 ⟨r1.b,(F48 ⟨r1.b,r1.p⟩ 10).2⟩ X0).1)++Zd)++(F67 ⟨r1.b,(F67 ⟨r1.b,(F48 ⟨r1.b,r1.p⟩ 10).2⟩ X0).2⟩ X4).1)++Zd)++(F132 ⟨r1.b,(F67 ⟨r1.b,(F67 ⟨r1.b,(F48 ⟨r1.b,r1.p⟩ 10).2⟩ X0).2⟩ X4).2⟩).1)++Zd)++(F67 ⟨r1.b,(F132 ⟨r1.b,(F67 ⟨r1.b,(F67 ⟨r1.b,(F48 ⟨r1.b,r1.p⟩ 10).2⟩ X0).2⟩ X4).2⟩).2⟩ Wa).1),(F67 ⟨r1.b,(F132 ⟨r1.b,(F67 ⟨r1.b,(F67 ⟨r1.b,(F48 ⟨r1.b,r1.p⟩ 10).2⟩ X0).2⟩ X4).2⟩).2⟩ Wa).2)=(F86 r1)=>ai (Qh (fun r:Za×Int=>(.string r.1:Value)) hF) (ai (ai (Imp.refl (Dat.v (sv r1X))) (ai (Imp.of_eq (Qh (fun r:Za×Int=>Dat.v (vI r.2)) hF)) trivial)) trivial)) (condF h2 (condF h6 (condF h8 (finD hJ0_12 (condF h13 (condF h20 (condT h27 (condF h28 (condF h31 rfl)))))))))))))))))))))))))) (fun h27 _=>ife (F48 ⟨r1.b,r1.p⟩ 10).1 6 (fun h39 _=>kc131l r1X r1.b (F48 ⟨r1.b,r1.p⟩ 10).2 uu0 uu0 uu0 uu0 uu0 (fun gv40=>ai (sumLe (lit_le _) (prefix_le _) uu1:((w71_.size+(F131 ⟨r1.b,(F48 ⟨r1.b,r1.p⟩ 10).2⟩).1.size:Nat):Int)<=9223372036854775807) (ai (sumLe (app_le (lit_le _) (prefix_le _)) (lit_le _) uu1:(((w71_++(F131 ⟨r1.b,(F48 ⟨r1.b,r1.p⟩ 10).2⟩).1).size+Zd.size:Nat):Int)<=9223372036854775807) (kc132l r1X r1.b (F131 ⟨r1.b,(F48 ⟨r1.b,r1.p⟩ 10).2⟩).2 uu0 uu0 uu0 uu0 uu0 (fun gv41=>ai (sumLe (app_le (app_le (lit_le _) (prefix_le _)) (lit_le _)) (addr_le _) uu1:((((w71_++(F131 ⟨r1.b,(F48 ⟨r1.b,r1.p⟩ 10).2⟩).1)++Zd).size+(F132 ⟨r1.b,(F131 ⟨r1.b,(F48 ⟨r1.b,r1.p⟩ 10).2⟩).2⟩).1.size:Nat):Int)<=9223372036854775807) ((fun hF:((((w71_++(F131 ⟨r1.b,(F48 ⟨r1.b,r1.p⟩ 10).2⟩).1)++Zd)++(F132 ⟨r1.b,(F131 ⟨r1.b,(F48 ⟨r1.b,r1.p⟩ 10).2⟩).2⟩).1),(F132 ⟨r1.b,(F131 ⟨r1.b,(F48 ⟨r1.b,r1.p⟩ 10).2⟩).2⟩).2)=(F86 r1)=>ai (Qh (fun r:Za×Int=>(.string r.1:Value)) hF) (ai (ai (Imp.refl (Dat.v (sv r1X))) (ai (Imp.of_eq (Qh (fun r:Za×Int=>Dat.v (vI r.2)) hF)) trivial)) trivial)) (condF h2 (condF h6 (condF h8 (finD hJ0_12 (condF h13 (condF h20 (condF h27 (condT h39 rfl)))))))))))))) (fun h39 _=>ife (F48 ⟨r1.b,r1.p⟩ 10).1 7 (fun h42 _=>kc132l r1X r1.b (F48 ⟨r1.b,r1.p⟩ 10).2 uu0 uu0 uu0 uu0 uu0 (fun gv43=>ai (sumLe (lit_le _) (addr_le _) uu1:((w72_.size+(F132 ⟨r1.b,(F48 ⟨r1.b,r1.p⟩ 10).2⟩).1.size:Nat):Int)<=9223372036854775807) (ai (sumLe (app_le (lit_le _) (addr_le _)) (lit_le _) uu1:(((w72_++(F132 ⟨r1.b,(F48 ⟨r1.b,r1.p⟩ 10).2⟩).1).size+Zd.size:Nat):Int)<=9223372036854775807) (ai (bokr 1 eStr X5 fun _=>rfl) (kc67l r1X r1.b (F132 ⟨r1.b,(F48 ⟨r1.b,r1.p⟩ 10).2⟩).2 X5 uu0 uu0 uu0 uu1 uu1 uu0 uu0 uu1 (fun gv44=>ai (sumLe (app_le (app_le (lit_le _) (addr_le _)) (lit_le _)) (of_le (n:=80) _ _ uu1) uu1:((((w72_++(F132 ⟨r1.b,(F48 ⟨r1.b,r1.p⟩ 10).2⟩).1)++Zd).size+(F67 ⟨r1.b,(F132 ⟨r1.b,(F48 ⟨r1.b,r1.p⟩ 10).2⟩).2⟩ X5).1.size:Nat):Int)<=9223372036854775807) (ai (sumLe (app_le (app_le (app_le (lit_le _) (addr_le _)) (lit_le _)) (of_le (n:=80) _ _ uu1)) (lit_le _) uu1:(((((w72_++(F132 ⟨r1.b,(F48 ⟨r1.b,r1.p⟩ 10).2⟩).1)++Zd)++(F67 ⟨r1.b,(F132 ⟨r1.b,(F48 ⟨r1.b,r1.p⟩ 10).2⟩).2⟩ X5).1).size+Zd.size:Nat):Int)<=9223372036854775807) (ai (bokr 1 eStr X9 fun _=>rfl) (kc67l r1X r1.b (F67 ⟨r1.b,(F132 ⟨r1.b,(F48 ⟨r1.b,r1.p⟩ 10).2⟩).2⟩ X5).2 X9 uu0 uu0 uu0 uu1 uu1 uu0 uu0 uu1 (fun gv45=>ai (sumLe (app_le (app_le (app_le (app_le (lit_le _) (addr_le _)) (lit_le _)) (of_le (n:=80) _ _ uu1)) (lit_le _)) (of_le (n:=80) _ _ uu1) uu1:((((((w72_++(F132 ⟨r1.b,(F48 ⟨r1.b,r1.p⟩ 10).2⟩).1)++Zd)++(F67 ⟨r1.b,(F132 ⟨r1.b,(F48 ⟨r1.b,r1.p⟩ 10).2⟩).2⟩ X5).1)++Zd).size+(F67 ⟨r1.b,(F67 ⟨r1.b,(F132 ⟨r1.b,(F48 ⟨r1.b,r1.p⟩ 10).2⟩).2⟩ X5).2⟩ X9).1.size:Nat):Int)<=9223372036854775807) ((fun hF:((((((w72_++(F132 ⟨r1.b,(F48 ⟨r1.b,r1.p⟩ 10).2⟩).1)++Zd)++(F67 ⟨r1.b,(F132 ⟨r1.b,(F48 ⟨r1.b,r1.p⟩ 10).2⟩).2⟩ X5).1)++Zd)++(F67 ⟨r1.b,(F67 ⟨r1.b,(F132 ⟨r1.b,(F48 ⟨r1.b,r1.p⟩ 10).2⟩).2⟩ X5).2⟩ X9).1),(F67 ⟨r1.b,(F67 ⟨r1.b,(F132 ⟨r1.b,(F48 ⟨r1.b,r1.p⟩ 10).2⟩).2⟩ X5).2⟩ X9).2)=(F86 r1)=>ai (Qh (fun r:Za×Int=>(.string r.1:Value)) hF) (ai (ai (Imp.refl (Dat.v (sv r1X))) (ai (Imp.of_eq (Qh (fun r:Za×Int=>Dat.v (vI r.2)) hF)) trivial)) trivial)) (condF h2 (condF h6 (condF h8 (finD hJ0_12 (condF h13 (condF h20 (condF h27 (condF h39 (condT h42 rfl)))))))))))))))))))) (fun h42 _=>ai (bokr 1 eStr X0 fun _=>rfl) (kc67l r1X r1.b (F48 ⟨r1.b,r1.p⟩ 10).2 X0 uu0 uu0 uu0 uu1 uu1 uu0 uu0 uu1 (fun gv46=>ai (sumLe (lit_le _) (of_le (n:=80) _ _ uu1) uu1:((w73_.size+(F67 ⟨r1.b,(F48 ⟨r1.b,r1.p⟩ 10).2⟩ X0).1.size:Nat):Int)<=9223372036854775807) (ai (sumLe (app_le (lit_le _) (of_le (n:=80) _ _ uu1)) (lit_le _) uu1:(((w73_++(F67 ⟨r1.b,(F48 ⟨r1.b,r1.p⟩ 10).2⟩ X0).1).size+Zd.size:Nat):Int)<=9223372036854775807) (ai (bokr 1 eStr X4 fun _=>rfl) (kc67l r1X r1.b (F67 ⟨r1.b,(F48 ⟨r1.b,r1.p⟩ 10).2⟩ X0).2 X4 uu0 uu0 uu0 uu1 uu1 uu0 uu0 uu1 (fun gv47=>ai (sumLe (app_le (app_le (lit_le _) (of_le (n:=80) _ _ uu1)) (lit_le _)) (of_le (n:=80) _ _ uu1) uu1:((((w73_++(F67 ⟨r1.b,(F48 ⟨r1.b,r1.p⟩ 10).2⟩ X0).1)++Zd).size+(F67 ⟨r1.b,(F67 ⟨r1.b,(F48 ⟨r1.b,r1.p⟩ 10).2⟩ X0).2⟩ X4).1.size:Nat):Int)<=9223372036854775807) (ai (sumLe (app_le (app_le (app_le (lit_le _) (of_le (n:=80) _ _ uu1)) (lit_le _)) (of_le (n:=80) _ _ uu1)) (lit_le _) uu1:(((((w73_++(F67 ⟨r1.b,(F48 ⟨r1.b,r1.p⟩ 10).2⟩ X0).1)++Zd)++(F67 ⟨r1.b,(F67 ⟨r1.b,(F48 ⟨r1.b,r1.p⟩ 10).2⟩ X0).2⟩ X4).1).size+Zd.size:Nat):Int)<=9223372036854775807) (kc132l r1X r1.b (F67 ⟨r1.b,(F67 ⟨r1.b,(F48 ⟨r1.b,r1.p⟩ 10).2⟩ X0).2⟩ X4).2 uu0 uu0 uu0 uu0 uu0 (fun gv48=>ai (sumLe (app_le (app_le (app_le (app_le (lit_le _) (of_le (n:=80) _ _ uu1)) (lit_le _)) (of_le (n:=80) _ _ uu1)) (lit_le _)) (addr_le _) uu1:((((((w73_++(F67 ⟨r1.b,(F48 ⟨r1.b,r1.p⟩ 10).2⟩ X0).1)++Zd)++(F67 ⟨r1.b,(F67 ⟨r1.b,(F48 ⟨r1.b,r1.p⟩ 10).2⟩ X0).2⟩ X4).1)++Zd).size+(F132 ⟨r1.b,(F67 ⟨r1.b,(F67 ⟨r1.b,(F48 ⟨r1.b,r1.p⟩ 10).2⟩ X0).2⟩ X4).2⟩).1.size:Nat):Int)<=9223372036854775807) (ai (sumLe (app_le (app_le (app_le (app_le (app_le (lit_le _) (of_le (n:=80) _ _ uu1)) (lit_le _)) (of_le (n:=80) _ _ uu1)) (lit_le _)) (addr_le _)) (lit_le _) uu1:(((((((w73_++(F67 ⟨r1.b,(F48 ⟨r1.b,r1.p⟩ 10).2⟩ X0).1)++Zd)++(F67 ⟨r1.b,(F67 ⟨r1.b,(F48 ⟨r1.b,r1.p⟩ 10).2⟩ X0).2⟩ X4).1)++Zd)++(F132 ⟨r1.b,(F67 ⟨r1.b,(F67 ⟨r1.b,(F48 ⟨r1.b,r1.p⟩ 10).2⟩ X0).2⟩ X4).2⟩).1).size+Zd.size:Nat):Int)<=9223372036854775807) (ai (bokr 1 eStr Wa fun _=>rfl) (kc67l r1X r1.b (F132 ⟨r1.b,(F67 ⟨r1.b,(F67 ⟨r1.b,(F48 ⟨r1.b,r1.p⟩ 10).2⟩ X0).2⟩ X4).2⟩).2 Wa uu0 uu0 uu0 uu1 uu1 uu0 uu0 uu1 (fun gv49=>ai (sumLe (app_le (app_le (app_le (app_le (app_le (app_le (lit_le _) (of_le (n:=80) _ _ uu1)) (lit_le _)) (of_le (n:=80) _ _ uu1)) (lit_le _)) (addr_le _)) (lit_le _)) (of_le (n:=80) _ _ uu1) uu1:((((((((w73_++(F67 ⟨r1.b,(F48 ⟨r1.b,r1.p⟩ 10).2⟩ X0).1)++Zd)++(F67 ⟨r1.b,(F67 ⟨r1.b,(F48 ⟨r1.b,r1.p⟩ 10).2⟩ X0).2⟩ X4).1)++Zd)++(F132 ⟨r1.b,(F67 ⟨r1.b,(F67 ⟨r1.b,(F48 ⟨r1.b,r1.p⟩ 10).2⟩ X0).2⟩ X4).2⟩).1)++Zd).size+(F67 ⟨r1.b,(F132 ⟨r1.b,(F67 ⟨r1.b,(F67 ⟨r1.b,(F48 ⟨r1.b,r1.p⟩ 10).2⟩ X0).2⟩ X4).2⟩).2⟩ Wa).1.size:Nat):Int)<=9223372036854775807) ((fun hF:((((((((w73_++(F67 ⟨r1.b,(F48 ⟨r1.b,r1.p⟩ 10).2⟩ X0).1)++Zd)++(F67 ⟨r1.b,(F67 ⟨r1.b,(F48 ⟨r1.b,r1.p⟩ 10).2⟩ X0).2⟩ X4).1)++Zd)++(F132 ⟨r1.b,(F67 ⟨r1.b,(F67 ⟨r1.b,(F48 ⟨r1.b,r1.p⟩ 10).2⟩ X0).2⟩ X4).2⟩).1)++Zd)++(F67 ⟨r1.b,(F132 ⟨r1.b,(F67 ⟨r1.b,(F67 ⟨r1.b,(F48 ⟨r1.b,r1.p⟩ 10).2⟩ X0).2⟩ X4).2⟩).2⟩ Wa).1),(F67 ⟨r1.b,(F132 ⟨r1.b,(F67 ⟨r1.b,(F67 ⟨r1.b,(F48 ⟨r1.b,r1.p⟩ 10).2⟩ X0).2⟩ X4).2⟩).2⟩ Wa).2)=(F86 r1)=>ai (Qh (fun r:Za×Int=>(.string r.1:Value)) hF) (ai (ai (Imp.refl (Dat.v (sv r1X))) (ai (Imp.of_eq (Qh (fun r:Za×Int=>Dat.v (vI r.2)) hF)) trivial)) trivial)) (condF h2 (condF h6 (condF h8 (finD hJ0_12 (condF h13 (condF h20 (condF h27 (condF h39 (condF h42 rfl))))))))))))))))))))))))))))) j hj)))))) uu3
def LineQ (p:Int) (z:Za×Int):Prop:=z.1.size<=900/\p<=z.2/\z.2<=p+9
theorem dline_j0 (r1:l51Rd):∃ b,F86_j0 r1=Lp.done b:=by
 unfold F86_j0
 cases ((F48 (⟨r1.b,r1.p⟩:l51Rd) 10).1==2)
 ·exact ⟨_,rfl⟩
 ·exact ⟨_,rfl⟩
theorem dline_j1 (r1:l51Rd) (b:Bool):∃ t r2,F86_j1 r1 b=Lp.done (t,r2)/\t.size<=100/\r1.p<=r2/\r2<=r1.p+3:=by
 unfold F86_j1
 cases ((F48 (⟨r1.b,(F48 (⟨r1.b,r1.p⟩:l51Rd) 10).2⟩:l51Rd) 3).1==0)
 ·refine ⟨_,_,rfl,Re _,?_,?_⟩ <;> (simp only [of_p,pick_p]; omega)
 ·refine ⟨_,_,rfl,?_,?_,?_⟩
  ·exact szLe (app_le (lit_le _) (of_le (n:=80) _ _ uu1)) uu1
  ·simp only [of_p,pick_p]; omega
  ·simp only [of_p,pick_p]; omega
set_option maxHeartbeats 4000000 in
theorem dline_all (r1:l51Rd):LineQ r1.p (F86 r1):=by
 obtain ⟨b,hb⟩:=dline_j0 r1
 obtain ⟨t,r2,ht,h1,h2,h3⟩:=dline_j1 r1 b
 unfold F86
 rw [hb]
 simp only [Lp.fin]
 rw [ht]
 simp only [Lp.fin]
 repeat' apply cond_P (P:=LineQ r1.p)
 all_goals refine ⟨?_,?_,?_⟩
 all_goals first
  | (simp only [of_p,pick_p,prefix_p,addr_p]; omega)
  | (apply szLe; (· repeat (first | exact h1 | apply app_le | apply condS_le | exact of_le (n:=80) _ _ uu1 | exact prefix_le _ | exact addr_le _ | exact lit_le _)); decide)
theorem dline_q (r1:l51Rd) (h0:0<=r1.p) (h1:r1.p<=900000000):(F86 r1).1.size<=900/\r1.p<=(F86 r1).2/\(F86 r1).2<=r1.p+9:=dline_all r1
theorem ext_le {s:Za} {n:Nat} (h:s.size<=n) (a b:Nat):(s.extract a b).size<=n:=by
 rw [T8]; omega
theorem dline_sz (r1:l51Rd):(F86 r1).1.size<=900:=(dline_all r1).1
def F68 (lines:List Za) (k:Int):List Za :=
 ((([]:List Za)++(lines.take (Int.toNat k)))++(lines.drop (Int.toNat (k+1))))
theorem fi68 (lines:List Za) (k:Int) (r:List Za) (hF:r=(F68 lines k)):(Imp (.l 1 eStr r) (.l 1 eStr (F68 lines k)))/\True:=by cases hF; exact ⟨Imp.refl _,trivial⟩
def S68 (lines:List Za) (k:Int):Spec:=⟨[.r (.c (.l 1 eStr lines)),.r (.c (.v (vI k)))],.ow (.l 1 eStr (F68 lines k)),0<=k/\k<(lines.length:Int)/\lines.length<=1048576⟩
theorem ok68 (lines:List Za) (k:Int):(S68 lines k).ok Tryz.prog 68 :=
 fnG_ok mixed (fn:=Tryz.f68) (ct:=.seqk [(0,0)] .no (.seq (.reg [(0,.dat (.l 1 eStr ([]:List Za))),(4,.dat (.l 1 eStr (([]:List Za)++(lines.take (Int.toNat k))))),(7,.bnd),(9,.dat (.l 1 eStr ((([]:List Za)++(lines.take (Int.toNat k)))++(lines.drop (Int.toNat (k+1))))))]) .no)) Tryz.func68 (fun (hp:0<=k/\k<(lines.length:Int)/\lines.length<=1048576)=>have hpre0:=hp.1; have hpre1:=hp.2.1; have hpre2:=hp.2.2; kn lines fun _=>ai (bokr 1 eStr ([]:List Za) fun _=>rfl) (ai (uu2:0<=(0:Int)/\(0:Int)<=k/\k<=(lines.length:Int)) (ai (AppL.mk eStr ([]:List Za) (lines.take (Int.toNat k)) (Imp.refl (.l 1 eStr ([]:List Za))) ir (fun y=>⟨rfl,fun e he=>by simp only [eStr,Qt,Rl,Gy] at he; rcases he with rfl <;> exact ⟨_,rfl⟩⟩):AppL (.l 1 eStr ([]:List Za)) (.l 1 eStr (lines.take (Int.toNat k))) 1 (.l 1 eStr (([]:List Za)++(lines.take (Int.toNat k))))) (ai (uu17:(([]:List Za)++(lines.take (Int.toNat k))).length*16<=140737488355328) (ai (iok (k+1) uu2) (ai (uu2:0<=(k+1)/\(k+1)<=(lines.length:Int)/\(lines.length:Int)<=(lines.length:Int)) (ai (AppL.mk eStr (([]:List Za)++(lines.take (Int.toNat k))) (lines.drop (Int.toNat (k+1))) (Imp.refl (.l 1 eStr (([]:List Za)++(lines.take (Int.toNat k))))) ir (fun y=>⟨rfl,fun e he=>by simp only [eStr,Qt,Rl,Gy] at he; rcases he with rfl <;> exact ⟨_,rfl⟩⟩):AppL (.l 1 eStr (([]:List Za)++(lines.take (Int.toNat k)))) (.l 1 eStr (lines.drop (Int.toNat (k+1)))) 1 (.l 1 eStr ((([]:List Za)++(lines.take (Int.toNat k)))++(lines.drop (Int.toNat (k+1)))))) (ai (uu17:((([]:List Za)++(lines.take (Int.toNat k)))++(lines.drop (Int.toNat (k+1)))).length*16<=140737488355328) (fi68 lines k ((([]:List Za)++(lines.take (Int.toNat k)))++(lines.drop (Int.toNat (k+1)))) rfl))))))))) uu3
def F80 (list:List Za):List Za :=
 (([]:List Za)++list)
theorem fi80 (list:List Za) (r:List Za) (hF:r=(F80 list)):(Imp (.l 1 eStr r) (.l 1 eStr (F80 list)))/\True:=by cases hF; exact ⟨Imp.refl _,trivial⟩
def S80 (R:List Za) (list:List Za):Spec:=⟨[.r (.c (.l 1 eStr list))],.ow (.l 1 eStr R),list.length<=1000000000⟩
theorem ok80 (list:List Za):(S80 (F80 list) list).ok Tryz.prog 80 :=
 fnG_ok mixed (fn:=Tryz.f80) (ct:=.seqk [(0,0)] .no (.seq (.reg [(0,.dat (.l 1 eStr ([]:List Za))),(2,.dat (.l 1 eStr (([]:List Za)++list)))]) .no)) Tryz.func80 (fun (hpre0:list.length<=1000000000)=>kn list fun _=>ai (bokr 1 eStr ([]:List Za) fun _=>rfl) (ai (AppL.mk eStr ([]:List Za) list (Imp.refl (.l 1 eStr ([]:List Za))) ir (fun y=>⟨rfl,fun e he=>by simp only [eStr,Qt,Rl,Gy] at he; rcases he with rfl <;> exact ⟨_,rfl⟩⟩):AppL (.l 1 eStr ([]:List Za)) (.l 1 eStr list) 1 (.l 1 eStr (([]:List Za)++list))) (ai (uu17:(([]:List Za)++list).length*16<=140737488355328) (fi80 list (([]:List Za)++list) rfl)))) uu3
theorem as80 (list:List Za):F80 list=(list):=by
 rfl
theorem oa80 (list:List Za):(S80 (list) list).ok Tryz.prog 80:=by
 intro hp; have h:=ok80 list hp; rw [as80 list] at h; exact h
theorem without_eq (lines:List Za) (k:Int) (h0:0<=k) (h1:k<(lines.length:Int)) (hl:lines.length<=1048576):F68 lines k=lines.take k.toNat++lines.drop (k.toNat+1):=by
 unfold F68
 rw [R0,show Int.toNat (k+1)=k.toNat+1 by omega]
theorem without_len (lines:List Za) (k:Int) (h0:0<=k) (h1:k<(lines.length:Int)) (hl:lines.length<=1048576):(F68 lines k).length+1=lines.length:=by
 rw [without_eq lines k h0 h1 hl,Qu,Rm,Tl]; omega
theorem without_mem {lines:List Za} {k:Int} {z:Za} (h:z∈F68 lines k):z∈lines:=by
 unfold F68 at h
 rw [R0] at h
 rcases Q4.1 h with h | h
 ·exact Ta h
 ·exact Gn h
theorem without_szN {lines:List Za} {n:Nat} (k:Int) (h:∀ q:Nat,(lines.getD q default).size<=n):∀ q:Nat,((F68 lines k).getD q default).size<=n:=getD_sz fun x hx=>mem_sz h (without_mem hx)
theorem without_sz (lines:List Za) (k:Int) (h:∀ q:Nat,(lines.getD q default).size<=1048576):∀ q:Nat,((F68 lines k).getD q default).size<=1048576:=without_szN k h
theorem put_szN {lines:List Za} {line:Za} {n:Nat} (h:∀ q:Nat,(lines.getD q default).size<=n) (hl:line.size<=n):∀ q:Nat,((F79 lines line).getD q default).size<=n:=getD_sz fun x hx=>by
 obtain ⟨k,_,e,_⟩:=put_eq lines line
 rw [e] at hx
 rcases Q4.1 hx with hx | hx
 ·exact mem_sz h (Ta hx)
 ·rcases Qt.1 hx with rfl | hx
  ·exact hl
  ·exact mem_sz h (Gn hx)
theorem pick_lt (b:List Int) (p n:Int) (h0:0<=p) (h1:p<=1000000000) (hn:1<=n):(F48 (⟨b,p⟩:l51Rd) n).1<n:=(pick_in (⟨b,p⟩:l51Rd) n h0 h1).2.1 hn
def CQ (xs:List Za):Prop:=F19 xs=0/\∀ q:Nat,(xs.getD q default).size<=900
def LQ (xs:List Za):Prop:=xs.length<=17/\∀ q:Nat,(xs.getD q default).size<=900
def LS (xs:List Za):Prop:=xs.length<=40/\∀ q:Nat,(xs.getD q default).size<=1000
theorem cq_len {xs:List Za} (h:CQ xs):xs.length<=16:=check_len xs h.1
theorem cq_sz {xs:List Za} (h:CQ xs):∀ q:Nat,(xs.getD q default).size<=1048576:=fun q=>Q0 (h.2 q) uu1
theorem lq_len {xs:List Za} (h:LQ xs):xs.length<=17:=h.1
theorem lq_sz {xs:List Za} (h:LQ xs):∀ q:Nat,(xs.getD q default).size<=1048576:=fun q=>Q0 (h.2 q) uu1
theorem ls_sz {xs:List Za} (h:LS xs):∀ q:Nat,(xs.getD q default).size<=1048576:=fun q=>Q0 (h.2 q) uu1
theorem cq_lq {xs:List Za} (h:CQ xs):LQ xs:=⟨Q0 (cq_len h) uu1,h.2⟩
theorem lq_ls {xs:List Za} (h:LQ xs):LS xs:=⟨Q0 h.1 uu1,fun q=>Q0 (h.2 q) uu1⟩
theorem without_lq {xs:List Za} {k:Int} (h:LQ xs) (h0:0<=k) (h1:k<(xs.length:Int)):LQ (F68 xs k) :=
 ⟨by have:=without_len xs k h0 h1 (Q0 h.1 uu1); have:=h.1; omega,without_szN k h.2⟩
theorem put_lq {xs:List Za} {line:Za} (h:LQ xs) (hl:(xs.length:Int)<17) (hz:line.size<=900):LQ (F79 xs line):=⟨by rw [put_len]; omega,put_szN h.2 hz⟩
theorem kc68l (lines:List Za) (k:Int) {K_:Prop} (p0_:0<=k) (p1_:k<(lines.length:Int)) (p2_:lines.length<=1048576) (q0_:0<=k) (q1_:k<(lines.length:Int)) (q2_:lines.length<=1048576) (q3_:∀ q:Nat,(lines.getD q default).size<=1048576) (k_:((F68 lines k).length+1=lines.length)->(∀ q:Nat,((F68 lines k).getD q default).size<=1048576)->K_):(0<=k/\k<(lines.length:Int)/\lines.length<=1048576)/\(Imp (.l 1 eStr lines) (.l 1 eStr lines))/\(Imp (.v (vI k)) (.v (vI k)))/\K_:=⟨⟨p0_,p1_,p2_⟩,Imp.refl _,Imp.refl _,k_ (without_len lines k q0_ q1_ q2_) (without_sz lines k q3_)⟩
abbrev kh68l (lines:List Za) (k:Int):Hint true Tryz.prog:=.call 68 (S68 lines k) (ok68 lines k) none
def F100 (lines:List Za) (line:Za):List Za :=
 bif (decide ((F99 lines (F14 line))>=0)) then (bif ((F19 (F79 (F68 lines (F99 lines (F14 line))) line))==0) then (F79 (F68 lines (F99 lines (F14 line))) line) else lines) else (bif ((F19 (F79 lines line))==0) then (F79 lines line) else lines)
theorem fi100 (lines:List Za) (line:Za) (r:List Za) (hF:r=(F100 lines line)):(Imp (.l 1 eStr r) (.l 1 eStr (F100 lines line)))/\True:=by cases hF; exact ⟨Imp.refl _,trivial⟩
def S100 (lines:List Za) (line:Za):Spec:=⟨[.ow (.l 1 eStr lines) none,.r (.c (.v (.string line)))],.ow (.l 1 eStr (F100 lines line)),CQ lines/\line.size<=900⟩
theorem ok100 (lines:List Za) (line:Za):(S100 lines line).ok Tryz.prog 100 :=
 fnG_ok mixed (fn:=Tryz.f100) (ct:=.seq .no (.seq .no (.seq (.reg [(2,kh14 line),(3,kh99 lines (F14 line))]) (.seqa 5 0 (.seq .no (.cond (.reg [(2,kh68l lines (F99 lines (F14 line)))]) .no)) (.seq (.reg [(2,kh79 lines line)]) (.seq (.seq (.reg [(1,kh19 (F79 lines line))]) (.cond (.seq .no .no) .no)) (.seq .no .no))) (.seq (.reg [(2,kh79 (F68 lines (F99 lines (F14 line))) line)]) (.seq (.seq (.reg [(1,kh19 (F79 (F68 lines (F99 lines (F14 line))) line))]) (.cond (.seq .no .no) .no)) (.seq .no .no))))))) Tryz.func100 (fun (hp:CQ lines/\line.size<=900)=>have hpre0:=hp.1; have hpre1:=hp.2; kc14 line uu12 (kc99 lines (F14 line) uu12 (ifd ((F99 lines (F14 line))>=0) (fun h1 _=>kc68l lines (F99 lines (F14 line)) uu12 uu12 uu12 uu12 uu12 uu12 uu12 (fun gv2 gv3=>kc79 (F68 lines (F99 lines (F14 line))) line uu12 uu12 uu12 uu12 (fun gv4 gv5=>kc19 (F79 (F68 lines (F99 lines (F14 line))) line) uu12 uu12 (ife (F19 (F79 (F68 lines (F99 lines (F14 line))) line)) 0 (fun h6 _=>fi100 lines line (F79 (F68 lines (F99 lines (F14 line))) line) (condT h1 (condT h6 rfl))) (fun h6 _=>fi100 lines line lines (condT h1 (condF h6 rfl))))))) (fun h1 _=>kc79 lines line uu12 uu12 uu12 uu12 (fun gv7 gv8=>kc19 (F79 lines line) uu12 uu12 (ife (F19 (F79 lines line)) 0 (fun h9 _=>fi100 lines line (F79 lines line) (condF h1 (condT h9 rfl))) (fun h9 _=>fi100 lines line lines (condF h1 (condF h9 rfl))))))))) uu3
theorem try_cq (lines:List Za) (line:Za) (h:CQ lines) (hz:line.size<=900):CQ (F100 lines line):=by
 have key:∀ xs:List Za,(∀ q:Nat,(xs.getD q default).size<=900)->CQ (bif (F19 xs==0) then xs else lines):=fun xs hx=>by
  cases hc:(F19 xs==0) with
  | true=>exact ⟨eq_of_beq hc,hx⟩
  | false=>exact h
 unfold F100
 cases decide (F99 lines (F14 line)>=0)
 ·exact key _ (put_szN h.2 hz)
 ·exact key _ (put_szN (without_szN _ h.2) hz)
abbrev Wj:List Za:=[Yh]
theorem cq_base:CQ Wj:=⟨by kernel_rfl,getD_sz uu1⟩
theorem kc100l (lines:List Za) (line:Za) {K_:Prop} (p0_:CQ lines) (p1_:line.size<=900) (q0_:CQ lines) (q1_:line.size<=900) (k_:(CQ (F100 lines line))->K_):(CQ lines/\line.size<=900)/\(Imp (.l 1 eStr lines) (.l 1 eStr lines))/\(Imp (.v (.string line)) (.v (.string line)))/\K_:=⟨⟨p0_,p1_⟩,Imp.refl _,Imp.refl _,k_ (try_cq lines line q0_ q1_)⟩
abbrev kh100l (lines:List Za) (line:Za):Hint true Tryz.prog:=.call 100 (S100 lines line) (ok100 lines line) none
theorem kc86l (X_:SV) (b_:List Int) (pp_:Int) {K_:Prop} (p0_:0<=pp_) (p1_:pp_<=900000000) (p2_:b_.length<=2000) (q0_:0<=pp_) (q1_:pp_<=900000000) (k_:((F86 ⟨b_,pp_⟩).1.size<=900/\pp_<=(F86 ⟨b_,pp_⟩).2/\(F86 ⟨b_,pp_⟩).2<=pp_+9)->K_):(0<=pp_/\pp_<=900000000/\b_.length<=2000)/\(sv X_=sv X_)/\(Imp (.l 1 eByte b_) (.l 1 eByte b_))/\(Imps ([.v (vI pp_)]) ([.v (vI pp_)]))/\K_:=⟨⟨p0_,p1_,p2_⟩,rfl,Imp.refl _,Imps.refl _,k_ (dline_q (⟨b_,pp_⟩:l51Rd) q0_ q1_)⟩
abbrev kh86l (X_:SV) (g_:Nat) (b_:List Int) (pp_:Int):Hint true Tryz.prog:=.call 86 (S86 X_ g_ (⟨b_,pp_⟩:l51Rd)) (ok86 X_ g_ (⟨b_,pp_⟩:l51Rd)) none
abbrev w75_:Za:=⟨#[112,111,114,116,32,48,32,49,48,46,48,47,56]⟩
abbrev w77_:Za:=⟨#[117,115,101,114,32,98,111,98,32]⟩
abbrev w78_:Za:=⟨#[110,97,116,32,49,48,46,48,47,57,32,50,48,48,46,49,32,52,48,32,52,51]⟩
def F51_j0 (r1:l51Rd):Lp (List Za) (List Za×Int) :=
 bif (decide ((F48 ⟨r1.b,r1.p⟩ 3).1>0)) then (.done (F100 Wj ⟨#[112,111,114,116,32,48,32,49,48,46,48,47,56]⟩)) else (.done Wj)
abbrev Wb:List Za:=[Y6,Zr,Zu,Ze]
def F51_j1 (r1:l51Rd) (out:List Za):Lp (List Za×Int) (List Za×Int) :=
 bif (decide ((F48 ⟨r1.b,(F48 ⟨r1.b,r1.p⟩ 3).2⟩ 3).1>0)) then (.done ((F100 out ((⟨#[117,115,101,114,32,98,111,98,32]⟩:Za)++(F67 ⟨r1.b,(F48 ⟨r1.b,(F48 ⟨r1.b,r1.p⟩ 3).2⟩ 3).2⟩ Wb).1)),(F67 ⟨r1.b,(F48 ⟨r1.b,(F48 ⟨r1.b,r1.p⟩ 3).2⟩ 3).2⟩ Wb).2)) else (.done (out,(F48 ⟨r1.b,(F48 ⟨r1.b,r1.p⟩ 3).2⟩ 3).2))
def F51_j2 (r1:l51Rd) (out:List Za) (out1:List Za) (r2:Int):Lp (List Za) (List Za×Int) :=
 bif ((F48 ⟨r1.b,r2⟩ 3).1==0) then (.done (F100 out1 ⟨#[110,97,116,32,49,48,46,48,47,57,32,50,48,48,46,49,32,52,48,32,52,51]⟩)) else (.done out1)
def F51_j3 (r1:l51Rd) (out:List Za) (out1:List Za) (r2:Int) (out2:List Za):Lp Int (List Za×Int) :=
 bif ((F48 ⟨r1.b,(F48 ⟨r1.b,(F48 ⟨r1.b,r2⟩ 3).2⟩ 7).2⟩ 9).1==0) then (.done 40) else (.done (F48 ⟨r1.b,(F48 ⟨r1.b,r2⟩ 3).2⟩ 7).1)
def F51_s0 (r1:l51Rd) (out:List Za) (out1:List Za) (r2:Int) (out2:List Za) (n:Int):(List Za×Int×Int)->Lp (List Za×Int×Int) (List Za×Int):=fun (out3,n1,r3) =>
 bif (decide (n1>0)) then (.next ((F100 out3 (F86 ⟨r1.b,r3⟩).1),(n1-1),(F86 ⟨r1.b,r3⟩).2)) else (.done (out3,n1,r3))
def F51 (r1:l51Rd):List Za×Int :=
 (F51_j0 r1).fin (fun r=>r) (fun out=>(F51_j1 r1 out).fin (fun r=>r) (fun (out1,r2)=>(F51_j2 r1 out out1 r2).fin (fun r=>r) (fun out2=>(F51_j3 r1 out out1 r2 out2).fin (fun r=>r) (fun n=>(runL (F51_s0 r1 out out1 r2 out2 n) ((Int.toNat (n-0))+1) (out2,n,(F48 ⟨r1.b,(F48 ⟨r1.b,(F48 ⟨r1.b,r2⟩ 3).2⟩ 7).2⟩ 9).2)).fin (fun r=>r) (fun (out3,n1,r3)=>(out3,r3))))))
abbrev jI51_0 (r1X:SV) (r1:l51Rd) (out:List Za):Prop:=CQ out/\(F48 ⟨r1.b,r1.p⟩ 3).2=r1.p+1
abbrev jJ51_0 (r1X:SV) (r1:l51Rd) (j:List Za):Prop:=(F51_j0 r1)=Lp.done j/\jI51_0 r1X r1 j
theorem jn51_0 (r1X:SV) (r1:l51Rd) (out:List Za) (e:(F51_j0 r1)=Lp.done out) (h:jI51_0 r1X r1 out):∃ j:List Za,((.int .i64 (F48 ⟨r1.b,r1.p⟩ 3).2:Value)=.int .i64 (F48 ⟨r1.b,r1.p⟩ 3).2)/\((sv r1X:Value)=sv r1X)/\(Imp (.l 1 eByte r1.b) (.l 1 eByte r1.b))/\(Imp (.l 1 eStr out) (.l 1 eStr j))/\jJ51_0 r1X r1 j:=⟨out,rfl,rfl,Imp.refl _,Imp.refl _,e,h⟩
abbrev jI51_1 (r1X:SV) (r1:l51Rd) (out:List Za) (out1:List Za) (r2:Int):Prop:=CQ out1/\0<=r2/\r2<=r1.p+3
abbrev jJ51_1 (r1X:SV) (r1:l51Rd) (out:List Za) (j:List Za×Int):Prop:=(F51_j1 r1 out)=Lp.done j/\jI51_1 r1X r1 out j.1 j.2
theorem jn51_1 (r1X:SV) (r1:l51Rd) (out:List Za) (out1:List Za) (r2:Int) (e:(F51_j1 r1 out)=Lp.done (out1,r2)) (h:jI51_1 r1X r1 out out1 r2):∃ j:List Za×Int,((.int .i64 r2:Value)=.int .i64 j.2)/\((sv r1X:Value)=sv r1X)/\(Imp (.l 1 eByte r1.b) (.l 1 eByte r1.b))/\(Imp (.l 1 eStr out1) (.l 1 eStr j.1))/\jJ51_1 r1X r1 out j:=⟨(out1,r2),rfl,rfl,Imp.refl _,Imp.refl _,e,h⟩
abbrev jI51_2 (r1X:SV) (r1:l51Rd) (out:List Za) (out1:List Za) (r2:Int) (out2:List Za):Prop:=CQ out2/\(F48 ⟨r1.b,r2⟩ 3).2=r2+1
abbrev jJ51_2 (r1X:SV) (r1:l51Rd) (out:List Za) (out1:List Za) (r2:Int) (j:List Za):Prop:=(F51_j2 r1 out out1 r2)=Lp.done j/\jI51_2 r1X r1 out out1 r2 j
theorem jn51_2 (r1X:SV) (r1:l51Rd) (out:List Za) (out1:List Za) (r2:Int) (out2:List Za) (e:(F51_j2 r1 out out1 r2)=Lp.done out2) (h:jI51_2 r1X r1 out out1 r2 out2):∃ j:List Za,((.int .i64 (F48 ⟨r1.b,r2⟩ 3).2:Value)=.int .i64 (F48 ⟨r1.b,r2⟩ 3).2)/\((sv r1X:Value)=sv r1X)/\(Imp (.l 1 eByte r1.b) (.l 1 eByte r1.b))/\(Imp (.l 1 eStr out2) (.l 1 eStr j))/\jJ51_2 r1X r1 out out1 r2 j:=⟨out2,rfl,rfl,Imp.refl _,Imp.refl _,e,h⟩
abbrev jI51_3 (r1X:SV) (r1:l51Rd) (out:List Za) (out1:List Za) (r2:Int) (out2:List Za) (n:Int):Prop:=0<=n/\n<=40/\(F48 ⟨r1.b,(F48 ⟨r1.b,(F48 ⟨r1.b,r2⟩ 3).2⟩ 7).2⟩ 9).2=r2+3
abbrev jJ51_3 (r1X:SV) (r1:l51Rd) (out:List Za) (out1:List Za) (r2:Int) (out2:List Za) (j:Int):Prop:=(F51_j3 r1 out out1 r2 out2)=Lp.done j/\jI51_3 r1X r1 out out1 r2 out2 j
theorem jn51_3 (r1X:SV) (r1:l51Rd) (out:List Za) (out1:List Za) (r2:Int) (out2:List Za) (n:Int) (e:(F51_j3 r1 out out1 r2 out2)=Lp.done n) (h:jI51_3 r1X r1 out out1 r2 out2 n):∃ j:Int,((.int .i64 n:Value)=.int .i64 j)/\((.int .i64 (F48 ⟨r1.b,(F48 ⟨r1.b,(F48 ⟨r1.b,r2⟩ 3).2⟩ 7).2⟩ 9).2:Value)=.int .i64 (F48 ⟨r1.b,(F48 ⟨r1.b,(F48 ⟨r1.b,r2⟩ 3).2⟩ 7).2⟩ 9).2)/\((sv r1X:Value)=sv r1X)/\(Imp (.l 1 eByte r1.b) (.l 1 eByte r1.b))/\(Imp (.l 1 eStr out2) (.l 1 eStr out2))/\jJ51_3 r1X r1 out out1 r2 out2 j:=⟨n,rfl,rfl,rfl,Imp.refl _,Imp.refl _,e,h⟩
abbrev lN51_0 (r1:l51Rd) (r2:Int) (out2:List Za) (n:Int):Nat×(List Za×Int×Int):=(((Int.toNat (n-0))+1),(out2,n,(F48 ⟨r1.b,(F48 ⟨r1.b,(F48 ⟨r1.b,r2⟩ 3).2⟩ 7).2⟩ 9).2))
abbrev lI51_0 (r1:l51Rd) (m39:Nat) (out3:List Za) (n1:Int) (r3:Int):Prop:=Int.toNat (n1-0)<m39/\CQ out3/\0<=r3/\r3+9*n1<=r1.p+380/\n1<=40
abbrev lX51_0 (r1:l51Rd) (out:List Za) (out1:List Za) (r2:Int) (out2:List Za) (n:Int):Lp (List Za×Int×Int) (List Za×Int):=LpX (F51_s0 r1 out out1 r2 out2 n) (lN51_0 r1 r2 out2 n)
abbrev lJ51_0 (r1:l51Rd) (out:List Za) (out1:List Za) (r2:Int) (out2:List Za) (n:Int) (i:Nat×(List Za×Int×Int)):Prop:=LpJ (F51_s0 r1 out out1 r2 out2 n) (lN51_0 r1 r2 out2 n) i (lI51_0 r1 i.1 i.2.1 i.2.2.1 i.2.2.2)
abbrev lH51_0 (r1:l51Rd) (out:List Za) (out1:List Za) (r2:Int) (out2:List Za) (n:Int) (i:Nat×(List Za×Int×Int)) (m39:Nat) (out3:List Za) (n1:Int) (r3:Int):Prop:=LpH (F51_s0 r1 out out1 r2 out2 n) (lN51_0 r1 r2 out2 n) i m39 (out3,n1,r3) (lI51_0 r1 (m39+1) out3 n1 r3)
abbrev lE51_0 (r1X:SV) (r1:l51Rd) (out3:List Za) (n1:Int) (r3:Int) (out3_:List Za) (n1_:Int) (r3_:Int) (K39:Prop):Prop:=((.int .i64 n1:Value)=.int .i64 n1_)/\((.int .i64 r3:Value)=.int .i64 r3_)/\(Rf (sv r1X))/\(Im (.l 1 eByte r1.b))/\(Imp (.l 1 eStr out3) (.l 1 eStr out3_))/\K39
theorem un51_0 (r1:l51Rd) (out:List Za) (out1:List Za) (r2:Int) (out2:List Za) (n:Int) (i:Nat×(List Za×Int×Int)) (h:lJ51_0 r1 out out1 r2 out2 n i):lH51_0 r1 out out1 r2 out2 n i (i.1-1) i.2.1 i.2.2.1 i.2.2.2:=⟨hd1 h.1 h.2.1,hd3 h.2.1,hd2 h.2.1,h.2.2⟩
theorem bk51_0 (r1X:SV) (r1:l51Rd) (out:List Za) (out1:List Za) (r2:Int) (out2:List Za) (n:Int) (i:Nat×(List Za×Int×Int)) (m39:Nat) (out3:List Za) (n1:Int) (r3:Int) (hl:m39<i.1) (e:runL (F51_s0 r1 out out1 r2 out2 n) m39 (out3,n1,r3)=lX51_0 r1 out out1 r2 out2 n) (h:lI51_0 r1 m39 out3 n1 r3):∃ j:Nat×(List Za×Int×Int),lE51_0 r1X r1 out3 n1 r3 j.2.1 j.2.2.1 j.2.2.2 (lJ51_0 r1 out out1 r2 out2 n j/\j.1<i.1):=⟨(m39,(out3,n1,r3)),rfl,rfl,rfl,Imp.refl _,Imp.refl _,⟨e,h⟩,hl⟩
theorem en51_0 (r1X:SV) (r1:l51Rd) (out:List Za) (out1:List Za) (r2:Int) (out2:List Za) (n:Int) (h:CQ out2/\0<=(F48 ⟨r1.b,(F48 ⟨r1.b,(F48 ⟨r1.b,r2⟩ 3).2⟩ 7).2⟩ 9).2/\(F48 ⟨r1.b,(F48 ⟨r1.b,(F48 ⟨r1.b,r2⟩ 3).2⟩ 7).2⟩ 9).2+9*n<=r1.p+380/\n<=40):lE51_0 r1X r1 out2 n (F48 ⟨r1.b,(F48 ⟨r1.b,(F48 ⟨r1.b,r2⟩ 3).2⟩ 7).2⟩ 9).2 out2 n (F48 ⟨r1.b,(F48 ⟨r1.b,(F48 ⟨r1.b,r2⟩ 3).2⟩ 7).2⟩ 9).2 (lJ51_0 r1 out out1 r2 out2 n (lN51_0 r1 r2 out2 n)):=⟨rfl,rfl,rfl,Imp.refl _,Imp.refl _,rfl,Qr _,h⟩
def S51 (r1X:SV) (gr1:Nat) (r1:l51Rd):Spec:=⟨[.ptg gr1 86 (sv r1X) (.l 1 eByte r1.b) [.v (vI r1.p)] [.v (vI (F51 r1).2)]],.ow (.l 1 eStr (F51 r1).1),0<=r1.p/\r1.p<=800000000/\r1.b.length<=2000⟩
theorem ok51 (r1X:SV) (gr1:Nat) (r1:l51Rd):(S51 r1X gr1 r1).ok Tryz.prog 51 :=
 fnG_ok mixed (fn:=Tryz.f51) (ct:=.seqk [(0,0)] .no (.seq (.reg [(0,.dat (.l 1 eStr Wj))]) (.cut (ι:=List Za) (fun j=>(fun (out:List Za)=>(⟨[(0,some (.p 0 0)),(3,some (.h 2 0))],[(0,some (.box 86 [.h 1 0,.v (vI (F48 ⟨r1.b,r1.p⟩ 3).2)])),(1,some (.vl (sv r1X) (.l 1 eByte r1.b))),(2,some (.own 2 (.l 1 eStr out)))],3⟩:St)) j) (jJ51_0 r1X r1) (.seq (.reg [(1,kh48l r1X 0 r1.b r1.p 3)]) (.cond (.reg [(1,kh100l Wj w75_)]) .no)) (fun j=>(fun (out:List Za)=>(.cut (ι:=List Za×Int) (fun j=>(fun (out1:List Za) (r2:Int)=>(⟨[(0,some (.p 0 0)),(3,some (.h 2 0))],[(0,some (.box 86 [.h 1 0,.v (vI r2)])),(1,some (.vl (sv r1X) (.l 1 eByte r1.b))),(2,some (.own 2 (.l 1 eStr out1)))],3⟩:St)) j.1 j.2) (jJ51_1 r1X r1 out) (.seq (.reg [(1,kh48l r1X 1 r1.b (F48 ⟨r1.b,r1.p⟩ 3).2 3)]) (.cond (.reg [(2,.dat (.l 1 eStr Wb)),(3,kh67l r1X 1 r1.b (F48 ⟨r1.b,(F48 ⟨r1.b,r1.p⟩ 3).2⟩ 3).2 Wb),(5,.call 100 (S100 out (w77_++(F67 ⟨r1.b,(F48 ⟨r1.b,(F48 ⟨r1.b,r1.p⟩ 3).2⟩ 3).2⟩ Wb).1)) (ok100 out (w77_++(F67 ⟨r1.b,(F48 ⟨r1.b,(F48 ⟨r1.b,r1.p⟩ 3).2⟩ 3).2⟩ Wb).1)) none)]) .no)) (fun j=>(fun (out1:List Za) (r2:Int)=>(.cut (ι:=List Za) (fun j=>(fun (out2:List Za)=>(⟨[(0,some (.p 0 0)),(3,some (.h 2 0))],[(0,some (.box 86 [.h 1 0,.v (vI (F48 ⟨r1.b,r2⟩ 3).2)])),(1,some (.vl (sv r1X) (.l 1 eByte r1.b))),(2,some (.own 2 (.l 1 eStr out2)))],3⟩:St)) j) (jJ51_2 r1X r1 out out1 r2) (.seq (.reg [(1,kh48l r1X 1 r1.b r2 3)]) (.cond (.reg [(1,kh100l out1 w78_)]) .no)) (fun j=>(fun (out2:List Za)=>(.seq (.reg [(1,kh48l r1X 1 r1.b (F48 ⟨r1.b,r2⟩ 3).2 7)]) (.cut (ι:=Int) (fun j=>(fun (n:Int)=>(⟨[(0,some (.p 0 0)),(3,some (.h 2 0)),(4,some (.v (vI n)))],[(0,some (.box 86 [.h 1 0,.v (vI (F48 ⟨r1.b,(F48 ⟨r1.b,(F48 ⟨r1.b,r2⟩ 3).2⟩ 7).2⟩ 9).2)])),(1,some (.vl (sv r1X) (.l 1 eByte r1.b))),(2,some (.own 2 (.l 1 eStr out2)))],3⟩:St)) j) (jJ51_3 r1X r1 out out1 r2 out2) (.seq (.reg [(1,kh48l r1X 1 r1.b (F48 ⟨r1.b,(F48 ⟨r1.b,r2⟩ 3).2⟩ 7).2 9)]) (.cond .no .no)) (fun j=>(fun (n:Int)=>(.seq (.blk (.loop (ι:=Nat×(List Za×Int×Int)) (fun i=>(fun (out3:List Za) (n1:Int) (r3:Int)=>(⟨[(0,some (.p 0 0)),(3,some (.h 2 0)),(4,some (.v (vI n1)))],[(0,some (.box 86 [.h 1 0,.v (vI r3)])),(1,some (.vl (sv r1X) (.l 1 eByte r1.b))),(2,some (.own 2 (.l 1 eStr out3)))],3⟩:St)) i.2.1 i.2.2.1 i.2.2.2) (lJ51_0 r1 out out1 r2 out2 n) (fun i=>i.1) (lN51_0 r1 r2 out2 n) (fun i=>(fun (out3:List Za) (n1:Int) (r3:Int)=>(.seq (.seq .no (.cond .no .no)) (.seq (.blk (.reg [(2,kh86l r1X 1 r1.b r3),(3,.call 100 (S100 out3 (F86 ⟨r1.b,r3⟩).1) (ok100 out3 (F86 ⟨r1.b,r3⟩).1) none)])) (.reg [(1,.bnd)])))) i.2.1 i.2.2.1 i.2.2.2))) (.seq .no .no))) j)))) j))) j.1 j.2))) j)))) Tryz.func51 (fun (hp:0<=r1.p/\r1.p<=800000000/\r1.b.length<=2000)=>have hpre0:=hp.1; have hpre1:=hp.2.1; have hpre2:=hp.2.2; kn r1.b fun _=>ai (bokr 1 eStr Wj fun _=>rfl) (ai (kc48l r1X r1.b r1.p 3 uu0 uu0 uu0 uu0 uu0 (fun gv1=>have gv2:(F48 ⟨r1.b,r1.p⟩ 3).1<(3:Int):=uu22; ifd ((F48 ⟨r1.b,r1.p⟩ 3).1>0) (fun h3 _=>kc100l Wj w75_ (by exact cq_base) uu50 (by exact cq_base) uu50 (fun gv4=>jn51_0 r1X r1 (F100 Wj w75_) (S5 (condT h3 rfl)) uu6)) (fun h3 _=>jn51_0 r1X r1 Wj (S5 (condF h3 rfl)) (by refine ⟨?_,?_⟩ <;> first | omega | (simp only [lens,ib] at*<;> omega) | assumption | exact cq_base | omega)))) (fun (j:List Za) (hj:jJ51_0 r1X r1 j)=>(fun (out:List Za) (hJ0_5:(F51_j0 r1)=Lp.done out) (hw:jI51_0 r1X r1 out)=>have _:=hw.1; have _:=hw.2; ai (kc48l r1X r1.b (F48 ⟨r1.b,r1.p⟩ 3).2 3 uu0 uu0 uu0 uu0 uu0 (fun gv6=>have gv7:(F48 ⟨r1.b,(F48 ⟨r1.b,r1.p⟩ 3).2⟩ 3).1<(3:Int):=uu22; ifd ((F48 ⟨r1.b,(F48 ⟨r1.b,r1.p⟩ 3).2⟩ 3).1>0) (fun h8 _=>ai (bokr 1 eStr Wb fun _=>rfl) (kc67l r1X r1.b (F48 ⟨r1.b,(F48 ⟨r1.b,r1.p⟩ 3).2⟩ 3).2 Wb uu0 uu0 uu0 uu1 uu1 uu0 uu0 uu1 (fun gv9=>ai (by (apply sumLe; (· repeat (first | (exact (by assumption:tail.size<=100)) | apply app_le | exact of_le (n:=80) _ _ (by decide) | exact prefix_le _ | exact addr_le _ | exact lit_le _)); (· repeat (first | (exact (by assumption:tail.size<=100)) | apply app_le | exact of_le (n:=80) _ _ (by decide) | exact prefix_le _ | exact addr_le _ | exact lit_le _)); decide):((w77_.size+(F67 ⟨r1.b,(F48 ⟨r1.b,(F48 ⟨r1.b,r1.p⟩ 3).2⟩ 3).2⟩ Wb).1.size:Nat):Int)<=9223372036854775807) (ai (ai (uu9:CQ out) (uu80:(w77_++(F67 ⟨r1.b,(F48 ⟨r1.b,(F48 ⟨r1.b,r1.p⟩ 3).2⟩ 3).2⟩ Wb).1).size<=900)) (ai (Imp.refl (.l 1 eStr out)) (ai (Imp.refl (.v (.string (w77_++(F67 ⟨r1.b,(F48 ⟨r1.b,(F48 ⟨r1.b,r1.p⟩ 3).2⟩ 3).2⟩ Wb).1)))) (have gv10:CQ (F100 out (w77_++(F67 ⟨r1.b,(F48 ⟨r1.b,(F48 ⟨r1.b,r1.p⟩ 3).2⟩ 3).2⟩ Wb).1)):=try_cq out (w77_++(F67 ⟨r1.b,(F48 ⟨r1.b,(F48 ⟨r1.b,r1.p⟩ 3).2⟩ 3).2⟩ Wb).1) (uu9:CQ out) (uu80:(w77_++(F67 ⟨r1.b,(F48 ⟨r1.b,(F48 ⟨r1.b,r1.p⟩ 3).2⟩ 3).2⟩ Wb).1).size<=900); jn51_1 r1X r1 out (F100 out (w77_++(F67 ⟨r1.b,(F48 ⟨r1.b,(F48 ⟨r1.b,r1.p⟩ 3).2⟩ 3).2⟩ Wb).1)) (F67 ⟨r1.b,(F48 ⟨r1.b,(F48 ⟨r1.b,r1.p⟩ 3).2⟩ 3).2⟩ Wb).2 (S5 (condT h8 rfl)) uu34))))))) (fun h8 _=>jn51_1 r1X r1 out out (F48 ⟨r1.b,(F48 ⟨r1.b,r1.p⟩ 3).2⟩ 3).2 (S5 (condF h8 rfl)) uu34))) (fun (j:List Za×Int) (hj:jJ51_1 r1X r1 out j)=>(fun (out1:List Za) (r2:Int) (hJ1_11:(F51_j1 r1 out)=Lp.done (out1,r2)) (hw:jI51_1 r1X r1 out out1 r2)=>have _:=hw.1; have _:=hw.2.1; have _:=hw.2.2; ai (kc48l r1X r1.b r2 3 uu0 uu0 uu0 uu0 uu0 (fun gv12=>have gv13:(F48 ⟨r1.b,r2⟩ 3).1<(3:Int):=uu22; ife (F48 ⟨r1.b,r2⟩ 3).1 0 (fun h14 _=>kc100l out1 w78_ uu9 uu50 uu9 uu50 (fun gv15=>jn51_2 r1X r1 out out1 r2 (F100 out1 w78_) (S5 (condT h14 rfl)) uu6)) (fun h14 _=>jn51_2 r1X r1 out out1 r2 out1 (S5 (condF h14 rfl)) uu6))) (fun (j:List Za) (hj:jJ51_2 r1X r1 out out1 r2 j)=>(fun (out2:List Za) (hJ2_16:(F51_j2 r1 out out1 r2)=Lp.done out2) (hw:jI51_2 r1X r1 out out1 r2 out2)=>have _:=hw.1; have _:=hw.2; kc48l r1X r1.b (F48 ⟨r1.b,r2⟩ 3).2 7 uu0 uu0 uu0 uu0 uu0 (fun gv17=>have gv18:(F48 ⟨r1.b,(F48 ⟨r1.b,r2⟩ 3).2⟩ 7).1<(7:Int):=uu22; ai (kc48l r1X r1.b (F48 ⟨r1.b,(F48 ⟨r1.b,r2⟩ 3).2⟩ 7).2 9 uu0 uu0 uu0 uu0 uu0 (fun gv19=>have gv20:(F48 ⟨r1.b,(F48 ⟨r1.b,(F48 ⟨r1.b,r2⟩ 3).2⟩ 7).2⟩ 9).1<(9:Int):=uu22; ife (F48 ⟨r1.b,(F48 ⟨r1.b,(F48 ⟨r1.b,r2⟩ 3).2⟩ 7).2⟩ 9).1 0 (fun h21 _=>jn51_3 r1X r1 out out1 r2 out2 40 (S5 (condT h21 rfl)) uu34) (fun h21 _=>jn51_3 r1X r1 out out1 r2 out2 (F48 ⟨r1.b,(F48 ⟨r1.b,r2⟩ 3).2⟩ 7).1 (S5 (condF h21 rfl)) uu34))) (fun (j:Int) (hj:jJ51_3 r1X r1 out out1 r2 out2 j)=>(fun (n:Int) (hJ3_22:(F51_j3 r1 out out1 r2 out2)=Lp.done n) (hw:jI51_3 r1X r1 out out1 r2 out2 n)=>have _:=hw.1; have _:=hw.2.1; have _:=hw.2.2; ai (en51_0 r1X r1 out out1 r2 out2 n uu39) (fun (i0:Nat×(List Za×Int×Int)) (hi0:lJ51_0 r1 out out1 r2 out2 n i0)=>(fun (m0:Nat) (out3:List Za) (n1:Int) (r3:Int) (hh0:lH51_0 r1 out out1 r2 out2 n i0 m0 out3 n1 r3)=>have hI0:=hh0.1; have hl0:=hh0.2.1; have _:=hh0.2.2.1; have _:=hh0.2.2.2.1; have _:=hh0.2.2.2.2.1; have _:=hh0.2.2.2.2.2.1; have _:=hh0.2.2.2.2.2.2; ifd (n1>0) (fun h24 _=>kc86l r1X r1.b r3 uu0 uu0 uu0 uu0 uu0 (fun gv25=>ai (ai (uu9:CQ out3) (uu0:(F86 ⟨r1.b,r3⟩).1.size<=900)) (ai (Imp.refl (.l 1 eStr out3)) (ai (Imp.refl (.v (.string (F86 ⟨r1.b,r3⟩).1))) (have gv26:CQ (F100 out3 (F86 ⟨r1.b,r3⟩).1):=try_cq out3 (F86 ⟨r1.b,r3⟩).1 (uu9:CQ out3) (uu0:(F86 ⟨r1.b,r3⟩).1.size<=900); ai (iok (n1-1) uu0) (bk51_0 r1X r1 out out1 r2 out2 n i0 m0 (F100 out3 (F86 ⟨r1.b,r3⟩).1) (n1-1) (F86 ⟨r1.b,r3⟩).2 hl0 (runL_next hI0 (condT h24 rfl)) uu27)))))) (fun h24 _=>have hD0_27:lX51_0 r1 out out1 r2 out2 n=Lp.done (out3,n1,r3):=runL_done hI0 (condF h24 rfl); (fun hF:(out3,r3)=(F51 r1)=>ai (Imp.of_eq (Qh (fun r:List Za×Int=>Dat.l 1 eStr r.1) hF)) (ai (ai (Imp.refl (Dat.v (sv r1X))) (ai (Imp.of_eq (Qh (fun r:List Za×Int=>Dat.v (vI r.2)) hF)) trivial)) trivial)) (finD hJ0_5 (finD hJ1_11 (finD hJ2_16 (finD hJ3_22 (finD hD0_27 rfl))))))) (i0.1-1) i0.2.1 i0.2.2.1 i0.2.2.2 (un51_0 r1 out out1 r2 out2 n i0 hi0))) j hj.1 hj.2))) j hj.1 hj.2)) j.1 j.2 hj.1 hj.2)) j hj.1 hj.2))) uu3
theorem conf_loop (r1:l51Rd) (out out1:List Za) (r2:Int) (out2:List Za) (n:Int) (N:Nat) (xs:List Za) (r:Int) (h:CQ xs):∃ ys r',runL (F51_s0 r1 out out1 r2 out2 n) (Int.toNat ((N:Int)-0)+1) (xs,(N:Int),r)=.done (ys,0,r')/\CQ ys/\r<=r'/\r'<=r+9*N:=by
 have h:=runL_rule (step:=F51_s0 r1 out out1 r2 out2 n) (fun (k:Nat) (s:List Za×Int)=>(s.1,((N:Int)-(k:Int)),s.2)) N (fun k s=>CQ s.1/\r<=s.2/\s.2<=r+9*k) (fun _=>False)
  (fun k s hk hs=>.inl ⟨(F100 s.1 (F86 (⟨r1.b,s.2⟩:l51Rd)).1,(F86 (⟨r1.b,s.2⟩:l51Rd)).2),by
   simp only [F51_s0]
   rw [Qs (show (N:Int)-(k:Int)>0 by omega),Qc,show (N:Int)-((k+1:Nat):Int)=(N:Int)-(k:Int)-1 by omega],by
   obtain ⟨h1,h2,h3⟩:=dline_all (⟨r1.b,s.2⟩:l51Rd)
   have h2:s.2<=(F86 (⟨r1.b,s.2⟩:l51Rd)).2:=h2
   have h3:(F86 (⟨r1.b,s.2⟩:l51Rd)).2<=s.2+9:=h3
   exact ⟨try_cq _ _ hs.1 h1,by have:=hs.2.1; show r<=(F86 (⟨r1.b,s.2⟩:l51Rd)).2; omega,by have:=hs.2.2; show (F86 (⟨r1.b,s.2⟩:l51Rd)).2<=r+9*((k+1:Nat):Int); omega⟩⟩)
  (fun s hs=>by
   simp only [F51_s0]
   rw [Qq uu0,Qb]) N 0 (xs,r) uu0 ⟨h,by show r<=r; omega,by show r<=r+9*((0:Nat):Int); omega⟩ (Int.toNat ((N:Int)-0)+1) uu0
 rcases h with ⟨s',e1,h1,h2,h3⟩ | ⟨_,_,hr⟩
 ·refine ⟨s'.1,s'.2,?_,h1,h2,h3⟩
  rw [show (N:Int)-((0:Nat):Int)=(N:Int) by omega,show (N:Int)-(N:Int)=0 by omega] at e1
  exact e1
 ·exact hr.elim
theorem conf_j0 (r1:l51Rd):∃ out,F51_j0 r1=Lp.done out/\CQ out:=by
 unfold F51_j0
 cases decide ((F48 (⟨r1.b,r1.p⟩:l51Rd) 3).1>0)
 ·exact ⟨_,rfl,cq_base⟩
 ·exact ⟨_,rfl,try_cq _ _ cq_base (szLe (lit_le _) uu1)⟩
theorem conf_j1 (r1:l51Rd) (out:List Za) (h:CQ out):∃ out1 r2,F51_j1 r1 out=Lp.done (out1,r2)/\CQ out1/\r1.p<=r2/\r2<=r1.p+3:=by
 unfold F51_j1
 cases decide ((F48 (⟨r1.b,(F48 (⟨r1.b,r1.p⟩:l51Rd) 3).2⟩:l51Rd) 3).1>0)
 ·refine ⟨_,_,rfl,h,?_,?_⟩ <;> (simp only [pick_p]; omega)
 ·refine ⟨_,_,rfl,try_cq _ _ h (szLe (app_le (lit_le _) (of_le (n:=80) _ _ uu1)) uu1),?_,?_⟩ <;> (simp only [of_p,pick_p]; omega)
theorem conf_j2 (r1:l51Rd) (out out1:List Za) (r2:Int) (h:CQ out1):∃ out2,F51_j2 r1 out out1 r2=Lp.done out2/\CQ out2:=by
 unfold F51_j2
 cases ((F48 (⟨r1.b,r2⟩:l51Rd) 3).1==0)
 ·exact ⟨_,rfl,h⟩
 ·exact ⟨_,rfl,try_cq _ _ h (szLe (lit_le _) uu1)⟩
theorem conf_j3 (r1:l51Rd) (out out1:List Za) (r2:Int) (out2:List Za) (h0:0<=r2) (h1:r2<=900000000):∃ N:Nat,F51_j3 r1 out out1 r2 out2=Lp.done (N:Int)/\N<=40:=by
 unfold F51_j3
 cases ((F48 (⟨r1.b,(F48 (⟨r1.b,(F48 (⟨r1.b,r2⟩:l51Rd) 3).2⟩:l51Rd) 7).2⟩:l51Rd) 9).1==0)
 ·obtain ⟨k1,k2,k3⟩:=pick_in (⟨r1.b,(F48 (⟨r1.b,r2⟩:l51Rd) 3).2⟩:l51Rd) 7 uu19 uu19
  have k2:=k2 uu1
  refine ⟨((F48 (⟨r1.b,(F48 (⟨r1.b,r2⟩:l51Rd) 3).2⟩:l51Rd) 7).1).toNat,?_,by omega⟩
  rw [Int.toNat_of_nonneg k1]; rfl
 ·exact ⟨40,rfl,Qn _⟩
theorem conf_q (r1:l51Rd) (h0:0<=r1.p) (h1:r1.p<=800000000):CQ (F51 r1).1/\0<=(F51 r1).2/\(F51 r1).2<=r1.p+400:=by
 obtain ⟨out,e0,c0⟩:=conf_j0 r1
 obtain ⟨out1,r2,e1,c1,p1,p2⟩:=conf_j1 r1 out c0
 obtain ⟨out2,e2,c2⟩:=conf_j2 r1 out out1 r2 c1
 obtain ⟨N,e3,hN⟩:=conf_j3 r1 out out1 r2 out2 uu0 uu0
 obtain ⟨ys,r',e4,c4,p3,p4⟩:=conf_loop r1 out out1 r2 out2 (N:Int) N out2 (F48 (⟨r1.b,(F48 (⟨r1.b,(F48 (⟨r1.b,r2⟩:l51Rd) 3).2⟩:l51Rd) 7).2⟩:l51Rd) 9).2 c2
 unfold F51
 rw [e0]
 simp only [Lp.fin]
 rw [e1]
 simp only [Lp.fin]
 rw [e2]
 simp only [Lp.fin]
 rw [e3]
 simp only [Lp.fin]
 rw [e4]
 simp only [pick_p] at p3 p4
 refine ⟨c4,?_,?_⟩
 ·show 0<=r'; omega
 ·show r'<=r1.p+400; omega
end Go.Proofs.YtabmhncnckahfaaGreatDoor
