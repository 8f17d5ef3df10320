/- A part of the proof of FnExactTernPortOf. Texts put together: VCKC, VCKD, PCE0, PCE1, PCE2, PCHA, VCH, PCH, VSZ, PSZ, VTA, PTA, VTB, PTB, VTC, PTC, VTD, PTD. -/
import Derived.Test.YtbaholefcgacpaeGreatDoorRows
import Derived.Test.YtbaholefcgacpaeGreatDoorZC43D
namespace Go.Proofs.YtbaholefcgacpaeGreatDoor
open Go.RowKit
set_option maxRecDepth 100000
set_option linter.unusedVariables false
set_option linter.unusedSimpArgs false
def T87 (R:List Qa) (lines:List ByteArray):Spec:=⟨(S87 R lines).args,(S87 R lines).res,F20 lines=0∧lines.length≤16∧(∀ k:Nat,(lines.getD k default).size≤1048576)⟩
theorem oa87 (lines:List ByteArray):(T87 (Qo lines) lines).ok Tryz.prog 87 false:=by
 intro hp; have h:=ok87 lines hp; rw [as87 lines] at h; exact h
def T21 (R:List l52Cut) (lines:List ByteArray):Spec:=⟨(S21 R lines).args,(S21 R lines).res,lines.length≤16∧(∀ k:Nat,(lines.getD k default).size≤1048576)⟩
theorem oa21 (lines:List ByteArray):(T21 (lines.map (fun l=>(⟨(F40 l).1⟩:l52Cut))) lines).ok Tryz.prog 21:=by
 intro hp; have h:=ok21 lines hp; rw [as21 lines] at h; exact h
def F33 (p:Qa):Int :=
 (IntKind.i64.wrap ((IntKind.i64.wrap (p.Addr+(F49 p)))-1))
def S33 (p:Qa):Spec:=⟨[.r (.g (Qh p))],.v (vI (F33 p)),0≤p.Len∧p.Len≤16⟩
theorem ok33 (p:Qa):(S33 p).ok Tryz.prog 33 :=
 Qi mixed (fn:=Tryz.f33) (ct:=.seq .no (.seq (.reg [(3,kh49 p)]) .no)) Tryz.func33 (fun (hp:0≤p.Len∧p.Len≤16)=>have hpre0:=hp.1; have hpre1:=hp.2; kc49 p (by omega) (by omega) (by omega) (by omega) (fun gv1 gv2=>fiI (IntKind.i64.wrap ((IntKind.i64.wrap (p.Addr+(F49 p)))-1)) (F33 p) rfl)) (by kernel_rfl)
theorem kc33 (p:Qa) {K_:Prop} (p0_:0≤p.Len) (p1_:p.Len≤16) (k_:K_):(0≤p.Len∧p.Len≤16)∧(Imps (Qh p) (Qh p))∧K_:=⟨⟨p0_,p1_⟩,Imps.refl _,k_⟩
abbrev kh33 (p:Qa):Hint true Tryz.prog:=.call 33 (S33 p) (ok33 p) none
def F16 (p:Qa) (addr:Int):Bool :=
 (decide (p.Addr≤addr∧addr≤(F33 p)))
def S16 (p:Qa) (addr:Int):Spec:=⟨[.r (.g (Qh p)),.r (.c (.v (vI addr)))],.v (.bool (F16 p addr)),0≤p.Len∧p.Len≤16⟩
theorem ok16 (p:Qa) (addr:Int):(S16 p addr).ok Tryz.prog 16 :=
 Qi mixed (fn:=Tryz.f16) (ct:=.seq .no (.seq (.reg [(4,kh33 p),(5,Qoi addr p.Addr (F33 p))]) .no)) Tryz.func16 (fun (hp:0≤p.Len∧p.Len≤16)=>have hpre0:=hp.1; have hpre1:=hp.2; kc33 p (by omega) (by omega) (Qie addr p.Addr (F33 p) (fiB (decide (p.Addr≤addr∧addr≤(F33 p))) (F16 p addr) rfl))) (by kernel_rfl)
theorem kc16 (p:Qa) (addr:Int) {K_:Prop} (p0_:0≤p.Len) (p1_:p.Len≤16) (k_:K_):(0≤p.Len∧p.Len≤16)∧(Imps (Qh p) (Qh p))∧(Imp (.v (vI addr)) (.v (vI addr)))∧K_:=⟨⟨p0_,p1_⟩,Imps.refl _,Imp.refl _,k_⟩
theorem kg16 {K_:Prop} (c_ b_:Bool) (p:Qa) (addr:Int) (p_:c_=b_→0≤p.Len∧p.Len≤16) (k_:K_):(c_=b_→0≤p.Len∧p.Len≤16)∧(c_=b_→Imps (Qh p) (Qh p))∧(c_=b_→Imp (.v (vI addr)) (.v (vI addr)))∧K_:=⟨p_,fun _=>Imps.refl _,fun _=>Imp.refl _,k_⟩
abbrev kh16 (p:Qa) (addr:Int):Hint true Tryz.prog:=.call 16 (S16 p addr) (ok16 p addr) none
def F88 (p:Qa) (q:Qa):Bool :=
 (bif decide (q.Len≤p.Len) then (F16 q p.Addr) else false)
def S88 (p:Qa) (q:Qa):Spec:=⟨[.r (.g (Qh p)),.r (.g (Qh q))],.v (.bool (F88 p q)),0≤q.Len∧q.Len≤16⟩
theorem ok88 (p:Qa) (q:Qa):(S88 p q).ok Tryz.prog 88 :=
 Qi mixed (fn:=Tryz.f88) (ct:=.seq .no (.seq (.reg [(9,kh16 q p.Addr)]) .no)) Tryz.func88 (fun (hp:0≤q.Len∧q.Len≤16)=>have hpre0:=hp.1; have hpre1:=hp.2; kg16 (decide (q.Len≤p.Len)) true q p.Addr (fun k1=>have _:=of_decide_eq_true k1; ⟨(by omega),(by omega)⟩) (fiB (bif decide (q.Len≤p.Len) then (F16 q p.Addr) else false) (F88 p q) rfl)) (by kernel_rfl)
theorem kc87a (lines:List ByteArray) {K_:Prop} (p0_:F20 lines=0) (p1_:lines.length≤16) (p2_:∀ k:Nat,(lines.getD k default).size≤1048576) (k_:K_):(F20 lines=0∧lines.length≤16∧(∀ k:Nat,(lines.getD k default).size≤1048576))∧(Imp (.l 1 eStr lines) (.l 1 eStr lines))∧K_:=⟨⟨p0_,p1_,p2_⟩,Imp.refl _,k_⟩
abbrev kh87a (lines:List ByteArray):Hint false Tryz.prog:=.call 87 (T87 (Qo lines) lines) (oa87 lines) none
def Br (lines:List ByteArray) (v12:Int):Int→Lp Int Bool:=fun v21 =>
 bif (decide (v21<(((Qo lines).take (Int.toNat v12)).length:Int))) then (bif (bif (F88 ⟨((Qo lines).getD (Int.toNat v12) default).Addr,((Qo lines).getD (Int.toNat v12) default).Len⟩ ⟨(((Qo lines).take (Int.toNat v12)).getD (Int.toNat v21) default).Addr,(((Qo lines).take (Int.toNat v12)).getD (Int.toNat v21) default).Len⟩) then true else (F88 ⟨(((Qo lines).take (Int.toNat v12)).getD (Int.toNat v21) default).Addr,(((Qo lines).take (Int.toNat v12)).getD (Int.toNat v21) default).Len⟩ ⟨((Qo lines).getD (Int.toNat v12) default).Addr,((Qo lines).getD (Int.toNat v12) default).Len⟩)) then (.ret true) else (.next (v21+1))) else (.done v21)
def Xb (lines:List ByteArray):Int→Lp Int Bool:=fun v12 =>
 bif (decide (v12<((Qo lines).length:Int))) then ((runL (Br lines v12) ((Int.toNat ((((Qo lines).take (Int.toNat v12)).length:Int)-0))+1) 0).fin Lp.ret (fun v21=>.next (v12+1))) else (.done v12)
def F69 (lines:List ByteArray):Bool :=
 (runL (Xb lines) ((Int.toNat (((Qo lines).length:Int)-0))+1) 0).fin (fun r=>r) (fun v12=>false)
abbrev Ec (lines:List ByteArray) (v12:Int):Nat×Int:=(((Int.toNat ((((Qo lines).take (Int.toNat v12)).length:Int)-0))+1),0)
abbrev Qmw (lines:List ByteArray) (v12:Int) (m39:Nat) (v21:Int):Prop:=Int.toNat ((((Qo lines).take (Int.toNat v12)).length:Int)-v21)<m39∧(0:Int)≤v21
abbrev Qwu (lines:List ByteArray) (v12:Int):Lp Int Bool:=LpX (Br lines v12) (Ec lines v12)
abbrev Ts (lines:List ByteArray) (v12:Int) (i:Nat×Int):Prop:=LpJ (Br lines v12) (Ec lines v12) i (Qmw lines v12 i.1 i.2)
abbrev Qtt (lines:List ByteArray) (v12:Int) (i:Nat×Int) (m39:Nat) (v21:Int):Prop:=LpH (Br lines v12) (Ec lines v12) i m39 v21 (Qmw lines v12 (m39+1) v21)
abbrev Uaa (lines:List ByteArray) (v12:Int) (v21:Int) (v21_:Int) (K39:Prop):Prop:=(Rf (.int .i64 ((Qo lines).length:Int)))∧(Rf (.int .i64 v12))∧(Rf (.int .i64 (((Qo lines).take (Int.toNat v12)).length:Int)))∧((.int .i64 v21:Value)=.int .i64 v21_)∧(Im (.l 2 Qh (Qo lines)))∧(Rf (.int .i64 ((Qo lines).getD (Int.toNat v12) default).Addr))∧(Rf (.int .i64 ((Qo lines).getD (Int.toNat v12) default).Len))∧(Im (.l 2 Qh ((Qo lines).take (Int.toNat v12))))∧K39
theorem un69_1 (lines:List ByteArray) (v12:Int) (i:Nat×Int) (h:Ts lines v12 i):Qtt lines v12 i (i.1-1) i.2:=⟨hd1 h.1 h.2.1,hd3 h.2.1,hd2 h.2.1,h.2.2⟩
theorem bk69_1 (lines:List ByteArray) (v12:Int) (i:Nat×Int) (m39:Nat) (v21:Int) (hl:m39<i.1) (e:runL (Br lines v12) m39 v21=Qwu lines v12) (h:Qmw lines v12 m39 v21):∃ j:Nat×Int,Uaa lines v12 v21 j.2 (Ts lines v12 j∧j.1<i.1):=⟨(m39,v21),rfl,rfl,rfl,rfl,Imp.refl _,rfl,rfl,Imp.refl _,⟨e,h⟩,hl⟩
theorem en69_1 (lines:List ByteArray) (v12:Int) (h:(0:Int)≤0):Uaa lines v12 0 0 (Ts lines v12 (Ec lines v12)):=⟨rfl,rfl,rfl,rfl,Imp.refl _,rfl,rfl,Imp.refl _,rfl,Nat.lt_succ_self _,h⟩
abbrev Tz (lines:List ByteArray):Nat×Int:=(((Int.toNat (((Qo lines).length:Int)-0))+1),0)
abbrev Qlm (lines:List ByteArray) (m39:Nat) (v12:Int):Prop:=Int.toNat (((Qo lines).length:Int)-v12)<m39∧(0:Int)≤v12
abbrev Qwx (lines:List ByteArray):Lp Int Bool:=LpX (Xb lines) (Tz lines)
abbrev Qak (lines:List ByteArray) (i:Nat×Int):Prop:=LpJ (Xb lines) (Tz lines) i (Qlm lines i.1 i.2)
abbrev Qwo (lines:List ByteArray) (i:Nat×Int) (m39:Nat) (v12:Int):Prop:=LpH (Xb lines) (Tz lines) i m39 v12 (Qlm lines (m39+1) v12)
abbrev Qxg (lines:List ByteArray) (v12:Int) (v12_:Int) (K39:Prop):Prop:=(Rf (.int .i64 ((Qo lines).length:Int)))∧((.int .i64 v12:Value)=.int .i64 v12_)∧(Im (.l 2 Qh (Qo lines)))∧K39
theorem un69_0 (lines:List ByteArray) (i:Nat×Int) (h:Qak lines i):Qwo lines i (i.1-1) i.2:=⟨hd1 h.1 h.2.1,hd3 h.2.1,hd2 h.2.1,h.2.2⟩
theorem bk69_0 (lines:List ByteArray) (i:Nat×Int) (m39:Nat) (v12:Int) (hl:m39<i.1) (e:runL (Xb lines) m39 v12=Qwx lines) (h:Qlm lines m39 v12):∃ j:Nat×Int,Qxg lines v12 j.2 (Qak lines j∧j.1<i.1):=⟨(m39,v12),rfl,rfl,Imp.refl _,⟨e,h⟩,hl⟩
theorem en69_0 (lines:List ByteArray) (h:(0:Int)≤0):Qxg lines 0 0 (Qak lines (Tz lines)):=⟨rfl,rfl,Imp.refl _,rfl,Nat.lt_succ_self _,h⟩
def S69 (lines:List ByteArray):Spec:=⟨[.r (.c (.l 1 eStr lines))],.v (.bool (F69 lines)),F20 lines=0∧lines.length≤16∧(∀ k:Nat,(lines.getD k default).size≤1048576)⟩
abbrev Xf (lines:List ByteArray) (v12:Int) (v21:Int):=(⟨(((Qo lines).take (Int.toNat v12)).getD (Int.toNat v21) default).Addr,(((Qo lines).take (Int.toNat v12)).getD (Int.toNat v21) default).Len⟩:Qa)
abbrev Bj (lines:List ByteArray) (v12:Int):=(⟨((Qo lines).getD (Int.toNat v12) default).Addr,((Qo lines).getD (Int.toNat v12) default).Len⟩:Qa)
theorem ok69 (lines:List ByteArray):(S69 lines).ok Tryz.prog 69 false :=
 Qi mixed (fn:=Tryz.f69) (ct:=.seqk [(0,0)] .no (.seq (.reg [(1,kh87a lines)]) (.seq (.seqk [(3,0),(10,0)] .no (.blk (.loop (ι:=Nat×Int) (fun i=>(fun (v12:Int)=>(⟨[(3,some (.h 0 0)),(10,some (.h 0 0)),(11,some (.v (vI ((Qo lines).length:Int)))),(12,some (.v (vI v12)))],[(0,some (.own 0 (.l 2 Qh (Qo lines))))],1⟩:St)) i.2) (Qak lines) (fun i=>i.1) (Tz lines) (fun i=>(fun (v12:Int)=>(.seq .no (.seq (.cond .no .no) (.seq (.blk (.seq .no (.seqk [(19,0)] .no (.blk (.loop (ι:=Nat×Int) (fun i=>(fun (v21:Int)=>(⟨[(3,some (.h 0 0)),(5,some (.p 1 0)),(10,some (.h 0 0)),(11,some (.v (vI ((Qo lines).length:Int)))),(12,some (.v (vI v12))),(19,some (.h 2 0)),(20,some (.v (vI (((Qo lines).take (Int.toNat v12)).length:Int)))),(21,some (.v (vI v21)))],[(0,some (.own 0 (.l 2 Qh (Qo lines)))),(1,some (.box 35 [.v (vI ((Qo lines).getD (Int.toNat v12) default).Addr),.v (vI ((Qo lines).getD (Int.toNat v12) default).Len)])),(2,some (.shr (some (0,0)) (.l 2 Qh ((Qo lines).take (Int.toNat v12)))))],3⟩:St)) i.2) (Ts lines v12) (fun i=>i.1) (Ec lines v12) (fun i=>(fun (v21:Int)=>(.seq .no (.seq (.cond .no .no) (.seq (.blk (.seq .no (.seq (.reg [(2,.call 88 (S88 (Bj lines v12) (Xf lines v12 v21)) ((ok88 (Bj lines v12) (Xf lines v12 v21)).to false) none),(6,.call 88 (S88 (Xf lines v12 v21) (Bj lines v12)) ((ok88 (Xf lines v12 v21) (Bj lines v12)).to false) none)]) (.cond (.seq .no .no) .no)))) (.reg [(0,.bnd)]))))) i.2)))))) (.reg [(0,.bnd)]))))) i.2)))) (.seq .no .no)))) Tryz.func69 (fun (hp:F20 lines=0∧lines.length≤16∧(∀ k:Nat,(lines.getD k default).size≤1048576))=>have hpre0:=hp.1; have hpre1:=hp.2.1; have hpre2:=hp.2.2; kn lines fun _=>kc87a lines (by omega) (by omega) (by assumption) (kn (Qo lines) fun _=>kn (Qo lines) fun _=>ai (en69_0 lines (by omega)) (fun (i0:Nat×Int) (hi0:Qak lines i0)=>(fun (m0:Nat) (v12:Int) (hh0:Qwo lines i0 m0 v12)=>have hI0:=hh0.1; have hl0:=hh0.2.1; have _:=hh0.2.2.1; have _:=hh0.2.2.2; ifd (v12<((Qo lines).length:Int)) (fun h2 _=>ai (by omega:ib v12 (Qo lines)) (ai (by omega:0≤(0:Int)∧(0:Int)≤v12∧v12≤((Qo lines).length:Int)) (kn ((Qo lines).take (Int.toNat v12)) fun _=>ai (en69_1 lines v12 (by omega)) (fun (i1:Nat×Int) (hi1:Ts lines v12 i1)=>(fun (m1:Nat) (v21:Int) (hh1:Qtt lines v12 i1 m1 v21)=>have hI1:=hh1.1; have hl1:=hh1.2.1; have _:=hh1.2.2.1; have _:=hh1.2.2.2; ifd (v21<(((Qo lines).take (Int.toNat v12)).length:Int)) (fun h4 _=>ai (by omega:ib v21 ((Qo lines).take (Int.toNat v12))) (ai (ai (by exact (Ei lines _ _).1:0≤(((Qo lines).take (Int.toNat v12)).getD (Int.toNat v21) default).Len) (by exact (Ei lines _ _).2:(((Qo lines).take (Int.toNat v12)).getD (Int.toNat v21) default).Len≤16)) (ai (Imps.refl (Qh (Bj lines v12))) (ai (Imps.refl (Qh (Xf lines v12 v21))) (ai (fun k5:(F88 (Bj lines v12) (Xf lines v12 v21))=false=>(ai (by exact (Mo lines _).1:0≤((Qo lines).getD (Int.toNat v12) default).Len) (by exact (Mo lines _).2:((Qo lines).getD (Int.toNat v12) default).Len≤16))) (ai (fun k6:(F88 (Bj lines v12) (Xf lines v12 v21))=false=>(Imps.refl (Qh (Xf lines v12 v21)))) (ai (fun k7:(F88 (Bj lines v12) (Xf lines v12 v21))=false=>(Imps.refl (Qh (Bj lines v12)))) (ifb (bif (F88 (Bj lines v12) (Xf lines v12 v21)) then true else (F88 (Xf lines v12 v21) (Bj lines v12))) (fun h8=>fiB true (F69 lines) (finR (Qr hI0 (condT h2 (finR (Qr hI1 (condT h4 (condT h8 rfl))) rfl))) rfl)) (fun h8=>ai (iok (v21+1) (by omega)) (bk69_1 lines v12 i1 m1 (v21+1) hl1 (Qe hI1 (condT h4 (condF h8 rfl))) (by refine ⟨?_,?_⟩ <;> omega))))))))))) (fun h4 _=>have hD1_9:Qwu lines v12=Lp.done v21:=Ql hI1 (condF h4 rfl); ai (iok (v12+1) (by omega)) (bk69_0 lines i0 m0 (v12+1) hl0 (Qe hI0 (condT h2 (finD hD1_9 rfl))) (by refine ⟨?_,?_⟩ <;> omega)))) (i1.1-1) i1.2 (un69_1 lines v12 i1 hi1))))) (fun h2 _=>have hD0_10:Qwx lines=Lp.done v12:=Ql hI0 (condF h2 rfl); fiB false (F69 lines) (finD hD0_10 rfl))) (i0.1-1) i0.2 (un69_0 lines i0 hi0)))) (by kernel_rfl)
def F91 (p:Qa) (p1:Int):Bool :=
 (bif (F16 p p1) then (p.Addr != p1) else false)
def S91 (p:Qa) (p1:Int):Spec:=⟨[.r (.g (Qh p)),.rp ([.v (vI p1)])],.v (.bool (F91 p p1)),0≤p.Len∧p.Len≤16⟩
theorem ok91 (p:Qa) (p1:Int):(S91 p p1).ok Tryz.prog 91 :=
 Qi mixed (fn:=Tryz.f91) (ct:=.seq .no (.seq (.reg [(2,kh16 p p1)]) .no)) Tryz.func91 (fun (hp:0≤p.Len∧p.Len≤16)=>have hpre0:=hp.1; have hpre1:=hp.2; kc16 p p1 (by omega) (by omega) (fiB (bif (F16 p p1) then (p.Addr != p1) else false) (F91 p p1) rfl)) (by kernel_rfl)
def Bm (Q:Qa→Prop) (p:Qa→Bool):Ye:=⟨Qa,fun i=>[.g (pxH (Qh i) (Q i))],fun i=>.bool (p i)⟩
def Bu (s:List Qa) (f:Qa→Bool):Int→Lp Int Int:=fun v8 =>
 bif (decide (v8<(s.length:Int))) then (bif (f (⟨(s.getD (Int.toNat v8) default).Addr,(s.getD (Int.toNat v8) default).Len⟩:Qa)) then (.ret v8) else (.next (v8+1))) else (.done v8)
def F108 (s:List Qa) (f:Qa→Bool):Int :=
 (runL (Bu s f) ((Int.toNat ((s.length:Int)-0))+1) 0).fin (fun r=>r) (fun v8=>(-1))
abbrev Ll (s:List Qa):Nat×Int:=(((Int.toNat ((s.length:Int)-0))+1),0)
abbrev Qfj (s:List Qa) (m39:Nat) (v8:Int):Prop:=Int.toNat ((s.length:Int)-v8)<m39∧(0:Int)≤v8
abbrev Qqu (s:List Qa) (f:Qa→Bool):Lp Int Int:=LpX (Bu s f) (Ll s)
abbrev Lj (s:List Qa) (f:Qa→Bool) (i:Nat×Int):Prop:=LpJ (Bu s f) (Ll s) i (Qfj s i.1 i.2)
abbrev Qqs (s:List Qa) (f:Qa→Bool) (i:Nat×Int) (m39:Nat) (v8:Int):Prop:=LpH (Bu s f) (Ll s) i m39 v8 (Qfj s (m39+1) v8)
abbrev Qpe (Qf:Qa→Prop) (s:List Qa) (f:Qa→Bool) (v8:Int) (v8_:Int) (K39:Prop):Prop:=(Rf (.int .i64 (s.length:Int)))∧((.int .i64 v8:Value)=.int .i64 v8_)∧(Im (.l 2 Qh s))∧(Bm Qf f=Bm Qf f)∧K39
theorem Uez (s:List Qa) (f:Qa→Bool) (i:Nat×Int) (h:Lj s f i):Qqs s f i (i.1-1) i.2:=⟨hd1 h.1 h.2.1,hd3 h.2.1,hd2 h.2.1,h.2.2⟩
theorem Ueg (Qf:Qa→Prop) (s:List Qa) (f:Qa→Bool) (i:Nat×Int) (m39:Nat) (v8:Int) (hl:m39<i.1) (e:runL (Bu s f) m39 v8=Qqu s f) (h:Qfj s m39 v8):∃ j:Nat×Int,Qpe Qf s f v8 j.2 (Lj s f j∧j.1<i.1):=⟨(m39,v8),rfl,rfl,Imp.refl _,rfl,⟨e,h⟩,hl⟩
theorem Ufl (Qf:Qa→Prop) (s:List Qa) (f:Qa→Bool) (h:(0:Int)≤0):Qpe Qf s f 0 0 (Lj s f (Ll s)):=⟨rfl,rfl,Imp.refl _,rfl,rfl,Nat.lt_succ_self _,h⟩
def S108 (R:Int) (s:List Qa) (f:Qa→Bool) (Qf:Qa→Prop):Spec:=⟨[.r (.c (.l 2 Qh s)),.fn (Bm Qf f)],.v (vI R),(∀ k:Nat,k<s.length→Qf (s.getD k default))⟩
theorem ok108 (s:List Qa) (f:Qa→Bool) (Qf:Qa→Prop):(S108 (F108 s f) s f Qf).ok Tryz.prog 108 false :=
 Qi mixed (fn:=Tryz.f108) (ct:=.seqk [(0,0)] .no (.seq (.seqk [(0,0)] .no (.blk (.loop (ι:=Nat×Int) (fun i=>(fun (v8:Int)=>(⟨[(0,some (.h 0 0)),(1,some (.h 1 0)),(7,some (.v (vI (s.length:Int)))),(8,some (.v (vI v8)))],[(0,some (.shr none (.l 2 Qh s))),(1,some (.fn (Bm Qf f)))],2⟩:St)) i.2) (Lj s f) (fun i=>i.1) (Ll s) (fun i=>(fun (v8:Int)=>(.seq .no (.seq (.cond .no .no) (.seq (.blk (.seq .no (.seq (.reg [(5,.fnv (Bm Qf f) (⟨(s.getD (Int.toNat v8) default).Addr,(s.getD (Int.toNat v8) default).Len⟩:Qa))]) (.cond (.seq .no .no) .no)))) (.reg [(0,.bnd)]))))) i.2)))) (.seq .no .no))) Tryz.func108 (fun (hpre0:∀ k:Nat,k<s.length→Qf (s.getD k default))=>kn s fun _=>kn s fun _=>ai (Ufl Qf s f (by omega)) (fun (i0:Nat×Int) (hi0:Lj s f i0)=>(fun (m0:Nat) (v8:Int) (hh0:Qqs s f i0 m0 v8)=>have hI0:=hh0.1; have hl0:=hh0.2.1; have _:=hh0.2.2.1; have _:=hh0.2.2.2; ifd (v8<(s.length:Int)) (fun h2 _=>ai (by omega:ib v8 s) (ai (Eq.refl (Bm Qf f)) (ai (Imps.pxH (ds:=Qh (⟨(s.getD (Int.toNat v8) default).Addr,(s.getD (Int.toNat v8) default).Len⟩:Qa)) (hpre0 (Int.toNat v8) (by omega))) (ifb (f (⟨(s.getD (Int.toNat v8) default).Addr,(s.getD (Int.toNat v8) default).Len⟩:Qa)) (fun h3=>fiI v8 (F108 s f) (finR (Qr hI0 (condT h2 (condT h3 rfl))) rfl)) (fun h3=>ai (iok (v8+1) (by omega)) (Ueg Qf s f i0 m0 (v8+1) hl0 (Qe hI0 (condT h2 (condF h3 rfl))) (by refine ⟨?_,?_⟩ <;> omega))))))) (fun h2 _=>have hD0_4:Qqu s f=Lp.done v8:=Ql hI0 (condF h2 rfl); fiI (-1) (F108 s f) (finD hD0_4 rfl))) (i0.1-1) i0.2 (Uez s f i0 hi0))) (by kernel_rfl)
theorem as108 (s:List Qa) (f:Qa→Bool):F108 s f=(idxI f s):=by
 exact Wn f s (Bu s f) (fun i=>rfl)
theorem oa108 (s:List Qa) (f:Qa→Bool) (Qf:Qa→Prop):(S108 (idxI f s) s f Qf).ok Tryz.prog 108 false:=by
 intro hp; have h:=ok108 s f Qf hp; rw [as108 s f] at h; exact h
theorem g108_0 (s:List Qa) (f:Qa→Bool):(idxI f s)<(s.length:Int):=by
 exact Bv f s
theorem g108_1 (s:List Qa) (f:Qa→Bool):-1≤(idxI f s):=by
 (show -1≤idxI f s; unfold idxI; cases first (fun k=>f (s.getD k default)) s.length <;> simp only [oix] <;> omega)
theorem kc108a (s:List Qa) (f:Qa→Bool) (Qf:Qa→Prop) {K_:Prop} (p0_:∀ k:Nat,k<s.length→Qf (s.getD k default)) (k_:((idxI f s)<(s.length:Int))→(-1≤(idxI f s))→K_):(∀ k:Nat,k<s.length→Qf (s.getD k default))∧(Imp (.l 2 Qh s) (.l 2 Qh s))∧(Bm Qf f=Bm Qf f)∧K_:=⟨p0_,Imp.refl _,rfl,k_ (g108_0 s f) (g108_1 s f)⟩
abbrev kh108a (s:List Qa) (f:Qa→Bool) (Qf:Qa→Prop):Hint false Tryz.prog:=.call 108 (S108 (idxI f s) s f Qf) (oa108 s f Qf) none
def F90 (s:List Qa) (f:Qa→Bool):Bool :=
 decide ((idxI f s)≥0)
def S90 (R:Bool) (s:List Qa) (f:Qa→Bool) (Qf:Qa→Prop):Spec:=⟨[.r (.c (.l 2 Qh s)),.fn (Bm Qf f)],.v (.bool R),(∀ k:Nat,k<s.length→Qf (s.getD k default))⟩
theorem ok90 (s:List Qa) (f:Qa→Bool) (Qf:Qa→Prop):(S90 (F90 s f) s f Qf).ok Tryz.prog 90 false :=
 Qi mixed (fn:=Tryz.f90) (ct:=.seqk [(0,0)] .no (.seq (.reg [(2,kh108a s f Qf)]) .no)) Tryz.func90 (fun (hpre0:∀ k:Nat,k<s.length→Qf (s.getD k default))=>kn s fun _=>kc108a s f Qf (by assumption) (fun gv1 gv2=>fiB (decide ((idxI f s)≥0)) (F90 s f) rfl)) (by kernel_rfl)
theorem as90 (s:List Qa) (f:Qa→Bool):F90 s f=(s.any f):=by
 exact Pw f s
theorem oa90 (s:List Qa) (f:Qa→Bool) (Qf:Qa→Prop):(S90 (s.any f) s f Qf).ok Tryz.prog 90 false:=by
 intro hp; have h:=ok90 s f Qf hp; rw [as90 s f] at h; exact h
def F89 (text:ByteArray) (p1:List Qa):Bool :=
 (!(p1.any (fun (x0:Qa)=>F91 x0 (F53 text))))
def S89 (text:ByteArray) (p1:List Qa):Spec:=⟨[.r (.c (.v (.string text))),.rp ([.l 2 Qh p1])],.v (.bool (F89 text p1)),text.size≤1048576∧(∀ k:Nat,0≤(p1.getD k default).Len∧(p1.getD k default).Len≤16)⟩
theorem ok89 (text:ByteArray) (p1:List Qa):(S89 text p1).ok Tryz.prog 89 false :=
 Qi mixed (fn:=Tryz.f89) (ct:=.seq .no (.seq (.reg [(1,kh53 text)]) (.seq (.reg [(2,.call 90 (S90 (p1.any (fun (x0:Qa)=>F91 x0 (F53 text))) p1 (fun (x0:Qa)=>F91 x0 (F53 text)) (fun (x0:Qa)=>0≤x0.Len∧x0.Len≤16)) (oa90 p1 (fun (x0:Qa)=>F91 x0 (F53 text)) (fun (x0:Qa)=>0≤x0.Len∧x0.Len≤16)) (some ⟨true,91,Bm (fun (x0:Qa)=>0≤x0.Len∧x0.Len≤16) (fun (x0:Qa)=>F91 x0 (F53 text)),[.rp ([.v (vI (F53 text))])],rfl,True,fun i=>Ubi (ok91 i (F53 text))⟩))]) .no))) Tryz.func89 (fun (hp:text.size≤1048576∧(∀ k:Nat,0≤(p1.getD k default).Len∧(p1.getD k default).Len≤16))=>have hpre0:=hp.1; have hpre1:=hp.2; kc53 text (by omega) (ai (by exact fun k _=>hpre1 k:∀ k:Nat,k<p1.length→(fun (x0:Qa)=>0≤x0.Len∧x0.Len≤16) (p1.getD k default)) (ai (Imp.refl (.l 2 Qh p1)) (ai (Eq.refl (Bm (fun (x0:Qa)=>0≤x0.Len∧x0.Len≤16) (fun (x0:Qa)=>F91 x0 (F53 text)))) (ai trivial (ai (Imps.refl [.v (vI (F53 text))]) (fiB (!(p1.any (fun (x0:Qa)=>F91 x0 (F53 text)))) (F89 text p1) rfl))))))) (by kernel_rfl)
def Xa (lines:List ByteArray):(List ByteArray×Int)→Lp (List ByteArray×Int) Bool:=fun (addrs1,v13) =>
 bif (decide (v13<((Qb lines (⟨#[114,111,117,116,101]⟩:ByteArray)).length:Int))) then (.next ((addrs1++[(((Qb lines (⟨#[114,111,117,116,101]⟩:ByteArray)).getD (Int.toNat v13) default).getD (Int.toNat 2) default)]),(v13+1))) else (.done (addrs1,v13))
def Nt (lines:List ByteArray):Lp (List ByteArray) Bool :=
 (runL (Xa lines) ((Int.toNat (((Qb lines (⟨#[114,111,117,116,101]⟩:ByteArray)).length:Int)-0))+1) (([]:List ByteArray),0)).fin Lp.ret (fun (addrs1,v13)=>.done addrs1)
def Bh (lines:List ByteArray) (addrs:List ByteArray):(List ByteArray×Int)→Lp (List ByteArray×Int) Bool:=fun (addrs3,v27) =>
 bif (decide (v27<((Qb lines (⟨#[112,101,101,114]⟩:ByteArray)).length:Int))) then (.next ((addrs3++[(((Qb lines (⟨#[112,101,101,114]⟩:ByteArray)).getD (Int.toNat v27) default).getD (Int.toNat 1) default)]),(v27+1))) else (.done (addrs3,v27))
def Gw (lines:List ByteArray) (addrs:List ByteArray):Lp (List ByteArray) Bool :=
 (runL (Bh lines addrs) ((Int.toNat (((Qb lines (⟨#[112,101,101,114]⟩:ByteArray)).length:Int)-0))+1) (addrs,0)).fin Lp.ret (fun (addrs3,v27)=>.done addrs3)
def F70 (lines:List ByteArray):Bool :=
 (Nt lines).fin (fun r=>r) (fun addrs=>(Gw lines addrs).fin (fun r=>r) (fun addrs2=>(addrs2.any (fun (x0:ByteArray)=>F89 x0 (Qo lines)))))
abbrev Ry (lines:List ByteArray):Nat×(List ByteArray×Int):=(((Int.toNat (((Qb lines (⟨#[114,111,117,116,101]⟩:ByteArray)).length:Int)-0))+1),(([]:List ByteArray),0))
abbrev Qka (lines:List ByteArray) (m39:Nat) (addrs1:List ByteArray) (v13:Int):Prop:=Int.toNat (((Qb lines (⟨#[114,111,117,116,101]⟩:ByteArray)).length:Int)-v13)<m39∧(addrs1.length:Int)≤v13∧v13≤((Qb lines (⟨#[114,111,117,116,101]⟩:ByteArray)).length:Int)∧(∀ k:Nat,(addrs1.getD k default).size≤1048576)∧(0:Int)≤v13
abbrev Qui (lines:List ByteArray):Lp (List ByteArray×Int) Bool:=LpX (Xa lines) (Ry lines)
abbrev Tw (lines:List ByteArray) (i:Nat×(List ByteArray×Int)):Prop:=LpJ (Xa lines) (Ry lines) i (Qka lines i.1 i.2.1 i.2.2)
abbrev Qyw (lines:List ByteArray) (i:Nat×(List ByteArray×Int)) (m39:Nat) (addrs1:List ByteArray) (v13:Int):Prop:=LpH (Xa lines) (Ry lines) i m39 (addrs1,v13) (Qka lines (m39+1) addrs1 v13)
abbrev Qve (lines:List ByteArray) (addrs1:List ByteArray) (v13:Int) (addrs1_:List ByteArray) (v13_:Int) (K39:Prop):Prop:=(Rf (.int .i64 ((Qb lines (⟨#[114,111,117,116,101]⟩:ByteArray)).length:Int)))∧((.int .i64 v13:Value)=.int .i64 v13_)∧(Im (.l 1 eStr lines))∧(Imp (.l 1 eStr addrs1) (.l 1 eStr addrs1_))∧(Im (.l 1 (eL 1 eStr) (Qb lines (⟨#[114,111,117,116,101]⟩:ByteArray))))∧K39
theorem un70_0 (lines:List ByteArray) (i:Nat×(List ByteArray×Int)) (h:Tw lines i):Qyw lines i (i.1-1) i.2.1 i.2.2:=⟨hd1 h.1 h.2.1,hd3 h.2.1,hd2 h.2.1,h.2.2⟩
theorem bk70_0 (lines:List ByteArray) (i:Nat×(List ByteArray×Int)) (m39:Nat) (addrs1:List ByteArray) (v13:Int) (hl:m39<i.1) (e:runL (Xa lines) m39 (addrs1,v13)=Qui lines) (h:Qka lines m39 addrs1 v13):∃ j:Nat×(List ByteArray×Int),Qve lines addrs1 v13 j.2.1 j.2.2 (Tw lines j∧j.1<i.1):=⟨(m39,(addrs1,v13)),rfl,rfl,Imp.refl _,Imp.refl _,Imp.refl _,⟨e,h⟩,hl⟩
theorem en70_0 (lines:List ByteArray) (h:(([]:List ByteArray).length:Int)≤0∧0≤((Qb lines (⟨#[114,111,117,116,101]⟩:ByteArray)).length:Int)∧(∀ k:Nat,(([]:List ByteArray).getD k default).size≤1048576)∧(0:Int)≤0):Qve lines ([]:List ByteArray) 0 ([]:List ByteArray) 0 (Tw lines (Ry lines)):=⟨rfl,rfl,Imp.refl _,Imp.refl _,Imp.refl _,rfl,Nat.lt_succ_self _,h⟩
abbrev Qjv (lines:List ByteArray) (addrs:List ByteArray):Prop:=(addrs.length:Int)≤16∧(∀ k:Nat,(addrs.getD k default).size≤1048576)
abbrev Qmd (lines:List ByteArray) (j:List ByteArray):Prop:=(Nt lines)=Lp.done j∧Qjv lines j
theorem jn70_0 (lines:List ByteArray) (addrs:List ByteArray) (e:(Nt lines)=Lp.done addrs) (h:Qjv lines addrs):∃ j:List ByteArray,(Imp (.l 1 eStr lines) (.l 1 eStr lines))∧(Imp (.l 1 eStr addrs) (.l 1 eStr j))∧Qmd lines j:=⟨addrs,Imp.refl _,Imp.refl _,e,h⟩
abbrev Tg (lines:List ByteArray) (addrs:List ByteArray):Nat×(List ByteArray×Int):=(((Int.toNat (((Qb lines (⟨#[112,101,101,114]⟩:ByteArray)).length:Int)-0))+1),(addrs,0))
abbrev Qno (lines:List ByteArray) (m39:Nat) (addrs3:List ByteArray) (v27:Int):Prop:=Int.toNat (((Qb lines (⟨#[112,101,101,114]⟩:ByteArray)).length:Int)-v27)<m39∧(addrs3.length:Int)≤16+v27∧v27≤((Qb lines (⟨#[112,101,101,114]⟩:ByteArray)).length:Int)∧(∀ k:Nat,(addrs3.getD k default).size≤1048576)∧(0:Int)≤v27
abbrev Ubd (lines:List ByteArray) (addrs:List ByteArray):Lp (List ByteArray×Int) Bool:=LpX (Bh lines addrs) (Tg lines addrs)
abbrev Th (lines:List ByteArray) (addrs:List ByteArray) (i:Nat×(List ByteArray×Int)):Prop:=LpJ (Bh lines addrs) (Tg lines addrs) i (Qno lines i.1 i.2.1 i.2.2)
abbrev Qzw (lines:List ByteArray) (addrs:List ByteArray) (i:Nat×(List ByteArray×Int)) (m39:Nat) (addrs3:List ByteArray) (v27:Int):Prop:=LpH (Bh lines addrs) (Tg lines addrs) i m39 (addrs3,v27) (Qno lines (m39+1) addrs3 v27)
abbrev Qyn (lines:List ByteArray) (addrs3:List ByteArray) (v27:Int) (addrs3_:List ByteArray) (v27_:Int) (K39:Prop):Prop:=(Rf (.int .i64 ((Qb lines (⟨#[112,101,101,114]⟩:ByteArray)).length:Int)))∧((.int .i64 v27:Value)=.int .i64 v27_)∧(Im (.l 1 eStr lines))∧(Imp (.l 1 eStr addrs3) (.l 1 eStr addrs3_))∧(Im (.l 1 (eL 1 eStr) (Qb lines (⟨#[112,101,101,114]⟩:ByteArray))))∧K39
theorem un70_1 (lines:List ByteArray) (addrs:List ByteArray) (i:Nat×(List ByteArray×Int)) (h:Th lines addrs i):Qzw lines addrs i (i.1-1) i.2.1 i.2.2:=⟨hd1 h.1 h.2.1,hd3 h.2.1,hd2 h.2.1,h.2.2⟩
theorem bk70_1 (lines:List ByteArray) (addrs:List ByteArray) (i:Nat×(List ByteArray×Int)) (m39:Nat) (addrs3:List ByteArray) (v27:Int) (hl:m39<i.1) (e:runL (Bh lines addrs) m39 (addrs3,v27)=Ubd lines addrs) (h:Qno lines m39 addrs3 v27):∃ j:Nat×(List ByteArray×Int),Qyn lines addrs3 v27 j.2.1 j.2.2 (Th lines addrs j∧j.1<i.1):=⟨(m39,(addrs3,v27)),rfl,rfl,Imp.refl _,Imp.refl _,Imp.refl _,⟨e,h⟩,hl⟩
theorem en70_1 (lines:List ByteArray) (addrs:List ByteArray) (h:(addrs.length:Int)≤16+0∧0≤((Qb lines (⟨#[112,101,101,114]⟩:ByteArray)).length:Int)∧(∀ k:Nat,(addrs.getD k default).size≤1048576)∧(0:Int)≤0):Qyn lines addrs 0 addrs 0 (Th lines addrs (Tg lines addrs)):=⟨rfl,rfl,Imp.refl _,Imp.refl _,Imp.refl _,rfl,Nat.lt_succ_self _,h⟩
abbrev Qki (lines:List ByteArray) (addrs:List ByteArray) (addrs2:List ByteArray):Prop:=(addrs2.length:Int)≤32∧(∀ k:Nat,(addrs2.getD k default).size≤1048576)
abbrev Qnj (lines:List ByteArray) (addrs:List ByteArray) (j:List ByteArray):Prop:=(Gw lines addrs)=Lp.done j∧Qki lines addrs j
theorem jn70_1 (lines:List ByteArray) (addrs:List ByteArray) (addrs2:List ByteArray) (e:(Gw lines addrs)=Lp.done addrs2) (h:Qki lines addrs addrs2):∃ j:List ByteArray,(Imp (.l 1 eStr lines) (.l 1 eStr lines))∧(Imp (.l 1 eStr addrs2) (.l 1 eStr j))∧Qnj lines addrs j:=⟨addrs2,Imp.refl _,Imp.refl _,e,h⟩
def S70 (lines:List ByteArray):Spec:=⟨[.r (.c (.l 1 eStr lines))],.v (.bool (F70 lines)),F20 lines=0∧lines.length≤16∧(∀ k:Nat,(lines.getD k default).size≤1048576)⟩
theorem ok70 (lines:List ByteArray):(S70 lines).ok Tryz.prog 70 false :=
 Qi mixed (fn:=Tryz.f70) (ct:=.seqk [(0,0)] .no (.seq (.reg [(0,.dat (.l 1 eStr ([]:List ByteArray)))]) (.cut (ι:=List ByteArray) (fun j=>(fun (addrs:List ByteArray)=>(⟨[(0,some (.h 0 0)),(3,some (.h 1 0))],[(0,some (.shr none (.l 1 eStr lines))),(1,some (.own 1 (.l 1 eStr addrs)))],2⟩:St)) j) (Qmd lines) (.seqk [(3,0),(11,0)] (.reg [(1,Vi lines (⟨#[114,111,117,116,101]⟩:ByteArray))]) (.blk (.loop (ι:=Nat×(List ByteArray×Int)) (fun i=>(fun (addrs1:List ByteArray) (v13:Int)=>(⟨[(0,some (.h 0 0)),(3,some (.h 1 0)),(11,some (.h 2 0)),(12,some (.v (vI ((Qb lines (⟨#[114,111,117,116,101]⟩:ByteArray)).length:Int)))),(13,some (.v (vI v13)))],[(0,some (.shr none (.l 1 eStr lines))),(1,some (.own 1 (.l 1 eStr addrs1))),(2,some (.own 2 (.l 1 (eL 1 eStr) (Qb lines (⟨#[114,111,117,116,101]⟩:ByteArray)))))],3⟩:St)) i.2.1 i.2.2) (Tw lines) (fun i=>i.1) (Ry lines) (fun i=>(fun (addrs1:List ByteArray) (v13:Int)=>(.seq .no (.seq (.cond .no .no) (.seq (.blk (.seq .no (.reg [(5,.dat (.l 1 eStr (addrs1++[(((Qb lines (⟨#[114,111,117,116,101]⟩:ByteArray)).getD (Int.toNat v13) default).getD (Int.toNat 2) default)])))]))) (.reg [(0,.bnd)]))))) i.2.1 i.2.2)))) (fun j=>(fun (addrs:List ByteArray)=>(.cut (ι:=List ByteArray) (fun j=>(fun (addrs2:List ByteArray)=>(⟨[(0,some (.h 0 0)),(3,some (.h 1 0))],[(0,some (.shr none (.l 1 eStr lines))),(1,some (.own 1 (.l 1 eStr addrs2)))],2⟩:St)) j) (Qnj lines addrs) (.seqk [(3,0),(25,0)] (.reg [(1,Vi lines (⟨#[112,101,101,114]⟩:ByteArray))]) (.blk (.loop (ι:=Nat×(List ByteArray×Int)) (fun i=>(fun (addrs3:List ByteArray) (v27:Int)=>(⟨[(0,some (.h 0 0)),(3,some (.h 1 0)),(25,some (.h 2 0)),(26,some (.v (vI ((Qb lines (⟨#[112,101,101,114]⟩:ByteArray)).length:Int)))),(27,some (.v (vI v27)))],[(0,some (.shr none (.l 1 eStr lines))),(1,some (.own 1 (.l 1 eStr addrs3))),(2,some (.own 2 (.l 1 (eL 1 eStr) (Qb lines (⟨#[112,101,101,114]⟩:ByteArray)))))],3⟩:St)) i.2.1 i.2.2) (Th lines addrs) (fun i=>i.1) (Tg lines addrs) (fun i=>(fun (addrs3:List ByteArray) (v27:Int)=>(.seq .no (.seq (.cond .no .no) (.seq (.blk (.seq .no (.reg [(5,.dat (.l 1 eStr (addrs3++[(((Qb lines (⟨#[112,101,101,114]⟩:ByteArray)).getD (Int.toNat v27) default).getD (Int.toNat 1) default)])))]))) (.reg [(0,.bnd)]))))) i.2.1 i.2.2)))) (fun j=>(fun (addrs2:List ByteArray)=>(.seq (.reg [(1,kh87a lines)]) (.seq (.reg [(2,.call 79 (S79 (addrs2.any (fun (x0:ByteArray)=>F89 x0 (Qo lines))) addrs2 (fun (x0:ByteArray)=>F89 x0 (Qo lines)) (fun (x0:ByteArray)=>x0.size≤1048576∧(∀ k:Nat,0≤((Qo lines).getD k default).Len∧((Qo lines).getD k default).Len≤16))) (oa79 addrs2 (fun (x0:ByteArray)=>F89 x0 (Qo lines)) (fun (x0:ByteArray)=>x0.size≤1048576∧(∀ k:Nat,0≤((Qo lines).getD k default).Len∧((Qo lines).getD k default).Len≤16))) (some ⟨false,89,Zd (fun (x0:ByteArray)=>x0.size≤1048576∧(∀ k:Nat,0≤((Qo lines).getD k default).Len∧((Qo lines).getD k default).Len≤16)) (fun (x0:ByteArray)=>F89 x0 (Qo lines)),[.rp ([.l 2 Qh (Qo lines)])],rfl,True,fun i=>Bl (ok89 i (Qo lines))⟩))]) .no))) j))) j)))) Tryz.func70 (fun (hp:F20 lines=0∧lines.length≤16∧(∀ k:Nat,(lines.getD k default).size≤1048576))=>have hpre0:=hp.1; have hpre1:=hp.2.1; have hpre2:=hp.2.2; kn lines fun _=>ai (bokr 1 eStr ([]:List ByteArray) fun _=>rfl) (ai (Gq lines (⟨#[114,111,117,116,101]⟩:ByteArray) (by omega) (by assumption) (by omega) (fun gv1=>kn ([]:List ByteArray) fun _=>kn (Qb lines (⟨#[114,111,117,116,101]⟩:ByteArray)) fun _=>ai (en70_0 lines (by refine ⟨?_,?_,?_,?_⟩ <;> first | omega | (simp only [lens,ib] at*<;> omega) | exact Qnm (by assumption) (Ym lines _ (by first | omega | (simp only [lens,ib] at*<;> omega)) _ _) | exact Qxr)) (fun (i0:Nat×(List ByteArray×Int)) (hi0:Tw lines i0)=>(fun (m0:Nat) (addrs1:List ByteArray) (v13:Int) (hh0:Qyw lines i0 m0 addrs1 v13)=>have hI0:=hh0.1; have hl0:=hh0.2.1; have _:=hh0.2.2.1; have _:=hh0.2.2.2.1; have _:=hh0.2.2.2.2.1; have _:=hh0.2.2.2.2.2.1; have _:=hh0.2.2.2.2.2.2; ifd (v13<((Qb lines (⟨#[114,111,117,116,101]⟩:ByteArray)).length:Int)) (fun h3 _=>ai (by (omega):0≤v13∧v13<((Qb lines (⟨#[114,111,117,116,101]⟩:ByteArray)).length:Int)) (ai (by (have h9:=Quq lines (by omega) (Int.toNat v13) (by omega); unfold Jo at h9; omega):0≤(2:Int)∧(2:Int)<(((Qb lines (⟨#[114,111,117,116,101]⟩:ByteArray)).getD (Int.toNat v13) default).length:Int)) (ai (appr 1 eStr addrs1 [(((Qb lines (⟨#[114,111,117,116,101]⟩:ByteArray)).getD (Int.toNat v13) default).getD (Int.toNat 2) default)] fun _=>rfl) (ai (by (try simp only [lens]); omega:(addrs1++[(((Qb lines (⟨#[114,111,117,116,101]⟩:ByteArray)).getD (Int.toNat v13) default).getD (Int.toNat 2) default)]).length*16≤140737488355328) (ai (iok (v13+1) (by omega)) (bk70_0 lines i0 m0 (addrs1++[(((Qb lines (⟨#[114,111,117,116,101]⟩:ByteArray)).getD (Int.toNat v13) default).getD (Int.toNat 2) default)]) (v13+1) hl0 (Qe hI0 (condT h3 rfl)) (by refine ⟨?_,?_,?_,?_,?_⟩ <;> first | omega | (simp only [lens,ib] at*<;> omega) | exact Qnm (by assumption) (Ym lines _ (by first | omega | (simp only [lens,ib] at*<;> omega)) _ _) | exact Qxr))))))) (fun h3 _=>have hD0_4:Qui lines=Lp.done (addrs1,v13):=Ql hI0 (condF h3 rfl); jn70_0 lines addrs1 (Eq.symm (finD hD0_4 rfl)) (by refine ⟨?_,?_⟩ <;> omega))) (i0.1-1) i0.2.1 i0.2.2 (un70_0 lines i0 hi0)))) (fun (j:List ByteArray) (hj:Qmd lines j)=>(fun (addrs:List ByteArray) (hJ0_5:(Nt lines)=Lp.done addrs) (hw:Qjv lines addrs)=>have _:=hw.1; have _:=hw.2; ai (Gq lines (⟨#[112,101,101,114]⟩:ByteArray) (by omega) (by assumption) (by omega) (fun gv6=>kn addrs fun _=>kn (Qb lines (⟨#[112,101,101,114]⟩:ByteArray)) fun _=>ai (en70_1 lines addrs (by refine ⟨?_,?_,?_,?_⟩ <;> omega)) (fun (i1:Nat×(List ByteArray×Int)) (hi1:Th lines addrs i1)=>(fun (m1:Nat) (addrs3:List ByteArray) (v27:Int) (hh1:Qzw lines addrs i1 m1 addrs3 v27)=>have hI1:=hh1.1; have hl1:=hh1.2.1; have _:=hh1.2.2.1; have _:=hh1.2.2.2.1; have _:=hh1.2.2.2.2.1; have _:=hh1.2.2.2.2.2.1; have _:=hh1.2.2.2.2.2.2; ifd (v27<((Qb lines (⟨#[112,101,101,114]⟩:ByteArray)).length:Int)) (fun h8 _=>ai (by (omega):0≤v27∧v27<((Qb lines (⟨#[112,101,101,114]⟩:ByteArray)).length:Int)) (ai (by (have h9:=Ufk lines (by omega) (Int.toNat v27) (by omega); unfold Hq at h9; omega):0≤(1:Int)∧(1:Int)<(((Qb lines (⟨#[112,101,101,114]⟩:ByteArray)).getD (Int.toNat v27) default).length:Int)) (ai (appr 1 eStr addrs3 [(((Qb lines (⟨#[112,101,101,114]⟩:ByteArray)).getD (Int.toNat v27) default).getD (Int.toNat 1) default)] fun _=>rfl) (ai (by (try simp only [lens]); omega:(addrs3++[(((Qb lines (⟨#[112,101,101,114]⟩:ByteArray)).getD (Int.toNat v27) default).getD (Int.toNat 1) default)]).length*16≤140737488355328) (ai (iok (v27+1) (by omega)) (bk70_1 lines addrs i1 m1 (addrs3++[(((Qb lines (⟨#[112,101,101,114]⟩:ByteArray)).getD (Int.toNat v27) default).getD (Int.toNat 1) default)]) (v27+1) hl1 (Qe hI1 (condT h8 rfl)) (by refine ⟨?_,?_,?_,?_,?_⟩ <;> first | omega | (simp only [lens,ib] at*<;> omega) | exact Qnm (by assumption) (Ym lines _ (by first | omega | (simp only [lens,ib] at*<;> omega)) _ _) | assumption))))))) (fun h8 _=>have hD1_9:Ubd lines addrs=Lp.done (addrs3,v27):=Ql hI1 (condF h8 rfl); jn70_1 lines addrs addrs3 (Eq.symm (finD hD1_9 rfl)) (by refine ⟨?_,?_⟩ <;> omega))) (i1.1-1) i1.2.1 i1.2.2 (un70_1 lines addrs i1 hi1)))) (fun (j:List ByteArray) (hj:Qnj lines addrs j)=>(fun (addrs2:List ByteArray) (hJ1_10:(Gw lines addrs)=Lp.done addrs2) (hw:Qki lines addrs addrs2)=>have _:=hw.1; have _:=hw.2; kc87a lines (by omega) (by omega) (by assumption) (ai (by exact fun k _=>⟨(by assumption:∀ k:Nat,(addrs2.getD k default).size≤1048576) k,Mo lines⟩:∀ k:Nat,k<addrs2.length→(fun (x0:ByteArray)=>x0.size≤1048576∧(∀ k:Nat,0≤((Qo lines).getD k default).Len∧((Qo lines).getD k default).Len≤16)) (addrs2.getD k default)) (ai (Imp.refl (.l 1 eStr addrs2)) (ai (Eq.refl (Zd (fun (x0:ByteArray)=>x0.size≤1048576∧(∀ k:Nat,0≤((Qo lines).getD k default).Len∧((Qo lines).getD k default).Len≤16)) (fun (x0:ByteArray)=>F89 x0 (Qo lines)))) (ai trivial (ai (Imps.refl [.l 2 Qh (Qo lines)]) (fiB (addrs2.any (fun (x0:ByteArray)=>F89 x0 (Qo lines))) (F70 lines) (finD hJ0_5 (finD hJ1_10 rfl))))))))) j hj.1 hj.2)) j hj.1 hj.2))) (by kernel_rfl)
theorem kg19 {K_:Prop} (c_ b_:Bool) (word:ByteArray) (p_:c_=b_→word.size≤1048576) (k_:K_):(c_=b_→word.size≤1048576)∧(c_=b_→Imp (.v (.string word)) (.v (.string word)))∧K_:=⟨p_,fun _=>Imp.refl _,k_⟩
def Xn (lines:List ByteArray) (v64:Int):Int→Lp Int Bool:=fun v89 =>
 bif (decide (v89<(((Qb lines (⟨#[100,111,111,114]⟩:ByteArray)).take (Int.toNat v64)).length:Int))) then (bif (bif (bif (((((Qb lines (⟨#[100,111,111,114]⟩:ByteArray)).take (Int.toNat v64)).getD (Int.toNat v89) default).getD (Int.toNat 1) default).toList==(((Qb lines (⟨#[100,111,111,114]⟩:ByteArray)).getD (Int.toNat v64) default).getD (Int.toNat 1) default).toList) then (((((Qb lines (⟨#[100,111,111,114]⟩:ByteArray)).take (Int.toNat v64)).getD (Int.toNat v89) default).getD (Int.toNat 3) default).toList==(((Qb lines (⟨#[100,111,111,114]⟩:ByteArray)).getD (Int.toNat v64) default).getD (Int.toNat 3) default).toList) else false) then (((((Qb lines (⟨#[100,111,111,114]⟩:ByteArray)).take (Int.toNat v64)).getD (Int.toNat v89) default).getD (Int.toNat 4) default).toList==(((Qb lines (⟨#[100,111,111,114]⟩:ByteArray)).getD (Int.toNat v64) default).getD (Int.toNat 4) default).toList) else false) then (.ret true) else (.next (v89+1))) else (.done v89)
def Xg (lines:List ByteArray):Int→Lp Int Bool:=fun v64 =>
 bif (decide (v64<((Qb lines (⟨#[100,111,111,114]⟩:ByteArray)).length:Int))) then (bif (bif (!(F16 ⟨(F36 (((Qb lines (⟨#[110,97,116]⟩:ByteArray)).getD (Int.toNat 0) default).getD (Int.toNat 1) default)).1.Addr,(F36 (((Qb lines (⟨#[110,97,116]⟩:ByteArray)).getD (Int.toNat 0) default).getD (Int.toNat 1) default)).1.Len⟩ (F53 (((Qb lines (⟨#[100,111,111,114]⟩:ByteArray)).getD (Int.toNat v64) default).getD (Int.toNat 3) default)))) then true else (decide ((F19 (((Qb lines (⟨#[110,97,116]⟩:ByteArray)).getD (Int.toNat 0) default).getD (Int.toNat 3) default))≤(F19 (((Qb lines (⟨#[100,111,111,114]⟩:ByteArray)).getD (Int.toNat v64) default).getD (Int.toNat 2) default))∧(F19 (((Qb lines (⟨#[100,111,111,114]⟩:ByteArray)).getD (Int.toNat v64) default).getD (Int.toNat 2) default))≤(F19 (((Qb lines (⟨#[110,97,116]⟩:ByteArray)).getD (Int.toNat 0) default).getD (Int.toNat 4) default))))) then (.ret true) else ((runL (Xn lines v64) ((Int.toNat ((((Qb lines (⟨#[100,111,111,114]⟩:ByteArray)).take (Int.toNat v64)).length:Int)-0))+1) 0).fin Lp.ret (fun v89=>.next (v64+1)))) else (.done v64)
def F71 (lines:List ByteArray):Bool :=
 bif (((Qb lines (⟨#[110,97,116]⟩:ByteArray)).length:Int)==0) then (decide (((Qb lines (⟨#[100,111,111,114]⟩:ByteArray)).length:Int)>0)) else (bif (bif (bif (F16 ⟨(F36 (((Qb lines (⟨#[110,97,116]⟩:ByteArray)).getD (Int.toNat 0) default).getD (Int.toNat 1) default)).1.Addr,(F36 (((Qb lines (⟨#[110,97,116]⟩:ByteArray)).getD (Int.toNat 0) default).getD (Int.toNat 1) default)).1.Len⟩ (F53 (((Qb lines (⟨#[110,97,116]⟩:ByteArray)).getD (Int.toNat 0) default).getD (Int.toNat 2) default))) then true else decide ((F19 (((Qb lines (⟨#[110,97,116]⟩:ByteArray)).getD (Int.toNat 0) default).getD (Int.toNat 3) default))>(F19 (((Qb lines (⟨#[110,97,116]⟩:ByteArray)).getD (Int.toNat 0) default).getD (Int.toNat 4) default)))) then true else decide (((Qb lines (⟨#[100,111,111,114]⟩:ByteArray)).length:Int)>6)) then true else ((runL (Xg lines) ((Int.toNat (((Qb lines (⟨#[100,111,111,114]⟩:ByteArray)).length:Int)-0))+1) 0).fin (fun r=>r) (fun v64=>false)))
abbrev Qay (lines:List ByteArray) (v64:Int):Nat×Int:=(((Int.toNat ((((Qb lines (⟨#[100,111,111,114]⟩:ByteArray)).take (Int.toNat v64)).length:Int)-0))+1),0)
abbrev Qkj (lines:List ByteArray) (v64:Int) (m39:Nat) (v89:Int):Prop:=Int.toNat ((((Qb lines (⟨#[100,111,111,114]⟩:ByteArray)).take (Int.toNat v64)).length:Int)-v89)<m39∧(0:Int)≤v89
abbrev Ubb (lines:List ByteArray) (v64:Int):Lp Int Bool:=LpX (Xn lines v64) (Qay lines v64)
abbrev Qbq (lines:List ByteArray) (v64:Int) (i:Nat×Int):Prop:=LpJ (Xn lines v64) (Qay lines v64) i (Qkj lines v64 i.1 i.2)
abbrev Qxb (lines:List ByteArray) (v64:Int) (i:Nat×Int) (m39:Nat) (v89:Int):Prop:=LpH (Xn lines v64) (Qay lines v64) i m39 v89 (Qkj lines v64 (m39+1) v89)
abbrev Uar (lines:List ByteArray) (v64:Int) (v89:Int) (v89_:Int) (K39:Prop):Prop:=(Rf (.int .i64 (F19 (((Qb lines (⟨#[110,97,116]⟩:ByteArray)).getD (Int.toNat 0) default).getD (Int.toNat 3) default))))∧(Rf (.int .i64 (F19 (((Qb lines (⟨#[110,97,116]⟩:ByteArray)).getD (Int.toNat 0) default).getD (Int.toNat 4) default))))∧(Rf (.int .i64 ((Qb lines (⟨#[100,111,111,114]⟩:ByteArray)).length:Int)))∧(Rf (.int .i64 v64))∧(Rf (.int .i64 (((Qb lines (⟨#[100,111,111,114]⟩:ByteArray)).take (Int.toNat v64)).length:Int)))∧((.int .i64 v89:Value)=.int .i64 v89_)∧(Im (.l 1 (eL 1 eStr) (Qb lines (⟨#[100,111,111,114]⟩:ByteArray))))∧(Rf (.int .i64 (F36 (((Qb lines (⟨#[110,97,116]⟩:ByteArray)).getD (Int.toNat 0) default).getD (Int.toNat 1) default)).1.Addr))∧(Rf (.int .i64 (F36 (((Qb lines (⟨#[110,97,116]⟩:ByteArray)).getD (Int.toNat 0) default).getD (Int.toNat 1) default)).1.Len))∧(Im (.l 1 eStr ((Qb lines (⟨#[100,111,111,114]⟩:ByteArray)).getD (Int.toNat v64) default)))∧(Im (.l 1 (eL 1 eStr) ((Qb lines (⟨#[100,111,111,114]⟩:ByteArray)).take (Int.toNat v64))))∧K39
theorem un71_1 (lines:List ByteArray) (v64:Int) (i:Nat×Int) (h:Qbq lines v64 i):Qxb lines v64 i (i.1-1) i.2:=⟨hd1 h.1 h.2.1,hd3 h.2.1,hd2 h.2.1,h.2.2⟩
theorem bk71_1 (lines:List ByteArray) (v64:Int) (i:Nat×Int) (m39:Nat) (v89:Int) (hl:m39<i.1) (e:runL (Xn lines v64) m39 v89=Ubb lines v64) (h:Qkj lines v64 m39 v89):∃ j:Nat×Int,Uar lines v64 v89 j.2 (Qbq lines v64 j∧j.1<i.1):=⟨(m39,v89),rfl,rfl,rfl,rfl,rfl,rfl,Imp.refl _,rfl,rfl,Imp.refl _,Imp.refl _,⟨e,h⟩,hl⟩
theorem en71_1 (lines:List ByteArray) (v64:Int) (h:(0:Int)≤0):Uar lines v64 0 0 (Qbq lines v64 (Qay lines v64)):=⟨rfl,rfl,rfl,rfl,rfl,rfl,Imp.refl _,rfl,rfl,Imp.refl _,Imp.refl _,rfl,Nat.lt_succ_self _,h⟩
abbrev Tc (lines:List ByteArray):Nat×Int:=(((Int.toNat (((Qb lines (⟨#[100,111,111,114]⟩:ByteArray)).length:Int)-0))+1),0)
abbrev Qjz (lines:List ByteArray) (m39:Nat) (v64:Int):Prop:=Int.toNat (((Qb lines (⟨#[100,111,111,114]⟩:ByteArray)).length:Int)-v64)<m39∧(0:Int)≤v64
abbrev Qwm (lines:List ByteArray):Lp Int Bool:=LpX (Xg lines) (Tc lines)
abbrev Es (lines:List ByteArray) (i:Nat×Int):Prop:=LpJ (Xg lines) (Tc lines) i (Qjz lines i.1 i.2)
abbrev Qxn (lines:List ByteArray) (i:Nat×Int) (m39:Nat) (v64:Int):Prop:=LpH (Xg lines) (Tc lines) i m39 v64 (Qjz lines (m39+1) v64)
abbrev Ubv (lines:List ByteArray) (v64:Int) (v64_:Int) (K39:Prop):Prop:=(Rf (.int .i64 (F19 (((Qb lines (⟨#[110,97,116]⟩:ByteArray)).getD (Int.toNat 0) default).getD (Int.toNat 3) default))))∧(Rf (.int .i64 (F19 (((Qb lines (⟨#[110,97,116]⟩:ByteArray)).getD (Int.toNat 0) default).getD (Int.toNat 4) default))))∧(Rf (.int .i64 ((Qb lines (⟨#[100,111,111,114]⟩:ByteArray)).length:Int)))∧((.int .i64 v64:Value)=.int .i64 v64_)∧(Im (.l 1 (eL 1 eStr) (Qb lines (⟨#[100,111,111,114]⟩:ByteArray))))∧(Rf (.int .i64 (F36 (((Qb lines (⟨#[110,97,116]⟩:ByteArray)).getD (Int.toNat 0) default).getD (Int.toNat 1) default)).1.Addr))∧(Rf (.int .i64 (F36 (((Qb lines (⟨#[110,97,116]⟩:ByteArray)).getD (Int.toNat 0) default).getD (Int.toNat 1) default)).1.Len))∧K39
theorem un71_0 (lines:List ByteArray) (i:Nat×Int) (h:Es lines i):Qxn lines i (i.1-1) i.2:=⟨hd1 h.1 h.2.1,hd3 h.2.1,hd2 h.2.1,h.2.2⟩
theorem bk71_0 (lines:List ByteArray) (i:Nat×Int) (m39:Nat) (v64:Int) (hl:m39<i.1) (e:runL (Xg lines) m39 v64=Qwm lines) (h:Qjz lines m39 v64):∃ j:Nat×Int,Ubv lines v64 j.2 (Es lines j∧j.1<i.1):=⟨(m39,v64),rfl,rfl,rfl,rfl,Imp.refl _,rfl,rfl,⟨e,h⟩,hl⟩
theorem en71_0 (lines:List ByteArray) (h:(0:Int)≤0):Ubv lines 0 0 (Es lines (Tc lines)):=⟨rfl,rfl,rfl,rfl,Imp.refl _,rfl,rfl,rfl,Nat.lt_succ_self _,h⟩
def S71 (lines:List ByteArray):Spec:=⟨[.r (.c (.l 1 eStr lines))],.v (.bool (F71 lines)),F20 lines=0∧lines.length≤16∧(∀ k:Nat,(lines.getD k default).size≤1048576)⟩
theorem ok71 (lines:List ByteArray):(S71 lines).ok Tryz.prog 71 false :=
 Qi mixed (fn:=Tryz.f71) (ct:=.seqk [(0,0)] .no (.seq (.reg [(1,Vi lines (⟨#[110,97,116]⟩:ByteArray)),(3,Vi lines (⟨#[100,111,111,114]⟩:ByteArray))]) (.seq (.seq .no (.cond (.seq .no .no) .no)) (.seq (.reg [(5,kh36 (((Qb lines (⟨#[110,97,116]⟩:ByteArray)).getD (Int.toNat 0) default).getD (Int.toNat 1) default))]) (.seq (.reg [(5,kh19 (((Qb lines (⟨#[110,97,116]⟩:ByteArray)).getD (Int.toNat 0) default).getD (Int.toNat 3) default)),(11,kh19 (((Qb lines (⟨#[110,97,116]⟩:ByteArray)).getD (Int.toNat 0) default).getD (Int.toNat 4) default))]) (.seq (.seq (.reg [(6,kh53 (((Qb lines (⟨#[110,97,116]⟩:ByteArray)).getD (Int.toNat 0) default).getD (Int.toNat 2) default)),(7,.call 16 (S16 (⟨(F36 (((Qb lines (⟨#[110,97,116]⟩:ByteArray)).getD (Int.toNat 0) default).getD (Int.toNat 1) default)).1.Addr,(F36 (((Qb lines (⟨#[110,97,116]⟩:ByteArray)).getD (Int.toNat 0) default).getD (Int.toNat 1) default)).1.Len⟩:Qa) (F53 (((Qb lines (⟨#[110,97,116]⟩:ByteArray)).getD (Int.toNat 0) default).getD (Int.toNat 2) default))) ((ok16 (⟨(F36 (((Qb lines (⟨#[110,97,116]⟩:ByteArray)).getD (Int.toNat 0) default).getD (Int.toNat 1) default)).1.Addr,(F36 (((Qb lines (⟨#[110,97,116]⟩:ByteArray)).getD (Int.toNat 0) default).getD (Int.toNat 1) default)).1.Len⟩:Qa) (F53 (((Qb lines (⟨#[110,97,116]⟩:ByteArray)).getD (Int.toNat 0) default).getD (Int.toNat 2) default))).to false) none)]) (.cond (.seq .no .no) .no)) (.seq (.seqk [(4,0),(62,0)] .no (.blk (.loop (ι:=Nat×Int) (fun i=>(fun (v64:Int)=>(⟨[(4,some (.h 0 0)),(5,some (.p 1 0)),(7,some (.v (vI (F19 (((Qb lines (⟨#[110,97,116]⟩:ByteArray)).getD (Int.toNat 0) default).getD (Int.toNat 3) default))))),(8,some (.v (vI (F19 (((Qb lines (⟨#[110,97,116]⟩:ByteArray)).getD (Int.toNat 0) default).getD (Int.toNat 4) default))))),(62,some (.h 0 0)),(63,some (.v (vI ((Qb lines (⟨#[100,111,111,114]⟩:ByteArray)).length:Int)))),(64,some (.v (vI v64)))],[(0,some (.own 0 (.l 1 (eL 1 eStr) (Qb lines (⟨#[100,111,111,114]⟩:ByteArray))))),(1,some (.box 35 [.v (vI (F36 (((Qb lines (⟨#[110,97,116]⟩:ByteArray)).getD (Int.toNat 0) default).getD (Int.toNat 1) default)).1.Addr),.v (vI (F36 (((Qb lines (⟨#[110,97,116]⟩:ByteArray)).getD (Int.toNat 0) default).getD (Int.toNat 1) default)).1.Len)]))],2⟩:St)) i.2) (Es lines) (fun i=>i.1) (Tc lines) (fun i=>(fun (v64:Int)=>(.seq .no (.seq (.cond .no .no) (.seq (.blk (.seq (.reg [(2,.sh)]) (.seq (.seq (.reg [(4,kh53 (((Qb lines (⟨#[100,111,111,114]⟩:ByteArray)).getD (Int.toNat v64) default).getD (Int.toNat 3) default)),(5,.call 16 (S16 (⟨(F36 (((Qb lines (⟨#[110,97,116]⟩:ByteArray)).getD (Int.toNat 0) default).getD (Int.toNat 1) default)).1.Addr,(F36 (((Qb lines (⟨#[110,97,116]⟩:ByteArray)).getD (Int.toNat 0) default).getD (Int.toNat 1) default)).1.Len⟩:Qa) (F53 (((Qb lines (⟨#[100,111,111,114]⟩:ByteArray)).getD (Int.toNat v64) default).getD (Int.toNat 3) default))) ((ok16 (⟨(F36 (((Qb lines (⟨#[110,97,116]⟩:ByteArray)).getD (Int.toNat 0) default).getD (Int.toNat 1) default)).1.Addr,(F36 (((Qb lines (⟨#[110,97,116]⟩:ByteArray)).getD (Int.toNat 0) default).getD (Int.toNat 1) default)).1.Len⟩:Qa) (F53 (((Qb lines (⟨#[100,111,111,114]⟩:ByteArray)).getD (Int.toNat v64) default).getD (Int.toNat 3) default))).to false) none),(11,kh19 (((Qb lines (⟨#[100,111,111,114]⟩:ByteArray)).getD (Int.toNat v64) default).getD (Int.toNat 2) default)),(14,Re (F19 (((Qb lines (⟨#[100,111,111,114]⟩:ByteArray)).getD (Int.toNat v64) default).getD (Int.toNat 2) default)) (F19 (((Qb lines (⟨#[110,97,116]⟩:ByteArray)).getD (Int.toNat 0) default).getD (Int.toNat 3) default)) (F19 (((Qb lines (⟨#[110,97,116]⟩:ByteArray)).getD (Int.toNat 0) default).getD (Int.toNat 4) default)))]) (.cond (.seq .no .no) .no)) (.seqk [(10,0),(87,0)] .no (.blk (.loop (ι:=Nat×Int) (fun i=>(fun (v89:Int)=>(⟨[(4,some (.h 0 0)),(5,some (.p 1 0)),(7,some (.v (vI (F19 (((Qb lines (⟨#[110,97,116]⟩:ByteArray)).getD (Int.toNat 0) default).getD (Int.toNat 3) default))))),(8,some (.v (vI (F19 (((Qb lines (⟨#[110,97,116]⟩:ByteArray)).getD (Int.toNat 0) default).getD (Int.toNat 4) default))))),(10,some (.h 2 0)),(62,some (.h 0 0)),(63,some (.v (vI ((Qb lines (⟨#[100,111,111,114]⟩:ByteArray)).length:Int)))),(64,some (.v (vI v64))),(87,some (.h 3 0)),(88,some (.v (vI (((Qb lines (⟨#[100,111,111,114]⟩:ByteArray)).take (Int.toNat v64)).length:Int)))),(89,some (.v (vI v89)))],[(0,some (.own 0 (.l 1 (eL 1 eStr) (Qb lines (⟨#[100,111,111,114]⟩:ByteArray))))),(1,some (.box 35 [.v (vI (F36 (((Qb lines (⟨#[110,97,116]⟩:ByteArray)).getD (Int.toNat 0) default).getD (Int.toNat 1) default)).1.Addr),.v (vI (F36 (((Qb lines (⟨#[110,97,116]⟩:ByteArray)).getD (Int.toNat 0) default).getD (Int.toNat 1) default)).1.Len)])),(2,some (.shr (some (0,0)) (.l 1 eStr ((Qb lines (⟨#[100,111,111,114]⟩:ByteArray)).getD (Int.toNat v64) default)))),(3,some (.shr (some (0,0)) (.l 1 (eL 1 eStr) ((Qb lines (⟨#[100,111,111,114]⟩:ByteArray)).take (Int.toNat v64)))))],4⟩:St)) i.2) (Qbq lines v64) (fun i=>i.1) (Qay lines v64) (fun i=>(fun (v89:Int)=>(.seq .no (.seq (.cond .no .no) (.seq (.blk (.seq .no (.seq .no (.cond (.seq .no .no) .no)))) (.reg [(0,.bnd)]))))) i.2))))))) (.reg [(0,.bnd)]))))) i.2)))) (.seq .no .no)))))))) Tryz.func71 (fun (hp:F20 lines=0∧lines.length≤16∧(∀ k:Nat,(lines.getD k default).size≤1048576))=>have hpre0:=hp.1; have hpre1:=hp.2.1; have hpre2:=hp.2.2; kn lines fun _=>Gq lines (⟨#[110,97,116]⟩:ByteArray) (by omega) (by assumption) (by omega) (fun gv1=>Gq lines (⟨#[100,111,111,114]⟩:ByteArray) (by omega) (by assumption) (by omega) (fun gv2=>ife ((Qb lines (⟨#[110,97,116]⟩:ByteArray)).length:Int) 0 (fun h3 _=>fiB (decide (((Qb lines (⟨#[100,111,111,114]⟩:ByteArray)).length:Int)>0)) (F71 lines) (condT h3 rfl)) (fun h3 _=>ai (by (omega):0≤(0:Int)∧(0:Int)<((Qb lines (⟨#[110,97,116]⟩:ByteArray)).length:Int)) (ai (by (have h9:=Qfq lines (by omega) (Int.toNat 0) (by omega); unfold natP at h9; omega):0≤(1:Int)∧(1:Int)<(((Qb lines (⟨#[110,97,116]⟩:ByteArray)).getD (Int.toNat 0) default).length:Int)) (kc36 (((Qb lines (⟨#[110,97,116]⟩:ByteArray)).getD (Int.toNat 0) default).getD (Int.toNat 1) default) (by exact Ym lines _ (by omega) _ _) (ai (by (omega):0≤(0:Int)∧(0:Int)<((Qb lines (⟨#[110,97,116]⟩:ByteArray)).length:Int)) (ai (by (have h9:=Qfq lines (by omega) (Int.toNat 0) (by omega); unfold natP at h9; omega):0≤(3:Int)∧(3:Int)<(((Qb lines (⟨#[110,97,116]⟩:ByteArray)).getD (Int.toNat 0) default).length:Int)) (kc19 (((Qb lines (⟨#[110,97,116]⟩:ByteArray)).getD (Int.toNat 0) default).getD (Int.toNat 3) default) (by exact Ym lines _ (by omega) _ _) (ai (by (omega):0≤(0:Int)∧(0:Int)<((Qb lines (⟨#[110,97,116]⟩:ByteArray)).length:Int)) (ai (by (have h9:=Qfq lines (by omega) (Int.toNat 0) (by omega); unfold natP at h9; omega):0≤(4:Int)∧(4:Int)<(((Qb lines (⟨#[110,97,116]⟩:ByteArray)).getD (Int.toNat 0) default).length:Int)) (kc19 (((Qb lines (⟨#[110,97,116]⟩:ByteArray)).getD (Int.toNat 0) default).getD (Int.toNat 4) default) (by exact Ym lines _ (by omega) _ _) (ai (by (omega):0≤(0:Int)∧(0:Int)<((Qb lines (⟨#[110,97,116]⟩:ByteArray)).length:Int)) (ai (by (have h9:=Qfq lines (by omega) (Int.toNat 0) (by omega); unfold natP at h9; omega):0≤(2:Int)∧(2:Int)<(((Qb lines (⟨#[110,97,116]⟩:ByteArray)).getD (Int.toNat 0) default).length:Int)) (kc53 (((Qb lines (⟨#[110,97,116]⟩:ByteArray)).getD (Int.toNat 0) default).getD (Int.toNat 2) default) (by exact Ym lines _ (by omega) _ _) (ai (ai (by exact (Zc _).1:0≤(F36 (((Qb lines (⟨#[110,97,116]⟩:ByteArray)).getD (Int.toNat 0) default).getD (Int.toNat 1) default)).1.Len) (by exact (Zc _).2.1:(F36 (((Qb lines (⟨#[110,97,116]⟩:ByteArray)).getD (Int.toNat 0) default).getD (Int.toNat 1) default)).1.Len≤16)) (ai (Imps.refl (Qh (⟨(F36 (((Qb lines (⟨#[110,97,116]⟩:ByteArray)).getD (Int.toNat 0) default).getD (Int.toNat 1) default)).1.Addr,(F36 (((Qb lines (⟨#[110,97,116]⟩:ByteArray)).getD (Int.toNat 0) default).getD (Int.toNat 1) default)).1.Len⟩:Qa))) (ai (Imp.refl (.v (vI (F53 (((Qb lines (⟨#[110,97,116]⟩:ByteArray)).getD (Int.toNat 0) default).getD (Int.toNat 2) default))))) (ifb (bif (bif (F16 ⟨(F36 (((Qb lines (⟨#[110,97,116]⟩:ByteArray)).getD (Int.toNat 0) default).getD (Int.toNat 1) default)).1.Addr,(F36 (((Qb lines (⟨#[110,97,116]⟩:ByteArray)).getD (Int.toNat 0) default).getD (Int.toNat 1) default)).1.Len⟩ (F53 (((Qb lines (⟨#[110,97,116]⟩:ByteArray)).getD (Int.toNat 0) default).getD (Int.toNat 2) default))) then true else decide ((F19 (((Qb lines (⟨#[110,97,116]⟩:ByteArray)).getD (Int.toNat 0) default).getD (Int.toNat 3) default))>(F19 (((Qb lines (⟨#[110,97,116]⟩:ByteArray)).getD (Int.toNat 0) default).getD (Int.toNat 4) default)))) then true else decide (((Qb lines (⟨#[100,111,111,114]⟩:ByteArray)).length:Int)>6)) (fun h4=>fiB true (F71 lines) (condF h3 (condT h4 rfl))) (fun h4=>have _:¬ (F19 (((Qb lines (⟨#[110,97,116]⟩:ByteArray)).getD (Int.toNat 0) default).getD (Int.toNat 3) default))>(F19 (((Qb lines (⟨#[110,97,116]⟩:ByteArray)).getD (Int.toNat 0) default).getD (Int.toNat 4) default)):=of_decide_eq_false (orF2 (orF1 h4)); have _:¬ ((Qb lines (⟨#[100,111,111,114]⟩:ByteArray)).length:Int)>6:=of_decide_eq_false (orF2 h4); kn (Qb lines (⟨#[100,111,111,114]⟩:ByteArray)) fun _=>kn (Qb lines (⟨#[100,111,111,114]⟩:ByteArray)) fun _=>ai (en71_0 lines (by omega)) (fun (i0:Nat×Int) (hi0:Es lines i0)=>(fun (m0:Nat) (v64:Int) (hh0:Qxn lines i0 m0 v64)=>have hI0:=hh0.1; have hl0:=hh0.2.1; have _:=hh0.2.2.1; have _:=hh0.2.2.2; ifd (v64<((Qb lines (⟨#[100,111,111,114]⟩:ByteArray)).length:Int)) (fun h6 _=>ai (by (omega):0≤v64∧v64<((Qb lines (⟨#[100,111,111,114]⟩:ByteArray)).length:Int)) (ai (by (have h9:=Gn lines (by omega) (Int.toNat v64) (by omega); unfold Kr at h9; omega):0≤(3:Int)∧(3:Int)<(((Qb lines (⟨#[100,111,111,114]⟩:ByteArray)).getD (Int.toNat v64) default).length:Int)) (kc53 (((Qb lines (⟨#[100,111,111,114]⟩:ByteArray)).getD (Int.toNat v64) default).getD (Int.toNat 3) default) (by exact Ym lines _ (by omega) _ _) (ai (ai (by exact (Zc _).1:0≤(F36 (((Qb lines (⟨#[110,97,116]⟩:ByteArray)).getD (Int.toNat 0) default).getD (Int.toNat 1) default)).1.Len) (by exact (Zc _).2.1:(F36 (((Qb lines (⟨#[110,97,116]⟩:ByteArray)).getD (Int.toNat 0) default).getD (Int.toNat 1) default)).1.Len≤16)) (ai (Imps.refl (Qh (⟨(F36 (((Qb lines (⟨#[110,97,116]⟩:ByteArray)).getD (Int.toNat 0) default).getD (Int.toNat 1) default)).1.Addr,(F36 (((Qb lines (⟨#[110,97,116]⟩:ByteArray)).getD (Int.toNat 0) default).getD (Int.toNat 1) default)).1.Len⟩:Qa))) (ai (Imp.refl (.v (vI (F53 (((Qb lines (⟨#[100,111,111,114]⟩:ByteArray)).getD (Int.toNat v64) default).getD (Int.toNat 3) default))))) (ai (fun k7:(!(F16 ⟨(F36 (((Qb lines (⟨#[110,97,116]⟩:ByteArray)).getD (Int.toNat 0) default).getD (Int.toNat 1) default)).1.Addr,(F36 (((Qb lines (⟨#[110,97,116]⟩:ByteArray)).getD (Int.toNat 0) default).getD (Int.toNat 1) default)).1.Len⟩ (F53 (((Qb lines (⟨#[100,111,111,114]⟩:ByteArray)).getD (Int.toNat v64) default).getD (Int.toNat 3) default))))=false=>(by (have h9:=Gn lines (by omega) (Int.toNat v64) (by omega); unfold Kr at h9; omega):0≤(2:Int)∧(2:Int)<(((Qb lines (⟨#[100,111,111,114]⟩:ByteArray)).getD (Int.toNat v64) default).length:Int))) (kg19 (!(F16 ⟨(F36 (((Qb lines (⟨#[110,97,116]⟩:ByteArray)).getD (Int.toNat 0) default).getD (Int.toNat 1) default)).1.Addr,(F36 (((Qb lines (⟨#[110,97,116]⟩:ByteArray)).getD (Int.toNat 0) default).getD (Int.toNat 1) default)).1.Len⟩ (F53 (((Qb lines (⟨#[100,111,111,114]⟩:ByteArray)).getD (Int.toNat v64) default).getD (Int.toNat 3) default)))) false (((Qb lines (⟨#[100,111,111,114]⟩:ByteArray)).getD (Int.toNat v64) default).getD (Int.toNat 2) default) (fun k8=>(by exact Ym lines _ (by omega) _ _)) (Qok (!(F16 ⟨(F36 (((Qb lines (⟨#[110,97,116]⟩:ByteArray)).getD (Int.toNat 0) default).getD (Int.toNat 1) default)).1.Addr,(F36 (((Qb lines (⟨#[110,97,116]⟩:ByteArray)).getD (Int.toNat 0) default).getD (Int.toNat 1) default)).1.Len⟩ (F53 (((Qb lines (⟨#[100,111,111,114]⟩:ByteArray)).getD (Int.toNat v64) default).getD (Int.toNat 3) default)))) false (F19 (((Qb lines (⟨#[100,111,111,114]⟩:ByteArray)).getD (Int.toNat v64) default).getD (Int.toNat 2) default)) (F19 (((Qb lines (⟨#[110,97,116]⟩:ByteArray)).getD (Int.toNat 0) default).getD (Int.toNat 3) default)) (F19 (((Qb lines (⟨#[110,97,116]⟩:ByteArray)).getD (Int.toNat 0) default).getD (Int.toNat 4) default)) (ifb (bif (!(F16 ⟨(F36 (((Qb lines (⟨#[110,97,116]⟩:ByteArray)).getD (Int.toNat 0) default).getD (Int.toNat 1) default)).1.Addr,(F36 (((Qb lines (⟨#[110,97,116]⟩:ByteArray)).getD (Int.toNat 0) default).getD (Int.toNat 1) default)).1.Len⟩ (F53 (((Qb lines (⟨#[100,111,111,114]⟩:ByteArray)).getD (Int.toNat v64) default).getD (Int.toNat 3) default)))) then true else (decide ((F19 (((Qb lines (⟨#[110,97,116]⟩:ByteArray)).getD (Int.toNat 0) default).getD (Int.toNat 3) default))≤(F19 (((Qb lines (⟨#[100,111,111,114]⟩:ByteArray)).getD (Int.toNat v64) default).getD (Int.toNat 2) default))∧(F19 (((Qb lines (⟨#[100,111,111,114]⟩:ByteArray)).getD (Int.toNat v64) default).getD (Int.toNat 2) default))≤(F19 (((Qb lines (⟨#[110,97,116]⟩:ByteArray)).getD (Int.toNat 0) default).getD (Int.toNat 4) default))))) (fun h10=>fiB true (F71 lines) (condF h3 (condF h4 (finR (Qr hI0 (condT h6 (condT h10 rfl))) rfl)))) (fun h10=>have _:¬ ((F19 (((Qb lines (⟨#[110,97,116]⟩:ByteArray)).getD (Int.toNat 0) default).getD (Int.toNat 3) default))≤(F19 (((Qb lines (⟨#[100,111,111,114]⟩:ByteArray)).getD (Int.toNat v64) default).getD (Int.toNat 2) default))∧(F19 (((Qb lines (⟨#[100,111,111,114]⟩:ByteArray)).getD (Int.toNat v64) default).getD (Int.toNat 2) default))≤(F19 (((Qb lines (⟨#[110,97,116]⟩:ByteArray)).getD (Int.toNat 0) default).getD (Int.toNat 4) default))):=of_decide_eq_false (orF2 h10); ai (by omega:0≤(0:Int)∧(0:Int)≤v64∧v64≤((Qb lines (⟨#[100,111,111,114]⟩:ByteArray)).length:Int)) (kn ((Qb lines (⟨#[100,111,111,114]⟩:ByteArray)).getD (Int.toNat v64) default) fun _=>kn ((Qb lines (⟨#[100,111,111,114]⟩:ByteArray)).take (Int.toNat v64)) fun _=>ai (en71_1 lines v64 (by omega)) (fun (i1:Nat×Int) (hi1:Qbq lines v64 i1)=>(fun (m1:Nat) (v89:Int) (hh1:Qxb lines v64 i1 m1 v89)=>have hI1:=hh1.1; have hl1:=hh1.2.1; have _:=hh1.2.2.1; have _:=hh1.2.2.2; ifd (v89<(((Qb lines (⟨#[100,111,111,114]⟩:ByteArray)).take (Int.toNat v64)).length:Int)) (fun h12 _=>ai (by (omega):0≤v89∧v89<(((Qb lines (⟨#[100,111,111,114]⟩:ByteArray)).take (Int.toNat v64)).length:Int)) (ai (by (have h9:=Ey lines (by omega) (Int.toNat v64) (Int.toNat v89) (by omega); unfold Kr at h9; omega):0≤(1:Int)∧(1:Int)<((((Qb lines (⟨#[100,111,111,114]⟩:ByteArray)).take (Int.toNat v64)).getD (Int.toNat v89) default).length:Int)) (ai (by (have h9:=Gn lines (by omega) (Int.toNat v64) (by omega); unfold Kr at h9; omega):0≤(1:Int)∧(1:Int)<(((Qb lines (⟨#[100,111,111,114]⟩:ByteArray)).getD (Int.toNat v64) default).length:Int)) (ai (fun k13:(((((Qb lines (⟨#[100,111,111,114]⟩:ByteArray)).take (Int.toNat v64)).getD (Int.toNat v89) default).getD (Int.toNat 1) default).toList==(((Qb lines (⟨#[100,111,111,114]⟩:ByteArray)).getD (Int.toNat v64) default).getD (Int.toNat 1) default).toList)=true=>(by (have h9:=Ey lines (by omega) (Int.toNat v64) (Int.toNat v89) (by omega); unfold Kr at h9; omega):0≤(3:Int)∧(3:Int)<((((Qb lines (⟨#[100,111,111,114]⟩:ByteArray)).take (Int.toNat v64)).getD (Int.toNat v89) default).length:Int))) (ai (fun k14:(((((Qb lines (⟨#[100,111,111,114]⟩:ByteArray)).take (Int.toNat v64)).getD (Int.toNat v89) default).getD (Int.toNat 1) default).toList==(((Qb lines (⟨#[100,111,111,114]⟩:ByteArray)).getD (Int.toNat v64) default).getD (Int.toNat 1) default).toList)=true=>(by (have h9:=Gn lines (by omega) (Int.toNat v64) (by omega); unfold Kr at h9; omega):0≤(3:Int)∧(3:Int)<(((Qb lines (⟨#[100,111,111,114]⟩:ByteArray)).getD (Int.toNat v64) default).length:Int))) (ai (fun k15:(bif (((((Qb lines (⟨#[100,111,111,114]⟩:ByteArray)).take (Int.toNat v64)).getD (Int.toNat v89) default).getD (Int.toNat 1) default).toList==(((Qb lines (⟨#[100,111,111,114]⟩:ByteArray)).getD (Int.toNat v64) default).getD (Int.toNat 1) default).toList) then (((((Qb lines (⟨#[100,111,111,114]⟩:ByteArray)).take (Int.toNat v64)).getD (Int.toNat v89) default).getD (Int.toNat 3) default).toList==(((Qb lines (⟨#[100,111,111,114]⟩:ByteArray)).getD (Int.toNat v64) default).getD (Int.toNat 3) default).toList) else false)=true=>have _:(((((Qb lines (⟨#[100,111,111,114]⟩:ByteArray)).take (Int.toNat v64)).getD (Int.toNat v89) default).getD (Int.toNat 1) default).toList==(((Qb lines (⟨#[100,111,111,114]⟩:ByteArray)).getD (Int.toNat v64) default).getD (Int.toNat 1) default).toList)=true:=(Qk k15); have _:(((((Qb lines (⟨#[100,111,111,114]⟩:ByteArray)).take (Int.toNat v64)).getD (Int.toNat v89) default).getD (Int.toNat 3) default).toList==(((Qb lines (⟨#[100,111,111,114]⟩:ByteArray)).getD (Int.toNat v64) default).getD (Int.toNat 3) default).toList)=true:=(Qw k15); (by (have h9:=Ey lines (by omega) (Int.toNat v64) (Int.toNat v89) (by omega); unfold Kr at h9; omega):0≤(4:Int)∧(4:Int)<((((Qb lines (⟨#[100,111,111,114]⟩:ByteArray)).take (Int.toNat v64)).getD (Int.toNat v89) default).length:Int))) (ai (fun k16:(bif (((((Qb lines (⟨#[100,111,111,114]⟩:ByteArray)).take (Int.toNat v64)).getD (Int.toNat v89) default).getD (Int.toNat 1) default).toList==(((Qb lines (⟨#[100,111,111,114]⟩:ByteArray)).getD (Int.toNat v64) default).getD (Int.toNat 1) default).toList) then (((((Qb lines (⟨#[100,111,111,114]⟩:ByteArray)).take (Int.toNat v64)).getD (Int.toNat v89) default).getD (Int.toNat 3) default).toList==(((Qb lines (⟨#[100,111,111,114]⟩:ByteArray)).getD (Int.toNat v64) default).getD (Int.toNat 3) default).toList) else false)=true=>have _:(((((Qb lines (⟨#[100,111,111,114]⟩:ByteArray)).take (Int.toNat v64)).getD (Int.toNat v89) default).getD (Int.toNat 1) default).toList==(((Qb lines (⟨#[100,111,111,114]⟩:ByteArray)).getD (Int.toNat v64) default).getD (Int.toNat 1) default).toList)=true:=(Qk k16); have _:(((((Qb lines (⟨#[100,111,111,114]⟩:ByteArray)).take (Int.toNat v64)).getD (Int.toNat v89) default).getD (Int.toNat 3) default).toList==(((Qb lines (⟨#[100,111,111,114]⟩:ByteArray)).getD (Int.toNat v64) default).getD (Int.toNat 3) default).toList)=true:=(Qw k16); (by (have h9:=Gn lines (by omega) (Int.toNat v64) (by omega); unfold Kr at h9; omega):0≤(4:Int)∧(4:Int)<(((Qb lines (⟨#[100,111,111,114]⟩:ByteArray)).getD (Int.toNat v64) default).length:Int))) (ifb (bif (bif (((((Qb lines (⟨#[100,111,111,114]⟩:ByteArray)).take (Int.toNat v64)).getD (Int.toNat v89) default).getD (Int.toNat 1) default).toList==(((Qb lines (⟨#[100,111,111,114]⟩:ByteArray)).getD (Int.toNat v64) default).getD (Int.toNat 1) default).toList) then (((((Qb lines (⟨#[100,111,111,114]⟩:ByteArray)).take (Int.toNat v64)).getD (Int.toNat v89) default).getD (Int.toNat 3) default).toList==(((Qb lines (⟨#[100,111,111,114]⟩:ByteArray)).getD (Int.toNat v64) default).getD (Int.toNat 3) default).toList) else false) then (((((Qb lines (⟨#[100,111,111,114]⟩:ByteArray)).take (Int.toNat v64)).getD (Int.toNat v89) default).getD (Int.toNat 4) default).toList==(((Qb lines (⟨#[100,111,111,114]⟩:ByteArray)).getD (Int.toNat v64) default).getD (Int.toNat 4) default).toList) else false) (fun h17=>have _:(((((Qb lines (⟨#[100,111,111,114]⟩:ByteArray)).take (Int.toNat v64)).getD (Int.toNat v89) default).getD (Int.toNat 1) default).toList==(((Qb lines (⟨#[100,111,111,114]⟩:ByteArray)).getD (Int.toNat v64) default).getD (Int.toNat 1) default).toList)=true:=(Qk (Qk h17)); have _:(((((Qb lines (⟨#[100,111,111,114]⟩:ByteArray)).take (Int.toNat v64)).getD (Int.toNat v89) default).getD (Int.toNat 3) default).toList==(((Qb lines (⟨#[100,111,111,114]⟩:ByteArray)).getD (Int.toNat v64) default).getD (Int.toNat 3) default).toList)=true:=(Qw (Qk h17)); have _:(((((Qb lines (⟨#[100,111,111,114]⟩:ByteArray)).take (Int.toNat v64)).getD (Int.toNat v89) default).getD (Int.toNat 4) default).toList==(((Qb lines (⟨#[100,111,111,114]⟩:ByteArray)).getD (Int.toNat v64) default).getD (Int.toNat 4) default).toList)=true:=(Qw h17); fiB true (F71 lines) (condF h3 (condF h4 (finR (Qr hI0 (condT h6 (condF h10 (finR (Qr hI1 (condT h12 (condT h17 rfl))) rfl)))) rfl)))) (fun h17=>ai (iok (v89+1) (by omega)) (bk71_1 lines v64 i1 m1 (v89+1) hl1 (Qe hI1 (condT h12 (condF h17 rfl))) (by refine ⟨?_,?_⟩ <;> omega))))))))))) (fun h12 _=>have hD1_18:Ubb lines v64=Lp.done v89:=Ql hI1 (condF h12 rfl); ai (iok (v64+1) (by omega)) (bk71_0 lines i0 m0 (v64+1) hl0 (Qe hI0 (condT h6 (condF h10 (finD hD1_18 rfl)))) (by refine ⟨?_,?_⟩ <;> omega)))) (i1.1-1) i1.2 (un71_1 lines v64 i1 hi1)))))))))))))) (fun h6 _=>have hD0_19:Qwm lines=Lp.done v64:=Ql hI0 (condF h6 rfl); fiB false (F71 lines) (condF h3 (condF h4 (finD hD0_19 rfl))))) (i0.1-1) i0.2 (un71_0 lines i0 hi0)))))))))))))))))))))) (by kernel_rfl)
theorem kc29 (c:l52Cut) (k:Int) {K_:Prop} (p0_:0≤k) (k_:K_):(0≤k)∧(Imps (Qj c) (Qj c))∧(Imp (.v (vI k)) (.v (vI k)))∧K_:=⟨p0_,Imps.refl _,Imp.refl _,k_⟩
abbrev kh29 (c:l52Cut) (k:Int):Hint true Tryz.prog:=.call 29 (S29 c k) (ok29 c k) none
theorem kg29 {K_:Prop} (c_ b_:Bool) (c:l52Cut) (k:Int) (p_:c_=b_→0≤k) (k_:K_):(c_=b_→0≤k)∧(c_=b_→Imps (Qj c) (Qj c))∧(c_=b_→Imp (.v (vI k)) (.v (vI k)))∧K_:=⟨p_,fun _=>Imps.refl _,fun _=>Imp.refl _,k_⟩
def Bq (all:List l52Cut):Int→Lp Int Bool:=fun i40 =>
 bif (decide (i40<(all.length:Int))) then (bif (bif ((F29 (all.getD (Int.toNat i40) default) 0).toList==(⟨#[117,115,101,114]⟩:ByteArray).toList) then ((F29 (all.getD (Int.toNat i40) default) 2).toList==(⟨#[97,108,108]⟩:ByteArray).toList) else false) then (.ret true) else (.next (i40+1))) else (.done i40)
def F22 (all:List l52Cut):Bool :=
 (runL (Bq all) ((Int.toNat ((all.length:Int)-0))+1) 0).fin (fun r=>r) (fun i40=>false)
abbrev Qcb (all:List l52Cut):Nat×Int:=(((Int.toNat ((all.length:Int)-0))+1),0)
abbrev Qkm (all:List l52Cut) (m39:Nat) (i40:Int):Prop:=Int.toNat ((all.length:Int)-i40)<m39∧(0:Int)≤i40
abbrev Qyp (all:List l52Cut):Lp Int Bool:=LpX (Bq all) (Qcb all)
abbrev Qbp (all:List l52Cut) (i:Nat×Int):Prop:=LpJ (Bq all) (Qcb all) i (Qkm all i.1 i.2)
abbrev Qtp (all:List l52Cut) (i:Nat×Int) (m39:Nat) (i40:Int):Prop:=LpH (Bq all) (Qcb all) i m39 i40 (Qkm all (m39+1) i40)
abbrev Qxy (all:List l52Cut) (i40:Int) (i40_:Int) (K39:Prop):Prop:=((.int .i64 i40:Value)=.int .i64 i40_)∧(Im (.l 1 Qj all))∧K39
theorem un22_0 (all:List l52Cut) (i:Nat×Int) (h:Qbp all i):Qtp all i (i.1-1) i.2:=⟨hd1 h.1 h.2.1,hd3 h.2.1,hd2 h.2.1,h.2.2⟩
theorem bk22_0 (all:List l52Cut) (i:Nat×Int) (m39:Nat) (i40:Int) (hl:m39<i.1) (e:runL (Bq all) m39 i40=Qyp all) (h:Qkm all m39 i40):∃ j:Nat×Int,Qxy all i40 j.2 (Qbp all j∧j.1<i.1):=⟨(m39,i40),rfl,Imp.refl _,⟨e,h⟩,hl⟩
theorem en22_0 (all:List l52Cut) (h:(0:Int)≤0):Qxy all 0 0 (Qbp all (Qcb all)):=⟨rfl,Imp.refl _,rfl,Nat.lt_succ_self _,h⟩
def S22 (all:List l52Cut):Spec:=⟨[.r (.c (.l 1 Qj all))],.v (.bool (F22 all)),True⟩
theorem ok22 (all:List l52Cut):(S22 all).ok Tryz.prog 22 :=
 Qi mixed (fn:=Tryz.f22) (ct:=.seqk [(0,0)] .no (.seq (.seqk [(0,0)] .no (.blk (.loop (ι:=Nat×Int) (fun i=>(fun (i40:Int)=>(⟨[(0,some (.h 0 0)),(3,some (.v (vI i40)))],[(0,some (.shr none (.l 1 Qj all)))],1⟩:St)) i.2) (Qbp all) (fun i=>i.1) (Qcb all) (fun i=>(fun (i40:Int)=>(.seq (.seq .no (.cond .no .no)) (.seq (.blk (.seq (.reg [(4,kh29 (all.getD (Int.toNat i40) default) 0),(11,kh29 (all.getD (Int.toNat i40) default) 2)]) (.cond (.seq .no .no) .no))) (.reg [(1,.bnd)])))) i.2)))) (.seq .no .no))) Tryz.func22 (fun (_:True)=>kn all fun _=>kn all fun _=>ai (en22_0 all (by omega)) (fun (i0:Nat×Int) (hi0:Qbp all i0)=>(fun (m0:Nat) (i40:Int) (hh0:Qtp all i0 m0 i40)=>have hI0:=hh0.1; have hl0:=hh0.2.1; have _:=hh0.2.2.1; have _:=hh0.2.2.2; ifd (i40<(all.length:Int)) (fun h2 _=>ai (by omega:ib i40 all) (kc29 (all.getD (Int.toNat i40) default) 0 (by omega) (ai (fun k3:((F29 (all.getD (Int.toNat i40) default) 0).toList==w10_.toList)=true=>(by omega:ib i40 all)) (kg29 ((F29 (all.getD (Int.toNat i40) default) 0).toList==w10_.toList) true (all.getD (Int.toNat i40) default) 2 (fun k4=>(by omega)) (ifb (bif ((F29 (all.getD (Int.toNat i40) default) 0).toList==w10_.toList) then ((F29 (all.getD (Int.toNat i40) default) 2).toList==w11_.toList) else false) (fun h5=>have _:((F29 (all.getD (Int.toNat i40) default) 0).toList==w10_.toList)=true:=(Qk h5); have _:((F29 (all.getD (Int.toNat i40) default) 2).toList==w11_.toList)=true:=(Qw h5); fiB true (F22 all) (finR (Qr hI0 (condT h2 (condT h5 rfl))) rfl)) (fun h5=>ai (iok (i40+1) (by omega)) (bk22_0 all i0 m0 (i40+1) hl0 (Qe hI0 (condT h2 (condF h5 rfl))) (by refine ⟨?_,?_⟩ <;> omega)))))))) (fun h2 _=>have hD0_6:Qyp all=Lp.done i40:=Ql hI0 (condF h2 rfl); fiB false (F22 all) (finD hD0_6 rfl))) (i0.1-1) i0.2 (un22_0 all i0 hi0))) (by kernel_rfl)
def Xi (all:List l52Cut) (name:ByteArray):(Int×Int)→Lp (Int×Int) Int:=fun (n,i40) =>
 bif (decide (i40<(all.length:Int))) then (bif (bif ((F29 (all.getD (Int.toNat i40) default) 0).toList==(⟨#[114,117,108,101]⟩:ByteArray).toList) then ((F29 (all.getD (Int.toNat i40) default) 1).toList==name.toList) else false) then (.next ((n+1),(i40+1))) else (.next (n,(i40+1)))) else (.done (n,i40))
def F41 (all:List l52Cut) (name:ByteArray):Int :=
 (runL (Xi all name) ((Int.toNat ((all.length:Int)-0))+1) (0,0)).fin (fun r=>r) (fun (n,i40)=>n)
abbrev Qag (all:List l52Cut):Nat×(Int×Int):=(((Int.toNat ((all.length:Int)-0))+1),(0,0))
abbrev Qli (all:List l52Cut) (m39:Nat) (n:Int) (i40:Int):Prop:=Int.toNat ((all.length:Int)-i40)<m39∧(0:Int)≤n∧(n:Int)≤i40∧(0:Int)≤n∧(0:Int)≤i40
abbrev Qxj (all:List l52Cut) (name:ByteArray):Lp (Int×Int) Int:=LpX (Xi all name) (Qag all)
abbrev El (all:List l52Cut) (name:ByteArray) (i:Nat×(Int×Int)):Prop:=LpJ (Xi all name) (Qag all) i (Qli all i.1 i.2.1 i.2.2)
abbrev Qtc (all:List l52Cut) (name:ByteArray) (i:Nat×(Int×Int)) (m39:Nat) (n:Int) (i40:Int):Prop:=LpH (Xi all name) (Qag all) i m39 (n,i40) (Qli all (m39+1) n i40)
abbrev Uap (all:List l52Cut) (name:ByteArray) (n:Int) (i40:Int) (n_:Int) (i40_:Int) (K39:Prop):Prop:=(Rf (.string name))∧((.int .i64 n:Value)=.int .i64 n_)∧((.int .i64 i40:Value)=.int .i64 i40_)∧(Im (.l 1 Qj all))∧K39
theorem un41_0 (all:List l52Cut) (name:ByteArray) (i:Nat×(Int×Int)) (h:El all name i):Qtc all name i (i.1-1) i.2.1 i.2.2:=⟨hd1 h.1 h.2.1,hd3 h.2.1,hd2 h.2.1,h.2.2⟩
theorem Qzh (all:List l52Cut) (name:ByteArray) (i:Nat×(Int×Int)) (m39:Nat) (n:Int) (i40:Int) (hl:m39<i.1) (e:runL (Xi all name) m39 (n,i40)=Qxj all name) (h:Qli all m39 n i40):∃ j:Nat×(Int×Int),Uap all name n i40 j.2.1 j.2.2 (El all name j∧j.1<i.1):=⟨(m39,(n,i40)),rfl,rfl,rfl,Imp.refl _,⟨e,h⟩,hl⟩
theorem en41_0 (all:List l52Cut) (name:ByteArray) (h:(0:Int)≤0∧(0:Int)≤0∧(0:Int)≤0∧(0:Int)≤0):Uap all name 0 0 0 0 (El all name (Qag all)):=⟨rfl,rfl,rfl,Imp.refl _,rfl,Nat.lt_succ_self _,h⟩
def S41 (all:List l52Cut) (name:ByteArray):Spec:=⟨[.r (.c (.l 1 Qj all)),.r (.c (.v (.string name)))],.v (vI (F41 all name)),True⟩
theorem ok41 (all:List l52Cut) (name:ByteArray):(S41 all name).ok Tryz.prog 41 :=
 Qi mixed (fn:=Tryz.f41) (ct:=.seqk [(0,0)] .no (.seq .no (.seq (.seqk [(0,0)] .no (.blk (.loop (ι:=Nat×(Int×Int)) (fun i=>(fun (n:Int) (i40:Int)=>(⟨[(0,some (.h 0 0)),(1,some (.v (.string name))),(5,some (.v (vI n))),(6,some (.v (vI i40)))],[(0,some (.shr none (.l 1 Qj all)))],1⟩:St)) i.2.1 i.2.2) (El all name) (fun i=>i.1) (Qag all) (fun i=>(fun (n:Int) (i40:Int)=>(.seq (.seq .no (.cond .no .no)) (.seq (.blk (.seq (.reg [(4,kh29 (all.getD (Int.toNat i40) default) 0),(11,kh29 (all.getD (Int.toNat i40) default) 1)]) (.cond (.reg [(1,.bnd)]) .no))) (.reg [(1,.bnd)])))) i.2.1 i.2.2)))) (.seq .no .no)))) Tryz.func41 (fun (_:True)=>kn all fun _=>kn all fun _=>ai (en41_0 all name (by refine ⟨?_,?_,?_,?_⟩ <;> omega)) (fun (i0:Nat×(Int×Int)) (hi0:El all name i0)=>(fun (m0:Nat) (n:Int) (i40:Int) (hh0:Qtc all name i0 m0 n i40)=>have hI0:=hh0.1; have hl0:=hh0.2.1; have _:=hh0.2.2.1; have _:=hh0.2.2.2; ifd (i40<(all.length:Int)) (fun h2 _=>ai (by omega:ib i40 all) (kc29 (all.getD (Int.toNat i40) default) 0 (by omega) (ai (fun k3:((F29 (all.getD (Int.toNat i40) default) 0).toList==w9_.toList)=true=>(by omega:ib i40 all)) (kg29 ((F29 (all.getD (Int.toNat i40) default) 0).toList==w9_.toList) true (all.getD (Int.toNat i40) default) 1 (fun k4=>(by omega)) (ifb (bif ((F29 (all.getD (Int.toNat i40) default) 0).toList==w9_.toList) then ((F29 (all.getD (Int.toNat i40) default) 1).toList==name.toList) else false) (fun h5=>have _:((F29 (all.getD (Int.toNat i40) default) 0).toList==w9_.toList)=true:=(Qk h5); have _:=(Qw h5); ai (iok (n+1) (by omega)) (ai (iok (i40+1) (by omega)) (Qzh all name i0 m0 (n+1) (i40+1) hl0 (Qe hI0 (condT h2 (condT h5 rfl))) (by refine ⟨?_,?_,?_,?_,?_⟩ <;> omega)))) (fun h5=>ai (iok (i40+1) (by omega)) (Qzh all name i0 m0 n (i40+1) hl0 (Qe hI0 (condT h2 (condF h5 rfl))) (by refine ⟨?_,?_,?_,?_,?_⟩ <;> omega)))))))) (fun h2 _=>have hD0_6:Qxj all name=Lp.done (n,i40):=Ql hI0 (condF h2 rfl); fiI n (F41 all name) (finD hD0_6 rfl))) (i0.1-1) i0.2.1 i0.2.2 (un41_0 all name i0 hi0))) (by kernel_rfl)
theorem kg41 {K_:Prop} (c_ b_:Bool) (all:List l52Cut) (name:ByteArray) (k_:K_):(c_=b_→True)∧(c_=b_→Imp (.l 1 Qj all) (.l 1 Qj all))∧(c_=b_→Imp (.v (.string name)) (.v (.string name)))∧K_:=⟨fun _=>trivial,fun _=>Imp.refl _,fun _=>Imp.refl _,k_⟩
abbrev kh41 (all:List l52Cut) (name:ByteArray):Hint true Tryz.prog:=.call 41 (S41 all name) (ok41 all name) none
def Xd (all:List l52Cut):Int→Lp Int Bool:=fun i40 =>
 bif (decide (i40<(all.length:Int))) then (bif (bif (bif ((F29 (all.getD (Int.toNat i40) default) 0).toList==(⟨#[112,111,114,116]⟩:ByteArray).toList) then (!((F29 (all.getD (Int.toNat i40) default) 4).toList==(⟨#[]⟩:ByteArray).toList)) else false) then ((F41 all (F29 (all.getD (Int.toNat i40) default) 4))==0) else false) then (.ret false) else (bif (bif ((F29 (all.getD (Int.toNat i40) default) 0).toList==(⟨#[114,117,108,101]⟩:ByteArray).toList) then decide ((F41 all (F29 (all.getD (Int.toNat i40) default) 1))>12) else false) then (.ret false) else (.next (i40+1)))) else (.done i40)
def F23 (all:List l52Cut):Bool :=
 (runL (Xd all) ((Int.toNat ((all.length:Int)-0))+1) 0).fin (fun r=>r) (fun i40=>true)
abbrev Qac (all:List l52Cut):Nat×Int:=(((Int.toNat ((all.length:Int)-0))+1),0)
abbrev Qkc (all:List l52Cut) (m39:Nat) (i40:Int):Prop:=Int.toNat ((all.length:Int)-i40)<m39∧(0:Int)≤i40
abbrev Qye (all:List l52Cut):Lp Int Bool:=LpX (Xd all) (Qac all)
abbrev Qbl (all:List l52Cut) (i:Nat×Int):Prop:=LpJ (Xd all) (Qac all) i (Qkc all i.1 i.2)
abbrev Qum (all:List l52Cut) (i:Nat×Int) (m39:Nat) (i40:Int):Prop:=LpH (Xd all) (Qac all) i m39 i40 (Qkc all (m39+1) i40)
abbrev Quv (all:List l52Cut) (i40:Int) (i40_:Int) (K39:Prop):Prop:=((.int .i64 i40:Value)=.int .i64 i40_)∧(Im (.l 1 Qj all))∧K39
theorem un23_0 (all:List l52Cut) (i:Nat×Int) (h:Qbl all i):Qum all i (i.1-1) i.2:=⟨hd1 h.1 h.2.1,hd3 h.2.1,hd2 h.2.1,h.2.2⟩
theorem bk23_0 (all:List l52Cut) (i:Nat×Int) (m39:Nat) (i40:Int) (hl:m39<i.1) (e:runL (Xd all) m39 i40=Qye all) (h:Qkc all m39 i40):∃ j:Nat×Int,Quv all i40 j.2 (Qbl all j∧j.1<i.1):=⟨(m39,i40),rfl,Imp.refl _,⟨e,h⟩,hl⟩
theorem en23_0 (all:List l52Cut) (h:(0:Int)≤0):Quv all 0 0 (Qbl all (Qac all)):=⟨rfl,Imp.refl _,rfl,Nat.lt_succ_self _,h⟩
def S23 (all:List l52Cut):Spec:=⟨[.r (.c (.l 1 Qj all))],.v (.bool (F23 all)),True⟩
abbrev Uo (all:List l52Cut) (i40:Int):=(all.getD (Int.toNat i40) default)
theorem ok23 (all:List l52Cut):(S23 all).ok Tryz.prog 23 :=
 Qi mixed (fn:=Tryz.f23) (ct:=.seqk [(0,0)] .no (.seq (.seqk [(0,0)] .no (.blk (.loop (ι:=Nat×Int) (fun i=>(fun (i40:Int)=>(⟨[(0,some (.h 0 0)),(3,some (.v (vI i40)))],[(0,some (.shr none (.l 1 Qj all)))],1⟩:St)) i.2) (Qbl all) (fun i=>i.1) (Qac all) (fun i=>(fun (i40:Int)=>(.seq (.seq .no (.cond .no .no)) (.seq (.blk (.seq (.seq (.reg [(4,kh29 (Uo all i40) 0),(11,kh29 (Uo all i40) 4),(20,kh29 (Uo all i40) 4),(21,kh41 all (F29 (Uo all i40) 4))]) (.cond (.seq .no .no) .no)) (.seq (.reg [(4,kh29 (Uo all i40) 0),(12,kh29 (Uo all i40) 1),(13,kh41 all (F29 (Uo all i40) 1))]) (.cond (.seq .no .no) .no)))) (.reg [(1,.bnd)])))) i.2)))) (.seq .no .no))) Tryz.func23 (fun (_:True)=>kn all fun _=>kn all fun _=>ai (en23_0 all (by omega)) (fun (i0:Nat×Int) (hi0:Qbl all i0)=>(fun (m0:Nat) (i40:Int) (hh0:Qum all i0 m0 i40)=>have hI0:=hh0.1; have hl0:=hh0.2.1; have _:=hh0.2.2.1; have _:=hh0.2.2.2; ifd (i40<(all.length:Int)) (fun h2 _=>ai (by omega:ib i40 all) (kc29 (Uo all i40) 0 (by omega) (ai (fun k3:((F29 (Uo all i40) 0).toList==w7_.toList)=true=>(by omega:ib i40 all)) (kg29 ((F29 (Uo all i40) 0).toList==w7_.toList) true (Uo all i40) 4 (fun k4=>(by omega)) (ai (fun k5:(bif ((F29 (Uo all i40) 0).toList==w7_.toList) then (!((F29 (Uo all i40) 4).toList==w13_.toList)) else false)=true=>have _:((F29 (Uo all i40) 0).toList==w7_.toList)=true:=(Qk k5); have _:(!((F29 (Uo all i40) 4).toList==w13_.toList))=true:=(Qw k5); (by omega:ib i40 all)) (kg29 (bif ((F29 (Uo all i40) 0).toList==w7_.toList) then (!((F29 (Uo all i40) 4).toList==w13_.toList)) else false) true (Uo all i40) 4 (fun k6=>have _:((F29 (Uo all i40) 0).toList==w7_.toList)=true:=(Qk k6); have _:(!((F29 (Uo all i40) 4).toList==w13_.toList))=true:=(Qw k6); (by omega)) (kg41 (bif ((F29 (Uo all i40) 0).toList==w7_.toList) then (!((F29 (Uo all i40) 4).toList==w13_.toList)) else false) true all (F29 (Uo all i40) 4) (ifb (bif (bif ((F29 (Uo all i40) 0).toList==w7_.toList) then (!((F29 (Uo all i40) 4).toList==w13_.toList)) else false) then ((F41 all (F29 (Uo all i40) 4))==0) else false) (fun h8=>have _:((F29 (Uo all i40) 0).toList==w7_.toList)=true:=(Qk (Qk h8)); have _:(!((F29 (Uo all i40) 4).toList==w13_.toList))=true:=(Qw (Qk h8)); have _:=eq_of_beq (Qw h8); fiB false (F23 all) (finR (Qr hI0 (condT h2 (condT h8 rfl))) rfl)) (fun h8=>ai (by omega:ib i40 all) (kc29 (Uo all i40) 0 (by omega) (ai (fun k9:((F29 (Uo all i40) 0).toList==w9_.toList)=true=>(by omega:ib i40 all)) (kg29 ((F29 (Uo all i40) 0).toList==w9_.toList) true (Uo all i40) 1 (fun k10=>(by omega)) (kg41 ((F29 (Uo all i40) 0).toList==w9_.toList) true all (F29 (Uo all i40) 1) (ifb (bif ((F29 (Uo all i40) 0).toList==w9_.toList) then decide ((F41 all (F29 (Uo all i40) 1))>12) else false) (fun h12=>have _:((F29 (Uo all i40) 0).toList==w9_.toList)=true:=(Qk h12); have _:=of_decide_eq_true (Qw h12); fiB false (F23 all) (finR (Qr hI0 (condT h2 (condF h8 (condT h12 rfl)))) rfl)) (fun h12=>ai (iok (i40+1) (by omega)) (bk23_0 all i0 m0 (i40+1) hl0 (Qe hI0 (condT h2 (condF h8 (condF h12 rfl)))) (by refine ⟨?_,?_⟩ <;> omega))))))))))))))))) (fun h2 _=>have hD0_13:Qye all=Lp.done i40:=Ql hI0 (condF h2 rfl); fiB true (F23 all) (finD hD0_13 rfl))) (i0.1-1) i0.2 (un23_0 all i0 hi0))) (by kernel_rfl)
def Xe (all:List l52Cut) (i40:Int):Int→Lp Int Bool:=fun k =>
 bif (decide (k<i40)) then (bif (bif (!((F29 (all.getD (Int.toNat i40) default) 0).toList==(⟨#[112,111,114,116]⟩:ByteArray).toList)) then true else (!((F29 (all.getD (Int.toNat k) default) 0).toList==(⟨#[112,111,114,116]⟩:ByteArray).toList))) then (.next (k+1)) else (bif (bif decide ((F42 (F29 (all.getD (Int.toNat i40) default) 2)).1<(IntKind.i64.wrap ((F42 (F29 (all.getD (Int.toNat k) default) 2)).1+(F42 (F29 (all.getD (Int.toNat k) default) 2)).2))) then decide ((F42 (F29 (all.getD (Int.toNat k) default) 2)).1<(IntKind.i64.wrap ((F42 (F29 (all.getD (Int.toNat i40) default) 2)).1+(F42 (F29 (all.getD (Int.toNat i40) default) 2)).2))) else false) then (.ret false) else (.next (k+1)))) else (.done k)
def Bg (all:List l52Cut):Int→Lp Int Bool:=fun i40 =>
 bif (decide (i40<(all.length:Int))) then ((runL (Xe all i40) ((Int.toNat (i40-0))+1) 0).fin Lp.ret (fun k=>.next (i40+1))) else (.done i40)
def F24 (all:List l52Cut):Bool :=
 (runL (Bg all) ((Int.toNat ((all.length:Int)-0))+1) 0).fin (fun r=>r) (fun i40=>true)
abbrev Ev (i40:Int):Nat×Int:=(((Int.toNat (i40-0))+1),0)
abbrev Qmt (i40:Int) (m39:Nat) (k:Int):Prop:=Int.toNat (i40-k)<m39∧(0:Int)≤k
abbrev Qyr (all:List l52Cut) (i40:Int):Lp Int Bool:=LpX (Xe all i40) (Ev i40)
abbrev Tu (all:List l52Cut) (i40:Int) (i:Nat×Int):Prop:=LpJ (Xe all i40) (Ev i40) i (Qmt i40 i.1 i.2)
abbrev Qvc (all:List l52Cut) (i40:Int) (i:Nat×Int) (m39:Nat) (k:Int):Prop:=LpH (Xe all i40) (Ev i40) i m39 k (Qmt i40 (m39+1) k)
abbrev Qvi (all:List l52Cut) (i40:Int) (k:Int) (k_:Int) (K39:Prop):Prop:=(Rf (.int .i64 i40))∧((.int .i64 k:Value)=.int .i64 k_)∧(Im (.l 1 Qj all))∧K39
theorem un24_1 (all:List l52Cut) (i40:Int) (i:Nat×Int) (h:Tu all i40 i):Qvc all i40 i (i.1-1) i.2:=⟨hd1 h.1 h.2.1,hd3 h.2.1,hd2 h.2.1,h.2.2⟩
theorem Qyx (all:List l52Cut) (i40:Int) (i:Nat×Int) (m39:Nat) (k:Int) (hl:m39<i.1) (e:runL (Xe all i40) m39 k=Qyr all i40) (h:Qmt i40 m39 k):∃ j:Nat×Int,Qvi all i40 k j.2 (Tu all i40 j∧j.1<i.1):=⟨(m39,k),rfl,rfl,Imp.refl _,⟨e,h⟩,hl⟩
theorem en24_1 (all:List l52Cut) (i40:Int) (h:(0:Int)≤0):Qvi all i40 0 0 (Tu all i40 (Ev i40)):=⟨rfl,rfl,Imp.refl _,rfl,Nat.lt_succ_self _,h⟩
abbrev Rq (all:List l52Cut):Nat×Int:=(((Int.toNat ((all.length:Int)-0))+1),0)
abbrev Qll (all:List l52Cut) (m39:Nat) (i40:Int):Prop:=Int.toNat ((all.length:Int)-i40)<m39∧(0:Int)≤i40
abbrev Qvl (all:List l52Cut):Lp Int Bool:=LpX (Bg all) (Rq all)
abbrev Qce (all:List l52Cut) (i:Nat×Int):Prop:=LpJ (Bg all) (Rq all) i (Qll all i.1 i.2)
abbrev Qtl (all:List l52Cut) (i:Nat×Int) (m39:Nat) (i40:Int):Prop:=LpH (Bg all) (Rq all) i m39 i40 (Qll all (m39+1) i40)
abbrev Ubc (all:List l52Cut) (i40:Int) (i40_:Int) (K39:Prop):Prop:=((.int .i64 i40:Value)=.int .i64 i40_)∧(Im (.l 1 Qj all))∧K39
theorem un24_0 (all:List l52Cut) (i:Nat×Int) (h:Qce all i):Qtl all i (i.1-1) i.2:=⟨hd1 h.1 h.2.1,hd3 h.2.1,hd2 h.2.1,h.2.2⟩
theorem bk24_0 (all:List l52Cut) (i:Nat×Int) (m39:Nat) (i40:Int) (hl:m39<i.1) (e:runL (Bg all) m39 i40=Qvl all) (h:Qll all m39 i40):∃ j:Nat×Int,Ubc all i40 j.2 (Qce all j∧j.1<i.1):=⟨(m39,i40),rfl,Imp.refl _,⟨e,h⟩,hl⟩
theorem en24_0 (all:List l52Cut) (h:(0:Int)≤0):Ubc all 0 0 (Qce all (Rq all)):=⟨rfl,Imp.refl _,rfl,Nat.lt_succ_self _,h⟩
def S24 (all:List l52Cut):Spec:=⟨[.r (.c (.l 1 Qj all))],.v (.bool (F24 all)),(∀ k j:Nat,((all.getD k default).w.getD j default).size≤1048576)⟩
abbrev Jy (all:List l52Cut) (i40:Int):=(all.getD (Int.toNat i40) default)
abbrev Bs (all:List l52Cut) (k:Int):=(all.getD (Int.toNat k) default)
theorem ok24 (all:List l52Cut):(S24 all).ok Tryz.prog 24 :=
 Qi mixed (fn:=Tryz.f24) (ct:=.seqk [(0,0)] .no (.seq (.seqk [(0,0)] .no (.blk (.loop (ι:=Nat×Int) (fun i=>(fun (i40:Int)=>(⟨[(0,some (.h 0 0)),(3,some (.v (vI i40)))],[(0,some (.shr none (.l 1 Qj all)))],1⟩:St)) i.2) (Qce all) (fun i=>i.1) (Rq all) (fun i=>(fun (i40:Int)=>(.seq (.seq .no (.cond .no .no)) (.seq (.blk (.seqk [(0,0)] .no (.blk (.loop (ι:=Nat×Int) (fun i=>(fun (k:Int)=>(⟨[(0,some (.h 0 0)),(3,some (.v (vI i40))),(4,some (.v (vI k)))],[(0,some (.shr none (.l 1 Qj all)))],1⟩:St)) i.2) (Tu all i40) (fun i=>i.1) (Ev i40) (fun i=>(fun (k:Int)=>(.seq (.seq .no (.cond .no .no)) (.seq (.blk (.seq (.seq (.reg [(4,kh29 (Jy all i40) 0),(11,kh29 (Bs all k) 0)]) (.cond .no .no)) (.seq (.reg [(4,kh29 (Jy all i40) 2),(5,kh42 (F29 (Jy all i40) 2))]) (.seq (.reg [(4,kh29 (Bs all k) 2),(5,kh42 (F29 (Bs all k) 2))]) (.seq .no (.cond (.seq .no .no) .no)))))) (.reg [(1,.bnd)])))) i.2))))) (.reg [(1,.bnd)])))) i.2)))) (.seq .no .no))) Tryz.func24 (fun (hpre0:∀ k j:Nat,((all.getD k default).w.getD j default).size≤1048576)=>kn all fun _=>kn all fun _=>ai (en24_0 all (by omega)) (fun (i0:Nat×Int) (hi0:Qce all i0)=>(fun (m0:Nat) (i40:Int) (hh0:Qtl all i0 m0 i40)=>have hI0:=hh0.1; have hl0:=hh0.2.1; have _:=hh0.2.2.1; have _:=hh0.2.2.2; ifd (i40<(all.length:Int)) (fun h2 _=>kn all fun _=>ai (en24_1 all i40 (by omega)) (fun (i1:Nat×Int) (hi1:Tu all i40 i1)=>(fun (m1:Nat) (k:Int) (hh1:Qvc all i40 i1 m1 k)=>have hI1:=hh1.1; have hl1:=hh1.2.1; have _:=hh1.2.2.1; have _:=hh1.2.2.2; ifd (k<i40) (fun h4 _=>ai (by omega:ib i40 all) (kc29 (Jy all i40) 0 (by omega) (ai (fun k5:(!((F29 (Jy all i40) 0).toList==w7_.toList))=false=>(by omega:ib k all)) (kg29 (!((F29 (Jy all i40) 0).toList==w7_.toList)) false (Bs all k) 0 (fun k6=>(by omega)) (ifb (bif (!((F29 (Jy all i40) 0).toList==w7_.toList)) then true else (!((F29 (Bs all k) 0).toList==w7_.toList))) (fun h7=>ai (iok (k+1) (by omega)) (Qyx all i40 i1 m1 (k+1) hl1 (Qe hI1 (condT h4 (condT h7 rfl))) (by refine ⟨?_,?_⟩ <;> omega))) (fun h7=>have _:(!((F29 (Jy all i40) 0).toList==w7_.toList))=false:=(orF1 h7); have _:(!((F29 (Bs all k) 0).toList==w7_.toList))=false:=(orF2 h7); ai (by omega:ib i40 all) (kc29 (Jy all i40) 2 (by omega) (kc42 (F29 (Jy all i40) 2) (by exact Wc all (by assumption) _ _) (ai (by omega:ib k all) (kc29 (Bs all k) 2 (by omega) (kc42 (F29 (Bs all k) 2) (by exact Wc all (by assumption) _ _) (ifb (bif decide ((F42 (F29 (Jy all i40) 2)).1<(IntKind.i64.wrap ((F42 (F29 (Bs all k) 2)).1+(F42 (F29 (Bs all k) 2)).2))) then decide ((F42 (F29 (Bs all k) 2)).1<(IntKind.i64.wrap ((F42 (F29 (Jy all i40) 2)).1+(F42 (F29 (Jy all i40) 2)).2))) else false) (fun h8=>have _:=of_decide_eq_true (Qk h8); have _:=of_decide_eq_true (Qw h8); fiB false (F24 all) (finR (Qr hI0 (condT h2 (finR (Qr hI1 (condT h4 (condF h7 (condT h8 rfl)))) rfl))) rfl)) (fun h8=>ai (iok (k+1) (by omega)) (Qyx all i40 i1 m1 (k+1) hl1 (Qe hI1 (condT h4 (condF h7 (condF h8 rfl)))) (by refine ⟨?_,?_⟩ <;> omega))))))))))))))) (fun h4 _=>have hD1_9:Qyr all i40=Lp.done k:=Ql hI1 (condF h4 rfl); ai (iok (i40+1) (by omega)) (bk24_0 all i0 m0 (i40+1) hl0 (Qe hI0 (condT h2 (finD hD1_9 rfl))) (by refine ⟨?_,?_⟩ <;> omega)))) (i1.1-1) i1.2 (un24_1 all i40 i1 hi1))) (fun h2 _=>have hD0_10:Qvl all=Lp.done i40:=Ql hI0 (condF h2 rfl); fiB true (F24 all) (finD hD0_10 rfl))) (i0.1-1) i0.2 (un24_0 all i0 hi0))) (by kernel_rfl)
def Bb (all:List l52Cut) (addr:Int):Int→Lp Int Bool:=fun i40 =>
 bif (decide (i40<(all.length:Int))) then (bif ((F29 (all.getD (Int.toNat i40) default) 0).toList==(⟨#[112,111,114,116]⟩:ByteArray).toList) then (bif (bif decide (addr>(F42 (F29 (all.getD (Int.toNat i40) default) 2)).1) then decide (addr<(IntKind.i64.wrap ((F42 (F29 (all.getD (Int.toNat i40) default) 2)).1+(F42 (F29 (all.getD (Int.toNat i40) default) 2)).2))) else false) then (.ret true) else (.next (i40+1))) else (.next (i40+1))) else (.done i40)
def F43 (all:List l52Cut) (addr:Int):Bool :=
 (runL (Bb all addr) ((Int.toNat ((all.length:Int)-0))+1) 0).fin (fun r=>r) (fun i40=>false)
abbrev Rw (all:List l52Cut):Nat×Int:=(((Int.toNat ((all.length:Int)-0))+1),0)
abbrev Qkg (all:List l52Cut) (m39:Nat) (i40:Int):Prop:=Int.toNat ((all.length:Int)-i40)<m39∧(0:Int)≤i40
abbrev Qsw (all:List l52Cut) (addr:Int):Lp Int Bool:=LpX (Bb all addr) (Rw all)
abbrev Qca (all:List l52Cut) (addr:Int) (i:Nat×Int):Prop:=LpJ (Bb all addr) (Rw all) i (Qkg all i.1 i.2)
abbrev Qxl (all:List l52Cut) (addr:Int) (i:Nat×Int) (m39:Nat) (i40:Int):Prop:=LpH (Bb all addr) (Rw all) i m39 i40 (Qkg all (m39+1) i40)
abbrev Qyz (all:List l52Cut) (addr:Int) (i40:Int) (i40_:Int) (K39:Prop):Prop:=(Rf (.int .i64 addr))∧((.int .i64 i40:Value)=.int .i64 i40_)∧(Im (.l 1 Qj all))∧K39
theorem un43_0 (all:List l52Cut) (addr:Int) (i:Nat×Int) (h:Qca all addr i):Qxl all addr i (i.1-1) i.2:=⟨hd1 h.1 h.2.1,hd3 h.2.1,hd2 h.2.1,h.2.2⟩
theorem Uam (all:List l52Cut) (addr:Int) (i:Nat×Int) (m39:Nat) (i40:Int) (hl:m39<i.1) (e:runL (Bb all addr) m39 i40=Qsw all addr) (h:Qkg all m39 i40):∃ j:Nat×Int,Qyz all addr i40 j.2 (Qca all addr j∧j.1<i.1):=⟨(m39,i40),rfl,rfl,Imp.refl _,⟨e,h⟩,hl⟩
theorem en43_0 (all:List l52Cut) (addr:Int) (h:(0:Int)≤0):Qyz all addr 0 0 (Qca all addr (Rw all)):=⟨rfl,rfl,Imp.refl _,rfl,Nat.lt_succ_self _,h⟩
def S43 (all:List l52Cut) (addr:Int):Spec:=⟨[.r (.c (.l 1 Qj all)),.r (.c (.v (vI addr)))],.v (.bool (F43 all addr)),(∀ k j:Nat,((all.getD k default).w.getD j default).size≤1048576)⟩
theorem ok43 (all:List l52Cut) (addr:Int):(S43 all addr).ok Tryz.prog 43 :=
 Qi mixed (fn:=Tryz.f43) (ct:=.seqk [(0,0)] .no (.seq (.seqk [(0,0)] .no (.blk (.loop (ι:=Nat×Int) (fun i=>(fun (i40:Int)=>(⟨[(0,some (.h 0 0)),(1,some (.v (vI addr))),(5,some (.v (vI i40)))],[(0,some (.shr none (.l 1 Qj all)))],1⟩:St)) i.2) (Qca all addr) (fun i=>i.1) (Rw all) (fun i=>(fun (i40:Int)=>(.seq (.seq .no (.cond .no .no)) (.seq (.blk (.seq (.reg [(4,kh29 (all.getD (Int.toNat i40) default) 0)]) (.cond (.seq (.reg [(4,kh29 (all.getD (Int.toNat i40) default) 2),(5,kh42 (F29 (all.getD (Int.toNat i40) default) 2))]) (.seq .no (.cond (.seq .no .no) .no))) .no))) (.reg [(1,.bnd)])))) i.2)))) (.seq .no .no))) Tryz.func43 (fun (hpre0:∀ k j:Nat,((all.getD k default).w.getD j default).size≤1048576)=>kn all fun _=>kn all fun _=>ai (en43_0 all addr (by omega)) (fun (i0:Nat×Int) (hi0:Qca all addr i0)=>(fun (m0:Nat) (i40:Int) (hh0:Qxl all addr i0 m0 i40)=>have hI0:=hh0.1; have hl0:=hh0.2.1; have _:=hh0.2.2.1; have _:=hh0.2.2.2; ifd (i40<(all.length:Int)) (fun h2 _=>ai (by omega:ib i40 all) (kc29 (all.getD (Int.toNat i40) default) 0 (by omega) (ifb ((F29 (all.getD (Int.toNat i40) default) 0).toList==w7_.toList) (fun h3=>ai (by omega:ib i40 all) (kc29 (all.getD (Int.toNat i40) default) 2 (by omega) (kc42 (F29 (all.getD (Int.toNat i40) default) 2) (by exact Wc all (by assumption) _ _) (ifb (bif decide (addr>(F42 (F29 (all.getD (Int.toNat i40) default) 2)).1) then decide (addr<(IntKind.i64.wrap ((F42 (F29 (all.getD (Int.toNat i40) default) 2)).1+(F42 (F29 (all.getD (Int.toNat i40) default) 2)).2))) else false) (fun h4=>have _:=of_decide_eq_true (Qk h4); have _:=of_decide_eq_true (Qw h4); fiB true (F43 all addr) (finR (Qr hI0 (condT h2 (condT h3 (condT h4 rfl)))) rfl)) (fun h4=>ai (iok (i40+1) (by omega)) (Uam all addr i0 m0 (i40+1) hl0 (Qe hI0 (condT h2 (condT h3 (condF h4 rfl)))) (by refine ⟨?_,?_⟩ <;> omega))))))) (fun h3=>ai (iok (i40+1) (by omega)) (Uam all addr i0 m0 (i40+1) hl0 (Qe hI0 (condT h2 (condF h3 rfl))) (by refine ⟨?_,?_⟩ <;> omega)))))) (fun h2 _=>have hD0_5:Qsw all addr=Lp.done i40:=Ql hI0 (condF h2 rfl); fiB false (F43 all addr) (finD hD0_5 rfl))) (i0.1-1) i0.2 (un43_0 all addr i0 hi0))) (by kernel_rfl)
theorem kc43 (all:List l52Cut) (addr:Int) {K_:Prop} (p0_:∀ k j:Nat,((all.getD k default).w.getD j default).size≤1048576) (k_:K_):(∀ k j:Nat,((all.getD k default).w.getD j default).size≤1048576)∧(Imp (.l 1 Qj all) (.l 1 Qj all))∧(Imp (.v (vI addr)) (.v (vI addr)))∧K_:=⟨p0_,Imp.refl _,Imp.refl _,k_⟩
abbrev kh43 (all:List l52Cut) (addr:Int):Hint true Tryz.prog:=.call 43 (S43 all addr) (ok43 all addr) none
def Xx (all:List l52Cut):Int→Lp Int Bool:=fun i40 =>
 bif (decide (i40<(all.length:Int))) then (bif ((F29 (all.getD (Int.toNat i40) default) 0).toList==(⟨#[114,111,117,116,101]⟩:ByteArray).toList) then (bif (!(F43 all (F44 (F29 (all.getD (Int.toNat i40) default) 2)))) then (.ret false) else (.next (i40+1))) else (bif ((F29 (all.getD (Int.toNat i40) default) 0).toList==(⟨#[112,101,101,114]⟩:ByteArray).toList) then (bif (!(F43 all (F44 (F29 (all.getD (Int.toNat i40) default) 1)))) then (.ret false) else (.next (i40+1))) else (.next (i40+1)))) else (.done i40)
def F25 (all:List l52Cut):Bool :=
 (runL (Xx all) ((Int.toNat ((all.length:Int)-0))+1) 0).fin (fun r=>r) (fun i40=>true)
abbrev Qcj (all:List l52Cut):Nat×Int:=(((Int.toNat ((all.length:Int)-0))+1),0)
abbrev Qkl (all:List l52Cut) (m39:Nat) (i40:Int):Prop:=Int.toNat ((all.length:Int)-i40)<m39∧(0:Int)≤i40
abbrev Qvk (all:List l52Cut):Lp Int Bool:=LpX (Xx all) (Qcj all)
abbrev Qbd (all:List l52Cut) (i:Nat×Int):Prop:=LpJ (Xx all) (Qcj all) i (Qkl all i.1 i.2)
abbrev Qte (all:List l52Cut) (i:Nat×Int) (m39:Nat) (i40:Int):Prop:=LpH (Xx all) (Qcj all) i m39 i40 (Qkl all (m39+1) i40)
abbrev Ubs (all:List l52Cut) (i40:Int) (i40_:Int) (K39:Prop):Prop:=((.int .i64 i40:Value)=.int .i64 i40_)∧(Im (.l 1 Qj all))∧K39
theorem un25_0 (all:List l52Cut) (i:Nat×Int) (h:Qbd all i):Qte all i (i.1-1) i.2:=⟨hd1 h.1 h.2.1,hd3 h.2.1,hd2 h.2.1,h.2.2⟩
theorem Qme (all:List l52Cut) (i:Nat×Int) (m39:Nat) (i40:Int) (hl:m39<i.1) (e:runL (Xx all) m39 i40=Qvk all) (h:Qkl all m39 i40):∃ j:Nat×Int,Ubs all i40 j.2 (Qbd all j∧j.1<i.1):=⟨(m39,i40),rfl,Imp.refl _,⟨e,h⟩,hl⟩
theorem en25_0 (all:List l52Cut) (h:(0:Int)≤0):Ubs all 0 0 (Qbd all (Qcj all)):=⟨rfl,Imp.refl _,rfl,Nat.lt_succ_self _,h⟩
def S25 (all:List l52Cut):Spec:=⟨[.r (.c (.l 1 Qj all))],.v (.bool (F25 all)),(∀ k j:Nat,((all.getD k default).w.getD j default).size≤1048576)⟩
abbrev Kd (all:List l52Cut) (i40:Int):=(all.getD (Int.toNat i40) default)
theorem ok25 (all:List l52Cut):(S25 all).ok Tryz.prog 25 :=
 Qi mixed (fn:=Tryz.f25) (ct:=.seqk [(0,0)] .no (.seq (.seqk [(0,0)] .no (.blk (.loop (ι:=Nat×Int) (fun i=>(fun (i40:Int)=>(⟨[(0,some (.h 0 0)),(3,some (.v (vI i40)))],[(0,some (.shr none (.l 1 Qj all)))],1⟩:St)) i.2) (Qbd all) (fun i=>i.1) (Qcj all) (fun i=>(fun (i40:Int)=>(.seq (.seq .no (.cond .no .no)) (.seq (.blk (.seq (.reg [(4,kh29 (Kd all i40) 0)]) (.blk (.seq .no (.cond (.seq (.reg [(5,kh29 (Kd all i40) 2),(6,kh44 (F29 (Kd all i40) 2)),(7,kh43 all (F44 (F29 (Kd all i40) 2)))]) (.cond (.seq .no .no) .no)) (.seq .no (.cond (.seq (.reg [(5,kh29 (Kd all i40) 1),(6,kh44 (F29 (Kd all i40) 1)),(7,kh43 all (F44 (F29 (Kd all i40) 1)))]) (.cond (.seq .no .no) .no)) .no))))))) (.reg [(1,.bnd)])))) i.2)))) (.seq .no .no))) Tryz.func25 (fun (hpre0:∀ k j:Nat,((all.getD k default).w.getD j default).size≤1048576)=>kn all fun _=>kn all fun _=>ai (en25_0 all (by omega)) (fun (i0:Nat×Int) (hi0:Qbd all i0)=>(fun (m0:Nat) (i40:Int) (hh0:Qte all i0 m0 i40)=>have hI0:=hh0.1; have hl0:=hh0.2.1; have _:=hh0.2.2.1; have _:=hh0.2.2.2; ifd (i40<(all.length:Int)) (fun h2 _=>ai (by omega:ib i40 all) (kc29 (Kd all i40) 0 (by omega) (ifb ((F29 (Kd all i40) 0).toList==w8_.toList) (fun h3=>ai (by omega:ib i40 all) (kc29 (Kd all i40) 2 (by omega) (kc44 (F29 (Kd all i40) 2) (by exact Wc all (by assumption) _ _) (kc43 all (F44 (F29 (Kd all i40) 2)) (by assumption) (ifb (!(F43 all (F44 (F29 (Kd all i40) 2)))) (fun h4=>fiB false (F25 all) (finR (Qr hI0 (condT h2 (condT h3 (condT h4 rfl)))) rfl)) (fun h4=>ai (iok (i40+1) (by omega)) (Qme all i0 m0 (i40+1) hl0 (Qe hI0 (condT h2 (condT h3 (condF h4 rfl)))) (by refine ⟨?_,?_⟩ <;> omega)))))))) (fun h3=>ifb ((F29 (Kd all i40) 0).toList==w6_.toList) (fun h5=>ai (by omega:ib i40 all) (kc29 (Kd all i40) 1 (by omega) (kc44 (F29 (Kd all i40) 1) (by exact Wc all (by assumption) _ _) (kc43 all (F44 (F29 (Kd all i40) 1)) (by assumption) (ifb (!(F43 all (F44 (F29 (Kd all i40) 1)))) (fun h6=>fiB false (F25 all) (finR (Qr hI0 (condT h2 (condF h3 (condT h5 (condT h6 rfl))))) rfl)) (fun h6=>ai (iok (i40+1) (by omega)) (Qme all i0 m0 (i40+1) hl0 (Qe hI0 (condT h2 (condF h3 (condT h5 (condF h6 rfl))))) (by refine ⟨?_,?_⟩ <;> omega)))))))) (fun h5=>ai (iok (i40+1) (by omega)) (Qme all i0 m0 (i40+1) hl0 (Qe hI0 (condT h2 (condF h3 (condF h5 rfl)))) (by refine ⟨?_,?_⟩ <;> omega))))))) (fun h2 _=>have hD0_7:Qvk all=Lp.done i40:=Ql hI0 (condF h2 rfl); fiB true (F25 all) (finD hD0_7 rfl))) (i0.1-1) i0.2 (un25_0 all i0 hi0))) (by kernel_rfl)
def Nf (all:List l52Cut):Int→Lp Int Int:=fun i40 =>
 bif (decide (i40<(all.length:Int))) then (bif ((F29 (all.getD (Int.toNat i40) default) 0).toList==(⟨#[110,97,116]⟩:ByteArray).toList) then (.ret i40) else (.next (i40+1))) else (.done i40)
def F45 (all:List l52Cut):Int :=
 (runL (Nf all) ((Int.toNat ((all.length:Int)-0))+1) 0).fin (fun r=>r) (fun i40=>(-1))
abbrev Qbs (all:List l52Cut):Nat×Int:=(((Int.toNat ((all.length:Int)-0))+1),0)
abbrev Qkf (all:List l52Cut) (m39:Nat) (i40:Int):Prop:=Int.toNat ((all.length:Int)-i40)<m39∧(0:Int)≤i40
abbrev Qup (all:List l52Cut):Lp Int Int:=LpX (Nf all) (Qbs all)
abbrev Qat (all:List l52Cut) (i:Nat×Int):Prop:=LpJ (Nf all) (Qbs all) i (Qkf all i.1 i.2)
abbrev Qty (all:List l52Cut) (i:Nat×Int) (m39:Nat) (i40:Int):Prop:=LpH (Nf all) (Qbs all) i m39 i40 (Qkf all (m39+1) i40)
abbrev Qua (all:List l52Cut) (i40:Int) (i40_:Int) (K39:Prop):Prop:=((.int .i64 i40:Value)=.int .i64 i40_)∧(Im (.l 1 Qj all))∧K39
theorem un45_0 (all:List l52Cut) (i:Nat×Int) (h:Qat all i):Qty all i (i.1-1) i.2:=⟨hd1 h.1 h.2.1,hd3 h.2.1,hd2 h.2.1,h.2.2⟩
theorem bk45_0 (all:List l52Cut) (i:Nat×Int) (m39:Nat) (i40:Int) (hl:m39<i.1) (e:runL (Nf all) m39 i40=Qup all) (h:Qkf all m39 i40):∃ j:Nat×Int,Qua all i40 j.2 (Qat all j∧j.1<i.1):=⟨(m39,i40),rfl,Imp.refl _,⟨e,h⟩,hl⟩
theorem en45_0 (all:List l52Cut) (h:(0:Int)≤0):Qua all 0 0 (Qat all (Qbs all)):=⟨rfl,Imp.refl _,rfl,Nat.lt_succ_self _,h⟩
def S45 (R:Int) (all:List l52Cut):Spec:=⟨[.r (.c (.l 1 Qj all))],.v (vI R),True⟩
theorem ok45 (all:List l52Cut):(S45 (F45 all) all).ok Tryz.prog 45 :=
 Qi mixed (fn:=Tryz.f45) (ct:=.seqk [(0,0)] .no (.seq (.seqk [(0,0)] .no (.blk (.loop (ι:=Nat×Int) (fun i=>(fun (i40:Int)=>(⟨[(0,some (.h 0 0)),(3,some (.v (vI i40)))],[(0,some (.shr none (.l 1 Qj all)))],1⟩:St)) i.2) (Qat all) (fun i=>i.1) (Qbs all) (fun i=>(fun (i40:Int)=>(.seq (.seq .no (.cond .no .no)) (.seq (.blk (.seq (.reg [(4,kh29 (all.getD (Int.toNat i40) default) 0)]) (.cond (.seq .no .no) .no))) (.reg [(1,.bnd)])))) i.2)))) (.seq .no .no))) Tryz.func45 (fun (_:True)=>kn all fun _=>kn all fun _=>ai (en45_0 all (by omega)) (fun (i0:Nat×Int) (hi0:Qat all i0)=>(fun (m0:Nat) (i40:Int) (hh0:Qty all i0 m0 i40)=>have hI0:=hh0.1; have hl0:=hh0.2.1; have _:=hh0.2.2.1; have _:=hh0.2.2.2; ifd (i40<(all.length:Int)) (fun h2 _=>ai (by omega:ib i40 all) (kc29 (all.getD (Int.toNat i40) default) 0 (by omega) (ifb ((F29 (all.getD (Int.toNat i40) default) 0).toList==w5_.toList) (fun h3=>fiI i40 (F45 all) (finR (Qr hI0 (condT h2 (condT h3 rfl))) rfl)) (fun h3=>ai (iok (i40+1) (by omega)) (bk45_0 all i0 m0 (i40+1) hl0 (Qe hI0 (condT h2 (condF h3 rfl))) (by refine ⟨?_,?_⟩ <;> omega)))))) (fun h2 _=>have hD0_4:Qup all=Lp.done i40:=Ql hI0 (condF h2 rfl); fiI (-1) (F45 all) (finD hD0_4 rfl))) (i0.1-1) i0.2 (un45_0 all i0 hi0))) (by kernel_rfl)
theorem as45 (all:List l52Cut):F45 all=(idxI (fun c=>((F29 c 0).toList==(⟨#[110,97,116]⟩:ByteArray).toList)) all):=by
 exact Wn (fun c=>((F29 c 0).toList==(⟨#[110,97,116]⟩:ByteArray).toList)) all (Nf all) (fun i=>rfl)
theorem oa45 (all:List l52Cut):(S45 (idxI (fun c=>((F29 c 0).toList==(⟨#[110,97,116]⟩:ByteArray).toList)) all) all).ok Tryz.prog 45:=by
 intro hp; have h:=ok45 all hp; rw [as45 all] at h; exact h
theorem g45_0 (all:List l52Cut):(idxI (fun c=>((F29 c 0).toList==(⟨#[110,97,116]⟩:ByteArray).toList)) all)<(all.length:Int):=by
 exact Bv _ all
theorem kg30 {K_:Prop} (c_ b_:Bool) (s:ByteArray) (p_:c_=b_→s.size≤1048576) (k_:K_):(c_=b_→s.size≤1048576)∧(c_=b_→Imp (.v (.string s)) (.v (.string s)))∧K_:=⟨p_,fun _=>Imp.refl _,k_⟩
def Vw (all:List l52Cut) (at':Int) (nat:l52Cut):Int→Lp Int Bool:=fun i40 =>
 bif (decide (i40<at')) then (bif (bif (bif (bif ((F29 (all.getD (Int.toNat i40) default) 0).toList==(⟨#[100,111,111,114]⟩:ByteArray).toList) then ((F29 (all.getD (Int.toNat i40) default) 1).toList==(F29 (all.getD (Int.toNat at') default) 1).toList) else false) then ((F29 (all.getD (Int.toNat i40) default) 3).toList==(F29 (all.getD (Int.toNat at') default) 3).toList) else false) then ((F29 (all.getD (Int.toNat i40) default) 4).toList==(F29 (all.getD (Int.toNat at') default) 4).toList) else false) then (.ret false) else (.next (i40+1))) else (.done i40)
def F46 (all:List l52Cut) (at':Int) (nat:l52Cut):Bool :=
 bif (bif (bif decide ((F44 (F29 (all.getD (Int.toNat at') default) 3))<(F42 (F29 nat 1)).1) then true else decide ((F44 (F29 (all.getD (Int.toNat at') default) 3))≥(IntKind.i64.wrap ((F42 (F29 nat 1)).1+(F42 (F29 nat 1)).2)))) then true else (decide ((F30 (F29 nat 3))≤F30 (F29 (all.getD (Int.toNat at') default) 2)∧F30 (F29 (all.getD (Int.toNat at') default) 2)≤(F30 (F29 nat 4))))) then false else ((runL (Vw all at' nat) ((Int.toNat (at'-0))+1) 0).fin (fun r=>r) (fun i40=>true))
abbrev Qbz (at':Int):Nat×Int:=(((Int.toNat (at'-0))+1),0)
abbrev Qni (at':Int) (m39:Nat) (i40:Int):Prop:=Int.toNat (at'-i40)<m39∧(0:Int)≤i40
abbrev Qww (all:List l52Cut) (at':Int) (nat:l52Cut):Lp Int Bool:=LpX (Vw all at' nat) (Qbz at')
abbrev Qam (all:List l52Cut) (at':Int) (nat:l52Cut) (i:Nat×Int):Prop:=LpJ (Vw all at' nat) (Qbz at') i (Qni at' i.1 i.2)
abbrev Qzn (all:List l52Cut) (at':Int) (nat:l52Cut) (i:Nat×Int) (m39:Nat) (i40:Int):Prop:=LpH (Vw all at' nat) (Qbz at') i m39 i40 (Qni at' (m39+1) i40)
abbrev Qxi (all:List l52Cut) (at':Int) (i40:Int) (i40_:Int) (K39:Prop):Prop:=(Rf (.int .i64 at'))∧((.int .i64 i40:Value)=.int .i64 i40_)∧(Im (.l 1 Qj all))∧(Ims (Qj (all.getD (Int.toNat at') default)))∧K39
theorem un46_0 (all:List l52Cut) (at':Int) (nat:l52Cut) (i:Nat×Int) (h:Qam all at' nat i):Qzn all at' nat i (i.1-1) i.2:=⟨hd1 h.1 h.2.1,hd3 h.2.1,hd2 h.2.1,h.2.2⟩
theorem bk46_0 (all:List l52Cut) (at':Int) (nat:l52Cut) (i:Nat×Int) (m39:Nat) (i40:Int) (hl:m39<i.1) (e:runL (Vw all at' nat) m39 i40=Qww all at' nat) (h:Qni at' m39 i40):∃ j:Nat×Int,Qxi all at' i40 j.2 (Qam all at' nat j∧j.1<i.1):=⟨(m39,i40),rfl,rfl,Imp.refl _,Imps.refl _,⟨e,h⟩,hl⟩
theorem en46_0 (all:List l52Cut) (at':Int) (nat:l52Cut) (h:(0:Int)≤0):Qxi all at' 0 0 (Qam all at' nat (Qbz at')):=⟨rfl,rfl,Imp.refl _,Imps.refl _,rfl,Nat.lt_succ_self _,h⟩
def S46 (all:List l52Cut) (at':Int) (nat:l52Cut):Spec:=⟨[.r (.c (.l 1 Qj all)),.r (.c (.v (vI at'))),.r (.g (Qj nat))],.v (.bool (F46 all at' nat)),0≤at'∧at'<(all.length:Int)∧(∀ j:Nat,(nat.w.getD j default).size≤1048576)∧(∀ k j:Nat,((all.getD k default).w.getD j default).size≤1048576)⟩
abbrev Yf (all:List l52Cut) (at':Int):=(all.getD (Int.toNat at') default)
abbrev Un (all:List l52Cut) (i40:Int):=(all.getD (Int.toNat i40) default)
abbrev Jc (all:List l52Cut) (at':Int):=(F44 (F29 (Yf all at') 3))
theorem ok46 (all:List l52Cut) (at':Int) (nat:l52Cut):(S46 all at' nat).ok Tryz.prog 46 :=
 Qi mixed (fn:=Tryz.f46) (ct:=.seqk [(0,0)] .no (.seq .no (.seq (.reg [(1,kh29 nat 1),(2,kh42 (F29 nat 1))]) (.seq (.reg [(1,kh29 (Yf all at') 3),(2,kh44 (F29 (Yf all at') 3))]) (.seq (.seq (.reg [(12,kh29 (Yf all at') 2),(14,kh29 nat 3),(15,kh30 (F29 nat 3)),(17,kh29 nat 4),(18,kh30 (F29 nat 4)),(19,Wy (F29 (Yf all at') 2) (F30 (F29 nat 3)) (F30 (F29 nat 4)))]) (.cond (.seq .no .no) .no)) (.seq (.seqk [(0,0),(7,0)] .no (.blk (.loop (ι:=Nat×Int) (fun i=>(fun (i40:Int)=>(⟨[(0,some (.h 0 0)),(1,some (.v (vI at'))),(7,some (.p 1 0)),(11,some (.v (vI i40)))],[(0,some (.shr none (.l 1 Qj all))),(1,some (.box 46 [.h 2 1])),(2,some (.mem none none (Qj (Yf all at'))))],3⟩:St)) i.2) (Qam all at' nat) (fun i=>i.1) (Qbz at') (fun i=>(fun (i40:Int)=>(.seq (.seq .no (.cond .no .no)) (.seq (.blk (.seq (.reg [(4,kh29 (Un all i40) 0),(11,kh29 (Un all i40) 1),(13,kh29 (Yf all at') 1),(21,kh29 (Un all i40) 3),(23,kh29 (Yf all at') 3),(31,kh29 (Un all i40) 4),(33,kh29 (Yf all at') 4)]) (.cond (.seq .no .no) .no))) (.reg [(1,.bnd)])))) i.2)))) (.seq .no .no))))))) Tryz.func46 (fun (hp:0≤at'∧at'<(all.length:Int)∧(∀ j:Nat,(nat.w.getD j default).size≤1048576)∧(∀ k j:Nat,((all.getD k default).w.getD j default).size≤1048576))=>have hpre0:=hp.1; have hpre1:=hp.2.1; have hpre2:=hp.2.2.1; have hpre3:=hp.2.2.2; kn all fun _=>ai (by omega:ib at' all) (kc29 nat 1 (by omega) (kc42 (F29 nat 1) (by first | exact Na (by assumption) _ | exact Wc all (by assumption) _ _) (kc29 (Yf all at') 3 (by omega) (kc44 (F29 (Yf all at') 3) (by first | exact Na (by assumption) _ | exact Wc all (by assumption) _ _) (kg29 (bif decide ((Jc all at')<(F42 (F29 nat 1)).1) then true else decide ((Jc all at')≥(IntKind.i64.wrap ((F42 (F29 nat 1)).1+(F42 (F29 nat 1)).2)))) false (Yf all at') 2 (fun k1=>have _:=of_decide_eq_false (orF1 k1); have _:=of_decide_eq_false (orF2 k1); (by omega)) (kg29 (bif decide ((Jc all at')<(F42 (F29 nat 1)).1) then true else decide ((Jc all at')≥(IntKind.i64.wrap ((F42 (F29 nat 1)).1+(F42 (F29 nat 1)).2)))) false nat 3 (fun k2=>have _:=of_decide_eq_false (orF1 k2); have _:=of_decide_eq_false (orF2 k2); (by omega)) (kg30 (bif decide ((Jc all at')<(F42 (F29 nat 1)).1) then true else decide ((Jc all at')≥(IntKind.i64.wrap ((F42 (F29 nat 1)).1+(F42 (F29 nat 1)).2)))) false (F29 nat 3) (fun k3=>have _:=of_decide_eq_false (orF1 k3); have _:=of_decide_eq_false (orF2 k3); (by first | exact Na (by assumption) _ | exact Wc all (by assumption) _ _)) (kg29 (bif decide ((Jc all at')<(F42 (F29 nat 1)).1) then true else decide ((Jc all at')≥(IntKind.i64.wrap ((F42 (F29 nat 1)).1+(F42 (F29 nat 1)).2)))) false nat 4 (fun k4=>have _:=of_decide_eq_false (orF1 k4); have _:=of_decide_eq_false (orF2 k4); (by omega)) (kg30 (bif decide ((Jc all at')<(F42 (F29 nat 1)).1) then true else decide ((Jc all at')≥(IntKind.i64.wrap ((F42 (F29 nat 1)).1+(F42 (F29 nat 1)).2)))) false (F29 nat 4) (fun k5=>have _:=of_decide_eq_false (orF1 k5); have _:=of_decide_eq_false (orF2 k5); (by first | exact Na (by assumption) _ | exact Wc all (by assumption) _ _)) (Jb (bif decide ((Jc all at')<(F42 (F29 nat 1)).1) then true else decide ((Jc all at')≥(IntKind.i64.wrap ((F42 (F29 nat 1)).1+(F42 (F29 nat 1)).2)))) false (F29 (Yf all at') 2) (F30 (F29 nat 3)) (F30 (F29 nat 4)) (fun k6=>have _:=of_decide_eq_false (orF1 k6); have _:=of_decide_eq_false (orF2 k6); (by first | exact Na (by assumption) _ | exact Wc all (by assumption) _ _)) (ifb (bif (bif decide ((Jc all at')<(F42 (F29 nat 1)).1) then true else decide ((Jc all at')≥(IntKind.i64.wrap ((F42 (F29 nat 1)).1+(F42 (F29 nat 1)).2)))) then true else (decide ((F30 (F29 nat 3))≤F30 (F29 (Yf all at') 2)∧F30 (F29 (Yf all at') 2)≤(F30 (F29 nat 4))))) (fun h7=>fiB false (F46 all at' nat) (condT h7 rfl)) (fun h7=>have _:=of_decide_eq_false (orF1 (orF1 h7)); have _:=of_decide_eq_false (orF2 (orF1 h7)); have _:=of_decide_eq_false (orF2 h7); kn all fun _=>kn (Yf all at').w fun _=>ai (en46_0 all at' nat (by omega)) (fun (i0:Nat×Int) (hi0:Qam all at' nat i0)=>(fun (m0:Nat) (i40:Int) (hh0:Qzn all at' nat i0 m0 i40)=>have hI0:=hh0.1; have hl0:=hh0.2.1; have _:=hh0.2.2.1; have _:=hh0.2.2.2; ifd (i40<at') (fun h9 _=>ai (by omega:ib i40 all) (kc29 (Un all i40) 0 (by omega) (ai (fun k10:((F29 (Un all i40) 0).toList==w3_.toList)=true=>(by omega:ib i40 all)) (kg29 ((F29 (Un all i40) 0).toList==w3_.toList) true (Un all i40) 1 (fun k11=>(by omega)) (kg29 ((F29 (Un all i40) 0).toList==w3_.toList) true (Yf all at') 1 (fun k12=>(by omega)) (ai (fun k13:(bif ((F29 (Un all i40) 0).toList==w3_.toList) then ((F29 (Un all i40) 1).toList==(F29 (Yf all at') 1).toList) else false)=true=>have _:((F29 (Un all i40) 0).toList==w3_.toList)=true:=(Qk k13); have _:=(Qw k13); (by omega:ib i40 all)) (kg29 (bif ((F29 (Un all i40) 0).toList==w3_.toList) then ((F29 (Un all i40) 1).toList==(F29 (Yf all at') 1).toList) else false) true (Un all i40) 3 (fun k14=>have _:((F29 (Un all i40) 0).toList==w3_.toList)=true:=(Qk k14); have _:=(Qw k14); (by omega)) (kg29 (bif ((F29 (Un all i40) 0).toList==w3_.toList) then ((F29 (Un all i40) 1).toList==(F29 (Yf all at') 1).toList) else false) true (Yf all at') 3 (fun k15=>have _:((F29 (Un all i40) 0).toList==w3_.toList)=true:=(Qk k15); have _:=(Qw k15); (by omega)) (ai (fun k16:(bif (bif ((F29 (Un all i40) 0).toList==w3_.toList) then ((F29 (Un all i40) 1).toList==(F29 (Yf all at') 1).toList) else false) then ((F29 (Un all i40) 3).toList==(F29 (Yf all at') 3).toList) else false)=true=>have _:((F29 (Un all i40) 0).toList==w3_.toList)=true:=(Qk (Qk k16)); have _:=(Qw (Qk k16)); have _:=(Qw k16); (by omega:ib i40 all)) (kg29 (bif (bif ((F29 (Un all i40) 0).toList==w3_.toList) then ((F29 (Un all i40) 1).toList==(F29 (Yf all at') 1).toList) else false) then ((F29 (Un all i40) 3).toList==(F29 (Yf all at') 3).toList) else false) true (Un all i40) 4 (fun k17=>have _:((F29 (Un all i40) 0).toList==w3_.toList)=true:=(Qk (Qk k17)); have _:=(Qw (Qk k17)); have _:=(Qw k17); (by omega)) (kg29 (bif (bif ((F29 (Un all i40) 0).toList==w3_.toList) then ((F29 (Un all i40) 1).toList==(F29 (Yf all at') 1).toList) else false) then ((F29 (Un all i40) 3).toList==(F29 (Yf all at') 3).toList) else false) true (Yf all at') 4 (fun k18=>have _:((F29 (Un all i40) 0).toList==w3_.toList)=true:=(Qk (Qk k18)); have _:=(Qw (Qk k18)); have _:=(Qw k18); (by omega)) (ifb (bif (bif (bif ((F29 (Un all i40) 0).toList==w3_.toList) then ((F29 (Un all i40) 1).toList==(F29 (Yf all at') 1).toList) else false) then ((F29 (Un all i40) 3).toList==(F29 (Yf all at') 3).toList) else false) then ((F29 (Un all i40) 4).toList==(F29 (Yf all at') 4).toList) else false) (fun h19=>have _:((F29 (Un all i40) 0).toList==w3_.toList)=true:=(Qk (Qk (Qk h19))); have _:=(Qw (Qk (Qk h19))); have _:=(Qw (Qk h19)); have _:=(Qw h19); fiB false (F46 all at' nat) (condF h7 (finR (Qr hI0 (condT h9 (condT h19 rfl))) rfl))) (fun h19=>ai (iok (i40+1) (by omega)) (bk46_0 all at' nat i0 m0 (i40+1) hl0 (Qe hI0 (condT h9 (condF h19 rfl))) (by refine ⟨?_,?_⟩ <;> omega))))))))))))))) (fun h9 _=>have hD0_20:Qww all at' nat=Lp.done i40:=Ql hI0 (condF h9 rfl); fiB true (F46 all at' nat) (condF h7 (finD hD0_20 rfl)))) (i0.1-1) i0.2 (un46_0 all at' nat i0 hi0))))))))))))))) (by kernel_rfl)
theorem kc45a (all:List l52Cut) {K_:Prop} (k_:((idxI (fun c=>((F29 c 0).toList==w5_.toList)) all)<(all.length:Int))→K_):(True)∧(Imp (.l 1 Qj all) (.l 1 Qj all))∧K_:=⟨trivial,Imp.refl _,k_ (g45_0 all)⟩
abbrev kh45a (all:List l52Cut):Hint true Tryz.prog:=.call 45 (S45 (idxI (fun c=>((F29 c 0).toList==w5_.toList)) all) all) (oa45 all) none
theorem kg46 {K_:Prop} (c_ b_:Bool) (all:List l52Cut) (at':Int) (nat:l52Cut) (p_:c_=b_→0≤at'∧at'<(all.length:Int)∧(∀ j:Nat,(nat.w.getD j default).size≤1048576)∧(∀ k j:Nat,((all.getD k default).w.getD j default).size≤1048576)) (k_:K_):(c_=b_→0≤at'∧at'<(all.length:Int)∧(∀ j:Nat,(nat.w.getD j default).size≤1048576)∧(∀ k j:Nat,((all.getD k default).w.getD j default).size≤1048576))∧(c_=b_→Imp (.l 1 Qj all) (.l 1 Qj all))∧(c_=b_→Imp (.v (vI at')) (.v (vI at')))∧(c_=b_→Imps (Qj nat) (Qj nat))∧K_:=⟨p_,fun _=>Imp.refl _,fun _=>Imp.refl _,fun _=>Imps.refl _,k_⟩
abbrev kh46 (all:List l52Cut) (at':Int) (nat:l52Cut):Hint true Tryz.prog:=.call 46 (S46 all at' nat) (ok46 all at' nat) none
def Ba (all:List l52Cut):(Int×Int)→Lp (Int×Int) Bool:=fun (doors,i40) =>
 bif (decide (i40<(all.length:Int))) then (bif (!((F29 (all.getD (Int.toNat i40) default) 0).toList==(⟨#[100,111,111,114]⟩:ByteArray).toList)) then (.next (doors,(i40+1))) else (bif (bif decide ((idxI (fun c=>((F29 c 0).toList==(⟨#[110,97,116]⟩:ByteArray).toList)) all)<0) then true else (!(F46 all i40 (all.getD (Int.toNat (idxI (fun c=>((F29 c 0).toList==(⟨#[110,97,116]⟩:ByteArray).toList)) all)) default)))) then (.ret false) else (.next ((doors+1),(i40+1))))) else (.done (doors,i40))
def F26 (all:List l52Cut):Bool :=
 (runL (Ba all) ((Int.toNat ((all.length:Int)-0))+1) (0,0)).fin (fun r=>r) (fun (doors,i40)=>bif (decide ((idxI (fun c=>((F29 c 0).toList==(⟨#[110,97,116]⟩:ByteArray).toList)) all)<0)) then true else (bif (bif decide (doors≤6) then (bif decide ((F44 (F29 (all.getD (Int.toNat (idxI (fun c=>((F29 c 0).toList==(⟨#[110,97,116]⟩:ByteArray).toList)) all)) default) 2))<(F42 (F29 (all.getD (Int.toNat (idxI (fun c=>((F29 c 0).toList==(⟨#[110,97,116]⟩:ByteArray).toList)) all)) default) 1)).1) then true else decide ((F44 (F29 (all.getD (Int.toNat (idxI (fun c=>((F29 c 0).toList==(⟨#[110,97,116]⟩:ByteArray).toList)) all)) default) 2))≥(IntKind.i64.wrap ((F42 (F29 (all.getD (Int.toNat (idxI (fun c=>((F29 c 0).toList==(⟨#[110,97,116]⟩:ByteArray).toList)) all)) default) 1)).1+(F42 (F29 (all.getD (Int.toNat (idxI (fun c=>((F29 c 0).toList==(⟨#[110,97,116]⟩:ByteArray).toList)) all)) default) 1)).2)))) else false) then decide ((F30 (F29 (all.getD (Int.toNat (idxI (fun c=>((F29 c 0).toList==(⟨#[110,97,116]⟩:ByteArray).toList)) all)) default) 3))≤(F30 (F29 (all.getD (Int.toNat (idxI (fun c=>((F29 c 0).toList==(⟨#[110,97,116]⟩:ByteArray).toList)) all)) default) 4))) else false))
abbrev To (all:List l52Cut):Nat×(Int×Int):=(((Int.toNat ((all.length:Int)-0))+1),(0,0))
abbrev Qkq (all:List l52Cut) (m39:Nat) (doors:Int) (i40:Int):Prop:=Int.toNat ((all.length:Int)-i40)<m39∧(0:Int)≤doors∧(doors:Int)≤i40∧(0:Int)≤doors∧(0:Int)≤i40
abbrev Qxm (all:List l52Cut):Lp (Int×Int) Bool:=LpX (Ba all) (To all)
abbrev Td (all:List l52Cut) (i:Nat×(Int×Int)):Prop:=LpJ (Ba all) (To all) i (Qkq all i.1 i.2.1 i.2.2)
abbrev Qyk (all:List l52Cut) (i:Nat×(Int×Int)) (m39:Nat) (doors:Int) (i40:Int):Prop:=LpH (Ba all) (To all) i m39 (doors,i40) (Qkq all (m39+1) doors i40)
abbrev Uba (all:List l52Cut) (doors:Int) (i40:Int) (doors_:Int) (i40_:Int) (K39:Prop):Prop:=(Rf (.int .i64 (idxI (fun c=>((F29 c 0).toList==w5_.toList)) all)))∧((.int .i64 doors:Value)=.int .i64 doors_)∧((.int .i64 i40:Value)=.int .i64 i40_)∧(Im (.l 1 Qj all))∧K39
theorem un26_0 (all:List l52Cut) (i:Nat×(Int×Int)) (h:Td all i):Qyk all i (i.1-1) i.2.1 i.2.2:=⟨hd1 h.1 h.2.1,hd3 h.2.1,hd2 h.2.1,h.2.2⟩
theorem Qxp (all:List l52Cut) (i:Nat×(Int×Int)) (m39:Nat) (doors:Int) (i40:Int) (hl:m39<i.1) (e:runL (Ba all) m39 (doors,i40)=Qxm all) (h:Qkq all m39 doors i40):∃ j:Nat×(Int×Int),Uba all doors i40 j.2.1 j.2.2 (Td all j∧j.1<i.1):=⟨(m39,(doors,i40)),rfl,rfl,rfl,Imp.refl _,⟨e,h⟩,hl⟩
theorem en26_0 (all:List l52Cut) (h:(0:Int)≤0∧(0:Int)≤0∧(0:Int)≤0∧(0:Int)≤0):Uba all 0 0 0 0 (Td all (To all)):=⟨rfl,rfl,rfl,Imp.refl _,rfl,Nat.lt_succ_self _,h⟩
def S26 (all:List l52Cut):Spec:=⟨[.r (.c (.l 1 Qj all))],.v (.bool (F26 all)),(∀ k j:Nat,((all.getD k default).w.getD j default).size≤1048576)⟩
theorem ok26 (all:List l52Cut):(S26 all).ok Tryz.prog 26 :=
 Qi mixed (fn:=Tryz.f26) (ct:=.seqk [(0,0)] .no (.seq (.reg [(1,kh45a all)]) (.seq .no (.seq (.seqk [(0,0)] .no (.blk (.loop (ι:=Nat×(Int×Int)) (fun i=>(fun (doors:Int) (i40:Int)=>(⟨[(0,some (.h 0 0)),(3,some (.v (vI (idxI (fun c=>((F29 c 0).toList==w5_.toList)) all)))),(4,some (.v (vI doors))),(5,some (.v (vI i40)))],[(0,some (.shr none (.l 1 Qj all)))],1⟩:St)) i.2.1 i.2.2) (Td all) (fun i=>i.1) (To all) (fun i=>(fun (doors:Int) (i40:Int)=>(.seq (.seq .no (.cond .no .no)) (.seq (.blk (.seq (.seq (.reg [(4,kh29 (all.getD (Int.toNat i40) default) 0)]) (.cond .no .no)) (.seq (.reg [(1,.bnd)]) (.seq (.reg [(9,kh46 all i40 (all.getD (Int.toNat (idxI (fun c=>((F29 c 0).toList==w5_.toList)) all)) default))]) (.cond (.seq .no .no) .no))))) (.reg [(1,.bnd)])))) i.2.1 i.2.2)))) (.seq (.seq .no (.cond (.seq .no .no) .no)) (.seq (.reg [(4,kh29 (all.getD (Int.toNat (idxI (fun c=>((F29 c 0).toList==w5_.toList)) all)) default) 1),(5,kh42 (F29 (all.getD (Int.toNat (idxI (fun c=>((F29 c 0).toList==w5_.toList)) all)) default) 1))]) (.seq (.reg [(4,kh29 (all.getD (Int.toNat (idxI (fun c=>((F29 c 0).toList==w5_.toList)) all)) default) 2),(5,kh44 (F29 (all.getD (Int.toNat (idxI (fun c=>((F29 c 0).toList==w5_.toList)) all)) default) 2))]) (.seq (.reg [(19,kh29 (all.getD (Int.toNat (idxI (fun c=>((F29 c 0).toList==w5_.toList)) all)) default) 3),(20,kh30 (F29 (all.getD (Int.toNat (idxI (fun c=>((F29 c 0).toList==w5_.toList)) all)) default) 3)),(25,kh29 (all.getD (Int.toNat (idxI (fun c=>((F29 c 0).toList==w5_.toList)) all)) default) 4),(26,kh30 (F29 (all.getD (Int.toNat (idxI (fun c=>((F29 c 0).toList==w5_.toList)) all)) default) 4))]) .no)))))))) Tryz.func26 (fun (hpre0:∀ k j:Nat,((all.getD k default).w.getD j default).size≤1048576)=>kn all fun _=>kc45a all (fun gv1=>kn all fun _=>ai (en26_0 all (by refine ⟨?_,?_,?_,?_⟩ <;> omega)) (fun (i0:Nat×(Int×Int)) (hi0:Td all i0)=>(fun (m0:Nat) (doors:Int) (i40:Int) (hh0:Qyk all i0 m0 doors i40)=>have hI0:=hh0.1; have hl0:=hh0.2.1; have _:=hh0.2.2.1; have _:=hh0.2.2.2; ifd (i40<(all.length:Int)) (fun h3 _=>ai (by omega:ib i40 all) (kc29 (all.getD (Int.toNat i40) default) 0 (by omega) (ifb (!((F29 (all.getD (Int.toNat i40) default) 0).toList==w3_.toList)) (fun h4=>ai (iok (i40+1) (by omega)) (Qxp all i0 m0 doors (i40+1) hl0 (Qe hI0 (condT h3 (condT h4 rfl))) (by refine ⟨?_,?_,?_,?_,?_⟩ <;> omega))) (fun h4=>ai (iok (doors+1) (by omega)) (ai (fun k5:(decide ((idxI (fun c=>((F29 c 0).toList==w5_.toList)) all)<0))=false=>have _:¬ (idxI (fun c=>((F29 c 0).toList==w5_.toList)) all)<0:=of_decide_eq_false k5; (by omega:ib (idxI (fun c=>((F29 c 0).toList==w5_.toList)) all) all)) (kg46 (decide ((idxI (fun c=>((F29 c 0).toList==w5_.toList)) all)<0)) false all i40 (all.getD (Int.toNat (idxI (fun c=>((F29 c 0).toList==w5_.toList)) all)) default) (fun k6=>have _:¬ (idxI (fun c=>((F29 c 0).toList==w5_.toList)) all)<0:=of_decide_eq_false k6; ⟨(by first | omega | assumption | exact fun j=>(by assumption:∀ k j:Nat,((all.getD k default).w.getD j default).size≤1048576) _ j),(by first | omega | assumption | exact fun j=>(by assumption:∀ k j:Nat,((all.getD k default).w.getD j default).size≤1048576) _ j),(by first | omega | assumption | exact fun j=>(by assumption:∀ k j:Nat,((all.getD k default).w.getD j default).size≤1048576) _ j),(by first | omega | assumption | exact fun j=>(by assumption:∀ k j:Nat,((all.getD k default).w.getD j default).size≤1048576) _ j)⟩) (ifb (bif decide ((idxI (fun c=>((F29 c 0).toList==w5_.toList)) all)<0) then true else (!(F46 all i40 (all.getD (Int.toNat (idxI (fun c=>((F29 c 0).toList==w5_.toList)) all)) default)))) (fun h7=>fiB false (F26 all) (finR (Qr hI0 (condT h3 (condF h4 (condT h7 rfl)))) rfl)) (fun h7=>have _:¬ (idxI (fun c=>((F29 c 0).toList==w5_.toList)) all)<0:=of_decide_eq_false (orF1 h7); ai (iok (i40+1) (by omega)) (Qxp all i0 m0 (doors+1) (i40+1) hl0 (Qe hI0 (condT h3 (condF h4 (condF h7 rfl)))) (by refine ⟨?_,?_,?_,?_,?_⟩ <;> omega)))))))))) (fun h3 _=>have hD0_8:Qxm all=Lp.done (doors,i40):=Ql hI0 (condF h3 rfl); ifd ((idxI (fun c=>((F29 c 0).toList==w5_.toList)) all)<0) (fun h9 _=>fiB true (F26 all) (finD hD0_8 (condT h9 rfl))) (fun h9 _=>ai (by omega:ib (idxI (fun c=>((F29 c 0).toList==w5_.toList)) all) all) (kc29 (all.getD (Int.toNat (idxI (fun c=>((F29 c 0).toList==w5_.toList)) all)) default) 1 (by omega) (kc42 (F29 (all.getD (Int.toNat (idxI (fun c=>((F29 c 0).toList==w5_.toList)) all)) default) 1) (by exact Wc all (by assumption) _ _) (ai (by omega:ib (idxI (fun c=>((F29 c 0).toList==w5_.toList)) all) all) (kc29 (all.getD (Int.toNat (idxI (fun c=>((F29 c 0).toList==w5_.toList)) all)) default) 2 (by omega) (kc44 (F29 (all.getD (Int.toNat (idxI (fun c=>((F29 c 0).toList==w5_.toList)) all)) default) 2) (by exact Wc all (by assumption) _ _) (ai (fun k10:(bif decide (doors≤6) then (bif decide ((F44 (F29 (all.getD (Int.toNat (idxI (fun c=>((F29 c 0).toList==w5_.toList)) all)) default) 2))<(F42 (F29 (all.getD (Int.toNat (idxI (fun c=>((F29 c 0).toList==w5_.toList)) all)) default) 1)).1) then true else decide ((F44 (F29 (all.getD (Int.toNat (idxI (fun c=>((F29 c 0).toList==w5_.toList)) all)) default) 2))≥(IntKind.i64.wrap ((F42 (F29 (all.getD (Int.toNat (idxI (fun c=>((F29 c 0).toList==w5_.toList)) all)) default) 1)).1+(F42 (F29 (all.getD (Int.toNat (idxI (fun c=>((F29 c 0).toList==w5_.toList)) all)) default) 1)).2)))) else false)=true=>have _:=of_decide_eq_true (Qk k10); (by omega:ib (idxI (fun c=>((F29 c 0).toList==w5_.toList)) all) all)) (kg29 (bif decide (doors≤6) then (bif decide ((F44 (F29 (all.getD (Int.toNat (idxI (fun c=>((F29 c 0).toList==w5_.toList)) all)) default) 2))<(F42 (F29 (all.getD (Int.toNat (idxI (fun c=>((F29 c 0).toList==w5_.toList)) all)) default) 1)).1) then true else decide ((F44 (F29 (all.getD (Int.toNat (idxI (fun c=>((F29 c 0).toList==w5_.toList)) all)) default) 2))≥(IntKind.i64.wrap ((F42 (F29 (all.getD (Int.toNat (idxI (fun c=>((F29 c 0).toList==w5_.toList)) all)) default) 1)).1+(F42 (F29 (all.getD (Int.toNat (idxI (fun c=>((F29 c 0).toList==w5_.toList)) all)) default) 1)).2)))) else false) true (all.getD (Int.toNat (idxI (fun c=>((F29 c 0).toList==w5_.toList)) all)) default) 3 (fun k11=>have _:=of_decide_eq_true (Qk k11); (by omega)) (kg30 (bif decide (doors≤6) then (bif decide ((F44 (F29 (all.getD (Int.toNat (idxI (fun c=>((F29 c 0).toList==w5_.toList)) all)) default) 2))<(F42 (F29 (all.getD (Int.toNat (idxI (fun c=>((F29 c 0).toList==w5_.toList)) all)) default) 1)).1) then true else decide ((F44 (F29 (all.getD (Int.toNat (idxI (fun c=>((F29 c 0).toList==w5_.toList)) all)) default) 2))≥(IntKind.i64.wrap ((F42 (F29 (all.getD (Int.toNat (idxI (fun c=>((F29 c 0).toList==w5_.toList)) all)) default) 1)).1+(F42 (F29 (all.getD (Int.toNat (idxI (fun c=>((F29 c 0).toList==w5_.toList)) all)) default) 1)).2)))) else false) true (F29 (all.getD (Int.toNat (idxI (fun c=>((F29 c 0).toList==w5_.toList)) all)) default) 3) (fun k12=>have _:=of_decide_eq_true (Qk k12); (by exact Wc all (by assumption) _ _)) (ai (fun k13:(bif decide (doors≤6) then (bif decide ((F44 (F29 (all.getD (Int.toNat (idxI (fun c=>((F29 c 0).toList==w5_.toList)) all)) default) 2))<(F42 (F29 (all.getD (Int.toNat (idxI (fun c=>((F29 c 0).toList==w5_.toList)) all)) default) 1)).1) then true else decide ((F44 (F29 (all.getD (Int.toNat (idxI (fun c=>((F29 c 0).toList==w5_.toList)) all)) default) 2))≥(IntKind.i64.wrap ((F42 (F29 (all.getD (Int.toNat (idxI (fun c=>((F29 c 0).toList==w5_.toList)) all)) default) 1)).1+(F42 (F29 (all.getD (Int.toNat (idxI (fun c=>((F29 c 0).toList==w5_.toList)) all)) default) 1)).2)))) else false)=true=>have _:=of_decide_eq_true (Qk k13); (by omega:ib (idxI (fun c=>((F29 c 0).toList==w5_.toList)) all) all)) (kg29 (bif decide (doors≤6) then (bif decide ((F44 (F29 (all.getD (Int.toNat (idxI (fun c=>((F29 c 0).toList==w5_.toList)) all)) default) 2))<(F42 (F29 (all.getD (Int.toNat (idxI (fun c=>((F29 c 0).toList==w5_.toList)) all)) default) 1)).1) then true else decide ((F44 (F29 (all.getD (Int.toNat (idxI (fun c=>((F29 c 0).toList==w5_.toList)) all)) default) 2))≥(IntKind.i64.wrap ((F42 (F29 (all.getD (Int.toNat (idxI (fun c=>((F29 c 0).toList==w5_.toList)) all)) default) 1)).1+(F42 (F29 (all.getD (Int.toNat (idxI (fun c=>((F29 c 0).toList==w5_.toList)) all)) default) 1)).2)))) else false) true (all.getD (Int.toNat (idxI (fun c=>((F29 c 0).toList==w5_.toList)) all)) default) 4 (fun k14=>have _:=of_decide_eq_true (Qk k14); (by omega)) (kg30 (bif decide (doors≤6) then (bif decide ((F44 (F29 (all.getD (Int.toNat (idxI (fun c=>((F29 c 0).toList==w5_.toList)) all)) default) 2))<(F42 (F29 (all.getD (Int.toNat (idxI (fun c=>((F29 c 0).toList==w5_.toList)) all)) default) 1)).1) then true else decide ((F44 (F29 (all.getD (Int.toNat (idxI (fun c=>((F29 c 0).toList==w5_.toList)) all)) default) 2))≥(IntKind.i64.wrap ((F42 (F29 (all.getD (Int.toNat (idxI (fun c=>((F29 c 0).toList==w5_.toList)) all)) default) 1)).1+(F42 (F29 (all.getD (Int.toNat (idxI (fun c=>((F29 c 0).toList==w5_.toList)) all)) default) 1)).2)))) else false) true (F29 (all.getD (Int.toNat (idxI (fun c=>((F29 c 0).toList==w5_.toList)) all)) default) 4) (fun k15=>have _:=of_decide_eq_true (Qk k15); (by exact Wc all (by assumption) _ _)) (fiB (bif (bif decide (doors≤6) then (bif decide ((F44 (F29 (all.getD (Int.toNat (idxI (fun c=>((F29 c 0).toList==w5_.toList)) all)) default) 2))<(F42 (F29 (all.getD (Int.toNat (idxI (fun c=>((F29 c 0).toList==w5_.toList)) all)) default) 1)).1) then true else decide ((F44 (F29 (all.getD (Int.toNat (idxI (fun c=>((F29 c 0).toList==w5_.toList)) all)) default) 2))≥(IntKind.i64.wrap ((F42 (F29 (all.getD (Int.toNat (idxI (fun c=>((F29 c 0).toList==w5_.toList)) all)) default) 1)).1+(F42 (F29 (all.getD (Int.toNat (idxI (fun c=>((F29 c 0).toList==w5_.toList)) all)) default) 1)).2)))) else false) then decide ((F30 (F29 (all.getD (Int.toNat (idxI (fun c=>((F29 c 0).toList==w5_.toList)) all)) default) 3))≤(F30 (F29 (all.getD (Int.toNat (idxI (fun c=>((F29 c 0).toList==w5_.toList)) all)) default) 4))) else false) (F26 all) (finD hD0_8 (condF h9 rfl))))))))))))))))) (i0.1-1) i0.2.1 i0.2.2 (un26_0 all i0 hi0)))) (by kernel_rfl)
theorem Nn {α β:Type} [Inhabited α] [Inhabited β] (f:α→β) (ls:List α) (i:Nat) (h:i<ls.length):(ls.map f).getD i default=f (ls.getD i default):=by
 rw [Ko _ (by simpa using h),Ko _ h,List.getElem_map]
def wsL (lines:List ByteArray):List (List ByteArray):=lines.map fun l=>(F40 l).1
def hdB (w:List ByteArray) (l:List UInt8):Bool:=(w.getD 0 default).data.toList==l
def Ubk:List UInt8:=[117,115,101,114]
def Yd:List UInt8:=[112,111,114,116]
def Vc:List UInt8:=[114,117,108,101]
def Qbb:List UInt8:=[114,111,117,116,101]
def Qea:List UInt8:=[112,101,101,114]
def hNat:List UInt8:=[110,97,116]
def Ui:List UInt8:=[100,111,111,114]
theorem Yl (lines:List ByteArray) (h:F20 lines=0) (word:ByteArray):Qb lines word=(wsL lines).filter fun w=>hdB w word.data.toList:=by
 unfold Qb wsL
 have e:(lines.map fun l=>Qy l (⟨#[32]⟩:ByteArray))=lines.map fun l=>(F40 l).1:=List.map_congr_left fun l hl=>Qah l ((Hv lines h).2 l hl)
 rw [e]; rfl
theorem Pv (lines:List ByteArray) (h:F20 lines=0):∀ w∈wsL lines,We w:=fun w hw=>by
 obtain ⟨l,hl,rfl⟩:=List.mem_map.1 hw
 exact (Gr l ((Hv lines h).2 l hl)).form
theorem ws_no (lines:List ByteArray):∀ w∈wsL lines,∀ x∈w,(32:UInt8) ∉ x.data.toList∧x.data.toList≠[]∧x.size≤24:=fun w hw=>by
 obtain ⟨l,hl,rfl⟩:=List.mem_map.1 hw
 exact Qox l
theorem Udw (lines:List ByteArray):(lines.map (fun l=>(⟨(F40 l).1⟩:l52Cut)))=(wsL lines).map l52Cut.mk:=by
 unfold wsL
 rw [List.map_map]; rfl
theorem at_n (c:l52Cut) (k:Nat):F29 c (k:Int)=c.w.getD k default:=by
 unfold F29
 by_cases h:k<c.w.length
 ·rw [ltD h,cond_true,nn]
 ·rw [decide_eq_false (by omega),cond_false,Zs _ (by omega)]; rfl
theorem at0 (c:l52Cut):F29 c 0=c.w.getD 0 default:=at_n c 0
theorem at1 (c:l52Cut):F29 c 1=c.w.getD 1 default:=at_n c 1
theorem at2 (c:l52Cut):F29 c 2=c.w.getD 2 default:=at_n c 2
theorem at3 (c:l52Cut):F29 c 3=c.w.getD 3 default:=at_n c 3
theorem at4 (c:l52Cut):F29 c 4=c.w.getD 4 default:=at_n c 4
theorem Bo (ws:List (List ByteArray)) (p:l52Cut→Bool):(ws.map l52Cut.mk).any p=ws.any fun w=>p ⟨w⟩:=by rw [List.any_map]; rfl
theorem Uq {α:Type} {p q:α→Bool}:∀ {xs:List α},(∀ x∈xs,p x=q x)→xs.any p=xs.any q
 | [],_=>rfl
 | x :: xs,h=>by rw [List.any_cons,List.any_cons,h x List.mem_cons_self,Uq fun y hy=>h y (List.mem_cons_of_mem _ hy)]
theorem Uey (all:List l52Cut):F22 all=all.any fun c=>hdB c.w Ubk&&((c.w.getD 2 default).data.toList==[97,108,108]):=by
 unfold F22
 have:=anyL all (fun c=>hdB c.w Ubk&&((c.w.getD 2 default).data.toList==[97,108,108])) true (Bq all) (fun i hi=>by
  simp only [Bq,ltD hi,cond_true,nn,at0,at2,blit,cb1]
  rfl) (by simp only [Bq,geD,cond_false]) (fun r=>r) (fun i40=>false) false (fun _=>rfl)
 refine this.trans ?_
 cases (all.any fun c=>hdB c.w Ubk&&((c.w.getD 2 default).data.toList==[97,108,108])) <;> rfl
theorem Qfd (lines:List ByteArray) (h:F20 lines=0):F67 lines=!F22 ((wsL lines).map l52Cut.mk):=by
 unfold F67
 rw [Uey,Bo,Yl lines h,List.any_filter]
 congr 1
 refine Uq fun w _=>?_
 unfold F84
 rw [blit]; rfl
def Qms (ws:List (List ByteArray)) (name:List UInt8):Nat:=(ws.filter fun w=>hdB w Vc&&((w.getD 1 default).data.toList==name)).length
theorem Qbe (lines:List ByteArray) (h:F20 lines=0) (name:ByteArray):F85 lines name=(Qms (wsL lines) name.data.toList:Int):=by
 unfold F85
 have:=Uz (Qb lines (⟨#[114,117,108,101]⟩:ByteArray)) (fun (n:Int) w=>bif ((w.getD 1 default).data.toList==name.data.toList) then n+1 else n) (fun n i=>(n,i)) (Vr lines name) (fun i s hi=>by
  simp only [Vr,ltD hi,cond_true,nn,Ua]
  show (bif (((Qb lines (⟨#[114,117,108,101]⟩:ByteArray)).getD i default).getD 1 default).data.toList==name.data.toList then _ else _)=_
  cases ((((Qb lines (⟨#[114,117,108,101]⟩:ByteArray)).getD i default).getD 1 default).data.toList==name.data.toList) <;> rfl) (fun s=>by simp only [Vr,geD,cond_false]) (fun r=>r) (fun (n,v11)=>n) 0
 refine this.trans ?_
 show (Qb lines (⟨#[114,117,108,101]⟩:ByteArray)).foldl _ (0:Int)=_
 rw [Xm (fun w:List ByteArray=>((w.getD 1 default).data.toList==name.data.toList)),Yl lines h,List.filter_filter,Int.zero_add]
 unfold Qms
 rw [show (fun a:List ByteArray=>((a.getD 1 default).data.toList==name.data.toList&&hdB a (⟨#[114,117,108,101]⟩:ByteArray).data.toList))=fun w=>hdB w Vc&&((w.getD 1 default).data.toList==name.data.toList) from funext fun w=>Bool.and_comm _ _]
theorem Qub (all:List l52Cut) (name:ByteArray):F41 all name=((all.filter fun c=>hdB c.w Vc&&((c.w.getD 1 default).data.toList==name.data.toList)).length:Int):=by
 unfold F41
 have:=Uz all (fun (n:Int) c=>bif (hdB c.w Vc&&((c.w.getD 1 default).data.toList==name.data.toList)) then n+1 else n) (fun n i=>(n,i)) (Xi all name) (fun i s hi=>by
  simp only [Xi,ltD hi,cond_true,nn,at0,at1,blit,cb1]
  rw [Ua,Ua]
  show (bif (hdB (all.getD i default).w Vc&&(((all.getD i default).w.getD 1 default).data.toList==name.data.toList)) then _ else _)=_
  cases (hdB (all.getD i default).w Vc&&(((all.getD i default).w.getD 1 default).data.toList==name.data.toList)) <;> rfl) (fun s=>by simp only [Xi,geD,cond_false]) (fun r=>r) (fun (n,i40)=>n) 0
 refine this.trans ?_
 show all.foldl _ (0:Int)=_
 rw [Xm (fun c:l52Cut=>hdB c.w Vc&&((c.w.getD 1 default).data.toList==name.data.toList)),Int.zero_add]
theorem Qrb (ws:List (List ByteArray)) (name:ByteArray):F41 (ws.map l52Cut.mk) name=(Qms ws name.data.toList:Int):=by
 rw [Qub,List.filter_map,List.length_map]; rfl
theorem Uab (all:List l52Cut):F23 all=!all.any fun c=>(hdB c.w Yd&&(!((c.w.getD 4 default).data.toList==[])&&((F41 all (c.w.getD 4 default))==0))) || (hdB c.w Vc&&decide (F41 all (c.w.getD 1 default)>12)):=by
 unfold F23
 have:=anyL all (fun c=>(hdB c.w Yd&&(!((c.w.getD 4 default).data.toList==[])&&((F41 all (c.w.getD 4 default))==0))) || (hdB c.w Vc&&decide (F41 all (c.w.getD 1 default)>12))) false (Xd all) (fun i hi=>by
  simp only [Xd,ltD hi,cond_true,nn,at0,at1,at4,blit,cb1,Bool.and_assoc]
  show (bif (hdB (all.getD i default).w Yd&&(!(((all.getD i default).w.getD 4 default).data.toList==[])&&(F41 all ((all.getD i default).w.getD 4 default)==0))) then _ else (bif (hdB (all.getD i default).w Vc&&_) then _ else _))=_
  cases (hdB (all.getD i default).w Yd&&(!(((all.getD i default).w.getD 4 default).data.toList==[])&&(F41 all ((all.getD i default).w.getD 4 default)==0))) <;> cases (hdB (all.getD i default).w Vc&&decide (F41 all ((all.getD i default).w.getD 1 default)>12)) <;> rfl) (by simp only [Xd,geD,cond_false]) (fun r=>r) (fun i40=>true) true (fun _=>rfl)
 refine this.trans ?_
 cases all.any _ <;> rfl
theorem Qng {α:Type} (p q:α→Bool):∀ xs:List α,xs.any (fun x=>p x || q x)=(xs.any p || xs.any q)
 | []=>rfl
 | x :: xs=>by
  simp only [List.any_cons,Qng p q xs]
  cases p x <;> cases q x <;> simp
theorem Qrt {w:List ByteArray} (h:Zv w) (hn:∀ x∈w,x.data.toList≠[]):decide ((w.length:Int)>4)=!((w.getD 4 default).data.toList==[]):=by
 by_cases hl:4<w.length
 ·rw [decide_eq_true (by omega)]
  have:=hn _ (Zl w hl)
  rw [beq_eq_false_iff_ne.2 this]; rfl
 ·rw [decide_eq_false (by omega),Zs w (by omega)]; rfl
theorem Pp (lines:List ByteArray) (h:F20 lines=0):F68 lines=!F23 ((wsL lines).map l52Cut.mk):=by
 rw [Uab,Bool.not_not,Bo,Qng]
 unfold F68
 have:=anyL (Qb lines (⟨#[112,111,114,116]⟩:ByteArray)) (fun w=>decide ((w.length:Int)>4)&&(F85 lines (w.getD 4 default)==0)) true (Xv lines) (fun i hi=>by
  simp only [Xv,ltD hi,cond_true,nn,cb1]; rfl) (by simp only [Xv,geD,cond_false]) (fun r=>r) (fun v8=>(Qb lines (⟨#[114,117,108,101]⟩:ByteArray)).any (fun (x0:List ByteArray)=>F86 x0 lines)) _ (fun _=>rfl)
 refine this.trans ?_
 rw [Yl lines h,Yl lines h,List.any_filter,List.any_filter,cb2]
 congr 1
 ·refine Uq fun w hw=>?_
  have e4:F41 ((wsL lines).map l52Cut.mk) (w.getD 4 default)=F85 lines (w.getD 4 default):=by rw [Qrb,Qbe lines h]
  rw [e4]
  cases hp:hdB w Yd with
  | false =>
   have hp':hdB w (⟨#[112,111,114,116]⟩:ByteArray).data.toList=false:=hp
   rw [hp',Bool.false_and,Bool.false_and]
  | true =>
   have hp':hdB w (⟨#[112,111,114,116]⟩:ByteArray).data.toList=true:=hp
   have hpp:=Rb (Pv lines h w hw) (eq_of_beq hp)
   rw [hp',Qrt hpp fun x hx=>(ws_no lines w hw x hx).2.1]
 ·refine Uq fun w hw=>?_
  have e1:F41 ((wsL lines).map l52Cut.mk) (w.getD 1 default)=F85 lines (w.getD 1 default):=by rw [Qrb,Qbe lines h]
  show (hdB w Vc&&_)=(hdB w Vc&&_)
  rw [e1]; rfl
def Zi {α:Type} (ov:α→α→Bool):List α→List α→Bool
 | _,[]=>false
 | seen,x :: r=>seen.any (ov x) || Zi ov (seen++[x]) r
theorem Va {α:Type} [Inhabited α] (ov:α→α→Bool) (xs:List α):∀ (m i:Nat),i+m=xs.length→anyF (fun i=>(xs.take i).any (ov (xs.getD i default))) i m=Zi ov (xs.take i) (xs.drop i)
 | 0,i,h=>by rw [List.drop_of_length_le (by omega)]; rfl
 | m+1,i,h=>by
  have hd:xs.drop i=xs.getD i default :: xs.drop (i+1):=by
   rw [List.drop_eq_getElem_cons (show i<xs.length by omega),List.getD_eq_getElem?_getD,List.getElem?_eq_getElem (show i<xs.length by omega)]; rfl
  rw [hd,Zi,anyF,Va ov xs m (i+1) (by omega),Mx (show i<xs.length by omega)]
theorem Xp {α:Type} (P:α→Bool) (ov:α→α→Bool):∀ (xs seen:List α),Zi (fun x y=>P x&&(P y&&ov x y)) seen xs=Zi ov (seen.filter P) (xs.filter P)
 | [],seen=>rfl
 | x :: xs,seen=>by
  rw [Zi,Xp P ov xs]
  cases h:P x with
  | true =>
   rw [List.filter_cons_of_pos h,Zi,List.filter_append,List.any_filter]
   simp only [Bool.true_and,List.filter_cons_of_pos h,List.filter_nil]
  | false =>
   rw [List.filter_cons_of_neg (by simp [h]),List.filter_append,List.filter_cons_of_neg (by simp [h]),List.filter_nil,List.append_nil]
   simp only [Bool.false_and]
   rw [show seen.any (fun _=>false)=false by simp,Bool.false_or]
theorem Qaw {α γ:Type} (f:α→γ) (ov:γ→γ→Bool):∀ (xs seen:List α),Zi ov (seen.map f) (xs.map f)=Zi (fun x y=>ov (f x) (f y)) seen xs
 | [],_=>rfl
 | x :: xs,seen=>by
  rw [List.map_cons,Zi,Zi,← Qaw f ov xs,List.map_append,List.any_map]; rfl
theorem Qaq {α:Type} {ov ov':α→α→Bool} {Q:α→Prop} (h:∀ x y,Q x→Q y→ov x y=ov' x y):∀ (xs seen:List α),(∀ x∈xs,Q x)→(∀ x∈seen,Q x)→Zi ov seen xs=Zi ov' seen xs
 | [],_,_,_=>rfl
 | x :: xs,seen,h1,h2=>by
  have hx:=h1 x List.mem_cons_self
  rw [Zi,Zi,Uq (fun y hy=>h x y hx (h2 y hy)),Qaq h xs (seen++[x]) (fun y hy=>h1 y (List.mem_cons_of_mem _ hy)) (fun y hy=>by
   rcases List.mem_append.1 hy with hy | hy
   ·exact h2 y hy
   ·rw [List.mem_singleton.1 hy]; exact hx)]
theorem Qep {α:Type} [Inhabited α] (xs:List α) (p:α→Bool) (i:Nat) (h:i≤xs.length):anyF (fun k=>p (xs.getD k default)) 0 i=(xs.take i).any p:=by
 have hl:(xs.take i).length=i:=by rw [List.length_take]; omega
 have h1:=Ki (xs.take i) p i 0 (by omega)
 rw [List.drop_zero] at h1
 rw [← h1]
 have:∀ (m k:Nat),k+m=i→anyF (fun k=>p (xs.getD k default)) k m=anyF (fun k=>p ((xs.take i).getD k default)) k m:=by
  intro m
  induction m with
  | zero=>intro k _; rfl
  | succ m ih =>
   intro k hk
   rw [anyF,anyF,ih (k+1) (by omega)]
   congr 2
   rw [List.getD_eq_getElem?_getD,List.getD_eq_getElem?_getD,List.getElem?_take,if_pos (by omega)]
 exact this i 0 (by omega)
theorem Qjb (L:Int) (h0:0≤L) (h1:L≤16):F61 L=((2 ^ (16-L.toNat):Nat):Int):=by
 have h3:L=0∨L=1∨L=2∨L=3∨L=4∨L=5∨L=6∨L=7∨L=8∨L=9∨L=10∨L=11∨L=12∨L=13∨L=14∨L=15∨L=16:=by omega
 rcases h3 with rfl | rfl | rfl | rfl | rfl | rfl | rfl | rfl | rfl | rfl | rfl | rfl | rfl | rfl | rfl | rfl | rfl <;> exact of_decide_eq_true rfl
theorem Qaj (a L x:Int) (ha:0≤a∧a≤65535) (hL:0≤L∧L≤16):F16 (⟨a,L⟩:Qa) x=decide (a≤x∧x<a+F61 L):=by
 unfold F16 F33
 have hs:=Qjd L hL.1 hL.2
 have e:F49 (⟨a,L⟩:Qa)=F61 L:=Qdm a L hL.1 hL.2
 rw [e]
 simp only
 have w1:IntKind.i64.wrap (a+F61 L)=a+F61 L:=Yx (by omega) (by omega)
 have w2:IntKind.i64.wrap (a+F61 L-1)=a+F61 L-1:=Yx (by omega) (by omega)
 rw [w1,w2]
 exact decide_eq_decide.2 (by omega)
theorem Qht (a b n m c:Int) (hm:1≤m) (hn:n=m*c) (ha:n ∣ a) (hb:m ∣ b) (h:a<b+m):a≤b:=by
 obtain ⟨x,rfl⟩:=ha
 obtain ⟨y,rfl⟩:=hb
 subst hn
 have h1:m*(c*x)<m*(y+1):=by rw [Int.mul_add,Int.mul_one,← Int.mul_assoc]; exact h
 have h2:c*x<y+1:=Int.lt_of_mul_lt_mul_left h1 (by omega)
 rw [Int.mul_assoc]
 exact Int.mul_le_mul_of_nonneg_left (by omega) (by omega)
theorem Qjc (L M:Int) (h:0≤L∧L≤M∧M≤16):∃ c:Int,F61 L=F61 M*c:=by
 rw [Qjb L h.1 (by omega),Qjb M (by omega) h.2.2]
 refine ⟨((2 ^ (M.toNat-L.toNat):Nat):Int),?_⟩
 rw [← Int.natCast_mul,← Nat.pow_add]
 congr 2
 omega
theorem Qvh {l:List UInt8} {a n:Int} (h:pfxL l=some (a,n)):F61 n ∣ a∧0≤a∧a≤65535∧0≤n∧n≤16:=by
 have hb:=Qgr h
 refine ⟨?_,hb⟩
 unfold pfxL at h
 match hs:Qz 47 l,h with
 | [x,y],h =>
  rw [pfx2] at h
  cases hc:decide (0≤Yc x)&&(in16 (num6 y)&&((Yc x).tmod (F61 (num6 y))==0)) with
  | false=>rw [hc] at h; cases h
  | true =>
   rw [hc] at h
   simp only [cond_true,Option.some.injEq,Prod.mk.injEq] at h
   obtain ⟨rfl,rfl⟩:=h
   simp only [Bool.and_eq_true,beq_iff_eq] at hc
   exact Int.dvd_of_tmod_eq_zero hc.2.2
 | [],h=>cases h
 | [x],h=>cases h
 | x :: y :: z :: r,h=>cases h
theorem Lr (s:ByteArray) (h:F143 s=true):∃ a L:Int,F36 s=((⟨a,L⟩:Qa),true)∧F42 s=(a,F61 L)∧F61 L ∣ a∧(0≤a∧a≤65535)∧(0≤L∧L≤16)∧1≤F61 L∧F61 L≤65536:=by
 rw [Lg] at h
 cases hp:pfxL s.data.toList with
 | none=>rw [hp] at h; cases h
 | some q =>
  obtain ⟨a,L⟩:=q
  have hd:=Qvh hp
  have hs:=Qjd L hd.2.2.2.1 hd.2.2.2.2
  exact ⟨a,L,by rw [Vf,hp],by rw [Qbo,hp],hd.1,⟨hd.2.1,hd.2.2.1⟩,hd.2.2.2,hs⟩
def ovI (x y:ByteArray):Bool:=F88 (F36 x).1 (F36 y).1 || F88 (F36 y).1 (F36 x).1
def ovS (x y:ByteArray):Bool:=decide ((F42 x).1<IntKind.i64.wrap ((F42 y).1+(F42 y).2))&&decide ((F42 y).1<IntKind.i64.wrap ((F42 x).1+(F42 x).2))
theorem Uei (x y:ByteArray) (hx:F143 x=true) (hy:F143 y=true):ovI x y=ovS x y:=by
 obtain ⟨a,L,e1,e2,d1,b1,c1,s1⟩:=Lr x hx
 obtain ⟨b,M,f1,f2,d2,b2,c2,s2⟩:=Lr y hy
 unfold ovI ovS F88
 rw [e1,e2,f1,f2]
 simp only [Qaj _ _ _ b1 c1,Qaj _ _ _ b2 c2,cb1]
 rw [Yx (by omega) (by omega),Yx (by omega) (by omega),← Bool.decide_and,← Bool.decide_and,← Bool.decide_and,← Bool.decide_or]
 refine decide_eq_decide.2 ⟨fun h=>?_,fun h=>?_⟩
 ·rcases h with h | h <;> omega
 ·rcases Int.le_total L M with hl | hl
  ·obtain ⟨c,hc⟩:=Qjc L M ⟨c1.1,hl,c2.2⟩
   exact .inr ⟨hl,Qht a b _ _ c s2.1 hc d1 d2 h.1,h.2⟩
  ·obtain ⟨c,hc⟩:=Qjc M L ⟨c2.1,hl,c1.2⟩
   exact .inl ⟨hl,Qht b a _ _ c s1.1 hc d2 d1 h.2,h.1⟩
theorem Qlr (lines:List ByteArray):F69 lines=Zi (fun p q=>F88 p q || F88 q p) [] (Qo lines):=by
 unfold F69
 have:=Yu (Xb lines) (Qo lines).length (fun i=>((Qo lines).take i).any (fun q=>F88 ((Qo lines).getD i default) q || F88 q ((Qo lines).getD i default))) true (fun r=>r) false (fun i hi=>by
  simp only [Xb,ltD hi,cond_true,nn]
  exact anyL ((Qo lines).take i) (fun q=>F88 ((Qo lines).getD i default) q || F88 q ((Qo lines).getD i default)) true (Br lines (i:Int)) (fun j hj=>by
   simp only [Br,nn,ltD hj,cond_true,cb2]; rfl) (by simp only [Br,nn,geD,cond_false]) Lp.ret _ _ (fun _=>rfl)) (by simp only [Xb,geD,cond_false]) (Qo lines).length 0 (by omega) (Int.toNat (((Qo lines).length:Int)-0)+1) (by omega)
 rw [Va (fun p q=>F88 p q || F88 q p) (Qo lines) (Qo lines).length 0 (by omega),List.take_zero,List.drop_zero] at this
 refine Eq.trans this ?_
 cases Zi (fun p q=>F88 p q || F88 q p) [] (Qo lines) <;> rfl
theorem Qvr (all:List l52Cut):F24 all=!Zi (fun c e=>hdB c.w Yd&&(hdB e.w Yd&&ovS (c.w.getD 2 default) (e.w.getD 2 default))) [] all:=by
 unfold F24
 have:=Yu (Bg all) all.length (fun i=>(all.take i).any (fun e=>hdB (all.getD i default).w Yd&&(hdB e.w Yd&&ovS ((all.getD i default).w.getD 2 default) (e.w.getD 2 default)))) false (fun r=>r) true (fun i hi=>by
  simp only [Bg,ltD hi,cond_true]
  have h1:=Yu (Xe all (i:Int)) i (fun k=>hdB (all.getD i default).w Yd&&(hdB (all.getD k default).w Yd&&ovS ((all.getD i default).w.getD 2 default) ((all.getD k default).w.getD 2 default))) false (Lp.ret:Bool→Lp Int Bool) (.next ((i+1:Nat):Int)) (fun k hk=>by
   simp only [Xe,ltD hk,cond_true,nn,at0,at2,blit,cb1,cb2]
   show (bif (!(hdB (all.getD i default).w Yd) || !(hdB (all.getD k default).w Yd)) then _ else (bif ovS ((all.getD i default).w.getD 2 default) ((all.getD k default).w.getD 2 default) then _ else _))=_
   cases hdB (all.getD i default).w Yd <;> cases hdB (all.getD k default).w Yd <;> cases ovS ((all.getD i default).w.getD 2 default) ((all.getD k default).w.getD 2 default) <;> rfl) (by
   simp only [Xe,decide_eq_false (show ¬ (i:Int)<(i:Int) by omega),cond_false]) i 0 (by omega) (Int.toNat ((i:Int)-0)+1) (by omega)
  rw [Qep all (fun e=>hdB (all.getD i default).w Yd&&(hdB e.w Yd&&ovS ((all.getD i default).w.getD 2 default) (e.w.getD 2 default))) i (by omega)] at h1
  exact h1) (by simp only [Bg,geD,cond_false]) all.length 0 (by omega) (Int.toNat ((all.length:Int)-0)+1) (by omega)
 rw [Va (fun c e=>hdB c.w Yd&&(hdB e.w Yd&&ovS (c.w.getD 2 default) (e.w.getD 2 default))) all all.length 0 (by omega),List.take_zero,List.drop_zero] at this
 refine Eq.trans this ?_
 cases Zi (fun (c e:l52Cut)=>hdB c.w Yd&&(hdB e.w Yd&&ovS (c.w.getD 2 default) (e.w.getD 2 default))) [] all <;> rfl
theorem Qgw (lines:List ByteArray) (h:F20 lines=0):F69 lines=!F24 ((wsL lines).map l52Cut.mk):=by
 rw [Qvr,Bool.not_not,Qlr]
 have e1:=Qaw l52Cut.mk (fun (c e:l52Cut)=>hdB c.w Yd&&(hdB e.w Yd&&ovS (c.w.getD 2 default) (e.w.getD 2 default))) (wsL lines) []
 rw [List.map_nil] at e1
 rw [e1]
 have e2:=Xp (fun w:List ByteArray=>hdB w Yd) (fun w v=>ovS (w.getD 2 default) (v.getD 2 default)) (wsL lines) []
 refine Eq.trans ?_ e2.symm
 have e3:=Qaw (fun w:List ByteArray=>(F36 (w.getD 2 default)).1) (fun p q=>F88 p q || F88 q p) (Qb lines (⟨#[112,111,114,116]⟩:ByteArray)) []
 rw [List.map_nil] at e3
 have e4:Qo lines=(Qb lines (⟨#[112,111,114,116]⟩:ByteArray)).map (fun w:List ByteArray=>(F36 (w.getD 2 default)).1):=rfl
 rw [e4,e3,Yl lines h]
 refine Qaq (Q:=fun w=>Zv w) (fun w v hw hv=>Uei _ _ (by unfold Zv at hw; exact hw.2.2.2.2) (by unfold Zv at hv; exact hv.2.2.2.2)) _ [] (fun w hw=>?_) (fun w hw=>by cases hw)
 obtain ⟨h1,h2⟩:=List.mem_filter.1 hw
 exact Rb (Pv lines h w h1) (eq_of_beq h2)
def Qsy (w:List ByteArray) (addr:Int):Bool:=hdB w Yd&&(decide (addr>(F42 (w.getD 2 default)).1)&&decide (addr<IntKind.i64.wrap ((F42 (w.getD 2 default)).1+(F42 (w.getD 2 default)).2)))
theorem Ueq (all:List l52Cut) (addr:Int):F43 all addr=all.any fun c=>Qsy c.w addr:=by
 unfold F43
 have:=anyL all (fun c=>Qsy c.w addr) true (Bb all addr) (fun i hi=>by
  simp only [Bb,ltD hi,cond_true,nn,at0,at2,blit,cb1]
  show (bif hdB (all.getD i default).w Yd then (bif _ then _ else _) else _)=bif (hdB (all.getD i default).w Yd&&_) then _ else _
  cases hdB (all.getD i default).w Yd <;> rfl) (by simp only [Bb,geD,cond_false]) (fun r=>r) (fun i40=>false) false (fun _=>rfl)
 refine this.trans ?_
 cases all.any (fun c=>Qsy c.w addr) <;> rfl
theorem Qxa (all:List l52Cut):F25 all=!all.any fun c=>(hdB c.w Qbb&&!F43 all (F44 (c.w.getD 2 default))) || (hdB c.w Qea&&!F43 all (F44 (c.w.getD 1 default))):=by
 unfold F25
 have:=anyL all (fun c=>(hdB c.w Qbb&&!F43 all (F44 (c.w.getD 2 default))) || (hdB c.w Qea&&!F43 all (F44 (c.w.getD 1 default)))) false (Xx all) (fun i hi=>by
  simp only [Xx,ltD hi,cond_true,nn,at0,at1,at2,blit]
  show (bif hdB (all.getD i default).w Qbb then (bif !F43 all (F44 ((all.getD i default).w.getD 2 default)) then _ else _) else (bif hdB (all.getD i default).w Qea then (bif !F43 all (F44 ((all.getD i default).w.getD 1 default)) then _ else _) else _))=_
  cases hr:hdB (all.getD i default).w Qbb with
  | true =>
   have hp:hdB (all.getD i default).w Qea=false:=by
    rw [hdB,beq_iff_eq] at hr
    rw [hdB,hr]; decide
   rw [hp]
   cases (!F43 all (F44 ((all.getD i default).w.getD 2 default))) <;> rfl
  | false=>cases hdB (all.getD i default).w Qea <;> cases (!F43 all (F44 ((all.getD i default).w.getD 1 default))) <;> rfl) (by simp only [Xx,geD,cond_false]) (fun r=>r) (fun i40=>true) true (fun _=>rfl)
 refine this.trans ?_
 cases all.any _ <;> rfl
theorem Qco (lines:List ByteArray):F70 lines=(((Qb lines (⟨#[114,111,117,116,101]⟩:ByteArray)).map fun w=>w.getD 2 default)++((Qb lines (⟨#[112,101,101,114]⟩:ByteArray)).map fun w=>w.getD 1 default)).any fun x0=>F89 x0 (Qo lines):=by
 have h0:Nt lines=Lp.done ((Qb lines (⟨#[114,111,117,116,101]⟩:ByteArray)).map fun w=>w.getD 2 default):=by
  unfold Nt
  have:=Uz (Qb lines (⟨#[114,111,117,116,101]⟩:ByteArray)) (fun (s:List ByteArray) w=>s++[w.getD 2 default]) (fun s i=>(s,i)) (Xa lines) (fun i s hi=>by
   simp only [Xa,ltD hi,cond_true,nn]; rfl) (fun s=>by simp only [Xa,geD,cond_false]) Lp.ret (fun (addrs1,v13)=>Lp.done addrs1) []
  refine this.trans ?_
  rw [Zg,List.nil_append]
 have h1:∀ a,Gw lines a=Lp.done (a++(Qb lines (⟨#[112,101,101,114]⟩:ByteArray)).map fun w=>w.getD 1 default):=fun a=>by
  unfold Gw
  have:=Uz (Qb lines (⟨#[112,101,101,114]⟩:ByteArray)) (fun (s:List ByteArray) w=>s++[w.getD 1 default]) (fun s i=>(s,i)) (Bh lines a) (fun i s hi=>by
   simp only [Bh,ltD hi,cond_true,nn]; rfl) (fun s=>by simp only [Bh,geD,cond_false]) Lp.ret (fun (addrs3,v27)=>Lp.done addrs3) a
  refine this.trans ?_
  rw [Zg]
 unfold F70
 rw [h0]
 show (Gw lines _).fin _ _=_
 rw [h1]; rfl
theorem Qeu (lines:List ByteArray) (h:F20 lines=0) (t:ByteArray):F89 t (Qo lines)=!F43 ((wsL lines).map l52Cut.mk) (F44 t):=by
 rw [Ueq,Bo]
 unfold F89
 rw [Nc]
 congr 1
 have e4:Qo lines=(Qb lines (⟨#[112,111,114,116]⟩:ByteArray)).map (fun w:List ByteArray=>(F36 (w.getD 2 default)).1):=rfl
 rw [e4,List.any_map,Yl lines h,List.any_filter]
 refine Uq fun w hw=>?_
 show (hdB w Yd&&_)=(hdB w Yd&&_)
 cases hp:hdB w Yd with
 | false=>rfl
 | true =>
  have hpp:=Rb (Pv lines h w hw) (eq_of_beq hp)
  obtain ⟨a,L,e1,e2,d1,b1,c1,s1⟩:=Lr (w.getD 2 default) (by unfold Zv at hpp; exact hpp.2.2.2.2)
  rw [Bool.true_and,Bool.true_and]
  show F91 (F36 (w.getD 2 default)).1 (F44 t)=_
  unfold F91
  rw [e1,e2,Qaj _ _ _ b1 c1,cb1,Yx (by simp only; omega) (by simp only; omega),neI]
  simp only
  rw [← decide_not,← Bool.decide_and,← Bool.decide_and]
  exact decide_eq_decide.2 (by omega)
theorem Pr (lines:List ByteArray) (h:F20 lines=0):F70 lines=!F25 ((wsL lines).map l52Cut.mk):=by
 rw [Qxa,Bool.not_not,Bo,Qco,List.any_append,Qng,List.any_map,List.any_map,Yl lines h,Yl lines h,List.any_filter,List.any_filter]
 congr 1
 ·refine Uq fun w hw=>?_
  show (hdB w Qbb&&F89 (w.getD 2 default) (Qo lines))=_
  rw [Qeu lines h]
 ·refine Uq fun w hw=>?_
  show (hdB w Qea&&F89 (w.getD 1 default) (Qo lines))=_
  rw [Qeu lines h]
theorem Qan {α ρ τ:Type} [Inhabited α] (xs:List α) (P:α→Bool) (B:Nat→Bool) (bad:ρ) (step:Int×Int→Lp (Int×Int) ρ)
  (h1:∀ (i:Nat) (n:Int),i<xs.length→step (n,(i:Int))=bif P (xs.getD i default) then (bif B i then .ret bad else .next (n+1,((i+1:Nat):Int))) else .next (n,((i+1:Nat):Int)))
  (h2:∀ n:Int,step (n,(xs.length:Int))=.done (n,(xs.length:Int))) (f:ρ→τ) (g:Int×Int→τ) :
  ∀ (m i:Nat) (n:Int),i+m=xs.length→∀ fuel,m<fuel→(runL step fuel (n,(i:Int))).fin f g=bif anyF (fun i=>P (xs.getD i default)&&B i) i m then f bad else g (n+(((xs.drop i).filter P).length:Int),(xs.length:Int))
 | m,i,_,_,0,hf=>absurd hf (Nat.not_lt_zero _)
 | 0,i,n,h,fuel+1,hf=>by
  obtain rfl:i=xs.length:=by omega
  rw [Km _ (h2 n),List.drop_of_length_le (Nat.le_refl _)]
  show g _=g _
  simp
 | m+1,i,n,h,fuel+1,hf=>by
  have hst:=h1 i n (by omega)
  have hd:xs.drop i=xs.getD i default :: xs.drop (i+1):=by
   rw [List.drop_eq_getElem_cons (show i<xs.length by omega),List.getD_eq_getElem?_getD,List.getElem?_eq_getElem (show i<xs.length by omega)]; rfl
  rw [anyF,hd]
  cases hp:P (xs.getD i default) with
  | false =>
   rw [hp,cond_false] at hst
   rw [Ya _ hst,Qan xs P B bad step h1 h2 f g m (i+1) _ (by omega) fuel (by omega),List.filter_cons_of_neg (by rw [hp]; exact Bool.false_ne_true)]
   simp
  | true =>
   rw [hp,cond_true] at hst
   rw [Bool.true_and]
   cases hb:B i with
   | true=>rw [hb,cond_true] at hst; rw [Zj _ hst]; rfl
   | false =>
    rw [hb,cond_false] at hst
    rw [Ya _ hst,Qan xs P B bad step h1 h2 f g m (i+1) _ (by omega) fuel (by omega),List.filter_cons_of_pos hp,Bool.false_or,List.length_cons]
    congr 2
    rw [Int.natCast_add,Int.add_assoc,Int.add_comm (1:Int)]; rfl
theorem Qns {α:Type} [Inhabited α] (p:α→Bool) (xs:List α):(idxI p xs<0↔xs.filter p=[])∧(0≤idxI p xs→xs.getD (idxI p xs).toNat default=(xs.filter p).getD 0 default):=by
 unfold idxI
 cases h:first (fun k=>p (xs.getD k default)) xs.length with
 | none =>
  have h1:=Qke.1 h
  refine ⟨⟨fun _=>?_,fun _=>by decide⟩,fun h=>absurd h (by decide)⟩
  rw [List.filter_eq_nil_iff]
  intro x hx
  obtain ⟨k,hk,rfl⟩:=Bk hx
  rw [h1 k hk]; exact Bool.false_ne_true
 | some k =>
  obtain ⟨h1,h2,h3⟩:=Qlk.1 h
  have hs:xs.filter p=xs.getD k default :: (xs.drop (k+1)).filter p:=by
   have e:xs=xs.take k++xs.getD k default :: xs.drop (k+1):=by
    rw [Ko _ h1,← List.drop_eq_getElem_cons h1,List.take_append_drop]
   have h4:(xs.take k).filter p=[]:=by
    rw [List.filter_eq_nil_iff]
    intro x hx
    obtain ⟨j,hj,rfl⟩:=Bk hx
    have hl:j<k:=by rw [List.length_take] at hj; omega
    rw [List.getD_eq_getElem?_getD,List.getElem?_take,if_pos hl,← List.getD_eq_getElem?_getD]
    rw [h3 j hl]; exact Bool.false_ne_true
   conv=>lhs; rw [e]
   rw [List.filter_append,h4,List.nil_append,List.filter_cons_of_pos h2]
  refine ⟨⟨fun h=>absurd h (by show ¬ ((k:Int)<0); omega),fun h=>by rw [hs] at h; cases h⟩,fun _=>?_⟩
  rw [hs]
  show xs.getD (k:Int).toNat default=xs.getD k default
  rw [nn]
theorem Qgd (p q:Nat→Bool):∀ (m i:Nat),anyF (fun k=>p k || q k) i m=(anyF p i m || anyF q i m)
 | 0,_=>rfl
 | m+1,i=>by
  rw [anyF,anyF,anyF,Qgd p q m (i+1)]
  cases p i <;> cases q i <;> simp
theorem Rm {p q:Nat→Bool}:∀ (m i:Nat),(∀ k,i≤k→k<i+m→p k=q k)→anyF p i m=anyF q i m
 | 0,_,_=>rfl
 | m+1,i,h=>by rw [anyF,anyF,h i (Nat.le_refl _) (by omega),Rm m (i+1) fun k h1 h2=>h k (by omega) (by omega)]
def badD (a n lo hi:Int) (d:List ByteArray):Bool:=(decide (F44 (d.getD 3 default)<a) || decide (F44 (d.getD 3 default)≥a+n)) || decide (lo≤F30 (d.getD 2 default)∧F30 (d.getD 2 default)≤hi)
def Jx (x y:List ByteArray):Bool:=(((y.getD 1 default).toList==(x.getD 1 default).toList)&&((y.getD 3 default).toList==(x.getD 3 default).toList))&&((y.getD 4 default).toList==(x.getD 4 default).toList)
theorem Ufm (all:List l52Cut) (i:Nat) (hi:i<all.length) (nat:l52Cut) (a n:Int) (hp:F42 (nat.w.getD 1 default)=(a,n)) (hb:0≤a∧a≤65535∧1≤n∧n≤65536) :
  F46 all (i:Int) nat=!(badD a n (F30 (nat.w.getD 3 default)) (F30 (nat.w.getD 4 default)) (all.getD i default).w || (all.take i).any fun e=>hdB e.w Ui&&Jx (all.getD i default).w e.w):=by
 unfold F46
 simp only [at1,at2,at3,at4,nn,hp,cb2]
 rw [Yx (by omega) (by omega)]
 have h1:=Yu (Vw all (i:Int) nat) i (fun k=>hdB (all.getD k default).w Ui&&Jx (all.getD i default).w (all.getD k default).w) false (fun r=>r) true (fun k hk=>by
  simp only [Vw,ltD hk,cond_true,nn,at0,at1,at3,at4,cb1]
  show (bif (((_&&_)&&_)&&_) then _ else _)=bif (hdB (all.getD k default).w Ui&&((_&&_)&&_)) then _ else _
  rw [blit,Bool.and_assoc,Bool.and_assoc,Bool.and_assoc]; rfl) (by simp only [Vw,decide_eq_false (show ¬ (i:Int)<(i:Int) by omega),cond_false]) i 0 (by omega) (Int.toNat ((i:Int)-0)+1) (by omega)
 rw [Qep all (fun e=>hdB e.w Ui&&Jx (all.getD i default).w e.w) i (by omega)] at h1
 rw [Bool.not_or]
 show (bif badD a n _ _ _ then false else _)=_
 refine (congrArg (fun z=>bif badD a n (F30 (nat.w.getD 3 default)) (F30 (nat.w.getD 4 default)) (all.getD i default).w then false else z) h1).trans ?_
 cases badD a n (F30 (nat.w.getD 3 default)) (F30 (nat.w.getD 4 default)) (all.getD i default).w <;> cases ((all.take i).any fun e=>hdB e.w Ui&&Jx (all.getD i default).w e.w) <;> rfl
def Qgz (a n lo hi:Int) (ds:List (List ByteArray)):Bool:=ds.any (badD a n lo hi) || Zi Jx [] ds
theorem Qcl (ws:List (List ByteArray)):F26 (ws.map l52Cut.mk)=match ws.filter (fun w=>hdB w hNat) with
  | []=>!(ws.any fun w=>hdB w Ui)
  | w :: _=>bif anyF (fun i=>hdB ((ws.map l52Cut.mk).getD i default).w Ui&&!F46 (ws.map l52Cut.mk) (i:Int) ⟨w⟩) 0 ws.length then false else
    ((decide (((ws.filter fun w=>hdB w Ui).length:Int)≤6)&&(decide (F44 (w.getD 2 default)<(F42 (w.getD 1 default)).1) || decide (F44 (w.getD 2 default)≥IntKind.i64.wrap ((F42 (w.getD 1 default)).1+(F42 (w.getD 1 default)).2))))&&decide (F30 (w.getD 3 default)≤F30 (w.getD 4 default))):=by
 generalize hall:ws.map l52Cut.mk=all
 have hlen:all.length=ws.length:=by rw [← hall,List.length_map]
 have hidx:=Qns (fun c=>((F29 c 0).toList==(⟨#[110,97,116]⟩:ByteArray).toList)) all
 have hnf:all.filter (fun c=>((F29 c 0).toList==(⟨#[110,97,116]⟩:ByteArray).toList))=(ws.filter fun w=>hdB w hNat).map l52Cut.mk:=by
  rw [← hall,List.filter_map]
  congr 2
  funext w
  show ((F29 ⟨w⟩ 0).toList==_)=_
  rw [at0,blit]; rfl
 rw [hnf] at hidx
 have hdf:all.filter (fun c=>hdB c.w Ui)=(ws.filter fun w=>hdB w Ui).map l52Cut.mk:=by
  rw [← hall,List.filter_map]; rfl
 have e211:F45 all=idxI (fun c=>((F29 c 0).toList==(⟨#[110,97,116]⟩:ByteArray).toList)) all:=as45 all
 unfold F26
 generalize hk:idxI (fun c=>((F29 c 0).toList==(⟨#[110,97,116]⟩:ByteArray).toList)) all=k at hidx
 have hloop:=Qan all (fun c=>hdB c.w Ui) (fun i=>decide (k<0) || !F46 all (i:Int) (all.getD (Int.toNat k) default)) false (Ba all) (fun i n hi=>by
  simp only [Ba,ltD hi,cond_true,nn,hk,e211]
  simp only [at0,blit,cb2]
  show (bif !(hdB (all.getD i default).w Ui) then _ else _)=bif hdB (all.getD i default).w Ui then _ else _
  cases hdB (all.getD i default).w Ui <;> rfl) (fun n=>by simp only [Ba,geD,cond_false]) (fun r=>r)
  (fun (doors,i40)=>bif (decide (k<0)) then true else (((decide (doors≤6)&&(decide (F44 ((all.getD k.toNat default).w.getD 2 default)<(F42 ((all.getD k.toNat default).w.getD 1 default)).1) || decide (F44 ((all.getD k.toNat default).w.getD 2 default)≥IntKind.i64.wrap ((F42 ((all.getD k.toNat default).w.getD 1 default)).1+(F42 ((all.getD k.toNat default).w.getD 1 default)).2)))))&&decide (F30 ((all.getD k.toNat default).w.getD 3 default)≤F30 ((all.getD k.toNat default).w.getD 4 default)))) all.length 0 0 (by omega) (Int.toNat ((all.length:Int)-0)+1) (by omega)
 simp only [hk,e211]
 simp only [at1,at2,at3,at4,cb1,cb2]
 refine Eq.trans hloop ?_
 rw [List.drop_zero,hdf,List.length_map,hlen]
 cases hn:ws.filter (fun w=>hdB w hNat) with
 | nil =>
  rw [hn] at hidx
  have hk0:=hidx.1.2 rfl
  simp only [decide_eq_true hk0,Bool.true_or,Bool.and_true,cond_true]
  have:=Ki all (fun c=>hdB c.w Ui) all.length 0 (by omega)
  rw [List.drop_zero,hlen] at this
  rw [this,← hall,List.any_map]
  show (bif ws.any (fun w=>hdB w Ui) then false else true)=!ws.any fun w=>hdB w Ui
  cases ws.any fun w=>hdB w Ui <;> rfl
 | cons w r =>
  rw [hn] at hidx
  have hk0:¬ k<0:=fun h=>by have:=hidx.1.1 h; cases this
  have hw:all.getD k.toNat default=⟨w⟩:=(hidx.2 (by omega)).trans rfl
  simp only [decide_eq_false hk0,Bool.false_or,cond_false,hw]
  rw [Int.zero_add]
theorem Qja (lines:List ByteArray) (w:List ByteArray) (r:List (List ByteArray)) (hn:Qb lines (⟨#[110,97,116]⟩:ByteArray)=w :: r) :
  F71 lines=(((F16 (F36 (w.getD 1 default)).1 (F53 (w.getD 2 default)) || decide (F19 (w.getD 3 default)>F19 (w.getD 4 default))) || decide (((Qb lines (⟨#[100,111,111,114]⟩:ByteArray)).length:Int)>6)) ||
   ((Qb lines (⟨#[100,111,111,114]⟩:ByteArray)).any (fun d=>!F16 (F36 (w.getD 1 default)).1 (F53 (d.getD 3 default)) || decide (F19 (w.getD 3 default)≤F19 (d.getD 2 default)∧F19 (d.getD 2 default)≤F19 (w.getD 4 default))) || Zi Jx [] (Qb lines (⟨#[100,111,111,114]⟩:ByteArray)))):=by
 unfold F71
 have e0:((Qb lines (⟨#[110,97,116]⟩:ByteArray)).getD (Int.toNat 0) default)=w:=by rw [hn]; rfl
 have hl:((((Qb lines (⟨#[110,97,116]⟩:ByteArray)).length:Int)==0))=false:=by rw [hn,beq_eq_false_iff_ne,List.length_cons]; omega
 rw [hl,cond_false]
 simp only [e0,cb2]
 generalize hds:Qb lines (⟨#[100,111,111,114]⟩:ByteArray)=ds
 have hloop:=Yu (Xg lines) ds.length (fun i=>(!F16 (F36 (w.getD 1 default)).1 (F53 ((ds.getD i default).getD 3 default)) || decide (F19 (w.getD 3 default)≤F19 ((ds.getD i default).getD 2 default)∧F19 ((ds.getD i default).getD 2 default)≤F19 (w.getD 4 default))) || (ds.take i).any (Jx (ds.getD i default))) true (fun r=>r) false (fun i hi=>by
  simp only [Xg,hds,ltD hi,cond_true,nn,e0,cb2]
  have h1:=anyL (ds.take i) (Jx (ds.getD i default)) true (Xn lines (i:Int)) (fun j hj=>by
   simp only [Xn,hds,nn,ltD hj,cond_true,cb1]; rfl) (by simp only [Xn,hds,nn,geD,cond_false]) (Lp.ret:Bool→Lp Int Bool) (fun v89=>.next ((i:Int)+1)) (.next ((i:Int)+1)) (fun _=>rfl)
  rw [h1]
  show (bif (!F16 (F36 (w.getD 1 default)).1 (F53 ((ds.getD i default).getD 3 default)) || decide (F19 (w.getD 3 default)≤F19 ((ds.getD i default).getD 2 default)∧F19 ((ds.getD i default).getD 2 default)≤F19 (w.getD 4 default))) then _ else _)=_
  cases (!F16 (F36 (w.getD 1 default)).1 (F53 ((ds.getD i default).getD 3 default)) || decide (F19 (w.getD 3 default)≤F19 ((ds.getD i default).getD 2 default)∧F19 ((ds.getD i default).getD 2 default)≤F19 (w.getD 4 default))) <;> cases ((ds.take i).any (Jx (ds.getD i default))) <;> rfl) (by simp only [Xg,hds,geD,cond_false]) ds.length 0 (by omega) (Int.toNat ((ds.length:Int)-0)+1) (by omega)
 rw [Qgd,Va Jx ds ds.length 0 (by omega),List.take_zero,List.drop_zero] at hloop
 have h2:=Ki ds (fun d=>(!F16 (F36 (w.getD 1 default)).1 (F53 (d.getD 3 default)) || decide (F19 (w.getD 3 default)≤F19 (d.getD 2 default)∧F19 (d.getD 2 default)≤F19 (w.getD 4 default)))) ds.length 0 (by omega)
 rw [List.drop_zero] at h2
 rw [h2] at hloop
 refine (congrArg (fun z=>bif ((F16 (F36 (w.getD 1 default)).1 (F53 (w.getD 2 default)) || decide (F19 (w.getD 3 default)>F19 (w.getD 4 default))) || decide ((ds.length:Int)>6)) then true else z) hloop).trans ?_
 rw [cb2]
 congr 1
 cases ((ds.any fun d=>!F16 (F36 (w.getD 1 default)).1 (F53 (d.getD 3 default)) || decide (F19 (w.getD 3 default)≤F19 (d.getD 2 default)∧F19 (d.getD 2 default)≤F19 (w.getD 4 default))) || Zi Jx [] ds) <;> rfl
theorem Qcp (lines:List ByteArray) (h:F20 lines=0):F71 lines=!F26 ((wsL lines).map l52Cut.mk):=by
 rw [Qcl]
 have hN:Qb lines (⟨#[110,97,116]⟩:ByteArray)=(wsL lines).filter fun w=>hdB w hNat:=Yl lines h _
 have hD:Qb lines (⟨#[100,111,111,114]⟩:ByteArray)=(wsL lines).filter fun w=>hdB w Ui:=Yl lines h _
 cases hn:(wsL lines).filter fun w=>hdB w hNat with
 | nil =>
  rw [hn] at hN
  unfold F71
  rw [hN,hD]
  show decide ((((wsL lines).filter fun w=>hdB w Ui).length:Int)>0)=!!_
  rw [Bool.not_not,Bool.eq_iff_iff,decide_eq_true_eq,List.any_eq_true]
  constructor
  ·intro hl
   have hl:0<((wsL lines).filter fun w=>hdB w Ui).length:=by omega
   have:=List.mem_filter.1 (List.getElem_mem hl)
   exact ⟨_,this.1,this.2⟩
  ·rintro ⟨x,hx,hp⟩
   have:=List.length_pos_of_mem (List.mem_filter.2 ⟨hx,hp⟩:x∈(wsL lines).filter fun w=>hdB w Ui)
   omega
 | cons w r =>
  have hwm:w∈(wsL lines).filter fun w=>hdB w hNat:=by rw [hn]; exact List.mem_cons_self
  rw [hn] at hN
  obtain ⟨hw1,hw2⟩:=List.mem_filter.1 hwm
  have hnp:=Uby (Pv lines h w hw1) (eq_of_beq hw2)
  unfold natP at hnp
  obtain ⟨a,L,e1,e2,d1,b1,c1,s1⟩:=Lr (w.getD 1 default) hnp.2.2.1
  rw [Qja lines w r hN]
  simp only [e1,e2,Qaj _ _ _ b1 c1,Pg,Nc]
  rw [Yx (by omega) (by omega),hD]
  have hdoor:anyF (fun i=>hdB (((wsL lines).map l52Cut.mk).getD i default).w Ui&&!F46 ((wsL lines).map l52Cut.mk) (i:Int) ⟨w⟩) 0 (wsL lines).length=Qgz a (F61 L) (F30 (w.getD 3 default)) (F30 (w.getD 4 default)) ((wsL lines).filter fun w=>hdB w Ui):=by
   have hc:=Rm (p:=fun i=>hdB (((wsL lines).map l52Cut.mk).getD i default).w Ui&&!F46 ((wsL lines).map l52Cut.mk) (i:Int) ⟨w⟩) (q:=fun i=>(hdB ((wsL lines).getD i default) Ui&&badD a (F61 L) (F30 (w.getD 3 default)) (F30 (w.getD 4 default)) ((wsL lines).getD i default)) || ((wsL lines).take i).any (fun e=>hdB ((wsL lines).getD i default) Ui&&(hdB e Ui&&Jx ((wsL lines).getD i default) e))) (wsL lines).length 0 (fun k _ hk=>by
    have hk:k<(wsL lines).length:=by omega
    have hg:((wsL lines).map l52Cut.mk).getD k default=⟨(wsL lines).getD k default⟩:=Nn _ _ _ hk
    rw [Ufm _ k (by simpa using hk) ⟨w⟩ a _ e2 ⟨b1.1,b1.2,s1⟩,Bool.not_not,hg,← List.map_take,Bo]
    show (hdB ((wsL lines).getD k default) Ui&&_)=_
    cases hdB ((wsL lines).getD k default) Ui with
    | true=>simp only [Bool.true_and]
    | false =>
     simp only [Bool.false_and]
     rw [show ((wsL lines).take k).any (fun _=>false)=false by simp]; rfl)
   rw [hc,Qgd,Va (fun x e=>hdB x Ui&&(hdB e Ui&&Jx x e)) (wsL lines) (wsL lines).length 0 (by omega),List.take_zero,List.drop_zero,Xp]
   have h3:=Ki (wsL lines) (fun d=>hdB d Ui&&badD a (F61 L) (F30 (w.getD 3 default)) (F30 (w.getD 4 default)) d) (wsL lines).length 0 (by omega)
   rw [List.drop_zero] at h3
   rw [h3]
   unfold Qgz
   rw [List.any_filter]; rfl
  rw [hdoor]
  have hbd:((wsL lines).filter fun w=>hdB w Ui).any (fun d=>!decide (a≤F44 (d.getD 3 default)∧F44 (d.getD 3 default)<a+F61 L) || decide (F30 (w.getD 3 default)≤F30 (d.getD 2 default)∧F30 (d.getD 2 default)≤F30 (w.getD 4 default)))=((wsL lines).filter fun w=>hdB w Ui).any (badD a (F61 L) (F30 (w.getD 3 default)) (F30 (w.getD 4 default))):=Uq fun d _=>by
   unfold badD
   congr 1
   rw [← decide_not,← Bool.decide_or]
   exact decide_eq_decide.2 (by omega)
  rw [hbd]
  show (_ || Qgz a (F61 L) (F30 (w.getD 3 default)) (F30 (w.getD 4 default)) ((wsL lines).filter fun w=>hdB w Ui))=_
  have g1:decide (a≤F44 (w.getD 2 default)∧F44 (w.getD 2 default)<a+F61 L)=!(decide (F44 (w.getD 2 default)<a) || decide (F44 (w.getD 2 default)≥a+F61 L)):=by
   rw [← Bool.decide_or,← decide_not]
   exact decide_eq_decide.2 (by omega)
  have g2:decide (F30 (w.getD 3 default)>F30 (w.getD 4 default))=!decide (F30 (w.getD 3 default)≤F30 (w.getD 4 default)):=by
   rw [← decide_not]
   exact decide_eq_decide.2 (by omega)
  have g3:decide ((((wsL lines).filter fun w=>hdB w Ui).length:Int)>6)=!decide ((((wsL lines).filter fun w=>hdB w Ui).length:Int)≤6):=by
   rw [← decide_not]
   exact decide_eq_decide.2 (by omega)
  rw [g1,g2,g3]
  generalize (decide (F44 (w.getD 2 default)<a) || decide (F44 (w.getD 2 default)≥a+F61 L))=x1,decide (F30 (w.getD 3 default)≤F30 (w.getD 4 default))=x2,decide ((((wsL lines).filter fun w=>hdB w Ui).length:Int)≤6)=x3,Qgz a (F61 L) (F30 (w.getD 3 default)) (F30 (w.getD 4 default)) ((wsL lines).filter fun w=>hdB w Ui)=x4
  cases x1 <;> cases x2 <;> cases x3 <;> cases x4 <;> rfl
theorem Qsb (lines:List ByteArray) (hz:∀ k:Nat,(lines.getD k default).size≤1048576) (h:F66 lines=0):F20 lines=0∧lines.length≤16∧∀ k:Nat,(lines.getD k default).size≤1048576:=by
 rw [Qcu] at h
 exact ⟨h,Vy lines h,hz⟩
theorem Pz (lines:List ByteArray) (hz:∀ k:Nat,(lines.getD k default).size≤1048576):∀ k j:Nat,(((lines.map (fun l=>(⟨(F40 l).1⟩:l52Cut))).getD k default).w.getD j default).size≤1048576:=fun k j=>by
 by_cases hk:k<lines.length
 ·rw [Nn _ _ _ hk]
  exact Qd (lines.getD k default) j
 ·have e:(lines.map (fun l=>(⟨(F40 l).1⟩:l52Cut))).getD k default=default:=by
   rw [List.getD_eq_getElem?_getD,List.getElem?_eq_none (by rw [List.length_map]; omega)]; rfl
  rw [e]
  exact Nat.zero_le _
theorem kc66 (lines:List ByteArray) {K_:Prop} (p0_:∀ k:Nat,(lines.getD k default).size≤1048576) (k_:K_):(∀ k:Nat,(lines.getD k default).size≤1048576)∧(Imp (.l 1 eStr lines) (.l 1 eStr lines))∧K_:=⟨p0_,Imp.refl _,k_⟩
abbrev kh66 (lines:List ByteArray):Hint false Tryz.prog:=.call 66 (S66 lines) (ok66 lines) none
def Pi (p:(List ByteArray)→Bool):Ye:=⟨List ByteArray,fun i=>[.c (.x (PX (.l 1 eStr i) (F20 i=0∧i.length≤16∧∀ k:Nat,(i.getD k default).size≤1048576)))],fun i=>.bool (p i)⟩
def Qjk (p:(List ByteArray)→Bool):List Dat:=[.x (FnX Tryz.prog (Pi p))]
def fh67:FnH Tryz.prog:=⟨false,67,Pi (fun x0=>F67 x0),[],rfl,True,fun i=>Bl (ok67 i)⟩
theorem ca67:Uc Tryz.prog 67=true:=by kernel_rfl
def fh68:FnH Tryz.prog:=⟨false,68,Pi (fun x0=>F68 x0),[],rfl,True,fun i=>Bl (ok68 i)⟩
theorem ca68:Uc Tryz.prog 68=true:=by kernel_rfl
def fh69:FnH Tryz.prog:=⟨false,69,Pi (fun x0=>F69 x0),[],rfl,True,fun i=>Bl (ok69 i)⟩
theorem ca69:Uc Tryz.prog 69=true:=by kernel_rfl
def fh70:FnH Tryz.prog:=⟨false,70,Pi (fun x0=>F70 x0),[],rfl,True,fun i=>Bl (ok70 i)⟩
theorem ca70:Uc Tryz.prog 70=true:=by kernel_rfl
def fh71:FnH Tryz.prog:=⟨false,71,Pi (fun x0=>F71 x0),[],rfl,True,fun i=>Bl (ok71 i)⟩
theorem ca71:Uc Tryz.prog 71=true:=by kernel_rfl
def Kz (lines:List ByteArray):Int→Lp Int Int:=fun v13 =>
 bif (decide (v13<(([(fun x0=>F67 x0),(fun x0=>F68 x0),(fun x0=>F69 x0),(fun x0=>F70 x0),(fun x0=>F71 x0)]:List ((List ByteArray)→Bool)).length:Int))) then (bif ((([(fun x0=>F67 x0),(fun x0=>F68 x0),(fun x0=>F69 x0),(fun x0=>F70 x0),(fun x0=>F71 x0)]:List ((List ByteArray)→Bool)).getD v13.toNat default) lines) then (.ret (5+v13)) else (.next (v13+1))) else (.done v13)
def F50 (lines:List ByteArray):Int :=
 bif ((F66 lines) != 0) then (F66 lines) else ((runL (Kz lines) (((([(fun x0=>F67 x0),(fun x0=>F68 x0),(fun x0=>F69 x0),(fun x0=>F70 x0),(fun x0=>F71 x0)]:List ((List ByteArray)→Bool)).length:Int)-0).toNat+1) 0).fin (fun r=>r) (fun v13=>0))
abbrev Qba:Nat×Int:=((((([(fun x0=>F67 x0),(fun x0=>F68 x0),(fun x0=>F69 x0),(fun x0=>F70 x0),(fun x0=>F71 x0)]:List ((List ByteArray)→Bool)).length:Int)-0).toNat+1),0)
abbrev Qlu (m39:Nat) (v13:Int):Prop:=(Int.toNat ((([(fun x0=>F67 x0),(fun x0=>F68 x0),(fun x0=>F69 x0),(fun x0=>F70 x0),(fun x0=>F71 x0)]:List ((List ByteArray)→Bool)).length:Int)-v13)<m39)∧(0:Int)≤v13
abbrev Qzu (lines:List ByteArray):Lp Int Int:=LpX (Kz lines) (Qba)
abbrev Qae (lines:List ByteArray) (i:Nat×Int):Prop:=LpJ (Kz lines) (Qba) i (Qlu i.1 i.2)
abbrev Qwz (lines:List ByteArray) (i:Nat×Int) (m39:Nat) (v13:Int):Prop:=LpH (Kz lines) (Qba) i m39 v13 (Qlu (m39+1) v13)
abbrev Qvg (lines:List ByteArray) (v13:Int) (v13_:Int) (K39:Prop):Prop:=(Rf (.int .i64 (([(fun x0=>F67 x0),(fun x0=>F68 x0),(fun x0=>F69 x0),(fun x0=>F70 x0),(fun x0=>F71 x0)]:List ((List ByteArray)→Bool)).length:Int)))∧((.int .i64 v13:Value)=.int .i64 v13_)∧(Im (.l 1 eStr lines))∧(Im (.l 1 Qjk ([(fun x0=>F67 x0),(fun x0=>F68 x0),(fun x0=>F69 x0),(fun x0=>F70 x0),(fun x0=>F71 x0)]:List ((List ByteArray)→Bool))))∧K39
theorem un50_0 (lines:List ByteArray) (i:Nat×Int) (h:Qae lines i):Qwz lines i (i.1-1) i.2:=⟨hd1 h.1 h.2.1,hd3 h.2.1,hd2 h.2.1,h.2.2⟩
theorem bk50_0 (lines:List ByteArray) (i:Nat×Int) (m39:Nat) (v13:Int) (hl:m39<i.1) (e:runL (Kz lines) m39 v13=Qzu lines) (h:Qlu m39 v13):∃ j:Nat×Int,Qvg lines v13 j.2 (Qae lines j∧j.1<i.1):=⟨(m39,v13),rfl,rfl,Imp.refl _,Imp.refl _,⟨e,h⟩,hl⟩
theorem en50_0 (lines:List ByteArray) (h:(0:Int)≤0):Qvg lines 0 0 (Qae lines (Qba)):=⟨rfl,rfl,Imp.refl _,Imp.refl _,rfl,Nat.lt_succ_self _,h⟩
def S50 (lines:List ByteArray):Spec:=⟨[.r (.c (.l 1 eStr lines))],.v (vI (F50 lines)),lines.length≤1048576∧(∀ k:Nat,(lines.getD k default).size≤1048576)⟩
theorem ok50 (lines:List ByteArray):(S50 lines).ok Tryz.prog 50 false :=
 Qi mixed (fn:=Tryz.f50) (ct:=.seqk [(0,0)] .no (.seq (.seq (.reg [(1,kh66 lines)]) (.seq .no (.cond (.seq .no .no) .no))) (.seq (.seqk [(0,0),(11,0)] (.reg [(0,.dat (.l 1 Qjk ([(fun x0=>F67 x0),(fun x0=>F68 x0),(fun x0=>F69 x0),(fun x0=>F70 x0),(fun x0=>F71 x0)]:List ((List ByteArray)→Bool))))]) (.blk (.loop (ι:=Nat×Int) (fun i=>(fun (v13:Int)=>(⟨[(0,some (.h 0 0)),(11,some (.h 1 0)),(12,some (.v (vI (([(fun x0=>F67 x0),(fun x0=>F68 x0),(fun x0=>F69 x0),(fun x0=>F70 x0),(fun x0=>F71 x0)]:List ((List ByteArray)→Bool)).length:Int)))),(13,some (.v (vI v13)))],[(0,some (.shr none (.l 1 eStr lines))),(1,some (.own 1 (.l 1 Qjk ([(fun x0=>F67 x0),(fun x0=>F68 x0),(fun x0=>F69 x0),(fun x0=>F70 x0),(fun x0=>F71 x0)]:List ((List ByteArray)→Bool)))))],2⟩:St)) i.2) (Qae lines) (fun i=>i.1) (Qba) (fun i=>(fun (v13:Int)=>(.seq .no (.seq (.cond .no .no) (.seq (.blk (.seq .no (.seq (.reg [(2,.fnv (Pi (([(fun x0=>F67 x0),(fun x0=>F68 x0),(fun x0=>F69 x0),(fun x0=>F70 x0),(fun x0=>F71 x0)]:List ((List ByteArray)→Bool)).getD v13.toNat default)) lines)]) (.cond (.seq (.reg [(1,.bnd)]) .no) .no)))) (.reg [(0,.bnd)]))))) i.2)))) (.seq .no .no)))) Tryz.func50 (fun (hp:lines.length≤1048576∧(∀ k:Nat,(lines.getD k default).size≤1048576))=>have hpre0:=hp.1; have hpre1:=hp.2; kn lines fun _=>kc66 lines (by first | assumption | exact hpre1 _ | exact fun k _=>hpre1 k | (intros; exact trivial) | (intros; exact Nat.zero_le _)) (ifn (F66 lines) 0 (fun h1 _=>fiI (F66 lines) (F50 lines) (condT h1 rfl)) (fun h1 _=>ai (BuildOK.mk Qjk ([(fun x0=>F67 x0),(fun x0=>F68 x0),(fun x0=>F69 x0),(fun x0=>F70 x0),(fun x0=>F71 x0)]:List ((List ByteArray)→Bool)) rfl (by exact ai (Imp.fn fh67 rfl trivial ca67) (ai (Imp.fn fh68 rfl trivial ca68) (ai (Imp.fn fh69 rfl trivial ca69) (ai (Imp.fn fh70 rfl trivial ca70) (ai (Imp.fn fh71 rfl trivial ca71) trivial))))) (fun _=>rfl):BuildOK 5 1 [.v (.func (.func 67) #[] #[]),.v (.func (.func 68) #[] #[]),.v (.func (.func 69) #[] #[]),.v (.func (.func 70) #[] #[]),.v (.func (.func 71) #[] #[])] (.l 1 Qjk ([(fun x0=>F67 x0),(fun x0=>F68 x0),(fun x0=>F69 x0),(fun x0=>F70 x0),(fun x0=>F71 x0)]:List ((List ByteArray)→Bool)))) (kn lines fun _=>kn ([(fun x0=>F67 x0),(fun x0=>F68 x0),(fun x0=>F69 x0),(fun x0=>F70 x0),(fun x0=>F71 x0)]:List ((List ByteArray)→Bool)) fun _=>ai (en50_0 lines (by omega)) (fun (i0:Nat×Int) (hi0:Qae lines i0)=>(fun (m0:Nat) (v13:Int) (hh0:Qwz lines i0 m0 v13)=>have hI0:=hh0.1; have hl0:=hh0.2.1; have _:=hh0.2.2.1; have _:=hh0.2.2.2; ifd (v13<(([(fun x0=>F67 x0),(fun x0=>F68 x0),(fun x0=>F69 x0),(fun x0=>F70 x0),(fun x0=>F71 x0)]:List ((List ByteArray)→Bool)).length:Int)) (fun h3 _=>ai (by omega:ib v13 ([(fun x0=>F67 x0),(fun x0=>F68 x0),(fun x0=>F69 x0),(fun x0=>F70 x0),(fun x0=>F71 x0)]:List ((List ByteArray)→Bool))) (ai (Eq.refl (FnX Tryz.prog (Pi (([(fun x0=>F67 x0),(fun x0=>F68 x0),(fun x0=>F69 x0),(fun x0=>F70 x0),(fun x0=>F71 x0)]:List ((List ByteArray)→Bool)).getD v13.toNat default)))) (ai (Imp.px (d:=.l 1 eStr lines) (by exact Qsb lines (by assumption) (by omega):F20 lines=0∧lines.length≤16∧∀ k:Nat,(lines.getD k default).size≤1048576)) (ifb ((([(fun x0=>F67 x0),(fun x0=>F68 x0),(fun x0=>F69 x0),(fun x0=>F70 x0),(fun x0=>F71 x0)]:List ((List ByteArray)→Bool)).getD v13.toNat default) lines) (fun h4=>ai (iok (5+v13) (by first | omega | (simp only [List.length_cons,List.length_nil] at *; omega))) (fiI (5+v13) (F50 lines) (condF h1 (finR (Qr hI0 (condT h3 (condT h4 rfl))) rfl)))) (fun h4=>ai (iok (v13+1) (by first | omega | (simp only [List.length_cons,List.length_nil] at *; omega))) (bk50_0 lines i0 m0 (v13+1) hl0 (Qe hI0 (condT h3 (condF h4 rfl))) (by refine ⟨?_,?_⟩ <;> omega))))))) (fun h3 _=>have hD0_5:Qzu lines=Lp.done v13:=Ql hI0 (condF h3 rfl); fiI 0 (F50 lines) (condF h1 (finD hD0_5 rfl)))) (i0.1-1) i0.2 (un50_0 lines i0 hi0)))))) (by kernel_rfl)
theorem kc20 (lines:List ByteArray) {K_:Prop} (p0_:∀ k:Nat,(lines.getD k default).size≤1048576) (k_:K_):(∀ k:Nat,(lines.getD k default).size≤1048576)∧(Imp (.l 1 eStr lines) (.l 1 eStr lines))∧K_:=⟨p0_,Imp.refl _,k_⟩
abbrev kh20 (lines:List ByteArray):Hint true Tryz.prog:=.call 20 (S20 lines) (ok20 lines) none
theorem kc21a (lines:List ByteArray) {K_:Prop} (p0_:lines.length≤16) (p1_:∀ k:Nat,(lines.getD k default).size≤1048576) (k_:K_):(lines.length≤16∧(∀ k:Nat,(lines.getD k default).size≤1048576))∧(Imp (.l 1 eStr lines) (.l 1 eStr lines))∧K_:=⟨⟨p0_,p1_⟩,Imp.refl _,k_⟩
abbrev kh21a (lines:List ByteArray):Hint true Tryz.prog:=.call 21 (T21 (lines.map (fun l=>(⟨(F40 l).1⟩:l52Cut))) lines) (oa21 lines) none
def F13 (lines:List ByteArray):Int :=
 bif ((F20 lines) != 0) then (F20 lines) else (bif (!(F22 (lines.map (fun l=>(⟨(F40 l).1⟩:l52Cut))))) then 5 else (bif (!(F23 (lines.map (fun l=>(⟨(F40 l).1⟩:l52Cut))))) then 6 else (bif (!(F24 (lines.map (fun l=>(⟨(F40 l).1⟩:l52Cut))))) then 7 else (bif (!(F25 (lines.map (fun l=>(⟨(F40 l).1⟩:l52Cut))))) then 8 else (bif (!(F26 (lines.map (fun l=>(⟨(F40 l).1⟩:l52Cut))))) then 9 else 0)))))
def S13 (lines:List ByteArray):Spec:=⟨[.r (.c (.l 1 eStr lines))],.v (vI (F13 lines)),lines.length≤1048576∧(∀ k:Nat,(lines.getD k default).size≤1048576)⟩
theorem ok13 (lines:List ByteArray):(S13 lines).ok Tryz.prog 13 :=
 Qi mixed (fn:=Tryz.f13) (ct:=.seqk [(0,0)] .no (.seq (.reg [(1,kh20 lines)]) (.seq (.seq .no (.cond (.seq .no .no) .no)) (.seq (.reg [(1,kh21a lines)]) (.seq (.blk (.seq (.reg [(1,.call 22 (S22 (lines.map (fun l=>(⟨(F40 l).1⟩:l52Cut)))) (ok22 (lines.map (fun l=>(⟨(F40 l).1⟩:l52Cut)))) none)]) (.cond (.seq .no .no) (.seq (.reg [(1,.call 23 (S23 (lines.map (fun l=>(⟨(F40 l).1⟩:l52Cut)))) (ok23 (lines.map (fun l=>(⟨(F40 l).1⟩:l52Cut)))) none)]) (.cond (.seq .no .no) (.seq (.reg [(1,.call 24 (S24 (lines.map (fun l=>(⟨(F40 l).1⟩:l52Cut)))) (ok24 (lines.map (fun l=>(⟨(F40 l).1⟩:l52Cut)))) none)]) (.cond (.seq .no .no) (.seq (.reg [(1,.call 25 (S25 (lines.map (fun l=>(⟨(F40 l).1⟩:l52Cut)))) (ok25 (lines.map (fun l=>(⟨(F40 l).1⟩:l52Cut)))) none)]) (.cond (.seq .no .no) (.seq (.reg [(1,.call 26 (S26 (lines.map (fun l=>(⟨(F40 l).1⟩:l52Cut)))) (ok26 (lines.map (fun l=>(⟨(F40 l).1⟩:l52Cut)))) none)]) (.cond (.seq .no .no) .no))))))))))) (.seq .no .no)))))) Tryz.func13 (fun (hp:lines.length≤1048576∧(∀ k:Nat,(lines.getD k default).size≤1048576))=>have hpre0:=hp.1; have hpre1:=hp.2; kn lines fun _=>kc20 lines (by first | assumption | exact hpre1 _ | exact fun k _=>hpre1 k | (intros; exact trivial) | (intros; exact Nat.zero_le _)) (ifn (F20 lines) 0 (fun h1 _=>fiI (F20 lines) (F13 lines) (condT h1 rfl)) (fun h1 _=>kc21a lines (by first | omega | assumption | (have h9:=Vy lines (by omega); omega)) (by first | omega | assumption | (have h9:=Vy lines (by omega); omega)) (ai trivial (ai (Imp.refl (.l 1 Qj (lines.map (fun l=>(⟨(F40 l).1⟩:l52Cut))))) (ifb (!(F22 (lines.map (fun l=>(⟨(F40 l).1⟩:l52Cut))))) (fun h2=>fiI 5 (F13 lines) (condF h1 (condT h2 rfl))) (fun h2=>ai trivial (ai (Imp.refl (.l 1 Qj (lines.map (fun l=>(⟨(F40 l).1⟩:l52Cut))))) (ifb (!(F23 (lines.map (fun l=>(⟨(F40 l).1⟩:l52Cut))))) (fun h3=>fiI 6 (F13 lines) (condF h1 (condF h2 (condT h3 rfl)))) (fun h3=>ai (by exact Pz lines (by assumption):∀ k j:Nat,(((lines.map (fun l=>(⟨(F40 l).1⟩:l52Cut))).getD k default).w.getD j default).size≤1048576) (ai (Imp.refl (.l 1 Qj (lines.map (fun l=>(⟨(F40 l).1⟩:l52Cut))))) (ifb (!(F24 (lines.map (fun l=>(⟨(F40 l).1⟩:l52Cut))))) (fun h4=>fiI 7 (F13 lines) (condF h1 (condF h2 (condF h3 (condT h4 rfl))))) (fun h4=>ai (by exact Pz lines (by assumption):∀ k j:Nat,(((lines.map (fun l=>(⟨(F40 l).1⟩:l52Cut))).getD k default).w.getD j default).size≤1048576) (ai (Imp.refl (.l 1 Qj (lines.map (fun l=>(⟨(F40 l).1⟩:l52Cut))))) (ifb (!(F25 (lines.map (fun l=>(⟨(F40 l).1⟩:l52Cut))))) (fun h5=>fiI 8 (F13 lines) (condF h1 (condF h2 (condF h3 (condF h4 (condT h5 rfl)))))) (fun h5=>ai (by exact Pz lines (by assumption):∀ k j:Nat,(((lines.map (fun l=>(⟨(F40 l).1⟩:l52Cut))).getD k default).w.getD j default).size≤1048576) (ai (Imp.refl (.l 1 Qj (lines.map (fun l=>(⟨(F40 l).1⟩:l52Cut))))) (ifb (!(F26 (lines.map (fun l=>(⟨(F40 l).1⟩:l52Cut))))) (fun h6=>fiI 9 (F13 lines) (condF h1 (condF h2 (condF h3 (condF h4 (condF h5 (condT h6 rfl))))))) (fun h6=>fiI 0 (F13 lines) (condF h1 (condF h2 (condF h3 (condF h4 (condF h5 (condF h6 rfl))))))))))))))))))))))))) (by kernel_rfl)
theorem Gz (lines:List ByteArray):F50 lines=F13 lines:=by
 unfold F50 F13
 rw [Qcu]
 cases hn:(F20 lines != 0) with
 | true=>rfl
 | false =>
  have h0:F20 lines=0:=by simpa using hn
  rw [cond_false,cond_false]
  have e:(lines.map (fun l=>(⟨(F40 l).1⟩:l52Cut)))=(wsL lines).map l52Cut.mk:=by
   unfold wsL
   rw [List.map_map]; rfl
  rw [e]
  have k1:=Qfd lines h0
  have k2:=Pp lines h0
  have k3:=Qgw lines h0
  have k4:=Pr lines h0
  have k5:=Qcp lines h0
  rw [← k1,← k2,← k3,← k4,← k5]
  have s0:Kz lines 0=bif F67 lines then .ret 5 else .next 1:=rfl
  have s1:Kz lines 1=bif F68 lines then .ret 6 else .next 2:=rfl
  have s2:Kz lines 2=bif F69 lines then .ret 7 else .next 3:=rfl
  have s3:Kz lines 3=bif F70 lines then .ret 8 else .next 4:=rfl
  have s4:Kz lines 4=bif F71 lines then .ret 9 else .next 5:=rfl
  have s5:Kz lines 5=.done 5:=rfl
  show (runL (Kz lines) 6 0).fin _ _=_
  cases b0:F67 lines with
  | true=>rw [b0,cond_true] at s0; rw [Zj _ s0]; rfl
  | false =>
  rw [b0,cond_false] at s0; rw [Ya _ s0]
  cases b1:F68 lines with
  | true=>rw [b1,cond_true] at s1; rw [Zj _ s1]; rfl
  | false =>
  rw [b1,cond_false] at s1; rw [Ya _ s1]
  cases b2:F69 lines with
  | true=>rw [b2,cond_true] at s2; rw [Zj _ s2]; rfl
  | false =>
  rw [b2,cond_false] at s2; rw [Ya _ s2]
  cases b3:F70 lines with
  | true=>rw [b3,cond_true] at s3; rw [Zj _ s3]; rfl
  | false =>
  rw [b3,cond_false] at s3; rw [Ya _ s3]
  cases b4:F71 lines with
  | true=>rw [b4,cond_true] at s4; rw [Zj _ s4]; rfl
  | false =>
  rw [b4,cond_false] at s4; rw [Ya _ s4,Km _ s5]; rfl
theorem Nh (lines:List ByteArray) (h:F13 lines=0):lines.length≤16:=by
 unfold F13 at h
 cases hn:(F20 lines != 0) with
 | true=>rw [hn,cond_true] at h; rw [h] at hn; exact absurd hn (by decide)
 | false=>exact Vy lines (by simpa using hn)
theorem Qnk (lines:List ByteArray) (h:F50 lines=0):lines.length≤16:=Nh lines (by rw [← Gz]; exact h)
def Vm (a:List ByteArray) (left':Int):(Int×Int)→Lp (Int×Int) Int:=fun (left'1,i40) =>
 bif (decide (i40<(a.length:Int))) then (bif (decide ((left'1-((a.getD i40.toNat default).size:Int))<0)) then (.ret (-1)) else (.next ((left'1-((a.getD i40.toNat default).size:Int)),(i40+1)))) else (.done (left'1,i40))
def F4 (a:List ByteArray) (left':Int):Int :=
 bif (decide ((left'-(a.length:Int))<0)) then (-1) else ((runL (Vm a left') (((a.length:Int)-0).toNat+1) ((left'-(a.length:Int)),0)).fin (fun r=>r) (fun (left'1,i40)=>left'1))
abbrev Qiz (a:List ByteArray) (left':Int):Nat×(Int×Int):=((((a.length:Int)-0).toNat+1),((left'-(a.length:Int)),0))
abbrev Qxt (a:List ByteArray) (m39:Nat) (left'1:Int) (i40:Int):Prop:=Int.toNat ((a.length:Int)-i40)<m39∧(0:Int)≤left'1∧left'1≤1048576∧(0:Int)≤i40
abbrev lX4_0 (a:List ByteArray) (left':Int):Lp (Int×Int) Int:=LpX (Vm a left') (Qiz a left')
abbrev Qhv (a:List ByteArray) (left':Int) (i:Nat×(Int×Int)):Prop:=LpJ (Vm a left') (Qiz a left') i (Qxt a i.1 i.2.1 i.2.2)
abbrev lH4_0 (a:List ByteArray) (left':Int) (i:Nat×(Int×Int)) (m39:Nat) (left'1:Int) (i40:Int):Prop:=LpH (Vm a left') (Qiz a left') i m39 (left'1,i40) (Qxt a (m39+1) left'1 i40)
abbrev lE4_0 (a:List ByteArray) (left'1:Int) (i40:Int) (left'1_:Int) (i40_:Int) (K39:Prop):Prop:=((.int .i64 left'1:Value)=.int .i64 left'1_)∧((.int .i64 i40:Value)=.int .i64 i40_)∧(Im (.l 1 eStr a))∧K39
theorem un4_0 (a:List ByteArray) (left':Int) (i:Nat×(Int×Int)) (h:Qhv a left' i):lH4_0 a left' i (i.1-1) i.2.1 i.2.2:=⟨hd1 h.1 h.2.1,hd3 h.2.1,hd2 h.2.1,h.2.2⟩
theorem bk4_0 (a:List ByteArray) (left':Int) (i:Nat×(Int×Int)) (m39:Nat) (left'1:Int) (i40:Int) (hl:m39<i.1) (e:runL (Vm a left') m39 (left'1,i40)=lX4_0 a left') (h:Qxt a m39 left'1 i40):∃ j:Nat×(Int×Int),lE4_0 a left'1 i40 j.2.1 j.2.2 (Qhv a left' j∧j.1<i.1):=⟨(m39,(left'1,i40)),rfl,rfl,Imp.refl _,⟨e,h⟩,hl⟩
theorem en4_0 (a:List ByteArray) (left':Int) (h:(0:Int)≤(left'-(a.length:Int))∧(left'-(a.length:Int))≤1048576∧(0:Int)≤0):lE4_0 a (left'-(a.length:Int)) 0 (left'-(a.length:Int)) 0 (Qhv a left' (Qiz a left')):=⟨rfl,rfl,Imp.refl _,rfl,Nat.lt_succ_self _,h⟩
def S4 (a:List ByteArray) (left':Int):Spec:=⟨[.r (.c (.l 1 eStr a)),.r (.c (.v (vI left')))],.v (vI (F4 a left')),0≤left'∧left'≤1048576∧(∀ k:Nat,(a.getD k default).size≤9223372036854775807)⟩
theorem ok4 (a:List ByteArray) (left':Int):(S4 a left').ok Tryz.prog 4 :=
 Qi mixed (fn:=Tryz.f4) (ct:=.seqk [(0,0)] .no (.seq (.reg [(3,.bnd)]) (.seq (.seq .no (.cond (.seq .no .no) .no)) (.seq (.seqk [(0,0)] .no (.blk (.loop (ι:=Nat×(Int×Int)) (fun i=>(fun (left'1:Int) (i40:Int)=>(⟨[(0,some (.h 0 0)),(1,some (.v (vI left'1))),(5,some (.v (vI i40)))],[(0,some (.shr none (.l 1 eStr a)))],1⟩:St)) i.2.1 i.2.2) (Qhv a left') (fun i=>i.1) (Qiz a left') (fun i=>(fun (left'1:Int) (i40:Int)=>(.seq (.seq .no (.cond .no .no)) (.seq (.blk (.seq (.reg [(6,.bnd)]) (.seq .no (.cond (.seq .no .no) .no)))) (.reg [(1,.bnd)])))) i.2.1 i.2.2)))) (.seq .no .no))))) Tryz.func4 (fun (hp:0≤left'∧left'≤1048576∧(∀ k:Nat,(a.getD k default).size≤9223372036854775807))=>have hpre0:=hp.1; have hpre1:=hp.2.1; have hpre2:=hp.2.2; kn a fun _=>ai (iok (left'-(a.length:Int)) (by first | omega | (have hz:=(by assumption:∀ k:Nat,(a.getD k default).size≤9223372036854775807) i40.toNat; omega))) (ifd ((left'-(a.length:Int))<0) (fun h1 _=>fiI (-1) (F4 a left') (condT h1 rfl)) (fun h1 _=>kn a fun _=>ai (en4_0 a left' (by refine ⟨?_,?_,?_⟩ <;> omega)) (fun (i0:Nat×(Int×Int)) (hi0:Qhv a left' i0)=>(fun (m0:Nat) (left'1:Int) (i40:Int) (hh0:lH4_0 a left' i0 m0 left'1 i40)=>have hI0:=hh0.1; have hl0:=hh0.2.1; have _:=hh0.2.2.1; have _:=hh0.2.2.2; ifd (i40<(a.length:Int)) (fun h3 _=>ai (by omega:ib i40 a) (ai (iok (left'1-((a.getD i40.toNat default).size:Int)) (by first | omega | (have hz:=(by assumption:∀ k:Nat,(a.getD k default).size≤9223372036854775807) i40.toNat; omega))) (ifd ((left'1-((a.getD i40.toNat default).size:Int))<0) (fun h4 _=>fiI (-1) (F4 a left') (condF h1 (finR (Qr hI0 (condT h3 (condT h4 rfl))) rfl))) (fun h4 _=>ai (iok (i40+1) (by first | omega | (have hz:=(by assumption:∀ k:Nat,(a.getD k default).size≤9223372036854775807) i40.toNat; omega))) (bk4_0 a left' i0 m0 (left'1-((a.getD i40.toNat default).size:Int)) (i40+1) hl0 (Qe hI0 (condT h3 (condF h4 rfl))) (by refine ⟨?_,?_,?_,?_⟩ <;> omega)))))) (fun h3 _=>have hD0_5:lX4_0 a left'=Lp.done (left'1,i40):=Ql hI0 (condF h3 rfl); fiI left'1 (F4 a left') (condF h1 (finD hD0_5 rfl)))) (i0.1-1) i0.2.1 i0.2.2 (un4_0 a left' i0 hi0))))) (by kernel_rfl)
theorem gb4 (a:List ByteArray) (left':Int):0≤left'→left'≤1048576→0≤(F4 a left')→(F4 a left')≤left'∧(a.length≤1000000000)∧(∀ k:Nat,(a.getD k default).size≤1000000000):=by
 intro h0 h1 h2
 simp only [F4] at h2 ⊢
 cases h:decide (left'-(a.length:Int)<0)
 ·simp only [h,cond_false] at h2 ⊢
  have hc:=of_decide_eq_false h
  obtain ⟨hall,hle⟩:=Ufh (fun (x:ByteArray) (l:Int)=>l-(x.size:Int)) (fun x=>(x.size≤1000000000)) (fun x l g0 g1 g2=>⟨by omega,by omega⟩) a (Vm a left') (left'-(a.length:Int)) (by omega) (by omega) (fun l i=>rfl) h2
  exact ⟨Int.le_trans hle (by omega),by omega,fun k=>by
   by_cases hk:k<a.length
   ·exact (hall k hk)
   ·rw [Zs a (by omega)]; first | exact Nat.zero_le _ | (intro k'; exact Nat.zero_le _) | (intro k' k''; exact Nat.zero_le _)⟩
 ·simp only [h,cond_true] at h2
  exact absurd h2 (by decide)
theorem g4_0 (a:List ByteArray) (left':Int):0≤left'→left'≤1048576→0≤(F4 a left')→(F4 a left')≤left':=by
 intro h0 h1 h2; exact (gb4 a left' h0 h1 h2).1
theorem g4_1 (a:List ByteArray) (left':Int):0≤left'→left'≤1048576→0≤(F4 a left')→a.length≤1000000000:=by
 intro h0 h1 h2; exact (gb4 a left' h0 h1 h2).2.1
theorem g4_2 (a:List ByteArray) (left':Int):0≤left'→left'≤1048576→0≤(F4 a left')→∀ k:Nat,(a.getD k default).size≤1000000000:=by
 intro h0 h1 h2; exact (gb4 a left' h0 h1 h2).2.2
theorem Qhf (a:List ByteArray) (l:Int) (h:0≤F4 a l):(a.length:Int)≤l∧(∀ k:Nat,((a.getD k default).size:Int)≤l)∧F4 a l≤l:=by
 unfold F4 at h ⊢
 cases hd:decide ((l-(a.length:Int))<0) with
 | true=>rw [hd,cond_true] at h; exact absurd h (by decide)
 | false =>
  rw [hd,cond_false] at h
  have hd:=of_decide_eq_false hd
  have key:∀ (m i:Nat) (s:Int),i+m=a.length→0≤s→∀ fuel,m<fuel→0≤(runL (Vm a l) fuel (s,(i:Int))).fin (fun r=>r) (fun (x:Int×Int)=>x.1)→(∀ k:Nat,i≤k→k<a.length→((a.getD k default).size:Int)≤s)∧(runL (Vm a l) fuel (s,(i:Int))).fin (fun r=>r) (fun (x:Int×Int)=>x.1)≤s:=by
   intro m
   induction m with
   | zero =>
    intro i s hi hs fuel hf hr
    obtain ⟨fuel,rfl⟩:∃ f,fuel=f+1:=⟨fuel-1,by omega⟩
    have e:Vm a l (s,(i:Int))=.done (s,(i:Int)):=by
     simp only [Vm,decide_eq_false (show ¬ (i:Int)<(a.length:Int) by omega),cond_false]
    rw [Km _ e]
    exact ⟨fun k h1 h2=>by omega,Int.le_refl _⟩
   | succ m ih =>
    intro i s hi hs fuel hf hr
    obtain ⟨fuel,rfl⟩:∃ f,fuel=f+1:=⟨fuel-1,by omega⟩
    have e:Vm a l (s,(i:Int))=bif decide (s-((a.getD i default).size:Int)<0) then .ret (-1) else .next (s-((a.getD i default).size:Int),((i+1:Nat):Int)):=by
     simp only [Vm,decide_eq_true (show (i:Int)<(a.length:Int) by omega),cond_true,nn]; rfl
    cases hb:decide (s-((a.getD i default).size:Int)<0) with
    | true =>
     rw [hb,cond_true] at e
     rw [Zj _ e] at hr
     exact absurd hr (by show ¬ (0:Int)≤-1; decide)
    | false =>
     rw [hb,cond_false] at e
     have hb:=of_decide_eq_false hb
     rw [Ya _ e] at hr ⊢
     obtain ⟨h1,h2⟩:=ih (i+1) _ (by omega) (by omega) fuel (by omega) hr
     refine ⟨fun k hk1 hk2=>?_,by omega⟩
     rcases Nat.eq_or_lt_of_le hk1 with rfl | hk
     ·omega
     ·have:=h1 k hk hk2
      omega
  obtain ⟨h1,h2⟩:=key a.length 0 (l-(a.length:Int)) (by omega) (by omega) (Int.toNat ((a.length:Int)-0)+1) (by omega) h
  refine ⟨by omega,fun k=>?_,?_⟩
  ·by_cases hk:k<a.length
   ·have:=h1 k (Nat.zero_le _) hk
    omega
   ·rw [List.getD_eq_getElem?_getD,List.getElem?_eq_none (by omega)]
    show ((0:Nat):Int)≤l
    omega
  ·rw [cond_false]
   refine Int.le_trans h2 ?_
   omega
theorem Qgs (a:List ByteArray) {l:Int} (h:0≤F4 a l) (hl:l≤1048576):a.length≤1048576:=by have:=(Qhf a l h).1; omega
theorem Py (a:List ByteArray) {l:Int} (h:0≤F4 a l) (hl:l≤1048576):∀ k:Nat,(a.getD k default).size≤1048576:=fun k=>by have:=(Qhf a l h).2.1 k; omega
def Qch (s:ByteArray) (at':Int):(List ByteArray×Int×Int)→Lp (List ByteArray×Int×Int) (List ByteArray):=fun (out1,from'1,i40) =>
 bif (decide (i40<(s.size:Int))) then (bif (((s.data.getD i40.toNat 0).toNat:Int)==(at'%256)) then (.next ((out1++[(s.extract (Int.toNat from'1) i40.toNat)]),(i40+1),(i40+1))) else (.next (out1,from'1,(i40+1)))) else (.done (out1,from'1,i40))
def Qgg (s:ByteArray) (at':Int):Lp (List ByteArray×Int) (List ByteArray) :=
 (runL (Qch s at') (((s.size:Int)-0).toNat+1) (([]:List ByteArray),0,0)).fin Lp.ret (fun (out1,from'1,i40)=>.done (out1,from'1))
def F62 (s:ByteArray) (at':Int):List ByteArray :=
 (Qgg s at').fin (fun r=>r) (fun (out,from')=>(out++[(s.extract from'.toNat (s.size:Int).toNat)]))
abbrev Qax (s:ByteArray):Nat×(List ByteArray×Int×Int):=((((s.size:Int)-0).toNat+1),(([]:List ByteArray),0,0))
abbrev Qmx (s:ByteArray) (m39:Nat) (out1:List ByteArray) (from'1:Int) (i40:Int):Prop:=Int.toNat ((s.size:Int)-i40)<m39∧(0:Int)≤from'1∧(from'1:Int)≤i40∧(out1.length:Int)≤i40∧i40≤(s.size:Int)∧(0:Int)≤from'1∧(0:Int)≤i40
abbrev Qwk (s:ByteArray) (at':Int):Lp (List ByteArray×Int×Int) (List ByteArray):=LpX (Qch s at') (Qax s)
abbrev Tq (s:ByteArray) (at':Int) (i:Nat×(List ByteArray×Int×Int)):Prop:=LpJ (Qch s at') (Qax s) i (Qmx s i.1 i.2.1 i.2.2.1 i.2.2.2)
abbrev Uak (s:ByteArray) (at':Int) (i:Nat×(List ByteArray×Int×Int)) (m39:Nat) (out1:List ByteArray) (from'1:Int) (i40:Int):Prop:=LpH (Qch s at') (Qax s) i m39 (out1,from'1,i40) (Qmx s (m39+1) out1 from'1 i40)
abbrev Qtj (s:ByteArray) (at':Int) (out1:List ByteArray) (from'1:Int) (i40:Int) (out1_:List ByteArray) (from'1_:Int) (i40_:Int) (K39:Prop):Prop:=(Rf (.string s))∧(Rf (.int .u8 (at'%256)))∧((.int .i64 from'1:Value)=.int .i64 from'1_)∧((.int .i64 i40:Value)=.int .i64 i40_)∧(Imp (.l 1 eStr out1) (.l 1 eStr out1_))∧K39
theorem un62_0 (s:ByteArray) (at':Int) (i:Nat×(List ByteArray×Int×Int)) (h:Tq s at' i):Uak s at' i (i.1-1) i.2.1 i.2.2.1 i.2.2.2:=⟨hd1 h.1 h.2.1,hd3 h.2.1,hd2 h.2.1,h.2.2⟩
theorem Uaq (s:ByteArray) (at':Int) (i:Nat×(List ByteArray×Int×Int)) (m39:Nat) (out1:List ByteArray) (from'1:Int) (i40:Int) (hl:m39<i.1) (e:runL (Qch s at') m39 (out1,from'1,i40)=Qwk s at') (h:Qmx s m39 out1 from'1 i40):∃ j:Nat×(List ByteArray×Int×Int),Qtj s at' out1 from'1 i40 j.2.1 j.2.2.1 j.2.2.2 (Tq s at' j∧j.1<i.1):=⟨(m39,(out1,from'1,i40)),rfl,rfl,rfl,rfl,Imp.refl _,⟨e,h⟩,hl⟩
theorem en62_0 (s:ByteArray) (at':Int) (h:(0:Int)≤0∧(0:Int)≤0∧(([]:List ByteArray).length:Int)≤0∧0≤(s.size:Int)∧(0:Int)≤0∧(0:Int)≤0):Qtj s at' ([]:List ByteArray) 0 0 ([]:List ByteArray) 0 0 (Tq s at' (Qax s)):=⟨rfl,rfl,rfl,rfl,Imp.refl _,rfl,Nat.lt_succ_self _,h⟩
abbrev Qkh (s:ByteArray) (at':Int) (out:List ByteArray) (from':Int):Prop:=(0:Int)≤from'∧from'≤(s.size:Int)∧(out.length:Int)≤(s.size:Int)
abbrev Qlt (s:ByteArray) (at':Int) (j:List ByteArray×Int):Prop:=(Qgg s at')=Lp.done j∧Qkh s at' j.1 j.2
theorem jn62_0 (s:ByteArray) (at':Int) (out:List ByteArray) (from':Int) (e:(Qgg s at')=Lp.done (out,from')) (h:Qkh s at' out from'):∃ j:List ByteArray×Int,((.string s:Value)=.string s)∧((.int .i64 from':Value)=.int .i64 j.2)∧(Imp (.l 1 eStr out) (.l 1 eStr j.1))∧Qlt s at' j:=⟨(out,from'),rfl,rfl,Imp.refl _,e,h⟩
theorem fi62 (s:ByteArray) (at':Int) (r:List ByteArray) (hF:r=(F62 s at')):(Imp (.l 1 eStr r) (.l 1 eStr (F62 s at')))∧True:=by cases hF; exact ⟨Imp.refl _,trivial⟩
def S62 (s:ByteArray) (at':Int):Spec:=⟨[.r (.c (.v (.string s))),.r (.c (.v (.int .u8 (at'%256))))],.ow (.l 1 eStr (F62 s at')),s.size≤1048576⟩
theorem ok62 (s:ByteArray) (at':Int):(S62 s at').ok Tryz.prog 62 :=
 Qi mixed (fn:=Tryz.f62) (ct:=.seq .no (.seq (.reg [(0,.dat (.l 1 eStr ([]:List ByteArray)))]) (.seq .no (.cut (ι:=List ByteArray×Int) (fun j=>(fun (out:List ByteArray) (from':Int)=>(⟨[(0,some (.v (.string s))),(5,some (.h 0 0)),(6,some (.v (vI from')))],[(0,some (.own 0 (.l 1 eStr out)))],1⟩:St)) j.1 j.2) (Qlt s at') (.seqk [(5,0)] .no (.blk (.loop (ι:=Nat×(List ByteArray×Int×Int)) (fun i=>(fun (out1:List ByteArray) (from'1:Int) (i40:Int)=>(⟨[(0,some (.v (.string s))),(1,some (.v (.int .u8 (at'%256)))),(5,some (.h 0 0)),(6,some (.v (vI from'1))),(7,some (.v (vI i40)))],[(0,some (.own 0 (.l 1 eStr out1)))],1⟩:St)) i.2.1 i.2.2.1 i.2.2.2) (Tq s at') (fun i=>i.1) (Qax s) (fun i=>(fun (out1:List ByteArray) (from'1:Int) (i40:Int)=>(.seq (.seq .no (.cond .no .no)) (.seq (.blk (.seq .no (.cond (.seq (.reg [(6,.dat (.l 1 eStr (out1++[(s.extract (Int.toNat from'1) i40.toNat)])))]) (.reg [(1,.bnd)])) .no))) (.reg [(1,.bnd)])))) i.2.1 i.2.2.1 i.2.2.2)))) (fun j=>(fun (out:List ByteArray) (from':Int)=>(.seq (.reg [(5,.dat (.l 1 eStr (out++[(s.extract from'.toNat (s.size:Int).toNat)])))]) .no)) j.1 j.2))))) Tryz.func62 (fun (hpre0:s.size≤1048576)=>ai (bokr 1 eStr ([]:List ByteArray) fun _=>rfl) (ai (kn ([]:List ByteArray) fun _=>ai (en62_0 s at' (by refine ⟨?_,?_,?_,?_,?_,?_⟩ <;> first | omega | (simp only [lens,ib] at*<;> omega))) (fun (i0:Nat×(List ByteArray×Int×Int)) (hi0:Tq s at' i0)=>(fun (m0:Nat) (out1:List ByteArray) (from'1:Int) (i40:Int) (hh0:Uak s at' i0 m0 out1 from'1 i40)=>have hI0:=hh0.1; have hl0:=hh0.2.1; have _:=hh0.2.2.1; have _:=hh0.2.2.2; ifd (i40<(s.size:Int)) (fun h2 _=>ai (by first | omega | (simp only [lens,ib] at*<;> omega):0≤i40∧i40<(s.size:Int)) (ife ((s.data.getD i40.toNat 0).toNat:Int) (at'%256) (fun h3 _=>ai (by first | omega | (simp only [lens,ib] at*<;> omega):0≤from'1∧from'1≤i40∧i40≤(s.size:Int)) (ai (appr 1 eStr out1 [(s.extract (Int.toNat from'1) i40.toNat)] fun _=>rfl) (ai (by (try simp only [lens]); omega:(out1++[(s.extract (Int.toNat from'1) i40.toNat)]).length*16≤140737488355328) (ai (iok (i40+1) (by first | omega | (simp only [lens,ib] at*<;> omega))) (ai (iok (i40+1) (by first | omega | (simp only [lens,ib] at*<;> omega))) (Uaq s at' i0 m0 (out1++[(s.extract (Int.toNat from'1) i40.toNat)]) (i40+1) (i40+1) hl0 (Qe hI0 (condT h2 (condT h3 rfl))) (by refine ⟨?_,?_,?_,?_,?_,?_,?_⟩ <;> first | omega | (simp only [lens,ib] at*<;> omega)))))))) (fun h3 _=>ai (iok (i40+1) (by first | omega | (simp only [lens,ib] at*<;> omega))) (Uaq s at' i0 m0 out1 from'1 (i40+1) hl0 (Qe hI0 (condT h2 (condF h3 rfl))) (by refine ⟨?_,?_,?_,?_,?_,?_,?_⟩ <;> first | omega | (simp only [lens,ib] at*<;> omega)))))) (fun h2 _=>have hD0_4:Qwk s at'=Lp.done (out1,from'1,i40):=Ql hI0 (condF h2 rfl); jn62_0 s at' out1 from'1 (Eq.symm (finD hD0_4 rfl)) (by refine ⟨?_,?_,?_⟩ <;> first | omega | (simp only [lens,ib] at*<;> omega)))) (i0.1-1) i0.2.1 i0.2.2.1 i0.2.2.2 (un62_0 s at' i0 hi0))) (fun (j:List ByteArray×Int) (hj:Qlt s at' j)=>(fun (out:List ByteArray) (from':Int) (hJ0_5:(Qgg s at')=Lp.done (out,from')) (hw:Qkh s at' out from')=>have _:=hw.1; have _:=hw.2.1; have _:=hw.2.2; ai (by first | omega | (simp only [lens,ib] at*<;> omega):0≤from'∧from'≤(s.size:Int)∧(s.size:Int)≤(s.size:Int)) (ai (appr 1 eStr out [(s.extract from'.toNat (s.size:Int).toNat)] fun _=>rfl) (ai (by (try simp only [lens]); omega:(out++[(s.extract from'.toNat (s.size:Int).toNat)]).length*16≤140737488355328) (fi62 s at' (out++[(s.extract from'.toNat (s.size:Int).toNat)]) (finD hJ0_5 rfl))))) j.1 j.2 hj.1 hj.2))) (by kernel_rfl)
def F78 (n:Int) (low:Int) (high:Int):Bool :=
 (bif decide (n≥low) then decide (n≤high) else false)
def S78 (R:Bool) (n:Int) (low:Int) (high:Int):Spec:=⟨[.r (.c (.v (vI n))),.r (.c (.v (vI low))),.r (.c (.v (vI high)))],.v (.bool R),True⟩
theorem ok78 (n:Int) (low:Int) (high:Int):(S78 (F78 n low high) n low high).ok Tryz.prog 78 :=
 Qi mixed (fn:=Tryz.f78) (ct:=.seq .no (.seq .no .no)) Tryz.func78 (fun (_:True)=>fiB (bif decide (n≥low) then decide (n≤high) else false) (F78 n low high) rfl) (by kernel_rfl)
theorem as78 (n:Int) (low:Int) (high:Int):F78 n low high=(decide (low≤n∧n≤high)):=by
 simp only [F78,Bool.decide_and,Qzt]
theorem oa78 (n:Int) (low:Int) (high:Int):(S78 (decide (low≤n∧n≤high)) n low high).ok Tryz.prog 78:=by
 intro hp; have h:=ok78 n low high hp; rw [as78 n low high] at h; exact h
theorem Qwf (n:Int) (low:Int) (high:Int) {K_:Prop} (k_:K_):(True)∧(Imp (.v (vI n)) (.v (vI n)))∧(Imp (.v (vI low)) (.v (vI low)))∧(Imp (.v (vI high)) (.v (vI high)))∧K_:=⟨trivial,Imp.refl _,Imp.refl _,Imp.refl _,k_⟩
abbrev Qhi (n:Int) (low:Int) (high:Int):Hint true Tryz.prog:=.call 78 (S78 (decide (low≤n∧n≤high)) n low high) (oa78 n low high) none
def Xj (s:ByteArray):(Int×Int)→Lp (Int×Int) Int:=fun (n,i40) =>
 bif (decide (i40<(s.size:Int))) then (bif (bif decide (((s.data.getD i40.toNat 0).toNat:Int)<48) then true else decide (((s.data.getD i40.toNat 0).toNat:Int)>57)) then (.ret (-1)) else (.next ((IntKind.i64.wrap ((IntKind.i64.wrap (n*10))+(IntKind.i64.wrap (IntKind.u8.wrap (((s.data.getD i40.toNat 0).toNat:Int)-48))))),(i40+1)))) else (.done (n,i40))
def F64 (s:ByteArray):Int :=
 bif (bif (!(decide (1≤(s.size:Int)∧(s.size:Int)≤5))) then true else (bif decide ((s.size:Int)>1) then (((s.data.getD (Int.toNat 0) 0).toNat:Int)==48) else false)) then (-1) else ((runL (Xj s) (((s.size:Int)-0).toNat+1) (0,0)).fin (fun r=>r) (fun (n,i40)=>n))
abbrev Tp (s:ByteArray):Nat×(Int×Int):=((((s.size:Int)-0).toNat+1),(0,0))
abbrev Qnh (s:ByteArray) (m39:Nat) (n:Int) (i40:Int):Prop:=Int.toNat ((s.size:Int)-i40)<m39∧(0:Int)≤i40
abbrev Uai (s:ByteArray):Lp (Int×Int) Int:=LpX (Xj s) (Tp s)
abbrev Qbc (s:ByteArray) (i:Nat×(Int×Int)):Prop:=LpJ (Xj s) (Tp s) i (Qnh s i.1 i.2.1 i.2.2)
abbrev Qzr (s:ByteArray) (i:Nat×(Int×Int)) (m39:Nat) (n:Int) (i40:Int):Prop:=LpH (Xj s) (Tp s) i m39 (n,i40) (Qnh s (m39+1) n i40)
abbrev Qwe (s:ByteArray) (n:Int) (i40:Int) (n_:Int) (i40_:Int) (K39:Prop):Prop:=(Rf (.string s))∧((.int .i64 n:Value)=.int .i64 n_)∧((.int .i64 i40:Value)=.int .i64 i40_)∧K39
theorem un64_0 (s:ByteArray) (i:Nat×(Int×Int)) (h:Qbc s i):Qzr s i (i.1-1) i.2.1 i.2.2:=⟨hd1 h.1 h.2.1,hd3 h.2.1,hd2 h.2.1,h.2.2⟩
theorem bk64_0 (s:ByteArray) (i:Nat×(Int×Int)) (m39:Nat) (n:Int) (i40:Int) (hl:m39<i.1) (e:runL (Xj s) m39 (n,i40)=Uai s) (h:Qnh s m39 n i40):∃ j:Nat×(Int×Int),Qwe s n i40 j.2.1 j.2.2 (Qbc s j∧j.1<i.1):=⟨(m39,(n,i40)),rfl,rfl,rfl,⟨e,h⟩,hl⟩
theorem en64_0 (s:ByteArray) (h:(0:Int)≤0):Qwe s 0 0 0 0 (Qbc s (Tp s)):=⟨rfl,rfl,rfl,rfl,Nat.lt_succ_self _,h⟩
def S64 (s:ByteArray):Spec:=⟨[.r (.c (.v (.string s)))],.v (vI (F64 s)),s.size≤1048576⟩
theorem ok64 (s:ByteArray):(S64 s).ok Tryz.prog 64 :=
 Qi mixed (fn:=Tryz.f64) (ct:=.seq .no (.seq (.seq (.reg [(2,Qhi (s.size:Int) 1 5)]) (.cond (.seq .no .no) .no)) (.seq .no (.seq (.seq .no (.blk (.loop (ι:=Nat×(Int×Int)) (fun i=>(fun (n:Int) (i40:Int)=>(⟨[(0,some (.v (.string s))),(3,some (.v (vI n))),(4,some (.v (vI i40)))],[],0⟩:St)) i.2.1 i.2.2) (Qbc s) (fun i=>i.1) (Tp s) (fun i=>(fun (n:Int) (i40:Int)=>(.seq (.seq .no (.cond .no .no)) (.seq (.blk (.seq (.seq .no (.cond (.seq .no .no) .no)) .no)) (.reg [(1,.bnd)])))) i.2.1 i.2.2)))) (.seq .no .no))))) Tryz.func64 (fun (hpre0:s.size≤1048576)=>Qwf (s.size:Int) 1 5 (ai (fun k2:(decide ((s.size:Int)>1))=true=>have _:=of_decide_eq_true k2; (fun k1:(!(decide (1≤(s.size:Int)∧(s.size:Int)≤5)))=false=>have _:=of_decide_eq_true (Yi k1); (by omega:0≤(0:Int)∧(0:Int)<(s.size:Int)))) (ifb (bif (!(decide (1≤(s.size:Int)∧(s.size:Int)≤5))) then true else (bif decide ((s.size:Int)>1) then (((s.data.getD (Int.toNat 0) 0).toNat:Int)==48) else false)) (fun h3=>fiI (-1) (F64 s) (condT h3 rfl)) (fun h3=>have _:=of_decide_eq_true (Yi (orF1 h3)); ai (en64_0 s (by omega)) (fun (i0:Nat×(Int×Int)) (hi0:Qbc s i0)=>(fun (m0:Nat) (n:Int) (i40:Int) (hh0:Qzr s i0 m0 n i40)=>have hI0:=hh0.1; have hl0:=hh0.2.1; have _:=hh0.2.2.1; have _:=hh0.2.2.2; ifd (i40<(s.size:Int)) (fun h5 _=>ai (by omega:0≤i40∧i40<(s.size:Int)) (ai (fun k6:(decide (((s.data.getD i40.toNat 0).toNat:Int)<48))=false=>have _:=of_decide_eq_false k6; (by omega:0≤i40∧i40<(s.size:Int))) (ifb (bif decide (((s.data.getD i40.toNat 0).toNat:Int)<48) then true else decide (((s.data.getD i40.toNat 0).toNat:Int)>57)) (fun h7=>fiI (-1) (F64 s) (condF h3 (finR (Qr hI0 (condT h5 (condT h7 rfl))) rfl))) (fun h7=>have _:=of_decide_eq_false (orF1 h7); have _:=of_decide_eq_false (orF2 h7); ai (by omega:0≤i40∧i40<(s.size:Int)) (ai (iok (i40+1) (by omega)) (bk64_0 s i0 m0 (IntKind.i64.wrap ((IntKind.i64.wrap (n*10))+(IntKind.i64.wrap (IntKind.u8.wrap (((s.data.getD i40.toNat 0).toNat:Int)-48))))) (i40+1) hl0 (Qe hI0 (condT h5 (condF h7 rfl))) (by refine ⟨?_,?_⟩ <;> omega))))))) (fun h5 _=>have hD0_8:Uai s=Lp.done (n,i40):=Ql hI0 (condF h5 rfl); fiI n (F64 s) (condF h3 (finD hD0_8 rfl)))) (i0.1-1) i0.2.1 i0.2.2 (un64_0 s i0 hi0)))))) (by kernel_rfl)
theorem kc62 (s:ByteArray) (at':Int) {K_:Prop} (p0_:s.size≤1048576) (q0_:s.size≤1048576) (k_:(∀ k:Nat,((F62 s at').getD k default).size≤1048576)→K_):(s.size≤1048576)∧(Imp (.v (.string s)) (.v (.string s)))∧(Imp (.v (.int .u8 at')) (.v (.int .u8 at')))∧K_:=⟨p0_,Imp.refl _,Imp.refl _,k_ (Yy s at' q0_)⟩
abbrev kh62 (s:ByteArray) (at':Int):Hint true Tryz.prog:=.call 62 (S62 s at') (ok62 s at') none
theorem kc64 (s:ByteArray) {K_:Prop} (p0_:s.size≤1048576) (k_:K_):(s.size≤1048576)∧(Imp (.v (.string s)) (.v (.string s)))∧K_:=⟨p0_,Imp.refl _,k_⟩
abbrev kh64 (s:ByteArray):Hint true Tryz.prog:=.call 64 (S64 s) (ok64 s) none
theorem kg78a {K_:Prop} (c_ b_:Bool) (n:Int) (low:Int) (high:Int) (k_:K_):(c_=b_→True)∧(c_=b_→Imp (.v (vI n)) (.v (vI n)))∧(c_=b_→Imp (.v (vI low)) (.v (vI low)))∧(c_=b_→Imp (.v (vI high)) (.v (vI high)))∧K_:=⟨fun _=>trivial,fun _=>Imp.refl _,fun _=>Imp.refl _,fun _=>Imp.refl _,k_⟩
def F63 (text:ByteArray):Int :=
 bif (((F62 text 46).length:Int) != 2) then (-1) else (bif (bif (!(decide (0≤(F64 ((F62 text 46).getD (Int.toNat 0) default))∧(F64 ((F62 text 46).getD (Int.toNat 0) default))≤255))) then true else (!(decide (0≤(F64 ((F62 text 46).getD (Int.toNat 1) default))∧(F64 ((F62 text 46).getD (Int.toNat 1) default))≤255)))) then (-1) else (IntKind.i64.wrap ((IntKind.i64.wrap (256*(F64 ((F62 text 46).getD (Int.toNat 0) default))))+(F64 ((F62 text 46).getD (Int.toNat 1) default)))))
def S63 (text:ByteArray):Spec:=⟨[.r (.c (.v (.string text)))],.v (vI (F63 text)),text.size≤1048576⟩
theorem ok63 (text:ByteArray):(S63 text).ok Tryz.prog 63 :=
 Qi mixed (fn:=Tryz.f63) (ct:=.seq .no (.seq (.reg [(1,kh62 text 46)]) (.seq (.seq .no (.cond (.seq .no .no) .no)) (.seq (.reg [(3,kh64 ((F62 text 46).getD (Int.toNat 0) default))]) (.seq (.reg [(3,kh64 ((F62 text 46).getD (Int.toNat 1) default))]) (.seq (.seq (.reg [(1,Qhi (F64 ((F62 text 46).getD (Int.toNat 0) default)) 0 255),(5,Qhi (F64 ((F62 text 46).getD (Int.toNat 1) default)) 0 255)]) (.cond (.seq .no .no) .no)) (.seq .no .no))))))) Tryz.func63 (fun (hpre0:text.size≤1048576)=>kc62 text 46 (by omega) (by omega) (fun gv1=>ifn ((F62 text 46).length:Int) 2 (fun h2 _=>fiI (-1) (F63 text) (condT h2 rfl)) (fun h2 _=>ai (by omega:ib 0 (F62 text 46)) (kc64 ((F62 text 46).getD (Int.toNat 0) default) (by exact Yy _ _ (by omega) _) (ai (by omega:ib 1 (F62 text 46)) (kc64 ((F62 text 46).getD (Int.toNat 1) default) (by exact Yy _ _ (by omega) _) (Qwf (F64 ((F62 text 46).getD (Int.toNat 0) default)) 0 255 (kg78a (!(decide (0≤(F64 ((F62 text 46).getD (Int.toNat 0) default))∧(F64 ((F62 text 46).getD (Int.toNat 0) default))≤255))) false (F64 ((F62 text 46).getD (Int.toNat 1) default)) 0 255 (ifb (bif (!(decide (0≤(F64 ((F62 text 46).getD (Int.toNat 0) default))∧(F64 ((F62 text 46).getD (Int.toNat 0) default))≤255))) then true else (!(decide (0≤(F64 ((F62 text 46).getD (Int.toNat 1) default))∧(F64 ((F62 text 46).getD (Int.toNat 1) default))≤255)))) (fun h4=>fiI (-1) (F63 text) (condF h2 (condT h4 rfl))) (fun h4=>have _:=of_decide_eq_true (Yi (orF1 h4)); have _:=of_decide_eq_true (Yi (orF2 h4)); fiI (IntKind.i64.wrap ((IntKind.i64.wrap (256*(F64 ((F62 text 46).getD (Int.toNat 0) default))))+(F64 ((F62 text 46).getD (Int.toNat 1) default)))) (F63 text) (condF h2 (condF h4 rfl)))))))))))) (by kernel_rfl)
def Ta (len:Int):(Int×Int)→Lp (Int×Int) Int:=fun (n,i40) =>
 bif (decide (i40<16)) then (.next ((IntKind.i64.wrap (n*2)),(i40+1))) else (.done (n,i40))
def F31 (len:Int):Int :=
 (runL (Ta len) ((16-len).toNat+1) (1,len)).fin (fun r=>r) (fun (n,i40)=>n)
abbrev Qao (len:Int):Nat×(Int×Int):=(((16-len).toNat+1),(1,len))
abbrev Qkt (m39:Nat) (n:Int) (i40:Int):Prop:=Int.toNat (16-i40)<m39∧(0:Int)≤i40
abbrev Ubu (len:Int):Lp (Int×Int) Int:=LpX (Ta len) (Qao len)
abbrev Qas (len:Int) (i:Nat×(Int×Int)):Prop:=LpJ (Ta len) (Qao len) i (Qkt i.1 i.2.1 i.2.2)
abbrev Qzj (len:Int) (i:Nat×(Int×Int)) (m39:Nat) (n:Int) (i40:Int):Prop:=LpH (Ta len) (Qao len) i m39 (n,i40) (Qkt (m39+1) n i40)
abbrev Quo (n:Int) (i40:Int) (n_:Int) (i40_:Int) (K39:Prop):Prop:=((.int .i64 n:Value)=.int .i64 n_)∧((.int .i64 i40:Value)=.int .i64 i40_)∧K39
theorem un31_0 (len:Int) (i:Nat×(Int×Int)) (h:Qas len i):Qzj len i (i.1-1) i.2.1 i.2.2:=⟨hd1 h.1 h.2.1,hd3 h.2.1,hd2 h.2.1,h.2.2⟩
theorem bk31_0 (len:Int) (i:Nat×(Int×Int)) (m39:Nat) (n:Int) (i40:Int) (hl:m39<i.1) (e:runL (Ta len) m39 (n,i40)=Ubu len) (h:Qkt m39 n i40):∃ j:Nat×(Int×Int),Quo n i40 j.2.1 j.2.2 (Qas len j∧j.1<i.1):=⟨(m39,(n,i40)),rfl,rfl,⟨e,h⟩,hl⟩
theorem en31_0 (len:Int) (h:(0:Int)≤len):Quo 1 len 1 len (Qas len (Qao len)):=⟨rfl,rfl,rfl,Nat.lt_succ_self _,h⟩
def S31 (len:Int):Spec:=⟨[.r (.c (.v (vI len)))],.v (vI (F31 len)),0≤len⟩
theorem ok31 (len:Int):(S31 len).ok Tryz.prog 31 :=
 Qi mixed (fn:=Tryz.f31) (ct:=.seq .no (.seq .no (.seq (.seq .no (.blk (.loop (ι:=Nat×(Int×Int)) (fun i=>(fun (n:Int) (i40:Int)=>(⟨[(3,some (.v (vI n))),(4,some (.v (vI i40)))],[],0⟩:St)) i.2.1 i.2.2) (Qas len) (fun i=>i.1) (Qao len) (fun i=>(fun (n:Int) (i40:Int)=>(.seq (.seq .no (.cond .no .no)) (.seq (.blk .no) (.reg [(1,.bnd)])))) i.2.1 i.2.2)))) (.seq .no .no)))) Tryz.func31 (fun (hpre0:0≤len)=>ai (en31_0 len (by omega)) (fun (i0:Nat×(Int×Int)) (hi0:Qas len i0)=>(fun (m0:Nat) (n:Int) (i40:Int) (hh0:Qzj len i0 m0 n i40)=>have hI0:=hh0.1; have hl0:=hh0.2.1; have _:=hh0.2.2.1; have _:=hh0.2.2.2; ifd (i40<16) (fun h2 _=>ai (iok (i40+1) (by omega)) (bk31_0 len i0 m0 (IntKind.i64.wrap (n*2)) (i40+1) hl0 (Qe hI0 (condT h2 rfl)) (by refine ⟨?_,?_⟩ <;> omega))) (fun h2 _=>have hD0_3:Ubu len=Lp.done (n,i40):=Ql hI0 (condF h2 rfl); fiI n (F31 len) (finD hD0_3 rfl))) (i0.1-1) i0.2.1 i0.2.2 (un31_0 len i0 hi0))) (by kernel_rfl)
theorem g31_0 (len:Int):0≤len→len≤16→1≤(F31 len)∧(F31 len)≤65536:=by
 intro h1 h2; have h3:len=0∨len=1∨len=2∨len=3∨len=4∨len=5∨len=6∨len=7∨len=8∨len=9∨len=10∨len=11∨len=12∨len=13∨len=14∨len=15∨len=16:=by omega
 rcases h3 with rfl | rfl | rfl | rfl | rfl | rfl | rfl | rfl | rfl | rfl | rfl | rfl | rfl | rfl | rfl | rfl | rfl <;> exact of_decide_eq_true rfl
theorem kg31 {K_:Prop} (c_ b_:Bool) (len:Int) (p_:c_=b_→0≤len) (k_:K_):(c_=b_→0≤len)∧(c_=b_→Imp (.v (vI len)) (.v (vI len)))∧K_:=⟨p_,fun _=>Imp.refl _,k_⟩
abbrev kh31 (len:Int):Hint true Tryz.prog:=.call 31 (S31 len) (ok31 len) none
def F65 (p:Qa):Bool :=
 (bif (bif (decide (0≤p.Len∧p.Len≤16)) then (decide (0≤p.Addr∧p.Addr≤65535)) else false) then ((p.Addr.tmod (F31 p.Len))==0) else false)
def S65 (p:Qa):Spec:=⟨[.r (.g (Qh p))],.v (.bool (F65 p)),True⟩
theorem ok65 (p:Qa):(S65 p).ok Tryz.prog 65 :=
 Qi mixed (fn:=Tryz.f65) (ct:=.seq .no (.seq (.reg [(2,Qhi p.Len 0 16),(6,Qhi p.Addr 0 65535),(13,kh31 p.Len)]) .no)) Tryz.func65 (fun (_:True)=>Qwf p.Len 0 16 (kg78a (decide (0≤p.Len∧p.Len≤16)) true p.Addr 0 65535 (kg31 (bif (decide (0≤p.Len∧p.Len≤16)) then (decide (0≤p.Addr∧p.Addr≤65535)) else false) true p.Len (fun k4=>have _:=of_decide_eq_true (Qk k4); have _:=of_decide_eq_true (Qw k4); (by omega)) (ai (fun k5:(bif (decide (0≤p.Len∧p.Len≤16)) then (decide (0≤p.Addr∧p.Addr≤65535)) else false)=true=>have _:=of_decide_eq_true (Qk k5); have _:=of_decide_eq_true (Qw k5); (by have h9:=g31_0 p.Len (by omega) (by omega); omega:¬ (F31 p.Len)=0)) (fiB (bif (bif (decide (0≤p.Len∧p.Len≤16)) then (decide (0≤p.Addr∧p.Addr≤65535)) else false) then ((p.Addr.tmod (F31 p.Len))==0) else false) (F65 p) rfl))))) (by kernel_rfl)
theorem kc63 (text:ByteArray) {K_:Prop} (p0_:text.size≤1048576) (k_:K_):(text.size≤1048576)∧(Imp (.v (.string text)) (.v (.string text)))∧K_:=⟨p0_,Imp.refl _,k_⟩
abbrev kh63 (text:ByteArray):Hint true Tryz.prog:=.call 63 (S63 text) (ok63 text) none
def F47 (text:ByteArray):Qa×Bool :=
 bif (((F62 text 47).length:Int) != 2) then ((⟨0,0⟩:Qa),false) else (bif (!(F65 ⟨(F63 ((F62 text 47).getD (Int.toNat 0) default)),(F64 ((F62 text 47).getD (Int.toNat 1) default))⟩)) then ((⟨0,0⟩:Qa),false) else ((⟨(F63 ((F62 text 47).getD (Int.toNat 0) default)),(F64 ((F62 text 47).getD (Int.toNat 1) default))⟩:Qa),true))
theorem fi47 (text:ByteArray) (r:Qa×Bool) (hF:r=(F47 text)):((.int .i64 r.1.Addr:Value)=.int .i64 (F47 text).1.Addr)∧((.int .i64 r.1.Len:Value)=.int .i64 (F47 text).1.Len)∧((.bool r.2:Value)=.bool (F47 text).2)∧True:=by cases hF; exact ⟨rfl,rfl,rfl,trivial⟩
def S47 (text:ByteArray):Spec:=⟨[.r (.c (.v (.string text)))],.tu [.ag [.v (vI (F47 text).1.Addr),.v (vI (F47 text).1.Len)],.v (.bool (F47 text).2)],text.size≤1048576⟩
theorem ok47 (text:ByteArray):(S47 text).ok Tryz.prog 47 :=
 Qi mixed (fn:=Tryz.f47) (ct:=.seq .no (.seq (.reg [(1,kh62 text 47)]) (.seq (.seq .no (.cond (.seq .no .no) .no)) (.seq (.reg [(3,kh63 ((F62 text 47).getD (Int.toNat 0) default)),(7,kh64 ((F62 text 47).getD (Int.toNat 1) default))]) (.seq (.seq (.reg [(1,.call 65 (S65 (⟨(F63 ((F62 text 47).getD (Int.toNat 0) default)),(F64 ((F62 text 47).getD (Int.toNat 1) default))⟩:Qa)) (ok65 (⟨(F63 ((F62 text 47).getD (Int.toNat 0) default)),(F64 ((F62 text 47).getD (Int.toNat 1) default))⟩:Qa)) none)]) (.cond (.seq .no .no) .no)) (.seq .no .no)))))) Tryz.func47 (fun (hpre0:text.size≤1048576)=>kc62 text 47 (by omega) (by omega) (fun gv1=>ifn ((F62 text 47).length:Int) 2 (fun h2 _=>fi47 text ((⟨0,0⟩:Qa),false) (condT h2 rfl)) (fun h2 _=>ai (by omega:ib 0 (F62 text 47)) (kc63 ((F62 text 47).getD (Int.toNat 0) default) (by exact Yy _ _ (by omega) _) (ai (by omega:ib 1 (F62 text 47)) (kc64 ((F62 text 47).getD (Int.toNat 1) default) (by exact Yy _ _ (by omega) _) (ai trivial (ai (Imps.refl (Qh (⟨(F63 ((F62 text 47).getD (Int.toNat 0) default)),(F64 ((F62 text 47).getD (Int.toNat 1) default))⟩:Qa))) (ifb (!(F65 ⟨(F63 ((F62 text 47).getD (Int.toNat 0) default)),(F64 ((F62 text 47).getD (Int.toNat 1) default))⟩)) (fun h3=>fi47 text ((⟨0,0⟩:Qa),false) (condF h2 (condT h3 rfl))) (fun h3=>fi47 text ((⟨(F63 ((F62 text 47).getD (Int.toNat 0) default)),(F64 ((F62 text 47).getD (Int.toNat 1) default))⟩:Qa),true) (condF h2 (condF h3 rfl)))))))))))) (by kernel_rfl)
def F15 (p:Qa) (addr:Int):Bool :=
 (bif decide (addr≥p.Addr) then decide (addr<(IntKind.i64.wrap (p.Addr+(F31 p.Len)))) else false)
def S15 (p:Qa) (addr:Int):Spec:=⟨[.r (.g (Qh p)),.r (.c (.v (vI addr)))],.v (.bool (F15 p addr)),0≤p.Len⟩
theorem ok15 (p:Qa) (addr:Int):(S15 p addr).ok Tryz.prog 15 :=
 Qi mixed (fn:=Tryz.f15) (ct:=.seq .no (.seq (.reg [(10,kh31 p.Len)]) .no)) Tryz.func15 (fun (hpre0:0≤p.Len)=>kg31 (decide (addr≥p.Addr)) true p.Len (fun k3=>have _:=of_decide_eq_true k3; (by omega)) (fiB (bif decide (addr≥p.Addr) then decide (addr<(IntKind.i64.wrap (p.Addr+(F31 p.Len)))) else false) (F15 p addr) rfl)) (by kernel_rfl)
theorem kc50 (lines:List ByteArray) {K_:Prop} (p0_:lines.length≤1048576) (p1_:∀ k:Nat,(lines.getD k default).size≤1048576) (k_:K_):(lines.length≤1048576∧(∀ k:Nat,(lines.getD k default).size≤1048576))∧(Imp (.l 1 eStr lines) (.l 1 eStr lines))∧K_:=⟨⟨p0_,p1_⟩,Imp.refl _,k_⟩
abbrev kh50 (lines:List ByteArray):Hint false Tryz.prog:=.call 50 (S50 lines) (ok50 lines) none
def F34 (lines:List ByteArray):Bool :=
 ((F50 lines)==0)
def S34 (lines:List ByteArray):Spec:=⟨[.r (.c (.l 1 eStr lines))],.v (.bool (F34 lines)),lines.length≤1048576∧(∀ k:Nat,(lines.getD k default).size≤1048576)⟩
theorem ok34 (lines:List ByteArray):(S34 lines).ok Tryz.prog 34 false :=
 Qi mixed (fn:=Tryz.f34) (ct:=.seqk [(0,0)] .no (.seq (.reg [(1,kh50 lines)]) .no)) Tryz.func34 (fun (hp:lines.length≤1048576∧(∀ k:Nat,(lines.getD k default).size≤1048576))=>have hpre0:=hp.1; have hpre1:=hp.2; kn lines fun _=>kc50 lines (by omega) (by first | assumption | exact hpre1 _ | exact fun k _=>hpre1 k | (intros; exact trivial) | (intros; exact Nat.zero_le _)) (fiB ((F50 lines)==0) (F34 lines) rfl)) (by kernel_rfl)
theorem dig_or (b:Int):(bif decide (b<48) then true else decide (b>57))=!decide (48≤b∧b≤57):=by
 by_cases h1:b<48
 ·rw [decide_eq_true h1,decide_eq_false (show ¬ (48≤b∧b≤57) by omega)]; rfl
 ·rw [decide_eq_false h1,cond_false]
  by_cases h2:b>57
  ·rw [decide_eq_true h2,decide_eq_false (show ¬ (48≤b∧b≤57) by omega)]; rfl
  ·rw [decide_eq_false h2,decide_eq_true (show 48≤b∧b≤57 by omega)]; rfl
theorem l2step (s:ByteArray) (x:Int×Int):Xj s x=Kk s x:=by
 obtain ⟨n,i⟩:=x
 simp only [Xj,Kk,Pu,dig_or]
theorem Udy {l:List UInt8} (h:l.length=6):num6 l=-1∨100000≤num6 l:=by
 unfold num6
 cases hn:Yz l with
 | false=>exact .inl rfl
 | true =>
  rw [decide_eq_true (show l.length≤6 by omega)]
  refine .inr ?_
  show (100000:Int)≤((valL 0 l:Nat):Int)
  have hd:=Qfe _ l rfl hn
  by_cases hv:valL 0 l<10 ^ (4+1)
  ·have:=Qfb 4 _ hv
   rw [hd] at this
   omega
  ·have:(10:Nat) ^ (4+1)=100000:=rfl
   omega
theorem Uau (s:ByteArray):F64 s=bif decide (s.size≤5) then num6 s.data.toList else -1:=by
 by_cases h:s.size≤5
 ·rw [decide_eq_true h,cond_true,← Wt]
  unfold F64 F30
  rw [show Xj s=Kk s from funext (l2step s)]
  have e:decide (1≤(s.size:Int)∧(s.size:Int)≤5)=decide (1≤(s.size:Int)∧(s.size:Int)≤6):=by
   by_cases h0:1≤s.size
   ·rw [decide_eq_true (by omega),decide_eq_true (by omega)]
   ·rw [decide_eq_false (by omega),decide_eq_false (by omega)]
  rw [e]
 ·rw [decide_eq_false h,cond_false]
  unfold F64
  rw [decide_eq_false (show ¬ (1≤(s.size:Int)∧(s.size:Int)≤5) by omega)]; rfl
theorem Ni (s:ByteArray) (hi:Int) (hh:hi≤99999):decide (0≤F64 s∧F64 s≤hi)=decide (0≤num6 s.data.toList∧num6 s.data.toList≤hi)∧(decide (0≤num6 s.data.toList∧num6 s.data.toList≤hi)=true→F64 s=num6 s.data.toList):=by
 have hl:s.data.toList.length=s.size:=Array.length_toList
 rw [Uau]
 by_cases h:s.size≤5
 ·rw [decide_eq_true h,cond_true]; exact ⟨rfl,fun _=>rfl⟩
 ·rw [decide_eq_false h,cond_false]
  have hb:num6 s.data.toList=-1∨100000≤num6 s.data.toList:=by
   by_cases h6:s.data.toList.length=6
   ·exact Udy h6
   ·refine .inl ?_
    unfold num6
    rw [decide_eq_false (show ¬ s.data.toList.length≤6 by omega),Bool.and_false]; rfl
  have e:decide (0≤num6 s.data.toList∧num6 s.data.toList≤hi)=false:=decide_eq_false (by omega)
  rw [e]
  exact ⟨rfl,fun h=>by cases h⟩
theorem Qrn (s:ByteArray):F63 s=Yc s.data.toList:=by
 have hc:F62 s 46=(Qz 46 s.data.toList).map mkB:=Kg s 46
 unfold F63 Yc
 rw [hc]
 cases Qz 46 s.data.toList with
 | nil=>rfl
 | cons a t=>cases t with
  | nil=>rfl
  | cons b t=>cases t with
   | nil =>
    have ha:=Ni (mkB a) 255 (by omega)
    have hb:=Ni (mkB b) 255 (by omega)
    rw [Jr] at ha hb
    show (bif (bif (!decide (0≤F64 (mkB a)∧F64 (mkB a)≤255)) then true else (!decide (0≤F64 (mkB b)∧F64 (mkB b)≤255))) then (-1) else (IntKind.i64.wrap ((IntKind.i64.wrap (256*F64 (mkB a)))+F64 (mkB b))))=bif Us (num6 a)&&Us (num6 b) then 256*num6 a+num6 b else -1
    rw [ha.1,hb.1]
    cases h1:decide (0≤num6 a∧num6 a≤255) with
    | false=>rw [show Us (num6 a)=false from h1]; rfl
    | true=>cases h2:decide (0≤num6 b∧num6 b≤255) with
     | false=>rw [show Us (num6 b)=false from h2,Bool.and_false]; rfl
     | true =>
      rw [show Us (num6 a)=true from h1,show Us (num6 b)=true from h2,ha.2 h1,hb.2 h2]
      exact Mt _ _ h1 h2
   | cons c t =>
    have:(((List.map mkB (a :: b :: c :: t)).length:Int) != 2)=true:=by
     rw [bne_iff_ne]
     simp only [List.map_cons,List.length_cons,List.length_map]
     omega
    rw [this]; rfl
theorem Qsn (a n:Int) (ha:-1≤a∧a≤65535):F65 (⟨a,n⟩:Qa)=(decide (0≤a)&&(in16 n&&(a.tmod (F61 n)==0))):=by
 unfold F65
 show (bif (bif (decide (0≤n∧n≤16)) then (decide (0≤a∧a≤65535)) else false) then ((a.tmod (F61 n))==0) else false)=_
 have e16:decide (0≤n∧n≤16)=in16 n:=rfl
 have e0:decide (0≤a∧a≤65535)=decide (0≤a):=by
  by_cases h0:0≤a
  ·rw [decide_eq_true h0,decide_eq_true (by omega)]
  ·rw [decide_eq_false h0,decide_eq_false (by omega)]
 rw [e16,e0]
 cases decide (0≤a) <;> cases in16 n <;> rfl
theorem Qge (s:ByteArray):F47 s=match pfxL s.data.toList with | some (a,n)=>(⟨a,n⟩,true) | none=>(⟨0,0⟩,false):=by
 have hc:F62 s 47=(Qz 47 s.data.toList).map mkB:=Kg s 47
 unfold F47 pfxL
 rw [hc]
 simp only [Qrn]
 cases Qz 47 s.data.toList with
 | nil=>rfl
 | cons a t=>cases t with
  | nil=>rfl
  | cons b t=>cases t with
   | nil =>
    have hb:=Ni (mkB b) 16 (by omega)
    rw [Jr] at hb
    show (bif (!(F65 (⟨Yc (mkB a).data.toList,F64 (mkB b)⟩:Qa))) then ((⟨0,0⟩:Qa),false) else ((⟨Yc (mkB a).data.toList,F64 (mkB b)⟩:Qa),true))=match pfx2 [a,b] with | some (a,n)=>(⟨a,n⟩,true) | none=>(⟨0,0⟩,false)
    rw [Jr,Qsn _ _ (Qap a),pfx2]
    have e1:in16 (F64 (mkB b))=in16 (num6 b):=hb.1
    cases h16:in16 (num6 b) with
    | false =>
     rw [e1,h16,Bool.false_and,Bool.false_and,Bool.and_false]; rfl
    | true =>
     rw [e1,h16,hb.2 h16,Bool.true_and]
     cases decide (0≤Yc a)&&((Yc a).tmod (F61 (num6 b))==0) <;> rfl
   | cons c t =>
    have:(((List.map mkB (a :: b :: c :: t)).length:Int) != 2)=true:=by
     rw [bne_iff_ne]
     simp only [List.map_cons,List.length_cons,List.length_map]
     omega
    rw [this]; rfl
theorem Qmc (s:ByteArray):F47 s=F36 s:=(Qge s).trans (Vf s).symm
theorem Gx (lines:List ByteArray) (h:(!(F34 lines))=false):lines.length≤16:=Qnk lines (by unfold F34 at h; simpa using h)
theorem kc34 (lines:List ByteArray) {K_:Prop} (p0_:lines.length≤1048576) (p1_:∀ k:Nat,(lines.getD k default).size≤1048576) (k_:K_):(lines.length≤1048576∧(∀ k:Nat,(lines.getD k default).size≤1048576))∧(Imp (.l 1 eStr lines) (.l 1 eStr lines))∧K_:=⟨⟨p0_,p1_⟩,Imp.refl _,k_⟩
abbrev kh34 (lines:List ByteArray):Hint false Tryz.prog:=.call 34 (S34 lines) (ok34 lines) none
def F17 (lines:List ByteArray) (word:ByteArray):List (List ByteArray) :=
 bif (!(F34 lines)) then ([]:List (List ByteArray)) else (Qb lines word)
theorem fi17 (lines:List ByteArray) (word:ByteArray) (r:List (List ByteArray)) (hF:r=(F17 lines word)):(Imp (.l 1 (eL 1 eStr) r) (.l 1 (eL 1 eStr) (F17 lines word)))∧True:=by cases hF; exact ⟨Imp.refl _,trivial⟩
def S17 (R:List (List ByteArray)) (lines:List ByteArray) (word:ByteArray):Spec:=⟨[.r (.c (.l 1 eStr lines)),.r (.c (.v (.string word)))],.ow (.l 1 (eL 1 eStr) R),lines.length≤1048576∧(∀ k:Nat,(lines.getD k default).size≤1048576)⟩
theorem ok17 (lines:List ByteArray) (word:ByteArray):(S17 (F17 lines word) lines word).ok Tryz.prog 17 false :=
 Qi mixed (fn:=Tryz.f17) (ct:=.seqk [(0,0)] .no (.seq (.seq (.reg [(1,kh34 lines)]) (.cond (.seq .no .no) .no)) (.seq (.reg [(2,Vi lines word)]) .no))) Tryz.func17 (fun (hp:lines.length≤1048576∧(∀ k:Nat,(lines.getD k default).size≤1048576))=>have hpre0:=hp.1; have hpre1:=hp.2; kn lines fun _=>kc34 lines (by omega) (by first | assumption | exact hpre1 _ | exact fun k _=>hpre1 k | (intros; exact trivial) | (intros; exact Nat.zero_le _)) (ifb (!(F34 lines)) (fun h1=>(fun hF:(([]:List (List ByteArray)):List (List ByteArray))=(F17 lines word)=>ai ((Imp.nil 1 (eL 1 eStr)).trans (Imp.of_eq (congrArg (fun r:List (List ByteArray)=>Dat.l 1 (eL 1 eStr) r) hF))) trivial) (condT h1 rfl)) (fun h1=>Gq lines word (by first | omega | assumption | exact Gx lines (by assumption)) (by first | omega | assumption | exact Gx lines (by assumption)) (by first | omega | assumption | exact Gx lines (by assumption)) (fun gv2=>fi17 lines word (Qb lines word) (condF h1 rfl))))) (by kernel_rfl)
def Vx (lines:List ByteArray) (head:ByteArray):(List l52Cut×Int×List (l52Cut×Bool))→Lp (List l52Cut×Int×List (l52Cut×Bool)) (List l52Cut):=fun (out,i40,xs) =>
 bif (decide (i40<(xs.length:Int))) then (bif ((F29 (xs.getD i40.toNat default).1 0).toList==head.toList) then (.next ((out++[(xs.getD i40.toNat default).1]),(i40+1),(xs.set (i40).toNat ((xs.getD i40.toNat default).1,true)))) else (.next (out,(i40+1),xs))) else (.done (out,i40,xs))
def F27 (lines:List ByteArray) (head:ByteArray):List l52Cut :=
 (runL (Vx lines head) (((((lines.map (fun l=>(⟨(F40 l).1⟩:l52Cut))).map hz).length:Int)-0).toNat+1) (([]:List l52Cut),0,((lines.map (fun l=>(⟨(F40 l).1⟩:l52Cut))).map hz))).fin (fun r=>r) (fun (out,i40,xs)=>out)
abbrev Tt (lines:List ByteArray):Nat×(List l52Cut×Int×List (l52Cut×Bool)):=((((((lines.map (fun l=>(⟨(F40 l).1⟩:l52Cut))).map hz).length:Int)-0).toNat+1),(([]:List l52Cut),0,((lines.map (fun l=>(⟨(F40 l).1⟩:l52Cut))).map hz)))
abbrev Qjw (lines:List ByteArray) (m39:Nat) (out:List l52Cut) (i40:Int) (xs:List (l52Cut×Bool)):Prop:=Int.toNat ((xs.length:Int)-i40)<m39∧(∀ k:Nat,i40≤(k:Int)→(xs.getD k default).2=false)∧(out.length:Int)≤i40∧(0:Int)≤i40∧xs.length=((lines.map (fun l=>(⟨(F40 l).1⟩:l52Cut))).map hz).length
abbrev Qwj (lines:List ByteArray) (head:ByteArray):Lp (List l52Cut×Int×List (l52Cut×Bool)) (List l52Cut):=LpX (Vx lines head) (Tt lines)
abbrev Qbn (lines:List ByteArray) (head:ByteArray) (i:Nat×(List l52Cut×Int×List (l52Cut×Bool))):Prop:=LpJ (Vx lines head) (Tt lines) i (Qjw lines i.1 i.2.1 i.2.2.1 i.2.2.2)
abbrev Qzv (lines:List ByteArray) (head:ByteArray) (i:Nat×(List l52Cut×Int×List (l52Cut×Bool))) (m39:Nat) (out:List l52Cut) (i40:Int) (xs:List (l52Cut×Bool)):Prop:=LpH (Vx lines head) (Tt lines) i m39 (out,i40,xs) (Qjw lines (m39+1) out i40 xs)
abbrev lE27_0 (head:ByteArray) (out:List l52Cut) (i40:Int) (xs:List (l52Cut×Bool)) (out_:List l52Cut) (i40_:Int) (xs_:List (l52Cut×Bool)) (K39:Prop):Prop:=(Rf (.string head))∧((.int .i64 i40:Value)=.int .i64 i40_)∧(Imp (.l 1 (encH 0 Qj) xs) (.l 1 (encH 0 Qj) xs_))∧(Imp (.l 1 Qj out) (.l 1 Qj out_))∧K39
theorem un27_0 (lines:List ByteArray) (head:ByteArray) (i:Nat×(List l52Cut×Int×List (l52Cut×Bool))) (h:Qbn lines head i):Qzv lines head i (i.1-1) i.2.1 i.2.2.1 i.2.2.2:=⟨hd1 h.1 h.2.1,hd3 h.2.1,hd2 h.2.1,h.2.2⟩
theorem Qxz (lines:List ByteArray) (head:ByteArray) (i:Nat×(List l52Cut×Int×List (l52Cut×Bool))) (m39:Nat) (out:List l52Cut) (i40:Int) (xs:List (l52Cut×Bool)) (hl:m39<i.1) (e:runL (Vx lines head) m39 (out,i40,xs)=Qwj lines head) (h:Qjw lines m39 out i40 xs):∃ j:Nat×(List l52Cut×Int×List (l52Cut×Bool)),lE27_0 head out i40 xs j.2.1 j.2.2.1 j.2.2.2 (Qbn lines head j∧j.1<i.1):=⟨(m39,(out,i40,xs)),rfl,rfl,Imp.refl _,Imp.refl _,⟨e,h⟩,hl⟩
theorem fi27 (lines:List ByteArray) (head:ByteArray) (r:List l52Cut) (hF:r=(F27 lines head)):(Imp (.l 1 Qj r) (.l 1 Qj (F27 lines head)))∧True:=by cases hF; exact ⟨Imp.refl _,trivial⟩
def S27 (R:List l52Cut) (lines:List ByteArray) (head:ByteArray):Spec:=⟨[.r (.c (.l 1 eStr lines)),.r (.c (.v (.string head)))],.ow (.l 1 Qj R),lines.length≤16∧(∀ k:Nat,(lines.getD k default).size≤1048576)⟩
theorem ok27 (lines:List ByteArray) (head:ByteArray):(S27 (F27 lines head) lines head).ok Tryz.prog 27 :=
 Qi mixed (fn:=Tryz.f27) (ct:=.seqk [(0,0)] .no (.seq (.reg [(1,kh21a lines)]) (.seq (.reg [(0,.dat (.l 1 Qj ([]:List l52Cut)))]) (.seq (.seqk [(5,0),(6,0)] .no (.blk (.loop (ι:=Nat×(List l52Cut×Int×List (l52Cut×Bool))) (fun i=>(fun (out:List l52Cut) (i40:Int) (xs:List (l52Cut×Bool))=>(⟨[(1,some (.v (.string head))),(5,some (.h 0 0)),(6,some (.h 1 0)),(7,some (.v (vI i40)))],[(0,some (.own 0 (.l 1 (encH 0 Qj) xs))),(1,some (.own 1 (.l 1 Qj out)))],2⟩:St)) i.2.1 i.2.2.1 i.2.2.2) (Qbn lines head) (fun i=>i.1) (Tt lines) (fun i=>(fun (out:List l52Cut) (i40:Int) (xs:List (l52Cut×Bool))=>(.seq (.seq .no (.cond .no .no)) (.seq (.blk (.seq (.reg [(2,.ix [.l 1 eStr (xs.getD i40.toNat default).1.w]),(4,kh29 (xs.getD i40.toNat default).1 0)]) (.cond (.reg [(3,.ix [.l 1 eStr (xs.getD i40.toNat default).1.w]),(4,.take (.l 1 (encH 0 Qj) (xs.set (i40).toNat ((xs.getD i40.toNat default).1,true)))),(6,.dat (.l 1 Qj (out++[(xs.getD i40.toNat default).1])))]) .no))) (.reg [(1,.bnd)])))) i.2.1 i.2.2.1 i.2.2.2)))) (.seq .no .no))))) Tryz.func27 (fun (hp:lines.length≤16∧(∀ k:Nat,(lines.getD k default).size≤1048576))=>have hpre0:=hp.1; have hpre1:=hp.2; kn lines fun _=>kc21a lines (by first | omega | (simp only [lens,ib] at*<;> omega)) (by first | assumption | exact hpre1 _ | exact fun k _=>hpre1 k | (intros; exact trivial) | (intros; exact Nat.zero_le _)) (ai (bokr 1 Qj ([]:List l52Cut) fun _=>rfl) (kn (lines.map (fun l=>(⟨(F40 l).1⟩:l52Cut))) fun _=>kn ([]:List l52Cut) fun _=>ai (ai (rfl:(.string head:Value)=.string head) (ai (rfl:(.int .i64 0:Value)=.int .i64 0) (ai ((Imp.toH _ _ _ _):Imp (.l 1 Qj (lines.map (fun l=>(⟨(F40 l).1⟩:l52Cut)))) (.l 1 (encH 0 Qj) ((lines.map (fun l=>(⟨(F40 l).1⟩:l52Cut))).map hz))) (ai (ir:Imp (.l 1 Qj ([]:List l52Cut)) (.l 1 Qj ([]:List l52Cut))) (And.intro rfl (ai (Nat.lt_succ_self _) (by refine ⟨?_,?_,?_,?_⟩ <;> first | omega | (simp only [lens,ib] at*<;> omega) | (intro k hk; first | exact hz_f _ _ | exact (by assumption:∀ k:Nat,i40≤(k:Int)→(xs.getD k default).2=false) _ (by first | omega | (simp only [lens,ib] at*<;> omega)) | (rw [Ul _ _ _ _ (by first | omega | (simp only [lens,ib] at*<;> omega))]; exact (by assumption:∀ k:Nat,i40≤(k:Int)→(xs.getD k default).2=false) _ (by first | omega | (simp only [lens,ib] at*<;> omega)))))):Qbn lines head (Tt lines)))))) (fun (i0:Nat×(List l52Cut×Int×List (l52Cut×Bool))) (hi0:Qbn lines head i0)=>(fun (m0:Nat) (out:List l52Cut) (i40:Int) (xs:List (l52Cut×Bool)) (hh0:Qzv lines head i0 m0 out i40 xs)=>have hI0:=hh0.1; have hl0:=hh0.2.1; have _:=hh0.2.2.1; have _:=hh0.2.2.2.1; have _:=hh0.2.2.2.2.1; have _:=hh0.2.2.2.2.2.1; have _:=hh0.2.2.2.2.2.2; ifd (i40<(xs.length:Int)) (fun h2 _=>ai (by first | omega | (simp only [lens,ib] at*<;> omega):ib i40 xs) (ai (Imps.of_eq (Qlo 0 Qj (xs.getD i40.toNat default) (by exact (by assumption:∀ k:Nat,i40≤(k:Int)→(xs.getD k default).2=false) _ (by first | omega | (simp only [lens,ib] at*<;> omega))))) (kc29 (xs.getD i40.toNat default).1 0 (by first | omega | (simp only [lens,ib] at*<;> omega)) (ifb ((F29 (xs.getD i40.toNat default).1 0).toList==head.toList) (fun h3=>ai (by first | omega | (simp only [lens,ib] at*<;> omega):ib i40 xs) (ai (Imps.of_eq (Qlo 0 Qj (xs.getD i40.toNat default) (by exact (by assumption:∀ k:Nat,i40≤(k:Int)→(xs.getD k default).2=false) _ (by first | omega | (simp only [lens,ib] at*<;> omega))))) (ai (SetOK.take2 Qj xs 0 (by exact (by assumption:∀ k:Nat,i40≤(k:Int)→(xs.getD k default).2=false) _ (by first | omega | (simp only [lens,ib] at*<;> omega))) rfl rfl:SetOK (.l 1 (encH 0 Qj) xs) (i40).toNat (Qj (xs.getD i40.toNat default).1) [.any] (.l 1 (encH 0 Qj) (xs.set (i40).toNat ((xs.getD i40.toNat default).1,true)))) (ai (appr 1 Qj out [(xs.getD i40.toNat default).1] fun _=>rfl) (ai (by (simp only [lens] at *); omega:(out++[(xs.getD i40.toNat default).1]).length*24≤140737488355328) (ai (iok (i40+1) (by first | omega | (simp only [lens,ib] at*<;> omega))) (Qxz lines head i0 m0 (out++[(xs.getD i40.toNat default).1]) (i40+1) (xs.set (i40).toNat ((xs.getD i40.toNat default).1,true)) hl0 (Qe hI0 (condT h2 (condT h3 rfl))) (by refine ⟨?_,?_,?_,?_,?_⟩ <;> first | omega | (simp only [lens,ib] at*<;> omega) | (intro k hk; first | exact hz_f _ _ | exact (by assumption:∀ k:Nat,i40≤(k:Int)→(xs.getD k default).2=false) _ (by first | omega | (simp only [lens,ib] at*<;> omega)) | (rw [Ul _ _ _ _ (by first | omega | (simp only [lens,ib] at*<;> omega))]; exact (by assumption:∀ k:Nat,i40≤(k:Int)→(xs.getD k default).2=false) _ (by first | omega | (simp only [lens,ib] at*<;> omega)))))))))))) (fun h3=>ai (iok (i40+1) (by first | omega | (simp only [lens,ib] at*<;> omega))) (Qxz lines head i0 m0 out (i40+1) xs hl0 (Qe hI0 (condT h2 (condF h3 rfl))) (by refine ⟨?_,?_,?_,?_,?_⟩ <;> first | omega | (simp only [lens,ib] at*<;> omega) | (intro k hk; first | exact hz_f _ _ | exact (by assumption:∀ k:Nat,i40≤(k:Int)→(xs.getD k default).2=false) _ (by first | omega | (simp only [lens,ib] at*<;> omega)) | (rw [Ul _ _ _ _ (by first | omega | (simp only [lens,ib] at*<;> omega))]; exact (by assumption:∀ k:Nat,i40≤(k:Int)→(xs.getD k default).2=false) _ (by first | omega | (simp only [lens,ib] at*<;> omega))))))))))) (fun h2 _=>have hD0_4:Qwj lines head=Lp.done (out,i40,xs):=Ql hI0 (condF h2 rfl); fi27 lines head out (finD hD0_4 rfl))) (i0.1-1) i0.2.1 i0.2.2.1 i0.2.2.2 (un27_0 lines head i0 hi0))))) (by kernel_rfl)
theorem Qlx (lines:List ByteArray) (h:F13 lines=0):F20 lines=0:=by
 unfold F13 at h
 cases hn:(F20 lines != 0) with
 | true=>rw [hn,cond_true] at h; rw [h] at hn; exact absurd hn (by decide)
 | false=>simpa using hn
theorem Pf (lines:List ByteArray) (h:F50 lines=0):F20 lines=0:=Qlx lines (by rw [← Gz]; exact h)
def Qx (lines:List ByteArray) (word:ByteArray):List (List ByteArray):=bif (F50 lines==0) then Qb lines word else []
theorem as17 (lines:List ByteArray) (word:ByteArray):F17 lines word=(Qx lines word):=by
 unfold F17 F34 Qx
 cases (F50 lines==0) <;> rfl
theorem Bn (lines:List ByteArray) (word:ByteArray):(F50 lines=0∧F20 lines=0∧Qx lines word=Qb lines word)∨Qx lines word=[]:=by
 unfold Qx
 cases h:(F50 lines==0) with
 | true=>have h0:=eq_of_beq h; exact .inl ⟨h0,Pf lines h0,rfl⟩
 | false=>exact .inr rfl
theorem Qda (lines:List ByteArray) (word:ByteArray):(Qx lines word).length≤16:=by
 rcases Bn lines word with ⟨_,h,e⟩ | e
 ·rw [e]; exact Rs lines word (Vy lines h)
 ·rw [e]; exact Nat.zero_le _
theorem Qit (lines:List ByteArray) (word:ByteArray) (k j:Nat):(((Qx lines word).getD k default).getD j default).size≤1048576:=by
 rcases Bn lines word with ⟨_,h,e⟩ | e
 ·rw [e]; exact Ym lines word h k j
 ·rw [e]; exact Nat.zero_le _
theorem Bz (lines:List ByteArray) (k:Nat) (hk:k<(Qx lines (⟨#[112,111,114,116]⟩:ByteArray)).length):Zv ((Qx lines (⟨#[112,111,114,116]⟩:ByteArray)).getD k default):=by
 rcases Bn lines (⟨#[112,111,114,116]⟩:ByteArray) with ⟨_,h,e⟩ | e
 ·rw [e] at hk ⊢; exact Qpa lines h k hk
 ·rw [e] at hk; exact absurd hk (Nat.not_lt_zero _)
def ofL (lines:List ByteArray) (head:ByteArray):List l52Cut:=(lines.map (fun l=>(⟨(F40 l).1⟩:l52Cut))).filter fun c=>((F29 c 0).toList==head.toList)
theorem Qvf {α:Type} [Inhabited α] (xs:List α) (k:Nat):xs.set k (xs.getD k default)=xs:=by
 apply List.ext_getElem?
 intro i
 rw [List.getElem?_set]
 by_cases h:k=i
 ·subst h
  rw [if_pos rfl]
  by_cases hk:k<xs.length
  ·rw [if_pos hk,List.getD_eq_getElem?_getD,List.getElem?_eq_getElem hk]; rfl
  ·rw [if_neg hk,List.getElem?_eq_none (by omega)]
 ·rw [if_neg h]
theorem Nb {α:Type} [Inhabited α] (p:α→Bool) (xs:List α) (k:Nat) (hk:k<xs.length):(xs.take (k+1)).filter p=bif p (xs.getD k default) then (xs.take k).filter p++[xs.getD k default] else (xs.take k).filter p:=by
 rw [List.take_add_one,List.filter_append,List.getElem?_eq_getElem hk,Option.toList_some]
 have e:xs.getD k default=xs[k]:=by rw [List.getD_eq_getElem?_getD,List.getElem?_eq_getElem hk]; rfl
 rw [e]
 cases h:p xs[k] with
 | true=>rw [List.filter_cons_of_pos h]; rfl
 | false=>rw [List.filter_cons_of_neg (by simp [h])]; simp
theorem as27 (lines:List ByteArray) (head:ByteArray):F27 lines head=(ofL lines head):=by
 unfold F27 ofL
 generalize (lines.map (fun l=>(⟨(F40 l).1⟩:l52Cut)))=cuts
 have e:Int.toNat (((cuts.map hz).length:Int)-0)+1=cuts.length+1:=by rw [List.length_map]; omega
 rw [e]
 have h:=Kl (step:=Vx lines head) (fun (k:Nat) (s:List l52Cut×List (l52Cut×Bool))=>(s.1,(k:Int),s.2)) cuts.length
  (fun k s=>s.2.map Prod.fst=cuts∧s.1=(cuts.take k).filter fun c=>((F29 c 0).toList==head.toList)) (fun _=>False)
  (fun k s hk hs=>.inl ⟨(bif ((F29 (cuts.getD k default) 0).toList==head.toList) then (s.1++[cuts.getD k default],s.2.set k (cuts.getD k default,true)) else s),by
   have hl:s.2.length=cuts.length:=by rw [← hs.1,List.length_map]
   have hcx:(s.2.getD k default).1=cuts.getD k default:=by rw [← hs.1]; exact (Nn Prod.fst s.2 k (by omega)).symm
   simp only [Vx,ltD (show k<s.2.length by omega),cond_true,nn,hcx]
   cases ((F29 (cuts.getD k default) 0).toList==head.toList) <;> rfl,by
   have hl:s.2.length=cuts.length:=by rw [← hs.1,List.length_map]
   refine ⟨?_,?_⟩
   ·cases ((F29 (cuts.getD k default) 0).toList==head.toList) with
    | false=>exact hs.1
    | true =>
     show (s.2.set k (cuts.getD k default,true)).map Prod.fst=cuts
     rw [List.map_set,hs.1]
     exact Qvf cuts k
   ·rw [Nb _ cuts k hk,← hs.2]
    cases ((F29 (cuts.getD k default) 0).toList==head.toList) <;> rfl⟩)
  (fun s hs=>by
   have hl:s.2.length=cuts.length:=by rw [← hs.1,List.length_map]
   simp only [Vx,hl,geD,cond_false]) cuts.length 0 ([],cuts.map hz) (by omega) ⟨by rw [List.map_map]; exact List.map_id _,rfl⟩ (cuts.length+1) (by omega)
 rcases h with ⟨s',e1,h1,h2⟩ | ⟨r,_,hr⟩
 ·rw [show (([]:List l52Cut),(0:Int),cuts.map hz)=(([]:List l52Cut),((0:Nat):Int),cuts.map hz) from rfl,e1]
  show s'.1=_
  rw [h2,List.take_length]
 ·exact hr.elim
theorem Udu (lines:List ByteArray) (head:ByteArray) (h:lines.length≤16):(ofL lines head).length≤16:=by
 have:=List.length_filter_le (fun c:l52Cut=>((F29 c 0).toList==head.toList)) (lines.map (fun l=>(⟨(F40 l).1⟩:l52Cut)))
 rw [List.length_map] at this
 unfold ofL
 omega
theorem Qtf (lines:List ByteArray) (head:ByteArray) (hz:∀ k:Nat,(lines.getD k default).size≤1048576):∀ k j:Nat,(((ofL lines head).getD k default).w.getD j default).size≤1048576:=fun k j=>by
 by_cases hk:k<(ofL lines head).length
 ·have hm:=(List.mem_filter.1 (Zl _ hk)).1
  obtain ⟨i,hi,e⟩:=Bk hm
  have:=Pz lines hz i j
  rw [e] at this
  exact this
 ·rw [Zs (ofL lines head) (by omega)]; exact Nat.zero_le _
theorem Ufi (lines:List ByteArray) (h:F20 lines=0) (head:ByteArray):ofL lines head=(Qb lines head).map l52Cut.mk:=by
 unfold ofL
 rw [Udw,Yl lines h,List.filter_map]
 congr 1
 refine List.filter_congr fun w _=>?_
 show ((F29 ⟨w⟩ 0).toList==head.toList)=hdB w head.data.toList
 rw [at0,Ua,Ua]; rfl
def T17 (R:List (List ByteArray)) (lines:List ByteArray) (word:ByteArray):Spec:=⟨(S17 R lines word).args,(S17 R lines word).res,lines.length≤1048576∧(∀ k:Nat,(lines.getD k default).size≤1048576)⟩
theorem oa17 (lines:List ByteArray) (word:ByteArray):(T17 (Qx lines word) lines word).ok Tryz.prog 17 false:=by
 intro hp; have h:=ok17 lines word hp; rw [as17 lines word] at h; exact h
def T27 (R:List l52Cut) (lines:List ByteArray) (head:ByteArray):Spec:=⟨(S27 R lines head).args,(S27 R lines head).res,lines.length≤16∧(∀ k:Nat,(lines.getD k default).size≤1048576)⟩
theorem oa27 (lines:List ByteArray) (head:ByteArray):(T27 (ofL lines head) lines head).ok Tryz.prog 27:=by
 intro hp; have h:=ok27 lines head hp; rw [as27 lines head] at h; exact h
def F18 (word:ByteArray):Qa :=
 (⟨(F36 word).1.Addr,(F36 word).1.Len⟩:Qa)
theorem fi18 (word:ByteArray) (r:Qa) (hF:r=(F18 word)):((.int .i64 r.Addr:Value)=.int .i64 (F18 word).Addr)∧((.int .i64 r.Len:Value)=.int .i64 (F18 word).Len)∧True:=by cases hF; exact ⟨rfl,rfl,trivial⟩
def S18 (word:ByteArray):Spec:=⟨[.r (.c (.v (.string word)))],.ag [.v (vI (F18 word).Addr),.v (vI (F18 word).Len)],word.size≤1048576⟩
theorem ok18 (word:ByteArray):(S18 word).ok Tryz.prog 18 false :=
 Qi mixed (fn:=Tryz.f18) (ct:=.seq .no (.seq (.reg [(1,kh36 word)]) (.seq .no .no))) Tryz.func18 (fun (hpre0:word.size≤1048576)=>kc36 word (by omega) (fi18 word (⟨(F36 word).1.Addr,(F36 word).1.Len⟩:Qa) rfl)) (by kernel_rfl)
structure Qc where
 Port:Int
 Addr:Int
 Len:Int
 List:ByteArray
 deriving DecidableEq,Inhabited
def Qs (x:Qc):List Dat:=[.v (vI x.Port),.v (vI x.Addr),.v (vI x.Len),.v (.string x.List)]
theorem kc17a (lines:List ByteArray) (word:ByteArray) {K_:Prop} (p0_:lines.length≤1048576) (p1_:∀ k:Nat,(lines.getD k default).size≤1048576) (k_:((Qx lines word).length≤16)→K_):(lines.length≤1048576∧(∀ k:Nat,(lines.getD k default).size≤1048576))∧(Imp (.l 1 eStr lines) (.l 1 eStr lines))∧(Imp (.v (.string word)) (.v (.string word)))∧K_:=⟨⟨p0_,p1_⟩,Imp.refl _,Imp.refl _,k_ (Qda lines word)⟩
abbrev kh17a (lines:List ByteArray) (word:ByteArray):Hint false Tryz.prog:=.call 17 (T17 (Qx lines word) lines word) (oa17 lines word) none
theorem kc18 (word:ByteArray) {K_:Prop} (p0_:word.size≤1048576) (k_:K_):(word.size≤1048576)∧(Imp (.v (.string word)) (.v (.string word)))∧K_:=⟨p0_,Imp.refl _,k_⟩
abbrev kh18 (word:ByteArray):Hint false Tryz.prog:=.call 18 (S18 word) (ok18 word) none
def Qcg (lines:List ByteArray) (out:List Qc) (v12:Int):Lp ByteArray (List Qc) :=
 bif (decide ((((Qx lines (⟨#[112,111,114,116]⟩:ByteArray)).getD v12.toNat default).length:Int)>4)) then (.done (((Qx lines (⟨#[112,111,114,116]⟩:ByteArray)).getD v12.toNat default).getD (Int.toNat 4) default)) else (.done (⟨#[]⟩:ByteArray))
def Xz (lines:List ByteArray):(List Qc×Int)→Lp (List Qc×Int) (List Qc):=fun (out,v12) =>
 bif (decide (v12<((Qx lines (⟨#[112,111,114,116]⟩:ByteArray)).length:Int))) then ((Qcg lines out v12).fin Lp.ret (fun port=>.next ((out++[(⟨(F19 (((Qx lines (⟨#[112,111,114,116]⟩:ByteArray)).getD v12.toNat default).getD (Int.toNat 1) default)),(F18 (((Qx lines (⟨#[112,111,114,116]⟩:ByteArray)).getD v12.toNat default).getD (Int.toNat 2) default)).Addr,(F18 (((Qx lines (⟨#[112,111,114,116]⟩:ByteArray)).getD v12.toNat default).getD (Int.toNat 2) default)).Len,port⟩:Qc)]),(v12+1)))) else (.done (out,v12))
def F12 (lines:List ByteArray):List Qc :=
 (runL (Xz lines) ((((Qx lines (⟨#[112,111,114,116]⟩:ByteArray)).length:Int)-0).toNat+1) (([]:List Qc),0)).fin (fun r=>r) (fun (out,v12)=>out)
abbrev Qmn (lines:List ByteArray) (out:List Qc) (v12:Int) (j:ByteArray):Prop:=(Qcg lines out v12)=Lp.done j
theorem Qxf (lines:List ByteArray) (out:List Qc) (v12:Int) (port:ByteArray) (e:(Qcg lines out v12)=Lp.done port):∃ j:ByteArray,((.int .i64 ((Qx lines (⟨#[112,111,114,116]⟩:ByteArray)).length:Int):Value)=.int .i64 ((Qx lines (⟨#[112,111,114,116]⟩:ByteArray)).length:Int))∧((.int .i64 v12:Value)=.int .i64 v12)∧(Imp (.l 4 Qs out) (.l 4 Qs out))∧((.int .i64 (F19 (((Qx lines (⟨#[112,111,114,116]⟩:ByteArray)).getD v12.toNat default).getD (Int.toNat 1) default)):Value)=.int .i64 (F19 (((Qx lines (⟨#[112,111,114,116]⟩:ByteArray)).getD v12.toNat default).getD (Int.toNat 1) default)))∧((.int .i64 (F18 (((Qx lines (⟨#[112,111,114,116]⟩:ByteArray)).getD v12.toNat default).getD (Int.toNat 2) default)).Addr:Value)=.int .i64 (F18 (((Qx lines (⟨#[112,111,114,116]⟩:ByteArray)).getD v12.toNat default).getD (Int.toNat 2) default)).Addr)∧((.int .i64 (F18 (((Qx lines (⟨#[112,111,114,116]⟩:ByteArray)).getD v12.toNat default).getD (Int.toNat 2) default)).Len:Value)=.int .i64 (F18 (((Qx lines (⟨#[112,111,114,116]⟩:ByteArray)).getD v12.toNat default).getD (Int.toNat 2) default)).Len)∧((.string port:Value)=.string j)∧(Imp (.l 1 (eL 1 eStr) (Qx lines (⟨#[112,111,114,116]⟩:ByteArray))) (.l 1 (eL 1 eStr) (Qx lines (⟨#[112,111,114,116]⟩:ByteArray))))∧Qmn lines out v12 j:=⟨port,rfl,rfl,Imp.refl _,rfl,rfl,rfl,rfl,Imp.refl _,e⟩
abbrev Rn (lines:List ByteArray):Nat×(List Qc×Int):=(((((Qx lines (⟨#[112,111,114,116]⟩:ByteArray)).length:Int)-0).toNat+1),(([]:List Qc),0))
abbrev Qlj (lines:List ByteArray) (m39:Nat) (out:List Qc) (v12:Int):Prop:=Int.toNat (((Qx lines (⟨#[112,111,114,116]⟩:ByteArray)).length:Int)-v12)<m39∧(out.length:Int)≤v12∧(0:Int)≤v12
abbrev Uae (lines:List ByteArray):Lp (List Qc×Int) (List Qc):=LpX (Xz lines) (Rn lines)
abbrev Tr (lines:List ByteArray) (i:Nat×(List Qc×Int)):Prop:=LpJ (Xz lines) (Rn lines) i (Qlj lines i.1 i.2.1 i.2.2)
abbrev Qvb (lines:List ByteArray) (i:Nat×(List Qc×Int)) (m39:Nat) (out:List Qc) (v12:Int):Prop:=LpH (Xz lines) (Rn lines) i m39 (out,v12) (Qlj lines (m39+1) out v12)
abbrev Qtw (lines:List ByteArray) (out:List Qc) (v12:Int) (out_:List Qc) (v12_:Int) (K39:Prop):Prop:=(Rf (.int .i64 ((Qx lines (⟨#[112,111,114,116]⟩:ByteArray)).length:Int)))∧((.int .i64 v12:Value)=.int .i64 v12_)∧(Imp (.l 4 Qs out) (.l 4 Qs out_))∧(Im (.l 1 (eL 1 eStr) (Qx lines (⟨#[112,111,114,116]⟩:ByteArray))))∧K39
theorem un12_0 (lines:List ByteArray) (i:Nat×(List Qc×Int)) (h:Tr lines i):Qvb lines i (i.1-1) i.2.1 i.2.2:=⟨hd1 h.1 h.2.1,hd3 h.2.1,hd2 h.2.1,h.2.2⟩
theorem bk12_0 (lines:List ByteArray) (i:Nat×(List Qc×Int)) (m39:Nat) (out:List Qc) (v12:Int) (hl:m39<i.1) (e:runL (Xz lines) m39 (out,v12)=Uae lines) (h:Qlj lines m39 out v12):∃ j:Nat×(List Qc×Int),Qtw lines out v12 j.2.1 j.2.2 (Tr lines j∧j.1<i.1):=⟨(m39,(out,v12)),rfl,rfl,Imp.refl _,Imp.refl _,⟨e,h⟩,hl⟩
theorem en12_0 (lines:List ByteArray) (h:(([]:List Qc).length:Int)≤0∧(0:Int)≤0):Qtw lines ([]:List Qc) 0 ([]:List Qc) 0 (Tr lines (Rn lines)):=⟨rfl,rfl,Imp.refl _,Imp.refl _,rfl,Nat.lt_succ_self _,h⟩
theorem fi12 (lines:List ByteArray) (r:List Qc) (hF:r=(F12 lines)):(Imp (.l 4 Qs r) (.l 4 Qs (F12 lines)))∧True:=by cases hF; exact ⟨Imp.refl _,trivial⟩
def S12 (lines:List ByteArray):Spec:=⟨[.r (.c (.l 1 eStr lines))],.ow (.l 4 Qs (F12 lines)),lines.length≤1048576∧(∀ k:Nat,(lines.getD k default).size≤1048576)⟩
theorem ok12 (lines:List ByteArray):(S12 lines).ok Tryz.prog 12 false :=
 Qi mixed (fn:=Tryz.f12) (ct:=.seqk [(0,0)] .no (.seq (.reg [(0,.dat (.l 4 Qs ([]:List Qc)))]) (.seq (.seqk [(3,0),(10,0)] (.reg [(1,kh17a lines (⟨#[112,111,114,116]⟩:ByteArray))]) (.blk (.loop (ι:=Nat×(List Qc×Int)) (fun i=>(fun (out:List Qc) (v12:Int)=>(⟨[(3,some (.h 0 0)),(10,some (.h 1 0)),(11,some (.v (vI ((Qx lines (⟨#[112,111,114,116]⟩:ByteArray)).length:Int)))),(12,some (.v (vI v12)))],[(0,some (.own 0 (.l 4 Qs out))),(1,some (.own 1 (.l 1 (eL 1 eStr) (Qx lines (⟨#[112,111,114,116]⟩:ByteArray)))))],2⟩:St)) i.2.1 i.2.2) (Tr lines) (fun i=>i.1) (Rn lines) (fun i=>(fun (out:List Qc) (v12:Int)=>(.seq .no (.seq (.cond .no .no) (.seq (.blk (.seq .no (.seq (.reg [(3,kh18 (((Qx lines (⟨#[112,111,114,116]⟩:ByteArray)).getD v12.toNat default).getD (Int.toNat 2) default))]) (.seq (.reg [(3,kh19 (((Qx lines (⟨#[112,111,114,116]⟩:ByteArray)).getD v12.toNat default).getD (Int.toNat 1) default))]) (.cut (ι:=ByteArray) (fun j=>(fun (port:ByteArray)=>(⟨[(3,some (.h 0 0)),(7,some (.p 1 0)),(10,some (.h 2 0)),(11,some (.v (vI ((Qx lines (⟨#[112,111,114,116]⟩:ByteArray)).length:Int)))),(12,some (.v (vI v12)))],[(0,some (.own 0 (.l 4 Qs out))),(1,some (.box 31 [.v (vI (F19 (((Qx lines (⟨#[112,111,114,116]⟩:ByteArray)).getD v12.toNat default).getD (Int.toNat 1) default))),.v (vI (F18 (((Qx lines (⟨#[112,111,114,116]⟩:ByteArray)).getD v12.toNat default).getD (Int.toNat 2) default)).Addr),.v (vI (F18 (((Qx lines (⟨#[112,111,114,116]⟩:ByteArray)).getD v12.toNat default).getD (Int.toNat 2) default)).Len),.v (.string port)])),(2,some (.own 2 (.l 1 (eL 1 eStr) (Qx lines (⟨#[112,111,114,116]⟩:ByteArray)))))],3⟩:St)) j) (Qmn lines out v12) (.seq .no (.cond .no .no)) (fun j=>(fun (port:ByteArray)=>(.reg [(3,.dat (.l 4 Qs (out++[(⟨(F19 (((Qx lines (⟨#[112,111,114,116]⟩:ByteArray)).getD v12.toNat default).getD (Int.toNat 1) default)),(F18 (((Qx lines (⟨#[112,111,114,116]⟩:ByteArray)).getD v12.toNat default).getD (Int.toNat 2) default)).Addr,(F18 (((Qx lines (⟨#[112,111,114,116]⟩:ByteArray)).getD v12.toNat default).getD (Int.toNat 2) default)).Len,port⟩:Qc)])))])) j)))))) (.reg [(0,.bnd)]))))) i.2.1 i.2.2)))) (.seq .no .no)))) Tryz.func12 (fun (hp:lines.length≤1048576∧(∀ k:Nat,(lines.getD k default).size≤1048576))=>have hpre0:=hp.1; have hpre1:=hp.2; kn lines fun _=>ai (bokr 4 Qs ([]:List Qc) fun _=>rfl) (kc17a lines (⟨#[112,111,114,116]⟩:ByteArray) (by first | omega | (simp only [lens,ib] at*<;> omega)) (by first | assumption | exact hpre1 _ | exact fun k _=>hpre1 k | (intros; exact trivial) | (intros; exact Nat.zero_le _)) (fun gv1=>kn ([]:List Qc) fun _=>kn (Qx lines (⟨#[112,111,114,116]⟩:ByteArray)) fun _=>ai (en12_0 lines (by refine ⟨?_,?_⟩ <;> first | omega | (simp only [lens,ib] at*<;> omega))) (fun (i0:Nat×(List Qc×Int)) (hi0:Tr lines i0)=>(fun (m0:Nat) (out:List Qc) (v12:Int) (hh0:Qvb lines i0 m0 out v12)=>have hI0:=hh0.1; have hl0:=hh0.2.1; have _:=hh0.2.2.1; have _:=hh0.2.2.2; ifd (v12<((Qx lines (⟨#[112,111,114,116]⟩:ByteArray)).length:Int)) (fun h3 _=>ai (by (first | omega | (have h9:=Bz lines v12.toNat (by first | omega | (simp only [lens,ib] at*<;> omega)); unfold Zv at h9; omega)):0≤v12∧v12<((Qx lines (⟨#[112,111,114,116]⟩:ByteArray)).length:Int)) (ai (by (first | omega | (have h9:=Bz lines v12.toNat (by first | omega | (simp only [lens,ib] at*<;> omega)); unfold Zv at h9; omega)):0≤(2:Int)∧(2:Int)<(((Qx lines (⟨#[112,111,114,116]⟩:ByteArray)).getD v12.toNat default).length:Int)) (kc18 (((Qx lines (⟨#[112,111,114,116]⟩:ByteArray)).getD v12.toNat default).getD (Int.toNat 2) default) (by exact Qit lines _ _ _) (ai (by (first | omega | (have h9:=Bz lines v12.toNat (by first | omega | (simp only [lens,ib] at*<;> omega)); unfold Zv at h9; omega)):0≤(1:Int)∧(1:Int)<(((Qx lines (⟨#[112,111,114,116]⟩:ByteArray)).getD v12.toNat default).length:Int)) (kc19 (((Qx lines (⟨#[112,111,114,116]⟩:ByteArray)).getD v12.toNat default).getD (Int.toNat 1) default) (by exact Qit lines _ _ _) (ai (ifd ((((Qx lines (⟨#[112,111,114,116]⟩:ByteArray)).getD v12.toNat default).length:Int)>4) (fun h4 _=>ai (by (first | omega | (have h9:=Bz lines v12.toNat (by first | omega | (simp only [lens,ib] at*<;> omega)); unfold Zv at h9; omega)):0≤(4:Int)∧(4:Int)<(((Qx lines (⟨#[112,111,114,116]⟩:ByteArray)).getD v12.toNat default).length:Int)) (Qxf lines out v12 (((Qx lines (⟨#[112,111,114,116]⟩:ByteArray)).getD v12.toNat default).getD (Int.toNat 4) default) (Eq.symm (condT h4 rfl)) )) (fun h4 _=>Qxf lines out v12 (⟨#[]⟩:ByteArray) (Eq.symm (condF h4 rfl)) )) (fun (j:ByteArray) (hj:Qmn lines out v12 j)=>(fun (port:ByteArray) (hJ2_5:(Qcg lines out v12)=Lp.done port)=>ai (appr 4 Qs out [(⟨(F19 (((Qx lines (⟨#[112,111,114,116]⟩:ByteArray)).getD v12.toNat default).getD (Int.toNat 1) default)),(F18 (((Qx lines (⟨#[112,111,114,116]⟩:ByteArray)).getD v12.toNat default).getD (Int.toNat 2) default)).Addr,(F18 (((Qx lines (⟨#[112,111,114,116]⟩:ByteArray)).getD v12.toNat default).getD (Int.toNat 2) default)).Len,port⟩:Qc)] fun _=>rfl) (ai (by (try simp only [lens]); omega:(out++[(⟨(F19 (((Qx lines (⟨#[112,111,114,116]⟩:ByteArray)).getD v12.toNat default).getD (Int.toNat 1) default)),(F18 (((Qx lines (⟨#[112,111,114,116]⟩:ByteArray)).getD v12.toNat default).getD (Int.toNat 2) default)).Addr,(F18 (((Qx lines (⟨#[112,111,114,116]⟩:ByteArray)).getD v12.toNat default).getD (Int.toNat 2) default)).Len,port⟩:Qc)]).length*40≤140737488355328) (ai (iok (v12+1) (by first | omega | (simp only [lens,ib] at*<;> omega))) (bk12_0 lines i0 m0 (out++[(⟨(F19 (((Qx lines (⟨#[112,111,114,116]⟩:ByteArray)).getD v12.toNat default).getD (Int.toNat 1) default)),(F18 (((Qx lines (⟨#[112,111,114,116]⟩:ByteArray)).getD v12.toNat default).getD (Int.toNat 2) default)).Addr,(F18 (((Qx lines (⟨#[112,111,114,116]⟩:ByteArray)).getD v12.toNat default).getD (Int.toNat 2) default)).Len,port⟩:Qc)]) (v12+1) hl0 (Qe hI0 (condT h3 (finD hJ2_5 rfl))) (by refine ⟨?_,?_,?_⟩ <;> first | omega | (simp only [lens,ib] at*<;> omega)))))) j hj))))))) (fun h3 _=>have hD0_6:Uae lines=Lp.done (out,v12):=Ql hI0 (condF h3 rfl); fi12 lines out (finD hD0_6 rfl))) (i0.1-1) i0.2.1 i0.2.2 (un12_0 lines i0 hi0))))) (by kernel_rfl)
theorem kc47 (text:ByteArray) {K_:Prop} (p0_:text.size≤1048576) (k_:K_):(text.size≤1048576)∧(Imp (.v (.string text)) (.v (.string text)))∧K_:=⟨p0_,Imp.refl _,k_⟩
abbrev kh47 (text:ByteArray):Hint true Tryz.prog:=.call 47 (S47 text) (ok47 text) none
def F28 (word:ByteArray):Qa :=
 (⟨(F47 word).1.Addr,(F47 word).1.Len⟩:Qa)
theorem fi28 (word:ByteArray) (r:Qa) (hF:r=(F28 word)):((.int .i64 r.Addr:Value)=.int .i64 (F28 word).Addr)∧((.int .i64 r.Len:Value)=.int .i64 (F28 word).Len)∧True:=by cases hF; exact ⟨rfl,rfl,trivial⟩
def S28 (word:ByteArray):Spec:=⟨[.r (.c (.v (.string word)))],.ag [.v (vI (F28 word).Addr),.v (vI (F28 word).Len)],word.size≤1048576⟩
theorem ok28 (word:ByteArray):(S28 word).ok Tryz.prog 28 :=
 Qi mixed (fn:=Tryz.f28) (ct:=.seq .no (.seq (.reg [(1,kh47 word)]) (.seq .no .no))) Tryz.func28 (fun (hpre0:word.size≤1048576)=>kc47 word (by omega) (fi28 word (⟨(F47 word).1.Addr,(F47 word).1.Len⟩:Qa) rfl)) (by kernel_rfl)
theorem kc27a (lines:List ByteArray) (head:ByteArray) {K_:Prop} (p0_:lines.length≤16) (p1_:∀ k:Nat,(lines.getD k default).size≤1048576) (q0_:lines.length≤16) (k_:((ofL lines head).length≤16)→K_):(lines.length≤16∧(∀ k:Nat,(lines.getD k default).size≤1048576))∧(Imp (.l 1 eStr lines) (.l 1 eStr lines))∧(Imp (.v (.string head)) (.v (.string head)))∧K_:=⟨⟨p0_,p1_⟩,Imp.refl _,Imp.refl _,k_ (Udu lines head q0_)⟩
abbrev kh27a (lines:List ByteArray) (head:ByteArray):Hint true Tryz.prog:=.call 27 (T27 (ofL lines head) lines head) (oa27 lines head) none
theorem kc28 (word:ByteArray) {K_:Prop} (p0_:word.size≤1048576) (k_:K_):(word.size≤1048576)∧(Imp (.v (.string word)) (.v (.string word)))∧K_:=⟨p0_,Imp.refl _,k_⟩
abbrev kh28 (word:ByteArray):Hint true Tryz.prog:=.call 28 (S28 word) (ok28 word) none
def Vu (lines:List ByteArray):(List Qc×Int)→Lp (List Qc×Int) (List Qc):=fun (out,i40) =>
 bif (decide (i40<((ofL lines (⟨#[112,111,114,116]⟩:ByteArray)).length:Int))) then (.next ((out++[(⟨(F30 (F29 ((ofL lines (⟨#[112,111,114,116]⟩:ByteArray)).getD i40.toNat default) 1)),(F28 (F29 ((ofL lines (⟨#[112,111,114,116]⟩:ByteArray)).getD i40.toNat default) 2)).Addr,(F28 (F29 ((ofL lines (⟨#[112,111,114,116]⟩:ByteArray)).getD i40.toNat default) 2)).Len,(F29 ((ofL lines (⟨#[112,111,114,116]⟩:ByteArray)).getD i40.toNat default) 4)⟩:Qc)]),(i40+1))) else (.done (out,i40))
def F14 (lines:List ByteArray):List Qc :=
 (runL (Vu lines) ((((ofL lines (⟨#[112,111,114,116]⟩:ByteArray)).length:Int)-0).toNat+1) (([]:List Qc),0)).fin (fun r=>r) (fun (out,i40)=>out)
abbrev Ti (lines:List ByteArray):Nat×(List Qc×Int):=(((((ofL lines w7_).length:Int)-0).toNat+1),(([]:List Qc),0))
abbrev Qlv (lines:List ByteArray) (m39:Nat) (out:List Qc) (i40:Int):Prop:=Int.toNat (((ofL lines w7_).length:Int)-i40)<m39∧(out.length:Int)≤i40∧(0:Int)≤i40
abbrev Qvs (lines:List ByteArray):Lp (List Qc×Int) (List Qc):=LpX (Vu lines) (Ti lines)
abbrev Rr (lines:List ByteArray) (i:Nat×(List Qc×Int)):Prop:=LpJ (Vu lines) (Ti lines) i (Qlv lines i.1 i.2.1 i.2.2)
abbrev Uay (lines:List ByteArray) (i:Nat×(List Qc×Int)) (m39:Nat) (out:List Qc) (i40:Int):Prop:=LpH (Vu lines) (Ti lines) i m39 (out,i40) (Qlv lines (m39+1) out i40)
abbrev Quk (lines:List ByteArray) (out:List Qc) (i40:Int) (out_:List Qc) (i40_:Int) (K39:Prop):Prop:=((.int .i64 i40:Value)=.int .i64 i40_)∧(Im (.l 1 Qj (ofL lines w7_)))∧(Imp (.l 4 Qs out) (.l 4 Qs out_))∧K39
theorem un14_0 (lines:List ByteArray) (i:Nat×(List Qc×Int)) (h:Rr lines i):Uay lines i (i.1-1) i.2.1 i.2.2:=⟨hd1 h.1 h.2.1,hd3 h.2.1,hd2 h.2.1,h.2.2⟩
theorem bk14_0 (lines:List ByteArray) (i:Nat×(List Qc×Int)) (m39:Nat) (out:List Qc) (i40:Int) (hl:m39<i.1) (e:runL (Vu lines) m39 (out,i40)=Qvs lines) (h:Qlv lines m39 out i40):∃ j:Nat×(List Qc×Int),Quk lines out i40 j.2.1 j.2.2 (Rr lines j∧j.1<i.1):=⟨(m39,(out,i40)),rfl,Imp.refl _,Imp.refl _,⟨e,h⟩,hl⟩
theorem en14_0 (lines:List ByteArray) (h:(([]:List Qc).length:Int)≤0∧(0:Int)≤0):Quk lines ([]:List Qc) 0 ([]:List Qc) 0 (Rr lines (Ti lines)):=⟨rfl,Imp.refl _,Imp.refl _,rfl,Nat.lt_succ_self _,h⟩
theorem fi14 (lines:List ByteArray) (r:List Qc) (hF:r=(F14 lines)):(Imp (.l 4 Qs r) (.l 4 Qs (F14 lines)))∧True:=by cases hF; exact ⟨Imp.refl _,trivial⟩
def S14 (lines:List ByteArray):Spec:=⟨[.r (.c (.l 1 eStr lines))],.ow (.l 4 Qs (F14 lines)),lines.length≤16∧(∀ k:Nat,(lines.getD k default).size≤1048576)⟩
theorem ok14 (lines:List ByteArray):(S14 lines).ok Tryz.prog 14 :=
 Qi mixed (fn:=Tryz.f14) (ct:=.seqk [(0,0)] .no (.seq (.reg [(1,kh27a lines w7_)]) (.seq (.reg [(0,.dat (.l 4 Qs ([]:List Qc)))]) (.seq (.seqk [(3,0),(4,0)] .no (.blk (.loop (ι:=Nat×(List Qc×Int)) (fun i=>(fun (out:List Qc) (i40:Int)=>(⟨[(3,some (.h 0 0)),(4,some (.h 1 0)),(5,some (.v (vI i40)))],[(0,some (.own 0 (.l 1 Qj (ofL lines w7_)))),(1,some (.own 1 (.l 4 Qs out)))],2⟩:St)) i.2.1 i.2.2) (Rr lines) (fun i=>i.1) (Ti lines) (fun i=>(fun (out:List Qc) (i40:Int)=>(.seq (.seq .no (.cond .no .no)) (.seq (.blk (.seq (.reg [(4,kh29 ((ofL lines w7_).getD i40.toNat default) 2),(5,kh28 (F29 ((ofL lines w7_).getD i40.toNat default) 2))]) (.reg [(5,kh29 ((ofL lines w7_).getD i40.toNat default) 1),(6,kh30 (F29 ((ofL lines w7_).getD i40.toNat default) 1)),(15,kh29 ((ofL lines w7_).getD i40.toNat default) 4),(18,.dat (.l 4 Qs (out++[(⟨(F30 (F29 ((ofL lines w7_).getD i40.toNat default) 1)),(F28 (F29 ((ofL lines w7_).getD i40.toNat default) 2)).Addr,(F28 (F29 ((ofL lines w7_).getD i40.toNat default) 2)).Len,(F29 ((ofL lines w7_).getD i40.toNat default) 4)⟩:Qc)])))]))) (.reg [(1,.bnd)])))) i.2.1 i.2.2)))) (.seq .no .no))))) Tryz.func14 (fun (hp:lines.length≤16∧(∀ k:Nat,(lines.getD k default).size≤1048576))=>have hpre0:=hp.1; have hpre1:=hp.2; kn lines fun _=>kc27a lines w7_ (by first | omega | (simp only [lens,ib] at*<;> omega)) (by first | assumption | exact hpre1 _ | exact fun k _=>hpre1 k | (intros; exact trivial) | (intros; exact Nat.zero_le _)) (by first | omega | (simp only [lens,ib] at*<;> omega)) (fun gv1=>ai (bokr 4 Qs ([]:List Qc) fun _=>rfl) (kn (ofL lines w7_) fun _=>kn ([]:List Qc) fun _=>ai (en14_0 lines (by refine ⟨?_,?_⟩ <;> first | omega | (simp only [lens,ib] at*<;> omega))) (fun (i0:Nat×(List Qc×Int)) (hi0:Rr lines i0)=>(fun (m0:Nat) (out:List Qc) (i40:Int) (hh0:Uay lines i0 m0 out i40)=>have hI0:=hh0.1; have hl0:=hh0.2.1; have _:=hh0.2.2.1; have _:=hh0.2.2.2; ifd (i40<((ofL lines w7_).length:Int)) (fun h3 _=>ai (by first | omega | (simp only [lens,ib] at*<;> omega):ib i40 (ofL lines w7_)) (kc29 ((ofL lines w7_).getD i40.toNat default) 2 (by first | omega | (simp only [lens,ib] at*<;> omega)) (kc28 (F29 ((ofL lines w7_).getD i40.toNat default) 2) (by exact Wc _ (Qtf lines _ (by assumption)) _ _) (ai (by first | omega | (simp only [lens,ib] at*<;> omega):ib i40 (ofL lines w7_)) (kc29 ((ofL lines w7_).getD i40.toNat default) 1 (by first | omega | (simp only [lens,ib] at*<;> omega)) (kc30 (F29 ((ofL lines w7_).getD i40.toNat default) 1) (by exact Wc _ (Qtf lines _ (by assumption)) _ _) (ai (by first | omega | (simp only [lens,ib] at*<;> omega):ib i40 (ofL lines w7_)) (kc29 ((ofL lines w7_).getD i40.toNat default) 4 (by first | omega | (simp only [lens,ib] at*<;> omega)) (ai (appr 4 Qs out [(⟨(F30 (F29 ((ofL lines w7_).getD i40.toNat default) 1)),(F28 (F29 ((ofL lines w7_).getD i40.toNat default) 2)).Addr,(F28 (F29 ((ofL lines w7_).getD i40.toNat default) 2)).Len,(F29 ((ofL lines w7_).getD i40.toNat default) 4)⟩:Qc)] fun _=>rfl) (ai (by (try simp only [lens]); omega:(out++[(⟨(F30 (F29 ((ofL lines w7_).getD i40.toNat default) 1)),(F28 (F29 ((ofL lines w7_).getD i40.toNat default) 2)).Addr,(F28 (F29 ((ofL lines w7_).getD i40.toNat default) 2)).Len,(F29 ((ofL lines w7_).getD i40.toNat default) 4)⟩:Qc)]).length*40≤140737488355328) (ai (iok (i40+1) (by first | omega | (simp only [lens,ib] at*<;> omega))) (bk14_0 lines i0 m0 (out++[(⟨(F30 (F29 ((ofL lines w7_).getD i40.toNat default) 1)),(F28 (F29 ((ofL lines w7_).getD i40.toNat default) 2)).Addr,(F28 (F29 ((ofL lines w7_).getD i40.toNat default) 2)).Len,(F29 ((ofL lines w7_).getD i40.toNat default) 4)⟩:Qc)]) (i40+1) hl0 (Qe hI0 (condT h3 rfl)) (by refine ⟨?_,?_,?_⟩ <;> first | omega | (simp only [lens,ib] at*<;> omega)))))))))))))) (fun h3 _=>have hD0_4:Qvs lines=Lp.done (out,i40):=Ql hI0 (condF h3 rfl); fi14 lines out (finD hD0_4 rfl))) (i0.1-1) i0.2.1 i0.2.2 (un14_0 lines i0 hi0))))) (by kernel_rfl)
theorem kc13 (lines:List ByteArray) {K_:Prop} (p0_:lines.length≤1048576) (p1_:∀ k:Nat,(lines.getD k default).size≤1048576) (k_:K_):(lines.length≤1048576∧(∀ k:Nat,(lines.getD k default).size≤1048576))∧(Imp (.l 1 eStr lines) (.l 1 eStr lines))∧K_:=⟨⟨p0_,p1_⟩,Imp.refl _,k_⟩
abbrev kh13 (lines:List ByteArray):Hint true Tryz.prog:=.call 13 (S13 lines) (ok13 lines) none
theorem kc14 (lines:List ByteArray) {K_:Prop} (p0_:lines.length≤16) (p1_:∀ k:Nat,(lines.getD k default).size≤1048576) (k_:K_):(lines.length≤16∧(∀ k:Nat,(lines.getD k default).size≤1048576))∧(Imp (.l 1 eStr lines) (.l 1 eStr lines))∧K_:=⟨⟨p0_,p1_⟩,Imp.refl _,k_⟩
abbrev kh14 (lines:List ByteArray):Hint true Tryz.prog:=.call 14 (S14 lines) (ok14 lines) none
def F9 (lines:List ByteArray):List Qc :=
 bif ((F13 lines) != 0) then ([]:List Qc) else (F14 lines)
theorem fi9 (lines:List ByteArray) (r:List Qc) (hF:r=(F9 lines)):(Imp (.l 4 Qs r) (.l 4 Qs (F9 lines)))∧True:=by cases hF; exact ⟨Imp.refl _,trivial⟩
def S9 (lines:List ByteArray):Spec:=⟨[.r (.c (.l 1 eStr lines))],.ow (.l 4 Qs (F9 lines)),lines.length≤1048576∧(∀ k:Nat,(lines.getD k default).size≤1048576)⟩
theorem ok9 (lines:List ByteArray):(S9 lines).ok Tryz.prog 9 :=
 Qi mixed (fn:=Tryz.f9) (ct:=.seqk [(0,0)] .no (.seq (.seq (.reg [(1,kh13 lines)]) (.cond (.seq (.reg [(0,.dat (.l 4 Qs ([]:List Qc)))]) .no) .no)) (.seq (.reg [(1,kh14 lines)]) .no))) Tryz.func9 (fun (hp:lines.length≤1048576∧(∀ k:Nat,(lines.getD k default).size≤1048576))=>have hpre0:=hp.1; have hpre1:=hp.2; kn lines fun _=>kc13 lines (by omega) (by first | assumption | exact hpre1 _ | exact fun k _=>hpre1 k | (intros; exact trivial) | (intros; exact Nat.zero_le _)) (ifn (F13 lines) 0 (fun h1 _=>ai (bokr 4 Qs ([]:List Qc) fun _=>rfl) (fi9 lines ([]:List Qc) (condT h1 rfl))) (fun h1 _=>kc14 lines (by first | assumption | exact Nh lines (by omega)) (by first | assumption | exact Nh lines (by omega)) (fi9 lines (F14 lines) (condF h1 rfl))))) (by kernel_rfl)
def Qcx (w:List ByteArray):Qc:=⟨num6 (w.getD 1 default).data.toList,(F36 (w.getD 2 default)).1.Addr,(F36 (w.getD 2 default)).1.Len,w.getD 4 default⟩
theorem Wm (lines:List ByteArray):F12 lines=(Qx lines (⟨#[112,111,114,116]⟩:ByteArray)).map Qcx:=by
 unfold F12
 have:=Uz (Qx lines (⟨#[112,111,114,116]⟩:ByteArray)) (fun (s:List Qc) w=>s++[Qcx w]) (fun s i=>(s,i)) (Xz lines) (fun i s hi=>by
  simp only [Xz,ltD hi,cond_true,nn,F18,Qdl]
  unfold Qcg
  simp only [nn]
  by_cases h:(((Qx lines (⟨#[112,111,114,116]⟩:ByteArray)).getD i default).length:Int)>4
  ·rw [decide_eq_true h]; rfl
  ·rw [decide_eq_false h,Qcx,Zs ((Qx lines (⟨#[112,111,114,116]⟩:ByteArray)).getD i default) (k:=4) (by omega)]; rfl) (fun s=>by simp only [Xz,geD,cond_false]) (fun r=>r) (fun (out,v12)=>out) []
 refine this.trans ?_
 rw [Zg,List.nil_append]
def Qpt (c:l52Cut):Qc:=⟨F30 (F29 c 1),(F47 (F29 c 2)).1.Addr,(F47 (F29 c 2)).1.Len,F29 c 4⟩
theorem Qsi (lines:List ByteArray):F14 lines=(ofL lines (⟨#[112,111,114,116]⟩:ByteArray)).map Qpt:=by
 unfold F14
 have:=Uz (ofL lines (⟨#[112,111,114,116]⟩:ByteArray)) (fun (s:List Qc) w=>s++[Qpt w]) (fun s i=>(s,i)) (Vu lines) (fun i s hi=>by
  simp only [Vu,ltD hi,cond_true,nn,F28]; rfl) (fun s=>by simp only [Vu,geD,cond_false]) (fun r=>r) (fun (out,i40)=>out) []
 refine this.trans ?_
 rw [Zg,List.nil_append]
theorem Uao (w:List ByteArray):Qpt ⟨w⟩=Qcx w:=by
 unfold Qpt Qcx
 rw [at1,at2,at4,Wt,Qmc]
theorem Qip (lines:List ByteArray) (h:F20 lines=0):F14 lines=(Qb lines (⟨#[112,111,114,116]⟩:ByteArray)).map Qcx:=by
 rw [Qsi,Ufi lines h,List.map_map]
 exact List.map_congr_left fun w _=>Uao w
theorem Vt (lines:List ByteArray):F12 lines=F9 lines:=by
 rw [Wm]
 unfold F9 Qx
 rw [← Gz]
 cases h:(F50 lines==0) with
 | true =>
  have h0:=eq_of_beq h
  rw [h0,Qip lines (Pf lines h0)]; rfl
 | false =>
  rw [show (F50 lines != 0)=true by simp only [bne,h,Bool.not_false]]; rfl
theorem Qaa (lines:List ByteArray):(F12 lines).length≤16:=by
 rw [Wm,List.length_map]; exact Qda _ _
theorem Qix (lines:List ByteArray):∀ k:Nat,0≤((F12 lines).getD k default).Len∧((F12 lines).getD k default).Len≤16:=fun k=>by
 by_cases hk:k<(F12 lines).length
 ·have hm:=Zl _ hk
  rw [Wm] at hm
  obtain ⟨w,_,e⟩:=List.mem_map.1 hm
  rw [Wm,← e]
  exact ⟨(Zc _).1,(Zc _).2.1⟩
 ·rw [Zs _ (by omega)]; exact ⟨by decide,by decide⟩
theorem Qnf (lines:List ByteArray):(F9 lines).length≤16:=by rw [← Vt]; exact Qaa lines
theorem Qyu (lines:List ByteArray):∀ k:Nat,0≤((F9 lines).getD k default).Len∧((F9 lines).getD k default).Len≤16:=by rw [← Vt]; exact Qix lines
def Xh (ports:List Qc) (addr:Int):Int→Lp Int Int:=fun v9 =>
 bif (decide (v9<(ports.length:Int))) then (bif (F16 ⟨(ports.getD v9.toNat default).Addr,(ports.getD v9.toNat default).Len⟩ addr) then (.ret (ports.getD v9.toNat default).Port) else (.next (v9+1))) else (.done v9)
def F11 (ports:List Qc) (addr:Int):Int :=
 (runL (Xh ports addr) (((ports.length:Int)-0).toNat+1) 0).fin (fun r=>r) (fun v9=>(-1))
abbrev Eb (ports:List Qc):Nat×Int:=((((ports.length:Int)-0).toNat+1),0)
abbrev Qkr (ports:List Qc) (m39:Nat) (v9:Int):Prop:=Int.toNat ((ports.length:Int)-v9)<m39∧(0:Int)≤v9
abbrev Quj (ports:List Qc) (addr:Int):Lp Int Int:=LpX (Xh ports addr) (Eb ports)
abbrev Tx (ports:List Qc) (addr:Int) (i:Nat×Int):Prop:=LpJ (Xh ports addr) (Eb ports) i (Qkr ports i.1 i.2)
abbrev Qtk (ports:List Qc) (addr:Int) (i:Nat×Int) (m39:Nat) (v9:Int):Prop:=LpH (Xh ports addr) (Eb ports) i m39 v9 (Qkr ports (m39+1) v9)
abbrev Quw (ports:List Qc) (addr:Int) (v9:Int) (v9_:Int) (K39:Prop):Prop:=(Rf (.int .i64 addr))∧(Rf (.int .i64 (ports.length:Int)))∧((.int .i64 v9:Value)=.int .i64 v9_)∧(Im (.l 4 Qs ports))∧K39
theorem un11_0 (ports:List Qc) (addr:Int) (i:Nat×Int) (h:Tx ports addr i):Qtk ports addr i (i.1-1) i.2:=⟨hd1 h.1 h.2.1,hd3 h.2.1,hd2 h.2.1,h.2.2⟩
theorem bk11_0 (ports:List Qc) (addr:Int) (i:Nat×Int) (m39:Nat) (v9:Int) (hl:m39<i.1) (e:runL (Xh ports addr) m39 v9=Quj ports addr) (h:Qkr ports m39 v9):∃ j:Nat×Int,Quw ports addr v9 j.2 (Tx ports addr j∧j.1<i.1):=⟨(m39,v9),rfl,rfl,rfl,Imp.refl _,⟨e,h⟩,hl⟩
theorem en11_0 (ports:List Qc) (addr:Int) (h:(0:Int)≤0):Quw ports addr 0 0 (Tx ports addr (Eb ports)):=⟨rfl,rfl,rfl,Imp.refl _,rfl,Nat.lt_succ_self _,h⟩
def S11 (ports:List Qc) (addr:Int):Spec:=⟨[.r (.c (.l 4 Qs ports)),.r (.c (.v (vI addr)))],.v (vI (F11 ports addr)),(∀ k:Nat,0≤(ports.getD k default).Len∧(ports.getD k default).Len≤16)⟩
theorem ok11 (ports:List Qc) (addr:Int):(S11 ports addr).ok Tryz.prog 11 :=
 Qi mixed (fn:=Tryz.f11) (ct:=.seqk [(0,0)] .no (.seq (.seqk [(7,0)] .no (.blk (.loop (ι:=Nat×Int) (fun i=>(fun (v9:Int)=>(⟨[(1,some (.v (vI addr))),(7,some (.h 0 0)),(8,some (.v (vI (ports.length:Int)))),(9,some (.v (vI v9)))],[(0,some (.shr none (.l 4 Qs ports)))],1⟩:St)) i.2) (Tx ports addr) (fun i=>i.1) (Eb ports) (fun i=>(fun (v9:Int)=>(.seq .no (.seq (.cond .no .no) (.seq (.blk (.seq .no (.seq (.reg [(6,.call 16 (S16 (⟨(ports.getD v9.toNat default).Addr,(ports.getD v9.toNat default).Len⟩:Qa) addr) (ok16 (⟨(ports.getD v9.toNat default).Addr,(ports.getD v9.toNat default).Len⟩:Qa) addr) none)]) (.cond (.seq .no .no) .no)))) (.reg [(0,.bnd)]))))) i.2)))) (.seq .no .no))) Tryz.func11 (fun (hpre0:∀ k:Nat,0≤(ports.getD k default).Len∧(ports.getD k default).Len≤16)=>kn ports fun _=>kn ports fun _=>ai (en11_0 ports addr (by omega)) (fun (i0:Nat×Int) (hi0:Tx ports addr i0)=>(fun (m0:Nat) (v9:Int) (hh0:Qtk ports addr i0 m0 v9)=>have hI0:=hh0.1; have hl0:=hh0.2.1; have _:=hh0.2.2.1; have _:=hh0.2.2.2; ifd (v9<(ports.length:Int)) (fun h2 _=>ai (by omega:ib v9 ports) (ai (ai (by first | exact (hpre0 _).1 | exact (hpre0 _).2:0≤(ports.getD v9.toNat default).Len) (by first | exact (hpre0 _).1 | exact (hpre0 _).2:(ports.getD v9.toNat default).Len≤16)) (ai (Imps.refl (Qh (⟨(ports.getD v9.toNat default).Addr,(ports.getD v9.toNat default).Len⟩:Qa))) (ai (Imp.refl (.v (vI addr))) (ifb (F16 ⟨(ports.getD v9.toNat default).Addr,(ports.getD v9.toNat default).Len⟩ addr) (fun h3=>fiI (ports.getD v9.toNat default).Port (F11 ports addr) (finR (Qr hI0 (condT h2 (condT h3 rfl))) rfl)) (fun h3=>ai (iok (v9+1) (by omega)) (bk11_0 ports addr i0 m0 (v9+1) hl0 (Qe hI0 (condT h2 (condF h3 rfl))) (by refine ⟨?_,?_⟩ <;> omega)))))))) (fun h2 _=>have hD0_4:Quj ports addr=Lp.done v9:=Ql hI0 (condF h2 rfl); fiI (-1) (F11 ports addr) (finD hD0_4 rfl))) (i0.1-1) i0.2 (un11_0 ports addr i0 hi0))) (by kernel_rfl)
theorem kc12l (lines:List ByteArray) {K_:Prop} (p0_:lines.length≤1048576) (p1_:∀ k:Nat,(lines.getD k default).size≤1048576) (k_:((F12 lines).length≤16)→(∀ k:Nat,0≤((F12 lines).getD k default).Len∧((F12 lines).getD k default).Len≤16)→K_):(lines.length≤1048576∧(∀ k:Nat,(lines.getD k default).size≤1048576))∧(Imp (.l 1 eStr lines) (.l 1 eStr lines))∧K_:=⟨⟨p0_,p1_⟩,Imp.refl _,k_ (Qaa lines) (Qix lines)⟩
abbrev kh12l (lines:List ByteArray):Hint false Tryz.prog:=.call 12 (S12 lines) (ok12 lines) none
theorem kc11 (ports:List Qc) (addr:Int) {K_:Prop} (p0_:∀ k:Nat,0≤(ports.getD k default).Len∧(ports.getD k default).Len≤16) (k_:K_):(∀ k:Nat,0≤(ports.getD k default).Len∧(ports.getD k default).Len≤16)∧(Imp (.l 4 Qs ports) (.l 4 Qs ports))∧(Imp (.v (vI addr)) (.v (vI addr)))∧K_:=⟨p0_,Imp.refl _,Imp.refl _,k_⟩
abbrev kh11f (ports:List Qc) (addr:Int):Hint false Tryz.prog:=.call 11 (S11 ports addr) ((ok11 ports addr).to false) none
def F7 (lines:List ByteArray) (addr:Int):Int :=
 (F11 (F12 lines) addr)
def S7 (lines:List ByteArray) (addr:Int):Spec:=⟨[.r (.c (.l 1 eStr lines)),.r (.c (.v (vI addr)))],.v (vI (F7 lines addr)),lines.length≤1048576∧(∀ k:Nat,(lines.getD k default).size≤1048576)⟩
theorem ok7 (lines:List ByteArray) (addr:Int):(S7 lines addr).ok Tryz.prog 7 false :=
 Qi mixed (fn:=Tryz.f7) (ct:=.seqk [(0,0)] .no (.seq (.reg [(1,kh12l lines),(3,kh11f (F12 lines) addr)]) .no)) Tryz.func7 (fun (hp:lines.length≤1048576∧(∀ k:Nat,(lines.getD k default).size≤1048576))=>have hpre0:=hp.1; have hpre1:=hp.2; kn lines fun _=>kc12l lines (by omega) (by first | assumption | exact hpre1 _ | exact fun k _=>hpre1 k | (intros; exact trivial) | (intros; exact Nat.zero_le _)) (fun gv1 gv2=>kc11 (F12 lines) addr (by first | assumption | exact hpre1 _ | exact fun k _=>hpre1 k | exact gv2 | (intros; exact trivial) | (intros; exact Nat.zero_le _)) (fiI (F11 (F12 lines) addr) (F7 lines addr) rfl))) (by kernel_rfl)
def Ng (ports:List Qc) (addr:Int):Int→Lp Int Int:=fun i40 =>
 bif (decide (i40<(ports.length:Int))) then (bif (F15 ⟨(ports.getD i40.toNat default).Addr,(ports.getD i40.toNat default).Len⟩ addr) then (.ret i40) else (.next (i40+1))) else (.done i40)
def F10 (ports:List Qc) (addr:Int):Int :=
 (runL (Ng ports addr) (((ports.length:Int)-0).toNat+1) 0).fin (fun r=>r) (fun i40=>(-1))
abbrev Qbg (ports:List Qc):Nat×Int:=((((ports.length:Int)-0).toNat+1),0)
abbrev Qks (ports:List Qc) (m39:Nat) (i40:Int):Prop:=Int.toNat ((ports.length:Int)-i40)<m39∧(0:Int)≤i40
abbrev Ubh (ports:List Qc) (addr:Int):Lp Int Int:=LpX (Ng ports addr) (Qbg ports)
abbrev Ek (ports:List Qc) (addr:Int) (i:Nat×Int):Prop:=LpJ (Ng ports addr) (Qbg ports) i (Qks ports i.1 i.2)
abbrev Qtg (ports:List Qc) (addr:Int) (i:Nat×Int) (m39:Nat) (i40:Int):Prop:=LpH (Ng ports addr) (Qbg ports) i m39 i40 (Qks ports (m39+1) i40)
abbrev Qtr (ports:List Qc) (addr:Int) (i40:Int) (i40_:Int) (K39:Prop):Prop:=(Rf (.int .i64 addr))∧((.int .i64 i40:Value)=.int .i64 i40_)∧(Im (.l 4 Qs ports))∧K39
theorem un10_0 (ports:List Qc) (addr:Int) (i:Nat×Int) (h:Ek ports addr i):Qtg ports addr i (i.1-1) i.2:=⟨hd1 h.1 h.2.1,hd3 h.2.1,hd2 h.2.1,h.2.2⟩
theorem bk10_0 (ports:List Qc) (addr:Int) (i:Nat×Int) (m39:Nat) (i40:Int) (hl:m39<i.1) (e:runL (Ng ports addr) m39 i40=Ubh ports addr) (h:Qks ports m39 i40):∃ j:Nat×Int,Qtr ports addr i40 j.2 (Ek ports addr j∧j.1<i.1):=⟨(m39,i40),rfl,rfl,Imp.refl _,⟨e,h⟩,hl⟩
theorem en10_0 (ports:List Qc) (addr:Int) (h:(0:Int)≤0):Qtr ports addr 0 0 (Ek ports addr (Qbg ports)):=⟨rfl,rfl,Imp.refl _,rfl,Nat.lt_succ_self _,h⟩
def S10 (R:Int) (ports:List Qc) (addr:Int):Spec:=⟨[.r (.c (.l 4 Qs ports)),.r (.c (.v (vI addr)))],.v (vI R),(∀ k:Nat,0≤(ports.getD k default).Len∧(ports.getD k default).Len≤16)⟩
theorem ok10 (ports:List Qc) (addr:Int):(S10 (F10 ports addr) ports addr).ok Tryz.prog 10 :=
 Qi mixed (fn:=Tryz.f10) (ct:=.seqk [(0,0)] .no (.seq (.seqk [(0,0)] .no (.blk (.loop (ι:=Nat×Int) (fun i=>(fun (i40:Int)=>(⟨[(0,some (.h 0 0)),(1,some (.v (vI addr))),(5,some (.v (vI i40)))],[(0,some (.shr none (.l 4 Qs ports)))],1⟩:St)) i.2) (Ek ports addr) (fun i=>i.1) (Qbg ports) (fun i=>(fun (i40:Int)=>(.seq (.seq .no (.cond .no .no)) (.seq (.blk (.seq (.reg [(12,.call 15 (S15 (⟨(ports.getD i40.toNat default).Addr,(ports.getD i40.toNat default).Len⟩:Qa) addr) (ok15 (⟨(ports.getD i40.toNat default).Addr,(ports.getD i40.toNat default).Len⟩:Qa) addr) none)]) (.cond (.seq .no .no) .no))) (.reg [(1,.bnd)])))) i.2)))) (.seq .no .no))) Tryz.func10 (fun (hpre0:∀ k:Nat,0≤(ports.getD k default).Len∧(ports.getD k default).Len≤16)=>kn ports fun _=>kn ports fun _=>ai (en10_0 ports addr (by omega)) (fun (i0:Nat×Int) (hi0:Ek ports addr i0)=>(fun (m0:Nat) (i40:Int) (hh0:Qtg ports addr i0 m0 i40)=>have hI0:=hh0.1; have hl0:=hh0.2.1; have _:=hh0.2.2.1; have _:=hh0.2.2.2; ifd (i40<(ports.length:Int)) (fun h2 _=>ai (by omega:ib i40 ports) (ai (by omega:ib i40 ports) (ai (by exact (hpre0 _).1:0≤(ports.getD i40.toNat default).Len) (ai (Imps.refl (Qh (⟨(ports.getD i40.toNat default).Addr,(ports.getD i40.toNat default).Len⟩:Qa))) (ai (Imp.refl (.v (vI addr))) (ifb (F15 ⟨(ports.getD i40.toNat default).Addr,(ports.getD i40.toNat default).Len⟩ addr) (fun h3=>fiI i40 (F10 ports addr) (finR (Qr hI0 (condT h2 (condT h3 rfl))) rfl)) (fun h3=>ai (iok (i40+1) (by omega)) (bk10_0 ports addr i0 m0 (i40+1) hl0 (Qe hI0 (condT h2 (condF h3 rfl))) (by refine ⟨?_,?_⟩ <;> omega))))))))) (fun h2 _=>have hD0_4:Ubh ports addr=Lp.done i40:=Ql hI0 (condF h2 rfl); fiI (-1) (F10 ports addr) (finD hD0_4 rfl))) (i0.1-1) i0.2 (un10_0 ports addr i0 hi0))) (by kernel_rfl)
theorem as10 (ports:List Qc) (addr:Int):F10 ports addr=(idxI (fun (q:Qc)=>F15 (⟨q.Addr,q.Len⟩:Qa) addr) ports):=by
 exact Wn (fun q=>F15 (⟨q.Addr,q.Len⟩:Qa) addr) ports (Ng ports addr) (fun i=>rfl)
theorem oa10 (ports:List Qc) (addr:Int):(S10 (idxI (fun (q:Qc)=>F15 (⟨q.Addr,q.Len⟩:Qa) addr) ports) ports addr).ok Tryz.prog 10:=by
 intro hp; have h:=ok10 ports addr hp; rw [as10 ports addr] at h; exact h
theorem g10_0 (ports:List Qc) (addr:Int):(idxI (fun (q:Qc)=>F15 (⟨q.Addr,q.Len⟩:Qa) addr) ports)<(ports.length:Int):=by
 exact Bv _ ports
theorem kc9l (lines:List ByteArray) {K_:Prop} (p0_:lines.length≤1048576) (p1_:∀ k:Nat,(lines.getD k default).size≤1048576) (k_:((F9 lines).length≤16)→(∀ k:Nat,0≤((F9 lines).getD k default).Len∧((F9 lines).getD k default).Len≤16)→K_):(lines.length≤1048576∧(∀ k:Nat,(lines.getD k default).size≤1048576))∧(Imp (.l 1 eStr lines) (.l 1 eStr lines))∧K_:=⟨⟨p0_,p1_⟩,Imp.refl _,k_ (Qnf lines) (Qyu lines)⟩
abbrev kh9l (lines:List ByteArray):Hint true Tryz.prog:=.call 9 (S9 lines) (ok9 lines) none
theorem kc10a (ports:List Qc) (addr:Int) {K_:Prop} (p0_:∀ k:Nat,0≤(ports.getD k default).Len∧(ports.getD k default).Len≤16) (k_:((idxI (fun (q:Qc)=>F15 (⟨q.Addr,q.Len⟩:Qa) addr) ports)<(ports.length:Int))→K_):(∀ k:Nat,0≤(ports.getD k default).Len∧(ports.getD k default).Len≤16)∧(Imp (.l 4 Qs ports) (.l 4 Qs ports))∧(Imp (.v (vI addr)) (.v (vI addr)))∧K_:=⟨p0_,Imp.refl _,Imp.refl _,k_ (g10_0 ports addr)⟩
abbrev kh10a (ports:List Qc) (addr:Int):Hint true Tryz.prog:=.call 10 (S10 (idxI (fun (q:Qc)=>F15 (⟨q.Addr,q.Len⟩:Qa) addr) ports) ports addr) (oa10 ports addr) none
def F5 (lines:List ByteArray) (addr:Int):Int :=
 bif (decide ((idxI (fun (q:Qc)=>F15 (⟨q.Addr,q.Len⟩:Qa) addr) (F9 lines))<0)) then (-1) else ((F9 lines).getD (idxI (fun (q:Qc)=>F15 (⟨q.Addr,q.Len⟩:Qa) addr) (F9 lines)).toNat default).Port
def S5 (lines:List ByteArray) (addr:Int):Spec:=⟨[.r (.c (.l 1 eStr lines)),.r (.c (.v (vI addr)))],.v (vI (F5 lines addr)),lines.length≤1048576∧(∀ k:Nat,(lines.getD k default).size≤1048576)⟩
theorem ok5 (lines:List ByteArray) (addr:Int):(S5 lines addr).ok Tryz.prog 5 :=
 Qi mixed (fn:=Tryz.f5) (ct:=.seqk [(0,0)] .no (.seq (.reg [(1,kh9l lines)]) (.seq (.reg [(2,kh10a (F9 lines) addr)]) (.seq (.seq .no (.cond (.seq .no .no) .no)) (.seq .no .no))))) Tryz.func5 (fun (hp:lines.length≤1048576∧(∀ k:Nat,(lines.getD k default).size≤1048576))=>have hpre0:=hp.1; have hpre1:=hp.2; kn lines fun _=>kc9l lines (by omega) (by first | assumption | exact hpre1 _ | exact fun k _=>hpre1 k | (intros; exact trivial) | (intros; exact Nat.zero_le _)) (fun gv1 gv2=>kc10a (F9 lines) addr (by first | assumption | exact hpre1 _ | exact fun k _=>hpre1 k | exact gv2 | (intros; exact trivial) | (intros; exact Nat.zero_le _)) (fun gv3=>ifd ((idxI (fun (q:Qc)=>F15 (⟨q.Addr,q.Len⟩:Qa) addr) (F9 lines))<0) (fun h4 _=>fiI (-1) (F5 lines addr) (condT h4 rfl)) (fun h4 _=>ai (by omega:0≤(idxI (fun (q:Qc)=>F15 (⟨q.Addr,q.Len⟩:Qa) addr) (F9 lines))∧(idxI (fun (q:Qc)=>F15 (⟨q.Addr,q.Len⟩:Qa) addr) (F9 lines))<((F9 lines).length:Int)) (fiI ((F9 lines).getD (idxI (fun (q:Qc)=>F15 (⟨q.Addr,q.Len⟩:Qa) addr) (F9 lines)).toNat default).Port (F5 lines addr) (condF h4 rfl)))))) (by kernel_rfl)
theorem Quu (a L x:Int) (ha:0≤a∧a≤65535) (hL:0≤L∧L≤16):F15 (⟨a,L⟩:Qa) x=F16 (⟨a,L⟩:Qa) x:=by
 rw [Qaj a L x ha hL]
 unfold F15
 have h9:=Qjd L hL.1 hL.2
 show (bif decide (x≥a) then decide (x<IntKind.i64.wrap (a+F61 L)) else false)=_
 rw [Yx (by omega) (by omega)]
 by_cases h1:x≥a
 ·rw [decide_eq_true h1,cond_true]
  by_cases h2:x<a+F61 L
  ·rw [decide_eq_true h2,decide_eq_true (by omega)]
  ·rw [decide_eq_false h2,decide_eq_false (by omega)]
 ·rw [decide_eq_false h1,cond_false,decide_eq_false (by omega)]
theorem Qse (ports:List Qc) (addr:Int):F11 ports addr=bif decide (idxI (fun q=>F16 (⟨q.Addr,q.Len⟩:Qa) addr) ports<0) then -1 else (ports.getD (idxI (fun q=>F16 (⟨q.Addr,q.Len⟩:Qa) addr) ports).toNat default).Port:=by
 unfold F11
 rw [Qvj (fun k=>F16 (⟨(ports.getD k default).Addr,(ports.getD k default).Len⟩:Qa) addr) (fun k=>(ports.getD k default).Port) ports.length (Xh ports addr) (fun k hk=>by simp only [Xh,ltD hk,nn]; rfl) (by simp only [Xh,geD]; rfl)]
 unfold idxI
 all_goals (cases first (fun k=>F16 (⟨(ports.getD k default).Addr,(ports.getD k default).Len⟩:Qa) addr) ports.length <;> rfl)
theorem Qjo (lines:List ByteArray) (addr:Int):F7 lines addr=F5 lines addr:=by
 unfold F7 F5
 rw [Qse,← Vt]
 have e:idxI (fun q:Qc=>F15 (⟨q.Addr,q.Len⟩:Qa) addr) (F12 lines)=idxI (fun q:Qc=>F16 (⟨q.Addr,q.Len⟩:Qa) addr) (F12 lines):=by
  unfold idxI
  congr 1
  refine Qjf fun k hk=>?_
  have hm:=Zl _ hk
  rw [Wm] at hm
  obtain ⟨w,_,e⟩:=List.mem_map.1 hm
  rw [Wm,← e]
  have hb:=Zc (w.getD 2 default)
  exact Quu _ _ _ ⟨hb.2.2.1,hb.2.2.2⟩ ⟨hb.1,hb.2.1⟩
 rw [e]
end Go.Proofs.YtbaholefcgacpaeGreatDoor
