/- A part of the proof of FnExactTernPorts. Texts put together: VCKC, VCKD, PCE0, PCE1, PCE2, PCHA, VCH, PCH, VSZ, PSZ, VTA, PTA, VTB, PTB, VTC, PTC, VMKT, PMKT. -/
import Derived.Test.YtbaholefcgacpadGreatDoorRows
import Derived.Test.YtbaholefcgacpadGreatDoorZC46D
namespace Go.Proofs.YtbaholefcgacpadGreatDoor
open Go.RowKit
set_option maxRecDepth 100000
set_option linter.unusedVariables false
set_option linter.unusedSimpArgs false
def T86 (R:List Qb) (lines:List ByteArray):Spec:=⟨(S86 R lines).args,(S86 R lines).res,F20 lines=0∧lines.length≤16∧(∀ k:Nat,(lines.getD k default).size≤1048576)⟩
theorem oa86 (lines:List ByteArray):(T86 (Qo lines) lines).ok Tryz.prog 86 false:=by
 intro hp; have h:=ok86 lines hp; rw [as86 lines] at h; exact h
def T21 (R:List l52Cut) (lines:List ByteArray):Spec:=⟨(S21 R lines).args,(S21 R lines).res,lines.length≤16∧(∀ k:Nat,(lines.getD k default).size≤1048576)⟩
theorem oa21 (lines:List ByteArray):(T21 (lines.map (fun l=>(⟨(F37 l).1⟩:l52Cut))) lines).ok Tryz.prog 21:=by
 intro hp; have h:=ok21 lines hp; rw [as21 lines] at h; exact h
def F109 (p:Qb):Int :=
 (IntKind.i64.wrap ((IntKind.i64.wrap (p.Addr+(F71 p)))-1))
def S109 (p:Qb):Spec:=⟨[.r (.g (Ql p))],.v (vI (F109 p)),0≤p.Len∧p.Len≤16⟩
theorem ok109 (p:Qb):(S109 p).ok Tryz.prog 109 :=
 Qi mixed (fn:=Tryz.f109) (ct:=.seq .no (.seq (.reg [(3,kh71 p)]) .no)) Tryz.func109 (fun (hp:0≤p.Len∧p.Len≤16)=>have hpre0:=hp.1; have hpre1:=hp.2; kc71 p (by omega) (by omega) (by omega) (by omega) (fun gv1 gv2=>fiI (IntKind.i64.wrap ((IntKind.i64.wrap (p.Addr+(F71 p)))-1)) (F109 p) rfl)) (by kernel_rfl)
theorem kc109 (p:Qb) {K_:Prop} (p0_:0≤p.Len) (p1_:p.Len≤16) (k_:K_):(0≤p.Len∧p.Len≤16)∧(Imps (Ql p) (Ql p))∧K_:=⟨⟨p0_,p1_⟩,Imps.refl _,k_⟩
abbrev kh109 (p:Qb):Hint true Tryz.prog:=.call 109 (S109 p) (ok109 p) none
def F91 (p:Qb) (addr:Int):Bool :=
 (decide (p.Addr≤addr∧addr≤(F109 p)))
def S91 (p:Qb) (addr:Int):Spec:=⟨[.r (.g (Ql p)),.r (.c (.v (vI addr)))],.v (.bool (F91 p addr)),0≤p.Len∧p.Len≤16⟩
theorem ok91 (p:Qb) (addr:Int):(S91 p addr).ok Tryz.prog 91 :=
 Qi mixed (fn:=Tryz.f91) (ct:=.seq .no (.seq (.reg [(4,kh109 p),(5,Qoy addr p.Addr (F109 p))]) .no)) Tryz.func91 (fun (hp:0≤p.Len∧p.Len≤16)=>have hpre0:=hp.1; have hpre1:=hp.2; kc109 p (by omega) (by omega) (Qio addr p.Addr (F109 p) (fiB (decide (p.Addr≤addr∧addr≤(F109 p))) (F91 p addr) rfl))) (by kernel_rfl)
theorem kc91 (p:Qb) (addr:Int) {K_:Prop} (p0_:0≤p.Len) (p1_:p.Len≤16) (k_:K_):(0≤p.Len∧p.Len≤16)∧(Imps (Ql p) (Ql p))∧(Imp (.v (vI addr)) (.v (vI addr)))∧K_:=⟨⟨p0_,p1_⟩,Imps.refl _,Imp.refl _,k_⟩
theorem kg91 {K_:Prop} (c_ b_:Bool) (p:Qb) (addr:Int) (p_:c_=b_→0≤p.Len∧p.Len≤16) (k_:K_):(c_=b_→0≤p.Len∧p.Len≤16)∧(c_=b_→Imps (Ql p) (Ql p))∧(c_=b_→Imp (.v (vI addr)) (.v (vI addr)))∧K_:=⟨p_,fun _=>Imps.refl _,fun _=>Imp.refl _,k_⟩
abbrev kh91 (p:Qb) (addr:Int):Hint true Tryz.prog:=.call 91 (S91 p addr) (ok91 p addr) none
def F87 (p:Qb) (q:Qb):Bool :=
 (bif decide (q.Len≤p.Len) then (F91 q p.Addr) else false)
def S87 (p:Qb) (q:Qb):Spec:=⟨[.r (.g (Ql p)),.r (.g (Ql q))],.v (.bool (F87 p q)),0≤q.Len∧q.Len≤16⟩
theorem ok87 (p:Qb) (q:Qb):(S87 p q).ok Tryz.prog 87 :=
 Qi mixed (fn:=Tryz.f87) (ct:=.seq .no (.seq (.reg [(9,kh91 q p.Addr)]) .no)) Tryz.func87 (fun (hp:0≤q.Len∧q.Len≤16)=>have hpre0:=hp.1; have hpre1:=hp.2; kg91 (decide (q.Len≤p.Len)) true q p.Addr (fun k1=>have _:=of_decide_eq_true k1; ⟨(by omega),(by omega)⟩) (fiB (bif decide (q.Len≤p.Len) then (F91 q p.Addr) else false) (F87 p q) rfl)) (by kernel_rfl)
theorem kc86a (lines:List ByteArray) {K_:Prop} (p0_:F20 lines=0) (p1_:lines.length≤16) (p2_:∀ k:Nat,(lines.getD k default).size≤1048576) (k_:K_):(F20 lines=0∧lines.length≤16∧(∀ k:Nat,(lines.getD k default).size≤1048576))∧(Imp (.l 1 eStr lines) (.l 1 eStr lines))∧K_:=⟨⟨p0_,p1_,p2_⟩,Imp.refl _,k_⟩
abbrev kh86a (lines:List ByteArray):Hint false Tryz.prog:=.call 86 (T86 (Qo lines) lines) (oa86 lines) none
def Be (lines:List ByteArray) (v12:Int):Int→Lp Int Bool:=fun v21 =>
 bif (decide (v21<(((Qo lines).take (Int.toNat v12)).length:Int))) then (bif (bif (F87 ⟨((Qo lines).getD (Int.toNat v12) default).Addr,((Qo lines).getD (Int.toNat v12) default).Len⟩ ⟨(((Qo lines).take (Int.toNat v12)).getD (Int.toNat v21) default).Addr,(((Qo lines).take (Int.toNat v12)).getD (Int.toNat v21) default).Len⟩) then true else (F87 ⟨(((Qo lines).take (Int.toNat v12)).getD (Int.toNat v21) default).Addr,(((Qo lines).take (Int.toNat v12)).getD (Int.toNat v21) default).Len⟩ ⟨((Qo lines).getD (Int.toNat v12) default).Addr,((Qo lines).getD (Int.toNat v12) default).Len⟩)) then (.ret true) else (.next (v21+1))) else (.done v21)
def Xh (lines:List ByteArray):Int→Lp Int Bool:=fun v12 =>
 bif (decide (v12<((Qo lines).length:Int))) then ((runL (Be lines v12) ((Int.toNat ((((Qo lines).take (Int.toNat v12)).length:Int)-0))+1) 0).fin Lp.ret (fun v21=>.next (v12+1))) else (.done v12)
def F65 (lines:List ByteArray):Bool :=
 (runL (Xh lines) ((Int.toNat (((Qo lines).length:Int)-0))+1) 0).fin (fun r=>r) (fun v12=>false)
abbrev Tr (lines:List ByteArray) (v12:Int):Nat×Int:=(((Int.toNat ((((Qo lines).take (Int.toNat v12)).length:Int)-0))+1),0)
abbrev Qlk (lines:List ByteArray) (v12:Int) (m39:Nat) (v21:Int):Prop:=Int.toNat ((((Qo lines).take (Int.toNat v12)).length:Int)-v21)<m39∧(0:Int)≤v21
abbrev Uan (lines:List ByteArray) (v12:Int):Lp Int Bool:=LpX (Be lines v12) (Tr lines v12)
abbrev Tj (lines:List ByteArray) (v12:Int) (i:Nat×Int):Prop:=LpJ (Be lines v12) (Tr lines v12) i (Qlk lines v12 i.1 i.2)
abbrev Qzv (lines:List ByteArray) (v12:Int) (i:Nat×Int) (m39:Nat) (v21:Int):Prop:=LpH (Be lines v12) (Tr lines v12) i m39 v21 (Qlk lines v12 (m39+1) v21)
abbrev Qva (lines:List ByteArray) (v12:Int) (v21:Int) (v21_:Int) (K39:Prop):Prop:=(Rf (.int .i64 ((Qo lines).length:Int)))∧(Rf (.int .i64 v12))∧(Rf (.int .i64 (((Qo lines).take (Int.toNat v12)).length:Int)))∧((.int .i64 v21:Value)=.int .i64 v21_)∧(Im (.l 2 Ql (Qo lines)))∧(Rf (.int .i64 ((Qo lines).getD (Int.toNat v12) default).Addr))∧(Rf (.int .i64 ((Qo lines).getD (Int.toNat v12) default).Len))∧(Im (.l 2 Ql ((Qo lines).take (Int.toNat v12))))∧K39
theorem un65_1 (lines:List ByteArray) (v12:Int) (i:Nat×Int) (h:Tj lines v12 i):Qzv lines v12 i (i.1-1) i.2:=⟨hd1 h.1 h.2.1,hd3 h.2.1,hd2 h.2.1,h.2.2⟩
theorem bk65_1 (lines:List ByteArray) (v12:Int) (i:Nat×Int) (m39:Nat) (v21:Int) (hl:m39<i.1) (e:runL (Be lines v12) m39 v21=Uan lines v12) (h:Qlk lines v12 m39 v21):∃ j:Nat×Int,Qva lines v12 v21 j.2 (Tj lines v12 j∧j.1<i.1):=⟨(m39,v21),rfl,rfl,rfl,rfl,Imp.refl _,rfl,rfl,Imp.refl _,⟨e,h⟩,hl⟩
theorem en65_1 (lines:List ByteArray) (v12:Int) (h:(0:Int)≤0):Qva lines v12 0 0 (Tj lines v12 (Tr lines v12)):=⟨rfl,rfl,rfl,rfl,Imp.refl _,rfl,rfl,Imp.refl _,rfl,Nat.lt_succ_self _,h⟩
abbrev Tp (lines:List ByteArray):Nat×Int:=(((Int.toNat (((Qo lines).length:Int)-0))+1),0)
abbrev Qnp (lines:List ByteArray) (m39:Nat) (v12:Int):Prop:=Int.toNat (((Qo lines).length:Int)-v12)<m39∧(0:Int)≤v12
abbrev Qwn (lines:List ByteArray):Lp Int Bool:=LpX (Xh lines) (Tp lines)
abbrev Qcb (lines:List ByteArray) (i:Nat×Int):Prop:=LpJ (Xh lines) (Tp lines) i (Qnp lines i.1 i.2)
abbrev Quc (lines:List ByteArray) (i:Nat×Int) (m39:Nat) (v12:Int):Prop:=LpH (Xh lines) (Tp lines) i m39 v12 (Qnp lines (m39+1) v12)
abbrev Ubc (lines:List ByteArray) (v12:Int) (v12_:Int) (K39:Prop):Prop:=(Rf (.int .i64 ((Qo lines).length:Int)))∧((.int .i64 v12:Value)=.int .i64 v12_)∧(Im (.l 2 Ql (Qo lines)))∧K39
theorem un65_0 (lines:List ByteArray) (i:Nat×Int) (h:Qcb lines i):Quc lines i (i.1-1) i.2:=⟨hd1 h.1 h.2.1,hd3 h.2.1,hd2 h.2.1,h.2.2⟩
theorem bk65_0 (lines:List ByteArray) (i:Nat×Int) (m39:Nat) (v12:Int) (hl:m39<i.1) (e:runL (Xh lines) m39 v12=Qwn lines) (h:Qnp lines m39 v12):∃ j:Nat×Int,Ubc lines v12 j.2 (Qcb lines j∧j.1<i.1):=⟨(m39,v12),rfl,rfl,Imp.refl _,⟨e,h⟩,hl⟩
theorem en65_0 (lines:List ByteArray) (h:(0:Int)≤0):Ubc lines 0 0 (Qcb lines (Tp lines)):=⟨rfl,rfl,Imp.refl _,rfl,Nat.lt_succ_self _,h⟩
def S65 (lines:List ByteArray):Spec:=⟨[.r (.c (.l 1 eStr lines))],.v (.bool (F65 lines)),F20 lines=0∧lines.length≤16∧(∀ k:Nat,(lines.getD k default).size≤1048576)⟩
abbrev Vz (lines:List ByteArray) (v12:Int) (v21:Int):=(⟨(((Qo lines).take (Int.toNat v12)).getD (Int.toNat v21) default).Addr,(((Qo lines).take (Int.toNat v12)).getD (Int.toNat v21) default).Len⟩:Qb)
abbrev Xz (lines:List ByteArray) (v12:Int):=(⟨((Qo lines).getD (Int.toNat v12) default).Addr,((Qo lines).getD (Int.toNat v12) default).Len⟩:Qb)
theorem ok65 (lines:List ByteArray):(S65 lines).ok Tryz.prog 65 false :=
 Qi mixed (fn:=Tryz.f65) (ct:=.seqk [(0,0)] .no (.seq (.reg [(1,kh86a lines)]) (.seq (.seqk [(3,0),(10,0)] .no (.blk (.loop (ι:=Nat×Int) (fun i=>(fun (v12:Int)=>(⟨[(3,some (.h 0 0)),(10,some (.h 0 0)),(11,some (.v (vI ((Qo lines).length:Int)))),(12,some (.v (vI v12)))],[(0,some (.own 0 (.l 2 Ql (Qo lines))))],1⟩:St)) i.2) (Qcb lines) (fun i=>i.1) (Tp lines) (fun i=>(fun (v12:Int)=>(.seq .no (.seq (.cond .no .no) (.seq (.blk (.seq .no (.seqk [(19,0)] .no (.blk (.loop (ι:=Nat×Int) (fun i=>(fun (v21:Int)=>(⟨[(3,some (.h 0 0)),(5,some (.p 1 0)),(10,some (.h 0 0)),(11,some (.v (vI ((Qo lines).length:Int)))),(12,some (.v (vI v12))),(19,some (.h 2 0)),(20,some (.v (vI (((Qo lines).take (Int.toNat v12)).length:Int)))),(21,some (.v (vI v21)))],[(0,some (.own 0 (.l 2 Ql (Qo lines)))),(1,some (.box 35 [.v (vI ((Qo lines).getD (Int.toNat v12) default).Addr),.v (vI ((Qo lines).getD (Int.toNat v12) default).Len)])),(2,some (.shr (some (0,0)) (.l 2 Ql ((Qo lines).take (Int.toNat v12)))))],3⟩:St)) i.2) (Tj lines v12) (fun i=>i.1) (Tr lines v12) (fun i=>(fun (v21:Int)=>(.seq .no (.seq (.cond .no .no) (.seq (.blk (.seq .no (.seq (.reg [(2,.call 87 (S87 (Xz lines v12) (Vz lines v12 v21)) ((ok87 (Xz lines v12) (Vz lines v12 v21)).to false) none),(6,.call 87 (S87 (Vz lines v12 v21) (Xz lines v12)) ((ok87 (Vz lines v12 v21) (Xz lines v12)).to false) none)]) (.cond (.seq .no .no) .no)))) (.reg [(0,.bnd)]))))) i.2)))))) (.reg [(0,.bnd)]))))) i.2)))) (.seq .no .no)))) Tryz.func65 (fun (hp:F20 lines=0∧lines.length≤16∧(∀ k:Nat,(lines.getD k default).size≤1048576))=>have hpre0:=hp.1; have hpre1:=hp.2.1; have hpre2:=hp.2.2; kn lines fun _=>kc86a lines (by omega) (by omega) (by assumption) (kn (Qo lines) fun _=>kn (Qo lines) fun _=>ai (en65_0 lines (by omega)) (fun (i0:Nat×Int) (hi0:Qcb lines i0)=>(fun (m0:Nat) (v12:Int) (hh0:Quc lines i0 m0 v12)=>have hI0:=hh0.1; have hl0:=hh0.2.1; have _:=hh0.2.2.1; have _:=hh0.2.2.2; ifd (v12<((Qo lines).length:Int)) (fun h2 _=>ai (by omega:ib v12 (Qo lines)) (ai (by omega:0≤(0:Int)∧(0:Int)≤v12∧v12≤((Qo lines).length:Int)) (kn ((Qo lines).take (Int.toNat v12)) fun _=>ai (en65_1 lines v12 (by omega)) (fun (i1:Nat×Int) (hi1:Tj lines v12 i1)=>(fun (m1:Nat) (v21:Int) (hh1:Qzv lines v12 i1 m1 v21)=>have hI1:=hh1.1; have hl1:=hh1.2.1; have _:=hh1.2.2.1; have _:=hh1.2.2.2; ifd (v21<(((Qo lines).take (Int.toNat v12)).length:Int)) (fun h4 _=>ai (by omega:ib v21 ((Qo lines).take (Int.toNat v12))) (ai (ai (by exact (Qbh lines _ _).1:0≤(((Qo lines).take (Int.toNat v12)).getD (Int.toNat v21) default).Len) (by exact (Qbh lines _ _).2:(((Qo lines).take (Int.toNat v12)).getD (Int.toNat v21) default).Len≤16)) (ai (Imps.refl (Ql (Xz lines v12))) (ai (Imps.refl (Ql (Vz lines v12 v21))) (ai (fun k5:(F87 (Xz lines v12) (Vz lines v12 v21))=false=>(ai (by exact (Pg lines _).1:0≤((Qo lines).getD (Int.toNat v12) default).Len) (by exact (Pg lines _).2:((Qo lines).getD (Int.toNat v12) default).Len≤16))) (ai (fun k6:(F87 (Xz lines v12) (Vz lines v12 v21))=false=>(Imps.refl (Ql (Vz lines v12 v21)))) (ai (fun k7:(F87 (Xz lines v12) (Vz lines v12 v21))=false=>(Imps.refl (Ql (Xz lines v12)))) (ifb (bif (F87 (Xz lines v12) (Vz lines v12 v21)) then true else (F87 (Vz lines v12 v21) (Xz lines v12))) (fun h8=>fiB true (F65 lines) (finR (Qt hI0 (condT h2 (finR (Qt hI1 (condT h4 (condT h8 rfl))) rfl))) rfl)) (fun h8=>ai (iok (v21+1) (by omega)) (bk65_1 lines v12 i1 m1 (v21+1) hl1 (Qe hI1 (condT h4 (condF h8 rfl))) (by refine ⟨?_,?_⟩ <;> omega))))))))))) (fun h4 _=>have hD1_9:Uan lines v12=Lp.done v21:=Qj hI1 (condF h4 rfl); ai (iok (v12+1) (by omega)) (bk65_0 lines i0 m0 (v12+1) hl0 (Qe hI0 (condT h2 (finD hD1_9 rfl))) (by refine ⟨?_,?_⟩ <;> omega)))) (i1.1-1) i1.2 (un65_1 lines v12 i1 hi1))))) (fun h2 _=>have hD0_10:Qwn lines=Lp.done v12:=Qj hI0 (condF h2 rfl); fiB false (F65 lines) (finD hD0_10 rfl))) (i0.1-1) i0.2 (un65_0 lines i0 hi0)))) (by kernel_rfl)
def F90 (p:Qb) (p1:Int):Bool :=
 (bif (F91 p p1) then (p.Addr != p1) else false)
def S90 (p:Qb) (p1:Int):Spec:=⟨[.r (.g (Ql p)),.rp ([.v (vI p1)])],.v (.bool (F90 p p1)),0≤p.Len∧p.Len≤16⟩
theorem ok90 (p:Qb) (p1:Int):(S90 p p1).ok Tryz.prog 90 :=
 Qi mixed (fn:=Tryz.f90) (ct:=.seq .no (.seq (.reg [(2,kh91 p p1)]) .no)) Tryz.func90 (fun (hp:0≤p.Len∧p.Len≤16)=>have hpre0:=hp.1; have hpre1:=hp.2; kc91 p p1 (by omega) (by omega) (fiB (bif (F91 p p1) then (p.Addr != p1) else false) (F90 p p1) rfl)) (by kernel_rfl)
def Xp (Q:Qb→Prop) (p:Qb→Bool):Ye:=⟨Qb,fun i=>[.g (pxH (Ql i) (Q i))],fun i=>.bool (p i)⟩
def Gt (s:List Qb) (f:Qb→Bool):Int→Lp Int Int:=fun v8 =>
 bif (decide (v8<(s.length:Int))) then (bif (f (⟨(s.getD (Int.toNat v8) default).Addr,(s.getD (Int.toNat v8) default).Len⟩:Qb)) then (.ret v8) else (.next (v8+1))) else (.done v8)
def F108 (s:List Qb) (f:Qb→Bool):Int :=
 (runL (Gt s f) ((Int.toNat ((s.length:Int)-0))+1) 0).fin (fun r=>r) (fun v8=>(-1))
abbrev Lj (s:List Qb):Nat×Int:=(((Int.toNat ((s.length:Int)-0))+1),0)
abbrev Qha (s:List Qb) (m39:Nat) (v8:Int):Prop:=Int.toNat ((s.length:Int)-v8)<m39∧(0:Int)≤v8
abbrev Qqz (s:List Qb) (f:Qb→Bool):Lp Int Int:=LpX (Gt s f) (Lj s)
abbrev My (s:List Qb) (f:Qb→Bool) (i:Nat×Int):Prop:=LpJ (Gt s f) (Lj s) i (Qha s i.1 i.2)
abbrev Qoz (s:List Qb) (f:Qb→Bool) (i:Nat×Int) (m39:Nat) (v8:Int):Prop:=LpH (Gt s f) (Lj s) i m39 v8 (Qha s (m39+1) v8)
abbrev Qrp (Qf:Qb→Prop) (s:List Qb) (f:Qb→Bool) (v8:Int) (v8_:Int) (K39:Prop):Prop:=(Rf (.int .i64 (s.length:Int)))∧((.int .i64 v8:Value)=.int .i64 v8_)∧(Im (.l 2 Ql s))∧(Xp Qf f=Xp Qf f)∧K39
theorem Ufz (s:List Qb) (f:Qb→Bool) (i:Nat×Int) (h:My s f i):Qoz s f i (i.1-1) i.2:=⟨hd1 h.1 h.2.1,hd3 h.2.1,hd2 h.2.1,h.2.2⟩
theorem Udw (Qf:Qb→Prop) (s:List Qb) (f:Qb→Bool) (i:Nat×Int) (m39:Nat) (v8:Int) (hl:m39<i.1) (e:runL (Gt s f) m39 v8=Qqz s f) (h:Qha s m39 v8):∃ j:Nat×Int,Qrp Qf s f v8 j.2 (My s f j∧j.1<i.1):=⟨(m39,v8),rfl,rfl,Imp.refl _,rfl,⟨e,h⟩,hl⟩
theorem Uey (Qf:Qb→Prop) (s:List Qb) (f:Qb→Bool) (h:(0:Int)≤0):Qrp Qf s f 0 0 (My s f (Lj s)):=⟨rfl,rfl,Imp.refl _,rfl,rfl,Nat.lt_succ_self _,h⟩
def S108 (R:Int) (s:List Qb) (f:Qb→Bool) (Qf:Qb→Prop):Spec:=⟨[.r (.c (.l 2 Ql s)),.fn (Xp Qf f)],.v (vI R),(∀ k:Nat,k<s.length→Qf (s.getD k default))⟩
theorem ok108 (s:List Qb) (f:Qb→Bool) (Qf:Qb→Prop):(S108 (F108 s f) s f Qf).ok Tryz.prog 108 false :=
 Qi mixed (fn:=Tryz.f108) (ct:=.seqk [(0,0)] .no (.seq (.seqk [(0,0)] .no (.blk (.loop (ι:=Nat×Int) (fun i=>(fun (v8:Int)=>(⟨[(0,some (.h 0 0)),(1,some (.h 1 0)),(7,some (.v (vI (s.length:Int)))),(8,some (.v (vI v8)))],[(0,some (.shr none (.l 2 Ql s))),(1,some (.fn (Xp Qf f)))],2⟩:St)) i.2) (My s f) (fun i=>i.1) (Lj s) (fun i=>(fun (v8:Int)=>(.seq .no (.seq (.cond .no .no) (.seq (.blk (.seq .no (.seq (.reg [(5,.fnv (Xp Qf f) (⟨(s.getD (Int.toNat v8) default).Addr,(s.getD (Int.toNat v8) default).Len⟩:Qb))]) (.cond (.seq .no .no) .no)))) (.reg [(0,.bnd)]))))) i.2)))) (.seq .no .no))) Tryz.func108 (fun (hpre0:∀ k:Nat,k<s.length→Qf (s.getD k default))=>kn s fun _=>kn s fun _=>ai (Uey Qf s f (by omega)) (fun (i0:Nat×Int) (hi0:My s f i0)=>(fun (m0:Nat) (v8:Int) (hh0:Qoz s f i0 m0 v8)=>have hI0:=hh0.1; have hl0:=hh0.2.1; have _:=hh0.2.2.1; have _:=hh0.2.2.2; ifd (v8<(s.length:Int)) (fun h2 _=>ai (by omega:ib v8 s) (ai (Eq.refl (Xp Qf f)) (ai (Imps.pxH (ds:=Ql (⟨(s.getD (Int.toNat v8) default).Addr,(s.getD (Int.toNat v8) default).Len⟩:Qb)) (hpre0 (Int.toNat v8) (by omega))) (ifb (f (⟨(s.getD (Int.toNat v8) default).Addr,(s.getD (Int.toNat v8) default).Len⟩:Qb)) (fun h3=>fiI v8 (F108 s f) (finR (Qt hI0 (condT h2 (condT h3 rfl))) rfl)) (fun h3=>ai (iok (v8+1) (by omega)) (Udw Qf s f i0 m0 (v8+1) hl0 (Qe hI0 (condT h2 (condF h3 rfl))) (by refine ⟨?_,?_⟩ <;> omega))))))) (fun h2 _=>have hD0_4:Qqz s f=Lp.done v8:=Qj hI0 (condF h2 rfl); fiI (-1) (F108 s f) (finD hD0_4 rfl))) (i0.1-1) i0.2 (Ufz s f i0 hi0))) (by kernel_rfl)
theorem as108 (s:List Qb) (f:Qb→Bool):F108 s f=(idxI f s):=by
 exact Vd f s (Gt s f) (fun i=>rfl)
theorem oa108 (s:List Qb) (f:Qb→Bool) (Qf:Qb→Prop):(S108 (idxI f s) s f Qf).ok Tryz.prog 108 false:=by
 intro hp; have h:=ok108 s f Qf hp; rw [as108 s f] at h; exact h
theorem g108_0 (s:List Qb) (f:Qb→Bool):(idxI f s)<(s.length:Int):=by
 exact Ly f s
theorem g108_1 (s:List Qb) (f:Qb→Bool):-1≤(idxI f s):=by
 (show -1≤idxI f s; unfold idxI; cases first (fun k=>f (s.getD k default)) s.length <;> simp only [oix] <;> omega)
theorem kc108a (s:List Qb) (f:Qb→Bool) (Qf:Qb→Prop) {K_:Prop} (p0_:∀ k:Nat,k<s.length→Qf (s.getD k default)) (k_:((idxI f s)<(s.length:Int))→(-1≤(idxI f s))→K_):(∀ k:Nat,k<s.length→Qf (s.getD k default))∧(Imp (.l 2 Ql s) (.l 2 Ql s))∧(Xp Qf f=Xp Qf f)∧K_:=⟨p0_,Imp.refl _,rfl,k_ (g108_0 s f) (g108_1 s f)⟩
abbrev kh108a (s:List Qb) (f:Qb→Bool) (Qf:Qb→Prop):Hint false Tryz.prog:=.call 108 (S108 (idxI f s) s f Qf) (oa108 s f Qf) none
def F89 (s:List Qb) (f:Qb→Bool):Bool :=
 decide ((idxI f s)≥0)
def S89 (R:Bool) (s:List Qb) (f:Qb→Bool) (Qf:Qb→Prop):Spec:=⟨[.r (.c (.l 2 Ql s)),.fn (Xp Qf f)],.v (.bool R),(∀ k:Nat,k<s.length→Qf (s.getD k default))⟩
theorem ok89 (s:List Qb) (f:Qb→Bool) (Qf:Qb→Prop):(S89 (F89 s f) s f Qf).ok Tryz.prog 89 false :=
 Qi mixed (fn:=Tryz.f89) (ct:=.seqk [(0,0)] .no (.seq (.reg [(2,kh108a s f Qf)]) .no)) Tryz.func89 (fun (hpre0:∀ k:Nat,k<s.length→Qf (s.getD k default))=>kn s fun _=>kc108a s f Qf (by assumption) (fun gv1 gv2=>fiB (decide ((idxI f s)≥0)) (F89 s f) rfl)) (by kernel_rfl)
theorem as89 (s:List Qb) (f:Qb→Bool):F89 s f=(s.any f):=by
 exact Rr f s
theorem oa89 (s:List Qb) (f:Qb→Bool) (Qf:Qb→Prop):(S89 (s.any f) s f Qf).ok Tryz.prog 89 false:=by
 intro hp; have h:=ok89 s f Qf hp; rw [as89 s f] at h; exact h
def F88 (text:ByteArray) (p1:List Qb):Bool :=
 (!(p1.any (fun (x0:Qb)=>F90 x0 (F49 text))))
def S88 (text:ByteArray) (p1:List Qb):Spec:=⟨[.r (.c (.v (.string text))),.rp ([.l 2 Ql p1])],.v (.bool (F88 text p1)),text.size≤1048576∧(∀ k:Nat,0≤(p1.getD k default).Len∧(p1.getD k default).Len≤16)⟩
theorem ok88 (text:ByteArray) (p1:List Qb):(S88 text p1).ok Tryz.prog 88 false :=
 Qi mixed (fn:=Tryz.f88) (ct:=.seq .no (.seq (.reg [(1,kh49 text)]) (.seq (.reg [(2,.call 89 (S89 (p1.any (fun (x0:Qb)=>F90 x0 (F49 text))) p1 (fun (x0:Qb)=>F90 x0 (F49 text)) (fun (x0:Qb)=>0≤x0.Len∧x0.Len≤16)) (oa89 p1 (fun (x0:Qb)=>F90 x0 (F49 text)) (fun (x0:Qb)=>0≤x0.Len∧x0.Len≤16)) (some ⟨true,90,Xp (fun (x0:Qb)=>0≤x0.Len∧x0.Len≤16) (fun (x0:Qb)=>F90 x0 (F49 text)),[.rp ([.v (vI (F49 text))])],rfl,True,fun i=>Qxg (ok90 i (F49 text))⟩))]) .no))) Tryz.func88 (fun (hp:text.size≤1048576∧(∀ k:Nat,0≤(p1.getD k default).Len∧(p1.getD k default).Len≤16))=>have hpre0:=hp.1; have hpre1:=hp.2; kc49 text (by omega) (ai (by exact fun k _=>hpre1 k:∀ k:Nat,k<p1.length→(fun (x0:Qb)=>0≤x0.Len∧x0.Len≤16) (p1.getD k default)) (ai (Imp.refl (.l 2 Ql p1)) (ai (Eq.refl (Xp (fun (x0:Qb)=>0≤x0.Len∧x0.Len≤16) (fun (x0:Qb)=>F90 x0 (F49 text)))) (ai trivial (ai (Imps.refl [.v (vI (F49 text))]) (fiB (!(p1.any (fun (x0:Qb)=>F90 x0 (F49 text)))) (F88 text p1) rfl))))))) (by kernel_rfl)
def Xf (lines:List ByteArray):(List ByteArray×Int)→Lp (List ByteArray×Int) Bool:=fun (addrs1,v13) =>
 bif (decide (v13<((Qa lines (⟨#[114,111,117,116,101]⟩:ByteArray)).length:Int))) then (.next ((addrs1++[(((Qa lines (⟨#[114,111,117,116,101]⟩:ByteArray)).getD (Int.toNat v13) default).getD (Int.toNat 2) default)]),(v13+1))) else (.done (addrs1,v13))
def Nl (lines:List ByteArray):Lp (List ByteArray) Bool :=
 (runL (Xf lines) ((Int.toNat (((Qa lines (⟨#[114,111,117,116,101]⟩:ByteArray)).length:Int)-0))+1) (([]:List ByteArray),0)).fin Lp.ret (fun (addrs1,v13)=>.done addrs1)
def Xa (lines:List ByteArray) (addrs:List ByteArray):(List ByteArray×Int)→Lp (List ByteArray×Int) Bool:=fun (addrs3,v27) =>
 bif (decide (v27<((Qa lines (⟨#[112,101,101,114]⟩:ByteArray)).length:Int))) then (.next ((addrs3++[(((Qa lines (⟨#[112,101,101,114]⟩:ByteArray)).getD (Int.toNat v27) default).getD (Int.toNat 1) default)]),(v27+1))) else (.done (addrs3,v27))
def Ht (lines:List ByteArray) (addrs:List ByteArray):Lp (List ByteArray) Bool :=
 (runL (Xa lines addrs) ((Int.toNat (((Qa lines (⟨#[112,101,101,114]⟩:ByteArray)).length:Int)-0))+1) (addrs,0)).fin Lp.ret (fun (addrs3,v27)=>.done addrs3)
def F66 (lines:List ByteArray):Bool :=
 (Nl lines).fin (fun r=>r) (fun addrs=>(Ht lines addrs).fin (fun r=>r) (fun addrs2=>(addrs2.any (fun (x0:ByteArray)=>F88 x0 (Qo lines)))))
abbrev Tc (lines:List ByteArray):Nat×(List ByteArray×Int):=(((Int.toNat (((Qa lines (⟨#[114,111,117,116,101]⟩:ByteArray)).length:Int)-0))+1),(([]:List ByteArray),0))
abbrev Qmq (lines:List ByteArray) (m39:Nat) (addrs1:List ByteArray) (v13:Int):Prop:=Int.toNat (((Qa lines (⟨#[114,111,117,116,101]⟩:ByteArray)).length:Int)-v13)<m39∧(addrs1.length:Int)≤v13∧v13≤((Qa lines (⟨#[114,111,117,116,101]⟩:ByteArray)).length:Int)∧(∀ k:Nat,(addrs1.getD k default).size≤1048576)∧(0:Int)≤v13
abbrev Uae (lines:List ByteArray):Lp (List ByteArray×Int) Bool:=LpX (Xf lines) (Tc lines)
abbrev Qcn (lines:List ByteArray) (i:Nat×(List ByteArray×Int)):Prop:=LpJ (Xf lines) (Tc lines) i (Qmq lines i.1 i.2.1 i.2.2)
abbrev Qvs (lines:List ByteArray) (i:Nat×(List ByteArray×Int)) (m39:Nat) (addrs1:List ByteArray) (v13:Int):Prop:=LpH (Xf lines) (Tc lines) i m39 (addrs1,v13) (Qmq lines (m39+1) addrs1 v13)
abbrev Qut (lines:List ByteArray) (addrs1:List ByteArray) (v13:Int) (addrs1_:List ByteArray) (v13_:Int) (K39:Prop):Prop:=(Rf (.int .i64 ((Qa lines (⟨#[114,111,117,116,101]⟩:ByteArray)).length:Int)))∧((.int .i64 v13:Value)=.int .i64 v13_)∧(Im (.l 1 eStr lines))∧(Imp (.l 1 eStr addrs1) (.l 1 eStr addrs1_))∧(Im (.l 1 (eL 1 eStr) (Qa lines (⟨#[114,111,117,116,101]⟩:ByteArray))))∧K39
theorem un66_0 (lines:List ByteArray) (i:Nat×(List ByteArray×Int)) (h:Qcn lines i):Qvs lines i (i.1-1) i.2.1 i.2.2:=⟨hd1 h.1 h.2.1,hd3 h.2.1,hd2 h.2.1,h.2.2⟩
theorem bk66_0 (lines:List ByteArray) (i:Nat×(List ByteArray×Int)) (m39:Nat) (addrs1:List ByteArray) (v13:Int) (hl:m39<i.1) (e:runL (Xf lines) m39 (addrs1,v13)=Uae lines) (h:Qmq lines m39 addrs1 v13):∃ j:Nat×(List ByteArray×Int),Qut lines addrs1 v13 j.2.1 j.2.2 (Qcn lines j∧j.1<i.1):=⟨(m39,(addrs1,v13)),rfl,rfl,Imp.refl _,Imp.refl _,Imp.refl _,⟨e,h⟩,hl⟩
theorem en66_0 (lines:List ByteArray) (h:(([]:List ByteArray).length:Int)≤0∧0≤((Qa lines (⟨#[114,111,117,116,101]⟩:ByteArray)).length:Int)∧(∀ k:Nat,(([]:List ByteArray).getD k default).size≤1048576)∧(0:Int)≤0):Qut lines ([]:List ByteArray) 0 ([]:List ByteArray) 0 (Qcn lines (Tc lines)):=⟨rfl,rfl,Imp.refl _,Imp.refl _,Imp.refl _,rfl,Nat.lt_succ_self _,h⟩
abbrev Qni (lines:List ByteArray) (addrs:List ByteArray):Prop:=(addrs.length:Int)≤16∧(∀ k:Nat,(addrs.getD k default).size≤1048576)
abbrev Qne (lines:List ByteArray) (j:List ByteArray):Prop:=(Nl lines)=Lp.done j∧Qni lines j
theorem jn66_0 (lines:List ByteArray) (addrs:List ByteArray) (e:(Nl lines)=Lp.done addrs) (h:Qni lines addrs):∃ j:List ByteArray,(Imp (.l 1 eStr lines) (.l 1 eStr lines))∧(Imp (.l 1 eStr addrs) (.l 1 eStr j))∧Qne lines j:=⟨addrs,Imp.refl _,Imp.refl _,e,h⟩
abbrev Qau (lines:List ByteArray) (addrs:List ByteArray):Nat×(List ByteArray×Int):=(((Int.toNat (((Qa lines (⟨#[112,101,101,114]⟩:ByteArray)).length:Int)-0))+1),(addrs,0))
abbrev Qmy (lines:List ByteArray) (m39:Nat) (addrs3:List ByteArray) (v27:Int):Prop:=Int.toNat (((Qa lines (⟨#[112,101,101,114]⟩:ByteArray)).length:Int)-v27)<m39∧(addrs3.length:Int)≤16+v27∧v27≤((Qa lines (⟨#[112,101,101,114]⟩:ByteArray)).length:Int)∧(∀ k:Nat,(addrs3.getD k default).size≤1048576)∧(0:Int)≤v27
abbrev Qwz (lines:List ByteArray) (addrs:List ByteArray):Lp (List ByteArray×Int) Bool:=LpX (Xa lines addrs) (Qau lines addrs)
abbrev Tb (lines:List ByteArray) (addrs:List ByteArray) (i:Nat×(List ByteArray×Int)):Prop:=LpJ (Xa lines addrs) (Qau lines addrs) i (Qmy lines i.1 i.2.1 i.2.2)
abbrev Uat (lines:List ByteArray) (addrs:List ByteArray) (i:Nat×(List ByteArray×Int)) (m39:Nat) (addrs3:List ByteArray) (v27:Int):Prop:=LpH (Xa lines addrs) (Qau lines addrs) i m39 (addrs3,v27) (Qmy lines (m39+1) addrs3 v27)
abbrev Ubj (lines:List ByteArray) (addrs3:List ByteArray) (v27:Int) (addrs3_:List ByteArray) (v27_:Int) (K39:Prop):Prop:=(Rf (.int .i64 ((Qa lines (⟨#[112,101,101,114]⟩:ByteArray)).length:Int)))∧((.int .i64 v27:Value)=.int .i64 v27_)∧(Im (.l 1 eStr lines))∧(Imp (.l 1 eStr addrs3) (.l 1 eStr addrs3_))∧(Im (.l 1 (eL 1 eStr) (Qa lines (⟨#[112,101,101,114]⟩:ByteArray))))∧K39
theorem un66_1 (lines:List ByteArray) (addrs:List ByteArray) (i:Nat×(List ByteArray×Int)) (h:Tb lines addrs i):Uat lines addrs i (i.1-1) i.2.1 i.2.2:=⟨hd1 h.1 h.2.1,hd3 h.2.1,hd2 h.2.1,h.2.2⟩
theorem bk66_1 (lines:List ByteArray) (addrs:List ByteArray) (i:Nat×(List ByteArray×Int)) (m39:Nat) (addrs3:List ByteArray) (v27:Int) (hl:m39<i.1) (e:runL (Xa lines addrs) m39 (addrs3,v27)=Qwz lines addrs) (h:Qmy lines m39 addrs3 v27):∃ j:Nat×(List ByteArray×Int),Ubj lines addrs3 v27 j.2.1 j.2.2 (Tb lines addrs j∧j.1<i.1):=⟨(m39,(addrs3,v27)),rfl,rfl,Imp.refl _,Imp.refl _,Imp.refl _,⟨e,h⟩,hl⟩
theorem en66_1 (lines:List ByteArray) (addrs:List ByteArray) (h:(addrs.length:Int)≤16+0∧0≤((Qa lines (⟨#[112,101,101,114]⟩:ByteArray)).length:Int)∧(∀ k:Nat,(addrs.getD k default).size≤1048576)∧(0:Int)≤0):Ubj lines addrs 0 addrs 0 (Tb lines addrs (Qau lines addrs)):=⟨rfl,rfl,Imp.refl _,Imp.refl _,Imp.refl _,rfl,Nat.lt_succ_self _,h⟩
abbrev Qks (lines:List ByteArray) (addrs:List ByteArray) (addrs2:List ByteArray):Prop:=(addrs2.length:Int)≤32∧(∀ k:Nat,(addrs2.getD k default).size≤1048576)
abbrev Qnw (lines:List ByteArray) (addrs:List ByteArray) (j:List ByteArray):Prop:=(Ht lines addrs)=Lp.done j∧Qks lines addrs j
theorem jn66_1 (lines:List ByteArray) (addrs:List ByteArray) (addrs2:List ByteArray) (e:(Ht lines addrs)=Lp.done addrs2) (h:Qks lines addrs addrs2):∃ j:List ByteArray,(Imp (.l 1 eStr lines) (.l 1 eStr lines))∧(Imp (.l 1 eStr addrs2) (.l 1 eStr j))∧Qnw lines addrs j:=⟨addrs2,Imp.refl _,Imp.refl _,e,h⟩
def S66 (lines:List ByteArray):Spec:=⟨[.r (.c (.l 1 eStr lines))],.v (.bool (F66 lines)),F20 lines=0∧lines.length≤16∧(∀ k:Nat,(lines.getD k default).size≤1048576)⟩
theorem ok66 (lines:List ByteArray):(S66 lines).ok Tryz.prog 66 false :=
 Qi mixed (fn:=Tryz.f66) (ct:=.seqk [(0,0)] .no (.seq (.reg [(0,.dat (.l 1 eStr ([]:List ByteArray)))]) (.cut (ι:=List ByteArray) (fun j=>(fun (addrs:List ByteArray)=>(⟨[(0,some (.h 0 0)),(3,some (.h 1 0))],[(0,some (.shr none (.l 1 eStr lines))),(1,some (.own 1 (.l 1 eStr addrs)))],2⟩:St)) j) (Qne lines) (.seqk [(3,0),(11,0)] (.reg [(1,Vj lines (⟨#[114,111,117,116,101]⟩:ByteArray))]) (.blk (.loop (ι:=Nat×(List ByteArray×Int)) (fun i=>(fun (addrs1:List ByteArray) (v13:Int)=>(⟨[(0,some (.h 0 0)),(3,some (.h 1 0)),(11,some (.h 2 0)),(12,some (.v (vI ((Qa lines (⟨#[114,111,117,116,101]⟩:ByteArray)).length:Int)))),(13,some (.v (vI v13)))],[(0,some (.shr none (.l 1 eStr lines))),(1,some (.own 1 (.l 1 eStr addrs1))),(2,some (.own 2 (.l 1 (eL 1 eStr) (Qa lines (⟨#[114,111,117,116,101]⟩:ByteArray)))))],3⟩:St)) i.2.1 i.2.2) (Qcn lines) (fun i=>i.1) (Tc lines) (fun i=>(fun (addrs1:List ByteArray) (v13:Int)=>(.seq .no (.seq (.cond .no .no) (.seq (.blk (.seq .no (.reg [(5,.dat (.l 1 eStr (addrs1++[(((Qa lines (⟨#[114,111,117,116,101]⟩:ByteArray)).getD (Int.toNat v13) default).getD (Int.toNat 2) default)])))]))) (.reg [(0,.bnd)]))))) i.2.1 i.2.2)))) (fun j=>(fun (addrs:List ByteArray)=>(.cut (ι:=List ByteArray) (fun j=>(fun (addrs2:List ByteArray)=>(⟨[(0,some (.h 0 0)),(3,some (.h 1 0))],[(0,some (.shr none (.l 1 eStr lines))),(1,some (.own 1 (.l 1 eStr addrs2)))],2⟩:St)) j) (Qnw lines addrs) (.seqk [(3,0),(25,0)] (.reg [(1,Vj lines (⟨#[112,101,101,114]⟩:ByteArray))]) (.blk (.loop (ι:=Nat×(List ByteArray×Int)) (fun i=>(fun (addrs3:List ByteArray) (v27:Int)=>(⟨[(0,some (.h 0 0)),(3,some (.h 1 0)),(25,some (.h 2 0)),(26,some (.v (vI ((Qa lines (⟨#[112,101,101,114]⟩:ByteArray)).length:Int)))),(27,some (.v (vI v27)))],[(0,some (.shr none (.l 1 eStr lines))),(1,some (.own 1 (.l 1 eStr addrs3))),(2,some (.own 2 (.l 1 (eL 1 eStr) (Qa lines (⟨#[112,101,101,114]⟩:ByteArray)))))],3⟩:St)) i.2.1 i.2.2) (Tb lines addrs) (fun i=>i.1) (Qau lines addrs) (fun i=>(fun (addrs3:List ByteArray) (v27:Int)=>(.seq .no (.seq (.cond .no .no) (.seq (.blk (.seq .no (.reg [(5,.dat (.l 1 eStr (addrs3++[(((Qa lines (⟨#[112,101,101,114]⟩:ByteArray)).getD (Int.toNat v27) default).getD (Int.toNat 1) default)])))]))) (.reg [(0,.bnd)]))))) i.2.1 i.2.2)))) (fun j=>(fun (addrs2:List ByteArray)=>(.seq (.reg [(1,kh86a lines)]) (.seq (.reg [(2,.call 78 (S78 (addrs2.any (fun (x0:ByteArray)=>F88 x0 (Qo lines))) addrs2 (fun (x0:ByteArray)=>F88 x0 (Qo lines)) (fun (x0:ByteArray)=>x0.size≤1048576∧(∀ k:Nat,0≤((Qo lines).getD k default).Len∧((Qo lines).getD k default).Len≤16))) (oa78 addrs2 (fun (x0:ByteArray)=>F88 x0 (Qo lines)) (fun (x0:ByteArray)=>x0.size≤1048576∧(∀ k:Nat,0≤((Qo lines).getD k default).Len∧((Qo lines).getD k default).Len≤16))) (some ⟨false,88,Ze (fun (x0:ByteArray)=>x0.size≤1048576∧(∀ k:Nat,0≤((Qo lines).getD k default).Len∧((Qo lines).getD k default).Len≤16)) (fun (x0:ByteArray)=>F88 x0 (Qo lines)),[.rp ([.l 2 Ql (Qo lines)])],rfl,True,fun i=>Bk (ok88 i (Qo lines))⟩))]) .no))) j))) j)))) Tryz.func66 (fun (hp:F20 lines=0∧lines.length≤16∧(∀ k:Nat,(lines.getD k default).size≤1048576))=>have hpre0:=hp.1; have hpre1:=hp.2.1; have hpre2:=hp.2.2; kn lines fun _=>ai (bokr 1 eStr ([]:List ByteArray) fun _=>rfl) (ai (Gw lines (⟨#[114,111,117,116,101]⟩:ByteArray) (by omega) (by assumption) (by omega) (fun gv1=>kn ([]:List ByteArray) fun _=>kn (Qa lines (⟨#[114,111,117,116,101]⟩:ByteArray)) fun _=>ai (en66_0 lines (by refine ⟨?_,?_,?_,?_⟩ <;> first | omega | (simp only [lens,ib] at*<;> omega) | exact Qls (by assumption) (Yo lines _ (by first | omega | (simp only [lens,ib] at*<;> omega)) _ _) | exact Ucq)) (fun (i0:Nat×(List ByteArray×Int)) (hi0:Qcn lines i0)=>(fun (m0:Nat) (addrs1:List ByteArray) (v13:Int) (hh0:Qvs lines i0 m0 addrs1 v13)=>have hI0:=hh0.1; have hl0:=hh0.2.1; have _:=hh0.2.2.1; have _:=hh0.2.2.2.1; have _:=hh0.2.2.2.2.1; have _:=hh0.2.2.2.2.2.1; have _:=hh0.2.2.2.2.2.2; ifd (v13<((Qa lines (⟨#[114,111,117,116,101]⟩:ByteArray)).length:Int)) (fun h3 _=>ai (by (omega):0≤v13∧v13<((Qa lines (⟨#[114,111,117,116,101]⟩:ByteArray)).length:Int)) (ai (by (have h9:=Qzs lines (by omega) (Int.toNat v13) (by omega); unfold Jt at h9; omega):0≤(2:Int)∧(2:Int)<(((Qa lines (⟨#[114,111,117,116,101]⟩:ByteArray)).getD (Int.toNat v13) default).length:Int)) (ai (appr 1 eStr addrs1 [(((Qa lines (⟨#[114,111,117,116,101]⟩:ByteArray)).getD (Int.toNat v13) default).getD (Int.toNat 2) default)] fun _=>rfl) (ai (by (try simp only [lens]); omega:(addrs1++[(((Qa lines (⟨#[114,111,117,116,101]⟩:ByteArray)).getD (Int.toNat v13) default).getD (Int.toNat 2) default)]).length*16≤140737488355328) (ai (iok (v13+1) (by omega)) (bk66_0 lines i0 m0 (addrs1++[(((Qa lines (⟨#[114,111,117,116,101]⟩:ByteArray)).getD (Int.toNat v13) default).getD (Int.toNat 2) default)]) (v13+1) hl0 (Qe hI0 (condT h3 rfl)) (by refine ⟨?_,?_,?_,?_,?_⟩ <;> first | omega | (simp only [lens,ib] at*<;> omega) | exact Qls (by assumption) (Yo lines _ (by first | omega | (simp only [lens,ib] at*<;> omega)) _ _) | exact Ucq))))))) (fun h3 _=>have hD0_4:Uae lines=Lp.done (addrs1,v13):=Qj hI0 (condF h3 rfl); jn66_0 lines addrs1 (Eq.symm (finD hD0_4 rfl)) (by refine ⟨?_,?_⟩ <;> omega))) (i0.1-1) i0.2.1 i0.2.2 (un66_0 lines i0 hi0)))) (fun (j:List ByteArray) (hj:Qne lines j)=>(fun (addrs:List ByteArray) (hJ0_5:(Nl lines)=Lp.done addrs) (hw:Qni lines addrs)=>have _:=hw.1; have _:=hw.2; ai (Gw lines (⟨#[112,101,101,114]⟩:ByteArray) (by omega) (by assumption) (by omega) (fun gv6=>kn addrs fun _=>kn (Qa lines (⟨#[112,101,101,114]⟩:ByteArray)) fun _=>ai (en66_1 lines addrs (by refine ⟨?_,?_,?_,?_⟩ <;> omega)) (fun (i1:Nat×(List ByteArray×Int)) (hi1:Tb lines addrs i1)=>(fun (m1:Nat) (addrs3:List ByteArray) (v27:Int) (hh1:Uat lines addrs i1 m1 addrs3 v27)=>have hI1:=hh1.1; have hl1:=hh1.2.1; have _:=hh1.2.2.1; have _:=hh1.2.2.2.1; have _:=hh1.2.2.2.2.1; have _:=hh1.2.2.2.2.2.1; have _:=hh1.2.2.2.2.2.2; ifd (v27<((Qa lines (⟨#[112,101,101,114]⟩:ByteArray)).length:Int)) (fun h8 _=>ai (by (omega):0≤v27∧v27<((Qa lines (⟨#[112,101,101,114]⟩:ByteArray)).length:Int)) (ai (by (have h9:=Ufg lines (by omega) (Int.toNat v27) (by omega); unfold Ls at h9; omega):0≤(1:Int)∧(1:Int)<(((Qa lines (⟨#[112,101,101,114]⟩:ByteArray)).getD (Int.toNat v27) default).length:Int)) (ai (appr 1 eStr addrs3 [(((Qa lines (⟨#[112,101,101,114]⟩:ByteArray)).getD (Int.toNat v27) default).getD (Int.toNat 1) default)] fun _=>rfl) (ai (by (try simp only [lens]); omega:(addrs3++[(((Qa lines (⟨#[112,101,101,114]⟩:ByteArray)).getD (Int.toNat v27) default).getD (Int.toNat 1) default)]).length*16≤140737488355328) (ai (iok (v27+1) (by omega)) (bk66_1 lines addrs i1 m1 (addrs3++[(((Qa lines (⟨#[112,101,101,114]⟩:ByteArray)).getD (Int.toNat v27) default).getD (Int.toNat 1) default)]) (v27+1) hl1 (Qe hI1 (condT h8 rfl)) (by refine ⟨?_,?_,?_,?_,?_⟩ <;> first | omega | (simp only [lens,ib] at*<;> omega) | exact Qls (by assumption) (Yo lines _ (by first | omega | (simp only [lens,ib] at*<;> omega)) _ _) | assumption))))))) (fun h8 _=>have hD1_9:Qwz lines addrs=Lp.done (addrs3,v27):=Qj hI1 (condF h8 rfl); jn66_1 lines addrs addrs3 (Eq.symm (finD hD1_9 rfl)) (by refine ⟨?_,?_⟩ <;> omega))) (i1.1-1) i1.2.1 i1.2.2 (un66_1 lines addrs i1 hi1)))) (fun (j:List ByteArray) (hj:Qnw lines addrs j)=>(fun (addrs2:List ByteArray) (hJ1_10:(Ht lines addrs)=Lp.done addrs2) (hw:Qks lines addrs addrs2)=>have _:=hw.1; have _:=hw.2; kc86a lines (by omega) (by omega) (by assumption) (ai (by exact fun k _=>⟨(by assumption:∀ k:Nat,(addrs2.getD k default).size≤1048576) k,Pg lines⟩:∀ k:Nat,k<addrs2.length→(fun (x0:ByteArray)=>x0.size≤1048576∧(∀ k:Nat,0≤((Qo lines).getD k default).Len∧((Qo lines).getD k default).Len≤16)) (addrs2.getD k default)) (ai (Imp.refl (.l 1 eStr addrs2)) (ai (Eq.refl (Ze (fun (x0:ByteArray)=>x0.size≤1048576∧(∀ k:Nat,0≤((Qo lines).getD k default).Len∧((Qo lines).getD k default).Len≤16)) (fun (x0:ByteArray)=>F88 x0 (Qo lines)))) (ai trivial (ai (Imps.refl [.l 2 Ql (Qo lines)]) (fiB (addrs2.any (fun (x0:ByteArray)=>F88 x0 (Qo lines))) (F66 lines) (finD hJ0_5 (finD hJ1_10 rfl))))))))) j hj.1 hj.2)) j hj.1 hj.2))) (by kernel_rfl)
theorem kg17 {K_:Prop} (c_ b_:Bool) (word:ByteArray) (p_:c_=b_→word.size≤1048576) (k_:K_):(c_=b_→word.size≤1048576)∧(c_=b_→Imp (.v (.string word)) (.v (.string word)))∧K_:=⟨p_,fun _=>Imp.refl _,k_⟩
def Xj (lines:List ByteArray) (v64:Int):Int→Lp Int Bool:=fun v89 =>
 bif (decide (v89<(((Qa lines (⟨#[100,111,111,114]⟩:ByteArray)).take (Int.toNat v64)).length:Int))) then (bif (bif (bif (((((Qa lines (⟨#[100,111,111,114]⟩:ByteArray)).take (Int.toNat v64)).getD (Int.toNat v89) default).getD (Int.toNat 1) default).toList==(((Qa lines (⟨#[100,111,111,114]⟩:ByteArray)).getD (Int.toNat v64) default).getD (Int.toNat 1) default).toList) then (((((Qa lines (⟨#[100,111,111,114]⟩:ByteArray)).take (Int.toNat v64)).getD (Int.toNat v89) default).getD (Int.toNat 3) default).toList==(((Qa lines (⟨#[100,111,111,114]⟩:ByteArray)).getD (Int.toNat v64) default).getD (Int.toNat 3) default).toList) else false) then (((((Qa lines (⟨#[100,111,111,114]⟩:ByteArray)).take (Int.toNat v64)).getD (Int.toNat v89) default).getD (Int.toNat 4) default).toList==(((Qa lines (⟨#[100,111,111,114]⟩:ByteArray)).getD (Int.toNat v64) default).getD (Int.toNat 4) default).toList) else false) then (.ret true) else (.next (v89+1))) else (.done v89)
def Xg (lines:List ByteArray):Int→Lp Int Bool:=fun v64 =>
 bif (decide (v64<((Qa lines (⟨#[100,111,111,114]⟩:ByteArray)).length:Int))) then (bif (bif (!(F91 ⟨(F33 (((Qa lines (⟨#[110,97,116]⟩:ByteArray)).getD (Int.toNat 0) default).getD (Int.toNat 1) default)).1.Addr,(F33 (((Qa lines (⟨#[110,97,116]⟩:ByteArray)).getD (Int.toNat 0) default).getD (Int.toNat 1) default)).1.Len⟩ (F49 (((Qa lines (⟨#[100,111,111,114]⟩:ByteArray)).getD (Int.toNat v64) default).getD (Int.toNat 3) default)))) then true else (decide ((F17 (((Qa lines (⟨#[110,97,116]⟩:ByteArray)).getD (Int.toNat 0) default).getD (Int.toNat 3) default))≤(F17 (((Qa lines (⟨#[100,111,111,114]⟩:ByteArray)).getD (Int.toNat v64) default).getD (Int.toNat 2) default))∧(F17 (((Qa lines (⟨#[100,111,111,114]⟩:ByteArray)).getD (Int.toNat v64) default).getD (Int.toNat 2) default))≤(F17 (((Qa lines (⟨#[110,97,116]⟩:ByteArray)).getD (Int.toNat 0) default).getD (Int.toNat 4) default))))) then (.ret true) else ((runL (Xj lines v64) ((Int.toNat ((((Qa lines (⟨#[100,111,111,114]⟩:ByteArray)).take (Int.toNat v64)).length:Int)-0))+1) 0).fin Lp.ret (fun v89=>.next (v64+1)))) else (.done v64)
def F67 (lines:List ByteArray):Bool :=
 bif (((Qa lines (⟨#[110,97,116]⟩:ByteArray)).length:Int)==0) then (decide (((Qa lines (⟨#[100,111,111,114]⟩:ByteArray)).length:Int)>0)) else (bif (bif (bif (F91 ⟨(F33 (((Qa lines (⟨#[110,97,116]⟩:ByteArray)).getD (Int.toNat 0) default).getD (Int.toNat 1) default)).1.Addr,(F33 (((Qa lines (⟨#[110,97,116]⟩:ByteArray)).getD (Int.toNat 0) default).getD (Int.toNat 1) default)).1.Len⟩ (F49 (((Qa lines (⟨#[110,97,116]⟩:ByteArray)).getD (Int.toNat 0) default).getD (Int.toNat 2) default))) then true else decide ((F17 (((Qa lines (⟨#[110,97,116]⟩:ByteArray)).getD (Int.toNat 0) default).getD (Int.toNat 3) default))>(F17 (((Qa lines (⟨#[110,97,116]⟩:ByteArray)).getD (Int.toNat 0) default).getD (Int.toNat 4) default)))) then true else decide (((Qa lines (⟨#[100,111,111,114]⟩:ByteArray)).length:Int)>6)) then true else ((runL (Xg lines) ((Int.toNat (((Qa lines (⟨#[100,111,111,114]⟩:ByteArray)).length:Int)-0))+1) 0).fin (fun r=>r) (fun v64=>false)))
abbrev Tg (lines:List ByteArray) (v64:Int):Nat×Int:=(((Int.toNat ((((Qa lines (⟨#[100,111,111,114]⟩:ByteArray)).take (Int.toNat v64)).length:Int)-0))+1),0)
abbrev Qnm (lines:List ByteArray) (v64:Int) (m39:Nat) (v89:Int):Prop:=Int.toNat ((((Qa lines (⟨#[100,111,111,114]⟩:ByteArray)).take (Int.toNat v64)).length:Int)-v89)<m39∧(0:Int)≤v89
abbrev Uap (lines:List ByteArray) (v64:Int):Lp Int Bool:=LpX (Xj lines v64) (Tg lines v64)
abbrev Qbu (lines:List ByteArray) (v64:Int) (i:Nat×Int):Prop:=LpJ (Xj lines v64) (Tg lines v64) i (Qnm lines v64 i.1 i.2)
abbrev Qzq (lines:List ByteArray) (v64:Int) (i:Nat×Int) (m39:Nat) (v89:Int):Prop:=LpH (Xj lines v64) (Tg lines v64) i m39 v89 (Qnm lines v64 (m39+1) v89)
abbrev Qvt (lines:List ByteArray) (v64:Int) (v89:Int) (v89_:Int) (K39:Prop):Prop:=(Rf (.int .i64 (F17 (((Qa lines (⟨#[110,97,116]⟩:ByteArray)).getD (Int.toNat 0) default).getD (Int.toNat 3) default))))∧(Rf (.int .i64 (F17 (((Qa lines (⟨#[110,97,116]⟩:ByteArray)).getD (Int.toNat 0) default).getD (Int.toNat 4) default))))∧(Rf (.int .i64 ((Qa lines (⟨#[100,111,111,114]⟩:ByteArray)).length:Int)))∧(Rf (.int .i64 v64))∧(Rf (.int .i64 (((Qa lines (⟨#[100,111,111,114]⟩:ByteArray)).take (Int.toNat v64)).length:Int)))∧((.int .i64 v89:Value)=.int .i64 v89_)∧(Im (.l 1 (eL 1 eStr) (Qa lines (⟨#[100,111,111,114]⟩:ByteArray))))∧(Rf (.int .i64 (F33 (((Qa lines (⟨#[110,97,116]⟩:ByteArray)).getD (Int.toNat 0) default).getD (Int.toNat 1) default)).1.Addr))∧(Rf (.int .i64 (F33 (((Qa lines (⟨#[110,97,116]⟩:ByteArray)).getD (Int.toNat 0) default).getD (Int.toNat 1) default)).1.Len))∧(Im (.l 1 eStr ((Qa lines (⟨#[100,111,111,114]⟩:ByteArray)).getD (Int.toNat v64) default)))∧(Im (.l 1 (eL 1 eStr) ((Qa lines (⟨#[100,111,111,114]⟩:ByteArray)).take (Int.toNat v64))))∧K39
theorem un67_1 (lines:List ByteArray) (v64:Int) (i:Nat×Int) (h:Qbu lines v64 i):Qzq lines v64 i (i.1-1) i.2:=⟨hd1 h.1 h.2.1,hd3 h.2.1,hd2 h.2.1,h.2.2⟩
theorem bk67_1 (lines:List ByteArray) (v64:Int) (i:Nat×Int) (m39:Nat) (v89:Int) (hl:m39<i.1) (e:runL (Xj lines v64) m39 v89=Uap lines v64) (h:Qnm lines v64 m39 v89):∃ j:Nat×Int,Qvt lines v64 v89 j.2 (Qbu lines v64 j∧j.1<i.1):=⟨(m39,v89),rfl,rfl,rfl,rfl,rfl,rfl,Imp.refl _,rfl,rfl,Imp.refl _,Imp.refl _,⟨e,h⟩,hl⟩
theorem en67_1 (lines:List ByteArray) (v64:Int) (h:(0:Int)≤0):Qvt lines v64 0 0 (Qbu lines v64 (Tg lines v64)):=⟨rfl,rfl,rfl,rfl,rfl,rfl,Imp.refl _,rfl,rfl,Imp.refl _,Imp.refl _,rfl,Nat.lt_succ_self _,h⟩
abbrev Qcs (lines:List ByteArray):Nat×Int:=(((Int.toNat (((Qa lines (⟨#[100,111,111,114]⟩:ByteArray)).length:Int)-0))+1),0)
abbrev Qog (lines:List ByteArray) (m39:Nat) (v64:Int):Prop:=Int.toNat (((Qa lines (⟨#[100,111,111,114]⟩:ByteArray)).length:Int)-v64)<m39∧(0:Int)≤v64
abbrev Ual (lines:List ByteArray):Lp Int Bool:=LpX (Xg lines) (Qcs lines)
abbrev Td (lines:List ByteArray) (i:Nat×Int):Prop:=LpJ (Xg lines) (Qcs lines) i (Qog lines i.1 i.2)
abbrev Uaz (lines:List ByteArray) (i:Nat×Int) (m39:Nat) (v64:Int):Prop:=LpH (Xg lines) (Qcs lines) i m39 v64 (Qog lines (m39+1) v64)
abbrev Uaj (lines:List ByteArray) (v64:Int) (v64_:Int) (K39:Prop):Prop:=(Rf (.int .i64 (F17 (((Qa lines (⟨#[110,97,116]⟩:ByteArray)).getD (Int.toNat 0) default).getD (Int.toNat 3) default))))∧(Rf (.int .i64 (F17 (((Qa lines (⟨#[110,97,116]⟩:ByteArray)).getD (Int.toNat 0) default).getD (Int.toNat 4) default))))∧(Rf (.int .i64 ((Qa lines (⟨#[100,111,111,114]⟩:ByteArray)).length:Int)))∧((.int .i64 v64:Value)=.int .i64 v64_)∧(Im (.l 1 (eL 1 eStr) (Qa lines (⟨#[100,111,111,114]⟩:ByteArray))))∧(Rf (.int .i64 (F33 (((Qa lines (⟨#[110,97,116]⟩:ByteArray)).getD (Int.toNat 0) default).getD (Int.toNat 1) default)).1.Addr))∧(Rf (.int .i64 (F33 (((Qa lines (⟨#[110,97,116]⟩:ByteArray)).getD (Int.toNat 0) default).getD (Int.toNat 1) default)).1.Len))∧K39
theorem un67_0 (lines:List ByteArray) (i:Nat×Int) (h:Td lines i):Uaz lines i (i.1-1) i.2:=⟨hd1 h.1 h.2.1,hd3 h.2.1,hd2 h.2.1,h.2.2⟩
theorem bk67_0 (lines:List ByteArray) (i:Nat×Int) (m39:Nat) (v64:Int) (hl:m39<i.1) (e:runL (Xg lines) m39 v64=Ual lines) (h:Qog lines m39 v64):∃ j:Nat×Int,Uaj lines v64 j.2 (Td lines j∧j.1<i.1):=⟨(m39,v64),rfl,rfl,rfl,rfl,Imp.refl _,rfl,rfl,⟨e,h⟩,hl⟩
theorem en67_0 (lines:List ByteArray) (h:(0:Int)≤0):Uaj lines 0 0 (Td lines (Qcs lines)):=⟨rfl,rfl,rfl,rfl,Imp.refl _,rfl,rfl,rfl,Nat.lt_succ_self _,h⟩
def S67 (lines:List ByteArray):Spec:=⟨[.r (.c (.l 1 eStr lines))],.v (.bool (F67 lines)),F20 lines=0∧lines.length≤16∧(∀ k:Nat,(lines.getD k default).size≤1048576)⟩
theorem ok67 (lines:List ByteArray):(S67 lines).ok Tryz.prog 67 false :=
 Qi mixed (fn:=Tryz.f67) (ct:=.seqk [(0,0)] .no (.seq (.reg [(1,Vj lines (⟨#[110,97,116]⟩:ByteArray)),(3,Vj lines (⟨#[100,111,111,114]⟩:ByteArray))]) (.seq (.seq .no (.cond (.seq .no .no) .no)) (.seq (.reg [(5,kh33 (((Qa lines (⟨#[110,97,116]⟩:ByteArray)).getD (Int.toNat 0) default).getD (Int.toNat 1) default))]) (.seq (.reg [(5,kh17 (((Qa lines (⟨#[110,97,116]⟩:ByteArray)).getD (Int.toNat 0) default).getD (Int.toNat 3) default)),(11,kh17 (((Qa lines (⟨#[110,97,116]⟩:ByteArray)).getD (Int.toNat 0) default).getD (Int.toNat 4) default))]) (.seq (.seq (.reg [(6,kh49 (((Qa lines (⟨#[110,97,116]⟩:ByteArray)).getD (Int.toNat 0) default).getD (Int.toNat 2) default)),(7,.call 91 (S91 (⟨(F33 (((Qa lines (⟨#[110,97,116]⟩:ByteArray)).getD (Int.toNat 0) default).getD (Int.toNat 1) default)).1.Addr,(F33 (((Qa lines (⟨#[110,97,116]⟩:ByteArray)).getD (Int.toNat 0) default).getD (Int.toNat 1) default)).1.Len⟩:Qb) (F49 (((Qa lines (⟨#[110,97,116]⟩:ByteArray)).getD (Int.toNat 0) default).getD (Int.toNat 2) default))) ((ok91 (⟨(F33 (((Qa lines (⟨#[110,97,116]⟩:ByteArray)).getD (Int.toNat 0) default).getD (Int.toNat 1) default)).1.Addr,(F33 (((Qa lines (⟨#[110,97,116]⟩:ByteArray)).getD (Int.toNat 0) default).getD (Int.toNat 1) default)).1.Len⟩:Qb) (F49 (((Qa lines (⟨#[110,97,116]⟩:ByteArray)).getD (Int.toNat 0) default).getD (Int.toNat 2) default))).to false) none)]) (.cond (.seq .no .no) .no)) (.seq (.seqk [(4,0),(62,0)] .no (.blk (.loop (ι:=Nat×Int) (fun i=>(fun (v64:Int)=>(⟨[(4,some (.h 0 0)),(5,some (.p 1 0)),(7,some (.v (vI (F17 (((Qa lines (⟨#[110,97,116]⟩:ByteArray)).getD (Int.toNat 0) default).getD (Int.toNat 3) default))))),(8,some (.v (vI (F17 (((Qa lines (⟨#[110,97,116]⟩:ByteArray)).getD (Int.toNat 0) default).getD (Int.toNat 4) default))))),(62,some (.h 0 0)),(63,some (.v (vI ((Qa lines (⟨#[100,111,111,114]⟩:ByteArray)).length:Int)))),(64,some (.v (vI v64)))],[(0,some (.own 0 (.l 1 (eL 1 eStr) (Qa lines (⟨#[100,111,111,114]⟩:ByteArray))))),(1,some (.box 35 [.v (vI (F33 (((Qa lines (⟨#[110,97,116]⟩:ByteArray)).getD (Int.toNat 0) default).getD (Int.toNat 1) default)).1.Addr),.v (vI (F33 (((Qa lines (⟨#[110,97,116]⟩:ByteArray)).getD (Int.toNat 0) default).getD (Int.toNat 1) default)).1.Len)]))],2⟩:St)) i.2) (Td lines) (fun i=>i.1) (Qcs lines) (fun i=>(fun (v64:Int)=>(.seq .no (.seq (.cond .no .no) (.seq (.blk (.seq (.reg [(2,.sh)]) (.seq (.seq (.reg [(4,kh49 (((Qa lines (⟨#[100,111,111,114]⟩:ByteArray)).getD (Int.toNat v64) default).getD (Int.toNat 3) default)),(5,.call 91 (S91 (⟨(F33 (((Qa lines (⟨#[110,97,116]⟩:ByteArray)).getD (Int.toNat 0) default).getD (Int.toNat 1) default)).1.Addr,(F33 (((Qa lines (⟨#[110,97,116]⟩:ByteArray)).getD (Int.toNat 0) default).getD (Int.toNat 1) default)).1.Len⟩:Qb) (F49 (((Qa lines (⟨#[100,111,111,114]⟩:ByteArray)).getD (Int.toNat v64) default).getD (Int.toNat 3) default))) ((ok91 (⟨(F33 (((Qa lines (⟨#[110,97,116]⟩:ByteArray)).getD (Int.toNat 0) default).getD (Int.toNat 1) default)).1.Addr,(F33 (((Qa lines (⟨#[110,97,116]⟩:ByteArray)).getD (Int.toNat 0) default).getD (Int.toNat 1) default)).1.Len⟩:Qb) (F49 (((Qa lines (⟨#[100,111,111,114]⟩:ByteArray)).getD (Int.toNat v64) default).getD (Int.toNat 3) default))).to false) none),(11,kh17 (((Qa lines (⟨#[100,111,111,114]⟩:ByteArray)).getD (Int.toNat v64) default).getD (Int.toNat 2) default)),(14,Qao (F17 (((Qa lines (⟨#[100,111,111,114]⟩:ByteArray)).getD (Int.toNat v64) default).getD (Int.toNat 2) default)) (F17 (((Qa lines (⟨#[110,97,116]⟩:ByteArray)).getD (Int.toNat 0) default).getD (Int.toNat 3) default)) (F17 (((Qa lines (⟨#[110,97,116]⟩:ByteArray)).getD (Int.toNat 0) default).getD (Int.toNat 4) default)))]) (.cond (.seq .no .no) .no)) (.seqk [(10,0),(87,0)] .no (.blk (.loop (ι:=Nat×Int) (fun i=>(fun (v89:Int)=>(⟨[(4,some (.h 0 0)),(5,some (.p 1 0)),(7,some (.v (vI (F17 (((Qa lines (⟨#[110,97,116]⟩:ByteArray)).getD (Int.toNat 0) default).getD (Int.toNat 3) default))))),(8,some (.v (vI (F17 (((Qa lines (⟨#[110,97,116]⟩:ByteArray)).getD (Int.toNat 0) default).getD (Int.toNat 4) default))))),(10,some (.h 2 0)),(62,some (.h 0 0)),(63,some (.v (vI ((Qa lines (⟨#[100,111,111,114]⟩:ByteArray)).length:Int)))),(64,some (.v (vI v64))),(87,some (.h 3 0)),(88,some (.v (vI (((Qa lines (⟨#[100,111,111,114]⟩:ByteArray)).take (Int.toNat v64)).length:Int)))),(89,some (.v (vI v89)))],[(0,some (.own 0 (.l 1 (eL 1 eStr) (Qa lines (⟨#[100,111,111,114]⟩:ByteArray))))),(1,some (.box 35 [.v (vI (F33 (((Qa lines (⟨#[110,97,116]⟩:ByteArray)).getD (Int.toNat 0) default).getD (Int.toNat 1) default)).1.Addr),.v (vI (F33 (((Qa lines (⟨#[110,97,116]⟩:ByteArray)).getD (Int.toNat 0) default).getD (Int.toNat 1) default)).1.Len)])),(2,some (.shr (some (0,0)) (.l 1 eStr ((Qa lines (⟨#[100,111,111,114]⟩:ByteArray)).getD (Int.toNat v64) default)))),(3,some (.shr (some (0,0)) (.l 1 (eL 1 eStr) ((Qa lines (⟨#[100,111,111,114]⟩:ByteArray)).take (Int.toNat v64)))))],4⟩:St)) i.2) (Qbu lines v64) (fun i=>i.1) (Tg lines v64) (fun i=>(fun (v89:Int)=>(.seq .no (.seq (.cond .no .no) (.seq (.blk (.seq .no (.seq .no (.cond (.seq .no .no) .no)))) (.reg [(0,.bnd)]))))) i.2))))))) (.reg [(0,.bnd)]))))) i.2)))) (.seq .no .no)))))))) Tryz.func67 (fun (hp:F20 lines=0∧lines.length≤16∧(∀ k:Nat,(lines.getD k default).size≤1048576))=>have hpre0:=hp.1; have hpre1:=hp.2.1; have hpre2:=hp.2.2; kn lines fun _=>Gw lines (⟨#[110,97,116]⟩:ByteArray) (by omega) (by assumption) (by omega) (fun gv1=>Gw lines (⟨#[100,111,111,114]⟩:ByteArray) (by omega) (by assumption) (by omega) (fun gv2=>ife ((Qa lines (⟨#[110,97,116]⟩:ByteArray)).length:Int) 0 (fun h3 _=>fiB (decide (((Qa lines (⟨#[100,111,111,114]⟩:ByteArray)).length:Int)>0)) (F67 lines) (condT h3 rfl)) (fun h3 _=>ai (by (omega):0≤(0:Int)∧(0:Int)<((Qa lines (⟨#[110,97,116]⟩:ByteArray)).length:Int)) (ai (by (have h9:=Qfv lines (by omega) (Int.toNat 0) (by omega); unfold natP at h9; omega):0≤(1:Int)∧(1:Int)<(((Qa lines (⟨#[110,97,116]⟩:ByteArray)).getD (Int.toNat 0) default).length:Int)) (kc33 (((Qa lines (⟨#[110,97,116]⟩:ByteArray)).getD (Int.toNat 0) default).getD (Int.toNat 1) default) (by exact Yo lines _ (by omega) _ _) (ai (by (omega):0≤(0:Int)∧(0:Int)<((Qa lines (⟨#[110,97,116]⟩:ByteArray)).length:Int)) (ai (by (have h9:=Qfv lines (by omega) (Int.toNat 0) (by omega); unfold natP at h9; omega):0≤(3:Int)∧(3:Int)<(((Qa lines (⟨#[110,97,116]⟩:ByteArray)).getD (Int.toNat 0) default).length:Int)) (kc17 (((Qa lines (⟨#[110,97,116]⟩:ByteArray)).getD (Int.toNat 0) default).getD (Int.toNat 3) default) (by exact Yo lines _ (by omega) _ _) (ai (by (omega):0≤(0:Int)∧(0:Int)<((Qa lines (⟨#[110,97,116]⟩:ByteArray)).length:Int)) (ai (by (have h9:=Qfv lines (by omega) (Int.toNat 0) (by omega); unfold natP at h9; omega):0≤(4:Int)∧(4:Int)<(((Qa lines (⟨#[110,97,116]⟩:ByteArray)).getD (Int.toNat 0) default).length:Int)) (kc17 (((Qa lines (⟨#[110,97,116]⟩:ByteArray)).getD (Int.toNat 0) default).getD (Int.toNat 4) default) (by exact Yo lines _ (by omega) _ _) (ai (by (omega):0≤(0:Int)∧(0:Int)<((Qa lines (⟨#[110,97,116]⟩:ByteArray)).length:Int)) (ai (by (have h9:=Qfv lines (by omega) (Int.toNat 0) (by omega); unfold natP at h9; omega):0≤(2:Int)∧(2:Int)<(((Qa lines (⟨#[110,97,116]⟩:ByteArray)).getD (Int.toNat 0) default).length:Int)) (kc49 (((Qa lines (⟨#[110,97,116]⟩:ByteArray)).getD (Int.toNat 0) default).getD (Int.toNat 2) default) (by exact Yo lines _ (by omega) _ _) (ai (ai (by exact (Zq _).1:0≤(F33 (((Qa lines (⟨#[110,97,116]⟩:ByteArray)).getD (Int.toNat 0) default).getD (Int.toNat 1) default)).1.Len) (by exact (Zq _).2.1:(F33 (((Qa lines (⟨#[110,97,116]⟩:ByteArray)).getD (Int.toNat 0) default).getD (Int.toNat 1) default)).1.Len≤16)) (ai (Imps.refl (Ql (⟨(F33 (((Qa lines (⟨#[110,97,116]⟩:ByteArray)).getD (Int.toNat 0) default).getD (Int.toNat 1) default)).1.Addr,(F33 (((Qa lines (⟨#[110,97,116]⟩:ByteArray)).getD (Int.toNat 0) default).getD (Int.toNat 1) default)).1.Len⟩:Qb))) (ai (Imp.refl (.v (vI (F49 (((Qa lines (⟨#[110,97,116]⟩:ByteArray)).getD (Int.toNat 0) default).getD (Int.toNat 2) default))))) (ifb (bif (bif (F91 ⟨(F33 (((Qa lines (⟨#[110,97,116]⟩:ByteArray)).getD (Int.toNat 0) default).getD (Int.toNat 1) default)).1.Addr,(F33 (((Qa lines (⟨#[110,97,116]⟩:ByteArray)).getD (Int.toNat 0) default).getD (Int.toNat 1) default)).1.Len⟩ (F49 (((Qa lines (⟨#[110,97,116]⟩:ByteArray)).getD (Int.toNat 0) default).getD (Int.toNat 2) default))) then true else decide ((F17 (((Qa lines (⟨#[110,97,116]⟩:ByteArray)).getD (Int.toNat 0) default).getD (Int.toNat 3) default))>(F17 (((Qa lines (⟨#[110,97,116]⟩:ByteArray)).getD (Int.toNat 0) default).getD (Int.toNat 4) default)))) then true else decide (((Qa lines (⟨#[100,111,111,114]⟩:ByteArray)).length:Int)>6)) (fun h4=>fiB true (F67 lines) (condF h3 (condT h4 rfl))) (fun h4=>have _:¬ (F17 (((Qa lines (⟨#[110,97,116]⟩:ByteArray)).getD (Int.toNat 0) default).getD (Int.toNat 3) default))>(F17 (((Qa lines (⟨#[110,97,116]⟩:ByteArray)).getD (Int.toNat 0) default).getD (Int.toNat 4) default)):=of_decide_eq_false (orF2 (orF1 h4)); have _:¬ ((Qa lines (⟨#[100,111,111,114]⟩:ByteArray)).length:Int)>6:=of_decide_eq_false (orF2 h4); kn (Qa lines (⟨#[100,111,111,114]⟩:ByteArray)) fun _=>kn (Qa lines (⟨#[100,111,111,114]⟩:ByteArray)) fun _=>ai (en67_0 lines (by omega)) (fun (i0:Nat×Int) (hi0:Td lines i0)=>(fun (m0:Nat) (v64:Int) (hh0:Uaz lines i0 m0 v64)=>have hI0:=hh0.1; have hl0:=hh0.2.1; have _:=hh0.2.2.1; have _:=hh0.2.2.2; ifd (v64<((Qa lines (⟨#[100,111,111,114]⟩:ByteArray)).length:Int)) (fun h6 _=>ai (by (omega):0≤v64∧v64<((Qa lines (⟨#[100,111,111,114]⟩:ByteArray)).length:Int)) (ai (by (have h9:=Gs lines (by omega) (Int.toNat v64) (by omega); unfold Kz at h9; omega):0≤(3:Int)∧(3:Int)<(((Qa lines (⟨#[100,111,111,114]⟩:ByteArray)).getD (Int.toNat v64) default).length:Int)) (kc49 (((Qa lines (⟨#[100,111,111,114]⟩:ByteArray)).getD (Int.toNat v64) default).getD (Int.toNat 3) default) (by exact Yo lines _ (by omega) _ _) (ai (ai (by exact (Zq _).1:0≤(F33 (((Qa lines (⟨#[110,97,116]⟩:ByteArray)).getD (Int.toNat 0) default).getD (Int.toNat 1) default)).1.Len) (by exact (Zq _).2.1:(F33 (((Qa lines (⟨#[110,97,116]⟩:ByteArray)).getD (Int.toNat 0) default).getD (Int.toNat 1) default)).1.Len≤16)) (ai (Imps.refl (Ql (⟨(F33 (((Qa lines (⟨#[110,97,116]⟩:ByteArray)).getD (Int.toNat 0) default).getD (Int.toNat 1) default)).1.Addr,(F33 (((Qa lines (⟨#[110,97,116]⟩:ByteArray)).getD (Int.toNat 0) default).getD (Int.toNat 1) default)).1.Len⟩:Qb))) (ai (Imp.refl (.v (vI (F49 (((Qa lines (⟨#[100,111,111,114]⟩:ByteArray)).getD (Int.toNat v64) default).getD (Int.toNat 3) default))))) (ai (fun k7:(!(F91 ⟨(F33 (((Qa lines (⟨#[110,97,116]⟩:ByteArray)).getD (Int.toNat 0) default).getD (Int.toNat 1) default)).1.Addr,(F33 (((Qa lines (⟨#[110,97,116]⟩:ByteArray)).getD (Int.toNat 0) default).getD (Int.toNat 1) default)).1.Len⟩ (F49 (((Qa lines (⟨#[100,111,111,114]⟩:ByteArray)).getD (Int.toNat v64) default).getD (Int.toNat 3) default))))=false=>(by (have h9:=Gs lines (by omega) (Int.toNat v64) (by omega); unfold Kz at h9; omega):0≤(2:Int)∧(2:Int)<(((Qa lines (⟨#[100,111,111,114]⟩:ByteArray)).getD (Int.toNat v64) default).length:Int))) (kg17 (!(F91 ⟨(F33 (((Qa lines (⟨#[110,97,116]⟩:ByteArray)).getD (Int.toNat 0) default).getD (Int.toNat 1) default)).1.Addr,(F33 (((Qa lines (⟨#[110,97,116]⟩:ByteArray)).getD (Int.toNat 0) default).getD (Int.toNat 1) default)).1.Len⟩ (F49 (((Qa lines (⟨#[100,111,111,114]⟩:ByteArray)).getD (Int.toNat v64) default).getD (Int.toNat 3) default)))) false (((Qa lines (⟨#[100,111,111,114]⟩:ByteArray)).getD (Int.toNat v64) default).getD (Int.toNat 2) default) (fun k8=>(by exact Yo lines _ (by omega) _ _)) (Qpe (!(F91 ⟨(F33 (((Qa lines (⟨#[110,97,116]⟩:ByteArray)).getD (Int.toNat 0) default).getD (Int.toNat 1) default)).1.Addr,(F33 (((Qa lines (⟨#[110,97,116]⟩:ByteArray)).getD (Int.toNat 0) default).getD (Int.toNat 1) default)).1.Len⟩ (F49 (((Qa lines (⟨#[100,111,111,114]⟩:ByteArray)).getD (Int.toNat v64) default).getD (Int.toNat 3) default)))) false (F17 (((Qa lines (⟨#[100,111,111,114]⟩:ByteArray)).getD (Int.toNat v64) default).getD (Int.toNat 2) default)) (F17 (((Qa lines (⟨#[110,97,116]⟩:ByteArray)).getD (Int.toNat 0) default).getD (Int.toNat 3) default)) (F17 (((Qa lines (⟨#[110,97,116]⟩:ByteArray)).getD (Int.toNat 0) default).getD (Int.toNat 4) default)) (ifb (bif (!(F91 ⟨(F33 (((Qa lines (⟨#[110,97,116]⟩:ByteArray)).getD (Int.toNat 0) default).getD (Int.toNat 1) default)).1.Addr,(F33 (((Qa lines (⟨#[110,97,116]⟩:ByteArray)).getD (Int.toNat 0) default).getD (Int.toNat 1) default)).1.Len⟩ (F49 (((Qa lines (⟨#[100,111,111,114]⟩:ByteArray)).getD (Int.toNat v64) default).getD (Int.toNat 3) default)))) then true else (decide ((F17 (((Qa lines (⟨#[110,97,116]⟩:ByteArray)).getD (Int.toNat 0) default).getD (Int.toNat 3) default))≤(F17 (((Qa lines (⟨#[100,111,111,114]⟩:ByteArray)).getD (Int.toNat v64) default).getD (Int.toNat 2) default))∧(F17 (((Qa lines (⟨#[100,111,111,114]⟩:ByteArray)).getD (Int.toNat v64) default).getD (Int.toNat 2) default))≤(F17 (((Qa lines (⟨#[110,97,116]⟩:ByteArray)).getD (Int.toNat 0) default).getD (Int.toNat 4) default))))) (fun h10=>fiB true (F67 lines) (condF h3 (condF h4 (finR (Qt hI0 (condT h6 (condT h10 rfl))) rfl)))) (fun h10=>have _:¬ ((F17 (((Qa lines (⟨#[110,97,116]⟩:ByteArray)).getD (Int.toNat 0) default).getD (Int.toNat 3) default))≤(F17 (((Qa lines (⟨#[100,111,111,114]⟩:ByteArray)).getD (Int.toNat v64) default).getD (Int.toNat 2) default))∧(F17 (((Qa lines (⟨#[100,111,111,114]⟩:ByteArray)).getD (Int.toNat v64) default).getD (Int.toNat 2) default))≤(F17 (((Qa lines (⟨#[110,97,116]⟩:ByteArray)).getD (Int.toNat 0) default).getD (Int.toNat 4) default))):=of_decide_eq_false (orF2 h10); ai (by omega:0≤(0:Int)∧(0:Int)≤v64∧v64≤((Qa lines (⟨#[100,111,111,114]⟩:ByteArray)).length:Int)) (kn ((Qa lines (⟨#[100,111,111,114]⟩:ByteArray)).getD (Int.toNat v64) default) fun _=>kn ((Qa lines (⟨#[100,111,111,114]⟩:ByteArray)).take (Int.toNat v64)) fun _=>ai (en67_1 lines v64 (by omega)) (fun (i1:Nat×Int) (hi1:Qbu lines v64 i1)=>(fun (m1:Nat) (v89:Int) (hh1:Qzq lines v64 i1 m1 v89)=>have hI1:=hh1.1; have hl1:=hh1.2.1; have _:=hh1.2.2.1; have _:=hh1.2.2.2; ifd (v89<(((Qa lines (⟨#[100,111,111,114]⟩:ByteArray)).take (Int.toNat v64)).length:Int)) (fun h12 _=>ai (by (omega):0≤v89∧v89<(((Qa lines (⟨#[100,111,111,114]⟩:ByteArray)).take (Int.toNat v64)).length:Int)) (ai (by (have h9:=Tq lines (by omega) (Int.toNat v64) (Int.toNat v89) (by omega); unfold Kz at h9; omega):0≤(1:Int)∧(1:Int)<((((Qa lines (⟨#[100,111,111,114]⟩:ByteArray)).take (Int.toNat v64)).getD (Int.toNat v89) default).length:Int)) (ai (by (have h9:=Gs lines (by omega) (Int.toNat v64) (by omega); unfold Kz at h9; omega):0≤(1:Int)∧(1:Int)<(((Qa lines (⟨#[100,111,111,114]⟩:ByteArray)).getD (Int.toNat v64) default).length:Int)) (ai (fun k13:(((((Qa lines (⟨#[100,111,111,114]⟩:ByteArray)).take (Int.toNat v64)).getD (Int.toNat v89) default).getD (Int.toNat 1) default).toList==(((Qa lines (⟨#[100,111,111,114]⟩:ByteArray)).getD (Int.toNat v64) default).getD (Int.toNat 1) default).toList)=true=>(by (have h9:=Tq lines (by omega) (Int.toNat v64) (Int.toNat v89) (by omega); unfold Kz at h9; omega):0≤(3:Int)∧(3:Int)<((((Qa lines (⟨#[100,111,111,114]⟩:ByteArray)).take (Int.toNat v64)).getD (Int.toNat v89) default).length:Int))) (ai (fun k14:(((((Qa lines (⟨#[100,111,111,114]⟩:ByteArray)).take (Int.toNat v64)).getD (Int.toNat v89) default).getD (Int.toNat 1) default).toList==(((Qa lines (⟨#[100,111,111,114]⟩:ByteArray)).getD (Int.toNat v64) default).getD (Int.toNat 1) default).toList)=true=>(by (have h9:=Gs lines (by omega) (Int.toNat v64) (by omega); unfold Kz at h9; omega):0≤(3:Int)∧(3:Int)<(((Qa lines (⟨#[100,111,111,114]⟩:ByteArray)).getD (Int.toNat v64) default).length:Int))) (ai (fun k15:(bif (((((Qa lines (⟨#[100,111,111,114]⟩:ByteArray)).take (Int.toNat v64)).getD (Int.toNat v89) default).getD (Int.toNat 1) default).toList==(((Qa lines (⟨#[100,111,111,114]⟩:ByteArray)).getD (Int.toNat v64) default).getD (Int.toNat 1) default).toList) then (((((Qa lines (⟨#[100,111,111,114]⟩:ByteArray)).take (Int.toNat v64)).getD (Int.toNat v89) default).getD (Int.toNat 3) default).toList==(((Qa lines (⟨#[100,111,111,114]⟩:ByteArray)).getD (Int.toNat v64) default).getD (Int.toNat 3) default).toList) else false)=true=>have _:(((((Qa lines (⟨#[100,111,111,114]⟩:ByteArray)).take (Int.toNat v64)).getD (Int.toNat v89) default).getD (Int.toNat 1) default).toList==(((Qa lines (⟨#[100,111,111,114]⟩:ByteArray)).getD (Int.toNat v64) default).getD (Int.toNat 1) default).toList)=true:=(Qn k15); have _:(((((Qa lines (⟨#[100,111,111,114]⟩:ByteArray)).take (Int.toNat v64)).getD (Int.toNat v89) default).getD (Int.toNat 3) default).toList==(((Qa lines (⟨#[100,111,111,114]⟩:ByteArray)).getD (Int.toNat v64) default).getD (Int.toNat 3) default).toList)=true:=(Qy k15); (by (have h9:=Tq lines (by omega) (Int.toNat v64) (Int.toNat v89) (by omega); unfold Kz at h9; omega):0≤(4:Int)∧(4:Int)<((((Qa lines (⟨#[100,111,111,114]⟩:ByteArray)).take (Int.toNat v64)).getD (Int.toNat v89) default).length:Int))) (ai (fun k16:(bif (((((Qa lines (⟨#[100,111,111,114]⟩:ByteArray)).take (Int.toNat v64)).getD (Int.toNat v89) default).getD (Int.toNat 1) default).toList==(((Qa lines (⟨#[100,111,111,114]⟩:ByteArray)).getD (Int.toNat v64) default).getD (Int.toNat 1) default).toList) then (((((Qa lines (⟨#[100,111,111,114]⟩:ByteArray)).take (Int.toNat v64)).getD (Int.toNat v89) default).getD (Int.toNat 3) default).toList==(((Qa lines (⟨#[100,111,111,114]⟩:ByteArray)).getD (Int.toNat v64) default).getD (Int.toNat 3) default).toList) else false)=true=>have _:(((((Qa lines (⟨#[100,111,111,114]⟩:ByteArray)).take (Int.toNat v64)).getD (Int.toNat v89) default).getD (Int.toNat 1) default).toList==(((Qa lines (⟨#[100,111,111,114]⟩:ByteArray)).getD (Int.toNat v64) default).getD (Int.toNat 1) default).toList)=true:=(Qn k16); have _:(((((Qa lines (⟨#[100,111,111,114]⟩:ByteArray)).take (Int.toNat v64)).getD (Int.toNat v89) default).getD (Int.toNat 3) default).toList==(((Qa lines (⟨#[100,111,111,114]⟩:ByteArray)).getD (Int.toNat v64) default).getD (Int.toNat 3) default).toList)=true:=(Qy k16); (by (have h9:=Gs lines (by omega) (Int.toNat v64) (by omega); unfold Kz at h9; omega):0≤(4:Int)∧(4:Int)<(((Qa lines (⟨#[100,111,111,114]⟩:ByteArray)).getD (Int.toNat v64) default).length:Int))) (ifb (bif (bif (((((Qa lines (⟨#[100,111,111,114]⟩:ByteArray)).take (Int.toNat v64)).getD (Int.toNat v89) default).getD (Int.toNat 1) default).toList==(((Qa lines (⟨#[100,111,111,114]⟩:ByteArray)).getD (Int.toNat v64) default).getD (Int.toNat 1) default).toList) then (((((Qa lines (⟨#[100,111,111,114]⟩:ByteArray)).take (Int.toNat v64)).getD (Int.toNat v89) default).getD (Int.toNat 3) default).toList==(((Qa lines (⟨#[100,111,111,114]⟩:ByteArray)).getD (Int.toNat v64) default).getD (Int.toNat 3) default).toList) else false) then (((((Qa lines (⟨#[100,111,111,114]⟩:ByteArray)).take (Int.toNat v64)).getD (Int.toNat v89) default).getD (Int.toNat 4) default).toList==(((Qa lines (⟨#[100,111,111,114]⟩:ByteArray)).getD (Int.toNat v64) default).getD (Int.toNat 4) default).toList) else false) (fun h17=>have _:(((((Qa lines (⟨#[100,111,111,114]⟩:ByteArray)).take (Int.toNat v64)).getD (Int.toNat v89) default).getD (Int.toNat 1) default).toList==(((Qa lines (⟨#[100,111,111,114]⟩:ByteArray)).getD (Int.toNat v64) default).getD (Int.toNat 1) default).toList)=true:=(Qn (Qn h17)); have _:(((((Qa lines (⟨#[100,111,111,114]⟩:ByteArray)).take (Int.toNat v64)).getD (Int.toNat v89) default).getD (Int.toNat 3) default).toList==(((Qa lines (⟨#[100,111,111,114]⟩:ByteArray)).getD (Int.toNat v64) default).getD (Int.toNat 3) default).toList)=true:=(Qy (Qn h17)); have _:(((((Qa lines (⟨#[100,111,111,114]⟩:ByteArray)).take (Int.toNat v64)).getD (Int.toNat v89) default).getD (Int.toNat 4) default).toList==(((Qa lines (⟨#[100,111,111,114]⟩:ByteArray)).getD (Int.toNat v64) default).getD (Int.toNat 4) default).toList)=true:=(Qy h17); fiB true (F67 lines) (condF h3 (condF h4 (finR (Qt hI0 (condT h6 (condF h10 (finR (Qt hI1 (condT h12 (condT h17 rfl))) rfl)))) rfl)))) (fun h17=>ai (iok (v89+1) (by omega)) (bk67_1 lines v64 i1 m1 (v89+1) hl1 (Qe hI1 (condT h12 (condF h17 rfl))) (by refine ⟨?_,?_⟩ <;> omega))))))))))) (fun h12 _=>have hD1_18:Uap lines v64=Lp.done v89:=Qj hI1 (condF h12 rfl); ai (iok (v64+1) (by omega)) (bk67_0 lines i0 m0 (v64+1) hl0 (Qe hI0 (condT h6 (condF h10 (finD hD1_18 rfl)))) (by refine ⟨?_,?_⟩ <;> omega)))) (i1.1-1) i1.2 (un67_1 lines v64 i1 hi1)))))))))))))) (fun h6 _=>have hD0_19:Ual lines=Lp.done v64:=Qj hI0 (condF h6 rfl); fiB false (F67 lines) (condF h3 (condF h4 (finD hD0_19 rfl))))) (i0.1-1) i0.2 (un67_0 lines i0 hi0)))))))))))))))))))))) (by kernel_rfl)
theorem kc29 (c:l52Cut) (k:Int) {K_:Prop} (p0_:0≤k) (k_:K_):(0≤k)∧(Imps (Qk c) (Qk c))∧(Imp (.v (vI k)) (.v (vI k)))∧K_:=⟨p0_,Imps.refl _,Imp.refl _,k_⟩
abbrev kh29 (c:l52Cut) (k:Int):Hint true Tryz.prog:=.call 29 (S29 c k) (ok29 c k) none
theorem kg29 {K_:Prop} (c_ b_:Bool) (c:l52Cut) (k:Int) (p_:c_=b_→0≤k) (k_:K_):(c_=b_→0≤k)∧(c_=b_→Imps (Qk c) (Qk c))∧(c_=b_→Imp (.v (vI k)) (.v (vI k)))∧K_:=⟨p_,fun _=>Imps.refl _,fun _=>Imp.refl _,k_⟩
def Xb (all:List l52Cut):Int→Lp Int Bool:=fun i40 =>
 bif (decide (i40<(all.length:Int))) then (bif (bif ((F29 (all.getD (Int.toNat i40) default) 0).toList==(⟨#[117,115,101,114]⟩:ByteArray).toList) then ((F29 (all.getD (Int.toNat i40) default) 2).toList==(⟨#[97,108,108]⟩:ByteArray).toList) else false) then (.ret true) else (.next (i40+1))) else (.done i40)
def F22 (all:List l52Cut):Bool :=
 (runL (Xb all) ((Int.toNat ((all.length:Int)-0))+1) 0).fin (fun r=>r) (fun i40=>false)
abbrev Qba (all:List l52Cut):Nat×Int:=(((Int.toNat ((all.length:Int)-0))+1),0)
abbrev Qng (all:List l52Cut) (m39:Nat) (i40:Int):Prop:=Int.toNat ((all.length:Int)-i40)<m39∧(0:Int)≤i40
abbrev Quu (all:List l52Cut):Lp Int Bool:=LpX (Xb all) (Qba all)
abbrev Qbn (all:List l52Cut) (i:Nat×Int):Prop:=LpJ (Xb all) (Qba all) i (Qng all i.1 i.2)
abbrev Uce (all:List l52Cut) (i:Nat×Int) (m39:Nat) (i40:Int):Prop:=LpH (Xb all) (Qba all) i m39 i40 (Qng all (m39+1) i40)
abbrev Qwq (all:List l52Cut) (i40:Int) (i40_:Int) (K39:Prop):Prop:=((.int .i64 i40:Value)=.int .i64 i40_)∧(Im (.l 1 Qk all))∧K39
theorem un22_0 (all:List l52Cut) (i:Nat×Int) (h:Qbn all i):Uce all i (i.1-1) i.2:=⟨hd1 h.1 h.2.1,hd3 h.2.1,hd2 h.2.1,h.2.2⟩
theorem bk22_0 (all:List l52Cut) (i:Nat×Int) (m39:Nat) (i40:Int) (hl:m39<i.1) (e:runL (Xb all) m39 i40=Quu all) (h:Qng all m39 i40):∃ j:Nat×Int,Qwq all i40 j.2 (Qbn all j∧j.1<i.1):=⟨(m39,i40),rfl,Imp.refl _,⟨e,h⟩,hl⟩
theorem en22_0 (all:List l52Cut) (h:(0:Int)≤0):Qwq all 0 0 (Qbn all (Qba all)):=⟨rfl,Imp.refl _,rfl,Nat.lt_succ_self _,h⟩
def S22 (all:List l52Cut):Spec:=⟨[.r (.c (.l 1 Qk all))],.v (.bool (F22 all)),True⟩
theorem ok22 (all:List l52Cut):(S22 all).ok Tryz.prog 22 :=
 Qi mixed (fn:=Tryz.f22) (ct:=.seqk [(0,0)] .no (.seq (.seqk [(0,0)] .no (.blk (.loop (ι:=Nat×Int) (fun i=>(fun (i40:Int)=>(⟨[(0,some (.h 0 0)),(3,some (.v (vI i40)))],[(0,some (.shr none (.l 1 Qk all)))],1⟩:St)) i.2) (Qbn all) (fun i=>i.1) (Qba all) (fun i=>(fun (i40:Int)=>(.seq (.seq .no (.cond .no .no)) (.seq (.blk (.seq (.reg [(4,kh29 (all.getD (Int.toNat i40) default) 0),(11,kh29 (all.getD (Int.toNat i40) default) 2)]) (.cond (.seq .no .no) .no))) (.reg [(1,.bnd)])))) i.2)))) (.seq .no .no))) Tryz.func22 (fun (_:True)=>kn all fun _=>kn all fun _=>ai (en22_0 all (by omega)) (fun (i0:Nat×Int) (hi0:Qbn all i0)=>(fun (m0:Nat) (i40:Int) (hh0:Uce all i0 m0 i40)=>have hI0:=hh0.1; have hl0:=hh0.2.1; have _:=hh0.2.2.1; have _:=hh0.2.2.2; ifd (i40<(all.length:Int)) (fun h2 _=>ai (by omega:ib i40 all) (kc29 (all.getD (Int.toNat i40) default) 0 (by omega) (ai (fun k3:((F29 (all.getD (Int.toNat i40) default) 0).toList==w10_.toList)=true=>(by omega:ib i40 all)) (kg29 ((F29 (all.getD (Int.toNat i40) default) 0).toList==w10_.toList) true (all.getD (Int.toNat i40) default) 2 (fun k4=>(by omega)) (ifb (bif ((F29 (all.getD (Int.toNat i40) default) 0).toList==w10_.toList) then ((F29 (all.getD (Int.toNat i40) default) 2).toList==w11_.toList) else false) (fun h5=>have _:((F29 (all.getD (Int.toNat i40) default) 0).toList==w10_.toList)=true:=(Qn h5); have _:((F29 (all.getD (Int.toNat i40) default) 2).toList==w11_.toList)=true:=(Qy h5); fiB true (F22 all) (finR (Qt hI0 (condT h2 (condT h5 rfl))) rfl)) (fun h5=>ai (iok (i40+1) (by omega)) (bk22_0 all i0 m0 (i40+1) hl0 (Qe hI0 (condT h2 (condF h5 rfl))) (by refine ⟨?_,?_⟩ <;> omega)))))))) (fun h2 _=>have hD0_6:Quu all=Lp.done i40:=Qj hI0 (condF h2 rfl); fiB false (F22 all) (finD hD0_6 rfl))) (i0.1-1) i0.2 (un22_0 all i0 hi0))) (by kernel_rfl)
def Bj (all:List l52Cut) (name:ByteArray):(Int×Int)→Lp (Int×Int) Int:=fun (n,i40) =>
 bif (decide (i40<(all.length:Int))) then (bif (bif ((F29 (all.getD (Int.toNat i40) default) 0).toList==(⟨#[114,117,108,101]⟩:ByteArray).toList) then ((F29 (all.getD (Int.toNat i40) default) 1).toList==name.toList) else false) then (.next ((n+1),(i40+1))) else (.next (n,(i40+1)))) else (.done (n,i40))
def F38 (all:List l52Cut) (name:ByteArray):Int :=
 (runL (Bj all name) ((Int.toNat ((all.length:Int)-0))+1) (0,0)).fin (fun r=>r) (fun (n,i40)=>n)
abbrev Qbz (all:List l52Cut):Nat×(Int×Int):=(((Int.toNat ((all.length:Int)-0))+1),(0,0))
abbrev Qll (all:List l52Cut) (m39:Nat) (n:Int) (i40:Int):Prop:=Int.toNat ((all.length:Int)-i40)<m39∧(0:Int)≤n∧(n:Int)≤i40∧(0:Int)≤n∧(0:Int)≤i40
abbrev Qvo (all:List l52Cut) (name:ByteArray):Lp (Int×Int) Int:=LpX (Bj all name) (Qbz all)
abbrev Qbc (all:List l52Cut) (name:ByteArray) (i:Nat×(Int×Int)):Prop:=LpJ (Bj all name) (Qbz all) i (Qll all i.1 i.2.1 i.2.2)
abbrev Qwv (all:List l52Cut) (name:ByteArray) (i:Nat×(Int×Int)) (m39:Nat) (n:Int) (i40:Int):Prop:=LpH (Bj all name) (Qbz all) i m39 (n,i40) (Qll all (m39+1) n i40)
abbrev Qym (all:List l52Cut) (name:ByteArray) (n:Int) (i40:Int) (n_:Int) (i40_:Int) (K39:Prop):Prop:=(Rf (.string name))∧((.int .i64 n:Value)=.int .i64 n_)∧((.int .i64 i40:Value)=.int .i64 i40_)∧(Im (.l 1 Qk all))∧K39
theorem un38_0 (all:List l52Cut) (name:ByteArray) (i:Nat×(Int×Int)) (h:Qbc all name i):Qwv all name i (i.1-1) i.2.1 i.2.2:=⟨hd1 h.1 h.2.1,hd3 h.2.1,hd2 h.2.1,h.2.2⟩
theorem Ubn (all:List l52Cut) (name:ByteArray) (i:Nat×(Int×Int)) (m39:Nat) (n:Int) (i40:Int) (hl:m39<i.1) (e:runL (Bj all name) m39 (n,i40)=Qvo all name) (h:Qll all m39 n i40):∃ j:Nat×(Int×Int),Qym all name n i40 j.2.1 j.2.2 (Qbc all name j∧j.1<i.1):=⟨(m39,(n,i40)),rfl,rfl,rfl,Imp.refl _,⟨e,h⟩,hl⟩
theorem en38_0 (all:List l52Cut) (name:ByteArray) (h:(0:Int)≤0∧(0:Int)≤0∧(0:Int)≤0∧(0:Int)≤0):Qym all name 0 0 0 0 (Qbc all name (Qbz all)):=⟨rfl,rfl,rfl,Imp.refl _,rfl,Nat.lt_succ_self _,h⟩
def S38 (all:List l52Cut) (name:ByteArray):Spec:=⟨[.r (.c (.l 1 Qk all)),.r (.c (.v (.string name)))],.v (vI (F38 all name)),True⟩
theorem ok38 (all:List l52Cut) (name:ByteArray):(S38 all name).ok Tryz.prog 38 :=
 Qi mixed (fn:=Tryz.f38) (ct:=.seqk [(0,0)] .no (.seq .no (.seq (.seqk [(0,0)] .no (.blk (.loop (ι:=Nat×(Int×Int)) (fun i=>(fun (n:Int) (i40:Int)=>(⟨[(0,some (.h 0 0)),(1,some (.v (.string name))),(5,some (.v (vI n))),(6,some (.v (vI i40)))],[(0,some (.shr none (.l 1 Qk all)))],1⟩:St)) i.2.1 i.2.2) (Qbc all name) (fun i=>i.1) (Qbz all) (fun i=>(fun (n:Int) (i40:Int)=>(.seq (.seq .no (.cond .no .no)) (.seq (.blk (.seq (.reg [(4,kh29 (all.getD (Int.toNat i40) default) 0),(11,kh29 (all.getD (Int.toNat i40) default) 1)]) (.cond (.reg [(1,.bnd)]) .no))) (.reg [(1,.bnd)])))) i.2.1 i.2.2)))) (.seq .no .no)))) Tryz.func38 (fun (_:True)=>kn all fun _=>kn all fun _=>ai (en38_0 all name (by refine ⟨?_,?_,?_,?_⟩ <;> omega)) (fun (i0:Nat×(Int×Int)) (hi0:Qbc all name i0)=>(fun (m0:Nat) (n:Int) (i40:Int) (hh0:Qwv all name i0 m0 n i40)=>have hI0:=hh0.1; have hl0:=hh0.2.1; have _:=hh0.2.2.1; have _:=hh0.2.2.2; ifd (i40<(all.length:Int)) (fun h2 _=>ai (by omega:ib i40 all) (kc29 (all.getD (Int.toNat i40) default) 0 (by omega) (ai (fun k3:((F29 (all.getD (Int.toNat i40) default) 0).toList==w9_.toList)=true=>(by omega:ib i40 all)) (kg29 ((F29 (all.getD (Int.toNat i40) default) 0).toList==w9_.toList) true (all.getD (Int.toNat i40) default) 1 (fun k4=>(by omega)) (ifb (bif ((F29 (all.getD (Int.toNat i40) default) 0).toList==w9_.toList) then ((F29 (all.getD (Int.toNat i40) default) 1).toList==name.toList) else false) (fun h5=>have _:((F29 (all.getD (Int.toNat i40) default) 0).toList==w9_.toList)=true:=(Qn h5); have _:=(Qy h5); ai (iok (n+1) (by omega)) (ai (iok (i40+1) (by omega)) (Ubn all name i0 m0 (n+1) (i40+1) hl0 (Qe hI0 (condT h2 (condT h5 rfl))) (by refine ⟨?_,?_,?_,?_,?_⟩ <;> omega)))) (fun h5=>ai (iok (i40+1) (by omega)) (Ubn all name i0 m0 n (i40+1) hl0 (Qe hI0 (condT h2 (condF h5 rfl))) (by refine ⟨?_,?_,?_,?_,?_⟩ <;> omega)))))))) (fun h2 _=>have hD0_6:Qvo all name=Lp.done (n,i40):=Qj hI0 (condF h2 rfl); fiI n (F38 all name) (finD hD0_6 rfl))) (i0.1-1) i0.2.1 i0.2.2 (un38_0 all name i0 hi0))) (by kernel_rfl)
theorem kg38 {K_:Prop} (c_ b_:Bool) (all:List l52Cut) (name:ByteArray) (k_:K_):(c_=b_→True)∧(c_=b_→Imp (.l 1 Qk all) (.l 1 Qk all))∧(c_=b_→Imp (.v (.string name)) (.v (.string name)))∧K_:=⟨fun _=>trivial,fun _=>Imp.refl _,fun _=>Imp.refl _,k_⟩
abbrev kh38 (all:List l52Cut) (name:ByteArray):Hint true Tryz.prog:=.call 38 (S38 all name) (ok38 all name) none
def Xv (all:List l52Cut):Int→Lp Int Bool:=fun i40 =>
 bif (decide (i40<(all.length:Int))) then (bif (bif (bif ((F29 (all.getD (Int.toNat i40) default) 0).toList==(⟨#[112,111,114,116]⟩:ByteArray).toList) then (!((F29 (all.getD (Int.toNat i40) default) 4).toList==(⟨#[]⟩:ByteArray).toList)) else false) then ((F38 all (F29 (all.getD (Int.toNat i40) default) 4))==0) else false) then (.ret false) else (bif (bif ((F29 (all.getD (Int.toNat i40) default) 0).toList==(⟨#[114,117,108,101]⟩:ByteArray).toList) then decide ((F38 all (F29 (all.getD (Int.toNat i40) default) 1))>12) else false) then (.ret false) else (.next (i40+1)))) else (.done i40)
def F23 (all:List l52Cut):Bool :=
 (runL (Xv all) ((Int.toNat ((all.length:Int)-0))+1) 0).fin (fun r=>r) (fun i40=>true)
abbrev Qak (all:List l52Cut):Nat×Int:=(((Int.toNat ((all.length:Int)-0))+1),0)
abbrev Qmi (all:List l52Cut) (m39:Nat) (i40:Int):Prop:=Int.toNat ((all.length:Int)-i40)<m39∧(0:Int)≤i40
abbrev Uco (all:List l52Cut):Lp Int Bool:=LpX (Xv all) (Qak all)
abbrev Tn (all:List l52Cut) (i:Nat×Int):Prop:=LpJ (Xv all) (Qak all) i (Qmi all i.1 i.2)
abbrev Qyy (all:List l52Cut) (i:Nat×Int) (m39:Nat) (i40:Int):Prop:=LpH (Xv all) (Qak all) i m39 i40 (Qmi all (m39+1) i40)
abbrev Qzj (all:List l52Cut) (i40:Int) (i40_:Int) (K39:Prop):Prop:=((.int .i64 i40:Value)=.int .i64 i40_)∧(Im (.l 1 Qk all))∧K39
theorem un23_0 (all:List l52Cut) (i:Nat×Int) (h:Tn all i):Qyy all i (i.1-1) i.2:=⟨hd1 h.1 h.2.1,hd3 h.2.1,hd2 h.2.1,h.2.2⟩
theorem bk23_0 (all:List l52Cut) (i:Nat×Int) (m39:Nat) (i40:Int) (hl:m39<i.1) (e:runL (Xv all) m39 i40=Uco all) (h:Qmi all m39 i40):∃ j:Nat×Int,Qzj all i40 j.2 (Tn all j∧j.1<i.1):=⟨(m39,i40),rfl,Imp.refl _,⟨e,h⟩,hl⟩
theorem en23_0 (all:List l52Cut) (h:(0:Int)≤0):Qzj all 0 0 (Tn all (Qak all)):=⟨rfl,Imp.refl _,rfl,Nat.lt_succ_self _,h⟩
def S23 (all:List l52Cut):Spec:=⟨[.r (.c (.l 1 Qk all))],.v (.bool (F23 all)),True⟩
abbrev Up (all:List l52Cut) (i40:Int):=(all.getD (Int.toNat i40) default)
theorem ok23 (all:List l52Cut):(S23 all).ok Tryz.prog 23 :=
 Qi mixed (fn:=Tryz.f23) (ct:=.seqk [(0,0)] .no (.seq (.seqk [(0,0)] .no (.blk (.loop (ι:=Nat×Int) (fun i=>(fun (i40:Int)=>(⟨[(0,some (.h 0 0)),(3,some (.v (vI i40)))],[(0,some (.shr none (.l 1 Qk all)))],1⟩:St)) i.2) (Tn all) (fun i=>i.1) (Qak all) (fun i=>(fun (i40:Int)=>(.seq (.seq .no (.cond .no .no)) (.seq (.blk (.seq (.seq (.reg [(4,kh29 (Up all i40) 0),(11,kh29 (Up all i40) 4),(20,kh29 (Up all i40) 4),(21,kh38 all (F29 (Up all i40) 4))]) (.cond (.seq .no .no) .no)) (.seq (.reg [(4,kh29 (Up all i40) 0),(12,kh29 (Up all i40) 1),(13,kh38 all (F29 (Up all i40) 1))]) (.cond (.seq .no .no) .no)))) (.reg [(1,.bnd)])))) i.2)))) (.seq .no .no))) Tryz.func23 (fun (_:True)=>kn all fun _=>kn all fun _=>ai (en23_0 all (by omega)) (fun (i0:Nat×Int) (hi0:Tn all i0)=>(fun (m0:Nat) (i40:Int) (hh0:Qyy all i0 m0 i40)=>have hI0:=hh0.1; have hl0:=hh0.2.1; have _:=hh0.2.2.1; have _:=hh0.2.2.2; ifd (i40<(all.length:Int)) (fun h2 _=>ai (by omega:ib i40 all) (kc29 (Up all i40) 0 (by omega) (ai (fun k3:((F29 (Up all i40) 0).toList==w7_.toList)=true=>(by omega:ib i40 all)) (kg29 ((F29 (Up all i40) 0).toList==w7_.toList) true (Up all i40) 4 (fun k4=>(by omega)) (ai (fun k5:(bif ((F29 (Up all i40) 0).toList==w7_.toList) then (!((F29 (Up all i40) 4).toList==w13_.toList)) else false)=true=>have _:((F29 (Up all i40) 0).toList==w7_.toList)=true:=(Qn k5); have _:(!((F29 (Up all i40) 4).toList==w13_.toList))=true:=(Qy k5); (by omega:ib i40 all)) (kg29 (bif ((F29 (Up all i40) 0).toList==w7_.toList) then (!((F29 (Up all i40) 4).toList==w13_.toList)) else false) true (Up all i40) 4 (fun k6=>have _:((F29 (Up all i40) 0).toList==w7_.toList)=true:=(Qn k6); have _:(!((F29 (Up all i40) 4).toList==w13_.toList))=true:=(Qy k6); (by omega)) (kg38 (bif ((F29 (Up all i40) 0).toList==w7_.toList) then (!((F29 (Up all i40) 4).toList==w13_.toList)) else false) true all (F29 (Up all i40) 4) (ifb (bif (bif ((F29 (Up all i40) 0).toList==w7_.toList) then (!((F29 (Up all i40) 4).toList==w13_.toList)) else false) then ((F38 all (F29 (Up all i40) 4))==0) else false) (fun h8=>have _:((F29 (Up all i40) 0).toList==w7_.toList)=true:=(Qn (Qn h8)); have _:(!((F29 (Up all i40) 4).toList==w13_.toList))=true:=(Qy (Qn h8)); have _:=eq_of_beq (Qy h8); fiB false (F23 all) (finR (Qt hI0 (condT h2 (condT h8 rfl))) rfl)) (fun h8=>ai (by omega:ib i40 all) (kc29 (Up all i40) 0 (by omega) (ai (fun k9:((F29 (Up all i40) 0).toList==w9_.toList)=true=>(by omega:ib i40 all)) (kg29 ((F29 (Up all i40) 0).toList==w9_.toList) true (Up all i40) 1 (fun k10=>(by omega)) (kg38 ((F29 (Up all i40) 0).toList==w9_.toList) true all (F29 (Up all i40) 1) (ifb (bif ((F29 (Up all i40) 0).toList==w9_.toList) then decide ((F38 all (F29 (Up all i40) 1))>12) else false) (fun h12=>have _:((F29 (Up all i40) 0).toList==w9_.toList)=true:=(Qn h12); have _:=of_decide_eq_true (Qy h12); fiB false (F23 all) (finR (Qt hI0 (condT h2 (condF h8 (condT h12 rfl)))) rfl)) (fun h12=>ai (iok (i40+1) (by omega)) (bk23_0 all i0 m0 (i40+1) hl0 (Qe hI0 (condT h2 (condF h8 (condF h12 rfl)))) (by refine ⟨?_,?_⟩ <;> omega))))))))))))))))) (fun h2 _=>have hD0_13:Uco all=Lp.done i40:=Qj hI0 (condF h2 rfl); fiB true (F23 all) (finD hD0_13 rfl))) (i0.1-1) i0.2 (un23_0 all i0 hi0))) (by kernel_rfl)
def Bx (all:List l52Cut) (i40:Int):Int→Lp Int Bool:=fun k =>
 bif (decide (k<i40)) then (bif (bif (!((F29 (all.getD (Int.toNat i40) default) 0).toList==(⟨#[112,111,114,116]⟩:ByteArray).toList)) then true else (!((F29 (all.getD (Int.toNat k) default) 0).toList==(⟨#[112,111,114,116]⟩:ByteArray).toList))) then (.next (k+1)) else (bif (bif decide ((F39 (F29 (all.getD (Int.toNat i40) default) 2)).1<(IntKind.i64.wrap ((F39 (F29 (all.getD (Int.toNat k) default) 2)).1+(F39 (F29 (all.getD (Int.toNat k) default) 2)).2))) then decide ((F39 (F29 (all.getD (Int.toNat k) default) 2)).1<(IntKind.i64.wrap ((F39 (F29 (all.getD (Int.toNat i40) default) 2)).1+(F39 (F29 (all.getD (Int.toNat i40) default) 2)).2))) else false) then (.ret false) else (.next (k+1)))) else (.done k)
def Bm (all:List l52Cut):Int→Lp Int Bool:=fun i40 =>
 bif (decide (i40<(all.length:Int))) then ((runL (Bx all i40) ((Int.toNat (i40-0))+1) 0).fin Lp.ret (fun k=>.next (i40+1))) else (.done i40)
def F24 (all:List l52Cut):Bool :=
 (runL (Bm all) ((Int.toNat ((all.length:Int)-0))+1) 0).fin (fun r=>r) (fun i40=>true)
abbrev Tf (i40:Int):Nat×Int:=(((Int.toNat (i40-0))+1),0)
abbrev Qnc (i40:Int) (m39:Nat) (k:Int):Prop:=Int.toNat (i40-k)<m39∧(0:Int)≤k
abbrev Ube (all:List l52Cut) (i40:Int):Lp Int Bool:=LpX (Bx all i40) (Tf i40)
abbrev Qci (all:List l52Cut) (i40:Int) (i:Nat×Int):Prop:=LpJ (Bx all i40) (Tf i40) i (Qnc i40 i.1 i.2)
abbrev Qxt (all:List l52Cut) (i40:Int) (i:Nat×Int) (m39:Nat) (k:Int):Prop:=LpH (Bx all i40) (Tf i40) i m39 k (Qnc i40 (m39+1) k)
abbrev Quf (all:List l52Cut) (i40:Int) (k:Int) (k_:Int) (K39:Prop):Prop:=(Rf (.int .i64 i40))∧((.int .i64 k:Value)=.int .i64 k_)∧(Im (.l 1 Qk all))∧K39
theorem un24_1 (all:List l52Cut) (i40:Int) (i:Nat×Int) (h:Qci all i40 i):Qxt all i40 i (i.1-1) i.2:=⟨hd1 h.1 h.2.1,hd3 h.2.1,hd2 h.2.1,h.2.2⟩
theorem Qzw (all:List l52Cut) (i40:Int) (i:Nat×Int) (m39:Nat) (k:Int) (hl:m39<i.1) (e:runL (Bx all i40) m39 k=Ube all i40) (h:Qnc i40 m39 k):∃ j:Nat×Int,Quf all i40 k j.2 (Qci all i40 j∧j.1<i.1):=⟨(m39,k),rfl,rfl,Imp.refl _,⟨e,h⟩,hl⟩
theorem en24_1 (all:List l52Cut) (i40:Int) (h:(0:Int)≤0):Quf all i40 0 0 (Qci all i40 (Tf i40)):=⟨rfl,rfl,Imp.refl _,rfl,Nat.lt_succ_self _,h⟩
abbrev Eb (all:List l52Cut):Nat×Int:=(((Int.toNat ((all.length:Int)-0))+1),0)
abbrev Qlg (all:List l52Cut) (m39:Nat) (i40:Int):Prop:=Int.toNat ((all.length:Int)-i40)<m39∧(0:Int)≤i40
abbrev Qtn (all:List l52Cut):Lp Int Bool:=LpX (Bm all) (Eb all)
abbrev Qay (all:List l52Cut) (i:Nat×Int):Prop:=LpJ (Bm all) (Eb all) i (Qlg all i.1 i.2)
abbrev Qxo (all:List l52Cut) (i:Nat×Int) (m39:Nat) (i40:Int):Prop:=LpH (Bm all) (Eb all) i m39 i40 (Qlg all (m39+1) i40)
abbrev Qzb (all:List l52Cut) (i40:Int) (i40_:Int) (K39:Prop):Prop:=((.int .i64 i40:Value)=.int .i64 i40_)∧(Im (.l 1 Qk all))∧K39
theorem un24_0 (all:List l52Cut) (i:Nat×Int) (h:Qay all i):Qxo all i (i.1-1) i.2:=⟨hd1 h.1 h.2.1,hd3 h.2.1,hd2 h.2.1,h.2.2⟩
theorem bk24_0 (all:List l52Cut) (i:Nat×Int) (m39:Nat) (i40:Int) (hl:m39<i.1) (e:runL (Bm all) m39 i40=Qtn all) (h:Qlg all m39 i40):∃ j:Nat×Int,Qzb all i40 j.2 (Qay all j∧j.1<i.1):=⟨(m39,i40),rfl,Imp.refl _,⟨e,h⟩,hl⟩
theorem en24_0 (all:List l52Cut) (h:(0:Int)≤0):Qzb all 0 0 (Qay all (Eb all)):=⟨rfl,Imp.refl _,rfl,Nat.lt_succ_self _,h⟩
def S24 (all:List l52Cut):Spec:=⟨[.r (.c (.l 1 Qk all))],.v (.bool (F24 all)),(∀ k j:Nat,((all.getD k default).w.getD j default).size≤1048576)⟩
abbrev Ju (all:List l52Cut) (i40:Int):=(all.getD (Int.toNat i40) default)
abbrev Bw (all:List l52Cut) (k:Int):=(all.getD (Int.toNat k) default)
theorem ok24 (all:List l52Cut):(S24 all).ok Tryz.prog 24 :=
 Qi mixed (fn:=Tryz.f24) (ct:=.seqk [(0,0)] .no (.seq (.seqk [(0,0)] .no (.blk (.loop (ι:=Nat×Int) (fun i=>(fun (i40:Int)=>(⟨[(0,some (.h 0 0)),(3,some (.v (vI i40)))],[(0,some (.shr none (.l 1 Qk all)))],1⟩:St)) i.2) (Qay all) (fun i=>i.1) (Eb all) (fun i=>(fun (i40:Int)=>(.seq (.seq .no (.cond .no .no)) (.seq (.blk (.seqk [(0,0)] .no (.blk (.loop (ι:=Nat×Int) (fun i=>(fun (k:Int)=>(⟨[(0,some (.h 0 0)),(3,some (.v (vI i40))),(4,some (.v (vI k)))],[(0,some (.shr none (.l 1 Qk all)))],1⟩:St)) i.2) (Qci all i40) (fun i=>i.1) (Tf i40) (fun i=>(fun (k:Int)=>(.seq (.seq .no (.cond .no .no)) (.seq (.blk (.seq (.seq (.reg [(4,kh29 (Ju all i40) 0),(11,kh29 (Bw all k) 0)]) (.cond .no .no)) (.seq (.reg [(4,kh29 (Ju all i40) 2),(5,kh39 (F29 (Ju all i40) 2))]) (.seq (.reg [(4,kh29 (Bw all k) 2),(5,kh39 (F29 (Bw all k) 2))]) (.seq .no (.cond (.seq .no .no) .no)))))) (.reg [(1,.bnd)])))) i.2))))) (.reg [(1,.bnd)])))) i.2)))) (.seq .no .no))) Tryz.func24 (fun (hpre0:∀ k j:Nat,((all.getD k default).w.getD j default).size≤1048576)=>kn all fun _=>kn all fun _=>ai (en24_0 all (by omega)) (fun (i0:Nat×Int) (hi0:Qay all i0)=>(fun (m0:Nat) (i40:Int) (hh0:Qxo all i0 m0 i40)=>have hI0:=hh0.1; have hl0:=hh0.2.1; have _:=hh0.2.2.1; have _:=hh0.2.2.2; ifd (i40<(all.length:Int)) (fun h2 _=>kn all fun _=>ai (en24_1 all i40 (by omega)) (fun (i1:Nat×Int) (hi1:Qci all i40 i1)=>(fun (m1:Nat) (k:Int) (hh1:Qxt all i40 i1 m1 k)=>have hI1:=hh1.1; have hl1:=hh1.2.1; have _:=hh1.2.2.1; have _:=hh1.2.2.2; ifd (k<i40) (fun h4 _=>ai (by omega:ib i40 all) (kc29 (Ju all i40) 0 (by omega) (ai (fun k5:(!((F29 (Ju all i40) 0).toList==w7_.toList))=false=>(by omega:ib k all)) (kg29 (!((F29 (Ju all i40) 0).toList==w7_.toList)) false (Bw all k) 0 (fun k6=>(by omega)) (ifb (bif (!((F29 (Ju all i40) 0).toList==w7_.toList)) then true else (!((F29 (Bw all k) 0).toList==w7_.toList))) (fun h7=>ai (iok (k+1) (by omega)) (Qzw all i40 i1 m1 (k+1) hl1 (Qe hI1 (condT h4 (condT h7 rfl))) (by refine ⟨?_,?_⟩ <;> omega))) (fun h7=>have _:(!((F29 (Ju all i40) 0).toList==w7_.toList))=false:=(orF1 h7); have _:(!((F29 (Bw all k) 0).toList==w7_.toList))=false:=(orF2 h7); ai (by omega:ib i40 all) (kc29 (Ju all i40) 2 (by omega) (kc39 (F29 (Ju all i40) 2) (by exact Wn all (by assumption) _ _) (ai (by omega:ib k all) (kc29 (Bw all k) 2 (by omega) (kc39 (F29 (Bw all k) 2) (by exact Wn all (by assumption) _ _) (ifb (bif decide ((F39 (F29 (Ju all i40) 2)).1<(IntKind.i64.wrap ((F39 (F29 (Bw all k) 2)).1+(F39 (F29 (Bw all k) 2)).2))) then decide ((F39 (F29 (Bw all k) 2)).1<(IntKind.i64.wrap ((F39 (F29 (Ju all i40) 2)).1+(F39 (F29 (Ju all i40) 2)).2))) else false) (fun h8=>have _:=of_decide_eq_true (Qn h8); have _:=of_decide_eq_true (Qy h8); fiB false (F24 all) (finR (Qt hI0 (condT h2 (finR (Qt hI1 (condT h4 (condF h7 (condT h8 rfl)))) rfl))) rfl)) (fun h8=>ai (iok (k+1) (by omega)) (Qzw all i40 i1 m1 (k+1) hl1 (Qe hI1 (condT h4 (condF h7 (condF h8 rfl)))) (by refine ⟨?_,?_⟩ <;> omega))))))))))))))) (fun h4 _=>have hD1_9:Ube all i40=Lp.done k:=Qj hI1 (condF h4 rfl); ai (iok (i40+1) (by omega)) (bk24_0 all i0 m0 (i40+1) hl0 (Qe hI0 (condT h2 (finD hD1_9 rfl))) (by refine ⟨?_,?_⟩ <;> omega)))) (i1.1-1) i1.2 (un24_1 all i40 i1 hi1))) (fun h2 _=>have hD0_10:Qtn all=Lp.done i40:=Qj hI0 (condF h2 rfl); fiB true (F24 all) (finD hD0_10 rfl))) (i0.1-1) i0.2 (un24_0 all i0 hi0))) (by kernel_rfl)
def Bn (all:List l52Cut) (addr:Int):Int→Lp Int Bool:=fun i40 =>
 bif (decide (i40<(all.length:Int))) then (bif ((F29 (all.getD (Int.toNat i40) default) 0).toList==(⟨#[112,111,114,116]⟩:ByteArray).toList) then (bif (bif decide (addr>(F39 (F29 (all.getD (Int.toNat i40) default) 2)).1) then decide (addr<(IntKind.i64.wrap ((F39 (F29 (all.getD (Int.toNat i40) default) 2)).1+(F39 (F29 (all.getD (Int.toNat i40) default) 2)).2))) else false) then (.ret true) else (.next (i40+1))) else (.next (i40+1))) else (.done i40)
def F40 (all:List l52Cut) (addr:Int):Bool :=
 (runL (Bn all addr) ((Int.toNat ((all.length:Int)-0))+1) 0).fin (fun r=>r) (fun i40=>false)
abbrev Qcp (all:List l52Cut):Nat×Int:=(((Int.toNat ((all.length:Int)-0))+1),0)
abbrev Qoj (all:List l52Cut) (m39:Nat) (i40:Int):Prop:=Int.toNat ((all.length:Int)-i40)<m39∧(0:Int)≤i40
abbrev Qvu (all:List l52Cut) (addr:Int):Lp Int Bool:=LpX (Bn all addr) (Qcp all)
abbrev Qcw (all:List l52Cut) (addr:Int) (i:Nat×Int):Prop:=LpJ (Bn all addr) (Qcp all) i (Qoj all i.1 i.2)
abbrev Ucp (all:List l52Cut) (addr:Int) (i:Nat×Int) (m39:Nat) (i40:Int):Prop:=LpH (Bn all addr) (Qcp all) i m39 i40 (Qoj all (m39+1) i40)
abbrev Ucj (all:List l52Cut) (addr:Int) (i40:Int) (i40_:Int) (K39:Prop):Prop:=(Rf (.int .i64 addr))∧((.int .i64 i40:Value)=.int .i64 i40_)∧(Im (.l 1 Qk all))∧K39
theorem un40_0 (all:List l52Cut) (addr:Int) (i:Nat×Int) (h:Qcw all addr i):Ucp all addr i (i.1-1) i.2:=⟨hd1 h.1 h.2.1,hd3 h.2.1,hd2 h.2.1,h.2.2⟩
theorem Qzf (all:List l52Cut) (addr:Int) (i:Nat×Int) (m39:Nat) (i40:Int) (hl:m39<i.1) (e:runL (Bn all addr) m39 i40=Qvu all addr) (h:Qoj all m39 i40):∃ j:Nat×Int,Ucj all addr i40 j.2 (Qcw all addr j∧j.1<i.1):=⟨(m39,i40),rfl,rfl,Imp.refl _,⟨e,h⟩,hl⟩
theorem en40_0 (all:List l52Cut) (addr:Int) (h:(0:Int)≤0):Ucj all addr 0 0 (Qcw all addr (Qcp all)):=⟨rfl,rfl,Imp.refl _,rfl,Nat.lt_succ_self _,h⟩
def S40 (all:List l52Cut) (addr:Int):Spec:=⟨[.r (.c (.l 1 Qk all)),.r (.c (.v (vI addr)))],.v (.bool (F40 all addr)),(∀ k j:Nat,((all.getD k default).w.getD j default).size≤1048576)⟩
theorem ok40 (all:List l52Cut) (addr:Int):(S40 all addr).ok Tryz.prog 40 :=
 Qi mixed (fn:=Tryz.f40) (ct:=.seqk [(0,0)] .no (.seq (.seqk [(0,0)] .no (.blk (.loop (ι:=Nat×Int) (fun i=>(fun (i40:Int)=>(⟨[(0,some (.h 0 0)),(1,some (.v (vI addr))),(5,some (.v (vI i40)))],[(0,some (.shr none (.l 1 Qk all)))],1⟩:St)) i.2) (Qcw all addr) (fun i=>i.1) (Qcp all) (fun i=>(fun (i40:Int)=>(.seq (.seq .no (.cond .no .no)) (.seq (.blk (.seq (.reg [(4,kh29 (all.getD (Int.toNat i40) default) 0)]) (.cond (.seq (.reg [(4,kh29 (all.getD (Int.toNat i40) default) 2),(5,kh39 (F29 (all.getD (Int.toNat i40) default) 2))]) (.seq .no (.cond (.seq .no .no) .no))) .no))) (.reg [(1,.bnd)])))) i.2)))) (.seq .no .no))) Tryz.func40 (fun (hpre0:∀ k j:Nat,((all.getD k default).w.getD j default).size≤1048576)=>kn all fun _=>kn all fun _=>ai (en40_0 all addr (by omega)) (fun (i0:Nat×Int) (hi0:Qcw all addr i0)=>(fun (m0:Nat) (i40:Int) (hh0:Ucp all addr i0 m0 i40)=>have hI0:=hh0.1; have hl0:=hh0.2.1; have _:=hh0.2.2.1; have _:=hh0.2.2.2; ifd (i40<(all.length:Int)) (fun h2 _=>ai (by omega:ib i40 all) (kc29 (all.getD (Int.toNat i40) default) 0 (by omega) (ifb ((F29 (all.getD (Int.toNat i40) default) 0).toList==w7_.toList) (fun h3=>ai (by omega:ib i40 all) (kc29 (all.getD (Int.toNat i40) default) 2 (by omega) (kc39 (F29 (all.getD (Int.toNat i40) default) 2) (by exact Wn all (by assumption) _ _) (ifb (bif decide (addr>(F39 (F29 (all.getD (Int.toNat i40) default) 2)).1) then decide (addr<(IntKind.i64.wrap ((F39 (F29 (all.getD (Int.toNat i40) default) 2)).1+(F39 (F29 (all.getD (Int.toNat i40) default) 2)).2))) else false) (fun h4=>have _:=of_decide_eq_true (Qn h4); have _:=of_decide_eq_true (Qy h4); fiB true (F40 all addr) (finR (Qt hI0 (condT h2 (condT h3 (condT h4 rfl)))) rfl)) (fun h4=>ai (iok (i40+1) (by omega)) (Qzf all addr i0 m0 (i40+1) hl0 (Qe hI0 (condT h2 (condT h3 (condF h4 rfl)))) (by refine ⟨?_,?_⟩ <;> omega))))))) (fun h3=>ai (iok (i40+1) (by omega)) (Qzf all addr i0 m0 (i40+1) hl0 (Qe hI0 (condT h2 (condF h3 rfl))) (by refine ⟨?_,?_⟩ <;> omega)))))) (fun h2 _=>have hD0_5:Qvu all addr=Lp.done i40:=Qj hI0 (condF h2 rfl); fiB false (F40 all addr) (finD hD0_5 rfl))) (i0.1-1) i0.2 (un40_0 all addr i0 hi0))) (by kernel_rfl)
theorem kc40 (all:List l52Cut) (addr:Int) {K_:Prop} (p0_:∀ k j:Nat,((all.getD k default).w.getD j default).size≤1048576) (k_:K_):(∀ k j:Nat,((all.getD k default).w.getD j default).size≤1048576)∧(Imp (.l 1 Qk all) (.l 1 Qk all))∧(Imp (.v (vI addr)) (.v (vI addr)))∧K_:=⟨p0_,Imp.refl _,Imp.refl _,k_⟩
abbrev kh40 (all:List l52Cut) (addr:Int):Hint true Tryz.prog:=.call 40 (S40 all addr) (ok40 all addr) none
def Ba (all:List l52Cut):Int→Lp Int Bool:=fun i40 =>
 bif (decide (i40<(all.length:Int))) then (bif ((F29 (all.getD (Int.toNat i40) default) 0).toList==(⟨#[114,111,117,116,101]⟩:ByteArray).toList) then (bif (!(F40 all (F41 (F29 (all.getD (Int.toNat i40) default) 2)))) then (.ret false) else (.next (i40+1))) else (bif ((F29 (all.getD (Int.toNat i40) default) 0).toList==(⟨#[112,101,101,114]⟩:ByteArray).toList) then (bif (!(F40 all (F41 (F29 (all.getD (Int.toNat i40) default) 1)))) then (.ret false) else (.next (i40+1))) else (.next (i40+1)))) else (.done i40)
def F25 (all:List l52Cut):Bool :=
 (runL (Ba all) ((Int.toNat ((all.length:Int)-0))+1) 0).fin (fun r=>r) (fun i40=>true)
abbrev Ef (all:List l52Cut):Nat×Int:=(((Int.toNat ((all.length:Int)-0))+1),0)
abbrev Qmm (all:List l52Cut) (m39:Nat) (i40:Int):Prop:=Int.toNat ((all.length:Int)-i40)<m39∧(0:Int)≤i40
abbrev Qzi (all:List l52Cut):Lp Int Bool:=LpX (Ba all) (Ef all)
abbrev Qcv (all:List l52Cut) (i:Nat×Int):Prop:=LpJ (Ba all) (Ef all) i (Qmm all i.1 i.2)
abbrev Qwc (all:List l52Cut) (i:Nat×Int) (m39:Nat) (i40:Int):Prop:=LpH (Ba all) (Ef all) i m39 i40 (Qmm all (m39+1) i40)
abbrev Qvn (all:List l52Cut) (i40:Int) (i40_:Int) (K39:Prop):Prop:=((.int .i64 i40:Value)=.int .i64 i40_)∧(Im (.l 1 Qk all))∧K39
theorem un25_0 (all:List l52Cut) (i:Nat×Int) (h:Qcv all i):Qwc all i (i.1-1) i.2:=⟨hd1 h.1 h.2.1,hd3 h.2.1,hd2 h.2.1,h.2.2⟩
theorem Qkw (all:List l52Cut) (i:Nat×Int) (m39:Nat) (i40:Int) (hl:m39<i.1) (e:runL (Ba all) m39 i40=Qzi all) (h:Qmm all m39 i40):∃ j:Nat×Int,Qvn all i40 j.2 (Qcv all j∧j.1<i.1):=⟨(m39,i40),rfl,Imp.refl _,⟨e,h⟩,hl⟩
theorem en25_0 (all:List l52Cut) (h:(0:Int)≤0):Qvn all 0 0 (Qcv all (Ef all)):=⟨rfl,Imp.refl _,rfl,Nat.lt_succ_self _,h⟩
def S25 (all:List l52Cut):Spec:=⟨[.r (.c (.l 1 Qk all))],.v (.bool (F25 all)),(∀ k j:Nat,((all.getD k default).w.getD j default).size≤1048576)⟩
abbrev Kj (all:List l52Cut) (i40:Int):=(all.getD (Int.toNat i40) default)
theorem ok25 (all:List l52Cut):(S25 all).ok Tryz.prog 25 :=
 Qi mixed (fn:=Tryz.f25) (ct:=.seqk [(0,0)] .no (.seq (.seqk [(0,0)] .no (.blk (.loop (ι:=Nat×Int) (fun i=>(fun (i40:Int)=>(⟨[(0,some (.h 0 0)),(3,some (.v (vI i40)))],[(0,some (.shr none (.l 1 Qk all)))],1⟩:St)) i.2) (Qcv all) (fun i=>i.1) (Ef all) (fun i=>(fun (i40:Int)=>(.seq (.seq .no (.cond .no .no)) (.seq (.blk (.seq (.reg [(4,kh29 (Kj all i40) 0)]) (.blk (.seq .no (.cond (.seq (.reg [(5,kh29 (Kj all i40) 2),(6,kh41 (F29 (Kj all i40) 2)),(7,kh40 all (F41 (F29 (Kj all i40) 2)))]) (.cond (.seq .no .no) .no)) (.seq .no (.cond (.seq (.reg [(5,kh29 (Kj all i40) 1),(6,kh41 (F29 (Kj all i40) 1)),(7,kh40 all (F41 (F29 (Kj all i40) 1)))]) (.cond (.seq .no .no) .no)) .no))))))) (.reg [(1,.bnd)])))) i.2)))) (.seq .no .no))) Tryz.func25 (fun (hpre0:∀ k j:Nat,((all.getD k default).w.getD j default).size≤1048576)=>kn all fun _=>kn all fun _=>ai (en25_0 all (by omega)) (fun (i0:Nat×Int) (hi0:Qcv all i0)=>(fun (m0:Nat) (i40:Int) (hh0:Qwc all i0 m0 i40)=>have hI0:=hh0.1; have hl0:=hh0.2.1; have _:=hh0.2.2.1; have _:=hh0.2.2.2; ifd (i40<(all.length:Int)) (fun h2 _=>ai (by omega:ib i40 all) (kc29 (Kj all i40) 0 (by omega) (ifb ((F29 (Kj all i40) 0).toList==w8_.toList) (fun h3=>ai (by omega:ib i40 all) (kc29 (Kj all i40) 2 (by omega) (kc41 (F29 (Kj all i40) 2) (by exact Wn all (by assumption) _ _) (kc40 all (F41 (F29 (Kj all i40) 2)) (by assumption) (ifb (!(F40 all (F41 (F29 (Kj all i40) 2)))) (fun h4=>fiB false (F25 all) (finR (Qt hI0 (condT h2 (condT h3 (condT h4 rfl)))) rfl)) (fun h4=>ai (iok (i40+1) (by omega)) (Qkw all i0 m0 (i40+1) hl0 (Qe hI0 (condT h2 (condT h3 (condF h4 rfl)))) (by refine ⟨?_,?_⟩ <;> omega)))))))) (fun h3=>ifb ((F29 (Kj all i40) 0).toList==w6_.toList) (fun h5=>ai (by omega:ib i40 all) (kc29 (Kj all i40) 1 (by omega) (kc41 (F29 (Kj all i40) 1) (by exact Wn all (by assumption) _ _) (kc40 all (F41 (F29 (Kj all i40) 1)) (by assumption) (ifb (!(F40 all (F41 (F29 (Kj all i40) 1)))) (fun h6=>fiB false (F25 all) (finR (Qt hI0 (condT h2 (condF h3 (condT h5 (condT h6 rfl))))) rfl)) (fun h6=>ai (iok (i40+1) (by omega)) (Qkw all i0 m0 (i40+1) hl0 (Qe hI0 (condT h2 (condF h3 (condT h5 (condF h6 rfl))))) (by refine ⟨?_,?_⟩ <;> omega)))))))) (fun h5=>ai (iok (i40+1) (by omega)) (Qkw all i0 m0 (i40+1) hl0 (Qe hI0 (condT h2 (condF h3 (condF h5 rfl)))) (by refine ⟨?_,?_⟩ <;> omega))))))) (fun h2 _=>have hD0_7:Qzi all=Lp.done i40:=Qj hI0 (condF h2 rfl); fiB true (F25 all) (finD hD0_7 rfl))) (i0.1-1) i0.2 (un25_0 all i0 hi0))) (by kernel_rfl)
def Pe (all:List l52Cut):Int→Lp Int Int:=fun i40 =>
 bif (decide (i40<(all.length:Int))) then (bif ((F29 (all.getD (Int.toNat i40) default) 0).toList==(⟨#[110,97,116]⟩:ByteArray).toList) then (.ret i40) else (.next (i40+1))) else (.done i40)
def F42 (all:List l52Cut):Int :=
 (runL (Pe all) ((Int.toNat ((all.length:Int)-0))+1) 0).fin (fun r=>r) (fun i40=>(-1))
abbrev Er (all:List l52Cut):Nat×Int:=(((Int.toNat ((all.length:Int)-0))+1),0)
abbrev Qmb (all:List l52Cut) (m39:Nat) (i40:Int):Prop:=Int.toNat ((all.length:Int)-i40)<m39∧(0:Int)≤i40
abbrev Qzd (all:List l52Cut):Lp Int Int:=LpX (Pe all) (Er all)
abbrev Tk (all:List l52Cut) (i:Nat×Int):Prop:=LpJ (Pe all) (Er all) i (Qmb all i.1 i.2)
abbrev Qua (all:List l52Cut) (i:Nat×Int) (m39:Nat) (i40:Int):Prop:=LpH (Pe all) (Er all) i m39 i40 (Qmb all (m39+1) i40)
abbrev Qwu (all:List l52Cut) (i40:Int) (i40_:Int) (K39:Prop):Prop:=((.int .i64 i40:Value)=.int .i64 i40_)∧(Im (.l 1 Qk all))∧K39
theorem un42_0 (all:List l52Cut) (i:Nat×Int) (h:Tk all i):Qua all i (i.1-1) i.2:=⟨hd1 h.1 h.2.1,hd3 h.2.1,hd2 h.2.1,h.2.2⟩
theorem bk42_0 (all:List l52Cut) (i:Nat×Int) (m39:Nat) (i40:Int) (hl:m39<i.1) (e:runL (Pe all) m39 i40=Qzd all) (h:Qmb all m39 i40):∃ j:Nat×Int,Qwu all i40 j.2 (Tk all j∧j.1<i.1):=⟨(m39,i40),rfl,Imp.refl _,⟨e,h⟩,hl⟩
theorem en42_0 (all:List l52Cut) (h:(0:Int)≤0):Qwu all 0 0 (Tk all (Er all)):=⟨rfl,Imp.refl _,rfl,Nat.lt_succ_self _,h⟩
def S42 (R:Int) (all:List l52Cut):Spec:=⟨[.r (.c (.l 1 Qk all))],.v (vI R),True⟩
theorem ok42 (all:List l52Cut):(S42 (F42 all) all).ok Tryz.prog 42 :=
 Qi mixed (fn:=Tryz.f42) (ct:=.seqk [(0,0)] .no (.seq (.seqk [(0,0)] .no (.blk (.loop (ι:=Nat×Int) (fun i=>(fun (i40:Int)=>(⟨[(0,some (.h 0 0)),(3,some (.v (vI i40)))],[(0,some (.shr none (.l 1 Qk all)))],1⟩:St)) i.2) (Tk all) (fun i=>i.1) (Er all) (fun i=>(fun (i40:Int)=>(.seq (.seq .no (.cond .no .no)) (.seq (.blk (.seq (.reg [(4,kh29 (all.getD (Int.toNat i40) default) 0)]) (.cond (.seq .no .no) .no))) (.reg [(1,.bnd)])))) i.2)))) (.seq .no .no))) Tryz.func42 (fun (_:True)=>kn all fun _=>kn all fun _=>ai (en42_0 all (by omega)) (fun (i0:Nat×Int) (hi0:Tk all i0)=>(fun (m0:Nat) (i40:Int) (hh0:Qua all i0 m0 i40)=>have hI0:=hh0.1; have hl0:=hh0.2.1; have _:=hh0.2.2.1; have _:=hh0.2.2.2; ifd (i40<(all.length:Int)) (fun h2 _=>ai (by omega:ib i40 all) (kc29 (all.getD (Int.toNat i40) default) 0 (by omega) (ifb ((F29 (all.getD (Int.toNat i40) default) 0).toList==w5_.toList) (fun h3=>fiI i40 (F42 all) (finR (Qt hI0 (condT h2 (condT h3 rfl))) rfl)) (fun h3=>ai (iok (i40+1) (by omega)) (bk42_0 all i0 m0 (i40+1) hl0 (Qe hI0 (condT h2 (condF h3 rfl))) (by refine ⟨?_,?_⟩ <;> omega)))))) (fun h2 _=>have hD0_4:Qzd all=Lp.done i40:=Qj hI0 (condF h2 rfl); fiI (-1) (F42 all) (finD hD0_4 rfl))) (i0.1-1) i0.2 (un42_0 all i0 hi0))) (by kernel_rfl)
theorem as42 (all:List l52Cut):F42 all=(idxI (fun c=>((F29 c 0).toList==(⟨#[110,97,116]⟩:ByteArray).toList)) all):=by
 exact Vd (fun c=>((F29 c 0).toList==(⟨#[110,97,116]⟩:ByteArray).toList)) all (Pe all) (fun i=>rfl)
theorem oa42 (all:List l52Cut):(S42 (idxI (fun c=>((F29 c 0).toList==(⟨#[110,97,116]⟩:ByteArray).toList)) all) all).ok Tryz.prog 42:=by
 intro hp; have h:=ok42 all hp; rw [as42 all] at h; exact h
theorem g42_0 (all:List l52Cut):(idxI (fun c=>((F29 c 0).toList==(⟨#[110,97,116]⟩:ByteArray).toList)) all)<(all.length:Int):=by
 exact Ly _ all
theorem kg30 {K_:Prop} (c_ b_:Bool) (s:ByteArray) (p_:c_=b_→s.size≤1048576) (k_:K_):(c_=b_→s.size≤1048576)∧(c_=b_→Imp (.v (.string s)) (.v (.string s)))∧K_:=⟨p_,fun _=>Imp.refl _,k_⟩
def Bv (all:List l52Cut) (at':Int) (nat:l52Cut):Int→Lp Int Bool:=fun i40 =>
 bif (decide (i40<at')) then (bif (bif (bif (bif ((F29 (all.getD (Int.toNat i40) default) 0).toList==(⟨#[100,111,111,114]⟩:ByteArray).toList) then ((F29 (all.getD (Int.toNat i40) default) 1).toList==(F29 (all.getD (Int.toNat at') default) 1).toList) else false) then ((F29 (all.getD (Int.toNat i40) default) 3).toList==(F29 (all.getD (Int.toNat at') default) 3).toList) else false) then ((F29 (all.getD (Int.toNat i40) default) 4).toList==(F29 (all.getD (Int.toNat at') default) 4).toList) else false) then (.ret false) else (.next (i40+1))) else (.done i40)
def F43 (all:List l52Cut) (at':Int) (nat:l52Cut):Bool :=
 bif (bif (bif decide ((F41 (F29 (all.getD (Int.toNat at') default) 3))<(F39 (F29 nat 1)).1) then true else decide ((F41 (F29 (all.getD (Int.toNat at') default) 3))≥(IntKind.i64.wrap ((F39 (F29 nat 1)).1+(F39 (F29 nat 1)).2)))) then true else (decide ((F30 (F29 nat 3))≤F30 (F29 (all.getD (Int.toNat at') default) 2)∧F30 (F29 (all.getD (Int.toNat at') default) 2)≤(F30 (F29 nat 4))))) then false else ((runL (Bv all at' nat) ((Int.toNat (at'-0))+1) 0).fin (fun r=>r) (fun i40=>true))
abbrev Ev (at':Int):Nat×Int:=(((Int.toNat (at'-0))+1),0)
abbrev Qln (at':Int) (m39:Nat) (i40:Int):Prop:=Int.toNat (at'-i40)<m39∧(0:Int)≤i40
abbrev Ucf (all:List l52Cut) (at':Int) (nat:l52Cut):Lp Int Bool:=LpX (Bv all at' nat) (Ev at')
abbrev Qbr (all:List l52Cut) (at':Int) (nat:l52Cut) (i:Nat×Int):Prop:=LpJ (Bv all at' nat) (Ev at') i (Qln at' i.1 i.2)
abbrev Ubg (all:List l52Cut) (at':Int) (nat:l52Cut) (i:Nat×Int) (m39:Nat) (i40:Int):Prop:=LpH (Bv all at' nat) (Ev at') i m39 i40 (Qln at' (m39+1) i40)
abbrev Qxf (all:List l52Cut) (at':Int) (i40:Int) (i40_:Int) (K39:Prop):Prop:=(Rf (.int .i64 at'))∧((.int .i64 i40:Value)=.int .i64 i40_)∧(Im (.l 1 Qk all))∧(Ims (Qk (all.getD (Int.toNat at') default)))∧K39
theorem un43_0 (all:List l52Cut) (at':Int) (nat:l52Cut) (i:Nat×Int) (h:Qbr all at' nat i):Ubg all at' nat i (i.1-1) i.2:=⟨hd1 h.1 h.2.1,hd3 h.2.1,hd2 h.2.1,h.2.2⟩
theorem bk43_0 (all:List l52Cut) (at':Int) (nat:l52Cut) (i:Nat×Int) (m39:Nat) (i40:Int) (hl:m39<i.1) (e:runL (Bv all at' nat) m39 i40=Ucf all at' nat) (h:Qln at' m39 i40):∃ j:Nat×Int,Qxf all at' i40 j.2 (Qbr all at' nat j∧j.1<i.1):=⟨(m39,i40),rfl,rfl,Imp.refl _,Imps.refl _,⟨e,h⟩,hl⟩
theorem en43_0 (all:List l52Cut) (at':Int) (nat:l52Cut) (h:(0:Int)≤0):Qxf all at' 0 0 (Qbr all at' nat (Ev at')):=⟨rfl,rfl,Imp.refl _,Imps.refl _,rfl,Nat.lt_succ_self _,h⟩
def S43 (all:List l52Cut) (at':Int) (nat:l52Cut):Spec:=⟨[.r (.c (.l 1 Qk all)),.r (.c (.v (vI at'))),.r (.g (Qk nat))],.v (.bool (F43 all at' nat)),0≤at'∧at'<(all.length:Int)∧(∀ j:Nat,(nat.w.getD j default).size≤1048576)∧(∀ k j:Nat,((all.getD k default).w.getD j default).size≤1048576)⟩
abbrev Yb (all:List l52Cut) (at':Int):=(all.getD (Int.toNat at') default)
abbrev Uo (all:List l52Cut) (i40:Int):=(all.getD (Int.toNat i40) default)
abbrev Jj (all:List l52Cut) (at':Int):=(F41 (F29 (Yb all at') 3))
theorem ok43 (all:List l52Cut) (at':Int) (nat:l52Cut):(S43 all at' nat).ok Tryz.prog 43 :=
 Qi mixed (fn:=Tryz.f43) (ct:=.seqk [(0,0)] .no (.seq .no (.seq (.reg [(1,kh29 nat 1),(2,kh39 (F29 nat 1))]) (.seq (.reg [(1,kh29 (Yb all at') 3),(2,kh41 (F29 (Yb all at') 3))]) (.seq (.seq (.reg [(12,kh29 (Yb all at') 2),(14,kh29 nat 3),(15,kh30 (F29 nat 3)),(17,kh29 nat 4),(18,kh30 (F29 nat 4)),(19,Ji (F29 (Yb all at') 2) (F30 (F29 nat 3)) (F30 (F29 nat 4)))]) (.cond (.seq .no .no) .no)) (.seq (.seqk [(0,0),(7,0)] .no (.blk (.loop (ι:=Nat×Int) (fun i=>(fun (i40:Int)=>(⟨[(0,some (.h 0 0)),(1,some (.v (vI at'))),(7,some (.p 1 0)),(11,some (.v (vI i40)))],[(0,some (.shr none (.l 1 Qk all))),(1,some (.box 47 [.h 2 1])),(2,some (.mem none none (Qk (Yb all at'))))],3⟩:St)) i.2) (Qbr all at' nat) (fun i=>i.1) (Ev at') (fun i=>(fun (i40:Int)=>(.seq (.seq .no (.cond .no .no)) (.seq (.blk (.seq (.reg [(4,kh29 (Uo all i40) 0),(11,kh29 (Uo all i40) 1),(13,kh29 (Yb all at') 1),(21,kh29 (Uo all i40) 3),(23,kh29 (Yb all at') 3),(31,kh29 (Uo all i40) 4),(33,kh29 (Yb all at') 4)]) (.cond (.seq .no .no) .no))) (.reg [(1,.bnd)])))) i.2)))) (.seq .no .no))))))) Tryz.func43 (fun (hp:0≤at'∧at'<(all.length:Int)∧(∀ j:Nat,(nat.w.getD j default).size≤1048576)∧(∀ k j:Nat,((all.getD k default).w.getD j default).size≤1048576))=>have hpre0:=hp.1; have hpre1:=hp.2.1; have hpre2:=hp.2.2.1; have hpre3:=hp.2.2.2; kn all fun _=>ai (by omega:ib at' all) (kc29 nat 1 (by omega) (kc39 (F29 nat 1) (by first | exact Pf (by assumption) _ | exact Wn all (by assumption) _ _) (kc29 (Yb all at') 3 (by omega) (kc41 (F29 (Yb all at') 3) (by first | exact Pf (by assumption) _ | exact Wn all (by assumption) _ _) (kg29 (bif decide ((Jj all at')<(F39 (F29 nat 1)).1) then true else decide ((Jj all at')≥(IntKind.i64.wrap ((F39 (F29 nat 1)).1+(F39 (F29 nat 1)).2)))) false (Yb all at') 2 (fun k1=>have _:=of_decide_eq_false (orF1 k1); have _:=of_decide_eq_false (orF2 k1); (by omega)) (kg29 (bif decide ((Jj all at')<(F39 (F29 nat 1)).1) then true else decide ((Jj all at')≥(IntKind.i64.wrap ((F39 (F29 nat 1)).1+(F39 (F29 nat 1)).2)))) false nat 3 (fun k2=>have _:=of_decide_eq_false (orF1 k2); have _:=of_decide_eq_false (orF2 k2); (by omega)) (kg30 (bif decide ((Jj all at')<(F39 (F29 nat 1)).1) then true else decide ((Jj all at')≥(IntKind.i64.wrap ((F39 (F29 nat 1)).1+(F39 (F29 nat 1)).2)))) false (F29 nat 3) (fun k3=>have _:=of_decide_eq_false (orF1 k3); have _:=of_decide_eq_false (orF2 k3); (by first | exact Pf (by assumption) _ | exact Wn all (by assumption) _ _)) (kg29 (bif decide ((Jj all at')<(F39 (F29 nat 1)).1) then true else decide ((Jj all at')≥(IntKind.i64.wrap ((F39 (F29 nat 1)).1+(F39 (F29 nat 1)).2)))) false nat 4 (fun k4=>have _:=of_decide_eq_false (orF1 k4); have _:=of_decide_eq_false (orF2 k4); (by omega)) (kg30 (bif decide ((Jj all at')<(F39 (F29 nat 1)).1) then true else decide ((Jj all at')≥(IntKind.i64.wrap ((F39 (F29 nat 1)).1+(F39 (F29 nat 1)).2)))) false (F29 nat 4) (fun k5=>have _:=of_decide_eq_false (orF1 k5); have _:=of_decide_eq_false (orF2 k5); (by first | exact Pf (by assumption) _ | exact Wn all (by assumption) _ _)) (Jq (bif decide ((Jj all at')<(F39 (F29 nat 1)).1) then true else decide ((Jj all at')≥(IntKind.i64.wrap ((F39 (F29 nat 1)).1+(F39 (F29 nat 1)).2)))) false (F29 (Yb all at') 2) (F30 (F29 nat 3)) (F30 (F29 nat 4)) (fun k6=>have _:=of_decide_eq_false (orF1 k6); have _:=of_decide_eq_false (orF2 k6); (by first | exact Pf (by assumption) _ | exact Wn all (by assumption) _ _)) (ifb (bif (bif decide ((Jj all at')<(F39 (F29 nat 1)).1) then true else decide ((Jj all at')≥(IntKind.i64.wrap ((F39 (F29 nat 1)).1+(F39 (F29 nat 1)).2)))) then true else (decide ((F30 (F29 nat 3))≤F30 (F29 (Yb all at') 2)∧F30 (F29 (Yb all at') 2)≤(F30 (F29 nat 4))))) (fun h7=>fiB false (F43 all at' nat) (condT h7 rfl)) (fun h7=>have _:=of_decide_eq_false (orF1 (orF1 h7)); have _:=of_decide_eq_false (orF2 (orF1 h7)); have _:=of_decide_eq_false (orF2 h7); kn all fun _=>kn (Yb all at').w fun _=>ai (en43_0 all at' nat (by omega)) (fun (i0:Nat×Int) (hi0:Qbr all at' nat i0)=>(fun (m0:Nat) (i40:Int) (hh0:Ubg all at' nat i0 m0 i40)=>have hI0:=hh0.1; have hl0:=hh0.2.1; have _:=hh0.2.2.1; have _:=hh0.2.2.2; ifd (i40<at') (fun h9 _=>ai (by omega:ib i40 all) (kc29 (Uo all i40) 0 (by omega) (ai (fun k10:((F29 (Uo all i40) 0).toList==w3_.toList)=true=>(by omega:ib i40 all)) (kg29 ((F29 (Uo all i40) 0).toList==w3_.toList) true (Uo all i40) 1 (fun k11=>(by omega)) (kg29 ((F29 (Uo all i40) 0).toList==w3_.toList) true (Yb all at') 1 (fun k12=>(by omega)) (ai (fun k13:(bif ((F29 (Uo all i40) 0).toList==w3_.toList) then ((F29 (Uo all i40) 1).toList==(F29 (Yb all at') 1).toList) else false)=true=>have _:((F29 (Uo all i40) 0).toList==w3_.toList)=true:=(Qn k13); have _:=(Qy k13); (by omega:ib i40 all)) (kg29 (bif ((F29 (Uo all i40) 0).toList==w3_.toList) then ((F29 (Uo all i40) 1).toList==(F29 (Yb all at') 1).toList) else false) true (Uo all i40) 3 (fun k14=>have _:((F29 (Uo all i40) 0).toList==w3_.toList)=true:=(Qn k14); have _:=(Qy k14); (by omega)) (kg29 (bif ((F29 (Uo all i40) 0).toList==w3_.toList) then ((F29 (Uo all i40) 1).toList==(F29 (Yb all at') 1).toList) else false) true (Yb all at') 3 (fun k15=>have _:((F29 (Uo all i40) 0).toList==w3_.toList)=true:=(Qn k15); have _:=(Qy k15); (by omega)) (ai (fun k16:(bif (bif ((F29 (Uo all i40) 0).toList==w3_.toList) then ((F29 (Uo all i40) 1).toList==(F29 (Yb all at') 1).toList) else false) then ((F29 (Uo all i40) 3).toList==(F29 (Yb all at') 3).toList) else false)=true=>have _:((F29 (Uo all i40) 0).toList==w3_.toList)=true:=(Qn (Qn k16)); have _:=(Qy (Qn k16)); have _:=(Qy k16); (by omega:ib i40 all)) (kg29 (bif (bif ((F29 (Uo all i40) 0).toList==w3_.toList) then ((F29 (Uo all i40) 1).toList==(F29 (Yb all at') 1).toList) else false) then ((F29 (Uo all i40) 3).toList==(F29 (Yb all at') 3).toList) else false) true (Uo all i40) 4 (fun k17=>have _:((F29 (Uo all i40) 0).toList==w3_.toList)=true:=(Qn (Qn k17)); have _:=(Qy (Qn k17)); have _:=(Qy k17); (by omega)) (kg29 (bif (bif ((F29 (Uo all i40) 0).toList==w3_.toList) then ((F29 (Uo all i40) 1).toList==(F29 (Yb all at') 1).toList) else false) then ((F29 (Uo all i40) 3).toList==(F29 (Yb all at') 3).toList) else false) true (Yb all at') 4 (fun k18=>have _:((F29 (Uo all i40) 0).toList==w3_.toList)=true:=(Qn (Qn k18)); have _:=(Qy (Qn k18)); have _:=(Qy k18); (by omega)) (ifb (bif (bif (bif ((F29 (Uo all i40) 0).toList==w3_.toList) then ((F29 (Uo all i40) 1).toList==(F29 (Yb all at') 1).toList) else false) then ((F29 (Uo all i40) 3).toList==(F29 (Yb all at') 3).toList) else false) then ((F29 (Uo all i40) 4).toList==(F29 (Yb all at') 4).toList) else false) (fun h19=>have _:((F29 (Uo all i40) 0).toList==w3_.toList)=true:=(Qn (Qn (Qn h19))); have _:=(Qy (Qn (Qn h19))); have _:=(Qy (Qn h19)); have _:=(Qy h19); fiB false (F43 all at' nat) (condF h7 (finR (Qt hI0 (condT h9 (condT h19 rfl))) rfl))) (fun h19=>ai (iok (i40+1) (by omega)) (bk43_0 all at' nat i0 m0 (i40+1) hl0 (Qe hI0 (condT h9 (condF h19 rfl))) (by refine ⟨?_,?_⟩ <;> omega))))))))))))))) (fun h9 _=>have hD0_20:Ucf all at' nat=Lp.done i40:=Qj hI0 (condF h9 rfl); fiB true (F43 all at' nat) (condF h7 (finD hD0_20 rfl)))) (i0.1-1) i0.2 (un43_0 all at' nat i0 hi0))))))))))))))) (by kernel_rfl)
theorem kc42a (all:List l52Cut) {K_:Prop} (k_:((idxI (fun c=>((F29 c 0).toList==w5_.toList)) all)<(all.length:Int))→K_):(True)∧(Imp (.l 1 Qk all) (.l 1 Qk all))∧K_:=⟨trivial,Imp.refl _,k_ (g42_0 all)⟩
abbrev kh42a (all:List l52Cut):Hint true Tryz.prog:=.call 42 (S42 (idxI (fun c=>((F29 c 0).toList==w5_.toList)) all) all) (oa42 all) none
theorem kg43 {K_:Prop} (c_ b_:Bool) (all:List l52Cut) (at':Int) (nat:l52Cut) (p_:c_=b_→0≤at'∧at'<(all.length:Int)∧(∀ j:Nat,(nat.w.getD j default).size≤1048576)∧(∀ k j:Nat,((all.getD k default).w.getD j default).size≤1048576)) (k_:K_):(c_=b_→0≤at'∧at'<(all.length:Int)∧(∀ j:Nat,(nat.w.getD j default).size≤1048576)∧(∀ k j:Nat,((all.getD k default).w.getD j default).size≤1048576))∧(c_=b_→Imp (.l 1 Qk all) (.l 1 Qk all))∧(c_=b_→Imp (.v (vI at')) (.v (vI at')))∧(c_=b_→Imps (Qk nat) (Qk nat))∧K_:=⟨p_,fun _=>Imp.refl _,fun _=>Imp.refl _,fun _=>Imps.refl _,k_⟩
abbrev kh43 (all:List l52Cut) (at':Int) (nat:l52Cut):Hint true Tryz.prog:=.call 43 (S43 all at' nat) (ok43 all at' nat) none
def Vv (all:List l52Cut):(Int×Int)→Lp (Int×Int) Bool:=fun (doors,i40) =>
 bif (decide (i40<(all.length:Int))) then (bif (!((F29 (all.getD (Int.toNat i40) default) 0).toList==(⟨#[100,111,111,114]⟩:ByteArray).toList)) then (.next (doors,(i40+1))) else (bif (bif decide ((idxI (fun c=>((F29 c 0).toList==(⟨#[110,97,116]⟩:ByteArray).toList)) all)<0) then true else (!(F43 all i40 (all.getD (Int.toNat (idxI (fun c=>((F29 c 0).toList==(⟨#[110,97,116]⟩:ByteArray).toList)) all)) default)))) then (.ret false) else (.next ((doors+1),(i40+1))))) else (.done (doors,i40))
def F26 (all:List l52Cut):Bool :=
 (runL (Vv all) ((Int.toNat ((all.length:Int)-0))+1) (0,0)).fin (fun r=>r) (fun (doors,i40)=>bif (decide ((idxI (fun c=>((F29 c 0).toList==(⟨#[110,97,116]⟩:ByteArray).toList)) all)<0)) then true else (bif (bif decide (doors≤6) then (bif decide ((F41 (F29 (all.getD (Int.toNat (idxI (fun c=>((F29 c 0).toList==(⟨#[110,97,116]⟩:ByteArray).toList)) all)) default) 2))<(F39 (F29 (all.getD (Int.toNat (idxI (fun c=>((F29 c 0).toList==(⟨#[110,97,116]⟩:ByteArray).toList)) all)) default) 1)).1) then true else decide ((F41 (F29 (all.getD (Int.toNat (idxI (fun c=>((F29 c 0).toList==(⟨#[110,97,116]⟩:ByteArray).toList)) all)) default) 2))≥(IntKind.i64.wrap ((F39 (F29 (all.getD (Int.toNat (idxI (fun c=>((F29 c 0).toList==(⟨#[110,97,116]⟩:ByteArray).toList)) all)) default) 1)).1+(F39 (F29 (all.getD (Int.toNat (idxI (fun c=>((F29 c 0).toList==(⟨#[110,97,116]⟩:ByteArray).toList)) all)) default) 1)).2)))) else false) then decide ((F30 (F29 (all.getD (Int.toNat (idxI (fun c=>((F29 c 0).toList==(⟨#[110,97,116]⟩:ByteArray).toList)) all)) default) 3))≤(F30 (F29 (all.getD (Int.toNat (idxI (fun c=>((F29 c 0).toList==(⟨#[110,97,116]⟩:ByteArray).toList)) all)) default) 4))) else false))
abbrev Qch (all:List l52Cut):Nat×(Int×Int):=(((Int.toNat ((all.length:Int)-0))+1),(0,0))
abbrev Qld (all:List l52Cut) (m39:Nat) (doors:Int) (i40:Int):Prop:=Int.toNat ((all.length:Int)-i40)<m39∧(0:Int)≤doors∧(doors:Int)≤i40∧(0:Int)≤doors∧(0:Int)≤i40
abbrev Uag (all:List l52Cut):Lp (Int×Int) Bool:=LpX (Vv all) (Qch all)
abbrev Tz (all:List l52Cut) (i:Nat×(Int×Int)):Prop:=LpJ (Vv all) (Qch all) i (Qld all i.1 i.2.1 i.2.2)
abbrev Qyc (all:List l52Cut) (i:Nat×(Int×Int)) (m39:Nat) (doors:Int) (i40:Int):Prop:=LpH (Vv all) (Qch all) i m39 (doors,i40) (Qld all (m39+1) doors i40)
abbrev Qun (all:List l52Cut) (doors:Int) (i40:Int) (doors_:Int) (i40_:Int) (K39:Prop):Prop:=(Rf (.int .i64 (idxI (fun c=>((F29 c 0).toList==w5_.toList)) all)))∧((.int .i64 doors:Value)=.int .i64 doors_)∧((.int .i64 i40:Value)=.int .i64 i40_)∧(Im (.l 1 Qk all))∧K39
theorem un26_0 (all:List l52Cut) (i:Nat×(Int×Int)) (h:Tz all i):Qyc all i (i.1-1) i.2.1 i.2.2:=⟨hd1 h.1 h.2.1,hd3 h.2.1,hd2 h.2.1,h.2.2⟩
theorem Qys (all:List l52Cut) (i:Nat×(Int×Int)) (m39:Nat) (doors:Int) (i40:Int) (hl:m39<i.1) (e:runL (Vv all) m39 (doors,i40)=Uag all) (h:Qld all m39 doors i40):∃ j:Nat×(Int×Int),Qun all doors i40 j.2.1 j.2.2 (Tz all j∧j.1<i.1):=⟨(m39,(doors,i40)),rfl,rfl,rfl,Imp.refl _,⟨e,h⟩,hl⟩
theorem en26_0 (all:List l52Cut) (h:(0:Int)≤0∧(0:Int)≤0∧(0:Int)≤0∧(0:Int)≤0):Qun all 0 0 0 0 (Tz all (Qch all)):=⟨rfl,rfl,rfl,Imp.refl _,rfl,Nat.lt_succ_self _,h⟩
def S26 (all:List l52Cut):Spec:=⟨[.r (.c (.l 1 Qk all))],.v (.bool (F26 all)),(∀ k j:Nat,((all.getD k default).w.getD j default).size≤1048576)⟩
theorem ok26 (all:List l52Cut):(S26 all).ok Tryz.prog 26 :=
 Qi mixed (fn:=Tryz.f26) (ct:=.seqk [(0,0)] .no (.seq (.reg [(1,kh42a all)]) (.seq .no (.seq (.seqk [(0,0)] .no (.blk (.loop (ι:=Nat×(Int×Int)) (fun i=>(fun (doors:Int) (i40:Int)=>(⟨[(0,some (.h 0 0)),(3,some (.v (vI (idxI (fun c=>((F29 c 0).toList==w5_.toList)) all)))),(4,some (.v (vI doors))),(5,some (.v (vI i40)))],[(0,some (.shr none (.l 1 Qk all)))],1⟩:St)) i.2.1 i.2.2) (Tz all) (fun i=>i.1) (Qch all) (fun i=>(fun (doors:Int) (i40:Int)=>(.seq (.seq .no (.cond .no .no)) (.seq (.blk (.seq (.seq (.reg [(4,kh29 (all.getD (Int.toNat i40) default) 0)]) (.cond .no .no)) (.seq (.reg [(1,.bnd)]) (.seq (.reg [(9,kh43 all i40 (all.getD (Int.toNat (idxI (fun c=>((F29 c 0).toList==w5_.toList)) all)) default))]) (.cond (.seq .no .no) .no))))) (.reg [(1,.bnd)])))) i.2.1 i.2.2)))) (.seq (.seq .no (.cond (.seq .no .no) .no)) (.seq (.reg [(4,kh29 (all.getD (Int.toNat (idxI (fun c=>((F29 c 0).toList==w5_.toList)) all)) default) 1),(5,kh39 (F29 (all.getD (Int.toNat (idxI (fun c=>((F29 c 0).toList==w5_.toList)) all)) default) 1))]) (.seq (.reg [(4,kh29 (all.getD (Int.toNat (idxI (fun c=>((F29 c 0).toList==w5_.toList)) all)) default) 2),(5,kh41 (F29 (all.getD (Int.toNat (idxI (fun c=>((F29 c 0).toList==w5_.toList)) all)) default) 2))]) (.seq (.reg [(19,kh29 (all.getD (Int.toNat (idxI (fun c=>((F29 c 0).toList==w5_.toList)) all)) default) 3),(20,kh30 (F29 (all.getD (Int.toNat (idxI (fun c=>((F29 c 0).toList==w5_.toList)) all)) default) 3)),(25,kh29 (all.getD (Int.toNat (idxI (fun c=>((F29 c 0).toList==w5_.toList)) all)) default) 4),(26,kh30 (F29 (all.getD (Int.toNat (idxI (fun c=>((F29 c 0).toList==w5_.toList)) all)) default) 4))]) .no)))))))) Tryz.func26 (fun (hpre0:∀ k j:Nat,((all.getD k default).w.getD j default).size≤1048576)=>kn all fun _=>kc42a all (fun gv1=>kn all fun _=>ai (en26_0 all (by refine ⟨?_,?_,?_,?_⟩ <;> omega)) (fun (i0:Nat×(Int×Int)) (hi0:Tz all i0)=>(fun (m0:Nat) (doors:Int) (i40:Int) (hh0:Qyc all i0 m0 doors i40)=>have hI0:=hh0.1; have hl0:=hh0.2.1; have _:=hh0.2.2.1; have _:=hh0.2.2.2; ifd (i40<(all.length:Int)) (fun h3 _=>ai (by omega:ib i40 all) (kc29 (all.getD (Int.toNat i40) default) 0 (by omega) (ifb (!((F29 (all.getD (Int.toNat i40) default) 0).toList==w3_.toList)) (fun h4=>ai (iok (i40+1) (by omega)) (Qys all i0 m0 doors (i40+1) hl0 (Qe hI0 (condT h3 (condT h4 rfl))) (by refine ⟨?_,?_,?_,?_,?_⟩ <;> omega))) (fun h4=>ai (iok (doors+1) (by omega)) (ai (fun k5:(decide ((idxI (fun c=>((F29 c 0).toList==w5_.toList)) all)<0))=false=>have _:¬ (idxI (fun c=>((F29 c 0).toList==w5_.toList)) all)<0:=of_decide_eq_false k5; (by omega:ib (idxI (fun c=>((F29 c 0).toList==w5_.toList)) all) all)) (kg43 (decide ((idxI (fun c=>((F29 c 0).toList==w5_.toList)) all)<0)) false all i40 (all.getD (Int.toNat (idxI (fun c=>((F29 c 0).toList==w5_.toList)) all)) default) (fun k6=>have _:¬ (idxI (fun c=>((F29 c 0).toList==w5_.toList)) all)<0:=of_decide_eq_false k6; ⟨(by first | omega | assumption | exact fun j=>(by assumption:∀ k j:Nat,((all.getD k default).w.getD j default).size≤1048576) _ j),(by first | omega | assumption | exact fun j=>(by assumption:∀ k j:Nat,((all.getD k default).w.getD j default).size≤1048576) _ j),(by first | omega | assumption | exact fun j=>(by assumption:∀ k j:Nat,((all.getD k default).w.getD j default).size≤1048576) _ j),(by first | omega | assumption | exact fun j=>(by assumption:∀ k j:Nat,((all.getD k default).w.getD j default).size≤1048576) _ j)⟩) (ifb (bif decide ((idxI (fun c=>((F29 c 0).toList==w5_.toList)) all)<0) then true else (!(F43 all i40 (all.getD (Int.toNat (idxI (fun c=>((F29 c 0).toList==w5_.toList)) all)) default)))) (fun h7=>fiB false (F26 all) (finR (Qt hI0 (condT h3 (condF h4 (condT h7 rfl)))) rfl)) (fun h7=>have _:¬ (idxI (fun c=>((F29 c 0).toList==w5_.toList)) all)<0:=of_decide_eq_false (orF1 h7); ai (iok (i40+1) (by omega)) (Qys all i0 m0 (doors+1) (i40+1) hl0 (Qe hI0 (condT h3 (condF h4 (condF h7 rfl)))) (by refine ⟨?_,?_,?_,?_,?_⟩ <;> omega)))))))))) (fun h3 _=>have hD0_8:Uag all=Lp.done (doors,i40):=Qj hI0 (condF h3 rfl); ifd ((idxI (fun c=>((F29 c 0).toList==w5_.toList)) all)<0) (fun h9 _=>fiB true (F26 all) (finD hD0_8 (condT h9 rfl))) (fun h9 _=>ai (by omega:ib (idxI (fun c=>((F29 c 0).toList==w5_.toList)) all) all) (kc29 (all.getD (Int.toNat (idxI (fun c=>((F29 c 0).toList==w5_.toList)) all)) default) 1 (by omega) (kc39 (F29 (all.getD (Int.toNat (idxI (fun c=>((F29 c 0).toList==w5_.toList)) all)) default) 1) (by exact Wn all (by assumption) _ _) (ai (by omega:ib (idxI (fun c=>((F29 c 0).toList==w5_.toList)) all) all) (kc29 (all.getD (Int.toNat (idxI (fun c=>((F29 c 0).toList==w5_.toList)) all)) default) 2 (by omega) (kc41 (F29 (all.getD (Int.toNat (idxI (fun c=>((F29 c 0).toList==w5_.toList)) all)) default) 2) (by exact Wn all (by assumption) _ _) (ai (fun k10:(bif decide (doors≤6) then (bif decide ((F41 (F29 (all.getD (Int.toNat (idxI (fun c=>((F29 c 0).toList==w5_.toList)) all)) default) 2))<(F39 (F29 (all.getD (Int.toNat (idxI (fun c=>((F29 c 0).toList==w5_.toList)) all)) default) 1)).1) then true else decide ((F41 (F29 (all.getD (Int.toNat (idxI (fun c=>((F29 c 0).toList==w5_.toList)) all)) default) 2))≥(IntKind.i64.wrap ((F39 (F29 (all.getD (Int.toNat (idxI (fun c=>((F29 c 0).toList==w5_.toList)) all)) default) 1)).1+(F39 (F29 (all.getD (Int.toNat (idxI (fun c=>((F29 c 0).toList==w5_.toList)) all)) default) 1)).2)))) else false)=true=>have _:=of_decide_eq_true (Qn k10); (by omega:ib (idxI (fun c=>((F29 c 0).toList==w5_.toList)) all) all)) (kg29 (bif decide (doors≤6) then (bif decide ((F41 (F29 (all.getD (Int.toNat (idxI (fun c=>((F29 c 0).toList==w5_.toList)) all)) default) 2))<(F39 (F29 (all.getD (Int.toNat (idxI (fun c=>((F29 c 0).toList==w5_.toList)) all)) default) 1)).1) then true else decide ((F41 (F29 (all.getD (Int.toNat (idxI (fun c=>((F29 c 0).toList==w5_.toList)) all)) default) 2))≥(IntKind.i64.wrap ((F39 (F29 (all.getD (Int.toNat (idxI (fun c=>((F29 c 0).toList==w5_.toList)) all)) default) 1)).1+(F39 (F29 (all.getD (Int.toNat (idxI (fun c=>((F29 c 0).toList==w5_.toList)) all)) default) 1)).2)))) else false) true (all.getD (Int.toNat (idxI (fun c=>((F29 c 0).toList==w5_.toList)) all)) default) 3 (fun k11=>have _:=of_decide_eq_true (Qn k11); (by omega)) (kg30 (bif decide (doors≤6) then (bif decide ((F41 (F29 (all.getD (Int.toNat (idxI (fun c=>((F29 c 0).toList==w5_.toList)) all)) default) 2))<(F39 (F29 (all.getD (Int.toNat (idxI (fun c=>((F29 c 0).toList==w5_.toList)) all)) default) 1)).1) then true else decide ((F41 (F29 (all.getD (Int.toNat (idxI (fun c=>((F29 c 0).toList==w5_.toList)) all)) default) 2))≥(IntKind.i64.wrap ((F39 (F29 (all.getD (Int.toNat (idxI (fun c=>((F29 c 0).toList==w5_.toList)) all)) default) 1)).1+(F39 (F29 (all.getD (Int.toNat (idxI (fun c=>((F29 c 0).toList==w5_.toList)) all)) default) 1)).2)))) else false) true (F29 (all.getD (Int.toNat (idxI (fun c=>((F29 c 0).toList==w5_.toList)) all)) default) 3) (fun k12=>have _:=of_decide_eq_true (Qn k12); (by exact Wn all (by assumption) _ _)) (ai (fun k13:(bif decide (doors≤6) then (bif decide ((F41 (F29 (all.getD (Int.toNat (idxI (fun c=>((F29 c 0).toList==w5_.toList)) all)) default) 2))<(F39 (F29 (all.getD (Int.toNat (idxI (fun c=>((F29 c 0).toList==w5_.toList)) all)) default) 1)).1) then true else decide ((F41 (F29 (all.getD (Int.toNat (idxI (fun c=>((F29 c 0).toList==w5_.toList)) all)) default) 2))≥(IntKind.i64.wrap ((F39 (F29 (all.getD (Int.toNat (idxI (fun c=>((F29 c 0).toList==w5_.toList)) all)) default) 1)).1+(F39 (F29 (all.getD (Int.toNat (idxI (fun c=>((F29 c 0).toList==w5_.toList)) all)) default) 1)).2)))) else false)=true=>have _:=of_decide_eq_true (Qn k13); (by omega:ib (idxI (fun c=>((F29 c 0).toList==w5_.toList)) all) all)) (kg29 (bif decide (doors≤6) then (bif decide ((F41 (F29 (all.getD (Int.toNat (idxI (fun c=>((F29 c 0).toList==w5_.toList)) all)) default) 2))<(F39 (F29 (all.getD (Int.toNat (idxI (fun c=>((F29 c 0).toList==w5_.toList)) all)) default) 1)).1) then true else decide ((F41 (F29 (all.getD (Int.toNat (idxI (fun c=>((F29 c 0).toList==w5_.toList)) all)) default) 2))≥(IntKind.i64.wrap ((F39 (F29 (all.getD (Int.toNat (idxI (fun c=>((F29 c 0).toList==w5_.toList)) all)) default) 1)).1+(F39 (F29 (all.getD (Int.toNat (idxI (fun c=>((F29 c 0).toList==w5_.toList)) all)) default) 1)).2)))) else false) true (all.getD (Int.toNat (idxI (fun c=>((F29 c 0).toList==w5_.toList)) all)) default) 4 (fun k14=>have _:=of_decide_eq_true (Qn k14); (by omega)) (kg30 (bif decide (doors≤6) then (bif decide ((F41 (F29 (all.getD (Int.toNat (idxI (fun c=>((F29 c 0).toList==w5_.toList)) all)) default) 2))<(F39 (F29 (all.getD (Int.toNat (idxI (fun c=>((F29 c 0).toList==w5_.toList)) all)) default) 1)).1) then true else decide ((F41 (F29 (all.getD (Int.toNat (idxI (fun c=>((F29 c 0).toList==w5_.toList)) all)) default) 2))≥(IntKind.i64.wrap ((F39 (F29 (all.getD (Int.toNat (idxI (fun c=>((F29 c 0).toList==w5_.toList)) all)) default) 1)).1+(F39 (F29 (all.getD (Int.toNat (idxI (fun c=>((F29 c 0).toList==w5_.toList)) all)) default) 1)).2)))) else false) true (F29 (all.getD (Int.toNat (idxI (fun c=>((F29 c 0).toList==w5_.toList)) all)) default) 4) (fun k15=>have _:=of_decide_eq_true (Qn k15); (by exact Wn all (by assumption) _ _)) (fiB (bif (bif decide (doors≤6) then (bif decide ((F41 (F29 (all.getD (Int.toNat (idxI (fun c=>((F29 c 0).toList==w5_.toList)) all)) default) 2))<(F39 (F29 (all.getD (Int.toNat (idxI (fun c=>((F29 c 0).toList==w5_.toList)) all)) default) 1)).1) then true else decide ((F41 (F29 (all.getD (Int.toNat (idxI (fun c=>((F29 c 0).toList==w5_.toList)) all)) default) 2))≥(IntKind.i64.wrap ((F39 (F29 (all.getD (Int.toNat (idxI (fun c=>((F29 c 0).toList==w5_.toList)) all)) default) 1)).1+(F39 (F29 (all.getD (Int.toNat (idxI (fun c=>((F29 c 0).toList==w5_.toList)) all)) default) 1)).2)))) else false) then decide ((F30 (F29 (all.getD (Int.toNat (idxI (fun c=>((F29 c 0).toList==w5_.toList)) all)) default) 3))≤(F30 (F29 (all.getD (Int.toNat (idxI (fun c=>((F29 c 0).toList==w5_.toList)) all)) default) 4))) else false) (F26 all) (finD hD0_8 (condF h9 rfl))))))))))))))))) (i0.1-1) i0.2.1 i0.2.2 (un26_0 all i0 hi0)))) (by kernel_rfl)
theorem Nk {α β:Type} [Inhabited α] [Inhabited β] (f:α→β) (ls:List α) (i:Nat) (h:i<ls.length):(ls.map f).getD i default=f (ls.getD i default):=by
 rw [Kw _ (by simpa using h),Kw _ h,List.getElem_map]
def wsL (lines:List ByteArray):List (List ByteArray):=lines.map fun l=>(F37 l).1
def hdB (w:List ByteArray) (l:List UInt8):Bool:=(w.getD 0 default).data.toList==l
def Ubd:List UInt8:=[117,115,101,114]
def Yg:List UInt8:=[112,111,114,116]
def Jy:List UInt8:=[114,117,108,101]
def Ty:List UInt8:=[114,111,117,116,101]
def Qdm:List UInt8:=[112,101,101,114]
def hNat:List UInt8:=[110,97,116]
def Uk:List UInt8:=[100,111,111,114]
theorem Yn (lines:List ByteArray) (h:F20 lines=0) (word:ByteArray):Qa lines word=(wsL lines).filter fun w=>hdB w word.data.toList:=by
 unfold Qa wsL
 have e:(lines.map fun l=>Ua l (⟨#[32]⟩:ByteArray))=lines.map fun l=>(F37 l).1:=List.map_congr_left fun l hl=>Qal l ((Ll lines h).2 l hl)
 rw [e]; rfl
theorem Rk (lines:List ByteArray) (h:F20 lines=0):∀ w∈wsL lines,Wm w:=fun w hw=>by
 obtain ⟨l,hl,rfl⟩:=List.mem_map.1 hw
 exact (Gx l ((Ll lines h).2 l hl)).form
theorem ws_no (lines:List ByteArray):∀ w∈wsL lines,∀ x∈w,(32:UInt8) ∉ x.data.toList∧x.data.toList≠[]∧x.size≤24:=fun w hw=>by
 obtain ⟨l,hl,rfl⟩:=List.mem_map.1 hw
 exact Qpt l
theorem Ufk (lines:List ByteArray):(lines.map (fun l=>(⟨(F37 l).1⟩:l52Cut)))=(wsL lines).map l52Cut.mk:=by
 unfold wsL
 rw [List.map_map]; rfl
theorem at_n (c:l52Cut) (k:Nat):F29 c (k:Int)=c.w.getD k default:=by
 unfold F29
 by_cases h:k<c.w.length
 ·rw [ltD h,cond_true,nn]
 ·rw [decide_eq_false (by omega),cond_false,Kc _ (by omega)]; rfl
theorem at0 (c:l52Cut):F29 c 0=c.w.getD 0 default:=at_n c 0
theorem at1 (c:l52Cut):F29 c 1=c.w.getD 1 default:=at_n c 1
theorem at2 (c:l52Cut):F29 c 2=c.w.getD 2 default:=at_n c 2
theorem at3 (c:l52Cut):F29 c 3=c.w.getD 3 default:=at_n c 3
theorem at4 (c:l52Cut):F29 c 4=c.w.getD 4 default:=at_n c 4
theorem Bg (ws:List (List ByteArray)) (p:l52Cut→Bool):(ws.map l52Cut.mk).any p=ws.any fun w=>p ⟨w⟩:=by rw [List.any_map]; rfl
theorem Ur {α:Type} {p q:α→Bool}:∀ {xs:List α},(∀ x∈xs,p x=q x)→xs.any p=xs.any q
 | [],_=>rfl
 | x :: xs,h=>by rw [List.any_cons,List.any_cons,h x List.mem_cons_self,Ur fun y hy=>h y (List.mem_cons_of_mem _ hy)]
theorem Uft (all:List l52Cut):F22 all=all.any fun c=>hdB c.w Ubd&&((c.w.getD 2 default).data.toList==[97,108,108]):=by
 unfold F22
 have:=anyL all (fun c=>hdB c.w Ubd&&((c.w.getD 2 default).data.toList==[97,108,108])) true (Xb all) (fun i hi=>by
  simp only [Xb,ltD hi,cond_true,nn,at0,at2,blit,cb1]
  rfl) (by simp only [Xb,geD,cond_false]) (fun r=>r) (fun i40=>false) false (fun _=>rfl)
 refine this.trans ?_
 cases (all.any fun c=>hdB c.w Ubd&&((c.w.getD 2 default).data.toList==[97,108,108])) <;> rfl
theorem Qhe (lines:List ByteArray) (h:F20 lines=0):F63 lines=!F22 ((wsL lines).map l52Cut.mk):=by
 unfold F63
 rw [Uft,Bg,Yn lines h,List.any_filter]
 congr 1
 refine Ur fun w _=>?_
 unfold F83
 rw [blit]; rfl
def Qkr (ws:List (List ByteArray)) (name:List UInt8):Nat:=(ws.filter fun w=>hdB w Jy&&((w.getD 1 default).data.toList==name)).length
theorem Ey (lines:List ByteArray) (h:F20 lines=0) (name:ByteArray):F84 lines name=(Qkr (wsL lines) name.data.toList:Int):=by
 unfold F84
 have:=Yd (Qa lines (⟨#[114,117,108,101]⟩:ByteArray)) (fun (n:Int) w=>bif ((w.getD 1 default).data.toList==name.data.toList) then n+1 else n) (fun n i=>(n,i)) (Bq lines name) (fun i s hi=>by
  simp only [Bq,ltD hi,cond_true,nn,Uc]
  show (bif (((Qa lines (⟨#[114,117,108,101]⟩:ByteArray)).getD i default).getD 1 default).data.toList==name.data.toList then _ else _)=_
  cases ((((Qa lines (⟨#[114,117,108,101]⟩:ByteArray)).getD i default).getD 1 default).data.toList==name.data.toList) <;> rfl) (fun s=>by simp only [Bq,geD,cond_false]) (fun r=>r) (fun (n,v11)=>n) 0
 refine this.trans ?_
 show (Qa lines (⟨#[114,117,108,101]⟩:ByteArray)).foldl _ (0:Int)=_
 rw [Bh (fun w:List ByteArray=>((w.getD 1 default).data.toList==name.data.toList)),Yn lines h,List.filter_filter,Int.zero_add]
 unfold Qkr
 rw [show (fun a:List ByteArray=>((a.getD 1 default).data.toList==name.data.toList&&hdB a (⟨#[114,117,108,101]⟩:ByteArray).data.toList))=fun w=>hdB w Jy&&((w.getD 1 default).data.toList==name.data.toList) from funext fun w=>Bool.and_comm _ _]
theorem Uay (all:List l52Cut) (name:ByteArray):F38 all name=((all.filter fun c=>hdB c.w Jy&&((c.w.getD 1 default).data.toList==name.data.toList)).length:Int):=by
 unfold F38
 have:=Yd all (fun (n:Int) c=>bif (hdB c.w Jy&&((c.w.getD 1 default).data.toList==name.data.toList)) then n+1 else n) (fun n i=>(n,i)) (Bj all name) (fun i s hi=>by
  simp only [Bj,ltD hi,cond_true,nn,at0,at1,blit,cb1]
  rw [Uc,Uc]
  show (bif (hdB (all.getD i default).w Jy&&(((all.getD i default).w.getD 1 default).data.toList==name.data.toList)) then _ else _)=_
  cases (hdB (all.getD i default).w Jy&&(((all.getD i default).w.getD 1 default).data.toList==name.data.toList)) <;> rfl) (fun s=>by simp only [Bj,geD,cond_false]) (fun r=>r) (fun (n,i40)=>n) 0
 refine this.trans ?_
 show all.foldl _ (0:Int)=_
 rw [Bh (fun c:l52Cut=>hdB c.w Jy&&((c.w.getD 1 default).data.toList==name.data.toList)),Int.zero_add]
theorem Qqq (ws:List (List ByteArray)) (name:ByteArray):F38 (ws.map l52Cut.mk) name=(Qkr ws name.data.toList:Int):=by
 rw [Uay,List.filter_map,List.length_map]; rfl
theorem Qyd (all:List l52Cut):F23 all=!all.any fun c=>(hdB c.w Yg&&(!((c.w.getD 4 default).data.toList==[])&&((F38 all (c.w.getD 4 default))==0))) || (hdB c.w Jy&&decide (F38 all (c.w.getD 1 default)>12)):=by
 unfold F23
 have:=anyL all (fun c=>(hdB c.w Yg&&(!((c.w.getD 4 default).data.toList==[])&&((F38 all (c.w.getD 4 default))==0))) || (hdB c.w Jy&&decide (F38 all (c.w.getD 1 default)>12))) false (Xv all) (fun i hi=>by
  simp only [Xv,ltD hi,cond_true,nn,at0,at1,at4,blit,cb1,Bool.and_assoc]
  show (bif (hdB (all.getD i default).w Yg&&(!(((all.getD i default).w.getD 4 default).data.toList==[])&&(F38 all ((all.getD i default).w.getD 4 default)==0))) then _ else (bif (hdB (all.getD i default).w Jy&&_) then _ else _))=_
  cases (hdB (all.getD i default).w Yg&&(!(((all.getD i default).w.getD 4 default).data.toList==[])&&(F38 all ((all.getD i default).w.getD 4 default)==0))) <;> cases (hdB (all.getD i default).w Jy&&decide (F38 all ((all.getD i default).w.getD 1 default)>12)) <;> rfl) (by simp only [Xv,geD,cond_false]) (fun r=>r) (fun i40=>true) true (fun _=>rfl)
 refine this.trans ?_
 cases all.any _ <;> rfl
theorem Qko {α:Type} (p q:α→Bool):∀ xs:List α,xs.any (fun x=>p x || q x)=(xs.any p || xs.any q)
 | []=>rfl
 | x :: xs=>by
  simp only [List.any_cons,Qko p q xs]
  cases p x <;> cases q x <;> simp
theorem Qsp {w:List ByteArray} (h:Zw w) (hn:∀ x∈w,x.data.toList≠[]):decide ((w.length:Int)>4)=!((w.getD 4 default).data.toList==[]):=by
 by_cases hl:4<w.length
 ·rw [decide_eq_true (by omega)]
  have:=hn _ (Ke w hl)
  rw [beq_eq_false_iff_ne.2 this]; rfl
 ·rw [decide_eq_false (by omega),Kc w (by omega)]; rfl
theorem Rd (lines:List ByteArray) (h:F20 lines=0):F64 lines=!F23 ((wsL lines).map l52Cut.mk):=by
 rw [Qyd,Bool.not_not,Bg,Qko]
 unfold F64
 have:=anyL (Qa lines (⟨#[112,111,114,116]⟩:ByteArray)) (fun w=>decide ((w.length:Int)>4)&&(F84 lines (w.getD 4 default)==0)) true (Xu lines) (fun i hi=>by
  simp only [Xu,ltD hi,cond_true,nn,cb1]; rfl) (by simp only [Xu,geD,cond_false]) (fun r=>r) (fun v8=>(Qa lines (⟨#[114,117,108,101]⟩:ByteArray)).any (fun (x0:List ByteArray)=>F85 x0 lines)) _ (fun _=>rfl)
 refine this.trans ?_
 rw [Yn lines h,Yn lines h,List.any_filter,List.any_filter,cb2]
 congr 1
 ·refine Ur fun w hw=>?_
  have e4:F38 ((wsL lines).map l52Cut.mk) (w.getD 4 default)=F84 lines (w.getD 4 default):=by rw [Qqq,Ey lines h]
  rw [e4]
  cases hp:hdB w Yg with
  | false =>
   have hp':hdB w (⟨#[112,111,114,116]⟩:ByteArray).data.toList=false:=hp
   rw [hp',Bool.false_and,Bool.false_and]
  | true =>
   have hp':hdB w (⟨#[112,111,114,116]⟩:ByteArray).data.toList=true:=hp
   have hpp:=Rn (Rk lines h w hw) (eq_of_beq hp)
   rw [hp',Qsp hpp fun x hx=>(ws_no lines w hw x hx).2.1]
 ·refine Ur fun w hw=>?_
  have e1:F38 ((wsL lines).map l52Cut.mk) (w.getD 1 default)=F84 lines (w.getD 1 default):=by rw [Qqq,Ey lines h]
  show (hdB w Jy&&_)=(hdB w Jy&&_)
  rw [e1]; rfl
def Zm {α:Type} (ov:α→α→Bool):List α→List α→Bool
 | _,[]=>false
 | seen,x :: r=>seen.any (ov x) || Zm ov (seen++[x]) r
theorem Va {α:Type} [Inhabited α] (ov:α→α→Bool) (xs:List α):∀ (m i:Nat),i+m=xs.length→anyF (fun i=>(xs.take i).any (ov (xs.getD i default))) i m=Zm ov (xs.take i) (xs.drop i)
 | 0,i,h=>by rw [List.drop_of_length_le (by omega)]; rfl
 | m+1,i,h=>by
  have hd:xs.drop i=xs.getD i default :: xs.drop (i+1):=by
   rw [List.drop_eq_getElem_cons (show i<xs.length by omega),List.getD_eq_getElem?_getD,List.getElem?_eq_getElem (show i<xs.length by omega)]; rfl
  rw [hd,Zm,anyF,Va ov xs m (i+1) (by omega),Nb (show i<xs.length by omega)]
theorem Bi {α:Type} (P:α→Bool) (ov:α→α→Bool):∀ (xs seen:List α),Zm (fun x y=>P x&&(P y&&ov x y)) seen xs=Zm ov (seen.filter P) (xs.filter P)
 | [],seen=>rfl
 | x :: xs,seen=>by
  rw [Zm,Bi P ov xs]
  cases h:P x with
  | true =>
   rw [List.filter_cons_of_pos h,Zm,List.filter_append,List.any_filter]
   simp only [Bool.true_and,List.filter_cons_of_pos h,List.filter_nil]
  | false =>
   rw [List.filter_cons_of_neg (by simp [h]),List.filter_append,List.filter_cons_of_neg (by simp [h]),List.filter_nil,List.append_nil]
   simp only [Bool.false_and]
   rw [show seen.any (fun _=>false)=false by simp,Bool.false_or]
theorem Qcm {α γ:Type} (f:α→γ) (ov:γ→γ→Bool):∀ (xs seen:List α),Zm ov (seen.map f) (xs.map f)=Zm (fun x y=>ov (f x) (f y)) seen xs
 | [],_=>rfl
 | x :: xs,seen=>by
  rw [List.map_cons,Zm,Zm,← Qcm f ov xs,List.map_append,List.any_map]; rfl
theorem Qan {α:Type} {ov ov':α→α→Bool} {Q:α→Prop} (h:∀ x y,Q x→Q y→ov x y=ov' x y):∀ (xs seen:List α),(∀ x∈xs,Q x)→(∀ x∈seen,Q x)→Zm ov seen xs=Zm ov' seen xs
 | [],_,_,_=>rfl
 | x :: xs,seen,h1,h2=>by
  have hx:=h1 x List.mem_cons_self
  rw [Zm,Zm,Ur (fun y hy=>h x y hx (h2 y hy)),Qan h xs (seen++[x]) (fun y hy=>h1 y (List.mem_cons_of_mem _ hy)) (fun y hy=>by
   rcases List.mem_append.1 hy with hy | hy
   ·exact h2 y hy
   ·rw [List.mem_singleton.1 hy]; exact hx)]
theorem Qdr {α:Type} [Inhabited α] (xs:List α) (p:α→Bool) (i:Nat) (h:i≤xs.length):anyF (fun k=>p (xs.getD k default)) 0 i=(xs.take i).any p:=by
 have hl:(xs.take i).length=i:=by rw [List.length_take]; omega
 have h1:=Ko (xs.take i) p i 0 (by omega)
 rw [List.drop_zero] at h1
 rw [← h1]
 have:∀ (m k:Nat),k+m=i→anyF (fun k=>p (xs.getD k default)) k m=anyF (fun k=>p ((xs.take i).getD k default)) k m:=by
  intro m
  induction m with
  | zero=>intro k _; rfl
  | succ m ih =>
   intro k hk
   rw [anyF,anyF,ih (k+1) (by omega)]
   congr 2
   rw [List.getD_eq_getElem?_getD,List.getD_eq_getElem?_getD,List.getElem?_take,if_pos (by omega)]
 exact this i 0 (by omega)
theorem Qib (L:Int) (h0:0≤L) (h1:L≤16):F57 L=((2 ^ (16-L.toNat):Nat):Int):=by
 have h3:L=0∨L=1∨L=2∨L=3∨L=4∨L=5∨L=6∨L=7∨L=8∨L=9∨L=10∨L=11∨L=12∨L=13∨L=14∨L=15∨L=16:=by omega
 rcases h3 with rfl | rfl | rfl | rfl | rfl | rfl | rfl | rfl | rfl | rfl | rfl | rfl | rfl | rfl | rfl | rfl | rfl <;> exact of_decide_eq_true rfl
theorem Qhd (a L x:Int) (ha:0≤a∧a≤65535) (hL:0≤L∧L≤16):F91 (⟨a,L⟩:Qb) x=decide (a≤x∧x<a+F57 L):=by
 unfold F91 F109
 have hs:=Qot L hL.1 hL.2
 have e:F71 (⟨a,L⟩:Qb)=F57 L:=Qfg a L hL.1 hL.2
 rw [e]
 simp only
 have w1:IntKind.i64.wrap (a+F57 L)=a+F57 L:=Za (by omega) (by omega)
 have w2:IntKind.i64.wrap (a+F57 L-1)=a+F57 L-1:=Za (by omega) (by omega)
 rw [w1,w2]
 exact decide_eq_decide.2 (by omega)
theorem Qiz (a b n m c:Int) (hm:1≤m) (hn:n=m*c) (ha:n ∣ a) (hb:m ∣ b) (h:a<b+m):a≤b:=by
 obtain ⟨x,rfl⟩:=ha
 obtain ⟨y,rfl⟩:=hb
 subst hn
 have h1:m*(c*x)<m*(y+1):=by rw [Int.mul_add,Int.mul_one,← Int.mul_assoc]; exact h
 have h2:c*x<y+1:=Int.lt_of_mul_lt_mul_left h1 (by omega)
 rw [Int.mul_assoc]
 exact Int.mul_le_mul_of_nonneg_left (by omega) (by omega)
theorem Qhx (L M:Int) (h:0≤L∧L≤M∧M≤16):∃ c:Int,F57 L=F57 M*c:=by
 rw [Qib L h.1 (by omega),Qib M (by omega) h.2.2]
 refine ⟨((2 ^ (M.toNat-L.toNat):Nat):Int),?_⟩
 rw [← Int.natCast_mul,← Nat.pow_add]
 congr 2
 omega
theorem Qtp {l:List UInt8} {a n:Int} (h:pfxL l=some (a,n)):F57 n ∣ a∧0≤a∧a≤65535∧0≤n∧n≤16:=by
 have hb:=Qfx h
 refine ⟨?_,hb⟩
 unfold pfxL at h
 match hs:Ub 47 l,h with
 | [x,y],h =>
  rw [pfx2] at h
  cases hc:decide (0≤Yc x)&&(in16 (num6 y)&&((Yc x).tmod (F57 (num6 y))==0)) with
  | false=>rw [hc] at h; cases h
  | true =>
   rw [hc] at h
   simp only [cond_true,Option.some.injEq,Prod.mk.injEq] at h
   obtain ⟨rfl,rfl⟩:=h
   simp only [Bool.and_eq_true,beq_iff_eq] at hc
   exact Int.dvd_of_tmod_eq_zero hc.2.2
 | [],h=>cases h
 | [x],h=>cases h
 | x :: y :: z :: r,h=>cases h
theorem La (s:ByteArray) (h:F144 s=true):∃ a L:Int,F33 s=((⟨a,L⟩:Qb),true)∧F39 s=(a,F57 L)∧F57 L ∣ a∧(0≤a∧a≤65535)∧(0≤L∧L≤16)∧1≤F57 L∧F57 L≤65536:=by
 rw [Mi] at h
 cases hp:pfxL s.data.toList with
 | none=>rw [hp] at h; cases h
 | some q =>
  obtain ⟨a,L⟩:=q
  have hd:=Qtp hp
  have hs:=Qot L hd.2.2.2.1 hd.2.2.2.2
  exact ⟨a,L,by rw [Vi,hp],by rw [Qbe,hp],hd.1,⟨hd.2.1,hd.2.2.1⟩,hd.2.2.2,hs⟩
def ovI (x y:ByteArray):Bool:=F87 (F33 x).1 (F33 y).1 || F87 (F33 y).1 (F33 x).1
def ovS (x y:ByteArray):Bool:=decide ((F39 x).1<IntKind.i64.wrap ((F39 y).1+(F39 y).2))&&decide ((F39 y).1<IntKind.i64.wrap ((F39 x).1+(F39 x).2))
theorem Uez (x y:ByteArray) (hx:F144 x=true) (hy:F144 y=true):ovI x y=ovS x y:=by
 obtain ⟨a,L,e1,e2,d1,b1,c1,s1⟩:=La x hx
 obtain ⟨b,M,f1,f2,d2,b2,c2,s2⟩:=La y hy
 unfold ovI ovS F87
 rw [e1,e2,f1,f2]
 simp only [Qhd _ _ _ b1 c1,Qhd _ _ _ b2 c2,cb1]
 rw [Za (by omega) (by omega),Za (by omega) (by omega),← Bool.decide_and,← Bool.decide_and,← Bool.decide_and,← Bool.decide_or]
 refine decide_eq_decide.2 ⟨fun h=>?_,fun h=>?_⟩
 ·rcases h with h | h <;> omega
 ·rcases Int.le_total L M with hl | hl
  ·obtain ⟨c,hc⟩:=Qhx L M ⟨c1.1,hl,c2.2⟩
   exact .inr ⟨hl,Qiz a b _ _ c s2.1 hc d1 d2 h.1,h.2⟩
  ·obtain ⟨c,hc⟩:=Qhx M L ⟨c2.1,hl,c1.2⟩
   exact .inl ⟨hl,Qiz b a _ _ c s1.1 hc d2 d1 h.2,h.1⟩
theorem Qlx (lines:List ByteArray):F65 lines=Zm (fun p q=>F87 p q || F87 q p) [] (Qo lines):=by
 unfold F65
 have:=Yx (Xh lines) (Qo lines).length (fun i=>((Qo lines).take i).any (fun q=>F87 ((Qo lines).getD i default) q || F87 q ((Qo lines).getD i default))) true (fun r=>r) false (fun i hi=>by
  simp only [Xh,ltD hi,cond_true,nn]
  exact anyL ((Qo lines).take i) (fun q=>F87 ((Qo lines).getD i default) q || F87 q ((Qo lines).getD i default)) true (Be lines (i:Int)) (fun j hj=>by
   simp only [Be,nn,ltD hj,cond_true,cb2]; rfl) (by simp only [Be,nn,geD,cond_false]) Lp.ret _ _ (fun _=>rfl)) (by simp only [Xh,geD,cond_false]) (Qo lines).length 0 (by omega) (Int.toNat (((Qo lines).length:Int)-0)+1) (by omega)
 rw [Va (fun p q=>F87 p q || F87 q p) (Qo lines) (Qo lines).length 0 (by omega),List.take_zero,List.drop_zero] at this
 refine Eq.trans this ?_
 cases Zm (fun p q=>F87 p q || F87 q p) [] (Qo lines) <;> rfl
theorem Qzh (all:List l52Cut):F24 all=!Zm (fun c e=>hdB c.w Yg&&(hdB e.w Yg&&ovS (c.w.getD 2 default) (e.w.getD 2 default))) [] all:=by
 unfold F24
 have:=Yx (Bm all) all.length (fun i=>(all.take i).any (fun e=>hdB (all.getD i default).w Yg&&(hdB e.w Yg&&ovS ((all.getD i default).w.getD 2 default) (e.w.getD 2 default)))) false (fun r=>r) true (fun i hi=>by
  simp only [Bm,ltD hi,cond_true]
  have h1:=Yx (Bx all (i:Int)) i (fun k=>hdB (all.getD i default).w Yg&&(hdB (all.getD k default).w Yg&&ovS ((all.getD i default).w.getD 2 default) ((all.getD k default).w.getD 2 default))) false (Lp.ret:Bool→Lp Int Bool) (.next ((i+1:Nat):Int)) (fun k hk=>by
   simp only [Bx,ltD hk,cond_true,nn,at0,at2,blit,cb1,cb2]
   show (bif (!(hdB (all.getD i default).w Yg) || !(hdB (all.getD k default).w Yg)) then _ else (bif ovS ((all.getD i default).w.getD 2 default) ((all.getD k default).w.getD 2 default) then _ else _))=_
   cases hdB (all.getD i default).w Yg <;> cases hdB (all.getD k default).w Yg <;> cases ovS ((all.getD i default).w.getD 2 default) ((all.getD k default).w.getD 2 default) <;> rfl) (by
   simp only [Bx,decide_eq_false (show ¬ (i:Int)<(i:Int) by omega),cond_false]) i 0 (by omega) (Int.toNat ((i:Int)-0)+1) (by omega)
  rw [Qdr all (fun e=>hdB (all.getD i default).w Yg&&(hdB e.w Yg&&ovS ((all.getD i default).w.getD 2 default) (e.w.getD 2 default))) i (by omega)] at h1
  exact h1) (by simp only [Bm,geD,cond_false]) all.length 0 (by omega) (Int.toNat ((all.length:Int)-0)+1) (by omega)
 rw [Va (fun c e=>hdB c.w Yg&&(hdB e.w Yg&&ovS (c.w.getD 2 default) (e.w.getD 2 default))) all all.length 0 (by omega),List.take_zero,List.drop_zero] at this
 refine Eq.trans this ?_
 cases Zm (fun (c e:l52Cut)=>hdB c.w Yg&&(hdB e.w Yg&&ovS (c.w.getD 2 default) (e.w.getD 2 default))) [] all <;> rfl
theorem Qfr (lines:List ByteArray) (h:F20 lines=0):F65 lines=!F24 ((wsL lines).map l52Cut.mk):=by
 rw [Qzh,Bool.not_not,Qlx]
 have e1:=Qcm l52Cut.mk (fun (c e:l52Cut)=>hdB c.w Yg&&(hdB e.w Yg&&ovS (c.w.getD 2 default) (e.w.getD 2 default))) (wsL lines) []
 rw [List.map_nil] at e1
 rw [e1]
 have e2:=Bi (fun w:List ByteArray=>hdB w Yg) (fun w v=>ovS (w.getD 2 default) (v.getD 2 default)) (wsL lines) []
 refine Eq.trans ?_ e2.symm
 have e3:=Qcm (fun w:List ByteArray=>(F33 (w.getD 2 default)).1) (fun p q=>F87 p q || F87 q p) (Qa lines (⟨#[112,111,114,116]⟩:ByteArray)) []
 rw [List.map_nil] at e3
 have e4:Qo lines=(Qa lines (⟨#[112,111,114,116]⟩:ByteArray)).map (fun w:List ByteArray=>(F33 (w.getD 2 default)).1):=rfl
 rw [e4,e3,Yn lines h]
 refine Qan (Q:=fun w=>Zw w) (fun w v hw hv=>Uez _ _ (by unfold Zw at hw; exact hw.2.2.2.2) (by unfold Zw at hv; exact hv.2.2.2.2)) _ [] (fun w hw=>?_) (fun w hw=>by cases hw)
 obtain ⟨h1,h2⟩:=List.mem_filter.1 hw
 exact Rn (Rk lines h w h1) (eq_of_beq h2)
def Qyj (w:List ByteArray) (addr:Int):Bool:=hdB w Yg&&(decide (addr>(F39 (w.getD 2 default)).1)&&decide (addr<IntKind.i64.wrap ((F39 (w.getD 2 default)).1+(F39 (w.getD 2 default)).2)))
theorem Ufp (all:List l52Cut) (addr:Int):F40 all addr=all.any fun c=>Qyj c.w addr:=by
 unfold F40
 have:=anyL all (fun c=>Qyj c.w addr) true (Bn all addr) (fun i hi=>by
  simp only [Bn,ltD hi,cond_true,nn,at0,at2,blit,cb1]
  show (bif hdB (all.getD i default).w Yg then (bif _ then _ else _) else _)=bif (hdB (all.getD i default).w Yg&&_) then _ else _
  cases hdB (all.getD i default).w Yg <;> rfl) (by simp only [Bn,geD,cond_false]) (fun r=>r) (fun i40=>false) false (fun _=>rfl)
 refine this.trans ?_
 cases all.any (fun c=>Qyj c.w addr) <;> rfl
theorem Quo (all:List l52Cut):F25 all=!all.any fun c=>(hdB c.w Ty&&!F40 all (F41 (c.w.getD 2 default))) || (hdB c.w Qdm&&!F40 all (F41 (c.w.getD 1 default))):=by
 unfold F25
 have:=anyL all (fun c=>(hdB c.w Ty&&!F40 all (F41 (c.w.getD 2 default))) || (hdB c.w Qdm&&!F40 all (F41 (c.w.getD 1 default)))) false (Ba all) (fun i hi=>by
  simp only [Ba,ltD hi,cond_true,nn,at0,at1,at2,blit]
  show (bif hdB (all.getD i default).w Ty then (bif !F40 all (F41 ((all.getD i default).w.getD 2 default)) then _ else _) else (bif hdB (all.getD i default).w Qdm then (bif !F40 all (F41 ((all.getD i default).w.getD 1 default)) then _ else _) else _))=_
  cases hr:hdB (all.getD i default).w Ty with
  | true =>
   have hp:hdB (all.getD i default).w Qdm=false:=by
    rw [hdB,beq_iff_eq] at hr
    rw [hdB,hr]; decide
   rw [hp]
   cases (!F40 all (F41 ((all.getD i default).w.getD 2 default))) <;> rfl
  | false=>cases hdB (all.getD i default).w Qdm <;> cases (!F40 all (F41 ((all.getD i default).w.getD 1 default))) <;> rfl) (by simp only [Ba,geD,cond_false]) (fun r=>r) (fun i40=>true) true (fun _=>rfl)
 refine this.trans ?_
 cases all.any _ <;> rfl
theorem Qdi (lines:List ByteArray):F66 lines=(((Qa lines (⟨#[114,111,117,116,101]⟩:ByteArray)).map fun w=>w.getD 2 default)++((Qa lines (⟨#[112,101,101,114]⟩:ByteArray)).map fun w=>w.getD 1 default)).any fun x0=>F88 x0 (Qo lines):=by
 have h0:Nl lines=Lp.done ((Qa lines (⟨#[114,111,117,116,101]⟩:ByteArray)).map fun w=>w.getD 2 default):=by
  unfold Nl
  have:=Yd (Qa lines (⟨#[114,111,117,116,101]⟩:ByteArray)) (fun (s:List ByteArray) w=>s++[w.getD 2 default]) (fun s i=>(s,i)) (Xf lines) (fun i s hi=>by
   simp only [Xf,ltD hi,cond_true,nn]; rfl) (fun s=>by simp only [Xf,geD,cond_false]) Lp.ret (fun (addrs1,v13)=>Lp.done addrs1) []
  refine this.trans ?_
  rw [Zf,List.nil_append]
 have h1:∀ a,Ht lines a=Lp.done (a++(Qa lines (⟨#[112,101,101,114]⟩:ByteArray)).map fun w=>w.getD 1 default):=fun a=>by
  unfold Ht
  have:=Yd (Qa lines (⟨#[112,101,101,114]⟩:ByteArray)) (fun (s:List ByteArray) w=>s++[w.getD 1 default]) (fun s i=>(s,i)) (Xa lines a) (fun i s hi=>by
   simp only [Xa,ltD hi,cond_true,nn]; rfl) (fun s=>by simp only [Xa,geD,cond_false]) Lp.ret (fun (addrs3,v27)=>Lp.done addrs3) a
  refine this.trans ?_
  rw [Zf]
 unfold F66
 rw [h0]
 show (Ht lines _).fin _ _=_
 rw [h1]; rfl
theorem Qet (lines:List ByteArray) (h:F20 lines=0) (t:ByteArray):F88 t (Qo lines)=!F40 ((wsL lines).map l52Cut.mk) (F41 t):=by
 rw [Ufp,Bg]
 unfold F88
 rw [Nf]
 congr 1
 have e4:Qo lines=(Qa lines (⟨#[112,111,114,116]⟩:ByteArray)).map (fun w:List ByteArray=>(F33 (w.getD 2 default)).1):=rfl
 rw [e4,List.any_map,Yn lines h,List.any_filter]
 refine Ur fun w hw=>?_
 show (hdB w Yg&&_)=(hdB w Yg&&_)
 cases hp:hdB w Yg with
 | false=>rfl
 | true =>
  have hpp:=Rn (Rk lines h w hw) (eq_of_beq hp)
  obtain ⟨a,L,e1,e2,d1,b1,c1,s1⟩:=La (w.getD 2 default) (by unfold Zw at hpp; exact hpp.2.2.2.2)
  rw [Bool.true_and,Bool.true_and]
  show F90 (F33 (w.getD 2 default)).1 (F41 t)=_
  unfold F90
  rw [e1,e2,Qhd _ _ _ b1 c1,cb1,Za (by simp only; omega) (by simp only; omega),neI]
  simp only
  rw [← decide_not,← Bool.decide_and,← Bool.decide_and]
  exact decide_eq_decide.2 (by omega)
theorem Re (lines:List ByteArray) (h:F20 lines=0):F66 lines=!F25 ((wsL lines).map l52Cut.mk):=by
 rw [Quo,Bool.not_not,Bg,Qdi,List.any_append,Qko,List.any_map,List.any_map,Yn lines h,Yn lines h,List.any_filter,List.any_filter]
 congr 1
 ·refine Ur fun w hw=>?_
  show (hdB w Ty&&F88 (w.getD 2 default) (Qo lines))=_
  rw [Qet lines h]
 ·refine Ur fun w hw=>?_
  show (hdB w Qdm&&F88 (w.getD 1 default) (Qo lines))=_
  rw [Qet lines h]
theorem Ea {α ρ τ:Type} [Inhabited α] (xs:List α) (P:α→Bool) (B:Nat→Bool) (bad:ρ) (step:Int×Int→Lp (Int×Int) ρ)
  (h1:∀ (i:Nat) (n:Int),i<xs.length→step (n,(i:Int))=bif P (xs.getD i default) then (bif B i then .ret bad else .next (n+1,((i+1:Nat):Int))) else .next (n,((i+1:Nat):Int)))
  (h2:∀ n:Int,step (n,(xs.length:Int))=.done (n,(xs.length:Int))) (f:ρ→τ) (g:Int×Int→τ) :
  ∀ (m i:Nat) (n:Int),i+m=xs.length→∀ fuel,m<fuel→(runL step fuel (n,(i:Int))).fin f g=bif anyF (fun i=>P (xs.getD i default)&&B i) i m then f bad else g (n+(((xs.drop i).filter P).length:Int),(xs.length:Int))
 | m,i,_,_,0,hf=>absurd hf (Nat.not_lt_zero _)
 | 0,i,n,h,fuel+1,hf=>by
  obtain rfl:i=xs.length:=by omega
  rw [Ks _ (h2 n),List.drop_of_length_le (Nat.le_refl _)]
  show g _=g _
  simp
 | m+1,i,n,h,fuel+1,hf=>by
  have hst:=h1 i n (by omega)
  have hd:xs.drop i=xs.getD i default :: xs.drop (i+1):=by
   rw [List.drop_eq_getElem_cons (show i<xs.length by omega),List.getD_eq_getElem?_getD,List.getElem?_eq_getElem (show i<xs.length by omega)]; rfl
  rw [anyF,hd]
  cases hp:P (xs.getD i default) with
  | false =>
   rw [hp,cond_false] at hst
   rw [Yf _ hst,Ea xs P B bad step h1 h2 f g m (i+1) _ (by omega) fuel (by omega),List.filter_cons_of_neg (by rw [hp]; exact Bool.false_ne_true)]
   simp
  | true =>
   rw [hp,cond_true] at hst
   rw [Bool.true_and]
   cases hb:B i with
   | true=>rw [hb,cond_true] at hst; rw [Zn _ hst]; rfl
   | false =>
    rw [hb,cond_false] at hst
    rw [Yf _ hst,Ea xs P B bad step h1 h2 f g m (i+1) _ (by omega) fuel (by omega),List.filter_cons_of_pos hp,Bool.false_or,List.length_cons]
    congr 2
    rw [Int.natCast_add,Int.add_assoc,Int.add_comm (1:Int)]; rfl
theorem Qnj {α:Type} [Inhabited α] (p:α→Bool) (xs:List α):(idxI p xs<0↔xs.filter p=[])∧(0≤idxI p xs→xs.getD (idxI p xs).toNat default=(xs.filter p).getD 0 default):=by
 unfold idxI
 cases h:first (fun k=>p (xs.getD k default)) xs.length with
 | none =>
  have h1:=first_none.1 h
  refine ⟨⟨fun _=>?_,fun _=>by decide⟩,fun h=>absurd h (by decide)⟩
  rw [List.filter_eq_nil_iff]
  intro x hx
  obtain ⟨k,hk,rfl⟩:=Vw hx
  rw [h1 k hk]; exact Bool.false_ne_true
 | some k =>
  obtain ⟨h1,h2,h3⟩:=first_some.1 h
  have hs:xs.filter p=xs.getD k default :: (xs.drop (k+1)).filter p:=by
   have e:xs=xs.take k++xs.getD k default :: xs.drop (k+1):=by
    rw [Kw _ h1,← List.drop_eq_getElem_cons h1,List.take_append_drop]
   have h4:(xs.take k).filter p=[]:=by
    rw [List.filter_eq_nil_iff]
    intro x hx
    obtain ⟨j,hj,rfl⟩:=Vw hx
    have hl:j<k:=by rw [List.length_take] at hj; omega
    rw [List.getD_eq_getElem?_getD,List.getElem?_take,if_pos hl,← List.getD_eq_getElem?_getD]
    rw [h3 j hl]; exact Bool.false_ne_true
   conv=>lhs; rw [e]
   rw [List.filter_append,h4,List.nil_append,List.filter_cons_of_pos h2]
  refine ⟨⟨fun h=>absurd h (by show ¬ ((k:Int)<0); omega),fun h=>by rw [hs] at h; cases h⟩,fun _=>?_⟩
  rw [hs]
  show xs.getD (k:Int).toNat default=xs.getD k default
  rw [nn]
theorem Qfz (p q:Nat→Bool):∀ (m i:Nat),anyF (fun k=>p k || q k) i m=(anyF p i m || anyF q i m)
 | 0,_=>rfl
 | m+1,i=>by
  rw [anyF,anyF,anyF,Qfz p q m (i+1)]
  cases p i <;> cases q i <;> simp
theorem Ts {p q:Nat→Bool}:∀ (m i:Nat),(∀ k,i≤k→k<i+m→p k=q k)→anyF p i m=anyF q i m
 | 0,_,_=>rfl
 | m+1,i,h=>by rw [anyF,anyF,h i (Nat.le_refl _) (by omega),Ts m (i+1) fun k h1 h2=>h k (by omega) (by omega)]
def badD (a n lo hi:Int) (d:List ByteArray):Bool:=(decide (F41 (d.getD 3 default)<a) || decide (F41 (d.getD 3 default)≥a+n)) || decide (lo≤F30 (d.getD 2 default)∧F30 (d.getD 2 default)≤hi)
def Jw (x y:List ByteArray):Bool:=(((y.getD 1 default).toList==(x.getD 1 default).toList)&&((y.getD 3 default).toList==(x.getD 3 default).toList))&&((y.getD 4 default).toList==(x.getD 4 default).toList)
theorem Ugi (all:List l52Cut) (i:Nat) (hi:i<all.length) (nat:l52Cut) (a n:Int) (hp:F39 (nat.w.getD 1 default)=(a,n)) (hb:0≤a∧a≤65535∧1≤n∧n≤65536) :
  F43 all (i:Int) nat=!(badD a n (F30 (nat.w.getD 3 default)) (F30 (nat.w.getD 4 default)) (all.getD i default).w || (all.take i).any fun e=>hdB e.w Uk&&Jw (all.getD i default).w e.w):=by
 unfold F43
 simp only [at1,at2,at3,at4,nn,hp,cb2]
 rw [Za (by omega) (by omega)]
 have h1:=Yx (Bv all (i:Int) nat) i (fun k=>hdB (all.getD k default).w Uk&&Jw (all.getD i default).w (all.getD k default).w) false (fun r=>r) true (fun k hk=>by
  simp only [Bv,ltD hk,cond_true,nn,at0,at1,at3,at4,cb1]
  show (bif (((_&&_)&&_)&&_) then _ else _)=bif (hdB (all.getD k default).w Uk&&((_&&_)&&_)) then _ else _
  rw [blit,Bool.and_assoc,Bool.and_assoc,Bool.and_assoc]; rfl) (by simp only [Bv,decide_eq_false (show ¬ (i:Int)<(i:Int) by omega),cond_false]) i 0 (by omega) (Int.toNat ((i:Int)-0)+1) (by omega)
 rw [Qdr all (fun e=>hdB e.w Uk&&Jw (all.getD i default).w e.w) i (by omega)] at h1
 rw [Bool.not_or]
 show (bif badD a n _ _ _ then false else _)=_
 refine (congrArg (fun z=>bif badD a n (F30 (nat.w.getD 3 default)) (F30 (nat.w.getD 4 default)) (all.getD i default).w then false else z) h1).trans ?_
 cases badD a n (F30 (nat.w.getD 3 default)) (F30 (nat.w.getD 4 default)) (all.getD i default).w <;> cases ((all.take i).any fun e=>hdB e.w Uk&&Jw (all.getD i default).w e.w) <;> rfl
def Qgq (a n lo hi:Int) (ds:List (List ByteArray)):Bool:=ds.any (badD a n lo hi) || Zm Jw [] ds
theorem Qdc (ws:List (List ByteArray)):F26 (ws.map l52Cut.mk)=match ws.filter (fun w=>hdB w hNat) with
  | []=>!(ws.any fun w=>hdB w Uk)
  | w :: _=>bif anyF (fun i=>hdB ((ws.map l52Cut.mk).getD i default).w Uk&&!F43 (ws.map l52Cut.mk) (i:Int) ⟨w⟩) 0 ws.length then false else
    ((decide (((ws.filter fun w=>hdB w Uk).length:Int)≤6)&&(decide (F41 (w.getD 2 default)<(F39 (w.getD 1 default)).1) || decide (F41 (w.getD 2 default)≥IntKind.i64.wrap ((F39 (w.getD 1 default)).1+(F39 (w.getD 1 default)).2))))&&decide (F30 (w.getD 3 default)≤F30 (w.getD 4 default))):=by
 generalize hall:ws.map l52Cut.mk=all
 have hlen:all.length=ws.length:=by rw [← hall,List.length_map]
 have hidx:=Qnj (fun c=>((F29 c 0).toList==(⟨#[110,97,116]⟩:ByteArray).toList)) all
 have hnf:all.filter (fun c=>((F29 c 0).toList==(⟨#[110,97,116]⟩:ByteArray).toList))=(ws.filter fun w=>hdB w hNat).map l52Cut.mk:=by
  rw [← hall,List.filter_map]
  congr 2
  funext w
  show ((F29 ⟨w⟩ 0).toList==_)=_
  rw [at0,blit]; rfl
 rw [hnf] at hidx
 have hdf:all.filter (fun c=>hdB c.w Uk)=(ws.filter fun w=>hdB w Uk).map l52Cut.mk:=by
  rw [← hall,List.filter_map]; rfl
 have e211:F42 all=idxI (fun c=>((F29 c 0).toList==(⟨#[110,97,116]⟩:ByteArray).toList)) all:=as42 all
 unfold F26
 generalize hk:idxI (fun c=>((F29 c 0).toList==(⟨#[110,97,116]⟩:ByteArray).toList)) all=k at hidx
 have hloop:=Ea all (fun c=>hdB c.w Uk) (fun i=>decide (k<0) || !F43 all (i:Int) (all.getD (Int.toNat k) default)) false (Vv all) (fun i n hi=>by
  simp only [Vv,ltD hi,cond_true,nn,hk,e211]
  simp only [at0,blit,cb2]
  show (bif !(hdB (all.getD i default).w Uk) then _ else _)=bif hdB (all.getD i default).w Uk then _ else _
  cases hdB (all.getD i default).w Uk <;> rfl) (fun n=>by simp only [Vv,geD,cond_false]) (fun r=>r)
  (fun (doors,i40)=>bif (decide (k<0)) then true else (((decide (doors≤6)&&(decide (F41 ((all.getD k.toNat default).w.getD 2 default)<(F39 ((all.getD k.toNat default).w.getD 1 default)).1) || decide (F41 ((all.getD k.toNat default).w.getD 2 default)≥IntKind.i64.wrap ((F39 ((all.getD k.toNat default).w.getD 1 default)).1+(F39 ((all.getD k.toNat default).w.getD 1 default)).2)))))&&decide (F30 ((all.getD k.toNat default).w.getD 3 default)≤F30 ((all.getD k.toNat default).w.getD 4 default)))) all.length 0 0 (by omega) (Int.toNat ((all.length:Int)-0)+1) (by omega)
 simp only [hk,e211]
 simp only [at1,at2,at3,at4,cb1,cb2]
 refine Eq.trans hloop ?_
 rw [List.drop_zero,hdf,List.length_map,hlen]
 cases hn:ws.filter (fun w=>hdB w hNat) with
 | nil =>
  rw [hn] at hidx
  have hk0:=hidx.1.2 rfl
  simp only [decide_eq_true hk0,Bool.true_or,Bool.and_true,cond_true]
  have:=Ko all (fun c=>hdB c.w Uk) all.length 0 (by omega)
  rw [List.drop_zero,hlen] at this
  rw [this,← hall,List.any_map]
  show (bif ws.any (fun w=>hdB w Uk) then false else true)=!ws.any fun w=>hdB w Uk
  cases ws.any fun w=>hdB w Uk <;> rfl
 | cons w r =>
  rw [hn] at hidx
  have hk0:¬ k<0:=fun h=>by have:=hidx.1.1 h; cases this
  have hw:all.getD k.toNat default=⟨w⟩:=(hidx.2 (by omega)).trans rfl
  simp only [decide_eq_false hk0,Bool.false_or,cond_false,hw]
  rw [Int.zero_add]
theorem Qjg (lines:List ByteArray) (w:List ByteArray) (r:List (List ByteArray)) (hn:Qa lines (⟨#[110,97,116]⟩:ByteArray)=w :: r) :
  F67 lines=(((F91 (F33 (w.getD 1 default)).1 (F49 (w.getD 2 default)) || decide (F17 (w.getD 3 default)>F17 (w.getD 4 default))) || decide (((Qa lines (⟨#[100,111,111,114]⟩:ByteArray)).length:Int)>6)) ||
   ((Qa lines (⟨#[100,111,111,114]⟩:ByteArray)).any (fun d=>!F91 (F33 (w.getD 1 default)).1 (F49 (d.getD 3 default)) || decide (F17 (w.getD 3 default)≤F17 (d.getD 2 default)∧F17 (d.getD 2 default)≤F17 (w.getD 4 default))) || Zm Jw [] (Qa lines (⟨#[100,111,111,114]⟩:ByteArray)))):=by
 unfold F67
 have e0:((Qa lines (⟨#[110,97,116]⟩:ByteArray)).getD (Int.toNat 0) default)=w:=by rw [hn]; rfl
 have hl:((((Qa lines (⟨#[110,97,116]⟩:ByteArray)).length:Int)==0))=false:=by rw [hn,beq_eq_false_iff_ne,List.length_cons]; omega
 rw [hl,cond_false]
 simp only [e0,cb2]
 generalize hds:Qa lines (⟨#[100,111,111,114]⟩:ByteArray)=ds
 have hloop:=Yx (Xg lines) ds.length (fun i=>(!F91 (F33 (w.getD 1 default)).1 (F49 ((ds.getD i default).getD 3 default)) || decide (F17 (w.getD 3 default)≤F17 ((ds.getD i default).getD 2 default)∧F17 ((ds.getD i default).getD 2 default)≤F17 (w.getD 4 default))) || (ds.take i).any (Jw (ds.getD i default))) true (fun r=>r) false (fun i hi=>by
  simp only [Xg,hds,ltD hi,cond_true,nn,e0,cb2]
  have h1:=anyL (ds.take i) (Jw (ds.getD i default)) true (Xj lines (i:Int)) (fun j hj=>by
   simp only [Xj,hds,nn,ltD hj,cond_true,cb1]; rfl) (by simp only [Xj,hds,nn,geD,cond_false]) (Lp.ret:Bool→Lp Int Bool) (fun v89=>.next ((i:Int)+1)) (.next ((i:Int)+1)) (fun _=>rfl)
  rw [h1]
  show (bif (!F91 (F33 (w.getD 1 default)).1 (F49 ((ds.getD i default).getD 3 default)) || decide (F17 (w.getD 3 default)≤F17 ((ds.getD i default).getD 2 default)∧F17 ((ds.getD i default).getD 2 default)≤F17 (w.getD 4 default))) then _ else _)=_
  cases (!F91 (F33 (w.getD 1 default)).1 (F49 ((ds.getD i default).getD 3 default)) || decide (F17 (w.getD 3 default)≤F17 ((ds.getD i default).getD 2 default)∧F17 ((ds.getD i default).getD 2 default)≤F17 (w.getD 4 default))) <;> cases ((ds.take i).any (Jw (ds.getD i default))) <;> rfl) (by simp only [Xg,hds,geD,cond_false]) ds.length 0 (by omega) (Int.toNat ((ds.length:Int)-0)+1) (by omega)
 rw [Qfz,Va Jw ds ds.length 0 (by omega),List.take_zero,List.drop_zero] at hloop
 have h2:=Ko ds (fun d=>(!F91 (F33 (w.getD 1 default)).1 (F49 (d.getD 3 default)) || decide (F17 (w.getD 3 default)≤F17 (d.getD 2 default)∧F17 (d.getD 2 default)≤F17 (w.getD 4 default)))) ds.length 0 (by omega)
 rw [List.drop_zero] at h2
 rw [h2] at hloop
 refine (congrArg (fun z=>bif ((F91 (F33 (w.getD 1 default)).1 (F49 (w.getD 2 default)) || decide (F17 (w.getD 3 default)>F17 (w.getD 4 default))) || decide ((ds.length:Int)>6)) then true else z) hloop).trans ?_
 rw [cb2]
 congr 1
 cases ((ds.any fun d=>!F91 (F33 (w.getD 1 default)).1 (F49 (d.getD 3 default)) || decide (F17 (w.getD 3 default)≤F17 (d.getD 2 default)∧F17 (d.getD 2 default)≤F17 (w.getD 4 default))) || Zm Jw [] ds) <;> rfl
theorem Qdb (lines:List ByteArray) (h:F20 lines=0):F67 lines=!F26 ((wsL lines).map l52Cut.mk):=by
 rw [Qdc]
 have hN:Qa lines (⟨#[110,97,116]⟩:ByteArray)=(wsL lines).filter fun w=>hdB w hNat:=Yn lines h _
 have hD:Qa lines (⟨#[100,111,111,114]⟩:ByteArray)=(wsL lines).filter fun w=>hdB w Uk:=Yn lines h _
 cases hn:(wsL lines).filter fun w=>hdB w hNat with
 | nil =>
  rw [hn] at hN
  unfold F67
  rw [hN,hD]
  show decide ((((wsL lines).filter fun w=>hdB w Uk).length:Int)>0)=!!_
  rw [Bool.not_not,Bool.eq_iff_iff,decide_eq_true_eq,List.any_eq_true]
  constructor
  ·intro hl
   have hl:0<((wsL lines).filter fun w=>hdB w Uk).length:=by omega
   have:=List.mem_filter.1 (List.getElem_mem hl)
   exact ⟨_,this.1,this.2⟩
  ·rintro ⟨x,hx,hp⟩
   have:=List.length_pos_of_mem (List.mem_filter.2 ⟨hx,hp⟩:x∈(wsL lines).filter fun w=>hdB w Uk)
   omega
 | cons w r =>
  have hwm:w∈(wsL lines).filter fun w=>hdB w hNat:=by rw [hn]; exact List.mem_cons_self
  rw [hn] at hN
  obtain ⟨hw1,hw2⟩:=List.mem_filter.1 hwm
  have hnp:=Ucw (Rk lines h w hw1) (eq_of_beq hw2)
  unfold natP at hnp
  obtain ⟨a,L,e1,e2,d1,b1,c1,s1⟩:=La (w.getD 1 default) hnp.2.2.1
  rw [Qjg lines w r hN]
  simp only [e1,e2,Qhd _ _ _ b1 c1,Pl,Nf]
  rw [Za (by omega) (by omega),hD]
  have hdoor:anyF (fun i=>hdB (((wsL lines).map l52Cut.mk).getD i default).w Uk&&!F43 ((wsL lines).map l52Cut.mk) (i:Int) ⟨w⟩) 0 (wsL lines).length=Qgq a (F57 L) (F30 (w.getD 3 default)) (F30 (w.getD 4 default)) ((wsL lines).filter fun w=>hdB w Uk):=by
   have hc:=Ts (p:=fun i=>hdB (((wsL lines).map l52Cut.mk).getD i default).w Uk&&!F43 ((wsL lines).map l52Cut.mk) (i:Int) ⟨w⟩) (q:=fun i=>(hdB ((wsL lines).getD i default) Uk&&badD a (F57 L) (F30 (w.getD 3 default)) (F30 (w.getD 4 default)) ((wsL lines).getD i default)) || ((wsL lines).take i).any (fun e=>hdB ((wsL lines).getD i default) Uk&&(hdB e Uk&&Jw ((wsL lines).getD i default) e))) (wsL lines).length 0 (fun k _ hk=>by
    have hk:k<(wsL lines).length:=by omega
    have hg:((wsL lines).map l52Cut.mk).getD k default=⟨(wsL lines).getD k default⟩:=Nk _ _ _ hk
    rw [Ugi _ k (by simpa using hk) ⟨w⟩ a _ e2 ⟨b1.1,b1.2,s1⟩,Bool.not_not,hg,← List.map_take,Bg]
    show (hdB ((wsL lines).getD k default) Uk&&_)=_
    cases hdB ((wsL lines).getD k default) Uk with
    | true=>simp only [Bool.true_and]
    | false =>
     simp only [Bool.false_and]
     rw [show ((wsL lines).take k).any (fun _=>false)=false by simp]; rfl)
   rw [hc,Qfz,Va (fun x e=>hdB x Uk&&(hdB e Uk&&Jw x e)) (wsL lines) (wsL lines).length 0 (by omega),List.take_zero,List.drop_zero,Bi]
   have h3:=Ko (wsL lines) (fun d=>hdB d Uk&&badD a (F57 L) (F30 (w.getD 3 default)) (F30 (w.getD 4 default)) d) (wsL lines).length 0 (by omega)
   rw [List.drop_zero] at h3
   rw [h3]
   unfold Qgq
   rw [List.any_filter]; rfl
  rw [hdoor]
  have hbd:((wsL lines).filter fun w=>hdB w Uk).any (fun d=>!decide (a≤F41 (d.getD 3 default)∧F41 (d.getD 3 default)<a+F57 L) || decide (F30 (w.getD 3 default)≤F30 (d.getD 2 default)∧F30 (d.getD 2 default)≤F30 (w.getD 4 default)))=((wsL lines).filter fun w=>hdB w Uk).any (badD a (F57 L) (F30 (w.getD 3 default)) (F30 (w.getD 4 default))):=Ur fun d _=>by
   unfold badD
   congr 1
   rw [← decide_not,← Bool.decide_or]
   exact decide_eq_decide.2 (by omega)
  rw [hbd]
  show (_ || Qgq a (F57 L) (F30 (w.getD 3 default)) (F30 (w.getD 4 default)) ((wsL lines).filter fun w=>hdB w Uk))=_
  have g1:decide (a≤F41 (w.getD 2 default)∧F41 (w.getD 2 default)<a+F57 L)=!(decide (F41 (w.getD 2 default)<a) || decide (F41 (w.getD 2 default)≥a+F57 L)):=by
   rw [← Bool.decide_or,← decide_not]
   exact decide_eq_decide.2 (by omega)
  have g2:decide (F30 (w.getD 3 default)>F30 (w.getD 4 default))=!decide (F30 (w.getD 3 default)≤F30 (w.getD 4 default)):=by
   rw [← decide_not]
   exact decide_eq_decide.2 (by omega)
  have g3:decide ((((wsL lines).filter fun w=>hdB w Uk).length:Int)>6)=!decide ((((wsL lines).filter fun w=>hdB w Uk).length:Int)≤6):=by
   rw [← decide_not]
   exact decide_eq_decide.2 (by omega)
  rw [g1,g2,g3]
  generalize (decide (F41 (w.getD 2 default)<a) || decide (F41 (w.getD 2 default)≥a+F57 L))=x1,decide (F30 (w.getD 3 default)≤F30 (w.getD 4 default))=x2,decide ((((wsL lines).filter fun w=>hdB w Uk).length:Int)≤6)=x3,Qgq a (F57 L) (F30 (w.getD 3 default)) (F30 (w.getD 4 default)) ((wsL lines).filter fun w=>hdB w Uk)=x4
  cases x1 <;> cases x2 <;> cases x3 <;> cases x4 <;> rfl
theorem Qtm (lines:List ByteArray) (hz:∀ k:Nat,(lines.getD k default).size≤1048576) (h:F62 lines=0):F20 lines=0∧lines.length≤16∧∀ k:Nat,(lines.getD k default).size≤1048576:=by
 rw [Qfh] at h
 exact ⟨h,Xx lines h,hz⟩
theorem Rm (lines:List ByteArray) (hz:∀ k:Nat,(lines.getD k default).size≤1048576):∀ k j:Nat,(((lines.map (fun l=>(⟨(F37 l).1⟩:l52Cut))).getD k default).w.getD j default).size≤1048576:=fun k j=>by
 by_cases hk:k<lines.length
 ·rw [Nk _ _ _ hk]
  exact Qc (lines.getD k default) j
 ·have e:(lines.map (fun l=>(⟨(F37 l).1⟩:l52Cut))).getD k default=default:=by
   rw [List.getD_eq_getElem?_getD,List.getElem?_eq_none (by rw [List.length_map]; omega)]; rfl
  rw [e]
  exact Nat.zero_le _
theorem kc62 (lines:List ByteArray) {K_:Prop} (p0_:∀ k:Nat,(lines.getD k default).size≤1048576) (k_:K_):(∀ k:Nat,(lines.getD k default).size≤1048576)∧(Imp (.l 1 eStr lines) (.l 1 eStr lines))∧K_:=⟨p0_,Imp.refl _,k_⟩
abbrev kh62 (lines:List ByteArray):Hint false Tryz.prog:=.call 62 (S62 lines) (ok62 lines) none
def Ra (p:(List ByteArray)→Bool):Ye:=⟨List ByteArray,fun i=>[.c (.x (PX (.l 1 eStr i) (F20 i=0∧i.length≤16∧∀ k:Nat,(i.getD k default).size≤1048576)))],fun i=>.bool (p i)⟩
def Qhs (p:(List ByteArray)→Bool):List Dat:=[.x (FnX Tryz.prog (Ra p))]
def fh63:FnH Tryz.prog:=⟨false,63,Ra (fun x0=>F63 x0),[],rfl,True,fun i=>Bk (ok63 i)⟩
theorem ca63:Ue Tryz.prog 63=true:=by kernel_rfl
def fh64:FnH Tryz.prog:=⟨false,64,Ra (fun x0=>F64 x0),[],rfl,True,fun i=>Bk (ok64 i)⟩
theorem ca64:Ue Tryz.prog 64=true:=by kernel_rfl
def fh65:FnH Tryz.prog:=⟨false,65,Ra (fun x0=>F65 x0),[],rfl,True,fun i=>Bk (ok65 i)⟩
theorem ca65:Ue Tryz.prog 65=true:=by kernel_rfl
def fh66:FnH Tryz.prog:=⟨false,66,Ra (fun x0=>F66 x0),[],rfl,True,fun i=>Bk (ok66 i)⟩
theorem ca66:Ue Tryz.prog 66=true:=by kernel_rfl
def fh67:FnH Tryz.prog:=⟨false,67,Ra (fun x0=>F67 x0),[],rfl,True,fun i=>Bk (ok67 i)⟩
theorem ca67:Ue Tryz.prog 67=true:=by kernel_rfl
def Wh (lines:List ByteArray):Int→Lp Int Int:=fun v13 =>
 bif (decide (v13<(([(fun x0=>F63 x0),(fun x0=>F64 x0),(fun x0=>F65 x0),(fun x0=>F66 x0),(fun x0=>F67 x0)]:List ((List ByteArray)→Bool)).length:Int))) then (bif ((([(fun x0=>F63 x0),(fun x0=>F64 x0),(fun x0=>F65 x0),(fun x0=>F66 x0),(fun x0=>F67 x0)]:List ((List ByteArray)→Bool)).getD v13.toNat default) lines) then (.ret (5+v13)) else (.next (v13+1))) else (.done v13)
def F46 (lines:List ByteArray):Int :=
 bif ((F62 lines) != 0) then (F62 lines) else ((runL (Wh lines) (((([(fun x0=>F63 x0),(fun x0=>F64 x0),(fun x0=>F65 x0),(fun x0=>F66 x0),(fun x0=>F67 x0)]:List ((List ByteArray)→Bool)).length:Int)-0).toNat+1) 0).fin (fun r=>r) (fun v13=>0))
abbrev Rt:Nat×Int:=((((([(fun x0=>F63 x0),(fun x0=>F64 x0),(fun x0=>F65 x0),(fun x0=>F66 x0),(fun x0=>F67 x0)]:List ((List ByteArray)→Bool)).length:Int)-0).toNat+1),0)
abbrev Qol (m39:Nat) (v13:Int):Prop:=(Int.toNat ((([(fun x0=>F63 x0),(fun x0=>F64 x0),(fun x0=>F65 x0),(fun x0=>F66 x0),(fun x0=>F67 x0)]:List ((List ByteArray)→Bool)).length:Int)-v13)<m39)∧(0:Int)≤v13
abbrev Ucx (lines:List ByteArray):Lp Int Int:=LpX (Wh lines) (Rt)
abbrev En (lines:List ByteArray) (i:Nat×Int):Prop:=LpJ (Wh lines) (Rt) i (Qol i.1 i.2)
abbrev Qtu (lines:List ByteArray) (i:Nat×Int) (m39:Nat) (v13:Int):Prop:=LpH (Wh lines) (Rt) i m39 v13 (Qol (m39+1) v13)
abbrev Qzz (lines:List ByteArray) (v13:Int) (v13_:Int) (K39:Prop):Prop:=(Rf (.int .i64 (([(fun x0=>F63 x0),(fun x0=>F64 x0),(fun x0=>F65 x0),(fun x0=>F66 x0),(fun x0=>F67 x0)]:List ((List ByteArray)→Bool)).length:Int)))∧((.int .i64 v13:Value)=.int .i64 v13_)∧(Im (.l 1 eStr lines))∧(Im (.l 1 Qhs ([(fun x0=>F63 x0),(fun x0=>F64 x0),(fun x0=>F65 x0),(fun x0=>F66 x0),(fun x0=>F67 x0)]:List ((List ByteArray)→Bool))))∧K39
theorem un46_0 (lines:List ByteArray) (i:Nat×Int) (h:En lines i):Qtu lines i (i.1-1) i.2:=⟨hd1 h.1 h.2.1,hd3 h.2.1,hd2 h.2.1,h.2.2⟩
theorem bk46_0 (lines:List ByteArray) (i:Nat×Int) (m39:Nat) (v13:Int) (hl:m39<i.1) (e:runL (Wh lines) m39 v13=Ucx lines) (h:Qol m39 v13):∃ j:Nat×Int,Qzz lines v13 j.2 (En lines j∧j.1<i.1):=⟨(m39,v13),rfl,rfl,Imp.refl _,Imp.refl _,⟨e,h⟩,hl⟩
theorem en46_0 (lines:List ByteArray) (h:(0:Int)≤0):Qzz lines 0 0 (En lines (Rt)):=⟨rfl,rfl,Imp.refl _,Imp.refl _,rfl,Nat.lt_succ_self _,h⟩
def S46 (lines:List ByteArray):Spec:=⟨[.r (.c (.l 1 eStr lines))],.v (vI (F46 lines)),lines.length≤1048576∧(∀ k:Nat,(lines.getD k default).size≤1048576)⟩
theorem ok46 (lines:List ByteArray):(S46 lines).ok Tryz.prog 46 false :=
 Qi mixed (fn:=Tryz.f46) (ct:=.seqk [(0,0)] .no (.seq (.seq (.reg [(1,kh62 lines)]) (.seq .no (.cond (.seq .no .no) .no))) (.seq (.seqk [(0,0),(11,0)] (.reg [(0,.dat (.l 1 Qhs ([(fun x0=>F63 x0),(fun x0=>F64 x0),(fun x0=>F65 x0),(fun x0=>F66 x0),(fun x0=>F67 x0)]:List ((List ByteArray)→Bool))))]) (.blk (.loop (ι:=Nat×Int) (fun i=>(fun (v13:Int)=>(⟨[(0,some (.h 0 0)),(11,some (.h 1 0)),(12,some (.v (vI (([(fun x0=>F63 x0),(fun x0=>F64 x0),(fun x0=>F65 x0),(fun x0=>F66 x0),(fun x0=>F67 x0)]:List ((List ByteArray)→Bool)).length:Int)))),(13,some (.v (vI v13)))],[(0,some (.shr none (.l 1 eStr lines))),(1,some (.own 1 (.l 1 Qhs ([(fun x0=>F63 x0),(fun x0=>F64 x0),(fun x0=>F65 x0),(fun x0=>F66 x0),(fun x0=>F67 x0)]:List ((List ByteArray)→Bool)))))],2⟩:St)) i.2) (En lines) (fun i=>i.1) (Rt) (fun i=>(fun (v13:Int)=>(.seq .no (.seq (.cond .no .no) (.seq (.blk (.seq .no (.seq (.reg [(2,.fnv (Ra (([(fun x0=>F63 x0),(fun x0=>F64 x0),(fun x0=>F65 x0),(fun x0=>F66 x0),(fun x0=>F67 x0)]:List ((List ByteArray)→Bool)).getD v13.toNat default)) lines)]) (.cond (.seq (.reg [(1,.bnd)]) .no) .no)))) (.reg [(0,.bnd)]))))) i.2)))) (.seq .no .no)))) Tryz.func46 (fun (hp:lines.length≤1048576∧(∀ k:Nat,(lines.getD k default).size≤1048576))=>have hpre0:=hp.1; have hpre1:=hp.2; kn lines fun _=>kc62 lines (by first | assumption | exact hpre1 _ | exact fun k _=>hpre1 k | (intros; exact trivial) | (intros; exact Nat.zero_le _)) (ifn (F62 lines) 0 (fun h1 _=>fiI (F62 lines) (F46 lines) (condT h1 rfl)) (fun h1 _=>ai (BuildOK.mk Qhs ([(fun x0=>F63 x0),(fun x0=>F64 x0),(fun x0=>F65 x0),(fun x0=>F66 x0),(fun x0=>F67 x0)]:List ((List ByteArray)→Bool)) rfl (by exact ai (Imp.fn fh63 rfl trivial ca63) (ai (Imp.fn fh64 rfl trivial ca64) (ai (Imp.fn fh65 rfl trivial ca65) (ai (Imp.fn fh66 rfl trivial ca66) (ai (Imp.fn fh67 rfl trivial ca67) trivial))))) (fun _=>rfl):BuildOK 5 1 [.v (.func (.func 63) #[] #[]),.v (.func (.func 64) #[] #[]),.v (.func (.func 65) #[] #[]),.v (.func (.func 66) #[] #[]),.v (.func (.func 67) #[] #[])] (.l 1 Qhs ([(fun x0=>F63 x0),(fun x0=>F64 x0),(fun x0=>F65 x0),(fun x0=>F66 x0),(fun x0=>F67 x0)]:List ((List ByteArray)→Bool)))) (kn lines fun _=>kn ([(fun x0=>F63 x0),(fun x0=>F64 x0),(fun x0=>F65 x0),(fun x0=>F66 x0),(fun x0=>F67 x0)]:List ((List ByteArray)→Bool)) fun _=>ai (en46_0 lines (by omega)) (fun (i0:Nat×Int) (hi0:En lines i0)=>(fun (m0:Nat) (v13:Int) (hh0:Qtu lines i0 m0 v13)=>have hI0:=hh0.1; have hl0:=hh0.2.1; have _:=hh0.2.2.1; have _:=hh0.2.2.2; ifd (v13<(([(fun x0=>F63 x0),(fun x0=>F64 x0),(fun x0=>F65 x0),(fun x0=>F66 x0),(fun x0=>F67 x0)]:List ((List ByteArray)→Bool)).length:Int)) (fun h3 _=>ai (by omega:ib v13 ([(fun x0=>F63 x0),(fun x0=>F64 x0),(fun x0=>F65 x0),(fun x0=>F66 x0),(fun x0=>F67 x0)]:List ((List ByteArray)→Bool))) (ai (Eq.refl (FnX Tryz.prog (Ra (([(fun x0=>F63 x0),(fun x0=>F64 x0),(fun x0=>F65 x0),(fun x0=>F66 x0),(fun x0=>F67 x0)]:List ((List ByteArray)→Bool)).getD v13.toNat default)))) (ai (Imp.px (d:=.l 1 eStr lines) (by exact Qtm lines (by assumption) (by omega):F20 lines=0∧lines.length≤16∧∀ k:Nat,(lines.getD k default).size≤1048576)) (ifb ((([(fun x0=>F63 x0),(fun x0=>F64 x0),(fun x0=>F65 x0),(fun x0=>F66 x0),(fun x0=>F67 x0)]:List ((List ByteArray)→Bool)).getD v13.toNat default) lines) (fun h4=>ai (iok (5+v13) (by first | omega | (simp only [List.length_cons,List.length_nil] at *; omega))) (fiI (5+v13) (F46 lines) (condF h1 (finR (Qt hI0 (condT h3 (condT h4 rfl))) rfl)))) (fun h4=>ai (iok (v13+1) (by first | omega | (simp only [List.length_cons,List.length_nil] at *; omega))) (bk46_0 lines i0 m0 (v13+1) hl0 (Qe hI0 (condT h3 (condF h4 rfl))) (by refine ⟨?_,?_⟩ <;> omega))))))) (fun h3 _=>have hD0_5:Ucx lines=Lp.done v13:=Qj hI0 (condF h3 rfl); fiI 0 (F46 lines) (condF h1 (finD hD0_5 rfl)))) (i0.1-1) i0.2 (un46_0 lines i0 hi0)))))) (by kernel_rfl)
theorem kc20 (lines:List ByteArray) {K_:Prop} (p0_:∀ k:Nat,(lines.getD k default).size≤1048576) (k_:K_):(∀ k:Nat,(lines.getD k default).size≤1048576)∧(Imp (.l 1 eStr lines) (.l 1 eStr lines))∧K_:=⟨p0_,Imp.refl _,k_⟩
abbrev kh20 (lines:List ByteArray):Hint true Tryz.prog:=.call 20 (S20 lines) (ok20 lines) none
theorem kc21a (lines:List ByteArray) {K_:Prop} (p0_:lines.length≤16) (p1_:∀ k:Nat,(lines.getD k default).size≤1048576) (k_:K_):(lines.length≤16∧(∀ k:Nat,(lines.getD k default).size≤1048576))∧(Imp (.l 1 eStr lines) (.l 1 eStr lines))∧K_:=⟨⟨p0_,p1_⟩,Imp.refl _,k_⟩
abbrev kh21a (lines:List ByteArray):Hint true Tryz.prog:=.call 21 (T21 (lines.map (fun l=>(⟨(F37 l).1⟩:l52Cut))) lines) (oa21 lines) none
def F13 (lines:List ByteArray):Int :=
 bif ((F20 lines) != 0) then (F20 lines) else (bif (!(F22 (lines.map (fun l=>(⟨(F37 l).1⟩:l52Cut))))) then 5 else (bif (!(F23 (lines.map (fun l=>(⟨(F37 l).1⟩:l52Cut))))) then 6 else (bif (!(F24 (lines.map (fun l=>(⟨(F37 l).1⟩:l52Cut))))) then 7 else (bif (!(F25 (lines.map (fun l=>(⟨(F37 l).1⟩:l52Cut))))) then 8 else (bif (!(F26 (lines.map (fun l=>(⟨(F37 l).1⟩:l52Cut))))) then 9 else 0)))))
def S13 (lines:List ByteArray):Spec:=⟨[.r (.c (.l 1 eStr lines))],.v (vI (F13 lines)),lines.length≤1048576∧(∀ k:Nat,(lines.getD k default).size≤1048576)⟩
theorem ok13 (lines:List ByteArray):(S13 lines).ok Tryz.prog 13 :=
 Qi mixed (fn:=Tryz.f13) (ct:=.seqk [(0,0)] .no (.seq (.reg [(1,kh20 lines)]) (.seq (.seq .no (.cond (.seq .no .no) .no)) (.seq (.reg [(1,kh21a lines)]) (.seq (.blk (.seq (.reg [(1,.call 22 (S22 (lines.map (fun l=>(⟨(F37 l).1⟩:l52Cut)))) (ok22 (lines.map (fun l=>(⟨(F37 l).1⟩:l52Cut)))) none)]) (.cond (.seq .no .no) (.seq (.reg [(1,.call 23 (S23 (lines.map (fun l=>(⟨(F37 l).1⟩:l52Cut)))) (ok23 (lines.map (fun l=>(⟨(F37 l).1⟩:l52Cut)))) none)]) (.cond (.seq .no .no) (.seq (.reg [(1,.call 24 (S24 (lines.map (fun l=>(⟨(F37 l).1⟩:l52Cut)))) (ok24 (lines.map (fun l=>(⟨(F37 l).1⟩:l52Cut)))) none)]) (.cond (.seq .no .no) (.seq (.reg [(1,.call 25 (S25 (lines.map (fun l=>(⟨(F37 l).1⟩:l52Cut)))) (ok25 (lines.map (fun l=>(⟨(F37 l).1⟩:l52Cut)))) none)]) (.cond (.seq .no .no) (.seq (.reg [(1,.call 26 (S26 (lines.map (fun l=>(⟨(F37 l).1⟩:l52Cut)))) (ok26 (lines.map (fun l=>(⟨(F37 l).1⟩:l52Cut)))) none)]) (.cond (.seq .no .no) .no))))))))))) (.seq .no .no)))))) Tryz.func13 (fun (hp:lines.length≤1048576∧(∀ k:Nat,(lines.getD k default).size≤1048576))=>have hpre0:=hp.1; have hpre1:=hp.2; kn lines fun _=>kc20 lines (by first | assumption | exact hpre1 _ | exact fun k _=>hpre1 k | (intros; exact trivial) | (intros; exact Nat.zero_le _)) (ifn (F20 lines) 0 (fun h1 _=>fiI (F20 lines) (F13 lines) (condT h1 rfl)) (fun h1 _=>kc21a lines (by first | omega | assumption | (have h9:=Xx lines (by omega); omega)) (by first | omega | assumption | (have h9:=Xx lines (by omega); omega)) (ai trivial (ai (Imp.refl (.l 1 Qk (lines.map (fun l=>(⟨(F37 l).1⟩:l52Cut))))) (ifb (!(F22 (lines.map (fun l=>(⟨(F37 l).1⟩:l52Cut))))) (fun h2=>fiI 5 (F13 lines) (condF h1 (condT h2 rfl))) (fun h2=>ai trivial (ai (Imp.refl (.l 1 Qk (lines.map (fun l=>(⟨(F37 l).1⟩:l52Cut))))) (ifb (!(F23 (lines.map (fun l=>(⟨(F37 l).1⟩:l52Cut))))) (fun h3=>fiI 6 (F13 lines) (condF h1 (condF h2 (condT h3 rfl)))) (fun h3=>ai (by exact Rm lines (by assumption):∀ k j:Nat,(((lines.map (fun l=>(⟨(F37 l).1⟩:l52Cut))).getD k default).w.getD j default).size≤1048576) (ai (Imp.refl (.l 1 Qk (lines.map (fun l=>(⟨(F37 l).1⟩:l52Cut))))) (ifb (!(F24 (lines.map (fun l=>(⟨(F37 l).1⟩:l52Cut))))) (fun h4=>fiI 7 (F13 lines) (condF h1 (condF h2 (condF h3 (condT h4 rfl))))) (fun h4=>ai (by exact Rm lines (by assumption):∀ k j:Nat,(((lines.map (fun l=>(⟨(F37 l).1⟩:l52Cut))).getD k default).w.getD j default).size≤1048576) (ai (Imp.refl (.l 1 Qk (lines.map (fun l=>(⟨(F37 l).1⟩:l52Cut))))) (ifb (!(F25 (lines.map (fun l=>(⟨(F37 l).1⟩:l52Cut))))) (fun h5=>fiI 8 (F13 lines) (condF h1 (condF h2 (condF h3 (condF h4 (condT h5 rfl)))))) (fun h5=>ai (by exact Rm lines (by assumption):∀ k j:Nat,(((lines.map (fun l=>(⟨(F37 l).1⟩:l52Cut))).getD k default).w.getD j default).size≤1048576) (ai (Imp.refl (.l 1 Qk (lines.map (fun l=>(⟨(F37 l).1⟩:l52Cut))))) (ifb (!(F26 (lines.map (fun l=>(⟨(F37 l).1⟩:l52Cut))))) (fun h6=>fiI 9 (F13 lines) (condF h1 (condF h2 (condF h3 (condF h4 (condF h5 (condT h6 rfl))))))) (fun h6=>fiI 0 (F13 lines) (condF h1 (condF h2 (condF h3 (condF h4 (condF h5 (condF h6 rfl))))))))))))))))))))))))) (by kernel_rfl)
theorem Hf (lines:List ByteArray):F46 lines=F13 lines:=by
 unfold F46 F13
 rw [Qfh]
 cases hn:(F20 lines != 0) with
 | true=>rfl
 | false =>
  have h0:F20 lines=0:=by simpa using hn
  rw [cond_false,cond_false]
  have e:(lines.map (fun l=>(⟨(F37 l).1⟩:l52Cut)))=(wsL lines).map l52Cut.mk:=by
   unfold wsL
   rw [List.map_map]; rfl
  rw [e]
  have k1:=Qhe lines h0
  have k2:=Rd lines h0
  have k3:=Qfr lines h0
  have k4:=Re lines h0
  have k5:=Qdb lines h0
  rw [← k1,← k2,← k3,← k4,← k5]
  have s0:Wh lines 0=bif F63 lines then .ret 5 else .next 1:=rfl
  have s1:Wh lines 1=bif F64 lines then .ret 6 else .next 2:=rfl
  have s2:Wh lines 2=bif F65 lines then .ret 7 else .next 3:=rfl
  have s3:Wh lines 3=bif F66 lines then .ret 8 else .next 4:=rfl
  have s4:Wh lines 4=bif F67 lines then .ret 9 else .next 5:=rfl
  have s5:Wh lines 5=.done 5:=rfl
  show (runL (Wh lines) 6 0).fin _ _=_
  cases b0:F63 lines with
  | true=>rw [b0,cond_true] at s0; rw [Zn _ s0]; rfl
  | false =>
  rw [b0,cond_false] at s0; rw [Yf _ s0]
  cases b1:F64 lines with
  | true=>rw [b1,cond_true] at s1; rw [Zn _ s1]; rfl
  | false =>
  rw [b1,cond_false] at s1; rw [Yf _ s1]
  cases b2:F65 lines with
  | true=>rw [b2,cond_true] at s2; rw [Zn _ s2]; rfl
  | false =>
  rw [b2,cond_false] at s2; rw [Yf _ s2]
  cases b3:F66 lines with
  | true=>rw [b3,cond_true] at s3; rw [Zn _ s3]; rfl
  | false =>
  rw [b3,cond_false] at s3; rw [Yf _ s3]
  cases b4:F67 lines with
  | true=>rw [b4,cond_true] at s4; rw [Zn _ s4]; rfl
  | false =>
  rw [b4,cond_false] at s4; rw [Yf _ s4,Ks _ s5]; rfl
theorem Nq (lines:List ByteArray) (h:F13 lines=0):lines.length≤16:=by
 unfold F13 at h
 cases hn:(F20 lines != 0) with
 | true=>rw [hn,cond_true] at h; rw [h] at hn; exact absurd hn (by decide)
 | false=>exact Xx lines (by simpa using hn)
theorem Qmj (lines:List ByteArray) (h:F46 lines=0):lines.length≤16:=Nq lines (by rw [← Hf]; exact h)
def Vu (a:List ByteArray) (left':Int):(Int×Int)→Lp (Int×Int) Int:=fun (left'1,i40) =>
 bif (decide (i40<(a.length:Int))) then (bif (decide ((left'1-((a.getD i40.toNat default).size:Int))<0)) then (.ret (-1)) else (.next ((left'1-((a.getD i40.toNat default).size:Int)),(i40+1)))) else (.done (left'1,i40))
def F4 (a:List ByteArray) (left':Int):Int :=
 bif (decide ((left'-(a.length:Int))<0)) then (-1) else ((runL (Vu a left') (((a.length:Int)-0).toNat+1) ((left'-(a.length:Int)),0)).fin (fun r=>r) (fun (left'1,i40)=>left'1))
abbrev Qjr (a:List ByteArray) (left':Int):Nat×(Int×Int):=((((a.length:Int)-0).toNat+1),((left'-(a.length:Int)),0))
abbrev Qzn (a:List ByteArray) (m39:Nat) (left'1:Int) (i40:Int):Prop:=Int.toNat ((a.length:Int)-i40)<m39∧(0:Int)≤left'1∧left'1≤1048576∧(0:Int)≤i40
abbrev lX4_0 (a:List ByteArray) (left':Int):Lp (Int×Int) Int:=LpX (Vu a left') (Qjr a left')
abbrev Qja (a:List ByteArray) (left':Int) (i:Nat×(Int×Int)):Prop:=LpJ (Vu a left') (Qjr a left') i (Qzn a i.1 i.2.1 i.2.2)
abbrev lH4_0 (a:List ByteArray) (left':Int) (i:Nat×(Int×Int)) (m39:Nat) (left'1:Int) (i40:Int):Prop:=LpH (Vu a left') (Qjr a left') i m39 (left'1,i40) (Qzn a (m39+1) left'1 i40)
abbrev lE4_0 (a:List ByteArray) (left'1:Int) (i40:Int) (left'1_:Int) (i40_:Int) (K39:Prop):Prop:=((.int .i64 left'1:Value)=.int .i64 left'1_)∧((.int .i64 i40:Value)=.int .i64 i40_)∧(Im (.l 1 eStr a))∧K39
theorem un4_0 (a:List ByteArray) (left':Int) (i:Nat×(Int×Int)) (h:Qja a left' i):lH4_0 a left' i (i.1-1) i.2.1 i.2.2:=⟨hd1 h.1 h.2.1,hd3 h.2.1,hd2 h.2.1,h.2.2⟩
theorem bk4_0 (a:List ByteArray) (left':Int) (i:Nat×(Int×Int)) (m39:Nat) (left'1:Int) (i40:Int) (hl:m39<i.1) (e:runL (Vu a left') m39 (left'1,i40)=lX4_0 a left') (h:Qzn a m39 left'1 i40):∃ j:Nat×(Int×Int),lE4_0 a left'1 i40 j.2.1 j.2.2 (Qja a left' j∧j.1<i.1):=⟨(m39,(left'1,i40)),rfl,rfl,Imp.refl _,⟨e,h⟩,hl⟩
theorem en4_0 (a:List ByteArray) (left':Int) (h:(0:Int)≤(left'-(a.length:Int))∧(left'-(a.length:Int))≤1048576∧(0:Int)≤0):lE4_0 a (left'-(a.length:Int)) 0 (left'-(a.length:Int)) 0 (Qja a left' (Qjr a left')):=⟨rfl,rfl,Imp.refl _,rfl,Nat.lt_succ_self _,h⟩
def S4 (a:List ByteArray) (left':Int):Spec:=⟨[.r (.c (.l 1 eStr a)),.r (.c (.v (vI left')))],.v (vI (F4 a left')),0≤left'∧left'≤1048576∧(∀ k:Nat,(a.getD k default).size≤9223372036854775807)⟩
theorem ok4 (a:List ByteArray) (left':Int):(S4 a left').ok Tryz.prog 4 :=
 Qi mixed (fn:=Tryz.f4) (ct:=.seqk [(0,0)] .no (.seq (.reg [(3,.bnd)]) (.seq (.seq .no (.cond (.seq .no .no) .no)) (.seq (.seqk [(0,0)] .no (.blk (.loop (ι:=Nat×(Int×Int)) (fun i=>(fun (left'1:Int) (i40:Int)=>(⟨[(0,some (.h 0 0)),(1,some (.v (vI left'1))),(5,some (.v (vI i40)))],[(0,some (.shr none (.l 1 eStr a)))],1⟩:St)) i.2.1 i.2.2) (Qja a left') (fun i=>i.1) (Qjr a left') (fun i=>(fun (left'1:Int) (i40:Int)=>(.seq (.seq .no (.cond .no .no)) (.seq (.blk (.seq (.reg [(6,.bnd)]) (.seq .no (.cond (.seq .no .no) .no)))) (.reg [(1,.bnd)])))) i.2.1 i.2.2)))) (.seq .no .no))))) Tryz.func4 (fun (hp:0≤left'∧left'≤1048576∧(∀ k:Nat,(a.getD k default).size≤9223372036854775807))=>have hpre0:=hp.1; have hpre1:=hp.2.1; have hpre2:=hp.2.2; kn a fun _=>ai (iok (left'-(a.length:Int)) (by first | omega | (have hz:=(by assumption:∀ k:Nat,(a.getD k default).size≤9223372036854775807) i40.toNat; omega))) (ifd ((left'-(a.length:Int))<0) (fun h1 _=>fiI (-1) (F4 a left') (condT h1 rfl)) (fun h1 _=>kn a fun _=>ai (en4_0 a left' (by refine ⟨?_,?_,?_⟩ <;> omega)) (fun (i0:Nat×(Int×Int)) (hi0:Qja a left' i0)=>(fun (m0:Nat) (left'1:Int) (i40:Int) (hh0:lH4_0 a left' i0 m0 left'1 i40)=>have hI0:=hh0.1; have hl0:=hh0.2.1; have _:=hh0.2.2.1; have _:=hh0.2.2.2; ifd (i40<(a.length:Int)) (fun h3 _=>ai (by omega:ib i40 a) (ai (iok (left'1-((a.getD i40.toNat default).size:Int)) (by first | omega | (have hz:=(by assumption:∀ k:Nat,(a.getD k default).size≤9223372036854775807) i40.toNat; omega))) (ifd ((left'1-((a.getD i40.toNat default).size:Int))<0) (fun h4 _=>fiI (-1) (F4 a left') (condF h1 (finR (Qt hI0 (condT h3 (condT h4 rfl))) rfl))) (fun h4 _=>ai (iok (i40+1) (by first | omega | (have hz:=(by assumption:∀ k:Nat,(a.getD k default).size≤9223372036854775807) i40.toNat; omega))) (bk4_0 a left' i0 m0 (left'1-((a.getD i40.toNat default).size:Int)) (i40+1) hl0 (Qe hI0 (condT h3 (condF h4 rfl))) (by refine ⟨?_,?_,?_,?_⟩ <;> omega)))))) (fun h3 _=>have hD0_5:lX4_0 a left'=Lp.done (left'1,i40):=Qj hI0 (condF h3 rfl); fiI left'1 (F4 a left') (condF h1 (finD hD0_5 rfl)))) (i0.1-1) i0.2.1 i0.2.2 (un4_0 a left' i0 hi0))))) (by kernel_rfl)
theorem gb4 (a:List ByteArray) (left':Int):0≤left'→left'≤1048576→0≤(F4 a left')→(F4 a left')≤left'∧(a.length≤1000000000)∧(∀ k:Nat,(a.getD k default).size≤1000000000):=by
 intro h0 h1 h2
 simp only [F4] at h2 ⊢
 cases h:decide (left'-(a.length:Int)<0)
 ·simp only [h,cond_false] at h2 ⊢
  have hc:=of_decide_eq_false h
  obtain ⟨hall,hle⟩:=Uet (fun (x:ByteArray) (l:Int)=>l-(x.size:Int)) (fun x=>(x.size≤1000000000)) (fun x l g0 g1 g2=>⟨by omega,by omega⟩) a (Vu a left') (left'-(a.length:Int)) (by omega) (by omega) (fun l i=>rfl) h2
  exact ⟨Int.le_trans hle (by omega),by omega,fun k=>by
   by_cases hk:k<a.length
   ·exact (hall k hk)
   ·rw [Kc a (by omega)]; first | exact Nat.zero_le _ | (intro k'; exact Nat.zero_le _) | (intro k' k''; exact Nat.zero_le _)⟩
 ·simp only [h,cond_true] at h2
  exact absurd h2 (by decide)
theorem g4_0 (a:List ByteArray) (left':Int):0≤left'→left'≤1048576→0≤(F4 a left')→(F4 a left')≤left':=by
 intro h0 h1 h2; exact (gb4 a left' h0 h1 h2).1
theorem g4_1 (a:List ByteArray) (left':Int):0≤left'→left'≤1048576→0≤(F4 a left')→a.length≤1000000000:=by
 intro h0 h1 h2; exact (gb4 a left' h0 h1 h2).2.1
theorem g4_2 (a:List ByteArray) (left':Int):0≤left'→left'≤1048576→0≤(F4 a left')→∀ k:Nat,(a.getD k default).size≤1000000000:=by
 intro h0 h1 h2; exact (gb4 a left' h0 h1 h2).2.2
theorem Qiq (a:List ByteArray) (l:Int) (h:0≤F4 a l):(a.length:Int)≤l∧(∀ k:Nat,((a.getD k default).size:Int)≤l)∧F4 a l≤l:=by
 unfold F4 at h ⊢
 cases hd:decide ((l-(a.length:Int))<0) with
 | true=>rw [hd,cond_true] at h; exact absurd h (by decide)
 | false =>
  rw [hd,cond_false] at h
  have hd:=of_decide_eq_false hd
  have key:∀ (m i:Nat) (s:Int),i+m=a.length→0≤s→∀ fuel,m<fuel→0≤(runL (Vu a l) fuel (s,(i:Int))).fin (fun r=>r) (fun (x:Int×Int)=>x.1)→(∀ k:Nat,i≤k→k<a.length→((a.getD k default).size:Int)≤s)∧(runL (Vu a l) fuel (s,(i:Int))).fin (fun r=>r) (fun (x:Int×Int)=>x.1)≤s:=by
   intro m
   induction m with
   | zero =>
    intro i s hi hs fuel hf hr
    obtain ⟨fuel,rfl⟩:∃ f,fuel=f+1:=⟨fuel-1,by omega⟩
    have e:Vu a l (s,(i:Int))=.done (s,(i:Int)):=by
     simp only [Vu,decide_eq_false (show ¬ (i:Int)<(a.length:Int) by omega),cond_false]
    rw [Ks _ e]
    exact ⟨fun k h1 h2=>by omega,Int.le_refl _⟩
   | succ m ih =>
    intro i s hi hs fuel hf hr
    obtain ⟨fuel,rfl⟩:∃ f,fuel=f+1:=⟨fuel-1,by omega⟩
    have e:Vu a l (s,(i:Int))=bif decide (s-((a.getD i default).size:Int)<0) then .ret (-1) else .next (s-((a.getD i default).size:Int),((i+1:Nat):Int)):=by
     simp only [Vu,decide_eq_true (show (i:Int)<(a.length:Int) by omega),cond_true,nn]; rfl
    cases hb:decide (s-((a.getD i default).size:Int)<0) with
    | true =>
     rw [hb,cond_true] at e
     rw [Zn _ e] at hr
     exact absurd hr (by show ¬ (0:Int)≤-1; decide)
    | false =>
     rw [hb,cond_false] at e
     have hb:=of_decide_eq_false hb
     rw [Yf _ e] at hr ⊢
     obtain ⟨h1,h2⟩:=ih (i+1) _ (by omega) (by omega) fuel (by omega) hr
     refine ⟨fun k hk1 hk2=>?_,by omega⟩
     rcases Nat.eq_or_lt_of_le hk1 with rfl | hk
     ·omega
     ·have:=h1 k hk hk2
      omega
  obtain ⟨h1,h2⟩:=key a.length 0 (l-(a.length:Int)) (by omega) (by omega) (Int.toNat ((a.length:Int)-0)+1) (by omega) h
  refine ⟨by omega,fun k=>?_,?_⟩
  ·by_cases hk:k<a.length
   ·have:=h1 k (Nat.zero_le _) hk
    omega
   ·rw [List.getD_eq_getElem?_getD,List.getElem?_eq_none (by omega)]
    show ((0:Nat):Int)≤l
    omega
  ·rw [cond_false]
   refine Int.le_trans h2 ?_
   omega
theorem Xl (a:List ByteArray) {l:Int} (h:0≤F4 a l) (hl:l≤1048576):a.length≤1048576:=by have:=(Qiq a l h).1; omega
theorem Gq (a:List ByteArray) {l:Int} (h:0≤F4 a l) (hl:l≤1048576):∀ k:Nat,(a.getD k default).size≤1048576:=fun k=>by have:=(Qiq a l h).2.1 k; omega
def Qad (s:ByteArray) (at':Int):(List ByteArray×Int×Int)→Lp (List ByteArray×Int×Int) (List ByteArray):=fun (out1,from'1,i40) =>
 bif (decide (i40<(s.size:Int))) then (bif (((s.data.getD i40.toNat 0).toNat:Int)==(at'%256)) then (.next ((out1++[(s.extract (Int.toNat from'1) i40.toNat)]),(i40+1),(i40+1))) else (.next (out1,from'1,(i40+1)))) else (.done (out1,from'1,i40))
def Qgd (s:ByteArray) (at':Int):Lp (List ByteArray×Int) (List ByteArray) :=
 (runL (Qad s at') (((s.size:Int)-0).toNat+1) (([]:List ByteArray),0,0)).fin Lp.ret (fun (out1,from'1,i40)=>.done (out1,from'1))
def F58 (s:ByteArray) (at':Int):List ByteArray :=
 (Qgd s at').fin (fun r=>r) (fun (out,from')=>(out++[(s.extract from'.toNat (s.size:Int).toNat)]))
abbrev Qck (s:ByteArray):Nat×(List ByteArray×Int×Int):=((((s.size:Int)-0).toNat+1),(([]:List ByteArray),0,0))
abbrev Qnk (s:ByteArray) (m39:Nat) (out1:List ByteArray) (from'1:Int) (i40:Int):Prop:=Int.toNat ((s.size:Int)-i40)<m39∧(0:Int)≤from'1∧(from'1:Int)≤i40∧(out1.length:Int)≤i40∧i40≤(s.size:Int)∧(0:Int)≤from'1∧(0:Int)≤i40
abbrev Qvj (s:ByteArray) (at':Int):Lp (List ByteArray×Int×Int) (List ByteArray):=LpX (Qad s at') (Qck s)
abbrev Eg (s:ByteArray) (at':Int) (i:Nat×(List ByteArray×Int×Int)):Prop:=LpJ (Qad s at') (Qck s) i (Qnk s i.1 i.2.1 i.2.2.1 i.2.2.2)
abbrev Qus (s:ByteArray) (at':Int) (i:Nat×(List ByteArray×Int×Int)) (m39:Nat) (out1:List ByteArray) (from'1:Int) (i40:Int):Prop:=LpH (Qad s at') (Qck s) i m39 (out1,from'1,i40) (Qnk s (m39+1) out1 from'1 i40)
abbrev Qxp (s:ByteArray) (at':Int) (out1:List ByteArray) (from'1:Int) (i40:Int) (out1_:List ByteArray) (from'1_:Int) (i40_:Int) (K39:Prop):Prop:=(Rf (.string s))∧(Rf (.int .u8 (at'%256)))∧((.int .i64 from'1:Value)=.int .i64 from'1_)∧((.int .i64 i40:Value)=.int .i64 i40_)∧(Imp (.l 1 eStr out1) (.l 1 eStr out1_))∧K39
theorem un58_0 (s:ByteArray) (at':Int) (i:Nat×(List ByteArray×Int×Int)) (h:Eg s at' i):Qus s at' i (i.1-1) i.2.1 i.2.2.1 i.2.2.2:=⟨hd1 h.1 h.2.1,hd3 h.2.1,hd2 h.2.1,h.2.2⟩
theorem Ubx (s:ByteArray) (at':Int) (i:Nat×(List ByteArray×Int×Int)) (m39:Nat) (out1:List ByteArray) (from'1:Int) (i40:Int) (hl:m39<i.1) (e:runL (Qad s at') m39 (out1,from'1,i40)=Qvj s at') (h:Qnk s m39 out1 from'1 i40):∃ j:Nat×(List ByteArray×Int×Int),Qxp s at' out1 from'1 i40 j.2.1 j.2.2.1 j.2.2.2 (Eg s at' j∧j.1<i.1):=⟨(m39,(out1,from'1,i40)),rfl,rfl,rfl,rfl,Imp.refl _,⟨e,h⟩,hl⟩
theorem en58_0 (s:ByteArray) (at':Int) (h:(0:Int)≤0∧(0:Int)≤0∧(([]:List ByteArray).length:Int)≤0∧0≤(s.size:Int)∧(0:Int)≤0∧(0:Int)≤0):Qxp s at' ([]:List ByteArray) 0 0 ([]:List ByteArray) 0 0 (Eg s at' (Qck s)):=⟨rfl,rfl,rfl,rfl,Imp.refl _,rfl,Nat.lt_succ_self _,h⟩
abbrev Qoe (s:ByteArray) (at':Int) (out:List ByteArray) (from':Int):Prop:=(0:Int)≤from'∧from'≤(s.size:Int)∧(out.length:Int)≤(s.size:Int)
abbrev Qna (s:ByteArray) (at':Int) (j:List ByteArray×Int):Prop:=(Qgd s at')=Lp.done j∧Qoe s at' j.1 j.2
theorem jn58_0 (s:ByteArray) (at':Int) (out:List ByteArray) (from':Int) (e:(Qgd s at')=Lp.done (out,from')) (h:Qoe s at' out from'):∃ j:List ByteArray×Int,((.string s:Value)=.string s)∧((.int .i64 from':Value)=.int .i64 j.2)∧(Imp (.l 1 eStr out) (.l 1 eStr j.1))∧Qna s at' j:=⟨(out,from'),rfl,rfl,Imp.refl _,e,h⟩
theorem fi58 (s:ByteArray) (at':Int) (r:List ByteArray) (hF:r=(F58 s at')):(Imp (.l 1 eStr r) (.l 1 eStr (F58 s at')))∧True:=by cases hF; exact ⟨Imp.refl _,trivial⟩
def S58 (s:ByteArray) (at':Int):Spec:=⟨[.r (.c (.v (.string s))),.r (.c (.v (.int .u8 (at'%256))))],.ow (.l 1 eStr (F58 s at')),s.size≤1048576⟩
theorem ok58 (s:ByteArray) (at':Int):(S58 s at').ok Tryz.prog 58 :=
 Qi mixed (fn:=Tryz.f58) (ct:=.seq .no (.seq (.reg [(0,.dat (.l 1 eStr ([]:List ByteArray)))]) (.seq .no (.cut (ι:=List ByteArray×Int) (fun j=>(fun (out:List ByteArray) (from':Int)=>(⟨[(0,some (.v (.string s))),(5,some (.h 0 0)),(6,some (.v (vI from')))],[(0,some (.own 0 (.l 1 eStr out)))],1⟩:St)) j.1 j.2) (Qna s at') (.seqk [(5,0)] .no (.blk (.loop (ι:=Nat×(List ByteArray×Int×Int)) (fun i=>(fun (out1:List ByteArray) (from'1:Int) (i40:Int)=>(⟨[(0,some (.v (.string s))),(1,some (.v (.int .u8 (at'%256)))),(5,some (.h 0 0)),(6,some (.v (vI from'1))),(7,some (.v (vI i40)))],[(0,some (.own 0 (.l 1 eStr out1)))],1⟩:St)) i.2.1 i.2.2.1 i.2.2.2) (Eg s at') (fun i=>i.1) (Qck s) (fun i=>(fun (out1:List ByteArray) (from'1:Int) (i40:Int)=>(.seq (.seq .no (.cond .no .no)) (.seq (.blk (.seq .no (.cond (.seq (.reg [(6,.dat (.l 1 eStr (out1++[(s.extract (Int.toNat from'1) i40.toNat)])))]) (.reg [(1,.bnd)])) .no))) (.reg [(1,.bnd)])))) i.2.1 i.2.2.1 i.2.2.2)))) (fun j=>(fun (out:List ByteArray) (from':Int)=>(.seq (.reg [(5,.dat (.l 1 eStr (out++[(s.extract from'.toNat (s.size:Int).toNat)])))]) .no)) j.1 j.2))))) Tryz.func58 (fun (hpre0:s.size≤1048576)=>ai (bokr 1 eStr ([]:List ByteArray) fun _=>rfl) (ai (kn ([]:List ByteArray) fun _=>ai (en58_0 s at' (by refine ⟨?_,?_,?_,?_,?_,?_⟩ <;> first | omega | (simp only [lens,ib] at*<;> omega))) (fun (i0:Nat×(List ByteArray×Int×Int)) (hi0:Eg s at' i0)=>(fun (m0:Nat) (out1:List ByteArray) (from'1:Int) (i40:Int) (hh0:Qus s at' i0 m0 out1 from'1 i40)=>have hI0:=hh0.1; have hl0:=hh0.2.1; have _:=hh0.2.2.1; have _:=hh0.2.2.2; ifd (i40<(s.size:Int)) (fun h2 _=>ai (by first | omega | (simp only [lens,ib] at*<;> omega):0≤i40∧i40<(s.size:Int)) (ife ((s.data.getD i40.toNat 0).toNat:Int) (at'%256) (fun h3 _=>ai (by first | omega | (simp only [lens,ib] at*<;> omega):0≤from'1∧from'1≤i40∧i40≤(s.size:Int)) (ai (appr 1 eStr out1 [(s.extract (Int.toNat from'1) i40.toNat)] fun _=>rfl) (ai (by (try simp only [lens]); omega:(out1++[(s.extract (Int.toNat from'1) i40.toNat)]).length*16≤140737488355328) (ai (iok (i40+1) (by first | omega | (simp only [lens,ib] at*<;> omega))) (ai (iok (i40+1) (by first | omega | (simp only [lens,ib] at*<;> omega))) (Ubx s at' i0 m0 (out1++[(s.extract (Int.toNat from'1) i40.toNat)]) (i40+1) (i40+1) hl0 (Qe hI0 (condT h2 (condT h3 rfl))) (by refine ⟨?_,?_,?_,?_,?_,?_,?_⟩ <;> first | omega | (simp only [lens,ib] at*<;> omega)))))))) (fun h3 _=>ai (iok (i40+1) (by first | omega | (simp only [lens,ib] at*<;> omega))) (Ubx s at' i0 m0 out1 from'1 (i40+1) hl0 (Qe hI0 (condT h2 (condF h3 rfl))) (by refine ⟨?_,?_,?_,?_,?_,?_,?_⟩ <;> first | omega | (simp only [lens,ib] at*<;> omega)))))) (fun h2 _=>have hD0_4:Qvj s at'=Lp.done (out1,from'1,i40):=Qj hI0 (condF h2 rfl); jn58_0 s at' out1 from'1 (Eq.symm (finD hD0_4 rfl)) (by refine ⟨?_,?_,?_⟩ <;> first | omega | (simp only [lens,ib] at*<;> omega)))) (i0.1-1) i0.2.1 i0.2.2.1 i0.2.2.2 (un58_0 s at' i0 hi0))) (fun (j:List ByteArray×Int) (hj:Qna s at' j)=>(fun (out:List ByteArray) (from':Int) (hJ0_5:(Qgd s at')=Lp.done (out,from')) (hw:Qoe s at' out from')=>have _:=hw.1; have _:=hw.2.1; have _:=hw.2.2; ai (by first | omega | (simp only [lens,ib] at*<;> omega):0≤from'∧from'≤(s.size:Int)∧(s.size:Int)≤(s.size:Int)) (ai (appr 1 eStr out [(s.extract from'.toNat (s.size:Int).toNat)] fun _=>rfl) (ai (by (try simp only [lens]); omega:(out++[(s.extract from'.toNat (s.size:Int).toNat)]).length*16≤140737488355328) (fi58 s at' (out++[(s.extract from'.toNat (s.size:Int).toNat)]) (finD hJ0_5 rfl))))) j.1 j.2 hj.1 hj.2))) (by kernel_rfl)
def F76 (n:Int) (low:Int) (high:Int):Bool :=
 (bif decide (n≥low) then decide (n≤high) else false)
def S76 (R:Bool) (n:Int) (low:Int) (high:Int):Spec:=⟨[.r (.c (.v (vI n))),.r (.c (.v (vI low))),.r (.c (.v (vI high)))],.v (.bool R),True⟩
theorem ok76 (n:Int) (low:Int) (high:Int):(S76 (F76 n low high) n low high).ok Tryz.prog 76 :=
 Qi mixed (fn:=Tryz.f76) (ct:=.seq .no (.seq .no .no)) Tryz.func76 (fun (_:True)=>fiB (bif decide (n≥low) then decide (n≤high) else false) (F76 n low high) rfl) (by kernel_rfl)
theorem as76 (n:Int) (low:Int) (high:Int):F76 n low high=(decide (low≤n∧n≤high)):=by
 simp only [F76,Bool.decide_and,Qyi]
theorem oa76 (n:Int) (low:Int) (high:Int):(S76 (decide (low≤n∧n≤high)) n low high).ok Tryz.prog 76:=by
 intro hp; have h:=ok76 n low high hp; rw [as76 n low high] at h; exact h
theorem Qug (n:Int) (low:Int) (high:Int) {K_:Prop} (k_:K_):(True)∧(Imp (.v (vI n)) (.v (vI n)))∧(Imp (.v (vI low)) (.v (vI low)))∧(Imp (.v (vI high)) (.v (vI high)))∧K_:=⟨trivial,Imp.refl _,Imp.refl _,Imp.refl _,k_⟩
abbrev Qjq (n:Int) (low:Int) (high:Int):Hint true Tryz.prog:=.call 76 (S76 (decide (low≤n∧n≤high)) n low high) (oa76 n low high) none
def Xk (s:ByteArray):(Int×Int)→Lp (Int×Int) Int:=fun (n,i40) =>
 bif (decide (i40<(s.size:Int))) then (bif (bif decide (((s.data.getD i40.toNat 0).toNat:Int)<48) then true else decide (((s.data.getD i40.toNat 0).toNat:Int)>57)) then (.ret (-1)) else (.next ((IntKind.i64.wrap ((IntKind.i64.wrap (n*10))+(IntKind.i64.wrap (IntKind.u8.wrap (((s.data.getD i40.toNat 0).toNat:Int)-48))))),(i40+1)))) else (.done (n,i40))
def F60 (s:ByteArray):Int :=
 bif (bif (!(decide (1≤(s.size:Int)∧(s.size:Int)≤5))) then true else (bif decide ((s.size:Int)>1) then (((s.data.getD (Int.toNat 0) 0).toNat:Int)==48) else false)) then (-1) else ((runL (Xk s) (((s.size:Int)-0).toNat+1) (0,0)).fin (fun r=>r) (fun (n,i40)=>n))
abbrev Qcq (s:ByteArray):Nat×(Int×Int):=((((s.size:Int)-0).toNat+1),(0,0))
abbrev Qly (s:ByteArray) (m39:Nat) (n:Int) (i40:Int):Prop:=Int.toNat ((s.size:Int)-i40)<m39∧(0:Int)≤i40
abbrev Uak (s:ByteArray):Lp (Int×Int) Int:=LpX (Xk s) (Qcq s)
abbrev Qag (s:ByteArray) (i:Nat×(Int×Int)):Prop:=LpJ (Xk s) (Qcq s) i (Qly s i.1 i.2.1 i.2.2)
abbrev Ubs (s:ByteArray) (i:Nat×(Int×Int)) (m39:Nat) (n:Int) (i40:Int):Prop:=LpH (Xk s) (Qcq s) i m39 (n,i40) (Qly s (m39+1) n i40)
abbrev Qze (s:ByteArray) (n:Int) (i40:Int) (n_:Int) (i40_:Int) (K39:Prop):Prop:=(Rf (.string s))∧((.int .i64 n:Value)=.int .i64 n_)∧((.int .i64 i40:Value)=.int .i64 i40_)∧K39
theorem un60_0 (s:ByteArray) (i:Nat×(Int×Int)) (h:Qag s i):Ubs s i (i.1-1) i.2.1 i.2.2:=⟨hd1 h.1 h.2.1,hd3 h.2.1,hd2 h.2.1,h.2.2⟩
theorem bk60_0 (s:ByteArray) (i:Nat×(Int×Int)) (m39:Nat) (n:Int) (i40:Int) (hl:m39<i.1) (e:runL (Xk s) m39 (n,i40)=Uak s) (h:Qly s m39 n i40):∃ j:Nat×(Int×Int),Qze s n i40 j.2.1 j.2.2 (Qag s j∧j.1<i.1):=⟨(m39,(n,i40)),rfl,rfl,rfl,⟨e,h⟩,hl⟩
theorem en60_0 (s:ByteArray) (h:(0:Int)≤0):Qze s 0 0 0 0 (Qag s (Qcq s)):=⟨rfl,rfl,rfl,rfl,Nat.lt_succ_self _,h⟩
def S60 (s:ByteArray):Spec:=⟨[.r (.c (.v (.string s)))],.v (vI (F60 s)),s.size≤1048576⟩
theorem ok60 (s:ByteArray):(S60 s).ok Tryz.prog 60 :=
 Qi mixed (fn:=Tryz.f60) (ct:=.seq .no (.seq (.seq (.reg [(2,Qjq (s.size:Int) 1 5)]) (.cond (.seq .no .no) .no)) (.seq .no (.seq (.seq .no (.blk (.loop (ι:=Nat×(Int×Int)) (fun i=>(fun (n:Int) (i40:Int)=>(⟨[(0,some (.v (.string s))),(3,some (.v (vI n))),(4,some (.v (vI i40)))],[],0⟩:St)) i.2.1 i.2.2) (Qag s) (fun i=>i.1) (Qcq s) (fun i=>(fun (n:Int) (i40:Int)=>(.seq (.seq .no (.cond .no .no)) (.seq (.blk (.seq (.seq .no (.cond (.seq .no .no) .no)) .no)) (.reg [(1,.bnd)])))) i.2.1 i.2.2)))) (.seq .no .no))))) Tryz.func60 (fun (hpre0:s.size≤1048576)=>Qug (s.size:Int) 1 5 (ai (fun k2:(decide ((s.size:Int)>1))=true=>have _:=of_decide_eq_true k2; (fun k1:(!(decide (1≤(s.size:Int)∧(s.size:Int)≤5)))=false=>have _:=of_decide_eq_true (Uv k1); (by omega:0≤(0:Int)∧(0:Int)<(s.size:Int)))) (ifb (bif (!(decide (1≤(s.size:Int)∧(s.size:Int)≤5))) then true else (bif decide ((s.size:Int)>1) then (((s.data.getD (Int.toNat 0) 0).toNat:Int)==48) else false)) (fun h3=>fiI (-1) (F60 s) (condT h3 rfl)) (fun h3=>have _:=of_decide_eq_true (Uv (orF1 h3)); ai (en60_0 s (by omega)) (fun (i0:Nat×(Int×Int)) (hi0:Qag s i0)=>(fun (m0:Nat) (n:Int) (i40:Int) (hh0:Ubs s i0 m0 n i40)=>have hI0:=hh0.1; have hl0:=hh0.2.1; have _:=hh0.2.2.1; have _:=hh0.2.2.2; ifd (i40<(s.size:Int)) (fun h5 _=>ai (by omega:0≤i40∧i40<(s.size:Int)) (ai (fun k6:(decide (((s.data.getD i40.toNat 0).toNat:Int)<48))=false=>have _:=of_decide_eq_false k6; (by omega:0≤i40∧i40<(s.size:Int))) (ifb (bif decide (((s.data.getD i40.toNat 0).toNat:Int)<48) then true else decide (((s.data.getD i40.toNat 0).toNat:Int)>57)) (fun h7=>fiI (-1) (F60 s) (condF h3 (finR (Qt hI0 (condT h5 (condT h7 rfl))) rfl))) (fun h7=>have _:=of_decide_eq_false (orF1 h7); have _:=of_decide_eq_false (orF2 h7); ai (by omega:0≤i40∧i40<(s.size:Int)) (ai (iok (i40+1) (by omega)) (bk60_0 s i0 m0 (IntKind.i64.wrap ((IntKind.i64.wrap (n*10))+(IntKind.i64.wrap (IntKind.u8.wrap (((s.data.getD i40.toNat 0).toNat:Int)-48))))) (i40+1) hl0 (Qe hI0 (condT h5 (condF h7 rfl))) (by refine ⟨?_,?_⟩ <;> omega))))))) (fun h5 _=>have hD0_8:Uak s=Lp.done (n,i40):=Qj hI0 (condF h5 rfl); fiI n (F60 s) (condF h3 (finD hD0_8 rfl)))) (i0.1-1) i0.2.1 i0.2.2 (un60_0 s i0 hi0)))))) (by kernel_rfl)
theorem kc58 (s:ByteArray) (at':Int) {K_:Prop} (p0_:s.size≤1048576) (q0_:s.size≤1048576) (k_:(∀ k:Nat,((F58 s at').getD k default).size≤1048576)→K_):(s.size≤1048576)∧(Imp (.v (.string s)) (.v (.string s)))∧(Imp (.v (.int .u8 at')) (.v (.int .u8 at')))∧K_:=⟨p0_,Imp.refl _,Imp.refl _,k_ (Zb s at' q0_)⟩
abbrev kh58 (s:ByteArray) (at':Int):Hint true Tryz.prog:=.call 58 (S58 s at') (ok58 s at') none
theorem kc60 (s:ByteArray) {K_:Prop} (p0_:s.size≤1048576) (k_:K_):(s.size≤1048576)∧(Imp (.v (.string s)) (.v (.string s)))∧K_:=⟨p0_,Imp.refl _,k_⟩
abbrev kh60 (s:ByteArray):Hint true Tryz.prog:=.call 60 (S60 s) (ok60 s) none
theorem kg76a {K_:Prop} (c_ b_:Bool) (n:Int) (low:Int) (high:Int) (k_:K_):(c_=b_→True)∧(c_=b_→Imp (.v (vI n)) (.v (vI n)))∧(c_=b_→Imp (.v (vI low)) (.v (vI low)))∧(c_=b_→Imp (.v (vI high)) (.v (vI high)))∧K_:=⟨fun _=>trivial,fun _=>Imp.refl _,fun _=>Imp.refl _,fun _=>Imp.refl _,k_⟩
def F59 (text:ByteArray):Int :=
 bif (((F58 text 46).length:Int) != 2) then (-1) else (bif (bif (!(decide (0≤(F60 ((F58 text 46).getD (Int.toNat 0) default))∧(F60 ((F58 text 46).getD (Int.toNat 0) default))≤255))) then true else (!(decide (0≤(F60 ((F58 text 46).getD (Int.toNat 1) default))∧(F60 ((F58 text 46).getD (Int.toNat 1) default))≤255)))) then (-1) else (IntKind.i64.wrap ((IntKind.i64.wrap (256*(F60 ((F58 text 46).getD (Int.toNat 0) default))))+(F60 ((F58 text 46).getD (Int.toNat 1) default)))))
def S59 (text:ByteArray):Spec:=⟨[.r (.c (.v (.string text)))],.v (vI (F59 text)),text.size≤1048576⟩
theorem ok59 (text:ByteArray):(S59 text).ok Tryz.prog 59 :=
 Qi mixed (fn:=Tryz.f59) (ct:=.seq .no (.seq (.reg [(1,kh58 text 46)]) (.seq (.seq .no (.cond (.seq .no .no) .no)) (.seq (.reg [(3,kh60 ((F58 text 46).getD (Int.toNat 0) default))]) (.seq (.reg [(3,kh60 ((F58 text 46).getD (Int.toNat 1) default))]) (.seq (.seq (.reg [(1,Qjq (F60 ((F58 text 46).getD (Int.toNat 0) default)) 0 255),(5,Qjq (F60 ((F58 text 46).getD (Int.toNat 1) default)) 0 255)]) (.cond (.seq .no .no) .no)) (.seq .no .no))))))) Tryz.func59 (fun (hpre0:text.size≤1048576)=>kc58 text 46 (by omega) (by omega) (fun gv1=>ifn ((F58 text 46).length:Int) 2 (fun h2 _=>fiI (-1) (F59 text) (condT h2 rfl)) (fun h2 _=>ai (by omega:ib 0 (F58 text 46)) (kc60 ((F58 text 46).getD (Int.toNat 0) default) (by exact Zb _ _ (by omega) _) (ai (by omega:ib 1 (F58 text 46)) (kc60 ((F58 text 46).getD (Int.toNat 1) default) (by exact Zb _ _ (by omega) _) (Qug (F60 ((F58 text 46).getD (Int.toNat 0) default)) 0 255 (kg76a (!(decide (0≤(F60 ((F58 text 46).getD (Int.toNat 0) default))∧(F60 ((F58 text 46).getD (Int.toNat 0) default))≤255))) false (F60 ((F58 text 46).getD (Int.toNat 1) default)) 0 255 (ifb (bif (!(decide (0≤(F60 ((F58 text 46).getD (Int.toNat 0) default))∧(F60 ((F58 text 46).getD (Int.toNat 0) default))≤255))) then true else (!(decide (0≤(F60 ((F58 text 46).getD (Int.toNat 1) default))∧(F60 ((F58 text 46).getD (Int.toNat 1) default))≤255)))) (fun h4=>fiI (-1) (F59 text) (condF h2 (condT h4 rfl))) (fun h4=>have _:=of_decide_eq_true (Uv (orF1 h4)); have _:=of_decide_eq_true (Uv (orF2 h4)); fiI (IntKind.i64.wrap ((IntKind.i64.wrap (256*(F60 ((F58 text 46).getD (Int.toNat 0) default))))+(F60 ((F58 text 46).getD (Int.toNat 1) default)))) (F59 text) (condF h2 (condF h4 rfl)))))))))))) (by kernel_rfl)
def Qce (len:Int):(Int×Int)→Lp (Int×Int) Int:=fun (n,i40) =>
 bif (decide (i40<16)) then (.next ((IntKind.i64.wrap (n*2)),(i40+1))) else (.done (n,i40))
def F77 (len:Int):Int :=
 (runL (Qce len) ((16-len).toNat+1) (1,len)).fin (fun r=>r) (fun (n,i40)=>n)
abbrev Qbo (len:Int):Nat×(Int×Int):=(((16-len).toNat+1),(1,len))
abbrev Qli (m39:Nat) (n:Int) (i40:Int):Prop:=Int.toNat (16-i40)<m39∧(0:Int)≤i40
abbrev Qvk (len:Int):Lp (Int×Int) Int:=LpX (Qce len) (Qbo len)
abbrev Ep (len:Int) (i:Nat×(Int×Int)):Prop:=LpJ (Qce len) (Qbo len) i (Qli i.1 i.2.1 i.2.2)
abbrev Qxq (len:Int) (i:Nat×(Int×Int)) (m39:Nat) (n:Int) (i40:Int):Prop:=LpH (Qce len) (Qbo len) i m39 (n,i40) (Qli (m39+1) n i40)
abbrev Qxj (n:Int) (i40:Int) (n_:Int) (i40_:Int) (K39:Prop):Prop:=((.int .i64 n:Value)=.int .i64 n_)∧((.int .i64 i40:Value)=.int .i64 i40_)∧K39
theorem un77_0 (len:Int) (i:Nat×(Int×Int)) (h:Ep len i):Qxq len i (i.1-1) i.2.1 i.2.2:=⟨hd1 h.1 h.2.1,hd3 h.2.1,hd2 h.2.1,h.2.2⟩
theorem bk77_0 (len:Int) (i:Nat×(Int×Int)) (m39:Nat) (n:Int) (i40:Int) (hl:m39<i.1) (e:runL (Qce len) m39 (n,i40)=Qvk len) (h:Qli m39 n i40):∃ j:Nat×(Int×Int),Qxj n i40 j.2.1 j.2.2 (Ep len j∧j.1<i.1):=⟨(m39,(n,i40)),rfl,rfl,⟨e,h⟩,hl⟩
theorem en77_0 (len:Int) (h:(0:Int)≤len):Qxj 1 len 1 len (Ep len (Qbo len)):=⟨rfl,rfl,rfl,Nat.lt_succ_self _,h⟩
def S77 (len:Int):Spec:=⟨[.r (.c (.v (vI len)))],.v (vI (F77 len)),0≤len⟩
theorem ok77 (len:Int):(S77 len).ok Tryz.prog 77 :=
 Qi mixed (fn:=Tryz.f77) (ct:=.seq .no (.seq .no (.seq (.seq .no (.blk (.loop (ι:=Nat×(Int×Int)) (fun i=>(fun (n:Int) (i40:Int)=>(⟨[(3,some (.v (vI n))),(4,some (.v (vI i40)))],[],0⟩:St)) i.2.1 i.2.2) (Ep len) (fun i=>i.1) (Qbo len) (fun i=>(fun (n:Int) (i40:Int)=>(.seq (.seq .no (.cond .no .no)) (.seq (.blk .no) (.reg [(1,.bnd)])))) i.2.1 i.2.2)))) (.seq .no .no)))) Tryz.func77 (fun (hpre0:0≤len)=>ai (en77_0 len (by omega)) (fun (i0:Nat×(Int×Int)) (hi0:Ep len i0)=>(fun (m0:Nat) (n:Int) (i40:Int) (hh0:Qxq len i0 m0 n i40)=>have hI0:=hh0.1; have hl0:=hh0.2.1; have _:=hh0.2.2.1; have _:=hh0.2.2.2; ifd (i40<16) (fun h2 _=>ai (iok (i40+1) (by omega)) (bk77_0 len i0 m0 (IntKind.i64.wrap (n*2)) (i40+1) hl0 (Qe hI0 (condT h2 rfl)) (by refine ⟨?_,?_⟩ <;> omega))) (fun h2 _=>have hD0_3:Qvk len=Lp.done (n,i40):=Qj hI0 (condF h2 rfl); fiI n (F77 len) (finD hD0_3 rfl))) (i0.1-1) i0.2.1 i0.2.2 (un77_0 len i0 hi0))) (by kernel_rfl)
theorem g77_0 (len:Int):0≤len→len≤16→1≤(F77 len)∧(F77 len)≤65536:=by
 intro h1 h2; have h3:len=0∨len=1∨len=2∨len=3∨len=4∨len=5∨len=6∨len=7∨len=8∨len=9∨len=10∨len=11∨len=12∨len=13∨len=14∨len=15∨len=16:=by omega
 rcases h3 with rfl | rfl | rfl | rfl | rfl | rfl | rfl | rfl | rfl | rfl | rfl | rfl | rfl | rfl | rfl | rfl | rfl <;> exact of_decide_eq_true rfl
theorem kg77 {K_:Prop} (c_ b_:Bool) (len:Int) (p_:c_=b_→0≤len) (k_:K_):(c_=b_→0≤len)∧(c_=b_→Imp (.v (vI len)) (.v (vI len)))∧K_:=⟨p_,fun _=>Imp.refl _,k_⟩
abbrev kh77 (len:Int):Hint true Tryz.prog:=.call 77 (S77 len) (ok77 len) none
def F61 (p:Qb):Bool :=
 (bif (bif (decide (0≤p.Len∧p.Len≤16)) then (decide (0≤p.Addr∧p.Addr≤65535)) else false) then ((p.Addr.tmod (F77 p.Len))==0) else false)
def S61 (p:Qb):Spec:=⟨[.r (.g (Ql p))],.v (.bool (F61 p)),True⟩
theorem ok61 (p:Qb):(S61 p).ok Tryz.prog 61 :=
 Qi mixed (fn:=Tryz.f61) (ct:=.seq .no (.seq (.reg [(2,Qjq p.Len 0 16),(6,Qjq p.Addr 0 65535),(13,kh77 p.Len)]) .no)) Tryz.func61 (fun (_:True)=>Qug p.Len 0 16 (kg76a (decide (0≤p.Len∧p.Len≤16)) true p.Addr 0 65535 (kg77 (bif (decide (0≤p.Len∧p.Len≤16)) then (decide (0≤p.Addr∧p.Addr≤65535)) else false) true p.Len (fun k4=>have _:=of_decide_eq_true (Qn k4); have _:=of_decide_eq_true (Qy k4); (by omega)) (ai (fun k5:(bif (decide (0≤p.Len∧p.Len≤16)) then (decide (0≤p.Addr∧p.Addr≤65535)) else false)=true=>have _:=of_decide_eq_true (Qn k5); have _:=of_decide_eq_true (Qy k5); (by have h9:=g77_0 p.Len (by omega) (by omega); omega:¬ (F77 p.Len)=0)) (fiB (bif (bif (decide (0≤p.Len∧p.Len≤16)) then (decide (0≤p.Addr∧p.Addr≤65535)) else false) then ((p.Addr.tmod (F77 p.Len))==0) else false) (F61 p) rfl))))) (by kernel_rfl)
theorem kc59 (text:ByteArray) {K_:Prop} (p0_:text.size≤1048576) (k_:K_):(text.size≤1048576)∧(Imp (.v (.string text)) (.v (.string text)))∧K_:=⟨p0_,Imp.refl _,k_⟩
abbrev kh59 (text:ByteArray):Hint true Tryz.prog:=.call 59 (S59 text) (ok59 text) none
def F44 (text:ByteArray):Qb×Bool :=
 bif (((F58 text 47).length:Int) != 2) then ((⟨0,0⟩:Qb),false) else (bif (!(F61 ⟨(F59 ((F58 text 47).getD (Int.toNat 0) default)),(F60 ((F58 text 47).getD (Int.toNat 1) default))⟩)) then ((⟨0,0⟩:Qb),false) else ((⟨(F59 ((F58 text 47).getD (Int.toNat 0) default)),(F60 ((F58 text 47).getD (Int.toNat 1) default))⟩:Qb),true))
theorem fi44 (text:ByteArray) (r:Qb×Bool) (hF:r=(F44 text)):((.int .i64 r.1.Addr:Value)=.int .i64 (F44 text).1.Addr)∧((.int .i64 r.1.Len:Value)=.int .i64 (F44 text).1.Len)∧((.bool r.2:Value)=.bool (F44 text).2)∧True:=by cases hF; exact ⟨rfl,rfl,rfl,trivial⟩
def S44 (text:ByteArray):Spec:=⟨[.r (.c (.v (.string text)))],.tu [.ag [.v (vI (F44 text).1.Addr),.v (vI (F44 text).1.Len)],.v (.bool (F44 text).2)],text.size≤1048576⟩
theorem ok44 (text:ByteArray):(S44 text).ok Tryz.prog 44 :=
 Qi mixed (fn:=Tryz.f44) (ct:=.seq .no (.seq (.reg [(1,kh58 text 47)]) (.seq (.seq .no (.cond (.seq .no .no) .no)) (.seq (.reg [(3,kh59 ((F58 text 47).getD (Int.toNat 0) default)),(7,kh60 ((F58 text 47).getD (Int.toNat 1) default))]) (.seq (.seq (.reg [(1,.call 61 (S61 (⟨(F59 ((F58 text 47).getD (Int.toNat 0) default)),(F60 ((F58 text 47).getD (Int.toNat 1) default))⟩:Qb)) (ok61 (⟨(F59 ((F58 text 47).getD (Int.toNat 0) default)),(F60 ((F58 text 47).getD (Int.toNat 1) default))⟩:Qb)) none)]) (.cond (.seq .no .no) .no)) (.seq .no .no)))))) Tryz.func44 (fun (hpre0:text.size≤1048576)=>kc58 text 47 (by omega) (by omega) (fun gv1=>ifn ((F58 text 47).length:Int) 2 (fun h2 _=>fi44 text ((⟨0,0⟩:Qb),false) (condT h2 rfl)) (fun h2 _=>ai (by omega:ib 0 (F58 text 47)) (kc59 ((F58 text 47).getD (Int.toNat 0) default) (by exact Zb _ _ (by omega) _) (ai (by omega:ib 1 (F58 text 47)) (kc60 ((F58 text 47).getD (Int.toNat 1) default) (by exact Zb _ _ (by omega) _) (ai trivial (ai (Imps.refl (Ql (⟨(F59 ((F58 text 47).getD (Int.toNat 0) default)),(F60 ((F58 text 47).getD (Int.toNat 1) default))⟩:Qb))) (ifb (!(F61 ⟨(F59 ((F58 text 47).getD (Int.toNat 0) default)),(F60 ((F58 text 47).getD (Int.toNat 1) default))⟩)) (fun h3=>fi44 text ((⟨0,0⟩:Qb),false) (condF h2 (condT h3 rfl))) (fun h3=>fi44 text ((⟨(F59 ((F58 text 47).getD (Int.toNat 0) default)),(F60 ((F58 text 47).getD (Int.toNat 1) default))⟩:Qb),true) (condF h2 (condF h3 rfl)))))))))))) (by kernel_rfl)
theorem kc46 (lines:List ByteArray) {K_:Prop} (p0_:lines.length≤1048576) (p1_:∀ k:Nat,(lines.getD k default).size≤1048576) (k_:K_):(lines.length≤1048576∧(∀ k:Nat,(lines.getD k default).size≤1048576))∧(Imp (.l 1 eStr lines) (.l 1 eStr lines))∧K_:=⟨⟨p0_,p1_⟩,Imp.refl _,k_⟩
abbrev kh46 (lines:List ByteArray):Hint false Tryz.prog:=.call 46 (S46 lines) (ok46 lines) none
def F31 (lines:List ByteArray):Bool :=
 ((F46 lines)==0)
def S31 (lines:List ByteArray):Spec:=⟨[.r (.c (.l 1 eStr lines))],.v (.bool (F31 lines)),lines.length≤1048576∧(∀ k:Nat,(lines.getD k default).size≤1048576)⟩
theorem ok31 (lines:List ByteArray):(S31 lines).ok Tryz.prog 31 false :=
 Qi mixed (fn:=Tryz.f31) (ct:=.seqk [(0,0)] .no (.seq (.reg [(1,kh46 lines)]) .no)) Tryz.func31 (fun (hp:lines.length≤1048576∧(∀ k:Nat,(lines.getD k default).size≤1048576))=>have hpre0:=hp.1; have hpre1:=hp.2; kn lines fun _=>kc46 lines (by omega) (by first | assumption | exact hpre1 _ | exact fun k _=>hpre1 k | (intros; exact trivial) | (intros; exact Nat.zero_le _)) (fiB ((F46 lines)==0) (F31 lines) rfl)) (by kernel_rfl)
theorem dig_or (b:Int):(bif decide (b<48) then true else decide (b>57))=!decide (48≤b∧b≤57):=by
 by_cases h1:b<48
 ·rw [decide_eq_true h1,decide_eq_false (show ¬ (48≤b∧b≤57) by omega)]; rfl
 ·rw [decide_eq_false h1,cond_false]
  by_cases h2:b>57
  ·rw [decide_eq_true h2,decide_eq_false (show ¬ (48≤b∧b≤57) by omega)]; rfl
  ·rw [decide_eq_false h2,decide_eq_true (show 48≤b∧b≤57 by omega)]; rfl
theorem l2step (s:ByteArray) (x:Int×Int):Xk s x=Kp s x:=by
 obtain ⟨n,i⟩:=x
 simp only [Xk,Kp,Rq,dig_or]
theorem Ufv {l:List UInt8} (h:l.length=6):num6 l=-1∨100000≤num6 l:=by
 unfold num6
 cases hn:Zi l with
 | false=>exact .inl rfl
 | true =>
  rw [decide_eq_true (show l.length≤6 by omega)]
  refine .inr ?_
  show (100000:Int)≤((valL 0 l:Nat):Int)
  have hd:=Qfy _ l rfl hn
  by_cases hv:valL 0 l<10 ^ (4+1)
  ·have:=Qgx 4 _ hv
   rw [hd] at this
   omega
  ·have:(10:Nat) ^ (4+1)=100000:=rfl
   omega
theorem Qwd (s:ByteArray):F60 s=bif decide (s.size≤5) then num6 s.data.toList else -1:=by
 by_cases h:s.size≤5
 ·rw [decide_eq_true h,cond_true,← Wz]
  unfold F60 F30
  rw [show Xk s=Kp s from funext (l2step s)]
  have e:decide (1≤(s.size:Int)∧(s.size:Int)≤5)=decide (1≤(s.size:Int)∧(s.size:Int)≤6):=by
   by_cases h0:1≤s.size
   ·rw [decide_eq_true (by omega),decide_eq_true (by omega)]
   ·rw [decide_eq_false (by omega),decide_eq_false (by omega)]
  rw [e]
 ·rw [decide_eq_false h,cond_false]
  unfold F60
  rw [decide_eq_false (show ¬ (1≤(s.size:Int)∧(s.size:Int)≤5) by omega)]; rfl
theorem No (s:ByteArray) (hi:Int) (hh:hi≤99999):decide (0≤F60 s∧F60 s≤hi)=decide (0≤num6 s.data.toList∧num6 s.data.toList≤hi)∧(decide (0≤num6 s.data.toList∧num6 s.data.toList≤hi)=true→F60 s=num6 s.data.toList):=by
 have hl:s.data.toList.length=s.size:=Array.length_toList
 rw [Qwd]
 by_cases h:s.size≤5
 ·rw [decide_eq_true h,cond_true]; exact ⟨rfl,fun _=>rfl⟩
 ·rw [decide_eq_false h,cond_false]
  have hb:num6 s.data.toList=-1∨100000≤num6 s.data.toList:=by
   by_cases h6:s.data.toList.length=6
   ·exact Ufv h6
   ·refine .inl ?_
    unfold num6
    rw [decide_eq_false (show ¬ s.data.toList.length≤6 by omega),Bool.and_false]; rfl
  have e:decide (0≤num6 s.data.toList∧num6 s.data.toList≤hi)=false:=decide_eq_false (by omega)
  rw [e]
  exact ⟨rfl,fun h=>by cases h⟩
theorem Qta (s:ByteArray):F59 s=Yc s.data.toList:=by
 have hc:F58 s 46=(Ub 46 s.data.toList).map mkB:=Kn s 46
 unfold F59 Yc
 rw [hc]
 cases Ub 46 s.data.toList with
 | nil=>rfl
 | cons a t=>cases t with
  | nil=>rfl
  | cons b t=>cases t with
   | nil =>
    have ha:=No (mkB a) 255 (by omega)
    have hb:=No (mkB b) 255 (by omega)
    rw [Jz] at ha hb
    show (bif (bif (!decide (0≤F60 (mkB a)∧F60 (mkB a)≤255)) then true else (!decide (0≤F60 (mkB b)∧F60 (mkB b)≤255))) then (-1) else (IntKind.i64.wrap ((IntKind.i64.wrap (256*F60 (mkB a)))+F60 (mkB b))))=bif Uu (num6 a)&&Uu (num6 b) then 256*num6 a+num6 b else -1
    rw [ha.1,hb.1]
    cases h1:decide (0≤num6 a∧num6 a≤255) with
    | false=>rw [show Uu (num6 a)=false from h1]; rfl
    | true=>cases h2:decide (0≤num6 b∧num6 b≤255) with
     | false=>rw [show Uu (num6 b)=false from h2,Bool.and_false]; rfl
     | true =>
      rw [show Uu (num6 a)=true from h1,show Uu (num6 b)=true from h2,ha.2 h1,hb.2 h2]
      exact Nw _ _ h1 h2
   | cons c t =>
    have:(((List.map mkB (a :: b :: c :: t)).length:Int) != 2)=true:=by
     rw [bne_iff_ne]
     simp only [List.map_cons,List.length_cons,List.length_map]
     omega
    rw [this]; rfl
theorem Qth (a n:Int) (ha:-1≤a∧a≤65535):F61 (⟨a,n⟩:Qb)=(decide (0≤a)&&(in16 n&&(a.tmod (F57 n)==0))):=by
 unfold F61
 show (bif (bif (decide (0≤n∧n≤16)) then (decide (0≤a∧a≤65535)) else false) then ((a.tmod (F57 n))==0) else false)=_
 have e16:decide (0≤n∧n≤16)=in16 n:=rfl
 have e0:decide (0≤a∧a≤65535)=decide (0≤a):=by
  by_cases h0:0≤a
  ·rw [decide_eq_true h0,decide_eq_true (by omega)]
  ·rw [decide_eq_false h0,decide_eq_false (by omega)]
 rw [e16,e0]
 cases decide (0≤a) <;> cases in16 n <;> rfl
theorem Qfu (s:ByteArray):F44 s=match pfxL s.data.toList with | some (a,n)=>(⟨a,n⟩,true) | none=>(⟨0,0⟩,false):=by
 have hc:F58 s 47=(Ub 47 s.data.toList).map mkB:=Kn s 47
 unfold F44 pfxL
 rw [hc]
 simp only [Qta]
 cases Ub 47 s.data.toList with
 | nil=>rfl
 | cons a t=>cases t with
  | nil=>rfl
  | cons b t=>cases t with
   | nil =>
    have hb:=No (mkB b) 16 (by omega)
    rw [Jz] at hb
    show (bif (!(F61 (⟨Yc (mkB a).data.toList,F60 (mkB b)⟩:Qb))) then ((⟨0,0⟩:Qb),false) else ((⟨Yc (mkB a).data.toList,F60 (mkB b)⟩:Qb),true))=match pfx2 [a,b] with | some (a,n)=>(⟨a,n⟩,true) | none=>(⟨0,0⟩,false)
    rw [Jz,Qth _ _ (Qby a),pfx2]
    have e1:in16 (F60 (mkB b))=in16 (num6 b):=hb.1
    cases h16:in16 (num6 b) with
    | false =>
     rw [e1,h16,Bool.false_and,Bool.false_and,Bool.and_false]; rfl
    | true =>
     rw [e1,h16,hb.2 h16,Bool.true_and]
     cases decide (0≤Yc a)&&((Yc a).tmod (F57 (num6 b))==0) <;> rfl
   | cons c t =>
    have:(((List.map mkB (a :: b :: c :: t)).length:Int) != 2)=true:=by
     rw [bne_iff_ne]
     simp only [List.map_cons,List.length_cons,List.length_map]
     omega
    rw [this]; rfl
theorem Qlc (s:ByteArray):F44 s=F33 s:=(Qfu s).trans (Vi s).symm
theorem Hn (lines:List ByteArray) (h:(!(F31 lines))=false):lines.length≤16:=Qmj lines (by unfold F31 at h; simpa using h)
theorem kc31 (lines:List ByteArray) {K_:Prop} (p0_:lines.length≤1048576) (p1_:∀ k:Nat,(lines.getD k default).size≤1048576) (k_:K_):(lines.length≤1048576∧(∀ k:Nat,(lines.getD k default).size≤1048576))∧(Imp (.l 1 eStr lines) (.l 1 eStr lines))∧K_:=⟨⟨p0_,p1_⟩,Imp.refl _,k_⟩
abbrev kh31 (lines:List ByteArray):Hint false Tryz.prog:=.call 31 (S31 lines) (ok31 lines) none
def F15 (lines:List ByteArray) (word:ByteArray):List (List ByteArray) :=
 bif (!(F31 lines)) then ([]:List (List ByteArray)) else (Qa lines word)
theorem fi15 (lines:List ByteArray) (word:ByteArray) (r:List (List ByteArray)) (hF:r=(F15 lines word)):(Imp (.l 1 (eL 1 eStr) r) (.l 1 (eL 1 eStr) (F15 lines word)))∧True:=by cases hF; exact ⟨Imp.refl _,trivial⟩
def S15 (R:List (List ByteArray)) (lines:List ByteArray) (word:ByteArray):Spec:=⟨[.r (.c (.l 1 eStr lines)),.r (.c (.v (.string word)))],.ow (.l 1 (eL 1 eStr) R),lines.length≤1048576∧(∀ k:Nat,(lines.getD k default).size≤1048576)⟩
theorem ok15 (lines:List ByteArray) (word:ByteArray):(S15 (F15 lines word) lines word).ok Tryz.prog 15 false :=
 Qi mixed (fn:=Tryz.f15) (ct:=.seqk [(0,0)] .no (.seq (.seq (.reg [(1,kh31 lines)]) (.cond (.seq .no .no) .no)) (.seq (.reg [(2,Vj lines word)]) .no))) Tryz.func15 (fun (hp:lines.length≤1048576∧(∀ k:Nat,(lines.getD k default).size≤1048576))=>have hpre0:=hp.1; have hpre1:=hp.2; kn lines fun _=>kc31 lines (by omega) (by first | assumption | exact hpre1 _ | exact fun k _=>hpre1 k | (intros; exact trivial) | (intros; exact Nat.zero_le _)) (ifb (!(F31 lines)) (fun h1=>(fun hF:(([]:List (List ByteArray)):List (List ByteArray))=(F15 lines word)=>ai ((Imp.nil 1 (eL 1 eStr)).trans (Imp.of_eq (congrArg (fun r:List (List ByteArray)=>Dat.l 1 (eL 1 eStr) r) hF))) trivial) (condT h1 rfl)) (fun h1=>Gw lines word (by first | omega | assumption | exact Hn lines (by assumption)) (by first | omega | assumption | exact Hn lines (by assumption)) (by first | omega | assumption | exact Hn lines (by assumption)) (fun gv2=>fi15 lines word (Qa lines word) (condF h1 rfl))))) (by kernel_rfl)
def Br (lines:List ByteArray) (head:ByteArray):(List l52Cut×Int×List (l52Cut×Bool))→Lp (List l52Cut×Int×List (l52Cut×Bool)) (List l52Cut):=fun (out,i40,xs) =>
 bif (decide (i40<(xs.length:Int))) then (bif ((F29 (xs.getD i40.toNat default).1 0).toList==head.toList) then (.next ((out++[(xs.getD i40.toNat default).1]),(i40+1),(xs.set (i40).toNat ((xs.getD i40.toNat default).1,true)))) else (.next (out,(i40+1),xs))) else (.done (out,i40,xs))
def F27 (lines:List ByteArray) (head:ByteArray):List l52Cut :=
 (runL (Br lines head) (((((lines.map (fun l=>(⟨(F37 l).1⟩:l52Cut))).map hz).length:Int)-0).toNat+1) (([]:List l52Cut),0,((lines.map (fun l=>(⟨(F37 l).1⟩:l52Cut))).map hz))).fin (fun r=>r) (fun (out,i40,xs)=>out)
abbrev Ry (lines:List ByteArray):Nat×(List l52Cut×Int×List (l52Cut×Bool)):=((((((lines.map (fun l=>(⟨(F37 l).1⟩:l52Cut))).map hz).length:Int)-0).toNat+1),(([]:List l52Cut),0,((lines.map (fun l=>(⟨(F37 l).1⟩:l52Cut))).map hz)))
abbrev Qlq (lines:List ByteArray) (m39:Nat) (out:List l52Cut) (i40:Int) (xs:List (l52Cut×Bool)):Prop:=Int.toNat ((xs.length:Int)-i40)<m39∧(∀ k:Nat,i40≤(k:Int)→(xs.getD k default).2=false)∧(out.length:Int)≤i40∧(0:Int)≤i40∧xs.length=((lines.map (fun l=>(⟨(F37 l).1⟩:l52Cut))).map hz).length
abbrev Ucn (lines:List ByteArray) (head:ByteArray):Lp (List l52Cut×Int×List (l52Cut×Bool)) (List l52Cut):=LpX (Br lines head) (Ry lines)
abbrev Qct (lines:List ByteArray) (head:ByteArray) (i:Nat×(List l52Cut×Int×List (l52Cut×Bool))):Prop:=LpJ (Br lines head) (Ry lines) i (Qlq lines i.1 i.2.1 i.2.2.1 i.2.2.2)
abbrev Qyn (lines:List ByteArray) (head:ByteArray) (i:Nat×(List l52Cut×Int×List (l52Cut×Bool))) (m39:Nat) (out:List l52Cut) (i40:Int) (xs:List (l52Cut×Bool)):Prop:=LpH (Br lines head) (Ry lines) i m39 (out,i40,xs) (Qlq lines (m39+1) out i40 xs)
abbrev lE27_0 (head:ByteArray) (out:List l52Cut) (i40:Int) (xs:List (l52Cut×Bool)) (out_:List l52Cut) (i40_:Int) (xs_:List (l52Cut×Bool)) (K39:Prop):Prop:=(Rf (.string head))∧((.int .i64 i40:Value)=.int .i64 i40_)∧(Imp (.l 1 (encH 0 Qk) xs) (.l 1 (encH 0 Qk) xs_))∧(Imp (.l 1 Qk out) (.l 1 Qk out_))∧K39
theorem un27_0 (lines:List ByteArray) (head:ByteArray) (i:Nat×(List l52Cut×Int×List (l52Cut×Bool))) (h:Qct lines head i):Qyn lines head i (i.1-1) i.2.1 i.2.2.1 i.2.2.2:=⟨hd1 h.1 h.2.1,hd3 h.2.1,hd2 h.2.1,h.2.2⟩
theorem Ucu (lines:List ByteArray) (head:ByteArray) (i:Nat×(List l52Cut×Int×List (l52Cut×Bool))) (m39:Nat) (out:List l52Cut) (i40:Int) (xs:List (l52Cut×Bool)) (hl:m39<i.1) (e:runL (Br lines head) m39 (out,i40,xs)=Ucn lines head) (h:Qlq lines m39 out i40 xs):∃ j:Nat×(List l52Cut×Int×List (l52Cut×Bool)),lE27_0 head out i40 xs j.2.1 j.2.2.1 j.2.2.2 (Qct lines head j∧j.1<i.1):=⟨(m39,(out,i40,xs)),rfl,rfl,Imp.refl _,Imp.refl _,⟨e,h⟩,hl⟩
theorem fi27 (lines:List ByteArray) (head:ByteArray) (r:List l52Cut) (hF:r=(F27 lines head)):(Imp (.l 1 Qk r) (.l 1 Qk (F27 lines head)))∧True:=by cases hF; exact ⟨Imp.refl _,trivial⟩
def S27 (R:List l52Cut) (lines:List ByteArray) (head:ByteArray):Spec:=⟨[.r (.c (.l 1 eStr lines)),.r (.c (.v (.string head)))],.ow (.l 1 Qk R),lines.length≤16∧(∀ k:Nat,(lines.getD k default).size≤1048576)⟩
theorem ok27 (lines:List ByteArray) (head:ByteArray):(S27 (F27 lines head) lines head).ok Tryz.prog 27 :=
 Qi mixed (fn:=Tryz.f27) (ct:=.seqk [(0,0)] .no (.seq (.reg [(1,kh21a lines)]) (.seq (.reg [(0,.dat (.l 1 Qk ([]:List l52Cut)))]) (.seq (.seqk [(5,0),(6,0)] .no (.blk (.loop (ι:=Nat×(List l52Cut×Int×List (l52Cut×Bool))) (fun i=>(fun (out:List l52Cut) (i40:Int) (xs:List (l52Cut×Bool))=>(⟨[(1,some (.v (.string head))),(5,some (.h 0 0)),(6,some (.h 1 0)),(7,some (.v (vI i40)))],[(0,some (.own 0 (.l 1 (encH 0 Qk) xs))),(1,some (.own 1 (.l 1 Qk out)))],2⟩:St)) i.2.1 i.2.2.1 i.2.2.2) (Qct lines head) (fun i=>i.1) (Ry lines) (fun i=>(fun (out:List l52Cut) (i40:Int) (xs:List (l52Cut×Bool))=>(.seq (.seq .no (.cond .no .no)) (.seq (.blk (.seq (.reg [(2,.ix [.l 1 eStr (xs.getD i40.toNat default).1.w]),(4,kh29 (xs.getD i40.toNat default).1 0)]) (.cond (.reg [(3,.ix [.l 1 eStr (xs.getD i40.toNat default).1.w]),(4,.take (.l 1 (encH 0 Qk) (xs.set (i40).toNat ((xs.getD i40.toNat default).1,true)))),(6,.dat (.l 1 Qk (out++[(xs.getD i40.toNat default).1])))]) .no))) (.reg [(1,.bnd)])))) i.2.1 i.2.2.1 i.2.2.2)))) (.seq .no .no))))) Tryz.func27 (fun (hp:lines.length≤16∧(∀ k:Nat,(lines.getD k default).size≤1048576))=>have hpre0:=hp.1; have hpre1:=hp.2; kn lines fun _=>kc21a lines (by first | omega | (simp only [lens,ib] at*<;> omega)) (by first | assumption | exact hpre1 _ | exact fun k _=>hpre1 k | (intros; exact trivial) | (intros; exact Nat.zero_le _)) (ai (bokr 1 Qk ([]:List l52Cut) fun _=>rfl) (kn (lines.map (fun l=>(⟨(F37 l).1⟩:l52Cut))) fun _=>kn ([]:List l52Cut) fun _=>ai (ai (rfl:(.string head:Value)=.string head) (ai (rfl:(.int .i64 0:Value)=.int .i64 0) (ai ((Imp.toH _ _ _ _):Imp (.l 1 Qk (lines.map (fun l=>(⟨(F37 l).1⟩:l52Cut)))) (.l 1 (encH 0 Qk) ((lines.map (fun l=>(⟨(F37 l).1⟩:l52Cut))).map hz))) (ai (ir:Imp (.l 1 Qk ([]:List l52Cut)) (.l 1 Qk ([]:List l52Cut))) (And.intro rfl (ai (Nat.lt_succ_self _) (by refine ⟨?_,?_,?_,?_⟩ <;> first | omega | (simp only [lens,ib] at*<;> omega) | (intro k hk; first | exact hz_f _ _ | exact (by assumption:∀ k:Nat,i40≤(k:Int)→(xs.getD k default).2=false) _ (by first | omega | (simp only [lens,ib] at*<;> omega)) | (rw [Qw _ _ _ _ (by first | omega | (simp only [lens,ib] at*<;> omega))]; exact (by assumption:∀ k:Nat,i40≤(k:Int)→(xs.getD k default).2=false) _ (by first | omega | (simp only [lens,ib] at*<;> omega)))))):Qct lines head (Ry lines)))))) (fun (i0:Nat×(List l52Cut×Int×List (l52Cut×Bool))) (hi0:Qct lines head i0)=>(fun (m0:Nat) (out:List l52Cut) (i40:Int) (xs:List (l52Cut×Bool)) (hh0:Qyn lines head i0 m0 out i40 xs)=>have hI0:=hh0.1; have hl0:=hh0.2.1; have _:=hh0.2.2.1; have _:=hh0.2.2.2.1; have _:=hh0.2.2.2.2.1; have _:=hh0.2.2.2.2.2.1; have _:=hh0.2.2.2.2.2.2; ifd (i40<(xs.length:Int)) (fun h2 _=>ai (by first | omega | (simp only [lens,ib] at*<;> omega):ib i40 xs) (ai (Imps.of_eq (Qms 0 Qk (xs.getD i40.toNat default) (by exact (by assumption:∀ k:Nat,i40≤(k:Int)→(xs.getD k default).2=false) _ (by first | omega | (simp only [lens,ib] at*<;> omega))))) (kc29 (xs.getD i40.toNat default).1 0 (by first | omega | (simp only [lens,ib] at*<;> omega)) (ifb ((F29 (xs.getD i40.toNat default).1 0).toList==head.toList) (fun h3=>ai (by first | omega | (simp only [lens,ib] at*<;> omega):ib i40 xs) (ai (Imps.of_eq (Qms 0 Qk (xs.getD i40.toNat default) (by exact (by assumption:∀ k:Nat,i40≤(k:Int)→(xs.getD k default).2=false) _ (by first | omega | (simp only [lens,ib] at*<;> omega))))) (ai (SetOK.take2 Qk xs 0 (by exact (by assumption:∀ k:Nat,i40≤(k:Int)→(xs.getD k default).2=false) _ (by first | omega | (simp only [lens,ib] at*<;> omega))) rfl rfl:SetOK (.l 1 (encH 0 Qk) xs) (i40).toNat (Qk (xs.getD i40.toNat default).1) [.any] (.l 1 (encH 0 Qk) (xs.set (i40).toNat ((xs.getD i40.toNat default).1,true)))) (ai (appr 1 Qk out [(xs.getD i40.toNat default).1] fun _=>rfl) (ai (by (simp only [lens] at *); omega:(out++[(xs.getD i40.toNat default).1]).length*24≤140737488355328) (ai (iok (i40+1) (by first | omega | (simp only [lens,ib] at*<;> omega))) (Ucu lines head i0 m0 (out++[(xs.getD i40.toNat default).1]) (i40+1) (xs.set (i40).toNat ((xs.getD i40.toNat default).1,true)) hl0 (Qe hI0 (condT h2 (condT h3 rfl))) (by refine ⟨?_,?_,?_,?_,?_⟩ <;> first | omega | (simp only [lens,ib] at*<;> omega) | (intro k hk; first | exact hz_f _ _ | exact (by assumption:∀ k:Nat,i40≤(k:Int)→(xs.getD k default).2=false) _ (by first | omega | (simp only [lens,ib] at*<;> omega)) | (rw [Qw _ _ _ _ (by first | omega | (simp only [lens,ib] at*<;> omega))]; exact (by assumption:∀ k:Nat,i40≤(k:Int)→(xs.getD k default).2=false) _ (by first | omega | (simp only [lens,ib] at*<;> omega)))))))))))) (fun h3=>ai (iok (i40+1) (by first | omega | (simp only [lens,ib] at*<;> omega))) (Ucu lines head i0 m0 out (i40+1) xs hl0 (Qe hI0 (condT h2 (condF h3 rfl))) (by refine ⟨?_,?_,?_,?_,?_⟩ <;> first | omega | (simp only [lens,ib] at*<;> omega) | (intro k hk; first | exact hz_f _ _ | exact (by assumption:∀ k:Nat,i40≤(k:Int)→(xs.getD k default).2=false) _ (by first | omega | (simp only [lens,ib] at*<;> omega)) | (rw [Qw _ _ _ _ (by first | omega | (simp only [lens,ib] at*<;> omega))]; exact (by assumption:∀ k:Nat,i40≤(k:Int)→(xs.getD k default).2=false) _ (by first | omega | (simp only [lens,ib] at*<;> omega))))))))))) (fun h2 _=>have hD0_4:Ucn lines head=Lp.done (out,i40,xs):=Qj hI0 (condF h2 rfl); fi27 lines head out (finD hD0_4 rfl))) (i0.1-1) i0.2.1 i0.2.2.1 i0.2.2.2 (un27_0 lines head i0 hi0))))) (by kernel_rfl)
theorem Qob (lines:List ByteArray) (h:F13 lines=0):F20 lines=0:=by
 unfold F13 at h
 cases hn:(F20 lines != 0) with
 | true=>rw [hn,cond_true] at h; rw [h] at hn; exact absurd hn (by decide)
 | false=>simpa using hn
theorem Rb (lines:List ByteArray) (h:F46 lines=0):F20 lines=0:=Qob lines (by rw [← Hf]; exact h)
def Qz (lines:List ByteArray) (word:ByteArray):List (List ByteArray):=bif (F46 lines==0) then Qa lines word else []
theorem as15 (lines:List ByteArray) (word:ByteArray):F15 lines word=(Qz lines word):=by
 unfold F15 F31 Qz
 cases (F46 lines==0) <;> rfl
theorem By (lines:List ByteArray) (word:ByteArray):(F46 lines=0∧F20 lines=0∧Qz lines word=Qa lines word)∨Qz lines word=[]:=by
 unfold Qz
 cases h:(F46 lines==0) with
 | true=>have h0:=eq_of_beq h; exact .inl ⟨h0,Rb lines h0,rfl⟩
 | false=>exact .inr rfl
theorem Qee (lines:List ByteArray) (word:ByteArray):(Qz lines word).length≤16:=by
 rcases By lines word with ⟨_,h,e⟩ | e
 ·rw [e]; exact Qbx lines word (Xx lines h)
 ·rw [e]; exact Nat.zero_le _
theorem Qkf (lines:List ByteArray) (word:ByteArray) (k j:Nat):(((Qz lines word).getD k default).getD j default).size≤1048576:=by
 rcases By lines word with ⟨_,h,e⟩ | e
 ·rw [e]; exact Yo lines word h k j
 ·rw [e]; exact Nat.zero_le _
theorem Gg (lines:List ByteArray) (k:Nat) (hk:k<(Qz lines (⟨#[112,111,114,116]⟩:ByteArray)).length):Zw ((Qz lines (⟨#[112,111,114,116]⟩:ByteArray)).getD k default):=by
 rcases By lines (⟨#[112,111,114,116]⟩:ByteArray) with ⟨_,h,e⟩ | e
 ·rw [e] at hk ⊢; exact Qhr lines h k hk
 ·rw [e] at hk; exact absurd hk (Nat.not_lt_zero _)
def ofL (lines:List ByteArray) (head:ByteArray):List l52Cut:=(lines.map (fun l=>(⟨(F37 l).1⟩:l52Cut))).filter fun c=>((F29 c 0).toList==head.toList)
theorem Ubl {α:Type} [Inhabited α] (xs:List α) (k:Nat):xs.set k (xs.getD k default)=xs:=by
 apply List.ext_getElem?
 intro i
 rw [List.getElem?_set]
 by_cases h:k=i
 ·subst h
  rw [if_pos rfl]
  by_cases hk:k<xs.length
  ·rw [if_pos hk,List.getD_eq_getElem?_getD,List.getElem?_eq_getElem hk]; rfl
  ·rw [if_neg hk,List.getElem?_eq_none (by omega)]
 ·rw [if_neg h]
theorem Nc {α:Type} [Inhabited α] (p:α→Bool) (xs:List α) (k:Nat) (hk:k<xs.length):(xs.take (k+1)).filter p=bif p (xs.getD k default) then (xs.take k).filter p++[xs.getD k default] else (xs.take k).filter p:=by
 rw [List.take_add_one,List.filter_append,List.getElem?_eq_getElem hk,Option.toList_some]
 have e:xs.getD k default=xs[k]:=by rw [List.getD_eq_getElem?_getD,List.getElem?_eq_getElem hk]; rfl
 rw [e]
 cases h:p xs[k] with
 | true=>rw [List.filter_cons_of_pos h]; rfl
 | false=>rw [List.filter_cons_of_neg (by simp [h])]; simp
theorem as27 (lines:List ByteArray) (head:ByteArray):F27 lines head=(ofL lines head):=by
 unfold F27 ofL
 generalize (lines.map (fun l=>(⟨(F37 l).1⟩:l52Cut)))=cuts
 have e:Int.toNat (((cuts.map hz).length:Int)-0)+1=cuts.length+1:=by rw [List.length_map]; omega
 rw [e]
 have h:=Yj (step:=Br lines head) (fun (k:Nat) (s:List l52Cut×List (l52Cut×Bool))=>(s.1,(k:Int),s.2)) cuts.length
  (fun k s=>s.2.map Prod.fst=cuts∧s.1=(cuts.take k).filter fun c=>((F29 c 0).toList==head.toList)) (fun _=>False)
  (fun k s hk hs=>.inl ⟨(bif ((F29 (cuts.getD k default) 0).toList==head.toList) then (s.1++[cuts.getD k default],s.2.set k (cuts.getD k default,true)) else s),by
   have hl:s.2.length=cuts.length:=by rw [← hs.1,List.length_map]
   have hcx:(s.2.getD k default).1=cuts.getD k default:=by rw [← hs.1]; exact (Nk Prod.fst s.2 k (by omega)).symm
   simp only [Br,ltD (show k<s.2.length by omega),cond_true,nn,hcx]
   cases ((F29 (cuts.getD k default) 0).toList==head.toList) <;> rfl,by
   have hl:s.2.length=cuts.length:=by rw [← hs.1,List.length_map]
   refine ⟨?_,?_⟩
   ·cases ((F29 (cuts.getD k default) 0).toList==head.toList) with
    | false=>exact hs.1
    | true =>
     show (s.2.set k (cuts.getD k default,true)).map Prod.fst=cuts
     rw [List.map_set,hs.1]
     exact Ubl cuts k
   ·rw [Nc _ cuts k hk,← hs.2]
    cases ((F29 (cuts.getD k default) 0).toList==head.toList) <;> rfl⟩)
  (fun s hs=>by
   have hl:s.2.length=cuts.length:=by rw [← hs.1,List.length_map]
   simp only [Br,hl,geD,cond_false]) cuts.length 0 ([],cuts.map hz) (by omega) ⟨by rw [List.map_map]; exact List.map_id _,rfl⟩ (cuts.length+1) (by omega)
 rcases h with ⟨s',e1,h1,h2⟩ | ⟨r,_,hr⟩
 ·rw [show (([]:List l52Cut),(0:Int),cuts.map hz)=(([]:List l52Cut),((0:Nat):Int),cuts.map hz) from rfl,e1]
  show s'.1=_
  rw [h2,List.take_length]
 ·exact hr.elim
theorem Ufj (lines:List ByteArray) (head:ByteArray) (h:lines.length≤16):(ofL lines head).length≤16:=by
 have:=List.length_filter_le (fun c:l52Cut=>((F29 c 0).toList==head.toList)) (lines.map (fun l=>(⟨(F37 l).1⟩:l52Cut)))
 rw [List.length_map] at this
 unfold ofL
 omega
theorem Ucl (lines:List ByteArray) (head:ByteArray) (hz:∀ k:Nat,(lines.getD k default).size≤1048576):∀ k j:Nat,(((ofL lines head).getD k default).w.getD j default).size≤1048576:=fun k j=>by
 by_cases hk:k<(ofL lines head).length
 ·have hm:=(List.mem_filter.1 (Ke _ hk)).1
  obtain ⟨i,hi,e⟩:=Vw hm
  have:=Rm lines hz i j
  rw [e] at this
  exact this
 ·rw [Kc (ofL lines head) (by omega)]; exact Nat.zero_le _
theorem Udc (lines:List ByteArray) (h:F20 lines=0) (head:ByteArray):ofL lines head=(Qa lines head).map l52Cut.mk:=by
 unfold ofL
 rw [Ufk,Yn lines h,List.filter_map]
 congr 1
 refine List.filter_congr fun w _=>?_
 show ((F29 ⟨w⟩ 0).toList==head.toList)=hdB w head.data.toList
 rw [at0,Uc,Uc]; rfl
def T15 (R:List (List ByteArray)) (lines:List ByteArray) (word:ByteArray):Spec:=⟨(S15 R lines word).args,(S15 R lines word).res,lines.length≤1048576∧(∀ k:Nat,(lines.getD k default).size≤1048576)⟩
theorem oa15 (lines:List ByteArray) (word:ByteArray):(T15 (Qz lines word) lines word).ok Tryz.prog 15 false:=by
 intro hp; have h:=ok15 lines word hp; rw [as15 lines word] at h; exact h
def T27 (R:List l52Cut) (lines:List ByteArray) (head:ByteArray):Spec:=⟨(S27 R lines head).args,(S27 R lines head).res,lines.length≤16∧(∀ k:Nat,(lines.getD k default).size≤1048576)⟩
theorem oa27 (lines:List ByteArray) (head:ByteArray):(T27 (ofL lines head) lines head).ok Tryz.prog 27:=by
 intro hp; have h:=ok27 lines head hp; rw [as27 lines head] at h; exact h
def F16 (word:ByteArray):Qb :=
 (⟨(F33 word).1.Addr,(F33 word).1.Len⟩:Qb)
theorem fi16 (word:ByteArray) (r:Qb) (hF:r=(F16 word)):((.int .i64 r.Addr:Value)=.int .i64 (F16 word).Addr)∧((.int .i64 r.Len:Value)=.int .i64 (F16 word).Len)∧True:=by cases hF; exact ⟨rfl,rfl,trivial⟩
def S16 (word:ByteArray):Spec:=⟨[.r (.c (.v (.string word)))],.ag [.v (vI (F16 word).Addr),.v (vI (F16 word).Len)],word.size≤1048576⟩
theorem ok16 (word:ByteArray):(S16 word).ok Tryz.prog 16 false :=
 Qi mixed (fn:=Tryz.f16) (ct:=.seq .no (.seq (.reg [(1,kh33 word)]) (.seq .no .no))) Tryz.func16 (fun (hpre0:word.size≤1048576)=>kc33 word (by omega) (fi16 word (⟨(F33 word).1.Addr,(F33 word).1.Len⟩:Qb) rfl)) (by kernel_rfl)
structure TernPort where
 Port:Int
 Addr:Int
 Len:Int
 List:ByteArray
 deriving DecidableEq,Inhabited
def Qd (x:TernPort):List Dat:=[.v (vI x.Port),.v (vI x.Addr),.v (vI x.Len),.v (.string x.List)]
theorem kc15a (lines:List ByteArray) (word:ByteArray) {K_:Prop} (p0_:lines.length≤1048576) (p1_:∀ k:Nat,(lines.getD k default).size≤1048576) (k_:((Qz lines word).length≤16)→K_):(lines.length≤1048576∧(∀ k:Nat,(lines.getD k default).size≤1048576))∧(Imp (.l 1 eStr lines) (.l 1 eStr lines))∧(Imp (.v (.string word)) (.v (.string word)))∧K_:=⟨⟨p0_,p1_⟩,Imp.refl _,Imp.refl _,k_ (Qee lines word)⟩
abbrev kh15a (lines:List ByteArray) (word:ByteArray):Hint false Tryz.prog:=.call 15 (T15 (Qz lines word) lines word) (oa15 lines word) none
theorem kc16 (word:ByteArray) {K_:Prop} (p0_:word.size≤1048576) (k_:K_):(word.size≤1048576)∧(Imp (.v (.string word)) (.v (.string word)))∧K_:=⟨p0_,Imp.refl _,k_⟩
abbrev kh16 (word:ByteArray):Hint false Tryz.prog:=.call 16 (S16 word) (ok16 word) none
def Qjh (lines:List ByteArray) (out:List TernPort) (v12:Int):Lp ByteArray (List TernPort) :=
 bif (decide ((((Qz lines (⟨#[112,111,114,116]⟩:ByteArray)).getD v12.toNat default).length:Int)>4)) then (.done (((Qz lines (⟨#[112,111,114,116]⟩:ByteArray)).getD v12.toNat default).getD (Int.toNat 4) default)) else (.done (⟨#[]⟩:ByteArray))
def Pj (lines:List ByteArray):(List TernPort×Int)→Lp (List TernPort×Int) (List TernPort):=fun (out,v12) =>
 bif (decide (v12<((Qz lines (⟨#[112,111,114,116]⟩:ByteArray)).length:Int))) then ((Qjh lines out v12).fin Lp.ret (fun port=>.next ((out++[(⟨(F17 (((Qz lines (⟨#[112,111,114,116]⟩:ByteArray)).getD v12.toNat default).getD (Int.toNat 1) default)),(F16 (((Qz lines (⟨#[112,111,114,116]⟩:ByteArray)).getD v12.toNat default).getD (Int.toNat 2) default)).Addr,(F16 (((Qz lines (⟨#[112,111,114,116]⟩:ByteArray)).getD v12.toNat default).getD (Int.toNat 2) default)).Len,port⟩:TernPort)]),(v12+1)))) else (.done (out,v12))
def F7 (lines:List ByteArray):List TernPort :=
 (runL (Pj lines) ((((Qz lines (⟨#[112,111,114,116]⟩:ByteArray)).length:Int)-0).toNat+1) (([]:List TernPort),0)).fin (fun r=>r) (fun (out,v12)=>out)
abbrev Qvp (lines:List ByteArray) (out:List TernPort) (v12:Int) (j:ByteArray):Prop:=(Qjh lines out v12)=Lp.done j
theorem jn7_2 (lines:List ByteArray) (out:List TernPort) (v12:Int) (port:ByteArray) (e:(Qjh lines out v12)=Lp.done port):∃ j:ByteArray,((.int .i64 ((Qz lines (⟨#[112,111,114,116]⟩:ByteArray)).length:Int):Value)=.int .i64 ((Qz lines (⟨#[112,111,114,116]⟩:ByteArray)).length:Int))∧((.int .i64 v12:Value)=.int .i64 v12)∧(Imp (.l 4 Qd out) (.l 4 Qd out))∧((.int .i64 (F17 (((Qz lines (⟨#[112,111,114,116]⟩:ByteArray)).getD v12.toNat default).getD (Int.toNat 1) default)):Value)=.int .i64 (F17 (((Qz lines (⟨#[112,111,114,116]⟩:ByteArray)).getD v12.toNat default).getD (Int.toNat 1) default)))∧((.int .i64 (F16 (((Qz lines (⟨#[112,111,114,116]⟩:ByteArray)).getD v12.toNat default).getD (Int.toNat 2) default)).Addr:Value)=.int .i64 (F16 (((Qz lines (⟨#[112,111,114,116]⟩:ByteArray)).getD v12.toNat default).getD (Int.toNat 2) default)).Addr)∧((.int .i64 (F16 (((Qz lines (⟨#[112,111,114,116]⟩:ByteArray)).getD v12.toNat default).getD (Int.toNat 2) default)).Len:Value)=.int .i64 (F16 (((Qz lines (⟨#[112,111,114,116]⟩:ByteArray)).getD v12.toNat default).getD (Int.toNat 2) default)).Len)∧((.string port:Value)=.string j)∧(Imp (.l 1 (eL 1 eStr) (Qz lines (⟨#[112,111,114,116]⟩:ByteArray))) (.l 1 (eL 1 eStr) (Qz lines (⟨#[112,111,114,116]⟩:ByteArray))))∧Qvp lines out v12 j:=⟨port,rfl,rfl,Imp.refl _,rfl,rfl,rfl,rfl,Imp.refl _,e⟩
abbrev Qir (lines:List ByteArray):Nat×(List TernPort×Int):=(((((Qz lines (⟨#[112,111,114,116]⟩:ByteArray)).length:Int)-0).toNat+1),(([]:List TernPort),0))
abbrev Qzx (lines:List ByteArray) (m39:Nat) (out:List TernPort) (v12:Int):Prop:=Int.toNat (((Qz lines (⟨#[112,111,114,116]⟩:ByteArray)).length:Int)-v12)<m39∧(out.length:Int)≤v12∧(0:Int)≤v12
abbrev lX7_0 (lines:List ByteArray):Lp (List TernPort×Int) (List TernPort):=LpX (Pj lines) (Qir lines)
abbrev Qiu (lines:List ByteArray) (i:Nat×(List TernPort×Int)):Prop:=LpJ (Pj lines) (Qir lines) i (Qzx lines i.1 i.2.1 i.2.2)
abbrev lH7_0 (lines:List ByteArray) (i:Nat×(List TernPort×Int)) (m39:Nat) (out:List TernPort) (v12:Int):Prop:=LpH (Pj lines) (Qir lines) i m39 (out,v12) (Qzx lines (m39+1) out v12)
abbrev lE7_0 (lines:List ByteArray) (out:List TernPort) (v12:Int) (out_:List TernPort) (v12_:Int) (K39:Prop):Prop:=(Rf (.int .i64 ((Qz lines (⟨#[112,111,114,116]⟩:ByteArray)).length:Int)))∧((.int .i64 v12:Value)=.int .i64 v12_)∧(Imp (.l 4 Qd out) (.l 4 Qd out_))∧(Im (.l 1 (eL 1 eStr) (Qz lines (⟨#[112,111,114,116]⟩:ByteArray))))∧K39
theorem un7_0 (lines:List ByteArray) (i:Nat×(List TernPort×Int)) (h:Qiu lines i):lH7_0 lines i (i.1-1) i.2.1 i.2.2:=⟨hd1 h.1 h.2.1,hd3 h.2.1,hd2 h.2.1,h.2.2⟩
theorem bk7_0 (lines:List ByteArray) (i:Nat×(List TernPort×Int)) (m39:Nat) (out:List TernPort) (v12:Int) (hl:m39<i.1) (e:runL (Pj lines) m39 (out,v12)=lX7_0 lines) (h:Qzx lines m39 out v12):∃ j:Nat×(List TernPort×Int),lE7_0 lines out v12 j.2.1 j.2.2 (Qiu lines j∧j.1<i.1):=⟨(m39,(out,v12)),rfl,rfl,Imp.refl _,Imp.refl _,⟨e,h⟩,hl⟩
theorem en7_0 (lines:List ByteArray) (h:(([]:List TernPort).length:Int)≤0∧(0:Int)≤0):lE7_0 lines ([]:List TernPort) 0 ([]:List TernPort) 0 (Qiu lines (Qir lines)):=⟨rfl,rfl,Imp.refl _,Imp.refl _,rfl,Nat.lt_succ_self _,h⟩
theorem fi7 (lines:List ByteArray) (r:List TernPort) (hF:r=(F7 lines)):(Imp (.l 4 Qd r) (.l 4 Qd (F7 lines)))∧True:=by cases hF; exact ⟨Imp.refl _,trivial⟩
def S7 (lines:List ByteArray):Spec:=⟨[.r (.c (.l 1 eStr lines))],.ow (.l 4 Qd (F7 lines)),lines.length≤1048576∧(∀ k:Nat,(lines.getD k default).size≤1048576)⟩
theorem ok7 (lines:List ByteArray):(S7 lines).ok Tryz.prog 7 false :=
 Qi mixed (fn:=Tryz.f7) (ct:=.seqk [(0,0)] .no (.seq (.reg [(0,.dat (.l 4 Qd ([]:List TernPort)))]) (.seq (.seqk [(3,0),(10,0)] (.reg [(1,kh15a lines (⟨#[112,111,114,116]⟩:ByteArray))]) (.blk (.loop (ι:=Nat×(List TernPort×Int)) (fun i=>(fun (out:List TernPort) (v12:Int)=>(⟨[(3,some (.h 0 0)),(10,some (.h 1 0)),(11,some (.v (vI ((Qz lines (⟨#[112,111,114,116]⟩:ByteArray)).length:Int)))),(12,some (.v (vI v12)))],[(0,some (.own 0 (.l 4 Qd out))),(1,some (.own 1 (.l 1 (eL 1 eStr) (Qz lines (⟨#[112,111,114,116]⟩:ByteArray)))))],2⟩:St)) i.2.1 i.2.2) (Qiu lines) (fun i=>i.1) (Qir lines) (fun i=>(fun (out:List TernPort) (v12:Int)=>(.seq .no (.seq (.cond .no .no) (.seq (.blk (.seq .no (.seq (.reg [(3,kh16 (((Qz lines (⟨#[112,111,114,116]⟩:ByteArray)).getD v12.toNat default).getD (Int.toNat 2) default))]) (.seq (.reg [(3,kh17 (((Qz lines (⟨#[112,111,114,116]⟩:ByteArray)).getD v12.toNat default).getD (Int.toNat 1) default))]) (.cut (ι:=ByteArray) (fun j=>(fun (port:ByteArray)=>(⟨[(3,some (.h 0 0)),(7,some (.p 1 0)),(10,some (.h 2 0)),(11,some (.v (vI ((Qz lines (⟨#[112,111,114,116]⟩:ByteArray)).length:Int)))),(12,some (.v (vI v12)))],[(0,some (.own 0 (.l 4 Qd out))),(1,some (.box 39 [.v (vI (F17 (((Qz lines (⟨#[112,111,114,116]⟩:ByteArray)).getD v12.toNat default).getD (Int.toNat 1) default))),.v (vI (F16 (((Qz lines (⟨#[112,111,114,116]⟩:ByteArray)).getD v12.toNat default).getD (Int.toNat 2) default)).Addr),.v (vI (F16 (((Qz lines (⟨#[112,111,114,116]⟩:ByteArray)).getD v12.toNat default).getD (Int.toNat 2) default)).Len),.v (.string port)])),(2,some (.own 2 (.l 1 (eL 1 eStr) (Qz lines (⟨#[112,111,114,116]⟩:ByteArray)))))],3⟩:St)) j) (Qvp lines out v12) (.seq .no (.cond .no .no)) (fun j=>(fun (port:ByteArray)=>(.reg [(3,.dat (.l 4 Qd (out++[(⟨(F17 (((Qz lines (⟨#[112,111,114,116]⟩:ByteArray)).getD v12.toNat default).getD (Int.toNat 1) default)),(F16 (((Qz lines (⟨#[112,111,114,116]⟩:ByteArray)).getD v12.toNat default).getD (Int.toNat 2) default)).Addr,(F16 (((Qz lines (⟨#[112,111,114,116]⟩:ByteArray)).getD v12.toNat default).getD (Int.toNat 2) default)).Len,port⟩:TernPort)])))])) j)))))) (.reg [(0,.bnd)]))))) i.2.1 i.2.2)))) (.seq .no .no)))) Tryz.func7 (fun (hp:lines.length≤1048576∧(∀ k:Nat,(lines.getD k default).size≤1048576))=>have hpre0:=hp.1; have hpre1:=hp.2; kn lines fun _=>ai (bokr 4 Qd ([]:List TernPort) fun _=>rfl) (kc15a lines (⟨#[112,111,114,116]⟩:ByteArray) (by first | omega | (simp only [lens,ib] at*<;> omega)) (by first | assumption | exact hpre1 _ | exact fun k _=>hpre1 k | (intros; exact trivial) | (intros; exact Nat.zero_le _)) (fun gv1=>kn ([]:List TernPort) fun _=>kn (Qz lines (⟨#[112,111,114,116]⟩:ByteArray)) fun _=>ai (en7_0 lines (by refine ⟨?_,?_⟩ <;> first | omega | (simp only [lens,ib] at*<;> omega))) (fun (i0:Nat×(List TernPort×Int)) (hi0:Qiu lines i0)=>(fun (m0:Nat) (out:List TernPort) (v12:Int) (hh0:lH7_0 lines i0 m0 out v12)=>have hI0:=hh0.1; have hl0:=hh0.2.1; have _:=hh0.2.2.1; have _:=hh0.2.2.2; ifd (v12<((Qz lines (⟨#[112,111,114,116]⟩:ByteArray)).length:Int)) (fun h3 _=>ai (by (first | omega | (have h9:=Gg lines v12.toNat (by first | omega | (simp only [lens,ib] at*<;> omega)); unfold Zw at h9; omega)):0≤v12∧v12<((Qz lines (⟨#[112,111,114,116]⟩:ByteArray)).length:Int)) (ai (by (first | omega | (have h9:=Gg lines v12.toNat (by first | omega | (simp only [lens,ib] at*<;> omega)); unfold Zw at h9; omega)):0≤(2:Int)∧(2:Int)<(((Qz lines (⟨#[112,111,114,116]⟩:ByteArray)).getD v12.toNat default).length:Int)) (kc16 (((Qz lines (⟨#[112,111,114,116]⟩:ByteArray)).getD v12.toNat default).getD (Int.toNat 2) default) (by exact Qkf lines _ _ _) (ai (by (first | omega | (have h9:=Gg lines v12.toNat (by first | omega | (simp only [lens,ib] at*<;> omega)); unfold Zw at h9; omega)):0≤(1:Int)∧(1:Int)<(((Qz lines (⟨#[112,111,114,116]⟩:ByteArray)).getD v12.toNat default).length:Int)) (kc17 (((Qz lines (⟨#[112,111,114,116]⟩:ByteArray)).getD v12.toNat default).getD (Int.toNat 1) default) (by exact Qkf lines _ _ _) (ai (ifd ((((Qz lines (⟨#[112,111,114,116]⟩:ByteArray)).getD v12.toNat default).length:Int)>4) (fun h4 _=>ai (by (first | omega | (have h9:=Gg lines v12.toNat (by first | omega | (simp only [lens,ib] at*<;> omega)); unfold Zw at h9; omega)):0≤(4:Int)∧(4:Int)<(((Qz lines (⟨#[112,111,114,116]⟩:ByteArray)).getD v12.toNat default).length:Int)) (jn7_2 lines out v12 (((Qz lines (⟨#[112,111,114,116]⟩:ByteArray)).getD v12.toNat default).getD (Int.toNat 4) default) (Eq.symm (condT h4 rfl)) )) (fun h4 _=>jn7_2 lines out v12 (⟨#[]⟩:ByteArray) (Eq.symm (condF h4 rfl)) )) (fun (j:ByteArray) (hj:Qvp lines out v12 j)=>(fun (port:ByteArray) (hJ2_5:(Qjh lines out v12)=Lp.done port)=>ai (appr 4 Qd out [(⟨(F17 (((Qz lines (⟨#[112,111,114,116]⟩:ByteArray)).getD v12.toNat default).getD (Int.toNat 1) default)),(F16 (((Qz lines (⟨#[112,111,114,116]⟩:ByteArray)).getD v12.toNat default).getD (Int.toNat 2) default)).Addr,(F16 (((Qz lines (⟨#[112,111,114,116]⟩:ByteArray)).getD v12.toNat default).getD (Int.toNat 2) default)).Len,port⟩:TernPort)] fun _=>rfl) (ai (by (try simp only [lens]); omega:(out++[(⟨(F17 (((Qz lines (⟨#[112,111,114,116]⟩:ByteArray)).getD v12.toNat default).getD (Int.toNat 1) default)),(F16 (((Qz lines (⟨#[112,111,114,116]⟩:ByteArray)).getD v12.toNat default).getD (Int.toNat 2) default)).Addr,(F16 (((Qz lines (⟨#[112,111,114,116]⟩:ByteArray)).getD v12.toNat default).getD (Int.toNat 2) default)).Len,port⟩:TernPort)]).length*40≤140737488355328) (ai (iok (v12+1) (by first | omega | (simp only [lens,ib] at*<;> omega))) (bk7_0 lines i0 m0 (out++[(⟨(F17 (((Qz lines (⟨#[112,111,114,116]⟩:ByteArray)).getD v12.toNat default).getD (Int.toNat 1) default)),(F16 (((Qz lines (⟨#[112,111,114,116]⟩:ByteArray)).getD v12.toNat default).getD (Int.toNat 2) default)).Addr,(F16 (((Qz lines (⟨#[112,111,114,116]⟩:ByteArray)).getD v12.toNat default).getD (Int.toNat 2) default)).Len,port⟩:TernPort)]) (v12+1) hl0 (Qe hI0 (condT h3 (finD hJ2_5 rfl))) (by refine ⟨?_,?_,?_⟩ <;> first | omega | (simp only [lens,ib] at*<;> omega)))))) j hj))))))) (fun h3 _=>have hD0_6:lX7_0 lines=Lp.done (out,v12):=Qj hI0 (condF h3 rfl); fi7 lines out (finD hD0_6 rfl))) (i0.1-1) i0.2.1 i0.2.2 (un7_0 lines i0 hi0))))) (by kernel_rfl)
theorem kc44 (text:ByteArray) {K_:Prop} (p0_:text.size≤1048576) (k_:K_):(text.size≤1048576)∧(Imp (.v (.string text)) (.v (.string text)))∧K_:=⟨p0_,Imp.refl _,k_⟩
abbrev kh44 (text:ByteArray):Hint true Tryz.prog:=.call 44 (S44 text) (ok44 text) none
def F28 (word:ByteArray):Qb :=
 (⟨(F44 word).1.Addr,(F44 word).1.Len⟩:Qb)
theorem fi28 (word:ByteArray) (r:Qb) (hF:r=(F28 word)):((.int .i64 r.Addr:Value)=.int .i64 (F28 word).Addr)∧((.int .i64 r.Len:Value)=.int .i64 (F28 word).Len)∧True:=by cases hF; exact ⟨rfl,rfl,trivial⟩
def S28 (word:ByteArray):Spec:=⟨[.r (.c (.v (.string word)))],.ag [.v (vI (F28 word).Addr),.v (vI (F28 word).Len)],word.size≤1048576⟩
theorem ok28 (word:ByteArray):(S28 word).ok Tryz.prog 28 :=
 Qi mixed (fn:=Tryz.f28) (ct:=.seq .no (.seq (.reg [(1,kh44 word)]) (.seq .no .no))) Tryz.func28 (fun (hpre0:word.size≤1048576)=>kc44 word (by omega) (fi28 word (⟨(F44 word).1.Addr,(F44 word).1.Len⟩:Qb) rfl)) (by kernel_rfl)
theorem kc27a (lines:List ByteArray) (head:ByteArray) {K_:Prop} (p0_:lines.length≤16) (p1_:∀ k:Nat,(lines.getD k default).size≤1048576) (q0_:lines.length≤16) (k_:((ofL lines head).length≤16)→K_):(lines.length≤16∧(∀ k:Nat,(lines.getD k default).size≤1048576))∧(Imp (.l 1 eStr lines) (.l 1 eStr lines))∧(Imp (.v (.string head)) (.v (.string head)))∧K_:=⟨⟨p0_,p1_⟩,Imp.refl _,Imp.refl _,k_ (Ufj lines head q0_)⟩
abbrev kh27a (lines:List ByteArray) (head:ByteArray):Hint true Tryz.prog:=.call 27 (T27 (ofL lines head) lines head) (oa27 lines head) none
theorem kc28 (word:ByteArray) {K_:Prop} (p0_:word.size≤1048576) (k_:K_):(word.size≤1048576)∧(Imp (.v (.string word)) (.v (.string word)))∧K_:=⟨p0_,Imp.refl _,k_⟩
abbrev kh28 (word:ByteArray):Hint true Tryz.prog:=.call 28 (S28 word) (ok28 word) none
def Xd (lines:List ByteArray):(List TernPort×Int)→Lp (List TernPort×Int) (List TernPort):=fun (out,i40) =>
 bif (decide (i40<((ofL lines (⟨#[112,111,114,116]⟩:ByteArray)).length:Int))) then (.next ((out++[(⟨(F30 (F29 ((ofL lines (⟨#[112,111,114,116]⟩:ByteArray)).getD i40.toNat default) 1)),(F28 (F29 ((ofL lines (⟨#[112,111,114,116]⟩:ByteArray)).getD i40.toNat default) 2)).Addr,(F28 (F29 ((ofL lines (⟨#[112,111,114,116]⟩:ByteArray)).getD i40.toNat default) 2)).Len,(F29 ((ofL lines (⟨#[112,111,114,116]⟩:ByteArray)).getD i40.toNat default) 4)⟩:TernPort)]),(i40+1))) else (.done (out,i40))
def F14 (lines:List ByteArray):List TernPort :=
 (runL (Xd lines) ((((ofL lines (⟨#[112,111,114,116]⟩:ByteArray)).length:Int)-0).toNat+1) (([]:List TernPort),0)).fin (fun r=>r) (fun (out,i40)=>out)
abbrev Rw (lines:List ByteArray):Nat×(List TernPort×Int):=(((((ofL lines w7_).length:Int)-0).toNat+1),(([]:List TernPort),0))
abbrev Qnd (lines:List ByteArray) (m39:Nat) (out:List TernPort) (i40:Int):Prop:=Int.toNat (((ofL lines w7_).length:Int)-i40)<m39∧(out.length:Int)≤i40∧(0:Int)≤i40
abbrev Qxx (lines:List ByteArray):Lp (List TernPort×Int) (List TernPort):=LpX (Xd lines) (Rw lines)
abbrev Tu (lines:List ByteArray) (i:Nat×(List TernPort×Int)):Prop:=LpJ (Xd lines) (Rw lines) i (Qnd lines i.1 i.2.1 i.2.2)
abbrev Qyw (lines:List ByteArray) (i:Nat×(List TernPort×Int)) (m39:Nat) (out:List TernPort) (i40:Int):Prop:=LpH (Xd lines) (Rw lines) i m39 (out,i40) (Qnd lines (m39+1) out i40)
abbrev Qwp (lines:List ByteArray) (out:List TernPort) (i40:Int) (out_:List TernPort) (i40_:Int) (K39:Prop):Prop:=((.int .i64 i40:Value)=.int .i64 i40_)∧(Im (.l 1 Qk (ofL lines w7_)))∧(Imp (.l 4 Qd out) (.l 4 Qd out_))∧K39
theorem un14_0 (lines:List ByteArray) (i:Nat×(List TernPort×Int)) (h:Tu lines i):Qyw lines i (i.1-1) i.2.1 i.2.2:=⟨hd1 h.1 h.2.1,hd3 h.2.1,hd2 h.2.1,h.2.2⟩
theorem bk14_0 (lines:List ByteArray) (i:Nat×(List TernPort×Int)) (m39:Nat) (out:List TernPort) (i40:Int) (hl:m39<i.1) (e:runL (Xd lines) m39 (out,i40)=Qxx lines) (h:Qnd lines m39 out i40):∃ j:Nat×(List TernPort×Int),Qwp lines out i40 j.2.1 j.2.2 (Tu lines j∧j.1<i.1):=⟨(m39,(out,i40)),rfl,Imp.refl _,Imp.refl _,⟨e,h⟩,hl⟩
theorem en14_0 (lines:List ByteArray) (h:(([]:List TernPort).length:Int)≤0∧(0:Int)≤0):Qwp lines ([]:List TernPort) 0 ([]:List TernPort) 0 (Tu lines (Rw lines)):=⟨rfl,Imp.refl _,Imp.refl _,rfl,Nat.lt_succ_self _,h⟩
theorem fi14 (lines:List ByteArray) (r:List TernPort) (hF:r=(F14 lines)):(Imp (.l 4 Qd r) (.l 4 Qd (F14 lines)))∧True:=by cases hF; exact ⟨Imp.refl _,trivial⟩
def S14 (lines:List ByteArray):Spec:=⟨[.r (.c (.l 1 eStr lines))],.ow (.l 4 Qd (F14 lines)),lines.length≤16∧(∀ k:Nat,(lines.getD k default).size≤1048576)⟩
theorem ok14 (lines:List ByteArray):(S14 lines).ok Tryz.prog 14 :=
 Qi mixed (fn:=Tryz.f14) (ct:=.seqk [(0,0)] .no (.seq (.reg [(1,kh27a lines w7_)]) (.seq (.reg [(0,.dat (.l 4 Qd ([]:List TernPort)))]) (.seq (.seqk [(3,0),(4,0)] .no (.blk (.loop (ι:=Nat×(List TernPort×Int)) (fun i=>(fun (out:List TernPort) (i40:Int)=>(⟨[(3,some (.h 0 0)),(4,some (.h 1 0)),(5,some (.v (vI i40)))],[(0,some (.own 0 (.l 1 Qk (ofL lines w7_)))),(1,some (.own 1 (.l 4 Qd out)))],2⟩:St)) i.2.1 i.2.2) (Tu lines) (fun i=>i.1) (Rw lines) (fun i=>(fun (out:List TernPort) (i40:Int)=>(.seq (.seq .no (.cond .no .no)) (.seq (.blk (.seq (.reg [(4,kh29 ((ofL lines w7_).getD i40.toNat default) 2),(5,kh28 (F29 ((ofL lines w7_).getD i40.toNat default) 2))]) (.reg [(5,kh29 ((ofL lines w7_).getD i40.toNat default) 1),(6,kh30 (F29 ((ofL lines w7_).getD i40.toNat default) 1)),(15,kh29 ((ofL lines w7_).getD i40.toNat default) 4),(18,.dat (.l 4 Qd (out++[(⟨(F30 (F29 ((ofL lines w7_).getD i40.toNat default) 1)),(F28 (F29 ((ofL lines w7_).getD i40.toNat default) 2)).Addr,(F28 (F29 ((ofL lines w7_).getD i40.toNat default) 2)).Len,(F29 ((ofL lines w7_).getD i40.toNat default) 4)⟩:TernPort)])))]))) (.reg [(1,.bnd)])))) i.2.1 i.2.2)))) (.seq .no .no))))) Tryz.func14 (fun (hp:lines.length≤16∧(∀ k:Nat,(lines.getD k default).size≤1048576))=>have hpre0:=hp.1; have hpre1:=hp.2; kn lines fun _=>kc27a lines w7_ (by first | omega | (simp only [lens,ib] at*<;> omega)) (by first | assumption | exact hpre1 _ | exact fun k _=>hpre1 k | (intros; exact trivial) | (intros; exact Nat.zero_le _)) (by first | omega | (simp only [lens,ib] at*<;> omega)) (fun gv1=>ai (bokr 4 Qd ([]:List TernPort) fun _=>rfl) (kn (ofL lines w7_) fun _=>kn ([]:List TernPort) fun _=>ai (en14_0 lines (by refine ⟨?_,?_⟩ <;> first | omega | (simp only [lens,ib] at*<;> omega))) (fun (i0:Nat×(List TernPort×Int)) (hi0:Tu lines i0)=>(fun (m0:Nat) (out:List TernPort) (i40:Int) (hh0:Qyw lines i0 m0 out i40)=>have hI0:=hh0.1; have hl0:=hh0.2.1; have _:=hh0.2.2.1; have _:=hh0.2.2.2; ifd (i40<((ofL lines w7_).length:Int)) (fun h3 _=>ai (by first | omega | (simp only [lens,ib] at*<;> omega):ib i40 (ofL lines w7_)) (kc29 ((ofL lines w7_).getD i40.toNat default) 2 (by first | omega | (simp only [lens,ib] at*<;> omega)) (kc28 (F29 ((ofL lines w7_).getD i40.toNat default) 2) (by exact Wn _ (Ucl lines _ (by assumption)) _ _) (ai (by first | omega | (simp only [lens,ib] at*<;> omega):ib i40 (ofL lines w7_)) (kc29 ((ofL lines w7_).getD i40.toNat default) 1 (by first | omega | (simp only [lens,ib] at*<;> omega)) (kc30 (F29 ((ofL lines w7_).getD i40.toNat default) 1) (by exact Wn _ (Ucl lines _ (by assumption)) _ _) (ai (by first | omega | (simp only [lens,ib] at*<;> omega):ib i40 (ofL lines w7_)) (kc29 ((ofL lines w7_).getD i40.toNat default) 4 (by first | omega | (simp only [lens,ib] at*<;> omega)) (ai (appr 4 Qd out [(⟨(F30 (F29 ((ofL lines w7_).getD i40.toNat default) 1)),(F28 (F29 ((ofL lines w7_).getD i40.toNat default) 2)).Addr,(F28 (F29 ((ofL lines w7_).getD i40.toNat default) 2)).Len,(F29 ((ofL lines w7_).getD i40.toNat default) 4)⟩:TernPort)] fun _=>rfl) (ai (by (try simp only [lens]); omega:(out++[(⟨(F30 (F29 ((ofL lines w7_).getD i40.toNat default) 1)),(F28 (F29 ((ofL lines w7_).getD i40.toNat default) 2)).Addr,(F28 (F29 ((ofL lines w7_).getD i40.toNat default) 2)).Len,(F29 ((ofL lines w7_).getD i40.toNat default) 4)⟩:TernPort)]).length*40≤140737488355328) (ai (iok (i40+1) (by first | omega | (simp only [lens,ib] at*<;> omega))) (bk14_0 lines i0 m0 (out++[(⟨(F30 (F29 ((ofL lines w7_).getD i40.toNat default) 1)),(F28 (F29 ((ofL lines w7_).getD i40.toNat default) 2)).Addr,(F28 (F29 ((ofL lines w7_).getD i40.toNat default) 2)).Len,(F29 ((ofL lines w7_).getD i40.toNat default) 4)⟩:TernPort)]) (i40+1) hl0 (Qe hI0 (condT h3 rfl)) (by refine ⟨?_,?_,?_⟩ <;> first | omega | (simp only [lens,ib] at*<;> omega)))))))))))))) (fun h3 _=>have hD0_4:Qxx lines=Lp.done (out,i40):=Qj hI0 (condF h3 rfl); fi14 lines out (finD hD0_4 rfl))) (i0.1-1) i0.2.1 i0.2.2 (un14_0 lines i0 hi0))))) (by kernel_rfl)
theorem kc13 (lines:List ByteArray) {K_:Prop} (p0_:lines.length≤1048576) (p1_:∀ k:Nat,(lines.getD k default).size≤1048576) (k_:K_):(lines.length≤1048576∧(∀ k:Nat,(lines.getD k default).size≤1048576))∧(Imp (.l 1 eStr lines) (.l 1 eStr lines))∧K_:=⟨⟨p0_,p1_⟩,Imp.refl _,k_⟩
abbrev kh13 (lines:List ByteArray):Hint true Tryz.prog:=.call 13 (S13 lines) (ok13 lines) none
theorem kc14 (lines:List ByteArray) {K_:Prop} (p0_:lines.length≤16) (p1_:∀ k:Nat,(lines.getD k default).size≤1048576) (k_:K_):(lines.length≤16∧(∀ k:Nat,(lines.getD k default).size≤1048576))∧(Imp (.l 1 eStr lines) (.l 1 eStr lines))∧K_:=⟨⟨p0_,p1_⟩,Imp.refl _,k_⟩
abbrev kh14 (lines:List ByteArray):Hint true Tryz.prog:=.call 14 (S14 lines) (ok14 lines) none
def F5 (lines:List ByteArray):List TernPort :=
 bif ((F13 lines) != 0) then ([]:List TernPort) else (F14 lines)
theorem fi5 (lines:List ByteArray) (r:List TernPort) (hF:r=(F5 lines)):(Imp (.l 4 Qd r) (.l 4 Qd (F5 lines)))∧True:=by cases hF; exact ⟨Imp.refl _,trivial⟩
def S5 (lines:List ByteArray):Spec:=⟨[.r (.c (.l 1 eStr lines))],.ow (.l 4 Qd (F5 lines)),lines.length≤1048576∧(∀ k:Nat,(lines.getD k default).size≤1048576)⟩
theorem ok5 (lines:List ByteArray):(S5 lines).ok Tryz.prog 5 :=
 Qi mixed (fn:=Tryz.f5) (ct:=.seqk [(0,0)] .no (.seq (.seq (.reg [(1,kh13 lines)]) (.cond (.seq (.reg [(0,.dat (.l 4 Qd ([]:List TernPort)))]) .no) .no)) (.seq (.reg [(1,kh14 lines)]) .no))) Tryz.func5 (fun (hp:lines.length≤1048576∧(∀ k:Nat,(lines.getD k default).size≤1048576))=>have hpre0:=hp.1; have hpre1:=hp.2; kn lines fun _=>kc13 lines (by omega) (by first | assumption | exact hpre1 _ | exact fun k _=>hpre1 k | (intros; exact trivial) | (intros; exact Nat.zero_le _)) (ifn (F13 lines) 0 (fun h1 _=>ai (bokr 4 Qd ([]:List TernPort) fun _=>rfl) (fi5 lines ([]:List TernPort) (condT h1 rfl))) (fun h1 _=>kc14 lines (by first | assumption | exact Nq lines (by omega)) (by first | assumption | exact Nq lines (by omega)) (fi5 lines (F14 lines) (condF h1 rfl))))) (by kernel_rfl)
def Qeq (w:List ByteArray):TernPort:=⟨num6 (w.getD 1 default).data.toList,(F33 (w.getD 2 default)).1.Addr,(F33 (w.getD 2 default)).1.Len,w.getD 4 default⟩
theorem Gp (lines:List ByteArray):F7 lines=(Qz lines (⟨#[112,111,114,116]⟩:ByteArray)).map Qeq:=by
 unfold F7
 have:=Yd (Qz lines (⟨#[112,111,114,116]⟩:ByteArray)) (fun (s:List TernPort) w=>s++[Qeq w]) (fun s i=>(s,i)) (Pj lines) (fun i s hi=>by
  simp only [Pj,ltD hi,cond_true,nn,F16,Qfc]
  unfold Qjh
  simp only [nn]
  by_cases h:(((Qz lines (⟨#[112,111,114,116]⟩:ByteArray)).getD i default).length:Int)>4
  ·rw [decide_eq_true h]; rfl
  ·rw [decide_eq_false h,Qeq,Kc ((Qz lines (⟨#[112,111,114,116]⟩:ByteArray)).getD i default) (k:=4) (by omega)]; rfl) (fun s=>by simp only [Pj,geD,cond_false]) (fun r=>r) (fun (out,v12)=>out) []
 refine this.trans ?_
 rw [Zf,List.nil_append]
def Qru (c:l52Cut):TernPort:=⟨F30 (F29 c 1),(F44 (F29 c 2)).1.Addr,(F44 (F29 c 2)).1.Len,F29 c 4⟩
theorem Qsx (lines:List ByteArray):F14 lines=(ofL lines (⟨#[112,111,114,116]⟩:ByteArray)).map Qru:=by
 unfold F14
 have:=Yd (ofL lines (⟨#[112,111,114,116]⟩:ByteArray)) (fun (s:List TernPort) w=>s++[Qru w]) (fun s i=>(s,i)) (Xd lines) (fun i s hi=>by
  simp only [Xd,ltD hi,cond_true,nn,F28]; rfl) (fun s=>by simp only [Xd,geD,cond_false]) (fun r=>r) (fun (out,i40)=>out) []
 refine this.trans ?_
 rw [Zf,List.nil_append]
theorem Qyr (w:List ByteArray):Qru ⟨w⟩=Qeq w:=by
 unfold Qru Qeq
 rw [at1,at2,at4,Wz,Qlc]
theorem Qik (lines:List ByteArray) (h:F20 lines=0):F14 lines=(Qa lines (⟨#[112,111,114,116]⟩:ByteArray)).map Qeq:=by
 rw [Qsx,Udc lines h,List.map_map]
 exact List.map_congr_left fun w _=>Qyr w
theorem Xw (lines:List ByteArray):F7 lines=F5 lines:=by
 rw [Gp]
 unfold F5 Qz
 rw [← Hf]
 cases h:(F46 lines==0) with
 | true =>
  have h0:=eq_of_beq h
  rw [h0,Qik lines (Rb lines h0)]; rfl
 | false =>
  rw [show (F46 lines != 0)=true by simp only [bne,h,Bool.not_false]]; rfl
theorem Qbs (lines:List ByteArray):(F7 lines).length≤16:=by
 rw [Gp,List.length_map]; exact Qee _ _
theorem Qif (lines:List ByteArray):∀ k:Nat,0≤((F7 lines).getD k default).Len∧((F7 lines).getD k default).Len≤16:=fun k=>by
 by_cases hk:k<(F7 lines).length
 ·have hm:=Ke _ hk
  rw [Gp] at hm
  obtain ⟨w,_,e⟩:=List.mem_map.1 hm
  rw [Gp,← e]
  exact ⟨(Zq _).1,(Zq _).2.1⟩
 ·rw [Kc _ (by omega)]; exact ⟨by decide,by decide⟩
theorem Qai (lines:List ByteArray):(F5 lines).length≤16:=by rw [← Xw]; exact Qbs lines
theorem Qzt (lines:List ByteArray):∀ k:Nat,0≤((F5 lines).getD k default).Len∧((F5 lines).getD k default).Len≤16:=by rw [← Xw]; exact Qif lines
theorem kc19 (k:Int) {K_:Prop} (p0_:k≤1000000000) (k_:K_):(k≤1000000000)∧(Imp (.v (vI k)) (.v (vI k)))∧K_:=⟨p0_,Imp.refl _,k_⟩
abbrev kh19 (k:Int):Hint true Tryz.prog:=.call 19 (S19 k) (ok19 k) none
def Kr (a:List ByteArray) (k:Int):(Int×Int×List ByteArray)→Lp (Int×Int×List ByteArray) (Int×List ByteArray):=fun (k400,i40,xs) =>
 bif (decide (i40<(xs.length:Int))) then (.next ((k400+1),(i40+1),(xs.set (i40).toNat (F19 k400)))) else (.done (k400,i40,xs))
def F10 (a:List ByteArray) (k:Int):Int×List ByteArray :=
 (runL (Kr a k) ((Int.toNat ((a.length:Int)-0))+1) (k,0,a)).fin (fun r=>r) (fun (k400,i40,xs)=>(k400,xs))
abbrev Tm (a:List ByteArray) (k:Int):Nat×(Int×Int×List ByteArray):=(((Int.toNat ((a.length:Int)-0))+1),(k,0,a))
abbrev Qkp (a:List ByteArray) (m39:Nat) (k400:Int) (i40:Int) (xs:List ByteArray):Prop:=Int.toNat ((xs.length:Int)-i40)<m39∧(0:Int)≤k400∧k400+((xs.length:Int)-i40)≤1000000000∧(0:Int)≤i40∧xs.length=a.length
abbrev Qyz (a:List ByteArray) (k:Int):Lp (Int×Int×List ByteArray) (Int×List ByteArray):=LpX (Kr a k) (Tm a k)
abbrev Qas (a:List ByteArray) (k:Int) (i:Nat×(Int×Int×List ByteArray)):Prop:=LpJ (Kr a k) (Tm a k) i (Qkp a i.1 i.2.1 i.2.2.1 i.2.2.2)
abbrev Ubm (a:List ByteArray) (k:Int) (i:Nat×(Int×Int×List ByteArray)) (m39:Nat) (k400:Int) (i40:Int) (xs:List ByteArray):Prop:=LpH (Kr a k) (Tm a k) i m39 (k400,i40,xs) (Qkp a (m39+1) k400 i40 xs)
abbrev Qtq (k400:Int) (i40:Int) (xs:List ByteArray) (k400_:Int) (i40_:Int) (xs_:List ByteArray) (K39:Prop):Prop:=((.int .i64 k400:Value)=.int .i64 k400_)∧((.int .i64 i40:Value)=.int .i64 i40_)∧(Imp (.l 1 eStr xs) (.l 1 eStr xs_))∧K39
theorem un10_0 (a:List ByteArray) (k:Int) (i:Nat×(Int×Int×List ByteArray)) (h:Qas a k i):Ubm a k i (i.1-1) i.2.1 i.2.2.1 i.2.2.2:=⟨hd1 h.1 h.2.1,hd3 h.2.1,hd2 h.2.1,h.2.2⟩
theorem bk10_0 (a:List ByteArray) (k:Int) (i:Nat×(Int×Int×List ByteArray)) (m39:Nat) (k400:Int) (i40:Int) (xs:List ByteArray) (hl:m39<i.1) (e:runL (Kr a k) m39 (k400,i40,xs)=Qyz a k) (h:Qkp a m39 k400 i40 xs):∃ j:Nat×(Int×Int×List ByteArray),Qtq k400 i40 xs j.2.1 j.2.2.1 j.2.2.2 (Qas a k j∧j.1<i.1):=⟨(m39,(k400,i40,xs)),rfl,rfl,Imp.refl _,⟨e,h⟩,hl⟩
theorem en10_0 (a:List ByteArray) (k:Int) (h:(0:Int)≤k∧k+((a.length:Int)-0)≤1000000000∧(0:Int)≤0∧a.length=a.length):Qtq k 0 a k 0 a (Qas a k (Tm a k)):=⟨rfl,rfl,Imp.refl _,rfl,Nat.lt_succ_self _,h⟩
theorem fi10 (a:List ByteArray) (k:Int) (r:Int×List ByteArray) (hF:r=(F10 a k)):((.int .i64 r.1:Value)=.int .i64 (F10 a k).1)∧(Imp (.l 1 eStr r.2) (.l 1 eStr (F10 a k).2))∧True:=by cases hF; exact ⟨rfl,Imp.refl _,trivial⟩
def S10 (a:List ByteArray) (k:Int):Spec:=⟨[.ow (.l 1 eStr a) (some (.l 1 eStr (F10 a k).2)),.r (.c (.v (vI k)))],.v (vI (F10 a k).1),0≤k∧k+(a.length:Int)≤1000000000⟩
theorem ok10 (a:List ByteArray) (k:Int):(S10 a k).ok Tryz.prog 10 :=
 Qi mixed (fn:=Tryz.f10) (ct:=.seqk [(0,0)] .no (.seq (.seqk [(0,0)] .no (.blk (.loop (ι:=Nat×(Int×Int×List ByteArray)) (fun i=>(fun (k400:Int) (i40:Int) (xs:List ByteArray)=>(⟨[(0,some (.h 0 0)),(1,some (.v (vI k400))),(5,some (.v (vI i40)))],[(0,some (.own 0 (.l 1 eStr xs)))],1⟩:St)) i.2.1 i.2.2.1 i.2.2.2) (Qas a k) (fun i=>i.1) (Tm a k) (fun i=>(fun (k400:Int) (i40:Int) (xs:List ByteArray)=>(.seq (.seq .no (.cond .no .no)) (.seq (.blk (.seq (.reg [(3,kh19 k400),(5,.dat (.l 1 eStr (xs.set (i40).toNat (F19 k400))))]) (.reg [(1,.bnd)]))) (.reg [(1,.bnd)])))) i.2.1 i.2.2.1 i.2.2.2)))) (.seq .no .no))) Tryz.func10 (fun (hp:0≤k∧k+(a.length:Int)≤1000000000)=>have hpre0:=hp.1; have hpre1:=hp.2; kn a fun _=>kn a fun _=>ai (en10_0 a k (by refine ⟨?_,?_,?_,?_⟩ <;> first | omega | (simp only [lens,ib] at*<;> omega))) (fun (i0:Nat×(Int×Int×List ByteArray)) (hi0:Qas a k i0)=>(fun (m0:Nat) (k400:Int) (i40:Int) (xs:List ByteArray) (hh0:Ubm a k i0 m0 k400 i40 xs)=>have hI0:=hh0.1; have hl0:=hh0.2.1; have _:=hh0.2.2.1; have _:=hh0.2.2.2; ifd (i40<(xs.length:Int)) (fun h2 _=>kc19 k400 (by first | omega | (simp only [lens,ib] at*<;> omega)) (ai (by first | omega | (simp only [lens,ib] at*<;> omega):ib i40 xs) (ai (setr 1 eStr xs (i40).toNat (F19 k400)) (ai (iok (k400+1) (by first | omega | (simp only [lens,ib] at*<;> omega))) (ai (iok (i40+1) (by first | omega | (simp only [lens,ib] at*<;> omega))) (bk10_0 a k i0 m0 (k400+1) (i40+1) (xs.set (i40).toNat (F19 k400)) hl0 (Qe hI0 (condT h2 rfl)) (by refine ⟨?_,?_,?_,?_,?_⟩ <;> first | omega | (simp only [lens,ib] at*<;> omega)))))))) (fun h2 _=>have hD0_3:Qyz a k=Lp.done (k400,i40,xs):=Qj hI0 (condF h2 rfl); fi10 a k (k400,xs) (finD hD0_3 rfl))) (i0.1-1) i0.2.1 i0.2.2.1 i0.2.2.2 (un10_0 a k i0 hi0))) (by kernel_rfl)
theorem g10_0 (a:List ByteArray) (k:Int):(F10 a k).2.length=a.length:=by
 have h:=Yj (step:=Kr a k) (fun i (s:Int×List ByteArray)=>(s.1,(i:Int),s.2)) a.length (fun _ s=>s.2.length=a.length) (fun _=>False) (fun i s hi hs=>.inl ⟨(s.1+1,s.2.set i (F19 s.1)),by simp only [Kr,hs,decide_eq_true (show (i:Int)<(a.length:Int) by omega),cond_true,Int.toNat_natCast]; rfl,by simpa using hs⟩) (fun s hs=>by simp only [Kr,hs,decide_eq_false (show ¬ (a.length:Int)<(a.length:Int) by omega),cond_false]) a.length 0 (k,a) (by omega) rfl (Int.toNat ((a.length:Int)-0)+1) (by omega)
 show ((runL (Kr a k) (Int.toNat ((a.length:Int)-0)+1) (k,0,a)).fin (fun r=>r) (fun (k400,i40,xs)=>(k400,xs))).2.length=a.length
 rcases h with ⟨s,e,hs⟩ | ⟨r,_,hr⟩
 ·rw [show (k,(0:Int),a)=((k,a).1,((0:Nat):Int),(k,a).2) from rfl,e]; exact hs
 ·exact hr.elim
theorem Qie (a:List ByteArray) (k:Int):(F10 a k).1=k+(a.length:Int):=by
 have h:=Yj (step:=Kr a k) (fun i (s:Int×List ByteArray)=>(s.1,(i:Int),s.2)) a.length (fun i s=>s.2.length=a.length∧s.1=k+(i:Int)) (fun _=>False) (fun i s hi hs=>.inl ⟨(s.1+1,s.2.set i (F19 s.1)),by simp only [Kr,hs.1,decide_eq_true (show (i:Int)<(a.length:Int) by omega),cond_true,Int.toNat_natCast]; rfl,by
   refine ⟨by simpa using hs.1,?_⟩
   have:=hs.2
   show s.1+1=k+((i+1:Nat):Int)
   omega⟩) (fun s hs=>by simp only [Kr,hs.1,decide_eq_false (show ¬ (a.length:Int)<(a.length:Int) by omega),cond_false]) a.length 0 (k,a) (by omega) ⟨rfl,by simp⟩ (Int.toNat ((a.length:Int)-0)+1) (by omega)
 show ((runL (Kr a k) (Int.toNat ((a.length:Int)-0)+1) (k,0,a)).fin (fun r=>r) (fun (k400,i40,xs)=>(k400,xs))).1=k+(a.length:Int)
 rcases h with ⟨s,e,hs⟩ | ⟨r,_,hr⟩
 ·rw [show (k,(0:Int),a)=((k,a).1,((0:Nat):Int),(k,a).2) from rfl,e]; exact hs.2
 ·exact hr.elim
theorem Qhv {α:Type} (L:α→Nat) (c:Nat) (h:∀ x,L x=c):∀ xs:List α,sumL L xs=xs.length*c
 | []=>(Nat.zero_mul c).symm
 | x :: xs=>by rw [Vf,Qhv L c h xs,List.length_cons,Nat.add_one_mul,h x,Nat.add_comm]
end Go.Proofs.YtbaholefcgacpadGreatDoor
