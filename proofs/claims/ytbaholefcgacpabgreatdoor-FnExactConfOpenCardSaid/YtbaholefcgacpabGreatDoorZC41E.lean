/- A part of the proof of FnExactConfOpen. Texts put together: VCKC, VCKD, PCE0, PCE1, PCE2, PCHA, VCH, PCH, VSZ, PSZ, VMKO, PMKO, VOP0, POP0, VOP, POP, VOQ1, POQ1. -/
import Derived.Test.YtbaholefcgacpabGreatDoorRows
import Derived.Test.YtbaholefcgacpabGreatDoorZC41D
namespace Go.Proofs.YtbaholefcgacpabGreatDoor
open Go.RowKit
set_option maxRecDepth 100000
set_option linter.unusedVariables false
set_option linter.unusedSimpArgs false
def T66 (R:List Qb) (lines:List ByteArray):Spec:=⟨(S66 R lines).args,(S66 R lines).res,F27 lines=0∧lines.length≤16∧(∀ k:Nat,(lines.getD k default).size≤1048576)⟩
theorem oa66 (lines:List ByteArray):(T66 (Qo lines) lines).ok Tryz.prog 66 false:=by
 intro hp; have h:=ok66 lines hp; rw [as66 lines] at h; exact h
def T28 (R:List l52Cut) (lines:List ByteArray):Spec:=⟨(S28 R lines).args,(S28 R lines).res,lines.length≤16∧(∀ k:Nat,(lines.getD k default).size≤1048576)⟩
theorem oa28 (lines:List ByteArray):(T28 (lines.map (fun l=>(⟨(F48 l).1⟩:l52Cut))) lines).ok Tryz.prog 28:=by
 intro hp; have h:=ok28 lines hp; rw [as28 lines] at h; exact h
def F92 (p:Qb):Int :=
 (IntKind.i64.wrap ((IntKind.i64.wrap (p.Addr+(F105 p)))-1))
def S92 (p:Qb):Spec:=⟨[.r (.g (Qk p))],.v (vI (F92 p)),0≤p.Len∧p.Len≤16⟩
theorem ok92 (p:Qb):(S92 p).ok Tryz.prog 92 :=
 Qi mixed (fn:=Tryz.f92) (ct:=.seq .no (.seq (.reg [(3,kh105 p)]) .no)) Tryz.func92 (fun (hp:0≤p.Len∧p.Len≤16)=>have hpre0:=hp.1; have hpre1:=hp.2; kc105 p (by omega) (by omega) (by omega) (by omega) (fun gv1 gv2=>fiI (IntKind.i64.wrap ((IntKind.i64.wrap (p.Addr+(F105 p)))-1)) (F92 p) rfl)) (by kernel_rfl)
theorem kc92 (p:Qb) {K_:Prop} (p0_:0≤p.Len) (p1_:p.Len≤16) (k_:K_):(0≤p.Len∧p.Len≤16)∧(Imps (Qk p) (Qk p))∧K_:=⟨⟨p0_,p1_⟩,Imps.refl _,k_⟩
abbrev kh92 (p:Qb):Hint true Tryz.prog:=.call 92 (S92 p) (ok92 p) none
def F72 (p:Qb) (addr:Int):Bool :=
 (decide (p.Addr≤addr∧addr≤(F92 p)))
def S72 (p:Qb) (addr:Int):Spec:=⟨[.r (.g (Qk p)),.r (.c (.v (vI addr)))],.v (.bool (F72 p addr)),0≤p.Len∧p.Len≤16⟩
theorem ok72 (p:Qb) (addr:Int):(S72 p addr).ok Tryz.prog 72 :=
 Qi mixed (fn:=Tryz.f72) (ct:=.seq .no (.seq (.reg [(4,kh92 p),(5,Qpv addr p.Addr (F92 p))]) .no)) Tryz.func72 (fun (hp:0≤p.Len∧p.Len≤16)=>have hpre0:=hp.1; have hpre1:=hp.2; kc92 p (by omega) (by omega) (Qic addr p.Addr (F92 p) (fiB (decide (p.Addr≤addr∧addr≤(F92 p))) (F72 p addr) rfl))) (by kernel_rfl)
theorem kc72 (p:Qb) (addr:Int) {K_:Prop} (p0_:0≤p.Len) (p1_:p.Len≤16) (k_:K_):(0≤p.Len∧p.Len≤16)∧(Imps (Qk p) (Qk p))∧(Imp (.v (vI addr)) (.v (vI addr)))∧K_:=⟨⟨p0_,p1_⟩,Imps.refl _,Imp.refl _,k_⟩
theorem kg72 {K_:Prop} (c_ b_:Bool) (p:Qb) (addr:Int) (p_:c_=b_→0≤p.Len∧p.Len≤16) (k_:K_):(c_=b_→0≤p.Len∧p.Len≤16)∧(c_=b_→Imps (Qk p) (Qk p))∧(c_=b_→Imp (.v (vI addr)) (.v (vI addr)))∧K_:=⟨p_,fun _=>Imps.refl _,fun _=>Imp.refl _,k_⟩
abbrev kh72 (p:Qb) (addr:Int):Hint true Tryz.prog:=.call 72 (S72 p addr) (ok72 p addr) none
def F67 (p:Qb) (q:Qb):Bool :=
 (bif decide (q.Len≤p.Len) then (F72 q p.Addr) else false)
def S67 (p:Qb) (q:Qb):Spec:=⟨[.r (.g (Qk p)),.r (.g (Qk q))],.v (.bool (F67 p q)),0≤q.Len∧q.Len≤16⟩
theorem ok67 (p:Qb) (q:Qb):(S67 p q).ok Tryz.prog 67 :=
 Qi mixed (fn:=Tryz.f67) (ct:=.seq .no (.seq (.reg [(9,kh72 q p.Addr)]) .no)) Tryz.func67 (fun (hp:0≤q.Len∧q.Len≤16)=>have hpre0:=hp.1; have hpre1:=hp.2; kg72 (decide (q.Len≤p.Len)) true q p.Addr (fun k1=>have _:=of_decide_eq_true k1; ⟨(by omega),(by omega)⟩) (fiB (bif decide (q.Len≤p.Len) then (F72 q p.Addr) else false) (F67 p q) rfl)) (by kernel_rfl)
theorem kc66a (lines:List ByteArray) {K_:Prop} (p0_:F27 lines=0) (p1_:lines.length≤16) (p2_:∀ k:Nat,(lines.getD k default).size≤1048576) (k_:K_):(F27 lines=0∧lines.length≤16∧(∀ k:Nat,(lines.getD k default).size≤1048576))∧(Imp (.l 1 eStr lines) (.l 1 eStr lines))∧K_:=⟨⟨p0_,p1_,p2_⟩,Imp.refl _,k_⟩
abbrev kh66a (lines:List ByteArray):Hint false Tryz.prog:=.call 66 (T66 (Qo lines) lines) (oa66 lines) none
theorem kc67 (p:Qb) (q:Qb) {K_:Prop} (p0_:0≤q.Len) (p1_:q.Len≤16) (k_:K_):(0≤q.Len∧q.Len≤16)∧(Imps (Qk p) (Qk p))∧(Imps (Qk q) (Qk q))∧K_:=⟨⟨p0_,p1_⟩,Imps.refl _,Imps.refl _,k_⟩
abbrev kh67f (p:Qb) (q:Qb):Hint false Tryz.prog:=.call 67 (S67 p q) ((ok67 p q).to false) none
theorem kg67 {K_:Prop} (c_ b_:Bool) (p:Qb) (q:Qb) (p_:c_=b_→0≤q.Len∧q.Len≤16) (k_:K_):(c_=b_→0≤q.Len∧q.Len≤16)∧(c_=b_→Imps (Qk p) (Qk p))∧(c_=b_→Imps (Qk q) (Qk q))∧K_:=⟨p_,fun _=>Imps.refl _,fun _=>Imps.refl _,k_⟩
def Xm (lines:List ByteArray) (v12:Int):Int→Lp Int Bool:=fun v21 =>
 bif (decide (v21<(((Qo lines).take (Int.toNat v12)).length:Int))) then (bif (bif (F67 ((Qo lines).getD (Int.toNat v12) default) (((Qo lines).take (Int.toNat v12)).getD (Int.toNat v21) default)) then true else (F67 (((Qo lines).take (Int.toNat v12)).getD (Int.toNat v21) default) ((Qo lines).getD (Int.toNat v12) default))) then (.ret true) else (.next (v21+1))) else (.done v21)
def Bw (lines:List ByteArray):Int→Lp Int Bool:=fun v12 =>
 bif (decide (v12<((Qo lines).length:Int))) then ((runL (Xm lines v12) ((Int.toNat ((((Qo lines).take (Int.toNat v12)).length:Int)-0))+1) 0).fin Lp.ret (fun v21=>.next (v12+1))) else (.done v12)
def F38 (lines:List ByteArray):Bool :=
 (runL (Bw lines) ((Int.toNat (((Qo lines).length:Int)-0))+1) 0).fin (fun r=>r) (fun v12=>false)
abbrev Qaj (lines:List ByteArray) (v12:Int):Nat×Int:=(((Int.toNat ((((Qo lines).take (Int.toNat v12)).length:Int)-0))+1),0)
abbrev Qmp (lines:List ByteArray) (v12:Int) (m39:Nat) (v21:Int):Prop:=Int.toNat ((((Qo lines).take (Int.toNat v12)).length:Int)-v21)<m39∧(0:Int)≤v21
abbrev Qxt (lines:List ByteArray) (v12:Int):Lp Int Bool:=LpX (Xm lines v12) (Qaj lines v12)
abbrev Ed (lines:List ByteArray) (v12:Int) (i:Nat×Int):Prop:=LpJ (Xm lines v12) (Qaj lines v12) i (Qmp lines v12 i.1 i.2)
abbrev Qyc (lines:List ByteArray) (v12:Int) (i:Nat×Int) (m39:Nat) (v21:Int):Prop:=LpH (Xm lines v12) (Qaj lines v12) i m39 v21 (Qmp lines v12 (m39+1) v21)
abbrev Ucq (lines:List ByteArray) (v12:Int) (v21:Int) (v21_:Int) (K39:Prop):Prop:=(Rf (.int .i64 ((Qo lines).length:Int)))∧(Rf (.int .i64 v12))∧(Rf (.int .i64 (((Qo lines).take (Int.toNat v12)).length:Int)))∧((.int .i64 v21:Value)=.int .i64 v21_)∧(Im (.l 2 Qk (Qo lines)))∧(Rf (.int .i64 ((Qo lines).getD (Int.toNat v12) default).Addr))∧(Rf (.int .i64 ((Qo lines).getD (Int.toNat v12) default).Len))∧(Im (.l 2 Qk ((Qo lines).take (Int.toNat v12))))∧K39
theorem un38_1 (lines:List ByteArray) (v12:Int) (i:Nat×Int) (h:Ed lines v12 i):Qyc lines v12 i (i.1-1) i.2:=⟨hd1 h.1 h.2.1,hd3 h.2.1,hd2 h.2.1,h.2.2⟩
theorem bk38_1 (lines:List ByteArray) (v12:Int) (i:Nat×Int) (m39:Nat) (v21:Int) (hl:m39<i.1) (e:runL (Xm lines v12) m39 v21=Qxt lines v12) (h:Qmp lines v12 m39 v21):∃ j:Nat×Int,Ucq lines v12 v21 j.2 (Ed lines v12 j∧j.1<i.1):=⟨(m39,v21),rfl,rfl,rfl,rfl,Imp.refl _,rfl,rfl,Imp.refl _,⟨e,h⟩,hl⟩
theorem en38_1 (lines:List ByteArray) (v12:Int) (h:(0:Int)≤0):Ucq lines v12 0 0 (Ed lines v12 (Qaj lines v12)):=⟨rfl,rfl,rfl,rfl,Imp.refl _,rfl,rfl,Imp.refl _,rfl,Nat.lt_succ_self _,h⟩
abbrev Ep (lines:List ByteArray):Nat×Int:=(((Int.toNat (((Qo lines).length:Int)-0))+1),0)
abbrev Qna (lines:List ByteArray) (m39:Nat) (v12:Int):Prop:=Int.toNat (((Qo lines).length:Int)-v12)<m39∧(0:Int)≤v12
abbrev Qwr (lines:List ByteArray):Lp Int Bool:=LpX (Bw lines) (Ep lines)
abbrev Qcx (lines:List ByteArray) (i:Nat×Int):Prop:=LpJ (Bw lines) (Ep lines) i (Qna lines i.1 i.2)
abbrev Qyl (lines:List ByteArray) (i:Nat×Int) (m39:Nat) (v12:Int):Prop:=LpH (Bw lines) (Ep lines) i m39 v12 (Qna lines (m39+1) v12)
abbrev Qxp (lines:List ByteArray) (v12:Int) (v12_:Int) (K39:Prop):Prop:=(Rf (.int .i64 ((Qo lines).length:Int)))∧((.int .i64 v12:Value)=.int .i64 v12_)∧(Im (.l 2 Qk (Qo lines)))∧K39
theorem un38_0 (lines:List ByteArray) (i:Nat×Int) (h:Qcx lines i):Qyl lines i (i.1-1) i.2:=⟨hd1 h.1 h.2.1,hd3 h.2.1,hd2 h.2.1,h.2.2⟩
theorem bk38_0 (lines:List ByteArray) (i:Nat×Int) (m39:Nat) (v12:Int) (hl:m39<i.1) (e:runL (Bw lines) m39 v12=Qwr lines) (h:Qna lines m39 v12):∃ j:Nat×Int,Qxp lines v12 j.2 (Qcx lines j∧j.1<i.1):=⟨(m39,v12),rfl,rfl,Imp.refl _,⟨e,h⟩,hl⟩
theorem en38_0 (lines:List ByteArray) (h:(0:Int)≤0):Qxp lines 0 0 (Qcx lines (Ep lines)):=⟨rfl,rfl,Imp.refl _,rfl,Nat.lt_succ_self _,h⟩
def S38 (lines:List ByteArray):Spec:=⟨[.r (.c (.l 1 eStr lines))],.v (.bool (F38 lines)),F27 lines=0∧lines.length≤16∧(∀ k:Nat,(lines.getD k default).size≤1048576)⟩
abbrev Qcv (lines:List ByteArray) (v12:Int) (v21:Int):=(((Qo lines).take (Int.toNat v12)).getD (Int.toNat v21) default)
abbrev Lk (lines:List ByteArray) (v12:Int):=((Qo lines).getD (Int.toNat v12) default)
theorem ok38 (lines:List ByteArray):(S38 lines).ok Tryz.prog 38 false :=
 Qi mixed (fn:=Tryz.f38) (ct:=.seqk [(0,0)] .no (.seq (.reg [(1,kh66a lines)]) (.seq (.seqk [(3,0),(10,0)] .no (.blk (.loop (ι:=Nat×Int) (fun i=>(fun (v12:Int)=>(⟨[(3,some (.h 0 0)),(10,some (.h 0 0)),(11,some (.v (vI ((Qo lines).length:Int)))),(12,some (.v (vI v12)))],[(0,some (.own 0 (.l 2 Qk (Qo lines))))],1⟩:St)) i.2) (Qcx lines) (fun i=>i.1) (Ep lines) (fun i=>(fun (v12:Int)=>(.seq .no (.seq (.cond .no .no) (.seq (.blk (.seq .no (.seqk [(19,0)] .no (.blk (.loop (ι:=Nat×Int) (fun i=>(fun (v21:Int)=>(⟨[(3,some (.h 0 0)),(5,some (.p 1 0)),(10,some (.h 0 0)),(11,some (.v (vI ((Qo lines).length:Int)))),(12,some (.v (vI v12))),(19,some (.h 2 0)),(20,some (.v (vI (((Qo lines).take (Int.toNat v12)).length:Int)))),(21,some (.v (vI v21)))],[(0,some (.own 0 (.l 2 Qk (Qo lines)))),(1,some (.box 83 [.v (vI (Lk lines v12).Addr),.v (vI (Lk lines v12).Len)])),(2,some (.shr (some (0,0)) (.l 2 Qk ((Qo lines).take (Int.toNat v12)))))],3⟩:St)) i.2) (Ed lines v12) (fun i=>i.1) (Qaj lines v12) (fun i=>(fun (v21:Int)=>(.seq .no (.seq (.cond .no .no) (.seq (.blk (.seq .no (.seq (.reg [(2,kh67f (Lk lines v12) (Qcv lines v12 v21)),(6,kh67f (Qcv lines v12 v21) (Lk lines v12))]) (.cond (.seq .no .no) .no)))) (.reg [(0,.bnd)]))))) i.2)))))) (.reg [(0,.bnd)]))))) i.2)))) (.seq .no .no)))) Tryz.func38 (fun (hp:F27 lines=0∧lines.length≤16∧(∀ k:Nat,(lines.getD k default).size≤1048576))=>have hpre0:=hp.1; have hpre1:=hp.2.1; have hpre2:=hp.2.2; kn lines fun _=>kc66a lines (by first | omega | (simp only [lens,ib] at*<;> omega)) (by first | omega | (simp only [lens,ib] at*<;> omega)) (by first | assumption | exact hpre2 _ | exact fun k _=>hpre2 k | (intros; exact trivial) | (intros; exact Nat.zero_le _)) (kn (Qo lines) fun _=>kn (Qo lines) fun _=>ai (en38_0 lines (by first | omega | (simp only [lens,ib] at*<;> omega))) (fun (i0:Nat×Int) (hi0:Qcx lines i0)=>(fun (m0:Nat) (v12:Int) (hh0:Qyl lines i0 m0 v12)=>have hI0:=hh0.1; have hl0:=hh0.2.1; have _:=hh0.2.2.1; have _:=hh0.2.2.2; ifd (v12<((Qo lines).length:Int)) (fun h2 _=>ai (by first | omega | (simp only [lens,ib] at*<;> omega):ib v12 (Qo lines)) (ai (by first | omega | (simp only [lens,ib] at*<;> omega):0≤(0:Int)∧(0:Int)≤v12∧v12≤((Qo lines).length:Int)) (kn ((Qo lines).take (Int.toNat v12)) fun _=>ai (en38_1 lines v12 (by first | omega | (simp only [lens,ib] at*<;> omega))) (fun (i1:Nat×Int) (hi1:Ed lines v12 i1)=>(fun (m1:Nat) (v21:Int) (hh1:Qyc lines v12 i1 m1 v21)=>have hI1:=hh1.1; have hl1:=hh1.2.1; have _:=hh1.2.2.1; have _:=hh1.2.2.2; ifd (v21<(((Qo lines).take (Int.toNat v12)).length:Int)) (fun h4 _=>ai (by first | omega | (simp only [lens,ib] at*<;> omega):ib v21 ((Qo lines).take (Int.toNat v12))) (kc67 (Lk lines v12) (Qcv lines v12 v21) (by first | omega | exact (Zw lines _).1 | exact (Zw lines _).2 | exact (Zp lines _ _).1 | exact (Zp lines _ _).2) (by first | omega | exact (Zw lines _).1 | exact (Zw lines _).2 | exact (Zp lines _ _).1 | exact (Zp lines _ _).2) (kg67 (F67 (Lk lines v12) (Qcv lines v12 v21)) false (Qcv lines v12 v21) (Lk lines v12) (fun k5=>⟨(by first | omega | exact (Zw lines _).1 | exact (Zw lines _).2 | exact (Zp lines _ _).1 | exact (Zp lines _ _).2),(by first | omega | exact (Zw lines _).1 | exact (Zw lines _).2 | exact (Zp lines _ _).1 | exact (Zp lines _ _).2)⟩) (ifb (bif (F67 (Lk lines v12) (Qcv lines v12 v21)) then true else (F67 (Qcv lines v12 v21) (Lk lines v12))) (fun h6=>fiB true (F38 lines) (finR (Qp hI0 (condT h2 (finR (Qp hI1 (condT h4 (condT h6 rfl))) rfl))) rfl)) (fun h6=>ai (iok (v21+1) (by first | omega | (simp only [lens,ib] at*<;> omega))) (bk38_1 lines v12 i1 m1 (v21+1) hl1 (Qg hI1 (condT h4 (condF h6 rfl))) (by refine ⟨?_,?_⟩ <;> first | omega | (simp only [lens,ib] at*<;> omega)))))))) (fun h4 _=>have hD1_7:Qxt lines v12=Lp.done v21:=Qj hI1 (condF h4 rfl); ai (iok (v12+1) (by first | omega | (simp only [lens,ib] at*<;> omega))) (bk38_0 lines i0 m0 (v12+1) hl0 (Qg hI0 (condT h2 (finD hD1_7 rfl))) (by refine ⟨?_,?_⟩ <;> first | omega | (simp only [lens,ib] at*<;> omega))))) (i1.1-1) i1.2 (un38_1 lines v12 i1 hi1))))) (fun h2 _=>have hD0_8:Qwr lines=Lp.done v12:=Qj hI0 (condF h2 rfl); fiB false (F38 lines) (finD hD0_8 rfl))) (i0.1-1) i0.2 (un38_0 lines i0 hi0)))) (by kernel_rfl)
def F71 (p:Qb) (p1:Int):Bool :=
 (bif (F72 p p1) then (p.Addr != p1) else false)
def S71 (p:Qb) (p1:Int):Spec:=⟨[.r (.g (Qk p)),.rp ([.v (vI p1)])],.v (.bool (F71 p p1)),0≤p.Len∧p.Len≤16⟩
theorem ok71 (p:Qb) (p1:Int):(S71 p p1).ok Tryz.prog 71 :=
 Qi mixed (fn:=Tryz.f71) (ct:=.seq .no (.seq (.reg [(2,kh72 p p1)]) .no)) Tryz.func71 (fun (hp:0≤p.Len∧p.Len≤16)=>have hpre0:=hp.1; have hpre1:=hp.2; kc72 p p1 (by omega) (by omega) (fiB (bif (F72 p p1) then (p.Addr != p1) else false) (F71 p p1) rfl)) (by kernel_rfl)
def Xx (Q:Qb→Prop) (p:Qb→Bool):Yk:=⟨Qb,fun i=>[.g (pxH (Qk i) (Q i))],fun i=>.bool (p i)⟩
def My (s:List Qb) (f:Qb→Bool):Int→Lp Int Int:=fun v8 =>
 bif (decide (v8<(s.length:Int))) then (bif (f (s.getD (Int.toNat v8) default)) then (.ret v8) else (.next (v8+1))) else (.done v8)
def F91 (s:List Qb) (f:Qb→Bool):Int :=
 (runL (My s f) ((Int.toNat ((s.length:Int)-0))+1) 0).fin (fun r=>r) (fun v8=>(-1))
abbrev Td (s:List Qb):Nat×Int:=(((Int.toNat ((s.length:Int)-0))+1),0)
abbrev Qlg (s:List Qb) (m39:Nat) (v8:Int):Prop:=Int.toNat ((s.length:Int)-v8)<m39∧(0:Int)≤v8
abbrev Qvp (s:List Qb) (f:Qb→Bool):Lp Int Int:=LpX (My s f) (Td s)
abbrev Qdc (s:List Qb) (f:Qb→Bool) (i:Nat×Int):Prop:=LpJ (My s f) (Td s) i (Qlg s i.1 i.2)
abbrev Uak (s:List Qb) (f:Qb→Bool) (i:Nat×Int) (m39:Nat) (v8:Int):Prop:=LpH (My s f) (Td s) i m39 v8 (Qlg s (m39+1) v8)
abbrev Qum (Qf:Qb→Prop) (s:List Qb) (f:Qb→Bool) (v8:Int) (v8_:Int) (K39:Prop):Prop:=(Rf (.int .i64 (s.length:Int)))∧((.int .i64 v8:Value)=.int .i64 v8_)∧(Im (.l 2 Qk s))∧(Xx Qf f=Xx Qf f)∧K39
theorem un91_0 (s:List Qb) (f:Qb→Bool) (i:Nat×Int) (h:Qdc s f i):Uak s f i (i.1-1) i.2:=⟨hd1 h.1 h.2.1,hd3 h.2.1,hd2 h.2.1,h.2.2⟩
theorem bk91_0 (Qf:Qb→Prop) (s:List Qb) (f:Qb→Bool) (i:Nat×Int) (m39:Nat) (v8:Int) (hl:m39<i.1) (e:runL (My s f) m39 v8=Qvp s f) (h:Qlg s m39 v8):∃ j:Nat×Int,Qum Qf s f v8 j.2 (Qdc s f j∧j.1<i.1):=⟨(m39,v8),rfl,rfl,Imp.refl _,rfl,⟨e,h⟩,hl⟩
theorem en91_0 (Qf:Qb→Prop) (s:List Qb) (f:Qb→Bool) (h:(0:Int)≤0):Qum Qf s f 0 0 (Qdc s f (Td s)):=⟨rfl,rfl,Imp.refl _,rfl,rfl,Nat.lt_succ_self _,h⟩
def S91 (R:Int) (s:List Qb) (f:Qb→Bool) (Qf:Qb→Prop):Spec:=⟨[.r (.c (.l 2 Qk s)),.fn (Xx Qf f)],.v (vI R),(∀ k:Nat,k<s.length→Qf (s.getD k default))⟩
theorem ok91 (s:List Qb) (f:Qb→Bool) (Qf:Qb→Prop):(S91 (F91 s f) s f Qf).ok Tryz.prog 91 false :=
 Qi mixed (fn:=Tryz.f91) (ct:=.seqk [(0,0)] .no (.seq (.seqk [(0,0)] .no (.blk (.loop (ι:=Nat×Int) (fun i=>(fun (v8:Int)=>(⟨[(0,some (.h 0 0)),(1,some (.h 1 0)),(7,some (.v (vI (s.length:Int)))),(8,some (.v (vI v8)))],[(0,some (.shr none (.l 2 Qk s))),(1,some (.fn (Xx Qf f)))],2⟩:St)) i.2) (Qdc s f) (fun i=>i.1) (Td s) (fun i=>(fun (v8:Int)=>(.seq .no (.seq (.cond .no .no) (.seq (.blk (.seq .no (.seq (.reg [(5,.fnv (Xx Qf f) (s.getD (Int.toNat v8) default))]) (.cond (.seq .no .no) .no)))) (.reg [(0,.bnd)]))))) i.2)))) (.seq .no .no))) Tryz.func91 (fun (hpre0:∀ k:Nat,k<s.length→Qf (s.getD k default))=>kn s fun _=>kn s fun _=>ai (en91_0 Qf s f (by omega)) (fun (i0:Nat×Int) (hi0:Qdc s f i0)=>(fun (m0:Nat) (v8:Int) (hh0:Uak s f i0 m0 v8)=>have hI0:=hh0.1; have hl0:=hh0.2.1; have _:=hh0.2.2.1; have _:=hh0.2.2.2; ifd (v8<(s.length:Int)) (fun h2 _=>ai (by omega:ib v8 s) (ai (Eq.refl (Xx Qf f)) (ai (Imps.pxH (ds:=Qk (s.getD (Int.toNat v8) default)) (hpre0 (Int.toNat v8) (by omega))) (ifb (f (s.getD (Int.toNat v8) default)) (fun h3=>fiI v8 (F91 s f) (finR (Qp hI0 (condT h2 (condT h3 rfl))) rfl)) (fun h3=>ai (iok (v8+1) (by omega)) (bk91_0 Qf s f i0 m0 (v8+1) hl0 (Qg hI0 (condT h2 (condF h3 rfl))) (by refine ⟨?_,?_⟩ <;> omega))))))) (fun h2 _=>have hD0_4:Qvp s f=Lp.done v8:=Qj hI0 (condF h2 rfl); fiI (-1) (F91 s f) (finD hD0_4 rfl))) (i0.1-1) i0.2 (un91_0 s f i0 hi0))) (by kernel_rfl)
theorem as91 (s:List Qb) (f:Qb→Bool):F91 s f=(idxI f s):=by
 exact Vf f s (My s f) (fun i=>rfl)
theorem oa91 (s:List Qb) (f:Qb→Bool) (Qf:Qb→Prop):(S91 (idxI f s) s f Qf).ok Tryz.prog 91 false:=by
 intro hp; have h:=ok91 s f Qf hp; rw [as91 s f] at h; exact h
theorem g91_0 (s:List Qb) (f:Qb→Bool):(idxI f s)<(s.length:Int):=by
 exact Mb f s
theorem g91_1 (s:List Qb) (f:Qb→Bool):-1≤(idxI f s):=by
 (show -1≤idxI f s; unfold idxI; cases first (fun k=>f (s.getD k default)) s.length <;> simp only [oix] <;> omega)
theorem kc91a (s:List Qb) (f:Qb→Bool) (Qf:Qb→Prop) {K_:Prop} (p0_:∀ k:Nat,k<s.length→Qf (s.getD k default)) (k_:((idxI f s)<(s.length:Int))→(-1≤(idxI f s))→K_):(∀ k:Nat,k<s.length→Qf (s.getD k default))∧(Imp (.l 2 Qk s) (.l 2 Qk s))∧(Xx Qf f=Xx Qf f)∧K_:=⟨p0_,Imp.refl _,rfl,k_ (g91_0 s f) (g91_1 s f)⟩
abbrev kh91a (s:List Qb) (f:Qb→Bool) (Qf:Qb→Prop):Hint false Tryz.prog:=.call 91 (S91 (idxI f s) s f Qf) (oa91 s f Qf) none
def F70 (s:List Qb) (f:Qb→Bool):Bool :=
 decide ((idxI f s)≥0)
def S70 (R:Bool) (s:List Qb) (f:Qb→Bool) (Qf:Qb→Prop):Spec:=⟨[.r (.c (.l 2 Qk s)),.fn (Xx Qf f)],.v (.bool R),(∀ k:Nat,k<s.length→Qf (s.getD k default))⟩
theorem ok70 (s:List Qb) (f:Qb→Bool) (Qf:Qb→Prop):(S70 (F70 s f) s f Qf).ok Tryz.prog 70 false :=
 Qi mixed (fn:=Tryz.f70) (ct:=.seqk [(0,0)] .no (.seq (.reg [(2,kh91a s f Qf)]) .no)) Tryz.func70 (fun (hpre0:∀ k:Nat,k<s.length→Qf (s.getD k default))=>kn s fun _=>kc91a s f Qf (by assumption) (fun gv1 gv2=>fiB (decide ((idxI f s)≥0)) (F70 s f) rfl)) (by kernel_rfl)
theorem as70 (s:List Qb) (f:Qb→Bool):F70 s f=(s.any f):=by
 exact Rb f s
theorem oa70 (s:List Qb) (f:Qb→Bool) (Qf:Qb→Prop):(S70 (s.any f) s f Qf).ok Tryz.prog 70 false:=by
 intro hp; have h:=ok70 s f Qf hp; rw [as70 s f] at h; exact h
def F68 (text:ByteArray) (p1:List Qb):Bool :=
 (!(p1.any (fun (x0:Qb)=>F71 x0 (F69 text))))
def S68 (text:ByteArray) (p1:List Qb):Spec:=⟨[.r (.c (.v (.string text))),.rp ([.l 2 Qk p1])],.v (.bool (F68 text p1)),text.size≤1048576∧(∀ k:Nat,0≤(p1.getD k default).Len∧(p1.getD k default).Len≤16)⟩
theorem ok68 (text:ByteArray) (p1:List Qb):(S68 text p1).ok Tryz.prog 68 false :=
 Qi mixed (fn:=Tryz.f68) (ct:=.seq .no (.seq (.reg [(1,kh69 text)]) (.seq (.reg [(2,.call 70 (S70 (p1.any (fun (x0:Qb)=>F71 x0 (F69 text))) p1 (fun (x0:Qb)=>F71 x0 (F69 text)) (fun (x0:Qb)=>0≤x0.Len∧x0.Len≤16)) (oa70 p1 (fun (x0:Qb)=>F71 x0 (F69 text)) (fun (x0:Qb)=>0≤x0.Len∧x0.Len≤16)) (some ⟨true,71,Xx (fun (x0:Qb)=>0≤x0.Len∧x0.Len≤16) (fun (x0:Qb)=>F71 x0 (F69 text)),[.rp ([.v (vI (F69 text))])],rfl,True,fun i=>Ubk (ok71 i (F69 text))⟩))]) .no))) Tryz.func68 (fun (hp:text.size≤1048576∧(∀ k:Nat,0≤(p1.getD k default).Len∧(p1.getD k default).Len≤16))=>have hpre0:=hp.1; have hpre1:=hp.2; kc69 text (by omega) (ai (by exact fun k _=>hpre1 k:∀ k:Nat,k<p1.length→(fun (x0:Qb)=>0≤x0.Len∧x0.Len≤16) (p1.getD k default)) (ai (Imp.refl (.l 2 Qk p1)) (ai (Eq.refl (Xx (fun (x0:Qb)=>0≤x0.Len∧x0.Len≤16) (fun (x0:Qb)=>F71 x0 (F69 text)))) (ai trivial (ai (Imps.refl [.v (vI (F69 text))]) (fiB (!(p1.any (fun (x0:Qb)=>F71 x0 (F69 text)))) (F68 text p1) rfl))))))) (by kernel_rfl)
def Ga (lines:List ByteArray):(List ByteArray×Int)→Lp (List ByteArray×Int) Bool:=fun (addrs1,v13) =>
 bif (decide (v13<((Qa lines (⟨#[114,111,117,116,101]⟩:ByteArray)).length:Int))) then (.next ((addrs1++[(((Qa lines (⟨#[114,111,117,116,101]⟩:ByteArray)).getD (Int.toNat v13) default).getD (Int.toNat 2) default)]),(v13+1))) else (.done (addrs1,v13))
def Nm (lines:List ByteArray):Lp (List ByteArray) Bool :=
 (runL (Ga lines) ((Int.toNat (((Qa lines (⟨#[114,111,117,116,101]⟩:ByteArray)).length:Int)-0))+1) (([]:List ByteArray),0)).fin Lp.ret (fun (addrs1,v13)=>.done addrs1)
def Gf (lines:List ByteArray) (addrs:List ByteArray):(List ByteArray×Int)→Lp (List ByteArray×Int) Bool:=fun (addrs3,v27) =>
 bif (decide (v27<((Qa lines (⟨#[112,101,101,114]⟩:ByteArray)).length:Int))) then (.next ((addrs3++[(((Qa lines (⟨#[112,101,101,114]⟩:ByteArray)).getD (Int.toNat v27) default).getD (Int.toNat 1) default)]),(v27+1))) else (.done (addrs3,v27))
def Hk (lines:List ByteArray) (addrs:List ByteArray):Lp (List ByteArray) Bool :=
 (runL (Gf lines addrs) ((Int.toNat (((Qa lines (⟨#[112,101,101,114]⟩:ByteArray)).length:Int)-0))+1) (addrs,0)).fin Lp.ret (fun (addrs3,v27)=>.done addrs3)
def F39 (lines:List ByteArray):Bool :=
 (Nm lines).fin (fun r=>r) (fun addrs=>(Hk lines addrs).fin (fun r=>r) (fun addrs2=>(addrs2.any (fun (x0:ByteArray)=>F68 x0 (Qo lines)))))
abbrev Qat (lines:List ByteArray):Nat×(List ByteArray×Int):=(((Int.toNat (((Qa lines (⟨#[114,111,117,116,101]⟩:ByteArray)).length:Int)-0))+1),(([]:List ByteArray),0))
abbrev Qlv (lines:List ByteArray) (m39:Nat) (addrs1:List ByteArray) (v13:Int):Prop:=Int.toNat (((Qa lines (⟨#[114,111,117,116,101]⟩:ByteArray)).length:Int)-v13)<m39∧(addrs1.length:Int)≤v13∧v13≤((Qa lines (⟨#[114,111,117,116,101]⟩:ByteArray)).length:Int)∧(∀ k:Nat,(addrs1.getD k default).size≤1048576)∧(0:Int)≤v13
abbrev Ubw (lines:List ByteArray):Lp (List ByteArray×Int) Bool:=LpX (Ga lines) (Qat lines)
abbrev Ta (lines:List ByteArray) (i:Nat×(List ByteArray×Int)):Prop:=LpJ (Ga lines) (Qat lines) i (Qlv lines i.1 i.2.1 i.2.2)
abbrev Uce (lines:List ByteArray) (i:Nat×(List ByteArray×Int)) (m39:Nat) (addrs1:List ByteArray) (v13:Int):Prop:=LpH (Ga lines) (Qat lines) i m39 (addrs1,v13) (Qlv lines (m39+1) addrs1 v13)
abbrev Qyh (lines:List ByteArray) (addrs1:List ByteArray) (v13:Int) (addrs1_:List ByteArray) (v13_:Int) (K39:Prop):Prop:=(Rf (.int .i64 ((Qa lines (⟨#[114,111,117,116,101]⟩:ByteArray)).length:Int)))∧((.int .i64 v13:Value)=.int .i64 v13_)∧(Im (.l 1 eStr lines))∧(Imp (.l 1 eStr addrs1) (.l 1 eStr addrs1_))∧(Im (.l 1 (eL 1 eStr) (Qa lines (⟨#[114,111,117,116,101]⟩:ByteArray))))∧K39
theorem un39_0 (lines:List ByteArray) (i:Nat×(List ByteArray×Int)) (h:Ta lines i):Uce lines i (i.1-1) i.2.1 i.2.2:=⟨hd1 h.1 h.2.1,hd3 h.2.1,hd2 h.2.1,h.2.2⟩
theorem bk39_0 (lines:List ByteArray) (i:Nat×(List ByteArray×Int)) (m39:Nat) (addrs1:List ByteArray) (v13:Int) (hl:m39<i.1) (e:runL (Ga lines) m39 (addrs1,v13)=Ubw lines) (h:Qlv lines m39 addrs1 v13):∃ j:Nat×(List ByteArray×Int),Qyh lines addrs1 v13 j.2.1 j.2.2 (Ta lines j∧j.1<i.1):=⟨(m39,(addrs1,v13)),rfl,rfl,Imp.refl _,Imp.refl _,Imp.refl _,⟨e,h⟩,hl⟩
theorem en39_0 (lines:List ByteArray) (h:(([]:List ByteArray).length:Int)≤0∧0≤((Qa lines (⟨#[114,111,117,116,101]⟩:ByteArray)).length:Int)∧(∀ k:Nat,(([]:List ByteArray).getD k default).size≤1048576)∧(0:Int)≤0):Qyh lines ([]:List ByteArray) 0 ([]:List ByteArray) 0 (Ta lines (Qat lines)):=⟨rfl,rfl,Imp.refl _,Imp.refl _,Imp.refl _,rfl,Nat.lt_succ_self _,h⟩
abbrev Qnj (lines:List ByteArray) (addrs:List ByteArray):Prop:=(addrs.length:Int)≤16∧(∀ k:Nat,(addrs.getD k default).size≤1048576)
abbrev Qoj (lines:List ByteArray) (j:List ByteArray):Prop:=(Nm lines)=Lp.done j∧Qnj lines j
theorem jn39_0 (lines:List ByteArray) (addrs:List ByteArray) (e:(Nm lines)=Lp.done addrs) (h:Qnj lines addrs):∃ j:List ByteArray,(Imp (.l 1 eStr lines) (.l 1 eStr lines))∧(Imp (.l 1 eStr addrs) (.l 1 eStr j))∧Qoj lines j:=⟨addrs,Imp.refl _,Imp.refl _,e,h⟩
abbrev Qcs (lines:List ByteArray) (addrs:List ByteArray):Nat×(List ByteArray×Int):=(((Int.toNat (((Qa lines (⟨#[112,101,101,114]⟩:ByteArray)).length:Int)-0))+1),(addrs,0))
abbrev Qkp (lines:List ByteArray) (m39:Nat) (addrs3:List ByteArray) (v27:Int):Prop:=Int.toNat (((Qa lines (⟨#[112,101,101,114]⟩:ByteArray)).length:Int)-v27)<m39∧(addrs3.length:Int)≤16+v27∧v27≤((Qa lines (⟨#[112,101,101,114]⟩:ByteArray)).length:Int)∧(∀ k:Nat,(addrs3.getD k default).size≤1048576)∧(0:Int)≤v27
abbrev Ubh (lines:List ByteArray) (addrs:List ByteArray):Lp (List ByteArray×Int) Bool:=LpX (Gf lines addrs) (Qcs lines addrs)
abbrev Tl (lines:List ByteArray) (addrs:List ByteArray) (i:Nat×(List ByteArray×Int)):Prop:=LpJ (Gf lines addrs) (Qcs lines addrs) i (Qkp lines i.1 i.2.1 i.2.2)
abbrev Uan (lines:List ByteArray) (addrs:List ByteArray) (i:Nat×(List ByteArray×Int)) (m39:Nat) (addrs3:List ByteArray) (v27:Int):Prop:=LpH (Gf lines addrs) (Qcs lines addrs) i m39 (addrs3,v27) (Qkp lines (m39+1) addrs3 v27)
abbrev Qtz (lines:List ByteArray) (addrs3:List ByteArray) (v27:Int) (addrs3_:List ByteArray) (v27_:Int) (K39:Prop):Prop:=(Rf (.int .i64 ((Qa lines (⟨#[112,101,101,114]⟩:ByteArray)).length:Int)))∧((.int .i64 v27:Value)=.int .i64 v27_)∧(Im (.l 1 eStr lines))∧(Imp (.l 1 eStr addrs3) (.l 1 eStr addrs3_))∧(Im (.l 1 (eL 1 eStr) (Qa lines (⟨#[112,101,101,114]⟩:ByteArray))))∧K39
theorem un39_1 (lines:List ByteArray) (addrs:List ByteArray) (i:Nat×(List ByteArray×Int)) (h:Tl lines addrs i):Uan lines addrs i (i.1-1) i.2.1 i.2.2:=⟨hd1 h.1 h.2.1,hd3 h.2.1,hd2 h.2.1,h.2.2⟩
theorem bk39_1 (lines:List ByteArray) (addrs:List ByteArray) (i:Nat×(List ByteArray×Int)) (m39:Nat) (addrs3:List ByteArray) (v27:Int) (hl:m39<i.1) (e:runL (Gf lines addrs) m39 (addrs3,v27)=Ubh lines addrs) (h:Qkp lines m39 addrs3 v27):∃ j:Nat×(List ByteArray×Int),Qtz lines addrs3 v27 j.2.1 j.2.2 (Tl lines addrs j∧j.1<i.1):=⟨(m39,(addrs3,v27)),rfl,rfl,Imp.refl _,Imp.refl _,Imp.refl _,⟨e,h⟩,hl⟩
theorem en39_1 (lines:List ByteArray) (addrs:List ByteArray) (h:(addrs.length:Int)≤16+0∧0≤((Qa lines (⟨#[112,101,101,114]⟩:ByteArray)).length:Int)∧(∀ k:Nat,(addrs.getD k default).size≤1048576)∧(0:Int)≤0):Qtz lines addrs 0 addrs 0 (Tl lines addrs (Qcs lines addrs)):=⟨rfl,rfl,Imp.refl _,Imp.refl _,Imp.refl _,rfl,Nat.lt_succ_self _,h⟩
abbrev Qmr (lines:List ByteArray) (addrs:List ByteArray) (addrs2:List ByteArray):Prop:=(addrs2.length:Int)≤32∧(∀ k:Nat,(addrs2.getD k default).size≤1048576)
abbrev Qob (lines:List ByteArray) (addrs:List ByteArray) (j:List ByteArray):Prop:=(Hk lines addrs)=Lp.done j∧Qmr lines addrs j
theorem jn39_1 (lines:List ByteArray) (addrs:List ByteArray) (addrs2:List ByteArray) (e:(Hk lines addrs)=Lp.done addrs2) (h:Qmr lines addrs addrs2):∃ j:List ByteArray,(Imp (.l 1 eStr lines) (.l 1 eStr lines))∧(Imp (.l 1 eStr addrs2) (.l 1 eStr j))∧Qob lines addrs j:=⟨addrs2,Imp.refl _,Imp.refl _,e,h⟩
def S39 (lines:List ByteArray):Spec:=⟨[.r (.c (.l 1 eStr lines))],.v (.bool (F39 lines)),F27 lines=0∧lines.length≤16∧(∀ k:Nat,(lines.getD k default).size≤1048576)⟩
theorem ok39 (lines:List ByteArray):(S39 lines).ok Tryz.prog 39 false :=
 Qi mixed (fn:=Tryz.f39) (ct:=.seqk [(0,0)] .no (.seq (.reg [(0,.dat (.l 1 eStr ([]:List ByteArray)))]) (.cut (ι:=List ByteArray) (fun j=>(fun (addrs:List ByteArray)=>(⟨[(0,some (.h 0 0)),(3,some (.h 1 0))],[(0,some (.shr none (.l 1 eStr lines))),(1,some (.own 1 (.l 1 eStr addrs)))],2⟩:St)) j) (Qoj lines) (.seqk [(3,0),(11,0)] (.reg [(1,Bc lines (⟨#[114,111,117,116,101]⟩:ByteArray))]) (.blk (.loop (ι:=Nat×(List ByteArray×Int)) (fun i=>(fun (addrs1:List ByteArray) (v13:Int)=>(⟨[(0,some (.h 0 0)),(3,some (.h 1 0)),(11,some (.h 2 0)),(12,some (.v (vI ((Qa lines (⟨#[114,111,117,116,101]⟩:ByteArray)).length:Int)))),(13,some (.v (vI v13)))],[(0,some (.shr none (.l 1 eStr lines))),(1,some (.own 1 (.l 1 eStr addrs1))),(2,some (.own 2 (.l 1 (eL 1 eStr) (Qa lines (⟨#[114,111,117,116,101]⟩:ByteArray)))))],3⟩:St)) i.2.1 i.2.2) (Ta lines) (fun i=>i.1) (Qat lines) (fun i=>(fun (addrs1:List ByteArray) (v13:Int)=>(.seq .no (.seq (.cond .no .no) (.seq (.blk (.seq .no (.reg [(5,.dat (.l 1 eStr (addrs1++[(((Qa lines (⟨#[114,111,117,116,101]⟩:ByteArray)).getD (Int.toNat v13) default).getD (Int.toNat 2) default)])))]))) (.reg [(0,.bnd)]))))) i.2.1 i.2.2)))) (fun j=>(fun (addrs:List ByteArray)=>(.cut (ι:=List ByteArray) (fun j=>(fun (addrs2:List ByteArray)=>(⟨[(0,some (.h 0 0)),(3,some (.h 1 0))],[(0,some (.shr none (.l 1 eStr lines))),(1,some (.own 1 (.l 1 eStr addrs2)))],2⟩:St)) j) (Qob lines addrs) (.seqk [(3,0),(25,0)] (.reg [(1,Bc lines (⟨#[112,101,101,114]⟩:ByteArray))]) (.blk (.loop (ι:=Nat×(List ByteArray×Int)) (fun i=>(fun (addrs3:List ByteArray) (v27:Int)=>(⟨[(0,some (.h 0 0)),(3,some (.h 1 0)),(25,some (.h 2 0)),(26,some (.v (vI ((Qa lines (⟨#[112,101,101,114]⟩:ByteArray)).length:Int)))),(27,some (.v (vI v27)))],[(0,some (.shr none (.l 1 eStr lines))),(1,some (.own 1 (.l 1 eStr addrs3))),(2,some (.own 2 (.l 1 (eL 1 eStr) (Qa lines (⟨#[112,101,101,114]⟩:ByteArray)))))],3⟩:St)) i.2.1 i.2.2) (Tl lines addrs) (fun i=>i.1) (Qcs lines addrs) (fun i=>(fun (addrs3:List ByteArray) (v27:Int)=>(.seq .no (.seq (.cond .no .no) (.seq (.blk (.seq .no (.reg [(5,.dat (.l 1 eStr (addrs3++[(((Qa lines (⟨#[112,101,101,114]⟩:ByteArray)).getD (Int.toNat v27) default).getD (Int.toNat 1) default)])))]))) (.reg [(0,.bnd)]))))) i.2.1 i.2.2)))) (fun j=>(fun (addrs2:List ByteArray)=>(.seq (.reg [(1,kh66a lines)]) (.seq (.reg [(2,.call 57 (S57 (addrs2.any (fun (x0:ByteArray)=>F68 x0 (Qo lines))) addrs2 (fun (x0:ByteArray)=>F68 x0 (Qo lines)) (fun (x0:ByteArray)=>x0.size≤1048576∧(∀ k:Nat,0≤((Qo lines).getD k default).Len∧((Qo lines).getD k default).Len≤16))) (oa57 addrs2 (fun (x0:ByteArray)=>F68 x0 (Qo lines)) (fun (x0:ByteArray)=>x0.size≤1048576∧(∀ k:Nat,0≤((Qo lines).getD k default).Len∧((Qo lines).getD k default).Len≤16))) (some ⟨false,68,Zv (fun (x0:ByteArray)=>x0.size≤1048576∧(∀ k:Nat,0≤((Qo lines).getD k default).Len∧((Qo lines).getD k default).Len≤16)) (fun (x0:ByteArray)=>F68 x0 (Qo lines)),[.rp ([.l 2 Qk (Qo lines)])],rfl,True,fun i=>Xo (ok68 i (Qo lines))⟩))]) .no))) j))) j)))) Tryz.func39 (fun (hp:F27 lines=0∧lines.length≤16∧(∀ k:Nat,(lines.getD k default).size≤1048576))=>have hpre0:=hp.1; have hpre1:=hp.2.1; have hpre2:=hp.2.2; kn lines fun _=>ai (bokr 1 eStr ([]:List ByteArray) fun _=>rfl) (ai (Lv lines (⟨#[114,111,117,116,101]⟩:ByteArray) (by omega) (by assumption) (by omega) (fun gv1=>kn ([]:List ByteArray) fun _=>kn (Qa lines (⟨#[114,111,117,116,101]⟩:ByteArray)) fun _=>ai (en39_0 lines (by refine ⟨?_,?_,?_,?_⟩ <;> first | omega | (simp only [lens,ib] at*<;> omega) | exact Qnh (by assumption) (Zj lines _ (by first | omega | (simp only [lens,ib] at*<;> omega)) _ _) | exact Ubo)) (fun (i0:Nat×(List ByteArray×Int)) (hi0:Ta lines i0)=>(fun (m0:Nat) (addrs1:List ByteArray) (v13:Int) (hh0:Uce lines i0 m0 addrs1 v13)=>have hI0:=hh0.1; have hl0:=hh0.2.1; have _:=hh0.2.2.1; have _:=hh0.2.2.2.1; have _:=hh0.2.2.2.2.1; have _:=hh0.2.2.2.2.2.1; have _:=hh0.2.2.2.2.2.2; ifd (v13<((Qa lines (⟨#[114,111,117,116,101]⟩:ByteArray)).length:Int)) (fun h3 _=>ai (by (omega):0≤v13∧v13<((Qa lines (⟨#[114,111,117,116,101]⟩:ByteArray)).length:Int)) (ai (by (have h9:=Qzx lines (by omega) (Int.toNat v13) (by omega); unfold Jz at h9; omega):0≤(2:Int)∧(2:Int)<(((Qa lines (⟨#[114,111,117,116,101]⟩:ByteArray)).getD (Int.toNat v13) default).length:Int)) (ai (appr 1 eStr addrs1 [(((Qa lines (⟨#[114,111,117,116,101]⟩:ByteArray)).getD (Int.toNat v13) default).getD (Int.toNat 2) default)] fun _=>rfl) (ai (by (try simp only [lens]); omega:(addrs1++[(((Qa lines (⟨#[114,111,117,116,101]⟩:ByteArray)).getD (Int.toNat v13) default).getD (Int.toNat 2) default)]).length*16≤140737488355328) (ai (iok (v13+1) (by omega)) (bk39_0 lines i0 m0 (addrs1++[(((Qa lines (⟨#[114,111,117,116,101]⟩:ByteArray)).getD (Int.toNat v13) default).getD (Int.toNat 2) default)]) (v13+1) hl0 (Qg hI0 (condT h3 rfl)) (by refine ⟨?_,?_,?_,?_,?_⟩ <;> first | omega | (simp only [lens,ib] at*<;> omega) | exact Qnh (by assumption) (Zj lines _ (by first | omega | (simp only [lens,ib] at*<;> omega)) _ _) | exact Ubo))))))) (fun h3 _=>have hD0_4:Ubw lines=Lp.done (addrs1,v13):=Qj hI0 (condF h3 rfl); jn39_0 lines addrs1 (Eq.symm (finD hD0_4 rfl)) (by refine ⟨?_,?_⟩ <;> omega))) (i0.1-1) i0.2.1 i0.2.2 (un39_0 lines i0 hi0)))) (fun (j:List ByteArray) (hj:Qoj lines j)=>(fun (addrs:List ByteArray) (hJ0_5:(Nm lines)=Lp.done addrs) (hw:Qnj lines addrs)=>have _:=hw.1; have _:=hw.2; ai (Lv lines (⟨#[112,101,101,114]⟩:ByteArray) (by omega) (by assumption) (by omega) (fun gv6=>kn addrs fun _=>kn (Qa lines (⟨#[112,101,101,114]⟩:ByteArray)) fun _=>ai (en39_1 lines addrs (by refine ⟨?_,?_,?_,?_⟩ <;> omega)) (fun (i1:Nat×(List ByteArray×Int)) (hi1:Tl lines addrs i1)=>(fun (m1:Nat) (addrs3:List ByteArray) (v27:Int) (hh1:Uan lines addrs i1 m1 addrs3 v27)=>have hI1:=hh1.1; have hl1:=hh1.2.1; have _:=hh1.2.2.1; have _:=hh1.2.2.2.1; have _:=hh1.2.2.2.2.1; have _:=hh1.2.2.2.2.2.1; have _:=hh1.2.2.2.2.2.2; ifd (v27<((Qa lines (⟨#[112,101,101,114]⟩:ByteArray)).length:Int)) (fun h8 _=>ai (by (omega):0≤v27∧v27<((Qa lines (⟨#[112,101,101,114]⟩:ByteArray)).length:Int)) (ai (by (have h9:=Ufc lines (by omega) (Int.toNat v27) (by omega); unfold Ly at h9; omega):0≤(1:Int)∧(1:Int)<(((Qa lines (⟨#[112,101,101,114]⟩:ByteArray)).getD (Int.toNat v27) default).length:Int)) (ai (appr 1 eStr addrs3 [(((Qa lines (⟨#[112,101,101,114]⟩:ByteArray)).getD (Int.toNat v27) default).getD (Int.toNat 1) default)] fun _=>rfl) (ai (by (try simp only [lens]); omega:(addrs3++[(((Qa lines (⟨#[112,101,101,114]⟩:ByteArray)).getD (Int.toNat v27) default).getD (Int.toNat 1) default)]).length*16≤140737488355328) (ai (iok (v27+1) (by omega)) (bk39_1 lines addrs i1 m1 (addrs3++[(((Qa lines (⟨#[112,101,101,114]⟩:ByteArray)).getD (Int.toNat v27) default).getD (Int.toNat 1) default)]) (v27+1) hl1 (Qg hI1 (condT h8 rfl)) (by refine ⟨?_,?_,?_,?_,?_⟩ <;> first | omega | (simp only [lens,ib] at*<;> omega) | exact Qnh (by assumption) (Zj lines _ (by first | omega | (simp only [lens,ib] at*<;> omega)) _ _) | assumption))))))) (fun h8 _=>have hD1_9:Ubh lines addrs=Lp.done (addrs3,v27):=Qj hI1 (condF h8 rfl); jn39_1 lines addrs addrs3 (Eq.symm (finD hD1_9 rfl)) (by refine ⟨?_,?_⟩ <;> omega))) (i1.1-1) i1.2.1 i1.2.2 (un39_1 lines addrs i1 hi1)))) (fun (j:List ByteArray) (hj:Qob lines addrs j)=>(fun (addrs2:List ByteArray) (hJ1_10:(Hk lines addrs)=Lp.done addrs2) (hw:Qmr lines addrs addrs2)=>have _:=hw.1; have _:=hw.2; kc66a lines (by omega) (by omega) (by assumption) (ai (by exact fun k _=>⟨(by assumption:∀ k:Nat,(addrs2.getD k default).size≤1048576) k,Zw lines⟩:∀ k:Nat,k<addrs2.length→(fun (x0:ByteArray)=>x0.size≤1048576∧(∀ k:Nat,0≤((Qo lines).getD k default).Len∧((Qo lines).getD k default).Len≤16)) (addrs2.getD k default)) (ai (Imp.refl (.l 1 eStr addrs2)) (ai (Eq.refl (Zv (fun (x0:ByteArray)=>x0.size≤1048576∧(∀ k:Nat,0≤((Qo lines).getD k default).Len∧((Qo lines).getD k default).Len≤16)) (fun (x0:ByteArray)=>F68 x0 (Qo lines)))) (ai trivial (ai (Imps.refl [.l 2 Qk (Qo lines)]) (fiB (addrs2.any (fun (x0:ByteArray)=>F68 x0 (Qo lines))) (F39 lines) (finD hJ0_5 (finD hJ1_10 rfl))))))))) j hj.1 hj.2)) j hj.1 hj.2))) (by kernel_rfl)
abbrev kh72f (p:Qb) (addr:Int):Hint false Tryz.prog:=.call 72 (S72 p addr) ((ok72 p addr).to false) none
theorem kg74 {K_:Prop} (c_ b_:Bool) (word:ByteArray) (p_:c_=b_→word.size≤1048576) (k_:K_):(c_=b_→word.size≤1048576)∧(c_=b_→Imp (.v (.string word)) (.v (.string word)))∧K_:=⟨p_,fun _=>Imp.refl _,k_⟩
def Bh (lines:List ByteArray) (v64:Int):Int→Lp Int Bool:=fun v89 =>
 bif (decide (v89<(((Qa lines (⟨#[100,111,111,114]⟩:ByteArray)).take (Int.toNat v64)).length:Int))) then (bif (bif (bif (((((Qa lines (⟨#[100,111,111,114]⟩:ByteArray)).take (Int.toNat v64)).getD (Int.toNat v89) default).getD (Int.toNat 1) default).toList==(((Qa lines (⟨#[100,111,111,114]⟩:ByteArray)).getD (Int.toNat v64) default).getD (Int.toNat 1) default).toList) then (((((Qa lines (⟨#[100,111,111,114]⟩:ByteArray)).take (Int.toNat v64)).getD (Int.toNat v89) default).getD (Int.toNat 3) default).toList==(((Qa lines (⟨#[100,111,111,114]⟩:ByteArray)).getD (Int.toNat v64) default).getD (Int.toNat 3) default).toList) else false) then (((((Qa lines (⟨#[100,111,111,114]⟩:ByteArray)).take (Int.toNat v64)).getD (Int.toNat v89) default).getD (Int.toNat 4) default).toList==(((Qa lines (⟨#[100,111,111,114]⟩:ByteArray)).getD (Int.toNat v64) default).getD (Int.toNat 4) default).toList) else false) then (.ret true) else (.next (v89+1))) else (.done v89)
def Gb (lines:List ByteArray):Int→Lp Int Bool:=fun v64 =>
 bif (decide (v64<((Qa lines (⟨#[100,111,111,114]⟩:ByteArray)).length:Int))) then (bif (bif (!(F72 (F73 (((Qa lines (⟨#[110,97,116]⟩:ByteArray)).getD (Int.toNat 0) default).getD (Int.toNat 1) default)).1 (F69 (((Qa lines (⟨#[100,111,111,114]⟩:ByteArray)).getD (Int.toNat v64) default).getD (Int.toNat 3) default)))) then true else (decide ((F74 (((Qa lines (⟨#[110,97,116]⟩:ByteArray)).getD (Int.toNat 0) default).getD (Int.toNat 3) default))≤(F74 (((Qa lines (⟨#[100,111,111,114]⟩:ByteArray)).getD (Int.toNat v64) default).getD (Int.toNat 2) default))∧(F74 (((Qa lines (⟨#[100,111,111,114]⟩:ByteArray)).getD (Int.toNat v64) default).getD (Int.toNat 2) default))≤(F74 (((Qa lines (⟨#[110,97,116]⟩:ByteArray)).getD (Int.toNat 0) default).getD (Int.toNat 4) default))))) then (.ret true) else ((runL (Bh lines v64) ((Int.toNat ((((Qa lines (⟨#[100,111,111,114]⟩:ByteArray)).take (Int.toNat v64)).length:Int)-0))+1) 0).fin Lp.ret (fun v89=>.next (v64+1)))) else (.done v64)
def F40 (lines:List ByteArray):Bool :=
 bif (((Qa lines (⟨#[110,97,116]⟩:ByteArray)).length:Int)==0) then (decide (((Qa lines (⟨#[100,111,111,114]⟩:ByteArray)).length:Int)>0)) else (bif (bif (bif (F72 (F73 (((Qa lines (⟨#[110,97,116]⟩:ByteArray)).getD (Int.toNat 0) default).getD (Int.toNat 1) default)).1 (F69 (((Qa lines (⟨#[110,97,116]⟩:ByteArray)).getD (Int.toNat 0) default).getD (Int.toNat 2) default))) then true else decide ((F74 (((Qa lines (⟨#[110,97,116]⟩:ByteArray)).getD (Int.toNat 0) default).getD (Int.toNat 3) default))>(F74 (((Qa lines (⟨#[110,97,116]⟩:ByteArray)).getD (Int.toNat 0) default).getD (Int.toNat 4) default)))) then true else decide (((Qa lines (⟨#[100,111,111,114]⟩:ByteArray)).length:Int)>6)) then true else ((runL (Gb lines) ((Int.toNat (((Qa lines (⟨#[100,111,111,114]⟩:ByteArray)).length:Int)-0))+1) 0).fin (fun r=>r) (fun v64=>false)))
abbrev Qam (lines:List ByteArray) (v64:Int):Nat×Int:=(((Int.toNat ((((Qa lines (⟨#[100,111,111,114]⟩:ByteArray)).take (Int.toNat v64)).length:Int)-0))+1),0)
abbrev Qlx (lines:List ByteArray) (v64:Int) (m39:Nat) (v89:Int):Prop:=Int.toNat ((((Qa lines (⟨#[100,111,111,114]⟩:ByteArray)).take (Int.toNat v64)).length:Int)-v89)<m39∧(0:Int)≤v89
abbrev Uaj (lines:List ByteArray) (v64:Int):Lp Int Bool:=LpX (Bh lines v64) (Qam lines v64)
abbrev Rm (lines:List ByteArray) (v64:Int) (i:Nat×Int):Prop:=LpJ (Bh lines v64) (Qam lines v64) i (Qlx lines v64 i.1 i.2)
abbrev Qym (lines:List ByteArray) (v64:Int) (i:Nat×Int) (m39:Nat) (v89:Int):Prop:=LpH (Bh lines v64) (Qam lines v64) i m39 v89 (Qlx lines v64 (m39+1) v89)
abbrev Qwy (lines:List ByteArray) (v64:Int) (v89:Int) (v89_:Int) (K39:Prop):Prop:=(Rf (.int .i64 (F74 (((Qa lines (⟨#[110,97,116]⟩:ByteArray)).getD (Int.toNat 0) default).getD (Int.toNat 3) default))))∧(Rf (.int .i64 (F74 (((Qa lines (⟨#[110,97,116]⟩:ByteArray)).getD (Int.toNat 0) default).getD (Int.toNat 4) default))))∧(Rf (.int .i64 ((Qa lines (⟨#[100,111,111,114]⟩:ByteArray)).length:Int)))∧(Rf (.int .i64 v64))∧(Rf (.int .i64 (((Qa lines (⟨#[100,111,111,114]⟩:ByteArray)).take (Int.toNat v64)).length:Int)))∧((.int .i64 v89:Value)=.int .i64 v89_)∧(Im (.l 1 (eL 1 eStr) (Qa lines (⟨#[100,111,111,114]⟩:ByteArray))))∧(Rf (.int .i64 (F73 (((Qa lines (⟨#[110,97,116]⟩:ByteArray)).getD (Int.toNat 0) default).getD (Int.toNat 1) default)).1.Addr))∧(Rf (.int .i64 (F73 (((Qa lines (⟨#[110,97,116]⟩:ByteArray)).getD (Int.toNat 0) default).getD (Int.toNat 1) default)).1.Len))∧(Im (.l 1 eStr ((Qa lines (⟨#[100,111,111,114]⟩:ByteArray)).getD (Int.toNat v64) default)))∧(Im (.l 1 (eL 1 eStr) ((Qa lines (⟨#[100,111,111,114]⟩:ByteArray)).take (Int.toNat v64))))∧K39
theorem un40_1 (lines:List ByteArray) (v64:Int) (i:Nat×Int) (h:Rm lines v64 i):Qym lines v64 i (i.1-1) i.2:=⟨hd1 h.1 h.2.1,hd3 h.2.1,hd2 h.2.1,h.2.2⟩
theorem bk40_1 (lines:List ByteArray) (v64:Int) (i:Nat×Int) (m39:Nat) (v89:Int) (hl:m39<i.1) (e:runL (Bh lines v64) m39 v89=Uaj lines v64) (h:Qlx lines v64 m39 v89):∃ j:Nat×Int,Qwy lines v64 v89 j.2 (Rm lines v64 j∧j.1<i.1):=⟨(m39,v89),rfl,rfl,rfl,rfl,rfl,rfl,Imp.refl _,rfl,rfl,Imp.refl _,Imp.refl _,⟨e,h⟩,hl⟩
theorem en40_1 (lines:List ByteArray) (v64:Int) (h:(0:Int)≤0):Qwy lines v64 0 0 (Rm lines v64 (Qam lines v64)):=⟨rfl,rfl,rfl,rfl,rfl,rfl,Imp.refl _,rfl,rfl,Imp.refl _,Imp.refl _,rfl,Nat.lt_succ_self _,h⟩
abbrev Qbz (lines:List ByteArray):Nat×Int:=(((Int.toNat (((Qa lines (⟨#[100,111,111,114]⟩:ByteArray)).length:Int)-0))+1),0)
abbrev Qnm (lines:List ByteArray) (m39:Nat) (v64:Int):Prop:=Int.toNat (((Qa lines (⟨#[100,111,111,114]⟩:ByteArray)).length:Int)-v64)<m39∧(0:Int)≤v64
abbrev Qxu (lines:List ByteArray):Lp Int Bool:=LpX (Gb lines) (Qbz lines)
abbrev Qay (lines:List ByteArray) (i:Nat×Int):Prop:=LpJ (Gb lines) (Qbz lines) i (Qnm lines i.1 i.2)
abbrev Ucb (lines:List ByteArray) (i:Nat×Int) (m39:Nat) (v64:Int):Prop:=LpH (Gb lines) (Qbz lines) i m39 v64 (Qnm lines (m39+1) v64)
abbrev Qtb (lines:List ByteArray) (v64:Int) (v64_:Int) (K39:Prop):Prop:=(Rf (.int .i64 (F74 (((Qa lines (⟨#[110,97,116]⟩:ByteArray)).getD (Int.toNat 0) default).getD (Int.toNat 3) default))))∧(Rf (.int .i64 (F74 (((Qa lines (⟨#[110,97,116]⟩:ByteArray)).getD (Int.toNat 0) default).getD (Int.toNat 4) default))))∧(Rf (.int .i64 ((Qa lines (⟨#[100,111,111,114]⟩:ByteArray)).length:Int)))∧((.int .i64 v64:Value)=.int .i64 v64_)∧(Im (.l 1 (eL 1 eStr) (Qa lines (⟨#[100,111,111,114]⟩:ByteArray))))∧(Rf (.int .i64 (F73 (((Qa lines (⟨#[110,97,116]⟩:ByteArray)).getD (Int.toNat 0) default).getD (Int.toNat 1) default)).1.Addr))∧(Rf (.int .i64 (F73 (((Qa lines (⟨#[110,97,116]⟩:ByteArray)).getD (Int.toNat 0) default).getD (Int.toNat 1) default)).1.Len))∧K39
theorem un40_0 (lines:List ByteArray) (i:Nat×Int) (h:Qay lines i):Ucb lines i (i.1-1) i.2:=⟨hd1 h.1 h.2.1,hd3 h.2.1,hd2 h.2.1,h.2.2⟩
theorem bk40_0 (lines:List ByteArray) (i:Nat×Int) (m39:Nat) (v64:Int) (hl:m39<i.1) (e:runL (Gb lines) m39 v64=Qxu lines) (h:Qnm lines m39 v64):∃ j:Nat×Int,Qtb lines v64 j.2 (Qay lines j∧j.1<i.1):=⟨(m39,v64),rfl,rfl,rfl,rfl,Imp.refl _,rfl,rfl,⟨e,h⟩,hl⟩
theorem en40_0 (lines:List ByteArray) (h:(0:Int)≤0):Qtb lines 0 0 (Qay lines (Qbz lines)):=⟨rfl,rfl,rfl,rfl,Imp.refl _,rfl,rfl,rfl,Nat.lt_succ_self _,h⟩
def S40 (lines:List ByteArray):Spec:=⟨[.r (.c (.l 1 eStr lines))],.v (.bool (F40 lines)),F27 lines=0∧lines.length≤16∧(∀ k:Nat,(lines.getD k default).size≤1048576)⟩
theorem ok40 (lines:List ByteArray):(S40 lines).ok Tryz.prog 40 false :=
 Qi mixed (fn:=Tryz.f40) (ct:=.seqk [(0,0)] .no (.seq (.reg [(1,Bc lines (⟨#[110,97,116]⟩:ByteArray)),(3,Bc lines (⟨#[100,111,111,114]⟩:ByteArray))]) (.seq (.seq .no (.cond (.seq .no .no) .no)) (.seq (.reg [(5,kh73 (((Qa lines (⟨#[110,97,116]⟩:ByteArray)).getD (Int.toNat 0) default).getD (Int.toNat 1) default))]) (.seq (.reg [(5,kh74 (((Qa lines (⟨#[110,97,116]⟩:ByteArray)).getD (Int.toNat 0) default).getD (Int.toNat 3) default)),(11,kh74 (((Qa lines (⟨#[110,97,116]⟩:ByteArray)).getD (Int.toNat 0) default).getD (Int.toNat 4) default))]) (.seq (.seq (.reg [(6,kh69 (((Qa lines (⟨#[110,97,116]⟩:ByteArray)).getD (Int.toNat 0) default).getD (Int.toNat 2) default)),(7,kh72f (F73 (((Qa lines (⟨#[110,97,116]⟩:ByteArray)).getD (Int.toNat 0) default).getD (Int.toNat 1) default)).1 (F69 (((Qa lines (⟨#[110,97,116]⟩:ByteArray)).getD (Int.toNat 0) default).getD (Int.toNat 2) default)))]) (.cond (.seq .no .no) .no)) (.seq (.seqk [(4,0),(62,0)] .no (.blk (.loop (ι:=Nat×Int) (fun i=>(fun (v64:Int)=>(⟨[(4,some (.h 0 0)),(5,some (.p 1 0)),(7,some (.v (vI (F74 (((Qa lines (⟨#[110,97,116]⟩:ByteArray)).getD (Int.toNat 0) default).getD (Int.toNat 3) default))))),(8,some (.v (vI (F74 (((Qa lines (⟨#[110,97,116]⟩:ByteArray)).getD (Int.toNat 0) default).getD (Int.toNat 4) default))))),(62,some (.h 0 0)),(63,some (.v (vI ((Qa lines (⟨#[100,111,111,114]⟩:ByteArray)).length:Int)))),(64,some (.v (vI v64)))],[(0,some (.own 0 (.l 1 (eL 1 eStr) (Qa lines (⟨#[100,111,111,114]⟩:ByteArray))))),(1,some (.box 83 [.v (vI (F73 (((Qa lines (⟨#[110,97,116]⟩:ByteArray)).getD (Int.toNat 0) default).getD (Int.toNat 1) default)).1.Addr),.v (vI (F73 (((Qa lines (⟨#[110,97,116]⟩:ByteArray)).getD (Int.toNat 0) default).getD (Int.toNat 1) default)).1.Len)]))],2⟩:St)) i.2) (Qay lines) (fun i=>i.1) (Qbz lines) (fun i=>(fun (v64:Int)=>(.seq .no (.seq (.cond .no .no) (.seq (.blk (.seq (.reg [(2,.sh)]) (.seq (.seq (.reg [(4,kh69 (((Qa lines (⟨#[100,111,111,114]⟩:ByteArray)).getD (Int.toNat v64) default).getD (Int.toNat 3) default)),(5,kh72f (F73 (((Qa lines (⟨#[110,97,116]⟩:ByteArray)).getD (Int.toNat 0) default).getD (Int.toNat 1) default)).1 (F69 (((Qa lines (⟨#[100,111,111,114]⟩:ByteArray)).getD (Int.toNat v64) default).getD (Int.toNat 3) default))),(11,kh74 (((Qa lines (⟨#[100,111,111,114]⟩:ByteArray)).getD (Int.toNat v64) default).getD (Int.toNat 2) default)),(14,Qcf (F74 (((Qa lines (⟨#[100,111,111,114]⟩:ByteArray)).getD (Int.toNat v64) default).getD (Int.toNat 2) default)) (F74 (((Qa lines (⟨#[110,97,116]⟩:ByteArray)).getD (Int.toNat 0) default).getD (Int.toNat 3) default)) (F74 (((Qa lines (⟨#[110,97,116]⟩:ByteArray)).getD (Int.toNat 0) default).getD (Int.toNat 4) default)))]) (.cond (.seq .no .no) .no)) (.seqk [(10,0),(87,0)] .no (.blk (.loop (ι:=Nat×Int) (fun i=>(fun (v89:Int)=>(⟨[(4,some (.h 0 0)),(5,some (.p 1 0)),(7,some (.v (vI (F74 (((Qa lines (⟨#[110,97,116]⟩:ByteArray)).getD (Int.toNat 0) default).getD (Int.toNat 3) default))))),(8,some (.v (vI (F74 (((Qa lines (⟨#[110,97,116]⟩:ByteArray)).getD (Int.toNat 0) default).getD (Int.toNat 4) default))))),(10,some (.h 2 0)),(62,some (.h 0 0)),(63,some (.v (vI ((Qa lines (⟨#[100,111,111,114]⟩:ByteArray)).length:Int)))),(64,some (.v (vI v64))),(87,some (.h 3 0)),(88,some (.v (vI (((Qa lines (⟨#[100,111,111,114]⟩:ByteArray)).take (Int.toNat v64)).length:Int)))),(89,some (.v (vI v89)))],[(0,some (.own 0 (.l 1 (eL 1 eStr) (Qa lines (⟨#[100,111,111,114]⟩:ByteArray))))),(1,some (.box 83 [.v (vI (F73 (((Qa lines (⟨#[110,97,116]⟩:ByteArray)).getD (Int.toNat 0) default).getD (Int.toNat 1) default)).1.Addr),.v (vI (F73 (((Qa lines (⟨#[110,97,116]⟩:ByteArray)).getD (Int.toNat 0) default).getD (Int.toNat 1) default)).1.Len)])),(2,some (.shr (some (0,0)) (.l 1 eStr ((Qa lines (⟨#[100,111,111,114]⟩:ByteArray)).getD (Int.toNat v64) default)))),(3,some (.shr (some (0,0)) (.l 1 (eL 1 eStr) ((Qa lines (⟨#[100,111,111,114]⟩:ByteArray)).take (Int.toNat v64)))))],4⟩:St)) i.2) (Rm lines v64) (fun i=>i.1) (Qam lines v64) (fun i=>(fun (v89:Int)=>(.seq .no (.seq (.cond .no .no) (.seq (.blk (.seq .no (.seq .no (.cond (.seq .no .no) .no)))) (.reg [(0,.bnd)]))))) i.2))))))) (.reg [(0,.bnd)]))))) i.2)))) (.seq .no .no)))))))) Tryz.func40 (fun (hp:F27 lines=0∧lines.length≤16∧(∀ k:Nat,(lines.getD k default).size≤1048576))=>have hpre0:=hp.1; have hpre1:=hp.2.1; have hpre2:=hp.2.2; kn lines fun _=>Lv lines (⟨#[110,97,116]⟩:ByteArray) (by first | omega | (simp only [lens,ib] at*<;> omega)) (by first | assumption | exact hpre2 _ | exact fun k _=>hpre2 k | (intros; exact trivial) | (intros; exact Nat.zero_le _)) (by first | omega | (simp only [lens,ib] at*<;> omega)) (fun gv1=>Lv lines (⟨#[100,111,111,114]⟩:ByteArray) (by first | omega | (simp only [lens,ib] at*<;> omega)) (by first | assumption | exact hpre2 _ | exact fun k _=>hpre2 k | (intros; exact trivial) | (intros; exact Nat.zero_le _)) (by first | omega | (simp only [lens,ib] at*<;> omega)) (fun gv2=>ife ((Qa lines (⟨#[110,97,116]⟩:ByteArray)).length:Int) 0 (fun h3 _=>fiB (decide (((Qa lines (⟨#[100,111,111,114]⟩:ByteArray)).length:Int)>0)) (F40 lines) (condT h3 rfl)) (fun h3 _=>ai (by (first | omega | (have h9:=Zk lines (by first | omega | (simp only [lens,ib] at*<;> omega)) (Int.toNat 0) (by first | omega | (simp only [lens,ib] at*<;> omega)); unfold natP at h9; omega) | (have h9:=Ya lines (by first | omega | (simp only [lens,ib] at*<;> omega)) (Int.toNat v64) (by first | omega | (simp only [lens,ib] at*<;> omega)); unfold Ui at h9; omega) | (have h9:=Us lines (by first | omega | (simp only [lens,ib] at*<;> omega)) (Int.toNat v64) (Int.toNat v89) (by first | omega | (simp only [lens,ib] at*<;> omega)); unfold Ui at h9; omega)):0≤(0:Int)∧(0:Int)<((Qa lines (⟨#[110,97,116]⟩:ByteArray)).length:Int)) (ai (by (first | omega | (have h9:=Zk lines (by first | omega | (simp only [lens,ib] at*<;> omega)) (Int.toNat 0) (by first | omega | (simp only [lens,ib] at*<;> omega)); unfold natP at h9; omega) | (have h9:=Ya lines (by first | omega | (simp only [lens,ib] at*<;> omega)) (Int.toNat v64) (by first | omega | (simp only [lens,ib] at*<;> omega)); unfold Ui at h9; omega) | (have h9:=Us lines (by first | omega | (simp only [lens,ib] at*<;> omega)) (Int.toNat v64) (Int.toNat v89) (by first | omega | (simp only [lens,ib] at*<;> omega)); unfold Ui at h9; omega)):0≤(1:Int)∧(1:Int)<(((Qa lines (⟨#[110,97,116]⟩:ByteArray)).getD (Int.toNat 0) default).length:Int)) (kc73 (((Qa lines (⟨#[110,97,116]⟩:ByteArray)).getD (Int.toNat 0) default).getD (Int.toNat 1) default) (by exact Zj lines _ (by first | omega | (simp only [lens,ib] at*<;> omega)) _ _) (ai (by (first | omega | (have h9:=Zk lines (by first | omega | (simp only [lens,ib] at*<;> omega)) (Int.toNat 0) (by first | omega | (simp only [lens,ib] at*<;> omega)); unfold natP at h9; omega) | (have h9:=Ya lines (by first | omega | (simp only [lens,ib] at*<;> omega)) (Int.toNat v64) (by first | omega | (simp only [lens,ib] at*<;> omega)); unfold Ui at h9; omega) | (have h9:=Us lines (by first | omega | (simp only [lens,ib] at*<;> omega)) (Int.toNat v64) (Int.toNat v89) (by first | omega | (simp only [lens,ib] at*<;> omega)); unfold Ui at h9; omega)):0≤(0:Int)∧(0:Int)<((Qa lines (⟨#[110,97,116]⟩:ByteArray)).length:Int)) (ai (by (first | omega | (have h9:=Zk lines (by first | omega | (simp only [lens,ib] at*<;> omega)) (Int.toNat 0) (by first | omega | (simp only [lens,ib] at*<;> omega)); unfold natP at h9; omega) | (have h9:=Ya lines (by first | omega | (simp only [lens,ib] at*<;> omega)) (Int.toNat v64) (by first | omega | (simp only [lens,ib] at*<;> omega)); unfold Ui at h9; omega) | (have h9:=Us lines (by first | omega | (simp only [lens,ib] at*<;> omega)) (Int.toNat v64) (Int.toNat v89) (by first | omega | (simp only [lens,ib] at*<;> omega)); unfold Ui at h9; omega)):0≤(3:Int)∧(3:Int)<(((Qa lines (⟨#[110,97,116]⟩:ByteArray)).getD (Int.toNat 0) default).length:Int)) (kc74 (((Qa lines (⟨#[110,97,116]⟩:ByteArray)).getD (Int.toNat 0) default).getD (Int.toNat 3) default) (by exact Zj lines _ (by first | omega | (simp only [lens,ib] at*<;> omega)) _ _) (ai (by (first | omega | (have h9:=Zk lines (by first | omega | (simp only [lens,ib] at*<;> omega)) (Int.toNat 0) (by first | omega | (simp only [lens,ib] at*<;> omega)); unfold natP at h9; omega) | (have h9:=Ya lines (by first | omega | (simp only [lens,ib] at*<;> omega)) (Int.toNat v64) (by first | omega | (simp only [lens,ib] at*<;> omega)); unfold Ui at h9; omega) | (have h9:=Us lines (by first | omega | (simp only [lens,ib] at*<;> omega)) (Int.toNat v64) (Int.toNat v89) (by first | omega | (simp only [lens,ib] at*<;> omega)); unfold Ui at h9; omega)):0≤(0:Int)∧(0:Int)<((Qa lines (⟨#[110,97,116]⟩:ByteArray)).length:Int)) (ai (by (first | omega | (have h9:=Zk lines (by first | omega | (simp only [lens,ib] at*<;> omega)) (Int.toNat 0) (by first | omega | (simp only [lens,ib] at*<;> omega)); unfold natP at h9; omega) | (have h9:=Ya lines (by first | omega | (simp only [lens,ib] at*<;> omega)) (Int.toNat v64) (by first | omega | (simp only [lens,ib] at*<;> omega)); unfold Ui at h9; omega) | (have h9:=Us lines (by first | omega | (simp only [lens,ib] at*<;> omega)) (Int.toNat v64) (Int.toNat v89) (by first | omega | (simp only [lens,ib] at*<;> omega)); unfold Ui at h9; omega)):0≤(4:Int)∧(4:Int)<(((Qa lines (⟨#[110,97,116]⟩:ByteArray)).getD (Int.toNat 0) default).length:Int)) (kc74 (((Qa lines (⟨#[110,97,116]⟩:ByteArray)).getD (Int.toNat 0) default).getD (Int.toNat 4) default) (by exact Zj lines _ (by first | omega | (simp only [lens,ib] at*<;> omega)) _ _) (ai (by (first | omega | (have h9:=Zk lines (by first | omega | (simp only [lens,ib] at*<;> omega)) (Int.toNat 0) (by first | omega | (simp only [lens,ib] at*<;> omega)); unfold natP at h9; omega) | (have h9:=Ya lines (by first | omega | (simp only [lens,ib] at*<;> omega)) (Int.toNat v64) (by first | omega | (simp only [lens,ib] at*<;> omega)); unfold Ui at h9; omega) | (have h9:=Us lines (by first | omega | (simp only [lens,ib] at*<;> omega)) (Int.toNat v64) (Int.toNat v89) (by first | omega | (simp only [lens,ib] at*<;> omega)); unfold Ui at h9; omega)):0≤(0:Int)∧(0:Int)<((Qa lines (⟨#[110,97,116]⟩:ByteArray)).length:Int)) (ai (by (first | omega | (have h9:=Zk lines (by first | omega | (simp only [lens,ib] at*<;> omega)) (Int.toNat 0) (by first | omega | (simp only [lens,ib] at*<;> omega)); unfold natP at h9; omega) | (have h9:=Ya lines (by first | omega | (simp only [lens,ib] at*<;> omega)) (Int.toNat v64) (by first | omega | (simp only [lens,ib] at*<;> omega)); unfold Ui at h9; omega) | (have h9:=Us lines (by first | omega | (simp only [lens,ib] at*<;> omega)) (Int.toNat v64) (Int.toNat v89) (by first | omega | (simp only [lens,ib] at*<;> omega)); unfold Ui at h9; omega)):0≤(2:Int)∧(2:Int)<(((Qa lines (⟨#[110,97,116]⟩:ByteArray)).getD (Int.toNat 0) default).length:Int)) (kc69 (((Qa lines (⟨#[110,97,116]⟩:ByteArray)).getD (Int.toNat 0) default).getD (Int.toNat 2) default) (by exact Zj lines _ (by first | omega | (simp only [lens,ib] at*<;> omega)) _ _) (kc72 (F73 (((Qa lines (⟨#[110,97,116]⟩:ByteArray)).getD (Int.toNat 0) default).getD (Int.toNat 1) default)).1 (F69 (((Qa lines (⟨#[110,97,116]⟩:ByteArray)).getD (Int.toNat 0) default).getD (Int.toNat 2) default)) (by first | exact (Yx _).1 | exact (Yx _).2.1) (by first | exact (Yx _).1 | exact (Yx _).2.1) (ifb (bif (bif (F72 (F73 (((Qa lines (⟨#[110,97,116]⟩:ByteArray)).getD (Int.toNat 0) default).getD (Int.toNat 1) default)).1 (F69 (((Qa lines (⟨#[110,97,116]⟩:ByteArray)).getD (Int.toNat 0) default).getD (Int.toNat 2) default))) then true else decide ((F74 (((Qa lines (⟨#[110,97,116]⟩:ByteArray)).getD (Int.toNat 0) default).getD (Int.toNat 3) default))>(F74 (((Qa lines (⟨#[110,97,116]⟩:ByteArray)).getD (Int.toNat 0) default).getD (Int.toNat 4) default)))) then true else decide (((Qa lines (⟨#[100,111,111,114]⟩:ByteArray)).length:Int)>6)) (fun h4=>fiB true (F40 lines) (condF h3 (condT h4 rfl))) (fun h4=>have _:¬ (F74 (((Qa lines (⟨#[110,97,116]⟩:ByteArray)).getD (Int.toNat 0) default).getD (Int.toNat 3) default))>(F74 (((Qa lines (⟨#[110,97,116]⟩:ByteArray)).getD (Int.toNat 0) default).getD (Int.toNat 4) default)):=of_decide_eq_false (orF2 (orF1 h4)); have _:¬ ((Qa lines (⟨#[100,111,111,114]⟩:ByteArray)).length:Int)>6:=of_decide_eq_false (orF2 h4); kn (Qa lines (⟨#[100,111,111,114]⟩:ByteArray)) fun _=>kn (Qa lines (⟨#[100,111,111,114]⟩:ByteArray)) fun _=>ai (en40_0 lines (by first | omega | (simp only [lens,ib] at*<;> omega))) (fun (i0:Nat×Int) (hi0:Qay lines i0)=>(fun (m0:Nat) (v64:Int) (hh0:Ucb lines i0 m0 v64)=>have hI0:=hh0.1; have hl0:=hh0.2.1; have _:=hh0.2.2.1; have _:=hh0.2.2.2; ifd (v64<((Qa lines (⟨#[100,111,111,114]⟩:ByteArray)).length:Int)) (fun h6 _=>ai (by (first | omega | (have h9:=Zk lines (by first | omega | (simp only [lens,ib] at*<;> omega)) (Int.toNat 0) (by first | omega | (simp only [lens,ib] at*<;> omega)); unfold natP at h9; omega) | (have h9:=Ya lines (by first | omega | (simp only [lens,ib] at*<;> omega)) (Int.toNat v64) (by first | omega | (simp only [lens,ib] at*<;> omega)); unfold Ui at h9; omega) | (have h9:=Us lines (by first | omega | (simp only [lens,ib] at*<;> omega)) (Int.toNat v64) (Int.toNat v89) (by first | omega | (simp only [lens,ib] at*<;> omega)); unfold Ui at h9; omega)):0≤v64∧v64<((Qa lines (⟨#[100,111,111,114]⟩:ByteArray)).length:Int)) (ai (by (first | omega | (have h9:=Zk lines (by first | omega | (simp only [lens,ib] at*<;> omega)) (Int.toNat 0) (by first | omega | (simp only [lens,ib] at*<;> omega)); unfold natP at h9; omega) | (have h9:=Ya lines (by first | omega | (simp only [lens,ib] at*<;> omega)) (Int.toNat v64) (by first | omega | (simp only [lens,ib] at*<;> omega)); unfold Ui at h9; omega) | (have h9:=Us lines (by first | omega | (simp only [lens,ib] at*<;> omega)) (Int.toNat v64) (Int.toNat v89) (by first | omega | (simp only [lens,ib] at*<;> omega)); unfold Ui at h9; omega)):0≤(3:Int)∧(3:Int)<(((Qa lines (⟨#[100,111,111,114]⟩:ByteArray)).getD (Int.toNat v64) default).length:Int)) (kc69 (((Qa lines (⟨#[100,111,111,114]⟩:ByteArray)).getD (Int.toNat v64) default).getD (Int.toNat 3) default) (by exact Zj lines _ (by first | omega | (simp only [lens,ib] at*<;> omega)) _ _) (kc72 (F73 (((Qa lines (⟨#[110,97,116]⟩:ByteArray)).getD (Int.toNat 0) default).getD (Int.toNat 1) default)).1 (F69 (((Qa lines (⟨#[100,111,111,114]⟩:ByteArray)).getD (Int.toNat v64) default).getD (Int.toNat 3) default)) (by first | exact (Yx _).1 | exact (Yx _).2.1) (by first | exact (Yx _).1 | exact (Yx _).2.1) (ai (fun k7:(!(F72 (F73 (((Qa lines (⟨#[110,97,116]⟩:ByteArray)).getD (Int.toNat 0) default).getD (Int.toNat 1) default)).1 (F69 (((Qa lines (⟨#[100,111,111,114]⟩:ByteArray)).getD (Int.toNat v64) default).getD (Int.toNat 3) default))))=false=>(by (first | omega | (have h9:=Zk lines (by first | omega | (simp only [lens,ib] at*<;> omega)) (Int.toNat 0) (by first | omega | (simp only [lens,ib] at*<;> omega)); unfold natP at h9; omega) | (have h9:=Ya lines (by first | omega | (simp only [lens,ib] at*<;> omega)) (Int.toNat v64) (by first | omega | (simp only [lens,ib] at*<;> omega)); unfold Ui at h9; omega) | (have h9:=Us lines (by first | omega | (simp only [lens,ib] at*<;> omega)) (Int.toNat v64) (Int.toNat v89) (by first | omega | (simp only [lens,ib] at*<;> omega)); unfold Ui at h9; omega)):0≤(2:Int)∧(2:Int)<(((Qa lines (⟨#[100,111,111,114]⟩:ByteArray)).getD (Int.toNat v64) default).length:Int))) (kg74 (!(F72 (F73 (((Qa lines (⟨#[110,97,116]⟩:ByteArray)).getD (Int.toNat 0) default).getD (Int.toNat 1) default)).1 (F69 (((Qa lines (⟨#[100,111,111,114]⟩:ByteArray)).getD (Int.toNat v64) default).getD (Int.toNat 3) default)))) false (((Qa lines (⟨#[100,111,111,114]⟩:ByteArray)).getD (Int.toNat v64) default).getD (Int.toNat 2) default) (fun k8=>(by exact Zj lines _ (by first | omega | (simp only [lens,ib] at*<;> omega)) _ _)) (Qox (!(F72 (F73 (((Qa lines (⟨#[110,97,116]⟩:ByteArray)).getD (Int.toNat 0) default).getD (Int.toNat 1) default)).1 (F69 (((Qa lines (⟨#[100,111,111,114]⟩:ByteArray)).getD (Int.toNat v64) default).getD (Int.toNat 3) default)))) false (F74 (((Qa lines (⟨#[100,111,111,114]⟩:ByteArray)).getD (Int.toNat v64) default).getD (Int.toNat 2) default)) (F74 (((Qa lines (⟨#[110,97,116]⟩:ByteArray)).getD (Int.toNat 0) default).getD (Int.toNat 3) default)) (F74 (((Qa lines (⟨#[110,97,116]⟩:ByteArray)).getD (Int.toNat 0) default).getD (Int.toNat 4) default)) (ifb (bif (!(F72 (F73 (((Qa lines (⟨#[110,97,116]⟩:ByteArray)).getD (Int.toNat 0) default).getD (Int.toNat 1) default)).1 (F69 (((Qa lines (⟨#[100,111,111,114]⟩:ByteArray)).getD (Int.toNat v64) default).getD (Int.toNat 3) default)))) then true else (decide ((F74 (((Qa lines (⟨#[110,97,116]⟩:ByteArray)).getD (Int.toNat 0) default).getD (Int.toNat 3) default))≤(F74 (((Qa lines (⟨#[100,111,111,114]⟩:ByteArray)).getD (Int.toNat v64) default).getD (Int.toNat 2) default))∧(F74 (((Qa lines (⟨#[100,111,111,114]⟩:ByteArray)).getD (Int.toNat v64) default).getD (Int.toNat 2) default))≤(F74 (((Qa lines (⟨#[110,97,116]⟩:ByteArray)).getD (Int.toNat 0) default).getD (Int.toNat 4) default))))) (fun h10=>fiB true (F40 lines) (condF h3 (condF h4 (finR (Qp hI0 (condT h6 (condT h10 rfl))) rfl)))) (fun h10=>have _:¬ ((F74 (((Qa lines (⟨#[110,97,116]⟩:ByteArray)).getD (Int.toNat 0) default).getD (Int.toNat 3) default))≤(F74 (((Qa lines (⟨#[100,111,111,114]⟩:ByteArray)).getD (Int.toNat v64) default).getD (Int.toNat 2) default))∧(F74 (((Qa lines (⟨#[100,111,111,114]⟩:ByteArray)).getD (Int.toNat v64) default).getD (Int.toNat 2) default))≤(F74 (((Qa lines (⟨#[110,97,116]⟩:ByteArray)).getD (Int.toNat 0) default).getD (Int.toNat 4) default))):=of_decide_eq_false (orF2 h10); ai (by first | omega | (simp only [lens,ib] at*<;> omega):0≤(0:Int)∧(0:Int)≤v64∧v64≤((Qa lines (⟨#[100,111,111,114]⟩:ByteArray)).length:Int)) (kn ((Qa lines (⟨#[100,111,111,114]⟩:ByteArray)).getD (Int.toNat v64) default) fun _=>kn ((Qa lines (⟨#[100,111,111,114]⟩:ByteArray)).take (Int.toNat v64)) fun _=>ai (en40_1 lines v64 (by first | omega | (simp only [lens,ib] at*<;> omega))) (fun (i1:Nat×Int) (hi1:Rm lines v64 i1)=>(fun (m1:Nat) (v89:Int) (hh1:Qym lines v64 i1 m1 v89)=>have hI1:=hh1.1; have hl1:=hh1.2.1; have _:=hh1.2.2.1; have _:=hh1.2.2.2; ifd (v89<(((Qa lines (⟨#[100,111,111,114]⟩:ByteArray)).take (Int.toNat v64)).length:Int)) (fun h12 _=>ai (by (first | omega | (have h9:=Zk lines (by first | omega | (simp only [lens,ib] at*<;> omega)) (Int.toNat 0) (by first | omega | (simp only [lens,ib] at*<;> omega)); unfold natP at h9; omega) | (have h9:=Ya lines (by first | omega | (simp only [lens,ib] at*<;> omega)) (Int.toNat v64) (by first | omega | (simp only [lens,ib] at*<;> omega)); unfold Ui at h9; omega) | (have h9:=Us lines (by first | omega | (simp only [lens,ib] at*<;> omega)) (Int.toNat v64) (Int.toNat v89) (by first | omega | (simp only [lens,ib] at*<;> omega)); unfold Ui at h9; omega)):0≤v89∧v89<(((Qa lines (⟨#[100,111,111,114]⟩:ByteArray)).take (Int.toNat v64)).length:Int)) (ai (by (first | omega | (have h9:=Zk lines (by first | omega | (simp only [lens,ib] at*<;> omega)) (Int.toNat 0) (by first | omega | (simp only [lens,ib] at*<;> omega)); unfold natP at h9; omega) | (have h9:=Ya lines (by first | omega | (simp only [lens,ib] at*<;> omega)) (Int.toNat v64) (by first | omega | (simp only [lens,ib] at*<;> omega)); unfold Ui at h9; omega) | (have h9:=Us lines (by first | omega | (simp only [lens,ib] at*<;> omega)) (Int.toNat v64) (Int.toNat v89) (by first | omega | (simp only [lens,ib] at*<;> omega)); unfold Ui at h9; omega)):0≤(1:Int)∧(1:Int)<((((Qa lines (⟨#[100,111,111,114]⟩:ByteArray)).take (Int.toNat v64)).getD (Int.toNat v89) default).length:Int)) (ai (by (first | omega | (have h9:=Zk lines (by first | omega | (simp only [lens,ib] at*<;> omega)) (Int.toNat 0) (by first | omega | (simp only [lens,ib] at*<;> omega)); unfold natP at h9; omega) | (have h9:=Ya lines (by first | omega | (simp only [lens,ib] at*<;> omega)) (Int.toNat v64) (by first | omega | (simp only [lens,ib] at*<;> omega)); unfold Ui at h9; omega) | (have h9:=Us lines (by first | omega | (simp only [lens,ib] at*<;> omega)) (Int.toNat v64) (Int.toNat v89) (by first | omega | (simp only [lens,ib] at*<;> omega)); unfold Ui at h9; omega)):0≤(1:Int)∧(1:Int)<(((Qa lines (⟨#[100,111,111,114]⟩:ByteArray)).getD (Int.toNat v64) default).length:Int)) (ai (fun k13:(((((Qa lines (⟨#[100,111,111,114]⟩:ByteArray)).take (Int.toNat v64)).getD (Int.toNat v89) default).getD (Int.toNat 1) default).toList==(((Qa lines (⟨#[100,111,111,114]⟩:ByteArray)).getD (Int.toNat v64) default).getD (Int.toNat 1) default).toList)=true=>(by (first | omega | (have h9:=Zk lines (by first | omega | (simp only [lens,ib] at*<;> omega)) (Int.toNat 0) (by first | omega | (simp only [lens,ib] at*<;> omega)); unfold natP at h9; omega) | (have h9:=Ya lines (by first | omega | (simp only [lens,ib] at*<;> omega)) (Int.toNat v64) (by first | omega | (simp only [lens,ib] at*<;> omega)); unfold Ui at h9; omega) | (have h9:=Us lines (by first | omega | (simp only [lens,ib] at*<;> omega)) (Int.toNat v64) (Int.toNat v89) (by first | omega | (simp only [lens,ib] at*<;> omega)); unfold Ui at h9; omega)):0≤(3:Int)∧(3:Int)<((((Qa lines (⟨#[100,111,111,114]⟩:ByteArray)).take (Int.toNat v64)).getD (Int.toNat v89) default).length:Int))) (ai (fun k14:(((((Qa lines (⟨#[100,111,111,114]⟩:ByteArray)).take (Int.toNat v64)).getD (Int.toNat v89) default).getD (Int.toNat 1) default).toList==(((Qa lines (⟨#[100,111,111,114]⟩:ByteArray)).getD (Int.toNat v64) default).getD (Int.toNat 1) default).toList)=true=>(by (first | omega | (have h9:=Zk lines (by first | omega | (simp only [lens,ib] at*<;> omega)) (Int.toNat 0) (by first | omega | (simp only [lens,ib] at*<;> omega)); unfold natP at h9; omega) | (have h9:=Ya lines (by first | omega | (simp only [lens,ib] at*<;> omega)) (Int.toNat v64) (by first | omega | (simp only [lens,ib] at*<;> omega)); unfold Ui at h9; omega) | (have h9:=Us lines (by first | omega | (simp only [lens,ib] at*<;> omega)) (Int.toNat v64) (Int.toNat v89) (by first | omega | (simp only [lens,ib] at*<;> omega)); unfold Ui at h9; omega)):0≤(3:Int)∧(3:Int)<(((Qa lines (⟨#[100,111,111,114]⟩:ByteArray)).getD (Int.toNat v64) default).length:Int))) (ai (fun k15:(bif (((((Qa lines (⟨#[100,111,111,114]⟩:ByteArray)).take (Int.toNat v64)).getD (Int.toNat v89) default).getD (Int.toNat 1) default).toList==(((Qa lines (⟨#[100,111,111,114]⟩:ByteArray)).getD (Int.toNat v64) default).getD (Int.toNat 1) default).toList) then (((((Qa lines (⟨#[100,111,111,114]⟩:ByteArray)).take (Int.toNat v64)).getD (Int.toNat v89) default).getD (Int.toNat 3) default).toList==(((Qa lines (⟨#[100,111,111,114]⟩:ByteArray)).getD (Int.toNat v64) default).getD (Int.toNat 3) default).toList) else false)=true=>have _:(((((Qa lines (⟨#[100,111,111,114]⟩:ByteArray)).take (Int.toNat v64)).getD (Int.toNat v89) default).getD (Int.toNat 1) default).toList==(((Qa lines (⟨#[100,111,111,114]⟩:ByteArray)).getD (Int.toNat v64) default).getD (Int.toNat 1) default).toList)=true:=(Qn k15); have _:(((((Qa lines (⟨#[100,111,111,114]⟩:ByteArray)).take (Int.toNat v64)).getD (Int.toNat v89) default).getD (Int.toNat 3) default).toList==(((Qa lines (⟨#[100,111,111,114]⟩:ByteArray)).getD (Int.toNat v64) default).getD (Int.toNat 3) default).toList)=true:=(Qx k15); (by (first | omega | (have h9:=Zk lines (by first | omega | (simp only [lens,ib] at*<;> omega)) (Int.toNat 0) (by first | omega | (simp only [lens,ib] at*<;> omega)); unfold natP at h9; omega) | (have h9:=Ya lines (by first | omega | (simp only [lens,ib] at*<;> omega)) (Int.toNat v64) (by first | omega | (simp only [lens,ib] at*<;> omega)); unfold Ui at h9; omega) | (have h9:=Us lines (by first | omega | (simp only [lens,ib] at*<;> omega)) (Int.toNat v64) (Int.toNat v89) (by first | omega | (simp only [lens,ib] at*<;> omega)); unfold Ui at h9; omega)):0≤(4:Int)∧(4:Int)<((((Qa lines (⟨#[100,111,111,114]⟩:ByteArray)).take (Int.toNat v64)).getD (Int.toNat v89) default).length:Int))) (ai (fun k16:(bif (((((Qa lines (⟨#[100,111,111,114]⟩:ByteArray)).take (Int.toNat v64)).getD (Int.toNat v89) default).getD (Int.toNat 1) default).toList==(((Qa lines (⟨#[100,111,111,114]⟩:ByteArray)).getD (Int.toNat v64) default).getD (Int.toNat 1) default).toList) then (((((Qa lines (⟨#[100,111,111,114]⟩:ByteArray)).take (Int.toNat v64)).getD (Int.toNat v89) default).getD (Int.toNat 3) default).toList==(((Qa lines (⟨#[100,111,111,114]⟩:ByteArray)).getD (Int.toNat v64) default).getD (Int.toNat 3) default).toList) else false)=true=>have _:(((((Qa lines (⟨#[100,111,111,114]⟩:ByteArray)).take (Int.toNat v64)).getD (Int.toNat v89) default).getD (Int.toNat 1) default).toList==(((Qa lines (⟨#[100,111,111,114]⟩:ByteArray)).getD (Int.toNat v64) default).getD (Int.toNat 1) default).toList)=true:=(Qn k16); have _:(((((Qa lines (⟨#[100,111,111,114]⟩:ByteArray)).take (Int.toNat v64)).getD (Int.toNat v89) default).getD (Int.toNat 3) default).toList==(((Qa lines (⟨#[100,111,111,114]⟩:ByteArray)).getD (Int.toNat v64) default).getD (Int.toNat 3) default).toList)=true:=(Qx k16); (by (first | omega | (have h9:=Zk lines (by first | omega | (simp only [lens,ib] at*<;> omega)) (Int.toNat 0) (by first | omega | (simp only [lens,ib] at*<;> omega)); unfold natP at h9; omega) | (have h9:=Ya lines (by first | omega | (simp only [lens,ib] at*<;> omega)) (Int.toNat v64) (by first | omega | (simp only [lens,ib] at*<;> omega)); unfold Ui at h9; omega) | (have h9:=Us lines (by first | omega | (simp only [lens,ib] at*<;> omega)) (Int.toNat v64) (Int.toNat v89) (by first | omega | (simp only [lens,ib] at*<;> omega)); unfold Ui at h9; omega)):0≤(4:Int)∧(4:Int)<(((Qa lines (⟨#[100,111,111,114]⟩:ByteArray)).getD (Int.toNat v64) default).length:Int))) (ifb (bif (bif (((((Qa lines (⟨#[100,111,111,114]⟩:ByteArray)).take (Int.toNat v64)).getD (Int.toNat v89) default).getD (Int.toNat 1) default).toList==(((Qa lines (⟨#[100,111,111,114]⟩:ByteArray)).getD (Int.toNat v64) default).getD (Int.toNat 1) default).toList) then (((((Qa lines (⟨#[100,111,111,114]⟩:ByteArray)).take (Int.toNat v64)).getD (Int.toNat v89) default).getD (Int.toNat 3) default).toList==(((Qa lines (⟨#[100,111,111,114]⟩:ByteArray)).getD (Int.toNat v64) default).getD (Int.toNat 3) default).toList) else false) then (((((Qa lines (⟨#[100,111,111,114]⟩:ByteArray)).take (Int.toNat v64)).getD (Int.toNat v89) default).getD (Int.toNat 4) default).toList==(((Qa lines (⟨#[100,111,111,114]⟩:ByteArray)).getD (Int.toNat v64) default).getD (Int.toNat 4) default).toList) else false) (fun h17=>have _:(((((Qa lines (⟨#[100,111,111,114]⟩:ByteArray)).take (Int.toNat v64)).getD (Int.toNat v89) default).getD (Int.toNat 1) default).toList==(((Qa lines (⟨#[100,111,111,114]⟩:ByteArray)).getD (Int.toNat v64) default).getD (Int.toNat 1) default).toList)=true:=(Qn (Qn h17)); have _:(((((Qa lines (⟨#[100,111,111,114]⟩:ByteArray)).take (Int.toNat v64)).getD (Int.toNat v89) default).getD (Int.toNat 3) default).toList==(((Qa lines (⟨#[100,111,111,114]⟩:ByteArray)).getD (Int.toNat v64) default).getD (Int.toNat 3) default).toList)=true:=(Qx (Qn h17)); have _:(((((Qa lines (⟨#[100,111,111,114]⟩:ByteArray)).take (Int.toNat v64)).getD (Int.toNat v89) default).getD (Int.toNat 4) default).toList==(((Qa lines (⟨#[100,111,111,114]⟩:ByteArray)).getD (Int.toNat v64) default).getD (Int.toNat 4) default).toList)=true:=(Qx h17); fiB true (F40 lines) (condF h3 (condF h4 (finR (Qp hI0 (condT h6 (condF h10 (finR (Qp hI1 (condT h12 (condT h17 rfl))) rfl)))) rfl)))) (fun h17=>ai (iok (v89+1) (by first | omega | (simp only [lens,ib] at*<;> omega))) (bk40_1 lines v64 i1 m1 (v89+1) hl1 (Qg hI1 (condT h12 (condF h17 rfl))) (by refine ⟨?_,?_⟩ <;> first | omega | (simp only [lens,ib] at*<;> omega)))))))))))) (fun h12 _=>have hD1_18:Uaj lines v64=Lp.done v89:=Qj hI1 (condF h12 rfl); ai (iok (v64+1) (by first | omega | (simp only [lens,ib] at*<;> omega))) (bk40_0 lines i0 m0 (v64+1) hl0 (Qg hI0 (condT h6 (condF h10 (finD hD1_18 rfl)))) (by refine ⟨?_,?_⟩ <;> first | omega | (simp only [lens,ib] at*<;> omega))))) (i1.1-1) i1.2 (un40_1 lines v64 i1 hi1)))))))))))) (fun h6 _=>have hD0_19:Qxu lines=Lp.done v64:=Qj hI0 (condF h6 rfl); fiB false (F40 lines) (condF h3 (condF h4 (finD hD0_19 rfl))))) (i0.1-1) i0.2 (un40_0 lines i0 hi0)))))))))))))))))))) (by kernel_rfl)
theorem kc49 (c:l52Cut) (k:Int) {K_:Prop} (p0_:0≤k) (k_:K_):(0≤k)∧(Imps (Qr c) (Qr c))∧(Imp (.v (vI k)) (.v (vI k)))∧K_:=⟨p0_,Imps.refl _,Imp.refl _,k_⟩
abbrev kh49 (c:l52Cut) (k:Int):Hint true Tryz.prog:=.call 49 (S49 c k) (ok49 c k) none
theorem kg49 {K_:Prop} (c_ b_:Bool) (c:l52Cut) (k:Int) (p_:c_=b_→0≤k) (k_:K_):(c_=b_→0≤k)∧(c_=b_→Imps (Qr c) (Qr c))∧(c_=b_→Imp (.v (vI k)) (.v (vI k)))∧K_:=⟨p_,fun _=>Imps.refl _,fun _=>Imp.refl _,k_⟩
def Bx (all:List l52Cut):Int→Lp Int Bool:=fun i40 =>
 bif (decide (i40<(all.length:Int))) then (bif (bif ((F49 (all.getD (Int.toNat i40) default) 0).toList==(⟨#[117,115,101,114]⟩:ByteArray).toList) then ((F49 (all.getD (Int.toNat i40) default) 2).toList==(⟨#[97,108,108]⟩:ByteArray).toList) else false) then (.ret true) else (.next (i40+1))) else (.done i40)
def F29 (all:List l52Cut):Bool :=
 (runL (Bx all) ((Int.toNat ((all.length:Int)-0))+1) 0).fin (fun r=>r) (fun i40=>false)
abbrev Qcz (all:List l52Cut):Nat×Int:=(((Int.toNat ((all.length:Int)-0))+1),0)
abbrev Qmn (all:List l52Cut) (m39:Nat) (i40:Int):Prop:=Int.toNat ((all.length:Int)-i40)<m39∧(0:Int)≤i40
abbrev Qud (all:List l52Cut):Lp Int Bool:=LpX (Bx all) (Qcz all)
abbrev Ea (all:List l52Cut) (i:Nat×Int):Prop:=LpJ (Bx all) (Qcz all) i (Qmn all i.1 i.2)
abbrev Uai (all:List l52Cut) (i:Nat×Int) (m39:Nat) (i40:Int):Prop:=LpH (Bx all) (Qcz all) i m39 i40 (Qmn all (m39+1) i40)
abbrev Qyb (all:List l52Cut) (i40:Int) (i40_:Int) (K39:Prop):Prop:=((.int .i64 i40:Value)=.int .i64 i40_)∧(Im (.l 1 Qr all))∧K39
theorem un29_0 (all:List l52Cut) (i:Nat×Int) (h:Ea all i):Uai all i (i.1-1) i.2:=⟨hd1 h.1 h.2.1,hd3 h.2.1,hd2 h.2.1,h.2.2⟩
theorem bk29_0 (all:List l52Cut) (i:Nat×Int) (m39:Nat) (i40:Int) (hl:m39<i.1) (e:runL (Bx all) m39 i40=Qud all) (h:Qmn all m39 i40):∃ j:Nat×Int,Qyb all i40 j.2 (Ea all j∧j.1<i.1):=⟨(m39,i40),rfl,Imp.refl _,⟨e,h⟩,hl⟩
theorem en29_0 (all:List l52Cut) (h:(0:Int)≤0):Qyb all 0 0 (Ea all (Qcz all)):=⟨rfl,Imp.refl _,rfl,Nat.lt_succ_self _,h⟩
def S29 (all:List l52Cut):Spec:=⟨[.r (.c (.l 1 Qr all))],.v (.bool (F29 all)),True⟩
theorem ok29 (all:List l52Cut):(S29 all).ok Tryz.prog 29 :=
 Qi mixed (fn:=Tryz.f29) (ct:=.seqk [(0,0)] .no (.seq (.seqk [(0,0)] .no (.blk (.loop (ι:=Nat×Int) (fun i=>(fun (i40:Int)=>(⟨[(0,some (.h 0 0)),(3,some (.v (vI i40)))],[(0,some (.shr none (.l 1 Qr all)))],1⟩:St)) i.2) (Ea all) (fun i=>i.1) (Qcz all) (fun i=>(fun (i40:Int)=>(.seq (.seq .no (.cond .no .no)) (.seq (.blk (.seq (.reg [(4,kh49 (all.getD (Int.toNat i40) default) 0),(11,kh49 (all.getD (Int.toNat i40) default) 2)]) (.cond (.seq .no .no) .no))) (.reg [(1,.bnd)])))) i.2)))) (.seq .no .no))) Tryz.func29 (fun (_:True)=>kn all fun _=>kn all fun _=>ai (en29_0 all (by omega)) (fun (i0:Nat×Int) (hi0:Ea all i0)=>(fun (m0:Nat) (i40:Int) (hh0:Uai all i0 m0 i40)=>have hI0:=hh0.1; have hl0:=hh0.2.1; have _:=hh0.2.2.1; have _:=hh0.2.2.2; ifd (i40<(all.length:Int)) (fun h2 _=>ai (by omega:ib i40 all) (kc49 (all.getD (Int.toNat i40) default) 0 (by omega) (ai (fun k3:((F49 (all.getD (Int.toNat i40) default) 0).toList==w10_.toList)=true=>(by omega:ib i40 all)) (kg49 ((F49 (all.getD (Int.toNat i40) default) 0).toList==w10_.toList) true (all.getD (Int.toNat i40) default) 2 (fun k4=>(by omega)) (ifb (bif ((F49 (all.getD (Int.toNat i40) default) 0).toList==w10_.toList) then ((F49 (all.getD (Int.toNat i40) default) 2).toList==w11_.toList) else false) (fun h5=>have _:((F49 (all.getD (Int.toNat i40) default) 0).toList==w10_.toList)=true:=(Qn h5); have _:((F49 (all.getD (Int.toNat i40) default) 2).toList==w11_.toList)=true:=(Qx h5); fiB true (F29 all) (finR (Qp hI0 (condT h2 (condT h5 rfl))) rfl)) (fun h5=>ai (iok (i40+1) (by omega)) (bk29_0 all i0 m0 (i40+1) hl0 (Qg hI0 (condT h2 (condF h5 rfl))) (by refine ⟨?_,?_⟩ <;> omega)))))))) (fun h2 _=>have hD0_6:Qud all=Lp.done i40:=Qj hI0 (condF h2 rfl); fiB false (F29 all) (finD hD0_6 rfl))) (i0.1-1) i0.2 (un29_0 all i0 hi0))) (by kernel_rfl)
def Ba (all:List l52Cut) (name:ByteArray):(Int×Int)→Lp (Int×Int) Int:=fun (n,i40) =>
 bif (decide (i40<(all.length:Int))) then (bif (bif ((F49 (all.getD (Int.toNat i40) default) 0).toList==(⟨#[114,117,108,101]⟩:ByteArray).toList) then ((F49 (all.getD (Int.toNat i40) default) 1).toList==name.toList) else false) then (.next ((n+1),(i40+1))) else (.next (n,(i40+1)))) else (.done (n,i40))
def F50 (all:List l52Cut) (name:ByteArray):Int :=
 (runL (Ba all name) ((Int.toNat ((all.length:Int)-0))+1) (0,0)).fin (fun r=>r) (fun (n,i40)=>n)
abbrev Qag (all:List l52Cut):Nat×(Int×Int):=(((Int.toNat ((all.length:Int)-0))+1),(0,0))
abbrev Qln (all:List l52Cut) (m39:Nat) (n:Int) (i40:Int):Prop:=Int.toNat ((all.length:Int)-i40)<m39∧(0:Int)≤n∧(n:Int)≤i40∧(0:Int)≤n∧(0:Int)≤i40
abbrev Qzb (all:List l52Cut) (name:ByteArray):Lp (Int×Int) Int:=LpX (Ba all name) (Qag all)
abbrev Qdb (all:List l52Cut) (name:ByteArray) (i:Nat×(Int×Int)):Prop:=LpJ (Ba all name) (Qag all) i (Qln all i.1 i.2.1 i.2.2)
abbrev Qvl (all:List l52Cut) (name:ByteArray) (i:Nat×(Int×Int)) (m39:Nat) (n:Int) (i40:Int):Prop:=LpH (Ba all name) (Qag all) i m39 (n,i40) (Qln all (m39+1) n i40)
abbrev Qsz (all:List l52Cut) (name:ByteArray) (n:Int) (i40:Int) (n_:Int) (i40_:Int) (K39:Prop):Prop:=(Rf (.string name))∧((.int .i64 n:Value)=.int .i64 n_)∧((.int .i64 i40:Value)=.int .i64 i40_)∧(Im (.l 1 Qr all))∧K39
theorem un50_0 (all:List l52Cut) (name:ByteArray) (i:Nat×(Int×Int)) (h:Qdb all name i):Qvl all name i (i.1-1) i.2.1 i.2.2:=⟨hd1 h.1 h.2.1,hd3 h.2.1,hd2 h.2.1,h.2.2⟩
theorem Qvy (all:List l52Cut) (name:ByteArray) (i:Nat×(Int×Int)) (m39:Nat) (n:Int) (i40:Int) (hl:m39<i.1) (e:runL (Ba all name) m39 (n,i40)=Qzb all name) (h:Qln all m39 n i40):∃ j:Nat×(Int×Int),Qsz all name n i40 j.2.1 j.2.2 (Qdb all name j∧j.1<i.1):=⟨(m39,(n,i40)),rfl,rfl,rfl,Imp.refl _,⟨e,h⟩,hl⟩
theorem en50_0 (all:List l52Cut) (name:ByteArray) (h:(0:Int)≤0∧(0:Int)≤0∧(0:Int)≤0∧(0:Int)≤0):Qsz all name 0 0 0 0 (Qdb all name (Qag all)):=⟨rfl,rfl,rfl,Imp.refl _,rfl,Nat.lt_succ_self _,h⟩
def S50 (all:List l52Cut) (name:ByteArray):Spec:=⟨[.r (.c (.l 1 Qr all)),.r (.c (.v (.string name)))],.v (vI (F50 all name)),True⟩
theorem ok50 (all:List l52Cut) (name:ByteArray):(S50 all name).ok Tryz.prog 50 :=
 Qi mixed (fn:=Tryz.f50) (ct:=.seqk [(0,0)] .no (.seq .no (.seq (.seqk [(0,0)] .no (.blk (.loop (ι:=Nat×(Int×Int)) (fun i=>(fun (n:Int) (i40:Int)=>(⟨[(0,some (.h 0 0)),(1,some (.v (.string name))),(5,some (.v (vI n))),(6,some (.v (vI i40)))],[(0,some (.shr none (.l 1 Qr all)))],1⟩:St)) i.2.1 i.2.2) (Qdb all name) (fun i=>i.1) (Qag all) (fun i=>(fun (n:Int) (i40:Int)=>(.seq (.seq .no (.cond .no .no)) (.seq (.blk (.seq (.reg [(4,kh49 (all.getD (Int.toNat i40) default) 0),(11,kh49 (all.getD (Int.toNat i40) default) 1)]) (.cond (.reg [(1,.bnd)]) .no))) (.reg [(1,.bnd)])))) i.2.1 i.2.2)))) (.seq .no .no)))) Tryz.func50 (fun (_:True)=>kn all fun _=>kn all fun _=>ai (en50_0 all name (by refine ⟨?_,?_,?_,?_⟩ <;> omega)) (fun (i0:Nat×(Int×Int)) (hi0:Qdb all name i0)=>(fun (m0:Nat) (n:Int) (i40:Int) (hh0:Qvl all name i0 m0 n i40)=>have hI0:=hh0.1; have hl0:=hh0.2.1; have _:=hh0.2.2.1; have _:=hh0.2.2.2; ifd (i40<(all.length:Int)) (fun h2 _=>ai (by omega:ib i40 all) (kc49 (all.getD (Int.toNat i40) default) 0 (by omega) (ai (fun k3:((F49 (all.getD (Int.toNat i40) default) 0).toList==w9_.toList)=true=>(by omega:ib i40 all)) (kg49 ((F49 (all.getD (Int.toNat i40) default) 0).toList==w9_.toList) true (all.getD (Int.toNat i40) default) 1 (fun k4=>(by omega)) (ifb (bif ((F49 (all.getD (Int.toNat i40) default) 0).toList==w9_.toList) then ((F49 (all.getD (Int.toNat i40) default) 1).toList==name.toList) else false) (fun h5=>have _:((F49 (all.getD (Int.toNat i40) default) 0).toList==w9_.toList)=true:=(Qn h5); have _:=(Qx h5); ai (iok (n+1) (by omega)) (ai (iok (i40+1) (by omega)) (Qvy all name i0 m0 (n+1) (i40+1) hl0 (Qg hI0 (condT h2 (condT h5 rfl))) (by refine ⟨?_,?_,?_,?_,?_⟩ <;> omega)))) (fun h5=>ai (iok (i40+1) (by omega)) (Qvy all name i0 m0 n (i40+1) hl0 (Qg hI0 (condT h2 (condF h5 rfl))) (by refine ⟨?_,?_,?_,?_,?_⟩ <;> omega)))))))) (fun h2 _=>have hD0_6:Qzb all name=Lp.done (n,i40):=Qj hI0 (condF h2 rfl); fiI n (F50 all name) (finD hD0_6 rfl))) (i0.1-1) i0.2.1 i0.2.2 (un50_0 all name i0 hi0))) (by kernel_rfl)
theorem kg50 {K_:Prop} (c_ b_:Bool) (all:List l52Cut) (name:ByteArray) (k_:K_):(c_=b_→True)∧(c_=b_→Imp (.l 1 Qr all) (.l 1 Qr all))∧(c_=b_→Imp (.v (.string name)) (.v (.string name)))∧K_:=⟨fun _=>trivial,fun _=>Imp.refl _,fun _=>Imp.refl _,k_⟩
abbrev kh50 (all:List l52Cut) (name:ByteArray):Hint true Tryz.prog:=.call 50 (S50 all name) (ok50 all name) none
def Br (all:List l52Cut):Int→Lp Int Bool:=fun i40 =>
 bif (decide (i40<(all.length:Int))) then (bif (bif (bif ((F49 (all.getD (Int.toNat i40) default) 0).toList==(⟨#[112,111,114,116]⟩:ByteArray).toList) then (!((F49 (all.getD (Int.toNat i40) default) 4).toList==(⟨#[]⟩:ByteArray).toList)) else false) then ((F50 all (F49 (all.getD (Int.toNat i40) default) 4))==0) else false) then (.ret false) else (bif (bif ((F49 (all.getD (Int.toNat i40) default) 0).toList==(⟨#[114,117,108,101]⟩:ByteArray).toList) then decide ((F50 all (F49 (all.getD (Int.toNat i40) default) 1))>12) else false) then (.ret false) else (.next (i40+1)))) else (.done i40)
def F30 (all:List l52Cut):Bool :=
 (runL (Br all) ((Int.toNat ((all.length:Int)-0))+1) 0).fin (fun r=>r) (fun i40=>true)
abbrev Tm (all:List l52Cut):Nat×Int:=(((Int.toNat ((all.length:Int)-0))+1),0)
abbrev Qkr (all:List l52Cut) (m39:Nat) (i40:Int):Prop:=Int.toNat ((all.length:Int)-i40)<m39∧(0:Int)≤i40
abbrev Uah (all:List l52Cut):Lp Int Bool:=LpX (Br all) (Tm all)
abbrev Rs (all:List l52Cut) (i:Nat×Int):Prop:=LpJ (Br all) (Tm all) i (Qkr all i.1 i.2)
abbrev Qzh (all:List l52Cut) (i:Nat×Int) (m39:Nat) (i40:Int):Prop:=LpH (Br all) (Tm all) i m39 i40 (Qkr all (m39+1) i40)
abbrev Qyo (all:List l52Cut) (i40:Int) (i40_:Int) (K39:Prop):Prop:=((.int .i64 i40:Value)=.int .i64 i40_)∧(Im (.l 1 Qr all))∧K39
theorem un30_0 (all:List l52Cut) (i:Nat×Int) (h:Rs all i):Qzh all i (i.1-1) i.2:=⟨hd1 h.1 h.2.1,hd3 h.2.1,hd2 h.2.1,h.2.2⟩
theorem bk30_0 (all:List l52Cut) (i:Nat×Int) (m39:Nat) (i40:Int) (hl:m39<i.1) (e:runL (Br all) m39 i40=Uah all) (h:Qkr all m39 i40):∃ j:Nat×Int,Qyo all i40 j.2 (Rs all j∧j.1<i.1):=⟨(m39,i40),rfl,Imp.refl _,⟨e,h⟩,hl⟩
theorem en30_0 (all:List l52Cut) (h:(0:Int)≤0):Qyo all 0 0 (Rs all (Tm all)):=⟨rfl,Imp.refl _,rfl,Nat.lt_succ_self _,h⟩
def S30 (all:List l52Cut):Spec:=⟨[.r (.c (.l 1 Qr all))],.v (.bool (F30 all)),True⟩
abbrev Ur (all:List l52Cut) (i40:Int):=(all.getD (Int.toNat i40) default)
theorem ok30 (all:List l52Cut):(S30 all).ok Tryz.prog 30 :=
 Qi mixed (fn:=Tryz.f30) (ct:=.seqk [(0,0)] .no (.seq (.seqk [(0,0)] .no (.blk (.loop (ι:=Nat×Int) (fun i=>(fun (i40:Int)=>(⟨[(0,some (.h 0 0)),(3,some (.v (vI i40)))],[(0,some (.shr none (.l 1 Qr all)))],1⟩:St)) i.2) (Rs all) (fun i=>i.1) (Tm all) (fun i=>(fun (i40:Int)=>(.seq (.seq .no (.cond .no .no)) (.seq (.blk (.seq (.seq (.reg [(4,kh49 (Ur all i40) 0),(11,kh49 (Ur all i40) 4),(20,kh49 (Ur all i40) 4),(21,kh50 all (F49 (Ur all i40) 4))]) (.cond (.seq .no .no) .no)) (.seq (.reg [(4,kh49 (Ur all i40) 0),(12,kh49 (Ur all i40) 1),(13,kh50 all (F49 (Ur all i40) 1))]) (.cond (.seq .no .no) .no)))) (.reg [(1,.bnd)])))) i.2)))) (.seq .no .no))) Tryz.func30 (fun (_:True)=>kn all fun _=>kn all fun _=>ai (en30_0 all (by omega)) (fun (i0:Nat×Int) (hi0:Rs all i0)=>(fun (m0:Nat) (i40:Int) (hh0:Qzh all i0 m0 i40)=>have hI0:=hh0.1; have hl0:=hh0.2.1; have _:=hh0.2.2.1; have _:=hh0.2.2.2; ifd (i40<(all.length:Int)) (fun h2 _=>ai (by omega:ib i40 all) (kc49 (Ur all i40) 0 (by omega) (ai (fun k3:((F49 (Ur all i40) 0).toList==w7_.toList)=true=>(by omega:ib i40 all)) (kg49 ((F49 (Ur all i40) 0).toList==w7_.toList) true (Ur all i40) 4 (fun k4=>(by omega)) (ai (fun k5:(bif ((F49 (Ur all i40) 0).toList==w7_.toList) then (!((F49 (Ur all i40) 4).toList==w13_.toList)) else false)=true=>have _:((F49 (Ur all i40) 0).toList==w7_.toList)=true:=(Qn k5); have _:(!((F49 (Ur all i40) 4).toList==w13_.toList))=true:=(Qx k5); (by omega:ib i40 all)) (kg49 (bif ((F49 (Ur all i40) 0).toList==w7_.toList) then (!((F49 (Ur all i40) 4).toList==w13_.toList)) else false) true (Ur all i40) 4 (fun k6=>have _:((F49 (Ur all i40) 0).toList==w7_.toList)=true:=(Qn k6); have _:(!((F49 (Ur all i40) 4).toList==w13_.toList))=true:=(Qx k6); (by omega)) (kg50 (bif ((F49 (Ur all i40) 0).toList==w7_.toList) then (!((F49 (Ur all i40) 4).toList==w13_.toList)) else false) true all (F49 (Ur all i40) 4) (ifb (bif (bif ((F49 (Ur all i40) 0).toList==w7_.toList) then (!((F49 (Ur all i40) 4).toList==w13_.toList)) else false) then ((F50 all (F49 (Ur all i40) 4))==0) else false) (fun h8=>have _:((F49 (Ur all i40) 0).toList==w7_.toList)=true:=(Qn (Qn h8)); have _:(!((F49 (Ur all i40) 4).toList==w13_.toList))=true:=(Qx (Qn h8)); have _:=eq_of_beq (Qx h8); fiB false (F30 all) (finR (Qp hI0 (condT h2 (condT h8 rfl))) rfl)) (fun h8=>ai (by omega:ib i40 all) (kc49 (Ur all i40) 0 (by omega) (ai (fun k9:((F49 (Ur all i40) 0).toList==w9_.toList)=true=>(by omega:ib i40 all)) (kg49 ((F49 (Ur all i40) 0).toList==w9_.toList) true (Ur all i40) 1 (fun k10=>(by omega)) (kg50 ((F49 (Ur all i40) 0).toList==w9_.toList) true all (F49 (Ur all i40) 1) (ifb (bif ((F49 (Ur all i40) 0).toList==w9_.toList) then decide ((F50 all (F49 (Ur all i40) 1))>12) else false) (fun h12=>have _:((F49 (Ur all i40) 0).toList==w9_.toList)=true:=(Qn h12); have _:=of_decide_eq_true (Qx h12); fiB false (F30 all) (finR (Qp hI0 (condT h2 (condF h8 (condT h12 rfl)))) rfl)) (fun h12=>ai (iok (i40+1) (by omega)) (bk30_0 all i0 m0 (i40+1) hl0 (Qg hI0 (condT h2 (condF h8 (condF h12 rfl)))) (by refine ⟨?_,?_⟩ <;> omega))))))))))))))))) (fun h2 _=>have hD0_13:Uah all=Lp.done i40:=Qj hI0 (condF h2 rfl); fiB true (F30 all) (finD hD0_13 rfl))) (i0.1-1) i0.2 (un30_0 all i0 hi0))) (by kernel_rfl)
def Xg (all:List l52Cut) (i40:Int):Int→Lp Int Bool:=fun k =>
 bif (decide (k<i40)) then (bif (bif (!((F49 (all.getD (Int.toNat i40) default) 0).toList==(⟨#[112,111,114,116]⟩:ByteArray).toList)) then true else (!((F49 (all.getD (Int.toNat k) default) 0).toList==(⟨#[112,111,114,116]⟩:ByteArray).toList))) then (.next (k+1)) else (bif (bif decide ((F51 (F49 (all.getD (Int.toNat i40) default) 2)).1<(IntKind.i64.wrap ((F51 (F49 (all.getD (Int.toNat k) default) 2)).1+(F51 (F49 (all.getD (Int.toNat k) default) 2)).2))) then decide ((F51 (F49 (all.getD (Int.toNat k) default) 2)).1<(IntKind.i64.wrap ((F51 (F49 (all.getD (Int.toNat i40) default) 2)).1+(F51 (F49 (all.getD (Int.toNat i40) default) 2)).2))) else false) then (.ret false) else (.next (k+1)))) else (.done k)
def Xi (all:List l52Cut):Int→Lp Int Bool:=fun i40 =>
 bif (decide (i40<(all.length:Int))) then ((runL (Xg all i40) ((Int.toNat (i40-0))+1) 0).fin Lp.ret (fun k=>.next (i40+1))) else (.done i40)
def F31 (all:List l52Cut):Bool :=
 (runL (Xi all) ((Int.toNat ((all.length:Int)-0))+1) 0).fin (fun r=>r) (fun i40=>true)
abbrev Tu (i40:Int):Nat×Int:=(((Int.toNat (i40-0))+1),0)
abbrev Qnr (i40:Int) (m39:Nat) (k:Int):Prop:=Int.toNat (i40-k)<m39∧(0:Int)≤k
abbrev Ube (all:List l52Cut) (i40:Int):Lp Int Bool:=LpX (Xg all i40) (Tu i40)
abbrev Er (all:List l52Cut) (i40:Int) (i:Nat×Int):Prop:=LpJ (Xg all i40) (Tu i40) i (Qnr i40 i.1 i.2)
abbrev Uby (all:List l52Cut) (i40:Int) (i:Nat×Int) (m39:Nat) (k:Int):Prop:=LpH (Xg all i40) (Tu i40) i m39 k (Qnr i40 (m39+1) k)
abbrev Qyy (all:List l52Cut) (i40:Int) (k:Int) (k_:Int) (K39:Prop):Prop:=(Rf (.int .i64 i40))∧((.int .i64 k:Value)=.int .i64 k_)∧(Im (.l 1 Qr all))∧K39
theorem un31_1 (all:List l52Cut) (i40:Int) (i:Nat×Int) (h:Er all i40 i):Uby all i40 i (i.1-1) i.2:=⟨hd1 h.1 h.2.1,hd3 h.2.1,hd2 h.2.1,h.2.2⟩
theorem Qug (all:List l52Cut) (i40:Int) (i:Nat×Int) (m39:Nat) (k:Int) (hl:m39<i.1) (e:runL (Xg all i40) m39 k=Ube all i40) (h:Qnr i40 m39 k):∃ j:Nat×Int,Qyy all i40 k j.2 (Er all i40 j∧j.1<i.1):=⟨(m39,k),rfl,rfl,Imp.refl _,⟨e,h⟩,hl⟩
theorem en31_1 (all:List l52Cut) (i40:Int) (h:(0:Int)≤0):Qyy all i40 0 0 (Er all i40 (Tu i40)):=⟨rfl,rfl,Imp.refl _,rfl,Nat.lt_succ_self _,h⟩
abbrev Qbl (all:List l52Cut):Nat×Int:=(((Int.toNat ((all.length:Int)-0))+1),0)
abbrev Qne (all:List l52Cut) (m39:Nat) (i40:Int):Prop:=Int.toNat ((all.length:Int)-i40)<m39∧(0:Int)≤i40
abbrev Qzp (all:List l52Cut):Lp Int Bool:=LpX (Xi all) (Qbl all)
abbrev Eu (all:List l52Cut) (i:Nat×Int):Prop:=LpJ (Xi all) (Qbl all) i (Qne all i.1 i.2)
abbrev Qxi (all:List l52Cut) (i:Nat×Int) (m39:Nat) (i40:Int):Prop:=LpH (Xi all) (Qbl all) i m39 i40 (Qne all (m39+1) i40)
abbrev Ucl (all:List l52Cut) (i40:Int) (i40_:Int) (K39:Prop):Prop:=((.int .i64 i40:Value)=.int .i64 i40_)∧(Im (.l 1 Qr all))∧K39
theorem un31_0 (all:List l52Cut) (i:Nat×Int) (h:Eu all i):Qxi all i (i.1-1) i.2:=⟨hd1 h.1 h.2.1,hd3 h.2.1,hd2 h.2.1,h.2.2⟩
theorem bk31_0 (all:List l52Cut) (i:Nat×Int) (m39:Nat) (i40:Int) (hl:m39<i.1) (e:runL (Xi all) m39 i40=Qzp all) (h:Qne all m39 i40):∃ j:Nat×Int,Ucl all i40 j.2 (Eu all j∧j.1<i.1):=⟨(m39,i40),rfl,Imp.refl _,⟨e,h⟩,hl⟩
theorem en31_0 (all:List l52Cut) (h:(0:Int)≤0):Ucl all 0 0 (Eu all (Qbl all)):=⟨rfl,Imp.refl _,rfl,Nat.lt_succ_self _,h⟩
def S31 (all:List l52Cut):Spec:=⟨[.r (.c (.l 1 Qr all))],.v (.bool (F31 all)),(∀ k j:Nat,((all.getD k default).w.getD j default).size≤1048576)⟩
abbrev Vm (all:List l52Cut) (i40:Int):=(all.getD (Int.toNat i40) default)
abbrev Bb (all:List l52Cut) (k:Int):=(all.getD (Int.toNat k) default)
theorem ok31 (all:List l52Cut):(S31 all).ok Tryz.prog 31 :=
 Qi mixed (fn:=Tryz.f31) (ct:=.seqk [(0,0)] .no (.seq (.seqk [(0,0)] .no (.blk (.loop (ι:=Nat×Int) (fun i=>(fun (i40:Int)=>(⟨[(0,some (.h 0 0)),(3,some (.v (vI i40)))],[(0,some (.shr none (.l 1 Qr all)))],1⟩:St)) i.2) (Eu all) (fun i=>i.1) (Qbl all) (fun i=>(fun (i40:Int)=>(.seq (.seq .no (.cond .no .no)) (.seq (.blk (.seqk [(0,0)] .no (.blk (.loop (ι:=Nat×Int) (fun i=>(fun (k:Int)=>(⟨[(0,some (.h 0 0)),(3,some (.v (vI i40))),(4,some (.v (vI k)))],[(0,some (.shr none (.l 1 Qr all)))],1⟩:St)) i.2) (Er all i40) (fun i=>i.1) (Tu i40) (fun i=>(fun (k:Int)=>(.seq (.seq .no (.cond .no .no)) (.seq (.blk (.seq (.seq (.reg [(4,kh49 (Vm all i40) 0),(11,kh49 (Bb all k) 0)]) (.cond .no .no)) (.seq (.reg [(4,kh49 (Vm all i40) 2),(5,kh51 (F49 (Vm all i40) 2))]) (.seq (.reg [(4,kh49 (Bb all k) 2),(5,kh51 (F49 (Bb all k) 2))]) (.seq .no (.cond (.seq .no .no) .no)))))) (.reg [(1,.bnd)])))) i.2))))) (.reg [(1,.bnd)])))) i.2)))) (.seq .no .no))) Tryz.func31 (fun (hpre0:∀ k j:Nat,((all.getD k default).w.getD j default).size≤1048576)=>kn all fun _=>kn all fun _=>ai (en31_0 all (by omega)) (fun (i0:Nat×Int) (hi0:Eu all i0)=>(fun (m0:Nat) (i40:Int) (hh0:Qxi all i0 m0 i40)=>have hI0:=hh0.1; have hl0:=hh0.2.1; have _:=hh0.2.2.1; have _:=hh0.2.2.2; ifd (i40<(all.length:Int)) (fun h2 _=>kn all fun _=>ai (en31_1 all i40 (by omega)) (fun (i1:Nat×Int) (hi1:Er all i40 i1)=>(fun (m1:Nat) (k:Int) (hh1:Uby all i40 i1 m1 k)=>have hI1:=hh1.1; have hl1:=hh1.2.1; have _:=hh1.2.2.1; have _:=hh1.2.2.2; ifd (k<i40) (fun h4 _=>ai (by omega:ib i40 all) (kc49 (Vm all i40) 0 (by omega) (ai (fun k5:(!((F49 (Vm all i40) 0).toList==w7_.toList))=false=>(by omega:ib k all)) (kg49 (!((F49 (Vm all i40) 0).toList==w7_.toList)) false (Bb all k) 0 (fun k6=>(by omega)) (ifb (bif (!((F49 (Vm all i40) 0).toList==w7_.toList)) then true else (!((F49 (Bb all k) 0).toList==w7_.toList))) (fun h7=>ai (iok (k+1) (by omega)) (Qug all i40 i1 m1 (k+1) hl1 (Qg hI1 (condT h4 (condT h7 rfl))) (by refine ⟨?_,?_⟩ <;> omega))) (fun h7=>have _:(!((F49 (Vm all i40) 0).toList==w7_.toList))=false:=(orF1 h7); have _:(!((F49 (Bb all k) 0).toList==w7_.toList))=false:=(orF2 h7); ai (by omega:ib i40 all) (kc49 (Vm all i40) 2 (by omega) (kc51 (F49 (Vm all i40) 2) (by exact Xs all (by assumption) _ _) (ai (by omega:ib k all) (kc49 (Bb all k) 2 (by omega) (kc51 (F49 (Bb all k) 2) (by exact Xs all (by assumption) _ _) (ifb (bif decide ((F51 (F49 (Vm all i40) 2)).1<(IntKind.i64.wrap ((F51 (F49 (Bb all k) 2)).1+(F51 (F49 (Bb all k) 2)).2))) then decide ((F51 (F49 (Bb all k) 2)).1<(IntKind.i64.wrap ((F51 (F49 (Vm all i40) 2)).1+(F51 (F49 (Vm all i40) 2)).2))) else false) (fun h8=>have _:=of_decide_eq_true (Qn h8); have _:=of_decide_eq_true (Qx h8); fiB false (F31 all) (finR (Qp hI0 (condT h2 (finR (Qp hI1 (condT h4 (condF h7 (condT h8 rfl)))) rfl))) rfl)) (fun h8=>ai (iok (k+1) (by omega)) (Qug all i40 i1 m1 (k+1) hl1 (Qg hI1 (condT h4 (condF h7 (condF h8 rfl)))) (by refine ⟨?_,?_⟩ <;> omega))))))))))))))) (fun h4 _=>have hD1_9:Ube all i40=Lp.done k:=Qj hI1 (condF h4 rfl); ai (iok (i40+1) (by omega)) (bk31_0 all i0 m0 (i40+1) hl0 (Qg hI0 (condT h2 (finD hD1_9 rfl))) (by refine ⟨?_,?_⟩ <;> omega)))) (i1.1-1) i1.2 (un31_1 all i40 i1 hi1))) (fun h2 _=>have hD0_10:Qzp all=Lp.done i40:=Qj hI0 (condF h2 rfl); fiB true (F31 all) (finD hD0_10 rfl))) (i0.1-1) i0.2 (un31_0 all i0 hi0))) (by kernel_rfl)
def Be (all:List l52Cut) (addr:Int):Int→Lp Int Bool:=fun i40 =>
 bif (decide (i40<(all.length:Int))) then (bif ((F49 (all.getD (Int.toNat i40) default) 0).toList==(⟨#[112,111,114,116]⟩:ByteArray).toList) then (bif (bif decide (addr>(F51 (F49 (all.getD (Int.toNat i40) default) 2)).1) then decide (addr<(IntKind.i64.wrap ((F51 (F49 (all.getD (Int.toNat i40) default) 2)).1+(F51 (F49 (all.getD (Int.toNat i40) default) 2)).2))) else false) then (.ret true) else (.next (i40+1))) else (.next (i40+1))) else (.done i40)
def F52 (all:List l52Cut) (addr:Int):Bool :=
 (runL (Be all addr) ((Int.toNat ((all.length:Int)-0))+1) 0).fin (fun r=>r) (fun i40=>false)
abbrev Qbp (all:List l52Cut):Nat×Int:=(((Int.toNat ((all.length:Int)-0))+1),0)
abbrev Qnf (all:List l52Cut) (m39:Nat) (i40:Int):Prop:=Int.toNat ((all.length:Int)-i40)<m39∧(0:Int)≤i40
abbrev Quv (all:List l52Cut) (addr:Int):Lp Int Bool:=LpX (Be all addr) (Qbp all)
abbrev Te (all:List l52Cut) (addr:Int) (i:Nat×Int):Prop:=LpJ (Be all addr) (Qbp all) i (Qnf all i.1 i.2)
abbrev Uat (all:List l52Cut) (addr:Int) (i:Nat×Int) (m39:Nat) (i40:Int):Prop:=LpH (Be all addr) (Qbp all) i m39 i40 (Qnf all (m39+1) i40)
abbrev Qza (all:List l52Cut) (addr:Int) (i40:Int) (i40_:Int) (K39:Prop):Prop:=(Rf (.int .i64 addr))∧((.int .i64 i40:Value)=.int .i64 i40_)∧(Im (.l 1 Qr all))∧K39
theorem un52_0 (all:List l52Cut) (addr:Int) (i:Nat×Int) (h:Te all addr i):Uat all addr i (i.1-1) i.2:=⟨hd1 h.1 h.2.1,hd3 h.2.1,hd2 h.2.1,h.2.2⟩
theorem Uad (all:List l52Cut) (addr:Int) (i:Nat×Int) (m39:Nat) (i40:Int) (hl:m39<i.1) (e:runL (Be all addr) m39 i40=Quv all addr) (h:Qnf all m39 i40):∃ j:Nat×Int,Qza all addr i40 j.2 (Te all addr j∧j.1<i.1):=⟨(m39,i40),rfl,rfl,Imp.refl _,⟨e,h⟩,hl⟩
theorem en52_0 (all:List l52Cut) (addr:Int) (h:(0:Int)≤0):Qza all addr 0 0 (Te all addr (Qbp all)):=⟨rfl,rfl,Imp.refl _,rfl,Nat.lt_succ_self _,h⟩
def S52 (all:List l52Cut) (addr:Int):Spec:=⟨[.r (.c (.l 1 Qr all)),.r (.c (.v (vI addr)))],.v (.bool (F52 all addr)),(∀ k j:Nat,((all.getD k default).w.getD j default).size≤1048576)⟩
theorem ok52 (all:List l52Cut) (addr:Int):(S52 all addr).ok Tryz.prog 52 :=
 Qi mixed (fn:=Tryz.f52) (ct:=.seqk [(0,0)] .no (.seq (.seqk [(0,0)] .no (.blk (.loop (ι:=Nat×Int) (fun i=>(fun (i40:Int)=>(⟨[(0,some (.h 0 0)),(1,some (.v (vI addr))),(5,some (.v (vI i40)))],[(0,some (.shr none (.l 1 Qr all)))],1⟩:St)) i.2) (Te all addr) (fun i=>i.1) (Qbp all) (fun i=>(fun (i40:Int)=>(.seq (.seq .no (.cond .no .no)) (.seq (.blk (.seq (.reg [(4,kh49 (all.getD (Int.toNat i40) default) 0)]) (.cond (.seq (.reg [(4,kh49 (all.getD (Int.toNat i40) default) 2),(5,kh51 (F49 (all.getD (Int.toNat i40) default) 2))]) (.seq .no (.cond (.seq .no .no) .no))) .no))) (.reg [(1,.bnd)])))) i.2)))) (.seq .no .no))) Tryz.func52 (fun (hpre0:∀ k j:Nat,((all.getD k default).w.getD j default).size≤1048576)=>kn all fun _=>kn all fun _=>ai (en52_0 all addr (by omega)) (fun (i0:Nat×Int) (hi0:Te all addr i0)=>(fun (m0:Nat) (i40:Int) (hh0:Uat all addr i0 m0 i40)=>have hI0:=hh0.1; have hl0:=hh0.2.1; have _:=hh0.2.2.1; have _:=hh0.2.2.2; ifd (i40<(all.length:Int)) (fun h2 _=>ai (by omega:ib i40 all) (kc49 (all.getD (Int.toNat i40) default) 0 (by omega) (ifb ((F49 (all.getD (Int.toNat i40) default) 0).toList==w7_.toList) (fun h3=>ai (by omega:ib i40 all) (kc49 (all.getD (Int.toNat i40) default) 2 (by omega) (kc51 (F49 (all.getD (Int.toNat i40) default) 2) (by exact Xs all (by assumption) _ _) (ifb (bif decide (addr>(F51 (F49 (all.getD (Int.toNat i40) default) 2)).1) then decide (addr<(IntKind.i64.wrap ((F51 (F49 (all.getD (Int.toNat i40) default) 2)).1+(F51 (F49 (all.getD (Int.toNat i40) default) 2)).2))) else false) (fun h4=>have _:=of_decide_eq_true (Qn h4); have _:=of_decide_eq_true (Qx h4); fiB true (F52 all addr) (finR (Qp hI0 (condT h2 (condT h3 (condT h4 rfl)))) rfl)) (fun h4=>ai (iok (i40+1) (by omega)) (Uad all addr i0 m0 (i40+1) hl0 (Qg hI0 (condT h2 (condT h3 (condF h4 rfl)))) (by refine ⟨?_,?_⟩ <;> omega))))))) (fun h3=>ai (iok (i40+1) (by omega)) (Uad all addr i0 m0 (i40+1) hl0 (Qg hI0 (condT h2 (condF h3 rfl))) (by refine ⟨?_,?_⟩ <;> omega)))))) (fun h2 _=>have hD0_5:Quv all addr=Lp.done i40:=Qj hI0 (condF h2 rfl); fiB false (F52 all addr) (finD hD0_5 rfl))) (i0.1-1) i0.2 (un52_0 all addr i0 hi0))) (by kernel_rfl)
theorem kc52 (all:List l52Cut) (addr:Int) {K_:Prop} (p0_:∀ k j:Nat,((all.getD k default).w.getD j default).size≤1048576) (k_:K_):(∀ k j:Nat,((all.getD k default).w.getD j default).size≤1048576)∧(Imp (.l 1 Qr all) (.l 1 Qr all))∧(Imp (.v (vI addr)) (.v (vI addr)))∧K_:=⟨p0_,Imp.refl _,Imp.refl _,k_⟩
abbrev kh52 (all:List l52Cut) (addr:Int):Hint true Tryz.prog:=.call 52 (S52 all addr) (ok52 all addr) none
def Xw (all:List l52Cut):Int→Lp Int Bool:=fun i40 =>
 bif (decide (i40<(all.length:Int))) then (bif ((F49 (all.getD (Int.toNat i40) default) 0).toList==(⟨#[114,111,117,116,101]⟩:ByteArray).toList) then (bif (!(F52 all (F53 (F49 (all.getD (Int.toNat i40) default) 2)))) then (.ret false) else (.next (i40+1))) else (bif ((F49 (all.getD (Int.toNat i40) default) 0).toList==(⟨#[112,101,101,114]⟩:ByteArray).toList) then (bif (!(F52 all (F53 (F49 (all.getD (Int.toNat i40) default) 1)))) then (.ret false) else (.next (i40+1))) else (.next (i40+1)))) else (.done i40)
def F32 (all:List l52Cut):Bool :=
 (runL (Xw all) ((Int.toNat ((all.length:Int)-0))+1) 0).fin (fun r=>r) (fun i40=>true)
abbrev Rr (all:List l52Cut):Nat×Int:=(((Int.toNat ((all.length:Int)-0))+1),0)
abbrev Qll (all:List l52Cut) (m39:Nat) (i40:Int):Prop:=Int.toNat ((all.length:Int)-i40)<m39∧(0:Int)≤i40
abbrev Quz (all:List l52Cut):Lp Int Bool:=LpX (Xw all) (Rr all)
abbrev Rt (all:List l52Cut) (i:Nat×Int):Prop:=LpJ (Xw all) (Rr all) i (Qll all i.1 i.2)
abbrev Qta (all:List l52Cut) (i:Nat×Int) (m39:Nat) (i40:Int):Prop:=LpH (Xw all) (Rr all) i m39 i40 (Qll all (m39+1) i40)
abbrev Quo (all:List l52Cut) (i40:Int) (i40_:Int) (K39:Prop):Prop:=((.int .i64 i40:Value)=.int .i64 i40_)∧(Im (.l 1 Qr all))∧K39
theorem un32_0 (all:List l52Cut) (i:Nat×Int) (h:Rt all i):Qta all i (i.1-1) i.2:=⟨hd1 h.1 h.2.1,hd3 h.2.1,hd2 h.2.1,h.2.2⟩
theorem Qno (all:List l52Cut) (i:Nat×Int) (m39:Nat) (i40:Int) (hl:m39<i.1) (e:runL (Xw all) m39 i40=Quz all) (h:Qll all m39 i40):∃ j:Nat×Int,Quo all i40 j.2 (Rt all j∧j.1<i.1):=⟨(m39,i40),rfl,Imp.refl _,⟨e,h⟩,hl⟩
theorem en32_0 (all:List l52Cut) (h:(0:Int)≤0):Quo all 0 0 (Rt all (Rr all)):=⟨rfl,Imp.refl _,rfl,Nat.lt_succ_self _,h⟩
def S32 (all:List l52Cut):Spec:=⟨[.r (.c (.l 1 Qr all))],.v (.bool (F32 all)),(∀ k j:Nat,((all.getD k default).w.getD j default).size≤1048576)⟩
abbrev Kq (all:List l52Cut) (i40:Int):=(all.getD (Int.toNat i40) default)
theorem ok32 (all:List l52Cut):(S32 all).ok Tryz.prog 32 :=
 Qi mixed (fn:=Tryz.f32) (ct:=.seqk [(0,0)] .no (.seq (.seqk [(0,0)] .no (.blk (.loop (ι:=Nat×Int) (fun i=>(fun (i40:Int)=>(⟨[(0,some (.h 0 0)),(3,some (.v (vI i40)))],[(0,some (.shr none (.l 1 Qr all)))],1⟩:St)) i.2) (Rt all) (fun i=>i.1) (Rr all) (fun i=>(fun (i40:Int)=>(.seq (.seq .no (.cond .no .no)) (.seq (.blk (.seq (.reg [(4,kh49 (Kq all i40) 0)]) (.blk (.seq .no (.cond (.seq (.reg [(5,kh49 (Kq all i40) 2),(6,kh53 (F49 (Kq all i40) 2)),(7,kh52 all (F53 (F49 (Kq all i40) 2)))]) (.cond (.seq .no .no) .no)) (.seq .no (.cond (.seq (.reg [(5,kh49 (Kq all i40) 1),(6,kh53 (F49 (Kq all i40) 1)),(7,kh52 all (F53 (F49 (Kq all i40) 1)))]) (.cond (.seq .no .no) .no)) .no))))))) (.reg [(1,.bnd)])))) i.2)))) (.seq .no .no))) Tryz.func32 (fun (hpre0:∀ k j:Nat,((all.getD k default).w.getD j default).size≤1048576)=>kn all fun _=>kn all fun _=>ai (en32_0 all (by omega)) (fun (i0:Nat×Int) (hi0:Rt all i0)=>(fun (m0:Nat) (i40:Int) (hh0:Qta all i0 m0 i40)=>have hI0:=hh0.1; have hl0:=hh0.2.1; have _:=hh0.2.2.1; have _:=hh0.2.2.2; ifd (i40<(all.length:Int)) (fun h2 _=>ai (by omega:ib i40 all) (kc49 (Kq all i40) 0 (by omega) (ifb ((F49 (Kq all i40) 0).toList==w8_.toList) (fun h3=>ai (by omega:ib i40 all) (kc49 (Kq all i40) 2 (by omega) (kc53 (F49 (Kq all i40) 2) (by exact Xs all (by assumption) _ _) (kc52 all (F53 (F49 (Kq all i40) 2)) (by assumption) (ifb (!(F52 all (F53 (F49 (Kq all i40) 2)))) (fun h4=>fiB false (F32 all) (finR (Qp hI0 (condT h2 (condT h3 (condT h4 rfl)))) rfl)) (fun h4=>ai (iok (i40+1) (by omega)) (Qno all i0 m0 (i40+1) hl0 (Qg hI0 (condT h2 (condT h3 (condF h4 rfl)))) (by refine ⟨?_,?_⟩ <;> omega)))))))) (fun h3=>ifb ((F49 (Kq all i40) 0).toList==w6_.toList) (fun h5=>ai (by omega:ib i40 all) (kc49 (Kq all i40) 1 (by omega) (kc53 (F49 (Kq all i40) 1) (by exact Xs all (by assumption) _ _) (kc52 all (F53 (F49 (Kq all i40) 1)) (by assumption) (ifb (!(F52 all (F53 (F49 (Kq all i40) 1)))) (fun h6=>fiB false (F32 all) (finR (Qp hI0 (condT h2 (condF h3 (condT h5 (condT h6 rfl))))) rfl)) (fun h6=>ai (iok (i40+1) (by omega)) (Qno all i0 m0 (i40+1) hl0 (Qg hI0 (condT h2 (condF h3 (condT h5 (condF h6 rfl))))) (by refine ⟨?_,?_⟩ <;> omega)))))))) (fun h5=>ai (iok (i40+1) (by omega)) (Qno all i0 m0 (i40+1) hl0 (Qg hI0 (condT h2 (condF h3 (condF h5 rfl)))) (by refine ⟨?_,?_⟩ <;> omega))))))) (fun h2 _=>have hD0_7:Quz all=Lp.done i40:=Qj hI0 (condF h2 rfl); fiB true (F32 all) (finD hD0_7 rfl))) (i0.1-1) i0.2 (un32_0 all i0 hi0))) (by kernel_rfl)
def Nl (all:List l52Cut):Int→Lp Int Int:=fun i40 =>
 bif (decide (i40<(all.length:Int))) then (bif ((F49 (all.getD (Int.toNat i40) default) 0).toList==(⟨#[110,97,116]⟩:ByteArray).toList) then (.ret i40) else (.next (i40+1))) else (.done i40)
def F54 (all:List l52Cut):Int :=
 (runL (Nl all) ((Int.toNat ((all.length:Int)-0))+1) 0).fin (fun r=>r) (fun i40=>(-1))
abbrev Qbf (all:List l52Cut):Nat×Int:=(((Int.toNat ((all.length:Int)-0))+1),0)
abbrev Qlp (all:List l52Cut) (m39:Nat) (i40:Int):Prop:=Int.toNat ((all.length:Int)-i40)<m39∧(0:Int)≤i40
abbrev Ucn (all:List l52Cut):Lp Int Int:=LpX (Nl all) (Qbf all)
abbrev Ec (all:List l52Cut) (i:Nat×Int):Prop:=LpJ (Nl all) (Qbf all) i (Qlp all i.1 i.2)
abbrev Qvm (all:List l52Cut) (i:Nat×Int) (m39:Nat) (i40:Int):Prop:=LpH (Nl all) (Qbf all) i m39 i40 (Qlp all (m39+1) i40)
abbrev Qtk (all:List l52Cut) (i40:Int) (i40_:Int) (K39:Prop):Prop:=((.int .i64 i40:Value)=.int .i64 i40_)∧(Im (.l 1 Qr all))∧K39
theorem un54_0 (all:List l52Cut) (i:Nat×Int) (h:Ec all i):Qvm all i (i.1-1) i.2:=⟨hd1 h.1 h.2.1,hd3 h.2.1,hd2 h.2.1,h.2.2⟩
theorem bk54_0 (all:List l52Cut) (i:Nat×Int) (m39:Nat) (i40:Int) (hl:m39<i.1) (e:runL (Nl all) m39 i40=Ucn all) (h:Qlp all m39 i40):∃ j:Nat×Int,Qtk all i40 j.2 (Ec all j∧j.1<i.1):=⟨(m39,i40),rfl,Imp.refl _,⟨e,h⟩,hl⟩
theorem en54_0 (all:List l52Cut) (h:(0:Int)≤0):Qtk all 0 0 (Ec all (Qbf all)):=⟨rfl,Imp.refl _,rfl,Nat.lt_succ_self _,h⟩
def S54 (R:Int) (all:List l52Cut):Spec:=⟨[.r (.c (.l 1 Qr all))],.v (vI R),True⟩
theorem ok54 (all:List l52Cut):(S54 (F54 all) all).ok Tryz.prog 54 :=
 Qi mixed (fn:=Tryz.f54) (ct:=.seqk [(0,0)] .no (.seq (.seqk [(0,0)] .no (.blk (.loop (ι:=Nat×Int) (fun i=>(fun (i40:Int)=>(⟨[(0,some (.h 0 0)),(3,some (.v (vI i40)))],[(0,some (.shr none (.l 1 Qr all)))],1⟩:St)) i.2) (Ec all) (fun i=>i.1) (Qbf all) (fun i=>(fun (i40:Int)=>(.seq (.seq .no (.cond .no .no)) (.seq (.blk (.seq (.reg [(4,kh49 (all.getD (Int.toNat i40) default) 0)]) (.cond (.seq .no .no) .no))) (.reg [(1,.bnd)])))) i.2)))) (.seq .no .no))) Tryz.func54 (fun (_:True)=>kn all fun _=>kn all fun _=>ai (en54_0 all (by omega)) (fun (i0:Nat×Int) (hi0:Ec all i0)=>(fun (m0:Nat) (i40:Int) (hh0:Qvm all i0 m0 i40)=>have hI0:=hh0.1; have hl0:=hh0.2.1; have _:=hh0.2.2.1; have _:=hh0.2.2.2; ifd (i40<(all.length:Int)) (fun h2 _=>ai (by omega:ib i40 all) (kc49 (all.getD (Int.toNat i40) default) 0 (by omega) (ifb ((F49 (all.getD (Int.toNat i40) default) 0).toList==w5_.toList) (fun h3=>fiI i40 (F54 all) (finR (Qp hI0 (condT h2 (condT h3 rfl))) rfl)) (fun h3=>ai (iok (i40+1) (by omega)) (bk54_0 all i0 m0 (i40+1) hl0 (Qg hI0 (condT h2 (condF h3 rfl))) (by refine ⟨?_,?_⟩ <;> omega)))))) (fun h2 _=>have hD0_4:Ucn all=Lp.done i40:=Qj hI0 (condF h2 rfl); fiI (-1) (F54 all) (finD hD0_4 rfl))) (i0.1-1) i0.2 (un54_0 all i0 hi0))) (by kernel_rfl)
theorem as54 (all:List l52Cut):F54 all=(idxI (fun c=>((F49 c 0).toList==(⟨#[110,97,116]⟩:ByteArray).toList)) all):=by
 exact Vf (fun c=>((F49 c 0).toList==(⟨#[110,97,116]⟩:ByteArray).toList)) all (Nl all) (fun i=>rfl)
theorem oa54 (all:List l52Cut):(S54 (idxI (fun c=>((F49 c 0).toList==(⟨#[110,97,116]⟩:ByteArray).toList)) all) all).ok Tryz.prog 54:=by
 intro hp; have h:=ok54 all hp; rw [as54 all] at h; exact h
theorem g54_0 (all:List l52Cut):(idxI (fun c=>((F49 c 0).toList==(⟨#[110,97,116]⟩:ByteArray).toList)) all)<(all.length:Int):=by
 exact Mb _ all
theorem kg56 {K_:Prop} (c_ b_:Bool) (s:ByteArray) (p_:c_=b_→s.size≤1048576) (k_:K_):(c_=b_→s.size≤1048576)∧(c_=b_→Imp (.v (.string s)) (.v (.string s)))∧K_:=⟨p_,fun _=>Imp.refl _,k_⟩
def Bg (all:List l52Cut) (at':Int) (nat:l52Cut):Int→Lp Int Bool:=fun i40 =>
 bif (decide (i40<at')) then (bif (bif (bif (bif ((F49 (all.getD (Int.toNat i40) default) 0).toList==(⟨#[100,111,111,114]⟩:ByteArray).toList) then ((F49 (all.getD (Int.toNat i40) default) 1).toList==(F49 (all.getD (Int.toNat at') default) 1).toList) else false) then ((F49 (all.getD (Int.toNat i40) default) 3).toList==(F49 (all.getD (Int.toNat at') default) 3).toList) else false) then ((F49 (all.getD (Int.toNat i40) default) 4).toList==(F49 (all.getD (Int.toNat at') default) 4).toList) else false) then (.ret false) else (.next (i40+1))) else (.done i40)
def F55 (all:List l52Cut) (at':Int) (nat:l52Cut):Bool :=
 bif (bif (bif decide ((F53 (F49 (all.getD (Int.toNat at') default) 3))<(F51 (F49 nat 1)).1) then true else decide ((F53 (F49 (all.getD (Int.toNat at') default) 3))≥(IntKind.i64.wrap ((F51 (F49 nat 1)).1+(F51 (F49 nat 1)).2)))) then true else (decide ((F56 (F49 nat 3))≤F56 (F49 (all.getD (Int.toNat at') default) 2)∧F56 (F49 (all.getD (Int.toNat at') default) 2)≤(F56 (F49 nat 4))))) then false else ((runL (Bg all at' nat) ((Int.toNat (at'-0))+1) 0).fin (fun r=>r) (fun i40=>true))
abbrev Qaq (at':Int):Nat×Int:=(((Int.toNat (at'-0))+1),0)
abbrev Qnl (at':Int) (m39:Nat) (i40:Int):Prop:=Int.toNat (at'-i40)<m39∧(0:Int)≤i40
abbrev Qvf (all:List l52Cut) (at':Int) (nat:l52Cut):Lp Int Bool:=LpX (Bg all at' nat) (Qaq at')
abbrev Qct (all:List l52Cut) (at':Int) (nat:l52Cut) (i:Nat×Int):Prop:=LpJ (Bg all at' nat) (Qaq at') i (Qnl at' i.1 i.2)
abbrev Ubq (all:List l52Cut) (at':Int) (nat:l52Cut) (i:Nat×Int) (m39:Nat) (i40:Int):Prop:=LpH (Bg all at' nat) (Qaq at') i m39 i40 (Qnl at' (m39+1) i40)
abbrev Qwe (all:List l52Cut) (at':Int) (i40:Int) (i40_:Int) (K39:Prop):Prop:=(Rf (.int .i64 at'))∧((.int .i64 i40:Value)=.int .i64 i40_)∧(Im (.l 1 Qr all))∧(Ims (Qr (all.getD (Int.toNat at') default)))∧K39
theorem un55_0 (all:List l52Cut) (at':Int) (nat:l52Cut) (i:Nat×Int) (h:Qct all at' nat i):Ubq all at' nat i (i.1-1) i.2:=⟨hd1 h.1 h.2.1,hd3 h.2.1,hd2 h.2.1,h.2.2⟩
theorem bk55_0 (all:List l52Cut) (at':Int) (nat:l52Cut) (i:Nat×Int) (m39:Nat) (i40:Int) (hl:m39<i.1) (e:runL (Bg all at' nat) m39 i40=Qvf all at' nat) (h:Qnl at' m39 i40):∃ j:Nat×Int,Qwe all at' i40 j.2 (Qct all at' nat j∧j.1<i.1):=⟨(m39,i40),rfl,rfl,Imp.refl _,Imps.refl _,⟨e,h⟩,hl⟩
theorem en55_0 (all:List l52Cut) (at':Int) (nat:l52Cut) (h:(0:Int)≤0):Qwe all at' 0 0 (Qct all at' nat (Qaq at')):=⟨rfl,rfl,Imp.refl _,Imps.refl _,rfl,Nat.lt_succ_self _,h⟩
def S55 (all:List l52Cut) (at':Int) (nat:l52Cut):Spec:=⟨[.r (.c (.l 1 Qr all)),.r (.c (.v (vI at'))),.r (.g (Qr nat))],.v (.bool (F55 all at' nat)),0≤at'∧at'<(all.length:Int)∧(∀ j:Nat,(nat.w.getD j default).size≤1048576)∧(∀ k j:Nat,((all.getD k default).w.getD j default).size≤1048576)⟩
abbrev Yj (all:List l52Cut) (at':Int):=(all.getD (Int.toNat at') default)
abbrev Ut (all:List l52Cut) (i40:Int):=(all.getD (Int.toNat i40) default)
abbrev Jl (all:List l52Cut) (at':Int):=(F53 (F49 (Yj all at') 3))
theorem ok55 (all:List l52Cut) (at':Int) (nat:l52Cut):(S55 all at' nat).ok Tryz.prog 55 :=
 Qi mixed (fn:=Tryz.f55) (ct:=.seqk [(0,0)] .no (.seq .no (.seq (.reg [(1,kh49 nat 1),(2,kh51 (F49 nat 1))]) (.seq (.reg [(1,kh49 (Yj all at') 3),(2,kh53 (F49 (Yj all at') 3))]) (.seq (.seq (.reg [(12,kh49 (Yj all at') 2),(14,kh49 nat 3),(15,kh56 (F49 nat 3)),(17,kh49 nat 4),(18,kh56 (F49 nat 4)),(19,Jv (F49 (Yj all at') 2) (F56 (F49 nat 3)) (F56 (F49 nat 4)))]) (.cond (.seq .no .no) .no)) (.seq (.seqk [(0,0),(7,0)] .no (.blk (.loop (ι:=Nat×Int) (fun i=>(fun (i40:Int)=>(⟨[(0,some (.h 0 0)),(1,some (.v (vI at'))),(7,some (.p 1 0)),(11,some (.v (vI i40)))],[(0,some (.shr none (.l 1 Qr all))),(1,some (.box 64 [.h 2 1])),(2,some (.mem none none (Qr (Yj all at'))))],3⟩:St)) i.2) (Qct all at' nat) (fun i=>i.1) (Qaq at') (fun i=>(fun (i40:Int)=>(.seq (.seq .no (.cond .no .no)) (.seq (.blk (.seq (.reg [(4,kh49 (Ut all i40) 0),(11,kh49 (Ut all i40) 1),(13,kh49 (Yj all at') 1),(21,kh49 (Ut all i40) 3),(23,kh49 (Yj all at') 3),(31,kh49 (Ut all i40) 4),(33,kh49 (Yj all at') 4)]) (.cond (.seq .no .no) .no))) (.reg [(1,.bnd)])))) i.2)))) (.seq .no .no))))))) Tryz.func55 (fun (hp:0≤at'∧at'<(all.length:Int)∧(∀ j:Nat,(nat.w.getD j default).size≤1048576)∧(∀ k j:Nat,((all.getD k default).w.getD j default).size≤1048576))=>have hpre0:=hp.1; have hpre1:=hp.2.1; have hpre2:=hp.2.2.1; have hpre3:=hp.2.2.2; kn all fun _=>ai (by omega:ib at' all) (kc49 nat 1 (by omega) (kc51 (F49 nat 1) (by exact Qgr (by assumption) _) (kc49 (Yj all at') 3 (by omega) (kc53 (F49 (Yj all at') 3) (by exact Xs all (by assumption) _ _) (kg49 (bif decide ((Jl all at')<(F51 (F49 nat 1)).1) then true else decide ((Jl all at')≥(IntKind.i64.wrap ((F51 (F49 nat 1)).1+(F51 (F49 nat 1)).2)))) false (Yj all at') 2 (fun k1=>have _:=of_decide_eq_false (orF1 k1); have _:=of_decide_eq_false (orF2 k1); (by omega)) (kg49 (bif decide ((Jl all at')<(F51 (F49 nat 1)).1) then true else decide ((Jl all at')≥(IntKind.i64.wrap ((F51 (F49 nat 1)).1+(F51 (F49 nat 1)).2)))) false nat 3 (fun k2=>have _:=of_decide_eq_false (orF1 k2); have _:=of_decide_eq_false (orF2 k2); (by omega)) (kg56 (bif decide ((Jl all at')<(F51 (F49 nat 1)).1) then true else decide ((Jl all at')≥(IntKind.i64.wrap ((F51 (F49 nat 1)).1+(F51 (F49 nat 1)).2)))) false (F49 nat 3) (fun k3=>have _:=of_decide_eq_false (orF1 k3); have _:=of_decide_eq_false (orF2 k3); (by exact Qgr (by assumption) _)) (kg49 (bif decide ((Jl all at')<(F51 (F49 nat 1)).1) then true else decide ((Jl all at')≥(IntKind.i64.wrap ((F51 (F49 nat 1)).1+(F51 (F49 nat 1)).2)))) false nat 4 (fun k4=>have _:=of_decide_eq_false (orF1 k4); have _:=of_decide_eq_false (orF2 k4); (by omega)) (kg56 (bif decide ((Jl all at')<(F51 (F49 nat 1)).1) then true else decide ((Jl all at')≥(IntKind.i64.wrap ((F51 (F49 nat 1)).1+(F51 (F49 nat 1)).2)))) false (F49 nat 4) (fun k5=>have _:=of_decide_eq_false (orF1 k5); have _:=of_decide_eq_false (orF2 k5); (by exact Qgr (by assumption) _)) (Ju (bif decide ((Jl all at')<(F51 (F49 nat 1)).1) then true else decide ((Jl all at')≥(IntKind.i64.wrap ((F51 (F49 nat 1)).1+(F51 (F49 nat 1)).2)))) false (F49 (Yj all at') 2) (F56 (F49 nat 3)) (F56 (F49 nat 4)) (fun k6=>have _:=of_decide_eq_false (orF1 k6); have _:=of_decide_eq_false (orF2 k6); (by exact Xs all (by assumption) _ _)) (ifb (bif (bif decide ((Jl all at')<(F51 (F49 nat 1)).1) then true else decide ((Jl all at')≥(IntKind.i64.wrap ((F51 (F49 nat 1)).1+(F51 (F49 nat 1)).2)))) then true else (decide ((F56 (F49 nat 3))≤F56 (F49 (Yj all at') 2)∧F56 (F49 (Yj all at') 2)≤(F56 (F49 nat 4))))) (fun h7=>fiB false (F55 all at' nat) (condT h7 rfl)) (fun h7=>have _:=of_decide_eq_false (orF1 (orF1 h7)); have _:=of_decide_eq_false (orF2 (orF1 h7)); have _:=of_decide_eq_false (orF2 h7); kn all fun _=>kn (Yj all at').w fun _=>ai (en55_0 all at' nat (by omega)) (fun (i0:Nat×Int) (hi0:Qct all at' nat i0)=>(fun (m0:Nat) (i40:Int) (hh0:Ubq all at' nat i0 m0 i40)=>have hI0:=hh0.1; have hl0:=hh0.2.1; have _:=hh0.2.2.1; have _:=hh0.2.2.2; ifd (i40<at') (fun h9 _=>ai (by omega:ib i40 all) (kc49 (Ut all i40) 0 (by omega) (ai (fun k10:((F49 (Ut all i40) 0).toList==w3_.toList)=true=>(by omega:ib i40 all)) (kg49 ((F49 (Ut all i40) 0).toList==w3_.toList) true (Ut all i40) 1 (fun k11=>(by omega)) (kg49 ((F49 (Ut all i40) 0).toList==w3_.toList) true (Yj all at') 1 (fun k12=>(by omega)) (ai (fun k13:(bif ((F49 (Ut all i40) 0).toList==w3_.toList) then ((F49 (Ut all i40) 1).toList==(F49 (Yj all at') 1).toList) else false)=true=>have _:((F49 (Ut all i40) 0).toList==w3_.toList)=true:=(Qn k13); have _:=(Qx k13); (by omega:ib i40 all)) (kg49 (bif ((F49 (Ut all i40) 0).toList==w3_.toList) then ((F49 (Ut all i40) 1).toList==(F49 (Yj all at') 1).toList) else false) true (Ut all i40) 3 (fun k14=>have _:((F49 (Ut all i40) 0).toList==w3_.toList)=true:=(Qn k14); have _:=(Qx k14); (by omega)) (kg49 (bif ((F49 (Ut all i40) 0).toList==w3_.toList) then ((F49 (Ut all i40) 1).toList==(F49 (Yj all at') 1).toList) else false) true (Yj all at') 3 (fun k15=>have _:((F49 (Ut all i40) 0).toList==w3_.toList)=true:=(Qn k15); have _:=(Qx k15); (by omega)) (ai (fun k16:(bif (bif ((F49 (Ut all i40) 0).toList==w3_.toList) then ((F49 (Ut all i40) 1).toList==(F49 (Yj all at') 1).toList) else false) then ((F49 (Ut all i40) 3).toList==(F49 (Yj all at') 3).toList) else false)=true=>have _:((F49 (Ut all i40) 0).toList==w3_.toList)=true:=(Qn (Qn k16)); have _:=(Qx (Qn k16)); have _:=(Qx k16); (by omega:ib i40 all)) (kg49 (bif (bif ((F49 (Ut all i40) 0).toList==w3_.toList) then ((F49 (Ut all i40) 1).toList==(F49 (Yj all at') 1).toList) else false) then ((F49 (Ut all i40) 3).toList==(F49 (Yj all at') 3).toList) else false) true (Ut all i40) 4 (fun k17=>have _:((F49 (Ut all i40) 0).toList==w3_.toList)=true:=(Qn (Qn k17)); have _:=(Qx (Qn k17)); have _:=(Qx k17); (by omega)) (kg49 (bif (bif ((F49 (Ut all i40) 0).toList==w3_.toList) then ((F49 (Ut all i40) 1).toList==(F49 (Yj all at') 1).toList) else false) then ((F49 (Ut all i40) 3).toList==(F49 (Yj all at') 3).toList) else false) true (Yj all at') 4 (fun k18=>have _:((F49 (Ut all i40) 0).toList==w3_.toList)=true:=(Qn (Qn k18)); have _:=(Qx (Qn k18)); have _:=(Qx k18); (by omega)) (ifb (bif (bif (bif ((F49 (Ut all i40) 0).toList==w3_.toList) then ((F49 (Ut all i40) 1).toList==(F49 (Yj all at') 1).toList) else false) then ((F49 (Ut all i40) 3).toList==(F49 (Yj all at') 3).toList) else false) then ((F49 (Ut all i40) 4).toList==(F49 (Yj all at') 4).toList) else false) (fun h19=>have _:((F49 (Ut all i40) 0).toList==w3_.toList)=true:=(Qn (Qn (Qn h19))); have _:=(Qx (Qn (Qn h19))); have _:=(Qx (Qn h19)); have _:=(Qx h19); fiB false (F55 all at' nat) (condF h7 (finR (Qp hI0 (condT h9 (condT h19 rfl))) rfl))) (fun h19=>ai (iok (i40+1) (by omega)) (bk55_0 all at' nat i0 m0 (i40+1) hl0 (Qg hI0 (condT h9 (condF h19 rfl))) (by refine ⟨?_,?_⟩ <;> omega))))))))))))))) (fun h9 _=>have hD0_20:Qvf all at' nat=Lp.done i40:=Qj hI0 (condF h9 rfl); fiB true (F55 all at' nat) (condF h7 (finD hD0_20 rfl)))) (i0.1-1) i0.2 (un55_0 all at' nat i0 hi0))))))))))))))) (by kernel_rfl)
theorem kc54a (all:List l52Cut) {K_:Prop} (k_:((idxI (fun c=>((F49 c 0).toList==w5_.toList)) all)<(all.length:Int))→K_):(True)∧(Imp (.l 1 Qr all) (.l 1 Qr all))∧K_:=⟨trivial,Imp.refl _,k_ (g54_0 all)⟩
abbrev kh54a (all:List l52Cut):Hint true Tryz.prog:=.call 54 (S54 (idxI (fun c=>((F49 c 0).toList==w5_.toList)) all) all) (oa54 all) none
theorem kg55 {K_:Prop} (c_ b_:Bool) (all:List l52Cut) (at':Int) (nat:l52Cut) (p_:c_=b_→0≤at'∧at'<(all.length:Int)∧(∀ j:Nat,(nat.w.getD j default).size≤1048576)∧(∀ k j:Nat,((all.getD k default).w.getD j default).size≤1048576)) (k_:K_):(c_=b_→0≤at'∧at'<(all.length:Int)∧(∀ j:Nat,(nat.w.getD j default).size≤1048576)∧(∀ k j:Nat,((all.getD k default).w.getD j default).size≤1048576))∧(c_=b_→Imp (.l 1 Qr all) (.l 1 Qr all))∧(c_=b_→Imp (.v (vI at')) (.v (vI at')))∧(c_=b_→Imps (Qr nat) (Qr nat))∧K_:=⟨p_,fun _=>Imp.refl _,fun _=>Imp.refl _,fun _=>Imps.refl _,k_⟩
abbrev kh55 (all:List l52Cut) (at':Int) (nat:l52Cut):Hint true Tryz.prog:=.call 55 (S55 all at' nat) (ok55 all at' nat) none
def Bv (all:List l52Cut):(Int×Int)→Lp (Int×Int) Bool:=fun (doors,i40) =>
 bif (decide (i40<(all.length:Int))) then (bif (!((F49 (all.getD (Int.toNat i40) default) 0).toList==(⟨#[100,111,111,114]⟩:ByteArray).toList)) then (.next (doors,(i40+1))) else (bif (bif decide ((idxI (fun c=>((F49 c 0).toList==(⟨#[110,97,116]⟩:ByteArray).toList)) all)<0) then true else (!(F55 all i40 (all.getD (Int.toNat (idxI (fun c=>((F49 c 0).toList==(⟨#[110,97,116]⟩:ByteArray).toList)) all)) default)))) then (.ret false) else (.next ((doors+1),(i40+1))))) else (.done (doors,i40))
def F33 (all:List l52Cut):Bool :=
 (runL (Bv all) ((Int.toNat ((all.length:Int)-0))+1) (0,0)).fin (fun r=>r) (fun (doors,i40)=>bif (decide ((idxI (fun c=>((F49 c 0).toList==(⟨#[110,97,116]⟩:ByteArray).toList)) all)<0)) then true else (bif (bif decide (doors≤6) then (bif decide ((F53 (F49 (all.getD (Int.toNat (idxI (fun c=>((F49 c 0).toList==(⟨#[110,97,116]⟩:ByteArray).toList)) all)) default) 2))<(F51 (F49 (all.getD (Int.toNat (idxI (fun c=>((F49 c 0).toList==(⟨#[110,97,116]⟩:ByteArray).toList)) all)) default) 1)).1) then true else decide ((F53 (F49 (all.getD (Int.toNat (idxI (fun c=>((F49 c 0).toList==(⟨#[110,97,116]⟩:ByteArray).toList)) all)) default) 2))≥(IntKind.i64.wrap ((F51 (F49 (all.getD (Int.toNat (idxI (fun c=>((F49 c 0).toList==(⟨#[110,97,116]⟩:ByteArray).toList)) all)) default) 1)).1+(F51 (F49 (all.getD (Int.toNat (idxI (fun c=>((F49 c 0).toList==(⟨#[110,97,116]⟩:ByteArray).toList)) all)) default) 1)).2)))) else false) then decide ((F56 (F49 (all.getD (Int.toNat (idxI (fun c=>((F49 c 0).toList==(⟨#[110,97,116]⟩:ByteArray).toList)) all)) default) 3))≤(F56 (F49 (all.getD (Int.toNat (idxI (fun c=>((F49 c 0).toList==(⟨#[110,97,116]⟩:ByteArray).toList)) all)) default) 4))) else false))
abbrev Qbk (all:List l52Cut):Nat×(Int×Int):=(((Int.toNat ((all.length:Int)-0))+1),(0,0))
abbrev Qma (all:List l52Cut) (m39:Nat) (doors:Int) (i40:Int):Prop:=Int.toNat ((all.length:Int)-i40)<m39∧(0:Int)≤doors∧(doors:Int)≤i40∧(0:Int)≤doors∧(0:Int)≤i40
abbrev Qwn (all:List l52Cut):Lp (Int×Int) Bool:=LpX (Bv all) (Qbk all)
abbrev Qbe (all:List l52Cut) (i:Nat×(Int×Int)):Prop:=LpJ (Bv all) (Qbk all) i (Qma all i.1 i.2.1 i.2.2)
abbrev Ubj (all:List l52Cut) (i:Nat×(Int×Int)) (m39:Nat) (doors:Int) (i40:Int):Prop:=LpH (Bv all) (Qbk all) i m39 (doors,i40) (Qma all (m39+1) doors i40)
abbrev Qyz (all:List l52Cut) (doors:Int) (i40:Int) (doors_:Int) (i40_:Int) (K39:Prop):Prop:=(Rf (.int .i64 (idxI (fun c=>((F49 c 0).toList==w5_.toList)) all)))∧((.int .i64 doors:Value)=.int .i64 doors_)∧((.int .i64 i40:Value)=.int .i64 i40_)∧(Im (.l 1 Qr all))∧K39
theorem un33_0 (all:List l52Cut) (i:Nat×(Int×Int)) (h:Qbe all i):Ubj all i (i.1-1) i.2.1 i.2.2:=⟨hd1 h.1 h.2.1,hd3 h.2.1,hd2 h.2.1,h.2.2⟩
theorem Uaf (all:List l52Cut) (i:Nat×(Int×Int)) (m39:Nat) (doors:Int) (i40:Int) (hl:m39<i.1) (e:runL (Bv all) m39 (doors,i40)=Qwn all) (h:Qma all m39 doors i40):∃ j:Nat×(Int×Int),Qyz all doors i40 j.2.1 j.2.2 (Qbe all j∧j.1<i.1):=⟨(m39,(doors,i40)),rfl,rfl,rfl,Imp.refl _,⟨e,h⟩,hl⟩
theorem en33_0 (all:List l52Cut) (h:(0:Int)≤0∧(0:Int)≤0∧(0:Int)≤0∧(0:Int)≤0):Qyz all 0 0 0 0 (Qbe all (Qbk all)):=⟨rfl,rfl,rfl,Imp.refl _,rfl,Nat.lt_succ_self _,h⟩
def S33 (all:List l52Cut):Spec:=⟨[.r (.c (.l 1 Qr all))],.v (.bool (F33 all)),(∀ k j:Nat,((all.getD k default).w.getD j default).size≤1048576)⟩
theorem ok33 (all:List l52Cut):(S33 all).ok Tryz.prog 33 :=
 Qi mixed (fn:=Tryz.f33) (ct:=.seqk [(0,0)] .no (.seq (.reg [(1,kh54a all)]) (.seq .no (.seq (.seqk [(0,0)] .no (.blk (.loop (ι:=Nat×(Int×Int)) (fun i=>(fun (doors:Int) (i40:Int)=>(⟨[(0,some (.h 0 0)),(3,some (.v (vI (idxI (fun c=>((F49 c 0).toList==w5_.toList)) all)))),(4,some (.v (vI doors))),(5,some (.v (vI i40)))],[(0,some (.shr none (.l 1 Qr all)))],1⟩:St)) i.2.1 i.2.2) (Qbe all) (fun i=>i.1) (Qbk all) (fun i=>(fun (doors:Int) (i40:Int)=>(.seq (.seq .no (.cond .no .no)) (.seq (.blk (.seq (.seq (.reg [(4,kh49 (all.getD (Int.toNat i40) default) 0)]) (.cond .no .no)) (.seq (.reg [(1,.bnd)]) (.seq (.reg [(9,kh55 all i40 (all.getD (Int.toNat (idxI (fun c=>((F49 c 0).toList==w5_.toList)) all)) default))]) (.cond (.seq .no .no) .no))))) (.reg [(1,.bnd)])))) i.2.1 i.2.2)))) (.seq (.seq .no (.cond (.seq .no .no) .no)) (.seq (.reg [(4,kh49 (all.getD (Int.toNat (idxI (fun c=>((F49 c 0).toList==w5_.toList)) all)) default) 1),(5,kh51 (F49 (all.getD (Int.toNat (idxI (fun c=>((F49 c 0).toList==w5_.toList)) all)) default) 1))]) (.seq (.reg [(4,kh49 (all.getD (Int.toNat (idxI (fun c=>((F49 c 0).toList==w5_.toList)) all)) default) 2),(5,kh53 (F49 (all.getD (Int.toNat (idxI (fun c=>((F49 c 0).toList==w5_.toList)) all)) default) 2))]) (.seq (.reg [(19,kh49 (all.getD (Int.toNat (idxI (fun c=>((F49 c 0).toList==w5_.toList)) all)) default) 3),(20,kh56 (F49 (all.getD (Int.toNat (idxI (fun c=>((F49 c 0).toList==w5_.toList)) all)) default) 3)),(25,kh49 (all.getD (Int.toNat (idxI (fun c=>((F49 c 0).toList==w5_.toList)) all)) default) 4),(26,kh56 (F49 (all.getD (Int.toNat (idxI (fun c=>((F49 c 0).toList==w5_.toList)) all)) default) 4))]) .no)))))))) Tryz.func33 (fun (hpre0:∀ k j:Nat,((all.getD k default).w.getD j default).size≤1048576)=>kn all fun _=>kc54a all (fun gv1=>kn all fun _=>ai (en33_0 all (by refine ⟨?_,?_,?_,?_⟩ <;> omega)) (fun (i0:Nat×(Int×Int)) (hi0:Qbe all i0)=>(fun (m0:Nat) (doors:Int) (i40:Int) (hh0:Ubj all i0 m0 doors i40)=>have hI0:=hh0.1; have hl0:=hh0.2.1; have _:=hh0.2.2.1; have _:=hh0.2.2.2; ifd (i40<(all.length:Int)) (fun h3 _=>ai (by omega:ib i40 all) (kc49 (all.getD (Int.toNat i40) default) 0 (by omega) (ifb (!((F49 (all.getD (Int.toNat i40) default) 0).toList==w3_.toList)) (fun h4=>ai (iok (i40+1) (by omega)) (Uaf all i0 m0 doors (i40+1) hl0 (Qg hI0 (condT h3 (condT h4 rfl))) (by refine ⟨?_,?_,?_,?_,?_⟩ <;> omega))) (fun h4=>ai (iok (doors+1) (by omega)) (ai (fun k5:(decide ((idxI (fun c=>((F49 c 0).toList==w5_.toList)) all)<0))=false=>have _:¬ (idxI (fun c=>((F49 c 0).toList==w5_.toList)) all)<0:=of_decide_eq_false k5; (by omega:ib (idxI (fun c=>((F49 c 0).toList==w5_.toList)) all) all)) (kg55 (decide ((idxI (fun c=>((F49 c 0).toList==w5_.toList)) all)<0)) false all i40 (all.getD (Int.toNat (idxI (fun c=>((F49 c 0).toList==w5_.toList)) all)) default) (fun k6=>have _:¬ (idxI (fun c=>((F49 c 0).toList==w5_.toList)) all)<0:=of_decide_eq_false k6; ⟨(by omega),(by omega),(by exact fun j=>(by assumption:∀ k j:Nat,((all.getD k default).w.getD j default).size≤1048576) _ j),(by omega)⟩) (ifb (bif decide ((idxI (fun c=>((F49 c 0).toList==w5_.toList)) all)<0) then true else (!(F55 all i40 (all.getD (Int.toNat (idxI (fun c=>((F49 c 0).toList==w5_.toList)) all)) default)))) (fun h7=>fiB false (F33 all) (finR (Qp hI0 (condT h3 (condF h4 (condT h7 rfl)))) rfl)) (fun h7=>have _:¬ (idxI (fun c=>((F49 c 0).toList==w5_.toList)) all)<0:=of_decide_eq_false (orF1 h7); ai (iok (i40+1) (by omega)) (Uaf all i0 m0 (doors+1) (i40+1) hl0 (Qg hI0 (condT h3 (condF h4 (condF h7 rfl)))) (by refine ⟨?_,?_,?_,?_,?_⟩ <;> omega)))))))))) (fun h3 _=>have hD0_8:Qwn all=Lp.done (doors,i40):=Qj hI0 (condF h3 rfl); ifd ((idxI (fun c=>((F49 c 0).toList==w5_.toList)) all)<0) (fun h9 _=>fiB true (F33 all) (finD hD0_8 (condT h9 rfl))) (fun h9 _=>ai (by omega:ib (idxI (fun c=>((F49 c 0).toList==w5_.toList)) all) all) (kc49 (all.getD (Int.toNat (idxI (fun c=>((F49 c 0).toList==w5_.toList)) all)) default) 1 (by omega) (kc51 (F49 (all.getD (Int.toNat (idxI (fun c=>((F49 c 0).toList==w5_.toList)) all)) default) 1) (by exact Xs all (by assumption) _ _) (ai (by omega:ib (idxI (fun c=>((F49 c 0).toList==w5_.toList)) all) all) (kc49 (all.getD (Int.toNat (idxI (fun c=>((F49 c 0).toList==w5_.toList)) all)) default) 2 (by omega) (kc53 (F49 (all.getD (Int.toNat (idxI (fun c=>((F49 c 0).toList==w5_.toList)) all)) default) 2) (by exact Xs all (by assumption) _ _) (ai (fun k10:(bif decide (doors≤6) then (bif decide ((F53 (F49 (all.getD (Int.toNat (idxI (fun c=>((F49 c 0).toList==w5_.toList)) all)) default) 2))<(F51 (F49 (all.getD (Int.toNat (idxI (fun c=>((F49 c 0).toList==w5_.toList)) all)) default) 1)).1) then true else decide ((F53 (F49 (all.getD (Int.toNat (idxI (fun c=>((F49 c 0).toList==w5_.toList)) all)) default) 2))≥(IntKind.i64.wrap ((F51 (F49 (all.getD (Int.toNat (idxI (fun c=>((F49 c 0).toList==w5_.toList)) all)) default) 1)).1+(F51 (F49 (all.getD (Int.toNat (idxI (fun c=>((F49 c 0).toList==w5_.toList)) all)) default) 1)).2)))) else false)=true=>have _:=of_decide_eq_true (Qn k10); (by omega:ib (idxI (fun c=>((F49 c 0).toList==w5_.toList)) all) all)) (kg49 (bif decide (doors≤6) then (bif decide ((F53 (F49 (all.getD (Int.toNat (idxI (fun c=>((F49 c 0).toList==w5_.toList)) all)) default) 2))<(F51 (F49 (all.getD (Int.toNat (idxI (fun c=>((F49 c 0).toList==w5_.toList)) all)) default) 1)).1) then true else decide ((F53 (F49 (all.getD (Int.toNat (idxI (fun c=>((F49 c 0).toList==w5_.toList)) all)) default) 2))≥(IntKind.i64.wrap ((F51 (F49 (all.getD (Int.toNat (idxI (fun c=>((F49 c 0).toList==w5_.toList)) all)) default) 1)).1+(F51 (F49 (all.getD (Int.toNat (idxI (fun c=>((F49 c 0).toList==w5_.toList)) all)) default) 1)).2)))) else false) true (all.getD (Int.toNat (idxI (fun c=>((F49 c 0).toList==w5_.toList)) all)) default) 3 (fun k11=>have _:=of_decide_eq_true (Qn k11); (by omega)) (kg56 (bif decide (doors≤6) then (bif decide ((F53 (F49 (all.getD (Int.toNat (idxI (fun c=>((F49 c 0).toList==w5_.toList)) all)) default) 2))<(F51 (F49 (all.getD (Int.toNat (idxI (fun c=>((F49 c 0).toList==w5_.toList)) all)) default) 1)).1) then true else decide ((F53 (F49 (all.getD (Int.toNat (idxI (fun c=>((F49 c 0).toList==w5_.toList)) all)) default) 2))≥(IntKind.i64.wrap ((F51 (F49 (all.getD (Int.toNat (idxI (fun c=>((F49 c 0).toList==w5_.toList)) all)) default) 1)).1+(F51 (F49 (all.getD (Int.toNat (idxI (fun c=>((F49 c 0).toList==w5_.toList)) all)) default) 1)).2)))) else false) true (F49 (all.getD (Int.toNat (idxI (fun c=>((F49 c 0).toList==w5_.toList)) all)) default) 3) (fun k12=>have _:=of_decide_eq_true (Qn k12); (by exact Xs all (by assumption) _ _)) (ai (fun k13:(bif decide (doors≤6) then (bif decide ((F53 (F49 (all.getD (Int.toNat (idxI (fun c=>((F49 c 0).toList==w5_.toList)) all)) default) 2))<(F51 (F49 (all.getD (Int.toNat (idxI (fun c=>((F49 c 0).toList==w5_.toList)) all)) default) 1)).1) then true else decide ((F53 (F49 (all.getD (Int.toNat (idxI (fun c=>((F49 c 0).toList==w5_.toList)) all)) default) 2))≥(IntKind.i64.wrap ((F51 (F49 (all.getD (Int.toNat (idxI (fun c=>((F49 c 0).toList==w5_.toList)) all)) default) 1)).1+(F51 (F49 (all.getD (Int.toNat (idxI (fun c=>((F49 c 0).toList==w5_.toList)) all)) default) 1)).2)))) else false)=true=>have _:=of_decide_eq_true (Qn k13); (by omega:ib (idxI (fun c=>((F49 c 0).toList==w5_.toList)) all) all)) (kg49 (bif decide (doors≤6) then (bif decide ((F53 (F49 (all.getD (Int.toNat (idxI (fun c=>((F49 c 0).toList==w5_.toList)) all)) default) 2))<(F51 (F49 (all.getD (Int.toNat (idxI (fun c=>((F49 c 0).toList==w5_.toList)) all)) default) 1)).1) then true else decide ((F53 (F49 (all.getD (Int.toNat (idxI (fun c=>((F49 c 0).toList==w5_.toList)) all)) default) 2))≥(IntKind.i64.wrap ((F51 (F49 (all.getD (Int.toNat (idxI (fun c=>((F49 c 0).toList==w5_.toList)) all)) default) 1)).1+(F51 (F49 (all.getD (Int.toNat (idxI (fun c=>((F49 c 0).toList==w5_.toList)) all)) default) 1)).2)))) else false) true (all.getD (Int.toNat (idxI (fun c=>((F49 c 0).toList==w5_.toList)) all)) default) 4 (fun k14=>have _:=of_decide_eq_true (Qn k14); (by omega)) (kg56 (bif decide (doors≤6) then (bif decide ((F53 (F49 (all.getD (Int.toNat (idxI (fun c=>((F49 c 0).toList==w5_.toList)) all)) default) 2))<(F51 (F49 (all.getD (Int.toNat (idxI (fun c=>((F49 c 0).toList==w5_.toList)) all)) default) 1)).1) then true else decide ((F53 (F49 (all.getD (Int.toNat (idxI (fun c=>((F49 c 0).toList==w5_.toList)) all)) default) 2))≥(IntKind.i64.wrap ((F51 (F49 (all.getD (Int.toNat (idxI (fun c=>((F49 c 0).toList==w5_.toList)) all)) default) 1)).1+(F51 (F49 (all.getD (Int.toNat (idxI (fun c=>((F49 c 0).toList==w5_.toList)) all)) default) 1)).2)))) else false) true (F49 (all.getD (Int.toNat (idxI (fun c=>((F49 c 0).toList==w5_.toList)) all)) default) 4) (fun k15=>have _:=of_decide_eq_true (Qn k15); (by exact Xs all (by assumption) _ _)) (fiB (bif (bif decide (doors≤6) then (bif decide ((F53 (F49 (all.getD (Int.toNat (idxI (fun c=>((F49 c 0).toList==w5_.toList)) all)) default) 2))<(F51 (F49 (all.getD (Int.toNat (idxI (fun c=>((F49 c 0).toList==w5_.toList)) all)) default) 1)).1) then true else decide ((F53 (F49 (all.getD (Int.toNat (idxI (fun c=>((F49 c 0).toList==w5_.toList)) all)) default) 2))≥(IntKind.i64.wrap ((F51 (F49 (all.getD (Int.toNat (idxI (fun c=>((F49 c 0).toList==w5_.toList)) all)) default) 1)).1+(F51 (F49 (all.getD (Int.toNat (idxI (fun c=>((F49 c 0).toList==w5_.toList)) all)) default) 1)).2)))) else false) then decide ((F56 (F49 (all.getD (Int.toNat (idxI (fun c=>((F49 c 0).toList==w5_.toList)) all)) default) 3))≤(F56 (F49 (all.getD (Int.toNat (idxI (fun c=>((F49 c 0).toList==w5_.toList)) all)) default) 4))) else false) (F33 all) (finD hD0_8 (condF h9 rfl))))))))))))))))) (i0.1-1) i0.2.1 i0.2.2 (un33_0 all i0 hi0)))) (by kernel_rfl)
theorem Qfq {α β:Type} [Inhabited α] [Inhabited β] (f:α→β) (ls:List α) (i:Nat) (h:i<ls.length):(ls.map f).getD i default=f (ls.getD i default):=by
 rw [Wb _ (by simpa using h),Wb _ h,List.getElem_map]
def wsL (lines:List ByteArray):List (List ByteArray):=lines.map fun l=>(F48 l).1
def hdB (w:List ByteArray) (l:List UInt8):Bool:=(w.getD 0 default).data.toList==l
def Qwa:List UInt8:=[117,115,101,114]
def Yi:List UInt8:=[112,111,114,116]
def Vh:List UInt8:=[114,117,108,101]
def Qbc:List UInt8:=[114,111,117,116,101]
def Qeb:List UInt8:=[112,101,101,114]
def hNat:List UInt8:=[110,97,116]
def Uk:List UInt8:=[100,111,111,114]
theorem Zh (lines:List ByteArray) (h:F27 lines=0) (word:ByteArray):Qa lines word=(wsL lines).filter fun w=>hdB w word.data.toList:=by
 unfold Qa wsL
 have e:(lines.map fun l=>Qy l (⟨#[32]⟩:ByteArray))=lines.map fun l=>(F48 l).1:=List.map_congr_left fun l hl=>Eo l ((Md lines h).2 l hl)
 rw [e]; rfl
theorem Pw (lines:List ByteArray) (h:F27 lines=0):∀ w∈wsL lines,Ws w:=fun w hw=>by
 obtain ⟨l,hl,rfl⟩:=List.mem_map.1 hw
 exact (Gy l ((Md lines h).2 l hl)).form
theorem ws_no (lines:List ByteArray):∀ w∈wsL lines,∀ x∈w,(32:UInt8) ∉ x.data.toList∧x.data.toList≠[]∧x.size≤24:=fun w hw=>by
 obtain ⟨l,hl,rfl⟩:=List.mem_map.1 hw
 exact Qov l
theorem at_n (c:l52Cut) (k:Nat):F49 c (k:Int)=c.w.getD k default:=by
 unfold F49
 by_cases h:k<c.w.length
 ·rw [ltD h,cond_true,nn]
 ·rw [decide_eq_false (by omega),cond_false,Jr _ (by omega)]; rfl
theorem at0 (c:l52Cut):F49 c 0=c.w.getD 0 default:=at_n c 0
theorem at1 (c:l52Cut):F49 c 1=c.w.getD 1 default:=at_n c 1
theorem at2 (c:l52Cut):F49 c 2=c.w.getD 2 default:=at_n c 2
theorem at3 (c:l52Cut):F49 c 3=c.w.getD 3 default:=at_n c 3
theorem at4 (c:l52Cut):F49 c 4=c.w.getD 4 default:=at_n c 4
theorem Xf (ws:List (List ByteArray)) (p:l52Cut→Bool):(ws.map l52Cut.mk).any p=ws.any fun w=>p ⟨w⟩:=by rw [List.any_map]; rfl
theorem Uv {α:Type} {p q:α→Bool}:∀ {xs:List α},(∀ x∈xs,p x=q x)→xs.any p=xs.any q
 | [],_=>rfl
 | x :: xs,h=>by rw [List.any_cons,List.any_cons,h x List.mem_cons_self,Uv fun y hy=>h y (List.mem_cons_of_mem _ hy)]
theorem Uea (all:List l52Cut):F29 all=all.any fun c=>hdB c.w Qwa&&((c.w.getD 2 default).data.toList==[97,108,108]):=by
 unfold F29
 have:=anyL all (fun c=>hdB c.w Qwa&&((c.w.getD 2 default).data.toList==[97,108,108])) true (Bx all) (fun i hi=>by
  simp only [Bx,ltD hi,cond_true,nn,at0,at2,blit,cb1]
  rfl) (by simp only [Bx,geD,cond_false]) (fun r=>r) (fun i40=>false) false (fun _=>rfl)
 refine this.trans ?_
 cases (all.any fun c=>hdB c.w Qwa&&((c.w.getD 2 default).data.toList==[97,108,108])) <;> rfl
theorem Qgu (lines:List ByteArray) (h:F27 lines=0):F36 lines=!F29 ((wsL lines).map l52Cut.mk):=by
 unfold F36
 rw [Uea,Xf,Zh lines h,List.any_filter]
 congr 1
 refine Uv fun w _=>?_
 unfold F63
 rw [blit]; rfl
def Qle (ws:List (List ByteArray)) (name:List UInt8):Nat:=(ws.filter fun w=>hdB w Vh&&((w.getD 1 default).data.toList==name)).length
theorem Qcb (lines:List ByteArray) (h:F27 lines=0) (name:ByteArray):F64 lines name=(Qle (wsL lines) name.data.toList:Int):=by
 unfold F64
 have:=Yg (Qa lines (⟨#[114,117,108,101]⟩:ByteArray)) (fun (n:Int) w=>bif ((w.getD 1 default).data.toList==name.data.toList) then n+1 else n) (fun n i=>(n,i)) (Bd lines name) (fun i s hi=>by
  simp only [Bd,ltD hi,cond_true,nn,Ud]
  show (bif (((Qa lines (⟨#[114,117,108,101]⟩:ByteArray)).getD i default).getD 1 default).data.toList==name.data.toList then _ else _)=_
  cases ((((Qa lines (⟨#[114,117,108,101]⟩:ByteArray)).getD i default).getD 1 default).data.toList==name.data.toList) <;> rfl) (fun s=>by simp only [Bd,geD,cond_false]) (fun r=>r) (fun (n,v11)=>n) 0
 refine this.trans ?_
 show (Qa lines (⟨#[114,117,108,101]⟩:ByteArray)).foldl _ (0:Int)=_
 rw [Xe (fun w:List ByteArray=>((w.getD 1 default).data.toList==name.data.toList)),Zh lines h,List.filter_filter,Int.zero_add]
 unfold Qle
 rw [show (fun a:List ByteArray=>((a.getD 1 default).data.toList==name.data.toList&&hdB a (⟨#[114,117,108,101]⟩:ByteArray).data.toList))=fun w=>hdB w Vh&&((w.getD 1 default).data.toList==name.data.toList) from funext fun w=>Bool.and_comm _ _]
theorem Qwo (all:List l52Cut) (name:ByteArray):F50 all name=((all.filter fun c=>hdB c.w Vh&&((c.w.getD 1 default).data.toList==name.data.toList)).length:Int):=by
 unfold F50
 have:=Yg all (fun (n:Int) c=>bif (hdB c.w Vh&&((c.w.getD 1 default).data.toList==name.data.toList)) then n+1 else n) (fun n i=>(n,i)) (Ba all name) (fun i s hi=>by
  simp only [Ba,ltD hi,cond_true,nn,at0,at1,blit,cb1]
  rw [Ud,Ud]
  show (bif (hdB (all.getD i default).w Vh&&(((all.getD i default).w.getD 1 default).data.toList==name.data.toList)) then _ else _)=_
  cases (hdB (all.getD i default).w Vh&&(((all.getD i default).w.getD 1 default).data.toList==name.data.toList)) <;> rfl) (fun s=>by simp only [Ba,geD,cond_false]) (fun r=>r) (fun (n,i40)=>n) 0
 refine this.trans ?_
 show all.foldl _ (0:Int)=_
 rw [Xe (fun c:l52Cut=>hdB c.w Vh&&((c.w.getD 1 default).data.toList==name.data.toList)),Int.zero_add]
theorem Qqy (ws:List (List ByteArray)) (name:ByteArray):F50 (ws.map l52Cut.mk) name=(Qle ws name.data.toList:Int):=by
 rw [Qwo,List.filter_map,List.length_map]; rfl
theorem Qyw (all:List l52Cut):F30 all=!all.any fun c=>(hdB c.w Yi&&(!((c.w.getD 4 default).data.toList==[])&&((F50 all (c.w.getD 4 default))==0))) || (hdB c.w Vh&&decide (F50 all (c.w.getD 1 default)>12)):=by
 unfold F30
 have:=anyL all (fun c=>(hdB c.w Yi&&(!((c.w.getD 4 default).data.toList==[])&&((F50 all (c.w.getD 4 default))==0))) || (hdB c.w Vh&&decide (F50 all (c.w.getD 1 default)>12))) false (Br all) (fun i hi=>by
  simp only [Br,ltD hi,cond_true,nn,at0,at1,at4,blit,cb1,Bool.and_assoc]
  show (bif (hdB (all.getD i default).w Yi&&(!(((all.getD i default).w.getD 4 default).data.toList==[])&&(F50 all ((all.getD i default).w.getD 4 default)==0))) then _ else (bif (hdB (all.getD i default).w Vh&&_) then _ else _))=_
  cases (hdB (all.getD i default).w Yi&&(!(((all.getD i default).w.getD 4 default).data.toList==[])&&(F50 all ((all.getD i default).w.getD 4 default)==0))) <;> cases (hdB (all.getD i default).w Vh&&decide (F50 all ((all.getD i default).w.getD 1 default)>12)) <;> rfl) (by simp only [Br,geD,cond_false]) (fun r=>r) (fun i40=>true) true (fun _=>rfl)
 refine this.trans ?_
 cases all.any _ <;> rfl
theorem Qmj {α:Type} (p q:α→Bool):∀ xs:List α,xs.any (fun x=>p x || q x)=(xs.any p || xs.any q)
 | []=>rfl
 | x :: xs=>by
  simp only [List.any_cons,Qmj p q xs]
  cases p x <;> cases q x <;> simp
theorem Qsd {w:List ByteArray} (h:Jd w) (hn:∀ x∈w,x.data.toList≠[]):decide ((w.length:Int)>4)=!((w.getD 4 default).data.toList==[]):=by
 by_cases hl:4<w.length
 ·rw [decide_eq_true (by omega)]
  have:=hn _ (Jg w hl)
  rw [beq_eq_false_iff_ne.2 this]; rfl
 ·rw [decide_eq_false (by omega),Jr w (by omega)]; rfl
theorem Pu (lines:List ByteArray) (h:F27 lines=0):F37 lines=!F30 ((wsL lines).map l52Cut.mk):=by
 rw [Qyw,Bool.not_not,Xf,Qmj]
 unfold F37
 have:=anyL (Qa lines (⟨#[112,111,114,116]⟩:ByteArray)) (fun w=>decide ((w.length:Int)>4)&&(F64 lines (w.getD 4 default)==0)) true (Bn lines) (fun i hi=>by
  simp only [Bn,ltD hi,cond_true,nn,cb1]; rfl) (by simp only [Bn,geD,cond_false]) (fun r=>r) (fun v8=>(Qa lines (⟨#[114,117,108,101]⟩:ByteArray)).any (fun (x0:List ByteArray)=>F65 x0 lines)) _ (fun _=>rfl)
 refine this.trans ?_
 rw [Zh lines h,Zh lines h,List.any_filter,List.any_filter,cb2]
 congr 1
 ·refine Uv fun w hw=>?_
  have e4:F50 ((wsL lines).map l52Cut.mk) (w.getD 4 default)=F64 lines (w.getD 4 default):=by rw [Qqy,Qcb lines h]
  rw [e4]
  cases hp:hdB w Yi with
  | false =>
   have hp':hdB w (⟨#[112,111,114,116]⟩:ByteArray).data.toList=false:=hp
   rw [hp',Bool.false_and,Bool.false_and]
  | true =>
   have hp':hdB w (⟨#[112,111,114,116]⟩:ByteArray).data.toList=true:=hp
   have hpp:=Re (Pw lines h w hw) (eq_of_beq hp)
   rw [hp',Qsd hpp fun x hx=>(ws_no lines w hw x hx).2.1]
 ·refine Uv fun w hw=>?_
  have e1:F50 ((wsL lines).map l52Cut.mk) (w.getD 1 default)=F64 lines (w.getD 1 default):=by rw [Qqy,Qcb lines h]
  show (hdB w Vh&&_)=(hdB w Vh&&_)
  rw [e1]; rfl
def Zx {α:Type} (ov:α→α→Bool):List α→List α→Bool
 | _,[]=>false
 | seen,x :: r=>seen.any (ov x) || Zx ov (seen++[x]) r
theorem Vl {α:Type} [Inhabited α] (ov:α→α→Bool) (xs:List α):∀ (m i:Nat),i+m=xs.length→anyF (fun i=>(xs.take i).any (ov (xs.getD i default))) i m=Zx ov (xs.take i) (xs.drop i)
 | 0,i,h=>by rw [List.drop_of_length_le (by omega)]; rfl
 | m+1,i,h=>by
  have hd:xs.drop i=xs.getD i default :: xs.drop (i+1):=by
   rw [List.drop_eq_getElem_cons (show i<xs.length by omega),List.getD_eq_getElem?_getD,List.getElem?_eq_getElem (show i<xs.length by omega)]; rfl
  rw [hd,Zx,anyF,Vl ov xs m (i+1) (by omega),Nv (show i<xs.length by omega)]
theorem Xy {α:Type} (P:α→Bool) (ov:α→α→Bool):∀ (xs seen:List α),Zx (fun x y=>P x&&(P y&&ov x y)) seen xs=Zx ov (seen.filter P) (xs.filter P)
 | [],seen=>rfl
 | x :: xs,seen=>by
  rw [Zx,Xy P ov xs]
  cases h:P x with
  | true =>
   rw [List.filter_cons_of_pos h,Zx,List.filter_append,List.any_filter]
   simp only [Bool.true_and,List.filter_cons_of_pos h,List.filter_nil]
  | false =>
   rw [List.filter_cons_of_neg (by simp [h]),List.filter_append,List.filter_cons_of_neg (by simp [h]),List.filter_nil,List.append_nil]
   simp only [Bool.false_and]
   rw [show seen.any (fun _=>false)=false by simp,Bool.false_or]
theorem Qcn {α γ:Type} (f:α→γ) (ov:γ→γ→Bool):∀ (xs seen:List α),Zx ov (seen.map f) (xs.map f)=Zx (fun x y=>ov (f x) (f y)) seen xs
 | [],_=>rfl
 | x :: xs,seen=>by
  rw [List.map_cons,Zx,Zx,← Qcn f ov xs,List.map_append,List.any_map]; rfl
theorem Ej {α:Type} {ov ov':α→α→Bool} {Q:α→Prop} (h:∀ x y,Q x→Q y→ov x y=ov' x y):∀ (xs seen:List α),(∀ x∈xs,Q x)→(∀ x∈seen,Q x)→Zx ov seen xs=Zx ov' seen xs
 | [],_,_,_=>rfl
 | x :: xs,seen,h1,h2=>by
  have hx:=h1 x List.mem_cons_self
  rw [Zx,Zx,Uv (fun y hy=>h x y hx (h2 y hy)),Ej h xs (seen++[x]) (fun y hy=>h1 y (List.mem_cons_of_mem _ hy)) (fun y hy=>by
   rcases List.mem_append.1 hy with hy | hy
   ·exact h2 y hy
   ·rw [List.mem_singleton.1 hy]; exact hx)]
theorem Qed {α:Type} [Inhabited α] (xs:List α) (p:α→Bool) (i:Nat) (h:i≤xs.length):anyF (fun k=>p (xs.getD k default)) 0 i=(xs.take i).any p:=by
 have hl:(xs.take i).length=i:=by rw [List.length_take]; omega
 have h1:=Kv (xs.take i) p i 0 (by omega)
 rw [List.drop_zero] at h1
 rw [← h1]
 have:∀ (m k:Nat),k+m=i→anyF (fun k=>p (xs.getD k default)) k m=anyF (fun k=>p ((xs.take i).getD k default)) k m:=by
  intro m
  induction m with
  | zero=>intro k _; rfl
  | succ m ih =>
   intro k hk
   rw [anyF,anyF,ih (k+1) (by omega)]
   congr 2
   rw [List.getD_eq_getElem?_getD,List.getD_eq_getElem?_getD,List.getElem?_take,if_pos (by omega)]
 exact this i 0 (by omega)
theorem Qii (L:Int) (h0:0≤L) (h1:L≤16):F81 L=((2 ^ (16-L.toNat):Nat):Int):=by
 have h3:L=0∨L=1∨L=2∨L=3∨L=4∨L=5∨L=6∨L=7∨L=8∨L=9∨L=10∨L=11∨L=12∨L=13∨L=14∨L=15∨L=16:=by omega
 rcases h3 with rfl | rfl | rfl | rfl | rfl | rfl | rfl | rfl | rfl | rfl | rfl | rfl | rfl | rfl | rfl | rfl | rfl <;> exact of_decide_eq_true rfl
theorem Qgm (a L x:Int) (ha:0≤a∧a≤65535) (hL:0≤L∧L≤16):F72 (⟨a,L⟩:Qb) x=decide (a≤x∧x<a+F81 L):=by
 unfold F72 F92
 have hs:=Qpi L hL.1 hL.2
 have e:F105 (⟨a,L⟩:Qb)=F81 L:=Qfp a L hL.1 hL.2
 rw [e]
 simp only
 have w1:IntKind.i64.wrap (a+F81 L)=a+F81 L:=Za (by omega) (by omega)
 have w2:IntKind.i64.wrap (a+F81 L-1)=a+F81 L-1:=Za (by omega) (by omega)
 rw [w1,w2]
 exact decide_eq_decide.2 (by omega)
theorem Qjz (a b n m c:Int) (hm:1≤m) (hn:n=m*c) (ha:n ∣ a) (hb:m ∣ b) (h:a<b+m):a≤b:=by
 obtain ⟨x,rfl⟩:=ha
 obtain ⟨y,rfl⟩:=hb
 subst hn
 have h1:m*(c*x)<m*(y+1):=by rw [Int.mul_add,Int.mul_one,← Int.mul_assoc]; exact h
 have h2:c*x<y+1:=Int.lt_of_mul_lt_mul_left h1 (by omega)
 rw [Int.mul_assoc]
 exact Int.mul_le_mul_of_nonneg_left (by omega) (by omega)
theorem Qio (L M:Int) (h:0≤L∧L≤M∧M≤16):∃ c:Int,F81 L=F81 M*c:=by
 rw [Qii L h.1 (by omega),Qii M (by omega) h.2.2]
 refine ⟨((2 ^ (M.toNat-L.toNat):Nat):Int),?_⟩
 rw [← Int.natCast_mul,← Nat.pow_add]
 congr 2
 omega
theorem Uav {l:List UInt8} {a n:Int} (h:pfxL l=some (a,n)):F81 n ∣ a∧0≤a∧a≤65535∧0≤n∧n≤16:=by
 have hb:=Qhe h
 refine ⟨?_,hb⟩
 unfold pfxL at h
 match hs:Ua 47 l,h with
 | [x,y],h =>
  rw [pfx2] at h
  cases hc:decide (0≤Ze x)&&(in16 (num6 y)&&((Ze x).tmod (F81 (num6 y))==0)) with
  | false=>rw [hc] at h; cases h
  | true =>
   rw [hc] at h
   simp only [cond_true,Option.some.injEq,Prod.mk.injEq] at h
   obtain ⟨rfl,rfl⟩:=h
   simp only [Bool.and_eq_true,beq_iff_eq] at hc
   exact Int.dvd_of_tmod_eq_zero hc.2.2
 | [],h=>cases h
 | [x],h=>cases h
 | x :: y :: z :: r,h=>cases h
theorem Mr (s:ByteArray) (h:F151 s=true):∃ a L:Int,F73 s=((⟨a,L⟩:Qb),true)∧F51 s=(a,F81 L)∧F81 L ∣ a∧(0≤a∧a≤65535)∧(0≤L∧L≤16)∧1≤F81 L∧F81 L≤65536:=by
 rw [Lw] at h
 cases hp:pfxL s.data.toList with
 | none=>rw [hp] at h; cases h
 | some q =>
  obtain ⟨a,L⟩:=q
  have hd:=Uav hp
  have hs:=Qpi L hd.2.2.2.1 hd.2.2.2.2
  exact ⟨a,L,by rw [Hn,hp],by rw [Tj,hp],hd.1,⟨hd.2.1,hd.2.2.1⟩,hd.2.2.2,hs⟩
def ovI (x y:ByteArray):Bool:=F67 (F73 x).1 (F73 y).1 || F67 (F73 y).1 (F73 x).1
def ovS (x y:ByteArray):Bool:=decide ((F51 x).1<IntKind.i64.wrap ((F51 y).1+(F51 y).2))&&decide ((F51 y).1<IntKind.i64.wrap ((F51 x).1+(F51 x).2))
theorem Udc (x y:ByteArray) (hx:F151 x=true) (hy:F151 y=true):ovI x y=ovS x y:=by
 obtain ⟨a,L,e1,e2,d1,b1,c1,s1⟩:=Mr x hx
 obtain ⟨b,M,f1,f2,d2,b2,c2,s2⟩:=Mr y hy
 unfold ovI ovS F67
 rw [e1,e2,f1,f2]
 simp only [Qgm _ _ _ b1 c1,Qgm _ _ _ b2 c2,cb1]
 rw [Za (by omega) (by omega),Za (by omega) (by omega),← Bool.decide_and,← Bool.decide_and,← Bool.decide_and,← Bool.decide_or]
 refine decide_eq_decide.2 ⟨fun h=>?_,fun h=>?_⟩
 ·rcases h with h | h <;> omega
 ·rcases Int.le_total L M with hl | hl
  ·obtain ⟨c,hc⟩:=Qio L M ⟨c1.1,hl,c2.2⟩
   exact .inr ⟨hl,Qjz a b _ _ c s2.1 hc d1 d2 h.1,h.2⟩
  ·obtain ⟨c,hc⟩:=Qio M L ⟨c2.1,hl,c1.2⟩
   exact .inl ⟨hl,Qjz b a _ _ c s1.1 hc d2 d1 h.2,h.1⟩
theorem Qlq (lines:List ByteArray):F38 lines=Zx (fun p q=>F67 p q || F67 q p) [] (Qo lines):=by
 unfold F38
 have:=Zd (Bw lines) (Qo lines).length (fun i=>((Qo lines).take i).any (fun q=>F67 ((Qo lines).getD i default) q || F67 q ((Qo lines).getD i default))) true (fun r=>r) false (fun i hi=>by
  simp only [Bw,ltD hi,cond_true,nn]
  exact anyL ((Qo lines).take i) (fun q=>F67 ((Qo lines).getD i default) q || F67 q ((Qo lines).getD i default)) true (Xm lines (i:Int)) (fun j hj=>by
   simp only [Xm,nn,ltD hj,cond_true,cb2]; rfl) (by simp only [Xm,nn,geD,cond_false]) Lp.ret _ _ (fun _=>rfl)) (by simp only [Bw,geD,cond_false]) (Qo lines).length 0 (by omega) (Int.toNat (((Qo lines).length:Int)-0)+1) (by omega)
 rw [Vl (fun p q=>F67 p q || F67 q p) (Qo lines) (Qo lines).length 0 (by omega),List.take_zero,List.drop_zero] at this
 refine Eq.trans this ?_
 cases Zx (fun p q=>F67 p q || F67 q p) [] (Qo lines) <;> rfl
theorem Qyj (all:List l52Cut):F31 all=!Zx (fun c e=>hdB c.w Yi&&(hdB e.w Yi&&ovS (c.w.getD 2 default) (e.w.getD 2 default))) [] all:=by
 unfold F31
 have:=Zd (Xi all) all.length (fun i=>(all.take i).any (fun e=>hdB (all.getD i default).w Yi&&(hdB e.w Yi&&ovS ((all.getD i default).w.getD 2 default) (e.w.getD 2 default)))) false (fun r=>r) true (fun i hi=>by
  simp only [Xi,ltD hi,cond_true]
  have h1:=Zd (Xg all (i:Int)) i (fun k=>hdB (all.getD i default).w Yi&&(hdB (all.getD k default).w Yi&&ovS ((all.getD i default).w.getD 2 default) ((all.getD k default).w.getD 2 default))) false (Lp.ret:Bool→Lp Int Bool) (.next ((i+1:Nat):Int)) (fun k hk=>by
   simp only [Xg,ltD hk,cond_true,nn,at0,at2,blit,cb1,cb2]
   show (bif (!(hdB (all.getD i default).w Yi) || !(hdB (all.getD k default).w Yi)) then _ else (bif ovS ((all.getD i default).w.getD 2 default) ((all.getD k default).w.getD 2 default) then _ else _))=_
   cases hdB (all.getD i default).w Yi <;> cases hdB (all.getD k default).w Yi <;> cases ovS ((all.getD i default).w.getD 2 default) ((all.getD k default).w.getD 2 default) <;> rfl) (by
   simp only [Xg,decide_eq_false (show ¬ (i:Int)<(i:Int) by omega),cond_false]) i 0 (by omega) (Int.toNat ((i:Int)-0)+1) (by omega)
  rw [Qed all (fun e=>hdB (all.getD i default).w Yi&&(hdB e.w Yi&&ovS ((all.getD i default).w.getD 2 default) (e.w.getD 2 default))) i (by omega)] at h1
  exact h1) (by simp only [Xi,geD,cond_false]) all.length 0 (by omega) (Int.toNat ((all.length:Int)-0)+1) (by omega)
 rw [Vl (fun c e=>hdB c.w Yi&&(hdB e.w Yi&&ovS (c.w.getD 2 default) (e.w.getD 2 default))) all all.length 0 (by omega),List.take_zero,List.drop_zero] at this
 refine Eq.trans this ?_
 cases Zx (fun (c e:l52Cut)=>hdB c.w Yi&&(hdB e.w Yi&&ovS (c.w.getD 2 default) (e.w.getD 2 default))) [] all <;> rfl
theorem Qgq (lines:List ByteArray) (h:F27 lines=0):F38 lines=!F31 ((wsL lines).map l52Cut.mk):=by
 rw [Qyj,Bool.not_not,Qlq]
 have e1:=Qcn l52Cut.mk (fun (c e:l52Cut)=>hdB c.w Yi&&(hdB e.w Yi&&ovS (c.w.getD 2 default) (e.w.getD 2 default))) (wsL lines) []
 rw [List.map_nil] at e1
 rw [e1]
 have e2:=Xy (fun w:List ByteArray=>hdB w Yi) (fun w v=>ovS (w.getD 2 default) (v.getD 2 default)) (wsL lines) []
 refine Eq.trans ?_ e2.symm
 have e3:=Qcn (fun w:List ByteArray=>(F73 (w.getD 2 default)).1) (fun p q=>F67 p q || F67 q p) (Qa lines (⟨#[112,111,114,116]⟩:ByteArray)) []
 rw [List.map_nil] at e3
 have e4:Qo lines=(Qa lines (⟨#[112,111,114,116]⟩:ByteArray)).map (fun w:List ByteArray=>(F73 (w.getD 2 default)).1):=rfl
 rw [e4,e3,Zh lines h]
 refine Ej (Q:=fun w=>Jd w) (fun w v hw hv=>Udc _ _ (by unfold Jd at hw; exact hw.2.2.2.2) (by unfold Jd at hv; exact hv.2.2.2.2)) _ [] (fun w hw=>?_) (fun w hw=>by cases hw)
 obtain ⟨h1,h2⟩:=List.mem_filter.1 hw
 exact Re (Pw lines h w h1) (eq_of_beq h2)
def Ucm (w:List ByteArray) (addr:Int):Bool:=hdB w Yi&&(decide (addr>(F51 (w.getD 2 default)).1)&&decide (addr<IntKind.i64.wrap ((F51 (w.getD 2 default)).1+(F51 (w.getD 2 default)).2)))
theorem Uct (all:List l52Cut) (addr:Int):F52 all addr=all.any fun c=>Ucm c.w addr:=by
 unfold F52
 have:=anyL all (fun c=>Ucm c.w addr) true (Be all addr) (fun i hi=>by
  simp only [Be,ltD hi,cond_true,nn,at0,at2,blit,cb1]
  show (bif hdB (all.getD i default).w Yi then (bif _ then _ else _) else _)=bif (hdB (all.getD i default).w Yi&&_) then _ else _
  cases hdB (all.getD i default).w Yi <;> rfl) (by simp only [Be,geD,cond_false]) (fun r=>r) (fun i40=>false) false (fun _=>rfl)
 refine this.trans ?_
 cases all.any (fun c=>Ucm c.w addr) <;> rfl
theorem Qwu (all:List l52Cut):F32 all=!all.any fun c=>(hdB c.w Qbc&&!F52 all (F53 (c.w.getD 2 default))) || (hdB c.w Qeb&&!F52 all (F53 (c.w.getD 1 default))):=by
 unfold F32
 have:=anyL all (fun c=>(hdB c.w Qbc&&!F52 all (F53 (c.w.getD 2 default))) || (hdB c.w Qeb&&!F52 all (F53 (c.w.getD 1 default)))) false (Xw all) (fun i hi=>by
  simp only [Xw,ltD hi,cond_true,nn,at0,at1,at2,blit]
  show (bif hdB (all.getD i default).w Qbc then (bif !F52 all (F53 ((all.getD i default).w.getD 2 default)) then _ else _) else (bif hdB (all.getD i default).w Qeb then (bif !F52 all (F53 ((all.getD i default).w.getD 1 default)) then _ else _) else _))=_
  cases hr:hdB (all.getD i default).w Qbc with
  | true =>
   have hp:hdB (all.getD i default).w Qeb=false:=by
    rw [hdB,beq_iff_eq] at hr
    rw [hdB,hr]; decide
   rw [hp]
   cases (!F52 all (F53 ((all.getD i default).w.getD 2 default))) <;> rfl
  | false=>cases hdB (all.getD i default).w Qeb <;> cases (!F52 all (F53 ((all.getD i default).w.getD 1 default))) <;> rfl) (by simp only [Xw,geD,cond_false]) (fun r=>r) (fun i40=>true) true (fun _=>rfl)
 refine this.trans ?_
 cases all.any _ <;> rfl
theorem Qdj (lines:List ByteArray):F39 lines=(((Qa lines (⟨#[114,111,117,116,101]⟩:ByteArray)).map fun w=>w.getD 2 default)++((Qa lines (⟨#[112,101,101,114]⟩:ByteArray)).map fun w=>w.getD 1 default)).any fun x0=>F68 x0 (Qo lines):=by
 have h0:Nm lines=Lp.done ((Qa lines (⟨#[114,111,117,116,101]⟩:ByteArray)).map fun w=>w.getD 2 default):=by
  unfold Nm
  have:=Yg (Qa lines (⟨#[114,111,117,116,101]⟩:ByteArray)) (fun (s:List ByteArray) w=>s++[w.getD 2 default]) (fun s i=>(s,i)) (Ga lines) (fun i s hi=>by
   simp only [Ga,ltD hi,cond_true,nn]; rfl) (fun s=>by simp only [Ga,geD,cond_false]) Lp.ret (fun (addrs1,v13)=>Lp.done addrs1) []
  refine this.trans ?_
  rw [Zo,List.nil_append]
 have h1:∀ a,Hk lines a=Lp.done (a++(Qa lines (⟨#[112,101,101,114]⟩:ByteArray)).map fun w=>w.getD 1 default):=fun a=>by
  unfold Hk
  have:=Yg (Qa lines (⟨#[112,101,101,114]⟩:ByteArray)) (fun (s:List ByteArray) w=>s++[w.getD 1 default]) (fun s i=>(s,i)) (Gf lines a) (fun i s hi=>by
   simp only [Gf,ltD hi,cond_true,nn]; rfl) (fun s=>by simp only [Gf,geD,cond_false]) Lp.ret (fun (addrs3,v27)=>Lp.done addrs3) a
  refine this.trans ?_
  rw [Zo]
 unfold F39
 rw [h0]
 show (Hk lines _).fin _ _=_
 rw [h1]; rfl
theorem Qfa (lines:List ByteArray) (h:F27 lines=0) (t:ByteArray):F68 t (Qo lines)=!F52 ((wsL lines).map l52Cut.mk) (F53 t):=by
 rw [Uct,Xf]
 unfold F68
 rw [Nj]
 congr 1
 have e4:Qo lines=(Qa lines (⟨#[112,111,114,116]⟩:ByteArray)).map (fun w:List ByteArray=>(F73 (w.getD 2 default)).1):=rfl
 rw [e4,List.any_map,Zh lines h,List.any_filter]
 refine Uv fun w hw=>?_
 show (hdB w Yi&&_)=(hdB w Yi&&_)
 cases hp:hdB w Yi with
 | false=>rfl
 | true =>
  have hpp:=Re (Pw lines h w hw) (eq_of_beq hp)
  obtain ⟨a,L,e1,e2,d1,b1,c1,s1⟩:=Mr (w.getD 2 default) (by unfold Jd at hpp; exact hpp.2.2.2.2)
  rw [Bool.true_and,Bool.true_and]
  show F71 (F73 (w.getD 2 default)).1 (F53 t)=_
  unfold F71
  rw [e1,e2,Qgm _ _ _ b1 c1,cb1,Za (by simp only; omega) (by simp only; omega),neI]
  simp only
  rw [← decide_not,← Bool.decide_and,← Bool.decide_and]
  exact decide_eq_decide.2 (by omega)
theorem Pt (lines:List ByteArray) (h:F27 lines=0):F39 lines=!F32 ((wsL lines).map l52Cut.mk):=by
 rw [Qwu,Bool.not_not,Xf,Qdj,List.any_append,Qmj,List.any_map,List.any_map,Zh lines h,Zh lines h,List.any_filter,List.any_filter]
 congr 1
 ·refine Uv fun w hw=>?_
  show (hdB w Qbc&&F68 (w.getD 2 default) (Qo lines))=_
  rw [Qfa lines h]
 ·refine Uv fun w hw=>?_
  show (hdB w Qeb&&F68 (w.getD 1 default) (Qo lines))=_
  rw [Qfa lines h]
theorem Qbw {α ρ τ:Type} [Inhabited α] (xs:List α) (P:α→Bool) (B:Nat→Bool) (bad:ρ) (step:Int×Int→Lp (Int×Int) ρ)
  (h1:∀ (i:Nat) (n:Int),i<xs.length→step (n,(i:Int))=bif P (xs.getD i default) then (bif B i then .ret bad else .next (n+1,((i+1:Nat):Int))) else .next (n,((i+1:Nat):Int)))
  (h2:∀ n:Int,step (n,(xs.length:Int))=.done (n,(xs.length:Int))) (f:ρ→τ) (g:Int×Int→τ) :
  ∀ (m i:Nat) (n:Int),i+m=xs.length→∀ fuel,m<fuel→(runL step fuel (n,(i:Int))).fin f g=bif anyF (fun i=>P (xs.getD i default)&&B i) i m then f bad else g (n+(((xs.drop i).filter P).length:Int),(xs.length:Int))
 | m,i,_,_,0,hf=>absurd hf (Nat.not_lt_zero _)
 | 0,i,n,h,fuel+1,hf=>by
  obtain rfl:i=xs.length:=by omega
  rw [Ky _ (h2 n),List.drop_of_length_le (Nat.le_refl _)]
  show g _=g _
  simp
 | m+1,i,n,h,fuel+1,hf=>by
  have hst:=h1 i n (by omega)
  have hd:xs.drop i=xs.getD i default :: xs.drop (i+1):=by
   rw [List.drop_eq_getElem_cons (show i<xs.length by omega),List.getD_eq_getElem?_getD,List.getElem?_eq_getElem (show i<xs.length by omega)]; rfl
  rw [anyF,hd]
  cases hp:P (xs.getD i default) with
  | false =>
   rw [hp,cond_false] at hst
   rw [Yh _ hst,Qbw xs P B bad step h1 h2 f g m (i+1) _ (by omega) fuel (by omega),List.filter_cons_of_neg (by rw [hp]; exact Bool.false_ne_true)]
   simp
  | true =>
   rw [hp,cond_true] at hst
   rw [Bool.true_and]
   cases hb:B i with
   | true=>rw [hb,cond_true] at hst; rw [Zz _ hst]; rfl
   | false =>
    rw [hb,cond_false] at hst
    rw [Yh _ hst,Qbw xs P B bad step h1 h2 f g m (i+1) _ (by omega) fuel (by omega),List.filter_cons_of_pos hp,Bool.false_or,List.length_cons]
    congr 2
    rw [Int.natCast_add,Int.add_assoc,Int.add_comm (1:Int)]; rfl
theorem Qmt {α:Type} [Inhabited α] (p:α→Bool) (xs:List α):(idxI p xs<0↔xs.filter p=[])∧(0≤idxI p xs→xs.getD (idxI p xs).toNat default=(xs.filter p).getD 0 default):=by
 unfold idxI
 cases h:first (fun k=>p (xs.getD k default)) xs.length with
 | none =>
  have h1:=first_none.1 h
  refine ⟨⟨fun _=>?_,fun _=>by decide⟩,fun h=>absurd h (by decide)⟩
  rw [List.filter_eq_nil_iff]
  intro x hx
  obtain ⟨k,hk,rfl⟩:=Gd hx
  rw [h1 k hk]; exact Bool.false_ne_true
 | some k =>
  obtain ⟨h1,h2,h3⟩:=first_some.1 h
  have hs:xs.filter p=xs.getD k default :: (xs.drop (k+1)).filter p:=by
   have e:xs=xs.take k++xs.getD k default :: xs.drop (k+1):=by
    rw [Wb _ h1,← List.drop_eq_getElem_cons h1,List.take_append_drop]
   have h4:(xs.take k).filter p=[]:=by
    rw [List.filter_eq_nil_iff]
    intro x hx
    obtain ⟨j,hj,rfl⟩:=Gd hx
    have hl:j<k:=by rw [List.length_take] at hj; omega
    rw [List.getD_eq_getElem?_getD,List.getElem?_take,if_pos hl,← List.getD_eq_getElem?_getD]
    rw [h3 j hl]; exact Bool.false_ne_true
   conv=>lhs; rw [e]
   rw [List.filter_append,h4,List.nil_append,List.filter_cons_of_pos h2]
  refine ⟨⟨fun h=>absurd h (by show ¬ ((k:Int)<0); omega),fun h=>by rw [hs] at h; cases h⟩,fun _=>?_⟩
  rw [hs]
  show xs.getD (k:Int).toNat default=xs.getD k default
  rw [nn]
theorem Qgg (p q:Nat→Bool):∀ (m i:Nat),anyF (fun k=>p k || q k) i m=(anyF p i m || anyF q i m)
 | 0,_=>rfl
 | m+1,i=>by
  rw [anyF,anyF,anyF,Qgg p q m (i+1)]
  cases p i <;> cases q i <;> simp
theorem Qcy {p q:Nat→Bool}:∀ (m i:Nat),(∀ k,i≤k→k<i+m→p k=q k)→anyF p i m=anyF q i m
 | 0,_,_=>rfl
 | m+1,i,h=>by rw [anyF,anyF,h i (Nat.le_refl _) (by omega),Qcy m (i+1) fun k h1 h2=>h k (by omega) (by omega)]
def badD (a n lo hi:Int) (d:List ByteArray):Bool:=(decide (F53 (d.getD 3 default)<a) || decide (F53 (d.getD 3 default)≥a+n)) || decide (lo≤F56 (d.getD 2 default)∧F56 (d.getD 2 default)≤hi)
def Vd (x y:List ByteArray):Bool:=(((y.getD 1 default).toList==(x.getD 1 default).toList)&&((y.getD 3 default).toList==(x.getD 3 default).toList))&&((y.getD 4 default).toList==(x.getD 4 default).toList)
theorem Ueh (all:List l52Cut) (i:Nat) (hi:i<all.length) (nat:l52Cut) (a n:Int) (hp:F51 (nat.w.getD 1 default)=(a,n)) (hb:0≤a∧a≤65535∧1≤n∧n≤65536) :
  F55 all (i:Int) nat=!(badD a n (F56 (nat.w.getD 3 default)) (F56 (nat.w.getD 4 default)) (all.getD i default).w || (all.take i).any fun e=>hdB e.w Uk&&Vd (all.getD i default).w e.w):=by
 unfold F55
 simp only [at1,at2,at3,at4,nn,hp,cb2]
 rw [Za (by omega) (by omega)]
 have h1:=Zd (Bg all (i:Int) nat) i (fun k=>hdB (all.getD k default).w Uk&&Vd (all.getD i default).w (all.getD k default).w) false (fun r=>r) true (fun k hk=>by
  simp only [Bg,ltD hk,cond_true,nn,at0,at1,at3,at4,cb1]
  show (bif (((_&&_)&&_)&&_) then _ else _)=bif (hdB (all.getD k default).w Uk&&((_&&_)&&_)) then _ else _
  rw [blit,Bool.and_assoc,Bool.and_assoc,Bool.and_assoc]; rfl) (by simp only [Bg,decide_eq_false (show ¬ (i:Int)<(i:Int) by omega),cond_false]) i 0 (by omega) (Int.toNat ((i:Int)-0)+1) (by omega)
 rw [Qed all (fun e=>hdB e.w Uk&&Vd (all.getD i default).w e.w) i (by omega)] at h1
 rw [Bool.not_or]
 show (bif badD a n _ _ _ then false else _)=_
 refine (congrArg (fun z=>bif badD a n (F56 (nat.w.getD 3 default)) (F56 (nat.w.getD 4 default)) (all.getD i default).w then false else z) h1).trans ?_
 cases badD a n (F56 (nat.w.getD 3 default)) (F56 (nat.w.getD 4 default)) (all.getD i default).w <;> cases ((all.take i).any fun e=>hdB e.w Uk&&Vd (all.getD i default).w e.w) <;> rfl
def Qgw (a n lo hi:Int) (ds:List (List ByteArray)):Bool:=ds.any (badD a n lo hi) || Zx Vd [] ds
theorem Qdi (ws:List (List ByteArray)):F33 (ws.map l52Cut.mk)=match ws.filter (fun w=>hdB w hNat) with
  | []=>!(ws.any fun w=>hdB w Uk)
  | w :: _=>bif anyF (fun i=>hdB ((ws.map l52Cut.mk).getD i default).w Uk&&!F55 (ws.map l52Cut.mk) (i:Int) ⟨w⟩) 0 ws.length then false else
    ((decide (((ws.filter fun w=>hdB w Uk).length:Int)≤6)&&(decide (F53 (w.getD 2 default)<(F51 (w.getD 1 default)).1) || decide (F53 (w.getD 2 default)≥IntKind.i64.wrap ((F51 (w.getD 1 default)).1+(F51 (w.getD 1 default)).2))))&&decide (F56 (w.getD 3 default)≤F56 (w.getD 4 default))):=by
 generalize hall:ws.map l52Cut.mk=all
 have hlen:all.length=ws.length:=by rw [← hall,List.length_map]
 have hidx:=Qmt (fun c=>((F49 c 0).toList==(⟨#[110,97,116]⟩:ByteArray).toList)) all
 have hnf:all.filter (fun c=>((F49 c 0).toList==(⟨#[110,97,116]⟩:ByteArray).toList))=(ws.filter fun w=>hdB w hNat).map l52Cut.mk:=by
  rw [← hall,List.filter_map]
  congr 2
  funext w
  show ((F49 ⟨w⟩ 0).toList==_)=_
  rw [at0,blit]; rfl
 rw [hnf] at hidx
 have hdf:all.filter (fun c=>hdB c.w Uk)=(ws.filter fun w=>hdB w Uk).map l52Cut.mk:=by
  rw [← hall,List.filter_map]; rfl
 have e211:F54 all=idxI (fun c=>((F49 c 0).toList==(⟨#[110,97,116]⟩:ByteArray).toList)) all:=as54 all
 unfold F33
 generalize hk:idxI (fun c=>((F49 c 0).toList==(⟨#[110,97,116]⟩:ByteArray).toList)) all=k at hidx
 have hloop:=Qbw all (fun c=>hdB c.w Uk) (fun i=>decide (k<0) || !F55 all (i:Int) (all.getD (Int.toNat k) default)) false (Bv all) (fun i n hi=>by
  simp only [Bv,ltD hi,cond_true,nn,hk,e211]
  simp only [at0,blit,cb2]
  show (bif !(hdB (all.getD i default).w Uk) then _ else _)=bif hdB (all.getD i default).w Uk then _ else _
  cases hdB (all.getD i default).w Uk <;> rfl) (fun n=>by simp only [Bv,geD,cond_false]) (fun r=>r)
  (fun (doors,i40)=>bif (decide (k<0)) then true else (((decide (doors≤6)&&(decide (F53 ((all.getD k.toNat default).w.getD 2 default)<(F51 ((all.getD k.toNat default).w.getD 1 default)).1) || decide (F53 ((all.getD k.toNat default).w.getD 2 default)≥IntKind.i64.wrap ((F51 ((all.getD k.toNat default).w.getD 1 default)).1+(F51 ((all.getD k.toNat default).w.getD 1 default)).2)))))&&decide (F56 ((all.getD k.toNat default).w.getD 3 default)≤F56 ((all.getD k.toNat default).w.getD 4 default)))) all.length 0 0 (by omega) (Int.toNat ((all.length:Int)-0)+1) (by omega)
 simp only [hk,e211]
 simp only [at1,at2,at3,at4,cb1,cb2]
 refine Eq.trans hloop ?_
 rw [List.drop_zero,hdf,List.length_map,hlen]
 cases hn:ws.filter (fun w=>hdB w hNat) with
 | nil =>
  rw [hn] at hidx
  have hk0:=hidx.1.2 rfl
  simp only [decide_eq_true hk0,Bool.true_or,Bool.and_true,cond_true]
  have:=Kv all (fun c=>hdB c.w Uk) all.length 0 (by omega)
  rw [List.drop_zero,hlen] at this
  rw [this,← hall,List.any_map]
  show (bif ws.any (fun w=>hdB w Uk) then false else true)=!ws.any fun w=>hdB w Uk
  cases ws.any fun w=>hdB w Uk <;> rfl
 | cons w r =>
  rw [hn] at hidx
  have hk0:¬ k<0:=fun h=>by have:=hidx.1.1 h; cases this
  have hw:all.getD k.toNat default=⟨w⟩:=(hidx.2 (by omega)).trans rfl
  simp only [decide_eq_false hk0,Bool.false_or,cond_false,hw]
  rw [Int.zero_add]
theorem Qjp (lines:List ByteArray) (w:List ByteArray) (r:List (List ByteArray)) (hn:Qa lines (⟨#[110,97,116]⟩:ByteArray)=w :: r) :
  F40 lines=(((F72 (F73 (w.getD 1 default)).1 (F69 (w.getD 2 default)) || decide (F74 (w.getD 3 default)>F74 (w.getD 4 default))) || decide (((Qa lines (⟨#[100,111,111,114]⟩:ByteArray)).length:Int)>6)) ||
   ((Qa lines (⟨#[100,111,111,114]⟩:ByteArray)).any (fun d=>!F72 (F73 (w.getD 1 default)).1 (F69 (d.getD 3 default)) || decide (F74 (w.getD 3 default)≤F74 (d.getD 2 default)∧F74 (d.getD 2 default)≤F74 (w.getD 4 default))) || Zx Vd [] (Qa lines (⟨#[100,111,111,114]⟩:ByteArray)))):=by
 unfold F40
 have e0:((Qa lines (⟨#[110,97,116]⟩:ByteArray)).getD (Int.toNat 0) default)=w:=by rw [hn]; rfl
 have hl:((((Qa lines (⟨#[110,97,116]⟩:ByteArray)).length:Int)==0))=false:=by rw [hn,beq_eq_false_iff_ne,List.length_cons]; omega
 rw [hl,cond_false]
 simp only [e0,cb2]
 generalize hds:Qa lines (⟨#[100,111,111,114]⟩:ByteArray)=ds
 have hloop:=Zd (Gb lines) ds.length (fun i=>(!F72 (F73 (w.getD 1 default)).1 (F69 ((ds.getD i default).getD 3 default)) || decide (F74 (w.getD 3 default)≤F74 ((ds.getD i default).getD 2 default)∧F74 ((ds.getD i default).getD 2 default)≤F74 (w.getD 4 default))) || (ds.take i).any (Vd (ds.getD i default))) true (fun r=>r) false (fun i hi=>by
  simp only [Gb,hds,ltD hi,cond_true,nn,e0,cb2]
  have h1:=anyL (ds.take i) (Vd (ds.getD i default)) true (Bh lines (i:Int)) (fun j hj=>by
   simp only [Bh,hds,nn,ltD hj,cond_true,cb1]; rfl) (by simp only [Bh,hds,nn,geD,cond_false]) (Lp.ret:Bool→Lp Int Bool) (fun v89=>.next ((i:Int)+1)) (.next ((i:Int)+1)) (fun _=>rfl)
  rw [h1]
  show (bif (!F72 (F73 (w.getD 1 default)).1 (F69 ((ds.getD i default).getD 3 default)) || decide (F74 (w.getD 3 default)≤F74 ((ds.getD i default).getD 2 default)∧F74 ((ds.getD i default).getD 2 default)≤F74 (w.getD 4 default))) then _ else _)=_
  cases (!F72 (F73 (w.getD 1 default)).1 (F69 ((ds.getD i default).getD 3 default)) || decide (F74 (w.getD 3 default)≤F74 ((ds.getD i default).getD 2 default)∧F74 ((ds.getD i default).getD 2 default)≤F74 (w.getD 4 default))) <;> cases ((ds.take i).any (Vd (ds.getD i default))) <;> rfl) (by simp only [Gb,hds,geD,cond_false]) ds.length 0 (by omega) (Int.toNat ((ds.length:Int)-0)+1) (by omega)
 rw [Qgg,Vl Vd ds ds.length 0 (by omega),List.take_zero,List.drop_zero] at hloop
 have h2:=Kv ds (fun d=>(!F72 (F73 (w.getD 1 default)).1 (F69 (d.getD 3 default)) || decide (F74 (w.getD 3 default)≤F74 (d.getD 2 default)∧F74 (d.getD 2 default)≤F74 (w.getD 4 default)))) ds.length 0 (by omega)
 rw [List.drop_zero] at h2
 rw [h2] at hloop
 refine (congrArg (fun z=>bif ((F72 (F73 (w.getD 1 default)).1 (F69 (w.getD 2 default)) || decide (F74 (w.getD 3 default)>F74 (w.getD 4 default))) || decide ((ds.length:Int)>6)) then true else z) hloop).trans ?_
 rw [cb2]
 congr 1
 cases ((ds.any fun d=>!F72 (F73 (w.getD 1 default)).1 (F69 (d.getD 3 default)) || decide (F74 (w.getD 3 default)≤F74 (d.getD 2 default)∧F74 (d.getD 2 default)≤F74 (w.getD 4 default))) || Zx Vd [] ds) <;> rfl
theorem Qdh (lines:List ByteArray) (h:F27 lines=0):F40 lines=!F33 ((wsL lines).map l52Cut.mk):=by
 rw [Qdi]
 have hN:Qa lines (⟨#[110,97,116]⟩:ByteArray)=(wsL lines).filter fun w=>hdB w hNat:=Zh lines h _
 have hD:Qa lines (⟨#[100,111,111,114]⟩:ByteArray)=(wsL lines).filter fun w=>hdB w Uk:=Zh lines h _
 cases hn:(wsL lines).filter fun w=>hdB w hNat with
 | nil =>
  rw [hn] at hN
  unfold F40
  rw [hN,hD]
  show decide ((((wsL lines).filter fun w=>hdB w Uk).length:Int)>0)=!!_
  rw [Bool.not_not,Bool.eq_iff_iff,decide_eq_true_eq,List.any_eq_true]
  constructor
  ·intro hl
   have hl:0<((wsL lines).filter fun w=>hdB w Uk).length:=by omega
   have:=List.mem_filter.1 (List.getElem_mem hl)
   exact ⟨_,this.1,this.2⟩
  ·rintro ⟨x,hx,hp⟩
   have:=List.length_pos_of_mem (List.mem_filter.2 ⟨hx,hp⟩:x∈(wsL lines).filter fun w=>hdB w Uk)
   omega
 | cons w r =>
  have hwm:w∈(wsL lines).filter fun w=>hdB w hNat:=by rw [hn]; exact List.mem_cons_self
  rw [hn] at hN
  obtain ⟨hw1,hw2⟩:=List.mem_filter.1 hwm
  have hnp:=Ucg (Pw lines h w hw1) (eq_of_beq hw2)
  unfold natP at hnp
  obtain ⟨a,L,e1,e2,d1,b1,c1,s1⟩:=Mr (w.getD 1 default) hnp.2.2.1
  rw [Qjp lines w r hN]
  simp only [e1,e2,Qgm _ _ _ b1 c1,Pi,Nj]
  rw [Za (by omega) (by omega),hD]
  have hdoor:anyF (fun i=>hdB (((wsL lines).map l52Cut.mk).getD i default).w Uk&&!F55 ((wsL lines).map l52Cut.mk) (i:Int) ⟨w⟩) 0 (wsL lines).length=Qgw a (F81 L) (F56 (w.getD 3 default)) (F56 (w.getD 4 default)) ((wsL lines).filter fun w=>hdB w Uk):=by
   have hc:=Qcy (p:=fun i=>hdB (((wsL lines).map l52Cut.mk).getD i default).w Uk&&!F55 ((wsL lines).map l52Cut.mk) (i:Int) ⟨w⟩) (q:=fun i=>(hdB ((wsL lines).getD i default) Uk&&badD a (F81 L) (F56 (w.getD 3 default)) (F56 (w.getD 4 default)) ((wsL lines).getD i default)) || ((wsL lines).take i).any (fun e=>hdB ((wsL lines).getD i default) Uk&&(hdB e Uk&&Vd ((wsL lines).getD i default) e))) (wsL lines).length 0 (fun k _ hk=>by
    have hk:k<(wsL lines).length:=by omega
    have hg:((wsL lines).map l52Cut.mk).getD k default=⟨(wsL lines).getD k default⟩:=Qfq _ _ _ hk
    rw [Ueh _ k (by simpa using hk) ⟨w⟩ a _ e2 ⟨b1.1,b1.2,s1⟩,Bool.not_not,hg,← List.map_take,Xf]
    show (hdB ((wsL lines).getD k default) Uk&&_)=_
    cases hdB ((wsL lines).getD k default) Uk with
    | true=>simp only [Bool.true_and]
    | false =>
     simp only [Bool.false_and]
     rw [show ((wsL lines).take k).any (fun _=>false)=false by simp]; rfl)
   rw [hc,Qgg,Vl (fun x e=>hdB x Uk&&(hdB e Uk&&Vd x e)) (wsL lines) (wsL lines).length 0 (by omega),List.take_zero,List.drop_zero,Xy]
   have h3:=Kv (wsL lines) (fun d=>hdB d Uk&&badD a (F81 L) (F56 (w.getD 3 default)) (F56 (w.getD 4 default)) d) (wsL lines).length 0 (by omega)
   rw [List.drop_zero] at h3
   rw [h3]
   unfold Qgw
   rw [List.any_filter]; rfl
  rw [hdoor]
  have hbd:((wsL lines).filter fun w=>hdB w Uk).any (fun d=>!decide (a≤F53 (d.getD 3 default)∧F53 (d.getD 3 default)<a+F81 L) || decide (F56 (w.getD 3 default)≤F56 (d.getD 2 default)∧F56 (d.getD 2 default)≤F56 (w.getD 4 default)))=((wsL lines).filter fun w=>hdB w Uk).any (badD a (F81 L) (F56 (w.getD 3 default)) (F56 (w.getD 4 default))):=Uv fun d _=>by
   unfold badD
   congr 1
   rw [← decide_not,← Bool.decide_or]
   exact decide_eq_decide.2 (by omega)
  rw [hbd]
  show (_ || Qgw a (F81 L) (F56 (w.getD 3 default)) (F56 (w.getD 4 default)) ((wsL lines).filter fun w=>hdB w Uk))=_
  have g1:decide (a≤F53 (w.getD 2 default)∧F53 (w.getD 2 default)<a+F81 L)=!(decide (F53 (w.getD 2 default)<a) || decide (F53 (w.getD 2 default)≥a+F81 L)):=by
   rw [← Bool.decide_or,← decide_not]
   exact decide_eq_decide.2 (by omega)
  have g2:decide (F56 (w.getD 3 default)>F56 (w.getD 4 default))=!decide (F56 (w.getD 3 default)≤F56 (w.getD 4 default)):=by
   rw [← decide_not]
   exact decide_eq_decide.2 (by omega)
  have g3:decide ((((wsL lines).filter fun w=>hdB w Uk).length:Int)>6)=!decide ((((wsL lines).filter fun w=>hdB w Uk).length:Int)≤6):=by
   rw [← decide_not]
   exact decide_eq_decide.2 (by omega)
  rw [g1,g2,g3]
  generalize (decide (F53 (w.getD 2 default)<a) || decide (F53 (w.getD 2 default)≥a+F81 L))=x1,decide (F56 (w.getD 3 default)≤F56 (w.getD 4 default))=x2,decide ((((wsL lines).filter fun w=>hdB w Uk).length:Int)≤6)=x3,Qgw a (F81 L) (F56 (w.getD 3 default)) (F56 (w.getD 4 default)) ((wsL lines).filter fun w=>hdB w Uk)=x4
  cases x1 <;> cases x2 <;> cases x3 <;> cases x4 <;> rfl
theorem Qrx (lines:List ByteArray) (hz:∀ k:Nat,(lines.getD k default).size≤1048576) (h:F35 lines=0):F27 lines=0∧lines.length≤16∧∀ k:Nat,(lines.getD k default).size≤1048576:=by
 rw [Qft] at h
 exact ⟨h,La lines h,hz⟩
theorem Qgn (lines:List ByteArray) (hz:∀ k:Nat,(lines.getD k default).size≤1048576):∀ k j:Nat,(((lines.map (fun l=>(⟨(F48 l).1⟩:l52Cut))).getD k default).w.getD j default).size≤1048576:=fun k j=>by
 by_cases hk:k<lines.length
 ·rw [Qfq _ _ _ hk]
  exact Qd (lines.getD k default) j
 ·have e:(lines.map (fun l=>(⟨(F48 l).1⟩:l52Cut))).getD k default=default:=by
   rw [List.getD_eq_getElem?_getD,List.getElem?_eq_none (by rw [List.length_map]; omega)]; rfl
  rw [e]
  exact Nat.zero_le _
theorem kc35 (lines:List ByteArray) {K_:Prop} (p0_:∀ k:Nat,(lines.getD k default).size≤1048576) (k_:K_):(∀ k:Nat,(lines.getD k default).size≤1048576)∧(Imp (.l 1 eStr lines) (.l 1 eStr lines))∧K_:=⟨p0_,Imp.refl _,k_⟩
abbrev kh35 (lines:List ByteArray):Hint false Tryz.prog:=.call 35 (S35 lines) (ok35 lines) none
def Po (p:(List ByteArray)→Bool):Yk:=⟨List ByteArray,fun i=>[.c (.x (PX (.l 1 eStr i) (F27 i=0∧i.length≤16∧∀ k:Nat,(i.getD k default).size≤1048576)))],fun i=>.bool (p i)⟩
def Qhv (p:(List ByteArray)→Bool):List Dat:=[.x (FnX Tryz.prog (Po p))]
def fh36:FnH Tryz.prog:=⟨false,36,Po (fun x0=>F36 x0),[],rfl,True,fun i=>Xo (ok36 i)⟩
theorem ca36:Ub Tryz.prog 36=true:=by kernel_rfl
def fh37:FnH Tryz.prog:=⟨false,37,Po (fun x0=>F37 x0),[],rfl,True,fun i=>Xo (ok37 i)⟩
theorem ca37:Ub Tryz.prog 37=true:=by kernel_rfl
def fh38:FnH Tryz.prog:=⟨false,38,Po (fun x0=>F38 x0),[],rfl,True,fun i=>Xo (ok38 i)⟩
theorem ca38:Ub Tryz.prog 38=true:=by kernel_rfl
def fh39:FnH Tryz.prog:=⟨false,39,Po (fun x0=>F39 x0),[],rfl,True,fun i=>Xo (ok39 i)⟩
theorem ca39:Ub Tryz.prog 39=true:=by kernel_rfl
def fh40:FnH Tryz.prog:=⟨false,40,Po (fun x0=>F40 x0),[],rfl,True,fun i=>Xo (ok40 i)⟩
theorem ca40:Ub Tryz.prog 40=true:=by kernel_rfl
def Wl (lines:List ByteArray):Int→Lp Int Int:=fun v13 =>
 bif (decide (v13<(([(fun x0=>F36 x0),(fun x0=>F37 x0),(fun x0=>F38 x0),(fun x0=>F39 x0),(fun x0=>F40 x0)]:List ((List ByteArray)→Bool)).length:Int))) then (bif ((([(fun x0=>F36 x0),(fun x0=>F37 x0),(fun x0=>F38 x0),(fun x0=>F39 x0),(fun x0=>F40 x0)]:List ((List ByteArray)→Bool)).getD v13.toNat default) lines) then (.ret (5+v13)) else (.next (v13+1))) else (.done v13)
def F15 (lines:List ByteArray):Int :=
 bif ((F35 lines) != 0) then (F35 lines) else ((runL (Wl lines) (((([(fun x0=>F36 x0),(fun x0=>F37 x0),(fun x0=>F38 x0),(fun x0=>F39 x0),(fun x0=>F40 x0)]:List ((List ByteArray)→Bool)).length:Int)-0).toNat+1) 0).fin (fun r=>r) (fun v13=>0))
abbrev Rk:Nat×Int:=((((([(fun x0=>F36 x0),(fun x0=>F37 x0),(fun x0=>F38 x0),(fun x0=>F39 x0),(fun x0=>F40 x0)]:List ((List ByteArray)→Bool)).length:Int)-0).toNat+1),0)
abbrev Qke (m39:Nat) (v13:Int):Prop:=(Int.toNat ((([(fun x0=>F36 x0),(fun x0=>F37 x0),(fun x0=>F38 x0),(fun x0=>F39 x0),(fun x0=>F40 x0)]:List ((List ByteArray)→Bool)).length:Int)-v13)<m39)∧(0:Int)≤v13
abbrev Qyd (lines:List ByteArray):Lp Int Int:=LpX (Wl lines) (Rk)
abbrev Qad (lines:List ByteArray) (i:Nat×Int):Prop:=LpJ (Wl lines) (Rk) i (Qke i.1 i.2)
abbrev Qtw (lines:List ByteArray) (i:Nat×Int) (m39:Nat) (v13:Int):Prop:=LpH (Wl lines) (Rk) i m39 v13 (Qke (m39+1) v13)
abbrev Ucc (lines:List ByteArray) (v13:Int) (v13_:Int) (K39:Prop):Prop:=(Rf (.int .i64 (([(fun x0=>F36 x0),(fun x0=>F37 x0),(fun x0=>F38 x0),(fun x0=>F39 x0),(fun x0=>F40 x0)]:List ((List ByteArray)→Bool)).length:Int)))∧((.int .i64 v13:Value)=.int .i64 v13_)∧(Im (.l 1 eStr lines))∧(Im (.l 1 Qhv ([(fun x0=>F36 x0),(fun x0=>F37 x0),(fun x0=>F38 x0),(fun x0=>F39 x0),(fun x0=>F40 x0)]:List ((List ByteArray)→Bool))))∧K39
theorem un15_0 (lines:List ByteArray) (i:Nat×Int) (h:Qad lines i):Qtw lines i (i.1-1) i.2:=⟨hd1 h.1 h.2.1,hd3 h.2.1,hd2 h.2.1,h.2.2⟩
theorem bk15_0 (lines:List ByteArray) (i:Nat×Int) (m39:Nat) (v13:Int) (hl:m39<i.1) (e:runL (Wl lines) m39 v13=Qyd lines) (h:Qke m39 v13):∃ j:Nat×Int,Ucc lines v13 j.2 (Qad lines j∧j.1<i.1):=⟨(m39,v13),rfl,rfl,Imp.refl _,Imp.refl _,⟨e,h⟩,hl⟩
theorem en15_0 (lines:List ByteArray) (h:(0:Int)≤0):Ucc lines 0 0 (Qad lines (Rk)):=⟨rfl,rfl,Imp.refl _,Imp.refl _,rfl,Nat.lt_succ_self _,h⟩
def S15 (lines:List ByteArray):Spec:=⟨[.r (.c (.l 1 eStr lines))],.v (vI (F15 lines)),lines.length≤1048576∧(∀ k:Nat,(lines.getD k default).size≤1048576)⟩
theorem ok15 (lines:List ByteArray):(S15 lines).ok Tryz.prog 15 false :=
 Qi mixed (fn:=Tryz.f15) (ct:=.seqk [(0,0)] .no (.seq (.seq (.reg [(1,kh35 lines)]) (.seq .no (.cond (.seq .no .no) .no))) (.seq (.seqk [(0,0),(11,0)] (.reg [(0,.dat (.l 1 Qhv ([(fun x0=>F36 x0),(fun x0=>F37 x0),(fun x0=>F38 x0),(fun x0=>F39 x0),(fun x0=>F40 x0)]:List ((List ByteArray)→Bool))))]) (.blk (.loop (ι:=Nat×Int) (fun i=>(fun (v13:Int)=>(⟨[(0,some (.h 0 0)),(11,some (.h 1 0)),(12,some (.v (vI (([(fun x0=>F36 x0),(fun x0=>F37 x0),(fun x0=>F38 x0),(fun x0=>F39 x0),(fun x0=>F40 x0)]:List ((List ByteArray)→Bool)).length:Int)))),(13,some (.v (vI v13)))],[(0,some (.shr none (.l 1 eStr lines))),(1,some (.own 1 (.l 1 Qhv ([(fun x0=>F36 x0),(fun x0=>F37 x0),(fun x0=>F38 x0),(fun x0=>F39 x0),(fun x0=>F40 x0)]:List ((List ByteArray)→Bool)))))],2⟩:St)) i.2) (Qad lines) (fun i=>i.1) (Rk) (fun i=>(fun (v13:Int)=>(.seq .no (.seq (.cond .no .no) (.seq (.blk (.seq .no (.seq (.reg [(2,.fnv (Po (([(fun x0=>F36 x0),(fun x0=>F37 x0),(fun x0=>F38 x0),(fun x0=>F39 x0),(fun x0=>F40 x0)]:List ((List ByteArray)→Bool)).getD v13.toNat default)) lines)]) (.cond (.seq (.reg [(1,.bnd)]) .no) .no)))) (.reg [(0,.bnd)]))))) i.2)))) (.seq .no .no)))) Tryz.func15 (fun (hp:lines.length≤1048576∧(∀ k:Nat,(lines.getD k default).size≤1048576))=>have hpre0:=hp.1; have hpre1:=hp.2; kn lines fun _=>kc35 lines (by first | assumption | exact hpre1 _ | exact fun k _=>hpre1 k | (intros; exact trivial) | (intros; exact Nat.zero_le _)) (ifn (F35 lines) 0 (fun h1 _=>fiI (F35 lines) (F15 lines) (condT h1 rfl)) (fun h1 _=>ai (BuildOK.mk Qhv ([(fun x0=>F36 x0),(fun x0=>F37 x0),(fun x0=>F38 x0),(fun x0=>F39 x0),(fun x0=>F40 x0)]:List ((List ByteArray)→Bool)) rfl (by exact ai (Imp.fn fh36 rfl trivial ca36) (ai (Imp.fn fh37 rfl trivial ca37) (ai (Imp.fn fh38 rfl trivial ca38) (ai (Imp.fn fh39 rfl trivial ca39) (ai (Imp.fn fh40 rfl trivial ca40) trivial))))) (fun _=>rfl):BuildOK 5 1 [.v (.func (.func 36) #[] #[]),.v (.func (.func 37) #[] #[]),.v (.func (.func 38) #[] #[]),.v (.func (.func 39) #[] #[]),.v (.func (.func 40) #[] #[])] (.l 1 Qhv ([(fun x0=>F36 x0),(fun x0=>F37 x0),(fun x0=>F38 x0),(fun x0=>F39 x0),(fun x0=>F40 x0)]:List ((List ByteArray)→Bool)))) (kn lines fun _=>kn ([(fun x0=>F36 x0),(fun x0=>F37 x0),(fun x0=>F38 x0),(fun x0=>F39 x0),(fun x0=>F40 x0)]:List ((List ByteArray)→Bool)) fun _=>ai (en15_0 lines (by omega)) (fun (i0:Nat×Int) (hi0:Qad lines i0)=>(fun (m0:Nat) (v13:Int) (hh0:Qtw lines i0 m0 v13)=>have hI0:=hh0.1; have hl0:=hh0.2.1; have _:=hh0.2.2.1; have _:=hh0.2.2.2; ifd (v13<(([(fun x0=>F36 x0),(fun x0=>F37 x0),(fun x0=>F38 x0),(fun x0=>F39 x0),(fun x0=>F40 x0)]:List ((List ByteArray)→Bool)).length:Int)) (fun h3 _=>ai (by omega:ib v13 ([(fun x0=>F36 x0),(fun x0=>F37 x0),(fun x0=>F38 x0),(fun x0=>F39 x0),(fun x0=>F40 x0)]:List ((List ByteArray)→Bool))) (ai (Eq.refl (FnX Tryz.prog (Po (([(fun x0=>F36 x0),(fun x0=>F37 x0),(fun x0=>F38 x0),(fun x0=>F39 x0),(fun x0=>F40 x0)]:List ((List ByteArray)→Bool)).getD v13.toNat default)))) (ai (Imp.px (d:=.l 1 eStr lines) (by exact Qrx lines (by assumption) (by omega):F27 lines=0∧lines.length≤16∧∀ k:Nat,(lines.getD k default).size≤1048576)) (ifb ((([(fun x0=>F36 x0),(fun x0=>F37 x0),(fun x0=>F38 x0),(fun x0=>F39 x0),(fun x0=>F40 x0)]:List ((List ByteArray)→Bool)).getD v13.toNat default) lines) (fun h4=>ai (iok (5+v13) (by first | omega | (simp only [List.length_cons,List.length_nil] at *; omega))) (fiI (5+v13) (F15 lines) (condF h1 (finR (Qp hI0 (condT h3 (condT h4 rfl))) rfl)))) (fun h4=>ai (iok (v13+1) (by first | omega | (simp only [List.length_cons,List.length_nil] at *; omega))) (bk15_0 lines i0 m0 (v13+1) hl0 (Qg hI0 (condT h3 (condF h4 rfl))) (by refine ⟨?_,?_⟩ <;> omega))))))) (fun h3 _=>have hD0_5:Qyd lines=Lp.done v13:=Qj hI0 (condF h3 rfl); fiI 0 (F15 lines) (condF h1 (finD hD0_5 rfl)))) (i0.1-1) i0.2 (un15_0 lines i0 hi0)))))) (by kernel_rfl)
theorem kc27 (lines:List ByteArray) {K_:Prop} (p0_:∀ k:Nat,(lines.getD k default).size≤1048576) (k_:K_):(∀ k:Nat,(lines.getD k default).size≤1048576)∧(Imp (.l 1 eStr lines) (.l 1 eStr lines))∧K_:=⟨p0_,Imp.refl _,k_⟩
abbrev kh27 (lines:List ByteArray):Hint true Tryz.prog:=.call 27 (S27 lines) (ok27 lines) none
theorem kc28a (lines:List ByteArray) {K_:Prop} (p0_:lines.length≤16) (p1_:∀ k:Nat,(lines.getD k default).size≤1048576) (k_:K_):(lines.length≤16∧(∀ k:Nat,(lines.getD k default).size≤1048576))∧(Imp (.l 1 eStr lines) (.l 1 eStr lines))∧K_:=⟨⟨p0_,p1_⟩,Imp.refl _,k_⟩
abbrev kh28a (lines:List ByteArray):Hint true Tryz.prog:=.call 28 (T28 (lines.map (fun l=>(⟨(F48 l).1⟩:l52Cut))) lines) (oa28 lines) none
def F13 (lines:List ByteArray):Int :=
 bif ((F27 lines) != 0) then (F27 lines) else (bif (!(F29 (lines.map (fun l=>(⟨(F48 l).1⟩:l52Cut))))) then 5 else (bif (!(F30 (lines.map (fun l=>(⟨(F48 l).1⟩:l52Cut))))) then 6 else (bif (!(F31 (lines.map (fun l=>(⟨(F48 l).1⟩:l52Cut))))) then 7 else (bif (!(F32 (lines.map (fun l=>(⟨(F48 l).1⟩:l52Cut))))) then 8 else (bif (!(F33 (lines.map (fun l=>(⟨(F48 l).1⟩:l52Cut))))) then 9 else 0)))))
def S13 (lines:List ByteArray):Spec:=⟨[.r (.c (.l 1 eStr lines))],.v (vI (F13 lines)),lines.length≤1048576∧(∀ k:Nat,(lines.getD k default).size≤1048576)⟩
theorem ok13 (lines:List ByteArray):(S13 lines).ok Tryz.prog 13 :=
 Qi mixed (fn:=Tryz.f13) (ct:=.seqk [(0,0)] .no (.seq (.reg [(1,kh27 lines)]) (.seq (.seq .no (.cond (.seq .no .no) .no)) (.seq (.reg [(1,kh28a lines)]) (.seq (.blk (.seq (.reg [(1,.call 29 (S29 (lines.map (fun l=>(⟨(F48 l).1⟩:l52Cut)))) (ok29 (lines.map (fun l=>(⟨(F48 l).1⟩:l52Cut)))) none)]) (.cond (.seq .no .no) (.seq (.reg [(1,.call 30 (S30 (lines.map (fun l=>(⟨(F48 l).1⟩:l52Cut)))) (ok30 (lines.map (fun l=>(⟨(F48 l).1⟩:l52Cut)))) none)]) (.cond (.seq .no .no) (.seq (.reg [(1,.call 31 (S31 (lines.map (fun l=>(⟨(F48 l).1⟩:l52Cut)))) (ok31 (lines.map (fun l=>(⟨(F48 l).1⟩:l52Cut)))) none)]) (.cond (.seq .no .no) (.seq (.reg [(1,.call 32 (S32 (lines.map (fun l=>(⟨(F48 l).1⟩:l52Cut)))) (ok32 (lines.map (fun l=>(⟨(F48 l).1⟩:l52Cut)))) none)]) (.cond (.seq .no .no) (.seq (.reg [(1,.call 33 (S33 (lines.map (fun l=>(⟨(F48 l).1⟩:l52Cut)))) (ok33 (lines.map (fun l=>(⟨(F48 l).1⟩:l52Cut)))) none)]) (.cond (.seq .no .no) .no))))))))))) (.seq .no .no)))))) Tryz.func13 (fun (hp:lines.length≤1048576∧(∀ k:Nat,(lines.getD k default).size≤1048576))=>have hpre0:=hp.1; have hpre1:=hp.2; kn lines fun _=>kc27 lines (by first | assumption | exact hpre1 _ | exact fun k _=>hpre1 k | (intros; exact trivial) | (intros; exact Nat.zero_le _)) (ifn (F27 lines) 0 (fun h1 _=>fiI (F27 lines) (F13 lines) (condT h1 rfl)) (fun h1 _=>kc28a lines (by first | omega | assumption | (have h9:=La lines (by omega); omega)) (by first | omega | assumption | (have h9:=La lines (by omega); omega)) (ai trivial (ai (Imp.refl (.l 1 Qr (lines.map (fun l=>(⟨(F48 l).1⟩:l52Cut))))) (ifb (!(F29 (lines.map (fun l=>(⟨(F48 l).1⟩:l52Cut))))) (fun h2=>fiI 5 (F13 lines) (condF h1 (condT h2 rfl))) (fun h2=>ai trivial (ai (Imp.refl (.l 1 Qr (lines.map (fun l=>(⟨(F48 l).1⟩:l52Cut))))) (ifb (!(F30 (lines.map (fun l=>(⟨(F48 l).1⟩:l52Cut))))) (fun h3=>fiI 6 (F13 lines) (condF h1 (condF h2 (condT h3 rfl)))) (fun h3=>ai (by exact Qgn lines (by assumption):∀ k j:Nat,(((lines.map (fun l=>(⟨(F48 l).1⟩:l52Cut))).getD k default).w.getD j default).size≤1048576) (ai (Imp.refl (.l 1 Qr (lines.map (fun l=>(⟨(F48 l).1⟩:l52Cut))))) (ifb (!(F31 (lines.map (fun l=>(⟨(F48 l).1⟩:l52Cut))))) (fun h4=>fiI 7 (F13 lines) (condF h1 (condF h2 (condF h3 (condT h4 rfl))))) (fun h4=>ai (by exact Qgn lines (by assumption):∀ k j:Nat,(((lines.map (fun l=>(⟨(F48 l).1⟩:l52Cut))).getD k default).w.getD j default).size≤1048576) (ai (Imp.refl (.l 1 Qr (lines.map (fun l=>(⟨(F48 l).1⟩:l52Cut))))) (ifb (!(F32 (lines.map (fun l=>(⟨(F48 l).1⟩:l52Cut))))) (fun h5=>fiI 8 (F13 lines) (condF h1 (condF h2 (condF h3 (condF h4 (condT h5 rfl)))))) (fun h5=>ai (by exact Qgn lines (by assumption):∀ k j:Nat,(((lines.map (fun l=>(⟨(F48 l).1⟩:l52Cut))).getD k default).w.getD j default).size≤1048576) (ai (Imp.refl (.l 1 Qr (lines.map (fun l=>(⟨(F48 l).1⟩:l52Cut))))) (ifb (!(F33 (lines.map (fun l=>(⟨(F48 l).1⟩:l52Cut))))) (fun h6=>fiI 9 (F13 lines) (condF h1 (condF h2 (condF h3 (condF h4 (condF h5 (condT h6 rfl))))))) (fun h6=>fiI 0 (F13 lines) (condF h1 (condF h2 (condF h3 (condF h4 (condF h5 (condF h6 rfl))))))))))))))))))))))))) (by kernel_rfl)
theorem Qan (lines:List ByteArray):F15 lines=F13 lines:=by
 unfold F15 F13
 rw [Qft]
 cases hn:(F27 lines != 0) with
 | true=>rfl
 | false =>
  have h0:F27 lines=0:=by simpa using hn
  rw [cond_false,cond_false]
  have e:(lines.map (fun l=>(⟨(F48 l).1⟩:l52Cut)))=(wsL lines).map l52Cut.mk:=by
   unfold wsL
   rw [List.map_map]; rfl
  rw [e]
  have k1:=Qgu lines h0
  have k2:=Pu lines h0
  have k3:=Qgq lines h0
  have k4:=Pt lines h0
  have k5:=Qdh lines h0
  rw [← k1,← k2,← k3,← k4,← k5]
  have s0:Wl lines 0=bif F36 lines then .ret 5 else .next 1:=rfl
  have s1:Wl lines 1=bif F37 lines then .ret 6 else .next 2:=rfl
  have s2:Wl lines 2=bif F38 lines then .ret 7 else .next 3:=rfl
  have s3:Wl lines 3=bif F39 lines then .ret 8 else .next 4:=rfl
  have s4:Wl lines 4=bif F40 lines then .ret 9 else .next 5:=rfl
  have s5:Wl lines 5=.done 5:=rfl
  show (runL (Wl lines) 6 0).fin _ _=_
  cases b0:F36 lines with
  | true=>rw [b0,cond_true] at s0; rw [Zz _ s0]; rfl
  | false =>
  rw [b0,cond_false] at s0; rw [Yh _ s0]
  cases b1:F37 lines with
  | true=>rw [b1,cond_true] at s1; rw [Zz _ s1]; rfl
  | false =>
  rw [b1,cond_false] at s1; rw [Yh _ s1]
  cases b2:F38 lines with
  | true=>rw [b2,cond_true] at s2; rw [Zz _ s2]; rfl
  | false =>
  rw [b2,cond_false] at s2; rw [Yh _ s2]
  cases b3:F39 lines with
  | true=>rw [b3,cond_true] at s3; rw [Zz _ s3]; rfl
  | false =>
  rw [b3,cond_false] at s3; rw [Yh _ s3]
  cases b4:F40 lines with
  | true=>rw [b4,cond_true] at s4; rw [Zz _ s4]; rfl
  | false =>
  rw [b4,cond_false] at s4; rw [Yh _ s4,Ky _ s5]; rfl
theorem Qsq (lines:List ByteArray) (h:F13 lines=0):lines.length≤16:=by
 unfold F13 at h
 cases hn:(F27 lines != 0) with
 | true=>rw [hn,cond_true] at h; rw [h] at hn; exact absurd hn (by decide)
 | false=>exact La lines (by simpa using hn)
theorem Qkf (lines:List ByteArray) (h:F15 lines=0):lines.length≤16:=Qsq lines (by rw [← Qan]; exact h)
def Xb (a:List ByteArray) (left':Int):(Int×Int)→Lp (Int×Int) Int:=fun (left'1,i40) =>
 bif (decide (i40<(a.length:Int))) then (bif (decide ((left'1-((a.getD i40.toNat default).size:Int))<0)) then (.ret (-1)) else (.next ((left'1-((a.getD i40.toNat default).size:Int)),(i40+1)))) else (.done (left'1,i40))
def F4 (a:List ByteArray) (left':Int):Int :=
 bif (decide ((left'-(a.length:Int))<0)) then (-1) else ((runL (Xb a left') (((a.length:Int)-0).toNat+1) ((left'-(a.length:Int)),0)).fin (fun r=>r) (fun (left'1,i40)=>left'1))
abbrev Qhy (a:List ByteArray) (left':Int):Nat×(Int×Int):=((((a.length:Int)-0).toNat+1),((left'-(a.length:Int)),0))
abbrev Uax (a:List ByteArray) (m39:Nat) (left'1:Int) (i40:Int):Prop:=Int.toNat ((a.length:Int)-i40)<m39∧(0:Int)≤left'1∧left'1≤1048576∧(0:Int)≤i40
abbrev lX4_0 (a:List ByteArray) (left':Int):Lp (Int×Int) Int:=LpX (Xb a left') (Qhy a left')
abbrev Qjw (a:List ByteArray) (left':Int) (i:Nat×(Int×Int)):Prop:=LpJ (Xb a left') (Qhy a left') i (Uax a i.1 i.2.1 i.2.2)
abbrev lH4_0 (a:List ByteArray) (left':Int) (i:Nat×(Int×Int)) (m39:Nat) (left'1:Int) (i40:Int):Prop:=LpH (Xb a left') (Qhy a left') i m39 (left'1,i40) (Uax a (m39+1) left'1 i40)
abbrev lE4_0 (a:List ByteArray) (left'1:Int) (i40:Int) (left'1_:Int) (i40_:Int) (K39:Prop):Prop:=((.int .i64 left'1:Value)=.int .i64 left'1_)∧((.int .i64 i40:Value)=.int .i64 i40_)∧(Im (.l 1 eStr a))∧K39
theorem un4_0 (a:List ByteArray) (left':Int) (i:Nat×(Int×Int)) (h:Qjw a left' i):lH4_0 a left' i (i.1-1) i.2.1 i.2.2:=⟨hd1 h.1 h.2.1,hd3 h.2.1,hd2 h.2.1,h.2.2⟩
theorem bk4_0 (a:List ByteArray) (left':Int) (i:Nat×(Int×Int)) (m39:Nat) (left'1:Int) (i40:Int) (hl:m39<i.1) (e:runL (Xb a left') m39 (left'1,i40)=lX4_0 a left') (h:Uax a m39 left'1 i40):∃ j:Nat×(Int×Int),lE4_0 a left'1 i40 j.2.1 j.2.2 (Qjw a left' j∧j.1<i.1):=⟨(m39,(left'1,i40)),rfl,rfl,Imp.refl _,⟨e,h⟩,hl⟩
theorem en4_0 (a:List ByteArray) (left':Int) (h:(0:Int)≤(left'-(a.length:Int))∧(left'-(a.length:Int))≤1048576∧(0:Int)≤0):lE4_0 a (left'-(a.length:Int)) 0 (left'-(a.length:Int)) 0 (Qjw a left' (Qhy a left')):=⟨rfl,rfl,Imp.refl _,rfl,Nat.lt_succ_self _,h⟩
def S4 (a:List ByteArray) (left':Int):Spec:=⟨[.r (.c (.l 1 eStr a)),.r (.c (.v (vI left')))],.v (vI (F4 a left')),0≤left'∧left'≤1048576∧(∀ k:Nat,(a.getD k default).size≤9223372036854775807)⟩
theorem ok4 (a:List ByteArray) (left':Int):(S4 a left').ok Tryz.prog 4 :=
 Qi mixed (fn:=Tryz.f4) (ct:=.seqk [(0,0)] .no (.seq (.reg [(3,.bnd)]) (.seq (.seq .no (.cond (.seq .no .no) .no)) (.seq (.seqk [(0,0)] .no (.blk (.loop (ι:=Nat×(Int×Int)) (fun i=>(fun (left'1:Int) (i40:Int)=>(⟨[(0,some (.h 0 0)),(1,some (.v (vI left'1))),(5,some (.v (vI i40)))],[(0,some (.shr none (.l 1 eStr a)))],1⟩:St)) i.2.1 i.2.2) (Qjw a left') (fun i=>i.1) (Qhy a left') (fun i=>(fun (left'1:Int) (i40:Int)=>(.seq (.seq .no (.cond .no .no)) (.seq (.blk (.seq (.reg [(6,.bnd)]) (.seq .no (.cond (.seq .no .no) .no)))) (.reg [(1,.bnd)])))) i.2.1 i.2.2)))) (.seq .no .no))))) Tryz.func4 (fun (hp:0≤left'∧left'≤1048576∧(∀ k:Nat,(a.getD k default).size≤9223372036854775807))=>have hpre0:=hp.1; have hpre1:=hp.2.1; have hpre2:=hp.2.2; kn a fun _=>ai (iok (left'-(a.length:Int)) (by first | omega | (have hz:=(by assumption:∀ k:Nat,(a.getD k default).size≤9223372036854775807) i40.toNat; omega))) (ifd ((left'-(a.length:Int))<0) (fun h1 _=>fiI (-1) (F4 a left') (condT h1 rfl)) (fun h1 _=>kn a fun _=>ai (en4_0 a left' (by refine ⟨?_,?_,?_⟩ <;> omega)) (fun (i0:Nat×(Int×Int)) (hi0:Qjw a left' i0)=>(fun (m0:Nat) (left'1:Int) (i40:Int) (hh0:lH4_0 a left' i0 m0 left'1 i40)=>have hI0:=hh0.1; have hl0:=hh0.2.1; have _:=hh0.2.2.1; have _:=hh0.2.2.2; ifd (i40<(a.length:Int)) (fun h3 _=>ai (by omega:ib i40 a) (ai (iok (left'1-((a.getD i40.toNat default).size:Int)) (by first | omega | (have hz:=(by assumption:∀ k:Nat,(a.getD k default).size≤9223372036854775807) i40.toNat; omega))) (ifd ((left'1-((a.getD i40.toNat default).size:Int))<0) (fun h4 _=>fiI (-1) (F4 a left') (condF h1 (finR (Qp hI0 (condT h3 (condT h4 rfl))) rfl))) (fun h4 _=>ai (iok (i40+1) (by first | omega | (have hz:=(by assumption:∀ k:Nat,(a.getD k default).size≤9223372036854775807) i40.toNat; omega))) (bk4_0 a left' i0 m0 (left'1-((a.getD i40.toNat default).size:Int)) (i40+1) hl0 (Qg hI0 (condT h3 (condF h4 rfl))) (by refine ⟨?_,?_,?_,?_⟩ <;> omega)))))) (fun h3 _=>have hD0_5:lX4_0 a left'=Lp.done (left'1,i40):=Qj hI0 (condF h3 rfl); fiI left'1 (F4 a left') (condF h1 (finD hD0_5 rfl)))) (i0.1-1) i0.2.1 i0.2.2 (un4_0 a left' i0 hi0))))) (by kernel_rfl)
theorem gb4 (a:List ByteArray) (left':Int):0≤left'→left'≤1048576→0≤(F4 a left')→(F4 a left')≤left'∧(a.length≤1000000000)∧(∀ k:Nat,(a.getD k default).size≤1000000000):=by
 intro h0 h1 h2
 simp only [F4] at h2 ⊢
 cases h:decide (left'-(a.length:Int)<0)
 ·simp only [h,cond_false] at h2 ⊢
  have hc:=of_decide_eq_false h
  obtain ⟨hall,hle⟩:=Ues (fun (x:ByteArray) (l:Int)=>l-(x.size:Int)) (fun x=>(x.size≤1000000000)) (fun x l g0 g1 g2=>⟨by omega,by omega⟩) a (Xb a left') (left'-(a.length:Int)) (by omega) (by omega) (fun l i=>rfl) h2
  exact ⟨Int.le_trans hle (by omega),by omega,fun k=>by
   by_cases hk:k<a.length
   ·exact (hall k hk)
   ·rw [Jr a (by omega)]; first | exact Nat.zero_le _ | (intro k'; exact Nat.zero_le _) | (intro k' k''; exact Nat.zero_le _)⟩
 ·simp only [h,cond_true] at h2
  exact absurd h2 (by decide)
theorem g4_0 (a:List ByteArray) (left':Int):0≤left'→left'≤1048576→0≤(F4 a left')→(F4 a left')≤left':=by
 intro h0 h1 h2; exact (gb4 a left' h0 h1 h2).1
theorem g4_1 (a:List ByteArray) (left':Int):0≤left'→left'≤1048576→0≤(F4 a left')→a.length≤1000000000:=by
 intro h0 h1 h2; exact (gb4 a left' h0 h1 h2).2.1
theorem g4_2 (a:List ByteArray) (left':Int):0≤left'→left'≤1048576→0≤(F4 a left')→∀ k:Nat,(a.getD k default).size≤1000000000:=by
 intro h0 h1 h2; exact (gb4 a left' h0 h1 h2).2.2
theorem Qia (a:List ByteArray) (l:Int) (h:0≤F4 a l):(a.length:Int)≤l∧(∀ k:Nat,((a.getD k default).size:Int)≤l)∧F4 a l≤l:=by
 unfold F4 at h ⊢
 cases hd:decide ((l-(a.length:Int))<0) with
 | true=>rw [hd,cond_true] at h; exact absurd h (by decide)
 | false =>
  rw [hd,cond_false] at h
  have hd:=of_decide_eq_false hd
  have key:∀ (m i:Nat) (s:Int),i+m=a.length→0≤s→∀ fuel,m<fuel→0≤(runL (Xb a l) fuel (s,(i:Int))).fin (fun r=>r) (fun (x:Int×Int)=>x.1)→(∀ k:Nat,i≤k→k<a.length→((a.getD k default).size:Int)≤s)∧(runL (Xb a l) fuel (s,(i:Int))).fin (fun r=>r) (fun (x:Int×Int)=>x.1)≤s:=by
   intro m
   induction m with
   | zero =>
    intro i s hi hs fuel hf hr
    obtain ⟨fuel,rfl⟩:∃ f,fuel=f+1:=⟨fuel-1,by omega⟩
    have e:Xb a l (s,(i:Int))=.done (s,(i:Int)):=by
     simp only [Xb,decide_eq_false (show ¬ (i:Int)<(a.length:Int) by omega),cond_false]
    rw [Ky _ e]
    exact ⟨fun k h1 h2=>by omega,Int.le_refl _⟩
   | succ m ih =>
    intro i s hi hs fuel hf hr
    obtain ⟨fuel,rfl⟩:∃ f,fuel=f+1:=⟨fuel-1,by omega⟩
    have e:Xb a l (s,(i:Int))=bif decide (s-((a.getD i default).size:Int)<0) then .ret (-1) else .next (s-((a.getD i default).size:Int),((i+1:Nat):Int)):=by
     simp only [Xb,decide_eq_true (show (i:Int)<(a.length:Int) by omega),cond_true,nn]; rfl
    cases hb:decide (s-((a.getD i default).size:Int)<0) with
    | true =>
     rw [hb,cond_true] at e
     rw [Zz _ e] at hr
     exact absurd hr (by show ¬ (0:Int)≤-1; decide)
    | false =>
     rw [hb,cond_false] at e
     have hb:=of_decide_eq_false hb
     rw [Yh _ e] at hr ⊢
     obtain ⟨h1,h2⟩:=ih (i+1) _ (by omega) (by omega) fuel (by omega) hr
     refine ⟨fun k hk1 hk2=>?_,by omega⟩
     rcases Nat.eq_or_lt_of_le hk1 with rfl | hk
     ·omega
     ·have:=h1 k hk hk2
      omega
  obtain ⟨h1,h2⟩:=key a.length 0 (l-(a.length:Int)) (by omega) (by omega) (Int.toNat ((a.length:Int)-0)+1) (by omega) h
  refine ⟨by omega,fun k=>?_,?_⟩
  ·by_cases hk:k<a.length
   ·have:=h1 k (Nat.zero_le _) hk
    omega
   ·rw [List.getD_eq_getElem?_getD,List.getElem?_eq_none (by omega)]
    show ((0:Nat):Int)≤l
    omega
  ·rw [cond_false]
   refine Int.le_trans h2 ?_
   omega
theorem Xj (a:List ByteArray) {l:Int} (h:0≤F4 a l) (hl:l≤1048576):a.length≤1048576:=by have:=(Qia a l h).1; omega
theorem Gq (a:List ByteArray) {l:Int} (h:0≤F4 a l) (hl:l≤1048576):∀ k:Nat,(a.getD k default).size≤1048576:=fun k=>by have:=(Qia a l h).2.1 k; omega
theorem kc20 (k:Int) {K_:Prop} (p0_:k≤1000000000) (k_:K_):(k≤1000000000)∧(Imp (.v (vI k)) (.v (vI k)))∧K_:=⟨p0_,Imp.refl _,k_⟩
abbrev kh20 (k:Int):Hint true Tryz.prog:=.call 20 (S20 k) (ok20 k) none
def Kl (a:List ByteArray) (k:Int):(Int×Int×List ByteArray)→Lp (Int×Int×List ByteArray) (Int×List ByteArray):=fun (k400,i40,xs) =>
 bif (decide (i40<(xs.length:Int))) then (.next ((k400+1),(i40+1),(xs.set (i40).toNat (F20 k400)))) else (.done (k400,i40,xs))
def F10 (a:List ByteArray) (k:Int):Int×List ByteArray :=
 (runL (Kl a k) ((Int.toNat ((a.length:Int)-0))+1) (k,0,a)).fin (fun r=>r) (fun (k400,i40,xs)=>(k400,xs))
abbrev Qac (a:List ByteArray) (k:Int):Nat×(Int×Int×List ByteArray):=(((Int.toNat ((a.length:Int)-0))+1),(k,0,a))
abbrev Qkv (a:List ByteArray) (m39:Nat) (k400:Int) (i40:Int) (xs:List ByteArray):Prop:=Int.toNat ((xs.length:Int)-i40)<m39∧(0:Int)≤k400∧k400+((xs.length:Int)-i40)≤1000000000∧(0:Int)≤i40∧xs.length=a.length
abbrev Qth (a:List ByteArray) (k:Int):Lp (Int×Int×List ByteArray) (Int×List ByteArray):=LpX (Kl a k) (Qac a k)
abbrev Qbn (a:List ByteArray) (k:Int) (i:Nat×(Int×Int×List ByteArray)):Prop:=LpJ (Kl a k) (Qac a k) i (Qkv a i.1 i.2.1 i.2.2.1 i.2.2.2)
abbrev Ucr (a:List ByteArray) (k:Int) (i:Nat×(Int×Int×List ByteArray)) (m39:Nat) (k400:Int) (i40:Int) (xs:List ByteArray):Prop:=LpH (Kl a k) (Qac a k) i m39 (k400,i40,xs) (Qkv a (m39+1) k400 i40 xs)
abbrev Qvv (k400:Int) (i40:Int) (xs:List ByteArray) (k400_:Int) (i40_:Int) (xs_:List ByteArray) (K39:Prop):Prop:=((.int .i64 k400:Value)=.int .i64 k400_)∧((.int .i64 i40:Value)=.int .i64 i40_)∧(Imp (.l 1 eStr xs) (.l 1 eStr xs_))∧K39
theorem un10_0 (a:List ByteArray) (k:Int) (i:Nat×(Int×Int×List ByteArray)) (h:Qbn a k i):Ucr a k i (i.1-1) i.2.1 i.2.2.1 i.2.2.2:=⟨hd1 h.1 h.2.1,hd3 h.2.1,hd2 h.2.1,h.2.2⟩
theorem bk10_0 (a:List ByteArray) (k:Int) (i:Nat×(Int×Int×List ByteArray)) (m39:Nat) (k400:Int) (i40:Int) (xs:List ByteArray) (hl:m39<i.1) (e:runL (Kl a k) m39 (k400,i40,xs)=Qth a k) (h:Qkv a m39 k400 i40 xs):∃ j:Nat×(Int×Int×List ByteArray),Qvv k400 i40 xs j.2.1 j.2.2.1 j.2.2.2 (Qbn a k j∧j.1<i.1):=⟨(m39,(k400,i40,xs)),rfl,rfl,Imp.refl _,⟨e,h⟩,hl⟩
theorem en10_0 (a:List ByteArray) (k:Int) (h:(0:Int)≤k∧k+((a.length:Int)-0)≤1000000000∧(0:Int)≤0∧a.length=a.length):Qvv k 0 a k 0 a (Qbn a k (Qac a k)):=⟨rfl,rfl,Imp.refl _,rfl,Nat.lt_succ_self _,h⟩
theorem fi10 (a:List ByteArray) (k:Int) (r:Int×List ByteArray) (hF:r=(F10 a k)):((.int .i64 r.1:Value)=.int .i64 (F10 a k).1)∧(Imp (.l 1 eStr r.2) (.l 1 eStr (F10 a k).2))∧True:=by cases hF; exact ⟨rfl,Imp.refl _,trivial⟩
def S10 (a:List ByteArray) (k:Int):Spec:=⟨[.ow (.l 1 eStr a) (some (.l 1 eStr (F10 a k).2)),.r (.c (.v (vI k)))],.v (vI (F10 a k).1),0≤k∧k+(a.length:Int)≤1000000000⟩
theorem ok10 (a:List ByteArray) (k:Int):(S10 a k).ok Tryz.prog 10 :=
 Qi mixed (fn:=Tryz.f10) (ct:=.seqk [(0,0)] .no (.seq (.seqk [(0,0)] .no (.blk (.loop (ι:=Nat×(Int×Int×List ByteArray)) (fun i=>(fun (k400:Int) (i40:Int) (xs:List ByteArray)=>(⟨[(0,some (.h 0 0)),(1,some (.v (vI k400))),(5,some (.v (vI i40)))],[(0,some (.own 0 (.l 1 eStr xs)))],1⟩:St)) i.2.1 i.2.2.1 i.2.2.2) (Qbn a k) (fun i=>i.1) (Qac a k) (fun i=>(fun (k400:Int) (i40:Int) (xs:List ByteArray)=>(.seq (.seq .no (.cond .no .no)) (.seq (.blk (.seq (.reg [(3,kh20 k400),(5,.dat (.l 1 eStr (xs.set (i40).toNat (F20 k400))))]) (.reg [(1,.bnd)]))) (.reg [(1,.bnd)])))) i.2.1 i.2.2.1 i.2.2.2)))) (.seq .no .no))) Tryz.func10 (fun (hp:0≤k∧k+(a.length:Int)≤1000000000)=>have hpre0:=hp.1; have hpre1:=hp.2; kn a fun _=>kn a fun _=>ai (en10_0 a k (by refine ⟨?_,?_,?_,?_⟩ <;> first | omega | (simp only [lens,ib] at*<;> omega))) (fun (i0:Nat×(Int×Int×List ByteArray)) (hi0:Qbn a k i0)=>(fun (m0:Nat) (k400:Int) (i40:Int) (xs:List ByteArray) (hh0:Ucr a k i0 m0 k400 i40 xs)=>have hI0:=hh0.1; have hl0:=hh0.2.1; have _:=hh0.2.2.1; have _:=hh0.2.2.2; ifd (i40<(xs.length:Int)) (fun h2 _=>kc20 k400 (by first | omega | (simp only [lens,ib] at*<;> omega)) (ai (by first | omega | (simp only [lens,ib] at*<;> omega):ib i40 xs) (ai (setr 1 eStr xs (i40).toNat (F20 k400)) (ai (iok (k400+1) (by first | omega | (simp only [lens,ib] at*<;> omega))) (ai (iok (i40+1) (by first | omega | (simp only [lens,ib] at*<;> omega))) (bk10_0 a k i0 m0 (k400+1) (i40+1) (xs.set (i40).toNat (F20 k400)) hl0 (Qg hI0 (condT h2 rfl)) (by refine ⟨?_,?_,?_,?_,?_⟩ <;> first | omega | (simp only [lens,ib] at*<;> omega)))))))) (fun h2 _=>have hD0_3:Qth a k=Lp.done (k400,i40,xs):=Qj hI0 (condF h2 rfl); fi10 a k (k400,xs) (finD hD0_3 rfl))) (i0.1-1) i0.2.1 i0.2.2.1 i0.2.2.2 (un10_0 a k i0 hi0))) (by kernel_rfl)
theorem Qiz (a:List ByteArray) (k:Int):(F10 a k).2.length=a.length:=by
 have h:=Yf (step:=Kl a k) (fun i (s:Int×List ByteArray)=>(s.1,(i:Int),s.2)) a.length (fun _ s=>s.2.length=a.length) (fun _=>False) (fun i s hi hs=>.inl ⟨(s.1+1,s.2.set i (F20 s.1)),by simp only [Kl,hs,decide_eq_true (show (i:Int)<(a.length:Int) by omega),cond_true,Int.toNat_natCast]; rfl,by simpa using hs⟩) (fun s hs=>by simp only [Kl,hs,decide_eq_false (show ¬ (a.length:Int)<(a.length:Int) by omega),cond_false]) a.length 0 (k,a) (by omega) rfl (Int.toNat ((a.length:Int)-0)+1) (by omega)
 show ((runL (Kl a k) (Int.toNat ((a.length:Int)-0)+1) (k,0,a)).fin (fun r=>r) (fun (k400,i40,xs)=>(k400,xs))).2.length=a.length
 rcases h with ⟨s,e,hs⟩ | ⟨r,_,hr⟩
 ·rw [show (k,(0:Int),a)=((k,a).1,((0:Nat):Int),(k,a).2) from rfl,e]; exact hs
 ·exact hr.elim
def Wm (a:List ByteArray) (k:Int):(Int×Int)→Lp (Int×Int) Int:=fun (k400,i40) =>
 bif (decide (i40<(a.length:Int))) then (bif (!((a.getD (Int.toNat i40) default).toList==(F20 k400).toList)) then (.ret (-1)) else (.next ((k400+1),(i40+1)))) else (.done (k400,i40))
def F44 (a:List ByteArray) (k:Int):Int :=
 (runL (Wm a k) ((Int.toNat ((a.length:Int)-0))+1) (k,0)).fin (fun r=>r) (fun (k400,i40)=>k400)
abbrev Qab (a:List ByteArray) (k:Int):Nat×(Int×Int):=(((Int.toNat ((a.length:Int)-0))+1),(k,0))
abbrev Qki (a:List ByteArray) (m39:Nat) (k400:Int) (i40:Int):Prop:=Int.toNat ((a.length:Int)-i40)<m39∧(0:Int)≤k400∧k400+((a.length:Int)-i40)≤1000000000∧(0:Int)≤i40
abbrev Qwq (a:List ByteArray) (k:Int):Lp (Int×Int) Int:=LpX (Wm a k) (Qab a k)
abbrev Ek (a:List ByteArray) (k:Int) (i:Nat×(Int×Int)):Prop:=LpJ (Wm a k) (Qab a k) i (Qki a i.1 i.2.1 i.2.2)
abbrev Qut (a:List ByteArray) (k:Int) (i:Nat×(Int×Int)) (m39:Nat) (k400:Int) (i40:Int):Prop:=LpH (Wm a k) (Qab a k) i m39 (k400,i40) (Qki a (m39+1) k400 i40)
abbrev Qsx (a:List ByteArray) (k400:Int) (i40:Int) (k400_:Int) (i40_:Int) (K39:Prop):Prop:=((.int .i64 k400:Value)=.int .i64 k400_)∧((.int .i64 i40:Value)=.int .i64 i40_)∧(Im (.l 1 eStr a))∧K39
theorem un44_0 (a:List ByteArray) (k:Int) (i:Nat×(Int×Int)) (h:Ek a k i):Qut a k i (i.1-1) i.2.1 i.2.2:=⟨hd1 h.1 h.2.1,hd3 h.2.1,hd2 h.2.1,h.2.2⟩
theorem bk44_0 (a:List ByteArray) (k:Int) (i:Nat×(Int×Int)) (m39:Nat) (k400:Int) (i40:Int) (hl:m39<i.1) (e:runL (Wm a k) m39 (k400,i40)=Qwq a k) (h:Qki a m39 k400 i40):∃ j:Nat×(Int×Int),Qsx a k400 i40 j.2.1 j.2.2 (Ek a k j∧j.1<i.1):=⟨(m39,(k400,i40)),rfl,rfl,Imp.refl _,⟨e,h⟩,hl⟩
theorem en44_0 (a:List ByteArray) (k:Int) (h:(0:Int)≤k∧k+((a.length:Int)-0)≤1000000000∧(0:Int)≤0):Qsx a k 0 k 0 (Ek a k (Qab a k)):=⟨rfl,rfl,Imp.refl _,rfl,Nat.lt_succ_self _,h⟩
def S44 (a:List ByteArray) (k:Int):Spec:=⟨[.r (.c (.l 1 eStr a)),.r (.c (.v (vI k)))],.v (vI (F44 a k)),0≤k∧k+(a.length:Int)≤1000000000⟩
theorem ok44 (a:List ByteArray) (k:Int):(S44 a k).ok Tryz.prog 44 :=
 Qi mixed (fn:=Tryz.f44) (ct:=.seqk [(0,0)] .no (.seq (.seqk [(0,0)] .no (.blk (.loop (ι:=Nat×(Int×Int)) (fun i=>(fun (k400:Int) (i40:Int)=>(⟨[(0,some (.h 0 0)),(1,some (.v (vI k400))),(5,some (.v (vI i40)))],[(0,some (.shr none (.l 1 eStr a)))],1⟩:St)) i.2.1 i.2.2) (Ek a k) (fun i=>i.1) (Qab a k) (fun i=>(fun (k400:Int) (i40:Int)=>(.seq (.seq .no (.cond .no .no)) (.seq (.blk (.seq (.seq (.reg [(5,kh20 k400)]) (.cond (.seq .no .no) .no)) (.reg [(1,.bnd)]))) (.reg [(1,.bnd)])))) i.2.1 i.2.2)))) (.seq .no .no))) Tryz.func44 (fun (hp:0≤k∧k+(a.length:Int)≤1000000000)=>have hpre0:=hp.1; have hpre1:=hp.2; kn a fun _=>kn a fun _=>ai (en44_0 a k (by refine ⟨?_,?_,?_⟩ <;> omega)) (fun (i0:Nat×(Int×Int)) (hi0:Ek a k i0)=>(fun (m0:Nat) (k400:Int) (i40:Int) (hh0:Qut a k i0 m0 k400 i40)=>have hI0:=hh0.1; have hl0:=hh0.2.1; have _:=hh0.2.2.1; have _:=hh0.2.2.2; ifd (i40<(a.length:Int)) (fun h2 _=>ai (by omega:ib i40 a) (kc20 k400 (by omega) (ifb (!((a.getD (Int.toNat i40) default).toList==(F20 k400).toList)) (fun h3=>fiI (-1) (F44 a k) (finR (Qp hI0 (condT h2 (condT h3 rfl))) rfl)) (fun h3=>ai (iok (k400+1) (by omega)) (ai (iok (i40+1) (by omega)) (bk44_0 a k i0 m0 (k400+1) (i40+1) hl0 (Qg hI0 (condT h2 (condF h3 rfl))) (by refine ⟨?_,?_,?_,?_⟩ <;> omega))))))) (fun h2 _=>have hD0_4:Qwq a k=Lp.done (k400,i40):=Qj hI0 (condF h2 rfl); fiI k400 (F44 a k) (finD hD0_4 rfl))) (i0.1-1) i0.2.1 i0.2.2 (un44_0 a k i0 hi0))) (by kernel_rfl)
theorem mk10:Mk F10 F44 (sumL (fun _=>1)) :=
 Qei (fun (x:ByteArray) (k:Int)=>((k+1),(F20 k))) (fun (x:ByteArray) (k:Int)=>(bif (!(x.toList==(F20 k).toList)) then (-1) else (k+1))) (fun _=>1)
  (fun x k h0 h1=>by
   simp (discharger:=omega) only [Za,bne_self_eq_false,beq_self_eq_true,cond_false,cond_true,Bool.not_true,Bool.not_false,Qzq,and_self] <;> omega)
  F10 F44 Kl Wm (fun a k=>rfl) (fun a k0 k i xs=>rfl) (fun a k=>rfl)
  (fun a k0 k i hi h0 hh=>by
   obtain ⟨c0,hh⟩:=Ls hh
   simp only [Wm,decide_eq_true hi,cond_true,c0,cond_false])
  (fun a k0 k=>by simp only [Wm,geD,cond_false])
theorem mk10a (x:List ByteArray) (k:Int) (h0:0≤k) (h1:k+((sumL (fun _=>1)) x:Int)<9223372036854775807):(F10 x k).1=k+(sumL (fun _=>1)) x:=(mk10 x k h0 h1).1
theorem mk10b (x:List ByteArray) (k:Int) (h0:0≤k) (h1:k+((sumL (fun _=>1)) x:Int)<9223372036854775807):F44 (F10 x k).2 k=k+(sumL (fun _=>1)) x:=(mk10 x k h0 h1).2
theorem Ys (a:List ByteArray) (k:Int):(F10 a k).1=k+(a.length:Int):=by
 have h:=Yf (step:=Kl a k) (fun i (s:Int×List ByteArray)=>(s.1,(i:Int),s.2)) a.length (fun i s=>s.2.length=a.length∧s.1=k+(i:Int)) (fun _=>False) (fun i s hi hs=>.inl ⟨(s.1+1,s.2.set i (F20 s.1)),by simp only [Kl,hs.1,decide_eq_true (show (i:Int)<(a.length:Int) by omega),cond_true,Int.toNat_natCast]; rfl,by
   refine ⟨by simpa using hs.1,?_⟩
   have:=hs.2
   show s.1+1=k+((i+1:Nat):Int)
   omega⟩) (fun s hs=>by simp only [Kl,hs.1,decide_eq_false (show ¬ (a.length:Int)<(a.length:Int) by omega),cond_false]) a.length 0 (k,a) (by omega) ⟨rfl,by simp⟩ (Int.toNat ((a.length:Int)-0)+1) (by omega)
 show ((runL (Kl a k) (Int.toNat ((a.length:Int)-0)+1) (k,0,a)).fin (fun r=>r) (fun (k400,i40,xs)=>(k400,xs))).1=k+(a.length:Int)
 rcases h with ⟨s,e,hs⟩ | ⟨r,_,hr⟩
 ·rw [show (k,(0:Int),a)=((k,a).1,((0:Nat):Int),(k,a).2) from rfl,e]; exact hs.2
 ·exact hr.elim
theorem Bt {α:Type}:∀ l:List α,sumL (fun _=>1) l=l.length
 | []=>rfl
 | a :: l=>by
  rw [Wz,Bt l,List.length_cons]
  omega
def F34 (list:List ByteArray):List ByteArray :=
 (([]:List ByteArray)++list)
theorem fi34 (list:List ByteArray) (r:List ByteArray) (hF:r=(F34 list)):(Imp (.l 1 eStr r) (.l 1 eStr (F34 list)))∧True:=by cases hF; exact ⟨Imp.refl _,trivial⟩
def S34 (R:List ByteArray) (list:List ByteArray):Spec:=⟨[.r (.c (.l 1 eStr list))],.ow (.l 1 eStr R),list.length≤1000000000⟩
theorem ok34 (list:List ByteArray):(S34 (F34 list) list).ok Tryz.prog 34 :=
 Qi mixed (fn:=Tryz.f34) (ct:=.seqk [(0,0)] .no (.seq (.reg [(0,.dat (.l 1 eStr ([]:List ByteArray))),(2,.dat (.l 1 eStr (([]:List ByteArray)++list)))]) .no)) Tryz.func34 (fun (hpre0:list.length≤1000000000)=>kn list fun _=>ai (bokr 1 eStr ([]:List ByteArray) fun _=>rfl) (ai (AppL.mk eStr ([]:List ByteArray) list (Imp.refl (.l 1 eStr ([]:List ByteArray))) ir (fun y=>⟨rfl,fun e he=>by simp only [eStr,List.mem_cons,List.not_mem_nil,or_false] at he; rcases he with rfl <;> exact ⟨_,rfl⟩⟩):AppL (.l 1 eStr ([]:List ByteArray)) (.l 1 eStr list) 1 (.l 1 eStr (([]:List ByteArray)++list))) (ai (by (try simp only [lens]); omega:(([]:List ByteArray)++list).length*16≤140737488355328) (fi34 list (([]:List ByteArray)++list) rfl)))) (by kernel_rfl)
theorem as34 (list:List ByteArray):F34 list=(list):=by
 rfl
theorem oa34 (list:List ByteArray):(S34 (list) list).ok Tryz.prog 34:=by
 intro hp; have h:=ok34 list hp; rw [as34 list] at h; exact h
structure ConfCand where
 User:ByteArray
 Base:Int
 From:List ByteArray
 Lines:List ByteArray
 deriving DecidableEq,Inhabited
def Qc (x:ConfCand):List Dat:=[.v (.string x.User),.v (vI x.Base),.l 1 eStr x.From,.l 1 eStr x.Lines]
structure ConfBox where
 Edition:Int
 Lines:List ByteArray
 Trial:Int
 Back:List ByteArray
 Cands:List ConfCand
 deriving DecidableEq,Inhabited
def Yr (x:ConfBox):List Dat:=[.v (vI x.Edition),.l 1 eStr x.Lines,.v (vI x.Trial),.l 1 eStr x.Back,.l 4 Qc x.Cands]
structure ConfSlot where
 Whole:Bool
 Edition:Int
 Trial:Bool
 Lines:List ByteArray
 deriving DecidableEq,Inhabited
def Qe (x:ConfSlot):List Dat:=[.v (.bool x.Whole),.v (vI x.Edition),.v (.bool x.Trial),.l 1 eStr x.Lines]
structure ConfJob where
 Kind:Int
 Step:Int
 Edition:Int
 Ticks:Int
 Lines:List ByteArray
 deriving DecidableEq,Inhabited
def Yt (x:ConfJob):List Dat:=[.v (vI x.Kind),.v (vI x.Step),.v (vI x.Edition),.v (vI x.Ticks),.l 1 eStr x.Lines]
structure ConfStore where
 Up:Bool
 Box:ConfBox
 Slots:List ConfSlot
 Live:Int
 Last:Int
 Job:ConfJob
 deriving DecidableEq,Inhabited
def Uf (x:ConfStore):List Dat:=[.v (.bool x.Up),.v (vI x.Box.Edition),.l 1 eStr x.Box.Lines,.v (vI x.Box.Trial),.l 1 eStr x.Box.Back,.l 4 Qc x.Box.Cands,.l 4 Qe x.Slots,.v (vI x.Live),.v (vI x.Last),.v (vI x.Job.Kind),.v (vI x.Job.Step),.v (vI x.Job.Edition),.v (vI x.Job.Ticks),.l 1 eStr x.Job.Lines]
theorem Qek (list:List ByteArray) {K_:Prop} (p0_:list.length≤1000000000) (k_:K_):(list.length≤1000000000)∧(Imp (.l 1 eStr list) (.l 1 eStr list))∧K_:=⟨p0_,Imp.refl _,k_⟩
abbrev Qfb (list:List ByteArray):Hint true Tryz.prog:=.call 34 (S34 list list) (oa34 list) none
def Xz (s:ConfStore):(List ConfCand×Int)→Lp (List ConfCand×Int) ConfStore:=fun (cands1,i40) =>
 bif (decide (i40<(s.Box.Cands.length:Int))) then (.next ((cands1++[(s.Box.Cands.getD i40.toNat default)]),(i40+1))) else (.done (cands1,i40))
def Ns (s:ConfStore):Lp (List ConfCand) ConfStore :=
 (runL (Xz s) (((s.Box.Cands.length:Int)-0).toNat+1) (([]:List ConfCand),0)).fin Lp.ret (fun (cands1,i40)=>.done cands1)
def Xp (s:ConfStore) (cands:List ConfCand):(List ConfSlot×Int)→Lp (List ConfSlot×Int) ConfStore:=fun (slots,i41) =>
 bif (decide (i41<(s.Slots.length:Int))) then (.next ((slots++[(s.Slots.getD i41.toNat default)]),(i41+1))) else (.done (slots,i41))
def F14 (s:ConfStore):ConfStore :=
 (Ns s).fin (fun r=>r) (fun cands=>(runL (Xp s cands) (((s.Slots.length:Int)-0).toNat+1) (([]:List ConfSlot),0)).fin (fun r=>r) (fun (slots,i41)=>(⟨s.Up,(⟨s.Box.Edition,s.Box.Lines,s.Box.Trial,s.Box.Back,cands⟩:ConfBox),slots,s.Live,s.Last,s.Job⟩:ConfStore)))
abbrev Qbv (s:ConfStore):Nat×(List ConfCand×Int):=((((s.Box.Cands.length:Int)-0).toNat+1),(([]:List ConfCand),0))
abbrev Qoe (s:ConfStore) (m39:Nat) (cands1:List ConfCand) (i40:Int):Prop:=Int.toNat ((s.Box.Cands.length:Int)-i40)<m39∧(cands1.length:Int)≤i40∧(0:Int)≤i40
abbrev Qzr (s:ConfStore):Lp (List ConfCand×Int) ConfStore:=LpX (Xz s) (Qbv s)
abbrev Rn (s:ConfStore) (i:Nat×(List ConfCand×Int)):Prop:=LpJ (Xz s) (Qbv s) i (Qoe s i.1 i.2.1 i.2.2)
abbrev Uch (s:ConfStore) (i:Nat×(List ConfCand×Int)) (m39:Nat) (cands1:List ConfCand) (i40:Int):Prop:=LpH (Xz s) (Qbv s) i m39 (cands1,i40) (Qoe s (m39+1) cands1 i40)
abbrev Qzk (s:ConfStore) (cands1:List ConfCand) (i40:Int) (cands1_:List ConfCand) (i40_:Int) (K39:Prop):Prop:=((.int .i64 i40:Value)=.int .i64 i40_)∧(Rf (.bool s.Up))∧(Rf (.int .i64 s.Box.Edition))∧(Rf (.int .i64 s.Box.Trial))∧(Rf (.int .i64 s.Live))∧(Rf (.int .i64 s.Last))∧(Rf (.int .i64 s.Job.Kind))∧(Rf (.int .i64 s.Job.Step))∧(Rf (.int .i64 s.Job.Edition))∧(Rf (.int .i64 s.Job.Ticks))∧(Im (.l 1 eStr s.Box.Lines))∧(Im (.l 1 eStr s.Box.Back))∧(Im (.l 4 Qc s.Box.Cands))∧(Im (.l 4 Qe s.Slots))∧(Im (.l 1 eStr s.Job.Lines))∧(Rf (.bool false))∧(Rf (.int .i64 0))∧(Rf (.slice none 0 0))∧(Rf (.int .i64 0))∧(Rf (.slice none 0 0))∧(Rf (.slice none 0 0))∧(Rf (.slice none 0 0))∧(Rf (.int .i64 0))∧(Rf (.int .i64 0))∧(Rf (.int .i64 0))∧(Rf (.int .i64 0))∧(Rf (.int .i64 0))∧(Rf (.int .i64 0))∧(Rf (.slice none 0 0))∧(Imp (.l 4 Qc cands1) (.l 4 Qc cands1_))∧K39
theorem un14_0 (s:ConfStore) (i:Nat×(List ConfCand×Int)) (h:Rn s i):Uch s i (i.1-1) i.2.1 i.2.2:=⟨hd1 h.1 h.2.1,hd3 h.2.1,hd2 h.2.1,h.2.2⟩
theorem bk14_0 (s:ConfStore) (i:Nat×(List ConfCand×Int)) (m39:Nat) (cands1:List ConfCand) (i40:Int) (hl:m39<i.1) (e:runL (Xz s) m39 (cands1,i40)=Qzr s) (h:Qoe s m39 cands1 i40):∃ j:Nat×(List ConfCand×Int),Qzk s cands1 i40 j.2.1 j.2.2 (Rn s j∧j.1<i.1):=⟨(m39,(cands1,i40)),rfl,rfl,rfl,rfl,rfl,rfl,rfl,rfl,rfl,rfl,Imp.refl _,Imp.refl _,Imp.refl _,Imp.refl _,Imp.refl _,rfl,rfl,rfl,rfl,rfl,rfl,rfl,rfl,rfl,rfl,rfl,rfl,rfl,rfl,Imp.refl _,⟨e,h⟩,hl⟩
theorem en14_0 (s:ConfStore) (h:(([]:List ConfCand).length:Int)≤0∧(0:Int)≤0):Qzk s ([]:List ConfCand) 0 ([]:List ConfCand) 0 (Rn s (Qbv s)):=⟨rfl,rfl,rfl,rfl,rfl,rfl,rfl,rfl,rfl,rfl,Imp.refl _,Imp.refl _,Imp.refl _,Imp.refl _,Imp.refl _,rfl,rfl,rfl,rfl,rfl,rfl,rfl,rfl,rfl,rfl,rfl,rfl,rfl,rfl,Imp.refl _,rfl,Nat.lt_succ_self _,h⟩
abbrev Qmm (s:ConfStore) (j:List ConfCand):Prop:=(Ns s)=Lp.done j
theorem jn14_0 (s:ConfStore) (cands:List ConfCand) (e:(Ns s)=Lp.done cands):∃ j:List ConfCand,((.bool s.Up:Value)=.bool s.Up)∧((.int .i64 s.Box.Edition:Value)=.int .i64 s.Box.Edition)∧((.int .i64 s.Box.Trial:Value)=.int .i64 s.Box.Trial)∧((.int .i64 s.Live:Value)=.int .i64 s.Live)∧((.int .i64 s.Last:Value)=.int .i64 s.Last)∧((.int .i64 s.Job.Kind:Value)=.int .i64 s.Job.Kind)∧((.int .i64 s.Job.Step:Value)=.int .i64 s.Job.Step)∧((.int .i64 s.Job.Edition:Value)=.int .i64 s.Job.Edition)∧((.int .i64 s.Job.Ticks:Value)=.int .i64 s.Job.Ticks)∧(Imp (.l 1 eStr s.Box.Lines) (.l 1 eStr s.Box.Lines))∧(Imp (.l 1 eStr s.Box.Back) (.l 1 eStr s.Box.Back))∧(Imp (.l 4 Qc s.Box.Cands) (.l 4 Qc s.Box.Cands))∧(Imp (.l 4 Qe s.Slots) (.l 4 Qe s.Slots))∧(Imp (.l 1 eStr s.Job.Lines) (.l 1 eStr s.Job.Lines))∧((.bool false:Value)=.bool false)∧((.int .i64 0:Value)=.int .i64 0)∧((.slice none 0 0:Value)=.slice none 0 0)∧((.int .i64 0:Value)=.int .i64 0)∧((.slice none 0 0:Value)=.slice none 0 0)∧((.slice none 0 0:Value)=.slice none 0 0)∧((.slice none 0 0:Value)=.slice none 0 0)∧((.int .i64 0:Value)=.int .i64 0)∧((.int .i64 0:Value)=.int .i64 0)∧((.int .i64 0:Value)=.int .i64 0)∧((.int .i64 0:Value)=.int .i64 0)∧((.int .i64 0:Value)=.int .i64 0)∧((.int .i64 0:Value)=.int .i64 0)∧((.slice none 0 0:Value)=.slice none 0 0)∧(Imp (.l 4 Qc cands) (.l 4 Qc j))∧Qmm s j:=⟨cands,rfl,rfl,rfl,rfl,rfl,rfl,rfl,rfl,rfl,Imp.refl _,Imp.refl _,Imp.refl _,Imp.refl _,Imp.refl _,rfl,rfl,rfl,rfl,rfl,rfl,rfl,rfl,rfl,rfl,rfl,rfl,rfl,rfl,Imp.refl _,e⟩
abbrev Tw (s:ConfStore):Nat×(List ConfSlot×Int):=((((s.Slots.length:Int)-0).toNat+1),(([]:List ConfSlot),0))
abbrev Qnx (s:ConfStore) (m39:Nat) (slots:List ConfSlot) (i41:Int):Prop:=Int.toNat ((s.Slots.length:Int)-i41)<m39∧(slots.length:Int)≤i41∧(0:Int)≤i41
abbrev Qun (s:ConfStore) (cands:List ConfCand):Lp (List ConfSlot×Int) ConfStore:=LpX (Xp s cands) (Tw s)
abbrev Et (s:ConfStore) (cands:List ConfCand) (i:Nat×(List ConfSlot×Int)):Prop:=LpJ (Xp s cands) (Tw s) i (Qnx s i.1 i.2.1 i.2.2)
abbrev Uaq (s:ConfStore) (cands:List ConfCand) (i:Nat×(List ConfSlot×Int)) (m39:Nat) (slots:List ConfSlot) (i41:Int):Prop:=LpH (Xp s cands) (Tw s) i m39 (slots,i41) (Qnx s (m39+1) slots i41)
abbrev Qzl (s:ConfStore) (cands:List ConfCand) (slots:List ConfSlot) (i41:Int) (slots_:List ConfSlot) (i41_:Int) (K39:Prop):Prop:=((.int .i64 i41:Value)=.int .i64 i41_)∧(Rf (.bool s.Up))∧(Rf (.int .i64 s.Box.Edition))∧(Rf (.int .i64 s.Box.Trial))∧(Rf (.int .i64 s.Live))∧(Rf (.int .i64 s.Last))∧(Rf (.int .i64 s.Job.Kind))∧(Rf (.int .i64 s.Job.Step))∧(Rf (.int .i64 s.Job.Edition))∧(Rf (.int .i64 s.Job.Ticks))∧(Im (.l 1 eStr s.Box.Lines))∧(Im (.l 1 eStr s.Box.Back))∧(Im (.l 4 Qc cands))∧(Im (.l 4 Qe s.Slots))∧(Im (.l 1 eStr s.Job.Lines))∧(Rf (.bool false))∧(Rf (.int .i64 0))∧(Rf (.slice none 0 0))∧(Rf (.int .i64 0))∧(Rf (.slice none 0 0))∧(Rf (.slice none 0 0))∧(Rf (.slice none 0 0))∧(Rf (.int .i64 0))∧(Rf (.int .i64 0))∧(Rf (.int .i64 0))∧(Rf (.int .i64 0))∧(Rf (.int .i64 0))∧(Rf (.int .i64 0))∧(Rf (.slice none 0 0))∧(Imp (.l 4 Qe slots) (.l 4 Qe slots_))∧K39
theorem un14_1 (s:ConfStore) (cands:List ConfCand) (i:Nat×(List ConfSlot×Int)) (h:Et s cands i):Uaq s cands i (i.1-1) i.2.1 i.2.2:=⟨hd1 h.1 h.2.1,hd3 h.2.1,hd2 h.2.1,h.2.2⟩
theorem bk14_1 (s:ConfStore) (cands:List ConfCand) (i:Nat×(List ConfSlot×Int)) (m39:Nat) (slots:List ConfSlot) (i41:Int) (hl:m39<i.1) (e:runL (Xp s cands) m39 (slots,i41)=Qun s cands) (h:Qnx s m39 slots i41):∃ j:Nat×(List ConfSlot×Int),Qzl s cands slots i41 j.2.1 j.2.2 (Et s cands j∧j.1<i.1):=⟨(m39,(slots,i41)),rfl,rfl,rfl,rfl,rfl,rfl,rfl,rfl,rfl,rfl,Imp.refl _,Imp.refl _,Imp.refl _,Imp.refl _,Imp.refl _,rfl,rfl,rfl,rfl,rfl,rfl,rfl,rfl,rfl,rfl,rfl,rfl,rfl,rfl,Imp.refl _,⟨e,h⟩,hl⟩
theorem en14_1 (s:ConfStore) (cands:List ConfCand) (h:(([]:List ConfSlot).length:Int)≤0∧(0:Int)≤0):Qzl s cands ([]:List ConfSlot) 0 ([]:List ConfSlot) 0 (Et s cands (Tw s)):=⟨rfl,rfl,rfl,rfl,rfl,rfl,rfl,rfl,rfl,rfl,Imp.refl _,Imp.refl _,Imp.refl _,Imp.refl _,Imp.refl _,rfl,rfl,rfl,rfl,rfl,rfl,rfl,rfl,rfl,rfl,rfl,rfl,rfl,rfl,Imp.refl _,rfl,Nat.lt_succ_self _,h⟩
theorem fi14 (s:ConfStore) (r:ConfStore) (hF:r=(F14 s)):((.bool r.Up:Value)=.bool (F14 s).Up)∧((.int .i64 r.Box.Edition:Value)=.int .i64 (F14 s).Box.Edition)∧(Imp (.l 1 eStr r.Box.Lines) (.l 1 eStr (F14 s).Box.Lines))∧((.int .i64 r.Box.Trial:Value)=.int .i64 (F14 s).Box.Trial)∧(Imp (.l 1 eStr r.Box.Back) (.l 1 eStr (F14 s).Box.Back))∧(Imp (.l 4 Qc r.Box.Cands) (.l 4 Qc (F14 s).Box.Cands))∧(Imp (.l 4 Qe r.Slots) (.l 4 Qe (F14 s).Slots))∧((.int .i64 r.Live:Value)=.int .i64 (F14 s).Live)∧((.int .i64 r.Last:Value)=.int .i64 (F14 s).Last)∧((.int .i64 r.Job.Kind:Value)=.int .i64 (F14 s).Job.Kind)∧((.int .i64 r.Job.Step:Value)=.int .i64 (F14 s).Job.Step)∧((.int .i64 r.Job.Edition:Value)=.int .i64 (F14 s).Job.Edition)∧((.int .i64 r.Job.Ticks:Value)=.int .i64 (F14 s).Job.Ticks)∧(Imp (.l 1 eStr r.Job.Lines) (.l 1 eStr (F14 s).Job.Lines))∧True:=by cases hF; exact ⟨rfl,rfl,Imp.refl _,rfl,Imp.refl _,Imp.refl _,Imp.refl _,rfl,rfl,rfl,rfl,rfl,rfl,Imp.refl _,trivial⟩
def S14 (R:ConfStore) (s:ConfStore):Spec:=⟨[.r (.g (Uf s))],.ag [.v (.bool R.Up),.v (vI R.Box.Edition),.ow (.l 1 eStr R.Box.Lines),.v (vI R.Box.Trial),.ow (.l 1 eStr R.Box.Back),.ow (.l 4 Qc R.Box.Cands),.ow (.l 4 Qe R.Slots),.v (vI R.Live),.v (vI R.Last),.v (vI R.Job.Kind),.v (vI R.Job.Step),.v (vI R.Job.Edition),.v (vI R.Job.Ticks),.ow (.l 1 eStr R.Job.Lines)],s.Box.Lines.length≤1000000000∧(s.Box.Back:List ByteArray).length≤1000000000∧(s.Job.Lines:List ByteArray).length≤1000000000∧s.Slots.length≤1000000∧(s.Box.Cands:List ConfCand).length≤1000000∧(∀ k:Nat,(s.Slots.getD k default).Lines.length≤1000000000)∧(∀ k:Nat,((s.Box.Cands:List ConfCand).getD k default).From.length≤1000000000)∧(∀ k:Nat,((s.Box.Cands:List ConfCand).getD k default).Lines.length≤1000000000)⟩
abbrev Pc (s:ConfStore) (i40:Int):=(s.Box.Cands.getD i40.toNat default)
theorem ok14 (s:ConfStore):(S14 (F14 s) s).ok Tryz.prog 14 :=
 Qi mixed (fn:=Tryz.f14) (ct:=.seq .no (.seq (.reg [(3,Qfb s.Box.Lines)]) (.seq (.reg [(3,Qfb s.Box.Back)]) (.seq (.reg [(0,.dat (.l 4 Qc ([]:List ConfCand)))]) (.cut (ι:=List ConfCand) (fun j=>(fun (cands:List ConfCand)=>(⟨[(1,some (.p 0 0)),(2,some (.p 6 0)),(3,some (.h 7 0))],[(0,some (.box 31 [.v (.bool s.Up),.v (vI s.Box.Edition),.h 1 0,.v (vI s.Box.Trial),.h 2 0,.h 3 0,.h 4 0,.v (vI s.Live),.v (vI s.Last),.v (vI s.Job.Kind),.v (vI s.Job.Step),.v (vI s.Job.Edition),.v (vI s.Job.Ticks),.h 5 0])),(1,some (.own 1 (.l 1 eStr s.Box.Lines))),(2,some (.own 2 (.l 1 eStr s.Box.Back))),(3,some (.shr none (.l 4 Qc s.Box.Cands))),(4,some (.shr none (.l 4 Qe s.Slots))),(5,some (.shr none (.l 1 eStr s.Job.Lines))),(6,some (.box 31 [.v (.bool false),.v (vI 0),.v (.slice none 0 0),.v (vI 0),.v (.slice none 0 0),.v (.slice none 0 0),.v (.slice none 0 0),.v (vI 0),.v (vI 0),.v (vI 0),.v (vI 0),.v (vI 0),.v (vI 0),.v (.slice none 0 0)])),(7,some (.own 7 (.l 4 Qc cands)))],8⟩:St)) j) (Qmm s) (.seqk [(1,2),(1,4),(1,5),(1,6),(1,13),(3,0)] .no (.blk (.loop (ι:=Nat×(List ConfCand×Int)) (fun i=>(fun (cands1:List ConfCand) (i40:Int)=>(⟨[(1,some (.p 0 0)),(2,some (.p 6 0)),(3,some (.h 7 0)),(4,some (.v (vI i40)))],[(0,some (.box 31 [.v (.bool s.Up),.v (vI s.Box.Edition),.h 1 0,.v (vI s.Box.Trial),.h 2 0,.h 3 0,.h 4 0,.v (vI s.Live),.v (vI s.Last),.v (vI s.Job.Kind),.v (vI s.Job.Step),.v (vI s.Job.Edition),.v (vI s.Job.Ticks),.h 5 0])),(1,some (.own 1 (.l 1 eStr s.Box.Lines))),(2,some (.own 2 (.l 1 eStr s.Box.Back))),(3,some (.shr none (.l 4 Qc s.Box.Cands))),(4,some (.shr none (.l 4 Qe s.Slots))),(5,some (.shr none (.l 1 eStr s.Job.Lines))),(6,some (.box 31 [.v (.bool false),.v (vI 0),.v (.slice none 0 0),.v (vI 0),.v (.slice none 0 0),.v (.slice none 0 0),.v (.slice none 0 0),.v (vI 0),.v (vI 0),.v (vI 0),.v (vI 0),.v (vI 0),.v (vI 0),.v (.slice none 0 0)])),(7,some (.own 7 (.l 4 Qc cands1)))],8⟩:St)) i.2.1 i.2.2) (Rn s) (fun i=>i.1) (Qbv s) (fun i=>(fun (cands1:List ConfCand) (i40:Int)=>(.seq (.seq .no (.cond .no .no)) (.seq (.blk (.seq .no (.seq (.reg [(2,Qfb (Pc s i40).From)]) (.seq (.reg [(2,Qfb (Pc s i40).Lines)]) (.reg [(3,.dat (.l 4 Qc (cands1++[(Pc s i40)])))]))))) (.reg [(1,.bnd)])))) i.2.1 i.2.2)))) (fun j=>(fun (cands:List ConfCand)=>(.seq .no (.seq (.reg [(0,.dat (.l 4 Qe ([]:List ConfSlot)))]) (.seq (.seqk [(1,2),(1,4),(1,5),(1,6),(1,13),(6,0)] .no (.blk (.loop (ι:=Nat×(List ConfSlot×Int)) (fun i=>(fun (slots:List ConfSlot) (i41:Int)=>(⟨[(1,some (.p 0 0)),(2,some (.p 6 0)),(6,some (.h 7 0)),(7,some (.v (vI i41)))],[(0,some (.box 31 [.v (.bool s.Up),.v (vI s.Box.Edition),.h 1 0,.v (vI s.Box.Trial),.h 2 0,.h 3 0,.h 4 0,.v (vI s.Live),.v (vI s.Last),.v (vI s.Job.Kind),.v (vI s.Job.Step),.v (vI s.Job.Edition),.v (vI s.Job.Ticks),.h 5 0])),(1,some (.own 1 (.l 1 eStr s.Box.Lines))),(2,some (.own 2 (.l 1 eStr s.Box.Back))),(3,some (.own 3 (.l 4 Qc cands))),(4,some (.shr none (.l 4 Qe s.Slots))),(5,some (.shr none (.l 1 eStr s.Job.Lines))),(6,some (.box 31 [.v (.bool false),.v (vI 0),.v (.slice none 0 0),.v (vI 0),.v (.slice none 0 0),.v (.slice none 0 0),.v (.slice none 0 0),.v (vI 0),.v (vI 0),.v (vI 0),.v (vI 0),.v (vI 0),.v (vI 0),.v (.slice none 0 0)])),(7,some (.own 7 (.l 4 Qe slots)))],8⟩:St)) i.2.1 i.2.2) (Et s cands) (fun i=>i.1) (Tw s) (fun i=>(fun (slots:List ConfSlot) (i41:Int)=>(.seq (.seq .no (.cond .no .no)) (.seq (.blk (.seq .no (.seq (.reg [(2,Qfb (s.Slots.getD i41.toNat default).Lines)]) (.reg [(3,.dat (.l 4 Qe (slots++[(s.Slots.getD i41.toNat default)])))])))) (.reg [(1,.bnd)])))) i.2.1 i.2.2)))) (.seq .no (.seq (.reg [(3,Qfb s.Job.Lines)]) (.seq .no .no))))))) j)))))) Tryz.func14 (fun (hp:s.Box.Lines.length≤1000000000∧(s.Box.Back:List ByteArray).length≤1000000000∧(s.Job.Lines:List ByteArray).length≤1000000000∧s.Slots.length≤1000000∧(s.Box.Cands:List ConfCand).length≤1000000∧(∀ k:Nat,(s.Slots.getD k default).Lines.length≤1000000000)∧(∀ k:Nat,((s.Box.Cands:List ConfCand).getD k default).From.length≤1000000000)∧(∀ k:Nat,((s.Box.Cands:List ConfCand).getD k default).Lines.length≤1000000000))=>have hpre0:=hp.1; have hpre1:=hp.2.1; have hpre2:=hp.2.2.1; have hpre3:=hp.2.2.2.1; have hpre4:=hp.2.2.2.2.1; have hpre5:=hp.2.2.2.2.2.1; have hpre6:=hp.2.2.2.2.2.2.1; have hpre7:=hp.2.2.2.2.2.2.2; Qek s.Box.Lines (by first | omega | (have h9:=hpre5 i41.toNat; omega) | (have h9:=hpre6 i40.toNat; omega) | (have h9:=hpre7 i40.toNat; omega)) (Qek s.Box.Back (by first | omega | (have h9:=hpre5 i41.toNat; omega) | (have h9:=hpre6 i40.toNat; omega) | (have h9:=hpre7 i40.toNat; omega)) (ai (bokr 4 Qc ([]:List ConfCand) fun _=>rfl) (ai (kn s.Box.Lines fun _=>kn s.Box.Back fun _=>kn s.Box.Cands fun _=>kn s.Slots fun _=>kn s.Job.Lines fun _=>kn ([]:List ConfCand) fun _=>ai (en14_0 s (by refine ⟨?_,?_⟩ <;> first | omega | (simp only [lens,ib] at*<;> omega))) (fun (i0:Nat×(List ConfCand×Int)) (hi0:Rn s i0)=>(fun (m0:Nat) (cands1:List ConfCand) (i40:Int) (hh0:Uch s i0 m0 cands1 i40)=>have hI0:=hh0.1; have hl0:=hh0.2.1; have _:=hh0.2.2.1; have _:=hh0.2.2.2; ifd (i40<(s.Box.Cands.length:Int)) (fun h2 _=>ai (by first | omega | (simp only [lens,ib] at*<;> omega):ib i40 s.Box.Cands) (Qek (Pc s i40).From (by first | omega | (have h9:=hpre5 i41.toNat; omega) | (have h9:=hpre6 i40.toNat; omega) | (have h9:=hpre7 i40.toNat; omega)) (Qek (Pc s i40).Lines (by first | omega | (have h9:=hpre5 i41.toNat; omega) | (have h9:=hpre6 i40.toNat; omega) | (have h9:=hpre7 i40.toNat; omega)) (ai (appr 4 Qc cands1 [(Pc s i40)] fun _=>rfl) (ai (by (try simp only [lens]); omega:(cands1++[(Pc s i40)]).length*72≤140737488355328) (ai (iok (i40+1) (by first | omega | (simp only [lens,ib] at*<;> omega))) (bk14_0 s i0 m0 (cands1++[(Pc s i40)]) (i40+1) hl0 (Qg hI0 (condT h2 rfl)) (by refine ⟨?_,?_,?_⟩ <;> first | omega | (simp only [lens,ib] at*<;> omega))))))))) (fun h2 _=>have hD0_3:Qzr s=Lp.done (cands1,i40):=Qj hI0 (condF h2 rfl); jn14_0 s cands1 (Eq.symm (finD hD0_3 rfl)) )) (i0.1-1) i0.2.1 i0.2.2 (un14_0 s i0 hi0))) (fun (j:List ConfCand) (hj:Qmm s j)=>(fun (cands:List ConfCand) (hJ0_4:(Ns s)=Lp.done cands)=>ai (bokr 4 Qe ([]:List ConfSlot) fun _=>rfl) (kn s.Box.Lines fun _=>kn s.Box.Back fun _=>kn cands fun _=>kn s.Slots fun _=>kn s.Job.Lines fun _=>kn ([]:List ConfSlot) fun _=>ai (en14_1 s cands (by refine ⟨?_,?_⟩ <;> first | omega | (simp only [lens,ib] at*<;> omega))) (fun (i1:Nat×(List ConfSlot×Int)) (hi1:Et s cands i1)=>(fun (m1:Nat) (slots:List ConfSlot) (i41:Int) (hh1:Uaq s cands i1 m1 slots i41)=>have hI1:=hh1.1; have hl1:=hh1.2.1; have _:=hh1.2.2.1; have _:=hh1.2.2.2; ifd (i41<(s.Slots.length:Int)) (fun h6 _=>ai (by first | omega | (simp only [lens,ib] at*<;> omega):ib i41 s.Slots) (Qek (s.Slots.getD i41.toNat default).Lines (by first | omega | (have h9:=hpre5 i41.toNat; omega) | (have h9:=hpre6 i40.toNat; omega) | (have h9:=hpre7 i40.toNat; omega)) (ai (appr 4 Qe slots [(s.Slots.getD i41.toNat default)] fun _=>rfl) (ai (by (try simp only [lens]); omega:(slots++[(s.Slots.getD i41.toNat default)]).length*48≤140737488355328) (ai (iok (i41+1) (by first | omega | (simp only [lens,ib] at*<;> omega))) (bk14_1 s cands i1 m1 (slots++[(s.Slots.getD i41.toNat default)]) (i41+1) hl1 (Qg hI1 (condT h6 rfl)) (by refine ⟨?_,?_,?_⟩ <;> first | omega | (simp only [lens,ib] at*<;> omega)))))))) (fun h6 _=>have hD1_7:Qun s cands=Lp.done (slots,i41):=Qj hI1 (condF h6 rfl); Qek s.Job.Lines (by first | omega | (have h9:=hpre5 i41.toNat; omega) | (have h9:=hpre6 i40.toNat; omega) | (have h9:=hpre7 i40.toNat; omega)) (fi14 s (⟨s.Up,(⟨s.Box.Edition,s.Box.Lines,s.Box.Trial,s.Box.Back,cands⟩:ConfBox),slots,s.Live,s.Last,s.Job⟩:ConfStore) (finD hJ0_4 (finD hD1_7 rfl))))) (i1.1-1) i1.2.1 i1.2.2 (un14_1 s cands i1 hi1)))) j hj))))) (by kernel_rfl)
theorem as14 (s:ConfStore):F14 s=s:=by
 have e:∀ l:List ByteArray,F34 l=l:=fun _=>rfl
 have h0:Ns s=.done s.Box.Cands:=by
  unfold Ns
  have h:=Yg s.Box.Cands (fun (x:List ConfCand) c=>x++[c]) (fun x i=>(x,i)) (Xz s) (fun i x hi=>by
   simp only [Xz,ltD hi,cond_true,nn,e]; rfl) (fun x=>by simp only [Xz,geD,cond_false]) (Lp.ret:ConfStore→Lp (List ConfCand) ConfStore) (fun x=>.done x.1) []
  refine h.trans ?_
  rw [Zo (fun c=>c)]
  simp
 unfold F14
 rw [h0]
 have h:=Yg s.Slots (fun (x:List ConfSlot) c=>x++[c]) (fun x i=>(x,i)) (Xp s s.Box.Cands) (fun i x hi=>by
   simp only [Xp,ltD hi,cond_true,nn,e]; rfl) (fun x=>by simp only [Xp,geD,cond_false]) (fun r=>r) (fun (x:List ConfSlot×Int)=>(⟨s.Up,(⟨s.Box.Edition,s.Box.Lines,s.Box.Trial,s.Box.Back,s.Box.Cands⟩:ConfBox),x.1,s.Live,s.Last,(⟨s.Job.Kind,s.Job.Step,s.Job.Edition,s.Job.Ticks,s.Job.Lines⟩:ConfJob)⟩:ConfStore)) []
 refine h.trans ?_
 rw [Zo (fun c=>c)]
 simp
theorem Zs (lines:List ByteArray) (h:lines.length≤1000000000):∀ k:Nat,(([(⟨true,0,false,lines⟩:ConfSlot),(⟨false,0,false,[]⟩:ConfSlot)]:List ConfSlot).getD k default).Lines.length≤1000000000
 | 0=>h
 | 1=>Nat.zero_le _
 | k+2=>Nat.zero_le _
theorem Ke (k:Nat):(([]:List ConfCand).getD k default).From.length≤1000000000:=Nat.zero_le _
theorem Zm (k:Nat):(([]:List ConfCand).getD k default).Lines.length≤1000000000:=Nat.zero_le _
theorem oa14 (s:ConfStore):(S14 (s) s).ok Tryz.prog 14:=by
 intro hp; have h:=ok14 s hp; rw [as14 s] at h; exact h
theorem kc13 (lines:List ByteArray) {K_:Prop} (p0_:lines.length≤1048576) (p1_:∀ k:Nat,(lines.getD k default).size≤1048576) (k_:K_):(lines.length≤1048576∧(∀ k:Nat,(lines.getD k default).size≤1048576))∧(Imp (.l 1 eStr lines) (.l 1 eStr lines))∧K_:=⟨⟨p0_,p1_⟩,Imp.refl _,k_⟩
abbrev kh13 (lines:List ByteArray):Hint true Tryz.prog:=.call 13 (S13 lines) (ok13 lines) none
def F5 (lines:List ByteArray):ConfStore×Bool :=
 bif ((F13 lines) != 0) then ((⟨false,(⟨0,[],0,[],[]⟩:ConfBox),[],0,0,(⟨0,0,0,0,[]⟩:ConfJob)⟩:ConfStore),false) else ((⟨true,(⟨0,lines,0,[],[]⟩:ConfBox),([(⟨true,0,false,lines⟩:ConfSlot),(⟨false,0,false,[]⟩:ConfSlot)]:List ConfSlot),0,0,(⟨0,0,0,0,[]⟩:ConfJob)⟩:ConfStore),true)
theorem fi5 (lines:List ByteArray) (r:ConfStore×Bool) (hF:r=(F5 lines)):((.bool r.1.Up:Value)=.bool (F5 lines).1.Up)∧((.int .i64 r.1.Box.Edition:Value)=.int .i64 (F5 lines).1.Box.Edition)∧(Imp (.l 1 eStr r.1.Box.Lines) (.l 1 eStr (F5 lines).1.Box.Lines))∧((.int .i64 r.1.Box.Trial:Value)=.int .i64 (F5 lines).1.Box.Trial)∧(Imp (.l 1 eStr r.1.Box.Back) (.l 1 eStr (F5 lines).1.Box.Back))∧(Imp (.l 4 Qc r.1.Box.Cands) (.l 4 Qc (F5 lines).1.Box.Cands))∧(Imp (.l 4 Qe r.1.Slots) (.l 4 Qe (F5 lines).1.Slots))∧((.int .i64 r.1.Live:Value)=.int .i64 (F5 lines).1.Live)∧((.int .i64 r.1.Last:Value)=.int .i64 (F5 lines).1.Last)∧((.int .i64 r.1.Job.Kind:Value)=.int .i64 (F5 lines).1.Job.Kind)∧((.int .i64 r.1.Job.Step:Value)=.int .i64 (F5 lines).1.Job.Step)∧((.int .i64 r.1.Job.Edition:Value)=.int .i64 (F5 lines).1.Job.Edition)∧((.int .i64 r.1.Job.Ticks:Value)=.int .i64 (F5 lines).1.Job.Ticks)∧(Imp (.l 1 eStr r.1.Job.Lines) (.l 1 eStr (F5 lines).1.Job.Lines))∧((.bool r.2:Value)=.bool (F5 lines).2)∧True:=by cases hF; exact ⟨rfl,rfl,Imp.refl _,rfl,Imp.refl _,Imp.refl _,Imp.refl _,rfl,rfl,rfl,rfl,rfl,rfl,Imp.refl _,rfl,trivial⟩
def S5 (lines:List ByteArray):Spec:=⟨[.r (.c (.l 1 eStr lines))],.tu [.ag [.v (.bool (F5 lines).1.Up),.v (vI (F5 lines).1.Box.Edition),.ow (.l 1 eStr (F5 lines).1.Box.Lines),.v (vI (F5 lines).1.Box.Trial),.ow (.l 1 eStr (F5 lines).1.Box.Back),.ow (.l 4 Qc (F5 lines).1.Box.Cands),.ow (.l 4 Qe (F5 lines).1.Slots),.v (vI (F5 lines).1.Live),.v (vI (F5 lines).1.Last),.v (vI (F5 lines).1.Job.Kind),.v (vI (F5 lines).1.Job.Step),.v (vI (F5 lines).1.Job.Edition),.v (vI (F5 lines).1.Job.Ticks),.ow (.l 1 eStr (F5 lines).1.Job.Lines)],.v (.bool (F5 lines).2)],lines.length≤1048576∧(∀ k:Nat,(lines.getD k default).size≤1048576)⟩
abbrev q5_1 (lines:List ByteArray):=([(⟨true,0,false,lines⟩:ConfSlot),(⟨false,0,false,[]⟩:ConfSlot)]:List ConfSlot)
abbrev q5_2 (lines:List ByteArray):=(⟨true,(⟨0,lines,0,[],[]⟩:ConfBox),(q5_1 lines),0,0,(⟨0,0,0,0,[]⟩:ConfJob)⟩:ConfStore)
theorem ok5 (lines:List ByteArray):(S5 lines).ok Tryz.prog 5 :=
 Qi mixed (fn:=Tryz.f5) (ct:=.seqk [(0,0)] .no (.seq (.seq (.reg [(1,kh13 lines)]) (.cond (.seq .no .no) .no)) (.seq .no (.seq (.reg [(1,.call 14 (S14 (q5_2 lines) (q5_2 lines)) (oa14 (q5_2 lines)) none)]) .no)))) Tryz.func5 (fun (hp:lines.length≤1048576∧(∀ k:Nat,(lines.getD k default).size≤1048576))=>have hpre0:=hp.1; have hpre1:=hp.2; kn lines fun _=>kc13 lines (by omega) (by first | assumption | exact hpre1 _ | exact fun k _=>hpre1 k | (intros; exact trivial) | (intros; exact Nat.zero_le _)) (ifn (F13 lines) 0 (fun h1 _=>(fun hF:((⟨false,(⟨0,[],0,[],[]⟩:ConfBox),[],0,0,(⟨0,0,0,0,[]⟩:ConfJob)⟩:ConfStore),false)=(F5 lines)=>ai (congrArg (fun r:ConfStore×Bool=>(.bool r.1.Up:Value)) hF) (ai (congrArg (fun r:ConfStore×Bool=>(.int .i64 r.1.Box.Edition:Value)) hF) (ai ((Imp.nil 1 eStr).trans (Imp.of_eq (congrArg (fun r:ConfStore×Bool=>Dat.l 1 eStr r.1.Box.Lines) hF))) (ai (congrArg (fun r:ConfStore×Bool=>(.int .i64 r.1.Box.Trial:Value)) hF) (ai ((Imp.nil 1 eStr).trans (Imp.of_eq (congrArg (fun r:ConfStore×Bool=>Dat.l 1 eStr r.1.Box.Back) hF))) (ai ((Imp.nil 4 Qc).trans (Imp.of_eq (congrArg (fun r:ConfStore×Bool=>Dat.l 4 Qc r.1.Box.Cands) hF))) (ai ((Imp.nil 4 Qe).trans (Imp.of_eq (congrArg (fun r:ConfStore×Bool=>Dat.l 4 Qe r.1.Slots) hF))) (ai (congrArg (fun r:ConfStore×Bool=>(.int .i64 r.1.Live:Value)) hF) (ai (congrArg (fun r:ConfStore×Bool=>(.int .i64 r.1.Last:Value)) hF) (ai (congrArg (fun r:ConfStore×Bool=>(.int .i64 r.1.Job.Kind:Value)) hF) (ai (congrArg (fun r:ConfStore×Bool=>(.int .i64 r.1.Job.Step:Value)) hF) (ai (congrArg (fun r:ConfStore×Bool=>(.int .i64 r.1.Job.Edition:Value)) hF) (ai (congrArg (fun r:ConfStore×Bool=>(.int .i64 r.1.Job.Ticks:Value)) hF) (ai ((Imp.nil 1 eStr).trans (Imp.of_eq (congrArg (fun r:ConfStore×Bool=>Dat.l 1 eStr r.1.Job.Lines) hF))) (ai (congrArg (fun r:ConfStore×Bool=>(.bool r.2:Value)) hF) trivial))))))))))))))) (condT h1 rfl)) (fun h1 _=>ai (ai (by first | omega | (simp only [List.length_nil,List.length_cons]; omega) | exact Zs lines (by omega) | exact Ke | exact Zm:lines.length≤1000000000) (ai (by first | omega | (simp only [List.length_nil,List.length_cons]; omega) | exact Zs lines (by omega) | exact Ke | exact Zm:(([]):List ByteArray).length≤1000000000) (ai (by first | omega | (simp only [List.length_nil,List.length_cons]; omega) | exact Zs lines (by omega) | exact Ke | exact Zm:(([]):List ByteArray).length≤1000000000) (ai (by first | omega | (simp only [List.length_nil,List.length_cons]; omega) | exact Zs lines (by omega) | exact Ke | exact Zm:(q5_1 lines).length≤1000000) (ai (by first | omega | (simp only [List.length_nil,List.length_cons]; omega) | exact Zs lines (by omega) | exact Ke | exact Zm:(([]):List ConfCand).length≤1000000) (ai (by first | omega | (simp only [List.length_nil,List.length_cons]; omega) | exact Zs lines (by omega) | exact Ke | exact Zm:∀ k:Nat,((q5_1 lines).getD k default).Lines.length≤1000000000) (ai (by first | omega | (simp only [List.length_nil,List.length_cons]; omega) | exact Zs lines (by omega) | exact Ke | exact Zm:∀ k:Nat,((([]):List ConfCand).getD k default).From.length≤1000000000) (by first | omega | (simp only [List.length_nil,List.length_cons]; omega) | exact Zs lines (by omega) | exact Ke | exact Zm:∀ k:Nat,((([]):List ConfCand).getD k default).Lines.length≤1000000000)))))))) (ai (Imp.refl (.v (.bool true))) (ai (Imp.refl (.v (vI 0))) (ai (Imp.refl (.l 1 eStr lines)) (ai (Imp.refl (.v (vI 0))) (ai (Imp.nil 1 eStr) (ai (Imp.nil 4 Qc) (ai (ArrRd.mk Qe (q5_1 lines) rfl (by decide) (by exact ai ir (ai ir (ai ir (ai ir (ai ir (ai ir (ai ir (ai (Imp.nil _ _) trivial)))))))) (fun _=>rfl):ArrRd 2 [.v (.bool true),.v (vI 0),.v (.bool false),.l 1 eStr lines,.v (.bool false),.v (vI 0),.v (.bool false),.v (.slice none 0 0)] (.l 4 Qe (q5_1 lines))) (ai (Imp.refl (.v (vI 0))) (ai (Imp.refl (.v (vI 0))) (ai (Imp.refl (.v (vI 0))) (ai (Imp.refl (.v (vI 0))) (ai (Imp.refl (.v (vI 0))) (ai (Imp.refl (.v (vI 0))) (ai (Imp.nil 1 eStr) (fi5 lines ((q5_2 lines),true) (condF h1 rfl))))))))))))))))))) (by kernel_rfl)
def F16 (list:List ByteArray):List ByteArray :=
 ((List.replicate (Int.toNat 0) ((⟨#[]⟩:ByteArray):ByteArray))++list)
theorem fi16 (list:List ByteArray) (r:List ByteArray) (hF:r=(F16 list)):(Imp (.l 1 eStr r) (.l 1 eStr (F16 list)))∧True:=by cases hF; exact ⟨Imp.refl _,trivial⟩
def S16 (R:List ByteArray) (list:List ByteArray):Spec:=⟨[.r (.c (.l 1 eStr list))],.ow (.l 1 eStr R),list.length≤1000000000⟩
theorem ok16 (list:List ByteArray):(S16 (F16 list) list).ok Tryz.prog 16 :=
 Qi mixed (fn:=Tryz.f16) (ct:=.seqk [(0,0)] .no (.seq (.reg [(2,.dat (.l 1 eStr (List.replicate (Int.toNat 0) (w13_:ByteArray)))),(4,.dat (.l 1 eStr ((List.replicate (Int.toNat 0) (w13_:ByteArray))++list)))]) .no)) Tryz.func16 (fun (hpre0:list.length≤1000000000)=>kn list fun _=>ai (by first | omega | (simp only [lens,ib] at*<;> omega):0≤(0:Int)∧(0:Int)≤(list.length:Int)∧(16:Int)*(list.length:Int)≤281474976710656) (ai (MakeOK.mk eStr (w13_:ByteArray) (by exact ai ir trivial):MakeOK 1 [.v (.string w13_)] (Int.toNat 0) (.l 1 eStr (List.replicate (Int.toNat 0) (w13_:ByteArray)))) (ai (AppL.mk eStr (List.replicate (Int.toNat 0) (w13_:ByteArray)) list (Imp.refl (.l 1 eStr (List.replicate (Int.toNat 0) (w13_:ByteArray)))) ir (fun y=>⟨rfl,fun e he=>by simp only [eStr,List.mem_cons,List.not_mem_nil,or_false] at he; rcases he with rfl <;> exact ⟨_,rfl⟩⟩):AppL (.l 1 eStr (List.replicate (Int.toNat 0) (w13_:ByteArray))) (.l 1 eStr list) 1 (.l 1 eStr ((List.replicate (Int.toNat 0) (w13_:ByteArray))++list))) (ai (by (try simp only [lens]); omega:((List.replicate (Int.toNat 0) (w13_:ByteArray))++list).length*16≤140737488355328) (fi16 list ((List.replicate (Int.toNat 0) (w13_:ByteArray))++list) rfl))))) (by kernel_rfl)
theorem as16 (list:List ByteArray):F16 list=(list):=by
 simp [F16]
theorem oa16 (list:List ByteArray):(S16 (list) list).ok Tryz.prog 16:=by
 intro hp; have h:=ok16 list hp; rw [as16 list] at h; exact h
theorem kc15 (lines:List ByteArray) {K_:Prop} (p0_:lines.length≤1048576) (p1_:∀ k:Nat,(lines.getD k default).size≤1048576) (k_:K_):(lines.length≤1048576∧(∀ k:Nat,(lines.getD k default).size≤1048576))∧(Imp (.l 1 eStr lines) (.l 1 eStr lines))∧K_:=⟨⟨p0_,p1_⟩,Imp.refl _,k_⟩
abbrev kh15 (lines:List ByteArray):Hint false Tryz.prog:=.call 15 (S15 lines) (ok15 lines) none
theorem kc16a (list:List ByteArray) {K_:Prop} (p0_:list.length≤1000000000) (k_:K_):(list.length≤1000000000)∧(Imp (.l 1 eStr list) (.l 1 eStr list))∧K_:=⟨p0_,Imp.refl _,k_⟩
abbrev Qxw (list:List ByteArray):Hint false Tryz.prog:=.call 16 (S16 list list) ((oa16 list).to false) none
def F7 (lines:List ByteArray):ConfStore×Bool :=
 bif ((F15 lines) != 0) then ((⟨false,(⟨0,[],0,[],[]⟩:ConfBox),[],0,0,(⟨0,0,0,0,[]⟩:ConfJob)⟩:ConfStore),false) else ((⟨true,(⟨0,lines,0,[],[]⟩:ConfBox),([(⟨true,0,false,lines⟩:ConfSlot),(⟨false,0,false,[]⟩:ConfSlot)]:List ConfSlot),0,0,(⟨0,0,0,0,[]⟩:ConfJob)⟩:ConfStore),true)
def S7 (lines:List ByteArray):Spec:=⟨[.r (.c (.l 1 eStr lines))],.tu [.ag [.v (.bool (F7 lines).1.Up),.v (vI (F7 lines).1.Box.Edition),.ow (.l 1 eStr (F7 lines).1.Box.Lines),.v (vI (F7 lines).1.Box.Trial),.ow (.l 1 eStr (F7 lines).1.Box.Back),.ow (.l 4 Qc (F7 lines).1.Box.Cands),.ow (.l 4 Qe (F7 lines).1.Slots),.v (vI (F7 lines).1.Live),.v (vI (F7 lines).1.Last),.v (vI (F7 lines).1.Job.Kind),.v (vI (F7 lines).1.Job.Step),.v (vI (F7 lines).1.Job.Edition),.v (vI (F7 lines).1.Job.Ticks),.ow (.l 1 eStr (F7 lines).1.Job.Lines)],.v (.bool (F7 lines).2)],lines.length≤1048576∧(∀ k:Nat,(lines.getD k default).size≤1048576)⟩
abbrev q7_1 (lines:List ByteArray):=([(⟨true,0,false,lines⟩:ConfSlot),(⟨false,0,false,[]⟩:ConfSlot)]:List ConfSlot)
theorem ok7 (lines:List ByteArray):(S7 lines).ok Tryz.prog 7 false :=
 Qi mixed (fn:=Tryz.f7) (ct:=.seqk [(0,0)] .no (.seq (.seq (.reg [(1,kh15 lines)]) (.cond (.seq .no .no) .no)) (.seq (.reg [(1,Qxw lines),(4,Qxw lines),(7,.dat (.l 4 Qe (q7_1 lines)))]) .no))) Tryz.func7 (fun (hp:lines.length≤1048576∧(∀ k:Nat,(lines.getD k default).size≤1048576))=>have hpre0:=hp.1; have hpre1:=hp.2; kn lines fun _=>kc15 lines (by omega) (by first | assumption | exact hpre1 _ | exact fun k _=>hpre1 k | (intros; exact trivial) | (intros; exact Nat.zero_le _)) (ifn (F15 lines) 0 (fun h1 _=>(fun hF:((⟨false,(⟨0,[],0,[],[]⟩:ConfBox),[],0,0,(⟨0,0,0,0,[]⟩:ConfJob)⟩:ConfStore),false)=(F7 lines)=>ai (congrArg (fun r:ConfStore×Bool=>(.bool r.1.Up:Value)) hF) (ai (congrArg (fun r:ConfStore×Bool=>(.int .i64 r.1.Box.Edition:Value)) hF) (ai ((Imp.nil 1 eStr).trans (Imp.of_eq (congrArg (fun r:ConfStore×Bool=>Dat.l 1 eStr r.1.Box.Lines) hF))) (ai (congrArg (fun r:ConfStore×Bool=>(.int .i64 r.1.Box.Trial:Value)) hF) (ai ((Imp.nil 1 eStr).trans (Imp.of_eq (congrArg (fun r:ConfStore×Bool=>Dat.l 1 eStr r.1.Box.Back) hF))) (ai ((Imp.nil 4 Qc).trans (Imp.of_eq (congrArg (fun r:ConfStore×Bool=>Dat.l 4 Qc r.1.Box.Cands) hF))) (ai ((Imp.nil 4 Qe).trans (Imp.of_eq (congrArg (fun r:ConfStore×Bool=>Dat.l 4 Qe r.1.Slots) hF))) (ai (congrArg (fun r:ConfStore×Bool=>(.int .i64 r.1.Live:Value)) hF) (ai (congrArg (fun r:ConfStore×Bool=>(.int .i64 r.1.Last:Value)) hF) (ai (congrArg (fun r:ConfStore×Bool=>(.int .i64 r.1.Job.Kind:Value)) hF) (ai (congrArg (fun r:ConfStore×Bool=>(.int .i64 r.1.Job.Step:Value)) hF) (ai (congrArg (fun r:ConfStore×Bool=>(.int .i64 r.1.Job.Edition:Value)) hF) (ai (congrArg (fun r:ConfStore×Bool=>(.int .i64 r.1.Job.Ticks:Value)) hF) (ai ((Imp.nil 1 eStr).trans (Imp.of_eq (congrArg (fun r:ConfStore×Bool=>Dat.l 1 eStr r.1.Job.Lines) hF))) (ai (congrArg (fun r:ConfStore×Bool=>(.bool r.2:Value)) hF) trivial))))))))))))))) (condT h1 rfl)) (fun h1 _=>kc16a lines (by omega) (kc16a lines (by omega) (ai (BuildOK.mk Qe (q7_1 lines) rfl (by exact ai ir (ai ir (ai ir (ai ir (ai ir (ai ir (ai ir (ai (Imp.nil _ _) trivial)))))))) (fun _=>rfl):BuildOK 2 4 [.v (.bool true),.v (vI 0),.v (.bool false),.l 1 eStr lines,.v (.bool false),.v (vI 0),.v (.bool false),.v (.slice none 0 0)] (.l 4 Qe (q7_1 lines))) ((fun hF:((⟨true,(⟨0,lines,0,[],[]⟩:ConfBox),(q7_1 lines),0,0,(⟨0,0,0,0,[]⟩:ConfJob)⟩:ConfStore),true)=(F7 lines)=>ai (congrArg (fun r:ConfStore×Bool=>(.bool r.1.Up:Value)) hF) (ai (congrArg (fun r:ConfStore×Bool=>(.int .i64 r.1.Box.Edition:Value)) hF) (ai (Imp.of_eq (congrArg (fun r:ConfStore×Bool=>Dat.l 1 eStr r.1.Box.Lines) hF)) (ai (congrArg (fun r:ConfStore×Bool=>(.int .i64 r.1.Box.Trial:Value)) hF) (ai ((Imp.nil 1 eStr).trans (Imp.of_eq (congrArg (fun r:ConfStore×Bool=>Dat.l 1 eStr r.1.Box.Back) hF))) (ai ((Imp.nil 4 Qc).trans (Imp.of_eq (congrArg (fun r:ConfStore×Bool=>Dat.l 4 Qc r.1.Box.Cands) hF))) (ai (Imp.of_eq (congrArg (fun r:ConfStore×Bool=>Dat.l 4 Qe r.1.Slots) hF)) (ai (congrArg (fun r:ConfStore×Bool=>(.int .i64 r.1.Live:Value)) hF) (ai (congrArg (fun r:ConfStore×Bool=>(.int .i64 r.1.Last:Value)) hF) (ai (congrArg (fun r:ConfStore×Bool=>(.int .i64 r.1.Job.Kind:Value)) hF) (ai (congrArg (fun r:ConfStore×Bool=>(.int .i64 r.1.Job.Step:Value)) hF) (ai (congrArg (fun r:ConfStore×Bool=>(.int .i64 r.1.Job.Edition:Value)) hF) (ai (congrArg (fun r:ConfStore×Bool=>(.int .i64 r.1.Job.Ticks:Value)) hF) (ai ((Imp.nil 1 eStr).trans (Imp.of_eq (congrArg (fun r:ConfStore×Bool=>Dat.l 1 eStr r.1.Job.Lines) hF))) (ai (congrArg (fun r:ConfStore×Bool=>(.bool r.2:Value)) hF) trivial))))))))))))))) (condF h1 rfl))))))) (by kernel_rfl)
theorem Qsl (lines:List ByteArray):F7 lines=F5 lines:=by
 unfold F7 F5
 rw [Qan]
def Qbd (a:List ConfCand) (k:Int):(Int×Int×List ConfCand)→Lp (Int×Int×List ConfCand) (Int×List ConfCand):=fun (k400,i40,xs) =>
 bif (decide (i40<(xs.length:Int))) then (.next ((F10 (xs.getD i40.toNat default).Lines (F10 (xs.getD i40.toNat default).From (IntKind.i64.wrap ((IntKind.i64.wrap (k400+1))+1))).1).1,(i40+1),(xs.set (i40).toNat (⟨(F20 k400),(IntKind.i64.wrap (k400+1)),(F10 (xs.getD i40.toNat default).From (IntKind.i64.wrap ((IntKind.i64.wrap (k400+1))+1))).2,(F10 (xs.getD i40.toNat default).Lines (F10 (xs.getD i40.toNat default).From (IntKind.i64.wrap ((IntKind.i64.wrap (k400+1))+1))).1).2⟩:ConfCand)))) else (.done (k400,i40,xs))
def F43 (a:List ConfCand) (k:Int):Int×List ConfCand :=
 (runL (Qbd a k) (((a.length:Int)-0).toNat+1) (k,0,a)).fin (fun r=>r) (fun (k400,i40,xs)=>(k400,xs))
abbrev Qba (a:List ConfCand) (k:Int):Nat×(Int×Int×List ConfCand):=((((a.length:Int)-0).toNat+1),(k,0,a))
abbrev Qoi (a:List ConfCand) (m39:Nat) (k400:Int) (i40:Int) (xs:List ConfCand):Prop:=Int.toNat ((xs.length:Int)-i40)<m39∧(0:Int)≤k400∧(0:Int)≤i40∧xs.length=a.length
abbrev Quk (a:List ConfCand) (k:Int):Lp (Int×Int×List ConfCand) (Int×List ConfCand):=LpX (Qbd a k) (Qba a k)
abbrev Qbj (a:List ConfCand) (k:Int) (i:Nat×(Int×Int×List ConfCand)):Prop:=LpJ (Qbd a k) (Qba a k) i (Qoi a i.1 i.2.1 i.2.2.1 i.2.2.2)
abbrev Qva (a:List ConfCand) (k:Int) (i:Nat×(Int×Int×List ConfCand)) (m39:Nat) (k400:Int) (i40:Int) (xs:List ConfCand):Prop:=LpH (Qbd a k) (Qba a k) i m39 (k400,i40,xs) (Qoi a (m39+1) k400 i40 xs)
abbrev Qxe (k400:Int) (i40:Int) (xs:List ConfCand) (k400_:Int) (i40_:Int) (xs_:List ConfCand) (K39:Prop):Prop:=((.int .i64 k400:Value)=.int .i64 k400_)∧((.int .i64 i40:Value)=.int .i64 i40_)∧(Imp (.l 4 Qc xs) (.l 4 Qc xs_))∧K39
theorem un43_0 (a:List ConfCand) (k:Int) (i:Nat×(Int×Int×List ConfCand)) (h:Qbj a k i):Qva a k i (i.1-1) i.2.1 i.2.2.1 i.2.2.2:=⟨hd1 h.1 h.2.1,hd3 h.2.1,hd2 h.2.1,h.2.2⟩
theorem bk43_0 (a:List ConfCand) (k:Int) (i:Nat×(Int×Int×List ConfCand)) (m39:Nat) (k400:Int) (i40:Int) (xs:List ConfCand) (hl:m39<i.1) (e:runL (Qbd a k) m39 (k400,i40,xs)=Quk a k) (h:Qoi a m39 k400 i40 xs):∃ j:Nat×(Int×Int×List ConfCand),Qxe k400 i40 xs j.2.1 j.2.2.1 j.2.2.2 (Qbj a k j∧j.1<i.1):=⟨(m39,(k400,i40,xs)),rfl,rfl,Imp.refl _,⟨e,h⟩,hl⟩
theorem en43_0 (a:List ConfCand) (k:Int) (h:(0:Int)≤k∧(0:Int)≤0∧a.length=a.length):Qxe k 0 a k 0 a (Qbj a k (Qba a k)):=⟨rfl,rfl,Imp.refl _,rfl,Nat.lt_succ_self _,h⟩
theorem fi43 (a:List ConfCand) (k:Int) (r:Int×List ConfCand) (hF:r=(F43 a k)):((.int .i64 r.1:Value)=.int .i64 (F43 a k).1)∧(Imp (.l 4 Qc r.2) (.l 4 Qc (F43 a k).2))∧True:=by cases hF; exact ⟨rfl,Imp.refl _,trivial⟩
def S43 (a:List ConfCand) (k:Int):Spec:=⟨[.ow (.l 4 Qc a) (some (.l 4 Qc (F43 a k).2)),.r (.c (.v (vI k)))],.v (vI (F43 a k).1),0≤k∧k≤1000000000∧a.length=0⟩
abbrev Qw (xs:List ConfCand) (i40:Int):=(xs.getD i40.toNat default)
abbrev Pf (k400:Int) (xs:List ConfCand) (i40:Int):=(⟨(F20 k400),(Qw xs i40).Base,(Qw xs i40).From,(Qw xs i40).Lines⟩:ConfCand)
theorem ok43 (a:List ConfCand) (k:Int):(S43 a k).ok Tryz.prog 43 :=
 Qi mixed (fn:=Tryz.f43) (ct:=.seqk [(0,0)] .no (.seq (.seqk [(0,0)] .no (.blk (.loop (ι:=Nat×(Int×Int×List ConfCand)) (fun i=>(fun (k400:Int) (i40:Int) (xs:List ConfCand)=>(⟨[(0,some (.h 0 0)),(1,some (.v (vI k400))),(5,some (.v (vI i40)))],[(0,some (.own 0 (.l 4 Qc xs)))],1⟩:St)) i.2.1 i.2.2.1 i.2.2.2) (Qbj a k) (fun i=>i.1) (Qba a k) (fun i=>(fun (k400:Int) (i40:Int) (xs:List ConfCand)=>(.seq (.seq .no (.cond .no .no)) (.seq (.blk (.seq (.reg [(3,kh20 k400),(6,.dat (.l 4 Qc (xs.set (i40).toNat (Pf k400 xs i40))))]) (.seq .no (.seq (.reg [(3,.ix (Qc (Pf k400 xs i40))),(5,.dat (.l 4 Qc (xs.set (i40).toNat (⟨(F20 k400),(IntKind.i64.wrap (k400+1)),(Qw xs i40).From,(Qw xs i40).Lines⟩:ConfCand))))]) (.seq .no (.seq (.reg [(2,.ix (Qc (⟨(F20 k400),(IntKind.i64.wrap (k400+1)),(Qw xs i40).From,(Qw xs i40).Lines⟩:ConfCand))),(6,.calle 10 (S10 (Qw xs i40).From (IntKind.i64.wrap ((IntKind.i64.wrap (k400+1))+1))) (ok10 (Qw xs i40).From (IntKind.i64.wrap ((IntKind.i64.wrap (k400+1))+1))) (.l 4 Qc (xs.set (i40).toNat (⟨(F20 k400),(IntKind.i64.wrap (k400+1)),(F10 (Qw xs i40).From (IntKind.i64.wrap ((IntKind.i64.wrap (k400+1))+1))).2,(Qw xs i40).Lines⟩:ConfCand))))]) (.reg [(2,.ix (Qc (⟨(F20 k400),(IntKind.i64.wrap (k400+1)),(F10 (Qw xs i40).From (IntKind.i64.wrap ((IntKind.i64.wrap (k400+1))+1))).2,(Qw xs i40).Lines⟩:ConfCand))),(6,.calle 10 (S10 (Qw xs i40).Lines (F10 (Qw xs i40).From (IntKind.i64.wrap ((IntKind.i64.wrap (k400+1))+1))).1) (ok10 (Qw xs i40).Lines (F10 (Qw xs i40).From (IntKind.i64.wrap ((IntKind.i64.wrap (k400+1))+1))).1) (.l 4 Qc (xs.set (i40).toNat (⟨(F20 k400),(IntKind.i64.wrap (k400+1)),(F10 (Qw xs i40).From (IntKind.i64.wrap ((IntKind.i64.wrap (k400+1))+1))).2,(F10 (Qw xs i40).Lines (F10 (Qw xs i40).From (IntKind.i64.wrap ((IntKind.i64.wrap (k400+1))+1))).1).2⟩:ConfCand))))]))))))) (.reg [(1,.bnd)])))) i.2.1 i.2.2.1 i.2.2.2)))) (.seq .no .no))) Tryz.func43 (fun (hp:0≤k∧k≤1000000000∧a.length=0)=>have hpre0:=hp.1; have hpre1:=hp.2.1; have hpre2:=hp.2.2; kn a fun _=>kn a fun _=>ai (en43_0 a k (by refine ⟨?_,?_,?_⟩ <;> first | omega | (simp only [lens,ib] at*<;> omega))) (fun (i0:Nat×(Int×Int×List ConfCand)) (hi0:Qbj a k i0)=>(fun (m0:Nat) (k400:Int) (i40:Int) (xs:List ConfCand) (hh0:Qva a k i0 m0 k400 i40 xs)=>have hI0:=hh0.1; have hl0:=hh0.2.1; have _:=hh0.2.2.1; have _:=hh0.2.2.2; ifd (i40<(xs.length:Int)) (fun h2 _=>kc20 k400 (by first | omega | (simp only [lens,ib] at*<;> omega)) (ai (by first | omega | (simp only [lens,ib] at*<;> omega):ib i40 xs) (ai (setr 4 Qc xs (i40).toNat (Pf k400 xs i40)) (ai (by first | omega | (simp only [lens,ib] at*<;> omega):0≤i40∧i40<((xs.set (i40).toNat (Pf k400 xs i40)).length:Int)) (ai (Imps.of_eq (congrArg Qc (Uy xs (i40).toNat (Pf k400 xs i40) (by first | omega | (simp only [lens,ib] at*<;> omega):(i40).toNat<xs.length)))) (ai (SetOK.mk2 Qc xs (Pf k400 xs i40) (⟨(F20 k400),(IntKind.i64.wrap (k400+1)),(Qw xs i40).From,(Qw xs i40).Lines⟩:ConfCand) (by first | omega | (simp only [lens,ib] at*<;> omega):(i40).toNat<xs.length) (by exact ai ir (ai ir (ai ir (ai ir trivial)))):SetOK (.l 4 Qc (xs.set (i40).toNat (Pf k400 xs i40))) (i40).toNat (Qc (Pf k400 xs i40)) [.v (.string (F20 k400)),.v (vI (IntKind.i64.wrap (k400+1))),.l 1 eStr (Qw xs i40).From,.l 1 eStr (Qw xs i40).Lines] (.l 4 Qc (xs.set (i40).toNat (⟨(F20 k400),(IntKind.i64.wrap (k400+1)),(Qw xs i40).From,(Qw xs i40).Lines⟩:ConfCand)))) (ai (by first | omega | (simp only [lens,ib] at*<;> omega):0≤i40∧i40<((xs.set (i40).toNat (⟨(F20 k400),(IntKind.i64.wrap (k400+1)),(Qw xs i40).From,(Qw xs i40).Lines⟩:ConfCand)).length:Int)) (ai (Imps.of_eq (congrArg Qc (Uy xs (i40).toNat (⟨(F20 k400),(IntKind.i64.wrap (k400+1)),(Qw xs i40).From,(Qw xs i40).Lines⟩:ConfCand) (by first | omega | (simp only [lens,ib] at*<;> omega):(i40).toNat<xs.length)))) (ai (ai (by first | omega | (simp only [lens,ib] at*<;> omega):0≤(IntKind.i64.wrap ((IntKind.i64.wrap (k400+1))+1))) (by first | omega | (simp only [lens,ib] at*<;> omega):(IntKind.i64.wrap ((IntKind.i64.wrap (k400+1))+1))+((Qw xs i40).From.length:Int)≤1000000000)) (ai (Imp.refl (.l 1 eStr (Qw xs i40).From)) (ai (SetOK.mk2 Qc xs (⟨(F20 k400),(IntKind.i64.wrap (k400+1)),(Qw xs i40).From,(Qw xs i40).Lines⟩:ConfCand) (⟨(F20 k400),(IntKind.i64.wrap (k400+1)),(F10 (Qw xs i40).From (IntKind.i64.wrap ((IntKind.i64.wrap (k400+1))+1))).2,(Qw xs i40).Lines⟩:ConfCand) (by first | omega | (simp only [lens,ib] at*<;> omega):(i40).toNat<xs.length) (by exact ai ir (ai ir (ai ir (ai ir trivial)))):SetOK (.l 4 Qc (xs.set (i40).toNat (⟨(F20 k400),(IntKind.i64.wrap (k400+1)),(Qw xs i40).From,(Qw xs i40).Lines⟩:ConfCand))) (i40).toNat (Qc (⟨(F20 k400),(IntKind.i64.wrap (k400+1)),(Qw xs i40).From,(Qw xs i40).Lines⟩:ConfCand)) [.v (.string (F20 k400)),.v (vI (IntKind.i64.wrap (k400+1))),.l 1 eStr (F10 (Qw xs i40).From (IntKind.i64.wrap ((IntKind.i64.wrap (k400+1))+1))).2,.l 1 eStr (Qw xs i40).Lines] (.l 4 Qc (xs.set (i40).toNat (⟨(F20 k400),(IntKind.i64.wrap (k400+1)),(F10 (Qw xs i40).From (IntKind.i64.wrap ((IntKind.i64.wrap (k400+1))+1))).2,(Qw xs i40).Lines⟩:ConfCand)))) (ai (Imp.refl (.v (vI (IntKind.i64.wrap ((IntKind.i64.wrap (k400+1))+1))))) (ai (by first | omega | (simp only [lens,ib] at*<;> omega):0≤i40∧i40<((xs.set (i40).toNat (⟨(F20 k400),(IntKind.i64.wrap (k400+1)),(F10 (Qw xs i40).From (IntKind.i64.wrap ((IntKind.i64.wrap (k400+1))+1))).2,(Qw xs i40).Lines⟩:ConfCand)).length:Int)) (ai (Imps.of_eq (congrArg Qc (Uy xs (i40).toNat (⟨(F20 k400),(IntKind.i64.wrap (k400+1)),(F10 (Qw xs i40).From (IntKind.i64.wrap ((IntKind.i64.wrap (k400+1))+1))).2,(Qw xs i40).Lines⟩:ConfCand) (by first | omega | (simp only [lens,ib] at*<;> omega):(i40).toNat<xs.length)))) (ai (ai (by first | omega | (simp only [lens,ib] at*<;> omega):0≤(F10 (Qw xs i40).From (IntKind.i64.wrap ((IntKind.i64.wrap (k400+1))+1))).1) (by first | omega | (simp only [lens,ib] at*<;> omega):(F10 (Qw xs i40).From (IntKind.i64.wrap ((IntKind.i64.wrap (k400+1))+1))).1+((Qw xs i40).Lines.length:Int)≤1000000000)) (ai (Imp.refl (.l 1 eStr (Qw xs i40).Lines)) (ai (SetOK.mk2 Qc xs (⟨(F20 k400),(IntKind.i64.wrap (k400+1)),(F10 (Qw xs i40).From (IntKind.i64.wrap ((IntKind.i64.wrap (k400+1))+1))).2,(Qw xs i40).Lines⟩:ConfCand) (⟨(F20 k400),(IntKind.i64.wrap (k400+1)),(F10 (Qw xs i40).From (IntKind.i64.wrap ((IntKind.i64.wrap (k400+1))+1))).2,(F10 (Qw xs i40).Lines (F10 (Qw xs i40).From (IntKind.i64.wrap ((IntKind.i64.wrap (k400+1))+1))).1).2⟩:ConfCand) (by first | omega | (simp only [lens,ib] at*<;> omega):(i40).toNat<xs.length) (by exact ai ir (ai ir (ai ir (ai ir trivial)))):SetOK (.l 4 Qc (xs.set (i40).toNat (⟨(F20 k400),(IntKind.i64.wrap (k400+1)),(F10 (Qw xs i40).From (IntKind.i64.wrap ((IntKind.i64.wrap (k400+1))+1))).2,(Qw xs i40).Lines⟩:ConfCand))) (i40).toNat (Qc (⟨(F20 k400),(IntKind.i64.wrap (k400+1)),(F10 (Qw xs i40).From (IntKind.i64.wrap ((IntKind.i64.wrap (k400+1))+1))).2,(Qw xs i40).Lines⟩:ConfCand)) [.v (.string (F20 k400)),.v (vI (IntKind.i64.wrap (k400+1))),.l 1 eStr (F10 (Qw xs i40).From (IntKind.i64.wrap ((IntKind.i64.wrap (k400+1))+1))).2,.l 1 eStr (F10 (Qw xs i40).Lines (F10 (Qw xs i40).From (IntKind.i64.wrap ((IntKind.i64.wrap (k400+1))+1))).1).2] (.l 4 Qc (xs.set (i40).toNat (⟨(F20 k400),(IntKind.i64.wrap (k400+1)),(F10 (Qw xs i40).From (IntKind.i64.wrap ((IntKind.i64.wrap (k400+1))+1))).2,(F10 (Qw xs i40).Lines (F10 (Qw xs i40).From (IntKind.i64.wrap ((IntKind.i64.wrap (k400+1))+1))).1).2⟩:ConfCand)))) (ai (Imp.refl (.v (vI (F10 (Qw xs i40).From (IntKind.i64.wrap ((IntKind.i64.wrap (k400+1))+1))).1))) (ai (iok (i40+1) (by first | omega | (simp only [lens,ib] at*<;> omega))) (bk43_0 a k i0 m0 (F10 (Qw xs i40).Lines (F10 (Qw xs i40).From (IntKind.i64.wrap ((IntKind.i64.wrap (k400+1))+1))).1).1 (i40+1) (xs.set (i40).toNat (⟨(F20 k400),(IntKind.i64.wrap (k400+1)),(F10 (Qw xs i40).From (IntKind.i64.wrap ((IntKind.i64.wrap (k400+1))+1))).2,(F10 (Qw xs i40).Lines (F10 (Qw xs i40).From (IntKind.i64.wrap ((IntKind.i64.wrap (k400+1))+1))).1).2⟩:ConfCand)) hl0 (Qg hI0 (condT h2 rfl)) (by refine ⟨?_,?_,?_,?_⟩ <;> first | omega | (simp only [lens,ib] at*<;> omega)))))))))))))))))))))) (fun h2 _=>have hD0_3:Quk a k=Lp.done (k400,i40,xs):=Qj hI0 (condF h2 rfl); fi43 a k (k400,xs) (finD hD0_3 rfl))) (i0.1-1) i0.2.1 i0.2.2.1 i0.2.2.2 (un43_0 a k i0 hi0))) (by kernel_rfl)
theorem kc44 (a:List ByteArray) (k:Int) {K_:Prop} (p0_:0≤k) (p1_:k+(a.length:Int)≤1000000000) (k_:K_):(0≤k∧k+(a.length:Int)≤1000000000)∧(Imp (.l 1 eStr a) (.l 1 eStr a))∧(Imp (.v (vI k)) (.v (vI k)))∧K_:=⟨⟨p0_,p1_⟩,Imp.refl _,Imp.refl _,k_⟩
abbrev kh44 (a:List ByteArray) (k:Int):Hint true Tryz.prog:=.call 44 (S44 a k) (ok44 a k) none
def Tt (a:List ConfCand) (k:Int):(Int×Int)→Lp (Int×Int) Int:=fun (k400,i40) =>
 bif (decide (i40<(a.length:Int))) then (bif (!((a.getD i40.toNat default).User.toList==(F20 k400).toList)) then (.ret (-1)) else (bif ((a.getD i40.toNat default).Base != (IntKind.i64.wrap (k400+1))) then (.ret (-1)) else (bif (decide ((F44 (a.getD i40.toNat default).From (IntKind.i64.wrap ((IntKind.i64.wrap (k400+1))+1)))<0)) then (.ret (-1)) else (bif (decide ((F44 (a.getD i40.toNat default).Lines (F44 (a.getD i40.toNat default).From (IntKind.i64.wrap ((IntKind.i64.wrap (k400+1))+1))))<0)) then (.ret (-1)) else (.next ((F44 (a.getD i40.toNat default).Lines (F44 (a.getD i40.toNat default).From (IntKind.i64.wrap ((IntKind.i64.wrap (k400+1))+1)))),(i40+1))))))) else (.done (k400,i40))
def F45 (a:List ConfCand) (k:Int):Int :=
 (runL (Tt a k) (((a.length:Int)-0).toNat+1) (k,0)).fin (fun r=>r) (fun (k400,i40)=>k400)
abbrev Ei (a:List ConfCand) (k:Int):Nat×(Int×Int):=((((a.length:Int)-0).toNat+1),(k,0))
abbrev Qld (a:List ConfCand) (m39:Nat) (k400:Int) (i40:Int):Prop:=Int.toNat ((a.length:Int)-i40)<m39∧(0:Int)≤i40
abbrev Qzz (a:List ConfCand) (k:Int):Lp (Int×Int) Int:=LpX (Tt a k) (Ei a k)
abbrev Qbx (a:List ConfCand) (k:Int) (i:Nat×(Int×Int)):Prop:=LpJ (Tt a k) (Ei a k) i (Qld a i.1 i.2.1 i.2.2)
abbrev Qya (a:List ConfCand) (k:Int) (i:Nat×(Int×Int)) (m39:Nat) (k400:Int) (i40:Int):Prop:=LpH (Tt a k) (Ei a k) i m39 (k400,i40) (Qld a (m39+1) k400 i40)
abbrev Qtp (a:List ConfCand) (k400:Int) (i40:Int) (k400_:Int) (i40_:Int) (K39:Prop):Prop:=((.int .i64 k400:Value)=.int .i64 k400_)∧((.int .i64 i40:Value)=.int .i64 i40_)∧(Im (.l 4 Qc a))∧K39
theorem un45_0 (a:List ConfCand) (k:Int) (i:Nat×(Int×Int)) (h:Qbx a k i):Qya a k i (i.1-1) i.2.1 i.2.2:=⟨hd1 h.1 h.2.1,hd3 h.2.1,hd2 h.2.1,h.2.2⟩
theorem bk45_0 (a:List ConfCand) (k:Int) (i:Nat×(Int×Int)) (m39:Nat) (k400:Int) (i40:Int) (hl:m39<i.1) (e:runL (Tt a k) m39 (k400,i40)=Qzz a k) (h:Qld a m39 k400 i40):∃ j:Nat×(Int×Int),Qtp a k400 i40 j.2.1 j.2.2 (Qbx a k j∧j.1<i.1):=⟨(m39,(k400,i40)),rfl,rfl,Imp.refl _,⟨e,h⟩,hl⟩
theorem en45_0 (a:List ConfCand) (k:Int) (h:(0:Int)≤0):Qtp a k 0 k 0 (Qbx a k (Ei a k)):=⟨rfl,rfl,Imp.refl _,rfl,Nat.lt_succ_self _,h⟩
def S45 (a:List ConfCand) (k:Int):Spec:=⟨[.r (.c (.l 4 Qc a)),.r (.c (.v (vI k)))],.v (vI (F45 a k)),a.length=0⟩
theorem ok45 (a:List ConfCand) (k:Int):(S45 a k).ok Tryz.prog 45 :=
 Qi mixed (fn:=Tryz.f45) (ct:=.seqk [(0,0)] .no (.seq (.seqk [(0,0)] .no (.blk (.loop (ι:=Nat×(Int×Int)) (fun i=>(fun (k400:Int) (i40:Int)=>(⟨[(0,some (.h 0 0)),(1,some (.v (vI k400))),(5,some (.v (vI i40)))],[(0,some (.shr none (.l 4 Qc a)))],1⟩:St)) i.2.1 i.2.2) (Qbx a k) (fun i=>i.1) (Ei a k) (fun i=>(fun (k400:Int) (i40:Int)=>(.seq (.seq .no (.cond .no .no)) (.seq (.blk (.seq (.seq (.reg [(6,kh20 k400)]) (.cond (.seq .no .no) .no)) (.seq .no (.seq (.seq .no (.cond (.seq .no .no) .no)) (.seq .no (.seq (.reg [(6,kh44 (a.getD i40.toNat default).From (IntKind.i64.wrap ((IntKind.i64.wrap (k400+1))+1)))]) (.seq (.seq .no (.cond (.seq .no .no) .no)) (.seq (.reg [(6,kh44 (a.getD i40.toNat default).Lines (F44 (a.getD i40.toNat default).From (IntKind.i64.wrap ((IntKind.i64.wrap (k400+1))+1))))]) (.seq .no (.cond (.seq .no .no) .no)))))))))) (.reg [(1,.bnd)])))) i.2.1 i.2.2)))) (.seq .no .no))) Tryz.func45 (fun (hpre0:a.length=0)=>kn a fun _=>kn a fun _=>ai (en45_0 a k (by omega)) (fun (i0:Nat×(Int×Int)) (hi0:Qbx a k i0)=>(fun (m0:Nat) (k400:Int) (i40:Int) (hh0:Qya a k i0 m0 k400 i40)=>have hI0:=hh0.1; have hl0:=hh0.2.1; have _:=hh0.2.2.1; have _:=hh0.2.2.2; ifd (i40<(a.length:Int)) (fun h2 _=>ai (by omega:ib i40 a) (kc20 k400 (by omega) (ifb (!((a.getD i40.toNat default).User.toList==(F20 k400).toList)) (fun h3=>fiI (-1) (F45 a k) (finR (Qp hI0 (condT h2 (condT h3 rfl))) rfl)) (fun h3=>ai (by omega:ib i40 a) (ifn (a.getD i40.toNat default).Base (IntKind.i64.wrap (k400+1)) (fun h4 _=>fiI (-1) (F45 a k) (finR (Qp hI0 (condT h2 (condF h3 (condT h4 rfl)))) rfl)) (fun h4 _=>ai (by omega:ib i40 a) (kc44 (a.getD i40.toNat default).From (IntKind.i64.wrap ((IntKind.i64.wrap (k400+1))+1)) (by omega) (by omega) (ifd ((F44 (a.getD i40.toNat default).From (IntKind.i64.wrap ((IntKind.i64.wrap (k400+1))+1)))<0) (fun h5 _=>fiI (-1) (F45 a k) (finR (Qp hI0 (condT h2 (condF h3 (condF h4 (condT h5 rfl))))) rfl)) (fun h5 _=>ai (by omega:ib i40 a) (kc44 (a.getD i40.toNat default).Lines (F44 (a.getD i40.toNat default).From (IntKind.i64.wrap ((IntKind.i64.wrap (k400+1))+1))) (by omega) (by omega) (ifd ((F44 (a.getD i40.toNat default).Lines (F44 (a.getD i40.toNat default).From (IntKind.i64.wrap ((IntKind.i64.wrap (k400+1))+1))))<0) (fun h6 _=>fiI (-1) (F45 a k) (finR (Qp hI0 (condT h2 (condF h3 (condF h4 (condF h5 (condT h6 rfl)))))) rfl)) (fun h6 _=>ai (iok (i40+1) (by omega)) (bk45_0 a k i0 m0 (F44 (a.getD i40.toNat default).Lines (F44 (a.getD i40.toNat default).From (IntKind.i64.wrap ((IntKind.i64.wrap (k400+1))+1)))) (i40+1) hl0 (Qg hI0 (condT h2 (condF h3 (condF h4 (condF h5 (condF h6 rfl)))))) (by refine ⟨?_,?_⟩ <;> omega)))))))))))))) (fun h2 _=>have hD0_7:Qzz a k=Lp.done (k400,i40):=Qj hI0 (condF h2 rfl); fiI k400 (F45 a k) (finD hD0_7 rfl))) (i0.1-1) i0.2.1 i0.2.2 (un45_0 a k i0 hi0))) (by kernel_rfl)
theorem candM (a:List ConfCand) (k:Int) (h:a.length=0):(F43 a k).1=k:=by
 obtain rfl:=List.eq_nil_of_length_eq_zero h; rfl
theorem Qzs (a:List ConfCand) (k:Int) (h:a.length=0):(F43 a k).2.length=0:=by
 obtain rfl:=List.eq_nil_of_length_eq_zero h; rfl
theorem Qxc (a:List ConfCand) (k:Int) (h:a.length=0):F45 a k=k:=by
 obtain rfl:=List.eq_nil_of_length_eq_zero h; rfl
theorem Py (a:List ByteArray) (k:Int) (h0:0≤k):F44 a k≤k+(a.length:Int):=by
 have h:=Yf (step:=Wm a k) (fun i (s:Int)=>(s,(i:Int))) a.length (fun i s=>s=k+(i:Int)) (fun r=>r=-1) (fun i s hi hs=>by
  simp only [Wm,decide_eq_true (show (i:Int)<(a.length:Int) by omega),cond_true]
  cases (!((a.getD (i:Int).toNat default).toList==(F20 s).toList)) with
  | true=>exact .inr ⟨-1,rfl,rfl⟩
  | false=>exact .inl ⟨s+1,rfl,by omega⟩) (fun s hs=>by simp only [Wm,decide_eq_false (show ¬ (a.length:Int)<(a.length:Int) by omega),cond_false]) a.length 0 k (by omega) (by omega) (Int.toNat ((a.length:Int)-0)+1) (by omega)
 show (runL (Wm a k) (Int.toNat ((a.length:Int)-0)+1) (k,0)).fin (fun r=>r) (fun (k400,i40)=>k400)≤_
 rcases h with ⟨s,e,hs⟩ | ⟨r,e,hr⟩
 ·rw [show (k,(0:Int))=(k,((0:Nat):Int)) from rfl,e]; show s≤_; omega
 ·rw [show (k,(0:Int))=(k,((0:Nat):Int)) from rfl,e]; show r≤_; omega
end Go.Proofs.YtbaholefcgacpabGreatDoor
