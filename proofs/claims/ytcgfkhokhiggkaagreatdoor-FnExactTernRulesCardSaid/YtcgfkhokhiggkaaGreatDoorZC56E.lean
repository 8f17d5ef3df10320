/- A part of the proof of FnExactTernRules. Texts put together: VCKC, VCKD, PCE0, PCE1, PCE2, PCHA, VCH, PCH, VSZ, PSZ, VTA, PTA, VTB, PTB, PTS, PTK, PTR0, VTRD, VTR0. -/
import Derived.Test.YtcgfkhokhiggkaaGreatDoorRows
import Derived.WalkKit
import Derived.BigCall
import Derived.BigGuard
import Derived.Lib.Walk
import Derived.Lib.Hide
import Derived.Test.YtcgfkhokhiggkaaGreatDoorZC56D
namespace Go.Proofs.YtcgfkhokhiggkaaGreatDoor
open Go.RowKit
set_option maxRecDepth 100000
set_option linter.unusedVariables false
set_option linter.unusedSimpArgs false
def T194 (R:List NetPrefix) (lines:List ByteArray):Spec:=⟨(S194 R lines).args,(S194 R lines).res,F64 lines=0∧lines.length≤16∧(∀ k:Nat,(lines.getD k default).size≤1048576)⟩
theorem oa194 (lines:List ByteArray):(T194 (Qn lines) lines).ok Tryz.prog 194 false:=by
 intro hp; have h:=ok194 lines hp; rw [as194 lines] at h; exact h
def T65 (R:List l52Cut) (lines:List ByteArray):Spec:=⟨(S65 R lines).args,(S65 R lines).res,lines.length≤16∧(∀ k:Nat,(lines.getD k default).size≤1048576)⟩
theorem oa65 (lines:List ByteArray):(T65 (lines.map (fun l=>(⟨(F97 l).1⟩:l52Cut))) lines).ok Tryz.prog 65:=by
 intro hp; have h:=ok65 lines hp; rw [as65 lines] at h; exact h
def F222 (p:NetPrefix):Int :=
 (IntKind.i64.wrap ((IntKind.i64.wrap (p.Addr+(F168 p)))-1))
def S222 (p:NetPrefix):Spec:=⟨[.r (.g (Qe p))],.v (vI (F222 p)),0≤p.Len∧p.Len≤16⟩
theorem ok222 (p:NetPrefix):(S222 p).ok Tryz.prog 222 :=
 Qg mixed (fn:=Tryz.f222) (ct:=.seq .no (.seq (.reg [(3,kh168 p)]) .no)) Tryz.func222 (fun (hp:0≤p.Len∧p.Len≤16)=>have hpre0:=hp.1; have hpre1:=hp.2; kc168 p (by omega) (by omega) (by omega) (by omega) (fun gv1 gv2=>fiI (IntKind.i64.wrap ((IntKind.i64.wrap (p.Addr+(F168 p)))-1)) (F222 p) rfl)) (by kernel_rfl)
theorem kc222 (p:NetPrefix) {K_:Prop} (p0_:0≤p.Len) (p1_:p.Len≤16) (k_:K_):(0≤p.Len∧p.Len≤16)∧(Imps (Qe p) (Qe p))∧K_:=⟨⟨p0_,p1_⟩,Imps.refl _,k_⟩
abbrev kh222 (p:NetPrefix):Hint true Tryz.prog:=.call 222 (S222 p) (ok222 p) none
def F199 (p:NetPrefix) (addr:Int):Bool :=
 (decide (p.Addr≤addr∧addr≤(F222 p)))
def S199 (p:NetPrefix) (addr:Int):Spec:=⟨[.r (.g (Qe p)),.r (.c (.v (vI addr)))],.v (.bool (F199 p addr)),0≤p.Len∧p.Len≤16⟩
theorem Udp (p:NetPrefix) (addr:Int):(S199 p addr).ok Tryz.prog 199 :=
 Qg mixed (fn:=Tryz.f199) (ct:=.seq .no (.seq (.reg [(4,kh222 p),(5,Qrv addr p.Addr (F222 p))]) .no)) Tryz.func199 (fun (hp:0≤p.Len∧p.Len≤16)=>have hpre0:=hp.1; have hpre1:=hp.2; kc222 p (by omega) (by omega) (Qly addr p.Addr (F222 p) (fiB (decide (p.Addr≤addr∧addr≤(F222 p))) (F199 p addr) rfl))) (by kernel_rfl)
theorem kc199 (p:NetPrefix) (addr:Int) {K_:Prop} (p0_:0≤p.Len) (p1_:p.Len≤16) (k_:K_):(0≤p.Len∧p.Len≤16)∧(Imps (Qe p) (Qe p))∧(Imp (.v (vI addr)) (.v (vI addr)))∧K_:=⟨⟨p0_,p1_⟩,Imps.refl _,Imp.refl _,k_⟩
theorem kg199 {K_:Prop} (c_ b_:Bool) (p:NetPrefix) (addr:Int) (p_:c_=b_→0≤p.Len∧p.Len≤16) (k_:K_):(c_=b_→0≤p.Len∧p.Len≤16)∧(c_=b_→Imps (Qe p) (Qe p))∧(c_=b_→Imp (.v (vI addr)) (.v (vI addr)))∧K_:=⟨p_,fun _=>Imps.refl _,fun _=>Imp.refl _,k_⟩
abbrev kh199 (p:NetPrefix) (addr:Int):Hint true Tryz.prog:=.call 199 (S199 p addr) (Udp p addr) none
def F195 (p:NetPrefix) (q:NetPrefix):Bool :=
 (bif decide (q.Len≤p.Len) then (F199 q p.Addr) else false)
def S195 (p:NetPrefix) (q:NetPrefix):Spec:=⟨[.r (.g (Qe p)),.r (.g (Qe q))],.v (.bool (F195 p q)),0≤q.Len∧q.Len≤16⟩
theorem ok195 (p:NetPrefix) (q:NetPrefix):(S195 p q).ok Tryz.prog 195 :=
 Qg mixed (fn:=Tryz.f195) (ct:=.seq .no (.seq (.reg [(9,kh199 q p.Addr)]) .no)) Tryz.func195 (fun (hp:0≤q.Len∧q.Len≤16)=>have hpre0:=hp.1; have hpre1:=hp.2; kg199 (decide (q.Len≤p.Len)) true q p.Addr (fun k1=>have _:=of_decide_eq_true k1; ⟨(by omega),(by omega)⟩) (fiB (bif decide (q.Len≤p.Len) then (F199 q p.Addr) else false) (F195 p q) rfl)) (by kernel_rfl)
theorem Qzv (lines:List ByteArray) {K_:Prop} (p0_:F64 lines=0) (p1_:lines.length≤16) (p2_:∀ k:Nat,(lines.getD k default).size≤1048576) (k_:K_):(F64 lines=0∧lines.length≤16∧(∀ k:Nat,(lines.getD k default).size≤1048576))∧(Imp (.l 1 eStr lines) (.l 1 eStr lines))∧K_:=⟨⟨p0_,p1_,p2_⟩,Imp.refl _,k_⟩
abbrev Uep (lines:List ByteArray):Hint false Tryz.prog:=.call 194 (T194 (Qn lines) lines) (oa194 lines) none
def Vg (lines:List ByteArray) (v12:Int):Int→Lp Int Bool:=fun v21 =>
 bif (decide (v21<(((Qn lines).take (Int.toNat v12)).length:Int))) then (bif (bif (F195 ⟨((Qn lines).getD (Int.toNat v12) default).Addr,((Qn lines).getD (Int.toNat v12) default).Len⟩ ⟨(((Qn lines).take (Int.toNat v12)).getD (Int.toNat v21) default).Addr,(((Qn lines).take (Int.toNat v12)).getD (Int.toNat v21) default).Len⟩) then true else (F195 ⟨(((Qn lines).take (Int.toNat v12)).getD (Int.toNat v21) default).Addr,(((Qn lines).take (Int.toNat v12)).getD (Int.toNat v21) default).Len⟩ ⟨((Qn lines).getD (Int.toNat v12) default).Addr,((Qn lines).getD (Int.toNat v12) default).Len⟩)) then (.ret true) else (.next (v21+1))) else (.done v21)
def Vr (lines:List ByteArray):Int→Lp Int Bool:=fun v12 =>
 bif (decide (v12<((Qn lines).length:Int))) then ((runL (Vg lines v12) ((Int.toNat ((((Qn lines).take (Int.toNat v12)).length:Int)-0))+1) 0).fin Lp.ret (fun v21=>.next (v12+1))) else (.done v12)
def F164 (lines:List ByteArray):Bool :=
 (runL (Vr lines) ((Int.toNat (((Qn lines).length:Int)-0))+1) 0).fin (fun r=>r) (fun v12=>false)
abbrev Nf (lines:List ByteArray) (v12:Int):Nat×Int:=(((Int.toNat ((((Qn lines).take (Int.toNat v12)).length:Int)-0))+1),0)
abbrev Qjr (lines:List ByteArray) (v12:Int) (m39:Nat) (v21:Int):Prop:=Int.toNat ((((Qn lines).take (Int.toNat v12)).length:Int)-v21)<m39∧(0:Int)≤v21
abbrev Qtw (lines:List ByteArray) (v12:Int):Lp Int Bool:=LpX (Vg lines v12) (Nf lines v12)
abbrev Mp (lines:List ByteArray) (v12:Int) (i:Nat×Int):Prop:=LpJ (Vg lines v12) (Nf lines v12) i (Qjr lines v12 i.1 i.2)
abbrev Qvu (lines:List ByteArray) (v12:Int) (i:Nat×Int) (m39:Nat) (v21:Int):Prop:=LpH (Vg lines v12) (Nf lines v12) i m39 v21 (Qjr lines v12 (m39+1) v21)
abbrev Qvp (lines:List ByteArray) (v12:Int) (v21:Int) (v21_:Int) (K39:Prop):Prop:=(Rf (.int .i64 ((Qn lines).length:Int)))∧(Rf (.int .i64 v12))∧(Rf (.int .i64 (((Qn lines).take (Int.toNat v12)).length:Int)))∧((.int .i64 v21:Value)=.int .i64 v21_)∧(Im (.l 2 Qe (Qn lines)))∧(Rf (.int .i64 ((Qn lines).getD (Int.toNat v12) default).Addr))∧(Rf (.int .i64 ((Qn lines).getD (Int.toNat v12) default).Len))∧(Im (.l 2 Qe ((Qn lines).take (Int.toNat v12))))∧K39
theorem Uil (lines:List ByteArray) (v12:Int) (i:Nat×Int) (h:Mp lines v12 i):Qvu lines v12 i (i.1-1) i.2:=⟨hd1 h.1 h.2.1,hd3 h.2.1,hd2 h.2.1,h.2.2⟩
theorem Ufw (lines:List ByteArray) (v12:Int) (i:Nat×Int) (m39:Nat) (v21:Int) (hl:m39<i.1) (e:runL (Vg lines v12) m39 v21=Qtw lines v12) (h:Qjr lines v12 m39 v21):∃ j:Nat×Int,Qvp lines v12 v21 j.2 (Mp lines v12 j∧j.1<i.1):=⟨(m39,v21),rfl,rfl,rfl,rfl,Imp.refl _,rfl,rfl,Imp.refl _,⟨e,h⟩,hl⟩
theorem Ugk (lines:List ByteArray) (v12:Int) (h:(0:Int)≤0):Qvp lines v12 0 0 (Mp lines v12 (Nf lines v12)):=⟨rfl,rfl,rfl,rfl,Imp.refl _,rfl,rfl,Imp.refl _,rfl,Nat.lt_succ_self _,h⟩
abbrev Pp (lines:List ByteArray):Nat×Int:=(((Int.toNat (((Qn lines).length:Int)-0))+1),0)
abbrev Qiw (lines:List ByteArray) (m39:Nat) (v12:Int):Prop:=Int.toNat (((Qn lines).length:Int)-v12)<m39∧(0:Int)≤v12
abbrev Qtl (lines:List ByteArray):Lp Int Bool:=LpX (Vr lines) (Pp lines)
abbrev Pj (lines:List ByteArray) (i:Nat×Int):Prop:=LpJ (Vr lines) (Pp lines) i (Qiw lines i.1 i.2)
abbrev Qvo (lines:List ByteArray) (i:Nat×Int) (m39:Nat) (v12:Int):Prop:=LpH (Vr lines) (Pp lines) i m39 v12 (Qiw lines (m39+1) v12)
abbrev Qrg (lines:List ByteArray) (v12:Int) (v12_:Int) (K39:Prop):Prop:=(Rf (.int .i64 ((Qn lines).length:Int)))∧((.int .i64 v12:Value)=.int .i64 v12_)∧(Im (.l 2 Qe (Qn lines)))∧K39
theorem Ujo (lines:List ByteArray) (i:Nat×Int) (h:Pj lines i):Qvo lines i (i.1-1) i.2:=⟨hd1 h.1 h.2.1,hd3 h.2.1,hd2 h.2.1,h.2.2⟩
theorem Ugw (lines:List ByteArray) (i:Nat×Int) (m39:Nat) (v12:Int) (hl:m39<i.1) (e:runL (Vr lines) m39 v12=Qtl lines) (h:Qiw lines m39 v12):∃ j:Nat×Int,Qrg lines v12 j.2 (Pj lines j∧j.1<i.1):=⟨(m39,v12),rfl,rfl,Imp.refl _,⟨e,h⟩,hl⟩
theorem Ukd (lines:List ByteArray) (h:(0:Int)≤0):Qrg lines 0 0 (Pj lines (Pp lines)):=⟨rfl,rfl,Imp.refl _,rfl,Nat.lt_succ_self _,h⟩
def S164 (lines:List ByteArray):Spec:=⟨[.r (.c (.l 1 eStr lines))],.v (.bool (F164 lines)),F64 lines=0∧lines.length≤16∧(∀ k:Nat,(lines.getD k default).size≤1048576)⟩
abbrev Jx (lines:List ByteArray) (v12:Int) (v21:Int):=(⟨(((Qn lines).take (Int.toNat v12)).getD (Int.toNat v21) default).Addr,(((Qn lines).take (Int.toNat v12)).getD (Int.toNat v21) default).Len⟩:NetPrefix)
abbrev Jk (lines:List ByteArray) (v12:Int):=(⟨((Qn lines).getD (Int.toNat v12) default).Addr,((Qn lines).getD (Int.toNat v12) default).Len⟩:NetPrefix)
theorem ok164 (lines:List ByteArray):(S164 lines).ok Tryz.prog 164 false :=
 Qg mixed (fn:=Tryz.f164) (ct:=.seqk [(0,0)] .no (.seq (.reg [(1,Uep lines)]) (.seq (.seqk [(3,0),(10,0)] .no (.blk (.loop (ι:=Nat×Int) (fun i=>(fun (v12:Int)=>(⟨[(3,some (.h 0 0)),(10,some (.h 0 0)),(11,some (.v (vI ((Qn lines).length:Int)))),(12,some (.v (vI v12)))],[(0,some (.own 0 (.l 2 Qe (Qn lines))))],1⟩:St)) i.2) (Pj lines) (fun i=>i.1) (Pp lines) (fun i=>(fun (v12:Int)=>(.seq .no (.seq (.cond .no .no) (.seq (.blk (.seq .no (.seqk [(19,0)] .no (.blk (.loop (ι:=Nat×Int) (fun i=>(fun (v21:Int)=>(⟨[(3,some (.h 0 0)),(5,some (.p 1 0)),(10,some (.h 0 0)),(11,some (.v (vI ((Qn lines).length:Int)))),(12,some (.v (vI v12))),(19,some (.h 2 0)),(20,some (.v (vI (((Qn lines).take (Int.toNat v12)).length:Int)))),(21,some (.v (vI v21)))],[(0,some (.own 0 (.l 2 Qe (Qn lines)))),(1,some (.box 58 [.v (vI ((Qn lines).getD (Int.toNat v12) default).Addr),.v (vI ((Qn lines).getD (Int.toNat v12) default).Len)])),(2,some (.shr (some (0,0)) (.l 2 Qe ((Qn lines).take (Int.toNat v12)))))],3⟩:St)) i.2) (Mp lines v12) (fun i=>i.1) (Nf lines v12) (fun i=>(fun (v21:Int)=>(.seq .no (.seq (.cond .no .no) (.seq (.blk (.seq .no (.seq (.reg [(2,.call 195 (S195 (Jk lines v12) (Jx lines v12 v21)) ((ok195 (Jk lines v12) (Jx lines v12 v21)).to false) none),(6,.call 195 (S195 (Jx lines v12 v21) (Jk lines v12)) ((ok195 (Jx lines v12 v21) (Jk lines v12)).to false) none)]) (.cond (.seq .no .no) .no)))) (.reg [(0,.bnd)]))))) i.2)))))) (.reg [(0,.bnd)]))))) i.2)))) (.seq .no .no)))) Tryz.func164 (fun (hp:F64 lines=0∧lines.length≤16∧(∀ k:Nat,(lines.getD k default).size≤1048576))=>have hpre0:=hp.1; have hpre1:=hp.2.1; have hpre2:=hp.2.2; kn lines fun _=>Qzv lines (by omega) (by omega) (by assumption) (kn (Qn lines) fun _=>kn (Qn lines) fun _=>ai (Ukd lines (by omega)) (fun (i0:Nat×Int) (hi0:Pj lines i0)=>(fun (m0:Nat) (v12:Int) (hh0:Qvo lines i0 m0 v12)=>have hI0:=hh0.1; have hl0:=hh0.2.1; have _:=hh0.2.2.1; have _:=hh0.2.2.2; ifd (v12<((Qn lines).length:Int)) (fun h2 _=>ai (by omega:ib v12 (Qn lines)) (ai (by omega:0≤(0:Int)∧(0:Int)≤v12∧v12≤((Qn lines).length:Int)) (kn ((Qn lines).take (Int.toNat v12)) fun _=>ai (Ugk lines v12 (by omega)) (fun (i1:Nat×Int) (hi1:Mp lines v12 i1)=>(fun (m1:Nat) (v21:Int) (hh1:Qvu lines v12 i1 m1 v21)=>have hI1:=hh1.1; have hl1:=hh1.2.1; have _:=hh1.2.2.1; have _:=hh1.2.2.2; ifd (v21<(((Qn lines).take (Int.toNat v12)).length:Int)) (fun h4 _=>ai (by omega:ib v21 ((Qn lines).take (Int.toNat v12))) (ai (ai (by exact (Qcy lines _ _).1:0≤(((Qn lines).take (Int.toNat v12)).getD (Int.toNat v21) default).Len) (by exact (Qcy lines _ _).2:(((Qn lines).take (Int.toNat v12)).getD (Int.toNat v21) default).Len≤16)) (ai (Imps.refl (Qe (Jk lines v12))) (ai (Imps.refl (Qe (Jx lines v12 v21))) (ai (fun k5:(F195 (Jk lines v12) (Jx lines v12 v21))=false=>(ai (by exact (Tn lines _).1:0≤((Qn lines).getD (Int.toNat v12) default).Len) (by exact (Tn lines _).2:((Qn lines).getD (Int.toNat v12) default).Len≤16))) (ai (fun k6:(F195 (Jk lines v12) (Jx lines v12 v21))=false=>(Imps.refl (Qe (Jx lines v12 v21)))) (ai (fun k7:(F195 (Jk lines v12) (Jx lines v12 v21))=false=>(Imps.refl (Qe (Jk lines v12)))) (ifb (bif (F195 (Jk lines v12) (Jx lines v12 v21)) then true else (F195 (Jx lines v12 v21) (Jk lines v12))) (fun h8=>fiB true (F164 lines) (finR (Qp hI0 (condT h2 (finR (Qp hI1 (condT h4 (condT h8 rfl))) rfl))) rfl)) (fun h8=>ai (iok (v21+1) (by omega)) (Ufw lines v12 i1 m1 (v21+1) hl1 (Qc hI1 (condT h4 (condF h8 rfl))) (by refine ⟨?_,?_⟩ <;> omega))))))))))) (fun h4 _=>have hD1_9:Qtw lines v12=Lp.done v21:=Qi hI1 (condF h4 rfl); ai (iok (v12+1) (by omega)) (Ugw lines i0 m0 (v12+1) hl0 (Qc hI0 (condT h2 (finD hD1_9 rfl))) (by refine ⟨?_,?_⟩ <;> omega)))) (i1.1-1) i1.2 (Uil lines v12 i1 hi1))))) (fun h2 _=>have hD0_10:Qtl lines=Lp.done v12:=Qi hI0 (condF h2 rfl); fiB false (F164 lines) (finD hD0_10 rfl))) (i0.1-1) i0.2 (Ujo lines i0 hi0)))) (by kernel_rfl)
def F198 (p:NetPrefix) (p1:Int):Bool :=
 (bif (F199 p p1) then (p.Addr != p1) else false)
def S198 (p:NetPrefix) (p1:Int):Spec:=⟨[.r (.g (Qe p)),.rp ([.v (vI p1)])],.v (.bool (F198 p p1)),0≤p.Len∧p.Len≤16⟩
theorem ok198 (p:NetPrefix) (p1:Int):(S198 p p1).ok Tryz.prog 198 :=
 Qg mixed (fn:=Tryz.f198) (ct:=.seq .no (.seq (.reg [(2,kh199 p p1)]) .no)) Tryz.func198 (fun (hp:0≤p.Len∧p.Len≤16)=>have hpre0:=hp.1; have hpre1:=hp.2; kc199 p p1 (by omega) (by omega) (fiB (bif (F199 p p1) then (p.Addr != p1) else false) (F198 p p1) rfl)) (by kernel_rfl)
def Jv (Q:NetPrefix→Prop) (p:NetPrefix→Bool):Uv:=⟨NetPrefix,fun i=>[.g (pxH (Qe i) (Q i))],fun i=>.bool (p i)⟩
def Gy (s:List NetPrefix) (f:NetPrefix→Bool):Int→Lp Int Int:=fun v8 =>
 bif (decide (v8<(s.length:Int))) then (bif (f (⟨(s.getD (Int.toNat v8) default).Addr,(s.getD (Int.toNat v8) default).Len⟩:NetPrefix)) then (.ret v8) else (.next (v8+1))) else (.done v8)
def F221 (s:List NetPrefix) (f:NetPrefix→Bool):Int :=
 (runL (Gy s f) ((Int.toNat ((s.length:Int)-0))+1) 0).fin (fun r=>r) (fun v8=>(-1))
abbrev Ri (s:List NetPrefix):Nat×Int:=(((Int.toNat ((s.length:Int)-0))+1),0)
abbrev Qie (s:List NetPrefix) (m39:Nat) (v8:Int):Prop:=Int.toNat ((s.length:Int)-v8)<m39∧(0:Int)≤v8
abbrev Qsf (s:List NetPrefix) (f:NetPrefix→Bool):Lp Int Int:=LpX (Gy s f) (Ri s)
abbrev Rh (s:List NetPrefix) (f:NetPrefix→Bool) (i:Nat×Int):Prop:=LpJ (Gy s f) (Ri s) i (Qie s i.1 i.2)
abbrev Quj (s:List NetPrefix) (f:NetPrefix→Bool) (i:Nat×Int) (m39:Nat) (v8:Int):Prop:=LpH (Gy s f) (Ri s) i m39 v8 (Qie s (m39+1) v8)
abbrev Qqu (Qf:NetPrefix→Prop) (s:List NetPrefix) (f:NetPrefix→Bool) (v8:Int) (v8_:Int) (K39:Prop):Prop:=(Rf (.int .i64 (s.length:Int)))∧((.int .i64 v8:Value)=.int .i64 v8_)∧(Im (.l 2 Qe s))∧(Jv Qf f=Jv Qf f)∧K39
theorem Uli (s:List NetPrefix) (f:NetPrefix→Bool) (i:Nat×Int) (h:Rh s f i):Quj s f i (i.1-1) i.2:=⟨hd1 h.1 h.2.1,hd3 h.2.1,hd2 h.2.1,h.2.2⟩
theorem Ukl (Qf:NetPrefix→Prop) (s:List NetPrefix) (f:NetPrefix→Bool) (i:Nat×Int) (m39:Nat) (v8:Int) (hl:m39<i.1) (e:runL (Gy s f) m39 v8=Qsf s f) (h:Qie s m39 v8):∃ j:Nat×Int,Qqu Qf s f v8 j.2 (Rh s f j∧j.1<i.1):=⟨(m39,v8),rfl,rfl,Imp.refl _,rfl,⟨e,h⟩,hl⟩
theorem Ujb (Qf:NetPrefix→Prop) (s:List NetPrefix) (f:NetPrefix→Bool) (h:(0:Int)≤0):Qqu Qf s f 0 0 (Rh s f (Ri s)):=⟨rfl,rfl,Imp.refl _,rfl,rfl,Nat.lt_succ_self _,h⟩
def S221 (R:Int) (s:List NetPrefix) (f:NetPrefix→Bool) (Qf:NetPrefix→Prop):Spec:=⟨[.r (.c (.l 2 Qe s)),.fn (Jv Qf f)],.v (vI R),(∀ k:Nat,k<s.length→Qf (s.getD k default))⟩
theorem ok221 (s:List NetPrefix) (f:NetPrefix→Bool) (Qf:NetPrefix→Prop):(S221 (F221 s f) s f Qf).ok Tryz.prog 221 false :=
 Qg mixed (fn:=Tryz.f221) (ct:=.seqk [(0,0)] .no (.seq (.seqk [(0,0)] .no (.blk (.loop (ι:=Nat×Int) (fun i=>(fun (v8:Int)=>(⟨[(0,some (.h 0 0)),(1,some (.h 1 0)),(7,some (.v (vI (s.length:Int)))),(8,some (.v (vI v8)))],[(0,some (.shr none (.l 2 Qe s))),(1,some (.fn (Jv Qf f)))],2⟩:St)) i.2) (Rh s f) (fun i=>i.1) (Ri s) (fun i=>(fun (v8:Int)=>(.seq .no (.seq (.cond .no .no) (.seq (.blk (.seq .no (.seq (.reg [(5,.fnv (Jv Qf f) (⟨(s.getD (Int.toNat v8) default).Addr,(s.getD (Int.toNat v8) default).Len⟩:NetPrefix))]) (.cond (.seq .no .no) .no)))) (.reg [(0,.bnd)]))))) i.2)))) (.seq .no .no))) Tryz.func221 (fun (hpre0:∀ k:Nat,k<s.length→Qf (s.getD k default))=>kn s fun _=>kn s fun _=>ai (Ujb Qf s f (by omega)) (fun (i0:Nat×Int) (hi0:Rh s f i0)=>(fun (m0:Nat) (v8:Int) (hh0:Quj s f i0 m0 v8)=>have hI0:=hh0.1; have hl0:=hh0.2.1; have _:=hh0.2.2.1; have _:=hh0.2.2.2; ifd (v8<(s.length:Int)) (fun h2 _=>ai (by omega:ib v8 s) (ai (Eq.refl (Jv Qf f)) (ai (Imps.pxH (ds:=Qe (⟨(s.getD (Int.toNat v8) default).Addr,(s.getD (Int.toNat v8) default).Len⟩:NetPrefix)) (hpre0 (Int.toNat v8) (by omega))) (ifb (f (⟨(s.getD (Int.toNat v8) default).Addr,(s.getD (Int.toNat v8) default).Len⟩:NetPrefix)) (fun h3=>fiI v8 (F221 s f) (finR (Qp hI0 (condT h2 (condT h3 rfl))) rfl)) (fun h3=>ai (iok (v8+1) (by omega)) (Ukl Qf s f i0 m0 (v8+1) hl0 (Qc hI0 (condT h2 (condF h3 rfl))) (by refine ⟨?_,?_⟩ <;> omega))))))) (fun h2 _=>have hD0_4:Qsf s f=Lp.done v8:=Qi hI0 (condF h2 rfl); fiI (-1) (F221 s f) (finD hD0_4 rfl))) (i0.1-1) i0.2 (Uli s f i0 hi0))) (by kernel_rfl)
theorem as221 (s:List NetPrefix) (f:NetPrefix→Bool):F221 s f=(idxI f s):=by
 exact Jn f s (Gy s f) (fun i=>rfl)
theorem oa221 (s:List NetPrefix) (f:NetPrefix→Bool) (Qf:NetPrefix→Prop):(S221 (idxI f s) s f Qf).ok Tryz.prog 221 false:=by
 intro hp; have h:=ok221 s f Qf hp; rw [as221 s f] at h; exact h
theorem g221_0 (s:List NetPrefix) (f:NetPrefix→Bool):(idxI f s)<(s.length:Int):=by
 exact Hi f s
theorem g221_1 (s:List NetPrefix) (f:NetPrefix→Bool):-1≤(idxI f s):=by
 (show -1≤idxI f s; unfold idxI; cases first (fun k=>f (s.getD k default)) s.length <;> simp only [oix] <;> omega)
theorem kc221a (s:List NetPrefix) (f:NetPrefix→Bool) (Qf:NetPrefix→Prop) {K_:Prop} (p0_:∀ k:Nat,k<s.length→Qf (s.getD k default)) (k_:((idxI f s)<(s.length:Int))→(-1≤(idxI f s))→K_):(∀ k:Nat,k<s.length→Qf (s.getD k default))∧(Imp (.l 2 Qe s) (.l 2 Qe s))∧(Jv Qf f=Jv Qf f)∧K_:=⟨p0_,Imp.refl _,rfl,k_ (g221_0 s f) (g221_1 s f)⟩
abbrev kh221a (s:List NetPrefix) (f:NetPrefix→Bool) (Qf:NetPrefix→Prop):Hint false Tryz.prog:=.call 221 (S221 (idxI f s) s f Qf) (oa221 s f Qf) none
def F197 (s:List NetPrefix) (f:NetPrefix→Bool):Bool :=
 decide ((idxI f s)≥0)
def S197 (R:Bool) (s:List NetPrefix) (f:NetPrefix→Bool) (Qf:NetPrefix→Prop):Spec:=⟨[.r (.c (.l 2 Qe s)),.fn (Jv Qf f)],.v (.bool R),(∀ k:Nat,k<s.length→Qf (s.getD k default))⟩
theorem ok197 (s:List NetPrefix) (f:NetPrefix→Bool) (Qf:NetPrefix→Prop):(S197 (F197 s f) s f Qf).ok Tryz.prog 197 false :=
 Qg mixed (fn:=Tryz.f197) (ct:=.seqk [(0,0)] .no (.seq (.reg [(2,kh221a s f Qf)]) .no)) Tryz.func197 (fun (hpre0:∀ k:Nat,k<s.length→Qf (s.getD k default))=>kn s fun _=>kc221a s f Qf (by assumption) (fun gv1 gv2=>fiB (decide ((idxI f s)≥0)) (F197 s f) rfl)) (by kernel_rfl)
theorem as197 (s:List NetPrefix) (f:NetPrefix→Bool):F197 s f=(s.any f):=by
 exact Qas f s
theorem oa197 (s:List NetPrefix) (f:NetPrefix→Bool) (Qf:NetPrefix→Prop):(S197 (s.any f) s f Qf).ok Tryz.prog 197 false:=by
 intro hp; have h:=ok197 s f Qf hp; rw [as197 s f] at h; exact h
def F196 (text:ByteArray) (p1:List NetPrefix):Bool :=
 (!(p1.any (fun (x0:NetPrefix)=>F198 x0 (F43 text))))
def S196 (text:ByteArray) (p1:List NetPrefix):Spec:=⟨[.r (.c (.v (.string text))),.rp ([.l 2 Qe p1])],.v (.bool (F196 text p1)),text.size≤1048576∧(∀ k:Nat,0≤(p1.getD k default).Len∧(p1.getD k default).Len≤16)⟩
theorem ok196 (text:ByteArray) (p1:List NetPrefix):(S196 text p1).ok Tryz.prog 196 false :=
 Qg mixed (fn:=Tryz.f196) (ct:=.seq .no (.seq (.reg [(1,kh43 text)]) (.seq (.reg [(2,.call 197 (S197 (p1.any (fun (x0:NetPrefix)=>F198 x0 (F43 text))) p1 (fun (x0:NetPrefix)=>F198 x0 (F43 text)) (fun (x0:NetPrefix)=>0≤x0.Len∧x0.Len≤16)) (oa197 p1 (fun (x0:NetPrefix)=>F198 x0 (F43 text)) (fun (x0:NetPrefix)=>0≤x0.Len∧x0.Len≤16)) (some ⟨true,198,Jv (fun (x0:NetPrefix)=>0≤x0.Len∧x0.Len≤16) (fun (x0:NetPrefix)=>F198 x0 (F43 text)),[.rp ([.v (vI (F43 text))])],rfl,True,fun i=>Qzo (ok198 i (F43 text))⟩))]) .no))) Tryz.func196 (fun (hp:text.size≤1048576∧(∀ k:Nat,0≤(p1.getD k default).Len∧(p1.getD k default).Len≤16))=>have hpre0:=hp.1; have hpre1:=hp.2; kc43 text (by omega) (ai (by exact fun k _=>hpre1 k:∀ k:Nat,k<p1.length→(fun (x0:NetPrefix)=>0≤x0.Len∧x0.Len≤16) (p1.getD k default)) (ai (Imp.refl (.l 2 Qe p1)) (ai (Eq.refl (Jv (fun (x0:NetPrefix)=>0≤x0.Len∧x0.Len≤16) (fun (x0:NetPrefix)=>F198 x0 (F43 text)))) (ai trivial (ai (Imps.refl [.v (vI (F43 text))]) (fiB (!(p1.any (fun (x0:NetPrefix)=>F198 x0 (F43 text)))) (F196 text p1) rfl))))))) (by kernel_rfl)
def Vj (lines:List ByteArray):(List ByteArray×Int)→Lp (List ByteArray×Int) Bool:=fun (addrs1,v13) =>
 bif (decide (v13<((Qa lines (⟨#[114,111,117,116,101]⟩:ByteArray)).length:Int))) then (.next ((addrs1++[(((Qa lines (⟨#[114,111,117,116,101]⟩:ByteArray)).getD (Int.toNat v13) default).getD (Int.toNat 2) default)]),(v13+1))) else (.done (addrs1,v13))
def Hd (lines:List ByteArray):Lp (List ByteArray) Bool :=
 (runL (Vj lines) ((Int.toNat (((Qa lines (⟨#[114,111,117,116,101]⟩:ByteArray)).length:Int)-0))+1) (([]:List ByteArray),0)).fin Lp.ret (fun (addrs1,v13)=>.done addrs1)
def Vw (lines:List ByteArray) (addrs:List ByteArray):(List ByteArray×Int)→Lp (List ByteArray×Int) Bool:=fun (addrs3,v27) =>
 bif (decide (v27<((Qa lines (⟨#[112,101,101,114]⟩:ByteArray)).length:Int))) then (.next ((addrs3++[(((Qa lines (⟨#[112,101,101,114]⟩:ByteArray)).getD (Int.toNat v27) default).getD (Int.toNat 1) default)]),(v27+1))) else (.done (addrs3,v27))
def Xr (lines:List ByteArray) (addrs:List ByteArray):Lp (List ByteArray) Bool :=
 (runL (Vw lines addrs) ((Int.toNat (((Qa lines (⟨#[112,101,101,114]⟩:ByteArray)).length:Int)-0))+1) (addrs,0)).fin Lp.ret (fun (addrs3,v27)=>.done addrs3)
def F165 (lines:List ByteArray):Bool :=
 (Hd lines).fin (fun r=>r) (fun addrs=>(Xr lines addrs).fin (fun r=>r) (fun addrs2=>(addrs2.any (fun (x0:ByteArray)=>F196 x0 (Qn lines)))))
abbrev Np (lines:List ByteArray):Nat×(List ByteArray×Int):=(((Int.toNat (((Qa lines (⟨#[114,111,117,116,101]⟩:ByteArray)).length:Int)-0))+1),(([]:List ByteArray),0))
abbrev Qje (lines:List ByteArray) (m39:Nat) (addrs1:List ByteArray) (v13:Int):Prop:=Int.toNat (((Qa lines (⟨#[114,111,117,116,101]⟩:ByteArray)).length:Int)-v13)<m39∧(addrs1.length:Int)≤v13∧v13≤((Qa lines (⟨#[114,111,117,116,101]⟩:ByteArray)).length:Int)∧(∀ k:Nat,(addrs1.getD k default).size≤1048576)∧(0:Int)≤v13
abbrev Qve (lines:List ByteArray):Lp (List ByteArray×Int) Bool:=LpX (Vj lines) (Np lines)
abbrev Px (lines:List ByteArray) (i:Nat×(List ByteArray×Int)):Prop:=LpJ (Vj lines) (Np lines) i (Qje lines i.1 i.2.1 i.2.2)
abbrev Qqm (lines:List ByteArray) (i:Nat×(List ByteArray×Int)) (m39:Nat) (addrs1:List ByteArray) (v13:Int):Prop:=LpH (Vj lines) (Np lines) i m39 (addrs1,v13) (Qje lines (m39+1) addrs1 v13)
abbrev Qrf (lines:List ByteArray) (addrs1:List ByteArray) (v13:Int) (addrs1_:List ByteArray) (v13_:Int) (K39:Prop):Prop:=(Rf (.int .i64 ((Qa lines (⟨#[114,111,117,116,101]⟩:ByteArray)).length:Int)))∧((.int .i64 v13:Value)=.int .i64 v13_)∧(Im (.l 1 eStr lines))∧(Imp (.l 1 eStr addrs1) (.l 1 eStr addrs1_))∧(Im (.l 1 (eL 1 eStr) (Qa lines (⟨#[114,111,117,116,101]⟩:ByteArray))))∧K39
theorem Ujc (lines:List ByteArray) (i:Nat×(List ByteArray×Int)) (h:Px lines i):Qqm lines i (i.1-1) i.2.1 i.2.2:=⟨hd1 h.1 h.2.1,hd3 h.2.1,hd2 h.2.1,h.2.2⟩
theorem Ugy (lines:List ByteArray) (i:Nat×(List ByteArray×Int)) (m39:Nat) (addrs1:List ByteArray) (v13:Int) (hl:m39<i.1) (e:runL (Vj lines) m39 (addrs1,v13)=Qve lines) (h:Qje lines m39 addrs1 v13):∃ j:Nat×(List ByteArray×Int),Qrf lines addrs1 v13 j.2.1 j.2.2 (Px lines j∧j.1<i.1):=⟨(m39,(addrs1,v13)),rfl,rfl,Imp.refl _,Imp.refl _,Imp.refl _,⟨e,h⟩,hl⟩
theorem Uip (lines:List ByteArray) (h:(([]:List ByteArray).length:Int)≤0∧0≤((Qa lines (⟨#[114,111,117,116,101]⟩:ByteArray)).length:Int)∧(∀ k:Nat,(([]:List ByteArray).getD k default).size≤1048576)∧(0:Int)≤0):Qrf lines ([]:List ByteArray) 0 ([]:List ByteArray) 0 (Px lines (Np lines)):=⟨rfl,rfl,Imp.refl _,Imp.refl _,Imp.refl _,rfl,Nat.lt_succ_self _,h⟩
abbrev Qki (lines:List ByteArray) (addrs:List ByteArray):Prop:=(addrs.length:Int)≤16∧(∀ k:Nat,(addrs.getD k default).size≤1048576)
abbrev Qjm (lines:List ByteArray) (j:List ByteArray):Prop:=(Hd lines)=Lp.done j∧Qki lines j
theorem Uhu (lines:List ByteArray) (addrs:List ByteArray) (e:(Hd lines)=Lp.done addrs) (h:Qki lines addrs):∃ j:List ByteArray,(Imp (.l 1 eStr lines) (.l 1 eStr lines))∧(Imp (.l 1 eStr addrs) (.l 1 eStr j))∧Qjm lines j:=⟨addrs,Imp.refl _,Imp.refl _,e,h⟩
abbrev Ml (lines:List ByteArray) (addrs:List ByteArray):Nat×(List ByteArray×Int):=(((Int.toNat (((Qa lines (⟨#[112,101,101,114]⟩:ByteArray)).length:Int)-0))+1),(addrs,0))
abbrev Qjt (lines:List ByteArray) (m39:Nat) (addrs3:List ByteArray) (v27:Int):Prop:=Int.toNat (((Qa lines (⟨#[112,101,101,114]⟩:ByteArray)).length:Int)-v27)<m39∧(addrs3.length:Int)≤16+v27∧v27≤((Qa lines (⟨#[112,101,101,114]⟩:ByteArray)).length:Int)∧(∀ k:Nat,(addrs3.getD k default).size≤1048576)∧(0:Int)≤v27
abbrev Qtk (lines:List ByteArray) (addrs:List ByteArray):Lp (List ByteArray×Int) Bool:=LpX (Vw lines addrs) (Ml lines addrs)
abbrev Pg (lines:List ByteArray) (addrs:List ByteArray) (i:Nat×(List ByteArray×Int)):Prop:=LpJ (Vw lines addrs) (Ml lines addrs) i (Qjt lines i.1 i.2.1 i.2.2)
abbrev Qul (lines:List ByteArray) (addrs:List ByteArray) (i:Nat×(List ByteArray×Int)) (m39:Nat) (addrs3:List ByteArray) (v27:Int):Prop:=LpH (Vw lines addrs) (Ml lines addrs) i m39 (addrs3,v27) (Qjt lines (m39+1) addrs3 v27)
abbrev Qvj (lines:List ByteArray) (addrs3:List ByteArray) (v27:Int) (addrs3_:List ByteArray) (v27_:Int) (K39:Prop):Prop:=(Rf (.int .i64 ((Qa lines (⟨#[112,101,101,114]⟩:ByteArray)).length:Int)))∧((.int .i64 v27:Value)=.int .i64 v27_)∧(Im (.l 1 eStr lines))∧(Imp (.l 1 eStr addrs3) (.l 1 eStr addrs3_))∧(Im (.l 1 (eL 1 eStr) (Qa lines (⟨#[112,101,101,114]⟩:ByteArray))))∧K39
theorem Ukf (lines:List ByteArray) (addrs:List ByteArray) (i:Nat×(List ByteArray×Int)) (h:Pg lines addrs i):Qul lines addrs i (i.1-1) i.2.1 i.2.2:=⟨hd1 h.1 h.2.1,hd3 h.2.1,hd2 h.2.1,h.2.2⟩
theorem Ugn (lines:List ByteArray) (addrs:List ByteArray) (i:Nat×(List ByteArray×Int)) (m39:Nat) (addrs3:List ByteArray) (v27:Int) (hl:m39<i.1) (e:runL (Vw lines addrs) m39 (addrs3,v27)=Qtk lines addrs) (h:Qjt lines m39 addrs3 v27):∃ j:Nat×(List ByteArray×Int),Qvj lines addrs3 v27 j.2.1 j.2.2 (Pg lines addrs j∧j.1<i.1):=⟨(m39,(addrs3,v27)),rfl,rfl,Imp.refl _,Imp.refl _,Imp.refl _,⟨e,h⟩,hl⟩
theorem Ugv (lines:List ByteArray) (addrs:List ByteArray) (h:(addrs.length:Int)≤16+0∧0≤((Qa lines (⟨#[112,101,101,114]⟩:ByteArray)).length:Int)∧(∀ k:Nat,(addrs.getD k default).size≤1048576)∧(0:Int)≤0):Qvj lines addrs 0 addrs 0 (Pg lines addrs (Ml lines addrs)):=⟨rfl,rfl,Imp.refl _,Imp.refl _,Imp.refl _,rfl,Nat.lt_succ_self _,h⟩
abbrev Qih (lines:List ByteArray) (addrs:List ByteArray) (addrs2:List ByteArray):Prop:=(addrs2.length:Int)≤32∧(∀ k:Nat,(addrs2.getD k default).size≤1048576)
abbrev Qjw (lines:List ByteArray) (addrs:List ByteArray) (j:List ByteArray):Prop:=(Xr lines addrs)=Lp.done j∧Qih lines addrs j
theorem Ufs (lines:List ByteArray) (addrs:List ByteArray) (addrs2:List ByteArray) (e:(Xr lines addrs)=Lp.done addrs2) (h:Qih lines addrs addrs2):∃ j:List ByteArray,(Imp (.l 1 eStr lines) (.l 1 eStr lines))∧(Imp (.l 1 eStr addrs2) (.l 1 eStr j))∧Qjw lines addrs j:=⟨addrs2,Imp.refl _,Imp.refl _,e,h⟩
def S165 (lines:List ByteArray):Spec:=⟨[.r (.c (.l 1 eStr lines))],.v (.bool (F165 lines)),F64 lines=0∧lines.length≤16∧(∀ k:Nat,(lines.getD k default).size≤1048576)⟩
theorem ok165 (lines:List ByteArray):(S165 lines).ok Tryz.prog 165 false :=
 Qg mixed (fn:=Tryz.f165) (ct:=.seqk [(0,0)] .no (.seq (.reg [(0,.dat (.l 1 eStr ([]:List ByteArray)))]) (.cut (ι:=List ByteArray) (fun j=>(fun (addrs:List ByteArray)=>(⟨[(0,some (.h 0 0)),(3,some (.h 1 0))],[(0,some (.shr none (.l 1 eStr lines))),(1,some (.own 1 (.l 1 eStr addrs)))],2⟩:St)) j) (Qjm lines) (.seqk [(3,0),(11,0)] (.reg [(1,Xw lines (⟨#[114,111,117,116,101]⟩:ByteArray))]) (.blk (.loop (ι:=Nat×(List ByteArray×Int)) (fun i=>(fun (addrs1:List ByteArray) (v13:Int)=>(⟨[(0,some (.h 0 0)),(3,some (.h 1 0)),(11,some (.h 2 0)),(12,some (.v (vI ((Qa lines (⟨#[114,111,117,116,101]⟩:ByteArray)).length:Int)))),(13,some (.v (vI v13)))],[(0,some (.shr none (.l 1 eStr lines))),(1,some (.own 1 (.l 1 eStr addrs1))),(2,some (.own 2 (.l 1 (eL 1 eStr) (Qa lines (⟨#[114,111,117,116,101]⟩:ByteArray)))))],3⟩:St)) i.2.1 i.2.2) (Px lines) (fun i=>i.1) (Np lines) (fun i=>(fun (addrs1:List ByteArray) (v13:Int)=>(.seq .no (.seq (.cond .no .no) (.seq (.blk (.seq .no (.reg [(5,.dat (.l 1 eStr (addrs1++[(((Qa lines (⟨#[114,111,117,116,101]⟩:ByteArray)).getD (Int.toNat v13) default).getD (Int.toNat 2) default)])))]))) (.reg [(0,.bnd)]))))) i.2.1 i.2.2)))) (fun j=>(fun (addrs:List ByteArray)=>(.cut (ι:=List ByteArray) (fun j=>(fun (addrs2:List ByteArray)=>(⟨[(0,some (.h 0 0)),(3,some (.h 1 0))],[(0,some (.shr none (.l 1 eStr lines))),(1,some (.own 1 (.l 1 eStr addrs2)))],2⟩:St)) j) (Qjw lines addrs) (.seqk [(3,0),(25,0)] (.reg [(1,Xw lines (⟨#[112,101,101,114]⟩:ByteArray))]) (.blk (.loop (ι:=Nat×(List ByteArray×Int)) (fun i=>(fun (addrs3:List ByteArray) (v27:Int)=>(⟨[(0,some (.h 0 0)),(3,some (.h 1 0)),(25,some (.h 2 0)),(26,some (.v (vI ((Qa lines (⟨#[112,101,101,114]⟩:ByteArray)).length:Int)))),(27,some (.v (vI v27)))],[(0,some (.shr none (.l 1 eStr lines))),(1,some (.own 1 (.l 1 eStr addrs3))),(2,some (.own 2 (.l 1 (eL 1 eStr) (Qa lines (⟨#[112,101,101,114]⟩:ByteArray)))))],3⟩:St)) i.2.1 i.2.2) (Pg lines addrs) (fun i=>i.1) (Ml lines addrs) (fun i=>(fun (addrs3:List ByteArray) (v27:Int)=>(.seq .no (.seq (.cond .no .no) (.seq (.blk (.seq .no (.reg [(5,.dat (.l 1 eStr (addrs3++[(((Qa lines (⟨#[112,101,101,114]⟩:ByteArray)).getD (Int.toNat v27) default).getD (Int.toNat 1) default)])))]))) (.reg [(0,.bnd)]))))) i.2.1 i.2.2)))) (fun j=>(fun (addrs2:List ByteArray)=>(.seq (.reg [(1,Uep lines)]) (.seq (.reg [(2,.call 186 (S186 (addrs2.any (fun (x0:ByteArray)=>F196 x0 (Qn lines))) addrs2 (fun (x0:ByteArray)=>F196 x0 (Qn lines)) (fun (x0:ByteArray)=>x0.size≤1048576∧(∀ k:Nat,0≤((Qn lines).getD k default).Len∧((Qn lines).getD k default).Len≤16))) (Qzg addrs2 (fun (x0:ByteArray)=>F196 x0 (Qn lines)) (fun (x0:ByteArray)=>x0.size≤1048576∧(∀ k:Nat,0≤((Qn lines).getD k default).Len∧((Qn lines).getD k default).Len≤16))) (some ⟨false,196,Yf (fun (x0:ByteArray)=>x0.size≤1048576∧(∀ k:Nat,0≤((Qn lines).getD k default).Len∧((Qn lines).getD k default).Len≤16)) (fun (x0:ByteArray)=>F196 x0 (Qn lines)),[.rp ([.l 2 Qe (Qn lines)])],rfl,True,fun i=>Bf (ok196 i (Qn lines))⟩))]) .no))) j))) j)))) Tryz.func165 (fun (hp:F64 lines=0∧lines.length≤16∧(∀ k:Nat,(lines.getD k default).size≤1048576))=>have hpre0:=hp.1; have hpre1:=hp.2.1; have hpre2:=hp.2.2; kn lines fun _=>ai (bokr 1 eStr ([]:List ByteArray) fun _=>rfl) (ai (Hy lines (⟨#[114,111,117,116,101]⟩:ByteArray) (by omega) (by assumption) (by omega) (fun gv1=>kn ([]:List ByteArray) fun _=>kn (Qa lines (⟨#[114,111,117,116,101]⟩:ByteArray)) fun _=>ai (Uip lines (by refine ⟨?_,?_,?_,?_⟩ <;> first | omega | (simp only [lens,ib] at*<;> omega) | exact Qnd (by assumption) (Yr lines _ (by first | omega | (simp only [lens,ib] at*<;> omega)) _ _) | exact Uet)) (fun (i0:Nat×(List ByteArray×Int)) (hi0:Px lines i0)=>(fun (m0:Nat) (addrs1:List ByteArray) (v13:Int) (hh0:Qqm lines i0 m0 addrs1 v13)=>have hI0:=hh0.1; have hl0:=hh0.2.1; have _:=hh0.2.2.1; have _:=hh0.2.2.2.1; have _:=hh0.2.2.2.2.1; have _:=hh0.2.2.2.2.2.1; have _:=hh0.2.2.2.2.2.2; ifd (v13<((Qa lines (⟨#[114,111,117,116,101]⟩:ByteArray)).length:Int)) (fun h3 _=>ai (by (omega):0≤v13∧v13<((Qa lines (⟨#[114,111,117,116,101]⟩:ByteArray)).length:Int)) (ai (by (have h9:=Udl lines (by omega) (Int.toNat v13) (by omega); unfold Xa at h9; omega):0≤(2:Int)∧(2:Int)<(((Qa lines (⟨#[114,111,117,116,101]⟩:ByteArray)).getD (Int.toNat v13) default).length:Int)) (ai (appr 1 eStr addrs1 [(((Qa lines (⟨#[114,111,117,116,101]⟩:ByteArray)).getD (Int.toNat v13) default).getD (Int.toNat 2) default)] fun _=>rfl) (ai (by (try simp only [lens]); omega:(addrs1++[(((Qa lines (⟨#[114,111,117,116,101]⟩:ByteArray)).getD (Int.toNat v13) default).getD (Int.toNat 2) default)]).length*16≤140737488355328) (ai (iok (v13+1) (by omega)) (Ugy lines i0 m0 (addrs1++[(((Qa lines (⟨#[114,111,117,116,101]⟩:ByteArray)).getD (Int.toNat v13) default).getD (Int.toNat 2) default)]) (v13+1) hl0 (Qc hI0 (condT h3 rfl)) (by refine ⟨?_,?_,?_,?_,?_⟩ <;> first | omega | (simp only [lens,ib] at*<;> omega) | exact Qnd (by assumption) (Yr lines _ (by first | omega | (simp only [lens,ib] at*<;> omega)) _ _) | exact Uet))))))) (fun h3 _=>have hD0_4:Qve lines=Lp.done (addrs1,v13):=Qi hI0 (condF h3 rfl); Uhu lines addrs1 (Eq.symm (finD hD0_4 rfl)) (by refine ⟨?_,?_⟩ <;> omega))) (i0.1-1) i0.2.1 i0.2.2 (Ujc lines i0 hi0)))) (fun (j:List ByteArray) (hj:Qjm lines j)=>(fun (addrs:List ByteArray) (hJ0_5:(Hd lines)=Lp.done addrs) (hw:Qki lines addrs)=>have _:=hw.1; have _:=hw.2; ai (Hy lines (⟨#[112,101,101,114]⟩:ByteArray) (by omega) (by assumption) (by omega) (fun gv6=>kn addrs fun _=>kn (Qa lines (⟨#[112,101,101,114]⟩:ByteArray)) fun _=>ai (Ugv lines addrs (by refine ⟨?_,?_,?_,?_⟩ <;> omega)) (fun (i1:Nat×(List ByteArray×Int)) (hi1:Pg lines addrs i1)=>(fun (m1:Nat) (addrs3:List ByteArray) (v27:Int) (hh1:Qul lines addrs i1 m1 addrs3 v27)=>have hI1:=hh1.1; have hl1:=hh1.2.1; have _:=hh1.2.2.1; have _:=hh1.2.2.2.1; have _:=hh1.2.2.2.2.1; have _:=hh1.2.2.2.2.2.1; have _:=hh1.2.2.2.2.2.2; ifd (v27<((Qa lines (⟨#[112,101,101,114]⟩:ByteArray)).length:Int)) (fun h8 _=>ai (by (omega):0≤v27∧v27<((Qa lines (⟨#[112,101,101,114]⟩:ByteArray)).length:Int)) (ai (by (have h9:=Ugo lines (by omega) (Int.toNat v27) (by omega); unfold Rt at h9; omega):0≤(1:Int)∧(1:Int)<(((Qa lines (⟨#[112,101,101,114]⟩:ByteArray)).getD (Int.toNat v27) default).length:Int)) (ai (appr 1 eStr addrs3 [(((Qa lines (⟨#[112,101,101,114]⟩:ByteArray)).getD (Int.toNat v27) default).getD (Int.toNat 1) default)] fun _=>rfl) (ai (by (try simp only [lens]); omega:(addrs3++[(((Qa lines (⟨#[112,101,101,114]⟩:ByteArray)).getD (Int.toNat v27) default).getD (Int.toNat 1) default)]).length*16≤140737488355328) (ai (iok (v27+1) (by omega)) (Ugn lines addrs i1 m1 (addrs3++[(((Qa lines (⟨#[112,101,101,114]⟩:ByteArray)).getD (Int.toNat v27) default).getD (Int.toNat 1) default)]) (v27+1) hl1 (Qc hI1 (condT h8 rfl)) (by refine ⟨?_,?_,?_,?_,?_⟩ <;> first | omega | (simp only [lens,ib] at*<;> omega) | exact Qnd (by assumption) (Yr lines _ (by first | omega | (simp only [lens,ib] at*<;> omega)) _ _) | assumption))))))) (fun h8 _=>have hD1_9:Qtk lines addrs=Lp.done (addrs3,v27):=Qi hI1 (condF h8 rfl); Ufs lines addrs addrs3 (Eq.symm (finD hD1_9 rfl)) (by refine ⟨?_,?_⟩ <;> omega))) (i1.1-1) i1.2.1 i1.2.2 (Ukf lines addrs i1 hi1)))) (fun (j:List ByteArray) (hj:Qjw lines addrs j)=>(fun (addrs2:List ByteArray) (hJ1_10:(Xr lines addrs)=Lp.done addrs2) (hw:Qih lines addrs addrs2)=>have _:=hw.1; have _:=hw.2; Qzv lines (by omega) (by omega) (by assumption) (ai (by exact fun k _=>⟨(by assumption:∀ k:Nat,(addrs2.getD k default).size≤1048576) k,Tn lines⟩:∀ k:Nat,k<addrs2.length→(fun (x0:ByteArray)=>x0.size≤1048576∧(∀ k:Nat,0≤((Qn lines).getD k default).Len∧((Qn lines).getD k default).Len≤16)) (addrs2.getD k default)) (ai (Imp.refl (.l 1 eStr addrs2)) (ai (Eq.refl (Yf (fun (x0:ByteArray)=>x0.size≤1048576∧(∀ k:Nat,0≤((Qn lines).getD k default).Len∧((Qn lines).getD k default).Len≤16)) (fun (x0:ByteArray)=>F196 x0 (Qn lines)))) (ai trivial (ai (Imps.refl [.l 2 Qe (Qn lines)]) (fiB (addrs2.any (fun (x0:ByteArray)=>F196 x0 (Qn lines))) (F165 lines) (finD hJ0_5 (finD hJ1_10 rfl))))))))) j hj.1 hj.2)) j hj.1 hj.2))) (by kernel_rfl)
theorem kg44 {K_:Prop} (c_ b_:Bool) (word:ByteArray) (p_:c_=b_→word.size≤1048576) (k_:K_):(c_=b_→word.size≤1048576)∧(c_=b_→Imp (.v (.string word)) (.v (.string word)))∧K_:=⟨p_,fun _=>Imp.refl _,k_⟩
def Vv (lines:List ByteArray) (v64:Int):Int→Lp Int Bool:=fun v89 =>
 bif (decide (v89<(((Qa lines (⟨#[100,111,111,114]⟩:ByteArray)).take (Int.toNat v64)).length:Int))) then (bif (bif (bif (((((Qa lines (⟨#[100,111,111,114]⟩:ByteArray)).take (Int.toNat v64)).getD (Int.toNat v89) default).getD (Int.toNat 1) default).toList==(((Qa lines (⟨#[100,111,111,114]⟩:ByteArray)).getD (Int.toNat v64) default).getD (Int.toNat 1) default).toList) then (((((Qa lines (⟨#[100,111,111,114]⟩:ByteArray)).take (Int.toNat v64)).getD (Int.toNat v89) default).getD (Int.toNat 3) default).toList==(((Qa lines (⟨#[100,111,111,114]⟩:ByteArray)).getD (Int.toNat v64) default).getD (Int.toNat 3) default).toList) else false) then (((((Qa lines (⟨#[100,111,111,114]⟩:ByteArray)).take (Int.toNat v64)).getD (Int.toNat v89) default).getD (Int.toNat 4) default).toList==(((Qa lines (⟨#[100,111,111,114]⟩:ByteArray)).getD (Int.toNat v64) default).getD (Int.toNat 4) default).toList) else false) then (.ret true) else (.next (v89+1))) else (.done v89)
def Vk (lines:List ByteArray):Int→Lp Int Bool:=fun v64 =>
 bif (decide (v64<((Qa lines (⟨#[100,111,111,114]⟩:ByteArray)).length:Int))) then (bif (bif (!(F199 ⟨(F83 (((Qa lines (⟨#[110,97,116]⟩:ByteArray)).getD (Int.toNat 0) default).getD (Int.toNat 1) default)).1.Addr,(F83 (((Qa lines (⟨#[110,97,116]⟩:ByteArray)).getD (Int.toNat 0) default).getD (Int.toNat 1) default)).1.Len⟩ (F43 (((Qa lines (⟨#[100,111,111,114]⟩:ByteArray)).getD (Int.toNat v64) default).getD (Int.toNat 3) default)))) then true else (decide ((F44 (((Qa lines (⟨#[110,97,116]⟩:ByteArray)).getD (Int.toNat 0) default).getD (Int.toNat 3) default))≤(F44 (((Qa lines (⟨#[100,111,111,114]⟩:ByteArray)).getD (Int.toNat v64) default).getD (Int.toNat 2) default))∧(F44 (((Qa lines (⟨#[100,111,111,114]⟩:ByteArray)).getD (Int.toNat v64) default).getD (Int.toNat 2) default))≤(F44 (((Qa lines (⟨#[110,97,116]⟩:ByteArray)).getD (Int.toNat 0) default).getD (Int.toNat 4) default))))) then (.ret true) else ((runL (Vv lines v64) ((Int.toNat ((((Qa lines (⟨#[100,111,111,114]⟩:ByteArray)).take (Int.toNat v64)).length:Int)-0))+1) 0).fin Lp.ret (fun v89=>.next (v64+1)))) else (.done v64)
def F166 (lines:List ByteArray):Bool :=
 bif (((Qa lines (⟨#[110,97,116]⟩:ByteArray)).length:Int)==0) then (decide (((Qa lines (⟨#[100,111,111,114]⟩:ByteArray)).length:Int)>0)) else (bif (bif (bif (F199 ⟨(F83 (((Qa lines (⟨#[110,97,116]⟩:ByteArray)).getD (Int.toNat 0) default).getD (Int.toNat 1) default)).1.Addr,(F83 (((Qa lines (⟨#[110,97,116]⟩:ByteArray)).getD (Int.toNat 0) default).getD (Int.toNat 1) default)).1.Len⟩ (F43 (((Qa lines (⟨#[110,97,116]⟩:ByteArray)).getD (Int.toNat 0) default).getD (Int.toNat 2) default))) then true else decide ((F44 (((Qa lines (⟨#[110,97,116]⟩:ByteArray)).getD (Int.toNat 0) default).getD (Int.toNat 3) default))>(F44 (((Qa lines (⟨#[110,97,116]⟩:ByteArray)).getD (Int.toNat 0) default).getD (Int.toNat 4) default)))) then true else decide (((Qa lines (⟨#[100,111,111,114]⟩:ByteArray)).length:Int)>6)) then true else ((runL (Vk lines) ((Int.toNat (((Qa lines (⟨#[100,111,111,114]⟩:ByteArray)).length:Int)-0))+1) 0).fin (fun r=>r) (fun v64=>false)))
abbrev Rl (lines:List ByteArray) (v64:Int):Nat×Int:=(((Int.toNat ((((Qa lines (⟨#[100,111,111,114]⟩:ByteArray)).take (Int.toNat v64)).length:Int)-0))+1),0)
abbrev Qhu (lines:List ByteArray) (v64:Int) (m39:Nat) (v89:Int):Prop:=Int.toNat ((((Qa lines (⟨#[100,111,111,114]⟩:ByteArray)).take (Int.toNat v64)).length:Int)-v89)<m39∧(0:Int)≤v89
abbrev Qsw (lines:List ByteArray) (v64:Int):Lp Int Bool:=LpX (Vv lines v64) (Rl lines v64)
abbrev Pd (lines:List ByteArray) (v64:Int) (i:Nat×Int):Prop:=LpJ (Vv lines v64) (Rl lines v64) i (Qhu lines v64 i.1 i.2)
abbrev Qsb (lines:List ByteArray) (v64:Int) (i:Nat×Int) (m39:Nat) (v89:Int):Prop:=LpH (Vv lines v64) (Rl lines v64) i m39 v89 (Qhu lines v64 (m39+1) v89)
abbrev Quy (lines:List ByteArray) (v64:Int) (v89:Int) (v89_:Int) (K39:Prop):Prop:=(Rf (.int .i64 (F44 (((Qa lines (⟨#[110,97,116]⟩:ByteArray)).getD (Int.toNat 0) default).getD (Int.toNat 3) default))))∧(Rf (.int .i64 (F44 (((Qa lines (⟨#[110,97,116]⟩:ByteArray)).getD (Int.toNat 0) default).getD (Int.toNat 4) default))))∧(Rf (.int .i64 ((Qa lines (⟨#[100,111,111,114]⟩:ByteArray)).length:Int)))∧(Rf (.int .i64 v64))∧(Rf (.int .i64 (((Qa lines (⟨#[100,111,111,114]⟩:ByteArray)).take (Int.toNat v64)).length:Int)))∧((.int .i64 v89:Value)=.int .i64 v89_)∧(Im (.l 1 (eL 1 eStr) (Qa lines (⟨#[100,111,111,114]⟩:ByteArray))))∧(Rf (.int .i64 (F83 (((Qa lines (⟨#[110,97,116]⟩:ByteArray)).getD (Int.toNat 0) default).getD (Int.toNat 1) default)).1.Addr))∧(Rf (.int .i64 (F83 (((Qa lines (⟨#[110,97,116]⟩:ByteArray)).getD (Int.toNat 0) default).getD (Int.toNat 1) default)).1.Len))∧(Im (.l 1 eStr ((Qa lines (⟨#[100,111,111,114]⟩:ByteArray)).getD (Int.toNat v64) default)))∧(Im (.l 1 (eL 1 eStr) ((Qa lines (⟨#[100,111,111,114]⟩:ByteArray)).take (Int.toNat v64))))∧K39
theorem Uhp (lines:List ByteArray) (v64:Int) (i:Nat×Int) (h:Pd lines v64 i):Qsb lines v64 i (i.1-1) i.2:=⟨hd1 h.1 h.2.1,hd3 h.2.1,hd2 h.2.1,h.2.2⟩
theorem Ukw (lines:List ByteArray) (v64:Int) (i:Nat×Int) (m39:Nat) (v89:Int) (hl:m39<i.1) (e:runL (Vv lines v64) m39 v89=Qsw lines v64) (h:Qhu lines v64 m39 v89):∃ j:Nat×Int,Quy lines v64 v89 j.2 (Pd lines v64 j∧j.1<i.1):=⟨(m39,v89),rfl,rfl,rfl,rfl,rfl,rfl,Imp.refl _,rfl,rfl,Imp.refl _,Imp.refl _,⟨e,h⟩,hl⟩
theorem Uft (lines:List ByteArray) (v64:Int) (h:(0:Int)≤0):Quy lines v64 0 0 (Pd lines v64 (Rl lines v64)):=⟨rfl,rfl,rfl,rfl,rfl,rfl,Imp.refl _,rfl,rfl,Imp.refl _,Imp.refl _,rfl,Nat.lt_succ_self _,h⟩
abbrev Pe (lines:List ByteArray):Nat×Int:=(((Int.toNat (((Qa lines (⟨#[100,111,111,114]⟩:ByteArray)).length:Int)-0))+1),0)
abbrev Qir (lines:List ByteArray) (m39:Nat) (v64:Int):Prop:=Int.toNat (((Qa lines (⟨#[100,111,111,114]⟩:ByteArray)).length:Int)-v64)<m39∧(0:Int)≤v64
abbrev Qum (lines:List ByteArray):Lp Int Bool:=LpX (Vk lines) (Pe lines)
abbrev Pz (lines:List ByteArray) (i:Nat×Int):Prop:=LpJ (Vk lines) (Pe lines) i (Qir lines i.1 i.2)
abbrev Qty (lines:List ByteArray) (i:Nat×Int) (m39:Nat) (v64:Int):Prop:=LpH (Vk lines) (Pe lines) i m39 v64 (Qir lines (m39+1) v64)
abbrev Qqq (lines:List ByteArray) (v64:Int) (v64_:Int) (K39:Prop):Prop:=(Rf (.int .i64 (F44 (((Qa lines (⟨#[110,97,116]⟩:ByteArray)).getD (Int.toNat 0) default).getD (Int.toNat 3) default))))∧(Rf (.int .i64 (F44 (((Qa lines (⟨#[110,97,116]⟩:ByteArray)).getD (Int.toNat 0) default).getD (Int.toNat 4) default))))∧(Rf (.int .i64 ((Qa lines (⟨#[100,111,111,114]⟩:ByteArray)).length:Int)))∧((.int .i64 v64:Value)=.int .i64 v64_)∧(Im (.l 1 (eL 1 eStr) (Qa lines (⟨#[100,111,111,114]⟩:ByteArray))))∧(Rf (.int .i64 (F83 (((Qa lines (⟨#[110,97,116]⟩:ByteArray)).getD (Int.toNat 0) default).getD (Int.toNat 1) default)).1.Addr))∧(Rf (.int .i64 (F83 (((Qa lines (⟨#[110,97,116]⟩:ByteArray)).getD (Int.toNat 0) default).getD (Int.toNat 1) default)).1.Len))∧K39
theorem Uho (lines:List ByteArray) (i:Nat×Int) (h:Pz lines i):Qty lines i (i.1-1) i.2:=⟨hd1 h.1 h.2.1,hd3 h.2.1,hd2 h.2.1,h.2.2⟩
theorem Uhe (lines:List ByteArray) (i:Nat×Int) (m39:Nat) (v64:Int) (hl:m39<i.1) (e:runL (Vk lines) m39 v64=Qum lines) (h:Qir lines m39 v64):∃ j:Nat×Int,Qqq lines v64 j.2 (Pz lines j∧j.1<i.1):=⟨(m39,v64),rfl,rfl,rfl,rfl,Imp.refl _,rfl,rfl,⟨e,h⟩,hl⟩
theorem Ukh (lines:List ByteArray) (h:(0:Int)≤0):Qqq lines 0 0 (Pz lines (Pe lines)):=⟨rfl,rfl,rfl,rfl,Imp.refl _,rfl,rfl,rfl,Nat.lt_succ_self _,h⟩
def S166 (lines:List ByteArray):Spec:=⟨[.r (.c (.l 1 eStr lines))],.v (.bool (F166 lines)),F64 lines=0∧lines.length≤16∧(∀ k:Nat,(lines.getD k default).size≤1048576)⟩
theorem ok166 (lines:List ByteArray):(S166 lines).ok Tryz.prog 166 false :=
 Qg mixed (fn:=Tryz.f166) (ct:=.seqk [(0,0)] .no (.seq (.reg [(1,Xw lines (⟨#[110,97,116]⟩:ByteArray)),(3,Xw lines (⟨#[100,111,111,114]⟩:ByteArray))]) (.seq (.seq .no (.cond (.seq .no .no) .no)) (.seq (.reg [(5,kh83 (((Qa lines (⟨#[110,97,116]⟩:ByteArray)).getD (Int.toNat 0) default).getD (Int.toNat 1) default))]) (.seq (.reg [(5,kh44 (((Qa lines (⟨#[110,97,116]⟩:ByteArray)).getD (Int.toNat 0) default).getD (Int.toNat 3) default)),(11,kh44 (((Qa lines (⟨#[110,97,116]⟩:ByteArray)).getD (Int.toNat 0) default).getD (Int.toNat 4) default))]) (.seq (.seq (.reg [(6,kh43 (((Qa lines (⟨#[110,97,116]⟩:ByteArray)).getD (Int.toNat 0) default).getD (Int.toNat 2) default)),(7,.call 199 (S199 (⟨(F83 (((Qa lines (⟨#[110,97,116]⟩:ByteArray)).getD (Int.toNat 0) default).getD (Int.toNat 1) default)).1.Addr,(F83 (((Qa lines (⟨#[110,97,116]⟩:ByteArray)).getD (Int.toNat 0) default).getD (Int.toNat 1) default)).1.Len⟩:NetPrefix) (F43 (((Qa lines (⟨#[110,97,116]⟩:ByteArray)).getD (Int.toNat 0) default).getD (Int.toNat 2) default))) ((Udp (⟨(F83 (((Qa lines (⟨#[110,97,116]⟩:ByteArray)).getD (Int.toNat 0) default).getD (Int.toNat 1) default)).1.Addr,(F83 (((Qa lines (⟨#[110,97,116]⟩:ByteArray)).getD (Int.toNat 0) default).getD (Int.toNat 1) default)).1.Len⟩:NetPrefix) (F43 (((Qa lines (⟨#[110,97,116]⟩:ByteArray)).getD (Int.toNat 0) default).getD (Int.toNat 2) default))).to false) none)]) (.cond (.seq .no .no) .no)) (.seq (.seqk [(4,0),(62,0)] .no (.blk (.loop (ι:=Nat×Int) (fun i=>(fun (v64:Int)=>(⟨[(4,some (.h 0 0)),(5,some (.p 1 0)),(7,some (.v (vI (F44 (((Qa lines (⟨#[110,97,116]⟩:ByteArray)).getD (Int.toNat 0) default).getD (Int.toNat 3) default))))),(8,some (.v (vI (F44 (((Qa lines (⟨#[110,97,116]⟩:ByteArray)).getD (Int.toNat 0) default).getD (Int.toNat 4) default))))),(62,some (.h 0 0)),(63,some (.v (vI ((Qa lines (⟨#[100,111,111,114]⟩:ByteArray)).length:Int)))),(64,some (.v (vI v64)))],[(0,some (.own 0 (.l 1 (eL 1 eStr) (Qa lines (⟨#[100,111,111,114]⟩:ByteArray))))),(1,some (.box 58 [.v (vI (F83 (((Qa lines (⟨#[110,97,116]⟩:ByteArray)).getD (Int.toNat 0) default).getD (Int.toNat 1) default)).1.Addr),.v (vI (F83 (((Qa lines (⟨#[110,97,116]⟩:ByteArray)).getD (Int.toNat 0) default).getD (Int.toNat 1) default)).1.Len)]))],2⟩:St)) i.2) (Pz lines) (fun i=>i.1) (Pe lines) (fun i=>(fun (v64:Int)=>(.seq .no (.seq (.cond .no .no) (.seq (.blk (.seq (.reg [(2,.sh)]) (.seq (.seq (.reg [(4,kh43 (((Qa lines (⟨#[100,111,111,114]⟩:ByteArray)).getD (Int.toNat v64) default).getD (Int.toNat 3) default)),(5,.call 199 (S199 (⟨(F83 (((Qa lines (⟨#[110,97,116]⟩:ByteArray)).getD (Int.toNat 0) default).getD (Int.toNat 1) default)).1.Addr,(F83 (((Qa lines (⟨#[110,97,116]⟩:ByteArray)).getD (Int.toNat 0) default).getD (Int.toNat 1) default)).1.Len⟩:NetPrefix) (F43 (((Qa lines (⟨#[100,111,111,114]⟩:ByteArray)).getD (Int.toNat v64) default).getD (Int.toNat 3) default))) ((Udp (⟨(F83 (((Qa lines (⟨#[110,97,116]⟩:ByteArray)).getD (Int.toNat 0) default).getD (Int.toNat 1) default)).1.Addr,(F83 (((Qa lines (⟨#[110,97,116]⟩:ByteArray)).getD (Int.toNat 0) default).getD (Int.toNat 1) default)).1.Len⟩:NetPrefix) (F43 (((Qa lines (⟨#[100,111,111,114]⟩:ByteArray)).getD (Int.toNat v64) default).getD (Int.toNat 3) default))).to false) none),(11,kh44 (((Qa lines (⟨#[100,111,111,114]⟩:ByteArray)).getD (Int.toNat v64) default).getD (Int.toNat 2) default)),(14,Qec (F44 (((Qa lines (⟨#[100,111,111,114]⟩:ByteArray)).getD (Int.toNat v64) default).getD (Int.toNat 2) default)) (F44 (((Qa lines (⟨#[110,97,116]⟩:ByteArray)).getD (Int.toNat 0) default).getD (Int.toNat 3) default)) (F44 (((Qa lines (⟨#[110,97,116]⟩:ByteArray)).getD (Int.toNat 0) default).getD (Int.toNat 4) default)))]) (.cond (.seq .no .no) .no)) (.seqk [(10,0),(87,0)] .no (.blk (.loop (ι:=Nat×Int) (fun i=>(fun (v89:Int)=>(⟨[(4,some (.h 0 0)),(5,some (.p 1 0)),(7,some (.v (vI (F44 (((Qa lines (⟨#[110,97,116]⟩:ByteArray)).getD (Int.toNat 0) default).getD (Int.toNat 3) default))))),(8,some (.v (vI (F44 (((Qa lines (⟨#[110,97,116]⟩:ByteArray)).getD (Int.toNat 0) default).getD (Int.toNat 4) default))))),(10,some (.h 2 0)),(62,some (.h 0 0)),(63,some (.v (vI ((Qa lines (⟨#[100,111,111,114]⟩:ByteArray)).length:Int)))),(64,some (.v (vI v64))),(87,some (.h 3 0)),(88,some (.v (vI (((Qa lines (⟨#[100,111,111,114]⟩:ByteArray)).take (Int.toNat v64)).length:Int)))),(89,some (.v (vI v89)))],[(0,some (.own 0 (.l 1 (eL 1 eStr) (Qa lines (⟨#[100,111,111,114]⟩:ByteArray))))),(1,some (.box 58 [.v (vI (F83 (((Qa lines (⟨#[110,97,116]⟩:ByteArray)).getD (Int.toNat 0) default).getD (Int.toNat 1) default)).1.Addr),.v (vI (F83 (((Qa lines (⟨#[110,97,116]⟩:ByteArray)).getD (Int.toNat 0) default).getD (Int.toNat 1) default)).1.Len)])),(2,some (.shr (some (0,0)) (.l 1 eStr ((Qa lines (⟨#[100,111,111,114]⟩:ByteArray)).getD (Int.toNat v64) default)))),(3,some (.shr (some (0,0)) (.l 1 (eL 1 eStr) ((Qa lines (⟨#[100,111,111,114]⟩:ByteArray)).take (Int.toNat v64)))))],4⟩:St)) i.2) (Pd lines v64) (fun i=>i.1) (Rl lines v64) (fun i=>(fun (v89:Int)=>(.seq .no (.seq (.cond .no .no) (.seq (.blk (.seq .no (.seq .no (.cond (.seq .no .no) .no)))) (.reg [(0,.bnd)]))))) i.2))))))) (.reg [(0,.bnd)]))))) i.2)))) (.seq .no .no)))))))) Tryz.func166 (fun (hp:F64 lines=0∧lines.length≤16∧(∀ k:Nat,(lines.getD k default).size≤1048576))=>have hpre0:=hp.1; have hpre1:=hp.2.1; have hpre2:=hp.2.2; kn lines fun _=>Hy lines (⟨#[110,97,116]⟩:ByteArray) (by omega) (by assumption) (by omega) (fun gv1=>Hy lines (⟨#[100,111,111,114]⟩:ByteArray) (by omega) (by assumption) (by omega) (fun gv2=>ife ((Qa lines (⟨#[110,97,116]⟩:ByteArray)).length:Int) 0 (fun h3 _=>fiB (decide (((Qa lines (⟨#[100,111,111,114]⟩:ByteArray)).length:Int)>0)) (F166 lines) (condT h3 rfl)) (fun h3 _=>ai (by (omega):0≤(0:Int)∧(0:Int)<((Qa lines (⟨#[110,97,116]⟩:ByteArray)).length:Int)) (ai (by (have h9:=Qjp lines (by omega) (Int.toNat 0) (by omega); unfold natP at h9; omega):0≤(1:Int)∧(1:Int)<(((Qa lines (⟨#[110,97,116]⟩:ByteArray)).getD (Int.toNat 0) default).length:Int)) (kc83 (((Qa lines (⟨#[110,97,116]⟩:ByteArray)).getD (Int.toNat 0) default).getD (Int.toNat 1) default) (by exact Yr lines _ (by omega) _ _) (ai (by (omega):0≤(0:Int)∧(0:Int)<((Qa lines (⟨#[110,97,116]⟩:ByteArray)).length:Int)) (ai (by (have h9:=Qjp lines (by omega) (Int.toNat 0) (by omega); unfold natP at h9; omega):0≤(3:Int)∧(3:Int)<(((Qa lines (⟨#[110,97,116]⟩:ByteArray)).getD (Int.toNat 0) default).length:Int)) (kc44 (((Qa lines (⟨#[110,97,116]⟩:ByteArray)).getD (Int.toNat 0) default).getD (Int.toNat 3) default) (by exact Yr lines _ (by omega) _ _) (ai (by (omega):0≤(0:Int)∧(0:Int)<((Qa lines (⟨#[110,97,116]⟩:ByteArray)).length:Int)) (ai (by (have h9:=Qjp lines (by omega) (Int.toNat 0) (by omega); unfold natP at h9; omega):0≤(4:Int)∧(4:Int)<(((Qa lines (⟨#[110,97,116]⟩:ByteArray)).getD (Int.toNat 0) default).length:Int)) (kc44 (((Qa lines (⟨#[110,97,116]⟩:ByteArray)).getD (Int.toNat 0) default).getD (Int.toNat 4) default) (by exact Yr lines _ (by omega) _ _) (ai (by (omega):0≤(0:Int)∧(0:Int)<((Qa lines (⟨#[110,97,116]⟩:ByteArray)).length:Int)) (ai (by (have h9:=Qjp lines (by omega) (Int.toNat 0) (by omega); unfold natP at h9; omega):0≤(2:Int)∧(2:Int)<(((Qa lines (⟨#[110,97,116]⟩:ByteArray)).getD (Int.toNat 0) default).length:Int)) (kc43 (((Qa lines (⟨#[110,97,116]⟩:ByteArray)).getD (Int.toNat 0) default).getD (Int.toNat 2) default) (by exact Yr lines _ (by omega) _ _) (ai (ai (by exact (Jt _).1:0≤(F83 (((Qa lines (⟨#[110,97,116]⟩:ByteArray)).getD (Int.toNat 0) default).getD (Int.toNat 1) default)).1.Len) (by exact (Jt _).2.1:(F83 (((Qa lines (⟨#[110,97,116]⟩:ByteArray)).getD (Int.toNat 0) default).getD (Int.toNat 1) default)).1.Len≤16)) (ai (Imps.refl (Qe (⟨(F83 (((Qa lines (⟨#[110,97,116]⟩:ByteArray)).getD (Int.toNat 0) default).getD (Int.toNat 1) default)).1.Addr,(F83 (((Qa lines (⟨#[110,97,116]⟩:ByteArray)).getD (Int.toNat 0) default).getD (Int.toNat 1) default)).1.Len⟩:NetPrefix))) (ai (Imp.refl (.v (vI (F43 (((Qa lines (⟨#[110,97,116]⟩:ByteArray)).getD (Int.toNat 0) default).getD (Int.toNat 2) default))))) (ifb (bif (bif (F199 ⟨(F83 (((Qa lines (⟨#[110,97,116]⟩:ByteArray)).getD (Int.toNat 0) default).getD (Int.toNat 1) default)).1.Addr,(F83 (((Qa lines (⟨#[110,97,116]⟩:ByteArray)).getD (Int.toNat 0) default).getD (Int.toNat 1) default)).1.Len⟩ (F43 (((Qa lines (⟨#[110,97,116]⟩:ByteArray)).getD (Int.toNat 0) default).getD (Int.toNat 2) default))) then true else decide ((F44 (((Qa lines (⟨#[110,97,116]⟩:ByteArray)).getD (Int.toNat 0) default).getD (Int.toNat 3) default))>(F44 (((Qa lines (⟨#[110,97,116]⟩:ByteArray)).getD (Int.toNat 0) default).getD (Int.toNat 4) default)))) then true else decide (((Qa lines (⟨#[100,111,111,114]⟩:ByteArray)).length:Int)>6)) (fun h4=>fiB true (F166 lines) (condF h3 (condT h4 rfl))) (fun h4=>have _:¬ (F44 (((Qa lines (⟨#[110,97,116]⟩:ByteArray)).getD (Int.toNat 0) default).getD (Int.toNat 3) default))>(F44 (((Qa lines (⟨#[110,97,116]⟩:ByteArray)).getD (Int.toNat 0) default).getD (Int.toNat 4) default)):=of_decide_eq_false (orF2 (orF1 h4)); have _:¬ ((Qa lines (⟨#[100,111,111,114]⟩:ByteArray)).length:Int)>6:=of_decide_eq_false (orF2 h4); kn (Qa lines (⟨#[100,111,111,114]⟩:ByteArray)) fun _=>kn (Qa lines (⟨#[100,111,111,114]⟩:ByteArray)) fun _=>ai (Ukh lines (by omega)) (fun (i0:Nat×Int) (hi0:Pz lines i0)=>(fun (m0:Nat) (v64:Int) (hh0:Qty lines i0 m0 v64)=>have hI0:=hh0.1; have hl0:=hh0.2.1; have _:=hh0.2.2.1; have _:=hh0.2.2.2; ifd (v64<((Qa lines (⟨#[100,111,111,114]⟩:ByteArray)).length:Int)) (fun h6 _=>ai (by (omega):0≤v64∧v64<((Qa lines (⟨#[100,111,111,114]⟩:ByteArray)).length:Int)) (ai (by (have h9:=Hf lines (by omega) (Int.toNat v64) (by omega); unfold Wr at h9; omega):0≤(3:Int)∧(3:Int)<(((Qa lines (⟨#[100,111,111,114]⟩:ByteArray)).getD (Int.toNat v64) default).length:Int)) (kc43 (((Qa lines (⟨#[100,111,111,114]⟩:ByteArray)).getD (Int.toNat v64) default).getD (Int.toNat 3) default) (by exact Yr lines _ (by omega) _ _) (ai (ai (by exact (Jt _).1:0≤(F83 (((Qa lines (⟨#[110,97,116]⟩:ByteArray)).getD (Int.toNat 0) default).getD (Int.toNat 1) default)).1.Len) (by exact (Jt _).2.1:(F83 (((Qa lines (⟨#[110,97,116]⟩:ByteArray)).getD (Int.toNat 0) default).getD (Int.toNat 1) default)).1.Len≤16)) (ai (Imps.refl (Qe (⟨(F83 (((Qa lines (⟨#[110,97,116]⟩:ByteArray)).getD (Int.toNat 0) default).getD (Int.toNat 1) default)).1.Addr,(F83 (((Qa lines (⟨#[110,97,116]⟩:ByteArray)).getD (Int.toNat 0) default).getD (Int.toNat 1) default)).1.Len⟩:NetPrefix))) (ai (Imp.refl (.v (vI (F43 (((Qa lines (⟨#[100,111,111,114]⟩:ByteArray)).getD (Int.toNat v64) default).getD (Int.toNat 3) default))))) (ai (fun k7:(!(F199 ⟨(F83 (((Qa lines (⟨#[110,97,116]⟩:ByteArray)).getD (Int.toNat 0) default).getD (Int.toNat 1) default)).1.Addr,(F83 (((Qa lines (⟨#[110,97,116]⟩:ByteArray)).getD (Int.toNat 0) default).getD (Int.toNat 1) default)).1.Len⟩ (F43 (((Qa lines (⟨#[100,111,111,114]⟩:ByteArray)).getD (Int.toNat v64) default).getD (Int.toNat 3) default))))=false=>(by (have h9:=Hf lines (by omega) (Int.toNat v64) (by omega); unfold Wr at h9; omega):0≤(2:Int)∧(2:Int)<(((Qa lines (⟨#[100,111,111,114]⟩:ByteArray)).getD (Int.toNat v64) default).length:Int))) (kg44 (!(F199 ⟨(F83 (((Qa lines (⟨#[110,97,116]⟩:ByteArray)).getD (Int.toNat 0) default).getD (Int.toNat 1) default)).1.Addr,(F83 (((Qa lines (⟨#[110,97,116]⟩:ByteArray)).getD (Int.toNat 0) default).getD (Int.toNat 1) default)).1.Len⟩ (F43 (((Qa lines (⟨#[100,111,111,114]⟩:ByteArray)).getD (Int.toNat v64) default).getD (Int.toNat 3) default)))) false (((Qa lines (⟨#[100,111,111,114]⟩:ByteArray)).getD (Int.toNat v64) default).getD (Int.toNat 2) default) (fun k8=>(by exact Yr lines _ (by omega) _ _)) (Qvy (!(F199 ⟨(F83 (((Qa lines (⟨#[110,97,116]⟩:ByteArray)).getD (Int.toNat 0) default).getD (Int.toNat 1) default)).1.Addr,(F83 (((Qa lines (⟨#[110,97,116]⟩:ByteArray)).getD (Int.toNat 0) default).getD (Int.toNat 1) default)).1.Len⟩ (F43 (((Qa lines (⟨#[100,111,111,114]⟩:ByteArray)).getD (Int.toNat v64) default).getD (Int.toNat 3) default)))) false (F44 (((Qa lines (⟨#[100,111,111,114]⟩:ByteArray)).getD (Int.toNat v64) default).getD (Int.toNat 2) default)) (F44 (((Qa lines (⟨#[110,97,116]⟩:ByteArray)).getD (Int.toNat 0) default).getD (Int.toNat 3) default)) (F44 (((Qa lines (⟨#[110,97,116]⟩:ByteArray)).getD (Int.toNat 0) default).getD (Int.toNat 4) default)) (ifb (bif (!(F199 ⟨(F83 (((Qa lines (⟨#[110,97,116]⟩:ByteArray)).getD (Int.toNat 0) default).getD (Int.toNat 1) default)).1.Addr,(F83 (((Qa lines (⟨#[110,97,116]⟩:ByteArray)).getD (Int.toNat 0) default).getD (Int.toNat 1) default)).1.Len⟩ (F43 (((Qa lines (⟨#[100,111,111,114]⟩:ByteArray)).getD (Int.toNat v64) default).getD (Int.toNat 3) default)))) then true else (decide ((F44 (((Qa lines (⟨#[110,97,116]⟩:ByteArray)).getD (Int.toNat 0) default).getD (Int.toNat 3) default))≤(F44 (((Qa lines (⟨#[100,111,111,114]⟩:ByteArray)).getD (Int.toNat v64) default).getD (Int.toNat 2) default))∧(F44 (((Qa lines (⟨#[100,111,111,114]⟩:ByteArray)).getD (Int.toNat v64) default).getD (Int.toNat 2) default))≤(F44 (((Qa lines (⟨#[110,97,116]⟩:ByteArray)).getD (Int.toNat 0) default).getD (Int.toNat 4) default))))) (fun h10=>fiB true (F166 lines) (condF h3 (condF h4 (finR (Qp hI0 (condT h6 (condT h10 rfl))) rfl)))) (fun h10=>have _:¬ ((F44 (((Qa lines (⟨#[110,97,116]⟩:ByteArray)).getD (Int.toNat 0) default).getD (Int.toNat 3) default))≤(F44 (((Qa lines (⟨#[100,111,111,114]⟩:ByteArray)).getD (Int.toNat v64) default).getD (Int.toNat 2) default))∧(F44 (((Qa lines (⟨#[100,111,111,114]⟩:ByteArray)).getD (Int.toNat v64) default).getD (Int.toNat 2) default))≤(F44 (((Qa lines (⟨#[110,97,116]⟩:ByteArray)).getD (Int.toNat 0) default).getD (Int.toNat 4) default))):=of_decide_eq_false (orF2 h10); ai (by omega:0≤(0:Int)∧(0:Int)≤v64∧v64≤((Qa lines (⟨#[100,111,111,114]⟩:ByteArray)).length:Int)) (kn ((Qa lines (⟨#[100,111,111,114]⟩:ByteArray)).getD (Int.toNat v64) default) fun _=>kn ((Qa lines (⟨#[100,111,111,114]⟩:ByteArray)).take (Int.toNat v64)) fun _=>ai (Uft lines v64 (by omega)) (fun (i1:Nat×Int) (hi1:Pd lines v64 i1)=>(fun (m1:Nat) (v89:Int) (hh1:Qsb lines v64 i1 m1 v89)=>have hI1:=hh1.1; have hl1:=hh1.2.1; have _:=hh1.2.2.1; have _:=hh1.2.2.2; ifd (v89<(((Qa lines (⟨#[100,111,111,114]⟩:ByteArray)).take (Int.toNat v64)).length:Int)) (fun h12 _=>ai (by (omega):0≤v89∧v89<(((Qa lines (⟨#[100,111,111,114]⟩:ByteArray)).take (Int.toNat v64)).length:Int)) (ai (by (have h9:=Qbg lines (by omega) (Int.toNat v64) (Int.toNat v89) (by omega); unfold Wr at h9; omega):0≤(1:Int)∧(1:Int)<((((Qa lines (⟨#[100,111,111,114]⟩:ByteArray)).take (Int.toNat v64)).getD (Int.toNat v89) default).length:Int)) (ai (by (have h9:=Hf lines (by omega) (Int.toNat v64) (by omega); unfold Wr at h9; omega):0≤(1:Int)∧(1:Int)<(((Qa lines (⟨#[100,111,111,114]⟩:ByteArray)).getD (Int.toNat v64) default).length:Int)) (ai (fun k13:(((((Qa lines (⟨#[100,111,111,114]⟩:ByteArray)).take (Int.toNat v64)).getD (Int.toNat v89) default).getD (Int.toNat 1) default).toList==(((Qa lines (⟨#[100,111,111,114]⟩:ByteArray)).getD (Int.toNat v64) default).getD (Int.toNat 1) default).toList)=true=>(by (have h9:=Qbg lines (by omega) (Int.toNat v64) (Int.toNat v89) (by omega); unfold Wr at h9; omega):0≤(3:Int)∧(3:Int)<((((Qa lines (⟨#[100,111,111,114]⟩:ByteArray)).take (Int.toNat v64)).getD (Int.toNat v89) default).length:Int))) (ai (fun k14:(((((Qa lines (⟨#[100,111,111,114]⟩:ByteArray)).take (Int.toNat v64)).getD (Int.toNat v89) default).getD (Int.toNat 1) default).toList==(((Qa lines (⟨#[100,111,111,114]⟩:ByteArray)).getD (Int.toNat v64) default).getD (Int.toNat 1) default).toList)=true=>(by (have h9:=Hf lines (by omega) (Int.toNat v64) (by omega); unfold Wr at h9; omega):0≤(3:Int)∧(3:Int)<(((Qa lines (⟨#[100,111,111,114]⟩:ByteArray)).getD (Int.toNat v64) default).length:Int))) (ai (fun k15:(bif (((((Qa lines (⟨#[100,111,111,114]⟩:ByteArray)).take (Int.toNat v64)).getD (Int.toNat v89) default).getD (Int.toNat 1) default).toList==(((Qa lines (⟨#[100,111,111,114]⟩:ByteArray)).getD (Int.toNat v64) default).getD (Int.toNat 1) default).toList) then (((((Qa lines (⟨#[100,111,111,114]⟩:ByteArray)).take (Int.toNat v64)).getD (Int.toNat v89) default).getD (Int.toNat 3) default).toList==(((Qa lines (⟨#[100,111,111,114]⟩:ByteArray)).getD (Int.toNat v64) default).getD (Int.toNat 3) default).toList) else false)=true=>have _:(((((Qa lines (⟨#[100,111,111,114]⟩:ByteArray)).take (Int.toNat v64)).getD (Int.toNat v89) default).getD (Int.toNat 1) default).toList==(((Qa lines (⟨#[100,111,111,114]⟩:ByteArray)).getD (Int.toNat v64) default).getD (Int.toNat 1) default).toList)=true:=(Ql k15); have _:(((((Qa lines (⟨#[100,111,111,114]⟩:ByteArray)).take (Int.toNat v64)).getD (Int.toNat v89) default).getD (Int.toNat 3) default).toList==(((Qa lines (⟨#[100,111,111,114]⟩:ByteArray)).getD (Int.toNat v64) default).getD (Int.toNat 3) default).toList)=true:=(Qw k15); (by (have h9:=Qbg lines (by omega) (Int.toNat v64) (Int.toNat v89) (by omega); unfold Wr at h9; omega):0≤(4:Int)∧(4:Int)<((((Qa lines (⟨#[100,111,111,114]⟩:ByteArray)).take (Int.toNat v64)).getD (Int.toNat v89) default).length:Int))) (ai (fun k16:(bif (((((Qa lines (⟨#[100,111,111,114]⟩:ByteArray)).take (Int.toNat v64)).getD (Int.toNat v89) default).getD (Int.toNat 1) default).toList==(((Qa lines (⟨#[100,111,111,114]⟩:ByteArray)).getD (Int.toNat v64) default).getD (Int.toNat 1) default).toList) then (((((Qa lines (⟨#[100,111,111,114]⟩:ByteArray)).take (Int.toNat v64)).getD (Int.toNat v89) default).getD (Int.toNat 3) default).toList==(((Qa lines (⟨#[100,111,111,114]⟩:ByteArray)).getD (Int.toNat v64) default).getD (Int.toNat 3) default).toList) else false)=true=>have _:(((((Qa lines (⟨#[100,111,111,114]⟩:ByteArray)).take (Int.toNat v64)).getD (Int.toNat v89) default).getD (Int.toNat 1) default).toList==(((Qa lines (⟨#[100,111,111,114]⟩:ByteArray)).getD (Int.toNat v64) default).getD (Int.toNat 1) default).toList)=true:=(Ql k16); have _:(((((Qa lines (⟨#[100,111,111,114]⟩:ByteArray)).take (Int.toNat v64)).getD (Int.toNat v89) default).getD (Int.toNat 3) default).toList==(((Qa lines (⟨#[100,111,111,114]⟩:ByteArray)).getD (Int.toNat v64) default).getD (Int.toNat 3) default).toList)=true:=(Qw k16); (by (have h9:=Hf lines (by omega) (Int.toNat v64) (by omega); unfold Wr at h9; omega):0≤(4:Int)∧(4:Int)<(((Qa lines (⟨#[100,111,111,114]⟩:ByteArray)).getD (Int.toNat v64) default).length:Int))) (ifb (bif (bif (((((Qa lines (⟨#[100,111,111,114]⟩:ByteArray)).take (Int.toNat v64)).getD (Int.toNat v89) default).getD (Int.toNat 1) default).toList==(((Qa lines (⟨#[100,111,111,114]⟩:ByteArray)).getD (Int.toNat v64) default).getD (Int.toNat 1) default).toList) then (((((Qa lines (⟨#[100,111,111,114]⟩:ByteArray)).take (Int.toNat v64)).getD (Int.toNat v89) default).getD (Int.toNat 3) default).toList==(((Qa lines (⟨#[100,111,111,114]⟩:ByteArray)).getD (Int.toNat v64) default).getD (Int.toNat 3) default).toList) else false) then (((((Qa lines (⟨#[100,111,111,114]⟩:ByteArray)).take (Int.toNat v64)).getD (Int.toNat v89) default).getD (Int.toNat 4) default).toList==(((Qa lines (⟨#[100,111,111,114]⟩:ByteArray)).getD (Int.toNat v64) default).getD (Int.toNat 4) default).toList) else false) (fun h17=>have _:(((((Qa lines (⟨#[100,111,111,114]⟩:ByteArray)).take (Int.toNat v64)).getD (Int.toNat v89) default).getD (Int.toNat 1) default).toList==(((Qa lines (⟨#[100,111,111,114]⟩:ByteArray)).getD (Int.toNat v64) default).getD (Int.toNat 1) default).toList)=true:=(Ql (Ql h17)); have _:(((((Qa lines (⟨#[100,111,111,114]⟩:ByteArray)).take (Int.toNat v64)).getD (Int.toNat v89) default).getD (Int.toNat 3) default).toList==(((Qa lines (⟨#[100,111,111,114]⟩:ByteArray)).getD (Int.toNat v64) default).getD (Int.toNat 3) default).toList)=true:=(Qw (Ql h17)); have _:(((((Qa lines (⟨#[100,111,111,114]⟩:ByteArray)).take (Int.toNat v64)).getD (Int.toNat v89) default).getD (Int.toNat 4) default).toList==(((Qa lines (⟨#[100,111,111,114]⟩:ByteArray)).getD (Int.toNat v64) default).getD (Int.toNat 4) default).toList)=true:=(Qw h17); fiB true (F166 lines) (condF h3 (condF h4 (finR (Qp hI0 (condT h6 (condF h10 (finR (Qp hI1 (condT h12 (condT h17 rfl))) rfl)))) rfl)))) (fun h17=>ai (iok (v89+1) (by omega)) (Ukw lines v64 i1 m1 (v89+1) hl1 (Qc hI1 (condT h12 (condF h17 rfl))) (by refine ⟨?_,?_⟩ <;> omega))))))))))) (fun h12 _=>have hD1_18:Qsw lines v64=Lp.done v89:=Qi hI1 (condF h12 rfl); ai (iok (v64+1) (by omega)) (Uhe lines i0 m0 (v64+1) hl0 (Qc hI0 (condT h6 (condF h10 (finD hD1_18 rfl)))) (by refine ⟨?_,?_⟩ <;> omega)))) (i1.1-1) i1.2 (Uhp lines v64 i1 hi1)))))))))))))) (fun h6 _=>have hD0_19:Qum lines=Lp.done v64:=Qi hI0 (condF h6 rfl); fiB false (F166 lines) (condF h3 (condF h4 (finD hD0_19 rfl))))) (i0.1-1) i0.2 (Uho lines i0 hi0)))))))))))))))))))))) (by kernel_rfl)
theorem kc77 (c:l52Cut) (k:Int) {K_:Prop} (p0_:0≤k) (k_:K_):(0≤k)∧(Imps (Qj c) (Qj c))∧(Imp (.v (vI k)) (.v (vI k)))∧K_:=⟨p0_,Imps.refl _,Imp.refl _,k_⟩
abbrev kh77 (c:l52Cut) (k:Int):Hint true Tryz.prog:=.call 77 (S77 c k) (ok77 c k) none
theorem kg77 {K_:Prop} (c_ b_:Bool) (c:l52Cut) (k:Int) (p_:c_=b_→0≤k) (k_:K_):(c_=b_→0≤k)∧(c_=b_→Imps (Qj c) (Qj c))∧(c_=b_→Imp (.v (vI k)) (.v (vI k)))∧K_:=⟨p_,fun _=>Imps.refl _,fun _=>Imp.refl _,k_⟩
def Gn (all:List l52Cut):Int→Lp Int Bool:=fun i40 =>
 bif (decide (i40<(all.length:Int))) then (bif (bif ((F77 (all.getD (Int.toNat i40) default) 0).toList==(⟨#[117,115,101,114]⟩:ByteArray).toList) then ((F77 (all.getD (Int.toNat i40) default) 2).toList==(⟨#[97,108,108]⟩:ByteArray).toList) else false) then (.ret true) else (.next (i40+1))) else (.done i40)
def F66 (all:List l52Cut):Bool :=
 (runL (Gn all) ((Int.toNat ((all.length:Int)-0))+1) 0).fin (fun r=>r) (fun i40=>false)
abbrev Qdf (all:List l52Cut):Nat×Int:=(((Int.toNat ((all.length:Int)-0))+1),0)
abbrev Qnx (all:List l52Cut) (m39:Nat) (i40:Int):Prop:=Int.toNat ((all.length:Int)-i40)<m39∧(0:Int)≤i40
abbrev Qzk (all:List l52Cut):Lp Int Bool:=LpX (Gn all) (Qdf all)
abbrev Qcb (all:List l52Cut) (i:Nat×Int):Prop:=LpJ (Gn all) (Qdf all) i (Qnx all i.1 i.2)
abbrev Ufn (all:List l52Cut) (i:Nat×Int) (m39:Nat) (i40:Int):Prop:=LpH (Gn all) (Qdf all) i m39 i40 (Qnx all (m39+1) i40)
abbrev Ucc (all:List l52Cut) (i40:Int) (i40_:Int) (K39:Prop):Prop:=((.int .i64 i40:Value)=.int .i64 i40_)∧(Im (.l 1 Qj all))∧K39
theorem un66_0 (all:List l52Cut) (i:Nat×Int) (h:Qcb all i):Ufn all i (i.1-1) i.2:=⟨hd1 h.1 h.2.1,hd3 h.2.1,hd2 h.2.1,h.2.2⟩
theorem bk66_0 (all:List l52Cut) (i:Nat×Int) (m39:Nat) (i40:Int) (hl:m39<i.1) (e:runL (Gn all) m39 i40=Qzk all) (h:Qnx all m39 i40):∃ j:Nat×Int,Ucc all i40 j.2 (Qcb all j∧j.1<i.1):=⟨(m39,i40),rfl,Imp.refl _,⟨e,h⟩,hl⟩
theorem en66_0 (all:List l52Cut) (h:(0:Int)≤0):Ucc all 0 0 (Qcb all (Qdf all)):=⟨rfl,Imp.refl _,rfl,Nat.lt_succ_self _,h⟩
def S66 (all:List l52Cut):Spec:=⟨[.r (.c (.l 1 Qj all))],.v (.bool (F66 all)),True⟩
theorem ok66 (all:List l52Cut):(S66 all).ok Tryz.prog 66 :=
 Qg mixed (fn:=Tryz.f66) (ct:=.seqk [(0,0)] .no (.seq (.seqk [(0,0)] .no (.blk (.loop (ι:=Nat×Int) (fun i=>(fun (i40:Int)=>(⟨[(0,some (.h 0 0)),(3,some (.v (vI i40)))],[(0,some (.shr none (.l 1 Qj all)))],1⟩:St)) i.2) (Qcb all) (fun i=>i.1) (Qdf all) (fun i=>(fun (i40:Int)=>(.seq (.seq .no (.cond .no .no)) (.seq (.blk (.seq (.reg [(4,kh77 (all.getD (Int.toNat i40) default) 0),(11,kh77 (all.getD (Int.toNat i40) default) 2)]) (.cond (.seq .no .no) .no))) (.reg [(1,.bnd)])))) i.2)))) (.seq .no .no))) Tryz.func66 (fun (_:True)=>kn all fun _=>kn all fun _=>ai (en66_0 all (by omega)) (fun (i0:Nat×Int) (hi0:Qcb all i0)=>(fun (m0:Nat) (i40:Int) (hh0:Ufn all i0 m0 i40)=>have hI0:=hh0.1; have hl0:=hh0.2.1; have _:=hh0.2.2.1; have _:=hh0.2.2.2; ifd (i40<(all.length:Int)) (fun h2 _=>ai (by omega:ib i40 all) (kc77 (all.getD (Int.toNat i40) default) 0 (by omega) (ai (fun k3:((F77 (all.getD (Int.toNat i40) default) 0).toList==w10_.toList)=true=>(by omega:ib i40 all)) (kg77 ((F77 (all.getD (Int.toNat i40) default) 0).toList==w10_.toList) true (all.getD (Int.toNat i40) default) 2 (fun k4=>(by omega)) (ifb (bif ((F77 (all.getD (Int.toNat i40) default) 0).toList==w10_.toList) then ((F77 (all.getD (Int.toNat i40) default) 2).toList==w11_.toList) else false) (fun h5=>have _:((F77 (all.getD (Int.toNat i40) default) 0).toList==w10_.toList)=true:=(Ql h5); have _:((F77 (all.getD (Int.toNat i40) default) 2).toList==w11_.toList)=true:=(Qw h5); fiB true (F66 all) (finR (Qp hI0 (condT h2 (condT h5 rfl))) rfl)) (fun h5=>ai (iok (i40+1) (by omega)) (bk66_0 all i0 m0 (i40+1) hl0 (Qc hI0 (condT h2 (condF h5 rfl))) (by refine ⟨?_,?_⟩ <;> omega)))))))) (fun h2 _=>have hD0_6:Qzk all=Lp.done i40:=Qi hI0 (condF h2 rfl); fiB false (F66 all) (finD hD0_6 rfl))) (i0.1-1) i0.2 (un66_0 all i0 hi0))) (by kernel_rfl)
def Gb (all:List l52Cut) (name:ByteArray):(Int×Int)→Lp (Int×Int) Int:=fun (n,i40) =>
 bif (decide (i40<(all.length:Int))) then (bif (bif ((F77 (all.getD (Int.toNat i40) default) 0).toList==(⟨#[114,117,108,101]⟩:ByteArray).toList) then ((F77 (all.getD (Int.toNat i40) default) 1).toList==name.toList) else false) then (.next ((n+1),(i40+1))) else (.next (n,(i40+1)))) else (.done (n,i40))
def F98 (all:List l52Cut) (name:ByteArray):Int :=
 (runL (Gb all name) ((Int.toNat ((all.length:Int)-0))+1) (0,0)).fin (fun r=>r) (fun (n,i40)=>n)
abbrev Qeh (all:List l52Cut):Nat×(Int×Int):=(((Int.toNat ((all.length:Int)-0))+1),(0,0))
abbrev Qoe (all:List l52Cut) (m39:Nat) (n:Int) (i40:Int):Prop:=Int.toNat ((all.length:Int)-i40)<m39∧(0:Int)≤n∧(n:Int)≤i40∧(0:Int)≤n∧(0:Int)≤i40
abbrev Uel (all:List l52Cut) (name:ByteArray):Lp (Int×Int) Int:=LpX (Gb all name) (Qeh all)
abbrev Qcm (all:List l52Cut) (name:ByteArray) (i:Nat×(Int×Int)):Prop:=LpJ (Gb all name) (Qeh all) i (Qoe all i.1 i.2.1 i.2.2)
abbrev Udj (all:List l52Cut) (name:ByteArray) (i:Nat×(Int×Int)) (m39:Nat) (n:Int) (i40:Int):Prop:=LpH (Gb all name) (Qeh all) i m39 (n,i40) (Qoe all (m39+1) n i40)
abbrev Uam (all:List l52Cut) (name:ByteArray) (n:Int) (i40:Int) (n_:Int) (i40_:Int) (K39:Prop):Prop:=(Rf (.string name))∧((.int .i64 n:Value)=.int .i64 n_)∧((.int .i64 i40:Value)=.int .i64 i40_)∧(Im (.l 1 Qj all))∧K39
theorem un98_0 (all:List l52Cut) (name:ByteArray) (i:Nat×(Int×Int)) (h:Qcm all name i):Udj all name i (i.1-1) i.2.1 i.2.2:=⟨hd1 h.1 h.2.1,hd3 h.2.1,hd2 h.2.1,h.2.2⟩
theorem Qys (all:List l52Cut) (name:ByteArray) (i:Nat×(Int×Int)) (m39:Nat) (n:Int) (i40:Int) (hl:m39<i.1) (e:runL (Gb all name) m39 (n,i40)=Uel all name) (h:Qoe all m39 n i40):∃ j:Nat×(Int×Int),Uam all name n i40 j.2.1 j.2.2 (Qcm all name j∧j.1<i.1):=⟨(m39,(n,i40)),rfl,rfl,rfl,Imp.refl _,⟨e,h⟩,hl⟩
theorem en98_0 (all:List l52Cut) (name:ByteArray) (h:(0:Int)≤0∧(0:Int)≤0∧(0:Int)≤0∧(0:Int)≤0):Uam all name 0 0 0 0 (Qcm all name (Qeh all)):=⟨rfl,rfl,rfl,Imp.refl _,rfl,Nat.lt_succ_self _,h⟩
def S98 (all:List l52Cut) (name:ByteArray):Spec:=⟨[.r (.c (.l 1 Qj all)),.r (.c (.v (.string name)))],.v (vI (F98 all name)),True⟩
theorem ok98 (all:List l52Cut) (name:ByteArray):(S98 all name).ok Tryz.prog 98 :=
 Qg mixed (fn:=Tryz.f98) (ct:=.seqk [(0,0)] .no (.seq .no (.seq (.seqk [(0,0)] .no (.blk (.loop (ι:=Nat×(Int×Int)) (fun i=>(fun (n:Int) (i40:Int)=>(⟨[(0,some (.h 0 0)),(1,some (.v (.string name))),(5,some (.v (vI n))),(6,some (.v (vI i40)))],[(0,some (.shr none (.l 1 Qj all)))],1⟩:St)) i.2.1 i.2.2) (Qcm all name) (fun i=>i.1) (Qeh all) (fun i=>(fun (n:Int) (i40:Int)=>(.seq (.seq .no (.cond .no .no)) (.seq (.blk (.seq (.reg [(4,kh77 (all.getD (Int.toNat i40) default) 0),(11,kh77 (all.getD (Int.toNat i40) default) 1)]) (.cond (.reg [(1,.bnd)]) .no))) (.reg [(1,.bnd)])))) i.2.1 i.2.2)))) (.seq .no .no)))) Tryz.func98 (fun (_:True)=>kn all fun _=>kn all fun _=>ai (en98_0 all name (by refine ⟨?_,?_,?_,?_⟩ <;> omega)) (fun (i0:Nat×(Int×Int)) (hi0:Qcm all name i0)=>(fun (m0:Nat) (n:Int) (i40:Int) (hh0:Udj all name i0 m0 n i40)=>have hI0:=hh0.1; have hl0:=hh0.2.1; have _:=hh0.2.2.1; have _:=hh0.2.2.2; ifd (i40<(all.length:Int)) (fun h2 _=>ai (by omega:ib i40 all) (kc77 (all.getD (Int.toNat i40) default) 0 (by omega) (ai (fun k3:((F77 (all.getD (Int.toNat i40) default) 0).toList==w9_.toList)=true=>(by omega:ib i40 all)) (kg77 ((F77 (all.getD (Int.toNat i40) default) 0).toList==w9_.toList) true (all.getD (Int.toNat i40) default) 1 (fun k4=>(by omega)) (ifb (bif ((F77 (all.getD (Int.toNat i40) default) 0).toList==w9_.toList) then ((F77 (all.getD (Int.toNat i40) default) 1).toList==name.toList) else false) (fun h5=>have _:((F77 (all.getD (Int.toNat i40) default) 0).toList==w9_.toList)=true:=(Ql h5); have _:=(Qw h5); ai (iok (n+1) (by omega)) (ai (iok (i40+1) (by omega)) (Qys all name i0 m0 (n+1) (i40+1) hl0 (Qc hI0 (condT h2 (condT h5 rfl))) (by refine ⟨?_,?_,?_,?_,?_⟩ <;> omega)))) (fun h5=>ai (iok (i40+1) (by omega)) (Qys all name i0 m0 n (i40+1) hl0 (Qc hI0 (condT h2 (condF h5 rfl))) (by refine ⟨?_,?_,?_,?_,?_⟩ <;> omega)))))))) (fun h2 _=>have hD0_6:Uel all name=Lp.done (n,i40):=Qi hI0 (condF h2 rfl); fiI n (F98 all name) (finD hD0_6 rfl))) (i0.1-1) i0.2.1 i0.2.2 (un98_0 all name i0 hi0))) (by kernel_rfl)
theorem kg98 {K_:Prop} (c_ b_:Bool) (all:List l52Cut) (name:ByteArray) (k_:K_):(c_=b_→True)∧(c_=b_→Imp (.l 1 Qj all) (.l 1 Qj all))∧(c_=b_→Imp (.v (.string name)) (.v (.string name)))∧K_:=⟨fun _=>trivial,fun _=>Imp.refl _,fun _=>Imp.refl _,k_⟩
abbrev kh98 (all:List l52Cut) (name:ByteArray):Hint true Tryz.prog:=.call 98 (S98 all name) (ok98 all name) none
def Ga (all:List l52Cut):Int→Lp Int Bool:=fun i40 =>
 bif (decide (i40<(all.length:Int))) then (bif (bif (bif ((F77 (all.getD (Int.toNat i40) default) 0).toList==(⟨#[112,111,114,116]⟩:ByteArray).toList) then (!((F77 (all.getD (Int.toNat i40) default) 4).toList==(⟨#[]⟩:ByteArray).toList)) else false) then ((F98 all (F77 (all.getD (Int.toNat i40) default) 4))==0) else false) then (.ret false) else (bif (bif ((F77 (all.getD (Int.toNat i40) default) 0).toList==(⟨#[114,117,108,101]⟩:ByteArray).toList) then decide ((F98 all (F77 (all.getD (Int.toNat i40) default) 1))>12) else false) then (.ret false) else (.next (i40+1)))) else (.done i40)
def F67 (all:List l52Cut):Bool :=
 (runL (Ga all) ((Int.toNat ((all.length:Int)-0))+1) 0).fin (fun r=>r) (fun i40=>true)
abbrev Qck (all:List l52Cut):Nat×Int:=(((Int.toNat ((all.length:Int)-0))+1),0)
abbrev Qpq (all:List l52Cut) (m39:Nat) (i40:Int):Prop:=Int.toNat ((all.length:Int)-i40)<m39∧(0:Int)≤i40
abbrev Ubl (all:List l52Cut):Lp Int Bool:=LpX (Ga all) (Qck all)
abbrev Qcd (all:List l52Cut) (i:Nat×Int):Prop:=LpJ (Ga all) (Qck all) i (Qpq all i.1 i.2)
abbrev Qya (all:List l52Cut) (i:Nat×Int) (m39:Nat) (i40:Int):Prop:=LpH (Ga all) (Qck all) i m39 i40 (Qpq all (m39+1) i40)
abbrev Qxx (all:List l52Cut) (i40:Int) (i40_:Int) (K39:Prop):Prop:=((.int .i64 i40:Value)=.int .i64 i40_)∧(Im (.l 1 Qj all))∧K39
theorem un67_0 (all:List l52Cut) (i:Nat×Int) (h:Qcd all i):Qya all i (i.1-1) i.2:=⟨hd1 h.1 h.2.1,hd3 h.2.1,hd2 h.2.1,h.2.2⟩
theorem bk67_0 (all:List l52Cut) (i:Nat×Int) (m39:Nat) (i40:Int) (hl:m39<i.1) (e:runL (Ga all) m39 i40=Ubl all) (h:Qpq all m39 i40):∃ j:Nat×Int,Qxx all i40 j.2 (Qcd all j∧j.1<i.1):=⟨(m39,i40),rfl,Imp.refl _,⟨e,h⟩,hl⟩
theorem en67_0 (all:List l52Cut) (h:(0:Int)≤0):Qxx all 0 0 (Qcd all (Qck all)):=⟨rfl,Imp.refl _,rfl,Nat.lt_succ_self _,h⟩
def S67 (all:List l52Cut):Spec:=⟨[.r (.c (.l 1 Qj all))],.v (.bool (F67 all)),True⟩
abbrev Uo (all:List l52Cut) (i40:Int):=(all.getD (Int.toNat i40) default)
theorem ok67 (all:List l52Cut):(S67 all).ok Tryz.prog 67 :=
 Qg mixed (fn:=Tryz.f67) (ct:=.seqk [(0,0)] .no (.seq (.seqk [(0,0)] .no (.blk (.loop (ι:=Nat×Int) (fun i=>(fun (i40:Int)=>(⟨[(0,some (.h 0 0)),(3,some (.v (vI i40)))],[(0,some (.shr none (.l 1 Qj all)))],1⟩:St)) i.2) (Qcd all) (fun i=>i.1) (Qck all) (fun i=>(fun (i40:Int)=>(.seq (.seq .no (.cond .no .no)) (.seq (.blk (.seq (.seq (.reg [(4,kh77 (Uo all i40) 0),(11,kh77 (Uo all i40) 4),(20,kh77 (Uo all i40) 4),(21,kh98 all (F77 (Uo all i40) 4))]) (.cond (.seq .no .no) .no)) (.seq (.reg [(4,kh77 (Uo all i40) 0),(12,kh77 (Uo all i40) 1),(13,kh98 all (F77 (Uo all i40) 1))]) (.cond (.seq .no .no) .no)))) (.reg [(1,.bnd)])))) i.2)))) (.seq .no .no))) Tryz.func67 (fun (_:True)=>kn all fun _=>kn all fun _=>ai (en67_0 all (by omega)) (fun (i0:Nat×Int) (hi0:Qcd all i0)=>(fun (m0:Nat) (i40:Int) (hh0:Qya all i0 m0 i40)=>have hI0:=hh0.1; have hl0:=hh0.2.1; have _:=hh0.2.2.1; have _:=hh0.2.2.2; ifd (i40<(all.length:Int)) (fun h2 _=>ai (by omega:ib i40 all) (kc77 (Uo all i40) 0 (by omega) (ai (fun k3:((F77 (Uo all i40) 0).toList==w7_.toList)=true=>(by omega:ib i40 all)) (kg77 ((F77 (Uo all i40) 0).toList==w7_.toList) true (Uo all i40) 4 (fun k4=>(by omega)) (ai (fun k5:(bif ((F77 (Uo all i40) 0).toList==w7_.toList) then (!((F77 (Uo all i40) 4).toList==w13_.toList)) else false)=true=>have _:((F77 (Uo all i40) 0).toList==w7_.toList)=true:=(Ql k5); have _:(!((F77 (Uo all i40) 4).toList==w13_.toList))=true:=(Qw k5); (by omega:ib i40 all)) (kg77 (bif ((F77 (Uo all i40) 0).toList==w7_.toList) then (!((F77 (Uo all i40) 4).toList==w13_.toList)) else false) true (Uo all i40) 4 (fun k6=>have _:((F77 (Uo all i40) 0).toList==w7_.toList)=true:=(Ql k6); have _:(!((F77 (Uo all i40) 4).toList==w13_.toList))=true:=(Qw k6); (by omega)) (kg98 (bif ((F77 (Uo all i40) 0).toList==w7_.toList) then (!((F77 (Uo all i40) 4).toList==w13_.toList)) else false) true all (F77 (Uo all i40) 4) (ifb (bif (bif ((F77 (Uo all i40) 0).toList==w7_.toList) then (!((F77 (Uo all i40) 4).toList==w13_.toList)) else false) then ((F98 all (F77 (Uo all i40) 4))==0) else false) (fun h8=>have _:((F77 (Uo all i40) 0).toList==w7_.toList)=true:=(Ql (Ql h8)); have _:(!((F77 (Uo all i40) 4).toList==w13_.toList))=true:=(Qw (Ql h8)); have _:=eq_of_beq (Qw h8); fiB false (F67 all) (finR (Qp hI0 (condT h2 (condT h8 rfl))) rfl)) (fun h8=>ai (by omega:ib i40 all) (kc77 (Uo all i40) 0 (by omega) (ai (fun k9:((F77 (Uo all i40) 0).toList==w9_.toList)=true=>(by omega:ib i40 all)) (kg77 ((F77 (Uo all i40) 0).toList==w9_.toList) true (Uo all i40) 1 (fun k10=>(by omega)) (kg98 ((F77 (Uo all i40) 0).toList==w9_.toList) true all (F77 (Uo all i40) 1) (ifb (bif ((F77 (Uo all i40) 0).toList==w9_.toList) then decide ((F98 all (F77 (Uo all i40) 1))>12) else false) (fun h12=>have _:((F77 (Uo all i40) 0).toList==w9_.toList)=true:=(Ql h12); have _:=of_decide_eq_true (Qw h12); fiB false (F67 all) (finR (Qp hI0 (condT h2 (condF h8 (condT h12 rfl)))) rfl)) (fun h12=>ai (iok (i40+1) (by omega)) (bk67_0 all i0 m0 (i40+1) hl0 (Qc hI0 (condT h2 (condF h8 (condF h12 rfl)))) (by refine ⟨?_,?_⟩ <;> omega))))))))))))))))) (fun h2 _=>have hD0_13:Ubl all=Lp.done i40:=Qi hI0 (condF h2 rfl); fiB true (F67 all) (finD hD0_13 rfl))) (i0.1-1) i0.2 (un67_0 all i0 hi0))) (by kernel_rfl)
def Gc (all:List l52Cut) (i40:Int):Int→Lp Int Bool:=fun k =>
 bif (decide (k<i40)) then (bif (bif (!((F77 (all.getD (Int.toNat i40) default) 0).toList==(⟨#[112,111,114,116]⟩:ByteArray).toList)) then true else (!((F77 (all.getD (Int.toNat k) default) 0).toList==(⟨#[112,111,114,116]⟩:ByteArray).toList))) then (.next (k+1)) else (bif (bif decide ((F99 (F77 (all.getD (Int.toNat i40) default) 2)).1<(IntKind.i64.wrap ((F99 (F77 (all.getD (Int.toNat k) default) 2)).1+(F99 (F77 (all.getD (Int.toNat k) default) 2)).2))) then decide ((F99 (F77 (all.getD (Int.toNat k) default) 2)).1<(IntKind.i64.wrap ((F99 (F77 (all.getD (Int.toNat i40) default) 2)).1+(F99 (F77 (all.getD (Int.toNat i40) default) 2)).2))) else false) then (.ret false) else (.next (k+1)))) else (.done k)
def Bt (all:List l52Cut):Int→Lp Int Bool:=fun i40 =>
 bif (decide (i40<(all.length:Int))) then ((runL (Gc all i40) ((Int.toNat (i40-0))+1) 0).fin Lp.ret (fun k=>.next (i40+1))) else (.done i40)
def F68 (all:List l52Cut):Bool :=
 (runL (Bt all) ((Int.toNat ((all.length:Int)-0))+1) 0).fin (fun r=>r) (fun i40=>true)
abbrev Qce (i40:Int):Nat×Int:=(((Int.toNat (i40-0))+1),0)
abbrev Qor (i40:Int) (m39:Nat) (k:Int):Prop:=Int.toNat (i40-k)<m39∧(0:Int)≤k
abbrev Uef (all:List l52Cut) (i40:Int):Lp Int Bool:=LpX (Gc all i40) (Qce i40)
abbrev Qel (all:List l52Cut) (i40:Int) (i:Nat×Int):Prop:=LpJ (Gc all i40) (Qce i40) i (Qor i40 i.1 i.2)
abbrev Qyh (all:List l52Cut) (i40:Int) (i:Nat×Int) (m39:Nat) (k:Int):Prop:=LpH (Gc all i40) (Qce i40) i m39 k (Qor i40 (m39+1) k)
abbrev Ubn (all:List l52Cut) (i40:Int) (k:Int) (k_:Int) (K39:Prop):Prop:=(Rf (.int .i64 i40))∧((.int .i64 k:Value)=.int .i64 k_)∧(Im (.l 1 Qj all))∧K39
theorem un68_1 (all:List l52Cut) (i40:Int) (i:Nat×Int) (h:Qel all i40 i):Qyh all i40 i (i.1-1) i.2:=⟨hd1 h.1 h.2.1,hd3 h.2.1,hd2 h.2.1,h.2.2⟩
theorem Ubt (all:List l52Cut) (i40:Int) (i:Nat×Int) (m39:Nat) (k:Int) (hl:m39<i.1) (e:runL (Gc all i40) m39 k=Uef all i40) (h:Qor i40 m39 k):∃ j:Nat×Int,Ubn all i40 k j.2 (Qel all i40 j∧j.1<i.1):=⟨(m39,k),rfl,rfl,Imp.refl _,⟨e,h⟩,hl⟩
theorem en68_1 (all:List l52Cut) (i40:Int) (h:(0:Int)≤0):Ubn all i40 0 0 (Qel all i40 (Qce i40)):=⟨rfl,rfl,Imp.refl _,rfl,Nat.lt_succ_self _,h⟩
abbrev Qdk (all:List l52Cut):Nat×Int:=(((Int.toNat ((all.length:Int)-0))+1),0)
abbrev Qqf (all:List l52Cut) (m39:Nat) (i40:Int):Prop:=Int.toNat ((all.length:Int)-i40)<m39∧(0:Int)≤i40
abbrev Qza (all:List l52Cut):Lp Int Bool:=LpX (Bt all) (Qdk all)
abbrev Qdt (all:List l52Cut) (i:Nat×Int):Prop:=LpJ (Bt all) (Qdk all) i (Qqf all i.1 i.2)
abbrev Uek (all:List l52Cut) (i:Nat×Int) (m39:Nat) (i40:Int):Prop:=LpH (Bt all) (Qdk all) i m39 i40 (Qqf all (m39+1) i40)
abbrev Uay (all:List l52Cut) (i40:Int) (i40_:Int) (K39:Prop):Prop:=((.int .i64 i40:Value)=.int .i64 i40_)∧(Im (.l 1 Qj all))∧K39
theorem un68_0 (all:List l52Cut) (i:Nat×Int) (h:Qdt all i):Uek all i (i.1-1) i.2:=⟨hd1 h.1 h.2.1,hd3 h.2.1,hd2 h.2.1,h.2.2⟩
theorem bk68_0 (all:List l52Cut) (i:Nat×Int) (m39:Nat) (i40:Int) (hl:m39<i.1) (e:runL (Bt all) m39 i40=Qza all) (h:Qqf all m39 i40):∃ j:Nat×Int,Uay all i40 j.2 (Qdt all j∧j.1<i.1):=⟨(m39,i40),rfl,Imp.refl _,⟨e,h⟩,hl⟩
theorem en68_0 (all:List l52Cut) (h:(0:Int)≤0):Uay all 0 0 (Qdt all (Qdk all)):=⟨rfl,Imp.refl _,rfl,Nat.lt_succ_self _,h⟩
def S68 (all:List l52Cut):Spec:=⟨[.r (.c (.l 1 Qj all))],.v (.bool (F68 all)),(∀ k j:Nat,((all.getD k default).w.getD j default).size≤1048576)⟩
abbrev Xh (all:List l52Cut) (i40:Int):=(all.getD (Int.toNat i40) default)
abbrev Gf (all:List l52Cut) (k:Int):=(all.getD (Int.toNat k) default)
theorem ok68 (all:List l52Cut):(S68 all).ok Tryz.prog 68 :=
 Qg mixed (fn:=Tryz.f68) (ct:=.seqk [(0,0)] .no (.seq (.seqk [(0,0)] .no (.blk (.loop (ι:=Nat×Int) (fun i=>(fun (i40:Int)=>(⟨[(0,some (.h 0 0)),(3,some (.v (vI i40)))],[(0,some (.shr none (.l 1 Qj all)))],1⟩:St)) i.2) (Qdt all) (fun i=>i.1) (Qdk all) (fun i=>(fun (i40:Int)=>(.seq (.seq .no (.cond .no .no)) (.seq (.blk (.seqk [(0,0)] .no (.blk (.loop (ι:=Nat×Int) (fun i=>(fun (k:Int)=>(⟨[(0,some (.h 0 0)),(3,some (.v (vI i40))),(4,some (.v (vI k)))],[(0,some (.shr none (.l 1 Qj all)))],1⟩:St)) i.2) (Qel all i40) (fun i=>i.1) (Qce i40) (fun i=>(fun (k:Int)=>(.seq (.seq .no (.cond .no .no)) (.seq (.blk (.seq (.seq (.reg [(4,kh77 (Xh all i40) 0),(11,kh77 (Gf all k) 0)]) (.cond .no .no)) (.seq (.reg [(4,kh77 (Xh all i40) 2),(5,kh99 (F77 (Xh all i40) 2))]) (.seq (.reg [(4,kh77 (Gf all k) 2),(5,kh99 (F77 (Gf all k) 2))]) (.seq .no (.cond (.seq .no .no) .no)))))) (.reg [(1,.bnd)])))) i.2))))) (.reg [(1,.bnd)])))) i.2)))) (.seq .no .no))) Tryz.func68 (fun (hpre0:∀ k j:Nat,((all.getD k default).w.getD j default).size≤1048576)=>kn all fun _=>kn all fun _=>ai (en68_0 all (by omega)) (fun (i0:Nat×Int) (hi0:Qdt all i0)=>(fun (m0:Nat) (i40:Int) (hh0:Uek all i0 m0 i40)=>have hI0:=hh0.1; have hl0:=hh0.2.1; have _:=hh0.2.2.1; have _:=hh0.2.2.2; ifd (i40<(all.length:Int)) (fun h2 _=>kn all fun _=>ai (en68_1 all i40 (by omega)) (fun (i1:Nat×Int) (hi1:Qel all i40 i1)=>(fun (m1:Nat) (k:Int) (hh1:Qyh all i40 i1 m1 k)=>have hI1:=hh1.1; have hl1:=hh1.2.1; have _:=hh1.2.2.1; have _:=hh1.2.2.2; ifd (k<i40) (fun h4 _=>ai (by omega:ib i40 all) (kc77 (Xh all i40) 0 (by omega) (ai (fun k5:(!((F77 (Xh all i40) 0).toList==w7_.toList))=false=>(by omega:ib k all)) (kg77 (!((F77 (Xh all i40) 0).toList==w7_.toList)) false (Gf all k) 0 (fun k6=>(by omega)) (ifb (bif (!((F77 (Xh all i40) 0).toList==w7_.toList)) then true else (!((F77 (Gf all k) 0).toList==w7_.toList))) (fun h7=>ai (iok (k+1) (by omega)) (Ubt all i40 i1 m1 (k+1) hl1 (Qc hI1 (condT h4 (condT h7 rfl))) (by refine ⟨?_,?_⟩ <;> omega))) (fun h7=>have _:(!((F77 (Xh all i40) 0).toList==w7_.toList))=false:=(orF1 h7); have _:(!((F77 (Gf all k) 0).toList==w7_.toList))=false:=(orF2 h7); ai (by omega:ib i40 all) (kc77 (Xh all i40) 2 (by omega) (kc99 (F77 (Xh all i40) 2) (by exact Ju all (by assumption) _ _) (ai (by omega:ib k all) (kc77 (Gf all k) 2 (by omega) (kc99 (F77 (Gf all k) 2) (by exact Ju all (by assumption) _ _) (ifb (bif decide ((F99 (F77 (Xh all i40) 2)).1<(IntKind.i64.wrap ((F99 (F77 (Gf all k) 2)).1+(F99 (F77 (Gf all k) 2)).2))) then decide ((F99 (F77 (Gf all k) 2)).1<(IntKind.i64.wrap ((F99 (F77 (Xh all i40) 2)).1+(F99 (F77 (Xh all i40) 2)).2))) else false) (fun h8=>have _:=of_decide_eq_true (Ql h8); have _:=of_decide_eq_true (Qw h8); fiB false (F68 all) (finR (Qp hI0 (condT h2 (finR (Qp hI1 (condT h4 (condF h7 (condT h8 rfl)))) rfl))) rfl)) (fun h8=>ai (iok (k+1) (by omega)) (Ubt all i40 i1 m1 (k+1) hl1 (Qc hI1 (condT h4 (condF h7 (condF h8 rfl)))) (by refine ⟨?_,?_⟩ <;> omega))))))))))))))) (fun h4 _=>have hD1_9:Uef all i40=Lp.done k:=Qi hI1 (condF h4 rfl); ai (iok (i40+1) (by omega)) (bk68_0 all i0 m0 (i40+1) hl0 (Qc hI0 (condT h2 (finD hD1_9 rfl))) (by refine ⟨?_,?_⟩ <;> omega)))) (i1.1-1) i1.2 (un68_1 all i40 i1 hi1))) (fun h2 _=>have hD0_10:Qza all=Lp.done i40:=Qi hI0 (condF h2 rfl); fiB true (F68 all) (finD hD0_10 rfl))) (i0.1-1) i0.2 (un68_0 all i0 hi0))) (by kernel_rfl)
def Ve (all:List l52Cut) (addr:Int):Int→Lp Int Bool:=fun i40 =>
 bif (decide (i40<(all.length:Int))) then (bif ((F77 (all.getD (Int.toNat i40) default) 0).toList==(⟨#[112,111,114,116]⟩:ByteArray).toList) then (bif (bif decide (addr>(F99 (F77 (all.getD (Int.toNat i40) default) 2)).1) then decide (addr<(IntKind.i64.wrap ((F99 (F77 (all.getD (Int.toNat i40) default) 2)).1+(F99 (F77 (all.getD (Int.toNat i40) default) 2)).2))) else false) then (.ret true) else (.next (i40+1))) else (.next (i40+1))) else (.done i40)
def F100 (all:List l52Cut) (addr:Int):Bool :=
 (runL (Ve all addr) ((Int.toNat ((all.length:Int)-0))+1) 0).fin (fun r=>r) (fun i40=>false)
abbrev Md (all:List l52Cut):Nat×Int:=(((Int.toNat ((all.length:Int)-0))+1),0)
abbrev Qkj (all:List l52Cut) (m39:Nat) (i40:Int):Prop:=Int.toNat ((all.length:Int)-i40)<m39∧(0:Int)≤i40
abbrev Quw (all:List l52Cut) (addr:Int):Lp Int Bool:=LpX (Ve all addr) (Md all)
abbrev Mn (all:List l52Cut) (addr:Int) (i:Nat×Int):Prop:=LpJ (Ve all addr) (Md all) i (Qkj all i.1 i.2)
abbrev Qse (all:List l52Cut) (addr:Int) (i:Nat×Int) (m39:Nat) (i40:Int):Prop:=LpH (Ve all addr) (Md all) i m39 i40 (Qkj all (m39+1) i40)
abbrev Qtt (all:List l52Cut) (addr:Int) (i40:Int) (i40_:Int) (K39:Prop):Prop:=(Rf (.int .i64 addr))∧((.int .i64 i40:Value)=.int .i64 i40_)∧(Im (.l 1 Qj all))∧K39
theorem Ulo (all:List l52Cut) (addr:Int) (i:Nat×Int) (h:Mn all addr i):Qse all addr i (i.1-1) i.2:=⟨hd1 h.1 h.2.1,hd3 h.2.1,hd2 h.2.1,h.2.2⟩
theorem Qry (all:List l52Cut) (addr:Int) (i:Nat×Int) (m39:Nat) (i40:Int) (hl:m39<i.1) (e:runL (Ve all addr) m39 i40=Quw all addr) (h:Qkj all m39 i40):∃ j:Nat×Int,Qtt all addr i40 j.2 (Mn all addr j∧j.1<i.1):=⟨(m39,i40),rfl,rfl,Imp.refl _,⟨e,h⟩,hl⟩
theorem Uhx (all:List l52Cut) (addr:Int) (h:(0:Int)≤0):Qtt all addr 0 0 (Mn all addr (Md all)):=⟨rfl,rfl,Imp.refl _,rfl,Nat.lt_succ_self _,h⟩
def S100 (all:List l52Cut) (addr:Int):Spec:=⟨[.r (.c (.l 1 Qj all)),.r (.c (.v (vI addr)))],.v (.bool (F100 all addr)),(∀ k j:Nat,((all.getD k default).w.getD j default).size≤1048576)⟩
theorem ok100 (all:List l52Cut) (addr:Int):(S100 all addr).ok Tryz.prog 100 :=
 Qg mixed (fn:=Tryz.f100) (ct:=.seqk [(0,0)] .no (.seq (.seqk [(0,0)] .no (.blk (.loop (ι:=Nat×Int) (fun i=>(fun (i40:Int)=>(⟨[(0,some (.h 0 0)),(1,some (.v (vI addr))),(5,some (.v (vI i40)))],[(0,some (.shr none (.l 1 Qj all)))],1⟩:St)) i.2) (Mn all addr) (fun i=>i.1) (Md all) (fun i=>(fun (i40:Int)=>(.seq (.seq .no (.cond .no .no)) (.seq (.blk (.seq (.reg [(4,kh77 (all.getD (Int.toNat i40) default) 0)]) (.cond (.seq (.reg [(4,kh77 (all.getD (Int.toNat i40) default) 2),(5,kh99 (F77 (all.getD (Int.toNat i40) default) 2))]) (.seq .no (.cond (.seq .no .no) .no))) .no))) (.reg [(1,.bnd)])))) i.2)))) (.seq .no .no))) Tryz.func100 (fun (hpre0:∀ k j:Nat,((all.getD k default).w.getD j default).size≤1048576)=>kn all fun _=>kn all fun _=>ai (Uhx all addr (by omega)) (fun (i0:Nat×Int) (hi0:Mn all addr i0)=>(fun (m0:Nat) (i40:Int) (hh0:Qse all addr i0 m0 i40)=>have hI0:=hh0.1; have hl0:=hh0.2.1; have _:=hh0.2.2.1; have _:=hh0.2.2.2; ifd (i40<(all.length:Int)) (fun h2 _=>ai (by omega:ib i40 all) (kc77 (all.getD (Int.toNat i40) default) 0 (by omega) (ifb ((F77 (all.getD (Int.toNat i40) default) 0).toList==w7_.toList) (fun h3=>ai (by omega:ib i40 all) (kc77 (all.getD (Int.toNat i40) default) 2 (by omega) (kc99 (F77 (all.getD (Int.toNat i40) default) 2) (by exact Ju all (by assumption) _ _) (ifb (bif decide (addr>(F99 (F77 (all.getD (Int.toNat i40) default) 2)).1) then decide (addr<(IntKind.i64.wrap ((F99 (F77 (all.getD (Int.toNat i40) default) 2)).1+(F99 (F77 (all.getD (Int.toNat i40) default) 2)).2))) else false) (fun h4=>have _:=of_decide_eq_true (Ql h4); have _:=of_decide_eq_true (Qw h4); fiB true (F100 all addr) (finR (Qp hI0 (condT h2 (condT h3 (condT h4 rfl)))) rfl)) (fun h4=>ai (iok (i40+1) (by omega)) (Qry all addr i0 m0 (i40+1) hl0 (Qc hI0 (condT h2 (condT h3 (condF h4 rfl)))) (by refine ⟨?_,?_⟩ <;> omega))))))) (fun h3=>ai (iok (i40+1) (by omega)) (Qry all addr i0 m0 (i40+1) hl0 (Qc hI0 (condT h2 (condF h3 rfl))) (by refine ⟨?_,?_⟩ <;> omega)))))) (fun h2 _=>have hD0_5:Quw all addr=Lp.done i40:=Qi hI0 (condF h2 rfl); fiB false (F100 all addr) (finD hD0_5 rfl))) (i0.1-1) i0.2 (Ulo all addr i0 hi0))) (by kernel_rfl)
theorem kc100 (all:List l52Cut) (addr:Int) {K_:Prop} (p0_:∀ k j:Nat,((all.getD k default).w.getD j default).size≤1048576) (k_:K_):(∀ k j:Nat,((all.getD k default).w.getD j default).size≤1048576)∧(Imp (.l 1 Qj all) (.l 1 Qj all))∧(Imp (.v (vI addr)) (.v (vI addr)))∧K_:=⟨p0_,Imp.refl _,Imp.refl _,k_⟩
abbrev kh100 (all:List l52Cut) (addr:Int):Hint true Tryz.prog:=.call 100 (S100 all addr) (ok100 all addr) none
def Gr (all:List l52Cut):Int→Lp Int Bool:=fun i40 =>
 bif (decide (i40<(all.length:Int))) then (bif ((F77 (all.getD (Int.toNat i40) default) 0).toList==(⟨#[114,111,117,116,101]⟩:ByteArray).toList) then (bif (!(F100 all (F78 (F77 (all.getD (Int.toNat i40) default) 2)))) then (.ret false) else (.next (i40+1))) else (bif ((F77 (all.getD (Int.toNat i40) default) 0).toList==(⟨#[112,101,101,114]⟩:ByteArray).toList) then (bif (!(F100 all (F78 (F77 (all.getD (Int.toNat i40) default) 1)))) then (.ret false) else (.next (i40+1))) else (.next (i40+1)))) else (.done i40)
def F69 (all:List l52Cut):Bool :=
 (runL (Gr all) ((Int.toNat ((all.length:Int)-0))+1) 0).fin (fun r=>r) (fun i40=>true)
abbrev Qcn (all:List l52Cut):Nat×Int:=(((Int.toNat ((all.length:Int)-0))+1),0)
abbrev Qpg (all:List l52Cut) (m39:Nat) (i40:Int):Prop:=Int.toNat ((all.length:Int)-i40)<m39∧(0:Int)≤i40
abbrev Qyt (all:List l52Cut):Lp Int Bool:=LpX (Gr all) (Qcn all)
abbrev Qen (all:List l52Cut) (i:Nat×Int):Prop:=LpJ (Gr all) (Qcn all) i (Qpg all i.1 i.2)
abbrev Qyx (all:List l52Cut) (i:Nat×Int) (m39:Nat) (i40:Int):Prop:=LpH (Gr all) (Qcn all) i m39 i40 (Qpg all (m39+1) i40)
abbrev Uav (all:List l52Cut) (i40:Int) (i40_:Int) (K39:Prop):Prop:=((.int .i64 i40:Value)=.int .i64 i40_)∧(Im (.l 1 Qj all))∧K39
theorem un69_0 (all:List l52Cut) (i:Nat×Int) (h:Qen all i):Qyx all i (i.1-1) i.2:=⟨hd1 h.1 h.2.1,hd3 h.2.1,hd2 h.2.1,h.2.2⟩
theorem Qoy (all:List l52Cut) (i:Nat×Int) (m39:Nat) (i40:Int) (hl:m39<i.1) (e:runL (Gr all) m39 i40=Qyt all) (h:Qpg all m39 i40):∃ j:Nat×Int,Uav all i40 j.2 (Qen all j∧j.1<i.1):=⟨(m39,i40),rfl,Imp.refl _,⟨e,h⟩,hl⟩
theorem en69_0 (all:List l52Cut) (h:(0:Int)≤0):Uav all 0 0 (Qen all (Qcn all)):=⟨rfl,Imp.refl _,rfl,Nat.lt_succ_self _,h⟩
def S69 (all:List l52Cut):Spec:=⟨[.r (.c (.l 1 Qj all))],.v (.bool (F69 all)),(∀ k j:Nat,((all.getD k default).w.getD j default).size≤1048576)⟩
abbrev Kt (all:List l52Cut) (i40:Int):=(all.getD (Int.toNat i40) default)
theorem ok69 (all:List l52Cut):(S69 all).ok Tryz.prog 69 :=
 Qg mixed (fn:=Tryz.f69) (ct:=.seqk [(0,0)] .no (.seq (.seqk [(0,0)] .no (.blk (.loop (ι:=Nat×Int) (fun i=>(fun (i40:Int)=>(⟨[(0,some (.h 0 0)),(3,some (.v (vI i40)))],[(0,some (.shr none (.l 1 Qj all)))],1⟩:St)) i.2) (Qen all) (fun i=>i.1) (Qcn all) (fun i=>(fun (i40:Int)=>(.seq (.seq .no (.cond .no .no)) (.seq (.blk (.seq (.reg [(4,kh77 (Kt all i40) 0)]) (.blk (.seq .no (.cond (.seq (.reg [(5,kh77 (Kt all i40) 2),(6,kh78 (F77 (Kt all i40) 2)),(7,kh100 all (F78 (F77 (Kt all i40) 2)))]) (.cond (.seq .no .no) .no)) (.seq .no (.cond (.seq (.reg [(5,kh77 (Kt all i40) 1),(6,kh78 (F77 (Kt all i40) 1)),(7,kh100 all (F78 (F77 (Kt all i40) 1)))]) (.cond (.seq .no .no) .no)) .no))))))) (.reg [(1,.bnd)])))) i.2)))) (.seq .no .no))) Tryz.func69 (fun (hpre0:∀ k j:Nat,((all.getD k default).w.getD j default).size≤1048576)=>kn all fun _=>kn all fun _=>ai (en69_0 all (by omega)) (fun (i0:Nat×Int) (hi0:Qen all i0)=>(fun (m0:Nat) (i40:Int) (hh0:Qyx all i0 m0 i40)=>have hI0:=hh0.1; have hl0:=hh0.2.1; have _:=hh0.2.2.1; have _:=hh0.2.2.2; ifd (i40<(all.length:Int)) (fun h2 _=>ai (by omega:ib i40 all) (kc77 (Kt all i40) 0 (by omega) (ifb ((F77 (Kt all i40) 0).toList==w8_.toList) (fun h3=>ai (by omega:ib i40 all) (kc77 (Kt all i40) 2 (by omega) (kc78 (F77 (Kt all i40) 2) (by exact Ju all (by assumption) _ _) (kc100 all (F78 (F77 (Kt all i40) 2)) (by assumption) (ifb (!(F100 all (F78 (F77 (Kt all i40) 2)))) (fun h4=>fiB false (F69 all) (finR (Qp hI0 (condT h2 (condT h3 (condT h4 rfl)))) rfl)) (fun h4=>ai (iok (i40+1) (by omega)) (Qoy all i0 m0 (i40+1) hl0 (Qc hI0 (condT h2 (condT h3 (condF h4 rfl)))) (by refine ⟨?_,?_⟩ <;> omega)))))))) (fun h3=>ifb ((F77 (Kt all i40) 0).toList==w6_.toList) (fun h5=>ai (by omega:ib i40 all) (kc77 (Kt all i40) 1 (by omega) (kc78 (F77 (Kt all i40) 1) (by exact Ju all (by assumption) _ _) (kc100 all (F78 (F77 (Kt all i40) 1)) (by assumption) (ifb (!(F100 all (F78 (F77 (Kt all i40) 1)))) (fun h6=>fiB false (F69 all) (finR (Qp hI0 (condT h2 (condF h3 (condT h5 (condT h6 rfl))))) rfl)) (fun h6=>ai (iok (i40+1) (by omega)) (Qoy all i0 m0 (i40+1) hl0 (Qc hI0 (condT h2 (condF h3 (condT h5 (condF h6 rfl))))) (by refine ⟨?_,?_⟩ <;> omega)))))))) (fun h5=>ai (iok (i40+1) (by omega)) (Qoy all i0 m0 (i40+1) hl0 (Qc hI0 (condT h2 (condF h3 (condF h5 rfl)))) (by refine ⟨?_,?_⟩ <;> omega))))))) (fun h2 _=>have hD0_7:Qyt all=Lp.done i40:=Qi hI0 (condF h2 rfl); fiB true (F69 all) (finD hD0_7 rfl))) (i0.1-1) i0.2 (un69_0 all i0 hi0))) (by kernel_rfl)
def Hj (all:List l52Cut):Int→Lp Int Int:=fun i40 =>
 bif (decide (i40<(all.length:Int))) then (bif ((F77 (all.getD (Int.toNat i40) default) 0).toList==(⟨#[110,97,116]⟩:ByteArray).toList) then (.ret i40) else (.next (i40+1))) else (.done i40)
def F101 (all:List l52Cut):Int :=
 (runL (Hj all) ((Int.toNat ((all.length:Int)-0))+1) 0).fin (fun r=>r) (fun i40=>(-1))
abbrev Nb (all:List l52Cut):Nat×Int:=(((Int.toNat ((all.length:Int)-0))+1),0)
abbrev Qhn (all:List l52Cut) (m39:Nat) (i40:Int):Prop:=Int.toNat ((all.length:Int)-i40)<m39∧(0:Int)≤i40
abbrev Quk (all:List l52Cut):Lp Int Int:=LpX (Hj all) (Nb all)
abbrev Rb (all:List l52Cut) (i:Nat×Int):Prop:=LpJ (Hj all) (Nb all) i (Qhn all i.1 i.2)
abbrev Quh (all:List l52Cut) (i:Nat×Int) (m39:Nat) (i40:Int):Prop:=LpH (Hj all) (Nb all) i m39 i40 (Qhn all (m39+1) i40)
abbrev Qta (all:List l52Cut) (i40:Int) (i40_:Int) (K39:Prop):Prop:=((.int .i64 i40:Value)=.int .i64 i40_)∧(Im (.l 1 Qj all))∧K39
theorem Ulj (all:List l52Cut) (i:Nat×Int) (h:Rb all i):Quh all i (i.1-1) i.2:=⟨hd1 h.1 h.2.1,hd3 h.2.1,hd2 h.2.1,h.2.2⟩
theorem Uln (all:List l52Cut) (i:Nat×Int) (m39:Nat) (i40:Int) (hl:m39<i.1) (e:runL (Hj all) m39 i40=Quk all) (h:Qhn all m39 i40):∃ j:Nat×Int,Qta all i40 j.2 (Rb all j∧j.1<i.1):=⟨(m39,i40),rfl,Imp.refl _,⟨e,h⟩,hl⟩
theorem Ulk (all:List l52Cut) (h:(0:Int)≤0):Qta all 0 0 (Rb all (Nb all)):=⟨rfl,Imp.refl _,rfl,Nat.lt_succ_self _,h⟩
def S101 (R:Int) (all:List l52Cut):Spec:=⟨[.r (.c (.l 1 Qj all))],.v (vI R),True⟩
theorem ok101 (all:List l52Cut):(S101 (F101 all) all).ok Tryz.prog 101 :=
 Qg mixed (fn:=Tryz.f101) (ct:=.seqk [(0,0)] .no (.seq (.seqk [(0,0)] .no (.blk (.loop (ι:=Nat×Int) (fun i=>(fun (i40:Int)=>(⟨[(0,some (.h 0 0)),(3,some (.v (vI i40)))],[(0,some (.shr none (.l 1 Qj all)))],1⟩:St)) i.2) (Rb all) (fun i=>i.1) (Nb all) (fun i=>(fun (i40:Int)=>(.seq (.seq .no (.cond .no .no)) (.seq (.blk (.seq (.reg [(4,kh77 (all.getD (Int.toNat i40) default) 0)]) (.cond (.seq .no .no) .no))) (.reg [(1,.bnd)])))) i.2)))) (.seq .no .no))) Tryz.func101 (fun (_:True)=>kn all fun _=>kn all fun _=>ai (Ulk all (by omega)) (fun (i0:Nat×Int) (hi0:Rb all i0)=>(fun (m0:Nat) (i40:Int) (hh0:Quh all i0 m0 i40)=>have hI0:=hh0.1; have hl0:=hh0.2.1; have _:=hh0.2.2.1; have _:=hh0.2.2.2; ifd (i40<(all.length:Int)) (fun h2 _=>ai (by omega:ib i40 all) (kc77 (all.getD (Int.toNat i40) default) 0 (by omega) (ifb ((F77 (all.getD (Int.toNat i40) default) 0).toList==w5_.toList) (fun h3=>fiI i40 (F101 all) (finR (Qp hI0 (condT h2 (condT h3 rfl))) rfl)) (fun h3=>ai (iok (i40+1) (by omega)) (Uln all i0 m0 (i40+1) hl0 (Qc hI0 (condT h2 (condF h3 rfl))) (by refine ⟨?_,?_⟩ <;> omega)))))) (fun h2 _=>have hD0_4:Quk all=Lp.done i40:=Qi hI0 (condF h2 rfl); fiI (-1) (F101 all) (finD hD0_4 rfl))) (i0.1-1) i0.2 (Ulj all i0 hi0))) (by kernel_rfl)
theorem as101 (all:List l52Cut):F101 all=(idxI (fun c=>((F77 c 0).toList==(⟨#[110,97,116]⟩:ByteArray).toList)) all):=by
 exact Jn (fun c=>((F77 c 0).toList==(⟨#[110,97,116]⟩:ByteArray).toList)) all (Hj all) (fun i=>rfl)
theorem oa101 (all:List l52Cut):(S101 (idxI (fun c=>((F77 c 0).toList==(⟨#[110,97,116]⟩:ByteArray).toList)) all) all).ok Tryz.prog 101:=by
 intro hp; have h:=ok101 all hp; rw [as101 all] at h; exact h
theorem g101_0 (all:List l52Cut):(idxI (fun c=>((F77 c 0).toList==(⟨#[110,97,116]⟩:ByteArray).toList)) all)<(all.length:Int):=by
 exact Hi _ all
theorem kg79 {K_:Prop} (c_ b_:Bool) (s:ByteArray) (p_:c_=b_→s.size≤1048576) (k_:K_):(c_=b_→s.size≤1048576)∧(c_=b_→Imp (.v (.string s)) (.v (.string s)))∧K_:=⟨p_,fun _=>Imp.refl _,k_⟩
def Vi (all:List l52Cut) (at':Int) (nat:l52Cut):Int→Lp Int Bool:=fun i40 =>
 bif (decide (i40<at')) then (bif (bif (bif (bif ((F77 (all.getD (Int.toNat i40) default) 0).toList==(⟨#[100,111,111,114]⟩:ByteArray).toList) then ((F77 (all.getD (Int.toNat i40) default) 1).toList==(F77 (all.getD (Int.toNat at') default) 1).toList) else false) then ((F77 (all.getD (Int.toNat i40) default) 3).toList==(F77 (all.getD (Int.toNat at') default) 3).toList) else false) then ((F77 (all.getD (Int.toNat i40) default) 4).toList==(F77 (all.getD (Int.toNat at') default) 4).toList) else false) then (.ret false) else (.next (i40+1))) else (.done i40)
def F102 (all:List l52Cut) (at':Int) (nat:l52Cut):Bool :=
 bif (bif (bif decide ((F78 (F77 (all.getD (Int.toNat at') default) 3))<(F99 (F77 nat 1)).1) then true else decide ((F78 (F77 (all.getD (Int.toNat at') default) 3))≥(IntKind.i64.wrap ((F99 (F77 nat 1)).1+(F99 (F77 nat 1)).2)))) then true else (decide ((F79 (F77 nat 3))≤F79 (F77 (all.getD (Int.toNat at') default) 2)∧F79 (F77 (all.getD (Int.toNat at') default) 2)≤(F79 (F77 nat 4))))) then false else ((runL (Vi all at' nat) ((Int.toNat (at'-0))+1) 0).fin (fun r=>r) (fun i40=>true))
abbrev Nj (at':Int):Nat×Int:=(((Int.toNat (at'-0))+1),0)
abbrev Qho (at':Int) (m39:Nat) (i40:Int):Prop:=Int.toNat (at'-i40)<m39∧(0:Int)≤i40
abbrev Qrz (all:List l52Cut) (at':Int) (nat:l52Cut):Lp Int Bool:=LpX (Vi all at' nat) (Nj at')
abbrev Rs (all:List l52Cut) (at':Int) (nat:l52Cut) (i:Nat×Int):Prop:=LpJ (Vi all at' nat) (Nj at') i (Qho at' i.1 i.2)
abbrev Qsg (all:List l52Cut) (at':Int) (nat:l52Cut) (i:Nat×Int) (m39:Nat) (i40:Int):Prop:=LpH (Vi all at' nat) (Nj at') i m39 i40 (Qho at' (m39+1) i40)
abbrev Qre (all:List l52Cut) (at':Int) (i40:Int) (i40_:Int) (K39:Prop):Prop:=(Rf (.int .i64 at'))∧((.int .i64 i40:Value)=.int .i64 i40_)∧(Im (.l 1 Qj all))∧(Ims (Qj (all.getD (Int.toNat at') default)))∧K39
theorem Uhr (all:List l52Cut) (at':Int) (nat:l52Cut) (i:Nat×Int) (h:Rs all at' nat i):Qsg all at' nat i (i.1-1) i.2:=⟨hd1 h.1 h.2.1,hd3 h.2.1,hd2 h.2.1,h.2.2⟩
theorem Ulm (all:List l52Cut) (at':Int) (nat:l52Cut) (i:Nat×Int) (m39:Nat) (i40:Int) (hl:m39<i.1) (e:runL (Vi all at' nat) m39 i40=Qrz all at' nat) (h:Qho at' m39 i40):∃ j:Nat×Int,Qre all at' i40 j.2 (Rs all at' nat j∧j.1<i.1):=⟨(m39,i40),rfl,rfl,Imp.refl _,Imps.refl _,⟨e,h⟩,hl⟩
theorem Ujj (all:List l52Cut) (at':Int) (nat:l52Cut) (h:(0:Int)≤0):Qre all at' 0 0 (Rs all at' nat (Nj at')):=⟨rfl,rfl,Imp.refl _,Imps.refl _,rfl,Nat.lt_succ_self _,h⟩
def S102 (all:List l52Cut) (at':Int) (nat:l52Cut):Spec:=⟨[.r (.c (.l 1 Qj all)),.r (.c (.v (vI at'))),.r (.g (Qj nat))],.v (.bool (F102 all at' nat)),0≤at'∧at'<(all.length:Int)∧(∀ j:Nat,(nat.w.getD j default).size≤1048576)∧(∀ k j:Nat,((all.getD k default).w.getD j default).size≤1048576)⟩
abbrev Uj (all:List l52Cut) (at':Int):=(all.getD (Int.toNat at') default)
abbrev Ue (all:List l52Cut) (i40:Int):=(all.getD (Int.toNat i40) default)
abbrev Kh (all:List l52Cut) (at':Int):=(F78 (F77 (Uj all at') 3))
theorem ok102 (all:List l52Cut) (at':Int) (nat:l52Cut):(S102 all at' nat).ok Tryz.prog 102 :=
 Qg mixed (fn:=Tryz.f102) (ct:=.seqk [(0,0)] .no (.seq .no (.seq (.reg [(1,kh77 nat 1),(2,kh99 (F77 nat 1))]) (.seq (.reg [(1,kh77 (Uj all at') 3),(2,kh78 (F77 (Uj all at') 3))]) (.seq (.seq (.reg [(12,kh77 (Uj all at') 2),(14,kh77 nat 3),(15,kh79 (F77 nat 3)),(17,kh77 nat 4),(18,kh79 (F77 nat 4)),(19,Kr (F77 (Uj all at') 2) (F79 (F77 nat 3)) (F79 (F77 nat 4)))]) (.cond (.seq .no .no) .no)) (.seq (.seqk [(0,0),(7,0)] .no (.blk (.loop (ι:=Nat×Int) (fun i=>(fun (i40:Int)=>(⟨[(0,some (.h 0 0)),(1,some (.v (vI at'))),(7,some (.p 1 0)),(11,some (.v (vI i40)))],[(0,some (.shr none (.l 1 Qj all))),(1,some (.box 97 [.h 2 1])),(2,some (.mem none none (Qj (Uj all at'))))],3⟩:St)) i.2) (Rs all at' nat) (fun i=>i.1) (Nj at') (fun i=>(fun (i40:Int)=>(.seq (.seq .no (.cond .no .no)) (.seq (.blk (.seq (.reg [(4,kh77 (Ue all i40) 0),(11,kh77 (Ue all i40) 1),(13,kh77 (Uj all at') 1),(21,kh77 (Ue all i40) 3),(23,kh77 (Uj all at') 3),(31,kh77 (Ue all i40) 4),(33,kh77 (Uj all at') 4)]) (.cond (.seq .no .no) .no))) (.reg [(1,.bnd)])))) i.2)))) (.seq .no .no))))))) Tryz.func102 (fun (hp:0≤at'∧at'<(all.length:Int)∧(∀ j:Nat,(nat.w.getD j default).size≤1048576)∧(∀ k j:Nat,((all.getD k default).w.getD j default).size≤1048576))=>have hpre0:=hp.1; have hpre1:=hp.2.1; have hpre2:=hp.2.2.1; have hpre3:=hp.2.2.2; kn all fun _=>ai (by omega:ib at' all) (kc77 nat 1 (by omega) (kc99 (F77 nat 1) (by exact Qib (by assumption) _) (kc77 (Uj all at') 3 (by omega) (kc78 (F77 (Uj all at') 3) (by exact Ju all (by assumption) _ _) (kg77 (bif decide ((Kh all at')<(F99 (F77 nat 1)).1) then true else decide ((Kh all at')≥(IntKind.i64.wrap ((F99 (F77 nat 1)).1+(F99 (F77 nat 1)).2)))) false (Uj all at') 2 (fun k1=>have _:=of_decide_eq_false (orF1 k1); have _:=of_decide_eq_false (orF2 k1); (by omega)) (kg77 (bif decide ((Kh all at')<(F99 (F77 nat 1)).1) then true else decide ((Kh all at')≥(IntKind.i64.wrap ((F99 (F77 nat 1)).1+(F99 (F77 nat 1)).2)))) false nat 3 (fun k2=>have _:=of_decide_eq_false (orF1 k2); have _:=of_decide_eq_false (orF2 k2); (by omega)) (kg79 (bif decide ((Kh all at')<(F99 (F77 nat 1)).1) then true else decide ((Kh all at')≥(IntKind.i64.wrap ((F99 (F77 nat 1)).1+(F99 (F77 nat 1)).2)))) false (F77 nat 3) (fun k3=>have _:=of_decide_eq_false (orF1 k3); have _:=of_decide_eq_false (orF2 k3); (by exact Qib (by assumption) _)) (kg77 (bif decide ((Kh all at')<(F99 (F77 nat 1)).1) then true else decide ((Kh all at')≥(IntKind.i64.wrap ((F99 (F77 nat 1)).1+(F99 (F77 nat 1)).2)))) false nat 4 (fun k4=>have _:=of_decide_eq_false (orF1 k4); have _:=of_decide_eq_false (orF2 k4); (by omega)) (kg79 (bif decide ((Kh all at')<(F99 (F77 nat 1)).1) then true else decide ((Kh all at')≥(IntKind.i64.wrap ((F99 (F77 nat 1)).1+(F99 (F77 nat 1)).2)))) false (F77 nat 4) (fun k5=>have _:=of_decide_eq_false (orF1 k5); have _:=of_decide_eq_false (orF2 k5); (by exact Qib (by assumption) _)) (Kn (bif decide ((Kh all at')<(F99 (F77 nat 1)).1) then true else decide ((Kh all at')≥(IntKind.i64.wrap ((F99 (F77 nat 1)).1+(F99 (F77 nat 1)).2)))) false (F77 (Uj all at') 2) (F79 (F77 nat 3)) (F79 (F77 nat 4)) (fun k6=>have _:=of_decide_eq_false (orF1 k6); have _:=of_decide_eq_false (orF2 k6); (by exact Ju all (by assumption) _ _)) (ifb (bif (bif decide ((Kh all at')<(F99 (F77 nat 1)).1) then true else decide ((Kh all at')≥(IntKind.i64.wrap ((F99 (F77 nat 1)).1+(F99 (F77 nat 1)).2)))) then true else (decide ((F79 (F77 nat 3))≤F79 (F77 (Uj all at') 2)∧F79 (F77 (Uj all at') 2)≤(F79 (F77 nat 4))))) (fun h7=>fiB false (F102 all at' nat) (condT h7 rfl)) (fun h7=>have _:=of_decide_eq_false (orF1 (orF1 h7)); have _:=of_decide_eq_false (orF2 (orF1 h7)); have _:=of_decide_eq_false (orF2 h7); kn all fun _=>kn (Uj all at').w fun _=>ai (Ujj all at' nat (by omega)) (fun (i0:Nat×Int) (hi0:Rs all at' nat i0)=>(fun (m0:Nat) (i40:Int) (hh0:Qsg all at' nat i0 m0 i40)=>have hI0:=hh0.1; have hl0:=hh0.2.1; have _:=hh0.2.2.1; have _:=hh0.2.2.2; ifd (i40<at') (fun h9 _=>ai (by omega:ib i40 all) (kc77 (Ue all i40) 0 (by omega) (ai (fun k10:((F77 (Ue all i40) 0).toList==w3_.toList)=true=>(by omega:ib i40 all)) (kg77 ((F77 (Ue all i40) 0).toList==w3_.toList) true (Ue all i40) 1 (fun k11=>(by omega)) (kg77 ((F77 (Ue all i40) 0).toList==w3_.toList) true (Uj all at') 1 (fun k12=>(by omega)) (ai (fun k13:(bif ((F77 (Ue all i40) 0).toList==w3_.toList) then ((F77 (Ue all i40) 1).toList==(F77 (Uj all at') 1).toList) else false)=true=>have _:((F77 (Ue all i40) 0).toList==w3_.toList)=true:=(Ql k13); have _:=(Qw k13); (by omega:ib i40 all)) (kg77 (bif ((F77 (Ue all i40) 0).toList==w3_.toList) then ((F77 (Ue all i40) 1).toList==(F77 (Uj all at') 1).toList) else false) true (Ue all i40) 3 (fun k14=>have _:((F77 (Ue all i40) 0).toList==w3_.toList)=true:=(Ql k14); have _:=(Qw k14); (by omega)) (kg77 (bif ((F77 (Ue all i40) 0).toList==w3_.toList) then ((F77 (Ue all i40) 1).toList==(F77 (Uj all at') 1).toList) else false) true (Uj all at') 3 (fun k15=>have _:((F77 (Ue all i40) 0).toList==w3_.toList)=true:=(Ql k15); have _:=(Qw k15); (by omega)) (ai (fun k16:(bif (bif ((F77 (Ue all i40) 0).toList==w3_.toList) then ((F77 (Ue all i40) 1).toList==(F77 (Uj all at') 1).toList) else false) then ((F77 (Ue all i40) 3).toList==(F77 (Uj all at') 3).toList) else false)=true=>have _:((F77 (Ue all i40) 0).toList==w3_.toList)=true:=(Ql (Ql k16)); have _:=(Qw (Ql k16)); have _:=(Qw k16); (by omega:ib i40 all)) (kg77 (bif (bif ((F77 (Ue all i40) 0).toList==w3_.toList) then ((F77 (Ue all i40) 1).toList==(F77 (Uj all at') 1).toList) else false) then ((F77 (Ue all i40) 3).toList==(F77 (Uj all at') 3).toList) else false) true (Ue all i40) 4 (fun k17=>have _:((F77 (Ue all i40) 0).toList==w3_.toList)=true:=(Ql (Ql k17)); have _:=(Qw (Ql k17)); have _:=(Qw k17); (by omega)) (kg77 (bif (bif ((F77 (Ue all i40) 0).toList==w3_.toList) then ((F77 (Ue all i40) 1).toList==(F77 (Uj all at') 1).toList) else false) then ((F77 (Ue all i40) 3).toList==(F77 (Uj all at') 3).toList) else false) true (Uj all at') 4 (fun k18=>have _:((F77 (Ue all i40) 0).toList==w3_.toList)=true:=(Ql (Ql k18)); have _:=(Qw (Ql k18)); have _:=(Qw k18); (by omega)) (ifb (bif (bif (bif ((F77 (Ue all i40) 0).toList==w3_.toList) then ((F77 (Ue all i40) 1).toList==(F77 (Uj all at') 1).toList) else false) then ((F77 (Ue all i40) 3).toList==(F77 (Uj all at') 3).toList) else false) then ((F77 (Ue all i40) 4).toList==(F77 (Uj all at') 4).toList) else false) (fun h19=>have _:((F77 (Ue all i40) 0).toList==w3_.toList)=true:=(Ql (Ql (Ql h19))); have _:=(Qw (Ql (Ql h19))); have _:=(Qw (Ql h19)); have _:=(Qw h19); fiB false (F102 all at' nat) (condF h7 (finR (Qp hI0 (condT h9 (condT h19 rfl))) rfl))) (fun h19=>ai (iok (i40+1) (by omega)) (Ulm all at' nat i0 m0 (i40+1) hl0 (Qc hI0 (condT h9 (condF h19 rfl))) (by refine ⟨?_,?_⟩ <;> omega))))))))))))))) (fun h9 _=>have hD0_20:Qrz all at' nat=Lp.done i40:=Qi hI0 (condF h9 rfl); fiB true (F102 all at' nat) (condF h7 (finD hD0_20 rfl)))) (i0.1-1) i0.2 (Uhr all at' nat i0 hi0))))))))))))))) (by kernel_rfl)
theorem kc101a (all:List l52Cut) {K_:Prop} (k_:((idxI (fun c=>((F77 c 0).toList==w5_.toList)) all)<(all.length:Int))→K_):(True)∧(Imp (.l 1 Qj all) (.l 1 Qj all))∧K_:=⟨trivial,Imp.refl _,k_ (g101_0 all)⟩
abbrev kh101a (all:List l52Cut):Hint true Tryz.prog:=.call 101 (S101 (idxI (fun c=>((F77 c 0).toList==w5_.toList)) all) all) (oa101 all) none
theorem kg102 {K_:Prop} (c_ b_:Bool) (all:List l52Cut) (at':Int) (nat:l52Cut) (p_:c_=b_→0≤at'∧at'<(all.length:Int)∧(∀ j:Nat,(nat.w.getD j default).size≤1048576)∧(∀ k j:Nat,((all.getD k default).w.getD j default).size≤1048576)) (k_:K_):(c_=b_→0≤at'∧at'<(all.length:Int)∧(∀ j:Nat,(nat.w.getD j default).size≤1048576)∧(∀ k j:Nat,((all.getD k default).w.getD j default).size≤1048576))∧(c_=b_→Imp (.l 1 Qj all) (.l 1 Qj all))∧(c_=b_→Imp (.v (vI at')) (.v (vI at')))∧(c_=b_→Imps (Qj nat) (Qj nat))∧K_:=⟨p_,fun _=>Imp.refl _,fun _=>Imp.refl _,fun _=>Imps.refl _,k_⟩
abbrev kh102 (all:List l52Cut) (at':Int) (nat:l52Cut):Hint true Tryz.prog:=.call 102 (S102 all at' nat) (ok102 all at' nat) none
def Gl (all:List l52Cut):(Int×Int)→Lp (Int×Int) Bool:=fun (doors,i40) =>
 bif (decide (i40<(all.length:Int))) then (bif (!((F77 (all.getD (Int.toNat i40) default) 0).toList==(⟨#[100,111,111,114]⟩:ByteArray).toList)) then (.next (doors,(i40+1))) else (bif (bif decide ((idxI (fun c=>((F77 c 0).toList==(⟨#[110,97,116]⟩:ByteArray).toList)) all)<0) then true else (!(F102 all i40 (all.getD (Int.toNat (idxI (fun c=>((F77 c 0).toList==(⟨#[110,97,116]⟩:ByteArray).toList)) all)) default)))) then (.ret false) else (.next ((doors+1),(i40+1))))) else (.done (doors,i40))
def F70 (all:List l52Cut):Bool :=
 (runL (Gl all) ((Int.toNat ((all.length:Int)-0))+1) (0,0)).fin (fun r=>r) (fun (doors,i40)=>bif (decide ((idxI (fun c=>((F77 c 0).toList==(⟨#[110,97,116]⟩:ByteArray).toList)) all)<0)) then true else (bif (bif decide (doors≤6) then (bif decide ((F78 (F77 (all.getD (Int.toNat (idxI (fun c=>((F77 c 0).toList==(⟨#[110,97,116]⟩:ByteArray).toList)) all)) default) 2))<(F99 (F77 (all.getD (Int.toNat (idxI (fun c=>((F77 c 0).toList==(⟨#[110,97,116]⟩:ByteArray).toList)) all)) default) 1)).1) then true else decide ((F78 (F77 (all.getD (Int.toNat (idxI (fun c=>((F77 c 0).toList==(⟨#[110,97,116]⟩:ByteArray).toList)) all)) default) 2))≥(IntKind.i64.wrap ((F99 (F77 (all.getD (Int.toNat (idxI (fun c=>((F77 c 0).toList==(⟨#[110,97,116]⟩:ByteArray).toList)) all)) default) 1)).1+(F99 (F77 (all.getD (Int.toNat (idxI (fun c=>((F77 c 0).toList==(⟨#[110,97,116]⟩:ByteArray).toList)) all)) default) 1)).2)))) else false) then decide ((F79 (F77 (all.getD (Int.toNat (idxI (fun c=>((F77 c 0).toList==(⟨#[110,97,116]⟩:ByteArray).toList)) all)) default) 3))≤(F79 (F77 (all.getD (Int.toNat (idxI (fun c=>((F77 c 0).toList==(⟨#[110,97,116]⟩:ByteArray).toList)) all)) default) 4))) else false))
abbrev Qdj (all:List l52Cut):Nat×(Int×Int):=(((Int.toNat ((all.length:Int)-0))+1),(0,0))
abbrev Qnc (all:List l52Cut) (m39:Nat) (doors:Int) (i40:Int):Prop:=Int.toNat ((all.length:Int)-i40)<m39∧(0:Int)≤doors∧(doors:Int)≤i40∧(0:Int)≤doors∧(0:Int)≤i40
abbrev Qyg (all:List l52Cut):Lp (Int×Int) Bool:=LpX (Gl all) (Qdj all)
abbrev Qdp (all:List l52Cut) (i:Nat×(Int×Int)):Prop:=LpJ (Gl all) (Qdj all) i (Qnc all i.1 i.2.1 i.2.2)
abbrev Ubr (all:List l52Cut) (i:Nat×(Int×Int)) (m39:Nat) (doors:Int) (i40:Int):Prop:=LpH (Gl all) (Qdj all) i m39 (doors,i40) (Qnc all (m39+1) doors i40)
abbrev Uaf (all:List l52Cut) (doors:Int) (i40:Int) (doors_:Int) (i40_:Int) (K39:Prop):Prop:=(Rf (.int .i64 (idxI (fun c=>((F77 c 0).toList==w5_.toList)) all)))∧((.int .i64 doors:Value)=.int .i64 doors_)∧((.int .i64 i40:Value)=.int .i64 i40_)∧(Im (.l 1 Qj all))∧K39
theorem un70_0 (all:List l52Cut) (i:Nat×(Int×Int)) (h:Qdp all i):Ubr all i (i.1-1) i.2.1 i.2.2:=⟨hd1 h.1 h.2.1,hd3 h.2.1,hd2 h.2.1,h.2.2⟩
theorem Uau (all:List l52Cut) (i:Nat×(Int×Int)) (m39:Nat) (doors:Int) (i40:Int) (hl:m39<i.1) (e:runL (Gl all) m39 (doors,i40)=Qyg all) (h:Qnc all m39 doors i40):∃ j:Nat×(Int×Int),Uaf all doors i40 j.2.1 j.2.2 (Qdp all j∧j.1<i.1):=⟨(m39,(doors,i40)),rfl,rfl,rfl,Imp.refl _,⟨e,h⟩,hl⟩
theorem en70_0 (all:List l52Cut) (h:(0:Int)≤0∧(0:Int)≤0∧(0:Int)≤0∧(0:Int)≤0):Uaf all 0 0 0 0 (Qdp all (Qdj all)):=⟨rfl,rfl,rfl,Imp.refl _,rfl,Nat.lt_succ_self _,h⟩
def S70 (all:List l52Cut):Spec:=⟨[.r (.c (.l 1 Qj all))],.v (.bool (F70 all)),(∀ k j:Nat,((all.getD k default).w.getD j default).size≤1048576)⟩
theorem ok70 (all:List l52Cut):(S70 all).ok Tryz.prog 70 :=
 Qg mixed (fn:=Tryz.f70) (ct:=.seqk [(0,0)] .no (.seq (.reg [(1,kh101a all)]) (.seq .no (.seq (.seqk [(0,0)] .no (.blk (.loop (ι:=Nat×(Int×Int)) (fun i=>(fun (doors:Int) (i40:Int)=>(⟨[(0,some (.h 0 0)),(3,some (.v (vI (idxI (fun c=>((F77 c 0).toList==w5_.toList)) all)))),(4,some (.v (vI doors))),(5,some (.v (vI i40)))],[(0,some (.shr none (.l 1 Qj all)))],1⟩:St)) i.2.1 i.2.2) (Qdp all) (fun i=>i.1) (Qdj all) (fun i=>(fun (doors:Int) (i40:Int)=>(.seq (.seq .no (.cond .no .no)) (.seq (.blk (.seq (.seq (.reg [(4,kh77 (all.getD (Int.toNat i40) default) 0)]) (.cond .no .no)) (.seq (.reg [(1,.bnd)]) (.seq (.reg [(9,kh102 all i40 (all.getD (Int.toNat (idxI (fun c=>((F77 c 0).toList==w5_.toList)) all)) default))]) (.cond (.seq .no .no) .no))))) (.reg [(1,.bnd)])))) i.2.1 i.2.2)))) (.seq (.seq .no (.cond (.seq .no .no) .no)) (.seq (.reg [(4,kh77 (all.getD (Int.toNat (idxI (fun c=>((F77 c 0).toList==w5_.toList)) all)) default) 1),(5,kh99 (F77 (all.getD (Int.toNat (idxI (fun c=>((F77 c 0).toList==w5_.toList)) all)) default) 1))]) (.seq (.reg [(4,kh77 (all.getD (Int.toNat (idxI (fun c=>((F77 c 0).toList==w5_.toList)) all)) default) 2),(5,kh78 (F77 (all.getD (Int.toNat (idxI (fun c=>((F77 c 0).toList==w5_.toList)) all)) default) 2))]) (.seq (.reg [(19,kh77 (all.getD (Int.toNat (idxI (fun c=>((F77 c 0).toList==w5_.toList)) all)) default) 3),(20,kh79 (F77 (all.getD (Int.toNat (idxI (fun c=>((F77 c 0).toList==w5_.toList)) all)) default) 3)),(25,kh77 (all.getD (Int.toNat (idxI (fun c=>((F77 c 0).toList==w5_.toList)) all)) default) 4),(26,kh79 (F77 (all.getD (Int.toNat (idxI (fun c=>((F77 c 0).toList==w5_.toList)) all)) default) 4))]) .no)))))))) Tryz.func70 (fun (hpre0:∀ k j:Nat,((all.getD k default).w.getD j default).size≤1048576)=>kn all fun _=>kc101a all (fun gv1=>kn all fun _=>ai (en70_0 all (by refine ⟨?_,?_,?_,?_⟩ <;> omega)) (fun (i0:Nat×(Int×Int)) (hi0:Qdp all i0)=>(fun (m0:Nat) (doors:Int) (i40:Int) (hh0:Ubr all i0 m0 doors i40)=>have hI0:=hh0.1; have hl0:=hh0.2.1; have _:=hh0.2.2.1; have _:=hh0.2.2.2; ifd (i40<(all.length:Int)) (fun h3 _=>ai (by omega:ib i40 all) (kc77 (all.getD (Int.toNat i40) default) 0 (by omega) (ifb (!((F77 (all.getD (Int.toNat i40) default) 0).toList==w3_.toList)) (fun h4=>ai (iok (i40+1) (by omega)) (Uau all i0 m0 doors (i40+1) hl0 (Qc hI0 (condT h3 (condT h4 rfl))) (by refine ⟨?_,?_,?_,?_,?_⟩ <;> omega))) (fun h4=>ai (iok (doors+1) (by omega)) (ai (fun k5:(decide ((idxI (fun c=>((F77 c 0).toList==w5_.toList)) all)<0))=false=>have _:¬ (idxI (fun c=>((F77 c 0).toList==w5_.toList)) all)<0:=of_decide_eq_false k5; (by omega:ib (idxI (fun c=>((F77 c 0).toList==w5_.toList)) all) all)) (kg102 (decide ((idxI (fun c=>((F77 c 0).toList==w5_.toList)) all)<0)) false all i40 (all.getD (Int.toNat (idxI (fun c=>((F77 c 0).toList==w5_.toList)) all)) default) (fun k6=>have _:¬ (idxI (fun c=>((F77 c 0).toList==w5_.toList)) all)<0:=of_decide_eq_false k6; ⟨(by omega),(by omega),(by exact fun j=>(by assumption:∀ k j:Nat,((all.getD k default).w.getD j default).size≤1048576) _ j),(by omega)⟩) (ifb (bif decide ((idxI (fun c=>((F77 c 0).toList==w5_.toList)) all)<0) then true else (!(F102 all i40 (all.getD (Int.toNat (idxI (fun c=>((F77 c 0).toList==w5_.toList)) all)) default)))) (fun h7=>fiB false (F70 all) (finR (Qp hI0 (condT h3 (condF h4 (condT h7 rfl)))) rfl)) (fun h7=>have _:¬ (idxI (fun c=>((F77 c 0).toList==w5_.toList)) all)<0:=of_decide_eq_false (orF1 h7); ai (iok (i40+1) (by omega)) (Uau all i0 m0 (doors+1) (i40+1) hl0 (Qc hI0 (condT h3 (condF h4 (condF h7 rfl)))) (by refine ⟨?_,?_,?_,?_,?_⟩ <;> omega)))))))))) (fun h3 _=>have hD0_8:Qyg all=Lp.done (doors,i40):=Qi hI0 (condF h3 rfl); ifd ((idxI (fun c=>((F77 c 0).toList==w5_.toList)) all)<0) (fun h9 _=>fiB true (F70 all) (finD hD0_8 (condT h9 rfl))) (fun h9 _=>ai (by omega:ib (idxI (fun c=>((F77 c 0).toList==w5_.toList)) all) all) (kc77 (all.getD (Int.toNat (idxI (fun c=>((F77 c 0).toList==w5_.toList)) all)) default) 1 (by omega) (kc99 (F77 (all.getD (Int.toNat (idxI (fun c=>((F77 c 0).toList==w5_.toList)) all)) default) 1) (by exact Ju all (by assumption) _ _) (ai (by omega:ib (idxI (fun c=>((F77 c 0).toList==w5_.toList)) all) all) (kc77 (all.getD (Int.toNat (idxI (fun c=>((F77 c 0).toList==w5_.toList)) all)) default) 2 (by omega) (kc78 (F77 (all.getD (Int.toNat (idxI (fun c=>((F77 c 0).toList==w5_.toList)) all)) default) 2) (by exact Ju all (by assumption) _ _) (ai (fun k10:(bif decide (doors≤6) then (bif decide ((F78 (F77 (all.getD (Int.toNat (idxI (fun c=>((F77 c 0).toList==w5_.toList)) all)) default) 2))<(F99 (F77 (all.getD (Int.toNat (idxI (fun c=>((F77 c 0).toList==w5_.toList)) all)) default) 1)).1) then true else decide ((F78 (F77 (all.getD (Int.toNat (idxI (fun c=>((F77 c 0).toList==w5_.toList)) all)) default) 2))≥(IntKind.i64.wrap ((F99 (F77 (all.getD (Int.toNat (idxI (fun c=>((F77 c 0).toList==w5_.toList)) all)) default) 1)).1+(F99 (F77 (all.getD (Int.toNat (idxI (fun c=>((F77 c 0).toList==w5_.toList)) all)) default) 1)).2)))) else false)=true=>have _:=of_decide_eq_true (Ql k10); (by omega:ib (idxI (fun c=>((F77 c 0).toList==w5_.toList)) all) all)) (kg77 (bif decide (doors≤6) then (bif decide ((F78 (F77 (all.getD (Int.toNat (idxI (fun c=>((F77 c 0).toList==w5_.toList)) all)) default) 2))<(F99 (F77 (all.getD (Int.toNat (idxI (fun c=>((F77 c 0).toList==w5_.toList)) all)) default) 1)).1) then true else decide ((F78 (F77 (all.getD (Int.toNat (idxI (fun c=>((F77 c 0).toList==w5_.toList)) all)) default) 2))≥(IntKind.i64.wrap ((F99 (F77 (all.getD (Int.toNat (idxI (fun c=>((F77 c 0).toList==w5_.toList)) all)) default) 1)).1+(F99 (F77 (all.getD (Int.toNat (idxI (fun c=>((F77 c 0).toList==w5_.toList)) all)) default) 1)).2)))) else false) true (all.getD (Int.toNat (idxI (fun c=>((F77 c 0).toList==w5_.toList)) all)) default) 3 (fun k11=>have _:=of_decide_eq_true (Ql k11); (by omega)) (kg79 (bif decide (doors≤6) then (bif decide ((F78 (F77 (all.getD (Int.toNat (idxI (fun c=>((F77 c 0).toList==w5_.toList)) all)) default) 2))<(F99 (F77 (all.getD (Int.toNat (idxI (fun c=>((F77 c 0).toList==w5_.toList)) all)) default) 1)).1) then true else decide ((F78 (F77 (all.getD (Int.toNat (idxI (fun c=>((F77 c 0).toList==w5_.toList)) all)) default) 2))≥(IntKind.i64.wrap ((F99 (F77 (all.getD (Int.toNat (idxI (fun c=>((F77 c 0).toList==w5_.toList)) all)) default) 1)).1+(F99 (F77 (all.getD (Int.toNat (idxI (fun c=>((F77 c 0).toList==w5_.toList)) all)) default) 1)).2)))) else false) true (F77 (all.getD (Int.toNat (idxI (fun c=>((F77 c 0).toList==w5_.toList)) all)) default) 3) (fun k12=>have _:=of_decide_eq_true (Ql k12); (by exact Ju all (by assumption) _ _)) (ai (fun k13:(bif decide (doors≤6) then (bif decide ((F78 (F77 (all.getD (Int.toNat (idxI (fun c=>((F77 c 0).toList==w5_.toList)) all)) default) 2))<(F99 (F77 (all.getD (Int.toNat (idxI (fun c=>((F77 c 0).toList==w5_.toList)) all)) default) 1)).1) then true else decide ((F78 (F77 (all.getD (Int.toNat (idxI (fun c=>((F77 c 0).toList==w5_.toList)) all)) default) 2))≥(IntKind.i64.wrap ((F99 (F77 (all.getD (Int.toNat (idxI (fun c=>((F77 c 0).toList==w5_.toList)) all)) default) 1)).1+(F99 (F77 (all.getD (Int.toNat (idxI (fun c=>((F77 c 0).toList==w5_.toList)) all)) default) 1)).2)))) else false)=true=>have _:=of_decide_eq_true (Ql k13); (by omega:ib (idxI (fun c=>((F77 c 0).toList==w5_.toList)) all) all)) (kg77 (bif decide (doors≤6) then (bif decide ((F78 (F77 (all.getD (Int.toNat (idxI (fun c=>((F77 c 0).toList==w5_.toList)) all)) default) 2))<(F99 (F77 (all.getD (Int.toNat (idxI (fun c=>((F77 c 0).toList==w5_.toList)) all)) default) 1)).1) then true else decide ((F78 (F77 (all.getD (Int.toNat (idxI (fun c=>((F77 c 0).toList==w5_.toList)) all)) default) 2))≥(IntKind.i64.wrap ((F99 (F77 (all.getD (Int.toNat (idxI (fun c=>((F77 c 0).toList==w5_.toList)) all)) default) 1)).1+(F99 (F77 (all.getD (Int.toNat (idxI (fun c=>((F77 c 0).toList==w5_.toList)) all)) default) 1)).2)))) else false) true (all.getD (Int.toNat (idxI (fun c=>((F77 c 0).toList==w5_.toList)) all)) default) 4 (fun k14=>have _:=of_decide_eq_true (Ql k14); (by omega)) (kg79 (bif decide (doors≤6) then (bif decide ((F78 (F77 (all.getD (Int.toNat (idxI (fun c=>((F77 c 0).toList==w5_.toList)) all)) default) 2))<(F99 (F77 (all.getD (Int.toNat (idxI (fun c=>((F77 c 0).toList==w5_.toList)) all)) default) 1)).1) then true else decide ((F78 (F77 (all.getD (Int.toNat (idxI (fun c=>((F77 c 0).toList==w5_.toList)) all)) default) 2))≥(IntKind.i64.wrap ((F99 (F77 (all.getD (Int.toNat (idxI (fun c=>((F77 c 0).toList==w5_.toList)) all)) default) 1)).1+(F99 (F77 (all.getD (Int.toNat (idxI (fun c=>((F77 c 0).toList==w5_.toList)) all)) default) 1)).2)))) else false) true (F77 (all.getD (Int.toNat (idxI (fun c=>((F77 c 0).toList==w5_.toList)) all)) default) 4) (fun k15=>have _:=of_decide_eq_true (Ql k15); (by exact Ju all (by assumption) _ _)) (fiB (bif (bif decide (doors≤6) then (bif decide ((F78 (F77 (all.getD (Int.toNat (idxI (fun c=>((F77 c 0).toList==w5_.toList)) all)) default) 2))<(F99 (F77 (all.getD (Int.toNat (idxI (fun c=>((F77 c 0).toList==w5_.toList)) all)) default) 1)).1) then true else decide ((F78 (F77 (all.getD (Int.toNat (idxI (fun c=>((F77 c 0).toList==w5_.toList)) all)) default) 2))≥(IntKind.i64.wrap ((F99 (F77 (all.getD (Int.toNat (idxI (fun c=>((F77 c 0).toList==w5_.toList)) all)) default) 1)).1+(F99 (F77 (all.getD (Int.toNat (idxI (fun c=>((F77 c 0).toList==w5_.toList)) all)) default) 1)).2)))) else false) then decide ((F79 (F77 (all.getD (Int.toNat (idxI (fun c=>((F77 c 0).toList==w5_.toList)) all)) default) 3))≤(F79 (F77 (all.getD (Int.toNat (idxI (fun c=>((F77 c 0).toList==w5_.toList)) all)) default) 4))) else false) (F70 all) (finD hD0_8 (condF h9 rfl))))))))))))))))) (i0.1-1) i0.2.1 i0.2.2 (un70_0 all i0 hi0)))) (by kernel_rfl)
theorem Tt {α β:Type} [Inhabited α] [Inhabited β] (f:α→β) (ls:List α) (i:Nat) (h:i<ls.length):(ls.map f).getD i default=f (ls.getD i default):=by
 rw [Wk _ (by simpa using h),Wk _ h,List.getElem_map]
def wsL (lines:List ByteArray):List (List ByteArray):=lines.map fun l=>(F97 l).1
def hdB (w:List ByteArray) (l:List UInt8):Bool:=(w.getD 0 default).data.toList==l
def Ubi:List UInt8:=[117,115,101,114]
def Yg:List UInt8:=[112,111,114,116]
def Xl:List UInt8:=[114,117,108,101]
def Qdg:List UInt8:=[114,111,117,116,101]
def Qgs:List UInt8:=[112,101,101,114]
def hNat:List UInt8:=[110,97,116]
def Uk:List UInt8:=[100,111,111,114]
theorem Ys (lines:List ByteArray) (h:F64 lines=0) (word:ByteArray):Qa lines word=(wsL lines).filter fun w=>hdB w word.data.toList:=by
 unfold Qa wsL
 have e:(lines.map fun l=>Qx l (⟨#[32]⟩:ByteArray))=lines.map fun l=>(F97 l).1:=List.map_congr_left fun l hl=>Li l ((Xg lines h).2 l hl)
 rw [e]; rfl
theorem Qam (lines:List ByteArray) (h:F64 lines=0):∀ w∈wsL lines,Jb w:=fun w hw=>by
 obtain ⟨l,hl,rfl⟩:=List.mem_map.1 hw
 exact (Hx l ((Xg lines h).2 l hl)).form
theorem ws_no (lines:List ByteArray):∀ w∈wsL lines,∀ x∈w,(32:UInt8) ∉ x.data.toList∧x.data.toList≠[]∧x.size≤24:=fun w hw=>by
 obtain ⟨l,hl,rfl⟩:=List.mem_map.1 hw
 exact Qsr l
theorem Ujy (lines:List ByteArray):(lines.map (fun l=>(⟨(F97 l).1⟩:l52Cut)))=(wsL lines).map l52Cut.mk:=by
 unfold wsL
 rw [List.map_map]; rfl
theorem at_n (c:l52Cut) (k:Nat):F77 c (k:Int)=c.w.getD k default:=by
 unfold F77
 by_cases h:k<c.w.length
 ·rw [ltD h,cond_true,nn]
 ·rw [decide_eq_false (by omega),cond_false,Wh _ (by omega)]; rfl
theorem at0 (c:l52Cut):F77 c 0=c.w.getD 0 default:=at_n c 0
theorem at1 (c:l52Cut):F77 c 1=c.w.getD 1 default:=at_n c 1
theorem at2 (c:l52Cut):F77 c 2=c.w.getD 2 default:=at_n c 2
theorem at3 (c:l52Cut):F77 c 3=c.w.getD 3 default:=at_n c 3
theorem at4 (c:l52Cut):F77 c 4=c.w.getD 4 default:=at_n c 4
theorem Bn (ws:List (List ByteArray)) (p:l52Cut→Bool):(ws.map l52Cut.mk).any p=ws.any fun w=>p ⟨w⟩:=by rw [List.any_map]; rfl
theorem Us {α:Type} {p q:α→Bool}:∀ {xs:List α},(∀ x∈xs,p x=q x)→xs.any p=xs.any q
 | [],_=>rfl
 | x :: xs,h=>by rw [List.any_cons,List.any_cons,h x List.mem_cons_self,Us fun y hy=>h y (List.mem_cons_of_mem _ hy)]
theorem Ulg (all:List l52Cut):F66 all=all.any fun c=>hdB c.w Ubi&&((c.w.getD 2 default).data.toList==[97,108,108]):=by
 unfold F66
 have:=anyL all (fun c=>hdB c.w Ubi&&((c.w.getD 2 default).data.toList==[97,108,108])) true (Gn all) (fun i hi=>by
  simp only [Gn,ltD hi,cond_true,nn,at0,at2,blit,cb1]
  rfl) (by simp only [Gn,geD,cond_false]) (fun r=>r) (fun i40=>false) false (fun _=>rfl)
 refine this.trans ?_
 cases (all.any fun c=>hdB c.w Ubi&&((c.w.getD 2 default).data.toList==[97,108,108])) <;> rfl
theorem Qhs (lines:List ByteArray) (h:F64 lines=0):F162 lines=!F66 ((wsL lines).map l52Cut.mk):=by
 unfold F162
 rw [Ulg,Bn,Ys lines h,List.any_filter]
 congr 1
 refine Us fun w _=>?_
 unfold F191
 rw [blit]; rfl
def Qno (ws:List (List ByteArray)) (name:List UInt8):Nat:=(ws.filter fun w=>hdB w Xl&&((w.getD 1 default).data.toList==name)).length
theorem Qcg (lines:List ByteArray) (h:F64 lines=0) (name:ByteArray):F192 lines name=(Qno (wsL lines) name.data.toList:Int):=by
 unfold F192
 have:=Yc (Qa lines (⟨#[114,117,108,101]⟩:ByteArray)) (fun (n:Int) w=>bif ((w.getD 1 default).data.toList==name.data.toList) then n+1 else n) (fun n i=>(n,i)) (Vy lines name) (fun i s hi=>by
  simp only [Vy,ltD hi,cond_true,nn,Qy]
  show (bif (((Qa lines (⟨#[114,117,108,101]⟩:ByteArray)).getD i default).getD 1 default).data.toList==name.data.toList then _ else _)=_
  cases ((((Qa lines (⟨#[114,117,108,101]⟩:ByteArray)).getD i default).getD 1 default).data.toList==name.data.toList) <;> rfl) (fun s=>by simp only [Vy,geD,cond_false]) (fun r=>r) (fun (n,v11)=>n) 0
 refine this.trans ?_
 show (Qa lines (⟨#[114,117,108,101]⟩:ByteArray)).foldl _ (0:Int)=_
 rw [Bo (fun w:List ByteArray=>((w.getD 1 default).data.toList==name.data.toList)),Ys lines h,List.filter_filter,Int.zero_add]
 unfold Qno
 rw [show (fun a:List ByteArray=>((a.getD 1 default).data.toList==name.data.toList&&hdB a (⟨#[114,117,108,101]⟩:ByteArray).data.toList))=fun w=>hdB w Xl&&((w.getD 1 default).data.toList==name.data.toList) from funext fun w=>Bool.and_comm _ _]
theorem Qyj (all:List l52Cut) (name:ByteArray):F98 all name=((all.filter fun c=>hdB c.w Xl&&((c.w.getD 1 default).data.toList==name.data.toList)).length:Int):=by
 unfold F98
 have:=Yc all (fun (n:Int) c=>bif (hdB c.w Xl&&((c.w.getD 1 default).data.toList==name.data.toList)) then n+1 else n) (fun n i=>(n,i)) (Gb all name) (fun i s hi=>by
  simp only [Gb,ltD hi,cond_true,nn,at0,at1,blit,cb1]
  rw [Qy,Qy]
  show (bif (hdB (all.getD i default).w Xl&&(((all.getD i default).w.getD 1 default).data.toList==name.data.toList)) then _ else _)=_
  cases (hdB (all.getD i default).w Xl&&(((all.getD i default).w.getD 1 default).data.toList==name.data.toList)) <;> rfl) (fun s=>by simp only [Gb,geD,cond_false]) (fun r=>r) (fun (n,i40)=>n) 0
 refine this.trans ?_
 show all.foldl _ (0:Int)=_
 rw [Bo (fun c:l52Cut=>hdB c.w Xl&&((c.w.getD 1 default).data.toList==name.data.toList)),Int.zero_add]
theorem Qvg (ws:List (List ByteArray)) (name:ByteArray):F98 (ws.map l52Cut.mk) name=(Qno ws name.data.toList:Int):=by
 rw [Qyj,List.filter_map,List.length_map]; rfl
theorem Uds (all:List l52Cut):F67 all=!all.any fun c=>(hdB c.w Yg&&(!((c.w.getD 4 default).data.toList==[])&&((F98 all (c.w.getD 4 default))==0))) || (hdB c.w Xl&&decide (F98 all (c.w.getD 1 default)>12)):=by
 unfold F67
 have:=anyL all (fun c=>(hdB c.w Yg&&(!((c.w.getD 4 default).data.toList==[])&&((F98 all (c.w.getD 4 default))==0))) || (hdB c.w Xl&&decide (F98 all (c.w.getD 1 default)>12))) false (Ga all) (fun i hi=>by
  simp only [Ga,ltD hi,cond_true,nn,at0,at1,at4,blit,cb1,Bool.and_assoc]
  show (bif (hdB (all.getD i default).w Yg&&(!(((all.getD i default).w.getD 4 default).data.toList==[])&&(F98 all ((all.getD i default).w.getD 4 default)==0))) then _ else (bif (hdB (all.getD i default).w Xl&&_) then _ else _))=_
  cases (hdB (all.getD i default).w Yg&&(!(((all.getD i default).w.getD 4 default).data.toList==[])&&(F98 all ((all.getD i default).w.getD 4 default)==0))) <;> cases (hdB (all.getD i default).w Xl&&decide (F98 all ((all.getD i default).w.getD 1 default)>12)) <;> rfl) (by simp only [Ga,geD,cond_false]) (fun r=>r) (fun i40=>true) true (fun _=>rfl)
 refine this.trans ?_
 cases all.any _ <;> rfl
theorem Qnz {α:Type} (p q:α→Bool):∀ xs:List α,xs.any (fun x=>p x || q x)=(xs.any p || xs.any q)
 | []=>rfl
 | x :: xs=>by
  simp only [List.any_cons,Qnz p q xs]
  cases p x <;> cases q x <;> simp
theorem Qwy {w:List ByteArray} (h:Vm w) (hn:∀ x∈w,x.data.toList≠[]):decide ((w.length:Int)>4)=!((w.getD 4 default).data.toList==[]):=by
 by_cases hl:4<w.length
 ·rw [decide_eq_true (by omega)]
  have:=hn _ (Zr w hl)
  rw [beq_eq_false_iff_ne.2 this]; rfl
 ·rw [decide_eq_false (by omega),Wh w (by omega)]; rfl
theorem Qaf (lines:List ByteArray) (h:F64 lines=0):F163 lines=!F67 ((wsL lines).map l52Cut.mk):=by
 rw [Uds,Bool.not_not,Bn,Qnz]
 unfold F163
 have:=anyL (Qa lines (⟨#[112,111,114,116]⟩:ByteArray)) (fun w=>decide ((w.length:Int)>4)&&(F192 lines (w.getD 4 default)==0)) true (Vp lines) (fun i hi=>by
  simp only [Vp,ltD hi,cond_true,nn,cb1]; rfl) (by simp only [Vp,geD,cond_false]) (fun r=>r) (fun v8=>(Qa lines (⟨#[114,117,108,101]⟩:ByteArray)).any (fun (x0:List ByteArray)=>F193 x0 lines)) _ (fun _=>rfl)
 refine this.trans ?_
 rw [Ys lines h,Ys lines h,List.any_filter,List.any_filter,cb2]
 congr 1
 ·refine Us fun w hw=>?_
  have e4:F98 ((wsL lines).map l52Cut.mk) (w.getD 4 default)=F192 lines (w.getD 4 default):=by rw [Qvg,Qcg lines h]
  rw [e4]
  cases hp:hdB w Yg with
  | false =>
   have hp':hdB w (⟨#[112,111,114,116]⟩:ByteArray).data.toList=false:=hp
   rw [hp',Bool.false_and,Bool.false_and]
  | true =>
   have hp':hdB w (⟨#[112,111,114,116]⟩:ByteArray).data.toList=true:=hp
   have hpp:=Qar (Qam lines h w hw) (eq_of_beq hp)
   rw [hp',Qwy hpp fun x hx=>(ws_no lines w hw x hx).2.1]
 ·refine Us fun w hw=>?_
  have e1:F98 ((wsL lines).map l52Cut.mk) (w.getD 1 default)=F192 lines (w.getD 1 default):=by rw [Qvg,Qcg lines h]
  show (hdB w Xl&&_)=(hdB w Xl&&_)
  rw [e1]; rfl
def Zo {α:Type} (ov:α→α→Bool):List α→List α→Bool
 | _,[]=>false
 | seen,x :: r=>seen.any (ov x) || Zo ov (seen++[x]) r
theorem Xj {α:Type} [Inhabited α] (ov:α→α→Bool) (xs:List α):∀ (m i:Nat),i+m=xs.length→anyF (fun i=>(xs.take i).any (ov (xs.getD i default))) i m=Zo ov (xs.take i) (xs.drop i)
 | 0,i,h=>by rw [List.drop_of_length_le (by omega)]; rfl
 | m+1,i,h=>by
  have hd:xs.drop i=xs.getD i default :: xs.drop (i+1):=by
   rw [List.drop_eq_getElem_cons (show i<xs.length by omega),List.getD_eq_getElem?_getD,List.getElem?_eq_getElem (show i<xs.length by omega)]; rfl
  rw [hd,Zo,anyF,Xj ov xs m (i+1) (by omega),Ti (show i<xs.length by omega)]
theorem Bx {α:Type} (P:α→Bool) (ov:α→α→Bool):∀ (xs seen:List α),Zo (fun x y=>P x&&(P y&&ov x y)) seen xs=Zo ov (seen.filter P) (xs.filter P)
 | [],seen=>rfl
 | x :: xs,seen=>by
  rw [Zo,Bx P ov xs]
  cases h:P x with
  | true =>
   rw [List.filter_cons_of_pos h,Zo,List.filter_append,List.any_filter]
   simp only [Bool.true_and,List.filter_cons_of_pos h,List.filter_nil]
  | false =>
   rw [List.filter_cons_of_neg (by simp [h]),List.filter_append,List.filter_cons_of_neg (by simp [h]),List.filter_nil,List.append_nil]
   simp only [Bool.false_and]
   rw [show seen.any (fun _=>false)=false by simp,Bool.false_or]
theorem Qbd {α γ:Type} (f:α→γ) (ov:γ→γ→Bool):∀ (xs seen:List α),Zo ov (seen.map f) (xs.map f)=Zo (fun x y=>ov (f x) (f y)) seen xs
 | [],_=>rfl
 | x :: xs,seen=>by
  rw [List.map_cons,Zo,Zo,← Qbd f ov xs,List.map_append,List.any_map]; rfl
theorem Qct {α:Type} {ov ov':α→α→Bool} {Q:α→Prop} (h:∀ x y,Q x→Q y→ov x y=ov' x y):∀ (xs seen:List α),(∀ x∈xs,Q x)→(∀ x∈seen,Q x)→Zo ov seen xs=Zo ov' seen xs
 | [],_,_,_=>rfl
 | x :: xs,seen,h1,h2=>by
  have hx:=h1 x List.mem_cons_self
  rw [Zo,Zo,Us (fun y hy=>h x y hx (h2 y hy)),Qct h xs (seen++[x]) (fun y hy=>h1 y (List.mem_cons_of_mem _ hy)) (fun y hy=>by
   rcases List.mem_append.1 hy with hy | hy
   ·exact h2 y hy
   ·rw [List.mem_singleton.1 hy]; exact hx)]
theorem Qgv {α:Type} [Inhabited α] (xs:List α) (p:α→Bool) (i:Nat) (h:i≤xs.length):anyF (fun k=>p (xs.getD k default)) 0 i=(xs.take i).any p:=by
 have hl:(xs.take i).length=i:=by rw [List.length_take]; omega
 have h1:=Wb (xs.take i) p i 0 (by omega)
 rw [List.drop_zero] at h1
 rw [← h1]
 have:∀ (m k:Nat),k+m=i→anyF (fun k=>p (xs.getD k default)) k m=anyF (fun k=>p ((xs.take i).getD k default)) k m:=by
  intro m
  induction m with
  | zero=>intro k _; rfl
  | succ m ih =>
   intro k hk
   rw [anyF,anyF,ih (k+1) (by omega)]
   congr 2
   rw [List.getD_eq_getElem?_getD,List.getD_eq_getElem?_getD,List.getElem?_take,if_pos (by omega)]
 exact this i 0 (by omega)
theorem Qmy (L:Int) (h0:0≤L) (h1:L≤16):F151 L=((2 ^ (16-L.toNat):Nat):Int):=by
 have h3:L=0∨L=1∨L=2∨L=3∨L=4∨L=5∨L=6∨L=7∨L=8∨L=9∨L=10∨L=11∨L=12∨L=13∨L=14∨L=15∨L=16:=by omega
 rcases h3 with rfl | rfl | rfl | rfl | rfl | rfl | rfl | rfl | rfl | rfl | rfl | rfl | rfl | rfl | rfl | rfl | rfl <;> exact of_decide_eq_true rfl
theorem Qis (a L x:Int) (ha:0≤a∧a≤65535) (hL:0≤L∧L≤16):F199 (⟨a,L⟩:NetPrefix) x=decide (a≤x∧x<a+F151 L):=by
 unfold F199 F222
 have hs:=Qji L hL.1 hL.2
 have e:F168 (⟨a,L⟩:NetPrefix)=F151 L:=Qfv a L hL.1 hL.2
 rw [e]
 simp only
 have w1:IntKind.i64.wrap (a+F151 L)=a+F151 L:=Yx (by omega) (by omega)
 have w2:IntKind.i64.wrap (a+F151 L-1)=a+F151 L-1:=Yx (by omega) (by omega)
 rw [w1,w2]
 exact decide_eq_decide.2 (by omega)
theorem Qld (a b n m c:Int) (hm:1≤m) (hn:n=m*c) (ha:n ∣ a) (hb:m ∣ b) (h:a<b+m):a≤b:=by
 obtain ⟨x,rfl⟩:=ha
 obtain ⟨y,rfl⟩:=hb
 subst hn
 have h1:m*(c*x)<m*(y+1):=by rw [Int.mul_add,Int.mul_one,← Int.mul_assoc]; exact h
 have h2:c*x<y+1:=Int.lt_of_mul_lt_mul_left h1 (by omega)
 rw [Int.mul_assoc]
 exact Int.mul_le_mul_of_nonneg_left (by omega) (by omega)
theorem Qll (L M:Int) (h:0≤L∧L≤M∧M≤16):∃ c:Int,F151 L=F151 M*c:=by
 rw [Qmy L h.1 (by omega),Qmy M (by omega) h.2.2]
 refine ⟨((2 ^ (M.toNat-L.toNat):Nat):Int),?_⟩
 rw [← Int.natCast_mul,← Nat.pow_add]
 congr 2
 omega
theorem Ubw {l:List UInt8} {a n:Int} (h:pfxL l=some (a,n)):F151 n ∣ a∧0≤a∧a≤65535∧0≤n∧n≤16:=by
 have hb:=Qhq h
 refine ⟨?_,hb⟩
 unfold pfxL at h
 match hs:Ua 47 l,h with
 | [x,y],h =>
  rw [pfx2] at h
  cases hc:decide (0≤Yd x)&&(in16 (num6 y)&&((Yd x).tmod (F151 (num6 y))==0)) with
  | false=>rw [hc] at h; cases h
  | true =>
   rw [hc] at h
   simp only [cond_true,Option.some.injEq,Prod.mk.injEq] at h
   obtain ⟨rfl,rfl⟩:=h
   simp only [Bool.and_eq_true,beq_iff_eq] at hc
   exact Int.dvd_of_tmod_eq_zero hc.2.2
 | [],h=>cases h
 | [x],h=>cases h
 | x :: y :: z :: r,h=>cases h
theorem Nd (s:ByteArray) (h:F252 s=true):∃ a L:Int,F83 s=((⟨a,L⟩:NetPrefix),true)∧F99 s=(a,F151 L)∧F151 L ∣ a∧(0≤a∧a≤65535)∧(0≤L∧L≤16)∧1≤F151 L∧F151 L≤65536:=by
 rw [Ly] at h
 cases hp:pfxL s.data.toList with
 | none=>rw [hp] at h; cases h
 | some q =>
  obtain ⟨a,L⟩:=q
  have hd:=Ubw hp
  have hs:=Qji L hd.2.2.2.1 hd.2.2.2.2
  exact ⟨a,L,by rw [Bb,hp],by rw [Qax,hp],hd.1,⟨hd.2.1,hd.2.2.1⟩,hd.2.2.2,hs⟩
def ovI (x y:ByteArray):Bool:=F195 (F83 x).1 (F83 y).1 || F195 (F83 y).1 (F83 x).1
def ovS (x y:ByteArray):Bool:=decide ((F99 x).1<IntKind.i64.wrap ((F99 y).1+(F99 y).2))&&decide ((F99 y).1<IntKind.i64.wrap ((F99 x).1+(F99 x).2))
theorem Ugj (x y:ByteArray) (hx:F252 x=true) (hy:F252 y=true):ovI x y=ovS x y:=by
 obtain ⟨a,L,e1,e2,d1,b1,c1,s1⟩:=Nd x hx
 obtain ⟨b,M,f1,f2,d2,b2,c2,s2⟩:=Nd y hy
 unfold ovI ovS F195
 rw [e1,e2,f1,f2]
 simp only [Qis _ _ _ b1 c1,Qis _ _ _ b2 c2,cb1]
 rw [Yx (by omega) (by omega),Yx (by omega) (by omega),← Bool.decide_and,← Bool.decide_and,← Bool.decide_and,← Bool.decide_or]
 refine decide_eq_decide.2 ⟨fun h=>?_,fun h=>?_⟩
 ·rcases h with h | h <;> omega
 ·rcases Int.le_total L M with hl | hl
  ·obtain ⟨c,hc⟩:=Qll L M ⟨c1.1,hl,c2.2⟩
   exact .inr ⟨hl,Qld a b _ _ c s2.1 hc d1 d2 h.1,h.2⟩
  ·obtain ⟨c,hc⟩:=Qll M L ⟨c2.1,hl,c1.2⟩
   exact .inl ⟨hl,Qld b a _ _ c s1.1 hc d2 d1 h.2,h.1⟩
theorem Qoj (lines:List ByteArray):F164 lines=Zo (fun p q=>F195 p q || F195 q p) [] (Qn lines):=by
 unfold F164
 have:=Yn (Vr lines) (Qn lines).length (fun i=>((Qn lines).take i).any (fun q=>F195 ((Qn lines).getD i default) q || F195 q ((Qn lines).getD i default))) true (fun r=>r) false (fun i hi=>by
  simp only [Vr,ltD hi,cond_true,nn]
  exact anyL ((Qn lines).take i) (fun q=>F195 ((Qn lines).getD i default) q || F195 q ((Qn lines).getD i default)) true (Vg lines (i:Int)) (fun j hj=>by
   simp only [Vg,nn,ltD hj,cond_true,cb2]; rfl) (by simp only [Vg,nn,geD,cond_false]) Lp.ret _ _ (fun _=>rfl)) (by simp only [Vr,geD,cond_false]) (Qn lines).length 0 (by omega) (Int.toNat (((Qn lines).length:Int)-0)+1) (by omega)
 rw [Xj (fun p q=>F195 p q || F195 q p) (Qn lines) (Qn lines).length 0 (by omega),List.take_zero,List.drop_zero] at this
 refine Eq.trans this ?_
 cases Zo (fun p q=>F195 p q || F195 q p) [] (Qn lines) <;> rfl
theorem Udz (all:List l52Cut):F68 all=!Zo (fun c e=>hdB c.w Yg&&(hdB e.w Yg&&ovS (c.w.getD 2 default) (e.w.getD 2 default))) [] all:=by
 unfold F68
 have:=Yn (Bt all) all.length (fun i=>(all.take i).any (fun e=>hdB (all.getD i default).w Yg&&(hdB e.w Yg&&ovS ((all.getD i default).w.getD 2 default) (e.w.getD 2 default)))) false (fun r=>r) true (fun i hi=>by
  simp only [Bt,ltD hi,cond_true]
  have h1:=Yn (Gc all (i:Int)) i (fun k=>hdB (all.getD i default).w Yg&&(hdB (all.getD k default).w Yg&&ovS ((all.getD i default).w.getD 2 default) ((all.getD k default).w.getD 2 default))) false (Lp.ret:Bool→Lp Int Bool) (.next ((i+1:Nat):Int)) (fun k hk=>by
   simp only [Gc,ltD hk,cond_true,nn,at0,at2,blit,cb1,cb2]
   show (bif (!(hdB (all.getD i default).w Yg) || !(hdB (all.getD k default).w Yg)) then _ else (bif ovS ((all.getD i default).w.getD 2 default) ((all.getD k default).w.getD 2 default) then _ else _))=_
   cases hdB (all.getD i default).w Yg <;> cases hdB (all.getD k default).w Yg <;> cases ovS ((all.getD i default).w.getD 2 default) ((all.getD k default).w.getD 2 default) <;> rfl) (by
   simp only [Gc,decide_eq_false (show ¬ (i:Int)<(i:Int) by omega),cond_false]) i 0 (by omega) (Int.toNat ((i:Int)-0)+1) (by omega)
  rw [Qgv all (fun e=>hdB (all.getD i default).w Yg&&(hdB e.w Yg&&ovS ((all.getD i default).w.getD 2 default) (e.w.getD 2 default))) i (by omega)] at h1
  exact h1) (by simp only [Bt,geD,cond_false]) all.length 0 (by omega) (Int.toNat ((all.length:Int)-0)+1) (by omega)
 rw [Xj (fun c e=>hdB c.w Yg&&(hdB e.w Yg&&ovS (c.w.getD 2 default) (e.w.getD 2 default))) all all.length 0 (by omega),List.take_zero,List.drop_zero] at this
 refine Eq.trans this ?_
 cases Zo (fun (c e:l52Cut)=>hdB c.w Yg&&(hdB e.w Yg&&ovS (c.w.getD 2 default) (e.w.getD 2 default))) [] all <;> rfl
theorem Qjf (lines:List ByteArray) (h:F64 lines=0):F164 lines=!F68 ((wsL lines).map l52Cut.mk):=by
 rw [Udz,Bool.not_not,Qoj]
 have e1:=Qbd l52Cut.mk (fun (c e:l52Cut)=>hdB c.w Yg&&(hdB e.w Yg&&ovS (c.w.getD 2 default) (e.w.getD 2 default))) (wsL lines) []
 rw [List.map_nil] at e1
 rw [e1]
 have e2:=Bx (fun w:List ByteArray=>hdB w Yg) (fun w v=>ovS (w.getD 2 default) (v.getD 2 default)) (wsL lines) []
 refine Eq.trans ?_ e2.symm
 have e3:=Qbd (fun w:List ByteArray=>(F83 (w.getD 2 default)).1) (fun p q=>F195 p q || F195 q p) (Qa lines (⟨#[112,111,114,116]⟩:ByteArray)) []
 rw [List.map_nil] at e3
 have e4:Qn lines=(Qa lines (⟨#[112,111,114,116]⟩:ByteArray)).map (fun w:List ByteArray=>(F83 (w.getD 2 default)).1):=rfl
 rw [e4,e3,Ys lines h]
 refine Qct (Q:=fun w=>Vm w) (fun w v hw hv=>Ugj _ _ (by unfold Vm at hw; exact hw.2.2.2.2) (by unfold Vm at hv; exact hv.2.2.2.2)) _ [] (fun w hw=>?_) (fun w hw=>by cases hw)
 obtain ⟨h1,h2⟩:=List.mem_filter.1 hw
 exact Qar (Qam lines h w h1) (eq_of_beq h2)
def Ucy (w:List ByteArray) (addr:Int):Bool:=hdB w Yg&&(decide (addr>(F99 (w.getD 2 default)).1)&&decide (addr<IntKind.i64.wrap ((F99 (w.getD 2 default)).1+(F99 (w.getD 2 default)).2)))
theorem Uhb (all:List l52Cut) (addr:Int):F100 all addr=all.any fun c=>Ucy c.w addr:=by
 unfold F100
 have:=anyL all (fun c=>Ucy c.w addr) true (Ve all addr) (fun i hi=>by
  simp only [Ve,ltD hi,cond_true,nn,at0,at2,blit,cb1]
  show (bif hdB (all.getD i default).w Yg then (bif _ then _ else _) else _)=bif (hdB (all.getD i default).w Yg&&_) then _ else _
  cases hdB (all.getD i default).w Yg <;> rfl) (by simp only [Ve,geD,cond_false]) (fun r=>r) (fun i40=>false) false (fun _=>rfl)
 refine this.trans ?_
 cases all.any (fun c=>Ucy c.w addr) <;> rfl
theorem Udx (all:List l52Cut):F69 all=!all.any fun c=>(hdB c.w Qdg&&!F100 all (F78 (c.w.getD 2 default))) || (hdB c.w Qgs&&!F100 all (F78 (c.w.getD 1 default))):=by
 unfold F69
 have:=anyL all (fun c=>(hdB c.w Qdg&&!F100 all (F78 (c.w.getD 2 default))) || (hdB c.w Qgs&&!F100 all (F78 (c.w.getD 1 default)))) false (Gr all) (fun i hi=>by
  simp only [Gr,ltD hi,cond_true,nn,at0,at1,at2,blit]
  show (bif hdB (all.getD i default).w Qdg then (bif !F100 all (F78 ((all.getD i default).w.getD 2 default)) then _ else _) else (bif hdB (all.getD i default).w Qgs then (bif !F100 all (F78 ((all.getD i default).w.getD 1 default)) then _ else _) else _))=_
  cases hr:hdB (all.getD i default).w Qdg with
  | true =>
   have hp:hdB (all.getD i default).w Qgs=false:=by
    rw [hdB,beq_iff_eq] at hr
    rw [hdB,hr]; decide
   rw [hp]
   cases (!F100 all (F78 ((all.getD i default).w.getD 2 default))) <;> rfl
  | false=>cases hdB (all.getD i default).w Qgs <;> cases (!F100 all (F78 ((all.getD i default).w.getD 1 default))) <;> rfl) (by simp only [Gr,geD,cond_false]) (fun r=>r) (fun i40=>true) true (fun _=>rfl)
 refine this.trans ?_
 cases all.any _ <;> rfl
theorem Qew (lines:List ByteArray):F165 lines=(((Qa lines (⟨#[114,111,117,116,101]⟩:ByteArray)).map fun w=>w.getD 2 default)++((Qa lines (⟨#[112,101,101,114]⟩:ByteArray)).map fun w=>w.getD 1 default)).any fun x0=>F196 x0 (Qn lines):=by
 have h0:Hd lines=Lp.done ((Qa lines (⟨#[114,111,117,116,101]⟩:ByteArray)).map fun w=>w.getD 2 default):=by
  unfold Hd
  have:=Yc (Qa lines (⟨#[114,111,117,116,101]⟩:ByteArray)) (fun (s:List ByteArray) w=>s++[w.getD 2 default]) (fun s i=>(s,i)) (Vj lines) (fun i s hi=>by
   simp only [Vj,ltD hi,cond_true,nn]; rfl) (fun s=>by simp only [Vj,geD,cond_false]) Lp.ret (fun (addrs1,v13)=>Lp.done addrs1) []
  refine this.trans ?_
  rw [Zv,List.nil_append]
 have h1:∀ a,Xr lines a=Lp.done (a++(Qa lines (⟨#[112,101,101,114]⟩:ByteArray)).map fun w=>w.getD 1 default):=fun a=>by
  unfold Xr
  have:=Yc (Qa lines (⟨#[112,101,101,114]⟩:ByteArray)) (fun (s:List ByteArray) w=>s++[w.getD 1 default]) (fun s i=>(s,i)) (Vw lines a) (fun i s hi=>by
   simp only [Vw,ltD hi,cond_true,nn]; rfl) (fun s=>by simp only [Vw,geD,cond_false]) Lp.ret (fun (addrs3,v27)=>Lp.done addrs3) a
  refine this.trans ?_
  rw [Zv]
 unfold F165
 rw [h0]
 show (Xr lines _).fin _ _=_
 rw [h1]; rfl
theorem Qga (lines:List ByteArray) (h:F64 lines=0) (t:ByteArray):F196 t (Qn lines)=!F100 ((wsL lines).map l52Cut.mk) (F78 t):=by
 rw [Uhb,Bn]
 unfold F196
 rw [Ry]
 congr 1
 have e4:Qn lines=(Qa lines (⟨#[112,111,114,116]⟩:ByteArray)).map (fun w:List ByteArray=>(F83 (w.getD 2 default)).1):=rfl
 rw [e4,List.any_map,Ys lines h,List.any_filter]
 refine Us fun w hw=>?_
 show (hdB w Yg&&_)=(hdB w Yg&&_)
 cases hp:hdB w Yg with
 | false=>rfl
 | true =>
  have hpp:=Qar (Qam lines h w hw) (eq_of_beq hp)
  obtain ⟨a,L,e1,e2,d1,b1,c1,s1⟩:=Nd (w.getD 2 default) (by unfold Vm at hpp; exact hpp.2.2.2.2)
  rw [Bool.true_and,Bool.true_and]
  show F198 (F83 (w.getD 2 default)).1 (F78 t)=_
  unfold F198
  rw [e1,e2,Qis _ _ _ b1 c1,cb1,Yx (by simp only; omega) (by simp only; omega),neI]
  simp only
  rw [← decide_not,← Bool.decide_and,← Bool.decide_and]
  exact decide_eq_decide.2 (by omega)
theorem Qae (lines:List ByteArray) (h:F64 lines=0):F165 lines=!F69 ((wsL lines).map l52Cut.mk):=by
 rw [Udx,Bool.not_not,Bn,Qew,List.any_append,Qnz,List.any_map,List.any_map,Ys lines h,Ys lines h,List.any_filter,List.any_filter]
 congr 1
 ·refine Us fun w hw=>?_
  show (hdB w Qdg&&F196 (w.getD 2 default) (Qn lines))=_
  rw [Qga lines h]
 ·refine Us fun w hw=>?_
  show (hdB w Qgs&&F196 (w.getD 1 default) (Qn lines))=_
  rw [Qga lines h]
theorem Qaz {α ρ τ:Type} [Inhabited α] (xs:List α) (P:α→Bool) (B:Nat→Bool) (bad:ρ) (step:Int×Int→Lp (Int×Int) ρ)
  (h1:∀ (i:Nat) (n:Int),i<xs.length→step (n,(i:Int))=bif P (xs.getD i default) then (bif B i then .ret bad else .next (n+1,((i+1:Nat):Int))) else .next (n,((i+1:Nat):Int)))
  (h2:∀ n:Int,step (n,(xs.length:Int))=.done (n,(xs.length:Int))) (f:ρ→τ) (g:Int×Int→τ) :
  ∀ (m i:Nat) (n:Int),i+m=xs.length→∀ fuel,m<fuel→(runL step fuel (n,(i:Int))).fin f g=bif anyF (fun i=>P (xs.getD i default)&&B i) i m then f bad else g (n+(((xs.drop i).filter P).length:Int),(xs.length:Int))
 | m,i,_,_,0,hf=>absurd hf (Nat.not_lt_zero _)
 | 0,i,n,h,fuel+1,hf=>by
  obtain rfl:i=xs.length:=by omega
  rw [Ky _ (h2 n),List.drop_of_length_le (Nat.le_refl _)]
  show g _=g _
  simp
 | m+1,i,n,h,fuel+1,hf=>by
  have hst:=h1 i n (by omega)
  have hd:xs.drop i=xs.getD i default :: xs.drop (i+1):=by
   rw [List.drop_eq_getElem_cons (show i<xs.length by omega),List.getD_eq_getElem?_getD,List.getElem?_eq_getElem (show i<xs.length by omega)]; rfl
  rw [anyF,hd]
  cases hp:P (xs.getD i default) with
  | false =>
   rw [hp,cond_false] at hst
   rw [Ye _ hst,Qaz xs P B bad step h1 h2 f g m (i+1) _ (by omega) fuel (by omega),List.filter_cons_of_neg (by rw [hp]; exact Bool.false_ne_true)]
   simp
  | true =>
   rw [hp,cond_true] at hst
   rw [Bool.true_and]
   cases hb:B i with
   | true=>rw [hb,cond_true] at hst; rw [Zp _ hst]; rfl
   | false =>
    rw [hb,cond_false] at hst
    rw [Ye _ hst,Qaz xs P B bad step h1 h2 f g m (i+1) _ (by omega) fuel (by omega),List.filter_cons_of_pos hp,Bool.false_or,List.length_cons]
    congr 2
    rw [Int.natCast_add,Int.add_assoc,Int.add_comm (1:Int)]; rfl
theorem Qqa {α:Type} [Inhabited α] (p:α→Bool) (xs:List α):(idxI p xs<0↔xs.filter p=[])∧(0≤idxI p xs→xs.getD (idxI p xs).toNat default=(xs.filter p).getD 0 default):=by
 unfold idxI
 cases h:first (fun k=>p (xs.getD k default)) xs.length with
 | none =>
  have h1:=first_none.1 h
  refine ⟨⟨fun _=>?_,fun _=>by decide⟩,fun h=>absurd h (by decide)⟩
  rw [List.filter_eq_nil_iff]
  intro x hx
  obtain ⟨k,hk,rfl⟩:=Wp hx
  rw [h1 k hk]; exact Bool.false_ne_true
 | some k =>
  obtain ⟨h1,h2,h3⟩:=first_some.1 h
  have hs:xs.filter p=xs.getD k default :: (xs.drop (k+1)).filter p:=by
   have e:xs=xs.take k++xs.getD k default :: xs.drop (k+1):=by
    rw [Wk _ h1,← List.drop_eq_getElem_cons h1,List.take_append_drop]
   have h4:(xs.take k).filter p=[]:=by
    rw [List.filter_eq_nil_iff]
    intro x hx
    obtain ⟨j,hj,rfl⟩:=Wp hx
    have hl:j<k:=by rw [List.length_take] at hj; omega
    rw [List.getD_eq_getElem?_getD,List.getElem?_take,if_pos hl,← List.getD_eq_getElem?_getD]
    rw [h3 j hl]; exact Bool.false_ne_true
   conv=>lhs; rw [e]
   rw [List.filter_append,h4,List.nil_append,List.filter_cons_of_pos h2]
  refine ⟨⟨fun h=>absurd h (by show ¬ ((k:Int)<0); omega),fun h=>by rw [hs] at h; cases h⟩,fun _=>?_⟩
  rw [hs]
  show xs.getD (k:Int).toNat default=xs.getD k default
  rw [nn]
theorem Qkb (p q:Nat→Bool):∀ (m i:Nat),anyF (fun k=>p k || q k) i m=(anyF p i m || anyF q i m)
 | 0,_=>rfl
 | m+1,i=>by
  rw [anyF,anyF,anyF,Qkb p q m (i+1)]
  cases p i <;> cases q i <;> simp
theorem Qdo {p q:Nat→Bool}:∀ (m i:Nat),(∀ k,i≤k→k<i+m→p k=q k)→anyF p i m=anyF q i m
 | 0,_,_=>rfl
 | m+1,i,h=>by rw [anyF,anyF,h i (Nat.le_refl _) (by omega),Qdo m (i+1) fun k h1 h2=>h k (by omega) (by omega)]
def badD (a n lo hi:Int) (d:List ByteArray):Bool:=(decide (F78 (d.getD 3 default)<a) || decide (F78 (d.getD 3 default)≥a+n)) || decide (lo≤F79 (d.getD 2 default)∧F79 (d.getD 2 default)≤hi)
def Xc (x y:List ByteArray):Bool:=(((y.getD 1 default).toList==(x.getD 1 default).toList)&&((y.getD 3 default).toList==(x.getD 3 default).toList))&&((y.getD 4 default).toList==(x.getD 4 default).toList)
theorem Uib (all:List l52Cut) (i:Nat) (hi:i<all.length) (nat:l52Cut) (a n:Int) (hp:F99 (nat.w.getD 1 default)=(a,n)) (hb:0≤a∧a≤65535∧1≤n∧n≤65536) :
  F102 all (i:Int) nat=!(badD a n (F79 (nat.w.getD 3 default)) (F79 (nat.w.getD 4 default)) (all.getD i default).w || (all.take i).any fun e=>hdB e.w Uk&&Xc (all.getD i default).w e.w):=by
 unfold F102
 simp only [at1,at2,at3,at4,nn,hp,cb2]
 rw [Yx (by omega) (by omega)]
 have h1:=Yn (Vi all (i:Int) nat) i (fun k=>hdB (all.getD k default).w Uk&&Xc (all.getD i default).w (all.getD k default).w) false (fun r=>r) true (fun k hk=>by
  simp only [Vi,ltD hk,cond_true,nn,at0,at1,at3,at4,cb1]
  show (bif (((_&&_)&&_)&&_) then _ else _)=bif (hdB (all.getD k default).w Uk&&((_&&_)&&_)) then _ else _
  rw [blit,Bool.and_assoc,Bool.and_assoc,Bool.and_assoc]; rfl) (by simp only [Vi,decide_eq_false (show ¬ (i:Int)<(i:Int) by omega),cond_false]) i 0 (by omega) (Int.toNat ((i:Int)-0)+1) (by omega)
 rw [Qgv all (fun e=>hdB e.w Uk&&Xc (all.getD i default).w e.w) i (by omega)] at h1
 rw [Bool.not_or]
 show (bif badD a n _ _ _ then false else _)=_
 refine (congrArg (fun z=>bif badD a n (F79 (nat.w.getD 3 default)) (F79 (nat.w.getD 4 default)) (all.getD i default).w then false else z) h1).trans ?_
 cases badD a n (F79 (nat.w.getD 3 default)) (F79 (nat.w.getD 4 default)) (all.getD i default).w <;> cases ((all.take i).any fun e=>hdB e.w Uk&&Xc (all.getD i default).w e.w) <;> rfl
def Qiu (a n lo hi:Int) (ds:List (List ByteArray)):Bool:=ds.any (badD a n lo hi) || Zo Xc [] ds
theorem Qey (ws:List (List ByteArray)):F70 (ws.map l52Cut.mk)=match ws.filter (fun w=>hdB w hNat) with
  | []=>!(ws.any fun w=>hdB w Uk)
  | w :: _=>bif anyF (fun i=>hdB ((ws.map l52Cut.mk).getD i default).w Uk&&!F102 (ws.map l52Cut.mk) (i:Int) ⟨w⟩) 0 ws.length then false else
    ((decide (((ws.filter fun w=>hdB w Uk).length:Int)≤6)&&(decide (F78 (w.getD 2 default)<(F99 (w.getD 1 default)).1) || decide (F78 (w.getD 2 default)≥IntKind.i64.wrap ((F99 (w.getD 1 default)).1+(F99 (w.getD 1 default)).2))))&&decide (F79 (w.getD 3 default)≤F79 (w.getD 4 default))):=by
 generalize hall:ws.map l52Cut.mk=all
 have hlen:all.length=ws.length:=by rw [← hall,List.length_map]
 have hidx:=Qqa (fun c=>((F77 c 0).toList==(⟨#[110,97,116]⟩:ByteArray).toList)) all
 have hnf:all.filter (fun c=>((F77 c 0).toList==(⟨#[110,97,116]⟩:ByteArray).toList))=(ws.filter fun w=>hdB w hNat).map l52Cut.mk:=by
  rw [← hall,List.filter_map]
  congr 2
  funext w
  show ((F77 ⟨w⟩ 0).toList==_)=_
  rw [at0,blit]; rfl
 rw [hnf] at hidx
 have hdf:all.filter (fun c=>hdB c.w Uk)=(ws.filter fun w=>hdB w Uk).map l52Cut.mk:=by
  rw [← hall,List.filter_map]; rfl
 have e211:F101 all=idxI (fun c=>((F77 c 0).toList==(⟨#[110,97,116]⟩:ByteArray).toList)) all:=as101 all
 unfold F70
 generalize hk:idxI (fun c=>((F77 c 0).toList==(⟨#[110,97,116]⟩:ByteArray).toList)) all=k at hidx
 have hloop:=Qaz all (fun c=>hdB c.w Uk) (fun i=>decide (k<0) || !F102 all (i:Int) (all.getD (Int.toNat k) default)) false (Gl all) (fun i n hi=>by
  simp only [Gl,ltD hi,cond_true,nn,hk,e211]
  simp only [at0,blit,cb2]
  show (bif !(hdB (all.getD i default).w Uk) then _ else _)=bif hdB (all.getD i default).w Uk then _ else _
  cases hdB (all.getD i default).w Uk <;> rfl) (fun n=>by simp only [Gl,geD,cond_false]) (fun r=>r)
  (fun (doors,i40)=>bif (decide (k<0)) then true else (((decide (doors≤6)&&(decide (F78 ((all.getD k.toNat default).w.getD 2 default)<(F99 ((all.getD k.toNat default).w.getD 1 default)).1) || decide (F78 ((all.getD k.toNat default).w.getD 2 default)≥IntKind.i64.wrap ((F99 ((all.getD k.toNat default).w.getD 1 default)).1+(F99 ((all.getD k.toNat default).w.getD 1 default)).2)))))&&decide (F79 ((all.getD k.toNat default).w.getD 3 default)≤F79 ((all.getD k.toNat default).w.getD 4 default)))) all.length 0 0 (by omega) (Int.toNat ((all.length:Int)-0)+1) (by omega)
 simp only [hk,e211]
 simp only [at1,at2,at3,at4,cb1,cb2]
 refine Eq.trans hloop ?_
 rw [List.drop_zero,hdf,List.length_map,hlen]
 cases hn:ws.filter (fun w=>hdB w hNat) with
 | nil =>
  rw [hn] at hidx
  have hk0:=hidx.1.2 rfl
  simp only [decide_eq_true hk0,Bool.true_or,Bool.and_true,cond_true]
  have:=Wb all (fun c=>hdB c.w Uk) all.length 0 (by omega)
  rw [List.drop_zero,hlen] at this
  rw [this,← hall,List.any_map]
  show (bif ws.any (fun w=>hdB w Uk) then false else true)=!ws.any fun w=>hdB w Uk
  cases ws.any fun w=>hdB w Uk <;> rfl
 | cons w r =>
  rw [hn] at hidx
  have hk0:¬ k<0:=fun h=>by have:=hidx.1.1 h; cases this
  have hw:all.getD k.toNat default=⟨w⟩:=(hidx.2 (by omega)).trans rfl
  simp only [decide_eq_false hk0,Bool.false_or,cond_false,hw]
  rw [Int.zero_add]
theorem Qmu (lines:List ByteArray) (w:List ByteArray) (r:List (List ByteArray)) (hn:Qa lines (⟨#[110,97,116]⟩:ByteArray)=w :: r) :
  F166 lines=(((F199 (F83 (w.getD 1 default)).1 (F43 (w.getD 2 default)) || decide (F44 (w.getD 3 default)>F44 (w.getD 4 default))) || decide (((Qa lines (⟨#[100,111,111,114]⟩:ByteArray)).length:Int)>6)) ||
   ((Qa lines (⟨#[100,111,111,114]⟩:ByteArray)).any (fun d=>!F199 (F83 (w.getD 1 default)).1 (F43 (d.getD 3 default)) || decide (F44 (w.getD 3 default)≤F44 (d.getD 2 default)∧F44 (d.getD 2 default)≤F44 (w.getD 4 default))) || Zo Xc [] (Qa lines (⟨#[100,111,111,114]⟩:ByteArray)))):=by
 unfold F166
 have e0:((Qa lines (⟨#[110,97,116]⟩:ByteArray)).getD (Int.toNat 0) default)=w:=by rw [hn]; rfl
 have hl:((((Qa lines (⟨#[110,97,116]⟩:ByteArray)).length:Int)==0))=false:=by rw [hn,beq_eq_false_iff_ne,List.length_cons]; omega
 rw [hl,cond_false]
 simp only [e0,cb2]
 generalize hds:Qa lines (⟨#[100,111,111,114]⟩:ByteArray)=ds
 have hloop:=Yn (Vk lines) ds.length (fun i=>(!F199 (F83 (w.getD 1 default)).1 (F43 ((ds.getD i default).getD 3 default)) || decide (F44 (w.getD 3 default)≤F44 ((ds.getD i default).getD 2 default)∧F44 ((ds.getD i default).getD 2 default)≤F44 (w.getD 4 default))) || (ds.take i).any (Xc (ds.getD i default))) true (fun r=>r) false (fun i hi=>by
  simp only [Vk,hds,ltD hi,cond_true,nn,e0,cb2]
  have h1:=anyL (ds.take i) (Xc (ds.getD i default)) true (Vv lines (i:Int)) (fun j hj=>by
   simp only [Vv,hds,nn,ltD hj,cond_true,cb1]; rfl) (by simp only [Vv,hds,nn,geD,cond_false]) (Lp.ret:Bool→Lp Int Bool) (fun v89=>.next ((i:Int)+1)) (.next ((i:Int)+1)) (fun _=>rfl)
  rw [h1]
  show (bif (!F199 (F83 (w.getD 1 default)).1 (F43 ((ds.getD i default).getD 3 default)) || decide (F44 (w.getD 3 default)≤F44 ((ds.getD i default).getD 2 default)∧F44 ((ds.getD i default).getD 2 default)≤F44 (w.getD 4 default))) then _ else _)=_
  cases (!F199 (F83 (w.getD 1 default)).1 (F43 ((ds.getD i default).getD 3 default)) || decide (F44 (w.getD 3 default)≤F44 ((ds.getD i default).getD 2 default)∧F44 ((ds.getD i default).getD 2 default)≤F44 (w.getD 4 default))) <;> cases ((ds.take i).any (Xc (ds.getD i default))) <;> rfl) (by simp only [Vk,hds,geD,cond_false]) ds.length 0 (by omega) (Int.toNat ((ds.length:Int)-0)+1) (by omega)
 rw [Qkb,Xj Xc ds ds.length 0 (by omega),List.take_zero,List.drop_zero] at hloop
 have h2:=Wb ds (fun d=>(!F199 (F83 (w.getD 1 default)).1 (F43 (d.getD 3 default)) || decide (F44 (w.getD 3 default)≤F44 (d.getD 2 default)∧F44 (d.getD 2 default)≤F44 (w.getD 4 default)))) ds.length 0 (by omega)
 rw [List.drop_zero] at h2
 rw [h2] at hloop
 refine (congrArg (fun z=>bif ((F199 (F83 (w.getD 1 default)).1 (F43 (w.getD 2 default)) || decide (F44 (w.getD 3 default)>F44 (w.getD 4 default))) || decide ((ds.length:Int)>6)) then true else z) hloop).trans ?_
 rw [cb2]
 congr 1
 cases ((ds.any fun d=>!F199 (F83 (w.getD 1 default)).1 (F43 (d.getD 3 default)) || decide (F44 (w.getD 3 default)≤F44 (d.getD 2 default)∧F44 (d.getD 2 default)≤F44 (w.getD 4 default))) || Zo Xc [] ds) <;> rfl
theorem Qeu (lines:List ByteArray) (h:F64 lines=0):F166 lines=!F70 ((wsL lines).map l52Cut.mk):=by
 rw [Qey]
 have hN:Qa lines (⟨#[110,97,116]⟩:ByteArray)=(wsL lines).filter fun w=>hdB w hNat:=Ys lines h _
 have hD:Qa lines (⟨#[100,111,111,114]⟩:ByteArray)=(wsL lines).filter fun w=>hdB w Uk:=Ys lines h _
 cases hn:(wsL lines).filter fun w=>hdB w hNat with
 | nil =>
  rw [hn] at hN
  unfold F166
  rw [hN,hD]
  show decide ((((wsL lines).filter fun w=>hdB w Uk).length:Int)>0)=!!_
  rw [Bool.not_not,Bool.eq_iff_iff,decide_eq_true_eq,List.any_eq_true]
  constructor
  ·intro hl
   have hl:0<((wsL lines).filter fun w=>hdB w Uk).length:=by omega
   have:=List.mem_filter.1 (List.getElem_mem hl)
   exact ⟨_,this.1,this.2⟩
  ·rintro ⟨x,hx,hp⟩
   have:=List.length_pos_of_mem (List.mem_filter.2 ⟨hx,hp⟩:x∈(wsL lines).filter fun w=>hdB w Uk)
   omega
 | cons w r =>
  have hwm:w∈(wsL lines).filter fun w=>hdB w hNat:=by rw [hn]; exact List.mem_cons_self
  rw [hn] at hN
  obtain ⟨hw1,hw2⟩:=List.mem_filter.1 hwm
  have hnp:=Uas (Qam lines h w hw1) (eq_of_beq hw2)
  unfold natP at hnp
  obtain ⟨a,L,e1,e2,d1,b1,c1,s1⟩:=Nd (w.getD 1 default) hnp.2.2.1
  rw [Qmu lines w r hN]
  simp only [e1,e2,Qis _ _ _ b1 c1,Wm,Ry]
  rw [Yx (by omega) (by omega),hD]
  have hdoor:anyF (fun i=>hdB (((wsL lines).map l52Cut.mk).getD i default).w Uk&&!F102 ((wsL lines).map l52Cut.mk) (i:Int) ⟨w⟩) 0 (wsL lines).length=Qiu a (F151 L) (F79 (w.getD 3 default)) (F79 (w.getD 4 default)) ((wsL lines).filter fun w=>hdB w Uk):=by
   have hc:=Qdo (p:=fun i=>hdB (((wsL lines).map l52Cut.mk).getD i default).w Uk&&!F102 ((wsL lines).map l52Cut.mk) (i:Int) ⟨w⟩) (q:=fun i=>(hdB ((wsL lines).getD i default) Uk&&badD a (F151 L) (F79 (w.getD 3 default)) (F79 (w.getD 4 default)) ((wsL lines).getD i default)) || ((wsL lines).take i).any (fun e=>hdB ((wsL lines).getD i default) Uk&&(hdB e Uk&&Xc ((wsL lines).getD i default) e))) (wsL lines).length 0 (fun k _ hk=>by
    have hk:k<(wsL lines).length:=by omega
    have hg:((wsL lines).map l52Cut.mk).getD k default=⟨(wsL lines).getD k default⟩:=Tt _ _ _ hk
    rw [Uib _ k (by simpa using hk) ⟨w⟩ a _ e2 ⟨b1.1,b1.2,s1⟩,Bool.not_not,hg,← List.map_take,Bn]
    show (hdB ((wsL lines).getD k default) Uk&&_)=_
    cases hdB ((wsL lines).getD k default) Uk with
    | true=>simp only [Bool.true_and]
    | false =>
     simp only [Bool.false_and]
     rw [show ((wsL lines).take k).any (fun _=>false)=false by simp]; rfl)
   rw [hc,Qkb,Xj (fun x e=>hdB x Uk&&(hdB e Uk&&Xc x e)) (wsL lines) (wsL lines).length 0 (by omega),List.take_zero,List.drop_zero,Bx]
   have h3:=Wb (wsL lines) (fun d=>hdB d Uk&&badD a (F151 L) (F79 (w.getD 3 default)) (F79 (w.getD 4 default)) d) (wsL lines).length 0 (by omega)
   rw [List.drop_zero] at h3
   rw [h3]
   unfold Qiu
   rw [List.any_filter]; rfl
  rw [hdoor]
  have hbd:((wsL lines).filter fun w=>hdB w Uk).any (fun d=>!decide (a≤F78 (d.getD 3 default)∧F78 (d.getD 3 default)<a+F151 L) || decide (F79 (w.getD 3 default)≤F79 (d.getD 2 default)∧F79 (d.getD 2 default)≤F79 (w.getD 4 default)))=((wsL lines).filter fun w=>hdB w Uk).any (badD a (F151 L) (F79 (w.getD 3 default)) (F79 (w.getD 4 default))):=Us fun d _=>by
   unfold badD
   congr 1
   rw [← decide_not,← Bool.decide_or]
   exact decide_eq_decide.2 (by omega)
  rw [hbd]
  show (_ || Qiu a (F151 L) (F79 (w.getD 3 default)) (F79 (w.getD 4 default)) ((wsL lines).filter fun w=>hdB w Uk))=_
  have g1:decide (a≤F78 (w.getD 2 default)∧F78 (w.getD 2 default)<a+F151 L)=!(decide (F78 (w.getD 2 default)<a) || decide (F78 (w.getD 2 default)≥a+F151 L)):=by
   rw [← Bool.decide_or,← decide_not]
   exact decide_eq_decide.2 (by omega)
  have g2:decide (F79 (w.getD 3 default)>F79 (w.getD 4 default))=!decide (F79 (w.getD 3 default)≤F79 (w.getD 4 default)):=by
   rw [← decide_not]
   exact decide_eq_decide.2 (by omega)
  have g3:decide ((((wsL lines).filter fun w=>hdB w Uk).length:Int)>6)=!decide ((((wsL lines).filter fun w=>hdB w Uk).length:Int)≤6):=by
   rw [← decide_not]
   exact decide_eq_decide.2 (by omega)
  rw [g1,g2,g3]
  generalize (decide (F78 (w.getD 2 default)<a) || decide (F78 (w.getD 2 default)≥a+F151 L))=x1,decide (F79 (w.getD 3 default)≤F79 (w.getD 4 default))=x2,decide ((((wsL lines).filter fun w=>hdB w Uk).length:Int)≤6)=x3,Qiu a (F151 L) (F79 (w.getD 3 default)) (F79 (w.getD 4 default)) ((wsL lines).filter fun w=>hdB w Uk)=x4
  cases x1 <;> cases x2 <;> cases x3 <;> cases x4 <;> rfl
theorem Qxm (lines:List ByteArray) (hz:∀ k:Nat,(lines.getD k default).size≤1048576) (h:F161 lines=0):F64 lines=0∧lines.length≤16∧∀ k:Nat,(lines.getD k default).size≤1048576:=by
 rw [Qfw] at h
 exact ⟨h,Gv lines h,hz⟩
theorem Qaq (lines:List ByteArray) (hz:∀ k:Nat,(lines.getD k default).size≤1048576):∀ k j:Nat,(((lines.map (fun l=>(⟨(F97 l).1⟩:l52Cut))).getD k default).w.getD j default).size≤1048576:=fun k j=>by
 by_cases hk:k<lines.length
 ·rw [Tt _ _ _ hk]
  exact Qb (lines.getD k default) j
 ·have e:(lines.map (fun l=>(⟨(F97 l).1⟩:l52Cut))).getD k default=default:=by
   rw [List.getD_eq_getElem?_getD,List.getElem?_eq_none (by rw [List.length_map]; omega)]; rfl
  rw [e]
  exact Nat.zero_le _
theorem kc161 (lines:List ByteArray) {K_:Prop} (p0_:∀ k:Nat,(lines.getD k default).size≤1048576) (k_:K_):(∀ k:Nat,(lines.getD k default).size≤1048576)∧(Imp (.l 1 eStr lines) (.l 1 eStr lines))∧K_:=⟨p0_,Imp.refl _,k_⟩
abbrev kh161 (lines:List ByteArray):Hint false Tryz.prog:=.call 161 (S161 lines) (ok161 lines) none
def En (p:(List ByteArray)→Bool):Uv:=⟨List ByteArray,fun i=>[.c (.x (PX (.l 1 eStr i) (F64 i=0∧i.length≤16∧∀ k:Nat,(i.getD k default).size≤1048576)))],fun i=>.bool (p i)⟩
def Qkv (p:(List ByteArray)→Bool):List Dat:=[.x (FnX Tryz.prog (En p))]
def fh162:FnH Tryz.prog:=⟨false,162,En (fun x0=>F162 x0),[],rfl,True,fun i=>Bf (ok162 i)⟩
theorem ca162:Uc Tryz.prog 162=true:=by kernel_rfl
def fh163:FnH Tryz.prog:=⟨false,163,En (fun x0=>F163 x0),[],rfl,True,fun i=>Bf (ok163 i)⟩
theorem ca163:Uc Tryz.prog 163=true:=by kernel_rfl
def fh164:FnH Tryz.prog:=⟨false,164,En (fun x0=>F164 x0),[],rfl,True,fun i=>Bf (ok164 i)⟩
theorem ca164:Uc Tryz.prog 164=true:=by kernel_rfl
def fh165:FnH Tryz.prog:=⟨false,165,En (fun x0=>F165 x0),[],rfl,True,fun i=>Bf (ok165 i)⟩
theorem ca165:Uc Tryz.prog 165=true:=by kernel_rfl
def fh166:FnH Tryz.prog:=⟨false,166,En (fun x0=>F166 x0),[],rfl,True,fun i=>Bf (ok166 i)⟩
theorem ca166:Uc Tryz.prog 166=true:=by kernel_rfl
def Zt (lines:List ByteArray):Int→Lp Int Int:=fun v13 =>
 bif (decide (v13<(([(fun x0=>F162 x0),(fun x0=>F163 x0),(fun x0=>F164 x0),(fun x0=>F165 x0),(fun x0=>F166 x0)]:List ((List ByteArray)→Bool)).length:Int))) then (bif ((([(fun x0=>F162 x0),(fun x0=>F163 x0),(fun x0=>F164 x0),(fun x0=>F165 x0),(fun x0=>F166 x0)]:List ((List ByteArray)→Bool)).getD v13.toNat default) lines) then (.ret (5+v13)) else (.next (v13+1))) else (.done v13)
def F119 (lines:List ByteArray):Int :=
 bif ((F161 lines) != 0) then (F161 lines) else ((runL (Zt lines) (((([(fun x0=>F162 x0),(fun x0=>F163 x0),(fun x0=>F164 x0),(fun x0=>F165 x0),(fun x0=>F166 x0)]:List ((List ByteArray)→Bool)).length:Int)-0).toNat+1) 0).fin (fun r=>r) (fun v13=>0))
abbrev Mu:Nat×Int:=((((([(fun x0=>F162 x0),(fun x0=>F163 x0),(fun x0=>F164 x0),(fun x0=>F165 x0),(fun x0=>F166 x0)]:List ((List ByteArray)→Bool)).length:Int)-0).toNat+1),0)
abbrev Qij (m39:Nat) (v13:Int):Prop:=(Int.toNat ((([(fun x0=>F162 x0),(fun x0=>F163 x0),(fun x0=>F164 x0),(fun x0=>F165 x0),(fun x0=>F166 x0)]:List ((List ByteArray)→Bool)).length:Int)-v13)<m39)∧(0:Int)≤v13
abbrev Qsv (lines:List ByteArray):Lp Int Int:=LpX (Zt lines) (Mu)
abbrev Ns (lines:List ByteArray) (i:Nat×Int):Prop:=LpJ (Zt lines) (Mu) i (Qij i.1 i.2)
abbrev Qvt (lines:List ByteArray) (i:Nat×Int) (m39:Nat) (v13:Int):Prop:=LpH (Zt lines) (Mu) i m39 v13 (Qij (m39+1) v13)
abbrev Qqy (lines:List ByteArray) (v13:Int) (v13_:Int) (K39:Prop):Prop:=(Rf (.int .i64 (([(fun x0=>F162 x0),(fun x0=>F163 x0),(fun x0=>F164 x0),(fun x0=>F165 x0),(fun x0=>F166 x0)]:List ((List ByteArray)→Bool)).length:Int)))∧((.int .i64 v13:Value)=.int .i64 v13_)∧(Im (.l 1 eStr lines))∧(Im (.l 1 Qkv ([(fun x0=>F162 x0),(fun x0=>F163 x0),(fun x0=>F164 x0),(fun x0=>F165 x0),(fun x0=>F166 x0)]:List ((List ByteArray)→Bool))))∧K39
theorem Ukk (lines:List ByteArray) (i:Nat×Int) (h:Ns lines i):Qvt lines i (i.1-1) i.2:=⟨hd1 h.1 h.2.1,hd3 h.2.1,hd2 h.2.1,h.2.2⟩
theorem Uhj (lines:List ByteArray) (i:Nat×Int) (m39:Nat) (v13:Int) (hl:m39<i.1) (e:runL (Zt lines) m39 v13=Qsv lines) (h:Qij m39 v13):∃ j:Nat×Int,Qqy lines v13 j.2 (Ns lines j∧j.1<i.1):=⟨(m39,v13),rfl,rfl,Imp.refl _,Imp.refl _,⟨e,h⟩,hl⟩
theorem Uiu (lines:List ByteArray) (h:(0:Int)≤0):Qqy lines 0 0 (Ns lines (Mu)):=⟨rfl,rfl,Imp.refl _,Imp.refl _,rfl,Nat.lt_succ_self _,h⟩
def S119 (lines:List ByteArray):Spec:=⟨[.r (.c (.l 1 eStr lines))],.v (vI (F119 lines)),lines.length≤1048576∧(∀ k:Nat,(lines.getD k default).size≤1048576)⟩
theorem ok119 (lines:List ByteArray):(S119 lines).ok Tryz.prog 119 false :=
 Qg mixed (fn:=Tryz.f119) (ct:=.seqk [(0,0)] .no (.seq (.seq (.reg [(1,kh161 lines)]) (.seq .no (.cond (.seq .no .no) .no))) (.seq (.seqk [(0,0),(11,0)] (.reg [(0,.dat (.l 1 Qkv ([(fun x0=>F162 x0),(fun x0=>F163 x0),(fun x0=>F164 x0),(fun x0=>F165 x0),(fun x0=>F166 x0)]:List ((List ByteArray)→Bool))))]) (.blk (.loop (ι:=Nat×Int) (fun i=>(fun (v13:Int)=>(⟨[(0,some (.h 0 0)),(11,some (.h 1 0)),(12,some (.v (vI (([(fun x0=>F162 x0),(fun x0=>F163 x0),(fun x0=>F164 x0),(fun x0=>F165 x0),(fun x0=>F166 x0)]:List ((List ByteArray)→Bool)).length:Int)))),(13,some (.v (vI v13)))],[(0,some (.shr none (.l 1 eStr lines))),(1,some (.own 1 (.l 1 Qkv ([(fun x0=>F162 x0),(fun x0=>F163 x0),(fun x0=>F164 x0),(fun x0=>F165 x0),(fun x0=>F166 x0)]:List ((List ByteArray)→Bool)))))],2⟩:St)) i.2) (Ns lines) (fun i=>i.1) (Mu) (fun i=>(fun (v13:Int)=>(.seq .no (.seq (.cond .no .no) (.seq (.blk (.seq .no (.seq (.reg [(2,.fnv (En (([(fun x0=>F162 x0),(fun x0=>F163 x0),(fun x0=>F164 x0),(fun x0=>F165 x0),(fun x0=>F166 x0)]:List ((List ByteArray)→Bool)).getD v13.toNat default)) lines)]) (.cond (.seq (.reg [(1,.bnd)]) .no) .no)))) (.reg [(0,.bnd)]))))) i.2)))) (.seq .no .no)))) Tryz.func119 (fun (hp:lines.length≤1048576∧(∀ k:Nat,(lines.getD k default).size≤1048576))=>have hpre0:=hp.1; have hpre1:=hp.2; kn lines fun _=>kc161 lines (by first | assumption | exact hpre1 _ | exact fun k _=>hpre1 k | (intros; exact trivial) | (intros; exact Nat.zero_le _)) (ifn (F161 lines) 0 (fun h1 _=>fiI (F161 lines) (F119 lines) (condT h1 rfl)) (fun h1 _=>ai (BuildOK.mk Qkv ([(fun x0=>F162 x0),(fun x0=>F163 x0),(fun x0=>F164 x0),(fun x0=>F165 x0),(fun x0=>F166 x0)]:List ((List ByteArray)→Bool)) rfl (by exact ai (Imp.fn fh162 rfl trivial ca162) (ai (Imp.fn fh163 rfl trivial ca163) (ai (Imp.fn fh164 rfl trivial ca164) (ai (Imp.fn fh165 rfl trivial ca165) (ai (Imp.fn fh166 rfl trivial ca166) trivial))))) (fun _=>rfl):BuildOK 5 1 [.v (.func (.func 162) #[] #[]),.v (.func (.func 163) #[] #[]),.v (.func (.func 164) #[] #[]),.v (.func (.func 165) #[] #[]),.v (.func (.func 166) #[] #[])] (.l 1 Qkv ([(fun x0=>F162 x0),(fun x0=>F163 x0),(fun x0=>F164 x0),(fun x0=>F165 x0),(fun x0=>F166 x0)]:List ((List ByteArray)→Bool)))) (kn lines fun _=>kn ([(fun x0=>F162 x0),(fun x0=>F163 x0),(fun x0=>F164 x0),(fun x0=>F165 x0),(fun x0=>F166 x0)]:List ((List ByteArray)→Bool)) fun _=>ai (Uiu lines (by omega)) (fun (i0:Nat×Int) (hi0:Ns lines i0)=>(fun (m0:Nat) (v13:Int) (hh0:Qvt lines i0 m0 v13)=>have hI0:=hh0.1; have hl0:=hh0.2.1; have _:=hh0.2.2.1; have _:=hh0.2.2.2; ifd (v13<(([(fun x0=>F162 x0),(fun x0=>F163 x0),(fun x0=>F164 x0),(fun x0=>F165 x0),(fun x0=>F166 x0)]:List ((List ByteArray)→Bool)).length:Int)) (fun h3 _=>ai (by omega:ib v13 ([(fun x0=>F162 x0),(fun x0=>F163 x0),(fun x0=>F164 x0),(fun x0=>F165 x0),(fun x0=>F166 x0)]:List ((List ByteArray)→Bool))) (ai (Eq.refl (FnX Tryz.prog (En (([(fun x0=>F162 x0),(fun x0=>F163 x0),(fun x0=>F164 x0),(fun x0=>F165 x0),(fun x0=>F166 x0)]:List ((List ByteArray)→Bool)).getD v13.toNat default)))) (ai (Imp.px (d:=.l 1 eStr lines) (by exact Qxm lines (by assumption) (by omega):F64 lines=0∧lines.length≤16∧∀ k:Nat,(lines.getD k default).size≤1048576)) (ifb ((([(fun x0=>F162 x0),(fun x0=>F163 x0),(fun x0=>F164 x0),(fun x0=>F165 x0),(fun x0=>F166 x0)]:List ((List ByteArray)→Bool)).getD v13.toNat default) lines) (fun h4=>ai (iok (5+v13) (by first | omega | (simp only [List.length_cons,List.length_nil] at *; omega))) (fiI (5+v13) (F119 lines) (condF h1 (finR (Qp hI0 (condT h3 (condT h4 rfl))) rfl)))) (fun h4=>ai (iok (v13+1) (by first | omega | (simp only [List.length_cons,List.length_nil] at *; omega))) (Uhj lines i0 m0 (v13+1) hl0 (Qc hI0 (condT h3 (condF h4 rfl))) (by refine ⟨?_,?_⟩ <;> omega))))))) (fun h3 _=>have hD0_5:Qsv lines=Lp.done v13:=Qi hI0 (condF h3 rfl); fiI 0 (F119 lines) (condF h1 (finD hD0_5 rfl)))) (i0.1-1) i0.2 (Ukk lines i0 hi0)))))) (by kernel_rfl)
theorem kc64 (lines:List ByteArray) {K_:Prop} (p0_:∀ k:Nat,(lines.getD k default).size≤1048576) (k_:K_):(∀ k:Nat,(lines.getD k default).size≤1048576)∧(Imp (.l 1 eStr lines) (.l 1 eStr lines))∧K_:=⟨p0_,Imp.refl _,k_⟩
abbrev kh64 (lines:List ByteArray):Hint true Tryz.prog:=.call 64 (S64 lines) (ok64 lines) none
theorem kc65a (lines:List ByteArray) {K_:Prop} (p0_:lines.length≤16) (p1_:∀ k:Nat,(lines.getD k default).size≤1048576) (k_:K_):(lines.length≤16∧(∀ k:Nat,(lines.getD k default).size≤1048576))∧(Imp (.l 1 eStr lines) (.l 1 eStr lines))∧K_:=⟨⟨p0_,p1_⟩,Imp.refl _,k_⟩
abbrev kh65a (lines:List ByteArray):Hint true Tryz.prog:=.call 65 (T65 (lines.map (fun l=>(⟨(F97 l).1⟩:l52Cut))) lines) (oa65 lines) none
def F31 (lines:List ByteArray):Int :=
 bif ((F64 lines) != 0) then (F64 lines) else (bif (!(F66 (lines.map (fun l=>(⟨(F97 l).1⟩:l52Cut))))) then 5 else (bif (!(F67 (lines.map (fun l=>(⟨(F97 l).1⟩:l52Cut))))) then 6 else (bif (!(F68 (lines.map (fun l=>(⟨(F97 l).1⟩:l52Cut))))) then 7 else (bif (!(F69 (lines.map (fun l=>(⟨(F97 l).1⟩:l52Cut))))) then 8 else (bif (!(F70 (lines.map (fun l=>(⟨(F97 l).1⟩:l52Cut))))) then 9 else 0)))))
def S31 (lines:List ByteArray):Spec:=⟨[.r (.c (.l 1 eStr lines))],.v (vI (F31 lines)),lines.length≤1048576∧(∀ k:Nat,(lines.getD k default).size≤1048576)⟩
theorem ok31 (lines:List ByteArray):(S31 lines).ok Tryz.prog 31 :=
 Qg mixed (fn:=Tryz.f31) (ct:=.seqk [(0,0)] .no (.seq (.reg [(1,kh64 lines)]) (.seq (.seq .no (.cond (.seq .no .no) .no)) (.seq (.reg [(1,kh65a lines)]) (.seq (.blk (.seq (.reg [(1,.call 66 (S66 (lines.map (fun l=>(⟨(F97 l).1⟩:l52Cut)))) (ok66 (lines.map (fun l=>(⟨(F97 l).1⟩:l52Cut)))) none)]) (.cond (.seq .no .no) (.seq (.reg [(1,.call 67 (S67 (lines.map (fun l=>(⟨(F97 l).1⟩:l52Cut)))) (ok67 (lines.map (fun l=>(⟨(F97 l).1⟩:l52Cut)))) none)]) (.cond (.seq .no .no) (.seq (.reg [(1,.call 68 (S68 (lines.map (fun l=>(⟨(F97 l).1⟩:l52Cut)))) (ok68 (lines.map (fun l=>(⟨(F97 l).1⟩:l52Cut)))) none)]) (.cond (.seq .no .no) (.seq (.reg [(1,.call 69 (S69 (lines.map (fun l=>(⟨(F97 l).1⟩:l52Cut)))) (ok69 (lines.map (fun l=>(⟨(F97 l).1⟩:l52Cut)))) none)]) (.cond (.seq .no .no) (.seq (.reg [(1,.call 70 (S70 (lines.map (fun l=>(⟨(F97 l).1⟩:l52Cut)))) (ok70 (lines.map (fun l=>(⟨(F97 l).1⟩:l52Cut)))) none)]) (.cond (.seq .no .no) .no))))))))))) (.seq .no .no)))))) Tryz.func31 (fun (hp:lines.length≤1048576∧(∀ k:Nat,(lines.getD k default).size≤1048576))=>have hpre0:=hp.1; have hpre1:=hp.2; kn lines fun _=>kc64 lines (by first | assumption | exact hpre1 _ | exact fun k _=>hpre1 k | (intros; exact trivial) | (intros; exact Nat.zero_le _)) (ifn (F64 lines) 0 (fun h1 _=>fiI (F64 lines) (F31 lines) (condT h1 rfl)) (fun h1 _=>kc65a lines (by first | omega | assumption | (have h9:=Gv lines (by omega); omega)) (by first | omega | assumption | (have h9:=Gv lines (by omega); omega)) (ai trivial (ai (Imp.refl (.l 1 Qj (lines.map (fun l=>(⟨(F97 l).1⟩:l52Cut))))) (ifb (!(F66 (lines.map (fun l=>(⟨(F97 l).1⟩:l52Cut))))) (fun h2=>fiI 5 (F31 lines) (condF h1 (condT h2 rfl))) (fun h2=>ai trivial (ai (Imp.refl (.l 1 Qj (lines.map (fun l=>(⟨(F97 l).1⟩:l52Cut))))) (ifb (!(F67 (lines.map (fun l=>(⟨(F97 l).1⟩:l52Cut))))) (fun h3=>fiI 6 (F31 lines) (condF h1 (condF h2 (condT h3 rfl)))) (fun h3=>ai (by exact Qaq lines (by assumption):∀ k j:Nat,(((lines.map (fun l=>(⟨(F97 l).1⟩:l52Cut))).getD k default).w.getD j default).size≤1048576) (ai (Imp.refl (.l 1 Qj (lines.map (fun l=>(⟨(F97 l).1⟩:l52Cut))))) (ifb (!(F68 (lines.map (fun l=>(⟨(F97 l).1⟩:l52Cut))))) (fun h4=>fiI 7 (F31 lines) (condF h1 (condF h2 (condF h3 (condT h4 rfl))))) (fun h4=>ai (by exact Qaq lines (by assumption):∀ k j:Nat,(((lines.map (fun l=>(⟨(F97 l).1⟩:l52Cut))).getD k default).w.getD j default).size≤1048576) (ai (Imp.refl (.l 1 Qj (lines.map (fun l=>(⟨(F97 l).1⟩:l52Cut))))) (ifb (!(F69 (lines.map (fun l=>(⟨(F97 l).1⟩:l52Cut))))) (fun h5=>fiI 8 (F31 lines) (condF h1 (condF h2 (condF h3 (condF h4 (condT h5 rfl)))))) (fun h5=>ai (by exact Qaq lines (by assumption):∀ k j:Nat,(((lines.map (fun l=>(⟨(F97 l).1⟩:l52Cut))).getD k default).w.getD j default).size≤1048576) (ai (Imp.refl (.l 1 Qj (lines.map (fun l=>(⟨(F97 l).1⟩:l52Cut))))) (ifb (!(F70 (lines.map (fun l=>(⟨(F97 l).1⟩:l52Cut))))) (fun h6=>fiI 9 (F31 lines) (condF h1 (condF h2 (condF h3 (condF h4 (condF h5 (condT h6 rfl))))))) (fun h6=>fiI 0 (F31 lines) (condF h1 (condF h2 (condF h3 (condF h4 (condF h5 (condF h6 rfl))))))))))))))))))))))))) (by kernel_rfl)
theorem Lf (lines:List ByteArray):F119 lines=F31 lines:=by
 unfold F119 F31
 rw [Qfw]
 cases hn:(F64 lines != 0) with
 | true=>rfl
 | false =>
  have h0:F64 lines=0:=by simpa using hn
  rw [cond_false,cond_false]
  have e:(lines.map (fun l=>(⟨(F97 l).1⟩:l52Cut)))=(wsL lines).map l52Cut.mk:=by
   unfold wsL
   rw [List.map_map]; rfl
  rw [e]
  have k1:=Qhs lines h0
  have k2:=Qaf lines h0
  have k3:=Qjf lines h0
  have k4:=Qae lines h0
  have k5:=Qeu lines h0
  rw [← k1,← k2,← k3,← k4,← k5]
  have s0:Zt lines 0=bif F162 lines then .ret 5 else .next 1:=rfl
  have s1:Zt lines 1=bif F163 lines then .ret 6 else .next 2:=rfl
  have s2:Zt lines 2=bif F164 lines then .ret 7 else .next 3:=rfl
  have s3:Zt lines 3=bif F165 lines then .ret 8 else .next 4:=rfl
  have s4:Zt lines 4=bif F166 lines then .ret 9 else .next 5:=rfl
  have s5:Zt lines 5=.done 5:=rfl
  show (runL (Zt lines) 6 0).fin _ _=_
  cases b0:F162 lines with
  | true=>rw [b0,cond_true] at s0; rw [Zp _ s0]; rfl
  | false =>
  rw [b0,cond_false] at s0; rw [Ye _ s0]
  cases b1:F163 lines with
  | true=>rw [b1,cond_true] at s1; rw [Zp _ s1]; rfl
  | false =>
  rw [b1,cond_false] at s1; rw [Ye _ s1]
  cases b2:F164 lines with
  | true=>rw [b2,cond_true] at s2; rw [Zp _ s2]; rfl
  | false =>
  rw [b2,cond_false] at s2; rw [Ye _ s2]
  cases b3:F165 lines with
  | true=>rw [b3,cond_true] at s3; rw [Zp _ s3]; rfl
  | false =>
  rw [b3,cond_false] at s3; rw [Ye _ s3]
  cases b4:F166 lines with
  | true=>rw [b4,cond_true] at s4; rw [Zp _ s4]; rfl
  | false =>
  rw [b4,cond_false] at s4; rw [Ye _ s4,Ky _ s5]; rfl
theorem Ee (lines:List ByteArray) (h:F31 lines=0):lines.length≤16:=by
 unfold F31 at h
 cases hn:(F64 lines != 0) with
 | true=>rw [hn,cond_true] at h; rw [h] at hn; exact absurd hn (by decide)
 | false=>exact Gv lines (by simpa using hn)
theorem Qpz (lines:List ByteArray) (h:F119 lines=0):lines.length≤16:=Ee lines (by rw [← Lf]; exact h)
def Bg (a:List ByteArray) (left':Int):(Int×Int)→Lp (Int×Int) Int:=fun (left'1,i40) =>
 bif (decide (i40<(a.length:Int))) then (bif (decide ((left'1-((a.getD i40.toNat default).size:Int))<0)) then (.ret (-1)) else (.next ((left'1-((a.getD i40.toNat default).size:Int)),(i40+1)))) else (.done (left'1,i40))
def F7 (a:List ByteArray) (left':Int):Int :=
 bif (decide ((left'-(a.length:Int))<0)) then (-1) else ((runL (Bg a left') (((a.length:Int)-0).toNat+1) ((left'-(a.length:Int)),0)).fin (fun r=>r) (fun (left'1,i40)=>left'1))
abbrev Qmb (a:List ByteArray) (left':Int):Nat×(Int×Int):=((((a.length:Int)-0).toNat+1),((left'-(a.length:Int)),0))
abbrev Uev (a:List ByteArray) (m39:Nat) (left'1:Int) (i40:Int):Prop:=Int.toNat ((a.length:Int)-i40)<m39∧(0:Int)≤left'1∧left'1≤1048576∧(0:Int)≤i40
abbrev lX7_0 (a:List ByteArray) (left':Int):Lp (Int×Int) Int:=LpX (Bg a left') (Qmb a left')
abbrev Qlt (a:List ByteArray) (left':Int) (i:Nat×(Int×Int)):Prop:=LpJ (Bg a left') (Qmb a left') i (Uev a i.1 i.2.1 i.2.2)
abbrev lH7_0 (a:List ByteArray) (left':Int) (i:Nat×(Int×Int)) (m39:Nat) (left'1:Int) (i40:Int):Prop:=LpH (Bg a left') (Qmb a left') i m39 (left'1,i40) (Uev a (m39+1) left'1 i40)
abbrev lE7_0 (a:List ByteArray) (left'1:Int) (i40:Int) (left'1_:Int) (i40_:Int) (K39:Prop):Prop:=((.int .i64 left'1:Value)=.int .i64 left'1_)∧((.int .i64 i40:Value)=.int .i64 i40_)∧(Im (.l 1 eStr a))∧K39
theorem un7_0 (a:List ByteArray) (left':Int) (i:Nat×(Int×Int)) (h:Qlt a left' i):lH7_0 a left' i (i.1-1) i.2.1 i.2.2:=⟨hd1 h.1 h.2.1,hd3 h.2.1,hd2 h.2.1,h.2.2⟩
theorem bk7_0 (a:List ByteArray) (left':Int) (i:Nat×(Int×Int)) (m39:Nat) (left'1:Int) (i40:Int) (hl:m39<i.1) (e:runL (Bg a left') m39 (left'1,i40)=lX7_0 a left') (h:Uev a m39 left'1 i40):∃ j:Nat×(Int×Int),lE7_0 a left'1 i40 j.2.1 j.2.2 (Qlt a left' j∧j.1<i.1):=⟨(m39,(left'1,i40)),rfl,rfl,Imp.refl _,⟨e,h⟩,hl⟩
theorem en7_0 (a:List ByteArray) (left':Int) (h:(0:Int)≤(left'-(a.length:Int))∧(left'-(a.length:Int))≤1048576∧(0:Int)≤0):lE7_0 a (left'-(a.length:Int)) 0 (left'-(a.length:Int)) 0 (Qlt a left' (Qmb a left')):=⟨rfl,rfl,Imp.refl _,rfl,Nat.lt_succ_self _,h⟩
def S7 (a:List ByteArray) (left':Int):Spec:=⟨[.r (.c (.l 1 eStr a)),.r (.c (.v (vI left')))],.v (vI (F7 a left')),0≤left'∧left'≤1048576∧(∀ k:Nat,(a.getD k default).size≤9223372036854775807)⟩
theorem ok7 (a:List ByteArray) (left':Int):(S7 a left').ok Tryz.prog 7 :=
 Qg mixed (fn:=Tryz.f7) (ct:=.seqk [(0,0)] .no (.seq (.reg [(3,.bnd)]) (.seq (.seq .no (.cond (.seq .no .no) .no)) (.seq (.seqk [(0,0)] .no (.blk (.loop (ι:=Nat×(Int×Int)) (fun i=>(fun (left'1:Int) (i40:Int)=>(⟨[(0,some (.h 0 0)),(1,some (.v (vI left'1))),(5,some (.v (vI i40)))],[(0,some (.shr none (.l 1 eStr a)))],1⟩:St)) i.2.1 i.2.2) (Qlt a left') (fun i=>i.1) (Qmb a left') (fun i=>(fun (left'1:Int) (i40:Int)=>(.seq (.seq .no (.cond .no .no)) (.seq (.blk (.seq (.reg [(6,.bnd)]) (.seq .no (.cond (.seq .no .no) .no)))) (.reg [(1,.bnd)])))) i.2.1 i.2.2)))) (.seq .no .no))))) Tryz.func7 (fun (hp:0≤left'∧left'≤1048576∧(∀ k:Nat,(a.getD k default).size≤9223372036854775807))=>have hpre0:=hp.1; have hpre1:=hp.2.1; have hpre2:=hp.2.2; kn a fun _=>ai (iok (left'-(a.length:Int)) (by first | omega | (have hz:=(by assumption:∀ k:Nat,(a.getD k default).size≤9223372036854775807) i40.toNat; omega))) (ifd ((left'-(a.length:Int))<0) (fun h1 _=>fiI (-1) (F7 a left') (condT h1 rfl)) (fun h1 _=>kn a fun _=>ai (en7_0 a left' (by refine ⟨?_,?_,?_⟩ <;> omega)) (fun (i0:Nat×(Int×Int)) (hi0:Qlt a left' i0)=>(fun (m0:Nat) (left'1:Int) (i40:Int) (hh0:lH7_0 a left' i0 m0 left'1 i40)=>have hI0:=hh0.1; have hl0:=hh0.2.1; have _:=hh0.2.2.1; have _:=hh0.2.2.2; ifd (i40<(a.length:Int)) (fun h3 _=>ai (by omega:ib i40 a) (ai (iok (left'1-((a.getD i40.toNat default).size:Int)) (by first | omega | (have hz:=(by assumption:∀ k:Nat,(a.getD k default).size≤9223372036854775807) i40.toNat; omega))) (ifd ((left'1-((a.getD i40.toNat default).size:Int))<0) (fun h4 _=>fiI (-1) (F7 a left') (condF h1 (finR (Qp hI0 (condT h3 (condT h4 rfl))) rfl))) (fun h4 _=>ai (iok (i40+1) (by first | omega | (have hz:=(by assumption:∀ k:Nat,(a.getD k default).size≤9223372036854775807) i40.toNat; omega))) (bk7_0 a left' i0 m0 (left'1-((a.getD i40.toNat default).size:Int)) (i40+1) hl0 (Qc hI0 (condT h3 (condF h4 rfl))) (by refine ⟨?_,?_,?_,?_⟩ <;> omega)))))) (fun h3 _=>have hD0_5:lX7_0 a left'=Lp.done (left'1,i40):=Qi hI0 (condF h3 rfl); fiI left'1 (F7 a left') (condF h1 (finD hD0_5 rfl)))) (i0.1-1) i0.2.1 i0.2.2 (un7_0 a left' i0 hi0))))) (by kernel_rfl)
theorem gb7 (a:List ByteArray) (left':Int):0≤left'→left'≤1048576→0≤(F7 a left')→(F7 a left')≤left'∧(a.length≤1000000000)∧(∀ k:Nat,(a.getD k default).size≤1000000000):=by
 intro h0 h1 h2
 simp only [F7] at h2 ⊢
 cases h:decide (left'-(a.length:Int)<0)
 ·simp only [h,cond_false] at h2 ⊢
  have hc:=of_decide_eq_false h
  obtain ⟨hall,hle⟩:=Ufu (fun (x:ByteArray) (l:Int)=>l-(x.size:Int)) (fun x=>(x.size≤1000000000)) (fun x l g0 g1 g2=>⟨by omega,by omega⟩) a (Bg a left') (left'-(a.length:Int)) (by omega) (by omega) (fun l i=>rfl) h2
  exact ⟨Int.le_trans hle (by omega),by omega,fun k=>by
   by_cases hk:k<a.length
   ·exact (hall k hk)
   ·rw [Wh a (by omega)]; first | exact Nat.zero_le _ | (intro k'; exact Nat.zero_le _) | (intro k' k''; exact Nat.zero_le _)⟩
 ·simp only [h,cond_true] at h2
  exact absurd h2 (by decide)
theorem g7_0 (a:List ByteArray) (left':Int):0≤left'→left'≤1048576→0≤(F7 a left')→(F7 a left')≤left':=by
 intro h0 h1 h2; exact (gb7 a left' h0 h1 h2).1
theorem g7_1 (a:List ByteArray) (left':Int):0≤left'→left'≤1048576→0≤(F7 a left')→a.length≤1000000000:=by
 intro h0 h1 h2; exact (gb7 a left' h0 h1 h2).2.1
theorem g7_2 (a:List ByteArray) (left':Int):0≤left'→left'≤1048576→0≤(F7 a left')→∀ k:Nat,(a.getD k default).size≤1000000000:=by
 intro h0 h1 h2; exact (gb7 a left' h0 h1 h2).2.2
theorem Qla (a:List ByteArray) (l:Int) (h:0≤F7 a l):(a.length:Int)≤l∧(∀ k:Nat,((a.getD k default).size:Int)≤l)∧F7 a l≤l:=by
 unfold F7 at h ⊢
 cases hd:decide ((l-(a.length:Int))<0) with
 | true=>rw [hd,cond_true] at h; exact absurd h (by decide)
 | false =>
  rw [hd,cond_false] at h
  have hd:=of_decide_eq_false hd
  have key:∀ (m i:Nat) (s:Int),i+m=a.length→0≤s→∀ fuel,m<fuel→0≤(runL (Bg a l) fuel (s,(i:Int))).fin (fun r=>r) (fun (x:Int×Int)=>x.1)→(∀ k:Nat,i≤k→k<a.length→((a.getD k default).size:Int)≤s)∧(runL (Bg a l) fuel (s,(i:Int))).fin (fun r=>r) (fun (x:Int×Int)=>x.1)≤s:=by
   intro m
   induction m with
   | zero =>
    intro i s hi hs fuel hf hr
    obtain ⟨fuel,rfl⟩:∃ f,fuel=f+1:=⟨fuel-1,by omega⟩
    have e:Bg a l (s,(i:Int))=.done (s,(i:Int)):=by
     simp only [Bg,decide_eq_false (show ¬ (i:Int)<(a.length:Int) by omega),cond_false]
    rw [Ky _ e]
    exact ⟨fun k h1 h2=>by omega,Int.le_refl _⟩
   | succ m ih =>
    intro i s hi hs fuel hf hr
    obtain ⟨fuel,rfl⟩:∃ f,fuel=f+1:=⟨fuel-1,by omega⟩
    have e:Bg a l (s,(i:Int))=bif decide (s-((a.getD i default).size:Int)<0) then .ret (-1) else .next (s-((a.getD i default).size:Int),((i+1:Nat):Int)):=by
     simp only [Bg,decide_eq_true (show (i:Int)<(a.length:Int) by omega),cond_true,nn]; rfl
    cases hb:decide (s-((a.getD i default).size:Int)<0) with
    | true =>
     rw [hb,cond_true] at e
     rw [Zp _ e] at hr
     exact absurd hr (by show ¬ (0:Int)≤-1; decide)
    | false =>
     rw [hb,cond_false] at e
     have hb:=of_decide_eq_false hb
     rw [Ye _ e] at hr ⊢
     obtain ⟨h1,h2⟩:=ih (i+1) _ (by omega) (by omega) fuel (by omega) hr
     refine ⟨fun k hk1 hk2=>?_,by omega⟩
     rcases Nat.eq_or_lt_of_le hk1 with rfl | hk
     ·omega
     ·have:=h1 k hk hk2
      omega
  obtain ⟨h1,h2⟩:=key a.length 0 (l-(a.length:Int)) (by omega) (by omega) (Int.toNat ((a.length:Int)-0)+1) (by omega) h
  refine ⟨by omega,fun k=>?_,?_⟩
  ·by_cases hk:k<a.length
   ·have:=h1 k (Nat.zero_le _) hk
    omega
   ·rw [List.getD_eq_getElem?_getD,List.getElem?_eq_none (by omega)]
    show ((0:Nat):Int)≤l
    omega
  ·rw [cond_false]
   refine Int.le_trans h2 ?_
   omega
theorem Bi (a:List ByteArray) {l:Int} (h:0≤F7 a l) (hl:l≤1048576):a.length≤1048576:=by have:=(Qla a l h).1; omega
theorem Hu (a:List ByteArray) {l:Int} (h:0≤F7 a l) (hl:l≤1048576):∀ k:Nat,(a.getD k default).size≤1048576:=fun k=>by have:=(Qla a l h).2.1 k; omega
def Mq (s:ByteArray) (at':Int):(List ByteArray×Int×Int)→Lp (List ByteArray×Int×Int) (List ByteArray):=fun (out1,from'1,i40) =>
 bif (decide (i40<(s.size:Int))) then (bif (((s.data.getD i40.toNat 0).toNat:Int)==(at'%256)) then (.next ((out1++[(s.extract (Int.toNat from'1) i40.toNat)]),(i40+1),(i40+1))) else (.next (out1,from'1,(i40+1)))) else (.done (out1,from'1,i40))
def Qap (s:ByteArray) (at':Int):Lp (List ByteArray×Int) (List ByteArray) :=
 (runL (Mq s at') (((s.size:Int)-0).toNat+1) (([]:List ByteArray),0,0)).fin Lp.ret (fun (out1,from'1,i40)=>.done (out1,from'1))
def F157 (s:ByteArray) (at':Int):List ByteArray :=
 (Qap s at').fin (fun r=>r) (fun (out,from')=>(out++[(s.extract from'.toNat (s.size:Int).toNat)]))
abbrev Pw (s:ByteArray):Nat×(List ByteArray×Int×Int):=((((s.size:Int)-0).toNat+1),(([]:List ByteArray),0,0))
abbrev Qjx (s:ByteArray) (m39:Nat) (out1:List ByteArray) (from'1:Int) (i40:Int):Prop:=Int.toNat ((s.size:Int)-i40)<m39∧(0:Int)≤from'1∧(from'1:Int)≤i40∧(out1.length:Int)≤i40∧i40≤(s.size:Int)∧(0:Int)≤from'1∧(0:Int)≤i40
abbrev Qvv (s:ByteArray) (at':Int):Lp (List ByteArray×Int×Int) (List ByteArray):=LpX (Mq s at') (Pw s)
abbrev Nu (s:ByteArray) (at':Int) (i:Nat×(List ByteArray×Int×Int)):Prop:=LpJ (Mq s at') (Pw s) i (Qjx s i.1 i.2.1 i.2.2.1 i.2.2.2)
abbrev Qqh (s:ByteArray) (at':Int) (i:Nat×(List ByteArray×Int×Int)) (m39:Nat) (out1:List ByteArray) (from'1:Int) (i40:Int):Prop:=LpH (Mq s at') (Pw s) i m39 (out1,from'1,i40) (Qjx s (m39+1) out1 from'1 i40)
abbrev Qur (s:ByteArray) (at':Int) (out1:List ByteArray) (from'1:Int) (i40:Int) (out1_:List ByteArray) (from'1_:Int) (i40_:Int) (K39:Prop):Prop:=(Rf (.string s))∧(Rf (.int .u8 (at'%256)))∧((.int .i64 from'1:Value)=.int .i64 from'1_)∧((.int .i64 i40:Value)=.int .i64 i40_)∧(Imp (.l 1 eStr out1) (.l 1 eStr out1_))∧K39
theorem Uhm (s:ByteArray) (at':Int) (i:Nat×(List ByteArray×Int×Int)) (h:Nu s at' i):Qqh s at' i (i.1-1) i.2.1 i.2.2.1 i.2.2.2:=⟨hd1 h.1 h.2.1,hd3 h.2.1,hd2 h.2.1,h.2.2⟩
theorem Qqo (s:ByteArray) (at':Int) (i:Nat×(List ByteArray×Int×Int)) (m39:Nat) (out1:List ByteArray) (from'1:Int) (i40:Int) (hl:m39<i.1) (e:runL (Mq s at') m39 (out1,from'1,i40)=Qvv s at') (h:Qjx s m39 out1 from'1 i40):∃ j:Nat×(List ByteArray×Int×Int),Qur s at' out1 from'1 i40 j.2.1 j.2.2.1 j.2.2.2 (Nu s at' j∧j.1<i.1):=⟨(m39,(out1,from'1,i40)),rfl,rfl,rfl,rfl,Imp.refl _,⟨e,h⟩,hl⟩
theorem Uih (s:ByteArray) (at':Int) (h:(0:Int)≤0∧(0:Int)≤0∧(([]:List ByteArray).length:Int)≤0∧0≤(s.size:Int)∧(0:Int)≤0∧(0:Int)≤0):Qur s at' ([]:List ByteArray) 0 0 ([]:List ByteArray) 0 0 (Nu s at' (Pw s)):=⟨rfl,rfl,rfl,rfl,Imp.refl _,rfl,Nat.lt_succ_self _,h⟩
abbrev Qjg (s:ByteArray) (at':Int) (out:List ByteArray) (from':Int):Prop:=(0:Int)≤from'∧from'≤(s.size:Int)∧(out.length:Int)≤(s.size:Int)
abbrev Qhy (s:ByteArray) (at':Int) (j:List ByteArray×Int):Prop:=(Qap s at')=Lp.done j∧Qjg s at' j.1 j.2
theorem Ugs (s:ByteArray) (at':Int) (out:List ByteArray) (from':Int) (e:(Qap s at')=Lp.done (out,from')) (h:Qjg s at' out from'):∃ j:List ByteArray×Int,((.string s:Value)=.string s)∧((.int .i64 from':Value)=.int .i64 j.2)∧(Imp (.l 1 eStr out) (.l 1 eStr j.1))∧Qhy s at' j:=⟨(out,from'),rfl,rfl,Imp.refl _,e,h⟩
theorem fi157 (s:ByteArray) (at':Int) (r:List ByteArray) (hF:r=(F157 s at')):(Imp (.l 1 eStr r) (.l 1 eStr (F157 s at')))∧True:=by cases hF; exact ⟨Imp.refl _,trivial⟩
def S157 (s:ByteArray) (at':Int):Spec:=⟨[.r (.c (.v (.string s))),.r (.c (.v (.int .u8 (at'%256))))],.ow (.l 1 eStr (F157 s at')),s.size≤1048576⟩
theorem ok157 (s:ByteArray) (at':Int):(S157 s at').ok Tryz.prog 157 :=
 Qg mixed (fn:=Tryz.f157) (ct:=.seq .no (.seq (.reg [(0,.dat (.l 1 eStr ([]:List ByteArray)))]) (.seq .no (.cut (ι:=List ByteArray×Int) (fun j=>(fun (out:List ByteArray) (from':Int)=>(⟨[(0,some (.v (.string s))),(5,some (.h 0 0)),(6,some (.v (vI from')))],[(0,some (.own 0 (.l 1 eStr out)))],1⟩:St)) j.1 j.2) (Qhy s at') (.seqk [(5,0)] .no (.blk (.loop (ι:=Nat×(List ByteArray×Int×Int)) (fun i=>(fun (out1:List ByteArray) (from'1:Int) (i40:Int)=>(⟨[(0,some (.v (.string s))),(1,some (.v (.int .u8 (at'%256)))),(5,some (.h 0 0)),(6,some (.v (vI from'1))),(7,some (.v (vI i40)))],[(0,some (.own 0 (.l 1 eStr out1)))],1⟩:St)) i.2.1 i.2.2.1 i.2.2.2) (Nu s at') (fun i=>i.1) (Pw s) (fun i=>(fun (out1:List ByteArray) (from'1:Int) (i40:Int)=>(.seq (.seq .no (.cond .no .no)) (.seq (.blk (.seq .no (.cond (.seq (.reg [(6,.dat (.l 1 eStr (out1++[(s.extract (Int.toNat from'1) i40.toNat)])))]) (.reg [(1,.bnd)])) .no))) (.reg [(1,.bnd)])))) i.2.1 i.2.2.1 i.2.2.2)))) (fun j=>(fun (out:List ByteArray) (from':Int)=>(.seq (.reg [(5,.dat (.l 1 eStr (out++[(s.extract from'.toNat (s.size:Int).toNat)])))]) .no)) j.1 j.2))))) Tryz.func157 (fun (hpre0:s.size≤1048576)=>ai (bokr 1 eStr ([]:List ByteArray) fun _=>rfl) (ai (kn ([]:List ByteArray) fun _=>ai (Uih s at' (by refine ⟨?_,?_,?_,?_,?_,?_⟩ <;> first | omega | (simp only [lens,ib] at*<;> omega))) (fun (i0:Nat×(List ByteArray×Int×Int)) (hi0:Nu s at' i0)=>(fun (m0:Nat) (out1:List ByteArray) (from'1:Int) (i40:Int) (hh0:Qqh s at' i0 m0 out1 from'1 i40)=>have hI0:=hh0.1; have hl0:=hh0.2.1; have _:=hh0.2.2.1; have _:=hh0.2.2.2; ifd (i40<(s.size:Int)) (fun h2 _=>ai (by first | omega | (simp only [lens,ib] at*<;> omega):0≤i40∧i40<(s.size:Int)) (ife ((s.data.getD i40.toNat 0).toNat:Int) (at'%256) (fun h3 _=>ai (by first | omega | (simp only [lens,ib] at*<;> omega):0≤from'1∧from'1≤i40∧i40≤(s.size:Int)) (ai (appr 1 eStr out1 [(s.extract (Int.toNat from'1) i40.toNat)] fun _=>rfl) (ai (by (try simp only [lens]); omega:(out1++[(s.extract (Int.toNat from'1) i40.toNat)]).length*16≤140737488355328) (ai (iok (i40+1) (by first | omega | (simp only [lens,ib] at*<;> omega))) (ai (iok (i40+1) (by first | omega | (simp only [lens,ib] at*<;> omega))) (Qqo s at' i0 m0 (out1++[(s.extract (Int.toNat from'1) i40.toNat)]) (i40+1) (i40+1) hl0 (Qc hI0 (condT h2 (condT h3 rfl))) (by refine ⟨?_,?_,?_,?_,?_,?_,?_⟩ <;> first | omega | (simp only [lens,ib] at*<;> omega)))))))) (fun h3 _=>ai (iok (i40+1) (by first | omega | (simp only [lens,ib] at*<;> omega))) (Qqo s at' i0 m0 out1 from'1 (i40+1) hl0 (Qc hI0 (condT h2 (condF h3 rfl))) (by refine ⟨?_,?_,?_,?_,?_,?_,?_⟩ <;> first | omega | (simp only [lens,ib] at*<;> omega)))))) (fun h2 _=>have hD0_4:Qvv s at'=Lp.done (out1,from'1,i40):=Qi hI0 (condF h2 rfl); Ugs s at' out1 from'1 (Eq.symm (finD hD0_4 rfl)) (by refine ⟨?_,?_,?_⟩ <;> first | omega | (simp only [lens,ib] at*<;> omega)))) (i0.1-1) i0.2.1 i0.2.2.1 i0.2.2.2 (Uhm s at' i0 hi0))) (fun (j:List ByteArray×Int) (hj:Qhy s at' j)=>(fun (out:List ByteArray) (from':Int) (hJ0_5:(Qap s at')=Lp.done (out,from')) (hw:Qjg s at' out from')=>have _:=hw.1; have _:=hw.2.1; have _:=hw.2.2; ai (by first | omega | (simp only [lens,ib] at*<;> omega):0≤from'∧from'≤(s.size:Int)∧(s.size:Int)≤(s.size:Int)) (ai (appr 1 eStr out [(s.extract from'.toNat (s.size:Int).toNat)] fun _=>rfl) (ai (by (try simp only [lens]); omega:(out++[(s.extract from'.toNat (s.size:Int).toNat)]).length*16≤140737488355328) (fi157 s at' (out++[(s.extract from'.toNat (s.size:Int).toNat)]) (finD hJ0_5 rfl))))) j.1 j.2 hj.1 hj.2))) (by kernel_rfl)
def F184 (n:Int) (low:Int) (high:Int):Bool :=
 (bif decide (n≥low) then decide (n≤high) else false)
def S184 (R:Bool) (n:Int) (low:Int) (high:Int):Spec:=⟨[.r (.c (.v (vI n))),.r (.c (.v (vI low))),.r (.c (.v (vI high)))],.v (.bool R),True⟩
theorem ok184 (n:Int) (low:Int) (high:Int):(S184 (F184 n low high) n low high).ok Tryz.prog 184 :=
 Qg mixed (fn:=Tryz.f184) (ct:=.seq .no (.seq .no .no)) Tryz.func184 (fun (_:True)=>fiB (bif decide (n≥low) then decide (n≤high) else false) (F184 n low high) rfl) (by kernel_rfl)
theorem as184 (n:Int) (low:Int) (high:Int):F184 n low high=(decide (low≤n∧n≤high)):=by
 simp only [F184,Bool.decide_and,Uem]
theorem oa184 (n:Int) (low:Int) (high:Int):(S184 (decide (low≤n∧n≤high)) n low high).ok Tryz.prog 184:=by
 intro hp; have h:=ok184 n low high hp; rw [as184 n low high] at h; exact h
theorem Qov (n:Int) (low:Int) (high:Int) {K_:Prop} (k_:K_):(True)∧(Imp (.v (vI n)) (.v (vI n)))∧(Imp (.v (vI low)) (.v (vI low)))∧(Imp (.v (vI high)) (.v (vI high)))∧K_:=⟨trivial,Imp.refl _,Imp.refl _,Imp.refl _,k_⟩
abbrev Qay (n:Int) (low:Int) (high:Int):Hint true Tryz.prog:=.call 184 (S184 (decide (low≤n∧n≤high)) n low high) (oa184 n low high) none
def Vf (s:ByteArray):(Int×Int)→Lp (Int×Int) Int:=fun (n,i40) =>
 bif (decide (i40<(s.size:Int))) then (bif (bif decide (((s.data.getD i40.toNat 0).toNat:Int)<48) then true else decide (((s.data.getD i40.toNat 0).toNat:Int)>57)) then (.ret (-1)) else (.next ((IntKind.i64.wrap ((IntKind.i64.wrap (n*10))+(IntKind.i64.wrap (IntKind.u8.wrap (((s.data.getD i40.toNat 0).toNat:Int)-48))))),(i40+1)))) else (.done (n,i40))
def F159 (s:ByteArray):Int :=
 bif (bif (!(decide (1≤(s.size:Int)∧(s.size:Int)≤5))) then true else (bif decide ((s.size:Int)>1) then (((s.data.getD (Int.toNat 0) 0).toNat:Int)==48) else false)) then (-1) else ((runL (Vf s) (((s.size:Int)-0).toNat+1) (0,0)).fin (fun r=>r) (fun (n,i40)=>n))
abbrev Mi (s:ByteArray):Nat×(Int×Int):=((((s.size:Int)-0).toNat+1),(0,0))
abbrev Qit (s:ByteArray) (m39:Nat) (n:Int) (i40:Int):Prop:=Int.toNat ((s.size:Int)-i40)<m39∧(0:Int)≤i40
abbrev Qvn (s:ByteArray):Lp (Int×Int) Int:=LpX (Vf s) (Mi s)
abbrev Nt (s:ByteArray) (i:Nat×(Int×Int)):Prop:=LpJ (Vf s) (Mi s) i (Qit s i.1 i.2.1 i.2.2)
abbrev Qqr (s:ByteArray) (i:Nat×(Int×Int)) (m39:Nat) (n:Int) (i40:Int):Prop:=LpH (Vf s) (Mi s) i m39 (n,i40) (Qit s (m39+1) n i40)
abbrev Qtd (s:ByteArray) (n:Int) (i40:Int) (n_:Int) (i40_:Int) (K39:Prop):Prop:=(Rf (.string s))∧((.int .i64 n:Value)=.int .i64 n_)∧((.int .i64 i40:Value)=.int .i64 i40_)∧K39
theorem Uld (s:ByteArray) (i:Nat×(Int×Int)) (h:Nt s i):Qqr s i (i.1-1) i.2.1 i.2.2:=⟨hd1 h.1 h.2.1,hd3 h.2.1,hd2 h.2.1,h.2.2⟩
theorem Uhv (s:ByteArray) (i:Nat×(Int×Int)) (m39:Nat) (n:Int) (i40:Int) (hl:m39<i.1) (e:runL (Vf s) m39 (n,i40)=Qvn s) (h:Qit s m39 n i40):∃ j:Nat×(Int×Int),Qtd s n i40 j.2.1 j.2.2 (Nt s j∧j.1<i.1):=⟨(m39,(n,i40)),rfl,rfl,rfl,⟨e,h⟩,hl⟩
theorem Ult (s:ByteArray) (h:(0:Int)≤0):Qtd s 0 0 0 0 (Nt s (Mi s)):=⟨rfl,rfl,rfl,rfl,Nat.lt_succ_self _,h⟩
def S159 (s:ByteArray):Spec:=⟨[.r (.c (.v (.string s)))],.v (vI (F159 s)),s.size≤1048576⟩
theorem ok159 (s:ByteArray):(S159 s).ok Tryz.prog 159 :=
 Qg mixed (fn:=Tryz.f159) (ct:=.seq .no (.seq (.seq (.reg [(2,Qay (s.size:Int) 1 5)]) (.cond (.seq .no .no) .no)) (.seq .no (.seq (.seq .no (.blk (.loop (ι:=Nat×(Int×Int)) (fun i=>(fun (n:Int) (i40:Int)=>(⟨[(0,some (.v (.string s))),(3,some (.v (vI n))),(4,some (.v (vI i40)))],[],0⟩:St)) i.2.1 i.2.2) (Nt s) (fun i=>i.1) (Mi s) (fun i=>(fun (n:Int) (i40:Int)=>(.seq (.seq .no (.cond .no .no)) (.seq (.blk (.seq (.seq .no (.cond (.seq .no .no) .no)) .no)) (.reg [(1,.bnd)])))) i.2.1 i.2.2)))) (.seq .no .no))))) Tryz.func159 (fun (hpre0:s.size≤1048576)=>Qov (s.size:Int) 1 5 (ai (fun k2:(decide ((s.size:Int)>1))=true=>have _:=of_decide_eq_true k2; (fun k1:(!(decide (1≤(s.size:Int)∧(s.size:Int)≤5)))=false=>have _:=of_decide_eq_true (Uq k1); (by omega:0≤(0:Int)∧(0:Int)<(s.size:Int)))) (ifb (bif (!(decide (1≤(s.size:Int)∧(s.size:Int)≤5))) then true else (bif decide ((s.size:Int)>1) then (((s.data.getD (Int.toNat 0) 0).toNat:Int)==48) else false)) (fun h3=>fiI (-1) (F159 s) (condT h3 rfl)) (fun h3=>have _:=of_decide_eq_true (Uq (orF1 h3)); ai (Ult s (by omega)) (fun (i0:Nat×(Int×Int)) (hi0:Nt s i0)=>(fun (m0:Nat) (n:Int) (i40:Int) (hh0:Qqr s i0 m0 n i40)=>have hI0:=hh0.1; have hl0:=hh0.2.1; have _:=hh0.2.2.1; have _:=hh0.2.2.2; ifd (i40<(s.size:Int)) (fun h5 _=>ai (by omega:0≤i40∧i40<(s.size:Int)) (ai (fun k6:(decide (((s.data.getD i40.toNat 0).toNat:Int)<48))=false=>have _:=of_decide_eq_false k6; (by omega:0≤i40∧i40<(s.size:Int))) (ifb (bif decide (((s.data.getD i40.toNat 0).toNat:Int)<48) then true else decide (((s.data.getD i40.toNat 0).toNat:Int)>57)) (fun h7=>fiI (-1) (F159 s) (condF h3 (finR (Qp hI0 (condT h5 (condT h7 rfl))) rfl))) (fun h7=>have _:=of_decide_eq_false (orF1 h7); have _:=of_decide_eq_false (orF2 h7); ai (by omega:0≤i40∧i40<(s.size:Int)) (ai (iok (i40+1) (by omega)) (Uhv s i0 m0 (IntKind.i64.wrap ((IntKind.i64.wrap (n*10))+(IntKind.i64.wrap (IntKind.u8.wrap (((s.data.getD i40.toNat 0).toNat:Int)-48))))) (i40+1) hl0 (Qc hI0 (condT h5 (condF h7 rfl))) (by refine ⟨?_,?_⟩ <;> omega))))))) (fun h5 _=>have hD0_8:Qvn s=Lp.done (n,i40):=Qi hI0 (condF h5 rfl); fiI n (F159 s) (condF h3 (finD hD0_8 rfl)))) (i0.1-1) i0.2.1 i0.2.2 (Uld s i0 hi0)))))) (by kernel_rfl)
theorem kc157 (s:ByteArray) (at':Int) {K_:Prop} (p0_:s.size≤1048576) (q0_:s.size≤1048576) (k_:(∀ k:Nat,((F157 s at').getD k default).size≤1048576)→K_):(s.size≤1048576)∧(Imp (.v (.string s)) (.v (.string s)))∧(Imp (.v (.int .u8 at')) (.v (.int .u8 at')))∧K_:=⟨p0_,Imp.refl _,Imp.refl _,k_ (Zh s at' q0_)⟩
abbrev kh157 (s:ByteArray) (at':Int):Hint true Tryz.prog:=.call 157 (S157 s at') (ok157 s at') none
theorem Ubb (s:ByteArray) {K_:Prop} (p0_:s.size≤1048576) (k_:K_):(s.size≤1048576)∧(Imp (.v (.string s)) (.v (.string s)))∧K_:=⟨p0_,Imp.refl _,k_⟩
abbrev Qzr (s:ByteArray):Hint true Tryz.prog:=.call 159 (S159 s) (ok159 s) none
theorem Qyu {K_:Prop} (c_ b_:Bool) (n:Int) (low:Int) (high:Int) (k_:K_):(c_=b_→True)∧(c_=b_→Imp (.v (vI n)) (.v (vI n)))∧(c_=b_→Imp (.v (vI low)) (.v (vI low)))∧(c_=b_→Imp (.v (vI high)) (.v (vI high)))∧K_:=⟨fun _=>trivial,fun _=>Imp.refl _,fun _=>Imp.refl _,fun _=>Imp.refl _,k_⟩
def F158 (text:ByteArray):Int :=
 bif (((F157 text 46).length:Int) != 2) then (-1) else (bif (bif (!(decide (0≤(F159 ((F157 text 46).getD (Int.toNat 0) default))∧(F159 ((F157 text 46).getD (Int.toNat 0) default))≤255))) then true else (!(decide (0≤(F159 ((F157 text 46).getD (Int.toNat 1) default))∧(F159 ((F157 text 46).getD (Int.toNat 1) default))≤255)))) then (-1) else (IntKind.i64.wrap ((IntKind.i64.wrap (256*(F159 ((F157 text 46).getD (Int.toNat 0) default))))+(F159 ((F157 text 46).getD (Int.toNat 1) default)))))
def S158 (text:ByteArray):Spec:=⟨[.r (.c (.v (.string text)))],.v (vI (F158 text)),text.size≤1048576⟩
theorem ok158 (text:ByteArray):(S158 text).ok Tryz.prog 158 :=
 Qg mixed (fn:=Tryz.f158) (ct:=.seq .no (.seq (.reg [(1,kh157 text 46)]) (.seq (.seq .no (.cond (.seq .no .no) .no)) (.seq (.reg [(3,Qzr ((F157 text 46).getD (Int.toNat 0) default))]) (.seq (.reg [(3,Qzr ((F157 text 46).getD (Int.toNat 1) default))]) (.seq (.seq (.reg [(1,Qay (F159 ((F157 text 46).getD (Int.toNat 0) default)) 0 255),(5,Qay (F159 ((F157 text 46).getD (Int.toNat 1) default)) 0 255)]) (.cond (.seq .no .no) .no)) (.seq .no .no))))))) Tryz.func158 (fun (hpre0:text.size≤1048576)=>kc157 text 46 (by omega) (by omega) (fun gv1=>ifn ((F157 text 46).length:Int) 2 (fun h2 _=>fiI (-1) (F158 text) (condT h2 rfl)) (fun h2 _=>ai (by omega:ib 0 (F157 text 46)) (Ubb ((F157 text 46).getD (Int.toNat 0) default) (by exact Zh _ _ (by omega) _) (ai (by omega:ib 1 (F157 text 46)) (Ubb ((F157 text 46).getD (Int.toNat 1) default) (by exact Zh _ _ (by omega) _) (Qov (F159 ((F157 text 46).getD (Int.toNat 0) default)) 0 255 (Qyu (!(decide (0≤(F159 ((F157 text 46).getD (Int.toNat 0) default))∧(F159 ((F157 text 46).getD (Int.toNat 0) default))≤255))) false (F159 ((F157 text 46).getD (Int.toNat 1) default)) 0 255 (ifb (bif (!(decide (0≤(F159 ((F157 text 46).getD (Int.toNat 0) default))∧(F159 ((F157 text 46).getD (Int.toNat 0) default))≤255))) then true else (!(decide (0≤(F159 ((F157 text 46).getD (Int.toNat 1) default))∧(F159 ((F157 text 46).getD (Int.toNat 1) default))≤255)))) (fun h4=>fiI (-1) (F158 text) (condF h2 (condT h4 rfl))) (fun h4=>have _:=of_decide_eq_true (Uq (orF1 h4)); have _:=of_decide_eq_true (Uq (orF2 h4)); fiI (IntKind.i64.wrap ((IntKind.i64.wrap (256*(F159 ((F157 text 46).getD (Int.toNat 0) default))))+(F159 ((F157 text 46).getD (Int.toNat 1) default)))) (F158 text) (condF h2 (condF h4 rfl)))))))))))) (by kernel_rfl)
def Rk (len:Int):(Int×Int)→Lp (Int×Int) Int:=fun (n,i40) =>
 bif (decide (i40<16)) then (.next ((IntKind.i64.wrap (n*2)),(i40+1))) else (.done (n,i40))
def F185 (len:Int):Int :=
 (runL (Rk len) ((16-len).toNat+1) (1,len)).fin (fun r=>r) (fun (n,i40)=>n)
abbrev Ma (len:Int):Nat×(Int×Int):=(((16-len).toNat+1),(1,len))
abbrev Qhi (m39:Nat) (n:Int) (i40:Int):Prop:=Int.toNat (16-i40)<m39∧(0:Int)≤i40
abbrev Qrn (len:Int):Lp (Int×Int) Int:=LpX (Rk len) (Ma len)
abbrev Ng (len:Int) (i:Nat×(Int×Int)):Prop:=LpJ (Rk len) (Ma len) i (Qhi i.1 i.2.1 i.2.2)
abbrev Qtp (len:Int) (i:Nat×(Int×Int)) (m39:Nat) (n:Int) (i40:Int):Prop:=LpH (Rk len) (Ma len) i m39 (n,i40) (Qhi (m39+1) n i40)
abbrev Qva (n:Int) (i40:Int) (n_:Int) (i40_:Int) (K39:Prop):Prop:=((.int .i64 n:Value)=.int .i64 n_)∧((.int .i64 i40:Value)=.int .i64 i40_)∧K39
theorem Ufv (len:Int) (i:Nat×(Int×Int)) (h:Ng len i):Qtp len i (i.1-1) i.2.1 i.2.2:=⟨hd1 h.1 h.2.1,hd3 h.2.1,hd2 h.2.1,h.2.2⟩
theorem Ulf (len:Int) (i:Nat×(Int×Int)) (m39:Nat) (n:Int) (i40:Int) (hl:m39<i.1) (e:runL (Rk len) m39 (n,i40)=Qrn len) (h:Qhi m39 n i40):∃ j:Nat×(Int×Int),Qva n i40 j.2.1 j.2.2 (Ng len j∧j.1<i.1):=⟨(m39,(n,i40)),rfl,rfl,⟨e,h⟩,hl⟩
theorem Uki (len:Int) (h:(0:Int)≤len):Qva 1 len 1 len (Ng len (Ma len)):=⟨rfl,rfl,rfl,Nat.lt_succ_self _,h⟩
def S185 (len:Int):Spec:=⟨[.r (.c (.v (vI len)))],.v (vI (F185 len)),0≤len⟩
theorem ok185 (len:Int):(S185 len).ok Tryz.prog 185 :=
 Qg mixed (fn:=Tryz.f185) (ct:=.seq .no (.seq .no (.seq (.seq .no (.blk (.loop (ι:=Nat×(Int×Int)) (fun i=>(fun (n:Int) (i40:Int)=>(⟨[(3,some (.v (vI n))),(4,some (.v (vI i40)))],[],0⟩:St)) i.2.1 i.2.2) (Ng len) (fun i=>i.1) (Ma len) (fun i=>(fun (n:Int) (i40:Int)=>(.seq (.seq .no (.cond .no .no)) (.seq (.blk .no) (.reg [(1,.bnd)])))) i.2.1 i.2.2)))) (.seq .no .no)))) Tryz.func185 (fun (hpre0:0≤len)=>ai (Uki len (by omega)) (fun (i0:Nat×(Int×Int)) (hi0:Ng len i0)=>(fun (m0:Nat) (n:Int) (i40:Int) (hh0:Qtp len i0 m0 n i40)=>have hI0:=hh0.1; have hl0:=hh0.2.1; have _:=hh0.2.2.1; have _:=hh0.2.2.2; ifd (i40<16) (fun h2 _=>ai (iok (i40+1) (by omega)) (Ulf len i0 m0 (IntKind.i64.wrap (n*2)) (i40+1) hl0 (Qc hI0 (condT h2 rfl)) (by refine ⟨?_,?_⟩ <;> omega))) (fun h2 _=>have hD0_3:Qrn len=Lp.done (n,i40):=Qi hI0 (condF h2 rfl); fiI n (F185 len) (finD hD0_3 rfl))) (i0.1-1) i0.2.1 i0.2.2 (Ufv len i0 hi0))) (by kernel_rfl)
theorem g185_0 (len:Int):0≤len→len≤16→1≤(F185 len)∧(F185 len)≤65536:=by
 intro h1 h2; have h3:len=0∨len=1∨len=2∨len=3∨len=4∨len=5∨len=6∨len=7∨len=8∨len=9∨len=10∨len=11∨len=12∨len=13∨len=14∨len=15∨len=16:=by omega
 rcases h3 with rfl | rfl | rfl | rfl | rfl | rfl | rfl | rfl | rfl | rfl | rfl | rfl | rfl | rfl | rfl | rfl | rfl <;> exact of_decide_eq_true rfl
theorem kg185 {K_:Prop} (c_ b_:Bool) (len:Int) (p_:c_=b_→0≤len) (k_:K_):(c_=b_→0≤len)∧(c_=b_→Imp (.v (vI len)) (.v (vI len)))∧K_:=⟨p_,fun _=>Imp.refl _,k_⟩
abbrev kh185 (len:Int):Hint true Tryz.prog:=.call 185 (S185 len) (ok185 len) none
def F160 (p:NetPrefix):Bool :=
 (bif (bif (decide (0≤p.Len∧p.Len≤16)) then (decide (0≤p.Addr∧p.Addr≤65535)) else false) then ((p.Addr.tmod (F185 p.Len))==0) else false)
def S160 (p:NetPrefix):Spec:=⟨[.r (.g (Qe p))],.v (.bool (F160 p)),True⟩
theorem ok160 (p:NetPrefix):(S160 p).ok Tryz.prog 160 :=
 Qg mixed (fn:=Tryz.f160) (ct:=.seq .no (.seq (.reg [(2,Qay p.Len 0 16),(6,Qay p.Addr 0 65535),(13,kh185 p.Len)]) .no)) Tryz.func160 (fun (_:True)=>Qov p.Len 0 16 (Qyu (decide (0≤p.Len∧p.Len≤16)) true p.Addr 0 65535 (kg185 (bif (decide (0≤p.Len∧p.Len≤16)) then (decide (0≤p.Addr∧p.Addr≤65535)) else false) true p.Len (fun k4=>have _:=of_decide_eq_true (Ql k4); have _:=of_decide_eq_true (Qw k4); (by omega)) (ai (fun k5:(bif (decide (0≤p.Len∧p.Len≤16)) then (decide (0≤p.Addr∧p.Addr≤65535)) else false)=true=>have _:=of_decide_eq_true (Ql k5); have _:=of_decide_eq_true (Qw k5); (by have h9:=g185_0 p.Len (by omega) (by omega); omega:¬ (F185 p.Len)=0)) (fiB (bif (bif (decide (0≤p.Len∧p.Len≤16)) then (decide (0≤p.Addr∧p.Addr≤65535)) else false) then ((p.Addr.tmod (F185 p.Len))==0) else false) (F160 p) rfl))))) (by kernel_rfl)
theorem kc158 (text:ByteArray) {K_:Prop} (p0_:text.size≤1048576) (k_:K_):(text.size≤1048576)∧(Imp (.v (.string text)) (.v (.string text)))∧K_:=⟨p0_,Imp.refl _,k_⟩
abbrev kh158 (text:ByteArray):Hint true Tryz.prog:=.call 158 (S158 text) (ok158 text) none
def F115 (text:ByteArray):NetPrefix×Bool :=
 bif (((F157 text 47).length:Int) != 2) then ((⟨0,0⟩:NetPrefix),false) else (bif (!(F160 ⟨(F158 ((F157 text 47).getD (Int.toNat 0) default)),(F159 ((F157 text 47).getD (Int.toNat 1) default))⟩)) then ((⟨0,0⟩:NetPrefix),false) else ((⟨(F158 ((F157 text 47).getD (Int.toNat 0) default)),(F159 ((F157 text 47).getD (Int.toNat 1) default))⟩:NetPrefix),true))
theorem Ufd (text:ByteArray) (r:NetPrefix×Bool) (hF:r=(F115 text)):((.int .i64 r.1.Addr:Value)=.int .i64 (F115 text).1.Addr)∧((.int .i64 r.1.Len:Value)=.int .i64 (F115 text).1.Len)∧((.bool r.2:Value)=.bool (F115 text).2)∧True:=by cases hF; exact ⟨rfl,rfl,rfl,trivial⟩
def S115 (text:ByteArray):Spec:=⟨[.r (.c (.v (.string text)))],.tu [.ag [.v (vI (F115 text).1.Addr),.v (vI (F115 text).1.Len)],.v (.bool (F115 text).2)],text.size≤1048576⟩
theorem ok115 (text:ByteArray):(S115 text).ok Tryz.prog 115 :=
 Qg mixed (fn:=Tryz.f115) (ct:=.seq .no (.seq (.reg [(1,kh157 text 47)]) (.seq (.seq .no (.cond (.seq .no .no) .no)) (.seq (.reg [(3,kh158 ((F157 text 47).getD (Int.toNat 0) default)),(7,Qzr ((F157 text 47).getD (Int.toNat 1) default))]) (.seq (.seq (.reg [(1,.call 160 (S160 (⟨(F158 ((F157 text 47).getD (Int.toNat 0) default)),(F159 ((F157 text 47).getD (Int.toNat 1) default))⟩:NetPrefix)) (ok160 (⟨(F158 ((F157 text 47).getD (Int.toNat 0) default)),(F159 ((F157 text 47).getD (Int.toNat 1) default))⟩:NetPrefix)) none)]) (.cond (.seq .no .no) .no)) (.seq .no .no)))))) Tryz.func115 (fun (hpre0:text.size≤1048576)=>kc157 text 47 (by omega) (by omega) (fun gv1=>ifn ((F157 text 47).length:Int) 2 (fun h2 _=>Ufd text ((⟨0,0⟩:NetPrefix),false) (condT h2 rfl)) (fun h2 _=>ai (by omega:ib 0 (F157 text 47)) (kc158 ((F157 text 47).getD (Int.toNat 0) default) (by exact Zh _ _ (by omega) _) (ai (by omega:ib 1 (F157 text 47)) (Ubb ((F157 text 47).getD (Int.toNat 1) default) (by exact Zh _ _ (by omega) _) (ai trivial (ai (Imps.refl (Qe (⟨(F158 ((F157 text 47).getD (Int.toNat 0) default)),(F159 ((F157 text 47).getD (Int.toNat 1) default))⟩:NetPrefix))) (ifb (!(F160 ⟨(F158 ((F157 text 47).getD (Int.toNat 0) default)),(F159 ((F157 text 47).getD (Int.toNat 1) default))⟩)) (fun h3=>Ufd text ((⟨0,0⟩:NetPrefix),false) (condF h2 (condT h3 rfl))) (fun h3=>Ufd text ((⟨(F158 ((F157 text 47).getD (Int.toNat 0) default)),(F159 ((F157 text 47).getD (Int.toNat 1) default))⟩:NetPrefix),true) (condF h2 (condF h3 rfl)))))))))))) (by kernel_rfl)
theorem kc119 (lines:List ByteArray) {K_:Prop} (p0_:lines.length≤1048576) (p1_:∀ k:Nat,(lines.getD k default).size≤1048576) (k_:K_):(lines.length≤1048576∧(∀ k:Nat,(lines.getD k default).size≤1048576))∧(Imp (.l 1 eStr lines) (.l 1 eStr lines))∧K_:=⟨⟨p0_,p1_⟩,Imp.refl _,k_⟩
abbrev kh119 (lines:List ByteArray):Hint false Tryz.prog:=.call 119 (S119 lines) (ok119 lines) none
def F81 (lines:List ByteArray):Bool :=
 ((F119 lines)==0)
def S81 (lines:List ByteArray):Spec:=⟨[.r (.c (.l 1 eStr lines))],.v (.bool (F81 lines)),lines.length≤1048576∧(∀ k:Nat,(lines.getD k default).size≤1048576)⟩
theorem ok81 (lines:List ByteArray):(S81 lines).ok Tryz.prog 81 false :=
 Qg mixed (fn:=Tryz.f81) (ct:=.seqk [(0,0)] .no (.seq (.reg [(1,kh119 lines)]) .no)) Tryz.func81 (fun (hp:lines.length≤1048576∧(∀ k:Nat,(lines.getD k default).size≤1048576))=>have hpre0:=hp.1; have hpre1:=hp.2; kn lines fun _=>kc119 lines (by omega) (by first | assumption | exact hpre1 _ | exact fun k _=>hpre1 k | (intros; exact trivial) | (intros; exact Nat.zero_le _)) (fiB ((F119 lines)==0) (F81 lines) rfl)) (by kernel_rfl)
theorem dig_or (b:Int):(bif decide (b<48) then true else decide (b>57))=!decide (48≤b∧b≤57):=by
 by_cases h1:b<48
 ·rw [decide_eq_true h1,decide_eq_false (show ¬ (48≤b∧b≤57) by omega)]; rfl
 ·rw [decide_eq_false h1,cond_false]
  by_cases h2:b>57
  ·rw [decide_eq_true h2,decide_eq_false (show ¬ (48≤b∧b≤57) by omega)]; rfl
  ·rw [decide_eq_false h2,decide_eq_true (show 48≤b∧b≤57 by omega)]; rfl
theorem l2step (s:ByteArray) (x:Int×Int):Vf s x=Kx s x:=by
 obtain ⟨n,i⟩:=x
 simp only [Vf,Kx,Qak,dig_or]
theorem Ufx {l:List UInt8} (h:l.length=6):num6 l=-1∨100000≤num6 l:=by
 unfold num6
 cases hn:Zd l with
 | false=>exact .inl rfl
 | true =>
  rw [decide_eq_true (show l.length≤6 by omega)]
  refine .inr ?_
  show (100000:Int)≤((valL 0 l:Nat):Int)
  have hd:=Mm _ l rfl hn
  by_cases hv:valL 0 l<10 ^ (4+1)
  ·have:=Qhr 4 _ hv
   rw [hd] at this
   omega
  ·have:(10:Nat) ^ (4+1)=100000:=rfl
   omega
theorem Uar (s:ByteArray):F159 s=bif decide (s.size≤5) then num6 s.data.toList else -1:=by
 by_cases h:s.size≤5
 ·rw [decide_eq_true h,cond_true,← Jj]
  unfold F159 F79
  rw [show Vf s=Kx s from funext (l2step s)]
  have e:decide (1≤(s.size:Int)∧(s.size:Int)≤5)=decide (1≤(s.size:Int)∧(s.size:Int)≤6):=by
   by_cases h0:1≤s.size
   ·rw [decide_eq_true (by omega),decide_eq_true (by omega)]
   ·rw [decide_eq_false (by omega),decide_eq_false (by omega)]
  rw [e]
 ·rw [decide_eq_false h,cond_false]
  unfold F159
  rw [decide_eq_false (show ¬ (1≤(s.size:Int)∧(s.size:Int)≤5) by omega)]; rfl
theorem Tq (s:ByteArray) (hi:Int) (hh:hi≤99999):decide (0≤F159 s∧F159 s≤hi)=decide (0≤num6 s.data.toList∧num6 s.data.toList≤hi)∧(decide (0≤num6 s.data.toList∧num6 s.data.toList≤hi)=true→F159 s=num6 s.data.toList):=by
 have hl:s.data.toList.length=s.size:=Array.length_toList
 rw [Uar]
 by_cases h:s.size≤5
 ·rw [decide_eq_true h,cond_true]; exact ⟨rfl,fun _=>rfl⟩
 ·rw [decide_eq_false h,cond_false]
  have hb:num6 s.data.toList=-1∨100000≤num6 s.data.toList:=by
   by_cases h6:s.data.toList.length=6
   ·exact Ufx h6
   ·refine .inl ?_
    unfold num6
    rw [decide_eq_false (show ¬ s.data.toList.length≤6 by omega),Bool.and_false]; rfl
  have e:decide (0≤num6 s.data.toList∧num6 s.data.toList≤hi)=false:=decide_eq_false (by omega)
  rw [e]
  exact ⟨rfl,fun h=>by cases h⟩
theorem Qxe (s:ByteArray):F158 s=Yd s.data.toList:=by
 have hc:F157 s 46=(Ua 46 s.data.toList).map mkB:=Wd s 46
 unfold F158 Yd
 rw [hc]
 cases Ua 46 s.data.toList with
 | nil=>rfl
 | cons a t=>cases t with
  | nil=>rfl
  | cons b t=>cases t with
   | nil =>
    have ha:=Tq (mkB a) 255 (by omega)
    have hb:=Tq (mkB b) 255 (by omega)
    rw [Xi] at ha hb
    show (bif (bif (!decide (0≤F159 (mkB a)∧F159 (mkB a)≤255)) then true else (!decide (0≤F159 (mkB b)∧F159 (mkB b)≤255))) then (-1) else (IntKind.i64.wrap ((IntKind.i64.wrap (256*F159 (mkB a)))+F159 (mkB b))))=bif Ut (num6 a)&&Ut (num6 b) then 256*num6 a+num6 b else -1
    rw [ha.1,hb.1]
    cases h1:decide (0≤num6 a∧num6 a≤255) with
    | false=>rw [show Ut (num6 a)=false from h1]; rfl
    | true=>cases h2:decide (0≤num6 b∧num6 b≤255) with
     | false=>rw [show Ut (num6 b)=false from h2,Bool.and_false]; rfl
     | true =>
      rw [show Ut (num6 a)=true from h1,show Ut (num6 b)=true from h2,ha.2 h1,hb.2 h2]
      exact Tc _ _ h1 h2
   | cons c t =>
    have:(((List.map mkB (a :: b :: c :: t)).length:Int) != 2)=true:=by
     rw [bne_iff_ne]
     simp only [List.map_cons,List.length_cons,List.length_map]
     omega
    rw [this]; rfl
theorem Qxr (a n:Int) (ha:-1≤a∧a≤65535):F160 (⟨a,n⟩:NetPrefix)=(decide (0≤a)&&(in16 n&&(a.tmod (F151 n)==0))):=by
 unfold F160
 show (bif (bif (decide (0≤n∧n≤16)) then (decide (0≤a∧a≤65535)) else false) then ((a.tmod (F151 n))==0) else false)=_
 have e16:decide (0≤n∧n≤16)=in16 n:=rfl
 have e0:decide (0≤a∧a≤65535)=decide (0≤a):=by
  by_cases h0:0≤a
  ·rw [decide_eq_true h0,decide_eq_true (by omega)]
  ·rw [decide_eq_false h0,decide_eq_false (by omega)]
 rw [e16,e0]
 cases decide (0≤a) <;> cases in16 n <;> rfl
theorem Qiq (s:ByteArray):F115 s=match pfxL s.data.toList with | some (a,n)=>(⟨a,n⟩,true) | none=>(⟨0,0⟩,false):=by
 have hc:F157 s 47=(Ua 47 s.data.toList).map mkB:=Wd s 47
 unfold F115 pfxL
 rw [hc]
 simp only [Qxe]
 cases Ua 47 s.data.toList with
 | nil=>rfl
 | cons a t=>cases t with
  | nil=>rfl
  | cons b t=>cases t with
   | nil =>
    have hb:=Tq (mkB b) 16 (by omega)
    rw [Xi] at hb
    show (bif (!(F160 (⟨Yd (mkB a).data.toList,F159 (mkB b)⟩:NetPrefix))) then ((⟨0,0⟩:NetPrefix),false) else ((⟨Yd (mkB a).data.toList,F159 (mkB b)⟩:NetPrefix),true))=match pfx2 [a,b] with | some (a,n)=>(⟨a,n⟩,true) | none=>(⟨0,0⟩,false)
    rw [Xi,Qxr _ _ (Qau a),pfx2]
    have e1:in16 (F159 (mkB b))=in16 (num6 b):=hb.1
    cases h16:in16 (num6 b) with
    | false =>
     rw [e1,h16,Bool.false_and,Bool.false_and,Bool.and_false]; rfl
    | true =>
     rw [e1,h16,hb.2 h16,Bool.true_and]
     cases decide (0≤Yd a)&&((Yd a).tmod (F151 (num6 b))==0) <;> rfl
   | cons c t =>
    have:(((List.map mkB (a :: b :: c :: t)).length:Int) != 2)=true:=by
     rw [bne_iff_ne]
     simp only [List.map_cons,List.length_cons,List.length_map]
     omega
    rw [this]; rfl
theorem Qpk (s:ByteArray):F115 s=F83 s:=(Qiq s).trans (Bb s).symm
theorem Lg (lines:List ByteArray) (h:(!(F81 lines))=false):lines.length≤16:=Qpz lines (by unfold F81 at h; simpa using h)
theorem kc81 (lines:List ByteArray) {K_:Prop} (p0_:lines.length≤1048576) (p1_:∀ k:Nat,(lines.getD k default).size≤1048576) (k_:K_):(lines.length≤1048576∧(∀ k:Nat,(lines.getD k default).size≤1048576))∧(Imp (.l 1 eStr lines) (.l 1 eStr lines))∧K_:=⟨⟨p0_,p1_⟩,Imp.refl _,k_⟩
abbrev kh81 (lines:List ByteArray):Hint false Tryz.prog:=.call 81 (S81 lines) (ok81 lines) none
def F41 (lines:List ByteArray) (word:ByteArray):List (List ByteArray) :=
 bif (!(F81 lines)) then ([]:List (List ByteArray)) else (Qa lines word)
theorem fi41 (lines:List ByteArray) (word:ByteArray) (r:List (List ByteArray)) (hF:r=(F41 lines word)):(Imp (.l 1 (eL 1 eStr) r) (.l 1 (eL 1 eStr) (F41 lines word)))∧True:=by cases hF; exact ⟨Imp.refl _,trivial⟩
def S41 (R:List (List ByteArray)) (lines:List ByteArray) (word:ByteArray):Spec:=⟨[.r (.c (.l 1 eStr lines)),.r (.c (.v (.string word)))],.ow (.l 1 (eL 1 eStr) R),lines.length≤1048576∧(∀ k:Nat,(lines.getD k default).size≤1048576)⟩
theorem ok41 (lines:List ByteArray) (word:ByteArray):(S41 (F41 lines word) lines word).ok Tryz.prog 41 false :=
 Qg mixed (fn:=Tryz.f41) (ct:=.seqk [(0,0)] .no (.seq (.seq (.reg [(1,kh81 lines)]) (.cond (.seq .no .no) .no)) (.seq (.reg [(2,Xw lines word)]) .no))) Tryz.func41 (fun (hp:lines.length≤1048576∧(∀ k:Nat,(lines.getD k default).size≤1048576))=>have hpre0:=hp.1; have hpre1:=hp.2; kn lines fun _=>kc81 lines (by omega) (by first | assumption | exact hpre1 _ | exact fun k _=>hpre1 k | (intros; exact trivial) | (intros; exact Nat.zero_le _)) (ifb (!(F81 lines)) (fun h1=>(fun hF:(([]:List (List ByteArray)):List (List ByteArray))=(F41 lines word)=>ai ((Imp.nil 1 (eL 1 eStr)).trans (Imp.of_eq (congrArg (fun r:List (List ByteArray)=>Dat.l 1 (eL 1 eStr) r) hF))) trivial) (condT h1 rfl)) (fun h1=>Hy lines word (by first | omega | assumption | exact Lg lines (by assumption)) (by first | omega | assumption | exact Lg lines (by assumption)) (by first | omega | assumption | exact Lg lines (by assumption)) (fun gv2=>fi41 lines word (Qa lines word) (condF h1 rfl))))) (by kernel_rfl)
def Bl (lines:List ByteArray) (head:ByteArray):(List l52Cut×Int×List (l52Cut×Bool))→Lp (List l52Cut×Int×List (l52Cut×Bool)) (List l52Cut):=fun (out,i40,xs) =>
 bif (decide (i40<(xs.length:Int))) then (bif ((F77 (xs.getD i40.toNat default).1 0).toList==head.toList) then (.next ((out++[(xs.getD i40.toNat default).1]),(i40+1),(xs.set (i40).toNat ((xs.getD i40.toNat default).1,true)))) else (.next (out,(i40+1),xs))) else (.done (out,i40,xs))
def F75 (lines:List ByteArray) (head:ByteArray):List l52Cut :=
 (runL (Bl lines head) (((((lines.map (fun l=>(⟨(F97 l).1⟩:l52Cut))).map hz).length:Int)-0).toNat+1) (([]:List l52Cut),0,((lines.map (fun l=>(⟨(F97 l).1⟩:l52Cut))).map hz))).fin (fun r=>r) (fun (out,i40,xs)=>out)
abbrev Qcs (lines:List ByteArray):Nat×(List l52Cut×Int×List (l52Cut×Bool)):=((((((lines.map (fun l=>(⟨(F97 l).1⟩:l52Cut))).map hz).length:Int)-0).toNat+1),(([]:List l52Cut),0,((lines.map (fun l=>(⟨(F97 l).1⟩:l52Cut))).map hz)))
abbrev Qqc (lines:List ByteArray) (m39:Nat) (out:List l52Cut) (i40:Int) (xs:List (l52Cut×Bool)):Prop:=Int.toNat ((xs.length:Int)-i40)<m39∧(∀ k:Nat,i40≤(k:Int)→(xs.getD k default).2=false)∧(out.length:Int)≤i40∧(0:Int)≤i40∧xs.length=((lines.map (fun l=>(⟨(F97 l).1⟩:l52Cut))).map hz).length
abbrev Qxy (lines:List ByteArray) (head:ByteArray):Lp (List l52Cut×Int×List (l52Cut×Bool)) (List l52Cut):=LpX (Bl lines head) (Qcs lines)
abbrev Qde (lines:List ByteArray) (head:ByteArray) (i:Nat×(List l52Cut×Int×List (l52Cut×Bool))):Prop:=LpJ (Bl lines head) (Qcs lines) i (Qqc lines i.1 i.2.1 i.2.2.1 i.2.2.2)
abbrev Uak (lines:List ByteArray) (head:ByteArray) (i:Nat×(List l52Cut×Int×List (l52Cut×Bool))) (m39:Nat) (out:List l52Cut) (i40:Int) (xs:List (l52Cut×Bool)):Prop:=LpH (Bl lines head) (Qcs lines) i m39 (out,i40,xs) (Qqc lines (m39+1) out i40 xs)
abbrev lE75_0 (head:ByteArray) (out:List l52Cut) (i40:Int) (xs:List (l52Cut×Bool)) (out_:List l52Cut) (i40_:Int) (xs_:List (l52Cut×Bool)) (K39:Prop):Prop:=(Rf (.string head))∧((.int .i64 i40:Value)=.int .i64 i40_)∧(Imp (.l 1 (encH 0 Qj) xs) (.l 1 (encH 0 Qj) xs_))∧(Imp (.l 1 Qj out) (.l 1 Qj out_))∧K39
theorem un75_0 (lines:List ByteArray) (head:ByteArray) (i:Nat×(List l52Cut×Int×List (l52Cut×Bool))) (h:Qde lines head i):Uak lines head i (i.1-1) i.2.1 i.2.2.1 i.2.2.2:=⟨hd1 h.1 h.2.1,hd3 h.2.1,hd2 h.2.1,h.2.2⟩
theorem Udv (lines:List ByteArray) (head:ByteArray) (i:Nat×(List l52Cut×Int×List (l52Cut×Bool))) (m39:Nat) (out:List l52Cut) (i40:Int) (xs:List (l52Cut×Bool)) (hl:m39<i.1) (e:runL (Bl lines head) m39 (out,i40,xs)=Qxy lines head) (h:Qqc lines m39 out i40 xs):∃ j:Nat×(List l52Cut×Int×List (l52Cut×Bool)),lE75_0 head out i40 xs j.2.1 j.2.2.1 j.2.2.2 (Qde lines head j∧j.1<i.1):=⟨(m39,(out,i40,xs)),rfl,rfl,Imp.refl _,Imp.refl _,⟨e,h⟩,hl⟩
theorem fi75 (lines:List ByteArray) (head:ByteArray) (r:List l52Cut) (hF:r=(F75 lines head)):(Imp (.l 1 Qj r) (.l 1 Qj (F75 lines head)))∧True:=by cases hF; exact ⟨Imp.refl _,trivial⟩
def S75 (R:List l52Cut) (lines:List ByteArray) (head:ByteArray):Spec:=⟨[.r (.c (.l 1 eStr lines)),.r (.c (.v (.string head)))],.ow (.l 1 Qj R),lines.length≤16∧(∀ k:Nat,(lines.getD k default).size≤1048576)⟩
theorem ok75 (lines:List ByteArray) (head:ByteArray):(S75 (F75 lines head) lines head).ok Tryz.prog 75 :=
 Qg mixed (fn:=Tryz.f75) (ct:=.seqk [(0,0)] .no (.seq (.reg [(1,kh65a lines)]) (.seq (.reg [(0,.dat (.l 1 Qj ([]:List l52Cut)))]) (.seq (.seqk [(5,0),(6,0)] .no (.blk (.loop (ι:=Nat×(List l52Cut×Int×List (l52Cut×Bool))) (fun i=>(fun (out:List l52Cut) (i40:Int) (xs:List (l52Cut×Bool))=>(⟨[(1,some (.v (.string head))),(5,some (.h 0 0)),(6,some (.h 1 0)),(7,some (.v (vI i40)))],[(0,some (.own 0 (.l 1 (encH 0 Qj) xs))),(1,some (.own 1 (.l 1 Qj out)))],2⟩:St)) i.2.1 i.2.2.1 i.2.2.2) (Qde lines head) (fun i=>i.1) (Qcs lines) (fun i=>(fun (out:List l52Cut) (i40:Int) (xs:List (l52Cut×Bool))=>(.seq (.seq .no (.cond .no .no)) (.seq (.blk (.seq (.reg [(2,.ix [.l 1 eStr (xs.getD i40.toNat default).1.w]),(4,kh77 (xs.getD i40.toNat default).1 0)]) (.cond (.reg [(3,.ix [.l 1 eStr (xs.getD i40.toNat default).1.w]),(4,.take (.l 1 (encH 0 Qj) (xs.set (i40).toNat ((xs.getD i40.toNat default).1,true)))),(6,.dat (.l 1 Qj (out++[(xs.getD i40.toNat default).1])))]) .no))) (.reg [(1,.bnd)])))) i.2.1 i.2.2.1 i.2.2.2)))) (.seq .no .no))))) Tryz.func75 (fun (hp:lines.length≤16∧(∀ k:Nat,(lines.getD k default).size≤1048576))=>have hpre0:=hp.1; have hpre1:=hp.2; kn lines fun _=>kc65a lines (by first | omega | (simp only [lens,ib] at*<;> omega)) (by first | assumption | exact hpre1 _ | exact fun k _=>hpre1 k | (intros; exact trivial) | (intros; exact Nat.zero_le _)) (ai (bokr 1 Qj ([]:List l52Cut) fun _=>rfl) (kn (lines.map (fun l=>(⟨(F97 l).1⟩:l52Cut))) fun _=>kn ([]:List l52Cut) fun _=>ai (ai (rfl:(.string head:Value)=.string head) (ai (rfl:(.int .i64 0:Value)=.int .i64 0) (ai ((Imp.toH _ _ _ _):Imp (.l 1 Qj (lines.map (fun l=>(⟨(F97 l).1⟩:l52Cut)))) (.l 1 (encH 0 Qj) ((lines.map (fun l=>(⟨(F97 l).1⟩:l52Cut))).map hz))) (ai (ir:Imp (.l 1 Qj ([]:List l52Cut)) (.l 1 Qj ([]:List l52Cut))) (And.intro rfl (ai (Nat.lt_succ_self _) (by refine ⟨?_,?_,?_,?_⟩ <;> first | omega | (simp only [lens,ib] at*<;> omega) | (intro k hk; first | exact hz_f _ _ | exact (by assumption:∀ k:Nat,i40≤(k:Int)→(xs.getD k default).2=false) _ (by first | omega | (simp only [lens,ib] at*<;> omega)) | (rw [Qs _ _ _ _ (by first | omega | (simp only [lens,ib] at*<;> omega))]; exact (by assumption:∀ k:Nat,i40≤(k:Int)→(xs.getD k default).2=false) _ (by first | omega | (simp only [lens,ib] at*<;> omega)))))):Qde lines head (Qcs lines)))))) (fun (i0:Nat×(List l52Cut×Int×List (l52Cut×Bool))) (hi0:Qde lines head i0)=>(fun (m0:Nat) (out:List l52Cut) (i40:Int) (xs:List (l52Cut×Bool)) (hh0:Uak lines head i0 m0 out i40 xs)=>have hI0:=hh0.1; have hl0:=hh0.2.1; have _:=hh0.2.2.1; have _:=hh0.2.2.2.1; have _:=hh0.2.2.2.2.1; have _:=hh0.2.2.2.2.2.1; have _:=hh0.2.2.2.2.2.2; ifd (i40<(xs.length:Int)) (fun h2 _=>ai (by first | omega | (simp only [lens,ib] at*<;> omega):ib i40 xs) (ai (Imps.of_eq (Qod 0 Qj (xs.getD i40.toNat default) (by exact (by assumption:∀ k:Nat,i40≤(k:Int)→(xs.getD k default).2=false) _ (by first | omega | (simp only [lens,ib] at*<;> omega))))) (kc77 (xs.getD i40.toNat default).1 0 (by first | omega | (simp only [lens,ib] at*<;> omega)) (ifb ((F77 (xs.getD i40.toNat default).1 0).toList==head.toList) (fun h3=>ai (by first | omega | (simp only [lens,ib] at*<;> omega):ib i40 xs) (ai (Imps.of_eq (Qod 0 Qj (xs.getD i40.toNat default) (by exact (by assumption:∀ k:Nat,i40≤(k:Int)→(xs.getD k default).2=false) _ (by first | omega | (simp only [lens,ib] at*<;> omega))))) (ai (SetOK.take2 Qj xs 0 (by exact (by assumption:∀ k:Nat,i40≤(k:Int)→(xs.getD k default).2=false) _ (by first | omega | (simp only [lens,ib] at*<;> omega))) rfl rfl:SetOK (.l 1 (encH 0 Qj) xs) (i40).toNat (Qj (xs.getD i40.toNat default).1) [.any] (.l 1 (encH 0 Qj) (xs.set (i40).toNat ((xs.getD i40.toNat default).1,true)))) (ai (appr 1 Qj out [(xs.getD i40.toNat default).1] fun _=>rfl) (ai (by (simp only [lens] at *); omega:(out++[(xs.getD i40.toNat default).1]).length*24≤140737488355328) (ai (iok (i40+1) (by first | omega | (simp only [lens,ib] at*<;> omega))) (Udv lines head i0 m0 (out++[(xs.getD i40.toNat default).1]) (i40+1) (xs.set (i40).toNat ((xs.getD i40.toNat default).1,true)) hl0 (Qc hI0 (condT h2 (condT h3 rfl))) (by refine ⟨?_,?_,?_,?_,?_⟩ <;> first | omega | (simp only [lens,ib] at*<;> omega) | (intro k hk; first | exact hz_f _ _ | exact (by assumption:∀ k:Nat,i40≤(k:Int)→(xs.getD k default).2=false) _ (by first | omega | (simp only [lens,ib] at*<;> omega)) | (rw [Qs _ _ _ _ (by first | omega | (simp only [lens,ib] at*<;> omega))]; exact (by assumption:∀ k:Nat,i40≤(k:Int)→(xs.getD k default).2=false) _ (by first | omega | (simp only [lens,ib] at*<;> omega)))))))))))) (fun h3=>ai (iok (i40+1) (by first | omega | (simp only [lens,ib] at*<;> omega))) (Udv lines head i0 m0 out (i40+1) xs hl0 (Qc hI0 (condT h2 (condF h3 rfl))) (by refine ⟨?_,?_,?_,?_,?_⟩ <;> first | omega | (simp only [lens,ib] at*<;> omega) | (intro k hk; first | exact hz_f _ _ | exact (by assumption:∀ k:Nat,i40≤(k:Int)→(xs.getD k default).2=false) _ (by first | omega | (simp only [lens,ib] at*<;> omega)) | (rw [Qs _ _ _ _ (by first | omega | (simp only [lens,ib] at*<;> omega))]; exact (by assumption:∀ k:Nat,i40≤(k:Int)→(xs.getD k default).2=false) _ (by first | omega | (simp only [lens,ib] at*<;> omega))))))))))) (fun h2 _=>have hD0_4:Qxy lines head=Lp.done (out,i40,xs):=Qi hI0 (condF h2 rfl); fi75 lines head out (finD hD0_4 rfl))) (i0.1-1) i0.2.1 i0.2.2.1 i0.2.2.2 (un75_0 lines head i0 hi0))))) (by kernel_rfl)
theorem Qpb (lines:List ByteArray) (h:F31 lines=0):F64 lines=0:=by
 unfold F31 at h
 cases hn:(F64 lines != 0) with
 | true=>rw [hn,cond_true] at h; rw [h] at hn; exact absurd hn (by decide)
 | false=>simpa using hn
theorem Eo (lines:List ByteArray) (h:F119 lines=0):F64 lines=0:=Qpb lines (by rw [← Lf]; exact h)
def Qr (lines:List ByteArray) (word:ByteArray):List (List ByteArray):=bif (F119 lines==0) then Qa lines word else []
theorem as41 (lines:List ByteArray) (word:ByteArray):F41 lines word=(Qr lines word):=by
 unfold F41 F81 Qr
 cases (F119 lines==0) <;> rfl
theorem Vs (lines:List ByteArray) (word:ByteArray):(F119 lines=0∧F64 lines=0∧Qr lines word=Qa lines word)∨Qr lines word=[]:=by
 unfold Qr
 cases h:(F119 lines==0) with
 | true=>have h0:=eq_of_beq h; exact .inl ⟨h0,Eo lines h0,rfl⟩
 | false=>exact .inr rfl
theorem Tz (lines:List ByteArray) (word:ByteArray):(Qr lines word).length≤16:=by
 rcases Vs lines word with ⟨_,h,e⟩ | e
 ·rw [e]; exact Qdu lines word (Gv lines h)
 ·rw [e]; exact Nat.zero_le _
theorem Qlv (lines:List ByteArray) (word:ByteArray) (k j:Nat):(((Qr lines word).getD k default).getD j default).size≤1048576:=by
 rcases Vs lines word with ⟨_,h,e⟩ | e
 ·rw [e]; exact Yr lines word h k j
 ·rw [e]; exact Nat.zero_le _
def ofL (lines:List ByteArray) (head:ByteArray):List l52Cut:=(lines.map (fun l=>(⟨(F97 l).1⟩:l52Cut))).filter fun c=>((F77 c 0).toList==head.toList)
theorem Udn {α:Type} [Inhabited α] (xs:List α) (k:Nat):xs.set k (xs.getD k default)=xs:=by
 apply List.ext_getElem?
 intro i
 rw [List.getElem?_set]
 by_cases h:k=i
 ·subst h
  rw [if_pos rfl]
  by_cases hk:k<xs.length
  ·rw [if_pos hk,List.getD_eq_getElem?_getD,List.getElem?_eq_getElem hk]; rfl
  ·rw [if_neg hk,List.getElem?_eq_none (by omega)]
 ·rw [if_neg h]
theorem Tp {α:Type} [Inhabited α] (p:α→Bool) (xs:List α) (k:Nat) (hk:k<xs.length):(xs.take (k+1)).filter p=bif p (xs.getD k default) then (xs.take k).filter p++[xs.getD k default] else (xs.take k).filter p:=by
 rw [List.take_add_one,List.filter_append,List.getElem?_eq_getElem hk,Option.toList_some]
 have e:xs.getD k default=xs[k]:=by rw [List.getD_eq_getElem?_getD,List.getElem?_eq_getElem hk]; rfl
 rw [e]
 cases h:p xs[k] with
 | true=>rw [List.filter_cons_of_pos h]; rfl
 | false=>rw [List.filter_cons_of_neg (by simp [h])]; simp
theorem as75 (lines:List ByteArray) (head:ByteArray):F75 lines head=(ofL lines head):=by
 unfold F75 ofL
 generalize (lines.map (fun l=>(⟨(F97 l).1⟩:l52Cut)))=cuts
 have e:Int.toNat (((cuts.map hz).length:Int)-0)+1=cuts.length+1:=by rw [List.length_map]; omega
 rw [e]
 have h:=Yk (step:=Bl lines head) (fun (k:Nat) (s:List l52Cut×List (l52Cut×Bool))=>(s.1,(k:Int),s.2)) cuts.length
  (fun k s=>s.2.map Prod.fst=cuts∧s.1=(cuts.take k).filter fun c=>((F77 c 0).toList==head.toList)) (fun _=>False)
  (fun k s hk hs=>.inl ⟨(bif ((F77 (cuts.getD k default) 0).toList==head.toList) then (s.1++[cuts.getD k default],s.2.set k (cuts.getD k default,true)) else s),by
   have hl:s.2.length=cuts.length:=by rw [← hs.1,List.length_map]
   have hcx:(s.2.getD k default).1=cuts.getD k default:=by rw [← hs.1]; exact (Tt Prod.fst s.2 k (by omega)).symm
   simp only [Bl,ltD (show k<s.2.length by omega),cond_true,nn,hcx]
   cases ((F77 (cuts.getD k default) 0).toList==head.toList) <;> rfl,by
   have hl:s.2.length=cuts.length:=by rw [← hs.1,List.length_map]
   refine ⟨?_,?_⟩
   ·cases ((F77 (cuts.getD k default) 0).toList==head.toList) with
    | false=>exact hs.1
    | true =>
     show (s.2.set k (cuts.getD k default,true)).map Prod.fst=cuts
     rw [List.map_set,hs.1]
     exact Udn cuts k
   ·rw [Tp _ cuts k hk,← hs.2]
    cases ((F77 (cuts.getD k default) 0).toList==head.toList) <;> rfl⟩)
  (fun s hs=>by
   have hl:s.2.length=cuts.length:=by rw [← hs.1,List.length_map]
   simp only [Bl,hl,geD,cond_false]) cuts.length 0 ([],cuts.map hz) (by omega) ⟨by rw [List.map_map]; exact List.map_id _,rfl⟩ (cuts.length+1) (by omega)
 rcases h with ⟨s',e1,h1,h2⟩ | ⟨r,_,hr⟩
 ·rw [show (([]:List l52Cut),(0:Int),cuts.map hz)=(([]:List l52Cut),((0:Nat):Int),cuts.map hz) from rfl,e1]
  show s'.1=_
  rw [h2,List.take_length]
 ·exact hr.elim
theorem Uia (lines:List ByteArray) (head:ByteArray) (h:lines.length≤16):(ofL lines head).length≤16:=by
 have:=List.length_filter_le (fun c:l52Cut=>((F77 c 0).toList==head.toList)) (lines.map (fun l=>(⟨(F97 l).1⟩:l52Cut)))
 rw [List.length_map] at this
 unfold ofL
 omega
theorem Qjl (lines:List ByteArray) (head:ByteArray) (hz:∀ k:Nat,(lines.getD k default).size≤1048576):∀ k j:Nat,(((ofL lines head).getD k default).w.getD j default).size≤1048576:=fun k j=>by
 by_cases hk:k<(ofL lines head).length
 ·have hm:=(List.mem_filter.1 (Zr _ hk)).1
  obtain ⟨i,hi,e⟩:=Wp hm
  have:=Qaq lines hz i j
  rw [e] at this
  exact this
 ·rw [Wh (ofL lines head) (by omega)]; exact Nat.zero_le _
theorem Uhn (lines:List ByteArray) (h:F64 lines=0) (head:ByteArray):ofL lines head=(Qa lines head).map l52Cut.mk:=by
 unfold ofL
 rw [Ujy,Ys lines h,List.filter_map]
 congr 1
 refine List.filter_congr fun w _=>?_
 show ((F77 ⟨w⟩ 0).toList==head.toList)=hdB w head.data.toList
 rw [at0,Qy,Qy]; rfl

theorem Qgp {p:Nat→Bool}:∀ (m i:Nat),anyF p i m=false→∀ k,i≤k→k<i+m→p k=false
 | 0,i,_,k,h1,h2=>by omega
 | m+1,i,h,k,h1,h2=>by
  rw [anyF,Bool.or_eq_false_iff] at h
  rcases Nat.eq_or_lt_of_le h1 with rfl | hlt
  ·exact h.1
  ·exact Qgp m (i+1) h.2 k hlt (by omega)
theorem Qwg (lines:List ByteArray) (h:F64 lines=0):(lines.map F149).Nodup:=by
 have hk:=(Xg lines h).2
 unfold F64 at h
 cases h16:decide ((lines.length:Int)>16) with
 | true=>rw [h16,cond_true] at h; exact absurd h (by decide)
 | false =>
 rw [h16,cond_false] at h
 have h0:=fun (f:Int→Int) (g:Int→Int) (y:Int) (hg:∀ i,g i=y)=>anyL lines (fun l=>!F182 l) (2:Int) (Kf lines) (fun i hi=>by
  simp only [Kf,ltD hi,cond_true,nn,Qdv _ _ _ hi,Te]
  rfl) (by simp only [Kf,geD,cond_false]) f g y hg
 have hany:(lines.any fun l=>!F182 l)=false:=by
  rw [Bool.eq_false_iff]
  intro hc
  obtain ⟨x,hx,hp⟩:=List.any_eq_true.1 hc
  rw [hk x hx] at hp
  cases hp
 rw [h0 (fun r=>r) _ _ (fun _=>rfl),hany,cond_false] at h
 have h3:(runL (Zu lines) (((lines.length:Int)-0).toNat+1) 0).fin (fun r=>r) (fun i42=>0)=0:=by
  rcases Nat.eq_zero_or_pos lines.length with hz | hz
  ·have:lines=[]:=List.eq_nil_of_length_eq_zero hz
   subst this; rfl
  ·have h1:=fun (y:Int)=>Yn (Jr lines) lines.length (fun k=>(!(Op.bytesLess (lines.getD (k-1) default).toList (lines.getD k default).toList))) (3:Int) (fun r=>r) y (fun k hk=>by
    simp only [Jr,ltD hk,cond_true,nn]
    rw [show Int.toNat ((k:Int)-1)=k-1 by omega]; rfl) (by simp only [Jr,geD,cond_false]) (lines.length-1) 1 (by omega) (Int.toNat ((lines.length:Int)-1)+1) (by omega)
   have h2:=h1 ((runL (Zu lines) (((lines.length:Int)-0).toNat+1) 0).fin (fun r=>r) (fun i42=>0))
   have h3:=h2.symm.trans h
   cases ha:anyF (fun k=>(!(Op.bytesLess (lines.getD (k-1) default).toList (lines.getD k default).toList))) 1 (lines.length-1) with
   | true=>rw [ha,cond_true] at h3; exact absurd h3 (by decide)
   | false=>rw [ha,cond_false] at h3; exact h3
 have h4:=Yn (Zu lines) lines.length (fun k=>decide ((lines.map F149).getD k default∈(lines.map F149).take k)) (4:Int) (fun r=>r) (0:Int) (fun i hi=>by
  simp only [Zu,ltD hi,cond_true,nn,Qaa]; rfl) (by simp only [Zu,geD,cond_false]) lines.length 0 (by omega) (Int.toNat ((lines.length:Int)-0)+1) (by omega)
 have h5:=h4.symm.trans h3
 cases hb:anyF (fun k=>decide ((lines.map F149).getD k default∈(lines.map F149).take k)) 0 lines.length with
 | true=>rw [hb,cond_true] at h5; exact absurd h5 (by decide)
 | false =>
  refine List.pairwise_iff_getElem.2 fun i j hi hj hij e=>?_
  have hj':j<lines.length:=by simpa using hj
  have:=of_decide_eq_false (Qgp _ _ hb j (Nat.zero_le _) (by omega))
  refine this ?_
  rw [List.getD_eq_getElem?_getD,List.getElem?_eq_getElem hj,Option.getD_some,← e]
  exact List.mem_take_iff_getElem.2 ⟨i,by omega,rfl⟩
theorem Qqk {α β:Type} {f:α→β}:∀ {xs:List α},(xs.map f).Nodup→∀ x∈xs,∀ y∈xs,f x=f y→x=y
 | [],_,x,hx,_,_,_=>by cases hx
 | a :: xs,h,x,hx,y,hy,e=>by
  rw [List.map_cons,List.nodup_cons] at h
  rcases List.mem_cons.1 hx with rfl | hx
  ·rcases List.mem_cons.1 hy with rfl | hy
   ·rfl
   ·exact absurd (List.mem_map.2 ⟨y,hy,e.symm⟩) h.1
  ·rcases List.mem_cons.1 hy with hy | hy
   ·exact absurd (List.mem_map.2 ⟨x,hx,e.trans (congrArg f hy)⟩) h.1
   ·exact Qqk h.2 x hx y hy e
theorem Qwn {lines:List ByteArray} {word:ByteArray} (h:F64 lines=0) {n:Nat} (hn:(keyN word.data.toList).toNat=n) {w1 w2:List ByteArray} (m1:w1∈Qa lines word) (m2:w2∈Qa lines word) (e:w1.take n=w2.take n):w1=w2:=by
 have key:∀ w∈Qa lines word,∃ l∈lines,w=Qx l (⟨#[32]⟩:ByteArray)∧F149 l=Yv (w.take n) (⟨#[32]⟩:ByteArray):=fun w hw=>by
  unfold Qa at hw
  obtain ⟨hw,hh⟩:=List.mem_filter.1 hw
  obtain ⟨l,hl,rfl⟩:=List.mem_map.1 hw
  have hk:=(Xg lines h).2 l hl
  refine ⟨l,hl,rfl,?_⟩
  rw [Qpm l hk]
  have hs:=Li l hk
  rw [← hs,eq_of_beq hh,hn]
 obtain ⟨l1,a1,b1,c1⟩:=key w1 m1
 obtain ⟨l2,a2,b2,c2⟩:=key w2 m2
 have:=Qqk (Qwg lines h) l1 a1 l2 a2 (by rw [c1,c2,e])
 rw [b1,b2,this]
theorem Uhq {a b:List UInt8} (h:num6 a=num6 b) (h0:0≤num6 a):a=b:=by
 have key:∀ l:List UInt8,0≤num6 l→num6 l=(valL 0 l:Int)∧Zd l=true:=fun l hl=>by
  unfold num6 at hl ⊢
  cases hc:Zd l&&decide (l.length≤6) with
  | false=>rw [hc,cond_false] at hl; exact absurd hl (by decide)
  | true=>rw [Bool.and_eq_true] at hc; exact ⟨rfl,hc.1⟩
 obtain ⟨a1,a2⟩:=key a h0
 obtain ⟨b1,b2⟩:=key b (h ▸ h0)
 have e:valL 0 a=valL 0 b:=by omega
 rw [← Mm _ a rfl a2,← Mm _ b rfl b2,e]
end Go.Proofs.YtcgfkhokhiggkaaGreatDoor
namespace Go.Proofs.YtcgfkhokhiggkaaGreatDoor
open Go.RowKit
set_option maxRecDepth 100000
set_option linter.unusedVariables false
set_option linter.unusedSimpArgs false
open Go.Shelf
theorem Qfc (lines:List ByteArray) (k:Nat) (hk:k<(Qr lines (⟨#[114,117,108,101]⟩:ByteArray)).length):Yi ((Qr lines (⟨#[114,117,108,101]⟩:ByteArray)).getD k default):=by
 rcases Vs lines (⟨#[114,117,108,101]⟩:ByteArray) with ⟨_,h,e⟩ | e
 ·rw [e] at hk ⊢; exact Qju lines h k hk
 ·rw [e] at hk; exact absurd hk (Nat.not_lt_zero _)
theorem Wc {lines:List ByteArray} {w:List ByteArray} (h:w∈Qr lines (⟨#[114,117,108,101]⟩:ByteArray)):Yi w:=by
 obtain ⟨k,hk,rfl⟩:=Wp h
 exact Qfc lines k hk
theorem Qmn (lines:List ByteArray):∀ k:Nat,k<(Qr lines (⟨#[114,117,108,101]⟩:ByteArray)).length→2≤((Qr lines (⟨#[114,117,108,101]⟩:ByteArray)).getD k default).length:=fun k hk=>by
 have h:=Qfc lines k hk
 unfold Yi at h
 omega
theorem Ulp {s:ByteArray} (h:0≤F44 s):0≤decN s∧F44 s=decN s:=by
 unfold F44 at h ⊢
 cases hc:decide ((s.size:Int)>6) with
 | true=>rw [hc,cond_true] at h; exact absurd h (by decide)
 | false=>rw [hc,cond_false] at h; exact ⟨h,rfl⟩
theorem Bel.andThen {B:Nat} {w w1 w2:World} (h:Bel B w w1) (h2:Bel w1.heap.size w1 w2) (hB:B≤w1.heap.size):Bel B w w2:=⟨h.toBelow.trans (h2.toBelow.mono hB),Nat.le_trans h.drawn h2.drawn⟩
set_option maxHeartbeats 1000000 in
theorem Ucp (s:ByteArray) (w:World) (v:Int) (hv:decide (v<0)=false) (hv2:v≤9223372036854775807) (ht:Lib.TabIs Tryz.prog w "internal/strconv.uint64pow10" .u64 Lib.pow10Tab)
  (hI:Calls Tryz.prog 123 #[.string s] w fun e w'=>e=.returned (.tuple #[.int .i64 v,.nilIface])∧Bel w.heap.size w w') :
  Calls Tryz.prog 85 #[.string s] w fun e w'=>e=.returned (.int .i64 (bif Lib.itoa v==s.data.toList then v else -1))∧Bel w.heap.size w w':=by
 have hv0:0≤v:=by simpa using hv
 have hT:∀ W1,Bel w.heap.size w W1→Calls Tryz.prog 124 #[.int .i64 v] W1 fun e w'=>e=.returned (.string ⟨(Lib.itoa v).toArray⟩)∧Bel W1.heap.size W1 w':=fun W1 hW=>by
  refine (Any.strconv_Itoa layItoa v (by omega) hv2 W1 (Qls ht hW.toBelow)).mono ?_
  rintro e w' ⟨rfl,k,os,rfl⟩
  exact ⟨rfl,⟨rfl,rfl,rfl,by simp [Go.Sort.grow],fun b hb=>by simp [Go.Sort.grow,Array.getElem?_append_left hb]⟩,Nat.le_add_right _ _⟩
 have H:=Lib.hid hT
 clear hT
 have key:(bif Lib.itoa v==s.data.toList then v else -1)=(bif (!(Lib.itoa v==s.toList)) then -1 else v):=by
  have e:s.toList=s.data.toList:=Qy s
  rw [e]
  cases (Lib.itoa v==s.data.toList) <;> rfl
 rw [key]
 clear key
 go_enter Tryz.func85,Tryz.ntmps85
 go_wp2_with (first | (go_at_call 123; refine hI.mono ?_; rintro e W1 ⟨rfl,hW⟩) | (go_at_call 124; refine (H.out _ hW).mono ?_; rintro e W2 ⟨rfl,hW2⟩))
 all_goals
  rename_i hq
  rw [hq]
  go_ret
  exact ⟨rfl,hW.andThen hW2 hW.size⟩
theorem Uhz (s:ByteArray) (hs:s.size≤281474976710656) (h0:0≤decN s) (w:World) (hG:GP w) :
  Calls Tryz.prog 85 #[.string s] w fun e w'=>e=.returned (.int .i64 (decN s))∧Bel w.heap.size w w':=by
 unfold decN at h0 ⊢
 cases h:Lib.atoiAll s.data.toList with
 | ok v =>
  rw [h] at h0
  obtain ⟨b0,b1⟩:=Lib.atoiAll_bounds h
  have hI:Calls Tryz.prog 123 #[.string s] w fun e w'=>e=.returned (.tuple #[.int .i64 v,.nilIface])∧Bel w.heap.size w w':=by
   refine (Any.strconv_Atoi_ok Qaj s (by omega) v h w).mono ?_
   rintro e w' ⟨rfl,hw⟩
   refine ⟨rfl,?_⟩
   rcases hw with rfl | ⟨t,rfl⟩
   ·exact Bel.refl _ _
   ·exact ⟨Lib.bytesWorld_below _ _ _,Nat.le_succ _⟩
  by_cases hv:v<0
  ·have e1:(bif decide (0≤v)&&(Lib.itoa v==s.data.toList) then v else -1)=-1:=by
    rw [decide_eq_false (by omega)]; rfl
   simp only [e1] at h0
   exact absurd h0 (by decide)
  ·have e1:(bif decide (0≤v)&&(Lib.itoa v==s.data.toList) then v else -1)=(bif Lib.itoa v==s.data.toList then v else -1):=by
    rw [decide_eq_true (by omega),Bool.true_and]
   simp only [e1]
   exact Ucp s w v (decide_eq_false hv) (by omega) hG.tab hI
 | range=>rw [h] at h0; exact absurd (show (0:Int)≤-1 from h0) (by decide)
 | _=>rw [h] at h0; exact absurd (show (0:Int)≤-1 from h0) (by decide)
theorem Qmx (s:ByteArray):Spec.ok Tryz.prog 85 ⟨[.r (.c (.v (.string s)))],.v (.int .i64 (decN s)),s.size≤281474976710656∧0≤decN s⟩:=by
 intro ⟨hs,h0⟩ S w vs fp hS hG hA
 obtain ⟨u,us,f,g,rfl,⟨⟨rfl,_⟩,rfl⟩,⟨rfl,rfl⟩,rfl,_⟩:=hA
 refine (Uhz s hs h0 w hG.1).mono fun e w' ⟨h1,h2⟩=>?_
 exact ⟨_,[],[],h1,⟨rfl,rfl,rfl⟩,⟨_,_,[],[],rfl,rfl,rfl,rfl⟩,List.nodup_nil,fun b hb=>by simp at hb,Chg.of_below h2⟩
end Go.Proofs.YtcgfkhokhiggkaaGreatDoor
namespace Go.Proofs.YtcgfkhokhiggkaaGreatDoor
open Go.RowKit
set_option maxRecDepth 100000
set_option linter.unusedVariables false
set_option linter.unusedSimpArgs false
def Zc (Q:SV→Prop) (p:SV→Bool):Uv:=⟨SV,fun i=>[.c (.x (PX (.v (sv i)) (Q i)))],fun i=>.bool (p i)⟩
def Za (s:List SV) (f:SV→Bool):Int→Lp Int Int:=fun v8 =>
 bif (decide (v8<(s.length:Int))) then (bif (f (s.getD v8.toNat default)) then (.ret v8) else (.next (v8+1))) else (.done v8)
def F92w (s:List SV) (f:SV→Bool):Int :=
 (runL (Za s f) (((s.length:Int)-0).toNat+1) 0).fin (fun r=>r) (fun v8=>(-1))
def S92w (R:Int) (s:List SV) (f:SV→Bool) (Qf:SV→Prop):Spec:=⟨[.r (.c (.l 1 eSV s)),.fn (Zc Qf f)],.v (.int .i64 R),(∀ k:Nat,k<s.length→Qf (s.getD k default))⟩
theorem ok92w (s:List SV) (f:SV→Bool) (Qf:SV→Prop):(S92w (F92w s f) s f Qf).ok Tryz.prog 92 false :=
 Qg mixed (fn:=Tryz.f92) (ct:=.seqk [(0,0)] (.no) (.seq (.seqk [(0,0)] (.no) (.blk (.loop (ι:=Nat×Int) (fun i=>(fun (v8:Int)=>(⟨[(0,some (.h 0 0)),(1,some (.h 1 0)),(7,some (.v (.int .i64 (s.length:Int)))),(8,some (.v (.int .i64 v8)))],[(0,some (.shr none (.l 1 eSV s))),(1,some (.fn (Zc Qf f)))],2⟩:St)) i.2) (fun i=>runL (Za s f) i.1 i.2=(runL (Za s f) (((s.length:Int)-0).toNat+1) 0)∧(fun (v8:Int)=>(Int.toNat ((s.length:Int)-v8)<i.1∧(0:Int)≤v8)) i.2) (fun i=>i.1) ((((s.length:Int)-0).toNat+1),0) (fun i=>(fun (v8:Int)=>(.seq (.no) (.seq (.cond (.no) (.no)) (.seq (.blk (.seq (.no) (.seq (.reg [(5,.fnv (Zc Qf f) (s.getD v8.toNat default))]) (.cond (.seq (.no) (.no)) (.no))))) (.reg [(0,.bnd)]))))) i.2)))) (.seq (.no) (.no)))) Tryz.func92 (fun (hpre0:∀ k:Nat,k<s.length→Qf (s.getD k default))=>kn s fun _=>kn s fun _=>And.intro (And.intro (rfl) (And.intro (rfl) (And.intro ((Imp.refl _)) (And.intro (rfl) ((And.intro (rfl:runL (Za s f) (((s.length:Int)-0).toNat+1) 0=(runL (Za s f) (((s.length:Int)-0).toNat+1) 0)) (And.intro ((Nat.lt_succ_self _:Int.toNat ((s.length:Int)-0)<(((s.length:Int)-0).toNat+1))) ((by omega:(0:Int)≤0)))))))):((.int .i64 (s.length:Int):Value)=.int .i64 (s.length:Int))∧((.int .i64 0:Value)=.int .i64 0)∧(Imp (.l 1 eSV s) (.l 1 eSV s))∧(Zc Qf f=Zc Qf f)∧(runL (Za s f) (((s.length:Int)-0).toNat+1) 0=(runL (Za s f) (((s.length:Int)-0).toNat+1) 0)∧Int.toNat ((s.length:Int)-0)<(((s.length:Int)-0).toNat+1)∧(0:Int)≤0)) (fun (i0:Nat×Int) (hi0:runL (Za s f) i0.1 i0.2=(runL (Za s f) (((s.length:Int)-0).toNat+1) 0)∧(fun (v8:Int)=>(Int.toNat ((s.length:Int)-v8)<i0.1∧(0:Int)≤v8)) i0.2)=>(fun (m0:Nat) (v8:Int) (hI0:runL (Za s f) (m0+1) v8=(runL (Za s f) (((s.length:Int)-0).toNat+1) 0)) (_:Int.toNat ((s.length:Int)-v8)<m0+1) (hl0:m0<i0.1) (_:(0:Int)≤v8)=>ifd (v8<(s.length:Int)) (fun h2 _=>And.intro ((by omega:ib v8 s)) (And.intro ((Eq.refl (Zc Qf f))) (And.intro ((Imp.px (d:=.v (sv (s.getD v8.toNat default))) (hpre0 v8.toNat (by omega)))) (ifb (f (s.getD v8.toNat default)) (fun h3=>(fun hF:(v8:Int)=(F92w s f)=>And.intro (congrArg (fun r:Int=>(.int .i64 r:Value)) hF) (trivial)) (finR (Qp hI0 (condT h2 (condT h3 (rfl)))) rfl)) (fun h3=>And.intro (iok (v8+1) (by omega)) (Exists.intro (p:=fun j:Nat×Int=>(fun (v8_:Int)=>(((.int .i64 (s.length:Int):Value)=.int .i64 (s.length:Int))∧((.int .i64 (v8+1):Value)=.int .i64 v8_)∧(Imp (.l 1 eSV s) (.l 1 eSV s))∧(Zc Qf f=Zc Qf f)∧((runL (Za s f) j.1 j.2=(runL (Za s f) (((s.length:Int)-0).toNat+1) 0)∧Int.toNat ((s.length:Int)-v8_)<j.1∧(0:Int)≤v8_)∧j.1<i0.1))) j.2) (m0,(v8+1)) (And.intro (rfl) (And.intro (rfl) (And.intro ((Imp.refl _)) (And.intro (rfl) (And.intro (And.intro (Qc hI0 (condT h2 (condF h3 (rfl)))) (And.intro ((by omega:Int.toNat ((s.length:Int)-(v8+1))<m0)) ((by omega:(0:Int)≤(v8+1))))) hl0))))))))))) (fun h2 _=>(fun hD0_4:(runL (Za s f) (((s.length:Int)-0).toNat+1) 0)=Lp.done v8=>(fun hF:((-1):Int)=(F92w s f)=>And.intro (congrArg (fun r:Int=>(.int .i64 r:Value)) hF) (trivial)) (finD hD0_4 (rfl))) (Qi hI0 (condF h2 (rfl))))) (i0.1-1) i0.2 (hd1 hi0.1 hi0.2.1) (hd2 hi0.2.1) (hd3 hi0.2.1) hi0.2.2)) (by kernel_rfl)
theorem as92w (s:List SV) (f:SV→Bool):F92w s f=(idxI f s):=by
 exact Jn f s (Za s f) (fun i=>rfl)
theorem oa92w (s:List SV) (f:SV→Bool) (Qf:SV→Prop):(S92w (idxI f s) s f Qf).ok Tryz.prog 92 false:=by
 intro hp; have h:=ok92w s f Qf hp; rw [as92w s f] at h; exact h
theorem g92_0w (s:List SV) (f:SV→Bool):(idxI f s)<(s.length:Int):=by
 exact Hi f s
theorem g92_1w (s:List SV) (f:SV→Bool):-1≤(idxI f s):=by
 (show -1≤idxI f s; unfold idxI; cases first (fun k=>f (s.getD k default)) s.length <;> simp only [oix] <;> omega)
def Ym (s:List SV) (del:SV→Bool):(Int×Int×List SV)→Lp (Int×Int×List SV) (List SV):=fun (i41,j1,xs) =>
 bif (decide (j1<(xs.length:Int))) then (bif (!(del (xs.getD j1.toNat default))) then (.next ((i41+1),(j1+1),(xs.set (i41).toNat (xs.getD j1.toNat default)))) else (.next (i41,(j1+1),xs))) else (.done (i41,j1,xs))
def Nn (s:List SV) (del:SV→Bool):Lp (List SV×Int) (List SV) :=
 (runL (Ym s del) (((s.length:Int)-((idxI del s)+1)).toNat+1) ((idxI del s),((idxI del s)+1),s)).fin Lp.ret (fun (i41,j1,xs)=>.done (xs,i41))
def F59w (s:List SV) (del:SV→Bool):List SV :=
 bif ((idxI del s)==(-1)) then s else ((Nn s del).fin (fun r=>r) (fun (s1,i40)=>((s1.take i40.toNat++List.replicate (s1.drop i40.toNat).length ((⟨none,0,0⟩:SV):SV)++s1.drop (i40.toNat+(s1.drop i40.toNat).length)).take i40.toNat)))
def S59w (R:List SV) (s:List SV) (del:SV→Bool) (Qdel:SV→Prop):Spec:=⟨[.ow (.l 1 eSV s) none,.fn (Zc Qdel del)],.ow (.l 1 eSV R),s.length≤1000000000∧(∀ k:Nat,k<s.length→Qdel (s.getD k default))⟩
theorem ok59w (s:List SV) (del:SV→Bool) (Qdel:SV→Prop):(S59w (F59w s del) s del Qdel).ok Tryz.prog 59 false :=
 Qg mixed (fn:=Tryz.f59) (ct:=.seqk [(0,0)] (.no) (.seq (.reg [(2,.call 92 (S92w (idxI del s) s del Qdel) (oa92w s del Qdel) none)]) (.seq (.seq (.no) (.cond (.seq (.no) (.no)) (.no))) (.cut (ι:=List SV×Int) (fun j=>(fun (s1:List SV) (i40:Int)=>(⟨[(0,some (.h 0 0)),(5,some (.v (.int .i64 i40)))],[(0,some (.own 0 (.l 1 eSV s1)))],1⟩:St)) j.1 j.2) (fun j=>(fun (s1:List SV) (i40:Int)=>((Nn s del)=Lp.done j∧(0≤i40∧i40≤(s1.length:Int)))) j.1 j.2) (.seqk [(0,0)] (.reg [(1,.bnd)]) (.blk (.loop (ι:=Nat×(Int×Int×List SV)) (fun i=>(fun (i41:Int) (j1:Int) (xs:List SV)=>(⟨[(0,some (.h 0 0)),(1,some (.h 1 0)),(5,some (.v (.int .i64 i41))),(6,some (.v (.int .i64 j1)))],[(0,some (.own 0 (.l 1 eSV xs))),(1,some (.fn (Zc Qdel del)))],2⟩:St)) i.2.1 i.2.2.1 i.2.2.2) (fun i=>runL (Ym s del) i.1 i.2=(runL (Ym s del) (((s.length:Int)-((idxI del s)+1)).toNat+1) ((idxI del s),((idxI del s)+1),s))∧(fun (i41:Int) (j1:Int) (xs:List SV)=>(Int.toNat ((xs.length:Int)-j1)<i.1∧(0≤i41∧i41<j1)∧j1≤(xs.length:Int)∧xs.length≤1000000000∧(∀ k:Nat,j1≤(k:Int)→k<xs.length→Qdel (xs.getD k default))∧xs.length=s.length)) i.2.1 i.2.2.1 i.2.2.2) (fun i=>i.1) ((((s.length:Int)-((idxI del s)+1)).toNat+1),((idxI del s),((idxI del s)+1),s)) (fun i=>(fun (i41:Int) (j1:Int) (xs:List SV)=>(.seq (.seq (.no) (.cond (.no) (.no))) (.seq (.blk (.seq (.no) (.seq (.reg [(2,.fnv (Zc Qdel del) (xs.getD j1.toNat default))]) (.cond (.seq (.reg [(4,.dat (.l 1 eSV (xs.set (i41).toNat (xs.getD j1.toNat default))))]) (.reg [(1,.bnd)])) (.no))))) (.reg [(1,.bnd)])))) i.2.1 i.2.2.1 i.2.2.2)))) (fun j=>(fun (s1:List SV) (i40:Int)=>(.seq (.reg [(2,.part),(3,.dat (.l 1 eSV (s1.take i40.toNat++List.replicate (s1.drop i40.toNat).length ((⟨none,0,0⟩:SV):SV)++s1.drop (i40.toNat+(s1.drop i40.toNat).length))))]) (.seq (.reg [(2,.own)]) (.no)))) j.1 j.2))))) Tryz.func59 (fun (hp:s.length≤1000000000∧(∀ k:Nat,k<s.length→Qdel (s.getD k default)))=>have hpre0:=hp.1; have hpre1:=hp.2; kn s fun _=>And.intro (((by first | assumption | exact hpre1 _ | exact fun k _=>hpre1 k | (intros; exact trivial) | (intros; exact Nat.zero_le _):∀ k:Nat,k<s.length→Qdel (s.getD k default)))) (And.intro ((Imp.refl (.l 1 eSV s))) (And.intro ((Eq.refl (Zc Qdel del))) (have gv1:(idxI del s)<(s.length:Int):=g92_0w s del; have gv2:-1≤(idxI del s):=g92_1w s del; ife (idxI del s) (-1) (fun h3 _=>(fun hF:(s:List SV)=(F59w s del)=>And.intro (Imp.of_eq (congrArg (fun r:List SV=>Dat.l 1 eSV r) hF)) (trivial)) (condT h3 (rfl))) (fun h3 _=>And.intro (And.intro (iok ((idxI del s)+1) (by first | omega | (simp only [lens,ib] at*<;> omega))) (kn s fun _=>And.intro (And.intro (rfl) (And.intro (rfl) (And.intro ((Imp.refl _)) (And.intro (rfl) ((And.intro (rfl:runL (Ym s del) (((s.length:Int)-((idxI del s)+1)).toNat+1) ((idxI del s),((idxI del s)+1),s)=(runL (Ym s del) (((s.length:Int)-((idxI del s)+1)).toNat+1) ((idxI del s),((idxI del s)+1),s))) (And.intro ((Nat.lt_succ_self _:Int.toNat ((s.length:Int)-((idxI del s)+1))<(((s.length:Int)-((idxI del s)+1)).toNat+1))) (And.intro ((by first | omega | (simp only [lens,ib] at*<;> omega) | (intro k hk hk2; first | exact (by assumption:∀ k:Nat,k<s.length→Qdel (s.getD k default)) k hk2 | exact (by assumption:∀ k:Nat,j1≤(k:Int)→k<xs.length→Qdel (xs.getD k default)) k (by first | omega | (simp only [lens,ib] at*<;> omega)) hk2 | (rw [Qs _ _ _ _ (by first | omega | (simp only [lens,ib] at*<;> omega))]; exact (by assumption:∀ k:Nat,j1≤(k:Int)→k<xs.length→Qdel (xs.getD k default)) k (by first | omega | (simp only [lens,ib] at*<;> omega)) (by simpa using hk2))):0≤(idxI del s)∧(idxI del s)<((idxI del s)+1))) (And.intro ((by first | omega | (simp only [lens,ib] at*<;> omega) | (intro k hk hk2; first | exact (by assumption:∀ k:Nat,k<s.length→Qdel (s.getD k default)) k hk2 | exact (by assumption:∀ k:Nat,j1≤(k:Int)→k<xs.length→Qdel (xs.getD k default)) k (by first | omega | (simp only [lens,ib] at*<;> omega)) hk2 | (rw [Qs _ _ _ _ (by first | omega | (simp only [lens,ib] at*<;> omega))]; exact (by assumption:∀ k:Nat,j1≤(k:Int)→k<xs.length→Qdel (xs.getD k default)) k (by first | omega | (simp only [lens,ib] at*<;> omega)) (by simpa using hk2))):((idxI del s)+1)≤(s.length:Int))) (And.intro ((by first | omega | (simp only [lens,ib] at*<;> omega) | (intro k hk hk2; first | exact (by assumption:∀ k:Nat,k<s.length→Qdel (s.getD k default)) k hk2 | exact (by assumption:∀ k:Nat,j1≤(k:Int)→k<xs.length→Qdel (xs.getD k default)) k (by first | omega | (simp only [lens,ib] at*<;> omega)) hk2 | (rw [Qs _ _ _ _ (by first | omega | (simp only [lens,ib] at*<;> omega))]; exact (by assumption:∀ k:Nat,j1≤(k:Int)→k<xs.length→Qdel (xs.getD k default)) k (by first | omega | (simp only [lens,ib] at*<;> omega)) (by simpa using hk2))):s.length≤1000000000)) (And.intro ((by first | omega | (simp only [lens,ib] at*<;> omega) | (intro k hk hk2; first | exact (by assumption:∀ k:Nat,k<s.length→Qdel (s.getD k default)) k hk2 | exact (by assumption:∀ k:Nat,j1≤(k:Int)→k<xs.length→Qdel (xs.getD k default)) k (by first | omega | (simp only [lens,ib] at*<;> omega)) hk2 | (rw [Qs _ _ _ _ (by first | omega | (simp only [lens,ib] at*<;> omega))]; exact (by assumption:∀ k:Nat,j1≤(k:Int)→k<xs.length→Qdel (xs.getD k default)) k (by first | omega | (simp only [lens,ib] at*<;> omega)) (by simpa using hk2))):∀ k:Nat,((idxI del s)+1)≤(k:Int)→k<s.length→Qdel (s.getD k default))) ((by first | omega | (simp only [lens,ib] at*<;> omega) | (intro k hk hk2; first | exact (by assumption:∀ k:Nat,k<s.length→Qdel (s.getD k default)) k hk2 | exact (by assumption:∀ k:Nat,j1≤(k:Int)→k<xs.length→Qdel (xs.getD k default)) k (by first | omega | (simp only [lens,ib] at*<;> omega)) hk2 | (rw [Qs _ _ _ _ (by first | omega | (simp only [lens,ib] at*<;> omega))]; exact (by assumption:∀ k:Nat,j1≤(k:Int)→k<xs.length→Qdel (xs.getD k default)) k (by first | omega | (simp only [lens,ib] at*<;> omega)) (by simpa using hk2))):s.length=s.length)))))))))))):((.int .i64 (idxI del s):Value)=.int .i64 (idxI del s))∧((.int .i64 ((idxI del s)+1):Value)=.int .i64 ((idxI del s)+1))∧(Imp (.l 1 eSV s) (.l 1 eSV s))∧(Zc Qdel del=Zc Qdel del)∧(runL (Ym s del) (((s.length:Int)-((idxI del s)+1)).toNat+1) ((idxI del s),((idxI del s)+1),s)=(runL (Ym s del) (((s.length:Int)-((idxI del s)+1)).toNat+1) ((idxI del s),((idxI del s)+1),s))∧Int.toNat ((s.length:Int)-((idxI del s)+1))<(((s.length:Int)-((idxI del s)+1)).toNat+1)∧(0≤(idxI del s)∧(idxI del s)<((idxI del s)+1))∧((idxI del s)+1)≤(s.length:Int)∧s.length≤1000000000∧(∀ k:Nat,((idxI del s)+1)≤(k:Int)→k<s.length→Qdel (s.getD k default))∧s.length=s.length)) (fun (i0:Nat×(Int×Int×List SV)) (hi0:runL (Ym s del) i0.1 i0.2=(runL (Ym s del) (((s.length:Int)-((idxI del s)+1)).toNat+1) ((idxI del s),((idxI del s)+1),s))∧(fun (i41:Int) (j1:Int) (xs:List SV)=>(Int.toNat ((xs.length:Int)-j1)<i0.1∧(0≤i41∧i41<j1)∧j1≤(xs.length:Int)∧xs.length≤1000000000∧(∀ k:Nat,j1≤(k:Int)→k<xs.length→Qdel (xs.getD k default))∧xs.length=s.length)) i0.2.1 i0.2.2.1 i0.2.2.2)=>(fun (m0:Nat) (i41:Int) (j1:Int) (xs:List SV) (hI0:runL (Ym s del) (m0+1) (i41,j1,xs)=(runL (Ym s del) (((s.length:Int)-((idxI del s)+1)).toNat+1) ((idxI del s),((idxI del s)+1),s))) (_:Int.toNat ((xs.length:Int)-j1)<m0+1) (hl0:m0<i0.1) (_:0≤i41∧i41<j1) (_:j1≤(xs.length:Int)) (_:xs.length≤1000000000) (_:∀ k:Nat,j1≤(k:Int)→k<xs.length→Qdel (xs.getD k default)) (_:xs.length=s.length)=>ifd (j1<(xs.length:Int)) (fun h5 _=>And.intro ((by first | omega | (simp only [lens,ib] at*<;> omega):ib j1 xs)) (And.intro ((Eq.refl (Zc Qdel del))) (And.intro ((Imp.px (d:=.v (sv (xs.getD j1.toNat default))) ((by assumption:∀ k:Nat,j1≤(k:Int)→k<xs.length→Qdel (xs.getD k default)) j1.toNat (by first | omega | (simp only [lens,ib] at*<;> omega)) (by first | omega | (simp only [lens,ib] at*<;> omega))))) (ifb (!(del (xs.getD j1.toNat default))) (fun h6=>have _:=(Kd h6); And.intro ((by first | omega | (simp only [lens,ib] at*<;> omega):ib i41 xs)) (And.intro (setr 1 eSV xs (i41).toNat (xs.getD j1.toNat default)) (And.intro (iok (i41+1) (by first | omega | (simp only [lens,ib] at*<;> omega))) (And.intro (iok (j1+1) (by first | omega | (simp only [lens,ib] at*<;> omega))) (Exists.intro (p:=fun j:Nat×(Int×Int×List SV)=>(fun (i41_:Int) (j1_:Int) (xs_:List SV)=>(((.int .i64 (i41+1):Value)=.int .i64 i41_)∧((.int .i64 (j1+1):Value)=.int .i64 j1_)∧(Imp (.l 1 eSV (xs.set (i41).toNat (xs.getD j1.toNat default))) (.l 1 eSV xs_))∧(Zc Qdel del=Zc Qdel del)∧((runL (Ym s del) j.1 j.2=(runL (Ym s del) (((s.length:Int)-((idxI del s)+1)).toNat+1) ((idxI del s),((idxI del s)+1),s))∧Int.toNat ((xs_.length:Int)-j1_)<j.1∧(0≤i41_∧i41_<j1_)∧j1_≤(xs_.length:Int)∧xs_.length≤1000000000∧(∀ k:Nat,j1_≤(k:Int)→k<xs_.length→Qdel (xs_.getD k default))∧xs_.length=s.length)∧j.1<i0.1))) j.2.1 j.2.2.1 j.2.2.2) (m0,((i41+1),(j1+1),(xs.set (i41).toNat (xs.getD j1.toNat default)))) (And.intro (rfl) (And.intro (rfl) (And.intro ((Imp.refl _)) (And.intro (rfl) (And.intro (And.intro (Qc hI0 (condT h5 (condT h6 (rfl)))) (And.intro ((by first | omega | (simp only [lens,ib] at*<;> omega) | (intro k hk hk2; first | exact (by assumption:∀ k:Nat,k<s.length→Qdel (s.getD k default)) k hk2 | exact (by assumption:∀ k:Nat,j1≤(k:Int)→k<xs.length→Qdel (xs.getD k default)) k (by first | omega | (simp only [lens,ib] at*<;> omega)) hk2 | (rw [Qs _ _ _ _ (by first | omega | (simp only [lens,ib] at*<;> omega))]; exact (by assumption:∀ k:Nat,j1≤(k:Int)→k<xs.length→Qdel (xs.getD k default)) k (by first | omega | (simp only [lens,ib] at*<;> omega)) (by simpa using hk2))):Int.toNat (((xs.set (i41).toNat (xs.getD j1.toNat default)).length:Int)-(j1+1))<m0)) (And.intro ((by first | omega | (simp only [lens,ib] at*<;> omega) | (intro k hk hk2; first | exact (by assumption:∀ k:Nat,k<s.length→Qdel (s.getD k default)) k hk2 | exact (by assumption:∀ k:Nat,j1≤(k:Int)→k<xs.length→Qdel (xs.getD k default)) k (by first | omega | (simp only [lens,ib] at*<;> omega)) hk2 | (rw [Qs _ _ _ _ (by first | omega | (simp only [lens,ib] at*<;> omega))]; exact (by assumption:∀ k:Nat,j1≤(k:Int)→k<xs.length→Qdel (xs.getD k default)) k (by first | omega | (simp only [lens,ib] at*<;> omega)) (by simpa using hk2))):0≤(i41+1)∧(i41+1)<(j1+1))) (And.intro ((by first | omega | (simp only [lens,ib] at*<;> omega) | (intro k hk hk2; first | exact (by assumption:∀ k:Nat,k<s.length→Qdel (s.getD k default)) k hk2 | exact (by assumption:∀ k:Nat,j1≤(k:Int)→k<xs.length→Qdel (xs.getD k default)) k (by first | omega | (simp only [lens,ib] at*<;> omega)) hk2 | (rw [Qs _ _ _ _ (by first | omega | (simp only [lens,ib] at*<;> omega))]; exact (by assumption:∀ k:Nat,j1≤(k:Int)→k<xs.length→Qdel (xs.getD k default)) k (by first | omega | (simp only [lens,ib] at*<;> omega)) (by simpa using hk2))):(j1+1)≤((xs.set (i41).toNat (xs.getD j1.toNat default)).length:Int))) (And.intro ((by first | omega | (simp only [lens,ib] at*<;> omega) | (intro k hk hk2; first | exact (by assumption:∀ k:Nat,k<s.length→Qdel (s.getD k default)) k hk2 | exact (by assumption:∀ k:Nat,j1≤(k:Int)→k<xs.length→Qdel (xs.getD k default)) k (by first | omega | (simp only [lens,ib] at*<;> omega)) hk2 | (rw [Qs _ _ _ _ (by first | omega | (simp only [lens,ib] at*<;> omega))]; exact (by assumption:∀ k:Nat,j1≤(k:Int)→k<xs.length→Qdel (xs.getD k default)) k (by first | omega | (simp only [lens,ib] at*<;> omega)) (by simpa using hk2))):(xs.set (i41).toNat (xs.getD j1.toNat default)).length≤1000000000)) (And.intro ((by first | omega | (simp only [lens,ib] at*<;> omega) | (intro k hk hk2; first | exact (by assumption:∀ k:Nat,k<s.length→Qdel (s.getD k default)) k hk2 | exact (by assumption:∀ k:Nat,j1≤(k:Int)→k<xs.length→Qdel (xs.getD k default)) k (by first | omega | (simp only [lens,ib] at*<;> omega)) hk2 | (rw [Qs _ _ _ _ (by first | omega | (simp only [lens,ib] at*<;> omega))]; exact (by assumption:∀ k:Nat,j1≤(k:Int)→k<xs.length→Qdel (xs.getD k default)) k (by first | omega | (simp only [lens,ib] at*<;> omega)) (by simpa using hk2))):∀ k:Nat,(j1+1)≤(k:Int)→k<(xs.set (i41).toNat (xs.getD j1.toNat default)).length→Qdel ((xs.set (i41).toNat (xs.getD j1.toNat default)).getD k default))) ((by first | omega | (simp only [lens,ib] at*<;> omega) | (intro k hk hk2; first | exact (by assumption:∀ k:Nat,k<s.length→Qdel (s.getD k default)) k hk2 | exact (by assumption:∀ k:Nat,j1≤(k:Int)→k<xs.length→Qdel (xs.getD k default)) k (by first | omega | (simp only [lens,ib] at*<;> omega)) hk2 | (rw [Qs _ _ _ _ (by first | omega | (simp only [lens,ib] at*<;> omega))]; exact (by assumption:∀ k:Nat,j1≤(k:Int)→k<xs.length→Qdel (xs.getD k default)) k (by first | omega | (simp only [lens,ib] at*<;> omega)) (by simpa using hk2))):(xs.set (i41).toNat (xs.getD j1.toNat default)).length=s.length)))))))) hl0)))))))))) (fun h6=>have _:=(Uq h6); And.intro (iok (j1+1) (by first | omega | (simp only [lens,ib] at*<;> omega))) (Exists.intro (p:=fun j:Nat×(Int×Int×List SV)=>(fun (i41_:Int) (j1_:Int) (xs_:List SV)=>(((.int .i64 i41:Value)=.int .i64 i41_)∧((.int .i64 (j1+1):Value)=.int .i64 j1_)∧(Imp (.l 1 eSV xs) (.l 1 eSV xs_))∧(Zc Qdel del=Zc Qdel del)∧((runL (Ym s del) j.1 j.2=(runL (Ym s del) (((s.length:Int)-((idxI del s)+1)).toNat+1) ((idxI del s),((idxI del s)+1),s))∧Int.toNat ((xs_.length:Int)-j1_)<j.1∧(0≤i41_∧i41_<j1_)∧j1_≤(xs_.length:Int)∧xs_.length≤1000000000∧(∀ k:Nat,j1_≤(k:Int)→k<xs_.length→Qdel (xs_.getD k default))∧xs_.length=s.length)∧j.1<i0.1))) j.2.1 j.2.2.1 j.2.2.2) (m0,(i41,(j1+1),xs)) (And.intro (rfl) (And.intro (rfl) (And.intro ((Imp.refl _)) (And.intro (rfl) (And.intro (And.intro (Qc hI0 (condT h5 (condF h6 (rfl)))) (And.intro ((by first | omega | (simp only [lens,ib] at*<;> omega) | (intro k hk hk2; first | exact (by assumption:∀ k:Nat,k<s.length→Qdel (s.getD k default)) k hk2 | exact (by assumption:∀ k:Nat,j1≤(k:Int)→k<xs.length→Qdel (xs.getD k default)) k (by first | omega | (simp only [lens,ib] at*<;> omega)) hk2 | (rw [Qs _ _ _ _ (by first | omega | (simp only [lens,ib] at*<;> omega))]; exact (by assumption:∀ k:Nat,j1≤(k:Int)→k<xs.length→Qdel (xs.getD k default)) k (by first | omega | (simp only [lens,ib] at*<;> omega)) (by simpa using hk2))):Int.toNat ((xs.length:Int)-(j1+1))<m0)) (And.intro ((by first | omega | (simp only [lens,ib] at*<;> omega) | (intro k hk hk2; first | exact (by assumption:∀ k:Nat,k<s.length→Qdel (s.getD k default)) k hk2 | exact (by assumption:∀ k:Nat,j1≤(k:Int)→k<xs.length→Qdel (xs.getD k default)) k (by first | omega | (simp only [lens,ib] at*<;> omega)) hk2 | (rw [Qs _ _ _ _ (by first | omega | (simp only [lens,ib] at*<;> omega))]; exact (by assumption:∀ k:Nat,j1≤(k:Int)→k<xs.length→Qdel (xs.getD k default)) k (by first | omega | (simp only [lens,ib] at*<;> omega)) (by simpa using hk2))):0≤i41∧i41<(j1+1))) (And.intro ((by first | omega | (simp only [lens,ib] at*<;> omega) | (intro k hk hk2; first | exact (by assumption:∀ k:Nat,k<s.length→Qdel (s.getD k default)) k hk2 | exact (by assumption:∀ k:Nat,j1≤(k:Int)→k<xs.length→Qdel (xs.getD k default)) k (by first | omega | (simp only [lens,ib] at*<;> omega)) hk2 | (rw [Qs _ _ _ _ (by first | omega | (simp only [lens,ib] at*<;> omega))]; exact (by assumption:∀ k:Nat,j1≤(k:Int)→k<xs.length→Qdel (xs.getD k default)) k (by first | omega | (simp only [lens,ib] at*<;> omega)) (by simpa using hk2))):(j1+1)≤(xs.length:Int))) (And.intro ((by first | omega | (simp only [lens,ib] at*<;> omega) | (intro k hk hk2; first | exact (by assumption:∀ k:Nat,k<s.length→Qdel (s.getD k default)) k hk2 | exact (by assumption:∀ k:Nat,j1≤(k:Int)→k<xs.length→Qdel (xs.getD k default)) k (by first | omega | (simp only [lens,ib] at*<;> omega)) hk2 | (rw [Qs _ _ _ _ (by first | omega | (simp only [lens,ib] at*<;> omega))]; exact (by assumption:∀ k:Nat,j1≤(k:Int)→k<xs.length→Qdel (xs.getD k default)) k (by first | omega | (simp only [lens,ib] at*<;> omega)) (by simpa using hk2))):xs.length≤1000000000)) (And.intro ((by first | omega | (simp only [lens,ib] at*<;> omega) | (intro k hk hk2; first | exact (by assumption:∀ k:Nat,k<s.length→Qdel (s.getD k default)) k hk2 | exact (by assumption:∀ k:Nat,j1≤(k:Int)→k<xs.length→Qdel (xs.getD k default)) k (by first | omega | (simp only [lens,ib] at*<;> omega)) hk2 | (rw [Qs _ _ _ _ (by first | omega | (simp only [lens,ib] at*<;> omega))]; exact (by assumption:∀ k:Nat,j1≤(k:Int)→k<xs.length→Qdel (xs.getD k default)) k (by first | omega | (simp only [lens,ib] at*<;> omega)) (by simpa using hk2))):∀ k:Nat,(j1+1)≤(k:Int)→k<xs.length→Qdel (xs.getD k default))) ((by first | omega | (simp only [lens,ib] at*<;> omega) | (intro k hk hk2; first | exact (by assumption:∀ k:Nat,k<s.length→Qdel (s.getD k default)) k hk2 | exact (by assumption:∀ k:Nat,j1≤(k:Int)→k<xs.length→Qdel (xs.getD k default)) k (by first | omega | (simp only [lens,ib] at*<;> omega)) hk2 | (rw [Qs _ _ _ _ (by first | omega | (simp only [lens,ib] at*<;> omega))]; exact (by assumption:∀ k:Nat,j1≤(k:Int)→k<xs.length→Qdel (xs.getD k default)) k (by first | omega | (simp only [lens,ib] at*<;> omega)) (by simpa using hk2))):xs.length=s.length)))))))) hl0))))))))))) (fun h5 _=>(fun hD0_7:(runL (Ym s del) (((s.length:Int)-((idxI del s)+1)).toNat+1) ((idxI del s),((idxI del s)+1),s))=Lp.done (i41,j1,xs)=>Exists.intro (p:=fun j:List SV×Int=>(fun (s1_:List SV) (i40_:Int)=>(((.int .i64 i41:Value)=.int .i64 i40_)∧(Imp (.l 1 eSV xs) (.l 1 eSV s1_))∧(Nn s del)=Lp.done j∧(0≤i40_∧i40_≤(s1_.length:Int)))) j.1 j.2) ((xs,i41)) (And.intro (rfl) (And.intro ((Imp.refl _)) (And.intro (Eq.symm (finD hD0_7 (rfl))) ((by first | omega | (simp only [lens,ib] at*<;> omega):0≤i41∧i41≤(xs.length:Int))))))) (Qi hI0 (condF h5 (rfl))))) (i0.1-1) i0.2.1 i0.2.2.1 i0.2.2.2 (hd1 hi0.1 hi0.2.1) (hd2 hi0.2.1) (hd3 hi0.2.1) hi0.2.2.1 hi0.2.2.2.1 hi0.2.2.2.2.1 hi0.2.2.2.2.2.1 hi0.2.2.2.2.2.2))) (fun (j:List SV×Int) (hj:(fun (s1:List SV) (i40:Int)=>((Nn s del)=Lp.done j∧(0≤i40∧i40≤(s1.length:Int)))) j.1 j.2)=>(fun (s1:List SV) (i40:Int) (hJ0_8:(Nn s del)=Lp.done (s1,i40)) (_:0≤i40∧i40≤(s1.length:Int))=>And.intro ((by first | omega | (simp only [lens,ib] at*<;> omega):0≤i40∧i40≤(s1.length:Int)∧(s1.length:Int)≤(s1.length:Int))) (And.intro ((ClearOK.mk eSV s1 ((⟨none,0,0⟩:SV):SV) rfl (fun y e he=>by simp only [eSV,List.mem_cons,List.not_mem_nil,or_false] at he; rcases he with rfl <;> exact ⟨_,rfl⟩):ClearOK (.l 1 eSV s1) i40.toNat (s1.drop i40.toNat).length 1 [.slice none 0 0] (.l 1 eSV (s1.take i40.toNat++List.replicate (s1.drop i40.toNat).length ((⟨none,0,0⟩:SV):SV)++s1.drop (i40.toNat+(s1.drop i40.toNat).length))))) (And.intro ((by first | omega | (simp only [lens,ib] at*<;> omega):0≤(0:Int)∧(0:Int)≤i40∧i40≤((s1.take i40.toNat++List.replicate (s1.drop i40.toNat).length ((⟨none,0,0⟩:SV):SV)++s1.drop (i40.toNat+(s1.drop i40.toNat).length)).length:Int))) ((fun hF:(((s1.take i40.toNat++List.replicate (s1.drop i40.toNat).length ((⟨none,0,0⟩:SV):SV)++s1.drop (i40.toNat+(s1.drop i40.toNat).length)).take i40.toNat):List SV)=(F59w s del)=>And.intro (Imp.of_eq (congrArg (fun r:List SV=>Dat.l 1 eSV r) hF)) (trivial)) (condF h3 (finD hJ0_8 (rfl))))))) j.1 j.2 hj.1 hj.2)))))) (by kernel_rfl)
theorem as59w (s:List SV) (del:SV→Bool):F59w s del=(s.filter (fun x=>!(del x))):=by
 exact Qdx del s _ (Ym s del) (fun i j xs=>rfl)
theorem oa59w (s:List SV) (del:SV→Bool) (Qdel:SV→Prop):(S59w (s.filter (fun x=>!(del x))) s del Qdel).ok Tryz.prog 59 false:=by
 intro hp; have h:=ok59w s del Qdel hp; rw [as59w s del] at h; exact h
def F85w (text:ByteArray):Int :=
 decN text
def S85w (text:ByteArray):Spec:=⟨[.r (.c (.v (.string text)))],.v (.int .i64 (F85w text)),text.size≤281474976710656∧0≤decN text⟩
theorem ok85w (text:ByteArray):(S85w text).ok Tryz.prog 85 :=
 Qmx text
theorem kc85w (text:ByteArray) {K_:Prop} (p0_:text.size≤281474976710656) (p1_:0≤decN text) (k_:K_):(text.size≤281474976710656∧0≤decN text)∧(Imp (.v (.string text)) (.v (.string text)))∧K_:=⟨⟨p0_,p1_⟩,Imp.refl _,k_⟩
abbrev kh85w (text:ByteArray):Hint true Tryz.prog:=.call 85 (S85w text) (ok85w text) none
def F44w (word:ByteArray):Int :=
 bif (decide ((word.size:Int)>6)) then (-1) else (F85w word)
def S44w (word:ByteArray):Spec:=⟨[.r (.c (.v (.string word)))],.v (.int .i64 (F44w word)),word.size≤1048576∧0≤decN word⟩
theorem ok44w (word:ByteArray):(S44w word).ok Tryz.prog 44 :=
 Qg mixed (fn:=Tryz.f44) (ct:=.seq (.no) (.seq (.seq (.no) (.cond (.seq (.no) (.no)) (.no))) (.seq (.reg [(1,kh85w word)]) (.no)))) Tryz.func44 (fun (hp:word.size≤1048576∧0≤decN word)=>have hpre0:=hp.1; have hpre1:=hp.2; ifd ((word.size:Int)>6) (fun h1 _=>fiI (-1) (F44w word) (condT h1 (rfl))) (fun h1 _=>kc85w word (by omega) (by omega) (fiI (F85w word) (F44w word) (condF h1 (rfl))))) (by kernel_rfl)
theorem kc44w (word:ByteArray) {K_:Prop} (p0_:word.size≤1048576) (p1_:0≤decN word) (k_:K_):(word.size≤1048576∧0≤decN word)∧(Imp (.v (.string word)) (.v (.string word)))∧K_:=⟨⟨p0_,p1_⟩,Imp.refl _,k_⟩
abbrev kh44w (word:ByteArray):Hint true Tryz.prog:=.call 44 (S44w word) (ok44w word) none
def F62w (a:List ByteArray) (b:List ByteArray):Int :=
 (IntKind.i64.wrap ((F44w (a.getD (Int.toNat 2) default))-(F44w (b.getD (Int.toNat 2) default))))
def S62w (a:List ByteArray) (b:List ByteArray):Spec:=⟨[.r (.c (.l 1 eStr a)),.r (.c (.l 1 eStr b))],.v (.int .i64 (F62w a b)),(3≤a.length∧(a.getD 2 default).size≤1048576∧0≤decN (a.getD 2 default))∧(3≤b.length∧(b.getD 2 default).size≤1048576∧0≤decN (b.getD 2 default))⟩
theorem ok62w (a:List ByteArray) (b:List ByteArray):(S62w a b).ok Tryz.prog 62 :=
 Qg mixed (fn:=Tryz.f62) (ct:=.seqk [(0,0),(1,0)] (.no) (.seq (.reg [(3,kh44w (a.getD (Int.toNat 2) default)),(7,kh44w (b.getD (Int.toNat 2) default))]) (.no))) Tryz.func62 (fun (hp:(3≤a.length∧(a.getD 2 default).size≤1048576∧0≤decN (a.getD 2 default))∧(3≤b.length∧(b.getD 2 default).size≤1048576∧0≤decN (b.getD 2 default)))=>have hpre0:=hp.1; have hpre1:=hp.2; kn a fun _=>kn b fun _=>And.intro ((by omega:0≤(2:Int)∧(2:Int)<(a.length:Int))) (kc44w (a.getD (Int.toNat 2) default) (by first | exact hpre0.2.1 | exact hpre0.2.2 | exact hpre1.2.1 | exact hpre1.2.2) (by first | exact hpre0.2.1 | exact hpre0.2.2 | exact hpre1.2.1 | exact hpre1.2.2) (And.intro ((by omega:0≤(2:Int)∧(2:Int)<(b.length:Int))) (kc44w (b.getD (Int.toNat 2) default) (by first | exact hpre0.2.1 | exact hpre0.2.2 | exact hpre1.2.1 | exact hpre1.2.2) (by first | exact hpre0.2.1 | exact hpre0.2.2 | exact hpre1.2.1 | exact hpre1.2.2) (fiI (IntKind.i64.wrap ((F44w (a.getD (Int.toNat 2) default))-(F44w (b.getD (Int.toNat 2) default)))) (F62w a b) (rfl)))))) (by kernel_rfl)
def T41 (R:List (List ByteArray)) (lines:List ByteArray) (word:ByteArray):Spec:=⟨(S41 R lines word).args,(S41 R lines word).res,lines.length≤1048576∧(∀ k:Nat,(lines.getD k default).size≤1048576)⟩
theorem oa41 (lines:List ByteArray) (word:ByteArray):(T41 (Qr lines word) lines word).ok Tryz.prog 41 false:=by
 intro hp; have h:=ok41 lines word hp; rw [as41 lines word] at h; exact h
def T75 (R:List l52Cut) (lines:List ByteArray) (head:ByteArray):Spec:=⟨(S75 R lines head).args,(S75 R lines head).res,lines.length≤16∧(∀ k:Nat,(lines.getD k default).size≤1048576)⟩
theorem oa75 (lines:List ByteArray) (head:ByteArray):(T75 (ofL lines head) lines head).ok Tryz.prog 75:=by
 intro hp; have h:=ok75 lines head hp; rw [as75 lines head] at h; exact h
def F60 (w1:List ByteArray) (p1:ByteArray):Bool :=
 (!((w1.getD (Int.toNat 1) default).toList==p1.toList))
def S60 (w1:List ByteArray) (p1:ByteArray):Spec:=⟨[.r (.c (.l 1 eStr w1)),.rp ([.v (.string p1)])],.v (.bool (F60 w1 p1)),2≤w1.length⟩
theorem ok60 (w1:List ByteArray) (p1:ByteArray):(S60 w1 p1).ok Tryz.prog 60 :=
 Qg mixed (fn:=Tryz.f60) (ct:=.seqk [(0,0)] .no (.seq .no .no)) Tryz.func60 (fun (hpre0:2≤w1.length)=>kn w1 fun _=>ai (by omega:ib 1 w1) (fiB (!((w1.getD (Int.toNat 1) default).toList==p1.toList)) (F60 w1 p1) rfl)) (by kernel_rfl)
def F62 (a:List ByteArray) (b:List ByteArray):Int :=
 F62w a b
def S62 (a:List ByteArray) (b:List ByteArray):Spec:=⟨[.r (.c (.l 1 eStr a)),.r (.c (.l 1 eStr b))],.v (vI (F62 a b)),(3≤a.length∧(a.getD 2 default).size≤1048576∧0≤decN (a.getD 2 default))∧(3≤b.length∧(b.getD 2 default).size≤1048576∧0≤decN (b.getD 2 default))⟩
theorem ok62 (a:List ByteArray) (b:List ByteArray):(S62 a b).ok Tryz.prog 62 :=
 ok62w a b
def F42 (word:ByteArray):NetPrefix :=
 (⟨(F83 word).1.Addr,(F83 word).1.Len⟩:NetPrefix)
theorem fi42 (word:ByteArray) (r:NetPrefix) (hF:r=(F42 word)):((.int .i64 r.Addr:Value)=.int .i64 (F42 word).Addr)∧((.int .i64 r.Len:Value)=.int .i64 (F42 word).Len)∧True:=by cases hF; exact ⟨rfl,rfl,trivial⟩
def S42 (word:ByteArray):Spec:=⟨[.r (.c (.v (.string word)))],.ag [.v (vI (F42 word).Addr),.v (vI (F42 word).Len)],word.size≤1048576⟩
theorem ok42 (word:ByteArray):(S42 word).ok Tryz.prog 42 false :=
 Qg mixed (fn:=Tryz.f42) (ct:=.seq .no (.seq (.reg [(1,kh83 word)]) (.seq .no .no))) Tryz.func42 (fun (hpre0:word.size≤1048576)=>kc83 word (by omega) (fi42 word (⟨(F83 word).1.Addr,(F83 word).1.Len⟩:NetPrefix) rfl)) (by kernel_rfl)
theorem kc115 (text:ByteArray) {K_:Prop} (p0_:text.size≤1048576) (k_:K_):(text.size≤1048576)∧(Imp (.v (.string text)) (.v (.string text)))∧K_:=⟨p0_,Imp.refl _,k_⟩
abbrev kh115 (text:ByteArray):Hint true Tryz.prog:=.call 115 (S115 text) (ok115 text) none
def F76 (word:ByteArray):NetPrefix :=
 (⟨(F115 word).1.Addr,(F115 word).1.Len⟩:NetPrefix)
theorem fi76 (word:ByteArray) (r:NetPrefix) (hF:r=(F76 word)):((.int .i64 r.Addr:Value)=.int .i64 (F76 word).Addr)∧((.int .i64 r.Len:Value)=.int .i64 (F76 word).Len)∧True:=by cases hF; exact ⟨rfl,rfl,trivial⟩
def S76 (word:ByteArray):Spec:=⟨[.r (.c (.v (.string word)))],.ag [.v (vI (F76 word).Addr),.v (vI (F76 word).Len)],word.size≤1048576⟩
theorem ok76 (word:ByteArray):(S76 word).ok Tryz.prog 76 :=
 Qg mixed (fn:=Tryz.f76) (ct:=.seq .no (.seq (.reg [(1,kh115 word)]) (.seq .no .no))) Tryz.func76 (fun (hpre0:word.size≤1048576)=>kc115 word (by omega) (fi76 word (⟨(F115 word).1.Addr,(F115 word).1.Len⟩:NetPrefix) rfl)) (by kernel_rfl)
def F59 (s:List (List ByteArray)) (del:(List ByteArray)→Bool):List (List ByteArray) :=
 s.filter (fun x=>!(del x))
def S59 (s:List (List ByteArray)) (del:(List ByteArray)→Bool) (Qdel:(List ByteArray)→Prop):Spec:=⟨[.ow (.l 1 (eL 1 eStr) s) none,.fn (Wy Qdel del)],.ow (.l 1 (eL 1 eStr) (F59 s del)),s.length≤1000000000∧(∀ k:Nat,k<s.length→Qdel (s.getD k default))⟩
theorem ok59 (s:List (List ByteArray)) (del:(List ByteArray)→Bool) (Qdel:(List ByteArray)→Prop):(S59 s del Qdel).ok Tryz.prog 59 false :=
 Uid (fun x=>Dat.l 1 eStr x) (Ufm 1 eStr) Uif (fun s del Q=>oa59w s del Q) s del Qdel
theorem g59_0 (s:List (List ByteArray)) (del:(List ByteArray)→Bool):(F59 s del).length≤s.length:=by
 exact List.length_filter_le _ _
def Qzq (Q:(List ByteArray)→Prop) (p:(List ByteArray)→(List ByteArray)→Int):Uv:=⟨(List ByteArray)×(List ByteArray),fun i=>[.c (.x (PX (.l 1 eStr i.1) (Q i.1))),.c (.x (PX (.l 1 eStr i.2) (Q i.2)))],fun i=>.int .i64 (p i.1 i.2)⟩
def F61 (x9:List (List ByteArray)) (cmp:(List ByteArray)→(List ByteArray)→Int):List (List ByteArray) :=
 Bv cmp x9
def S61 (x9:List (List ByteArray)) (cmp:(List ByteArray)→(List ByteArray)→Int) (Qcmp:(List ByteArray)→Prop):Spec:=⟨[.ow (.l 1 (eL 1 eStr) x9) (some (.l 1 (eL 1 eStr) (F61 x9 cmp))),.fn (Qzq Qcmp cmp) true],.tu [],(Gz cmp x9∧∀ x∈x9,Qcmp x)∧x9.length≤4000000000000000000⟩
theorem ok61 (x9:List (List ByteArray)) (cmp:(List ByteArray)→(List ByteArray)→Int) (Qcmp:(List ByteArray)→Prop):(S61 x9 cmp Qcmp).ok Tryz.prog 61 :=
 Qzy laySlS (fun x=>Dat.l 1 eStr x) (Ufm 1 eStr) cmp Qcmp x9
end Go.Proofs.YtcgfkhokhiggkaaGreatDoor
