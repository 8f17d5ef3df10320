/- A part of the proof of FnExactTernTells. Texts put together: VCKC, VCKD, PCE0, PCE1, PCE2, PCHA, VCH, PCH, VSZ, PSZ, VTA, PTA, VTB, PTB, VTC, PTC, PTST. -/
import Derived.Test.YtcgfkhokhiggkaaGreatDoorRows
import Derived.Test.YtcgfkhokhiggkaaGreatDoorZC07D
namespace Go.Proofs.YtcgfkhokhiggkaaGreatDoor
open Go.RowKit
set_option maxRecDepth 100000
set_option linter.unusedVariables false
set_option linter.unusedSimpArgs false
def T194 (R:List NetPrefix) (lines:List ByteArray):Spec:=⟨(S194 R lines).args,(S194 R lines).res,F64 lines=0∧lines.length≤16∧(∀ k:Nat,(lines.getD k default).size≤1048576)⟩
theorem oa194 (lines:List ByteArray):(T194 (portsL lines) lines).ok Tryz.prog 194 false:=by
 intro hp; have h:=ok194 lines hp; rw [as194 lines] at h; exact h
def T65 (R:List l52Cut) (lines:List ByteArray):Spec:=⟨(S65 R lines).args,(S65 R lines).res,lines.length≤16∧(∀ k:Nat,(lines.getD k default).size≤1048576)⟩
theorem oa65 (lines:List ByteArray):(T65 (lines.map (fun l=>(⟨(F97 l).1⟩:l52Cut))) lines).ok Tryz.prog 65:=by
 intro hp; have h:=ok65 lines hp; rw [as65 lines] at h; exact h
def F222 (p:NetPrefix):Int :=
 (IntKind.i64.wrap ((IntKind.i64.wrap (p.Addr+(F168 p)))-1))
def S222 (p:NetPrefix):Spec:=⟨[.r (.g (eNetPrefix p))],.v (vI (F222 p)),0≤p.Len∧p.Len≤16⟩
theorem ok222 (p:NetPrefix):(S222 p).ok Tryz.prog 222 :=
 fnG_ok mixed (fn:=Tryz.f222) (ct:=.seq .no (.seq (.reg [(3,kh168 p)]) .no)) Tryz.func222 (fun (hp:0≤p.Len∧p.Len≤16)=>have hpre0:=hp.1; have hpre1:=hp.2; kc168 p (by omega) (by omega) (by omega) (by omega) (fun gv1 gv2=>fiI (IntKind.i64.wrap ((IntKind.i64.wrap (p.Addr+(F168 p)))-1)) (F222 p) rfl)) (by kernel_rfl)
theorem kc222 (p:NetPrefix) {K_:Prop} (p0_:0≤p.Len) (p1_:p.Len≤16) (k_:K_):(0≤p.Len∧p.Len≤16)∧(Imps (eNetPrefix p) (eNetPrefix p))∧K_:=⟨⟨p0_,p1_⟩,Imps.refl _,k_⟩
abbrev kh222 (p:NetPrefix):Hint true Tryz.prog:=.call 222 (S222 p) (ok222 p) none
def F199 (p:NetPrefix) (addr:Int):Bool :=
 (decide (p.Addr≤addr∧addr≤(F222 p)))
def S199 (p:NetPrefix) (addr:Int):Spec:=⟨[.r (.g (eNetPrefix p)),.r (.c (.v (vI addr)))],.v (.bool (F199 p addr)),0≤p.Len∧p.Len≤16⟩
theorem ok199 (p:NetPrefix) (addr:Int):(S199 p addr).ok Tryz.prog 199 :=
 fnG_ok mixed (fn:=Tryz.f199) (ct:=.seq .no (.seq (.reg [(4,kh222 p),(5,kh86a addr p.Addr (F222 p))]) .no)) Tryz.func199 (fun (hp:0≤p.Len∧p.Len≤16)=>have hpre0:=hp.1; have hpre1:=hp.2; kc222 p (by omega) (by omega) (kc86a addr p.Addr (F222 p) (fiB (decide (p.Addr≤addr∧addr≤(F222 p))) (F199 p addr) rfl))) (by kernel_rfl)
theorem kc199 (p:NetPrefix) (addr:Int) {K_:Prop} (p0_:0≤p.Len) (p1_:p.Len≤16) (k_:K_):(0≤p.Len∧p.Len≤16)∧(Imps (eNetPrefix p) (eNetPrefix p))∧(Imp (.v (vI addr)) (.v (vI addr)))∧K_:=⟨⟨p0_,p1_⟩,Imps.refl _,Imp.refl _,k_⟩
theorem kg199 {K_:Prop} (c_ b_:Bool) (p:NetPrefix) (addr:Int) (p_:c_=b_→0≤p.Len∧p.Len≤16) (k_:K_):(c_=b_→0≤p.Len∧p.Len≤16)∧(c_=b_→Imps (eNetPrefix p) (eNetPrefix p))∧(c_=b_→Imp (.v (vI addr)) (.v (vI addr)))∧K_:=⟨p_,fun _=>Imps.refl _,fun _=>Imp.refl _,k_⟩
abbrev kh199 (p:NetPrefix) (addr:Int):Hint true Tryz.prog:=.call 199 (S199 p addr) (ok199 p addr) none
def F195 (p:NetPrefix) (q:NetPrefix):Bool :=
 (bif decide (q.Len≤p.Len) then (F199 q p.Addr) else false)
def S195 (p:NetPrefix) (q:NetPrefix):Spec:=⟨[.r (.g (eNetPrefix p)),.r (.g (eNetPrefix q))],.v (.bool (F195 p q)),0≤q.Len∧q.Len≤16⟩
theorem ok195 (p:NetPrefix) (q:NetPrefix):(S195 p q).ok Tryz.prog 195 :=
 fnG_ok mixed (fn:=Tryz.f195) (ct:=.seq .no (.seq (.reg [(9,kh199 q p.Addr)]) .no)) Tryz.func195 (fun (hp:0≤q.Len∧q.Len≤16)=>have hpre0:=hp.1; have hpre1:=hp.2; kg199 (decide (q.Len≤p.Len)) true q p.Addr (fun k1=>have _:=of_decide_eq_true k1; ⟨(by omega),(by omega)⟩) (fiB (bif decide (q.Len≤p.Len) then (F199 q p.Addr) else false) (F195 p q) rfl)) (by kernel_rfl)
theorem kc194a (lines:List ByteArray) {K_:Prop} (p0_:F64 lines=0) (p1_:lines.length≤16) (p2_:∀ k:Nat,(lines.getD k default).size≤1048576) (k_:K_):(F64 lines=0∧lines.length≤16∧(∀ k:Nat,(lines.getD k default).size≤1048576))∧(Imp (.l 1 eStr lines) (.l 1 eStr lines))∧K_:=⟨⟨p0_,p1_,p2_⟩,Imp.refl _,k_⟩
abbrev kh194a (lines:List ByteArray):Hint false Tryz.prog:=.call 194 (T194 (portsL lines) lines) (oa194 lines) none
def F164_s1 (lines:List ByteArray) (v12:Int):Int→Lp Int Bool:=fun v21 =>
 bif (decide (v21<(((portsL lines).take (Int.toNat v12)).length:Int))) then (bif (bif (F195 ⟨((portsL lines).getD (Int.toNat v12) default).Addr,((portsL lines).getD (Int.toNat v12) default).Len⟩ ⟨(((portsL lines).take (Int.toNat v12)).getD (Int.toNat v21) default).Addr,(((portsL lines).take (Int.toNat v12)).getD (Int.toNat v21) default).Len⟩) then true else (F195 ⟨(((portsL lines).take (Int.toNat v12)).getD (Int.toNat v21) default).Addr,(((portsL lines).take (Int.toNat v12)).getD (Int.toNat v21) default).Len⟩ ⟨((portsL lines).getD (Int.toNat v12) default).Addr,((portsL lines).getD (Int.toNat v12) default).Len⟩)) then (.ret true) else (.next (v21+1))) else (.done v21)
def F164_s0 (lines:List ByteArray):Int→Lp Int Bool:=fun v12 =>
 bif (decide (v12<((portsL lines).length:Int))) then ((runL (F164_s1 lines v12) ((Int.toNat ((((portsL lines).take (Int.toNat v12)).length:Int)-0))+1) 0).fin Lp.ret (fun v21=>.next (v12+1))) else (.done v12)
def F164 (lines:List ByteArray):Bool :=
 (runL (F164_s0 lines) ((Int.toNat (((portsL lines).length:Int)-0))+1) 0).fin (fun r=>r) (fun v12=>false)
abbrev lN164_1 (lines:List ByteArray) (v12:Int):Nat×Int:=(((Int.toNat ((((portsL lines).take (Int.toNat v12)).length:Int)-0))+1),0)
abbrev lI164_1 (lines:List ByteArray) (v12:Int) (m39:Nat) (v21:Int):Prop:=Int.toNat ((((portsL lines).take (Int.toNat v12)).length:Int)-v21)<m39∧(0:Int)≤v21
abbrev lX164_1 (lines:List ByteArray) (v12:Int):Lp Int Bool:=LpX (F164_s1 lines v12) (lN164_1 lines v12)
abbrev lJ164_1 (lines:List ByteArray) (v12:Int) (i:Nat×Int):Prop:=LpJ (F164_s1 lines v12) (lN164_1 lines v12) i (lI164_1 lines v12 i.1 i.2)
abbrev lH164_1 (lines:List ByteArray) (v12:Int) (i:Nat×Int) (m39:Nat) (v21:Int):Prop:=LpH (F164_s1 lines v12) (lN164_1 lines v12) i m39 v21 (lI164_1 lines v12 (m39+1) v21)
abbrev lE164_1 (lines:List ByteArray) (v12:Int) (v21:Int) (v21_:Int) (K39:Prop):Prop:=(Rf (.int .i64 ((portsL lines).length:Int)))∧(Rf (.int .i64 v12))∧(Rf (.int .i64 (((portsL lines).take (Int.toNat v12)).length:Int)))∧((.int .i64 v21:Value)=.int .i64 v21_)∧(Im (.l 2 eNetPrefix (portsL lines)))∧(Rf (.int .i64 ((portsL lines).getD (Int.toNat v12) default).Addr))∧(Rf (.int .i64 ((portsL lines).getD (Int.toNat v12) default).Len))∧(Im (.l 2 eNetPrefix ((portsL lines).take (Int.toNat v12))))∧K39
theorem un164_1 (lines:List ByteArray) (v12:Int) (i:Nat×Int) (h:lJ164_1 lines v12 i):lH164_1 lines v12 i (i.1-1) i.2:=⟨hd1 h.1 h.2.1,hd3 h.2.1,hd2 h.2.1,h.2.2⟩
theorem bk164_1 (lines:List ByteArray) (v12:Int) (i:Nat×Int) (m39:Nat) (v21:Int) (hl:m39<i.1) (e:runL (F164_s1 lines v12) m39 v21=lX164_1 lines v12) (h:lI164_1 lines v12 m39 v21):∃ j:Nat×Int,lE164_1 lines v12 v21 j.2 (lJ164_1 lines v12 j∧j.1<i.1):=⟨(m39,v21),rfl,rfl,rfl,rfl,Imp.refl _,rfl,rfl,Imp.refl _,⟨e,h⟩,hl⟩
theorem en164_1 (lines:List ByteArray) (v12:Int) (h:(0:Int)≤0):lE164_1 lines v12 0 0 (lJ164_1 lines v12 (lN164_1 lines v12)):=⟨rfl,rfl,rfl,rfl,Imp.refl _,rfl,rfl,Imp.refl _,rfl,Nat.lt_succ_self _,h⟩
abbrev lN164_0 (lines:List ByteArray):Nat×Int:=(((Int.toNat (((portsL lines).length:Int)-0))+1),0)
abbrev lI164_0 (lines:List ByteArray) (m39:Nat) (v12:Int):Prop:=Int.toNat (((portsL lines).length:Int)-v12)<m39∧(0:Int)≤v12
abbrev lX164_0 (lines:List ByteArray):Lp Int Bool:=LpX (F164_s0 lines) (lN164_0 lines)
abbrev lJ164_0 (lines:List ByteArray) (i:Nat×Int):Prop:=LpJ (F164_s0 lines) (lN164_0 lines) i (lI164_0 lines i.1 i.2)
abbrev lH164_0 (lines:List ByteArray) (i:Nat×Int) (m39:Nat) (v12:Int):Prop:=LpH (F164_s0 lines) (lN164_0 lines) i m39 v12 (lI164_0 lines (m39+1) v12)
abbrev lE164_0 (lines:List ByteArray) (v12:Int) (v12_:Int) (K39:Prop):Prop:=(Rf (.int .i64 ((portsL lines).length:Int)))∧((.int .i64 v12:Value)=.int .i64 v12_)∧(Im (.l 2 eNetPrefix (portsL lines)))∧K39
theorem un164_0 (lines:List ByteArray) (i:Nat×Int) (h:lJ164_0 lines i):lH164_0 lines i (i.1-1) i.2:=⟨hd1 h.1 h.2.1,hd3 h.2.1,hd2 h.2.1,h.2.2⟩
theorem bk164_0 (lines:List ByteArray) (i:Nat×Int) (m39:Nat) (v12:Int) (hl:m39<i.1) (e:runL (F164_s0 lines) m39 v12=lX164_0 lines) (h:lI164_0 lines m39 v12):∃ j:Nat×Int,lE164_0 lines v12 j.2 (lJ164_0 lines j∧j.1<i.1):=⟨(m39,v12),rfl,rfl,Imp.refl _,⟨e,h⟩,hl⟩
theorem en164_0 (lines:List ByteArray) (h:(0:Int)≤0):lE164_0 lines 0 0 (lJ164_0 lines (lN164_0 lines)):=⟨rfl,rfl,Imp.refl _,rfl,Nat.lt_succ_self _,h⟩
def S164 (lines:List ByteArray):Spec:=⟨[.r (.c (.l 1 eStr lines))],.v (.bool (F164 lines)),F64 lines=0∧lines.length≤16∧(∀ k:Nat,(lines.getD k default).size≤1048576)⟩
abbrev q164_1 (lines:List ByteArray) (v12:Int) (v21:Int):=(⟨(((portsL lines).take (Int.toNat v12)).getD (Int.toNat v21) default).Addr,(((portsL lines).take (Int.toNat v12)).getD (Int.toNat v21) default).Len⟩:NetPrefix)
abbrev q164_2 (lines:List ByteArray) (v12:Int):=(⟨((portsL lines).getD (Int.toNat v12) default).Addr,((portsL lines).getD (Int.toNat v12) default).Len⟩:NetPrefix)
theorem ok164 (lines:List ByteArray):(S164 lines).ok Tryz.prog 164 false :=
 fnG_ok mixed (fn:=Tryz.f164) (ct:=.seqk [(0,0)] .no (.seq (.reg [(1,kh194a lines)]) (.seq (.seqk [(3,0),(10,0)] .no (.blk (.loop (ι:=Nat×Int) (fun i=>(fun (v12:Int)=>(⟨[(3,some (.h 0 0)),(10,some (.h 0 0)),(11,some (.v (vI ((portsL lines).length:Int)))),(12,some (.v (vI v12)))],[(0,some (.own 0 (.l 2 eNetPrefix (portsL lines))))],1⟩:St)) i.2) (lJ164_0 lines) (fun i=>i.1) (lN164_0 lines) (fun i=>(fun (v12:Int)=>(.seq .no (.seq (.cond .no .no) (.seq (.blk (.seq .no (.seqk [(19,0)] .no (.blk (.loop (ι:=Nat×Int) (fun i=>(fun (v21:Int)=>(⟨[(3,some (.h 0 0)),(5,some (.p 1 0)),(10,some (.h 0 0)),(11,some (.v (vI ((portsL lines).length:Int)))),(12,some (.v (vI v12))),(19,some (.h 2 0)),(20,some (.v (vI (((portsL lines).take (Int.toNat v12)).length:Int)))),(21,some (.v (vI v21)))],[(0,some (.own 0 (.l 2 eNetPrefix (portsL lines)))),(1,some (.box 58 [.v (vI ((portsL lines).getD (Int.toNat v12) default).Addr),.v (vI ((portsL lines).getD (Int.toNat v12) default).Len)])),(2,some (.shr (some (0,0)) (.l 2 eNetPrefix ((portsL lines).take (Int.toNat v12)))))],3⟩:St)) i.2) (lJ164_1 lines v12) (fun i=>i.1) (lN164_1 lines v12) (fun i=>(fun (v21:Int)=>(.seq .no (.seq (.cond .no .no) (.seq (.blk (.seq .no (.seq (.reg [(2,.call 195 (S195 (q164_2 lines v12) (q164_1 lines v12 v21)) ((ok195 (q164_2 lines v12) (q164_1 lines v12 v21)).to false) none),(6,.call 195 (S195 (q164_1 lines v12 v21) (q164_2 lines v12)) ((ok195 (q164_1 lines v12 v21) (q164_2 lines v12)).to false) none)]) (.cond (.seq .no .no) .no)))) (.reg [(0,.bnd)]))))) i.2)))))) (.reg [(0,.bnd)]))))) i.2)))) (.seq .no .no)))) Tryz.func164 (fun (hp:F64 lines=0∧lines.length≤16∧(∀ k:Nat,(lines.getD k default).size≤1048576))=>have hpre0:=hp.1; have hpre1:=hp.2.1; have hpre2:=hp.2.2; kn lines fun _=>kc194a lines (by omega) (by omega) (by assumption) (kn (portsL lines) fun _=>kn (portsL lines) fun _=>ai (en164_0 lines (by omega)) (fun (i0:Nat×Int) (hi0:lJ164_0 lines i0)=>(fun (m0:Nat) (v12:Int) (hh0:lH164_0 lines i0 m0 v12)=>have hI0:=hh0.1; have hl0:=hh0.2.1; have _:=hh0.2.2.1; have _:=hh0.2.2.2; ifd (v12<((portsL lines).length:Int)) (fun h2 _=>ai (by omega:ib v12 (portsL lines)) (ai (by omega:0≤(0:Int)∧(0:Int)≤v12∧v12≤((portsL lines).length:Int)) (kn ((portsL lines).take (Int.toNat v12)) fun _=>ai (en164_1 lines v12 (by omega)) (fun (i1:Nat×Int) (hi1:lJ164_1 lines v12 i1)=>(fun (m1:Nat) (v21:Int) (hh1:lH164_1 lines v12 i1 m1 v21)=>have hI1:=hh1.1; have hl1:=hh1.2.1; have _:=hh1.2.2.1; have _:=hh1.2.2.2; ifd (v21<(((portsL lines).take (Int.toNat v12)).length:Int)) (fun h4 _=>ai (by omega:ib v21 ((portsL lines).take (Int.toNat v12))) (ai (ai (by exact (ports_lenT lines _ _).1:0≤(((portsL lines).take (Int.toNat v12)).getD (Int.toNat v21) default).Len) (by exact (ports_lenT lines _ _).2:(((portsL lines).take (Int.toNat v12)).getD (Int.toNat v21) default).Len≤16)) (ai (Imps.refl (eNetPrefix (q164_2 lines v12))) (ai (Imps.refl (eNetPrefix (q164_1 lines v12 v21))) (ai (fun k5:(F195 (q164_2 lines v12) (q164_1 lines v12 v21))=false=>(ai (by exact (ports_len lines _).1:0≤((portsL lines).getD (Int.toNat v12) default).Len) (by exact (ports_len lines _).2:((portsL lines).getD (Int.toNat v12) default).Len≤16))) (ai (fun k6:(F195 (q164_2 lines v12) (q164_1 lines v12 v21))=false=>(Imps.refl (eNetPrefix (q164_1 lines v12 v21)))) (ai (fun k7:(F195 (q164_2 lines v12) (q164_1 lines v12 v21))=false=>(Imps.refl (eNetPrefix (q164_2 lines v12)))) (ifb (bif (F195 (q164_2 lines v12) (q164_1 lines v12 v21)) then true else (F195 (q164_1 lines v12 v21) (q164_2 lines v12))) (fun h8=>fiB true (F164 lines) (finR (runL_ret hI0 (condT h2 (finR (runL_ret hI1 (condT h4 (condT h8 rfl))) rfl))) rfl)) (fun h8=>ai (iok (v21+1) (by omega)) (bk164_1 lines v12 i1 m1 (v21+1) hl1 (runL_next hI1 (condT h4 (condF h8 rfl))) (by refine ⟨?_,?_⟩ <;> omega))))))))))) (fun h4 _=>have hD1_9:lX164_1 lines v12=Lp.done v21:=runL_done hI1 (condF h4 rfl); ai (iok (v12+1) (by omega)) (bk164_0 lines i0 m0 (v12+1) hl0 (runL_next hI0 (condT h2 (finD hD1_9 rfl))) (by refine ⟨?_,?_⟩ <;> omega)))) (i1.1-1) i1.2 (un164_1 lines v12 i1 hi1))))) (fun h2 _=>have hD0_10:lX164_0 lines=Lp.done v12:=runL_done hI0 (condF h2 rfl); fiB false (F164 lines) (finD hD0_10 rfl))) (i0.1-1) i0.2 (un164_0 lines i0 hi0)))) (by kernel_rfl)
def F198 (p:NetPrefix) (p1:Int):Bool :=
 (bif (F199 p p1) then (p.Addr != p1) else false)
def S198 (p:NetPrefix) (p1:Int):Spec:=⟨[.r (.g (eNetPrefix p)),.rp ([.v (vI p1)])],.v (.bool (F198 p p1)),0≤p.Len∧p.Len≤16⟩
theorem ok198 (p:NetPrefix) (p1:Int):(S198 p p1).ok Tryz.prog 198 :=
 fnG_ok mixed (fn:=Tryz.f198) (ct:=.seq .no (.seq (.reg [(2,kh199 p p1)]) .no)) Tryz.func198 (fun (hp:0≤p.Len∧p.Len≤16)=>have hpre0:=hp.1; have hpre1:=hp.2; kc199 p p1 (by omega) (by omega) (fiB (bif (F199 p p1) then (p.Addr != p1) else false) (F198 p p1) rfl)) (by kernel_rfl)
def fsQ138 (Q:NetPrefix→Prop) (p:NetPrefix→Bool):FnSpec:=⟨NetPrefix,fun i=>[.g (pxH (eNetPrefix i) (Q i))],fun i=>.bool (p i)⟩
def F221_s0 (s:List NetPrefix) (f:NetPrefix→Bool):Int→Lp Int Int:=fun v8 =>
 bif (decide (v8<(s.length:Int))) then (bif (f (⟨(s.getD (Int.toNat v8) default).Addr,(s.getD (Int.toNat v8) default).Len⟩:NetPrefix)) then (.ret v8) else (.next (v8+1))) else (.done v8)
def F221 (s:List NetPrefix) (f:NetPrefix→Bool):Int :=
 (runL (F221_s0 s f) ((Int.toNat ((s.length:Int)-0))+1) 0).fin (fun r=>r) (fun v8=>(-1))
abbrev lN221_0 (s:List NetPrefix):Nat×Int:=(((Int.toNat ((s.length:Int)-0))+1),0)
abbrev lI221_0 (s:List NetPrefix) (m39:Nat) (v8:Int):Prop:=Int.toNat ((s.length:Int)-v8)<m39∧(0:Int)≤v8
abbrev lX221_0 (s:List NetPrefix) (f:NetPrefix→Bool):Lp Int Int:=LpX (F221_s0 s f) (lN221_0 s)
abbrev lJ221_0 (s:List NetPrefix) (f:NetPrefix→Bool) (i:Nat×Int):Prop:=LpJ (F221_s0 s f) (lN221_0 s) i (lI221_0 s i.1 i.2)
abbrev lH221_0 (s:List NetPrefix) (f:NetPrefix→Bool) (i:Nat×Int) (m39:Nat) (v8:Int):Prop:=LpH (F221_s0 s f) (lN221_0 s) i m39 v8 (lI221_0 s (m39+1) v8)
abbrev lE221_0 (Qf:NetPrefix→Prop) (s:List NetPrefix) (f:NetPrefix→Bool) (v8:Int) (v8_:Int) (K39:Prop):Prop:=(Rf (.int .i64 (s.length:Int)))∧((.int .i64 v8:Value)=.int .i64 v8_)∧(Im (.l 2 eNetPrefix s))∧(fsQ138 Qf f=fsQ138 Qf f)∧K39
theorem un221_0 (s:List NetPrefix) (f:NetPrefix→Bool) (i:Nat×Int) (h:lJ221_0 s f i):lH221_0 s f i (i.1-1) i.2:=⟨hd1 h.1 h.2.1,hd3 h.2.1,hd2 h.2.1,h.2.2⟩
theorem bk221_0 (Qf:NetPrefix→Prop) (s:List NetPrefix) (f:NetPrefix→Bool) (i:Nat×Int) (m39:Nat) (v8:Int) (hl:m39<i.1) (e:runL (F221_s0 s f) m39 v8=lX221_0 s f) (h:lI221_0 s m39 v8):∃ j:Nat×Int,lE221_0 Qf s f v8 j.2 (lJ221_0 s f j∧j.1<i.1):=⟨(m39,v8),rfl,rfl,Imp.refl _,rfl,⟨e,h⟩,hl⟩
theorem en221_0 (Qf:NetPrefix→Prop) (s:List NetPrefix) (f:NetPrefix→Bool) (h:(0:Int)≤0):lE221_0 Qf s f 0 0 (lJ221_0 s f (lN221_0 s)):=⟨rfl,rfl,Imp.refl _,rfl,rfl,Nat.lt_succ_self _,h⟩
def S221 (R:Int) (s:List NetPrefix) (f:NetPrefix→Bool) (Qf:NetPrefix→Prop):Spec:=⟨[.r (.c (.l 2 eNetPrefix s)),.fn (fsQ138 Qf f)],.v (vI R),(∀ k:Nat,k<s.length→Qf (s.getD k default))⟩
theorem ok221 (s:List NetPrefix) (f:NetPrefix→Bool) (Qf:NetPrefix→Prop):(S221 (F221 s f) s f Qf).ok Tryz.prog 221 false :=
 fnG_ok mixed (fn:=Tryz.f221) (ct:=.seqk [(0,0)] .no (.seq (.seqk [(0,0)] .no (.blk (.loop (ι:=Nat×Int) (fun i=>(fun (v8:Int)=>(⟨[(0,some (.h 0 0)),(1,some (.h 1 0)),(7,some (.v (vI (s.length:Int)))),(8,some (.v (vI v8)))],[(0,some (.shr none (.l 2 eNetPrefix s))),(1,some (.fn (fsQ138 Qf f)))],2⟩:St)) i.2) (lJ221_0 s f) (fun i=>i.1) (lN221_0 s) (fun i=>(fun (v8:Int)=>(.seq .no (.seq (.cond .no .no) (.seq (.blk (.seq .no (.seq (.reg [(5,.fnv (fsQ138 Qf f) (⟨(s.getD (Int.toNat v8) default).Addr,(s.getD (Int.toNat v8) default).Len⟩:NetPrefix))]) (.cond (.seq .no .no) .no)))) (.reg [(0,.bnd)]))))) i.2)))) (.seq .no .no))) Tryz.func221 (fun (hpre0:∀ k:Nat,k<s.length→Qf (s.getD k default))=>kn s fun _=>kn s fun _=>ai (en221_0 Qf s f (by omega)) (fun (i0:Nat×Int) (hi0:lJ221_0 s f i0)=>(fun (m0:Nat) (v8:Int) (hh0:lH221_0 s f i0 m0 v8)=>have hI0:=hh0.1; have hl0:=hh0.2.1; have _:=hh0.2.2.1; have _:=hh0.2.2.2; ifd (v8<(s.length:Int)) (fun h2 _=>ai (by omega:ib v8 s) (ai (Eq.refl (fsQ138 Qf f)) (ai (Imps.pxH (ds:=eNetPrefix (⟨(s.getD (Int.toNat v8) default).Addr,(s.getD (Int.toNat v8) default).Len⟩:NetPrefix)) (hpre0 (Int.toNat v8) (by omega))) (ifb (f (⟨(s.getD (Int.toNat v8) default).Addr,(s.getD (Int.toNat v8) default).Len⟩:NetPrefix)) (fun h3=>fiI v8 (F221 s f) (finR (runL_ret hI0 (condT h2 (condT h3 rfl))) rfl)) (fun h3=>ai (iok (v8+1) (by omega)) (bk221_0 Qf s f i0 m0 (v8+1) hl0 (runL_next hI0 (condT h2 (condF h3 rfl))) (by refine ⟨?_,?_⟩ <;> omega))))))) (fun h2 _=>have hD0_4:lX221_0 s f=Lp.done v8:=runL_done hI0 (condF h2 rfl); fiI (-1) (F221 s f) (finD hD0_4 rfl))) (i0.1-1) i0.2 (un221_0 s f i0 hi0))) (by kernel_rfl)
theorem as221 (s:List NetPrefix) (f:NetPrefix→Bool):F221 s f=(idxI f s):=by
 exact idx_loop f s (F221_s0 s f) (fun i=>rfl)
theorem oa221 (s:List NetPrefix) (f:NetPrefix→Bool) (Qf:NetPrefix→Prop):(S221 (idxI f s) s f Qf).ok Tryz.prog 221 false:=by
 intro hp; have h:=ok221 s f Qf hp; rw [as221 s f] at h; exact h
theorem g221_0 (s:List NetPrefix) (f:NetPrefix→Bool):(idxI f s)<(s.length:Int):=by
 exact idxI_lt f s
theorem g221_1 (s:List NetPrefix) (f:NetPrefix→Bool):-1≤(idxI f s):=by
 (show -1≤idxI f s; unfold idxI; cases first (fun k=>f (s.getD k default)) s.length <;> simp only [oix] <;> omega)
theorem kc221a (s:List NetPrefix) (f:NetPrefix→Bool) (Qf:NetPrefix→Prop) {K_:Prop} (p0_:∀ k:Nat,k<s.length→Qf (s.getD k default)) (k_:((idxI f s)<(s.length:Int))→(-1≤(idxI f s))→K_):(∀ k:Nat,k<s.length→Qf (s.getD k default))∧(Imp (.l 2 eNetPrefix s) (.l 2 eNetPrefix s))∧(fsQ138 Qf f=fsQ138 Qf f)∧K_:=⟨p0_,Imp.refl _,rfl,k_ (g221_0 s f) (g221_1 s f)⟩
abbrev kh221a (s:List NetPrefix) (f:NetPrefix→Bool) (Qf:NetPrefix→Prop):Hint false Tryz.prog:=.call 221 (S221 (idxI f s) s f Qf) (oa221 s f Qf) none
def F197 (s:List NetPrefix) (f:NetPrefix→Bool):Bool :=
 decide ((idxI f s)≥0)
def S197 (R:Bool) (s:List NetPrefix) (f:NetPrefix→Bool) (Qf:NetPrefix→Prop):Spec:=⟨[.r (.c (.l 2 eNetPrefix s)),.fn (fsQ138 Qf f)],.v (.bool R),(∀ k:Nat,k<s.length→Qf (s.getD k default))⟩
theorem ok197 (s:List NetPrefix) (f:NetPrefix→Bool) (Qf:NetPrefix→Prop):(S197 (F197 s f) s f Qf).ok Tryz.prog 197 false :=
 fnG_ok mixed (fn:=Tryz.f197) (ct:=.seqk [(0,0)] .no (.seq (.reg [(2,kh221a s f Qf)]) .no)) Tryz.func197 (fun (hpre0:∀ k:Nat,k<s.length→Qf (s.getD k default))=>kn s fun _=>kc221a s f Qf (by assumption) (fun gv1 gv2=>fiB (decide ((idxI f s)≥0)) (F197 s f) rfl)) (by kernel_rfl)
theorem as197 (s:List NetPrefix) (f:NetPrefix→Bool):F197 s f=(s.any f):=by
 exact any_idx f s
theorem oa197 (s:List NetPrefix) (f:NetPrefix→Bool) (Qf:NetPrefix→Prop):(S197 (s.any f) s f Qf).ok Tryz.prog 197 false:=by
 intro hp; have h:=ok197 s f Qf hp; rw [as197 s f] at h; exact h
def F196 (text:ByteArray) (p1:List NetPrefix):Bool :=
 (!(p1.any (fun (x0:NetPrefix)=>F198 x0 (F43 text))))
def S196 (text:ByteArray) (p1:List NetPrefix):Spec:=⟨[.r (.c (.v (.string text))),.rp ([.l 2 eNetPrefix p1])],.v (.bool (F196 text p1)),text.size≤1048576∧(∀ k:Nat,0≤(p1.getD k default).Len∧(p1.getD k default).Len≤16)⟩
theorem ok196 (text:ByteArray) (p1:List NetPrefix):(S196 text p1).ok Tryz.prog 196 false :=
 fnG_ok mixed (fn:=Tryz.f196) (ct:=.seq .no (.seq (.reg [(1,kh43 text)]) (.seq (.reg [(2,.call 197 (S197 (p1.any (fun (x0:NetPrefix)=>F198 x0 (F43 text))) p1 (fun (x0:NetPrefix)=>F198 x0 (F43 text)) (fun (x0:NetPrefix)=>0≤x0.Len∧x0.Len≤16)) (oa197 p1 (fun (x0:NetPrefix)=>F198 x0 (F43 text)) (fun (x0:NetPrefix)=>0≤x0.Len∧x0.Len≤16)) (some ⟨true,198,fsQ138 (fun (x0:NetPrefix)=>0≤x0.Len∧x0.Len≤16) (fun (x0:NetPrefix)=>F198 x0 (F43 text)),[.rp ([.v (vI (F43 text))])],rfl,True,fun i=>ok_pxH (ok198 i (F43 text))⟩))]) .no))) Tryz.func196 (fun (hp:text.size≤1048576∧(∀ k:Nat,0≤(p1.getD k default).Len∧(p1.getD k default).Len≤16))=>have hpre0:=hp.1; have hpre1:=hp.2; kc43 text (by omega) (ai (by exact fun k _=>hpre1 k:∀ k:Nat,k<p1.length→(fun (x0:NetPrefix)=>0≤x0.Len∧x0.Len≤16) (p1.getD k default)) (ai (Imp.refl (.l 2 eNetPrefix p1)) (ai (Eq.refl (fsQ138 (fun (x0:NetPrefix)=>0≤x0.Len∧x0.Len≤16) (fun (x0:NetPrefix)=>F198 x0 (F43 text)))) (ai trivial (ai (Imps.refl [.v (vI (F43 text))]) (fiB (!(p1.any (fun (x0:NetPrefix)=>F198 x0 (F43 text)))) (F196 text p1) rfl))))))) (by kernel_rfl)
def F165_s0 (lines:List ByteArray):(List ByteArray×Int)→Lp (List ByteArray×Int) Bool:=fun (addrs1,v13) =>
 bif (decide (v13<((linesL lines (⟨#[114,111,117,116,101]⟩:ByteArray)).length:Int))) then (.next ((addrs1++[(((linesL lines (⟨#[114,111,117,116,101]⟩:ByteArray)).getD (Int.toNat v13) default).getD (Int.toNat 2) default)]),(v13+1))) else (.done (addrs1,v13))
def F165_j0 (lines:List ByteArray):Lp (List ByteArray) Bool :=
 (runL (F165_s0 lines) ((Int.toNat (((linesL lines (⟨#[114,111,117,116,101]⟩:ByteArray)).length:Int)-0))+1) (([]:List ByteArray),0)).fin Lp.ret (fun (addrs1,v13)=>.done addrs1)
def F165_s1 (lines:List ByteArray) (addrs:List ByteArray):(List ByteArray×Int)→Lp (List ByteArray×Int) Bool:=fun (addrs3,v27) =>
 bif (decide (v27<((linesL lines (⟨#[112,101,101,114]⟩:ByteArray)).length:Int))) then (.next ((addrs3++[(((linesL lines (⟨#[112,101,101,114]⟩:ByteArray)).getD (Int.toNat v27) default).getD (Int.toNat 1) default)]),(v27+1))) else (.done (addrs3,v27))
def F165_j1 (lines:List ByteArray) (addrs:List ByteArray):Lp (List ByteArray) Bool :=
 (runL (F165_s1 lines addrs) ((Int.toNat (((linesL lines (⟨#[112,101,101,114]⟩:ByteArray)).length:Int)-0))+1) (addrs,0)).fin Lp.ret (fun (addrs3,v27)=>.done addrs3)
def F165 (lines:List ByteArray):Bool :=
 (F165_j0 lines).fin (fun r=>r) (fun addrs=>(F165_j1 lines addrs).fin (fun r=>r) (fun addrs2=>(addrs2.any (fun (x0:ByteArray)=>F196 x0 (portsL lines)))))
abbrev lN165_0 (lines:List ByteArray):Nat×(List ByteArray×Int):=(((Int.toNat (((linesL lines (⟨#[114,111,117,116,101]⟩:ByteArray)).length:Int)-0))+1),(([]:List ByteArray),0))
abbrev lI165_0 (lines:List ByteArray) (m39:Nat) (addrs1:List ByteArray) (v13:Int):Prop:=Int.toNat (((linesL lines (⟨#[114,111,117,116,101]⟩:ByteArray)).length:Int)-v13)<m39∧(addrs1.length:Int)≤v13∧v13≤((linesL lines (⟨#[114,111,117,116,101]⟩:ByteArray)).length:Int)∧(∀ k:Nat,(addrs1.getD k default).size≤1048576)∧(0:Int)≤v13
abbrev lX165_0 (lines:List ByteArray):Lp (List ByteArray×Int) Bool:=LpX (F165_s0 lines) (lN165_0 lines)
abbrev lJ165_0 (lines:List ByteArray) (i:Nat×(List ByteArray×Int)):Prop:=LpJ (F165_s0 lines) (lN165_0 lines) i (lI165_0 lines i.1 i.2.1 i.2.2)
abbrev lH165_0 (lines:List ByteArray) (i:Nat×(List ByteArray×Int)) (m39:Nat) (addrs1:List ByteArray) (v13:Int):Prop:=LpH (F165_s0 lines) (lN165_0 lines) i m39 (addrs1,v13) (lI165_0 lines (m39+1) addrs1 v13)
abbrev lE165_0 (lines:List ByteArray) (addrs1:List ByteArray) (v13:Int) (addrs1_:List ByteArray) (v13_:Int) (K39:Prop):Prop:=(Rf (.int .i64 ((linesL lines (⟨#[114,111,117,116,101]⟩:ByteArray)).length:Int)))∧((.int .i64 v13:Value)=.int .i64 v13_)∧(Im (.l 1 eStr lines))∧(Imp (.l 1 eStr addrs1) (.l 1 eStr addrs1_))∧(Im (.l 1 (eL 1 eStr) (linesL lines (⟨#[114,111,117,116,101]⟩:ByteArray))))∧K39
theorem un165_0 (lines:List ByteArray) (i:Nat×(List ByteArray×Int)) (h:lJ165_0 lines i):lH165_0 lines i (i.1-1) i.2.1 i.2.2:=⟨hd1 h.1 h.2.1,hd3 h.2.1,hd2 h.2.1,h.2.2⟩
theorem bk165_0 (lines:List ByteArray) (i:Nat×(List ByteArray×Int)) (m39:Nat) (addrs1:List ByteArray) (v13:Int) (hl:m39<i.1) (e:runL (F165_s0 lines) m39 (addrs1,v13)=lX165_0 lines) (h:lI165_0 lines m39 addrs1 v13):∃ j:Nat×(List ByteArray×Int),lE165_0 lines addrs1 v13 j.2.1 j.2.2 (lJ165_0 lines j∧j.1<i.1):=⟨(m39,(addrs1,v13)),rfl,rfl,Imp.refl _,Imp.refl _,Imp.refl _,⟨e,h⟩,hl⟩
theorem en165_0 (lines:List ByteArray) (h:(([]:List ByteArray).length:Int)≤0∧0≤((linesL lines (⟨#[114,111,117,116,101]⟩:ByteArray)).length:Int)∧(∀ k:Nat,(([]:List ByteArray).getD k default).size≤1048576)∧(0:Int)≤0):lE165_0 lines ([]:List ByteArray) 0 ([]:List ByteArray) 0 (lJ165_0 lines (lN165_0 lines)):=⟨rfl,rfl,Imp.refl _,Imp.refl _,Imp.refl _,rfl,Nat.lt_succ_self _,h⟩
abbrev jI165_0 (lines:List ByteArray) (addrs:List ByteArray):Prop:=(addrs.length:Int)≤16∧(∀ k:Nat,(addrs.getD k default).size≤1048576)
abbrev jJ165_0 (lines:List ByteArray) (j:List ByteArray):Prop:=(F165_j0 lines)=Lp.done j∧jI165_0 lines j
theorem jn165_0 (lines:List ByteArray) (addrs:List ByteArray) (e:(F165_j0 lines)=Lp.done addrs) (h:jI165_0 lines addrs):∃ j:List ByteArray,(Imp (.l 1 eStr lines) (.l 1 eStr lines))∧(Imp (.l 1 eStr addrs) (.l 1 eStr j))∧jJ165_0 lines j:=⟨addrs,Imp.refl _,Imp.refl _,e,h⟩
abbrev lN165_1 (lines:List ByteArray) (addrs:List ByteArray):Nat×(List ByteArray×Int):=(((Int.toNat (((linesL lines (⟨#[112,101,101,114]⟩:ByteArray)).length:Int)-0))+1),(addrs,0))
abbrev lI165_1 (lines:List ByteArray) (m39:Nat) (addrs3:List ByteArray) (v27:Int):Prop:=Int.toNat (((linesL lines (⟨#[112,101,101,114]⟩:ByteArray)).length:Int)-v27)<m39∧(addrs3.length:Int)≤16+v27∧v27≤((linesL lines (⟨#[112,101,101,114]⟩:ByteArray)).length:Int)∧(∀ k:Nat,(addrs3.getD k default).size≤1048576)∧(0:Int)≤v27
abbrev lX165_1 (lines:List ByteArray) (addrs:List ByteArray):Lp (List ByteArray×Int) Bool:=LpX (F165_s1 lines addrs) (lN165_1 lines addrs)
abbrev lJ165_1 (lines:List ByteArray) (addrs:List ByteArray) (i:Nat×(List ByteArray×Int)):Prop:=LpJ (F165_s1 lines addrs) (lN165_1 lines addrs) i (lI165_1 lines i.1 i.2.1 i.2.2)
abbrev lH165_1 (lines:List ByteArray) (addrs:List ByteArray) (i:Nat×(List ByteArray×Int)) (m39:Nat) (addrs3:List ByteArray) (v27:Int):Prop:=LpH (F165_s1 lines addrs) (lN165_1 lines addrs) i m39 (addrs3,v27) (lI165_1 lines (m39+1) addrs3 v27)
abbrev lE165_1 (lines:List ByteArray) (addrs3:List ByteArray) (v27:Int) (addrs3_:List ByteArray) (v27_:Int) (K39:Prop):Prop:=(Rf (.int .i64 ((linesL lines (⟨#[112,101,101,114]⟩:ByteArray)).length:Int)))∧((.int .i64 v27:Value)=.int .i64 v27_)∧(Im (.l 1 eStr lines))∧(Imp (.l 1 eStr addrs3) (.l 1 eStr addrs3_))∧(Im (.l 1 (eL 1 eStr) (linesL lines (⟨#[112,101,101,114]⟩:ByteArray))))∧K39
theorem un165_1 (lines:List ByteArray) (addrs:List ByteArray) (i:Nat×(List ByteArray×Int)) (h:lJ165_1 lines addrs i):lH165_1 lines addrs i (i.1-1) i.2.1 i.2.2:=⟨hd1 h.1 h.2.1,hd3 h.2.1,hd2 h.2.1,h.2.2⟩
theorem bk165_1 (lines:List ByteArray) (addrs:List ByteArray) (i:Nat×(List ByteArray×Int)) (m39:Nat) (addrs3:List ByteArray) (v27:Int) (hl:m39<i.1) (e:runL (F165_s1 lines addrs) m39 (addrs3,v27)=lX165_1 lines addrs) (h:lI165_1 lines m39 addrs3 v27):∃ j:Nat×(List ByteArray×Int),lE165_1 lines addrs3 v27 j.2.1 j.2.2 (lJ165_1 lines addrs j∧j.1<i.1):=⟨(m39,(addrs3,v27)),rfl,rfl,Imp.refl _,Imp.refl _,Imp.refl _,⟨e,h⟩,hl⟩
theorem en165_1 (lines:List ByteArray) (addrs:List ByteArray) (h:(addrs.length:Int)≤16+0∧0≤((linesL lines (⟨#[112,101,101,114]⟩:ByteArray)).length:Int)∧(∀ k:Nat,(addrs.getD k default).size≤1048576)∧(0:Int)≤0):lE165_1 lines addrs 0 addrs 0 (lJ165_1 lines addrs (lN165_1 lines addrs)):=⟨rfl,rfl,Imp.refl _,Imp.refl _,Imp.refl _,rfl,Nat.lt_succ_self _,h⟩
abbrev jI165_1 (lines:List ByteArray) (addrs:List ByteArray) (addrs2:List ByteArray):Prop:=(addrs2.length:Int)≤32∧(∀ k:Nat,(addrs2.getD k default).size≤1048576)
abbrev jJ165_1 (lines:List ByteArray) (addrs:List ByteArray) (j:List ByteArray):Prop:=(F165_j1 lines addrs)=Lp.done j∧jI165_1 lines addrs j
theorem jn165_1 (lines:List ByteArray) (addrs:List ByteArray) (addrs2:List ByteArray) (e:(F165_j1 lines addrs)=Lp.done addrs2) (h:jI165_1 lines addrs addrs2):∃ j:List ByteArray,(Imp (.l 1 eStr lines) (.l 1 eStr lines))∧(Imp (.l 1 eStr addrs2) (.l 1 eStr j))∧jJ165_1 lines addrs j:=⟨addrs2,Imp.refl _,Imp.refl _,e,h⟩
def S165 (lines:List ByteArray):Spec:=⟨[.r (.c (.l 1 eStr lines))],.v (.bool (F165 lines)),F64 lines=0∧lines.length≤16∧(∀ k:Nat,(lines.getD k default).size≤1048576)⟩
theorem ok165 (lines:List ByteArray):(S165 lines).ok Tryz.prog 165 false :=
 fnG_ok mixed (fn:=Tryz.f165) (ct:=.seqk [(0,0)] .no (.seq (.reg [(0,.dat (.l 1 eStr ([]:List ByteArray)))]) (.cut (ι:=List ByteArray) (fun j=>(fun (addrs:List ByteArray)=>(⟨[(0,some (.h 0 0)),(3,some (.h 1 0))],[(0,some (.shr none (.l 1 eStr lines))),(1,some (.own 1 (.l 1 eStr addrs)))],2⟩:St)) j) (jJ165_0 lines) (.seqk [(3,0),(11,0)] (.reg [(1,kh82af lines (⟨#[114,111,117,116,101]⟩:ByteArray))]) (.blk (.loop (ι:=Nat×(List ByteArray×Int)) (fun i=>(fun (addrs1:List ByteArray) (v13:Int)=>(⟨[(0,some (.h 0 0)),(3,some (.h 1 0)),(11,some (.h 2 0)),(12,some (.v (vI ((linesL lines (⟨#[114,111,117,116,101]⟩:ByteArray)).length:Int)))),(13,some (.v (vI v13)))],[(0,some (.shr none (.l 1 eStr lines))),(1,some (.own 1 (.l 1 eStr addrs1))),(2,some (.own 2 (.l 1 (eL 1 eStr) (linesL lines (⟨#[114,111,117,116,101]⟩:ByteArray)))))],3⟩:St)) i.2.1 i.2.2) (lJ165_0 lines) (fun i=>i.1) (lN165_0 lines) (fun i=>(fun (addrs1:List ByteArray) (v13:Int)=>(.seq .no (.seq (.cond .no .no) (.seq (.blk (.seq .no (.reg [(5,.dat (.l 1 eStr (addrs1++[(((linesL lines (⟨#[114,111,117,116,101]⟩:ByteArray)).getD (Int.toNat v13) default).getD (Int.toNat 2) default)])))]))) (.reg [(0,.bnd)]))))) i.2.1 i.2.2)))) (fun j=>(fun (addrs:List ByteArray)=>(.cut (ι:=List ByteArray) (fun j=>(fun (addrs2:List ByteArray)=>(⟨[(0,some (.h 0 0)),(3,some (.h 1 0))],[(0,some (.shr none (.l 1 eStr lines))),(1,some (.own 1 (.l 1 eStr addrs2)))],2⟩:St)) j) (jJ165_1 lines addrs) (.seqk [(3,0),(25,0)] (.reg [(1,kh82af lines (⟨#[112,101,101,114]⟩:ByteArray))]) (.blk (.loop (ι:=Nat×(List ByteArray×Int)) (fun i=>(fun (addrs3:List ByteArray) (v27:Int)=>(⟨[(0,some (.h 0 0)),(3,some (.h 1 0)),(25,some (.h 2 0)),(26,some (.v (vI ((linesL lines (⟨#[112,101,101,114]⟩:ByteArray)).length:Int)))),(27,some (.v (vI v27)))],[(0,some (.shr none (.l 1 eStr lines))),(1,some (.own 1 (.l 1 eStr addrs3))),(2,some (.own 2 (.l 1 (eL 1 eStr) (linesL lines (⟨#[112,101,101,114]⟩:ByteArray)))))],3⟩:St)) i.2.1 i.2.2) (lJ165_1 lines addrs) (fun i=>i.1) (lN165_1 lines addrs) (fun i=>(fun (addrs3:List ByteArray) (v27:Int)=>(.seq .no (.seq (.cond .no .no) (.seq (.blk (.seq .no (.reg [(5,.dat (.l 1 eStr (addrs3++[(((linesL lines (⟨#[112,101,101,114]⟩:ByteArray)).getD (Int.toNat v27) default).getD (Int.toNat 1) default)])))]))) (.reg [(0,.bnd)]))))) i.2.1 i.2.2)))) (fun j=>(fun (addrs2:List ByteArray)=>(.seq (.reg [(1,kh194a lines)]) (.seq (.reg [(2,.call 186 (S186 (addrs2.any (fun (x0:ByteArray)=>F196 x0 (portsL lines))) addrs2 (fun (x0:ByteArray)=>F196 x0 (portsL lines)) (fun (x0:ByteArray)=>x0.size≤1048576∧(∀ k:Nat,0≤((portsL lines).getD k default).Len∧((portsL lines).getD k default).Len≤16))) (oa186 addrs2 (fun (x0:ByteArray)=>F196 x0 (portsL lines)) (fun (x0:ByteArray)=>x0.size≤1048576∧(∀ k:Nat,0≤((portsL lines).getD k default).Len∧((portsL lines).getD k default).Len≤16))) (some ⟨false,196,fsQ177 (fun (x0:ByteArray)=>x0.size≤1048576∧(∀ k:Nat,0≤((portsL lines).getD k default).Len∧((portsL lines).getD k default).Len≤16)) (fun (x0:ByteArray)=>F196 x0 (portsL lines)),[.rp ([.l 2 eNetPrefix (portsL lines)])],rfl,True,fun i=>ok_px (ok196 i (portsL lines))⟩))]) .no))) j))) j)))) Tryz.func165 (fun (hp:F64 lines=0∧lines.length≤16∧(∀ k:Nat,(lines.getD k default).size≤1048576))=>have hpre0:=hp.1; have hpre1:=hp.2.1; have hpre2:=hp.2.2; kn lines fun _=>ai (bokr 1 eStr ([]:List ByteArray) fun _=>rfl) (ai (kc82a lines (⟨#[114,111,117,116,101]⟩:ByteArray) (by omega) (by assumption) (by omega) (fun gv1=>kn ([]:List ByteArray) fun _=>kn (linesL lines (⟨#[114,111,117,116,101]⟩:ByteArray)) fun _=>ai (en165_0 lines (by refine ⟨?_,?_,?_,?_⟩ <;> first | omega | (simp only [lens,ib] at*<;> omega) | exact sz_app (by assumption) (linesL_sz lines _ (by first | omega | (simp only [lens,ib] at*<;> omega)) _ _) | exact sz_nil)) (fun (i0:Nat×(List ByteArray×Int)) (hi0:lJ165_0 lines i0)=>(fun (m0:Nat) (addrs1:List ByteArray) (v13:Int) (hh0:lH165_0 lines i0 m0 addrs1 v13)=>have hI0:=hh0.1; have hl0:=hh0.2.1; have _:=hh0.2.2.1; have _:=hh0.2.2.2.1; have _:=hh0.2.2.2.2.1; have _:=hh0.2.2.2.2.2.1; have _:=hh0.2.2.2.2.2.2; ifd (v13<((linesL lines (⟨#[114,111,117,116,101]⟩:ByteArray)).length:Int)) (fun h3 _=>ai (by (omega):0≤v13∧v13<((linesL lines (⟨#[114,111,117,116,101]⟩:ByteArray)).length:Int)) (ai (by (have h9:=route_at lines (by omega) (Int.toNat v13) (by omega); unfold routeP at h9; omega):0≤(2:Int)∧(2:Int)<(((linesL lines (⟨#[114,111,117,116,101]⟩:ByteArray)).getD (Int.toNat v13) default).length:Int)) (ai (appr 1 eStr addrs1 [(((linesL lines (⟨#[114,111,117,116,101]⟩:ByteArray)).getD (Int.toNat v13) default).getD (Int.toNat 2) default)] fun _=>rfl) (ai (by (try simp only [lens]); omega:(addrs1++[(((linesL lines (⟨#[114,111,117,116,101]⟩:ByteArray)).getD (Int.toNat v13) default).getD (Int.toNat 2) default)]).length*16≤140737488355328) (ai (iok (v13+1) (by omega)) (bk165_0 lines i0 m0 (addrs1++[(((linesL lines (⟨#[114,111,117,116,101]⟩:ByteArray)).getD (Int.toNat v13) default).getD (Int.toNat 2) default)]) (v13+1) hl0 (runL_next hI0 (condT h3 rfl)) (by refine ⟨?_,?_,?_,?_,?_⟩ <;> first | omega | (simp only [lens,ib] at*<;> omega) | exact sz_app (by assumption) (linesL_sz lines _ (by first | omega | (simp only [lens,ib] at*<;> omega)) _ _) | exact sz_nil))))))) (fun h3 _=>have hD0_4:lX165_0 lines=Lp.done (addrs1,v13):=runL_done hI0 (condF h3 rfl); jn165_0 lines addrs1 (Eq.symm (finD hD0_4 rfl)) (by refine ⟨?_,?_⟩ <;> omega))) (i0.1-1) i0.2.1 i0.2.2 (un165_0 lines i0 hi0)))) (fun (j:List ByteArray) (hj:jJ165_0 lines j)=>(fun (addrs:List ByteArray) (hJ0_5:(F165_j0 lines)=Lp.done addrs) (hw:jI165_0 lines addrs)=>have _:=hw.1; have _:=hw.2; ai (kc82a lines (⟨#[112,101,101,114]⟩:ByteArray) (by omega) (by assumption) (by omega) (fun gv6=>kn addrs fun _=>kn (linesL lines (⟨#[112,101,101,114]⟩:ByteArray)) fun _=>ai (en165_1 lines addrs (by refine ⟨?_,?_,?_,?_⟩ <;> omega)) (fun (i1:Nat×(List ByteArray×Int)) (hi1:lJ165_1 lines addrs i1)=>(fun (m1:Nat) (addrs3:List ByteArray) (v27:Int) (hh1:lH165_1 lines addrs i1 m1 addrs3 v27)=>have hI1:=hh1.1; have hl1:=hh1.2.1; have _:=hh1.2.2.1; have _:=hh1.2.2.2.1; have _:=hh1.2.2.2.2.1; have _:=hh1.2.2.2.2.2.1; have _:=hh1.2.2.2.2.2.2; ifd (v27<((linesL lines (⟨#[112,101,101,114]⟩:ByteArray)).length:Int)) (fun h8 _=>ai (by (omega):0≤v27∧v27<((linesL lines (⟨#[112,101,101,114]⟩:ByteArray)).length:Int)) (ai (by (have h9:=peer_at lines (by omega) (Int.toNat v27) (by omega); unfold peerP at h9; omega):0≤(1:Int)∧(1:Int)<(((linesL lines (⟨#[112,101,101,114]⟩:ByteArray)).getD (Int.toNat v27) default).length:Int)) (ai (appr 1 eStr addrs3 [(((linesL lines (⟨#[112,101,101,114]⟩:ByteArray)).getD (Int.toNat v27) default).getD (Int.toNat 1) default)] fun _=>rfl) (ai (by (try simp only [lens]); omega:(addrs3++[(((linesL lines (⟨#[112,101,101,114]⟩:ByteArray)).getD (Int.toNat v27) default).getD (Int.toNat 1) default)]).length*16≤140737488355328) (ai (iok (v27+1) (by omega)) (bk165_1 lines addrs i1 m1 (addrs3++[(((linesL lines (⟨#[112,101,101,114]⟩:ByteArray)).getD (Int.toNat v27) default).getD (Int.toNat 1) default)]) (v27+1) hl1 (runL_next hI1 (condT h8 rfl)) (by refine ⟨?_,?_,?_,?_,?_⟩ <;> first | omega | (simp only [lens,ib] at*<;> omega) | exact sz_app (by assumption) (linesL_sz lines _ (by first | omega | (simp only [lens,ib] at*<;> omega)) _ _) | assumption))))))) (fun h8 _=>have hD1_9:lX165_1 lines addrs=Lp.done (addrs3,v27):=runL_done hI1 (condF h8 rfl); jn165_1 lines addrs addrs3 (Eq.symm (finD hD1_9 rfl)) (by refine ⟨?_,?_⟩ <;> omega))) (i1.1-1) i1.2.1 i1.2.2 (un165_1 lines addrs i1 hi1)))) (fun (j:List ByteArray) (hj:jJ165_1 lines addrs j)=>(fun (addrs2:List ByteArray) (hJ1_10:(F165_j1 lines addrs)=Lp.done addrs2) (hw:jI165_1 lines addrs addrs2)=>have _:=hw.1; have _:=hw.2; kc194a lines (by omega) (by omega) (by assumption) (ai (by exact fun k _=>⟨(by assumption:∀ k:Nat,(addrs2.getD k default).size≤1048576) k,ports_len lines⟩:∀ k:Nat,k<addrs2.length→(fun (x0:ByteArray)=>x0.size≤1048576∧(∀ k:Nat,0≤((portsL lines).getD k default).Len∧((portsL lines).getD k default).Len≤16)) (addrs2.getD k default)) (ai (Imp.refl (.l 1 eStr addrs2)) (ai (Eq.refl (fsQ177 (fun (x0:ByteArray)=>x0.size≤1048576∧(∀ k:Nat,0≤((portsL lines).getD k default).Len∧((portsL lines).getD k default).Len≤16)) (fun (x0:ByteArray)=>F196 x0 (portsL lines)))) (ai trivial (ai (Imps.refl [.l 2 eNetPrefix (portsL lines)]) (fiB (addrs2.any (fun (x0:ByteArray)=>F196 x0 (portsL lines))) (F165 lines) (finD hJ0_5 (finD hJ1_10 rfl))))))))) j hj.1 hj.2)) j hj.1 hj.2))) (by kernel_rfl)
theorem kg44 {K_:Prop} (c_ b_:Bool) (word:ByteArray) (p_:c_=b_→word.size≤1048576) (k_:K_):(c_=b_→word.size≤1048576)∧(c_=b_→Imp (.v (.string word)) (.v (.string word)))∧K_:=⟨p_,fun _=>Imp.refl _,k_⟩
def F166_s1 (lines:List ByteArray) (v64:Int):Int→Lp Int Bool:=fun v89 =>
 bif (decide (v89<(((linesL lines (⟨#[100,111,111,114]⟩:ByteArray)).take (Int.toNat v64)).length:Int))) then (bif (bif (bif (((((linesL lines (⟨#[100,111,111,114]⟩:ByteArray)).take (Int.toNat v64)).getD (Int.toNat v89) default).getD (Int.toNat 1) default).toList==(((linesL lines (⟨#[100,111,111,114]⟩:ByteArray)).getD (Int.toNat v64) default).getD (Int.toNat 1) default).toList) then (((((linesL lines (⟨#[100,111,111,114]⟩:ByteArray)).take (Int.toNat v64)).getD (Int.toNat v89) default).getD (Int.toNat 3) default).toList==(((linesL lines (⟨#[100,111,111,114]⟩:ByteArray)).getD (Int.toNat v64) default).getD (Int.toNat 3) default).toList) else false) then (((((linesL lines (⟨#[100,111,111,114]⟩:ByteArray)).take (Int.toNat v64)).getD (Int.toNat v89) default).getD (Int.toNat 4) default).toList==(((linesL lines (⟨#[100,111,111,114]⟩:ByteArray)).getD (Int.toNat v64) default).getD (Int.toNat 4) default).toList) else false) then (.ret true) else (.next (v89+1))) else (.done v89)
def F166_s0 (lines:List ByteArray):Int→Lp Int Bool:=fun v64 =>
 bif (decide (v64<((linesL lines (⟨#[100,111,111,114]⟩:ByteArray)).length:Int))) then (bif (bif (!(F199 ⟨(F83 (((linesL lines (⟨#[110,97,116]⟩:ByteArray)).getD (Int.toNat 0) default).getD (Int.toNat 1) default)).1.Addr,(F83 (((linesL lines (⟨#[110,97,116]⟩:ByteArray)).getD (Int.toNat 0) default).getD (Int.toNat 1) default)).1.Len⟩ (F43 (((linesL lines (⟨#[100,111,111,114]⟩:ByteArray)).getD (Int.toNat v64) default).getD (Int.toNat 3) default)))) then true else (decide ((F44 (((linesL lines (⟨#[110,97,116]⟩:ByteArray)).getD (Int.toNat 0) default).getD (Int.toNat 3) default))≤(F44 (((linesL lines (⟨#[100,111,111,114]⟩:ByteArray)).getD (Int.toNat v64) default).getD (Int.toNat 2) default))∧(F44 (((linesL lines (⟨#[100,111,111,114]⟩:ByteArray)).getD (Int.toNat v64) default).getD (Int.toNat 2) default))≤(F44 (((linesL lines (⟨#[110,97,116]⟩:ByteArray)).getD (Int.toNat 0) default).getD (Int.toNat 4) default))))) then (.ret true) else ((runL (F166_s1 lines v64) ((Int.toNat ((((linesL lines (⟨#[100,111,111,114]⟩:ByteArray)).take (Int.toNat v64)).length:Int)-0))+1) 0).fin Lp.ret (fun v89=>.next (v64+1)))) else (.done v64)
def F166 (lines:List ByteArray):Bool :=
 bif (((linesL lines (⟨#[110,97,116]⟩:ByteArray)).length:Int)==0) then (decide (((linesL lines (⟨#[100,111,111,114]⟩:ByteArray)).length:Int)>0)) else (bif (bif (bif (F199 ⟨(F83 (((linesL lines (⟨#[110,97,116]⟩:ByteArray)).getD (Int.toNat 0) default).getD (Int.toNat 1) default)).1.Addr,(F83 (((linesL lines (⟨#[110,97,116]⟩:ByteArray)).getD (Int.toNat 0) default).getD (Int.toNat 1) default)).1.Len⟩ (F43 (((linesL lines (⟨#[110,97,116]⟩:ByteArray)).getD (Int.toNat 0) default).getD (Int.toNat 2) default))) then true else decide ((F44 (((linesL lines (⟨#[110,97,116]⟩:ByteArray)).getD (Int.toNat 0) default).getD (Int.toNat 3) default))>(F44 (((linesL lines (⟨#[110,97,116]⟩:ByteArray)).getD (Int.toNat 0) default).getD (Int.toNat 4) default)))) then true else decide (((linesL lines (⟨#[100,111,111,114]⟩:ByteArray)).length:Int)>6)) then true else ((runL (F166_s0 lines) ((Int.toNat (((linesL lines (⟨#[100,111,111,114]⟩:ByteArray)).length:Int)-0))+1) 0).fin (fun r=>r) (fun v64=>false)))
abbrev lN166_1 (lines:List ByteArray) (v64:Int):Nat×Int:=(((Int.toNat ((((linesL lines (⟨#[100,111,111,114]⟩:ByteArray)).take (Int.toNat v64)).length:Int)-0))+1),0)
abbrev lI166_1 (lines:List ByteArray) (v64:Int) (m39:Nat) (v89:Int):Prop:=Int.toNat ((((linesL lines (⟨#[100,111,111,114]⟩:ByteArray)).take (Int.toNat v64)).length:Int)-v89)<m39∧(0:Int)≤v89
abbrev lX166_1 (lines:List ByteArray) (v64:Int):Lp Int Bool:=LpX (F166_s1 lines v64) (lN166_1 lines v64)
abbrev lJ166_1 (lines:List ByteArray) (v64:Int) (i:Nat×Int):Prop:=LpJ (F166_s1 lines v64) (lN166_1 lines v64) i (lI166_1 lines v64 i.1 i.2)
abbrev lH166_1 (lines:List ByteArray) (v64:Int) (i:Nat×Int) (m39:Nat) (v89:Int):Prop:=LpH (F166_s1 lines v64) (lN166_1 lines v64) i m39 v89 (lI166_1 lines v64 (m39+1) v89)
abbrev lE166_1 (lines:List ByteArray) (v64:Int) (v89:Int) (v89_:Int) (K39:Prop):Prop:=(Rf (.int .i64 (F44 (((linesL lines (⟨#[110,97,116]⟩:ByteArray)).getD (Int.toNat 0) default).getD (Int.toNat 3) default))))∧(Rf (.int .i64 (F44 (((linesL lines (⟨#[110,97,116]⟩:ByteArray)).getD (Int.toNat 0) default).getD (Int.toNat 4) default))))∧(Rf (.int .i64 ((linesL lines (⟨#[100,111,111,114]⟩:ByteArray)).length:Int)))∧(Rf (.int .i64 v64))∧(Rf (.int .i64 (((linesL lines (⟨#[100,111,111,114]⟩:ByteArray)).take (Int.toNat v64)).length:Int)))∧((.int .i64 v89:Value)=.int .i64 v89_)∧(Im (.l 1 (eL 1 eStr) (linesL lines (⟨#[100,111,111,114]⟩:ByteArray))))∧(Rf (.int .i64 (F83 (((linesL lines (⟨#[110,97,116]⟩:ByteArray)).getD (Int.toNat 0) default).getD (Int.toNat 1) default)).1.Addr))∧(Rf (.int .i64 (F83 (((linesL lines (⟨#[110,97,116]⟩:ByteArray)).getD (Int.toNat 0) default).getD (Int.toNat 1) default)).1.Len))∧(Im (.l 1 eStr ((linesL lines (⟨#[100,111,111,114]⟩:ByteArray)).getD (Int.toNat v64) default)))∧(Im (.l 1 (eL 1 eStr) ((linesL lines (⟨#[100,111,111,114]⟩:ByteArray)).take (Int.toNat v64))))∧K39
theorem un166_1 (lines:List ByteArray) (v64:Int) (i:Nat×Int) (h:lJ166_1 lines v64 i):lH166_1 lines v64 i (i.1-1) i.2:=⟨hd1 h.1 h.2.1,hd3 h.2.1,hd2 h.2.1,h.2.2⟩
theorem bk166_1 (lines:List ByteArray) (v64:Int) (i:Nat×Int) (m39:Nat) (v89:Int) (hl:m39<i.1) (e:runL (F166_s1 lines v64) m39 v89=lX166_1 lines v64) (h:lI166_1 lines v64 m39 v89):∃ j:Nat×Int,lE166_1 lines v64 v89 j.2 (lJ166_1 lines v64 j∧j.1<i.1):=⟨(m39,v89),rfl,rfl,rfl,rfl,rfl,rfl,Imp.refl _,rfl,rfl,Imp.refl _,Imp.refl _,⟨e,h⟩,hl⟩
theorem en166_1 (lines:List ByteArray) (v64:Int) (h:(0:Int)≤0):lE166_1 lines v64 0 0 (lJ166_1 lines v64 (lN166_1 lines v64)):=⟨rfl,rfl,rfl,rfl,rfl,rfl,Imp.refl _,rfl,rfl,Imp.refl _,Imp.refl _,rfl,Nat.lt_succ_self _,h⟩
abbrev lN166_0 (lines:List ByteArray):Nat×Int:=(((Int.toNat (((linesL lines (⟨#[100,111,111,114]⟩:ByteArray)).length:Int)-0))+1),0)
abbrev lI166_0 (lines:List ByteArray) (m39:Nat) (v64:Int):Prop:=Int.toNat (((linesL lines (⟨#[100,111,111,114]⟩:ByteArray)).length:Int)-v64)<m39∧(0:Int)≤v64
abbrev lX166_0 (lines:List ByteArray):Lp Int Bool:=LpX (F166_s0 lines) (lN166_0 lines)
abbrev lJ166_0 (lines:List ByteArray) (i:Nat×Int):Prop:=LpJ (F166_s0 lines) (lN166_0 lines) i (lI166_0 lines i.1 i.2)
abbrev lH166_0 (lines:List ByteArray) (i:Nat×Int) (m39:Nat) (v64:Int):Prop:=LpH (F166_s0 lines) (lN166_0 lines) i m39 v64 (lI166_0 lines (m39+1) v64)
abbrev lE166_0 (lines:List ByteArray) (v64:Int) (v64_:Int) (K39:Prop):Prop:=(Rf (.int .i64 (F44 (((linesL lines (⟨#[110,97,116]⟩:ByteArray)).getD (Int.toNat 0) default).getD (Int.toNat 3) default))))∧(Rf (.int .i64 (F44 (((linesL lines (⟨#[110,97,116]⟩:ByteArray)).getD (Int.toNat 0) default).getD (Int.toNat 4) default))))∧(Rf (.int .i64 ((linesL lines (⟨#[100,111,111,114]⟩:ByteArray)).length:Int)))∧((.int .i64 v64:Value)=.int .i64 v64_)∧(Im (.l 1 (eL 1 eStr) (linesL lines (⟨#[100,111,111,114]⟩:ByteArray))))∧(Rf (.int .i64 (F83 (((linesL lines (⟨#[110,97,116]⟩:ByteArray)).getD (Int.toNat 0) default).getD (Int.toNat 1) default)).1.Addr))∧(Rf (.int .i64 (F83 (((linesL lines (⟨#[110,97,116]⟩:ByteArray)).getD (Int.toNat 0) default).getD (Int.toNat 1) default)).1.Len))∧K39
theorem un166_0 (lines:List ByteArray) (i:Nat×Int) (h:lJ166_0 lines i):lH166_0 lines i (i.1-1) i.2:=⟨hd1 h.1 h.2.1,hd3 h.2.1,hd2 h.2.1,h.2.2⟩
theorem bk166_0 (lines:List ByteArray) (i:Nat×Int) (m39:Nat) (v64:Int) (hl:m39<i.1) (e:runL (F166_s0 lines) m39 v64=lX166_0 lines) (h:lI166_0 lines m39 v64):∃ j:Nat×Int,lE166_0 lines v64 j.2 (lJ166_0 lines j∧j.1<i.1):=⟨(m39,v64),rfl,rfl,rfl,rfl,Imp.refl _,rfl,rfl,⟨e,h⟩,hl⟩
theorem en166_0 (lines:List ByteArray) (h:(0:Int)≤0):lE166_0 lines 0 0 (lJ166_0 lines (lN166_0 lines)):=⟨rfl,rfl,rfl,rfl,Imp.refl _,rfl,rfl,rfl,Nat.lt_succ_self _,h⟩
def S166 (lines:List ByteArray):Spec:=⟨[.r (.c (.l 1 eStr lines))],.v (.bool (F166 lines)),F64 lines=0∧lines.length≤16∧(∀ k:Nat,(lines.getD k default).size≤1048576)⟩
theorem ok166 (lines:List ByteArray):(S166 lines).ok Tryz.prog 166 false :=
 fnG_ok mixed (fn:=Tryz.f166) (ct:=.seqk [(0,0)] .no (.seq (.reg [(1,kh82af lines (⟨#[110,97,116]⟩:ByteArray)),(3,kh82af lines (⟨#[100,111,111,114]⟩:ByteArray))]) (.seq (.seq .no (.cond (.seq .no .no) .no)) (.seq (.reg [(5,kh83 (((linesL lines (⟨#[110,97,116]⟩:ByteArray)).getD (Int.toNat 0) default).getD (Int.toNat 1) default))]) (.seq (.reg [(5,kh44 (((linesL lines (⟨#[110,97,116]⟩:ByteArray)).getD (Int.toNat 0) default).getD (Int.toNat 3) default)),(11,kh44 (((linesL lines (⟨#[110,97,116]⟩:ByteArray)).getD (Int.toNat 0) default).getD (Int.toNat 4) default))]) (.seq (.seq (.reg [(6,kh43 (((linesL lines (⟨#[110,97,116]⟩:ByteArray)).getD (Int.toNat 0) default).getD (Int.toNat 2) default)),(7,.call 199 (S199 (⟨(F83 (((linesL lines (⟨#[110,97,116]⟩:ByteArray)).getD (Int.toNat 0) default).getD (Int.toNat 1) default)).1.Addr,(F83 (((linesL lines (⟨#[110,97,116]⟩:ByteArray)).getD (Int.toNat 0) default).getD (Int.toNat 1) default)).1.Len⟩:NetPrefix) (F43 (((linesL lines (⟨#[110,97,116]⟩:ByteArray)).getD (Int.toNat 0) default).getD (Int.toNat 2) default))) ((ok199 (⟨(F83 (((linesL lines (⟨#[110,97,116]⟩:ByteArray)).getD (Int.toNat 0) default).getD (Int.toNat 1) default)).1.Addr,(F83 (((linesL lines (⟨#[110,97,116]⟩:ByteArray)).getD (Int.toNat 0) default).getD (Int.toNat 1) default)).1.Len⟩:NetPrefix) (F43 (((linesL lines (⟨#[110,97,116]⟩:ByteArray)).getD (Int.toNat 0) default).getD (Int.toNat 2) default))).to false) none)]) (.cond (.seq .no .no) .no)) (.seq (.seqk [(4,0),(62,0)] .no (.blk (.loop (ι:=Nat×Int) (fun i=>(fun (v64:Int)=>(⟨[(4,some (.h 0 0)),(5,some (.p 1 0)),(7,some (.v (vI (F44 (((linesL lines (⟨#[110,97,116]⟩:ByteArray)).getD (Int.toNat 0) default).getD (Int.toNat 3) default))))),(8,some (.v (vI (F44 (((linesL lines (⟨#[110,97,116]⟩:ByteArray)).getD (Int.toNat 0) default).getD (Int.toNat 4) default))))),(62,some (.h 0 0)),(63,some (.v (vI ((linesL lines (⟨#[100,111,111,114]⟩:ByteArray)).length:Int)))),(64,some (.v (vI v64)))],[(0,some (.own 0 (.l 1 (eL 1 eStr) (linesL lines (⟨#[100,111,111,114]⟩:ByteArray))))),(1,some (.box 58 [.v (vI (F83 (((linesL lines (⟨#[110,97,116]⟩:ByteArray)).getD (Int.toNat 0) default).getD (Int.toNat 1) default)).1.Addr),.v (vI (F83 (((linesL lines (⟨#[110,97,116]⟩:ByteArray)).getD (Int.toNat 0) default).getD (Int.toNat 1) default)).1.Len)]))],2⟩:St)) i.2) (lJ166_0 lines) (fun i=>i.1) (lN166_0 lines) (fun i=>(fun (v64:Int)=>(.seq .no (.seq (.cond .no .no) (.seq (.blk (.seq (.reg [(2,.sh)]) (.seq (.seq (.reg [(4,kh43 (((linesL lines (⟨#[100,111,111,114]⟩:ByteArray)).getD (Int.toNat v64) default).getD (Int.toNat 3) default)),(5,.call 199 (S199 (⟨(F83 (((linesL lines (⟨#[110,97,116]⟩:ByteArray)).getD (Int.toNat 0) default).getD (Int.toNat 1) default)).1.Addr,(F83 (((linesL lines (⟨#[110,97,116]⟩:ByteArray)).getD (Int.toNat 0) default).getD (Int.toNat 1) default)).1.Len⟩:NetPrefix) (F43 (((linesL lines (⟨#[100,111,111,114]⟩:ByteArray)).getD (Int.toNat v64) default).getD (Int.toNat 3) default))) ((ok199 (⟨(F83 (((linesL lines (⟨#[110,97,116]⟩:ByteArray)).getD (Int.toNat 0) default).getD (Int.toNat 1) default)).1.Addr,(F83 (((linesL lines (⟨#[110,97,116]⟩:ByteArray)).getD (Int.toNat 0) default).getD (Int.toNat 1) default)).1.Len⟩:NetPrefix) (F43 (((linesL lines (⟨#[100,111,111,114]⟩:ByteArray)).getD (Int.toNat v64) default).getD (Int.toNat 3) default))).to false) none),(11,kh44 (((linesL lines (⟨#[100,111,111,114]⟩:ByteArray)).getD (Int.toNat v64) default).getD (Int.toNat 2) default)),(14,kh86af (F44 (((linesL lines (⟨#[100,111,111,114]⟩:ByteArray)).getD (Int.toNat v64) default).getD (Int.toNat 2) default)) (F44 (((linesL lines (⟨#[110,97,116]⟩:ByteArray)).getD (Int.toNat 0) default).getD (Int.toNat 3) default)) (F44 (((linesL lines (⟨#[110,97,116]⟩:ByteArray)).getD (Int.toNat 0) default).getD (Int.toNat 4) default)))]) (.cond (.seq .no .no) .no)) (.seqk [(10,0),(87,0)] .no (.blk (.loop (ι:=Nat×Int) (fun i=>(fun (v89:Int)=>(⟨[(4,some (.h 0 0)),(5,some (.p 1 0)),(7,some (.v (vI (F44 (((linesL lines (⟨#[110,97,116]⟩:ByteArray)).getD (Int.toNat 0) default).getD (Int.toNat 3) default))))),(8,some (.v (vI (F44 (((linesL lines (⟨#[110,97,116]⟩:ByteArray)).getD (Int.toNat 0) default).getD (Int.toNat 4) default))))),(10,some (.h 2 0)),(62,some (.h 0 0)),(63,some (.v (vI ((linesL lines (⟨#[100,111,111,114]⟩:ByteArray)).length:Int)))),(64,some (.v (vI v64))),(87,some (.h 3 0)),(88,some (.v (vI (((linesL lines (⟨#[100,111,111,114]⟩:ByteArray)).take (Int.toNat v64)).length:Int)))),(89,some (.v (vI v89)))],[(0,some (.own 0 (.l 1 (eL 1 eStr) (linesL lines (⟨#[100,111,111,114]⟩:ByteArray))))),(1,some (.box 58 [.v (vI (F83 (((linesL lines (⟨#[110,97,116]⟩:ByteArray)).getD (Int.toNat 0) default).getD (Int.toNat 1) default)).1.Addr),.v (vI (F83 (((linesL lines (⟨#[110,97,116]⟩:ByteArray)).getD (Int.toNat 0) default).getD (Int.toNat 1) default)).1.Len)])),(2,some (.shr (some (0,0)) (.l 1 eStr ((linesL lines (⟨#[100,111,111,114]⟩:ByteArray)).getD (Int.toNat v64) default)))),(3,some (.shr (some (0,0)) (.l 1 (eL 1 eStr) ((linesL lines (⟨#[100,111,111,114]⟩:ByteArray)).take (Int.toNat v64)))))],4⟩:St)) i.2) (lJ166_1 lines v64) (fun i=>i.1) (lN166_1 lines v64) (fun i=>(fun (v89:Int)=>(.seq .no (.seq (.cond .no .no) (.seq (.blk (.seq .no (.seq .no (.cond (.seq .no .no) .no)))) (.reg [(0,.bnd)]))))) i.2))))))) (.reg [(0,.bnd)]))))) i.2)))) (.seq .no .no)))))))) Tryz.func166 (fun (hp:F64 lines=0∧lines.length≤16∧(∀ k:Nat,(lines.getD k default).size≤1048576))=>have hpre0:=hp.1; have hpre1:=hp.2.1; have hpre2:=hp.2.2; kn lines fun _=>kc82a lines (⟨#[110,97,116]⟩:ByteArray) (by omega) (by assumption) (by omega) (fun gv1=>kc82a lines (⟨#[100,111,111,114]⟩:ByteArray) (by omega) (by assumption) (by omega) (fun gv2=>ife ((linesL lines (⟨#[110,97,116]⟩:ByteArray)).length:Int) 0 (fun h3 _=>fiB (decide (((linesL lines (⟨#[100,111,111,114]⟩:ByteArray)).length:Int)>0)) (F166 lines) (condT h3 rfl)) (fun h3 _=>ai (by (omega):0≤(0:Int)∧(0:Int)<((linesL lines (⟨#[110,97,116]⟩:ByteArray)).length:Int)) (ai (by (have h9:=nat_at lines (by omega) (Int.toNat 0) (by omega); unfold natP at h9; omega):0≤(1:Int)∧(1:Int)<(((linesL lines (⟨#[110,97,116]⟩:ByteArray)).getD (Int.toNat 0) default).length:Int)) (kc83 (((linesL lines (⟨#[110,97,116]⟩:ByteArray)).getD (Int.toNat 0) default).getD (Int.toNat 1) default) (by exact linesL_sz lines _ (by omega) _ _) (ai (by (omega):0≤(0:Int)∧(0:Int)<((linesL lines (⟨#[110,97,116]⟩:ByteArray)).length:Int)) (ai (by (have h9:=nat_at lines (by omega) (Int.toNat 0) (by omega); unfold natP at h9; omega):0≤(3:Int)∧(3:Int)<(((linesL lines (⟨#[110,97,116]⟩:ByteArray)).getD (Int.toNat 0) default).length:Int)) (kc44 (((linesL lines (⟨#[110,97,116]⟩:ByteArray)).getD (Int.toNat 0) default).getD (Int.toNat 3) default) (by exact linesL_sz lines _ (by omega) _ _) (ai (by (omega):0≤(0:Int)∧(0:Int)<((linesL lines (⟨#[110,97,116]⟩:ByteArray)).length:Int)) (ai (by (have h9:=nat_at lines (by omega) (Int.toNat 0) (by omega); unfold natP at h9; omega):0≤(4:Int)∧(4:Int)<(((linesL lines (⟨#[110,97,116]⟩:ByteArray)).getD (Int.toNat 0) default).length:Int)) (kc44 (((linesL lines (⟨#[110,97,116]⟩:ByteArray)).getD (Int.toNat 0) default).getD (Int.toNat 4) default) (by exact linesL_sz lines _ (by omega) _ _) (ai (by (omega):0≤(0:Int)∧(0:Int)<((linesL lines (⟨#[110,97,116]⟩:ByteArray)).length:Int)) (ai (by (have h9:=nat_at lines (by omega) (Int.toNat 0) (by omega); unfold natP at h9; omega):0≤(2:Int)∧(2:Int)<(((linesL lines (⟨#[110,97,116]⟩:ByteArray)).getD (Int.toNat 0) default).length:Int)) (kc43 (((linesL lines (⟨#[110,97,116]⟩:ByteArray)).getD (Int.toNat 0) default).getD (Int.toNat 2) default) (by exact linesL_sz lines _ (by omega) _ _) (ai (ai (by exact (netParse_b _).1:0≤(F83 (((linesL lines (⟨#[110,97,116]⟩:ByteArray)).getD (Int.toNat 0) default).getD (Int.toNat 1) default)).1.Len) (by exact (netParse_b _).2.1:(F83 (((linesL lines (⟨#[110,97,116]⟩:ByteArray)).getD (Int.toNat 0) default).getD (Int.toNat 1) default)).1.Len≤16)) (ai (Imps.refl (eNetPrefix (⟨(F83 (((linesL lines (⟨#[110,97,116]⟩:ByteArray)).getD (Int.toNat 0) default).getD (Int.toNat 1) default)).1.Addr,(F83 (((linesL lines (⟨#[110,97,116]⟩:ByteArray)).getD (Int.toNat 0) default).getD (Int.toNat 1) default)).1.Len⟩:NetPrefix))) (ai (Imp.refl (.v (vI (F43 (((linesL lines (⟨#[110,97,116]⟩:ByteArray)).getD (Int.toNat 0) default).getD (Int.toNat 2) default))))) (ifb (bif (bif (F199 ⟨(F83 (((linesL lines (⟨#[110,97,116]⟩:ByteArray)).getD (Int.toNat 0) default).getD (Int.toNat 1) default)).1.Addr,(F83 (((linesL lines (⟨#[110,97,116]⟩:ByteArray)).getD (Int.toNat 0) default).getD (Int.toNat 1) default)).1.Len⟩ (F43 (((linesL lines (⟨#[110,97,116]⟩:ByteArray)).getD (Int.toNat 0) default).getD (Int.toNat 2) default))) then true else decide ((F44 (((linesL lines (⟨#[110,97,116]⟩:ByteArray)).getD (Int.toNat 0) default).getD (Int.toNat 3) default))>(F44 (((linesL lines (⟨#[110,97,116]⟩:ByteArray)).getD (Int.toNat 0) default).getD (Int.toNat 4) default)))) then true else decide (((linesL lines (⟨#[100,111,111,114]⟩:ByteArray)).length:Int)>6)) (fun h4=>fiB true (F166 lines) (condF h3 (condT h4 rfl))) (fun h4=>have _:¬ (F44 (((linesL lines (⟨#[110,97,116]⟩:ByteArray)).getD (Int.toNat 0) default).getD (Int.toNat 3) default))>(F44 (((linesL lines (⟨#[110,97,116]⟩:ByteArray)).getD (Int.toNat 0) default).getD (Int.toNat 4) default)):=of_decide_eq_false (orF2 (orF1 h4)); have _:¬ ((linesL lines (⟨#[100,111,111,114]⟩:ByteArray)).length:Int)>6:=of_decide_eq_false (orF2 h4); kn (linesL lines (⟨#[100,111,111,114]⟩:ByteArray)) fun _=>kn (linesL lines (⟨#[100,111,111,114]⟩:ByteArray)) fun _=>ai (en166_0 lines (by omega)) (fun (i0:Nat×Int) (hi0:lJ166_0 lines i0)=>(fun (m0:Nat) (v64:Int) (hh0:lH166_0 lines i0 m0 v64)=>have hI0:=hh0.1; have hl0:=hh0.2.1; have _:=hh0.2.2.1; have _:=hh0.2.2.2; ifd (v64<((linesL lines (⟨#[100,111,111,114]⟩:ByteArray)).length:Int)) (fun h6 _=>ai (by (omega):0≤v64∧v64<((linesL lines (⟨#[100,111,111,114]⟩:ByteArray)).length:Int)) (ai (by (have h9:=door_at lines (by omega) (Int.toNat v64) (by omega); unfold doorP at h9; omega):0≤(3:Int)∧(3:Int)<(((linesL lines (⟨#[100,111,111,114]⟩:ByteArray)).getD (Int.toNat v64) default).length:Int)) (kc43 (((linesL lines (⟨#[100,111,111,114]⟩:ByteArray)).getD (Int.toNat v64) default).getD (Int.toNat 3) default) (by exact linesL_sz lines _ (by omega) _ _) (ai (ai (by exact (netParse_b _).1:0≤(F83 (((linesL lines (⟨#[110,97,116]⟩:ByteArray)).getD (Int.toNat 0) default).getD (Int.toNat 1) default)).1.Len) (by exact (netParse_b _).2.1:(F83 (((linesL lines (⟨#[110,97,116]⟩:ByteArray)).getD (Int.toNat 0) default).getD (Int.toNat 1) default)).1.Len≤16)) (ai (Imps.refl (eNetPrefix (⟨(F83 (((linesL lines (⟨#[110,97,116]⟩:ByteArray)).getD (Int.toNat 0) default).getD (Int.toNat 1) default)).1.Addr,(F83 (((linesL lines (⟨#[110,97,116]⟩:ByteArray)).getD (Int.toNat 0) default).getD (Int.toNat 1) default)).1.Len⟩:NetPrefix))) (ai (Imp.refl (.v (vI (F43 (((linesL lines (⟨#[100,111,111,114]⟩:ByteArray)).getD (Int.toNat v64) default).getD (Int.toNat 3) default))))) (ai (fun k7:(!(F199 ⟨(F83 (((linesL lines (⟨#[110,97,116]⟩:ByteArray)).getD (Int.toNat 0) default).getD (Int.toNat 1) default)).1.Addr,(F83 (((linesL lines (⟨#[110,97,116]⟩:ByteArray)).getD (Int.toNat 0) default).getD (Int.toNat 1) default)).1.Len⟩ (F43 (((linesL lines (⟨#[100,111,111,114]⟩:ByteArray)).getD (Int.toNat v64) default).getD (Int.toNat 3) default))))=false=>(by (have h9:=door_at lines (by omega) (Int.toNat v64) (by omega); unfold doorP at h9; omega):0≤(2:Int)∧(2:Int)<(((linesL lines (⟨#[100,111,111,114]⟩:ByteArray)).getD (Int.toNat v64) default).length:Int))) (kg44 (!(F199 ⟨(F83 (((linesL lines (⟨#[110,97,116]⟩:ByteArray)).getD (Int.toNat 0) default).getD (Int.toNat 1) default)).1.Addr,(F83 (((linesL lines (⟨#[110,97,116]⟩:ByteArray)).getD (Int.toNat 0) default).getD (Int.toNat 1) default)).1.Len⟩ (F43 (((linesL lines (⟨#[100,111,111,114]⟩:ByteArray)).getD (Int.toNat v64) default).getD (Int.toNat 3) default)))) false (((linesL lines (⟨#[100,111,111,114]⟩:ByteArray)).getD (Int.toNat v64) default).getD (Int.toNat 2) default) (fun k8=>(by exact linesL_sz lines _ (by omega) _ _)) (kg86a (!(F199 ⟨(F83 (((linesL lines (⟨#[110,97,116]⟩:ByteArray)).getD (Int.toNat 0) default).getD (Int.toNat 1) default)).1.Addr,(F83 (((linesL lines (⟨#[110,97,116]⟩:ByteArray)).getD (Int.toNat 0) default).getD (Int.toNat 1) default)).1.Len⟩ (F43 (((linesL lines (⟨#[100,111,111,114]⟩:ByteArray)).getD (Int.toNat v64) default).getD (Int.toNat 3) default)))) false (F44 (((linesL lines (⟨#[100,111,111,114]⟩:ByteArray)).getD (Int.toNat v64) default).getD (Int.toNat 2) default)) (F44 (((linesL lines (⟨#[110,97,116]⟩:ByteArray)).getD (Int.toNat 0) default).getD (Int.toNat 3) default)) (F44 (((linesL lines (⟨#[110,97,116]⟩:ByteArray)).getD (Int.toNat 0) default).getD (Int.toNat 4) default)) (ifb (bif (!(F199 ⟨(F83 (((linesL lines (⟨#[110,97,116]⟩:ByteArray)).getD (Int.toNat 0) default).getD (Int.toNat 1) default)).1.Addr,(F83 (((linesL lines (⟨#[110,97,116]⟩:ByteArray)).getD (Int.toNat 0) default).getD (Int.toNat 1) default)).1.Len⟩ (F43 (((linesL lines (⟨#[100,111,111,114]⟩:ByteArray)).getD (Int.toNat v64) default).getD (Int.toNat 3) default)))) then true else (decide ((F44 (((linesL lines (⟨#[110,97,116]⟩:ByteArray)).getD (Int.toNat 0) default).getD (Int.toNat 3) default))≤(F44 (((linesL lines (⟨#[100,111,111,114]⟩:ByteArray)).getD (Int.toNat v64) default).getD (Int.toNat 2) default))∧(F44 (((linesL lines (⟨#[100,111,111,114]⟩:ByteArray)).getD (Int.toNat v64) default).getD (Int.toNat 2) default))≤(F44 (((linesL lines (⟨#[110,97,116]⟩:ByteArray)).getD (Int.toNat 0) default).getD (Int.toNat 4) default))))) (fun h10=>fiB true (F166 lines) (condF h3 (condF h4 (finR (runL_ret hI0 (condT h6 (condT h10 rfl))) rfl)))) (fun h10=>have _:¬ ((F44 (((linesL lines (⟨#[110,97,116]⟩:ByteArray)).getD (Int.toNat 0) default).getD (Int.toNat 3) default))≤(F44 (((linesL lines (⟨#[100,111,111,114]⟩:ByteArray)).getD (Int.toNat v64) default).getD (Int.toNat 2) default))∧(F44 (((linesL lines (⟨#[100,111,111,114]⟩:ByteArray)).getD (Int.toNat v64) default).getD (Int.toNat 2) default))≤(F44 (((linesL lines (⟨#[110,97,116]⟩:ByteArray)).getD (Int.toNat 0) default).getD (Int.toNat 4) default))):=of_decide_eq_false (orF2 h10); ai (by omega:0≤(0:Int)∧(0:Int)≤v64∧v64≤((linesL lines (⟨#[100,111,111,114]⟩:ByteArray)).length:Int)) (kn ((linesL lines (⟨#[100,111,111,114]⟩:ByteArray)).getD (Int.toNat v64) default) fun _=>kn ((linesL lines (⟨#[100,111,111,114]⟩:ByteArray)).take (Int.toNat v64)) fun _=>ai (en166_1 lines v64 (by omega)) (fun (i1:Nat×Int) (hi1:lJ166_1 lines v64 i1)=>(fun (m1:Nat) (v89:Int) (hh1:lH166_1 lines v64 i1 m1 v89)=>have hI1:=hh1.1; have hl1:=hh1.2.1; have _:=hh1.2.2.1; have _:=hh1.2.2.2; ifd (v89<(((linesL lines (⟨#[100,111,111,114]⟩:ByteArray)).take (Int.toNat v64)).length:Int)) (fun h12 _=>ai (by (omega):0≤v89∧v89<(((linesL lines (⟨#[100,111,111,114]⟩:ByteArray)).take (Int.toNat v64)).length:Int)) (ai (by (have h9:=door_atT lines (by omega) (Int.toNat v64) (Int.toNat v89) (by omega); unfold doorP at h9; omega):0≤(1:Int)∧(1:Int)<((((linesL lines (⟨#[100,111,111,114]⟩:ByteArray)).take (Int.toNat v64)).getD (Int.toNat v89) default).length:Int)) (ai (by (have h9:=door_at lines (by omega) (Int.toNat v64) (by omega); unfold doorP at h9; omega):0≤(1:Int)∧(1:Int)<(((linesL lines (⟨#[100,111,111,114]⟩:ByteArray)).getD (Int.toNat v64) default).length:Int)) (ai (fun k13:(((((linesL lines (⟨#[100,111,111,114]⟩:ByteArray)).take (Int.toNat v64)).getD (Int.toNat v89) default).getD (Int.toNat 1) default).toList==(((linesL lines (⟨#[100,111,111,114]⟩:ByteArray)).getD (Int.toNat v64) default).getD (Int.toNat 1) default).toList)=true=>(by (have h9:=door_atT lines (by omega) (Int.toNat v64) (Int.toNat v89) (by omega); unfold doorP at h9; omega):0≤(3:Int)∧(3:Int)<((((linesL lines (⟨#[100,111,111,114]⟩:ByteArray)).take (Int.toNat v64)).getD (Int.toNat v89) default).length:Int))) (ai (fun k14:(((((linesL lines (⟨#[100,111,111,114]⟩:ByteArray)).take (Int.toNat v64)).getD (Int.toNat v89) default).getD (Int.toNat 1) default).toList==(((linesL lines (⟨#[100,111,111,114]⟩:ByteArray)).getD (Int.toNat v64) default).getD (Int.toNat 1) default).toList)=true=>(by (have h9:=door_at lines (by omega) (Int.toNat v64) (by omega); unfold doorP at h9; omega):0≤(3:Int)∧(3:Int)<(((linesL lines (⟨#[100,111,111,114]⟩:ByteArray)).getD (Int.toNat v64) default).length:Int))) (ai (fun k15:(bif (((((linesL lines (⟨#[100,111,111,114]⟩:ByteArray)).take (Int.toNat v64)).getD (Int.toNat v89) default).getD (Int.toNat 1) default).toList==(((linesL lines (⟨#[100,111,111,114]⟩:ByteArray)).getD (Int.toNat v64) default).getD (Int.toNat 1) default).toList) then (((((linesL lines (⟨#[100,111,111,114]⟩:ByteArray)).take (Int.toNat v64)).getD (Int.toNat v89) default).getD (Int.toNat 3) default).toList==(((linesL lines (⟨#[100,111,111,114]⟩:ByteArray)).getD (Int.toNat v64) default).getD (Int.toNat 3) default).toList) else false)=true=>have _:(((((linesL lines (⟨#[100,111,111,114]⟩:ByteArray)).take (Int.toNat v64)).getD (Int.toNat v89) default).getD (Int.toNat 1) default).toList==(((linesL lines (⟨#[100,111,111,114]⟩:ByteArray)).getD (Int.toNat v64) default).getD (Int.toNat 1) default).toList)=true:=(andT1 k15); have _:(((((linesL lines (⟨#[100,111,111,114]⟩:ByteArray)).take (Int.toNat v64)).getD (Int.toNat v89) default).getD (Int.toNat 3) default).toList==(((linesL lines (⟨#[100,111,111,114]⟩:ByteArray)).getD (Int.toNat v64) default).getD (Int.toNat 3) default).toList)=true:=(andT2 k15); (by (have h9:=door_atT lines (by omega) (Int.toNat v64) (Int.toNat v89) (by omega); unfold doorP at h9; omega):0≤(4:Int)∧(4:Int)<((((linesL lines (⟨#[100,111,111,114]⟩:ByteArray)).take (Int.toNat v64)).getD (Int.toNat v89) default).length:Int))) (ai (fun k16:(bif (((((linesL lines (⟨#[100,111,111,114]⟩:ByteArray)).take (Int.toNat v64)).getD (Int.toNat v89) default).getD (Int.toNat 1) default).toList==(((linesL lines (⟨#[100,111,111,114]⟩:ByteArray)).getD (Int.toNat v64) default).getD (Int.toNat 1) default).toList) then (((((linesL lines (⟨#[100,111,111,114]⟩:ByteArray)).take (Int.toNat v64)).getD (Int.toNat v89) default).getD (Int.toNat 3) default).toList==(((linesL lines (⟨#[100,111,111,114]⟩:ByteArray)).getD (Int.toNat v64) default).getD (Int.toNat 3) default).toList) else false)=true=>have _:(((((linesL lines (⟨#[100,111,111,114]⟩:ByteArray)).take (Int.toNat v64)).getD (Int.toNat v89) default).getD (Int.toNat 1) default).toList==(((linesL lines (⟨#[100,111,111,114]⟩:ByteArray)).getD (Int.toNat v64) default).getD (Int.toNat 1) default).toList)=true:=(andT1 k16); have _:(((((linesL lines (⟨#[100,111,111,114]⟩:ByteArray)).take (Int.toNat v64)).getD (Int.toNat v89) default).getD (Int.toNat 3) default).toList==(((linesL lines (⟨#[100,111,111,114]⟩:ByteArray)).getD (Int.toNat v64) default).getD (Int.toNat 3) default).toList)=true:=(andT2 k16); (by (have h9:=door_at lines (by omega) (Int.toNat v64) (by omega); unfold doorP at h9; omega):0≤(4:Int)∧(4:Int)<(((linesL lines (⟨#[100,111,111,114]⟩:ByteArray)).getD (Int.toNat v64) default).length:Int))) (ifb (bif (bif (((((linesL lines (⟨#[100,111,111,114]⟩:ByteArray)).take (Int.toNat v64)).getD (Int.toNat v89) default).getD (Int.toNat 1) default).toList==(((linesL lines (⟨#[100,111,111,114]⟩:ByteArray)).getD (Int.toNat v64) default).getD (Int.toNat 1) default).toList) then (((((linesL lines (⟨#[100,111,111,114]⟩:ByteArray)).take (Int.toNat v64)).getD (Int.toNat v89) default).getD (Int.toNat 3) default).toList==(((linesL lines (⟨#[100,111,111,114]⟩:ByteArray)).getD (Int.toNat v64) default).getD (Int.toNat 3) default).toList) else false) then (((((linesL lines (⟨#[100,111,111,114]⟩:ByteArray)).take (Int.toNat v64)).getD (Int.toNat v89) default).getD (Int.toNat 4) default).toList==(((linesL lines (⟨#[100,111,111,114]⟩:ByteArray)).getD (Int.toNat v64) default).getD (Int.toNat 4) default).toList) else false) (fun h17=>have _:(((((linesL lines (⟨#[100,111,111,114]⟩:ByteArray)).take (Int.toNat v64)).getD (Int.toNat v89) default).getD (Int.toNat 1) default).toList==(((linesL lines (⟨#[100,111,111,114]⟩:ByteArray)).getD (Int.toNat v64) default).getD (Int.toNat 1) default).toList)=true:=(andT1 (andT1 h17)); have _:(((((linesL lines (⟨#[100,111,111,114]⟩:ByteArray)).take (Int.toNat v64)).getD (Int.toNat v89) default).getD (Int.toNat 3) default).toList==(((linesL lines (⟨#[100,111,111,114]⟩:ByteArray)).getD (Int.toNat v64) default).getD (Int.toNat 3) default).toList)=true:=(andT2 (andT1 h17)); have _:(((((linesL lines (⟨#[100,111,111,114]⟩:ByteArray)).take (Int.toNat v64)).getD (Int.toNat v89) default).getD (Int.toNat 4) default).toList==(((linesL lines (⟨#[100,111,111,114]⟩:ByteArray)).getD (Int.toNat v64) default).getD (Int.toNat 4) default).toList)=true:=(andT2 h17); fiB true (F166 lines) (condF h3 (condF h4 (finR (runL_ret hI0 (condT h6 (condF h10 (finR (runL_ret hI1 (condT h12 (condT h17 rfl))) rfl)))) rfl)))) (fun h17=>ai (iok (v89+1) (by omega)) (bk166_1 lines v64 i1 m1 (v89+1) hl1 (runL_next hI1 (condT h12 (condF h17 rfl))) (by refine ⟨?_,?_⟩ <;> omega))))))))))) (fun h12 _=>have hD1_18:lX166_1 lines v64=Lp.done v89:=runL_done hI1 (condF h12 rfl); ai (iok (v64+1) (by omega)) (bk166_0 lines i0 m0 (v64+1) hl0 (runL_next hI0 (condT h6 (condF h10 (finD hD1_18 rfl)))) (by refine ⟨?_,?_⟩ <;> omega)))) (i1.1-1) i1.2 (un166_1 lines v64 i1 hi1)))))))))))))) (fun h6 _=>have hD0_19:lX166_0 lines=Lp.done v64:=runL_done hI0 (condF h6 rfl); fiB false (F166 lines) (condF h3 (condF h4 (finD hD0_19 rfl))))) (i0.1-1) i0.2 (un166_0 lines i0 hi0)))))))))))))))))))))) (by kernel_rfl)
theorem kc77 (c:l52Cut) (k:Int) {K_:Prop} (p0_:0≤k) (k_:K_):(0≤k)∧(Imps (el52Cut c) (el52Cut c))∧(Imp (.v (vI k)) (.v (vI k)))∧K_:=⟨p0_,Imps.refl _,Imp.refl _,k_⟩
abbrev kh77 (c:l52Cut) (k:Int):Hint true Tryz.prog:=.call 77 (S77 c k) (ok77 c k) none
theorem kg77 {K_:Prop} (c_ b_:Bool) (c:l52Cut) (k:Int) (p_:c_=b_→0≤k) (k_:K_):(c_=b_→0≤k)∧(c_=b_→Imps (el52Cut c) (el52Cut c))∧(c_=b_→Imp (.v (vI k)) (.v (vI k)))∧K_:=⟨p_,fun _=>Imps.refl _,fun _=>Imp.refl _,k_⟩
def F66_s0 (all:List l52Cut):Int→Lp Int Bool:=fun i40 =>
 bif (decide (i40<(all.length:Int))) then (bif (bif ((F77 (all.getD (Int.toNat i40) default) 0).toList==(⟨#[117,115,101,114]⟩:ByteArray).toList) then ((F77 (all.getD (Int.toNat i40) default) 2).toList==(⟨#[97,108,108]⟩:ByteArray).toList) else false) then (.ret true) else (.next (i40+1))) else (.done i40)
def F66 (all:List l52Cut):Bool :=
 (runL (F66_s0 all) ((Int.toNat ((all.length:Int)-0))+1) 0).fin (fun r=>r) (fun i40=>false)
abbrev lN66_0 (all:List l52Cut):Nat×Int:=(((Int.toNat ((all.length:Int)-0))+1),0)
abbrev lI66_0 (all:List l52Cut) (m39:Nat) (i40:Int):Prop:=Int.toNat ((all.length:Int)-i40)<m39∧(0:Int)≤i40
abbrev lX66_0 (all:List l52Cut):Lp Int Bool:=LpX (F66_s0 all) (lN66_0 all)
abbrev lJ66_0 (all:List l52Cut) (i:Nat×Int):Prop:=LpJ (F66_s0 all) (lN66_0 all) i (lI66_0 all i.1 i.2)
abbrev lH66_0 (all:List l52Cut) (i:Nat×Int) (m39:Nat) (i40:Int):Prop:=LpH (F66_s0 all) (lN66_0 all) i m39 i40 (lI66_0 all (m39+1) i40)
abbrev lE66_0 (all:List l52Cut) (i40:Int) (i40_:Int) (K39:Prop):Prop:=((.int .i64 i40:Value)=.int .i64 i40_)∧(Im (.l 1 el52Cut all))∧K39
theorem un66_0 (all:List l52Cut) (i:Nat×Int) (h:lJ66_0 all i):lH66_0 all i (i.1-1) i.2:=⟨hd1 h.1 h.2.1,hd3 h.2.1,hd2 h.2.1,h.2.2⟩
theorem bk66_0 (all:List l52Cut) (i:Nat×Int) (m39:Nat) (i40:Int) (hl:m39<i.1) (e:runL (F66_s0 all) m39 i40=lX66_0 all) (h:lI66_0 all m39 i40):∃ j:Nat×Int,lE66_0 all i40 j.2 (lJ66_0 all j∧j.1<i.1):=⟨(m39,i40),rfl,Imp.refl _,⟨e,h⟩,hl⟩
theorem en66_0 (all:List l52Cut) (h:(0:Int)≤0):lE66_0 all 0 0 (lJ66_0 all (lN66_0 all)):=⟨rfl,Imp.refl _,rfl,Nat.lt_succ_self _,h⟩
def S66 (all:List l52Cut):Spec:=⟨[.r (.c (.l 1 el52Cut all))],.v (.bool (F66 all)),True⟩
theorem ok66 (all:List l52Cut):(S66 all).ok Tryz.prog 66 :=
 fnG_ok mixed (fn:=Tryz.f66) (ct:=.seqk [(0,0)] .no (.seq (.seqk [(0,0)] .no (.blk (.loop (ι:=Nat×Int) (fun i=>(fun (i40:Int)=>(⟨[(0,some (.h 0 0)),(3,some (.v (vI i40)))],[(0,some (.shr none (.l 1 el52Cut all)))],1⟩:St)) i.2) (lJ66_0 all) (fun i=>i.1) (lN66_0 all) (fun i=>(fun (i40:Int)=>(.seq (.seq .no (.cond .no .no)) (.seq (.blk (.seq (.reg [(4,kh77 (all.getD (Int.toNat i40) default) 0),(11,kh77 (all.getD (Int.toNat i40) default) 2)]) (.cond (.seq .no .no) .no))) (.reg [(1,.bnd)])))) i.2)))) (.seq .no .no))) Tryz.func66 (fun (_:True)=>kn all fun _=>kn all fun _=>ai (en66_0 all (by omega)) (fun (i0:Nat×Int) (hi0:lJ66_0 all i0)=>(fun (m0:Nat) (i40:Int) (hh0:lH66_0 all i0 m0 i40)=>have hI0:=hh0.1; have hl0:=hh0.2.1; have _:=hh0.2.2.1; have _:=hh0.2.2.2; ifd (i40<(all.length:Int)) (fun h2 _=>ai (by omega:ib i40 all) (kc77 (all.getD (Int.toNat i40) default) 0 (by omega) (ai (fun k3:((F77 (all.getD (Int.toNat i40) default) 0).toList==w10_.toList)=true=>(by omega:ib i40 all)) (kg77 ((F77 (all.getD (Int.toNat i40) default) 0).toList==w10_.toList) true (all.getD (Int.toNat i40) default) 2 (fun k4=>(by omega)) (ifb (bif ((F77 (all.getD (Int.toNat i40) default) 0).toList==w10_.toList) then ((F77 (all.getD (Int.toNat i40) default) 2).toList==w11_.toList) else false) (fun h5=>have _:((F77 (all.getD (Int.toNat i40) default) 0).toList==w10_.toList)=true:=(andT1 h5); have _:((F77 (all.getD (Int.toNat i40) default) 2).toList==w11_.toList)=true:=(andT2 h5); fiB true (F66 all) (finR (runL_ret hI0 (condT h2 (condT h5 rfl))) rfl)) (fun h5=>ai (iok (i40+1) (by omega)) (bk66_0 all i0 m0 (i40+1) hl0 (runL_next hI0 (condT h2 (condF h5 rfl))) (by refine ⟨?_,?_⟩ <;> omega)))))))) (fun h2 _=>have hD0_6:lX66_0 all=Lp.done i40:=runL_done hI0 (condF h2 rfl); fiB false (F66 all) (finD hD0_6 rfl))) (i0.1-1) i0.2 (un66_0 all i0 hi0))) (by kernel_rfl)
def F98_s0 (all:List l52Cut) (name:ByteArray):(Int×Int)→Lp (Int×Int) Int:=fun (n,i40) =>
 bif (decide (i40<(all.length:Int))) then (bif (bif ((F77 (all.getD (Int.toNat i40) default) 0).toList==(⟨#[114,117,108,101]⟩:ByteArray).toList) then ((F77 (all.getD (Int.toNat i40) default) 1).toList==name.toList) else false) then (.next ((n+1),(i40+1))) else (.next (n,(i40+1)))) else (.done (n,i40))
def F98 (all:List l52Cut) (name:ByteArray):Int :=
 (runL (F98_s0 all name) ((Int.toNat ((all.length:Int)-0))+1) (0,0)).fin (fun r=>r) (fun (n,i40)=>n)
abbrev lN98_0 (all:List l52Cut):Nat×(Int×Int):=(((Int.toNat ((all.length:Int)-0))+1),(0,0))
abbrev lI98_0 (all:List l52Cut) (m39:Nat) (n:Int) (i40:Int):Prop:=Int.toNat ((all.length:Int)-i40)<m39∧(0:Int)≤n∧(n:Int)≤i40∧(0:Int)≤n∧(0:Int)≤i40
abbrev lX98_0 (all:List l52Cut) (name:ByteArray):Lp (Int×Int) Int:=LpX (F98_s0 all name) (lN98_0 all)
abbrev lJ98_0 (all:List l52Cut) (name:ByteArray) (i:Nat×(Int×Int)):Prop:=LpJ (F98_s0 all name) (lN98_0 all) i (lI98_0 all i.1 i.2.1 i.2.2)
abbrev lH98_0 (all:List l52Cut) (name:ByteArray) (i:Nat×(Int×Int)) (m39:Nat) (n:Int) (i40:Int):Prop:=LpH (F98_s0 all name) (lN98_0 all) i m39 (n,i40) (lI98_0 all (m39+1) n i40)
abbrev lE98_0 (all:List l52Cut) (name:ByteArray) (n:Int) (i40:Int) (n_:Int) (i40_:Int) (K39:Prop):Prop:=(Rf (.string name))∧((.int .i64 n:Value)=.int .i64 n_)∧((.int .i64 i40:Value)=.int .i64 i40_)∧(Im (.l 1 el52Cut all))∧K39
theorem un98_0 (all:List l52Cut) (name:ByteArray) (i:Nat×(Int×Int)) (h:lJ98_0 all name i):lH98_0 all name i (i.1-1) i.2.1 i.2.2:=⟨hd1 h.1 h.2.1,hd3 h.2.1,hd2 h.2.1,h.2.2⟩
theorem bk98_0 (all:List l52Cut) (name:ByteArray) (i:Nat×(Int×Int)) (m39:Nat) (n:Int) (i40:Int) (hl:m39<i.1) (e:runL (F98_s0 all name) m39 (n,i40)=lX98_0 all name) (h:lI98_0 all m39 n i40):∃ j:Nat×(Int×Int),lE98_0 all name n i40 j.2.1 j.2.2 (lJ98_0 all name j∧j.1<i.1):=⟨(m39,(n,i40)),rfl,rfl,rfl,Imp.refl _,⟨e,h⟩,hl⟩
theorem en98_0 (all:List l52Cut) (name:ByteArray) (h:(0:Int)≤0∧(0:Int)≤0∧(0:Int)≤0∧(0:Int)≤0):lE98_0 all name 0 0 0 0 (lJ98_0 all name (lN98_0 all)):=⟨rfl,rfl,rfl,Imp.refl _,rfl,Nat.lt_succ_self _,h⟩
def S98 (all:List l52Cut) (name:ByteArray):Spec:=⟨[.r (.c (.l 1 el52Cut all)),.r (.c (.v (.string name)))],.v (vI (F98 all name)),True⟩
theorem ok98 (all:List l52Cut) (name:ByteArray):(S98 all name).ok Tryz.prog 98 :=
 fnG_ok mixed (fn:=Tryz.f98) (ct:=.seqk [(0,0)] .no (.seq .no (.seq (.seqk [(0,0)] .no (.blk (.loop (ι:=Nat×(Int×Int)) (fun i=>(fun (n:Int) (i40:Int)=>(⟨[(0,some (.h 0 0)),(1,some (.v (.string name))),(5,some (.v (vI n))),(6,some (.v (vI i40)))],[(0,some (.shr none (.l 1 el52Cut all)))],1⟩:St)) i.2.1 i.2.2) (lJ98_0 all name) (fun i=>i.1) (lN98_0 all) (fun i=>(fun (n:Int) (i40:Int)=>(.seq (.seq .no (.cond .no .no)) (.seq (.blk (.seq (.reg [(4,kh77 (all.getD (Int.toNat i40) default) 0),(11,kh77 (all.getD (Int.toNat i40) default) 1)]) (.cond (.reg [(1,.bnd)]) .no))) (.reg [(1,.bnd)])))) i.2.1 i.2.2)))) (.seq .no .no)))) Tryz.func98 (fun (_:True)=>kn all fun _=>kn all fun _=>ai (en98_0 all name (by refine ⟨?_,?_,?_,?_⟩ <;> omega)) (fun (i0:Nat×(Int×Int)) (hi0:lJ98_0 all name i0)=>(fun (m0:Nat) (n:Int) (i40:Int) (hh0:lH98_0 all name i0 m0 n i40)=>have hI0:=hh0.1; have hl0:=hh0.2.1; have _:=hh0.2.2.1; have _:=hh0.2.2.2; ifd (i40<(all.length:Int)) (fun h2 _=>ai (by omega:ib i40 all) (kc77 (all.getD (Int.toNat i40) default) 0 (by omega) (ai (fun k3:((F77 (all.getD (Int.toNat i40) default) 0).toList==w9_.toList)=true=>(by omega:ib i40 all)) (kg77 ((F77 (all.getD (Int.toNat i40) default) 0).toList==w9_.toList) true (all.getD (Int.toNat i40) default) 1 (fun k4=>(by omega)) (ifb (bif ((F77 (all.getD (Int.toNat i40) default) 0).toList==w9_.toList) then ((F77 (all.getD (Int.toNat i40) default) 1).toList==name.toList) else false) (fun h5=>have _:((F77 (all.getD (Int.toNat i40) default) 0).toList==w9_.toList)=true:=(andT1 h5); have _:=(andT2 h5); ai (iok (n+1) (by omega)) (ai (iok (i40+1) (by omega)) (bk98_0 all name i0 m0 (n+1) (i40+1) hl0 (runL_next hI0 (condT h2 (condT h5 rfl))) (by refine ⟨?_,?_,?_,?_,?_⟩ <;> omega)))) (fun h5=>ai (iok (i40+1) (by omega)) (bk98_0 all name i0 m0 n (i40+1) hl0 (runL_next hI0 (condT h2 (condF h5 rfl))) (by refine ⟨?_,?_,?_,?_,?_⟩ <;> omega)))))))) (fun h2 _=>have hD0_6:lX98_0 all name=Lp.done (n,i40):=runL_done hI0 (condF h2 rfl); fiI n (F98 all name) (finD hD0_6 rfl))) (i0.1-1) i0.2.1 i0.2.2 (un98_0 all name i0 hi0))) (by kernel_rfl)
theorem kg98 {K_:Prop} (c_ b_:Bool) (all:List l52Cut) (name:ByteArray) (k_:K_):(c_=b_→True)∧(c_=b_→Imp (.l 1 el52Cut all) (.l 1 el52Cut all))∧(c_=b_→Imp (.v (.string name)) (.v (.string name)))∧K_:=⟨fun _=>trivial,fun _=>Imp.refl _,fun _=>Imp.refl _,k_⟩
abbrev kh98 (all:List l52Cut) (name:ByteArray):Hint true Tryz.prog:=.call 98 (S98 all name) (ok98 all name) none
def F67_s0 (all:List l52Cut):Int→Lp Int Bool:=fun i40 =>
 bif (decide (i40<(all.length:Int))) then (bif (bif (bif ((F77 (all.getD (Int.toNat i40) default) 0).toList==(⟨#[112,111,114,116]⟩:ByteArray).toList) then (!((F77 (all.getD (Int.toNat i40) default) 4).toList==(⟨#[]⟩:ByteArray).toList)) else false) then ((F98 all (F77 (all.getD (Int.toNat i40) default) 4))==0) else false) then (.ret false) else (bif (bif ((F77 (all.getD (Int.toNat i40) default) 0).toList==(⟨#[114,117,108,101]⟩:ByteArray).toList) then decide ((F98 all (F77 (all.getD (Int.toNat i40) default) 1))>12) else false) then (.ret false) else (.next (i40+1)))) else (.done i40)
def F67 (all:List l52Cut):Bool :=
 (runL (F67_s0 all) ((Int.toNat ((all.length:Int)-0))+1) 0).fin (fun r=>r) (fun i40=>true)
abbrev lN67_0 (all:List l52Cut):Nat×Int:=(((Int.toNat ((all.length:Int)-0))+1),0)
abbrev lI67_0 (all:List l52Cut) (m39:Nat) (i40:Int):Prop:=Int.toNat ((all.length:Int)-i40)<m39∧(0:Int)≤i40
abbrev lX67_0 (all:List l52Cut):Lp Int Bool:=LpX (F67_s0 all) (lN67_0 all)
abbrev lJ67_0 (all:List l52Cut) (i:Nat×Int):Prop:=LpJ (F67_s0 all) (lN67_0 all) i (lI67_0 all i.1 i.2)
abbrev lH67_0 (all:List l52Cut) (i:Nat×Int) (m39:Nat) (i40:Int):Prop:=LpH (F67_s0 all) (lN67_0 all) i m39 i40 (lI67_0 all (m39+1) i40)
abbrev lE67_0 (all:List l52Cut) (i40:Int) (i40_:Int) (K39:Prop):Prop:=((.int .i64 i40:Value)=.int .i64 i40_)∧(Im (.l 1 el52Cut all))∧K39
theorem un67_0 (all:List l52Cut) (i:Nat×Int) (h:lJ67_0 all i):lH67_0 all i (i.1-1) i.2:=⟨hd1 h.1 h.2.1,hd3 h.2.1,hd2 h.2.1,h.2.2⟩
theorem bk67_0 (all:List l52Cut) (i:Nat×Int) (m39:Nat) (i40:Int) (hl:m39<i.1) (e:runL (F67_s0 all) m39 i40=lX67_0 all) (h:lI67_0 all m39 i40):∃ j:Nat×Int,lE67_0 all i40 j.2 (lJ67_0 all j∧j.1<i.1):=⟨(m39,i40),rfl,Imp.refl _,⟨e,h⟩,hl⟩
theorem en67_0 (all:List l52Cut) (h:(0:Int)≤0):lE67_0 all 0 0 (lJ67_0 all (lN67_0 all)):=⟨rfl,Imp.refl _,rfl,Nat.lt_succ_self _,h⟩
def S67 (all:List l52Cut):Spec:=⟨[.r (.c (.l 1 el52Cut all))],.v (.bool (F67 all)),True⟩
abbrev q67_1 (all:List l52Cut) (i40:Int):=(all.getD (Int.toNat i40) default)
theorem ok67 (all:List l52Cut):(S67 all).ok Tryz.prog 67 :=
 fnG_ok mixed (fn:=Tryz.f67) (ct:=.seqk [(0,0)] .no (.seq (.seqk [(0,0)] .no (.blk (.loop (ι:=Nat×Int) (fun i=>(fun (i40:Int)=>(⟨[(0,some (.h 0 0)),(3,some (.v (vI i40)))],[(0,some (.shr none (.l 1 el52Cut all)))],1⟩:St)) i.2) (lJ67_0 all) (fun i=>i.1) (lN67_0 all) (fun i=>(fun (i40:Int)=>(.seq (.seq .no (.cond .no .no)) (.seq (.blk (.seq (.seq (.reg [(4,kh77 (q67_1 all i40) 0),(11,kh77 (q67_1 all i40) 4),(20,kh77 (q67_1 all i40) 4),(21,kh98 all (F77 (q67_1 all i40) 4))]) (.cond (.seq .no .no) .no)) (.seq (.reg [(4,kh77 (q67_1 all i40) 0),(12,kh77 (q67_1 all i40) 1),(13,kh98 all (F77 (q67_1 all i40) 1))]) (.cond (.seq .no .no) .no)))) (.reg [(1,.bnd)])))) i.2)))) (.seq .no .no))) Tryz.func67 (fun (_:True)=>kn all fun _=>kn all fun _=>ai (en67_0 all (by omega)) (fun (i0:Nat×Int) (hi0:lJ67_0 all i0)=>(fun (m0:Nat) (i40:Int) (hh0:lH67_0 all i0 m0 i40)=>have hI0:=hh0.1; have hl0:=hh0.2.1; have _:=hh0.2.2.1; have _:=hh0.2.2.2; ifd (i40<(all.length:Int)) (fun h2 _=>ai (by omega:ib i40 all) (kc77 (q67_1 all i40) 0 (by omega) (ai (fun k3:((F77 (q67_1 all i40) 0).toList==w7_.toList)=true=>(by omega:ib i40 all)) (kg77 ((F77 (q67_1 all i40) 0).toList==w7_.toList) true (q67_1 all i40) 4 (fun k4=>(by omega)) (ai (fun k5:(bif ((F77 (q67_1 all i40) 0).toList==w7_.toList) then (!((F77 (q67_1 all i40) 4).toList==w13_.toList)) else false)=true=>have _:((F77 (q67_1 all i40) 0).toList==w7_.toList)=true:=(andT1 k5); have _:(!((F77 (q67_1 all i40) 4).toList==w13_.toList))=true:=(andT2 k5); (by omega:ib i40 all)) (kg77 (bif ((F77 (q67_1 all i40) 0).toList==w7_.toList) then (!((F77 (q67_1 all i40) 4).toList==w13_.toList)) else false) true (q67_1 all i40) 4 (fun k6=>have _:((F77 (q67_1 all i40) 0).toList==w7_.toList)=true:=(andT1 k6); have _:(!((F77 (q67_1 all i40) 4).toList==w13_.toList))=true:=(andT2 k6); (by omega)) (kg98 (bif ((F77 (q67_1 all i40) 0).toList==w7_.toList) then (!((F77 (q67_1 all i40) 4).toList==w13_.toList)) else false) true all (F77 (q67_1 all i40) 4) (ifb (bif (bif ((F77 (q67_1 all i40) 0).toList==w7_.toList) then (!((F77 (q67_1 all i40) 4).toList==w13_.toList)) else false) then ((F98 all (F77 (q67_1 all i40) 4))==0) else false) (fun h8=>have _:((F77 (q67_1 all i40) 0).toList==w7_.toList)=true:=(andT1 (andT1 h8)); have _:(!((F77 (q67_1 all i40) 4).toList==w13_.toList))=true:=(andT2 (andT1 h8)); have _:=eq_of_beq (andT2 h8); fiB false (F67 all) (finR (runL_ret hI0 (condT h2 (condT h8 rfl))) rfl)) (fun h8=>ai (by omega:ib i40 all) (kc77 (q67_1 all i40) 0 (by omega) (ai (fun k9:((F77 (q67_1 all i40) 0).toList==w9_.toList)=true=>(by omega:ib i40 all)) (kg77 ((F77 (q67_1 all i40) 0).toList==w9_.toList) true (q67_1 all i40) 1 (fun k10=>(by omega)) (kg98 ((F77 (q67_1 all i40) 0).toList==w9_.toList) true all (F77 (q67_1 all i40) 1) (ifb (bif ((F77 (q67_1 all i40) 0).toList==w9_.toList) then decide ((F98 all (F77 (q67_1 all i40) 1))>12) else false) (fun h12=>have _:((F77 (q67_1 all i40) 0).toList==w9_.toList)=true:=(andT1 h12); have _:=of_decide_eq_true (andT2 h12); fiB false (F67 all) (finR (runL_ret hI0 (condT h2 (condF h8 (condT h12 rfl)))) rfl)) (fun h12=>ai (iok (i40+1) (by omega)) (bk67_0 all i0 m0 (i40+1) hl0 (runL_next hI0 (condT h2 (condF h8 (condF h12 rfl)))) (by refine ⟨?_,?_⟩ <;> omega))))))))))))))))) (fun h2 _=>have hD0_13:lX67_0 all=Lp.done i40:=runL_done hI0 (condF h2 rfl); fiB true (F67 all) (finD hD0_13 rfl))) (i0.1-1) i0.2 (un67_0 all i0 hi0))) (by kernel_rfl)
def F68_s1 (all:List l52Cut) (i40:Int):Int→Lp Int Bool:=fun k =>
 bif (decide (k<i40)) then (bif (bif (!((F77 (all.getD (Int.toNat i40) default) 0).toList==(⟨#[112,111,114,116]⟩:ByteArray).toList)) then true else (!((F77 (all.getD (Int.toNat k) default) 0).toList==(⟨#[112,111,114,116]⟩:ByteArray).toList))) then (.next (k+1)) else (bif (bif decide ((F99 (F77 (all.getD (Int.toNat i40) default) 2)).1<(IntKind.i64.wrap ((F99 (F77 (all.getD (Int.toNat k) default) 2)).1+(F99 (F77 (all.getD (Int.toNat k) default) 2)).2))) then decide ((F99 (F77 (all.getD (Int.toNat k) default) 2)).1<(IntKind.i64.wrap ((F99 (F77 (all.getD (Int.toNat i40) default) 2)).1+(F99 (F77 (all.getD (Int.toNat i40) default) 2)).2))) else false) then (.ret false) else (.next (k+1)))) else (.done k)
def F68_s0 (all:List l52Cut):Int→Lp Int Bool:=fun i40 =>
 bif (decide (i40<(all.length:Int))) then ((runL (F68_s1 all i40) ((Int.toNat (i40-0))+1) 0).fin Lp.ret (fun k=>.next (i40+1))) else (.done i40)
def F68 (all:List l52Cut):Bool :=
 (runL (F68_s0 all) ((Int.toNat ((all.length:Int)-0))+1) 0).fin (fun r=>r) (fun i40=>true)
abbrev lN68_1 (i40:Int):Nat×Int:=(((Int.toNat (i40-0))+1),0)
abbrev lI68_1 (i40:Int) (m39:Nat) (k:Int):Prop:=Int.toNat (i40-k)<m39∧(0:Int)≤k
abbrev lX68_1 (all:List l52Cut) (i40:Int):Lp Int Bool:=LpX (F68_s1 all i40) (lN68_1 i40)
abbrev lJ68_1 (all:List l52Cut) (i40:Int) (i:Nat×Int):Prop:=LpJ (F68_s1 all i40) (lN68_1 i40) i (lI68_1 i40 i.1 i.2)
abbrev lH68_1 (all:List l52Cut) (i40:Int) (i:Nat×Int) (m39:Nat) (k:Int):Prop:=LpH (F68_s1 all i40) (lN68_1 i40) i m39 k (lI68_1 i40 (m39+1) k)
abbrev lE68_1 (all:List l52Cut) (i40:Int) (k:Int) (k_:Int) (K39:Prop):Prop:=(Rf (.int .i64 i40))∧((.int .i64 k:Value)=.int .i64 k_)∧(Im (.l 1 el52Cut all))∧K39
theorem un68_1 (all:List l52Cut) (i40:Int) (i:Nat×Int) (h:lJ68_1 all i40 i):lH68_1 all i40 i (i.1-1) i.2:=⟨hd1 h.1 h.2.1,hd3 h.2.1,hd2 h.2.1,h.2.2⟩
theorem bk68_1 (all:List l52Cut) (i40:Int) (i:Nat×Int) (m39:Nat) (k:Int) (hl:m39<i.1) (e:runL (F68_s1 all i40) m39 k=lX68_1 all i40) (h:lI68_1 i40 m39 k):∃ j:Nat×Int,lE68_1 all i40 k j.2 (lJ68_1 all i40 j∧j.1<i.1):=⟨(m39,k),rfl,rfl,Imp.refl _,⟨e,h⟩,hl⟩
theorem en68_1 (all:List l52Cut) (i40:Int) (h:(0:Int)≤0):lE68_1 all i40 0 0 (lJ68_1 all i40 (lN68_1 i40)):=⟨rfl,rfl,Imp.refl _,rfl,Nat.lt_succ_self _,h⟩
abbrev lN68_0 (all:List l52Cut):Nat×Int:=(((Int.toNat ((all.length:Int)-0))+1),0)
abbrev lI68_0 (all:List l52Cut) (m39:Nat) (i40:Int):Prop:=Int.toNat ((all.length:Int)-i40)<m39∧(0:Int)≤i40
abbrev lX68_0 (all:List l52Cut):Lp Int Bool:=LpX (F68_s0 all) (lN68_0 all)
abbrev lJ68_0 (all:List l52Cut) (i:Nat×Int):Prop:=LpJ (F68_s0 all) (lN68_0 all) i (lI68_0 all i.1 i.2)
abbrev lH68_0 (all:List l52Cut) (i:Nat×Int) (m39:Nat) (i40:Int):Prop:=LpH (F68_s0 all) (lN68_0 all) i m39 i40 (lI68_0 all (m39+1) i40)
abbrev lE68_0 (all:List l52Cut) (i40:Int) (i40_:Int) (K39:Prop):Prop:=((.int .i64 i40:Value)=.int .i64 i40_)∧(Im (.l 1 el52Cut all))∧K39
theorem un68_0 (all:List l52Cut) (i:Nat×Int) (h:lJ68_0 all i):lH68_0 all i (i.1-1) i.2:=⟨hd1 h.1 h.2.1,hd3 h.2.1,hd2 h.2.1,h.2.2⟩
theorem bk68_0 (all:List l52Cut) (i:Nat×Int) (m39:Nat) (i40:Int) (hl:m39<i.1) (e:runL (F68_s0 all) m39 i40=lX68_0 all) (h:lI68_0 all m39 i40):∃ j:Nat×Int,lE68_0 all i40 j.2 (lJ68_0 all j∧j.1<i.1):=⟨(m39,i40),rfl,Imp.refl _,⟨e,h⟩,hl⟩
theorem en68_0 (all:List l52Cut) (h:(0:Int)≤0):lE68_0 all 0 0 (lJ68_0 all (lN68_0 all)):=⟨rfl,Imp.refl _,rfl,Nat.lt_succ_self _,h⟩
def S68 (all:List l52Cut):Spec:=⟨[.r (.c (.l 1 el52Cut all))],.v (.bool (F68 all)),(∀ k j:Nat,((all.getD k default).w.getD j default).size≤1048576)⟩
abbrev q68_1 (all:List l52Cut) (i40:Int):=(all.getD (Int.toNat i40) default)
abbrev q68_2 (all:List l52Cut) (k:Int):=(all.getD (Int.toNat k) default)
theorem ok68 (all:List l52Cut):(S68 all).ok Tryz.prog 68 :=
 fnG_ok mixed (fn:=Tryz.f68) (ct:=.seqk [(0,0)] .no (.seq (.seqk [(0,0)] .no (.blk (.loop (ι:=Nat×Int) (fun i=>(fun (i40:Int)=>(⟨[(0,some (.h 0 0)),(3,some (.v (vI i40)))],[(0,some (.shr none (.l 1 el52Cut all)))],1⟩:St)) i.2) (lJ68_0 all) (fun i=>i.1) (lN68_0 all) (fun i=>(fun (i40:Int)=>(.seq (.seq .no (.cond .no .no)) (.seq (.blk (.seqk [(0,0)] .no (.blk (.loop (ι:=Nat×Int) (fun i=>(fun (k:Int)=>(⟨[(0,some (.h 0 0)),(3,some (.v (vI i40))),(4,some (.v (vI k)))],[(0,some (.shr none (.l 1 el52Cut all)))],1⟩:St)) i.2) (lJ68_1 all i40) (fun i=>i.1) (lN68_1 i40) (fun i=>(fun (k:Int)=>(.seq (.seq .no (.cond .no .no)) (.seq (.blk (.seq (.seq (.reg [(4,kh77 (q68_1 all i40) 0),(11,kh77 (q68_2 all k) 0)]) (.cond .no .no)) (.seq (.reg [(4,kh77 (q68_1 all i40) 2),(5,kh99 (F77 (q68_1 all i40) 2))]) (.seq (.reg [(4,kh77 (q68_2 all k) 2),(5,kh99 (F77 (q68_2 all k) 2))]) (.seq .no (.cond (.seq .no .no) .no)))))) (.reg [(1,.bnd)])))) i.2))))) (.reg [(1,.bnd)])))) i.2)))) (.seq .no .no))) Tryz.func68 (fun (hpre0:∀ k j:Nat,((all.getD k default).w.getD j default).size≤1048576)=>kn all fun _=>kn all fun _=>ai (en68_0 all (by omega)) (fun (i0:Nat×Int) (hi0:lJ68_0 all i0)=>(fun (m0:Nat) (i40:Int) (hh0:lH68_0 all i0 m0 i40)=>have hI0:=hh0.1; have hl0:=hh0.2.1; have _:=hh0.2.2.1; have _:=hh0.2.2.2; ifd (i40<(all.length:Int)) (fun h2 _=>kn all fun _=>ai (en68_1 all i40 (by omega)) (fun (i1:Nat×Int) (hi1:lJ68_1 all i40 i1)=>(fun (m1:Nat) (k:Int) (hh1:lH68_1 all i40 i1 m1 k)=>have hI1:=hh1.1; have hl1:=hh1.2.1; have _:=hh1.2.2.1; have _:=hh1.2.2.2; ifd (k<i40) (fun h4 _=>ai (by omega:ib i40 all) (kc77 (q68_1 all i40) 0 (by omega) (ai (fun k5:(!((F77 (q68_1 all i40) 0).toList==w7_.toList))=false=>(by omega:ib k all)) (kg77 (!((F77 (q68_1 all i40) 0).toList==w7_.toList)) false (q68_2 all k) 0 (fun k6=>(by omega)) (ifb (bif (!((F77 (q68_1 all i40) 0).toList==w7_.toList)) then true else (!((F77 (q68_2 all k) 0).toList==w7_.toList))) (fun h7=>ai (iok (k+1) (by omega)) (bk68_1 all i40 i1 m1 (k+1) hl1 (runL_next hI1 (condT h4 (condT h7 rfl))) (by refine ⟨?_,?_⟩ <;> omega))) (fun h7=>have _:(!((F77 (q68_1 all i40) 0).toList==w7_.toList))=false:=(orF1 h7); have _:(!((F77 (q68_2 all k) 0).toList==w7_.toList))=false:=(orF2 h7); ai (by omega:ib i40 all) (kc77 (q68_1 all i40) 2 (by omega) (kc99 (F77 (q68_1 all i40) 2) (by exact at_sz all (by assumption) _ _) (ai (by omega:ib k all) (kc77 (q68_2 all k) 2 (by omega) (kc99 (F77 (q68_2 all k) 2) (by exact at_sz all (by assumption) _ _) (ifb (bif decide ((F99 (F77 (q68_1 all i40) 2)).1<(IntKind.i64.wrap ((F99 (F77 (q68_2 all k) 2)).1+(F99 (F77 (q68_2 all k) 2)).2))) then decide ((F99 (F77 (q68_2 all k) 2)).1<(IntKind.i64.wrap ((F99 (F77 (q68_1 all i40) 2)).1+(F99 (F77 (q68_1 all i40) 2)).2))) else false) (fun h8=>have _:=of_decide_eq_true (andT1 h8); have _:=of_decide_eq_true (andT2 h8); fiB false (F68 all) (finR (runL_ret hI0 (condT h2 (finR (runL_ret hI1 (condT h4 (condF h7 (condT h8 rfl)))) rfl))) rfl)) (fun h8=>ai (iok (k+1) (by omega)) (bk68_1 all i40 i1 m1 (k+1) hl1 (runL_next hI1 (condT h4 (condF h7 (condF h8 rfl)))) (by refine ⟨?_,?_⟩ <;> omega))))))))))))))) (fun h4 _=>have hD1_9:lX68_1 all i40=Lp.done k:=runL_done hI1 (condF h4 rfl); ai (iok (i40+1) (by omega)) (bk68_0 all i0 m0 (i40+1) hl0 (runL_next hI0 (condT h2 (finD hD1_9 rfl))) (by refine ⟨?_,?_⟩ <;> omega)))) (i1.1-1) i1.2 (un68_1 all i40 i1 hi1))) (fun h2 _=>have hD0_10:lX68_0 all=Lp.done i40:=runL_done hI0 (condF h2 rfl); fiB true (F68 all) (finD hD0_10 rfl))) (i0.1-1) i0.2 (un68_0 all i0 hi0))) (by kernel_rfl)
def F100_s0 (all:List l52Cut) (addr:Int):Int→Lp Int Bool:=fun i40 =>
 bif (decide (i40<(all.length:Int))) then (bif ((F77 (all.getD (Int.toNat i40) default) 0).toList==(⟨#[112,111,114,116]⟩:ByteArray).toList) then (bif (bif decide (addr>(F99 (F77 (all.getD (Int.toNat i40) default) 2)).1) then decide (addr<(IntKind.i64.wrap ((F99 (F77 (all.getD (Int.toNat i40) default) 2)).1+(F99 (F77 (all.getD (Int.toNat i40) default) 2)).2))) else false) then (.ret true) else (.next (i40+1))) else (.next (i40+1))) else (.done i40)
def F100 (all:List l52Cut) (addr:Int):Bool :=
 (runL (F100_s0 all addr) ((Int.toNat ((all.length:Int)-0))+1) 0).fin (fun r=>r) (fun i40=>false)
abbrev lN100_0 (all:List l52Cut):Nat×Int:=(((Int.toNat ((all.length:Int)-0))+1),0)
abbrev lI100_0 (all:List l52Cut) (m39:Nat) (i40:Int):Prop:=Int.toNat ((all.length:Int)-i40)<m39∧(0:Int)≤i40
abbrev lX100_0 (all:List l52Cut) (addr:Int):Lp Int Bool:=LpX (F100_s0 all addr) (lN100_0 all)
abbrev lJ100_0 (all:List l52Cut) (addr:Int) (i:Nat×Int):Prop:=LpJ (F100_s0 all addr) (lN100_0 all) i (lI100_0 all i.1 i.2)
abbrev lH100_0 (all:List l52Cut) (addr:Int) (i:Nat×Int) (m39:Nat) (i40:Int):Prop:=LpH (F100_s0 all addr) (lN100_0 all) i m39 i40 (lI100_0 all (m39+1) i40)
abbrev lE100_0 (all:List l52Cut) (addr:Int) (i40:Int) (i40_:Int) (K39:Prop):Prop:=(Rf (.int .i64 addr))∧((.int .i64 i40:Value)=.int .i64 i40_)∧(Im (.l 1 el52Cut all))∧K39
theorem un100_0 (all:List l52Cut) (addr:Int) (i:Nat×Int) (h:lJ100_0 all addr i):lH100_0 all addr i (i.1-1) i.2:=⟨hd1 h.1 h.2.1,hd3 h.2.1,hd2 h.2.1,h.2.2⟩
theorem bk100_0 (all:List l52Cut) (addr:Int) (i:Nat×Int) (m39:Nat) (i40:Int) (hl:m39<i.1) (e:runL (F100_s0 all addr) m39 i40=lX100_0 all addr) (h:lI100_0 all m39 i40):∃ j:Nat×Int,lE100_0 all addr i40 j.2 (lJ100_0 all addr j∧j.1<i.1):=⟨(m39,i40),rfl,rfl,Imp.refl _,⟨e,h⟩,hl⟩
theorem en100_0 (all:List l52Cut) (addr:Int) (h:(0:Int)≤0):lE100_0 all addr 0 0 (lJ100_0 all addr (lN100_0 all)):=⟨rfl,rfl,Imp.refl _,rfl,Nat.lt_succ_self _,h⟩
def S100 (all:List l52Cut) (addr:Int):Spec:=⟨[.r (.c (.l 1 el52Cut all)),.r (.c (.v (vI addr)))],.v (.bool (F100 all addr)),(∀ k j:Nat,((all.getD k default).w.getD j default).size≤1048576)⟩
theorem ok100 (all:List l52Cut) (addr:Int):(S100 all addr).ok Tryz.prog 100 :=
 fnG_ok mixed (fn:=Tryz.f100) (ct:=.seqk [(0,0)] .no (.seq (.seqk [(0,0)] .no (.blk (.loop (ι:=Nat×Int) (fun i=>(fun (i40:Int)=>(⟨[(0,some (.h 0 0)),(1,some (.v (vI addr))),(5,some (.v (vI i40)))],[(0,some (.shr none (.l 1 el52Cut all)))],1⟩:St)) i.2) (lJ100_0 all addr) (fun i=>i.1) (lN100_0 all) (fun i=>(fun (i40:Int)=>(.seq (.seq .no (.cond .no .no)) (.seq (.blk (.seq (.reg [(4,kh77 (all.getD (Int.toNat i40) default) 0)]) (.cond (.seq (.reg [(4,kh77 (all.getD (Int.toNat i40) default) 2),(5,kh99 (F77 (all.getD (Int.toNat i40) default) 2))]) (.seq .no (.cond (.seq .no .no) .no))) .no))) (.reg [(1,.bnd)])))) i.2)))) (.seq .no .no))) Tryz.func100 (fun (hpre0:∀ k j:Nat,((all.getD k default).w.getD j default).size≤1048576)=>kn all fun _=>kn all fun _=>ai (en100_0 all addr (by omega)) (fun (i0:Nat×Int) (hi0:lJ100_0 all addr i0)=>(fun (m0:Nat) (i40:Int) (hh0:lH100_0 all addr i0 m0 i40)=>have hI0:=hh0.1; have hl0:=hh0.2.1; have _:=hh0.2.2.1; have _:=hh0.2.2.2; ifd (i40<(all.length:Int)) (fun h2 _=>ai (by omega:ib i40 all) (kc77 (all.getD (Int.toNat i40) default) 0 (by omega) (ifb ((F77 (all.getD (Int.toNat i40) default) 0).toList==w7_.toList) (fun h3=>ai (by omega:ib i40 all) (kc77 (all.getD (Int.toNat i40) default) 2 (by omega) (kc99 (F77 (all.getD (Int.toNat i40) default) 2) (by exact at_sz all (by assumption) _ _) (ifb (bif decide (addr>(F99 (F77 (all.getD (Int.toNat i40) default) 2)).1) then decide (addr<(IntKind.i64.wrap ((F99 (F77 (all.getD (Int.toNat i40) default) 2)).1+(F99 (F77 (all.getD (Int.toNat i40) default) 2)).2))) else false) (fun h4=>have _:=of_decide_eq_true (andT1 h4); have _:=of_decide_eq_true (andT2 h4); fiB true (F100 all addr) (finR (runL_ret hI0 (condT h2 (condT h3 (condT h4 rfl)))) rfl)) (fun h4=>ai (iok (i40+1) (by omega)) (bk100_0 all addr i0 m0 (i40+1) hl0 (runL_next hI0 (condT h2 (condT h3 (condF h4 rfl)))) (by refine ⟨?_,?_⟩ <;> omega))))))) (fun h3=>ai (iok (i40+1) (by omega)) (bk100_0 all addr i0 m0 (i40+1) hl0 (runL_next hI0 (condT h2 (condF h3 rfl))) (by refine ⟨?_,?_⟩ <;> omega)))))) (fun h2 _=>have hD0_5:lX100_0 all addr=Lp.done i40:=runL_done hI0 (condF h2 rfl); fiB false (F100 all addr) (finD hD0_5 rfl))) (i0.1-1) i0.2 (un100_0 all addr i0 hi0))) (by kernel_rfl)
theorem kc100 (all:List l52Cut) (addr:Int) {K_:Prop} (p0_:∀ k j:Nat,((all.getD k default).w.getD j default).size≤1048576) (k_:K_):(∀ k j:Nat,((all.getD k default).w.getD j default).size≤1048576)∧(Imp (.l 1 el52Cut all) (.l 1 el52Cut all))∧(Imp (.v (vI addr)) (.v (vI addr)))∧K_:=⟨p0_,Imp.refl _,Imp.refl _,k_⟩
abbrev kh100 (all:List l52Cut) (addr:Int):Hint true Tryz.prog:=.call 100 (S100 all addr) (ok100 all addr) none
def F69_s0 (all:List l52Cut):Int→Lp Int Bool:=fun i40 =>
 bif (decide (i40<(all.length:Int))) then (bif ((F77 (all.getD (Int.toNat i40) default) 0).toList==(⟨#[114,111,117,116,101]⟩:ByteArray).toList) then (bif (!(F100 all (F78 (F77 (all.getD (Int.toNat i40) default) 2)))) then (.ret false) else (.next (i40+1))) else (bif ((F77 (all.getD (Int.toNat i40) default) 0).toList==(⟨#[112,101,101,114]⟩:ByteArray).toList) then (bif (!(F100 all (F78 (F77 (all.getD (Int.toNat i40) default) 1)))) then (.ret false) else (.next (i40+1))) else (.next (i40+1)))) else (.done i40)
def F69 (all:List l52Cut):Bool :=
 (runL (F69_s0 all) ((Int.toNat ((all.length:Int)-0))+1) 0).fin (fun r=>r) (fun i40=>true)
abbrev lN69_0 (all:List l52Cut):Nat×Int:=(((Int.toNat ((all.length:Int)-0))+1),0)
abbrev lI69_0 (all:List l52Cut) (m39:Nat) (i40:Int):Prop:=Int.toNat ((all.length:Int)-i40)<m39∧(0:Int)≤i40
abbrev lX69_0 (all:List l52Cut):Lp Int Bool:=LpX (F69_s0 all) (lN69_0 all)
abbrev lJ69_0 (all:List l52Cut) (i:Nat×Int):Prop:=LpJ (F69_s0 all) (lN69_0 all) i (lI69_0 all i.1 i.2)
abbrev lH69_0 (all:List l52Cut) (i:Nat×Int) (m39:Nat) (i40:Int):Prop:=LpH (F69_s0 all) (lN69_0 all) i m39 i40 (lI69_0 all (m39+1) i40)
abbrev lE69_0 (all:List l52Cut) (i40:Int) (i40_:Int) (K39:Prop):Prop:=((.int .i64 i40:Value)=.int .i64 i40_)∧(Im (.l 1 el52Cut all))∧K39
theorem un69_0 (all:List l52Cut) (i:Nat×Int) (h:lJ69_0 all i):lH69_0 all i (i.1-1) i.2:=⟨hd1 h.1 h.2.1,hd3 h.2.1,hd2 h.2.1,h.2.2⟩
theorem bk69_0 (all:List l52Cut) (i:Nat×Int) (m39:Nat) (i40:Int) (hl:m39<i.1) (e:runL (F69_s0 all) m39 i40=lX69_0 all) (h:lI69_0 all m39 i40):∃ j:Nat×Int,lE69_0 all i40 j.2 (lJ69_0 all j∧j.1<i.1):=⟨(m39,i40),rfl,Imp.refl _,⟨e,h⟩,hl⟩
theorem en69_0 (all:List l52Cut) (h:(0:Int)≤0):lE69_0 all 0 0 (lJ69_0 all (lN69_0 all)):=⟨rfl,Imp.refl _,rfl,Nat.lt_succ_self _,h⟩
def S69 (all:List l52Cut):Spec:=⟨[.r (.c (.l 1 el52Cut all))],.v (.bool (F69 all)),(∀ k j:Nat,((all.getD k default).w.getD j default).size≤1048576)⟩
abbrev q69_1 (all:List l52Cut) (i40:Int):=(all.getD (Int.toNat i40) default)
theorem ok69 (all:List l52Cut):(S69 all).ok Tryz.prog 69 :=
 fnG_ok mixed (fn:=Tryz.f69) (ct:=.seqk [(0,0)] .no (.seq (.seqk [(0,0)] .no (.blk (.loop (ι:=Nat×Int) (fun i=>(fun (i40:Int)=>(⟨[(0,some (.h 0 0)),(3,some (.v (vI i40)))],[(0,some (.shr none (.l 1 el52Cut all)))],1⟩:St)) i.2) (lJ69_0 all) (fun i=>i.1) (lN69_0 all) (fun i=>(fun (i40:Int)=>(.seq (.seq .no (.cond .no .no)) (.seq (.blk (.seq (.reg [(4,kh77 (q69_1 all i40) 0)]) (.blk (.seq .no (.cond (.seq (.reg [(5,kh77 (q69_1 all i40) 2),(6,kh78 (F77 (q69_1 all i40) 2)),(7,kh100 all (F78 (F77 (q69_1 all i40) 2)))]) (.cond (.seq .no .no) .no)) (.seq .no (.cond (.seq (.reg [(5,kh77 (q69_1 all i40) 1),(6,kh78 (F77 (q69_1 all i40) 1)),(7,kh100 all (F78 (F77 (q69_1 all i40) 1)))]) (.cond (.seq .no .no) .no)) .no))))))) (.reg [(1,.bnd)])))) i.2)))) (.seq .no .no))) Tryz.func69 (fun (hpre0:∀ k j:Nat,((all.getD k default).w.getD j default).size≤1048576)=>kn all fun _=>kn all fun _=>ai (en69_0 all (by omega)) (fun (i0:Nat×Int) (hi0:lJ69_0 all i0)=>(fun (m0:Nat) (i40:Int) (hh0:lH69_0 all i0 m0 i40)=>have hI0:=hh0.1; have hl0:=hh0.2.1; have _:=hh0.2.2.1; have _:=hh0.2.2.2; ifd (i40<(all.length:Int)) (fun h2 _=>ai (by omega:ib i40 all) (kc77 (q69_1 all i40) 0 (by omega) (ifb ((F77 (q69_1 all i40) 0).toList==w8_.toList) (fun h3=>ai (by omega:ib i40 all) (kc77 (q69_1 all i40) 2 (by omega) (kc78 (F77 (q69_1 all i40) 2) (by exact at_sz all (by assumption) _ _) (kc100 all (F78 (F77 (q69_1 all i40) 2)) (by assumption) (ifb (!(F100 all (F78 (F77 (q69_1 all i40) 2)))) (fun h4=>fiB false (F69 all) (finR (runL_ret hI0 (condT h2 (condT h3 (condT h4 rfl)))) rfl)) (fun h4=>ai (iok (i40+1) (by omega)) (bk69_0 all i0 m0 (i40+1) hl0 (runL_next hI0 (condT h2 (condT h3 (condF h4 rfl)))) (by refine ⟨?_,?_⟩ <;> omega)))))))) (fun h3=>ifb ((F77 (q69_1 all i40) 0).toList==w6_.toList) (fun h5=>ai (by omega:ib i40 all) (kc77 (q69_1 all i40) 1 (by omega) (kc78 (F77 (q69_1 all i40) 1) (by exact at_sz all (by assumption) _ _) (kc100 all (F78 (F77 (q69_1 all i40) 1)) (by assumption) (ifb (!(F100 all (F78 (F77 (q69_1 all i40) 1)))) (fun h6=>fiB false (F69 all) (finR (runL_ret hI0 (condT h2 (condF h3 (condT h5 (condT h6 rfl))))) rfl)) (fun h6=>ai (iok (i40+1) (by omega)) (bk69_0 all i0 m0 (i40+1) hl0 (runL_next hI0 (condT h2 (condF h3 (condT h5 (condF h6 rfl))))) (by refine ⟨?_,?_⟩ <;> omega)))))))) (fun h5=>ai (iok (i40+1) (by omega)) (bk69_0 all i0 m0 (i40+1) hl0 (runL_next hI0 (condT h2 (condF h3 (condF h5 rfl)))) (by refine ⟨?_,?_⟩ <;> omega))))))) (fun h2 _=>have hD0_7:lX69_0 all=Lp.done i40:=runL_done hI0 (condF h2 rfl); fiB true (F69 all) (finD hD0_7 rfl))) (i0.1-1) i0.2 (un69_0 all i0 hi0))) (by kernel_rfl)
def F101_s0 (all:List l52Cut):Int→Lp Int Int:=fun i40 =>
 bif (decide (i40<(all.length:Int))) then (bif ((F77 (all.getD (Int.toNat i40) default) 0).toList==(⟨#[110,97,116]⟩:ByteArray).toList) then (.ret i40) else (.next (i40+1))) else (.done i40)
def F101 (all:List l52Cut):Int :=
 (runL (F101_s0 all) ((Int.toNat ((all.length:Int)-0))+1) 0).fin (fun r=>r) (fun i40=>(-1))
abbrev lN101_0 (all:List l52Cut):Nat×Int:=(((Int.toNat ((all.length:Int)-0))+1),0)
abbrev lI101_0 (all:List l52Cut) (m39:Nat) (i40:Int):Prop:=Int.toNat ((all.length:Int)-i40)<m39∧(0:Int)≤i40
abbrev lX101_0 (all:List l52Cut):Lp Int Int:=LpX (F101_s0 all) (lN101_0 all)
abbrev lJ101_0 (all:List l52Cut) (i:Nat×Int):Prop:=LpJ (F101_s0 all) (lN101_0 all) i (lI101_0 all i.1 i.2)
abbrev lH101_0 (all:List l52Cut) (i:Nat×Int) (m39:Nat) (i40:Int):Prop:=LpH (F101_s0 all) (lN101_0 all) i m39 i40 (lI101_0 all (m39+1) i40)
abbrev lE101_0 (all:List l52Cut) (i40:Int) (i40_:Int) (K39:Prop):Prop:=((.int .i64 i40:Value)=.int .i64 i40_)∧(Im (.l 1 el52Cut all))∧K39
theorem un101_0 (all:List l52Cut) (i:Nat×Int) (h:lJ101_0 all i):lH101_0 all i (i.1-1) i.2:=⟨hd1 h.1 h.2.1,hd3 h.2.1,hd2 h.2.1,h.2.2⟩
theorem bk101_0 (all:List l52Cut) (i:Nat×Int) (m39:Nat) (i40:Int) (hl:m39<i.1) (e:runL (F101_s0 all) m39 i40=lX101_0 all) (h:lI101_0 all m39 i40):∃ j:Nat×Int,lE101_0 all i40 j.2 (lJ101_0 all j∧j.1<i.1):=⟨(m39,i40),rfl,Imp.refl _,⟨e,h⟩,hl⟩
theorem en101_0 (all:List l52Cut) (h:(0:Int)≤0):lE101_0 all 0 0 (lJ101_0 all (lN101_0 all)):=⟨rfl,Imp.refl _,rfl,Nat.lt_succ_self _,h⟩
def S101 (R:Int) (all:List l52Cut):Spec:=⟨[.r (.c (.l 1 el52Cut all))],.v (vI R),True⟩
theorem ok101 (all:List l52Cut):(S101 (F101 all) all).ok Tryz.prog 101 :=
 fnG_ok mixed (fn:=Tryz.f101) (ct:=.seqk [(0,0)] .no (.seq (.seqk [(0,0)] .no (.blk (.loop (ι:=Nat×Int) (fun i=>(fun (i40:Int)=>(⟨[(0,some (.h 0 0)),(3,some (.v (vI i40)))],[(0,some (.shr none (.l 1 el52Cut all)))],1⟩:St)) i.2) (lJ101_0 all) (fun i=>i.1) (lN101_0 all) (fun i=>(fun (i40:Int)=>(.seq (.seq .no (.cond .no .no)) (.seq (.blk (.seq (.reg [(4,kh77 (all.getD (Int.toNat i40) default) 0)]) (.cond (.seq .no .no) .no))) (.reg [(1,.bnd)])))) i.2)))) (.seq .no .no))) Tryz.func101 (fun (_:True)=>kn all fun _=>kn all fun _=>ai (en101_0 all (by omega)) (fun (i0:Nat×Int) (hi0:lJ101_0 all i0)=>(fun (m0:Nat) (i40:Int) (hh0:lH101_0 all i0 m0 i40)=>have hI0:=hh0.1; have hl0:=hh0.2.1; have _:=hh0.2.2.1; have _:=hh0.2.2.2; ifd (i40<(all.length:Int)) (fun h2 _=>ai (by omega:ib i40 all) (kc77 (all.getD (Int.toNat i40) default) 0 (by omega) (ifb ((F77 (all.getD (Int.toNat i40) default) 0).toList==w5_.toList) (fun h3=>fiI i40 (F101 all) (finR (runL_ret hI0 (condT h2 (condT h3 rfl))) rfl)) (fun h3=>ai (iok (i40+1) (by omega)) (bk101_0 all i0 m0 (i40+1) hl0 (runL_next hI0 (condT h2 (condF h3 rfl))) (by refine ⟨?_,?_⟩ <;> omega)))))) (fun h2 _=>have hD0_4:lX101_0 all=Lp.done i40:=runL_done hI0 (condF h2 rfl); fiI (-1) (F101 all) (finD hD0_4 rfl))) (i0.1-1) i0.2 (un101_0 all i0 hi0))) (by kernel_rfl)
theorem as101 (all:List l52Cut):F101 all=(idxI (fun c=>((F77 c 0).toList==(⟨#[110,97,116]⟩:ByteArray).toList)) all):=by
 exact idx_loop (fun c=>((F77 c 0).toList==(⟨#[110,97,116]⟩:ByteArray).toList)) all (F101_s0 all) (fun i=>rfl)
theorem oa101 (all:List l52Cut):(S101 (idxI (fun c=>((F77 c 0).toList==(⟨#[110,97,116]⟩:ByteArray).toList)) all) all).ok Tryz.prog 101:=by
 intro hp; have h:=ok101 all hp; rw [as101 all] at h; exact h
theorem g101_0 (all:List l52Cut):(idxI (fun c=>((F77 c 0).toList==(⟨#[110,97,116]⟩:ByteArray).toList)) all)<(all.length:Int):=by
 exact idxI_lt _ all
theorem kg79 {K_:Prop} (c_ b_:Bool) (s:ByteArray) (p_:c_=b_→s.size≤1048576) (k_:K_):(c_=b_→s.size≤1048576)∧(c_=b_→Imp (.v (.string s)) (.v (.string s)))∧K_:=⟨p_,fun _=>Imp.refl _,k_⟩
def F102_s0 (all:List l52Cut) (at':Int) (nat:l52Cut):Int→Lp Int Bool:=fun i40 =>
 bif (decide (i40<at')) then (bif (bif (bif (bif ((F77 (all.getD (Int.toNat i40) default) 0).toList==(⟨#[100,111,111,114]⟩:ByteArray).toList) then ((F77 (all.getD (Int.toNat i40) default) 1).toList==(F77 (all.getD (Int.toNat at') default) 1).toList) else false) then ((F77 (all.getD (Int.toNat i40) default) 3).toList==(F77 (all.getD (Int.toNat at') default) 3).toList) else false) then ((F77 (all.getD (Int.toNat i40) default) 4).toList==(F77 (all.getD (Int.toNat at') default) 4).toList) else false) then (.ret false) else (.next (i40+1))) else (.done i40)
def F102 (all:List l52Cut) (at':Int) (nat:l52Cut):Bool :=
 bif (bif (bif decide ((F78 (F77 (all.getD (Int.toNat at') default) 3))<(F99 (F77 nat 1)).1) then true else decide ((F78 (F77 (all.getD (Int.toNat at') default) 3))≥(IntKind.i64.wrap ((F99 (F77 nat 1)).1+(F99 (F77 nat 1)).2)))) then true else (decide ((F79 (F77 nat 3))≤F79 (F77 (all.getD (Int.toNat at') default) 2)∧F79 (F77 (all.getD (Int.toNat at') default) 2)≤(F79 (F77 nat 4))))) then false else ((runL (F102_s0 all at' nat) ((Int.toNat (at'-0))+1) 0).fin (fun r=>r) (fun i40=>true))
abbrev lN102_0 (at':Int):Nat×Int:=(((Int.toNat (at'-0))+1),0)
abbrev lI102_0 (at':Int) (m39:Nat) (i40:Int):Prop:=Int.toNat (at'-i40)<m39∧(0:Int)≤i40
abbrev lX102_0 (all:List l52Cut) (at':Int) (nat:l52Cut):Lp Int Bool:=LpX (F102_s0 all at' nat) (lN102_0 at')
abbrev lJ102_0 (all:List l52Cut) (at':Int) (nat:l52Cut) (i:Nat×Int):Prop:=LpJ (F102_s0 all at' nat) (lN102_0 at') i (lI102_0 at' i.1 i.2)
abbrev lH102_0 (all:List l52Cut) (at':Int) (nat:l52Cut) (i:Nat×Int) (m39:Nat) (i40:Int):Prop:=LpH (F102_s0 all at' nat) (lN102_0 at') i m39 i40 (lI102_0 at' (m39+1) i40)
abbrev lE102_0 (all:List l52Cut) (at':Int) (i40:Int) (i40_:Int) (K39:Prop):Prop:=(Rf (.int .i64 at'))∧((.int .i64 i40:Value)=.int .i64 i40_)∧(Im (.l 1 el52Cut all))∧(Ims (el52Cut (all.getD (Int.toNat at') default)))∧K39
theorem un102_0 (all:List l52Cut) (at':Int) (nat:l52Cut) (i:Nat×Int) (h:lJ102_0 all at' nat i):lH102_0 all at' nat i (i.1-1) i.2:=⟨hd1 h.1 h.2.1,hd3 h.2.1,hd2 h.2.1,h.2.2⟩
theorem bk102_0 (all:List l52Cut) (at':Int) (nat:l52Cut) (i:Nat×Int) (m39:Nat) (i40:Int) (hl:m39<i.1) (e:runL (F102_s0 all at' nat) m39 i40=lX102_0 all at' nat) (h:lI102_0 at' m39 i40):∃ j:Nat×Int,lE102_0 all at' i40 j.2 (lJ102_0 all at' nat j∧j.1<i.1):=⟨(m39,i40),rfl,rfl,Imp.refl _,Imps.refl _,⟨e,h⟩,hl⟩
theorem en102_0 (all:List l52Cut) (at':Int) (nat:l52Cut) (h:(0:Int)≤0):lE102_0 all at' 0 0 (lJ102_0 all at' nat (lN102_0 at')):=⟨rfl,rfl,Imp.refl _,Imps.refl _,rfl,Nat.lt_succ_self _,h⟩
def S102 (all:List l52Cut) (at':Int) (nat:l52Cut):Spec:=⟨[.r (.c (.l 1 el52Cut all)),.r (.c (.v (vI at'))),.r (.g (el52Cut nat))],.v (.bool (F102 all at' nat)),0≤at'∧at'<(all.length:Int)∧(∀ j:Nat,(nat.w.getD j default).size≤1048576)∧(∀ k j:Nat,((all.getD k default).w.getD j default).size≤1048576)⟩
abbrev q102_1 (all:List l52Cut) (at':Int):=(all.getD (Int.toNat at') default)
abbrev q102_2 (all:List l52Cut) (i40:Int):=(all.getD (Int.toNat i40) default)
abbrev q102_3 (all:List l52Cut) (at':Int):=(F78 (F77 (q102_1 all at') 3))
theorem ok102 (all:List l52Cut) (at':Int) (nat:l52Cut):(S102 all at' nat).ok Tryz.prog 102 :=
 fnG_ok mixed (fn:=Tryz.f102) (ct:=.seqk [(0,0)] .no (.seq .no (.seq (.reg [(1,kh77 nat 1),(2,kh99 (F77 nat 1))]) (.seq (.reg [(1,kh77 (q102_1 all at') 3),(2,kh78 (F77 (q102_1 all at') 3))]) (.seq (.seq (.reg [(12,kh77 (q102_1 all at') 2),(14,kh77 nat 3),(15,kh79 (F77 nat 3)),(17,kh77 nat 4),(18,kh79 (F77 nat 4)),(19,kh117a (F77 (q102_1 all at') 2) (F79 (F77 nat 3)) (F79 (F77 nat 4)))]) (.cond (.seq .no .no) .no)) (.seq (.seqk [(0,0),(7,0)] .no (.blk (.loop (ι:=Nat×Int) (fun i=>(fun (i40:Int)=>(⟨[(0,some (.h 0 0)),(1,some (.v (vI at'))),(7,some (.p 1 0)),(11,some (.v (vI i40)))],[(0,some (.shr none (.l 1 el52Cut all))),(1,some (.box 97 [.h 2 1])),(2,some (.mem none none (el52Cut (q102_1 all at'))))],3⟩:St)) i.2) (lJ102_0 all at' nat) (fun i=>i.1) (lN102_0 at') (fun i=>(fun (i40:Int)=>(.seq (.seq .no (.cond .no .no)) (.seq (.blk (.seq (.reg [(4,kh77 (q102_2 all i40) 0),(11,kh77 (q102_2 all i40) 1),(13,kh77 (q102_1 all at') 1),(21,kh77 (q102_2 all i40) 3),(23,kh77 (q102_1 all at') 3),(31,kh77 (q102_2 all i40) 4),(33,kh77 (q102_1 all at') 4)]) (.cond (.seq .no .no) .no))) (.reg [(1,.bnd)])))) i.2)))) (.seq .no .no))))))) Tryz.func102 (fun (hp:0≤at'∧at'<(all.length:Int)∧(∀ j:Nat,(nat.w.getD j default).size≤1048576)∧(∀ k j:Nat,((all.getD k default).w.getD j default).size≤1048576))=>have hpre0:=hp.1; have hpre1:=hp.2.1; have hpre2:=hp.2.2.1; have hpre3:=hp.2.2.2; kn all fun _=>ai (by omega:ib at' all) (kc77 nat 1 (by omega) (kc99 (F77 nat 1) (by exact at_sz1 (by assumption) _) (kc77 (q102_1 all at') 3 (by omega) (kc78 (F77 (q102_1 all at') 3) (by exact at_sz all (by assumption) _ _) (kg77 (bif decide ((q102_3 all at')<(F99 (F77 nat 1)).1) then true else decide ((q102_3 all at')≥(IntKind.i64.wrap ((F99 (F77 nat 1)).1+(F99 (F77 nat 1)).2)))) false (q102_1 all at') 2 (fun k1=>have _:=of_decide_eq_false (orF1 k1); have _:=of_decide_eq_false (orF2 k1); (by omega)) (kg77 (bif decide ((q102_3 all at')<(F99 (F77 nat 1)).1) then true else decide ((q102_3 all at')≥(IntKind.i64.wrap ((F99 (F77 nat 1)).1+(F99 (F77 nat 1)).2)))) false nat 3 (fun k2=>have _:=of_decide_eq_false (orF1 k2); have _:=of_decide_eq_false (orF2 k2); (by omega)) (kg79 (bif decide ((q102_3 all at')<(F99 (F77 nat 1)).1) then true else decide ((q102_3 all at')≥(IntKind.i64.wrap ((F99 (F77 nat 1)).1+(F99 (F77 nat 1)).2)))) false (F77 nat 3) (fun k3=>have _:=of_decide_eq_false (orF1 k3); have _:=of_decide_eq_false (orF2 k3); (by exact at_sz1 (by assumption) _)) (kg77 (bif decide ((q102_3 all at')<(F99 (F77 nat 1)).1) then true else decide ((q102_3 all at')≥(IntKind.i64.wrap ((F99 (F77 nat 1)).1+(F99 (F77 nat 1)).2)))) false nat 4 (fun k4=>have _:=of_decide_eq_false (orF1 k4); have _:=of_decide_eq_false (orF2 k4); (by omega)) (kg79 (bif decide ((q102_3 all at')<(F99 (F77 nat 1)).1) then true else decide ((q102_3 all at')≥(IntKind.i64.wrap ((F99 (F77 nat 1)).1+(F99 (F77 nat 1)).2)))) false (F77 nat 4) (fun k5=>have _:=of_decide_eq_false (orF1 k5); have _:=of_decide_eq_false (orF2 k5); (by exact at_sz1 (by assumption) _)) (kg117a (bif decide ((q102_3 all at')<(F99 (F77 nat 1)).1) then true else decide ((q102_3 all at')≥(IntKind.i64.wrap ((F99 (F77 nat 1)).1+(F99 (F77 nat 1)).2)))) false (F77 (q102_1 all at') 2) (F79 (F77 nat 3)) (F79 (F77 nat 4)) (fun k6=>have _:=of_decide_eq_false (orF1 k6); have _:=of_decide_eq_false (orF2 k6); (by exact at_sz all (by assumption) _ _)) (ifb (bif (bif decide ((q102_3 all at')<(F99 (F77 nat 1)).1) then true else decide ((q102_3 all at')≥(IntKind.i64.wrap ((F99 (F77 nat 1)).1+(F99 (F77 nat 1)).2)))) then true else (decide ((F79 (F77 nat 3))≤F79 (F77 (q102_1 all at') 2)∧F79 (F77 (q102_1 all at') 2)≤(F79 (F77 nat 4))))) (fun h7=>fiB false (F102 all at' nat) (condT h7 rfl)) (fun h7=>have _:=of_decide_eq_false (orF1 (orF1 h7)); have _:=of_decide_eq_false (orF2 (orF1 h7)); have _:=of_decide_eq_false (orF2 h7); kn all fun _=>kn (q102_1 all at').w fun _=>ai (en102_0 all at' nat (by omega)) (fun (i0:Nat×Int) (hi0:lJ102_0 all at' nat i0)=>(fun (m0:Nat) (i40:Int) (hh0:lH102_0 all at' nat i0 m0 i40)=>have hI0:=hh0.1; have hl0:=hh0.2.1; have _:=hh0.2.2.1; have _:=hh0.2.2.2; ifd (i40<at') (fun h9 _=>ai (by omega:ib i40 all) (kc77 (q102_2 all i40) 0 (by omega) (ai (fun k10:((F77 (q102_2 all i40) 0).toList==w3_.toList)=true=>(by omega:ib i40 all)) (kg77 ((F77 (q102_2 all i40) 0).toList==w3_.toList) true (q102_2 all i40) 1 (fun k11=>(by omega)) (kg77 ((F77 (q102_2 all i40) 0).toList==w3_.toList) true (q102_1 all at') 1 (fun k12=>(by omega)) (ai (fun k13:(bif ((F77 (q102_2 all i40) 0).toList==w3_.toList) then ((F77 (q102_2 all i40) 1).toList==(F77 (q102_1 all at') 1).toList) else false)=true=>have _:((F77 (q102_2 all i40) 0).toList==w3_.toList)=true:=(andT1 k13); have _:=(andT2 k13); (by omega:ib i40 all)) (kg77 (bif ((F77 (q102_2 all i40) 0).toList==w3_.toList) then ((F77 (q102_2 all i40) 1).toList==(F77 (q102_1 all at') 1).toList) else false) true (q102_2 all i40) 3 (fun k14=>have _:((F77 (q102_2 all i40) 0).toList==w3_.toList)=true:=(andT1 k14); have _:=(andT2 k14); (by omega)) (kg77 (bif ((F77 (q102_2 all i40) 0).toList==w3_.toList) then ((F77 (q102_2 all i40) 1).toList==(F77 (q102_1 all at') 1).toList) else false) true (q102_1 all at') 3 (fun k15=>have _:((F77 (q102_2 all i40) 0).toList==w3_.toList)=true:=(andT1 k15); have _:=(andT2 k15); (by omega)) (ai (fun k16:(bif (bif ((F77 (q102_2 all i40) 0).toList==w3_.toList) then ((F77 (q102_2 all i40) 1).toList==(F77 (q102_1 all at') 1).toList) else false) then ((F77 (q102_2 all i40) 3).toList==(F77 (q102_1 all at') 3).toList) else false)=true=>have _:((F77 (q102_2 all i40) 0).toList==w3_.toList)=true:=(andT1 (andT1 k16)); have _:=(andT2 (andT1 k16)); have _:=(andT2 k16); (by omega:ib i40 all)) (kg77 (bif (bif ((F77 (q102_2 all i40) 0).toList==w3_.toList) then ((F77 (q102_2 all i40) 1).toList==(F77 (q102_1 all at') 1).toList) else false) then ((F77 (q102_2 all i40) 3).toList==(F77 (q102_1 all at') 3).toList) else false) true (q102_2 all i40) 4 (fun k17=>have _:((F77 (q102_2 all i40) 0).toList==w3_.toList)=true:=(andT1 (andT1 k17)); have _:=(andT2 (andT1 k17)); have _:=(andT2 k17); (by omega)) (kg77 (bif (bif ((F77 (q102_2 all i40) 0).toList==w3_.toList) then ((F77 (q102_2 all i40) 1).toList==(F77 (q102_1 all at') 1).toList) else false) then ((F77 (q102_2 all i40) 3).toList==(F77 (q102_1 all at') 3).toList) else false) true (q102_1 all at') 4 (fun k18=>have _:((F77 (q102_2 all i40) 0).toList==w3_.toList)=true:=(andT1 (andT1 k18)); have _:=(andT2 (andT1 k18)); have _:=(andT2 k18); (by omega)) (ifb (bif (bif (bif ((F77 (q102_2 all i40) 0).toList==w3_.toList) then ((F77 (q102_2 all i40) 1).toList==(F77 (q102_1 all at') 1).toList) else false) then ((F77 (q102_2 all i40) 3).toList==(F77 (q102_1 all at') 3).toList) else false) then ((F77 (q102_2 all i40) 4).toList==(F77 (q102_1 all at') 4).toList) else false) (fun h19=>have _:((F77 (q102_2 all i40) 0).toList==w3_.toList)=true:=(andT1 (andT1 (andT1 h19))); have _:=(andT2 (andT1 (andT1 h19))); have _:=(andT2 (andT1 h19)); have _:=(andT2 h19); fiB false (F102 all at' nat) (condF h7 (finR (runL_ret hI0 (condT h9 (condT h19 rfl))) rfl))) (fun h19=>ai (iok (i40+1) (by omega)) (bk102_0 all at' nat i0 m0 (i40+1) hl0 (runL_next hI0 (condT h9 (condF h19 rfl))) (by refine ⟨?_,?_⟩ <;> omega))))))))))))))) (fun h9 _=>have hD0_20:lX102_0 all at' nat=Lp.done i40:=runL_done hI0 (condF h9 rfl); fiB true (F102 all at' nat) (condF h7 (finD hD0_20 rfl)))) (i0.1-1) i0.2 (un102_0 all at' nat i0 hi0))))))))))))))) (by kernel_rfl)
theorem kc101a (all:List l52Cut) {K_:Prop} (k_:((idxI (fun c=>((F77 c 0).toList==w5_.toList)) all)<(all.length:Int))→K_):(True)∧(Imp (.l 1 el52Cut all) (.l 1 el52Cut all))∧K_:=⟨trivial,Imp.refl _,k_ (g101_0 all)⟩
abbrev kh101a (all:List l52Cut):Hint true Tryz.prog:=.call 101 (S101 (idxI (fun c=>((F77 c 0).toList==w5_.toList)) all) all) (oa101 all) none
theorem kg102 {K_:Prop} (c_ b_:Bool) (all:List l52Cut) (at':Int) (nat:l52Cut) (p_:c_=b_→0≤at'∧at'<(all.length:Int)∧(∀ j:Nat,(nat.w.getD j default).size≤1048576)∧(∀ k j:Nat,((all.getD k default).w.getD j default).size≤1048576)) (k_:K_):(c_=b_→0≤at'∧at'<(all.length:Int)∧(∀ j:Nat,(nat.w.getD j default).size≤1048576)∧(∀ k j:Nat,((all.getD k default).w.getD j default).size≤1048576))∧(c_=b_→Imp (.l 1 el52Cut all) (.l 1 el52Cut all))∧(c_=b_→Imp (.v (vI at')) (.v (vI at')))∧(c_=b_→Imps (el52Cut nat) (el52Cut nat))∧K_:=⟨p_,fun _=>Imp.refl _,fun _=>Imp.refl _,fun _=>Imps.refl _,k_⟩
abbrev kh102 (all:List l52Cut) (at':Int) (nat:l52Cut):Hint true Tryz.prog:=.call 102 (S102 all at' nat) (ok102 all at' nat) none
def F70_s0 (all:List l52Cut):(Int×Int)→Lp (Int×Int) Bool:=fun (doors,i40) =>
 bif (decide (i40<(all.length:Int))) then (bif (!((F77 (all.getD (Int.toNat i40) default) 0).toList==(⟨#[100,111,111,114]⟩:ByteArray).toList)) then (.next (doors,(i40+1))) else (bif (bif decide ((idxI (fun c=>((F77 c 0).toList==(⟨#[110,97,116]⟩:ByteArray).toList)) all)<0) then true else (!(F102 all i40 (all.getD (Int.toNat (idxI (fun c=>((F77 c 0).toList==(⟨#[110,97,116]⟩:ByteArray).toList)) all)) default)))) then (.ret false) else (.next ((doors+1),(i40+1))))) else (.done (doors,i40))
def F70 (all:List l52Cut):Bool :=
 (runL (F70_s0 all) ((Int.toNat ((all.length:Int)-0))+1) (0,0)).fin (fun r=>r) (fun (doors,i40)=>bif (decide ((idxI (fun c=>((F77 c 0).toList==(⟨#[110,97,116]⟩:ByteArray).toList)) all)<0)) then true else (bif (bif decide (doors≤6) then (bif decide ((F78 (F77 (all.getD (Int.toNat (idxI (fun c=>((F77 c 0).toList==(⟨#[110,97,116]⟩:ByteArray).toList)) all)) default) 2))<(F99 (F77 (all.getD (Int.toNat (idxI (fun c=>((F77 c 0).toList==(⟨#[110,97,116]⟩:ByteArray).toList)) all)) default) 1)).1) then true else decide ((F78 (F77 (all.getD (Int.toNat (idxI (fun c=>((F77 c 0).toList==(⟨#[110,97,116]⟩:ByteArray).toList)) all)) default) 2))≥(IntKind.i64.wrap ((F99 (F77 (all.getD (Int.toNat (idxI (fun c=>((F77 c 0).toList==(⟨#[110,97,116]⟩:ByteArray).toList)) all)) default) 1)).1+(F99 (F77 (all.getD (Int.toNat (idxI (fun c=>((F77 c 0).toList==(⟨#[110,97,116]⟩:ByteArray).toList)) all)) default) 1)).2)))) else false) then decide ((F79 (F77 (all.getD (Int.toNat (idxI (fun c=>((F77 c 0).toList==(⟨#[110,97,116]⟩:ByteArray).toList)) all)) default) 3))≤(F79 (F77 (all.getD (Int.toNat (idxI (fun c=>((F77 c 0).toList==(⟨#[110,97,116]⟩:ByteArray).toList)) all)) default) 4))) else false))
abbrev lN70_0 (all:List l52Cut):Nat×(Int×Int):=(((Int.toNat ((all.length:Int)-0))+1),(0,0))
abbrev lI70_0 (all:List l52Cut) (m39:Nat) (doors:Int) (i40:Int):Prop:=Int.toNat ((all.length:Int)-i40)<m39∧(0:Int)≤doors∧(doors:Int)≤i40∧(0:Int)≤doors∧(0:Int)≤i40
abbrev lX70_0 (all:List l52Cut):Lp (Int×Int) Bool:=LpX (F70_s0 all) (lN70_0 all)
abbrev lJ70_0 (all:List l52Cut) (i:Nat×(Int×Int)):Prop:=LpJ (F70_s0 all) (lN70_0 all) i (lI70_0 all i.1 i.2.1 i.2.2)
abbrev lH70_0 (all:List l52Cut) (i:Nat×(Int×Int)) (m39:Nat) (doors:Int) (i40:Int):Prop:=LpH (F70_s0 all) (lN70_0 all) i m39 (doors,i40) (lI70_0 all (m39+1) doors i40)
abbrev lE70_0 (all:List l52Cut) (doors:Int) (i40:Int) (doors_:Int) (i40_:Int) (K39:Prop):Prop:=(Rf (.int .i64 (idxI (fun c=>((F77 c 0).toList==w5_.toList)) all)))∧((.int .i64 doors:Value)=.int .i64 doors_)∧((.int .i64 i40:Value)=.int .i64 i40_)∧(Im (.l 1 el52Cut all))∧K39
theorem un70_0 (all:List l52Cut) (i:Nat×(Int×Int)) (h:lJ70_0 all i):lH70_0 all i (i.1-1) i.2.1 i.2.2:=⟨hd1 h.1 h.2.1,hd3 h.2.1,hd2 h.2.1,h.2.2⟩
theorem bk70_0 (all:List l52Cut) (i:Nat×(Int×Int)) (m39:Nat) (doors:Int) (i40:Int) (hl:m39<i.1) (e:runL (F70_s0 all) m39 (doors,i40)=lX70_0 all) (h:lI70_0 all m39 doors i40):∃ j:Nat×(Int×Int),lE70_0 all doors i40 j.2.1 j.2.2 (lJ70_0 all j∧j.1<i.1):=⟨(m39,(doors,i40)),rfl,rfl,rfl,Imp.refl _,⟨e,h⟩,hl⟩
theorem en70_0 (all:List l52Cut) (h:(0:Int)≤0∧(0:Int)≤0∧(0:Int)≤0∧(0:Int)≤0):lE70_0 all 0 0 0 0 (lJ70_0 all (lN70_0 all)):=⟨rfl,rfl,rfl,Imp.refl _,rfl,Nat.lt_succ_self _,h⟩
def S70 (all:List l52Cut):Spec:=⟨[.r (.c (.l 1 el52Cut all))],.v (.bool (F70 all)),(∀ k j:Nat,((all.getD k default).w.getD j default).size≤1048576)⟩
theorem ok70 (all:List l52Cut):(S70 all).ok Tryz.prog 70 :=
 fnG_ok mixed (fn:=Tryz.f70) (ct:=.seqk [(0,0)] .no (.seq (.reg [(1,kh101a all)]) (.seq .no (.seq (.seqk [(0,0)] .no (.blk (.loop (ι:=Nat×(Int×Int)) (fun i=>(fun (doors:Int) (i40:Int)=>(⟨[(0,some (.h 0 0)),(3,some (.v (vI (idxI (fun c=>((F77 c 0).toList==w5_.toList)) all)))),(4,some (.v (vI doors))),(5,some (.v (vI i40)))],[(0,some (.shr none (.l 1 el52Cut all)))],1⟩:St)) i.2.1 i.2.2) (lJ70_0 all) (fun i=>i.1) (lN70_0 all) (fun i=>(fun (doors:Int) (i40:Int)=>(.seq (.seq .no (.cond .no .no)) (.seq (.blk (.seq (.seq (.reg [(4,kh77 (all.getD (Int.toNat i40) default) 0)]) (.cond .no .no)) (.seq (.reg [(1,.bnd)]) (.seq (.reg [(9,kh102 all i40 (all.getD (Int.toNat (idxI (fun c=>((F77 c 0).toList==w5_.toList)) all)) default))]) (.cond (.seq .no .no) .no))))) (.reg [(1,.bnd)])))) i.2.1 i.2.2)))) (.seq (.seq .no (.cond (.seq .no .no) .no)) (.seq (.reg [(4,kh77 (all.getD (Int.toNat (idxI (fun c=>((F77 c 0).toList==w5_.toList)) all)) default) 1),(5,kh99 (F77 (all.getD (Int.toNat (idxI (fun c=>((F77 c 0).toList==w5_.toList)) all)) default) 1))]) (.seq (.reg [(4,kh77 (all.getD (Int.toNat (idxI (fun c=>((F77 c 0).toList==w5_.toList)) all)) default) 2),(5,kh78 (F77 (all.getD (Int.toNat (idxI (fun c=>((F77 c 0).toList==w5_.toList)) all)) default) 2))]) (.seq (.reg [(19,kh77 (all.getD (Int.toNat (idxI (fun c=>((F77 c 0).toList==w5_.toList)) all)) default) 3),(20,kh79 (F77 (all.getD (Int.toNat (idxI (fun c=>((F77 c 0).toList==w5_.toList)) all)) default) 3)),(25,kh77 (all.getD (Int.toNat (idxI (fun c=>((F77 c 0).toList==w5_.toList)) all)) default) 4),(26,kh79 (F77 (all.getD (Int.toNat (idxI (fun c=>((F77 c 0).toList==w5_.toList)) all)) default) 4))]) .no)))))))) Tryz.func70 (fun (hpre0:∀ k j:Nat,((all.getD k default).w.getD j default).size≤1048576)=>kn all fun _=>kc101a all (fun gv1=>kn all fun _=>ai (en70_0 all (by refine ⟨?_,?_,?_,?_⟩ <;> omega)) (fun (i0:Nat×(Int×Int)) (hi0:lJ70_0 all i0)=>(fun (m0:Nat) (doors:Int) (i40:Int) (hh0:lH70_0 all i0 m0 doors i40)=>have hI0:=hh0.1; have hl0:=hh0.2.1; have _:=hh0.2.2.1; have _:=hh0.2.2.2; ifd (i40<(all.length:Int)) (fun h3 _=>ai (by omega:ib i40 all) (kc77 (all.getD (Int.toNat i40) default) 0 (by omega) (ifb (!((F77 (all.getD (Int.toNat i40) default) 0).toList==w3_.toList)) (fun h4=>ai (iok (i40+1) (by omega)) (bk70_0 all i0 m0 doors (i40+1) hl0 (runL_next hI0 (condT h3 (condT h4 rfl))) (by refine ⟨?_,?_,?_,?_,?_⟩ <;> omega))) (fun h4=>ai (iok (doors+1) (by omega)) (ai (fun k5:(decide ((idxI (fun c=>((F77 c 0).toList==w5_.toList)) all)<0))=false=>have _:¬ (idxI (fun c=>((F77 c 0).toList==w5_.toList)) all)<0:=of_decide_eq_false k5; (by omega:ib (idxI (fun c=>((F77 c 0).toList==w5_.toList)) all) all)) (kg102 (decide ((idxI (fun c=>((F77 c 0).toList==w5_.toList)) all)<0)) false all i40 (all.getD (Int.toNat (idxI (fun c=>((F77 c 0).toList==w5_.toList)) all)) default) (fun k6=>have _:¬ (idxI (fun c=>((F77 c 0).toList==w5_.toList)) all)<0:=of_decide_eq_false k6; ⟨(by omega),(by omega),(by exact fun j=>(by assumption:∀ k j:Nat,((all.getD k default).w.getD j default).size≤1048576) _ j),(by omega)⟩) (ifb (bif decide ((idxI (fun c=>((F77 c 0).toList==w5_.toList)) all)<0) then true else (!(F102 all i40 (all.getD (Int.toNat (idxI (fun c=>((F77 c 0).toList==w5_.toList)) all)) default)))) (fun h7=>fiB false (F70 all) (finR (runL_ret hI0 (condT h3 (condF h4 (condT h7 rfl)))) rfl)) (fun h7=>have _:¬ (idxI (fun c=>((F77 c 0).toList==w5_.toList)) all)<0:=of_decide_eq_false (orF1 h7); ai (iok (i40+1) (by omega)) (bk70_0 all i0 m0 (doors+1) (i40+1) hl0 (runL_next hI0 (condT h3 (condF h4 (condF h7 rfl)))) (by refine ⟨?_,?_,?_,?_,?_⟩ <;> omega)))))))))) (fun h3 _=>have hD0_8:lX70_0 all=Lp.done (doors,i40):=runL_done hI0 (condF h3 rfl); ifd ((idxI (fun c=>((F77 c 0).toList==w5_.toList)) all)<0) (fun h9 _=>fiB true (F70 all) (finD hD0_8 (condT h9 rfl))) (fun h9 _=>ai (by omega:ib (idxI (fun c=>((F77 c 0).toList==w5_.toList)) all) all) (kc77 (all.getD (Int.toNat (idxI (fun c=>((F77 c 0).toList==w5_.toList)) all)) default) 1 (by omega) (kc99 (F77 (all.getD (Int.toNat (idxI (fun c=>((F77 c 0).toList==w5_.toList)) all)) default) 1) (by exact at_sz all (by assumption) _ _) (ai (by omega:ib (idxI (fun c=>((F77 c 0).toList==w5_.toList)) all) all) (kc77 (all.getD (Int.toNat (idxI (fun c=>((F77 c 0).toList==w5_.toList)) all)) default) 2 (by omega) (kc78 (F77 (all.getD (Int.toNat (idxI (fun c=>((F77 c 0).toList==w5_.toList)) all)) default) 2) (by exact at_sz all (by assumption) _ _) (ai (fun k10:(bif decide (doors≤6) then (bif decide ((F78 (F77 (all.getD (Int.toNat (idxI (fun c=>((F77 c 0).toList==w5_.toList)) all)) default) 2))<(F99 (F77 (all.getD (Int.toNat (idxI (fun c=>((F77 c 0).toList==w5_.toList)) all)) default) 1)).1) then true else decide ((F78 (F77 (all.getD (Int.toNat (idxI (fun c=>((F77 c 0).toList==w5_.toList)) all)) default) 2))≥(IntKind.i64.wrap ((F99 (F77 (all.getD (Int.toNat (idxI (fun c=>((F77 c 0).toList==w5_.toList)) all)) default) 1)).1+(F99 (F77 (all.getD (Int.toNat (idxI (fun c=>((F77 c 0).toList==w5_.toList)) all)) default) 1)).2)))) else false)=true=>have _:=of_decide_eq_true (andT1 k10); (by omega:ib (idxI (fun c=>((F77 c 0).toList==w5_.toList)) all) all)) (kg77 (bif decide (doors≤6) then (bif decide ((F78 (F77 (all.getD (Int.toNat (idxI (fun c=>((F77 c 0).toList==w5_.toList)) all)) default) 2))<(F99 (F77 (all.getD (Int.toNat (idxI (fun c=>((F77 c 0).toList==w5_.toList)) all)) default) 1)).1) then true else decide ((F78 (F77 (all.getD (Int.toNat (idxI (fun c=>((F77 c 0).toList==w5_.toList)) all)) default) 2))≥(IntKind.i64.wrap ((F99 (F77 (all.getD (Int.toNat (idxI (fun c=>((F77 c 0).toList==w5_.toList)) all)) default) 1)).1+(F99 (F77 (all.getD (Int.toNat (idxI (fun c=>((F77 c 0).toList==w5_.toList)) all)) default) 1)).2)))) else false) true (all.getD (Int.toNat (idxI (fun c=>((F77 c 0).toList==w5_.toList)) all)) default) 3 (fun k11=>have _:=of_decide_eq_true (andT1 k11); (by omega)) (kg79 (bif decide (doors≤6) then (bif decide ((F78 (F77 (all.getD (Int.toNat (idxI (fun c=>((F77 c 0).toList==w5_.toList)) all)) default) 2))<(F99 (F77 (all.getD (Int.toNat (idxI (fun c=>((F77 c 0).toList==w5_.toList)) all)) default) 1)).1) then true else decide ((F78 (F77 (all.getD (Int.toNat (idxI (fun c=>((F77 c 0).toList==w5_.toList)) all)) default) 2))≥(IntKind.i64.wrap ((F99 (F77 (all.getD (Int.toNat (idxI (fun c=>((F77 c 0).toList==w5_.toList)) all)) default) 1)).1+(F99 (F77 (all.getD (Int.toNat (idxI (fun c=>((F77 c 0).toList==w5_.toList)) all)) default) 1)).2)))) else false) true (F77 (all.getD (Int.toNat (idxI (fun c=>((F77 c 0).toList==w5_.toList)) all)) default) 3) (fun k12=>have _:=of_decide_eq_true (andT1 k12); (by exact at_sz all (by assumption) _ _)) (ai (fun k13:(bif decide (doors≤6) then (bif decide ((F78 (F77 (all.getD (Int.toNat (idxI (fun c=>((F77 c 0).toList==w5_.toList)) all)) default) 2))<(F99 (F77 (all.getD (Int.toNat (idxI (fun c=>((F77 c 0).toList==w5_.toList)) all)) default) 1)).1) then true else decide ((F78 (F77 (all.getD (Int.toNat (idxI (fun c=>((F77 c 0).toList==w5_.toList)) all)) default) 2))≥(IntKind.i64.wrap ((F99 (F77 (all.getD (Int.toNat (idxI (fun c=>((F77 c 0).toList==w5_.toList)) all)) default) 1)).1+(F99 (F77 (all.getD (Int.toNat (idxI (fun c=>((F77 c 0).toList==w5_.toList)) all)) default) 1)).2)))) else false)=true=>have _:=of_decide_eq_true (andT1 k13); (by omega:ib (idxI (fun c=>((F77 c 0).toList==w5_.toList)) all) all)) (kg77 (bif decide (doors≤6) then (bif decide ((F78 (F77 (all.getD (Int.toNat (idxI (fun c=>((F77 c 0).toList==w5_.toList)) all)) default) 2))<(F99 (F77 (all.getD (Int.toNat (idxI (fun c=>((F77 c 0).toList==w5_.toList)) all)) default) 1)).1) then true else decide ((F78 (F77 (all.getD (Int.toNat (idxI (fun c=>((F77 c 0).toList==w5_.toList)) all)) default) 2))≥(IntKind.i64.wrap ((F99 (F77 (all.getD (Int.toNat (idxI (fun c=>((F77 c 0).toList==w5_.toList)) all)) default) 1)).1+(F99 (F77 (all.getD (Int.toNat (idxI (fun c=>((F77 c 0).toList==w5_.toList)) all)) default) 1)).2)))) else false) true (all.getD (Int.toNat (idxI (fun c=>((F77 c 0).toList==w5_.toList)) all)) default) 4 (fun k14=>have _:=of_decide_eq_true (andT1 k14); (by omega)) (kg79 (bif decide (doors≤6) then (bif decide ((F78 (F77 (all.getD (Int.toNat (idxI (fun c=>((F77 c 0).toList==w5_.toList)) all)) default) 2))<(F99 (F77 (all.getD (Int.toNat (idxI (fun c=>((F77 c 0).toList==w5_.toList)) all)) default) 1)).1) then true else decide ((F78 (F77 (all.getD (Int.toNat (idxI (fun c=>((F77 c 0).toList==w5_.toList)) all)) default) 2))≥(IntKind.i64.wrap ((F99 (F77 (all.getD (Int.toNat (idxI (fun c=>((F77 c 0).toList==w5_.toList)) all)) default) 1)).1+(F99 (F77 (all.getD (Int.toNat (idxI (fun c=>((F77 c 0).toList==w5_.toList)) all)) default) 1)).2)))) else false) true (F77 (all.getD (Int.toNat (idxI (fun c=>((F77 c 0).toList==w5_.toList)) all)) default) 4) (fun k15=>have _:=of_decide_eq_true (andT1 k15); (by exact at_sz all (by assumption) _ _)) (fiB (bif (bif decide (doors≤6) then (bif decide ((F78 (F77 (all.getD (Int.toNat (idxI (fun c=>((F77 c 0).toList==w5_.toList)) all)) default) 2))<(F99 (F77 (all.getD (Int.toNat (idxI (fun c=>((F77 c 0).toList==w5_.toList)) all)) default) 1)).1) then true else decide ((F78 (F77 (all.getD (Int.toNat (idxI (fun c=>((F77 c 0).toList==w5_.toList)) all)) default) 2))≥(IntKind.i64.wrap ((F99 (F77 (all.getD (Int.toNat (idxI (fun c=>((F77 c 0).toList==w5_.toList)) all)) default) 1)).1+(F99 (F77 (all.getD (Int.toNat (idxI (fun c=>((F77 c 0).toList==w5_.toList)) all)) default) 1)).2)))) else false) then decide ((F79 (F77 (all.getD (Int.toNat (idxI (fun c=>((F77 c 0).toList==w5_.toList)) all)) default) 3))≤(F79 (F77 (all.getD (Int.toNat (idxI (fun c=>((F77 c 0).toList==w5_.toList)) all)) default) 4))) else false) (F70 all) (finD hD0_8 (condF h9 rfl))))))))))))))))) (i0.1-1) i0.2.1 i0.2.2 (un70_0 all i0 hi0)))) (by kernel_rfl)
theorem getD_mapG {α β:Type} [Inhabited α] [Inhabited β] (f:α→β) (ls:List α) (i:Nat) (h:i<ls.length):(ls.map f).getD i default=f (ls.getD i default):=by
 rw [getD_lt _ (by simpa using h),getD_lt _ h,List.getElem_map]
def wsL (lines:List ByteArray):List (List ByteArray):=lines.map fun l=>(F97 l).1
def hdB (w:List ByteArray) (l:List UInt8):Bool:=(w.getD 0 default).data.toList==l
def hUser:List UInt8:=[117,115,101,114]
def hPort:List UInt8:=[112,111,114,116]
def hRule:List UInt8:=[114,117,108,101]
def hRoute:List UInt8:=[114,111,117,116,101]
def hPeer:List UInt8:=[112,101,101,114]
def hNat:List UInt8:=[110,97,116]
def hDoor:List UInt8:=[100,111,111,114]
theorem linesL_ws (lines:List ByteArray) (h:F64 lines=0) (word:ByteArray):linesL lines word=(wsL lines).filter fun w=>hdB w word.data.toList:=by
 unfold linesL wsL
 have e:(lines.map fun l=>splitS l (⟨#[32]⟩:ByteArray))=lines.map fun l=>(F97 l).1:=List.map_congr_left fun l hl=>kept_split l ((nt_facts lines h).2 l hl)
 rw [e]; rfl
theorem ws_form (lines:List ByteArray) (h:F64 lines=0):∀ w∈wsL lines,FormP w:=fun w hw=>by
 obtain ⟨l,hl,rfl⟩:=List.mem_map.1 hw
 exact (keptP l ((nt_facts lines h).2 l hl)).form
theorem ws_no (lines:List ByteArray):∀ w∈wsL lines,∀ x∈w,(32:UInt8) ∉ x.data.toList∧x.data.toList≠[]∧x.size≤24:=fun w hw=>by
 obtain ⟨l,hl,rfl⟩:=List.mem_map.1 hw
 exact word_no l
theorem cuts_ws (lines:List ByteArray):(lines.map (fun l=>(⟨(F97 l).1⟩:l52Cut)))=(wsL lines).map l52Cut.mk:=by
 unfold wsL
 rw [List.map_map]; rfl
theorem at_n (c:l52Cut) (k:Nat):F77 c (k:Int)=c.w.getD k default:=by
 unfold F77
 by_cases h:k<c.w.length
 ·rw [ltD h,cond_true,nn]
 ·rw [decide_eq_false (by omega),cond_false,getD_ge _ (by omega)]; rfl
theorem at0 (c:l52Cut):F77 c 0=c.w.getD 0 default:=at_n c 0
theorem at1 (c:l52Cut):F77 c 1=c.w.getD 1 default:=at_n c 1
theorem at2 (c:l52Cut):F77 c 2=c.w.getD 2 default:=at_n c 2
theorem at3 (c:l52Cut):F77 c 3=c.w.getD 3 default:=at_n c 3
theorem at4 (c:l52Cut):F77 c 4=c.w.getD 4 default:=at_n c 4
theorem any_cuts (ws:List (List ByteArray)) (p:l52Cut→Bool):(ws.map l52Cut.mk).any p=ws.any fun w=>p ⟨w⟩:=by rw [List.any_map]; rfl
theorem any_congr_mem {α:Type} {p q:α→Bool}:∀ {xs:List α},(∀ x∈xs,p x=q x)→xs.any p=xs.any q
 | [],_=>rfl
 | x :: xs,h=>by rw [List.any_cons,List.any_cons,h x List.mem_cons_self,any_congr_mem fun y hy=>h y (List.mem_cons_of_mem _ hy)]
theorem root_eq (all:List l52Cut):F66 all=all.any fun c=>hdB c.w hUser&&((c.w.getD 2 default).data.toList==[97,108,108]):=by
 unfold F66
 have:=anyL all (fun c=>hdB c.w hUser&&((c.w.getD 2 default).data.toList==[97,108,108])) true (F66_s0 all) (fun i hi=>by
  simp only [F66_s0,ltD hi,cond_true,nn,at0,at2,blit,cb1]
  rfl) (by simp only [F66_s0,geD,cond_false]) (fun r=>r) (fun i40=>false) false (fun _=>rfl)
 refine this.trans ?_
 cases (all.any fun c=>hdB c.w hUser&&((c.w.getD 2 default).data.toList==[97,108,108])) <;> rfl
theorem noRuler_same (lines:List ByteArray) (h:F64 lines=0):F162 lines=!F66 ((wsL lines).map l52Cut.mk):=by
 unfold F162
 rw [root_eq,any_cuts,linesL_ws lines h,List.any_filter]
 congr 1
 refine any_congr_mem fun w _=>?_
 unfold F191
 rw [blit]; rfl
def nRules (ws:List (List ByteArray)) (name:List UInt8):Nat:=(ws.filter fun w=>hdB w hRule&&((w.getD 1 default).data.toList==name)).length
theorem rulesOf_eq (lines:List ByteArray) (h:F64 lines=0) (name:ByteArray):F192 lines name=(nRules (wsL lines) name.data.toList:Int):=by
 unfold F192
 have:=fold_loop0 (linesL lines (⟨#[114,117,108,101]⟩:ByteArray)) (fun (n:Int) w=>bif ((w.getD 1 default).data.toList==name.data.toList) then n+1 else n) (fun n i=>(n,i)) (F192_s0 lines name) (fun i s hi=>by
  simp only [F192_s0,ltD hi,cond_true,nn,byteToList]
  show (bif (((linesL lines (⟨#[114,117,108,101]⟩:ByteArray)).getD i default).getD 1 default).data.toList==name.data.toList then _ else _)=_
  cases ((((linesL lines (⟨#[114,117,108,101]⟩:ByteArray)).getD i default).getD 1 default).data.toList==name.data.toList) <;> rfl) (fun s=>by simp only [F192_s0,geD,cond_false]) (fun r=>r) (fun (n,v11)=>n) 0
 refine this.trans ?_
 show (linesL lines (⟨#[114,117,108,101]⟩:ByteArray)).foldl _ (0:Int)=_
 rw [foldl_count (fun w:List ByteArray=>((w.getD 1 default).data.toList==name.data.toList)),linesL_ws lines h,List.filter_filter,Int.zero_add]
 unfold nRules
 rw [show (fun a:List ByteArray=>((a.getD 1 default).data.toList==name.data.toList&&hdB a (⟨#[114,117,108,101]⟩:ByteArray).data.toList))=fun w=>hdB w hRule&&((w.getD 1 default).data.toList==name.data.toList) from funext fun w=>Bool.and_comm _ _]
theorem list_eq' (all:List l52Cut) (name:ByteArray):F98 all name=((all.filter fun c=>hdB c.w hRule&&((c.w.getD 1 default).data.toList==name.data.toList)).length:Int):=by
 unfold F98
 have:=fold_loop0 all (fun (n:Int) c=>bif (hdB c.w hRule&&((c.w.getD 1 default).data.toList==name.data.toList)) then n+1 else n) (fun n i=>(n,i)) (F98_s0 all name) (fun i s hi=>by
  simp only [F98_s0,ltD hi,cond_true,nn,at0,at1,blit,cb1]
  rw [byteToList,byteToList]
  show (bif (hdB (all.getD i default).w hRule&&(((all.getD i default).w.getD 1 default).data.toList==name.data.toList)) then _ else _)=_
  cases (hdB (all.getD i default).w hRule&&(((all.getD i default).w.getD 1 default).data.toList==name.data.toList)) <;> rfl) (fun s=>by simp only [F98_s0,geD,cond_false]) (fun r=>r) (fun (n,i40)=>n) 0
 refine this.trans ?_
 show all.foldl _ (0:Int)=_
 rw [foldl_count (fun c:l52Cut=>hdB c.w hRule&&((c.w.getD 1 default).data.toList==name.data.toList)),Int.zero_add]
theorem list_ws (ws:List (List ByteArray)) (name:ByteArray):F98 (ws.map l52Cut.mk) name=(nRules ws name.data.toList:Int):=by
 rw [list_eq',List.filter_map,List.length_map]; rfl
theorem lists_eq (all:List l52Cut):F67 all=!all.any fun c=>(hdB c.w hPort&&(!((c.w.getD 4 default).data.toList==[])&&((F98 all (c.w.getD 4 default))==0))) || (hdB c.w hRule&&decide (F98 all (c.w.getD 1 default)>12)):=by
 unfold F67
 have:=anyL all (fun c=>(hdB c.w hPort&&(!((c.w.getD 4 default).data.toList==[])&&((F98 all (c.w.getD 4 default))==0))) || (hdB c.w hRule&&decide (F98 all (c.w.getD 1 default)>12))) false (F67_s0 all) (fun i hi=>by
  simp only [F67_s0,ltD hi,cond_true,nn,at0,at1,at4,blit,cb1,Bool.and_assoc]
  show (bif (hdB (all.getD i default).w hPort&&(!(((all.getD i default).w.getD 4 default).data.toList==[])&&(F98 all ((all.getD i default).w.getD 4 default)==0))) then _ else (bif (hdB (all.getD i default).w hRule&&_) then _ else _))=_
  cases (hdB (all.getD i default).w hPort&&(!(((all.getD i default).w.getD 4 default).data.toList==[])&&(F98 all ((all.getD i default).w.getD 4 default)==0))) <;> cases (hdB (all.getD i default).w hRule&&decide (F98 all ((all.getD i default).w.getD 1 default)>12)) <;> rfl) (by simp only [F67_s0,geD,cond_false]) (fun r=>r) (fun i40=>true) true (fun _=>rfl)
 refine this.trans ?_
 cases all.any _ <;> rfl
theorem any_or {α:Type} (p q:α→Bool):∀ xs:List α,xs.any (fun x=>p x || q x)=(xs.any p || xs.any q)
 | []=>rfl
 | x :: xs=>by
  simp only [List.any_cons,any_or p q xs]
  cases p x <;> cases q x <;> simp
theorem port_five {w:List ByteArray} (h:portP w) (hn:∀ x∈w,x.data.toList≠[]):decide ((w.length:Int)>4)=!((w.getD 4 default).data.toList==[]):=by
 by_cases hl:4<w.length
 ·rw [decide_eq_true (by omega)]
  have:=hn _ (getD_mem w hl)
  rw [beq_eq_false_iff_ne.2 this]; rfl
 ·rw [decide_eq_false (by omega),getD_ge w (by omega)]; rfl
theorem listsWrong_same (lines:List ByteArray) (h:F64 lines=0):F163 lines=!F67 ((wsL lines).map l52Cut.mk):=by
 rw [lists_eq,Bool.not_not,any_cuts,any_or]
 unfold F163
 have:=anyL (linesL lines (⟨#[112,111,114,116]⟩:ByteArray)) (fun w=>decide ((w.length:Int)>4)&&(F192 lines (w.getD 4 default)==0)) true (F163_s0 lines) (fun i hi=>by
  simp only [F163_s0,ltD hi,cond_true,nn,cb1]; rfl) (by simp only [F163_s0,geD,cond_false]) (fun r=>r) (fun v8=>(linesL lines (⟨#[114,117,108,101]⟩:ByteArray)).any (fun (x0:List ByteArray)=>F193 x0 lines)) _ (fun _=>rfl)
 refine this.trans ?_
 rw [linesL_ws lines h,linesL_ws lines h,List.any_filter,List.any_filter,cb2]
 congr 1
 ·refine any_congr_mem fun w hw=>?_
  have e4:F98 ((wsL lines).map l52Cut.mk) (w.getD 4 default)=F192 lines (w.getD 4 default):=by rw [list_ws,rulesOf_eq lines h]
  rw [e4]
  cases hp:hdB w hPort with
  | false =>
   have hp':hdB w (⟨#[112,111,114,116]⟩:ByteArray).data.toList=false:=hp
   rw [hp',Bool.false_and,Bool.false_and]
  | true =>
   have hp':hdB w (⟨#[112,111,114,116]⟩:ByteArray).data.toList=true:=hp
   have hpp:=port_of (ws_form lines h w hw) (eq_of_beq hp)
   rw [hp',port_five hpp fun x hx=>(ws_no lines w hw x hx).2.1]
 ·refine any_congr_mem fun w hw=>?_
  have e1:F98 ((wsL lines).map l52Cut.mk) (w.getD 1 default)=F192 lines (w.getD 1 default):=by rw [list_ws,rulesOf_eq lines h]
  show (hdB w hRule&&_)=(hdB w hRule&&_)
  rw [e1]; rfl
def pairR {α:Type} (ov:α→α→Bool):List α→List α→Bool
 | _,[]=>false
 | seen,x :: r=>seen.any (ov x) || pairR ov (seen++[x]) r
theorem pair_loop {α:Type} [Inhabited α] (ov:α→α→Bool) (xs:List α):∀ (m i:Nat),i+m=xs.length→anyF (fun i=>(xs.take i).any (ov (xs.getD i default))) i m=pairR ov (xs.take i) (xs.drop i)
 | 0,i,h=>by rw [List.drop_of_length_le (by omega)]; rfl
 | m+1,i,h=>by
  have hd:xs.drop i=xs.getD i default :: xs.drop (i+1):=by
   rw [List.drop_eq_getElem_cons (show i<xs.length by omega),List.getD_eq_getElem?_getD,List.getElem?_eq_getElem (show i<xs.length by omega)]; rfl
  rw [hd,pairR,anyF,pair_loop ov xs m (i+1) (by omega),take_next (show i<xs.length by omega)]
theorem pair_filter {α:Type} (P:α→Bool) (ov:α→α→Bool):∀ (xs seen:List α),pairR (fun x y=>P x&&(P y&&ov x y)) seen xs=pairR ov (seen.filter P) (xs.filter P)
 | [],seen=>rfl
 | x :: xs,seen=>by
  rw [pairR,pair_filter P ov xs]
  cases h:P x with
  | true =>
   rw [List.filter_cons_of_pos h,pairR,List.filter_append,List.any_filter]
   simp only [Bool.true_and,List.filter_cons_of_pos h,List.filter_nil]
  | false =>
   rw [List.filter_cons_of_neg (by simp [h]),List.filter_append,List.filter_cons_of_neg (by simp [h]),List.filter_nil,List.append_nil]
   simp only [Bool.false_and]
   rw [show seen.any (fun _=>false)=false by simp,Bool.false_or]
theorem pair_map {α γ:Type} (f:α→γ) (ov:γ→γ→Bool):∀ (xs seen:List α),pairR ov (seen.map f) (xs.map f)=pairR (fun x y=>ov (f x) (f y)) seen xs
 | [],_=>rfl
 | x :: xs,seen=>by
  rw [List.map_cons,pairR,pairR,← pair_map f ov xs,List.map_append,List.any_map]; rfl
theorem pair_congr {α:Type} {ov ov':α→α→Bool} {Q:α→Prop} (h:∀ x y,Q x→Q y→ov x y=ov' x y):∀ (xs seen:List α),(∀ x∈xs,Q x)→(∀ x∈seen,Q x)→pairR ov seen xs=pairR ov' seen xs
 | [],_,_,_=>rfl
 | x :: xs,seen,h1,h2=>by
  have hx:=h1 x List.mem_cons_self
  rw [pairR,pairR,any_congr_mem (fun y hy=>h x y hx (h2 y hy)),pair_congr h xs (seen++[x]) (fun y hy=>h1 y (List.mem_cons_of_mem _ hy)) (fun y hy=>by
   rcases List.mem_append.1 hy with hy | hy
   ·exact h2 y hy
   ·rw [List.mem_singleton.1 hy]; exact hx)]
theorem anyF_take {α:Type} [Inhabited α] (xs:List α) (p:α→Bool) (i:Nat) (h:i≤xs.length):anyF (fun k=>p (xs.getD k default)) 0 i=(xs.take i).any p:=by
 have hl:(xs.take i).length=i:=by rw [List.length_take]; omega
 have h1:=anyF_dropG (xs.take i) p i 0 (by omega)
 rw [List.drop_zero] at h1
 rw [← h1]
 have:∀ (m k:Nat),k+m=i→anyF (fun k=>p (xs.getD k default)) k m=anyF (fun k=>p ((xs.take i).getD k default)) k m:=by
  intro m
  induction m with
  | zero=>intro k _; rfl
  | succ m ih =>
   intro k hk
   rw [anyF,anyF,ih (k+1) (by omega)]
   congr 2
   rw [List.getD_eq_getElem?_getD,List.getD_eq_getElem?_getD,List.getElem?_take,if_pos (by omega)]
 exact this i 0 (by omega)
theorem size_pow (L:Int) (h0:0≤L) (h1:L≤16):F151 L=((2 ^ (16-L.toNat):Nat):Int):=by
 have h3:L=0∨L=1∨L=2∨L=3∨L=4∨L=5∨L=6∨L=7∨L=8∨L=9∨L=10∨L=11∨L=12∨L=13∨L=14∨L=15∨L=16:=by omega
 rcases h3 with rfl | rfl | rfl | rfl | rfl | rfl | rfl | rfl | rfl | rfl | rfl | rfl | rfl | rfl | rfl | rfl | rfl <;> exact of_decide_eq_true rfl
theorem has_eq (a L x:Int) (ha:0≤a∧a≤65535) (hL:0≤L∧L≤16):F199 (⟨a,L⟩:NetPrefix) x=decide (a≤x∧x<a+F151 L):=by
 unfold F199 F222
 have hs:=g151_0 L hL.1 hL.2
 have e:F168 (⟨a,L⟩:NetPrefix)=F151 L:=size_same a L hL.1 hL.2
 rw [e]
 simp only
 have w1:IntKind.i64.wrap (a+F151 L)=a+F151 L:=wrap_of (by omega) (by omega)
 have w2:IntKind.i64.wrap (a+F151 L-1)=a+F151 L-1:=wrap_of (by omega) (by omega)
 rw [w1,w2]
 exact decide_eq_decide.2 (by omega)
theorem ov_arith (a b n m c:Int) (hm:1≤m) (hn:n=m*c) (ha:n ∣ a) (hb:m ∣ b) (h:a<b+m):a≤b:=by
 obtain ⟨x,rfl⟩:=ha
 obtain ⟨y,rfl⟩:=hb
 subst hn
 have h1:m*(c*x)<m*(y+1):=by rw [Int.mul_add,Int.mul_one,← Int.mul_assoc]; exact h
 have h2:c*x<y+1:=Int.lt_of_mul_lt_mul_left h1 (by omega)
 rw [Int.mul_assoc]
 exact Int.mul_le_mul_of_nonneg_left (by omega) (by omega)
theorem size_mul (L M:Int) (h:0≤L∧L≤M∧M≤16):∃ c:Int,F151 L=F151 M*c:=by
 rw [size_pow L h.1 (by omega),size_pow M (by omega) h.2.2]
 refine ⟨((2 ^ (M.toNat-L.toNat):Nat):Int),?_⟩
 rw [← Int.natCast_mul,← Nat.pow_add]
 congr 2
 omega
theorem pfxL_dvd {l:List UInt8} {a n:Int} (h:pfxL l=some (a,n)):F151 n ∣ a∧0≤a∧a≤65535∧0≤n∧n≤16:=by
 have hb:=pfx2_nn h
 refine ⟨?_,hb⟩
 unfold pfxL at h
 match hs:splitL 47 l,h with
 | [x,y],h =>
  rw [pfx2] at h
  cases hc:decide (0≤addrL x)&&(in16 (num6 y)&&((addrL x).tmod (F151 (num6 y))==0)) with
  | false=>rw [hc] at h; cases h
  | true =>
   rw [hc] at h
   simp only [cond_true,Option.some.injEq,Prod.mk.injEq] at h
   obtain ⟨rfl,rfl⟩:=h
   simp only [Bool.and_eq_true,beq_iff_eq] at hc
   exact Int.dvd_of_tmod_eq_zero hc.2.2
 | [],h=>cases h
 | [x],h=>cases h
 | x :: y :: z :: r,h=>cases h
theorem pfx_both (s:ByteArray) (h:F252 s=true):∃ a L:Int,F83 s=((⟨a,L⟩:NetPrefix),true)∧F99 s=(a,F151 L)∧F151 L ∣ a∧(0≤a∧a≤65535)∧(0≤L∧L≤16)∧1≤F151 L∧F151 L≤65536:=by
 rw [specIsPfx_eq] at h
 cases hp:pfxL s.data.toList with
 | none=>rw [hp] at h; cases h
 | some q =>
  obtain ⟨a,L⟩:=q
  have hd:=pfxL_dvd hp
  have hs:=g151_0 L hd.2.2.2.1 hd.2.2.2.2
  exact ⟨a,L,by rw [implPfx_eq,hp],by rw [specPfx_eq,hp],hd.1,⟨hd.2.1,hd.2.2.1⟩,hd.2.2.2,hs⟩
def ovI (x y:ByteArray):Bool:=F195 (F83 x).1 (F83 y).1 || F195 (F83 y).1 (F83 x).1
def ovS (x y:ByteArray):Bool:=decide ((F99 x).1<IntKind.i64.wrap ((F99 y).1+(F99 y).2))&&decide ((F99 y).1<IntKind.i64.wrap ((F99 x).1+(F99 x).2))
theorem ov_same (x y:ByteArray) (hx:F252 x=true) (hy:F252 y=true):ovI x y=ovS x y:=by
 obtain ⟨a,L,e1,e2,d1,b1,c1,s1⟩:=pfx_both x hx
 obtain ⟨b,M,f1,f2,d2,b2,c2,s2⟩:=pfx_both y hy
 unfold ovI ovS F195
 rw [e1,e2,f1,f2]
 simp only [has_eq _ _ _ b1 c1,has_eq _ _ _ b2 c2,cb1]
 rw [wrap_of (by omega) (by omega),wrap_of (by omega) (by omega),← Bool.decide_and,← Bool.decide_and,← Bool.decide_and,← Bool.decide_or]
 refine decide_eq_decide.2 ⟨fun h=>?_,fun h=>?_⟩
 ·rcases h with h | h <;> omega
 ·rcases Int.le_total L M with hl | hl
  ·obtain ⟨c,hc⟩:=size_mul L M ⟨c1.1,hl,c2.2⟩
   exact .inr ⟨hl,ov_arith a b _ _ c s2.1 hc d1 d2 h.1,h.2⟩
  ·obtain ⟨c,hc⟩:=size_mul M L ⟨c2.1,hl,c1.2⟩
   exact .inl ⟨hl,ov_arith b a _ _ c s1.1 hc d2 d1 h.2,h.1⟩
theorem overlap_eq (lines:List ByteArray):F164 lines=pairR (fun p q=>F195 p q || F195 q p) [] (portsL lines):=by
 unfold F164
 have:=any_loop (F164_s0 lines) (portsL lines).length (fun i=>((portsL lines).take i).any (fun q=>F195 ((portsL lines).getD i default) q || F195 q ((portsL lines).getD i default))) true (fun r=>r) false (fun i hi=>by
  simp only [F164_s0,ltD hi,cond_true,nn]
  exact anyL ((portsL lines).take i) (fun q=>F195 ((portsL lines).getD i default) q || F195 q ((portsL lines).getD i default)) true (F164_s1 lines (i:Int)) (fun j hj=>by
   simp only [F164_s1,nn,ltD hj,cond_true,cb2]; rfl) (by simp only [F164_s1,nn,geD,cond_false]) Lp.ret _ _ (fun _=>rfl)) (by simp only [F164_s0,geD,cond_false]) (portsL lines).length 0 (by omega) (Int.toNat (((portsL lines).length:Int)-0)+1) (by omega)
 rw [pair_loop (fun p q=>F195 p q || F195 q p) (portsL lines) (portsL lines).length 0 (by omega),List.take_zero,List.drop_zero] at this
 refine Eq.trans this ?_
 cases pairR (fun p q=>F195 p q || F195 q p) [] (portsL lines) <;> rfl
theorem apart_eq (all:List l52Cut):F68 all=!pairR (fun c e=>hdB c.w hPort&&(hdB e.w hPort&&ovS (c.w.getD 2 default) (e.w.getD 2 default))) [] all:=by
 unfold F68
 have:=any_loop (F68_s0 all) all.length (fun i=>(all.take i).any (fun e=>hdB (all.getD i default).w hPort&&(hdB e.w hPort&&ovS ((all.getD i default).w.getD 2 default) (e.w.getD 2 default)))) false (fun r=>r) true (fun i hi=>by
  simp only [F68_s0,ltD hi,cond_true]
  have h1:=any_loop (F68_s1 all (i:Int)) i (fun k=>hdB (all.getD i default).w hPort&&(hdB (all.getD k default).w hPort&&ovS ((all.getD i default).w.getD 2 default) ((all.getD k default).w.getD 2 default))) false (Lp.ret:Bool→Lp Int Bool) (.next ((i+1:Nat):Int)) (fun k hk=>by
   simp only [F68_s1,ltD hk,cond_true,nn,at0,at2,blit,cb1,cb2]
   show (bif (!(hdB (all.getD i default).w hPort) || !(hdB (all.getD k default).w hPort)) then _ else (bif ovS ((all.getD i default).w.getD 2 default) ((all.getD k default).w.getD 2 default) then _ else _))=_
   cases hdB (all.getD i default).w hPort <;> cases hdB (all.getD k default).w hPort <;> cases ovS ((all.getD i default).w.getD 2 default) ((all.getD k default).w.getD 2 default) <;> rfl) (by
   simp only [F68_s1,decide_eq_false (show ¬ (i:Int)<(i:Int) by omega),cond_false]) i 0 (by omega) (Int.toNat ((i:Int)-0)+1) (by omega)
  rw [anyF_take all (fun e=>hdB (all.getD i default).w hPort&&(hdB e.w hPort&&ovS ((all.getD i default).w.getD 2 default) (e.w.getD 2 default))) i (by omega)] at h1
  exact h1) (by simp only [F68_s0,geD,cond_false]) all.length 0 (by omega) (Int.toNat ((all.length:Int)-0)+1) (by omega)
 rw [pair_loop (fun c e=>hdB c.w hPort&&(hdB e.w hPort&&ovS (c.w.getD 2 default) (e.w.getD 2 default))) all all.length 0 (by omega),List.take_zero,List.drop_zero] at this
 refine Eq.trans this ?_
 cases pairR (fun (c e:l52Cut)=>hdB c.w hPort&&(hdB e.w hPort&&ovS (c.w.getD 2 default) (e.w.getD 2 default))) [] all <;> rfl
theorem overlap_same (lines:List ByteArray) (h:F64 lines=0):F164 lines=!F68 ((wsL lines).map l52Cut.mk):=by
 rw [apart_eq,Bool.not_not,overlap_eq]
 have e1:=pair_map l52Cut.mk (fun (c e:l52Cut)=>hdB c.w hPort&&(hdB e.w hPort&&ovS (c.w.getD 2 default) (e.w.getD 2 default))) (wsL lines) []
 rw [List.map_nil] at e1
 rw [e1]
 have e2:=pair_filter (fun w:List ByteArray=>hdB w hPort) (fun w v=>ovS (w.getD 2 default) (v.getD 2 default)) (wsL lines) []
 refine Eq.trans ?_ e2.symm
 have e3:=pair_map (fun w:List ByteArray=>(F83 (w.getD 2 default)).1) (fun p q=>F195 p q || F195 q p) (linesL lines (⟨#[112,111,114,116]⟩:ByteArray)) []
 rw [List.map_nil] at e3
 have e4:portsL lines=(linesL lines (⟨#[112,111,114,116]⟩:ByteArray)).map (fun w:List ByteArray=>(F83 (w.getD 2 default)).1):=rfl
 rw [e4,e3,linesL_ws lines h]
 refine pair_congr (Q:=fun w=>portP w) (fun w v hw hv=>ov_same _ _ (by unfold portP at hw; exact hw.2.2.2.2) (by unfold portP at hv; exact hv.2.2.2.2)) _ [] (fun w hw=>?_) (fun w hw=>by cases hw)
 obtain ⟨h1,h2⟩:=List.mem_filter.1 hw
 exact port_of (ws_form lines h w h1) (eq_of_beq h2)
def nearW (w:List ByteArray) (addr:Int):Bool:=hdB w hPort&&(decide (addr>(F99 (w.getD 2 default)).1)&&decide (addr<IntKind.i64.wrap ((F99 (w.getD 2 default)).1+(F99 (w.getD 2 default)).2)))
theorem near_eq (all:List l52Cut) (addr:Int):F100 all addr=all.any fun c=>nearW c.w addr:=by
 unfold F100
 have:=anyL all (fun c=>nearW c.w addr) true (F100_s0 all addr) (fun i hi=>by
  simp only [F100_s0,ltD hi,cond_true,nn,at0,at2,blit,cb1]
  show (bif hdB (all.getD i default).w hPort then (bif _ then _ else _) else _)=bif (hdB (all.getD i default).w hPort&&_) then _ else _
  cases hdB (all.getD i default).w hPort <;> rfl) (by simp only [F100_s0,geD,cond_false]) (fun r=>r) (fun i40=>false) false (fun _=>rfl)
 refine this.trans ?_
 cases all.any (fun c=>nearW c.w addr) <;> rfl
theorem nears_eq (all:List l52Cut):F69 all=!all.any fun c=>(hdB c.w hRoute&&!F100 all (F78 (c.w.getD 2 default))) || (hdB c.w hPeer&&!F100 all (F78 (c.w.getD 1 default))):=by
 unfold F69
 have:=anyL all (fun c=>(hdB c.w hRoute&&!F100 all (F78 (c.w.getD 2 default))) || (hdB c.w hPeer&&!F100 all (F78 (c.w.getD 1 default)))) false (F69_s0 all) (fun i hi=>by
  simp only [F69_s0,ltD hi,cond_true,nn,at0,at1,at2,blit]
  show (bif hdB (all.getD i default).w hRoute then (bif !F100 all (F78 ((all.getD i default).w.getD 2 default)) then _ else _) else (bif hdB (all.getD i default).w hPeer then (bif !F100 all (F78 ((all.getD i default).w.getD 1 default)) then _ else _) else _))=_
  cases hr:hdB (all.getD i default).w hRoute with
  | true =>
   have hp:hdB (all.getD i default).w hPeer=false:=by
    rw [hdB,beq_iff_eq] at hr
    rw [hdB,hr]; decide
   rw [hp]
   cases (!F100 all (F78 ((all.getD i default).w.getD 2 default))) <;> rfl
  | false=>cases hdB (all.getD i default).w hPeer <;> cases (!F100 all (F78 ((all.getD i default).w.getD 1 default))) <;> rfl) (by simp only [F69_s0,geD,cond_false]) (fun r=>r) (fun i40=>true) true (fun _=>rfl)
 refine this.trans ?_
 cases all.any _ <;> rfl
theorem nextsWrong_eq (lines:List ByteArray):F165 lines=(((linesL lines (⟨#[114,111,117,116,101]⟩:ByteArray)).map fun w=>w.getD 2 default)++((linesL lines (⟨#[112,101,101,114]⟩:ByteArray)).map fun w=>w.getD 1 default)).any fun x0=>F196 x0 (portsL lines):=by
 have h0:F165_j0 lines=Lp.done ((linesL lines (⟨#[114,111,117,116,101]⟩:ByteArray)).map fun w=>w.getD 2 default):=by
  unfold F165_j0
  have:=fold_loop0 (linesL lines (⟨#[114,111,117,116,101]⟩:ByteArray)) (fun (s:List ByteArray) w=>s++[w.getD 2 default]) (fun s i=>(s,i)) (F165_s0 lines) (fun i s hi=>by
   simp only [F165_s0,ltD hi,cond_true,nn]; rfl) (fun s=>by simp only [F165_s0,geD,cond_false]) Lp.ret (fun (addrs1,v13)=>Lp.done addrs1) []
  refine this.trans ?_
  rw [foldl_map',List.nil_append]
 have h1:∀ a,F165_j1 lines a=Lp.done (a++(linesL lines (⟨#[112,101,101,114]⟩:ByteArray)).map fun w=>w.getD 1 default):=fun a=>by
  unfold F165_j1
  have:=fold_loop0 (linesL lines (⟨#[112,101,101,114]⟩:ByteArray)) (fun (s:List ByteArray) w=>s++[w.getD 1 default]) (fun s i=>(s,i)) (F165_s1 lines a) (fun i s hi=>by
   simp only [F165_s1,ltD hi,cond_true,nn]; rfl) (fun s=>by simp only [F165_s1,geD,cond_false]) Lp.ret (fun (addrs3,v27)=>Lp.done addrs3) a
  refine this.trans ?_
  rw [foldl_map']
 unfold F165
 rw [h0]
 show (F165_j1 lines _).fin _ _=_
 rw [h1]; rfl
theorem near_same (lines:List ByteArray) (h:F64 lines=0) (t:ByteArray):F196 t (portsL lines)=!F100 ((wsL lines).map l52Cut.mk) (F78 t):=by
 rw [near_eq,any_cuts]
 unfold F196
 rw [addr_same]
 congr 1
 have e4:portsL lines=(linesL lines (⟨#[112,111,114,116]⟩:ByteArray)).map (fun w:List ByteArray=>(F83 (w.getD 2 default)).1):=rfl
 rw [e4,List.any_map,linesL_ws lines h,List.any_filter]
 refine any_congr_mem fun w hw=>?_
 show (hdB w hPort&&_)=(hdB w hPort&&_)
 cases hp:hdB w hPort with
 | false=>rfl
 | true =>
  have hpp:=port_of (ws_form lines h w hw) (eq_of_beq hp)
  obtain ⟨a,L,e1,e2,d1,b1,c1,s1⟩:=pfx_both (w.getD 2 default) (by unfold portP at hpp; exact hpp.2.2.2.2)
  rw [Bool.true_and,Bool.true_and]
  show F198 (F83 (w.getD 2 default)).1 (F78 t)=_
  unfold F198
  rw [e1,e2,has_eq _ _ _ b1 c1,cb1,wrap_of (by simp only; omega) (by simp only; omega),neI]
  simp only
  rw [← decide_not,← Bool.decide_and,← Bool.decide_and]
  exact decide_eq_decide.2 (by omega)
theorem nextsWrong_same (lines:List ByteArray) (h:F64 lines=0):F165 lines=!F69 ((wsL lines).map l52Cut.mk):=by
 rw [nears_eq,Bool.not_not,any_cuts,nextsWrong_eq,List.any_append,any_or,List.any_map,List.any_map,linesL_ws lines h,linesL_ws lines h,List.any_filter,List.any_filter]
 congr 1
 ·refine any_congr_mem fun w hw=>?_
  show (hdB w hRoute&&F196 (w.getD 2 default) (portsL lines))=_
  rw [near_same lines h]
 ·refine any_congr_mem fun w hw=>?_
  show (hdB w hPeer&&F196 (w.getD 1 default) (portsL lines))=_
  rw [near_same lines h]
theorem cnt_loop {α ρ τ:Type} [Inhabited α] (xs:List α) (P:α→Bool) (B:Nat→Bool) (bad:ρ) (step:Int×Int→Lp (Int×Int) ρ)
  (h1:∀ (i:Nat) (n:Int),i<xs.length→step (n,(i:Int))=bif P (xs.getD i default) then (bif B i then .ret bad else .next (n+1,((i+1:Nat):Int))) else .next (n,((i+1:Nat):Int)))
  (h2:∀ n:Int,step (n,(xs.length:Int))=.done (n,(xs.length:Int))) (f:ρ→τ) (g:Int×Int→τ) :
  ∀ (m i:Nat) (n:Int),i+m=xs.length→∀ fuel,m<fuel→(runL step fuel (n,(i:Int))).fin f g=bif anyF (fun i=>P (xs.getD i default)&&B i) i m then f bad else g (n+(((xs.drop i).filter P).length:Int),(xs.length:Int))
 | m,i,_,_,0,hf=>absurd hf (Nat.not_lt_zero _)
 | 0,i,n,h,fuel+1,hf=>by
  obtain rfl:i=xs.length:=by omega
  rw [runL_d _ (h2 n),List.drop_of_length_le (Nat.le_refl _)]
  show g _=g _
  simp
 | m+1,i,n,h,fuel+1,hf=>by
  have hst:=h1 i n (by omega)
  have hd:xs.drop i=xs.getD i default :: xs.drop (i+1):=by
   rw [List.drop_eq_getElem_cons (show i<xs.length by omega),List.getD_eq_getElem?_getD,List.getElem?_eq_getElem (show i<xs.length by omega)]; rfl
  rw [anyF,hd]
  cases hp:P (xs.getD i default) with
  | false =>
   rw [hp,cond_false] at hst
   rw [runL_n _ hst,cnt_loop xs P B bad step h1 h2 f g m (i+1) _ (by omega) fuel (by omega),List.filter_cons_of_neg (by rw [hp]; exact Bool.false_ne_true)]
   simp
  | true =>
   rw [hp,cond_true] at hst
   rw [Bool.true_and]
   cases hb:B i with
   | true=>rw [hb,cond_true] at hst; rw [runL_r _ hst]; rfl
   | false =>
    rw [hb,cond_false] at hst
    rw [runL_n _ hst,cnt_loop xs P B bad step h1 h2 f g m (i+1) _ (by omega) fuel (by omega),List.filter_cons_of_pos hp,Bool.false_or,List.length_cons]
    congr 2
    rw [Int.natCast_add,Int.add_assoc,Int.add_comm (1:Int)]; rfl
theorem idx_filter {α:Type} [Inhabited α] (p:α→Bool) (xs:List α):(idxI p xs<0↔xs.filter p=[])∧(0≤idxI p xs→xs.getD (idxI p xs).toNat default=(xs.filter p).getD 0 default):=by
 unfold idxI
 cases h:first (fun k=>p (xs.getD k default)) xs.length with
 | none =>
  have h1:=first_none.1 h
  refine ⟨⟨fun _=>?_,fun _=>by decide⟩,fun h=>absurd h (by decide)⟩
  rw [List.filter_eq_nil_iff]
  intro x hx
  obtain ⟨k,hk,rfl⟩:=mem_getD hx
  rw [h1 k hk]; exact Bool.false_ne_true
 | some k =>
  obtain ⟨h1,h2,h3⟩:=first_some.1 h
  have hs:xs.filter p=xs.getD k default :: (xs.drop (k+1)).filter p:=by
   have e:xs=xs.take k++xs.getD k default :: xs.drop (k+1):=by
    rw [getD_lt _ h1,← List.drop_eq_getElem_cons h1,List.take_append_drop]
   have h4:(xs.take k).filter p=[]:=by
    rw [List.filter_eq_nil_iff]
    intro x hx
    obtain ⟨j,hj,rfl⟩:=mem_getD hx
    have hl:j<k:=by rw [List.length_take] at hj; omega
    rw [List.getD_eq_getElem?_getD,List.getElem?_take,if_pos hl,← List.getD_eq_getElem?_getD]
    rw [h3 j hl]; exact Bool.false_ne_true
   conv=>lhs; rw [e]
   rw [List.filter_append,h4,List.nil_append,List.filter_cons_of_pos h2]
  refine ⟨⟨fun h=>absurd h (by show ¬ ((k:Int)<0); omega),fun h=>by rw [hs] at h; cases h⟩,fun _=>?_⟩
  rw [hs]
  show xs.getD (k:Int).toNat default=xs.getD k default
  rw [nn]
theorem anyF_or (p q:Nat→Bool):∀ (m i:Nat),anyF (fun k=>p k || q k) i m=(anyF p i m || anyF q i m)
 | 0,_=>rfl
 | m+1,i=>by
  rw [anyF,anyF,anyF,anyF_or p q m (i+1)]
  cases p i <;> cases q i <;> simp
theorem anyF_congr {p q:Nat→Bool}:∀ (m i:Nat),(∀ k,i≤k→k<i+m→p k=q k)→anyF p i m=anyF q i m
 | 0,_,_=>rfl
 | m+1,i,h=>by rw [anyF,anyF,h i (Nat.le_refl _) (by omega),anyF_congr m (i+1) fun k h1 h2=>h k (by omega) (by omega)]
def badD (a n lo hi:Int) (d:List ByteArray):Bool:=(decide (F78 (d.getD 3 default)<a) || decide (F78 (d.getD 3 default)≥a+n)) || decide (lo≤F79 (d.getD 2 default)∧F79 (d.getD 2 default)≤hi)
def sameD (x y:List ByteArray):Bool:=(((y.getD 1 default).toList==(x.getD 1 default).toList)&&((y.getD 3 default).toList==(x.getD 3 default).toList))&&((y.getD 4 default).toList==(x.getD 4 default).toList)
theorem door_eq (all:List l52Cut) (i:Nat) (hi:i<all.length) (nat:l52Cut) (a n:Int) (hp:F99 (nat.w.getD 1 default)=(a,n)) (hb:0≤a∧a≤65535∧1≤n∧n≤65536) :
  F102 all (i:Int) nat=!(badD a n (F79 (nat.w.getD 3 default)) (F79 (nat.w.getD 4 default)) (all.getD i default).w || (all.take i).any fun e=>hdB e.w hDoor&&sameD (all.getD i default).w e.w):=by
 unfold F102
 simp only [at1,at2,at3,at4,nn,hp,cb2]
 rw [wrap_of (by omega) (by omega)]
 have h1:=any_loop (F102_s0 all (i:Int) nat) i (fun k=>hdB (all.getD k default).w hDoor&&sameD (all.getD i default).w (all.getD k default).w) false (fun r=>r) true (fun k hk=>by
  simp only [F102_s0,ltD hk,cond_true,nn,at0,at1,at3,at4,cb1]
  show (bif (((_&&_)&&_)&&_) then _ else _)=bif (hdB (all.getD k default).w hDoor&&((_&&_)&&_)) then _ else _
  rw [blit,Bool.and_assoc,Bool.and_assoc,Bool.and_assoc]; rfl) (by simp only [F102_s0,decide_eq_false (show ¬ (i:Int)<(i:Int) by omega),cond_false]) i 0 (by omega) (Int.toNat ((i:Int)-0)+1) (by omega)
 rw [anyF_take all (fun e=>hdB e.w hDoor&&sameD (all.getD i default).w e.w) i (by omega)] at h1
 rw [Bool.not_or]
 show (bif badD a n _ _ _ then false else _)=_
 refine (congrArg (fun z=>bif badD a n (F79 (nat.w.getD 3 default)) (F79 (nat.w.getD 4 default)) (all.getD i default).w then false else z) h1).trans ?_
 cases badD a n (F79 (nat.w.getD 3 default)) (F79 (nat.w.getD 4 default)) (all.getD i default).w <;> cases ((all.take i).any fun e=>hdB e.w hDoor&&sameD (all.getD i default).w e.w) <;> rfl
def badAll (a n lo hi:Int) (ds:List (List ByteArray)):Bool:=ds.any (badD a n lo hi) || pairR sameD [] ds
theorem translates_eq (ws:List (List ByteArray)):F70 (ws.map l52Cut.mk)=match ws.filter (fun w=>hdB w hNat) with
  | []=>!(ws.any fun w=>hdB w hDoor)
  | w :: _=>bif anyF (fun i=>hdB ((ws.map l52Cut.mk).getD i default).w hDoor&&!F102 (ws.map l52Cut.mk) (i:Int) ⟨w⟩) 0 ws.length then false else
    ((decide (((ws.filter fun w=>hdB w hDoor).length:Int)≤6)&&(decide (F78 (w.getD 2 default)<(F99 (w.getD 1 default)).1) || decide (F78 (w.getD 2 default)≥IntKind.i64.wrap ((F99 (w.getD 1 default)).1+(F99 (w.getD 1 default)).2))))&&decide (F79 (w.getD 3 default)≤F79 (w.getD 4 default))):=by
 generalize hall:ws.map l52Cut.mk=all
 have hlen:all.length=ws.length:=by rw [← hall,List.length_map]
 have hidx:=idx_filter (fun c=>((F77 c 0).toList==(⟨#[110,97,116]⟩:ByteArray).toList)) all
 have hnf:all.filter (fun c=>((F77 c 0).toList==(⟨#[110,97,116]⟩:ByteArray).toList))=(ws.filter fun w=>hdB w hNat).map l52Cut.mk:=by
  rw [← hall,List.filter_map]
  congr 2
  funext w
  show ((F77 ⟨w⟩ 0).toList==_)=_
  rw [at0,blit]; rfl
 rw [hnf] at hidx
 have hdf:all.filter (fun c=>hdB c.w hDoor)=(ws.filter fun w=>hdB w hDoor).map l52Cut.mk:=by
  rw [← hall,List.filter_map]; rfl
 have e211:F101 all=idxI (fun c=>((F77 c 0).toList==(⟨#[110,97,116]⟩:ByteArray).toList)) all:=as101 all
 unfold F70
 generalize hk:idxI (fun c=>((F77 c 0).toList==(⟨#[110,97,116]⟩:ByteArray).toList)) all=k at hidx
 have hloop:=cnt_loop all (fun c=>hdB c.w hDoor) (fun i=>decide (k<0) || !F102 all (i:Int) (all.getD (Int.toNat k) default)) false (F70_s0 all) (fun i n hi=>by
  simp only [F70_s0,ltD hi,cond_true,nn,hk,e211]
  simp only [at0,blit,cb2]
  show (bif !(hdB (all.getD i default).w hDoor) then _ else _)=bif hdB (all.getD i default).w hDoor then _ else _
  cases hdB (all.getD i default).w hDoor <;> rfl) (fun n=>by simp only [F70_s0,geD,cond_false]) (fun r=>r)
  (fun (doors,i40)=>bif (decide (k<0)) then true else (((decide (doors≤6)&&(decide (F78 ((all.getD k.toNat default).w.getD 2 default)<(F99 ((all.getD k.toNat default).w.getD 1 default)).1) || decide (F78 ((all.getD k.toNat default).w.getD 2 default)≥IntKind.i64.wrap ((F99 ((all.getD k.toNat default).w.getD 1 default)).1+(F99 ((all.getD k.toNat default).w.getD 1 default)).2)))))&&decide (F79 ((all.getD k.toNat default).w.getD 3 default)≤F79 ((all.getD k.toNat default).w.getD 4 default)))) all.length 0 0 (by omega) (Int.toNat ((all.length:Int)-0)+1) (by omega)
 simp only [hk,e211]
 simp only [at1,at2,at3,at4,cb1,cb2]
 refine Eq.trans hloop ?_
 rw [List.drop_zero,hdf,List.length_map,hlen]
 cases hn:ws.filter (fun w=>hdB w hNat) with
 | nil =>
  rw [hn] at hidx
  have hk0:=hidx.1.2 rfl
  simp only [decide_eq_true hk0,Bool.true_or,Bool.and_true,cond_true]
  have:=anyF_dropG all (fun c=>hdB c.w hDoor) all.length 0 (by omega)
  rw [List.drop_zero,hlen] at this
  rw [this,← hall,List.any_map]
  show (bif ws.any (fun w=>hdB w hDoor) then false else true)=!ws.any fun w=>hdB w hDoor
  cases ws.any fun w=>hdB w hDoor <;> rfl
 | cons w r =>
  rw [hn] at hidx
  have hk0:¬ k<0:=fun h=>by have:=hidx.1.1 h; cases this
  have hw:all.getD k.toNat default=⟨w⟩:=(hidx.2 (by omega)).trans rfl
  simp only [decide_eq_false hk0,Bool.false_or,cond_false,hw]
  rw [Int.zero_add]
theorem natWrong_eq (lines:List ByteArray) (w:List ByteArray) (r:List (List ByteArray)) (hn:linesL lines (⟨#[110,97,116]⟩:ByteArray)=w :: r) :
  F166 lines=(((F199 (F83 (w.getD 1 default)).1 (F43 (w.getD 2 default)) || decide (F44 (w.getD 3 default)>F44 (w.getD 4 default))) || decide (((linesL lines (⟨#[100,111,111,114]⟩:ByteArray)).length:Int)>6)) ||
   ((linesL lines (⟨#[100,111,111,114]⟩:ByteArray)).any (fun d=>!F199 (F83 (w.getD 1 default)).1 (F43 (d.getD 3 default)) || decide (F44 (w.getD 3 default)≤F44 (d.getD 2 default)∧F44 (d.getD 2 default)≤F44 (w.getD 4 default))) || pairR sameD [] (linesL lines (⟨#[100,111,111,114]⟩:ByteArray)))):=by
 unfold F166
 have e0:((linesL lines (⟨#[110,97,116]⟩:ByteArray)).getD (Int.toNat 0) default)=w:=by rw [hn]; rfl
 have hl:((((linesL lines (⟨#[110,97,116]⟩:ByteArray)).length:Int)==0))=false:=by rw [hn,beq_eq_false_iff_ne,List.length_cons]; omega
 rw [hl,cond_false]
 simp only [e0,cb2]
 generalize hds:linesL lines (⟨#[100,111,111,114]⟩:ByteArray)=ds
 have hloop:=any_loop (F166_s0 lines) ds.length (fun i=>(!F199 (F83 (w.getD 1 default)).1 (F43 ((ds.getD i default).getD 3 default)) || decide (F44 (w.getD 3 default)≤F44 ((ds.getD i default).getD 2 default)∧F44 ((ds.getD i default).getD 2 default)≤F44 (w.getD 4 default))) || (ds.take i).any (sameD (ds.getD i default))) true (fun r=>r) false (fun i hi=>by
  simp only [F166_s0,hds,ltD hi,cond_true,nn,e0,cb2]
  have h1:=anyL (ds.take i) (sameD (ds.getD i default)) true (F166_s1 lines (i:Int)) (fun j hj=>by
   simp only [F166_s1,hds,nn,ltD hj,cond_true,cb1]; rfl) (by simp only [F166_s1,hds,nn,geD,cond_false]) (Lp.ret:Bool→Lp Int Bool) (fun v89=>.next ((i:Int)+1)) (.next ((i:Int)+1)) (fun _=>rfl)
  rw [h1]
  show (bif (!F199 (F83 (w.getD 1 default)).1 (F43 ((ds.getD i default).getD 3 default)) || decide (F44 (w.getD 3 default)≤F44 ((ds.getD i default).getD 2 default)∧F44 ((ds.getD i default).getD 2 default)≤F44 (w.getD 4 default))) then _ else _)=_
  cases (!F199 (F83 (w.getD 1 default)).1 (F43 ((ds.getD i default).getD 3 default)) || decide (F44 (w.getD 3 default)≤F44 ((ds.getD i default).getD 2 default)∧F44 ((ds.getD i default).getD 2 default)≤F44 (w.getD 4 default))) <;> cases ((ds.take i).any (sameD (ds.getD i default))) <;> rfl) (by simp only [F166_s0,hds,geD,cond_false]) ds.length 0 (by omega) (Int.toNat ((ds.length:Int)-0)+1) (by omega)
 rw [anyF_or,pair_loop sameD ds ds.length 0 (by omega),List.take_zero,List.drop_zero] at hloop
 have h2:=anyF_dropG ds (fun d=>(!F199 (F83 (w.getD 1 default)).1 (F43 (d.getD 3 default)) || decide (F44 (w.getD 3 default)≤F44 (d.getD 2 default)∧F44 (d.getD 2 default)≤F44 (w.getD 4 default)))) ds.length 0 (by omega)
 rw [List.drop_zero] at h2
 rw [h2] at hloop
 refine (congrArg (fun z=>bif ((F199 (F83 (w.getD 1 default)).1 (F43 (w.getD 2 default)) || decide (F44 (w.getD 3 default)>F44 (w.getD 4 default))) || decide ((ds.length:Int)>6)) then true else z) hloop).trans ?_
 rw [cb2]
 congr 1
 cases ((ds.any fun d=>!F199 (F83 (w.getD 1 default)).1 (F43 (d.getD 3 default)) || decide (F44 (w.getD 3 default)≤F44 (d.getD 2 default)∧F44 (d.getD 2 default)≤F44 (w.getD 4 default))) || pairR sameD [] ds) <;> rfl
theorem natWrong_same (lines:List ByteArray) (h:F64 lines=0):F166 lines=!F70 ((wsL lines).map l52Cut.mk):=by
 rw [translates_eq]
 have hN:linesL lines (⟨#[110,97,116]⟩:ByteArray)=(wsL lines).filter fun w=>hdB w hNat:=linesL_ws lines h _
 have hD:linesL lines (⟨#[100,111,111,114]⟩:ByteArray)=(wsL lines).filter fun w=>hdB w hDoor:=linesL_ws lines h _
 cases hn:(wsL lines).filter fun w=>hdB w hNat with
 | nil =>
  rw [hn] at hN
  unfold F166
  rw [hN,hD]
  show decide ((((wsL lines).filter fun w=>hdB w hDoor).length:Int)>0)=!!_
  rw [Bool.not_not,Bool.eq_iff_iff,decide_eq_true_eq,List.any_eq_true]
  constructor
  ·intro hl
   have hl:0<((wsL lines).filter fun w=>hdB w hDoor).length:=by omega
   have:=List.mem_filter.1 (List.getElem_mem hl)
   exact ⟨_,this.1,this.2⟩
  ·rintro ⟨x,hx,hp⟩
   have:=List.length_pos_of_mem (List.mem_filter.2 ⟨hx,hp⟩:x∈(wsL lines).filter fun w=>hdB w hDoor)
   omega
 | cons w r =>
  have hwm:w∈(wsL lines).filter fun w=>hdB w hNat:=by rw [hn]; exact List.mem_cons_self
  rw [hn] at hN
  obtain ⟨hw1,hw2⟩:=List.mem_filter.1 hwm
  have hnp:=nat_of (ws_form lines h w hw1) (eq_of_beq hw2)
  unfold natP at hnp
  obtain ⟨a,L,e1,e2,d1,b1,c1,s1⟩:=pfx_both (w.getD 1 default) hnp.2.2.1
  rw [natWrong_eq lines w r hN]
  simp only [e1,e2,has_eq _ _ _ b1 c1,number_same,addr_same]
  rw [wrap_of (by omega) (by omega),hD]
  have hdoor:anyF (fun i=>hdB (((wsL lines).map l52Cut.mk).getD i default).w hDoor&&!F102 ((wsL lines).map l52Cut.mk) (i:Int) ⟨w⟩) 0 (wsL lines).length=badAll a (F151 L) (F79 (w.getD 3 default)) (F79 (w.getD 4 default)) ((wsL lines).filter fun w=>hdB w hDoor):=by
   have hc:=anyF_congr (p:=fun i=>hdB (((wsL lines).map l52Cut.mk).getD i default).w hDoor&&!F102 ((wsL lines).map l52Cut.mk) (i:Int) ⟨w⟩) (q:=fun i=>(hdB ((wsL lines).getD i default) hDoor&&badD a (F151 L) (F79 (w.getD 3 default)) (F79 (w.getD 4 default)) ((wsL lines).getD i default)) || ((wsL lines).take i).any (fun e=>hdB ((wsL lines).getD i default) hDoor&&(hdB e hDoor&&sameD ((wsL lines).getD i default) e))) (wsL lines).length 0 (fun k _ hk=>by
    have hk:k<(wsL lines).length:=by omega
    have hg:((wsL lines).map l52Cut.mk).getD k default=⟨(wsL lines).getD k default⟩:=getD_mapG _ _ _ hk
    rw [door_eq _ k (by simpa using hk) ⟨w⟩ a _ e2 ⟨b1.1,b1.2,s1⟩,Bool.not_not,hg,← List.map_take,any_cuts]
    show (hdB ((wsL lines).getD k default) hDoor&&_)=_
    cases hdB ((wsL lines).getD k default) hDoor with
    | true=>simp only [Bool.true_and]
    | false =>
     simp only [Bool.false_and]
     rw [show ((wsL lines).take k).any (fun _=>false)=false by simp]; rfl)
   rw [hc,anyF_or,pair_loop (fun x e=>hdB x hDoor&&(hdB e hDoor&&sameD x e)) (wsL lines) (wsL lines).length 0 (by omega),List.take_zero,List.drop_zero,pair_filter]
   have h3:=anyF_dropG (wsL lines) (fun d=>hdB d hDoor&&badD a (F151 L) (F79 (w.getD 3 default)) (F79 (w.getD 4 default)) d) (wsL lines).length 0 (by omega)
   rw [List.drop_zero] at h3
   rw [h3]
   unfold badAll
   rw [List.any_filter]; rfl
  rw [hdoor]
  have hbd:((wsL lines).filter fun w=>hdB w hDoor).any (fun d=>!decide (a≤F78 (d.getD 3 default)∧F78 (d.getD 3 default)<a+F151 L) || decide (F79 (w.getD 3 default)≤F79 (d.getD 2 default)∧F79 (d.getD 2 default)≤F79 (w.getD 4 default)))=((wsL lines).filter fun w=>hdB w hDoor).any (badD a (F151 L) (F79 (w.getD 3 default)) (F79 (w.getD 4 default))):=any_congr_mem fun d _=>by
   unfold badD
   congr 1
   rw [← decide_not,← Bool.decide_or]
   exact decide_eq_decide.2 (by omega)
  rw [hbd]
  show (_ || badAll a (F151 L) (F79 (w.getD 3 default)) (F79 (w.getD 4 default)) ((wsL lines).filter fun w=>hdB w hDoor))=_
  have g1:decide (a≤F78 (w.getD 2 default)∧F78 (w.getD 2 default)<a+F151 L)=!(decide (F78 (w.getD 2 default)<a) || decide (F78 (w.getD 2 default)≥a+F151 L)):=by
   rw [← Bool.decide_or,← decide_not]
   exact decide_eq_decide.2 (by omega)
  have g2:decide (F79 (w.getD 3 default)>F79 (w.getD 4 default))=!decide (F79 (w.getD 3 default)≤F79 (w.getD 4 default)):=by
   rw [← decide_not]
   exact decide_eq_decide.2 (by omega)
  have g3:decide ((((wsL lines).filter fun w=>hdB w hDoor).length:Int)>6)=!decide ((((wsL lines).filter fun w=>hdB w hDoor).length:Int)≤6):=by
   rw [← decide_not]
   exact decide_eq_decide.2 (by omega)
  rw [g1,g2,g3]
  generalize (decide (F78 (w.getD 2 default)<a) || decide (F78 (w.getD 2 default)≥a+F151 L))=x1,decide (F79 (w.getD 3 default)≤F79 (w.getD 4 default))=x2,decide ((((wsL lines).filter fun w=>hdB w hDoor).length:Int)≤6)=x3,badAll a (F151 L) (F79 (w.getD 3 default)) (F79 (w.getD 4 default)) ((wsL lines).filter fun w=>hdB w hDoor)=x4
  cases x1 <;> cases x2 <;> cases x3 <;> cases x4 <;> rfl
theorem check_pre (lines:List ByteArray) (hz:∀ k:Nat,(lines.getD k default).size≤1048576) (h:F161 lines=0):F64 lines=0∧lines.length≤16∧∀ k:Nat,(lines.getD k default).size≤1048576:=by
 rw [neat_same] at h
 exact ⟨h,neat_len lines h,hz⟩
theorem cuts_sz (lines:List ByteArray) (hz:∀ k:Nat,(lines.getD k default).size≤1048576):∀ k j:Nat,(((lines.map (fun l=>(⟨(F97 l).1⟩:l52Cut))).getD k default).w.getD j default).size≤1048576:=fun k j=>by
 by_cases hk:k<lines.length
 ·rw [getD_mapG _ _ _ hk]
  exact specwords_sz (lines.getD k default) j
 ·have e:(lines.map (fun l=>(⟨(F97 l).1⟩:l52Cut))).getD k default=default:=by
   rw [List.getD_eq_getElem?_getD,List.getElem?_eq_none (by rw [List.length_map]; omega)]; rfl
  rw [e]
  exact Nat.zero_le _
theorem kc161 (lines:List ByteArray) {K_:Prop} (p0_:∀ k:Nat,(lines.getD k default).size≤1048576) (k_:K_):(∀ k:Nat,(lines.getD k default).size≤1048576)∧(Imp (.l 1 eStr lines) (.l 1 eStr lines))∧K_:=⟨p0_,Imp.refl _,k_⟩
abbrev kh161 (lines:List ByteArray):Hint false Tryz.prog:=.call 161 (S161 lines) (ok161 lines) none
def fsB30 (p:(List ByteArray)→Bool):FnSpec:=⟨List ByteArray,fun i=>[.c (.x (PX (.l 1 eStr i) (F64 i=0∧i.length≤16∧∀ k:Nat,(i.getD k default).size≤1048576)))],fun i=>.bool (p i)⟩
def eFn30 (p:(List ByteArray)→Bool):List Dat:=[.x (FnX Tryz.prog (fsB30 p))]
def fh162:FnH Tryz.prog:=⟨false,162,fsB30 (fun x0=>F162 x0),[],rfl,True,fun i=>ok_px (ok162 i)⟩
theorem ca162:callable Tryz.prog 162=true:=by kernel_rfl
def fh163:FnH Tryz.prog:=⟨false,163,fsB30 (fun x0=>F163 x0),[],rfl,True,fun i=>ok_px (ok163 i)⟩
theorem ca163:callable Tryz.prog 163=true:=by kernel_rfl
def fh164:FnH Tryz.prog:=⟨false,164,fsB30 (fun x0=>F164 x0),[],rfl,True,fun i=>ok_px (ok164 i)⟩
theorem ca164:callable Tryz.prog 164=true:=by kernel_rfl
def fh165:FnH Tryz.prog:=⟨false,165,fsB30 (fun x0=>F165 x0),[],rfl,True,fun i=>ok_px (ok165 i)⟩
theorem ca165:callable Tryz.prog 165=true:=by kernel_rfl
def fh166:FnH Tryz.prog:=⟨false,166,fsB30 (fun x0=>F166 x0),[],rfl,True,fun i=>ok_px (ok166 i)⟩
theorem ca166:callable Tryz.prog 166=true:=by kernel_rfl
def F119_s0 (lines:List ByteArray):Int→Lp Int Int:=fun v13 =>
 bif (decide (v13<(([(fun x0=>F162 x0),(fun x0=>F163 x0),(fun x0=>F164 x0),(fun x0=>F165 x0),(fun x0=>F166 x0)]:List ((List ByteArray)→Bool)).length:Int))) then (bif ((([(fun x0=>F162 x0),(fun x0=>F163 x0),(fun x0=>F164 x0),(fun x0=>F165 x0),(fun x0=>F166 x0)]:List ((List ByteArray)→Bool)).getD v13.toNat default) lines) then (.ret (5+v13)) else (.next (v13+1))) else (.done v13)
def F119 (lines:List ByteArray):Int :=
 bif ((F161 lines) != 0) then (F161 lines) else ((runL (F119_s0 lines) (((([(fun x0=>F162 x0),(fun x0=>F163 x0),(fun x0=>F164 x0),(fun x0=>F165 x0),(fun x0=>F166 x0)]:List ((List ByteArray)→Bool)).length:Int)-0).toNat+1) 0).fin (fun r=>r) (fun v13=>0))
abbrev lN119_0:Nat×Int:=((((([(fun x0=>F162 x0),(fun x0=>F163 x0),(fun x0=>F164 x0),(fun x0=>F165 x0),(fun x0=>F166 x0)]:List ((List ByteArray)→Bool)).length:Int)-0).toNat+1),0)
abbrev lI119_0 (m39:Nat) (v13:Int):Prop:=(Int.toNat ((([(fun x0=>F162 x0),(fun x0=>F163 x0),(fun x0=>F164 x0),(fun x0=>F165 x0),(fun x0=>F166 x0)]:List ((List ByteArray)→Bool)).length:Int)-v13)<m39)∧(0:Int)≤v13
abbrev lX119_0 (lines:List ByteArray):Lp Int Int:=LpX (F119_s0 lines) (lN119_0)
abbrev lJ119_0 (lines:List ByteArray) (i:Nat×Int):Prop:=LpJ (F119_s0 lines) (lN119_0) i (lI119_0 i.1 i.2)
abbrev lH119_0 (lines:List ByteArray) (i:Nat×Int) (m39:Nat) (v13:Int):Prop:=LpH (F119_s0 lines) (lN119_0) i m39 v13 (lI119_0 (m39+1) v13)
abbrev lE119_0 (lines:List ByteArray) (v13:Int) (v13_:Int) (K39:Prop):Prop:=(Rf (.int .i64 (([(fun x0=>F162 x0),(fun x0=>F163 x0),(fun x0=>F164 x0),(fun x0=>F165 x0),(fun x0=>F166 x0)]:List ((List ByteArray)→Bool)).length:Int)))∧((.int .i64 v13:Value)=.int .i64 v13_)∧(Im (.l 1 eStr lines))∧(Im (.l 1 eFn30 ([(fun x0=>F162 x0),(fun x0=>F163 x0),(fun x0=>F164 x0),(fun x0=>F165 x0),(fun x0=>F166 x0)]:List ((List ByteArray)→Bool))))∧K39
theorem un119_0 (lines:List ByteArray) (i:Nat×Int) (h:lJ119_0 lines i):lH119_0 lines i (i.1-1) i.2:=⟨hd1 h.1 h.2.1,hd3 h.2.1,hd2 h.2.1,h.2.2⟩
theorem bk119_0 (lines:List ByteArray) (i:Nat×Int) (m39:Nat) (v13:Int) (hl:m39<i.1) (e:runL (F119_s0 lines) m39 v13=lX119_0 lines) (h:lI119_0 m39 v13):∃ j:Nat×Int,lE119_0 lines v13 j.2 (lJ119_0 lines j∧j.1<i.1):=⟨(m39,v13),rfl,rfl,Imp.refl _,Imp.refl _,⟨e,h⟩,hl⟩
theorem en119_0 (lines:List ByteArray) (h:(0:Int)≤0):lE119_0 lines 0 0 (lJ119_0 lines (lN119_0)):=⟨rfl,rfl,Imp.refl _,Imp.refl _,rfl,Nat.lt_succ_self _,h⟩
def S119 (lines:List ByteArray):Spec:=⟨[.r (.c (.l 1 eStr lines))],.v (vI (F119 lines)),lines.length≤1048576∧(∀ k:Nat,(lines.getD k default).size≤1048576)⟩
theorem ok119 (lines:List ByteArray):(S119 lines).ok Tryz.prog 119 false :=
 fnG_ok mixed (fn:=Tryz.f119) (ct:=.seqk [(0,0)] .no (.seq (.seq (.reg [(1,kh161 lines)]) (.seq .no (.cond (.seq .no .no) .no))) (.seq (.seqk [(0,0),(11,0)] (.reg [(0,.dat (.l 1 eFn30 ([(fun x0=>F162 x0),(fun x0=>F163 x0),(fun x0=>F164 x0),(fun x0=>F165 x0),(fun x0=>F166 x0)]:List ((List ByteArray)→Bool))))]) (.blk (.loop (ι:=Nat×Int) (fun i=>(fun (v13:Int)=>(⟨[(0,some (.h 0 0)),(11,some (.h 1 0)),(12,some (.v (vI (([(fun x0=>F162 x0),(fun x0=>F163 x0),(fun x0=>F164 x0),(fun x0=>F165 x0),(fun x0=>F166 x0)]:List ((List ByteArray)→Bool)).length:Int)))),(13,some (.v (vI v13)))],[(0,some (.shr none (.l 1 eStr lines))),(1,some (.own 1 (.l 1 eFn30 ([(fun x0=>F162 x0),(fun x0=>F163 x0),(fun x0=>F164 x0),(fun x0=>F165 x0),(fun x0=>F166 x0)]:List ((List ByteArray)→Bool)))))],2⟩:St)) i.2) (lJ119_0 lines) (fun i=>i.1) (lN119_0) (fun i=>(fun (v13:Int)=>(.seq .no (.seq (.cond .no .no) (.seq (.blk (.seq .no (.seq (.reg [(2,.fnv (fsB30 (([(fun x0=>F162 x0),(fun x0=>F163 x0),(fun x0=>F164 x0),(fun x0=>F165 x0),(fun x0=>F166 x0)]:List ((List ByteArray)→Bool)).getD v13.toNat default)) lines)]) (.cond (.seq (.reg [(1,.bnd)]) .no) .no)))) (.reg [(0,.bnd)]))))) i.2)))) (.seq .no .no)))) Tryz.func119 (fun (hp:lines.length≤1048576∧(∀ k:Nat,(lines.getD k default).size≤1048576))=>have hpre0:=hp.1; have hpre1:=hp.2; kn lines fun _=>kc161 lines (by first | assumption | exact hpre1 _ | exact fun k _=>hpre1 k | (intros; exact trivial) | (intros; exact Nat.zero_le _)) (ifn (F161 lines) 0 (fun h1 _=>fiI (F161 lines) (F119 lines) (condT h1 rfl)) (fun h1 _=>ai (BuildOK.mk eFn30 ([(fun x0=>F162 x0),(fun x0=>F163 x0),(fun x0=>F164 x0),(fun x0=>F165 x0),(fun x0=>F166 x0)]:List ((List ByteArray)→Bool)) rfl (by exact ai (Imp.fn fh162 rfl trivial ca162) (ai (Imp.fn fh163 rfl trivial ca163) (ai (Imp.fn fh164 rfl trivial ca164) (ai (Imp.fn fh165 rfl trivial ca165) (ai (Imp.fn fh166 rfl trivial ca166) trivial))))) (fun _=>rfl):BuildOK 5 1 [.v (.func (.func 162) #[] #[]),.v (.func (.func 163) #[] #[]),.v (.func (.func 164) #[] #[]),.v (.func (.func 165) #[] #[]),.v (.func (.func 166) #[] #[])] (.l 1 eFn30 ([(fun x0=>F162 x0),(fun x0=>F163 x0),(fun x0=>F164 x0),(fun x0=>F165 x0),(fun x0=>F166 x0)]:List ((List ByteArray)→Bool)))) (kn lines fun _=>kn ([(fun x0=>F162 x0),(fun x0=>F163 x0),(fun x0=>F164 x0),(fun x0=>F165 x0),(fun x0=>F166 x0)]:List ((List ByteArray)→Bool)) fun _=>ai (en119_0 lines (by omega)) (fun (i0:Nat×Int) (hi0:lJ119_0 lines i0)=>(fun (m0:Nat) (v13:Int) (hh0:lH119_0 lines i0 m0 v13)=>have hI0:=hh0.1; have hl0:=hh0.2.1; have _:=hh0.2.2.1; have _:=hh0.2.2.2; ifd (v13<(([(fun x0=>F162 x0),(fun x0=>F163 x0),(fun x0=>F164 x0),(fun x0=>F165 x0),(fun x0=>F166 x0)]:List ((List ByteArray)→Bool)).length:Int)) (fun h3 _=>ai (by omega:ib v13 ([(fun x0=>F162 x0),(fun x0=>F163 x0),(fun x0=>F164 x0),(fun x0=>F165 x0),(fun x0=>F166 x0)]:List ((List ByteArray)→Bool))) (ai (Eq.refl (FnX Tryz.prog (fsB30 (([(fun x0=>F162 x0),(fun x0=>F163 x0),(fun x0=>F164 x0),(fun x0=>F165 x0),(fun x0=>F166 x0)]:List ((List ByteArray)→Bool)).getD v13.toNat default)))) (ai (Imp.px (d:=.l 1 eStr lines) (by exact check_pre lines (by assumption) (by omega):F64 lines=0∧lines.length≤16∧∀ k:Nat,(lines.getD k default).size≤1048576)) (ifb ((([(fun x0=>F162 x0),(fun x0=>F163 x0),(fun x0=>F164 x0),(fun x0=>F165 x0),(fun x0=>F166 x0)]:List ((List ByteArray)→Bool)).getD v13.toNat default) lines) (fun h4=>ai (iok (5+v13) (by first | omega | (simp only [List.length_cons,List.length_nil] at *; omega))) (fiI (5+v13) (F119 lines) (condF h1 (finR (runL_ret hI0 (condT h3 (condT h4 rfl))) rfl)))) (fun h4=>ai (iok (v13+1) (by first | omega | (simp only [List.length_cons,List.length_nil] at *; omega))) (bk119_0 lines i0 m0 (v13+1) hl0 (runL_next hI0 (condT h3 (condF h4 rfl))) (by refine ⟨?_,?_⟩ <;> omega))))))) (fun h3 _=>have hD0_5:lX119_0 lines=Lp.done v13:=runL_done hI0 (condF h3 rfl); fiI 0 (F119 lines) (condF h1 (finD hD0_5 rfl)))) (i0.1-1) i0.2 (un119_0 lines i0 hi0)))))) (by kernel_rfl)
theorem kc64 (lines:List ByteArray) {K_:Prop} (p0_:∀ k:Nat,(lines.getD k default).size≤1048576) (k_:K_):(∀ k:Nat,(lines.getD k default).size≤1048576)∧(Imp (.l 1 eStr lines) (.l 1 eStr lines))∧K_:=⟨p0_,Imp.refl _,k_⟩
abbrev kh64 (lines:List ByteArray):Hint true Tryz.prog:=.call 64 (S64 lines) (ok64 lines) none
theorem kc65a (lines:List ByteArray) {K_:Prop} (p0_:lines.length≤16) (p1_:∀ k:Nat,(lines.getD k default).size≤1048576) (k_:K_):(lines.length≤16∧(∀ k:Nat,(lines.getD k default).size≤1048576))∧(Imp (.l 1 eStr lines) (.l 1 eStr lines))∧K_:=⟨⟨p0_,p1_⟩,Imp.refl _,k_⟩
abbrev kh65a (lines:List ByteArray):Hint true Tryz.prog:=.call 65 (T65 (lines.map (fun l=>(⟨(F97 l).1⟩:l52Cut))) lines) (oa65 lines) none
def F31 (lines:List ByteArray):Int :=
 bif ((F64 lines) != 0) then (F64 lines) else (bif (!(F66 (lines.map (fun l=>(⟨(F97 l).1⟩:l52Cut))))) then 5 else (bif (!(F67 (lines.map (fun l=>(⟨(F97 l).1⟩:l52Cut))))) then 6 else (bif (!(F68 (lines.map (fun l=>(⟨(F97 l).1⟩:l52Cut))))) then 7 else (bif (!(F69 (lines.map (fun l=>(⟨(F97 l).1⟩:l52Cut))))) then 8 else (bif (!(F70 (lines.map (fun l=>(⟨(F97 l).1⟩:l52Cut))))) then 9 else 0)))))
def S31 (lines:List ByteArray):Spec:=⟨[.r (.c (.l 1 eStr lines))],.v (vI (F31 lines)),lines.length≤1048576∧(∀ k:Nat,(lines.getD k default).size≤1048576)⟩
theorem ok31 (lines:List ByteArray):(S31 lines).ok Tryz.prog 31 :=
 fnG_ok mixed (fn:=Tryz.f31) (ct:=.seqk [(0,0)] .no (.seq (.reg [(1,kh64 lines)]) (.seq (.seq .no (.cond (.seq .no .no) .no)) (.seq (.reg [(1,kh65a lines)]) (.seq (.blk (.seq (.reg [(1,.call 66 (S66 (lines.map (fun l=>(⟨(F97 l).1⟩:l52Cut)))) (ok66 (lines.map (fun l=>(⟨(F97 l).1⟩:l52Cut)))) none)]) (.cond (.seq .no .no) (.seq (.reg [(1,.call 67 (S67 (lines.map (fun l=>(⟨(F97 l).1⟩:l52Cut)))) (ok67 (lines.map (fun l=>(⟨(F97 l).1⟩:l52Cut)))) none)]) (.cond (.seq .no .no) (.seq (.reg [(1,.call 68 (S68 (lines.map (fun l=>(⟨(F97 l).1⟩:l52Cut)))) (ok68 (lines.map (fun l=>(⟨(F97 l).1⟩:l52Cut)))) none)]) (.cond (.seq .no .no) (.seq (.reg [(1,.call 69 (S69 (lines.map (fun l=>(⟨(F97 l).1⟩:l52Cut)))) (ok69 (lines.map (fun l=>(⟨(F97 l).1⟩:l52Cut)))) none)]) (.cond (.seq .no .no) (.seq (.reg [(1,.call 70 (S70 (lines.map (fun l=>(⟨(F97 l).1⟩:l52Cut)))) (ok70 (lines.map (fun l=>(⟨(F97 l).1⟩:l52Cut)))) none)]) (.cond (.seq .no .no) .no))))))))))) (.seq .no .no)))))) Tryz.func31 (fun (hp:lines.length≤1048576∧(∀ k:Nat,(lines.getD k default).size≤1048576))=>have hpre0:=hp.1; have hpre1:=hp.2; kn lines fun _=>kc64 lines (by first | assumption | exact hpre1 _ | exact fun k _=>hpre1 k | (intros; exact trivial) | (intros; exact Nat.zero_le _)) (ifn (F64 lines) 0 (fun h1 _=>fiI (F64 lines) (F31 lines) (condT h1 rfl)) (fun h1 _=>kc65a lines (by first | omega | assumption | (have h9:=neat_len lines (by omega); omega)) (by first | omega | assumption | (have h9:=neat_len lines (by omega); omega)) (ai trivial (ai (Imp.refl (.l 1 el52Cut (lines.map (fun l=>(⟨(F97 l).1⟩:l52Cut))))) (ifb (!(F66 (lines.map (fun l=>(⟨(F97 l).1⟩:l52Cut))))) (fun h2=>fiI 5 (F31 lines) (condF h1 (condT h2 rfl))) (fun h2=>ai trivial (ai (Imp.refl (.l 1 el52Cut (lines.map (fun l=>(⟨(F97 l).1⟩:l52Cut))))) (ifb (!(F67 (lines.map (fun l=>(⟨(F97 l).1⟩:l52Cut))))) (fun h3=>fiI 6 (F31 lines) (condF h1 (condF h2 (condT h3 rfl)))) (fun h3=>ai (by exact cuts_sz lines (by assumption):∀ k j:Nat,(((lines.map (fun l=>(⟨(F97 l).1⟩:l52Cut))).getD k default).w.getD j default).size≤1048576) (ai (Imp.refl (.l 1 el52Cut (lines.map (fun l=>(⟨(F97 l).1⟩:l52Cut))))) (ifb (!(F68 (lines.map (fun l=>(⟨(F97 l).1⟩:l52Cut))))) (fun h4=>fiI 7 (F31 lines) (condF h1 (condF h2 (condF h3 (condT h4 rfl))))) (fun h4=>ai (by exact cuts_sz lines (by assumption):∀ k j:Nat,(((lines.map (fun l=>(⟨(F97 l).1⟩:l52Cut))).getD k default).w.getD j default).size≤1048576) (ai (Imp.refl (.l 1 el52Cut (lines.map (fun l=>(⟨(F97 l).1⟩:l52Cut))))) (ifb (!(F69 (lines.map (fun l=>(⟨(F97 l).1⟩:l52Cut))))) (fun h5=>fiI 8 (F31 lines) (condF h1 (condF h2 (condF h3 (condF h4 (condT h5 rfl)))))) (fun h5=>ai (by exact cuts_sz lines (by assumption):∀ k j:Nat,(((lines.map (fun l=>(⟨(F97 l).1⟩:l52Cut))).getD k default).w.getD j default).size≤1048576) (ai (Imp.refl (.l 1 el52Cut (lines.map (fun l=>(⟨(F97 l).1⟩:l52Cut))))) (ifb (!(F70 (lines.map (fun l=>(⟨(F97 l).1⟩:l52Cut))))) (fun h6=>fiI 9 (F31 lines) (condF h1 (condF h2 (condF h3 (condF h4 (condF h5 (condT h6 rfl))))))) (fun h6=>fiI 0 (F31 lines) (condF h1 (condF h2 (condF h3 (condF h4 (condF h5 (condF h6 rfl))))))))))))))))))))))))) (by kernel_rfl)
theorem check_same (lines:List ByteArray):F119 lines=F31 lines:=by
 unfold F119 F31
 rw [neat_same]
 cases hn:(F64 lines != 0) with
 | true=>rfl
 | false =>
  have h0:F64 lines=0:=by simpa using hn
  rw [cond_false,cond_false]
  have e:(lines.map (fun l=>(⟨(F97 l).1⟩:l52Cut)))=(wsL lines).map l52Cut.mk:=by
   unfold wsL
   rw [List.map_map]; rfl
  rw [e]
  have k1:=noRuler_same lines h0
  have k2:=listsWrong_same lines h0
  have k3:=overlap_same lines h0
  have k4:=nextsWrong_same lines h0
  have k5:=natWrong_same lines h0
  rw [← k1,← k2,← k3,← k4,← k5]
  have s0:F119_s0 lines 0=bif F162 lines then .ret 5 else .next 1:=rfl
  have s1:F119_s0 lines 1=bif F163 lines then .ret 6 else .next 2:=rfl
  have s2:F119_s0 lines 2=bif F164 lines then .ret 7 else .next 3:=rfl
  have s3:F119_s0 lines 3=bif F165 lines then .ret 8 else .next 4:=rfl
  have s4:F119_s0 lines 4=bif F166 lines then .ret 9 else .next 5:=rfl
  have s5:F119_s0 lines 5=.done 5:=rfl
  show (runL (F119_s0 lines) 6 0).fin _ _=_
  cases b0:F162 lines with
  | true=>rw [b0,cond_true] at s0; rw [runL_r _ s0]; rfl
  | false =>
  rw [b0,cond_false] at s0; rw [runL_n _ s0]
  cases b1:F163 lines with
  | true=>rw [b1,cond_true] at s1; rw [runL_r _ s1]; rfl
  | false =>
  rw [b1,cond_false] at s1; rw [runL_n _ s1]
  cases b2:F164 lines with
  | true=>rw [b2,cond_true] at s2; rw [runL_r _ s2]; rfl
  | false =>
  rw [b2,cond_false] at s2; rw [runL_n _ s2]
  cases b3:F165 lines with
  | true=>rw [b3,cond_true] at s3; rw [runL_r _ s3]; rfl
  | false =>
  rw [b3,cond_false] at s3; rw [runL_n _ s3]
  cases b4:F166 lines with
  | true=>rw [b4,cond_true] at s4; rw [runL_r _ s4]; rfl
  | false =>
  rw [b4,cond_false] at s4; rw [runL_n _ s4,runL_d _ s5]; rfl
theorem check_len (lines:List ByteArray) (h:F31 lines=0):lines.length≤16:=by
 unfold F31 at h
 cases hn:(F64 lines != 0) with
 | true=>rw [hn,cond_true] at h; rw [h] at hn; exact absurd hn (by decide)
 | false=>exact neat_len lines (by simpa using hn)
theorem check_lenI (lines:List ByteArray) (h:F119 lines=0):lines.length≤16:=check_len lines (by rw [← check_same]; exact h)
def F7_s0 (a:List ByteArray) (left':Int):(Int×Int)→Lp (Int×Int) Int:=fun (left'1,i40) =>
 bif (decide (i40<(a.length:Int))) then (bif (decide ((left'1-((a.getD i40.toNat default).size:Int))<0)) then (.ret (-1)) else (.next ((left'1-((a.getD i40.toNat default).size:Int)),(i40+1)))) else (.done (left'1,i40))
def F7 (a:List ByteArray) (left':Int):Int :=
 bif (decide ((left'-(a.length:Int))<0)) then (-1) else ((runL (F7_s0 a left') (((a.length:Int)-0).toNat+1) ((left'-(a.length:Int)),0)).fin (fun r=>r) (fun (left'1,i40)=>left'1))
abbrev lN7_0 (a:List ByteArray) (left':Int):Nat×(Int×Int):=((((a.length:Int)-0).toNat+1),((left'-(a.length:Int)),0))
abbrev lI7_0 (a:List ByteArray) (m39:Nat) (left'1:Int) (i40:Int):Prop:=Int.toNat ((a.length:Int)-i40)<m39∧(0:Int)≤left'1∧left'1≤1048576∧(0:Int)≤i40
abbrev lX7_0 (a:List ByteArray) (left':Int):Lp (Int×Int) Int:=LpX (F7_s0 a left') (lN7_0 a left')
abbrev lJ7_0 (a:List ByteArray) (left':Int) (i:Nat×(Int×Int)):Prop:=LpJ (F7_s0 a left') (lN7_0 a left') i (lI7_0 a i.1 i.2.1 i.2.2)
abbrev lH7_0 (a:List ByteArray) (left':Int) (i:Nat×(Int×Int)) (m39:Nat) (left'1:Int) (i40:Int):Prop:=LpH (F7_s0 a left') (lN7_0 a left') i m39 (left'1,i40) (lI7_0 a (m39+1) left'1 i40)
abbrev lE7_0 (a:List ByteArray) (left'1:Int) (i40:Int) (left'1_:Int) (i40_:Int) (K39:Prop):Prop:=((.int .i64 left'1:Value)=.int .i64 left'1_)∧((.int .i64 i40:Value)=.int .i64 i40_)∧(Im (.l 1 eStr a))∧K39
theorem un7_0 (a:List ByteArray) (left':Int) (i:Nat×(Int×Int)) (h:lJ7_0 a left' i):lH7_0 a left' i (i.1-1) i.2.1 i.2.2:=⟨hd1 h.1 h.2.1,hd3 h.2.1,hd2 h.2.1,h.2.2⟩
theorem bk7_0 (a:List ByteArray) (left':Int) (i:Nat×(Int×Int)) (m39:Nat) (left'1:Int) (i40:Int) (hl:m39<i.1) (e:runL (F7_s0 a left') m39 (left'1,i40)=lX7_0 a left') (h:lI7_0 a m39 left'1 i40):∃ j:Nat×(Int×Int),lE7_0 a left'1 i40 j.2.1 j.2.2 (lJ7_0 a left' j∧j.1<i.1):=⟨(m39,(left'1,i40)),rfl,rfl,Imp.refl _,⟨e,h⟩,hl⟩
theorem en7_0 (a:List ByteArray) (left':Int) (h:(0:Int)≤(left'-(a.length:Int))∧(left'-(a.length:Int))≤1048576∧(0:Int)≤0):lE7_0 a (left'-(a.length:Int)) 0 (left'-(a.length:Int)) 0 (lJ7_0 a left' (lN7_0 a left')):=⟨rfl,rfl,Imp.refl _,rfl,Nat.lt_succ_self _,h⟩
def S7 (a:List ByteArray) (left':Int):Spec:=⟨[.r (.c (.l 1 eStr a)),.r (.c (.v (vI left')))],.v (vI (F7 a left')),0≤left'∧left'≤1048576∧(∀ k:Nat,(a.getD k default).size≤9223372036854775807)⟩
theorem ok7 (a:List ByteArray) (left':Int):(S7 a left').ok Tryz.prog 7 :=
 fnG_ok mixed (fn:=Tryz.f7) (ct:=.seqk [(0,0)] .no (.seq (.reg [(3,.bnd)]) (.seq (.seq .no (.cond (.seq .no .no) .no)) (.seq (.seqk [(0,0)] .no (.blk (.loop (ι:=Nat×(Int×Int)) (fun i=>(fun (left'1:Int) (i40:Int)=>(⟨[(0,some (.h 0 0)),(1,some (.v (vI left'1))),(5,some (.v (vI i40)))],[(0,some (.shr none (.l 1 eStr a)))],1⟩:St)) i.2.1 i.2.2) (lJ7_0 a left') (fun i=>i.1) (lN7_0 a left') (fun i=>(fun (left'1:Int) (i40:Int)=>(.seq (.seq .no (.cond .no .no)) (.seq (.blk (.seq (.reg [(6,.bnd)]) (.seq .no (.cond (.seq .no .no) .no)))) (.reg [(1,.bnd)])))) i.2.1 i.2.2)))) (.seq .no .no))))) Tryz.func7 (fun (hp:0≤left'∧left'≤1048576∧(∀ k:Nat,(a.getD k default).size≤9223372036854775807))=>have hpre0:=hp.1; have hpre1:=hp.2.1; have hpre2:=hp.2.2; kn a fun _=>ai (iok (left'-(a.length:Int)) (by first | omega | (have hz:=(by assumption:∀ k:Nat,(a.getD k default).size≤9223372036854775807) i40.toNat; omega))) (ifd ((left'-(a.length:Int))<0) (fun h1 _=>fiI (-1) (F7 a left') (condT h1 rfl)) (fun h1 _=>kn a fun _=>ai (en7_0 a left' (by refine ⟨?_,?_,?_⟩ <;> omega)) (fun (i0:Nat×(Int×Int)) (hi0:lJ7_0 a left' i0)=>(fun (m0:Nat) (left'1:Int) (i40:Int) (hh0:lH7_0 a left' i0 m0 left'1 i40)=>have hI0:=hh0.1; have hl0:=hh0.2.1; have _:=hh0.2.2.1; have _:=hh0.2.2.2; ifd (i40<(a.length:Int)) (fun h3 _=>ai (by omega:ib i40 a) (ai (iok (left'1-((a.getD i40.toNat default).size:Int)) (by first | omega | (have hz:=(by assumption:∀ k:Nat,(a.getD k default).size≤9223372036854775807) i40.toNat; omega))) (ifd ((left'1-((a.getD i40.toNat default).size:Int))<0) (fun h4 _=>fiI (-1) (F7 a left') (condF h1 (finR (runL_ret hI0 (condT h3 (condT h4 rfl))) rfl))) (fun h4 _=>ai (iok (i40+1) (by first | omega | (have hz:=(by assumption:∀ k:Nat,(a.getD k default).size≤9223372036854775807) i40.toNat; omega))) (bk7_0 a left' i0 m0 (left'1-((a.getD i40.toNat default).size:Int)) (i40+1) hl0 (runL_next hI0 (condT h3 (condF h4 rfl))) (by refine ⟨?_,?_,?_,?_⟩ <;> omega)))))) (fun h3 _=>have hD0_5:lX7_0 a left'=Lp.done (left'1,i40):=runL_done hI0 (condF h3 rfl); fiI left'1 (F7 a left') (condF h1 (finD hD0_5 rfl)))) (i0.1-1) i0.2.1 i0.2.2 (un7_0 a left' i0 hi0))))) (by kernel_rfl)
theorem gb7 (a:List ByteArray) (left':Int):0≤left'→left'≤1048576→0≤(F7 a left')→(F7 a left')≤left'∧(a.length≤1000000000)∧(∀ k:Nat,(a.getD k default).size≤1000000000):=by
 intro h0 h1 h2
 simp only [F7] at h2 ⊢
 cases h:decide (left'-(a.length:Int)<0)
 ·simp only [h,cond_false] at h2 ⊢
  have hc:=of_decide_eq_false h
  obtain ⟨hall,hle⟩:=sz_loop (fun (x:ByteArray) (l:Int)=>l-(x.size:Int)) (fun x=>(x.size≤1000000000)) (fun x l g0 g1 g2=>⟨by omega,by omega⟩) a (F7_s0 a left') (left'-(a.length:Int)) (by omega) (by omega) (fun l i=>rfl) h2
  exact ⟨Int.le_trans hle (by omega),by omega,fun k=>by
   by_cases hk:k<a.length
   ·exact (hall k hk)
   ·rw [getD_ge a (by omega)]; first | exact Nat.zero_le _ | (intro k'; exact Nat.zero_le _) | (intro k' k''; exact Nat.zero_le _)⟩
 ·simp only [h,cond_true] at h2
  exact absurd h2 (by decide)
theorem g7_0 (a:List ByteArray) (left':Int):0≤left'→left'≤1048576→0≤(F7 a left')→(F7 a left')≤left':=by
 intro h0 h1 h2; exact (gb7 a left' h0 h1 h2).1
theorem g7_1 (a:List ByteArray) (left':Int):0≤left'→left'≤1048576→0≤(F7 a left')→a.length≤1000000000:=by
 intro h0 h1 h2; exact (gb7 a left' h0 h1 h2).2.1
theorem g7_2 (a:List ByteArray) (left':Int):0≤left'→left'≤1048576→0≤(F7 a left')→∀ k:Nat,(a.getD k default).size≤1000000000:=by
 intro h0 h1 h2; exact (gb7 a left' h0 h1 h2).2.2
theorem sz_facts (a:List ByteArray) (l:Int) (h:0≤F7 a l):(a.length:Int)≤l∧(∀ k:Nat,((a.getD k default).size:Int)≤l)∧F7 a l≤l:=by
 unfold F7 at h ⊢
 cases hd:decide ((l-(a.length:Int))<0) with
 | true=>rw [hd,cond_true] at h; exact absurd h (by decide)
 | false =>
  rw [hd,cond_false] at h
  have hd:=of_decide_eq_false hd
  have key:∀ (m i:Nat) (s:Int),i+m=a.length→0≤s→∀ fuel,m<fuel→0≤(runL (F7_s0 a l) fuel (s,(i:Int))).fin (fun r=>r) (fun (x:Int×Int)=>x.1)→(∀ k:Nat,i≤k→k<a.length→((a.getD k default).size:Int)≤s)∧(runL (F7_s0 a l) fuel (s,(i:Int))).fin (fun r=>r) (fun (x:Int×Int)=>x.1)≤s:=by
   intro m
   induction m with
   | zero =>
    intro i s hi hs fuel hf hr
    obtain ⟨fuel,rfl⟩:∃ f,fuel=f+1:=⟨fuel-1,by omega⟩
    have e:F7_s0 a l (s,(i:Int))=.done (s,(i:Int)):=by
     simp only [F7_s0,decide_eq_false (show ¬ (i:Int)<(a.length:Int) by omega),cond_false]
    rw [runL_d _ e]
    exact ⟨fun k h1 h2=>by omega,Int.le_refl _⟩
   | succ m ih =>
    intro i s hi hs fuel hf hr
    obtain ⟨fuel,rfl⟩:∃ f,fuel=f+1:=⟨fuel-1,by omega⟩
    have e:F7_s0 a l (s,(i:Int))=bif decide (s-((a.getD i default).size:Int)<0) then .ret (-1) else .next (s-((a.getD i default).size:Int),((i+1:Nat):Int)):=by
     simp only [F7_s0,decide_eq_true (show (i:Int)<(a.length:Int) by omega),cond_true,nn]; rfl
    cases hb:decide (s-((a.getD i default).size:Int)<0) with
    | true =>
     rw [hb,cond_true] at e
     rw [runL_r _ e] at hr
     exact absurd hr (by show ¬ (0:Int)≤-1; decide)
    | false =>
     rw [hb,cond_false] at e
     have hb:=of_decide_eq_false hb
     rw [runL_n _ e] at hr ⊢
     obtain ⟨h1,h2⟩:=ih (i+1) _ (by omega) (by omega) fuel (by omega) hr
     refine ⟨fun k hk1 hk2=>?_,by omega⟩
     rcases Nat.eq_or_lt_of_le hk1 with rfl | hk
     ·omega
     ·have:=h1 k hk hk2
      omega
  obtain ⟨h1,h2⟩:=key a.length 0 (l-(a.length:Int)) (by omega) (by omega) (Int.toNat ((a.length:Int)-0)+1) (by omega) h
  refine ⟨by omega,fun k=>?_,?_⟩
  ·by_cases hk:k<a.length
   ·have:=h1 k (Nat.zero_le _) hk
    omega
   ·rw [List.getD_eq_getElem?_getD,List.getElem?_eq_none (by omega)]
    show ((0:Nat):Int)≤l
    omega
  ·rw [cond_false]
   refine Int.le_trans h2 ?_
   omega
theorem sz_len (a:List ByteArray) {l:Int} (h:0≤F7 a l) (hl:l≤1048576):a.length≤1048576:=by have:=(sz_facts a l h).1; omega
theorem sz_size (a:List ByteArray) {l:Int} (h:0≤F7 a l) (hl:l≤1048576):∀ k:Nat,(a.getD k default).size≤1048576:=fun k=>by have:=(sz_facts a l h).2.1 k; omega
def F157_s0 (s:ByteArray) (at':Int):(List ByteArray×Int×Int)→Lp (List ByteArray×Int×Int) (List ByteArray):=fun (out1,from'1,i40) =>
 bif (decide (i40<(s.size:Int))) then (bif (((s.data.getD i40.toNat 0).toNat:Int)==(at'%256)) then (.next ((out1++[(s.extract (Int.toNat from'1) i40.toNat)]),(i40+1),(i40+1))) else (.next (out1,from'1,(i40+1)))) else (.done (out1,from'1,i40))
def F157_j0 (s:ByteArray) (at':Int):Lp (List ByteArray×Int) (List ByteArray) :=
 (runL (F157_s0 s at') (((s.size:Int)-0).toNat+1) (([]:List ByteArray),0,0)).fin Lp.ret (fun (out1,from'1,i40)=>.done (out1,from'1))
def F157 (s:ByteArray) (at':Int):List ByteArray :=
 (F157_j0 s at').fin (fun r=>r) (fun (out,from')=>(out++[(s.extract from'.toNat (s.size:Int).toNat)]))
abbrev lN157_0 (s:ByteArray):Nat×(List ByteArray×Int×Int):=((((s.size:Int)-0).toNat+1),(([]:List ByteArray),0,0))
abbrev lI157_0 (s:ByteArray) (m39:Nat) (out1:List ByteArray) (from'1:Int) (i40:Int):Prop:=Int.toNat ((s.size:Int)-i40)<m39∧(0:Int)≤from'1∧(from'1:Int)≤i40∧(out1.length:Int)≤i40∧i40≤(s.size:Int)∧(0:Int)≤from'1∧(0:Int)≤i40
abbrev lX157_0 (s:ByteArray) (at':Int):Lp (List ByteArray×Int×Int) (List ByteArray):=LpX (F157_s0 s at') (lN157_0 s)
abbrev lJ157_0 (s:ByteArray) (at':Int) (i:Nat×(List ByteArray×Int×Int)):Prop:=LpJ (F157_s0 s at') (lN157_0 s) i (lI157_0 s i.1 i.2.1 i.2.2.1 i.2.2.2)
abbrev lH157_0 (s:ByteArray) (at':Int) (i:Nat×(List ByteArray×Int×Int)) (m39:Nat) (out1:List ByteArray) (from'1:Int) (i40:Int):Prop:=LpH (F157_s0 s at') (lN157_0 s) i m39 (out1,from'1,i40) (lI157_0 s (m39+1) out1 from'1 i40)
abbrev lE157_0 (s:ByteArray) (at':Int) (out1:List ByteArray) (from'1:Int) (i40:Int) (out1_:List ByteArray) (from'1_:Int) (i40_:Int) (K39:Prop):Prop:=(Rf (.string s))∧(Rf (.int .u8 (at'%256)))∧((.int .i64 from'1:Value)=.int .i64 from'1_)∧((.int .i64 i40:Value)=.int .i64 i40_)∧(Imp (.l 1 eStr out1) (.l 1 eStr out1_))∧K39
theorem un157_0 (s:ByteArray) (at':Int) (i:Nat×(List ByteArray×Int×Int)) (h:lJ157_0 s at' i):lH157_0 s at' i (i.1-1) i.2.1 i.2.2.1 i.2.2.2:=⟨hd1 h.1 h.2.1,hd3 h.2.1,hd2 h.2.1,h.2.2⟩
theorem bk157_0 (s:ByteArray) (at':Int) (i:Nat×(List ByteArray×Int×Int)) (m39:Nat) (out1:List ByteArray) (from'1:Int) (i40:Int) (hl:m39<i.1) (e:runL (F157_s0 s at') m39 (out1,from'1,i40)=lX157_0 s at') (h:lI157_0 s m39 out1 from'1 i40):∃ j:Nat×(List ByteArray×Int×Int),lE157_0 s at' out1 from'1 i40 j.2.1 j.2.2.1 j.2.2.2 (lJ157_0 s at' j∧j.1<i.1):=⟨(m39,(out1,from'1,i40)),rfl,rfl,rfl,rfl,Imp.refl _,⟨e,h⟩,hl⟩
theorem en157_0 (s:ByteArray) (at':Int) (h:(0:Int)≤0∧(0:Int)≤0∧(([]:List ByteArray).length:Int)≤0∧0≤(s.size:Int)∧(0:Int)≤0∧(0:Int)≤0):lE157_0 s at' ([]:List ByteArray) 0 0 ([]:List ByteArray) 0 0 (lJ157_0 s at' (lN157_0 s)):=⟨rfl,rfl,rfl,rfl,Imp.refl _,rfl,Nat.lt_succ_self _,h⟩
abbrev jI157_0 (s:ByteArray) (at':Int) (out:List ByteArray) (from':Int):Prop:=(0:Int)≤from'∧from'≤(s.size:Int)∧(out.length:Int)≤(s.size:Int)
abbrev jJ157_0 (s:ByteArray) (at':Int) (j:List ByteArray×Int):Prop:=(F157_j0 s at')=Lp.done j∧jI157_0 s at' j.1 j.2
theorem jn157_0 (s:ByteArray) (at':Int) (out:List ByteArray) (from':Int) (e:(F157_j0 s at')=Lp.done (out,from')) (h:jI157_0 s at' out from'):∃ j:List ByteArray×Int,((.string s:Value)=.string s)∧((.int .i64 from':Value)=.int .i64 j.2)∧(Imp (.l 1 eStr out) (.l 1 eStr j.1))∧jJ157_0 s at' j:=⟨(out,from'),rfl,rfl,Imp.refl _,e,h⟩
theorem fi157 (s:ByteArray) (at':Int) (r:List ByteArray) (hF:r=(F157 s at')):(Imp (.l 1 eStr r) (.l 1 eStr (F157 s at')))∧True:=by cases hF; exact ⟨Imp.refl _,trivial⟩
def S157 (s:ByteArray) (at':Int):Spec:=⟨[.r (.c (.v (.string s))),.r (.c (.v (.int .u8 (at'%256))))],.ow (.l 1 eStr (F157 s at')),s.size≤1048576⟩
theorem ok157 (s:ByteArray) (at':Int):(S157 s at').ok Tryz.prog 157 :=
 fnG_ok mixed (fn:=Tryz.f157) (ct:=.seq .no (.seq (.reg [(0,.dat (.l 1 eStr ([]:List ByteArray)))]) (.seq .no (.cut (ι:=List ByteArray×Int) (fun j=>(fun (out:List ByteArray) (from':Int)=>(⟨[(0,some (.v (.string s))),(5,some (.h 0 0)),(6,some (.v (vI from')))],[(0,some (.own 0 (.l 1 eStr out)))],1⟩:St)) j.1 j.2) (jJ157_0 s at') (.seqk [(5,0)] .no (.blk (.loop (ι:=Nat×(List ByteArray×Int×Int)) (fun i=>(fun (out1:List ByteArray) (from'1:Int) (i40:Int)=>(⟨[(0,some (.v (.string s))),(1,some (.v (.int .u8 (at'%256)))),(5,some (.h 0 0)),(6,some (.v (vI from'1))),(7,some (.v (vI i40)))],[(0,some (.own 0 (.l 1 eStr out1)))],1⟩:St)) i.2.1 i.2.2.1 i.2.2.2) (lJ157_0 s at') (fun i=>i.1) (lN157_0 s) (fun i=>(fun (out1:List ByteArray) (from'1:Int) (i40:Int)=>(.seq (.seq .no (.cond .no .no)) (.seq (.blk (.seq .no (.cond (.seq (.reg [(6,.dat (.l 1 eStr (out1++[(s.extract (Int.toNat from'1) i40.toNat)])))]) (.reg [(1,.bnd)])) .no))) (.reg [(1,.bnd)])))) i.2.1 i.2.2.1 i.2.2.2)))) (fun j=>(fun (out:List ByteArray) (from':Int)=>(.seq (.reg [(5,.dat (.l 1 eStr (out++[(s.extract from'.toNat (s.size:Int).toNat)])))]) .no)) j.1 j.2))))) Tryz.func157 (fun (hpre0:s.size≤1048576)=>ai (bokr 1 eStr ([]:List ByteArray) fun _=>rfl) (ai (kn ([]:List ByteArray) fun _=>ai (en157_0 s at' (by refine ⟨?_,?_,?_,?_,?_,?_⟩ <;> first | omega | (simp only [lens,ib] at*<;> omega))) (fun (i0:Nat×(List ByteArray×Int×Int)) (hi0:lJ157_0 s at' i0)=>(fun (m0:Nat) (out1:List ByteArray) (from'1:Int) (i40:Int) (hh0:lH157_0 s at' i0 m0 out1 from'1 i40)=>have hI0:=hh0.1; have hl0:=hh0.2.1; have _:=hh0.2.2.1; have _:=hh0.2.2.2; ifd (i40<(s.size:Int)) (fun h2 _=>ai (by first | omega | (simp only [lens,ib] at*<;> omega):0≤i40∧i40<(s.size:Int)) (ife ((s.data.getD i40.toNat 0).toNat:Int) (at'%256) (fun h3 _=>ai (by first | omega | (simp only [lens,ib] at*<;> omega):0≤from'1∧from'1≤i40∧i40≤(s.size:Int)) (ai (appr 1 eStr out1 [(s.extract (Int.toNat from'1) i40.toNat)] fun _=>rfl) (ai (by (try simp only [lens]); omega:(out1++[(s.extract (Int.toNat from'1) i40.toNat)]).length*16≤140737488355328) (ai (iok (i40+1) (by first | omega | (simp only [lens,ib] at*<;> omega))) (ai (iok (i40+1) (by first | omega | (simp only [lens,ib] at*<;> omega))) (bk157_0 s at' i0 m0 (out1++[(s.extract (Int.toNat from'1) i40.toNat)]) (i40+1) (i40+1) hl0 (runL_next hI0 (condT h2 (condT h3 rfl))) (by refine ⟨?_,?_,?_,?_,?_,?_,?_⟩ <;> first | omega | (simp only [lens,ib] at*<;> omega)))))))) (fun h3 _=>ai (iok (i40+1) (by first | omega | (simp only [lens,ib] at*<;> omega))) (bk157_0 s at' i0 m0 out1 from'1 (i40+1) hl0 (runL_next hI0 (condT h2 (condF h3 rfl))) (by refine ⟨?_,?_,?_,?_,?_,?_,?_⟩ <;> first | omega | (simp only [lens,ib] at*<;> omega)))))) (fun h2 _=>have hD0_4:lX157_0 s at'=Lp.done (out1,from'1,i40):=runL_done hI0 (condF h2 rfl); jn157_0 s at' out1 from'1 (Eq.symm (finD hD0_4 rfl)) (by refine ⟨?_,?_,?_⟩ <;> first | omega | (simp only [lens,ib] at*<;> omega)))) (i0.1-1) i0.2.1 i0.2.2.1 i0.2.2.2 (un157_0 s at' i0 hi0))) (fun (j:List ByteArray×Int) (hj:jJ157_0 s at' j)=>(fun (out:List ByteArray) (from':Int) (hJ0_5:(F157_j0 s at')=Lp.done (out,from')) (hw:jI157_0 s at' out from')=>have _:=hw.1; have _:=hw.2.1; have _:=hw.2.2; ai (by first | omega | (simp only [lens,ib] at*<;> omega):0≤from'∧from'≤(s.size:Int)∧(s.size:Int)≤(s.size:Int)) (ai (appr 1 eStr out [(s.extract from'.toNat (s.size:Int).toNat)] fun _=>rfl) (ai (by (try simp only [lens]); omega:(out++[(s.extract from'.toNat (s.size:Int).toNat)]).length*16≤140737488355328) (fi157 s at' (out++[(s.extract from'.toNat (s.size:Int).toNat)]) (finD hJ0_5 rfl))))) j.1 j.2 hj.1 hj.2))) (by kernel_rfl)
def F184 (n:Int) (low:Int) (high:Int):Bool :=
 (bif decide (n≥low) then decide (n≤high) else false)
def S184 (R:Bool) (n:Int) (low:Int) (high:Int):Spec:=⟨[.r (.c (.v (vI n))),.r (.c (.v (vI low))),.r (.c (.v (vI high)))],.v (.bool R),True⟩
theorem ok184 (n:Int) (low:Int) (high:Int):(S184 (F184 n low high) n low high).ok Tryz.prog 184 :=
 fnG_ok mixed (fn:=Tryz.f184) (ct:=.seq .no (.seq .no .no)) Tryz.func184 (fun (_:True)=>fiB (bif decide (n≥low) then decide (n≤high) else false) (F184 n low high) rfl) (by kernel_rfl)
theorem as184 (n:Int) (low:Int) (high:Int):F184 n low high=(decide (low≤n∧n≤high)):=by
 simp only [F184,Bool.decide_and,bandd]
theorem oa184 (n:Int) (low:Int) (high:Int):(S184 (decide (low≤n∧n≤high)) n low high).ok Tryz.prog 184:=by
 intro hp; have h:=ok184 n low high hp; rw [as184 n low high] at h; exact h
theorem kc184a (n:Int) (low:Int) (high:Int) {K_:Prop} (k_:K_):(True)∧(Imp (.v (vI n)) (.v (vI n)))∧(Imp (.v (vI low)) (.v (vI low)))∧(Imp (.v (vI high)) (.v (vI high)))∧K_:=⟨trivial,Imp.refl _,Imp.refl _,Imp.refl _,k_⟩
abbrev kh184a (n:Int) (low:Int) (high:Int):Hint true Tryz.prog:=.call 184 (S184 (decide (low≤n∧n≤high)) n low high) (oa184 n low high) none
def F159_s0 (s:ByteArray):(Int×Int)→Lp (Int×Int) Int:=fun (n,i40) =>
 bif (decide (i40<(s.size:Int))) then (bif (bif decide (((s.data.getD i40.toNat 0).toNat:Int)<48) then true else decide (((s.data.getD i40.toNat 0).toNat:Int)>57)) then (.ret (-1)) else (.next ((IntKind.i64.wrap ((IntKind.i64.wrap (n*10))+(IntKind.i64.wrap (IntKind.u8.wrap (((s.data.getD i40.toNat 0).toNat:Int)-48))))),(i40+1)))) else (.done (n,i40))
def F159 (s:ByteArray):Int :=
 bif (bif (!(decide (1≤(s.size:Int)∧(s.size:Int)≤5))) then true else (bif decide ((s.size:Int)>1) then (((s.data.getD (Int.toNat 0) 0).toNat:Int)==48) else false)) then (-1) else ((runL (F159_s0 s) (((s.size:Int)-0).toNat+1) (0,0)).fin (fun r=>r) (fun (n,i40)=>n))
abbrev lN159_0 (s:ByteArray):Nat×(Int×Int):=((((s.size:Int)-0).toNat+1),(0,0))
abbrev lI159_0 (s:ByteArray) (m39:Nat) (n:Int) (i40:Int):Prop:=Int.toNat ((s.size:Int)-i40)<m39∧(0:Int)≤i40
abbrev lX159_0 (s:ByteArray):Lp (Int×Int) Int:=LpX (F159_s0 s) (lN159_0 s)
abbrev lJ159_0 (s:ByteArray) (i:Nat×(Int×Int)):Prop:=LpJ (F159_s0 s) (lN159_0 s) i (lI159_0 s i.1 i.2.1 i.2.2)
abbrev lH159_0 (s:ByteArray) (i:Nat×(Int×Int)) (m39:Nat) (n:Int) (i40:Int):Prop:=LpH (F159_s0 s) (lN159_0 s) i m39 (n,i40) (lI159_0 s (m39+1) n i40)
abbrev lE159_0 (s:ByteArray) (n:Int) (i40:Int) (n_:Int) (i40_:Int) (K39:Prop):Prop:=(Rf (.string s))∧((.int .i64 n:Value)=.int .i64 n_)∧((.int .i64 i40:Value)=.int .i64 i40_)∧K39
theorem un159_0 (s:ByteArray) (i:Nat×(Int×Int)) (h:lJ159_0 s i):lH159_0 s i (i.1-1) i.2.1 i.2.2:=⟨hd1 h.1 h.2.1,hd3 h.2.1,hd2 h.2.1,h.2.2⟩
theorem bk159_0 (s:ByteArray) (i:Nat×(Int×Int)) (m39:Nat) (n:Int) (i40:Int) (hl:m39<i.1) (e:runL (F159_s0 s) m39 (n,i40)=lX159_0 s) (h:lI159_0 s m39 n i40):∃ j:Nat×(Int×Int),lE159_0 s n i40 j.2.1 j.2.2 (lJ159_0 s j∧j.1<i.1):=⟨(m39,(n,i40)),rfl,rfl,rfl,⟨e,h⟩,hl⟩
theorem en159_0 (s:ByteArray) (h:(0:Int)≤0):lE159_0 s 0 0 0 0 (lJ159_0 s (lN159_0 s)):=⟨rfl,rfl,rfl,rfl,Nat.lt_succ_self _,h⟩
def S159 (s:ByteArray):Spec:=⟨[.r (.c (.v (.string s)))],.v (vI (F159 s)),s.size≤1048576⟩
theorem ok159 (s:ByteArray):(S159 s).ok Tryz.prog 159 :=
 fnG_ok mixed (fn:=Tryz.f159) (ct:=.seq .no (.seq (.seq (.reg [(2,kh184a (s.size:Int) 1 5)]) (.cond (.seq .no .no) .no)) (.seq .no (.seq (.seq .no (.blk (.loop (ι:=Nat×(Int×Int)) (fun i=>(fun (n:Int) (i40:Int)=>(⟨[(0,some (.v (.string s))),(3,some (.v (vI n))),(4,some (.v (vI i40)))],[],0⟩:St)) i.2.1 i.2.2) (lJ159_0 s) (fun i=>i.1) (lN159_0 s) (fun i=>(fun (n:Int) (i40:Int)=>(.seq (.seq .no (.cond .no .no)) (.seq (.blk (.seq (.seq .no (.cond (.seq .no .no) .no)) .no)) (.reg [(1,.bnd)])))) i.2.1 i.2.2)))) (.seq .no .no))))) Tryz.func159 (fun (hpre0:s.size≤1048576)=>kc184a (s.size:Int) 1 5 (ai (fun k2:(decide ((s.size:Int)>1))=true=>have _:=of_decide_eq_true k2; (fun k1:(!(decide (1≤(s.size:Int)∧(s.size:Int)≤5)))=false=>have _:=of_decide_eq_true (notEF k1); (by omega:0≤(0:Int)∧(0:Int)<(s.size:Int)))) (ifb (bif (!(decide (1≤(s.size:Int)∧(s.size:Int)≤5))) then true else (bif decide ((s.size:Int)>1) then (((s.data.getD (Int.toNat 0) 0).toNat:Int)==48) else false)) (fun h3=>fiI (-1) (F159 s) (condT h3 rfl)) (fun h3=>have _:=of_decide_eq_true (notEF (orF1 h3)); ai (en159_0 s (by omega)) (fun (i0:Nat×(Int×Int)) (hi0:lJ159_0 s i0)=>(fun (m0:Nat) (n:Int) (i40:Int) (hh0:lH159_0 s i0 m0 n i40)=>have hI0:=hh0.1; have hl0:=hh0.2.1; have _:=hh0.2.2.1; have _:=hh0.2.2.2; ifd (i40<(s.size:Int)) (fun h5 _=>ai (by omega:0≤i40∧i40<(s.size:Int)) (ai (fun k6:(decide (((s.data.getD i40.toNat 0).toNat:Int)<48))=false=>have _:=of_decide_eq_false k6; (by omega:0≤i40∧i40<(s.size:Int))) (ifb (bif decide (((s.data.getD i40.toNat 0).toNat:Int)<48) then true else decide (((s.data.getD i40.toNat 0).toNat:Int)>57)) (fun h7=>fiI (-1) (F159 s) (condF h3 (finR (runL_ret hI0 (condT h5 (condT h7 rfl))) rfl))) (fun h7=>have _:=of_decide_eq_false (orF1 h7); have _:=of_decide_eq_false (orF2 h7); ai (by omega:0≤i40∧i40<(s.size:Int)) (ai (iok (i40+1) (by omega)) (bk159_0 s i0 m0 (IntKind.i64.wrap ((IntKind.i64.wrap (n*10))+(IntKind.i64.wrap (IntKind.u8.wrap (((s.data.getD i40.toNat 0).toNat:Int)-48))))) (i40+1) hl0 (runL_next hI0 (condT h5 (condF h7 rfl))) (by refine ⟨?_,?_⟩ <;> omega))))))) (fun h5 _=>have hD0_8:lX159_0 s=Lp.done (n,i40):=runL_done hI0 (condF h5 rfl); fiI n (F159 s) (condF h3 (finD hD0_8 rfl)))) (i0.1-1) i0.2.1 i0.2.2 (un159_0 s i0 hi0)))))) (by kernel_rfl)
theorem kc157 (s:ByteArray) (at':Int) {K_:Prop} (p0_:s.size≤1048576) (q0_:s.size≤1048576) (k_:(∀ k:Nat,((F157 s at').getD k default).size≤1048576)→K_):(s.size≤1048576)∧(Imp (.v (.string s)) (.v (.string s)))∧(Imp (.v (.int .u8 at')) (.v (.int .u8 at')))∧K_:=⟨p0_,Imp.refl _,Imp.refl _,k_ (cutS_sz s at' q0_)⟩
abbrev kh157 (s:ByteArray) (at':Int):Hint true Tryz.prog:=.call 157 (S157 s at') (ok157 s at') none
theorem kc159 (s:ByteArray) {K_:Prop} (p0_:s.size≤1048576) (k_:K_):(s.size≤1048576)∧(Imp (.v (.string s)) (.v (.string s)))∧K_:=⟨p0_,Imp.refl _,k_⟩
abbrev kh159 (s:ByteArray):Hint true Tryz.prog:=.call 159 (S159 s) (ok159 s) none
theorem kg184a {K_:Prop} (c_ b_:Bool) (n:Int) (low:Int) (high:Int) (k_:K_):(c_=b_→True)∧(c_=b_→Imp (.v (vI n)) (.v (vI n)))∧(c_=b_→Imp (.v (vI low)) (.v (vI low)))∧(c_=b_→Imp (.v (vI high)) (.v (vI high)))∧K_:=⟨fun _=>trivial,fun _=>Imp.refl _,fun _=>Imp.refl _,fun _=>Imp.refl _,k_⟩
def F158 (text:ByteArray):Int :=
 bif (((F157 text 46).length:Int) != 2) then (-1) else (bif (bif (!(decide (0≤(F159 ((F157 text 46).getD (Int.toNat 0) default))∧(F159 ((F157 text 46).getD (Int.toNat 0) default))≤255))) then true else (!(decide (0≤(F159 ((F157 text 46).getD (Int.toNat 1) default))∧(F159 ((F157 text 46).getD (Int.toNat 1) default))≤255)))) then (-1) else (IntKind.i64.wrap ((IntKind.i64.wrap (256*(F159 ((F157 text 46).getD (Int.toNat 0) default))))+(F159 ((F157 text 46).getD (Int.toNat 1) default)))))
def S158 (text:ByteArray):Spec:=⟨[.r (.c (.v (.string text)))],.v (vI (F158 text)),text.size≤1048576⟩
theorem ok158 (text:ByteArray):(S158 text).ok Tryz.prog 158 :=
 fnG_ok mixed (fn:=Tryz.f158) (ct:=.seq .no (.seq (.reg [(1,kh157 text 46)]) (.seq (.seq .no (.cond (.seq .no .no) .no)) (.seq (.reg [(3,kh159 ((F157 text 46).getD (Int.toNat 0) default))]) (.seq (.reg [(3,kh159 ((F157 text 46).getD (Int.toNat 1) default))]) (.seq (.seq (.reg [(1,kh184a (F159 ((F157 text 46).getD (Int.toNat 0) default)) 0 255),(5,kh184a (F159 ((F157 text 46).getD (Int.toNat 1) default)) 0 255)]) (.cond (.seq .no .no) .no)) (.seq .no .no))))))) Tryz.func158 (fun (hpre0:text.size≤1048576)=>kc157 text 46 (by omega) (by omega) (fun gv1=>ifn ((F157 text 46).length:Int) 2 (fun h2 _=>fiI (-1) (F158 text) (condT h2 rfl)) (fun h2 _=>ai (by omega:ib 0 (F157 text 46)) (kc159 ((F157 text 46).getD (Int.toNat 0) default) (by exact cutS_sz _ _ (by omega) _) (ai (by omega:ib 1 (F157 text 46)) (kc159 ((F157 text 46).getD (Int.toNat 1) default) (by exact cutS_sz _ _ (by omega) _) (kc184a (F159 ((F157 text 46).getD (Int.toNat 0) default)) 0 255 (kg184a (!(decide (0≤(F159 ((F157 text 46).getD (Int.toNat 0) default))∧(F159 ((F157 text 46).getD (Int.toNat 0) default))≤255))) false (F159 ((F157 text 46).getD (Int.toNat 1) default)) 0 255 (ifb (bif (!(decide (0≤(F159 ((F157 text 46).getD (Int.toNat 0) default))∧(F159 ((F157 text 46).getD (Int.toNat 0) default))≤255))) then true else (!(decide (0≤(F159 ((F157 text 46).getD (Int.toNat 1) default))∧(F159 ((F157 text 46).getD (Int.toNat 1) default))≤255)))) (fun h4=>fiI (-1) (F158 text) (condF h2 (condT h4 rfl))) (fun h4=>have _:=of_decide_eq_true (notEF (orF1 h4)); have _:=of_decide_eq_true (notEF (orF2 h4)); fiI (IntKind.i64.wrap ((IntKind.i64.wrap (256*(F159 ((F157 text 46).getD (Int.toNat 0) default))))+(F159 ((F157 text 46).getD (Int.toNat 1) default)))) (F158 text) (condF h2 (condF h4 rfl)))))))))))) (by kernel_rfl)
def F185_s0 (len:Int):(Int×Int)→Lp (Int×Int) Int:=fun (n,i40) =>
 bif (decide (i40<16)) then (.next ((IntKind.i64.wrap (n*2)),(i40+1))) else (.done (n,i40))
def F185 (len:Int):Int :=
 (runL (F185_s0 len) ((16-len).toNat+1) (1,len)).fin (fun r=>r) (fun (n,i40)=>n)
abbrev lN185_0 (len:Int):Nat×(Int×Int):=(((16-len).toNat+1),(1,len))
abbrev lI185_0 (m39:Nat) (n:Int) (i40:Int):Prop:=Int.toNat (16-i40)<m39∧(0:Int)≤i40
abbrev lX185_0 (len:Int):Lp (Int×Int) Int:=LpX (F185_s0 len) (lN185_0 len)
abbrev lJ185_0 (len:Int) (i:Nat×(Int×Int)):Prop:=LpJ (F185_s0 len) (lN185_0 len) i (lI185_0 i.1 i.2.1 i.2.2)
abbrev lH185_0 (len:Int) (i:Nat×(Int×Int)) (m39:Nat) (n:Int) (i40:Int):Prop:=LpH (F185_s0 len) (lN185_0 len) i m39 (n,i40) (lI185_0 (m39+1) n i40)
abbrev lE185_0 (n:Int) (i40:Int) (n_:Int) (i40_:Int) (K39:Prop):Prop:=((.int .i64 n:Value)=.int .i64 n_)∧((.int .i64 i40:Value)=.int .i64 i40_)∧K39
theorem un185_0 (len:Int) (i:Nat×(Int×Int)) (h:lJ185_0 len i):lH185_0 len i (i.1-1) i.2.1 i.2.2:=⟨hd1 h.1 h.2.1,hd3 h.2.1,hd2 h.2.1,h.2.2⟩
theorem bk185_0 (len:Int) (i:Nat×(Int×Int)) (m39:Nat) (n:Int) (i40:Int) (hl:m39<i.1) (e:runL (F185_s0 len) m39 (n,i40)=lX185_0 len) (h:lI185_0 m39 n i40):∃ j:Nat×(Int×Int),lE185_0 n i40 j.2.1 j.2.2 (lJ185_0 len j∧j.1<i.1):=⟨(m39,(n,i40)),rfl,rfl,⟨e,h⟩,hl⟩
theorem en185_0 (len:Int) (h:(0:Int)≤len):lE185_0 1 len 1 len (lJ185_0 len (lN185_0 len)):=⟨rfl,rfl,rfl,Nat.lt_succ_self _,h⟩
def S185 (len:Int):Spec:=⟨[.r (.c (.v (vI len)))],.v (vI (F185 len)),0≤len⟩
theorem ok185 (len:Int):(S185 len).ok Tryz.prog 185 :=
 fnG_ok mixed (fn:=Tryz.f185) (ct:=.seq .no (.seq .no (.seq (.seq .no (.blk (.loop (ι:=Nat×(Int×Int)) (fun i=>(fun (n:Int) (i40:Int)=>(⟨[(3,some (.v (vI n))),(4,some (.v (vI i40)))],[],0⟩:St)) i.2.1 i.2.2) (lJ185_0 len) (fun i=>i.1) (lN185_0 len) (fun i=>(fun (n:Int) (i40:Int)=>(.seq (.seq .no (.cond .no .no)) (.seq (.blk .no) (.reg [(1,.bnd)])))) i.2.1 i.2.2)))) (.seq .no .no)))) Tryz.func185 (fun (hpre0:0≤len)=>ai (en185_0 len (by omega)) (fun (i0:Nat×(Int×Int)) (hi0:lJ185_0 len i0)=>(fun (m0:Nat) (n:Int) (i40:Int) (hh0:lH185_0 len i0 m0 n i40)=>have hI0:=hh0.1; have hl0:=hh0.2.1; have _:=hh0.2.2.1; have _:=hh0.2.2.2; ifd (i40<16) (fun h2 _=>ai (iok (i40+1) (by omega)) (bk185_0 len i0 m0 (IntKind.i64.wrap (n*2)) (i40+1) hl0 (runL_next hI0 (condT h2 rfl)) (by refine ⟨?_,?_⟩ <;> omega))) (fun h2 _=>have hD0_3:lX185_0 len=Lp.done (n,i40):=runL_done hI0 (condF h2 rfl); fiI n (F185 len) (finD hD0_3 rfl))) (i0.1-1) i0.2.1 i0.2.2 (un185_0 len i0 hi0))) (by kernel_rfl)
theorem g185_0 (len:Int):0≤len→len≤16→1≤(F185 len)∧(F185 len)≤65536:=by
 intro h1 h2; have h3:len=0∨len=1∨len=2∨len=3∨len=4∨len=5∨len=6∨len=7∨len=8∨len=9∨len=10∨len=11∨len=12∨len=13∨len=14∨len=15∨len=16:=by omega
 rcases h3 with rfl | rfl | rfl | rfl | rfl | rfl | rfl | rfl | rfl | rfl | rfl | rfl | rfl | rfl | rfl | rfl | rfl <;> exact of_decide_eq_true rfl
theorem kg185 {K_:Prop} (c_ b_:Bool) (len:Int) (p_:c_=b_→0≤len) (k_:K_):(c_=b_→0≤len)∧(c_=b_→Imp (.v (vI len)) (.v (vI len)))∧K_:=⟨p_,fun _=>Imp.refl _,k_⟩
abbrev kh185 (len:Int):Hint true Tryz.prog:=.call 185 (S185 len) (ok185 len) none
def F160 (p:NetPrefix):Bool :=
 (bif (bif (decide (0≤p.Len∧p.Len≤16)) then (decide (0≤p.Addr∧p.Addr≤65535)) else false) then ((p.Addr.tmod (F185 p.Len))==0) else false)
def S160 (p:NetPrefix):Spec:=⟨[.r (.g (eNetPrefix p))],.v (.bool (F160 p)),True⟩
theorem ok160 (p:NetPrefix):(S160 p).ok Tryz.prog 160 :=
 fnG_ok mixed (fn:=Tryz.f160) (ct:=.seq .no (.seq (.reg [(2,kh184a p.Len 0 16),(6,kh184a p.Addr 0 65535),(13,kh185 p.Len)]) .no)) Tryz.func160 (fun (_:True)=>kc184a p.Len 0 16 (kg184a (decide (0≤p.Len∧p.Len≤16)) true p.Addr 0 65535 (kg185 (bif (decide (0≤p.Len∧p.Len≤16)) then (decide (0≤p.Addr∧p.Addr≤65535)) else false) true p.Len (fun k4=>have _:=of_decide_eq_true (andT1 k4); have _:=of_decide_eq_true (andT2 k4); (by omega)) (ai (fun k5:(bif (decide (0≤p.Len∧p.Len≤16)) then (decide (0≤p.Addr∧p.Addr≤65535)) else false)=true=>have _:=of_decide_eq_true (andT1 k5); have _:=of_decide_eq_true (andT2 k5); (by have h9:=g185_0 p.Len (by omega) (by omega); omega:¬ (F185 p.Len)=0)) (fiB (bif (bif (decide (0≤p.Len∧p.Len≤16)) then (decide (0≤p.Addr∧p.Addr≤65535)) else false) then ((p.Addr.tmod (F185 p.Len))==0) else false) (F160 p) rfl))))) (by kernel_rfl)
theorem kc158 (text:ByteArray) {K_:Prop} (p0_:text.size≤1048576) (k_:K_):(text.size≤1048576)∧(Imp (.v (.string text)) (.v (.string text)))∧K_:=⟨p0_,Imp.refl _,k_⟩
abbrev kh158 (text:ByteArray):Hint true Tryz.prog:=.call 158 (S158 text) (ok158 text) none
def F115 (text:ByteArray):NetPrefix×Bool :=
 bif (((F157 text 47).length:Int) != 2) then ((⟨0,0⟩:NetPrefix),false) else (bif (!(F160 ⟨(F158 ((F157 text 47).getD (Int.toNat 0) default)),(F159 ((F157 text 47).getD (Int.toNat 1) default))⟩)) then ((⟨0,0⟩:NetPrefix),false) else ((⟨(F158 ((F157 text 47).getD (Int.toNat 0) default)),(F159 ((F157 text 47).getD (Int.toNat 1) default))⟩:NetPrefix),true))
theorem fi115 (text:ByteArray) (r:NetPrefix×Bool) (hF:r=(F115 text)):((.int .i64 r.1.Addr:Value)=.int .i64 (F115 text).1.Addr)∧((.int .i64 r.1.Len:Value)=.int .i64 (F115 text).1.Len)∧((.bool r.2:Value)=.bool (F115 text).2)∧True:=by cases hF; exact ⟨rfl,rfl,rfl,trivial⟩
def S115 (text:ByteArray):Spec:=⟨[.r (.c (.v (.string text)))],.tu [.ag [.v (vI (F115 text).1.Addr),.v (vI (F115 text).1.Len)],.v (.bool (F115 text).2)],text.size≤1048576⟩
theorem ok115 (text:ByteArray):(S115 text).ok Tryz.prog 115 :=
 fnG_ok mixed (fn:=Tryz.f115) (ct:=.seq .no (.seq (.reg [(1,kh157 text 47)]) (.seq (.seq .no (.cond (.seq .no .no) .no)) (.seq (.reg [(3,kh158 ((F157 text 47).getD (Int.toNat 0) default)),(7,kh159 ((F157 text 47).getD (Int.toNat 1) default))]) (.seq (.seq (.reg [(1,.call 160 (S160 (⟨(F158 ((F157 text 47).getD (Int.toNat 0) default)),(F159 ((F157 text 47).getD (Int.toNat 1) default))⟩:NetPrefix)) (ok160 (⟨(F158 ((F157 text 47).getD (Int.toNat 0) default)),(F159 ((F157 text 47).getD (Int.toNat 1) default))⟩:NetPrefix)) none)]) (.cond (.seq .no .no) .no)) (.seq .no .no)))))) Tryz.func115 (fun (hpre0:text.size≤1048576)=>kc157 text 47 (by omega) (by omega) (fun gv1=>ifn ((F157 text 47).length:Int) 2 (fun h2 _=>fi115 text ((⟨0,0⟩:NetPrefix),false) (condT h2 rfl)) (fun h2 _=>ai (by omega:ib 0 (F157 text 47)) (kc158 ((F157 text 47).getD (Int.toNat 0) default) (by exact cutS_sz _ _ (by omega) _) (ai (by omega:ib 1 (F157 text 47)) (kc159 ((F157 text 47).getD (Int.toNat 1) default) (by exact cutS_sz _ _ (by omega) _) (ai trivial (ai (Imps.refl (eNetPrefix (⟨(F158 ((F157 text 47).getD (Int.toNat 0) default)),(F159 ((F157 text 47).getD (Int.toNat 1) default))⟩:NetPrefix))) (ifb (!(F160 ⟨(F158 ((F157 text 47).getD (Int.toNat 0) default)),(F159 ((F157 text 47).getD (Int.toNat 1) default))⟩)) (fun h3=>fi115 text ((⟨0,0⟩:NetPrefix),false) (condF h2 (condT h3 rfl))) (fun h3=>fi115 text ((⟨(F158 ((F157 text 47).getD (Int.toNat 0) default)),(F159 ((F157 text 47).getD (Int.toNat 1) default))⟩:NetPrefix),true) (condF h2 (condF h3 rfl)))))))))))) (by kernel_rfl)
theorem kc119 (lines:List ByteArray) {K_:Prop} (p0_:lines.length≤1048576) (p1_:∀ k:Nat,(lines.getD k default).size≤1048576) (k_:K_):(lines.length≤1048576∧(∀ k:Nat,(lines.getD k default).size≤1048576))∧(Imp (.l 1 eStr lines) (.l 1 eStr lines))∧K_:=⟨⟨p0_,p1_⟩,Imp.refl _,k_⟩
abbrev kh119 (lines:List ByteArray):Hint false Tryz.prog:=.call 119 (S119 lines) (ok119 lines) none
def F81 (lines:List ByteArray):Bool :=
 ((F119 lines)==0)
def S81 (lines:List ByteArray):Spec:=⟨[.r (.c (.l 1 eStr lines))],.v (.bool (F81 lines)),lines.length≤1048576∧(∀ k:Nat,(lines.getD k default).size≤1048576)⟩
theorem ok81 (lines:List ByteArray):(S81 lines).ok Tryz.prog 81 false :=
 fnG_ok mixed (fn:=Tryz.f81) (ct:=.seqk [(0,0)] .no (.seq (.reg [(1,kh119 lines)]) .no)) Tryz.func81 (fun (hp:lines.length≤1048576∧(∀ k:Nat,(lines.getD k default).size≤1048576))=>have hpre0:=hp.1; have hpre1:=hp.2; kn lines fun _=>kc119 lines (by omega) (by first | assumption | exact hpre1 _ | exact fun k _=>hpre1 k | (intros; exact trivial) | (intros; exact Nat.zero_le _)) (fiB ((F119 lines)==0) (F81 lines) rfl)) (by kernel_rfl)
theorem dig_or (b:Int):(bif decide (b<48) then true else decide (b>57))=!decide (48≤b∧b≤57):=by
 by_cases h1:b<48
 ·rw [decide_eq_true h1,decide_eq_false (show ¬ (48≤b∧b≤57) by omega)]; rfl
 ·rw [decide_eq_false h1,cond_false]
  by_cases h2:b>57
  ·rw [decide_eq_true h2,decide_eq_false (show ¬ (48≤b∧b≤57) by omega)]; rfl
  ·rw [decide_eq_false h2,decide_eq_true (show 48≤b∧b≤57 by omega)]; rfl
theorem l2step (s:ByteArray) (x:Int×Int):F159_s0 s x=F79_s0 s x:=by
 obtain ⟨n,i⟩:=x
 simp only [F159_s0,F79_s0,wrap_u8,dig_or]
theorem six_big {l:List UInt8} (h:l.length=6):num6 l=-1∨100000≤num6 l:=by
 unfold num6
 cases hn:neatN l with
 | false=>exact .inl rfl
 | true =>
  rw [decide_eq_true (show l.length≤6 by omega)]
  refine .inr ?_
  show (100000:Int)≤((valL 0 l:Nat):Int)
  have hd:=dec_val _ l rfl hn
  by_cases hv:valL 0 l<10 ^ (4+1)
  ·have:=dec_len 4 _ hv
   rw [hd] at this
   omega
  ·have:(10:Nat) ^ (4+1)=100000:=rfl
   omega
theorem l2num_eq (s:ByteArray):F159 s=bif decide (s.size≤5) then num6 s.data.toList else -1:=by
 by_cases h:s.size≤5
 ·rw [decide_eq_true h,cond_true,← specNum_eq]
  unfold F159 F79
  rw [show F159_s0 s=F79_s0 s from funext (l2step s)]
  have e:decide (1≤(s.size:Int)∧(s.size:Int)≤5)=decide (1≤(s.size:Int)∧(s.size:Int)≤6):=by
   by_cases h0:1≤s.size
   ·rw [decide_eq_true (by omega),decide_eq_true (by omega)]
   ·rw [decide_eq_false (by omega),decide_eq_false (by omega)]
  rw [e]
 ·rw [decide_eq_false h,cond_false]
  unfold F159
  rw [decide_eq_false (show ¬ (1≤(s.size:Int)∧(s.size:Int)≤5) by omega)]; rfl
theorem l2num_low (s:ByteArray) (hi:Int) (hh:hi≤99999):decide (0≤F159 s∧F159 s≤hi)=decide (0≤num6 s.data.toList∧num6 s.data.toList≤hi)∧(decide (0≤num6 s.data.toList∧num6 s.data.toList≤hi)=true→F159 s=num6 s.data.toList):=by
 have hl:s.data.toList.length=s.size:=Array.length_toList
 rw [l2num_eq]
 by_cases h:s.size≤5
 ·rw [decide_eq_true h,cond_true]; exact ⟨rfl,fun _=>rfl⟩
 ·rw [decide_eq_false h,cond_false]
  have hb:num6 s.data.toList=-1∨100000≤num6 s.data.toList:=by
   by_cases h6:s.data.toList.length=6
   ·exact six_big h6
   ·refine .inl ?_
    unfold num6
    rw [decide_eq_false (show ¬ s.data.toList.length≤6 by omega),Bool.and_false]; rfl
  have e:decide (0≤num6 s.data.toList∧num6 s.data.toList≤hi)=false:=decide_eq_false (by omega)
  rw [e]
  exact ⟨rfl,fun h=>by cases h⟩
theorem l2addr_eq (s:ByteArray):F158 s=addrL s.data.toList:=by
 have hc:F157 s 46=(splitL 46 s.data.toList).map mkB:=specCut_eq s 46
 unfold F158 addrL
 rw [hc]
 cases splitL 46 s.data.toList with
 | nil=>rfl
 | cons a t=>cases t with
  | nil=>rfl
  | cons b t=>cases t with
   | nil =>
    have ha:=l2num_low (mkB a) 255 (by omega)
    have hb:=l2num_low (mkB b) 255 (by omega)
    rw [mkB_data] at ha hb
    show (bif (bif (!decide (0≤F159 (mkB a)∧F159 (mkB a)≤255)) then true else (!decide (0≤F159 (mkB b)∧F159 (mkB b)≤255))) then (-1) else (IntKind.i64.wrap ((IntKind.i64.wrap (256*F159 (mkB a)))+F159 (mkB b))))=bif in255 (num6 a)&&in255 (num6 b) then 256*num6 a+num6 b else -1
    rw [ha.1,hb.1]
    cases h1:decide (0≤num6 a∧num6 a≤255) with
    | false=>rw [show in255 (num6 a)=false from h1]; rfl
    | true=>cases h2:decide (0≤num6 b∧num6 b≤255) with
     | false=>rw [show in255 (num6 b)=false from h2,Bool.and_false]; rfl
     | true =>
      rw [show in255 (num6 a)=true from h1,show in255 (num6 b)=true from h2,ha.2 h1,hb.2 h2]
      exact wrap_addr _ _ h1 h2
   | cons c t =>
    have:(((List.map mkB (a :: b :: c :: t)).length:Int) != 2)=true:=by
     rw [bne_iff_ne]
     simp only [List.map_cons,List.length_cons,List.length_map]
     omega
    rw [this]; rfl
theorem specOk_eq (a n:Int) (ha:-1≤a∧a≤65535):F160 (⟨a,n⟩:NetPrefix)=(decide (0≤a)&&(in16 n&&(a.tmod (F151 n)==0))):=by
 unfold F160
 show (bif (bif (decide (0≤n∧n≤16)) then (decide (0≤a∧a≤65535)) else false) then ((a.tmod (F151 n))==0) else false)=_
 have e16:decide (0≤n∧n≤16)=in16 n:=rfl
 have e0:decide (0≤a∧a≤65535)=decide (0≤a):=by
  by_cases h0:0≤a
  ·rw [decide_eq_true h0,decide_eq_true (by omega)]
  ·rw [decide_eq_false h0,decide_eq_false (by omega)]
 rw [e16,e0]
 cases decide (0≤a) <;> cases in16 n <;> rfl
theorem specParse_eq (s:ByteArray):F115 s=match pfxL s.data.toList with | some (a,n)=>(⟨a,n⟩,true) | none=>(⟨0,0⟩,false):=by
 have hc:F157 s 47=(splitL 47 s.data.toList).map mkB:=specCut_eq s 47
 unfold F115 pfxL
 rw [hc]
 simp only [l2addr_eq]
 cases splitL 47 s.data.toList with
 | nil=>rfl
 | cons a t=>cases t with
  | nil=>rfl
  | cons b t=>cases t with
   | nil =>
    have hb:=l2num_low (mkB b) 16 (by omega)
    rw [mkB_data] at hb
    show (bif (!(F160 (⟨addrL (mkB a).data.toList,F159 (mkB b)⟩:NetPrefix))) then ((⟨0,0⟩:NetPrefix),false) else ((⟨addrL (mkB a).data.toList,F159 (mkB b)⟩:NetPrefix),true))=match pfx2 [a,b] with | some (a,n)=>(⟨a,n⟩,true) | none=>(⟨0,0⟩,false)
    rw [mkB_data,specOk_eq _ _ (addrL_ge a),pfx2]
    have e1:in16 (F159 (mkB b))=in16 (num6 b):=hb.1
    cases h16:in16 (num6 b) with
    | false =>
     rw [e1,h16,Bool.false_and,Bool.false_and,Bool.and_false]; rfl
    | true =>
     rw [e1,h16,hb.2 h16,Bool.true_and]
     cases decide (0≤addrL a)&&((addrL a).tmod (F151 (num6 b))==0) <;> rfl
   | cons c t =>
    have:(((List.map mkB (a :: b :: c :: t)).length:Int) != 2)=true:=by
     rw [bne_iff_ne]
     simp only [List.map_cons,List.length_cons,List.length_map]
     omega
    rw [this]; rfl
theorem parse_same (s:ByteArray):F115 s=F83 s:=(specParse_eq s).trans (implPfx_eq s).symm
theorem isConf_len (lines:List ByteArray) (h:(!(F81 lines))=false):lines.length≤16:=check_lenI lines (by unfold F81 at h; simpa using h)
theorem kc81 (lines:List ByteArray) {K_:Prop} (p0_:lines.length≤1048576) (p1_:∀ k:Nat,(lines.getD k default).size≤1048576) (k_:K_):(lines.length≤1048576∧(∀ k:Nat,(lines.getD k default).size≤1048576))∧(Imp (.l 1 eStr lines) (.l 1 eStr lines))∧K_:=⟨⟨p0_,p1_⟩,Imp.refl _,k_⟩
abbrev kh81 (lines:List ByteArray):Hint false Tryz.prog:=.call 81 (S81 lines) (ok81 lines) none
def F41 (lines:List ByteArray) (word:ByteArray):List (List ByteArray) :=
 bif (!(F81 lines)) then ([]:List (List ByteArray)) else (linesL lines word)
theorem fi41 (lines:List ByteArray) (word:ByteArray) (r:List (List ByteArray)) (hF:r=(F41 lines word)):(Imp (.l 1 (eL 1 eStr) r) (.l 1 (eL 1 eStr) (F41 lines word)))∧True:=by cases hF; exact ⟨Imp.refl _,trivial⟩
def S41 (R:List (List ByteArray)) (lines:List ByteArray) (word:ByteArray):Spec:=⟨[.r (.c (.l 1 eStr lines)),.r (.c (.v (.string word)))],.ow (.l 1 (eL 1 eStr) R),lines.length≤1048576∧(∀ k:Nat,(lines.getD k default).size≤1048576)⟩
theorem ok41 (lines:List ByteArray) (word:ByteArray):(S41 (F41 lines word) lines word).ok Tryz.prog 41 false :=
 fnG_ok mixed (fn:=Tryz.f41) (ct:=.seqk [(0,0)] .no (.seq (.seq (.reg [(1,kh81 lines)]) (.cond (.seq .no .no) .no)) (.seq (.reg [(2,kh82af lines word)]) .no))) Tryz.func41 (fun (hp:lines.length≤1048576∧(∀ k:Nat,(lines.getD k default).size≤1048576))=>have hpre0:=hp.1; have hpre1:=hp.2; kn lines fun _=>kc81 lines (by omega) (by first | assumption | exact hpre1 _ | exact fun k _=>hpre1 k | (intros; exact trivial) | (intros; exact Nat.zero_le _)) (ifb (!(F81 lines)) (fun h1=>(fun hF:(([]:List (List ByteArray)):List (List ByteArray))=(F41 lines word)=>ai ((Imp.nil 1 (eL 1 eStr)).trans (Imp.of_eq (congrArg (fun r:List (List ByteArray)=>Dat.l 1 (eL 1 eStr) r) hF))) trivial) (condT h1 rfl)) (fun h1=>kc82a lines word (by first | omega | assumption | exact isConf_len lines (by assumption)) (by first | omega | assumption | exact isConf_len lines (by assumption)) (by first | omega | assumption | exact isConf_len lines (by assumption)) (fun gv2=>fi41 lines word (linesL lines word) (condF h1 rfl))))) (by kernel_rfl)
def F75_s0 (lines:List ByteArray) (head:ByteArray):(List l52Cut×Int×List (l52Cut×Bool))→Lp (List l52Cut×Int×List (l52Cut×Bool)) (List l52Cut):=fun (out,i40,xs) =>
 bif (decide (i40<(xs.length:Int))) then (bif ((F77 (xs.getD i40.toNat default).1 0).toList==head.toList) then (.next ((out++[(xs.getD i40.toNat default).1]),(i40+1),(xs.set (i40).toNat ((xs.getD i40.toNat default).1,true)))) else (.next (out,(i40+1),xs))) else (.done (out,i40,xs))
def F75 (lines:List ByteArray) (head:ByteArray):List l52Cut :=
 (runL (F75_s0 lines head) (((((lines.map (fun l=>(⟨(F97 l).1⟩:l52Cut))).map hz).length:Int)-0).toNat+1) (([]:List l52Cut),0,((lines.map (fun l=>(⟨(F97 l).1⟩:l52Cut))).map hz))).fin (fun r=>r) (fun (out,i40,xs)=>out)
abbrev lN75_0 (lines:List ByteArray):Nat×(List l52Cut×Int×List (l52Cut×Bool)):=((((((lines.map (fun l=>(⟨(F97 l).1⟩:l52Cut))).map hz).length:Int)-0).toNat+1),(([]:List l52Cut),0,((lines.map (fun l=>(⟨(F97 l).1⟩:l52Cut))).map hz)))
abbrev lI75_0 (lines:List ByteArray) (m39:Nat) (out:List l52Cut) (i40:Int) (xs:List (l52Cut×Bool)):Prop:=Int.toNat ((xs.length:Int)-i40)<m39∧(∀ k:Nat,i40≤(k:Int)→(xs.getD k default).2=false)∧(out.length:Int)≤i40∧(0:Int)≤i40∧xs.length=((lines.map (fun l=>(⟨(F97 l).1⟩:l52Cut))).map hz).length
abbrev lX75_0 (lines:List ByteArray) (head:ByteArray):Lp (List l52Cut×Int×List (l52Cut×Bool)) (List l52Cut):=LpX (F75_s0 lines head) (lN75_0 lines)
abbrev lJ75_0 (lines:List ByteArray) (head:ByteArray) (i:Nat×(List l52Cut×Int×List (l52Cut×Bool))):Prop:=LpJ (F75_s0 lines head) (lN75_0 lines) i (lI75_0 lines i.1 i.2.1 i.2.2.1 i.2.2.2)
abbrev lH75_0 (lines:List ByteArray) (head:ByteArray) (i:Nat×(List l52Cut×Int×List (l52Cut×Bool))) (m39:Nat) (out:List l52Cut) (i40:Int) (xs:List (l52Cut×Bool)):Prop:=LpH (F75_s0 lines head) (lN75_0 lines) i m39 (out,i40,xs) (lI75_0 lines (m39+1) out i40 xs)
abbrev lE75_0 (head:ByteArray) (out:List l52Cut) (i40:Int) (xs:List (l52Cut×Bool)) (out_:List l52Cut) (i40_:Int) (xs_:List (l52Cut×Bool)) (K39:Prop):Prop:=(Rf (.string head))∧((.int .i64 i40:Value)=.int .i64 i40_)∧(Imp (.l 1 (encH 0 el52Cut) xs) (.l 1 (encH 0 el52Cut) xs_))∧(Imp (.l 1 el52Cut out) (.l 1 el52Cut out_))∧K39
theorem un75_0 (lines:List ByteArray) (head:ByteArray) (i:Nat×(List l52Cut×Int×List (l52Cut×Bool))) (h:lJ75_0 lines head i):lH75_0 lines head i (i.1-1) i.2.1 i.2.2.1 i.2.2.2:=⟨hd1 h.1 h.2.1,hd3 h.2.1,hd2 h.2.1,h.2.2⟩
theorem bk75_0 (lines:List ByteArray) (head:ByteArray) (i:Nat×(List l52Cut×Int×List (l52Cut×Bool))) (m39:Nat) (out:List l52Cut) (i40:Int) (xs:List (l52Cut×Bool)) (hl:m39<i.1) (e:runL (F75_s0 lines head) m39 (out,i40,xs)=lX75_0 lines head) (h:lI75_0 lines m39 out i40 xs):∃ j:Nat×(List l52Cut×Int×List (l52Cut×Bool)),lE75_0 head out i40 xs j.2.1 j.2.2.1 j.2.2.2 (lJ75_0 lines head j∧j.1<i.1):=⟨(m39,(out,i40,xs)),rfl,rfl,Imp.refl _,Imp.refl _,⟨e,h⟩,hl⟩
theorem fi75 (lines:List ByteArray) (head:ByteArray) (r:List l52Cut) (hF:r=(F75 lines head)):(Imp (.l 1 el52Cut r) (.l 1 el52Cut (F75 lines head)))∧True:=by cases hF; exact ⟨Imp.refl _,trivial⟩
def S75 (R:List l52Cut) (lines:List ByteArray) (head:ByteArray):Spec:=⟨[.r (.c (.l 1 eStr lines)),.r (.c (.v (.string head)))],.ow (.l 1 el52Cut R),lines.length≤16∧(∀ k:Nat,(lines.getD k default).size≤1048576)⟩
theorem ok75 (lines:List ByteArray) (head:ByteArray):(S75 (F75 lines head) lines head).ok Tryz.prog 75 :=
 fnG_ok mixed (fn:=Tryz.f75) (ct:=.seqk [(0,0)] .no (.seq (.reg [(1,kh65a lines)]) (.seq (.reg [(0,.dat (.l 1 el52Cut ([]:List l52Cut)))]) (.seq (.seqk [(5,0),(6,0)] .no (.blk (.loop (ι:=Nat×(List l52Cut×Int×List (l52Cut×Bool))) (fun i=>(fun (out:List l52Cut) (i40:Int) (xs:List (l52Cut×Bool))=>(⟨[(1,some (.v (.string head))),(5,some (.h 0 0)),(6,some (.h 1 0)),(7,some (.v (vI i40)))],[(0,some (.own 0 (.l 1 (encH 0 el52Cut) xs))),(1,some (.own 1 (.l 1 el52Cut out)))],2⟩:St)) i.2.1 i.2.2.1 i.2.2.2) (lJ75_0 lines head) (fun i=>i.1) (lN75_0 lines) (fun i=>(fun (out:List l52Cut) (i40:Int) (xs:List (l52Cut×Bool))=>(.seq (.seq .no (.cond .no .no)) (.seq (.blk (.seq (.reg [(2,.ix [.l 1 eStr (xs.getD i40.toNat default).1.w]),(4,kh77 (xs.getD i40.toNat default).1 0)]) (.cond (.reg [(3,.ix [.l 1 eStr (xs.getD i40.toNat default).1.w]),(4,.take (.l 1 (encH 0 el52Cut) (xs.set (i40).toNat ((xs.getD i40.toNat default).1,true)))),(6,.dat (.l 1 el52Cut (out++[(xs.getD i40.toNat default).1])))]) .no))) (.reg [(1,.bnd)])))) i.2.1 i.2.2.1 i.2.2.2)))) (.seq .no .no))))) Tryz.func75 (fun (hp:lines.length≤16∧(∀ k:Nat,(lines.getD k default).size≤1048576))=>have hpre0:=hp.1; have hpre1:=hp.2; kn lines fun _=>kc65a lines (by first | omega | (simp only [lens,ib] at*<;> omega)) (by first | assumption | exact hpre1 _ | exact fun k _=>hpre1 k | (intros; exact trivial) | (intros; exact Nat.zero_le _)) (ai (bokr 1 el52Cut ([]:List l52Cut) fun _=>rfl) (kn (lines.map (fun l=>(⟨(F97 l).1⟩:l52Cut))) fun _=>kn ([]:List l52Cut) fun _=>ai (ai (rfl:(.string head:Value)=.string head) (ai (rfl:(.int .i64 0:Value)=.int .i64 0) (ai ((Imp.toH _ _ _ _):Imp (.l 1 el52Cut (lines.map (fun l=>(⟨(F97 l).1⟩:l52Cut)))) (.l 1 (encH 0 el52Cut) ((lines.map (fun l=>(⟨(F97 l).1⟩:l52Cut))).map hz))) (ai (ir:Imp (.l 1 el52Cut ([]:List l52Cut)) (.l 1 el52Cut ([]:List l52Cut))) (And.intro rfl (ai (Nat.lt_succ_self _) (by refine ⟨?_,?_,?_,?_⟩ <;> first | omega | (simp only [lens,ib] at*<;> omega) | (intro k hk; first | exact hz_f _ _ | exact (by assumption:∀ k:Nat,i40≤(k:Int)→(xs.getD k default).2=false) _ (by first | omega | (simp only [lens,ib] at*<;> omega)) | (rw [getD_set_ne _ _ _ _ (by first | omega | (simp only [lens,ib] at*<;> omega))]; exact (by assumption:∀ k:Nat,i40≤(k:Int)→(xs.getD k default).2=false) _ (by first | omega | (simp only [lens,ib] at*<;> omega)))))):lJ75_0 lines head (lN75_0 lines)))))) (fun (i0:Nat×(List l52Cut×Int×List (l52Cut×Bool))) (hi0:lJ75_0 lines head i0)=>(fun (m0:Nat) (out:List l52Cut) (i40:Int) (xs:List (l52Cut×Bool)) (hh0:lH75_0 lines head i0 m0 out i40 xs)=>have hI0:=hh0.1; have hl0:=hh0.2.1; have _:=hh0.2.2.1; have _:=hh0.2.2.2.1; have _:=hh0.2.2.2.2.1; have _:=hh0.2.2.2.2.2.1; have _:=hh0.2.2.2.2.2.2; ifd (i40<(xs.length:Int)) (fun h2 _=>ai (by first | omega | (simp only [lens,ib] at*<;> omega):ib i40 xs) (ai (Imps.of_eq (encH_f 0 el52Cut (xs.getD i40.toNat default) (by exact (by assumption:∀ k:Nat,i40≤(k:Int)→(xs.getD k default).2=false) _ (by first | omega | (simp only [lens,ib] at*<;> omega))))) (kc77 (xs.getD i40.toNat default).1 0 (by first | omega | (simp only [lens,ib] at*<;> omega)) (ifb ((F77 (xs.getD i40.toNat default).1 0).toList==head.toList) (fun h3=>ai (by first | omega | (simp only [lens,ib] at*<;> omega):ib i40 xs) (ai (Imps.of_eq (encH_f 0 el52Cut (xs.getD i40.toNat default) (by exact (by assumption:∀ k:Nat,i40≤(k:Int)→(xs.getD k default).2=false) _ (by first | omega | (simp only [lens,ib] at*<;> omega))))) (ai (SetOK.take2 el52Cut xs 0 (by exact (by assumption:∀ k:Nat,i40≤(k:Int)→(xs.getD k default).2=false) _ (by first | omega | (simp only [lens,ib] at*<;> omega))) rfl rfl:SetOK (.l 1 (encH 0 el52Cut) xs) (i40).toNat (el52Cut (xs.getD i40.toNat default).1) [.any] (.l 1 (encH 0 el52Cut) (xs.set (i40).toNat ((xs.getD i40.toNat default).1,true)))) (ai (appr 1 el52Cut out [(xs.getD i40.toNat default).1] fun _=>rfl) (ai (by (simp only [lens] at *); omega:(out++[(xs.getD i40.toNat default).1]).length*24≤140737488355328) (ai (iok (i40+1) (by first | omega | (simp only [lens,ib] at*<;> omega))) (bk75_0 lines head i0 m0 (out++[(xs.getD i40.toNat default).1]) (i40+1) (xs.set (i40).toNat ((xs.getD i40.toNat default).1,true)) hl0 (runL_next hI0 (condT h2 (condT h3 rfl))) (by refine ⟨?_,?_,?_,?_,?_⟩ <;> first | omega | (simp only [lens,ib] at*<;> omega) | (intro k hk; first | exact hz_f _ _ | exact (by assumption:∀ k:Nat,i40≤(k:Int)→(xs.getD k default).2=false) _ (by first | omega | (simp only [lens,ib] at*<;> omega)) | (rw [getD_set_ne _ _ _ _ (by first | omega | (simp only [lens,ib] at*<;> omega))]; exact (by assumption:∀ k:Nat,i40≤(k:Int)→(xs.getD k default).2=false) _ (by first | omega | (simp only [lens,ib] at*<;> omega)))))))))))) (fun h3=>ai (iok (i40+1) (by first | omega | (simp only [lens,ib] at*<;> omega))) (bk75_0 lines head i0 m0 out (i40+1) xs hl0 (runL_next hI0 (condT h2 (condF h3 rfl))) (by refine ⟨?_,?_,?_,?_,?_⟩ <;> first | omega | (simp only [lens,ib] at*<;> omega) | (intro k hk; first | exact hz_f _ _ | exact (by assumption:∀ k:Nat,i40≤(k:Int)→(xs.getD k default).2=false) _ (by first | omega | (simp only [lens,ib] at*<;> omega)) | (rw [getD_set_ne _ _ _ _ (by first | omega | (simp only [lens,ib] at*<;> omega))]; exact (by assumption:∀ k:Nat,i40≤(k:Int)→(xs.getD k default).2=false) _ (by first | omega | (simp only [lens,ib] at*<;> omega))))))))))) (fun h2 _=>have hD0_4:lX75_0 lines head=Lp.done (out,i40,xs):=runL_done hI0 (condF h2 rfl); fi75 lines head out (finD hD0_4 rfl))) (i0.1-1) i0.2.1 i0.2.2.1 i0.2.2.2 (un75_0 lines head i0 hi0))))) (by kernel_rfl)
theorem check_neat (lines:List ByteArray) (h:F31 lines=0):F64 lines=0:=by
 unfold F31 at h
 cases hn:(F64 lines != 0) with
 | true=>rw [hn,cond_true] at h; rw [h] at hn; exact absurd hn (by decide)
 | false=>simpa using hn
theorem check_neatI (lines:List ByteArray) (h:F119 lines=0):F64 lines=0:=check_neat lines (by rw [← check_same]; exact h)
def confL (lines:List ByteArray) (word:ByteArray):List (List ByteArray):=bif (F119 lines==0) then linesL lines word else []
theorem as41 (lines:List ByteArray) (word:ByteArray):F41 lines word=(confL lines word):=by
 unfold F41 F81 confL
 cases (F119 lines==0) <;> rfl
theorem confL_cases (lines:List ByteArray) (word:ByteArray):(F119 lines=0∧F64 lines=0∧confL lines word=linesL lines word)∨confL lines word=[]:=by
 unfold confL
 cases h:(F119 lines==0) with
 | true=>have h0:=eq_of_beq h; exact .inl ⟨h0,check_neatI lines h0,rfl⟩
 | false=>exact .inr rfl
theorem confL_len (lines:List ByteArray) (word:ByteArray):(confL lines word).length≤16:=by
 rcases confL_cases lines word with ⟨_,h,e⟩ | e
 ·rw [e]; exact linesL_len lines word (neat_len lines h)
 ·rw [e]; exact Nat.zero_le _
theorem confL_sz (lines:List ByteArray) (word:ByteArray) (k j:Nat):(((confL lines word).getD k default).getD j default).size≤1048576:=by
 rcases confL_cases lines word with ⟨_,h,e⟩ | e
 ·rw [e]; exact linesL_sz lines word h k j
 ·rw [e]; exact Nat.zero_le _
theorem conf_port (lines:List ByteArray) (k:Nat) (hk:k<(confL lines (⟨#[112,111,114,116]⟩:ByteArray)).length):portP ((confL lines (⟨#[112,111,114,116]⟩:ByteArray)).getD k default):=by
 rcases confL_cases lines (⟨#[112,111,114,116]⟩:ByteArray) with ⟨_,h,e⟩ | e
 ·rw [e] at hk ⊢; exact port_at lines h k hk
 ·rw [e] at hk; exact absurd hk (Nat.not_lt_zero _)
def ofL (lines:List ByteArray) (head:ByteArray):List l52Cut:=(lines.map (fun l=>(⟨(F97 l).1⟩:l52Cut))).filter fun c=>((F77 c 0).toList==head.toList)
theorem set_same {α:Type} [Inhabited α] (xs:List α) (k:Nat):xs.set k (xs.getD k default)=xs:=by
 apply List.ext_getElem?
 intro i
 rw [List.getElem?_set]
 by_cases h:k=i
 ·subst h
  rw [if_pos rfl]
  by_cases hk:k<xs.length
  ·rw [if_pos hk,List.getD_eq_getElem?_getD,List.getElem?_eq_getElem hk]; rfl
  ·rw [if_neg hk,List.getElem?_eq_none (by omega)]
 ·rw [if_neg h]
theorem take_filter_succ {α:Type} [Inhabited α] (p:α→Bool) (xs:List α) (k:Nat) (hk:k<xs.length):(xs.take (k+1)).filter p=bif p (xs.getD k default) then (xs.take k).filter p++[xs.getD k default] else (xs.take k).filter p:=by
 rw [List.take_add_one,List.filter_append,List.getElem?_eq_getElem hk,Option.toList_some]
 have e:xs.getD k default=xs[k]:=by rw [List.getD_eq_getElem?_getD,List.getElem?_eq_getElem hk]; rfl
 rw [e]
 cases h:p xs[k] with
 | true=>rw [List.filter_cons_of_pos h]; rfl
 | false=>rw [List.filter_cons_of_neg (by simp [h])]; simp
theorem as75 (lines:List ByteArray) (head:ByteArray):F75 lines head=(ofL lines head):=by
 unfold F75 ofL
 generalize (lines.map (fun l=>(⟨(F97 l).1⟩:l52Cut)))=cuts
 have e:Int.toNat (((cuts.map hz).length:Int)-0)+1=cuts.length+1:=by rw [List.length_map]; omega
 rw [e]
 have h:=runL_rule (step:=F75_s0 lines head) (fun (k:Nat) (s:List l52Cut×List (l52Cut×Bool))=>(s.1,(k:Int),s.2)) cuts.length
  (fun k s=>s.2.map Prod.fst=cuts∧s.1=(cuts.take k).filter fun c=>((F77 c 0).toList==head.toList)) (fun _=>False)
  (fun k s hk hs=>.inl ⟨(bif ((F77 (cuts.getD k default) 0).toList==head.toList) then (s.1++[cuts.getD k default],s.2.set k (cuts.getD k default,true)) else s),by
   have hl:s.2.length=cuts.length:=by rw [← hs.1,List.length_map]
   have hcx:(s.2.getD k default).1=cuts.getD k default:=by rw [← hs.1]; exact (getD_mapG Prod.fst s.2 k (by omega)).symm
   simp only [F75_s0,ltD (show k<s.2.length by omega),cond_true,nn,hcx]
   cases ((F77 (cuts.getD k default) 0).toList==head.toList) <;> rfl,by
   have hl:s.2.length=cuts.length:=by rw [← hs.1,List.length_map]
   refine ⟨?_,?_⟩
   ·cases ((F77 (cuts.getD k default) 0).toList==head.toList) with
    | false=>exact hs.1
    | true =>
     show (s.2.set k (cuts.getD k default,true)).map Prod.fst=cuts
     rw [List.map_set,hs.1]
     exact set_same cuts k
   ·rw [take_filter_succ _ cuts k hk,← hs.2]
    cases ((F77 (cuts.getD k default) 0).toList==head.toList) <;> rfl⟩)
  (fun s hs=>by
   have hl:s.2.length=cuts.length:=by rw [← hs.1,List.length_map]
   simp only [F75_s0,hl,geD,cond_false]) cuts.length 0 ([],cuts.map hz) (by omega) ⟨by rw [List.map_map]; exact List.map_id _,rfl⟩ (cuts.length+1) (by omega)
 rcases h with ⟨s',e1,h1,h2⟩ | ⟨r,_,hr⟩
 ·rw [show (([]:List l52Cut),(0:Int),cuts.map hz)=(([]:List l52Cut),((0:Nat):Int),cuts.map hz) from rfl,e1]
  show s'.1=_
  rw [h2,List.take_length]
 ·exact hr.elim
theorem ofL_len (lines:List ByteArray) (head:ByteArray) (h:lines.length≤16):(ofL lines head).length≤16:=by
 have:=List.length_filter_le (fun c:l52Cut=>((F77 c 0).toList==head.toList)) (lines.map (fun l=>(⟨(F97 l).1⟩:l52Cut)))
 rw [List.length_map] at this
 unfold ofL
 omega
theorem ofL_sz (lines:List ByteArray) (head:ByteArray) (hz:∀ k:Nat,(lines.getD k default).size≤1048576):∀ k j:Nat,(((ofL lines head).getD k default).w.getD j default).size≤1048576:=fun k j=>by
 by_cases hk:k<(ofL lines head).length
 ·have hm:=(List.mem_filter.1 (getD_mem _ hk)).1
  obtain ⟨i,hi,e⟩:=mem_getD hm
  have:=cuts_sz lines hz i j
  rw [e] at this
  exact this
 ·rw [getD_ge (ofL lines head) (by omega)]; exact Nat.zero_le _
theorem of_same (lines:List ByteArray) (h:F64 lines=0) (head:ByteArray):ofL lines head=(linesL lines head).map l52Cut.mk:=by
 unfold ofL
 rw [cuts_ws,linesL_ws lines h,List.filter_map]
 congr 1
 refine List.filter_congr fun w _=>?_
 show ((F77 ⟨w⟩ 0).toList==head.toList)=hdB w head.data.toList
 rw [at0,byteToList,byteToList]; rfl
def T41 (R:List (List ByteArray)) (lines:List ByteArray) (word:ByteArray):Spec:=⟨(S41 R lines word).args,(S41 R lines word).res,lines.length≤1048576∧(∀ k:Nat,(lines.getD k default).size≤1048576)⟩
theorem oa41 (lines:List ByteArray) (word:ByteArray):(T41 (confL lines word) lines word).ok Tryz.prog 41 false:=by
 intro hp; have h:=ok41 lines word hp; rw [as41 lines word] at h; exact h
def T75 (R:List l52Cut) (lines:List ByteArray) (head:ByteArray):Spec:=⟨(S75 R lines head).args,(S75 R lines head).res,lines.length≤16∧(∀ k:Nat,(lines.getD k default).size≤1048576)⟩
theorem oa75 (lines:List ByteArray) (head:ByteArray):(T75 (ofL lines head) lines head).ok Tryz.prog 75:=by
 intro hp; have h:=ok75 lines head hp; rw [as75 lines head] at h; exact h
def F42 (word:ByteArray):NetPrefix :=
 (⟨(F83 word).1.Addr,(F83 word).1.Len⟩:NetPrefix)
theorem fi42 (word:ByteArray) (r:NetPrefix) (hF:r=(F42 word)):((.int .i64 r.Addr:Value)=.int .i64 (F42 word).Addr)∧((.int .i64 r.Len:Value)=.int .i64 (F42 word).Len)∧True:=by cases hF; exact ⟨rfl,rfl,trivial⟩
def S42 (word:ByteArray):Spec:=⟨[.r (.c (.v (.string word)))],.ag [.v (vI (F42 word).Addr),.v (vI (F42 word).Len)],word.size≤1048576⟩
theorem ok42 (word:ByteArray):(S42 word).ok Tryz.prog 42 false :=
 fnG_ok mixed (fn:=Tryz.f42) (ct:=.seq .no (.seq (.reg [(1,kh83 word)]) (.seq .no .no))) Tryz.func42 (fun (hpre0:word.size≤1048576)=>kc83 word (by omega) (fi42 word (⟨(F83 word).1.Addr,(F83 word).1.Len⟩:NetPrefix) rfl)) (by kernel_rfl)
structure TernPort where
 Port:Int
 Addr:Int
 Len:Int
 List:ByteArray
 deriving DecidableEq,Inhabited
def eTernPort (x:TernPort):List Dat:=[.v (vI x.Port),.v (vI x.Addr),.v (vI x.Len),.v (.string x.List)]
theorem kc41a (lines:List ByteArray) (word:ByteArray) {K_:Prop} (p0_:lines.length≤1048576) (p1_:∀ k:Nat,(lines.getD k default).size≤1048576) (k_:((confL lines word).length≤16)→K_):(lines.length≤1048576∧(∀ k:Nat,(lines.getD k default).size≤1048576))∧(Imp (.l 1 eStr lines) (.l 1 eStr lines))∧(Imp (.v (.string word)) (.v (.string word)))∧K_:=⟨⟨p0_,p1_⟩,Imp.refl _,Imp.refl _,k_ (confL_len lines word)⟩
abbrev kh41a (lines:List ByteArray) (word:ByteArray):Hint false Tryz.prog:=.call 41 (T41 (confL lines word) lines word) (oa41 lines word) none
theorem kc42 (word:ByteArray) {K_:Prop} (p0_:word.size≤1048576) (k_:K_):(word.size≤1048576)∧(Imp (.v (.string word)) (.v (.string word)))∧K_:=⟨p0_,Imp.refl _,k_⟩
abbrev kh42 (word:ByteArray):Hint false Tryz.prog:=.call 42 (S42 word) (ok42 word) none
def F33_j2 (lines:List ByteArray) (out:List TernPort) (v12:Int):Lp ByteArray (List TernPort) :=
 bif (decide ((((confL lines (⟨#[112,111,114,116]⟩:ByteArray)).getD v12.toNat default).length:Int)>4)) then (.done (((confL lines (⟨#[112,111,114,116]⟩:ByteArray)).getD v12.toNat default).getD (Int.toNat 4) default)) else (.done (⟨#[]⟩:ByteArray))
def F33_s0 (lines:List ByteArray):(List TernPort×Int)→Lp (List TernPort×Int) (List TernPort):=fun (out,v12) =>
 bif (decide (v12<((confL lines (⟨#[112,111,114,116]⟩:ByteArray)).length:Int))) then ((F33_j2 lines out v12).fin Lp.ret (fun port=>.next ((out++[(⟨(F44 (((confL lines (⟨#[112,111,114,116]⟩:ByteArray)).getD v12.toNat default).getD (Int.toNat 1) default)),(F42 (((confL lines (⟨#[112,111,114,116]⟩:ByteArray)).getD v12.toNat default).getD (Int.toNat 2) default)).Addr,(F42 (((confL lines (⟨#[112,111,114,116]⟩:ByteArray)).getD v12.toNat default).getD (Int.toNat 2) default)).Len,port⟩:TernPort)]),(v12+1)))) else (.done (out,v12))
def F33 (lines:List ByteArray):List TernPort :=
 (runL (F33_s0 lines) ((((confL lines (⟨#[112,111,114,116]⟩:ByteArray)).length:Int)-0).toNat+1) (([]:List TernPort),0)).fin (fun r=>r) (fun (out,v12)=>out)
abbrev jJ33_2 (lines:List ByteArray) (out:List TernPort) (v12:Int) (j:ByteArray):Prop:=(F33_j2 lines out v12)=Lp.done j
theorem jn33_2 (lines:List ByteArray) (out:List TernPort) (v12:Int) (port:ByteArray) (e:(F33_j2 lines out v12)=Lp.done port):∃ j:ByteArray,((.int .i64 ((confL lines (⟨#[112,111,114,116]⟩:ByteArray)).length:Int):Value)=.int .i64 ((confL lines (⟨#[112,111,114,116]⟩:ByteArray)).length:Int))∧((.int .i64 v12:Value)=.int .i64 v12)∧(Imp (.l 4 eTernPort out) (.l 4 eTernPort out))∧((.int .i64 (F44 (((confL lines (⟨#[112,111,114,116]⟩:ByteArray)).getD v12.toNat default).getD (Int.toNat 1) default)):Value)=.int .i64 (F44 (((confL lines (⟨#[112,111,114,116]⟩:ByteArray)).getD v12.toNat default).getD (Int.toNat 1) default)))∧((.int .i64 (F42 (((confL lines (⟨#[112,111,114,116]⟩:ByteArray)).getD v12.toNat default).getD (Int.toNat 2) default)).Addr:Value)=.int .i64 (F42 (((confL lines (⟨#[112,111,114,116]⟩:ByteArray)).getD v12.toNat default).getD (Int.toNat 2) default)).Addr)∧((.int .i64 (F42 (((confL lines (⟨#[112,111,114,116]⟩:ByteArray)).getD v12.toNat default).getD (Int.toNat 2) default)).Len:Value)=.int .i64 (F42 (((confL lines (⟨#[112,111,114,116]⟩:ByteArray)).getD v12.toNat default).getD (Int.toNat 2) default)).Len)∧((.string port:Value)=.string j)∧(Imp (.l 1 (eL 1 eStr) (confL lines (⟨#[112,111,114,116]⟩:ByteArray))) (.l 1 (eL 1 eStr) (confL lines (⟨#[112,111,114,116]⟩:ByteArray))))∧jJ33_2 lines out v12 j:=⟨port,rfl,rfl,Imp.refl _,rfl,rfl,rfl,rfl,Imp.refl _,e⟩
abbrev lN33_0 (lines:List ByteArray):Nat×(List TernPort×Int):=(((((confL lines (⟨#[112,111,114,116]⟩:ByteArray)).length:Int)-0).toNat+1),(([]:List TernPort),0))
abbrev lI33_0 (lines:List ByteArray) (m39:Nat) (out:List TernPort) (v12:Int):Prop:=Int.toNat (((confL lines (⟨#[112,111,114,116]⟩:ByteArray)).length:Int)-v12)<m39∧(out.length:Int)≤v12∧(0:Int)≤v12
abbrev lX33_0 (lines:List ByteArray):Lp (List TernPort×Int) (List TernPort):=LpX (F33_s0 lines) (lN33_0 lines)
abbrev lJ33_0 (lines:List ByteArray) (i:Nat×(List TernPort×Int)):Prop:=LpJ (F33_s0 lines) (lN33_0 lines) i (lI33_0 lines i.1 i.2.1 i.2.2)
abbrev lH33_0 (lines:List ByteArray) (i:Nat×(List TernPort×Int)) (m39:Nat) (out:List TernPort) (v12:Int):Prop:=LpH (F33_s0 lines) (lN33_0 lines) i m39 (out,v12) (lI33_0 lines (m39+1) out v12)
abbrev lE33_0 (lines:List ByteArray) (out:List TernPort) (v12:Int) (out_:List TernPort) (v12_:Int) (K39:Prop):Prop:=(Rf (.int .i64 ((confL lines (⟨#[112,111,114,116]⟩:ByteArray)).length:Int)))∧((.int .i64 v12:Value)=.int .i64 v12_)∧(Imp (.l 4 eTernPort out) (.l 4 eTernPort out_))∧(Im (.l 1 (eL 1 eStr) (confL lines (⟨#[112,111,114,116]⟩:ByteArray))))∧K39
theorem un33_0 (lines:List ByteArray) (i:Nat×(List TernPort×Int)) (h:lJ33_0 lines i):lH33_0 lines i (i.1-1) i.2.1 i.2.2:=⟨hd1 h.1 h.2.1,hd3 h.2.1,hd2 h.2.1,h.2.2⟩
theorem bk33_0 (lines:List ByteArray) (i:Nat×(List TernPort×Int)) (m39:Nat) (out:List TernPort) (v12:Int) (hl:m39<i.1) (e:runL (F33_s0 lines) m39 (out,v12)=lX33_0 lines) (h:lI33_0 lines m39 out v12):∃ j:Nat×(List TernPort×Int),lE33_0 lines out v12 j.2.1 j.2.2 (lJ33_0 lines j∧j.1<i.1):=⟨(m39,(out,v12)),rfl,rfl,Imp.refl _,Imp.refl _,⟨e,h⟩,hl⟩
theorem en33_0 (lines:List ByteArray) (h:(([]:List TernPort).length:Int)≤0∧(0:Int)≤0):lE33_0 lines ([]:List TernPort) 0 ([]:List TernPort) 0 (lJ33_0 lines (lN33_0 lines)):=⟨rfl,rfl,Imp.refl _,Imp.refl _,rfl,Nat.lt_succ_self _,h⟩
theorem fi33 (lines:List ByteArray) (r:List TernPort) (hF:r=(F33 lines)):(Imp (.l 4 eTernPort r) (.l 4 eTernPort (F33 lines)))∧True:=by cases hF; exact ⟨Imp.refl _,trivial⟩
def S33 (lines:List ByteArray):Spec:=⟨[.r (.c (.l 1 eStr lines))],.ow (.l 4 eTernPort (F33 lines)),lines.length≤1048576∧(∀ k:Nat,(lines.getD k default).size≤1048576)⟩
theorem ok33 (lines:List ByteArray):(S33 lines).ok Tryz.prog 33 false :=
 fnG_ok mixed (fn:=Tryz.f33) (ct:=.seqk [(0,0)] .no (.seq (.reg [(0,.dat (.l 4 eTernPort ([]:List TernPort)))]) (.seq (.seqk [(3,0),(10,0)] (.reg [(1,kh41a lines (⟨#[112,111,114,116]⟩:ByteArray))]) (.blk (.loop (ι:=Nat×(List TernPort×Int)) (fun i=>(fun (out:List TernPort) (v12:Int)=>(⟨[(3,some (.h 0 0)),(10,some (.h 1 0)),(11,some (.v (vI ((confL lines (⟨#[112,111,114,116]⟩:ByteArray)).length:Int)))),(12,some (.v (vI v12)))],[(0,some (.own 0 (.l 4 eTernPort out))),(1,some (.own 1 (.l 1 (eL 1 eStr) (confL lines (⟨#[112,111,114,116]⟩:ByteArray)))))],2⟩:St)) i.2.1 i.2.2) (lJ33_0 lines) (fun i=>i.1) (lN33_0 lines) (fun i=>(fun (out:List TernPort) (v12:Int)=>(.seq .no (.seq (.cond .no .no) (.seq (.blk (.seq .no (.seq (.reg [(3,kh42 (((confL lines (⟨#[112,111,114,116]⟩:ByteArray)).getD v12.toNat default).getD (Int.toNat 2) default))]) (.seq (.reg [(3,kh44 (((confL lines (⟨#[112,111,114,116]⟩:ByteArray)).getD v12.toNat default).getD (Int.toNat 1) default))]) (.cut (ι:=ByteArray) (fun j=>(fun (port:ByteArray)=>(⟨[(3,some (.h 0 0)),(7,some (.p 1 0)),(10,some (.h 2 0)),(11,some (.v (vI ((confL lines (⟨#[112,111,114,116]⟩:ByteArray)).length:Int)))),(12,some (.v (vI v12)))],[(0,some (.own 0 (.l 4 eTernPort out))),(1,some (.box 52 [.v (vI (F44 (((confL lines (⟨#[112,111,114,116]⟩:ByteArray)).getD v12.toNat default).getD (Int.toNat 1) default))),.v (vI (F42 (((confL lines (⟨#[112,111,114,116]⟩:ByteArray)).getD v12.toNat default).getD (Int.toNat 2) default)).Addr),.v (vI (F42 (((confL lines (⟨#[112,111,114,116]⟩:ByteArray)).getD v12.toNat default).getD (Int.toNat 2) default)).Len),.v (.string port)])),(2,some (.own 2 (.l 1 (eL 1 eStr) (confL lines (⟨#[112,111,114,116]⟩:ByteArray)))))],3⟩:St)) j) (jJ33_2 lines out v12) (.seq .no (.cond .no .no)) (fun j=>(fun (port:ByteArray)=>(.reg [(3,.dat (.l 4 eTernPort (out++[(⟨(F44 (((confL lines (⟨#[112,111,114,116]⟩:ByteArray)).getD v12.toNat default).getD (Int.toNat 1) default)),(F42 (((confL lines (⟨#[112,111,114,116]⟩:ByteArray)).getD v12.toNat default).getD (Int.toNat 2) default)).Addr,(F42 (((confL lines (⟨#[112,111,114,116]⟩:ByteArray)).getD v12.toNat default).getD (Int.toNat 2) default)).Len,port⟩:TernPort)])))])) j)))))) (.reg [(0,.bnd)]))))) i.2.1 i.2.2)))) (.seq .no .no)))) Tryz.func33 (fun (hp:lines.length≤1048576∧(∀ k:Nat,(lines.getD k default).size≤1048576))=>have hpre0:=hp.1; have hpre1:=hp.2; kn lines fun _=>ai (bokr 4 eTernPort ([]:List TernPort) fun _=>rfl) (kc41a lines (⟨#[112,111,114,116]⟩:ByteArray) (by first | omega | (simp only [lens,ib] at*<;> omega)) (by first | assumption | exact hpre1 _ | exact fun k _=>hpre1 k | (intros; exact trivial) | (intros; exact Nat.zero_le _)) (fun gv1=>kn ([]:List TernPort) fun _=>kn (confL lines (⟨#[112,111,114,116]⟩:ByteArray)) fun _=>ai (en33_0 lines (by refine ⟨?_,?_⟩ <;> first | omega | (simp only [lens,ib] at*<;> omega))) (fun (i0:Nat×(List TernPort×Int)) (hi0:lJ33_0 lines i0)=>(fun (m0:Nat) (out:List TernPort) (v12:Int) (hh0:lH33_0 lines i0 m0 out v12)=>have hI0:=hh0.1; have hl0:=hh0.2.1; have _:=hh0.2.2.1; have _:=hh0.2.2.2; ifd (v12<((confL lines (⟨#[112,111,114,116]⟩:ByteArray)).length:Int)) (fun h3 _=>ai (by (first | omega | (have h9:=conf_port lines v12.toNat (by first | omega | (simp only [lens,ib] at*<;> omega)); unfold portP at h9; omega)):0≤v12∧v12<((confL lines (⟨#[112,111,114,116]⟩:ByteArray)).length:Int)) (ai (by (first | omega | (have h9:=conf_port lines v12.toNat (by first | omega | (simp only [lens,ib] at*<;> omega)); unfold portP at h9; omega)):0≤(2:Int)∧(2:Int)<(((confL lines (⟨#[112,111,114,116]⟩:ByteArray)).getD v12.toNat default).length:Int)) (kc42 (((confL lines (⟨#[112,111,114,116]⟩:ByteArray)).getD v12.toNat default).getD (Int.toNat 2) default) (by exact confL_sz lines _ _ _) (ai (by (first | omega | (have h9:=conf_port lines v12.toNat (by first | omega | (simp only [lens,ib] at*<;> omega)); unfold portP at h9; omega)):0≤(1:Int)∧(1:Int)<(((confL lines (⟨#[112,111,114,116]⟩:ByteArray)).getD v12.toNat default).length:Int)) (kc44 (((confL lines (⟨#[112,111,114,116]⟩:ByteArray)).getD v12.toNat default).getD (Int.toNat 1) default) (by exact confL_sz lines _ _ _) (ai (ifd ((((confL lines (⟨#[112,111,114,116]⟩:ByteArray)).getD v12.toNat default).length:Int)>4) (fun h4 _=>ai (by (first | omega | (have h9:=conf_port lines v12.toNat (by first | omega | (simp only [lens,ib] at*<;> omega)); unfold portP at h9; omega)):0≤(4:Int)∧(4:Int)<(((confL lines (⟨#[112,111,114,116]⟩:ByteArray)).getD v12.toNat default).length:Int)) (jn33_2 lines out v12 (((confL lines (⟨#[112,111,114,116]⟩:ByteArray)).getD v12.toNat default).getD (Int.toNat 4) default) (Eq.symm (condT h4 rfl)) )) (fun h4 _=>jn33_2 lines out v12 (⟨#[]⟩:ByteArray) (Eq.symm (condF h4 rfl)) )) (fun (j:ByteArray) (hj:jJ33_2 lines out v12 j)=>(fun (port:ByteArray) (hJ2_5:(F33_j2 lines out v12)=Lp.done port)=>ai (appr 4 eTernPort out [(⟨(F44 (((confL lines (⟨#[112,111,114,116]⟩:ByteArray)).getD v12.toNat default).getD (Int.toNat 1) default)),(F42 (((confL lines (⟨#[112,111,114,116]⟩:ByteArray)).getD v12.toNat default).getD (Int.toNat 2) default)).Addr,(F42 (((confL lines (⟨#[112,111,114,116]⟩:ByteArray)).getD v12.toNat default).getD (Int.toNat 2) default)).Len,port⟩:TernPort)] fun _=>rfl) (ai (by (try simp only [lens]); omega:(out++[(⟨(F44 (((confL lines (⟨#[112,111,114,116]⟩:ByteArray)).getD v12.toNat default).getD (Int.toNat 1) default)),(F42 (((confL lines (⟨#[112,111,114,116]⟩:ByteArray)).getD v12.toNat default).getD (Int.toNat 2) default)).Addr,(F42 (((confL lines (⟨#[112,111,114,116]⟩:ByteArray)).getD v12.toNat default).getD (Int.toNat 2) default)).Len,port⟩:TernPort)]).length*40≤140737488355328) (ai (iok (v12+1) (by first | omega | (simp only [lens,ib] at*<;> omega))) (bk33_0 lines i0 m0 (out++[(⟨(F44 (((confL lines (⟨#[112,111,114,116]⟩:ByteArray)).getD v12.toNat default).getD (Int.toNat 1) default)),(F42 (((confL lines (⟨#[112,111,114,116]⟩:ByteArray)).getD v12.toNat default).getD (Int.toNat 2) default)).Addr,(F42 (((confL lines (⟨#[112,111,114,116]⟩:ByteArray)).getD v12.toNat default).getD (Int.toNat 2) default)).Len,port⟩:TernPort)]) (v12+1) hl0 (runL_next hI0 (condT h3 (finD hJ2_5 rfl))) (by refine ⟨?_,?_,?_⟩ <;> first | omega | (simp only [lens,ib] at*<;> omega)))))) j hj))))))) (fun h3 _=>have hD0_6:lX33_0 lines=Lp.done (out,v12):=runL_done hI0 (condF h3 rfl); fi33 lines out (finD hD0_6 rfl))) (i0.1-1) i0.2.1 i0.2.2 (un33_0 lines i0 hi0))))) (by kernel_rfl)
theorem kc115 (text:ByteArray) {K_:Prop} (p0_:text.size≤1048576) (k_:K_):(text.size≤1048576)∧(Imp (.v (.string text)) (.v (.string text)))∧K_:=⟨p0_,Imp.refl _,k_⟩
abbrev kh115 (text:ByteArray):Hint true Tryz.prog:=.call 115 (S115 text) (ok115 text) none
def F76 (word:ByteArray):NetPrefix :=
 (⟨(F115 word).1.Addr,(F115 word).1.Len⟩:NetPrefix)
theorem fi76 (word:ByteArray) (r:NetPrefix) (hF:r=(F76 word)):((.int .i64 r.Addr:Value)=.int .i64 (F76 word).Addr)∧((.int .i64 r.Len:Value)=.int .i64 (F76 word).Len)∧True:=by cases hF; exact ⟨rfl,rfl,trivial⟩
def S76 (word:ByteArray):Spec:=⟨[.r (.c (.v (.string word)))],.ag [.v (vI (F76 word).Addr),.v (vI (F76 word).Len)],word.size≤1048576⟩
theorem ok76 (word:ByteArray):(S76 word).ok Tryz.prog 76 :=
 fnG_ok mixed (fn:=Tryz.f76) (ct:=.seq .no (.seq (.reg [(1,kh115 word)]) (.seq .no .no))) Tryz.func76 (fun (hpre0:word.size≤1048576)=>kc115 word (by omega) (fi76 word (⟨(F115 word).1.Addr,(F115 word).1.Len⟩:NetPrefix) rfl)) (by kernel_rfl)
theorem kc75a (lines:List ByteArray) (head:ByteArray) {K_:Prop} (p0_:lines.length≤16) (p1_:∀ k:Nat,(lines.getD k default).size≤1048576) (q0_:lines.length≤16) (k_:((ofL lines head).length≤16)→K_):(lines.length≤16∧(∀ k:Nat,(lines.getD k default).size≤1048576))∧(Imp (.l 1 eStr lines) (.l 1 eStr lines))∧(Imp (.v (.string head)) (.v (.string head)))∧K_:=⟨⟨p0_,p1_⟩,Imp.refl _,Imp.refl _,k_ (ofL_len lines head q0_)⟩
abbrev kh75a (lines:List ByteArray) (head:ByteArray):Hint true Tryz.prog:=.call 75 (T75 (ofL lines head) lines head) (oa75 lines head) none
theorem kc76 (word:ByteArray) {K_:Prop} (p0_:word.size≤1048576) (k_:K_):(word.size≤1048576)∧(Imp (.v (.string word)) (.v (.string word)))∧K_:=⟨p0_,Imp.refl _,k_⟩
abbrev kh76 (word:ByteArray):Hint true Tryz.prog:=.call 76 (S76 word) (ok76 word) none
def F71_s0 (lines:List ByteArray):(List TernPort×Int)→Lp (List TernPort×Int) (List TernPort):=fun (out,i40) =>
 bif (decide (i40<((ofL lines (⟨#[112,111,114,116]⟩:ByteArray)).length:Int))) then (.next ((out++[(⟨(F79 (F77 ((ofL lines (⟨#[112,111,114,116]⟩:ByteArray)).getD i40.toNat default) 1)),(F76 (F77 ((ofL lines (⟨#[112,111,114,116]⟩:ByteArray)).getD i40.toNat default) 2)).Addr,(F76 (F77 ((ofL lines (⟨#[112,111,114,116]⟩:ByteArray)).getD i40.toNat default) 2)).Len,(F77 ((ofL lines (⟨#[112,111,114,116]⟩:ByteArray)).getD i40.toNat default) 4)⟩:TernPort)]),(i40+1))) else (.done (out,i40))
def F71 (lines:List ByteArray):List TernPort :=
 (runL (F71_s0 lines) ((((ofL lines (⟨#[112,111,114,116]⟩:ByteArray)).length:Int)-0).toNat+1) (([]:List TernPort),0)).fin (fun r=>r) (fun (out,i40)=>out)
abbrev lN71_0 (lines:List ByteArray):Nat×(List TernPort×Int):=(((((ofL lines w7_).length:Int)-0).toNat+1),(([]:List TernPort),0))
abbrev lI71_0 (lines:List ByteArray) (m39:Nat) (out:List TernPort) (i40:Int):Prop:=Int.toNat (((ofL lines w7_).length:Int)-i40)<m39∧(out.length:Int)≤i40∧(0:Int)≤i40
abbrev lX71_0 (lines:List ByteArray):Lp (List TernPort×Int) (List TernPort):=LpX (F71_s0 lines) (lN71_0 lines)
abbrev lJ71_0 (lines:List ByteArray) (i:Nat×(List TernPort×Int)):Prop:=LpJ (F71_s0 lines) (lN71_0 lines) i (lI71_0 lines i.1 i.2.1 i.2.2)
abbrev lH71_0 (lines:List ByteArray) (i:Nat×(List TernPort×Int)) (m39:Nat) (out:List TernPort) (i40:Int):Prop:=LpH (F71_s0 lines) (lN71_0 lines) i m39 (out,i40) (lI71_0 lines (m39+1) out i40)
abbrev lE71_0 (lines:List ByteArray) (out:List TernPort) (i40:Int) (out_:List TernPort) (i40_:Int) (K39:Prop):Prop:=((.int .i64 i40:Value)=.int .i64 i40_)∧(Im (.l 1 el52Cut (ofL lines w7_)))∧(Imp (.l 4 eTernPort out) (.l 4 eTernPort out_))∧K39
theorem un71_0 (lines:List ByteArray) (i:Nat×(List TernPort×Int)) (h:lJ71_0 lines i):lH71_0 lines i (i.1-1) i.2.1 i.2.2:=⟨hd1 h.1 h.2.1,hd3 h.2.1,hd2 h.2.1,h.2.2⟩
theorem bk71_0 (lines:List ByteArray) (i:Nat×(List TernPort×Int)) (m39:Nat) (out:List TernPort) (i40:Int) (hl:m39<i.1) (e:runL (F71_s0 lines) m39 (out,i40)=lX71_0 lines) (h:lI71_0 lines m39 out i40):∃ j:Nat×(List TernPort×Int),lE71_0 lines out i40 j.2.1 j.2.2 (lJ71_0 lines j∧j.1<i.1):=⟨(m39,(out,i40)),rfl,Imp.refl _,Imp.refl _,⟨e,h⟩,hl⟩
theorem en71_0 (lines:List ByteArray) (h:(([]:List TernPort).length:Int)≤0∧(0:Int)≤0):lE71_0 lines ([]:List TernPort) 0 ([]:List TernPort) 0 (lJ71_0 lines (lN71_0 lines)):=⟨rfl,Imp.refl _,Imp.refl _,rfl,Nat.lt_succ_self _,h⟩
theorem fi71 (lines:List ByteArray) (r:List TernPort) (hF:r=(F71 lines)):(Imp (.l 4 eTernPort r) (.l 4 eTernPort (F71 lines)))∧True:=by cases hF; exact ⟨Imp.refl _,trivial⟩
def S71 (lines:List ByteArray):Spec:=⟨[.r (.c (.l 1 eStr lines))],.ow (.l 4 eTernPort (F71 lines)),lines.length≤16∧(∀ k:Nat,(lines.getD k default).size≤1048576)⟩
theorem ok71 (lines:List ByteArray):(S71 lines).ok Tryz.prog 71 :=
 fnG_ok mixed (fn:=Tryz.f71) (ct:=.seqk [(0,0)] .no (.seq (.reg [(1,kh75a lines w7_)]) (.seq (.reg [(0,.dat (.l 4 eTernPort ([]:List TernPort)))]) (.seq (.seqk [(3,0),(4,0)] .no (.blk (.loop (ι:=Nat×(List TernPort×Int)) (fun i=>(fun (out:List TernPort) (i40:Int)=>(⟨[(3,some (.h 0 0)),(4,some (.h 1 0)),(5,some (.v (vI i40)))],[(0,some (.own 0 (.l 1 el52Cut (ofL lines w7_)))),(1,some (.own 1 (.l 4 eTernPort out)))],2⟩:St)) i.2.1 i.2.2) (lJ71_0 lines) (fun i=>i.1) (lN71_0 lines) (fun i=>(fun (out:List TernPort) (i40:Int)=>(.seq (.seq .no (.cond .no .no)) (.seq (.blk (.seq (.reg [(4,kh77 ((ofL lines w7_).getD i40.toNat default) 2),(5,kh76 (F77 ((ofL lines w7_).getD i40.toNat default) 2))]) (.reg [(5,kh77 ((ofL lines w7_).getD i40.toNat default) 1),(6,kh79 (F77 ((ofL lines w7_).getD i40.toNat default) 1)),(15,kh77 ((ofL lines w7_).getD i40.toNat default) 4),(18,.dat (.l 4 eTernPort (out++[(⟨(F79 (F77 ((ofL lines w7_).getD i40.toNat default) 1)),(F76 (F77 ((ofL lines w7_).getD i40.toNat default) 2)).Addr,(F76 (F77 ((ofL lines w7_).getD i40.toNat default) 2)).Len,(F77 ((ofL lines w7_).getD i40.toNat default) 4)⟩:TernPort)])))]))) (.reg [(1,.bnd)])))) i.2.1 i.2.2)))) (.seq .no .no))))) Tryz.func71 (fun (hp:lines.length≤16∧(∀ k:Nat,(lines.getD k default).size≤1048576))=>have hpre0:=hp.1; have hpre1:=hp.2; kn lines fun _=>kc75a lines w7_ (by first | omega | (simp only [lens,ib] at*<;> omega)) (by first | assumption | exact hpre1 _ | exact fun k _=>hpre1 k | (intros; exact trivial) | (intros; exact Nat.zero_le _)) (by first | omega | (simp only [lens,ib] at*<;> omega)) (fun gv1=>ai (bokr 4 eTernPort ([]:List TernPort) fun _=>rfl) (kn (ofL lines w7_) fun _=>kn ([]:List TernPort) fun _=>ai (en71_0 lines (by refine ⟨?_,?_⟩ <;> first | omega | (simp only [lens,ib] at*<;> omega))) (fun (i0:Nat×(List TernPort×Int)) (hi0:lJ71_0 lines i0)=>(fun (m0:Nat) (out:List TernPort) (i40:Int) (hh0:lH71_0 lines i0 m0 out i40)=>have hI0:=hh0.1; have hl0:=hh0.2.1; have _:=hh0.2.2.1; have _:=hh0.2.2.2; ifd (i40<((ofL lines w7_).length:Int)) (fun h3 _=>ai (by first | omega | (simp only [lens,ib] at*<;> omega):ib i40 (ofL lines w7_)) (kc77 ((ofL lines w7_).getD i40.toNat default) 2 (by first | omega | (simp only [lens,ib] at*<;> omega)) (kc76 (F77 ((ofL lines w7_).getD i40.toNat default) 2) (by exact at_sz _ (ofL_sz lines _ (by assumption)) _ _) (ai (by first | omega | (simp only [lens,ib] at*<;> omega):ib i40 (ofL lines w7_)) (kc77 ((ofL lines w7_).getD i40.toNat default) 1 (by first | omega | (simp only [lens,ib] at*<;> omega)) (kc79 (F77 ((ofL lines w7_).getD i40.toNat default) 1) (by exact at_sz _ (ofL_sz lines _ (by assumption)) _ _) (ai (by first | omega | (simp only [lens,ib] at*<;> omega):ib i40 (ofL lines w7_)) (kc77 ((ofL lines w7_).getD i40.toNat default) 4 (by first | omega | (simp only [lens,ib] at*<;> omega)) (ai (appr 4 eTernPort out [(⟨(F79 (F77 ((ofL lines w7_).getD i40.toNat default) 1)),(F76 (F77 ((ofL lines w7_).getD i40.toNat default) 2)).Addr,(F76 (F77 ((ofL lines w7_).getD i40.toNat default) 2)).Len,(F77 ((ofL lines w7_).getD i40.toNat default) 4)⟩:TernPort)] fun _=>rfl) (ai (by (try simp only [lens]); omega:(out++[(⟨(F79 (F77 ((ofL lines w7_).getD i40.toNat default) 1)),(F76 (F77 ((ofL lines w7_).getD i40.toNat default) 2)).Addr,(F76 (F77 ((ofL lines w7_).getD i40.toNat default) 2)).Len,(F77 ((ofL lines w7_).getD i40.toNat default) 4)⟩:TernPort)]).length*40≤140737488355328) (ai (iok (i40+1) (by first | omega | (simp only [lens,ib] at*<;> omega))) (bk71_0 lines i0 m0 (out++[(⟨(F79 (F77 ((ofL lines w7_).getD i40.toNat default) 1)),(F76 (F77 ((ofL lines w7_).getD i40.toNat default) 2)).Addr,(F76 (F77 ((ofL lines w7_).getD i40.toNat default) 2)).Len,(F77 ((ofL lines w7_).getD i40.toNat default) 4)⟩:TernPort)]) (i40+1) hl0 (runL_next hI0 (condT h3 rfl)) (by refine ⟨?_,?_,?_⟩ <;> first | omega | (simp only [lens,ib] at*<;> omega)))))))))))))) (fun h3 _=>have hD0_4:lX71_0 lines=Lp.done (out,i40):=runL_done hI0 (condF h3 rfl); fi71 lines out (finD hD0_4 rfl))) (i0.1-1) i0.2.1 i0.2.2 (un71_0 lines i0 hi0))))) (by kernel_rfl)
def portT (w:List ByteArray):TernPort:=⟨num6 (w.getD 1 default).data.toList,(F83 (w.getD 2 default)).1.Addr,(F83 (w.getD 2 default)).1.Len,w.getD 4 default⟩
theorem tports_eq (lines:List ByteArray):F33 lines=(confL lines (⟨#[112,111,114,116]⟩:ByteArray)).map portT:=by
 unfold F33
 have:=fold_loop0 (confL lines (⟨#[112,111,114,116]⟩:ByteArray)) (fun (s:List TernPort) w=>s++[portT w]) (fun s i=>(s,i)) (F33_s0 lines) (fun i s hi=>by
  simp only [F33_s0,ltD hi,cond_true,nn,F42,number_eq]
  unfold F33_j2
  simp only [nn]
  by_cases h:(((confL lines (⟨#[112,111,114,116]⟩:ByteArray)).getD i default).length:Int)>4
  ·rw [decide_eq_true h]; rfl
  ·rw [decide_eq_false h,portT,getD_ge ((confL lines (⟨#[112,111,114,116]⟩:ByteArray)).getD i default) (k:=4) (by omega)]; rfl) (fun s=>by simp only [F33_s0,geD,cond_false]) (fun r=>r) (fun (out,v12)=>out) []
 refine this.trans ?_
 rw [foldl_map',List.nil_append]
def portS (c:l52Cut):TernPort:=⟨F79 (F77 c 1),(F115 (F77 c 2)).1.Addr,(F115 (F77 c 2)).1.Len,F77 c 4⟩
theorem lports_eq (lines:List ByteArray):F71 lines=(ofL lines (⟨#[112,111,114,116]⟩:ByteArray)).map portS:=by
 unfold F71
 have:=fold_loop0 (ofL lines (⟨#[112,111,114,116]⟩:ByteArray)) (fun (s:List TernPort) w=>s++[portS w]) (fun s i=>(s,i)) (F71_s0 lines) (fun i s hi=>by
  simp only [F71_s0,ltD hi,cond_true,nn,F76]; rfl) (fun s=>by simp only [F71_s0,geD,cond_false]) (fun r=>r) (fun (out,i40)=>out) []
 refine this.trans ?_
 rw [foldl_map',List.nil_append]
theorem lports_len (lines:List ByteArray) (h:lines.length≤16):(F71 lines).length≤16:=by
 rw [lports_eq,List.length_map]; exact ofL_len lines _ h
theorem portS_mk (w:List ByteArray):portS ⟨w⟩=portT w:=by
 unfold portS portT
 rw [at1,at2,at4,specNum_eq,parse_same]
theorem lports_same (lines:List ByteArray) (h:F64 lines=0):F71 lines=(linesL lines (⟨#[112,111,114,116]⟩:ByteArray)).map portT:=by
 rw [lports_eq,of_same lines h,List.map_map]
 exact List.map_congr_left fun w _=>portS_mk w
theorem tports_len (lines:List ByteArray):(F33 lines).length≤16:=by
 rw [tports_eq,List.length_map]; exact confL_len _ _
theorem tports_b (lines:List ByteArray):∀ k:Nat,0≤((F33 lines).getD k default).Len∧((F33 lines).getD k default).Len≤16:=fun k=>by
 by_cases hk:k<(F33 lines).length
 ·have hm:=getD_mem _ hk
  rw [tports_eq] at hm
  obtain ⟨w,_,e⟩:=List.mem_map.1 hm
  rw [tports_eq,← e]
  exact ⟨(netParse_b _).1,(netParse_b _).2.1⟩
 ·rw [getD_ge _ (by omega)]; exact ⟨by decide,by decide⟩
def insL {α:Type} (less:α→α→Bool) (v:α):List α→List α
 | []=>[v]
 | x :: xs=>bif less x v then x :: insL less v xs else v :: x :: xs
def posL {α:Type} (less:α→α→Bool) (v:α):List α→Nat
 | []=>0
 | x :: xs=>bif less x v then posL less v xs+1 else 0
theorem posL_le {α:Type} (less:α→α→Bool) (v:α):∀ xs:List α,posL less v xs≤xs.length
 | []=>Nat.le_refl _
 | x :: xs=>by
  simp only [posL,List.length_cons]
  have:=posL_le less v xs
  cases less x v <;> simp only [cond_true,cond_false] <;> omega
theorem insL_eq {α:Type} (less:α→α→Bool) (v:α):∀ xs:List α,xs.take (posL less v xs)++[v]++xs.drop (posL less v xs)=insL less v xs
 | []=>rfl
 | x :: xs=>by
  simp only [posL,insL]
  cases less x v with
  | false=>rfl
  | true =>
   simp only [cond_true,List.take_succ_cons,List.drop_succ_cons,List.cons_append]
   rw [insL_eq less v xs]
theorem posL_below {α:Type} [Inhabited α] (less:α→α→Bool) (v:α):∀ (xs:List α) (k:Nat),k<posL less v xs→less (xs.getD k default) v=true
 | [],k,h=>absurd h (Nat.not_lt_zero _)
 | x :: xs,k,h=>by
  simp only [posL] at h
  cases hl:less x v with
  | false=>rw [hl,cond_false] at h; exact absurd h (Nat.not_lt_zero _)
  | true =>
   rw [hl,cond_true] at h
   cases k with
   | zero=>exact hl
   | succ k=>exact posL_below less v xs k (by omega)
theorem posL_at {α:Type} [Inhabited α] (less:α→α→Bool) (v:α):∀ (xs:List α),posL less v xs<xs.length→less (xs.getD (posL less v xs) default) v=false
 | [],h=>absurd h (Nat.not_lt_zero _)
 | x :: xs,h=>by
  simp only [posL] at h ⊢
  cases hl:less x v with
  | false=>exact hl
  | true =>
   rw [hl] at h
   exact posL_at less v xs (by simp only [cond_true,List.length_cons] at h; omega)
theorem pos_loop {α ρ:Type} [Inhabited α] (less:α→α→Bool) (v:α) (xs:List α) (step:Int→Lp Int ρ)
  (hs:∀ k,step k=bif (bif decide (k<(xs.length:Int)) then less (xs.getD k.toNat default) v else false) then .next (k+1) else .done k) :
  runL step (Int.toNat ((xs.length:Int)-0)+1) 0=.done ((posL less v xs:Nat):Int):=by
 have hle:=posL_le less v xs
 have hr:=runL_rule (step:=step) (fun (k:Nat) (_:Unit)=>((k:Nat):Int)) (posL less v xs) (fun _ _=>True) (fun _=>False)
  (fun k _ hk _=>.inl ⟨(),by
   rw [hs,ltD (show k<xs.length by omega),cond_true,nn,posL_below less v xs k hk]; rfl,trivial⟩)
  (fun _ _=>by
   rw [hs]
   rcases Nat.lt_or_ge (posL less v xs) xs.length with h | h
   ·rw [ltD h,cond_true,nn,posL_at less v xs h]; rfl
   ·rw [decide_eq_false (by omega)]; rfl)
  (posL less v xs) 0 () (by omega) trivial (Int.toNat ((xs.length:Int)-0)+1) (by omega)
 rcases hr with ⟨_,hr,_⟩ | ⟨_,_,hr⟩
 ·exact hr
 ·exact hr.elim
theorem insL_perm {α:Type} (less:α→α→Bool) (v:α):∀ xs:List α,(insL less v xs).Perm (v :: xs)
 | []=>List.Perm.refl _
 | x :: xs=>by
  simp only [insL]
  cases less x v with
  | false=>exact List.Perm.refl _
  | true=>exact (List.Perm.cons x (insL_perm less v xs)).trans (List.Perm.swap v x xs)
theorem insL_pw {α:Type} {cf:α→α→Int} {less:α→α→Bool} {vs:List α} (h:SortPre cf vs) (hl:∀ a∈vs,∀ b∈vs,less a b=decide (cf a b<0)) {v:α} (hv:v∈vs):∀ xs:List α,(∀ x∈xs,x∈vs)→(xs.Pairwise fun x y=>¬ cf y x<0)→(insL less v xs).Pairwise fun x y=>¬ cf y x<0
 | [],_,_=>List.pairwise_singleton _ _
 | x :: xs,hx,hp=>by
  obtain ⟨h1,h2⟩:=List.pairwise_cons.1 hp
  have hxv:=hx x List.mem_cons_self
  simp only [insL]
  cases e:less x v with
  | true =>
   have e':cf x v<0:=by have:=hl x hxv v hv; rw [e] at this; exact of_decide_eq_true this.symm
   refine List.pairwise_cons.2 ⟨fun y hy=>?_,insL_pw h hl hv xs (fun z hz=>hx z (List.mem_cons_of_mem _ hz)) h2⟩
   rcases List.mem_cons.1 ((insL_perm less v xs).subset hy) with rfl | hy
   ·exact fun hc=>h.irr _ hxv (h.tr _ hxv _ hv _ hxv e' hc)
   ·exact h1 y hy
  | false =>
   have e':¬ cf x v<0:=by have:=hl x hxv v hv; rw [e] at this; exact of_decide_eq_false this.symm
   refine List.pairwise_cons.2 ⟨fun y hy=>?_,hp⟩
   rcases List.mem_cons.1 hy with rfl | hy
   ·exact e'
   ·exact h.ntr _ (hx y (List.mem_cons_of_mem _ hy)) _ hxv _ hv (h1 y hy) e'
theorem fold_ins {α:Type} [Inhabited α] {cf:α→α→Int} {less:α→α→Bool} {vs:List α} (h:SortPre cf vs) (hl:∀ a∈vs,∀ b∈vs,less a b=decide (cf a b<0)):vs.foldl (fun out v=>insL less v out) []=sortL cf vs:=by
 have key:∀ (ws out:List α),(∀ x∈ws,x∈vs)→(∀ x∈out,x∈vs)→(out.Pairwise fun x y=>¬ cf y x<0)→(ws.foldl (fun out v=>insL less v out) out).Perm (ws++out)∧(ws.foldl (fun out v=>insL less v out) out).Pairwise fun x y=>¬ cf y x<0:=by
  intro ws
  induction ws with
  | nil=>exact fun out _ _ hp=>⟨List.Perm.refl _,hp⟩
  | cons w ws ih =>
   intro out hw ho hp
   have hwv:=hw w List.mem_cons_self
   obtain ⟨k1,k2⟩:=ih (insL less w out) (fun x hx=>hw x (List.mem_cons_of_mem _ hx)) (fun x hx=>by
    rcases List.mem_cons.1 ((insL_perm less w out).subset hx) with rfl | hx
    ·exact hwv
    ·exact ho x hx) (insL_pw h hl hwv out ho hp)
   refine ⟨k1.trans ?_,k2⟩
   refine ((insL_perm less w out).append_left ws).trans ?_
   exact List.perm_middle
 obtain ⟨k1,k2⟩:=key vs [] (fun x hx=>hx) (fun x hx=>by cases hx) List.Pairwise.nil
 rw [List.append_nil] at k1
 exact sortL_unique h k1 k2
end Go.Proofs.YtcgfkhokhiggkaaGreatDoor
