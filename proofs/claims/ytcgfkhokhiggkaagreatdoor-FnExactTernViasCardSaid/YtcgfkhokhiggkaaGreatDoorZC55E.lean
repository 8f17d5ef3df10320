/- A part of the proof of FnExactTernVias. Texts put together: VCKC, VCKD, PCE0, PCE1, PCE2, PCHA, VCH, PCH, VSZ, PSZ, VTA, PTA, VTB, PTB, PTS, VTV0, POR, PTV0. -/
import Derived.Test.YtcgfkhokhiggkaaGreatDoorRows
import Derived.Test.YtcgfkhokhiggkaaGreatDoorZC55D
namespace Go.Proofs.YtcgfkhokhiggkaaGreatDoor
open Go.RowKit
set_option maxRecDepth 100000
set_option linter.unusedVariables false
set_option linter.unusedSimpArgs false
def T194 (R:List Qb) (lines:List ByteArray):Spec:=⟨(S194 R lines).args,(S194 R lines).res,F64 lines=0∧lines.length≤16∧(∀ k:Nat,(lines.getD k default).size≤1048576)⟩
theorem oa194 (lines:List ByteArray):(T194 (Qo lines) lines).ok Tryz.prog 194 false:=by
 intro hp; have h:=ok194 lines hp; rw [as194 lines] at h; exact h
def T65 (R:List l52Cut) (lines:List ByteArray):Spec:=⟨(S65 R lines).args,(S65 R lines).res,lines.length≤16∧(∀ k:Nat,(lines.getD k default).size≤1048576)⟩
theorem oa65 (lines:List ByteArray):(T65 (lines.map (fun l=>(⟨(F97 l).1⟩:l52Cut))) lines).ok Tryz.prog 65:=by
 intro hp; have h:=ok65 lines hp; rw [as65 lines] at h; exact h
def F222 (p:Qb):Int :=
 (IntKind.i64.wrap ((IntKind.i64.wrap (p.Addr+(F168 p)))-1))
def S222 (p:Qb):Spec:=⟨[.r (.g (Qk p))],.v (vI (F222 p)),0≤p.Len∧p.Len≤16⟩
theorem ok222 (p:Qb):(S222 p).ok Tryz.prog 222 :=
 Qi mixed (fn:=Tryz.f222) (ct:=.seq .no (.seq (.reg [(3,kh168 p)]) .no)) Tryz.func222 (fun (hp:0≤p.Len∧p.Len≤16)=>have hpre0:=hp.1; have hpre1:=hp.2; kc168 p (by omega) (by omega) (by omega) (by omega) (fun gv1 gv2=>fiI (IntKind.i64.wrap ((IntKind.i64.wrap (p.Addr+(F168 p)))-1)) (F222 p) rfl)) (by kernel_rfl)
theorem kc222 (p:Qb) {K_:Prop} (p0_:0≤p.Len) (p1_:p.Len≤16) (k_:K_):(0≤p.Len∧p.Len≤16)∧(Imps (Qk p) (Qk p))∧K_:=⟨⟨p0_,p1_⟩,Imps.refl _,k_⟩
abbrev kh222 (p:Qb):Hint true Tryz.prog:=.call 222 (S222 p) (ok222 p) none
def F199 (p:Qb) (addr:Int):Bool :=
 (decide (p.Addr≤addr∧addr≤(F222 p)))
def S199 (p:Qb) (addr:Int):Spec:=⟨[.r (.g (Qk p)),.r (.c (.v (vI addr)))],.v (.bool (F199 p addr)),0≤p.Len∧p.Len≤16⟩
theorem Uev (p:Qb) (addr:Int):(S199 p addr).ok Tryz.prog 199 :=
 Qi mixed (fn:=Tryz.f199) (ct:=.seq .no (.seq (.reg [(4,kh222 p),(5,Qvd addr p.Addr (F222 p))]) .no)) Tryz.func199 (fun (hp:0≤p.Len∧p.Len≤16)=>have hpre0:=hp.1; have hpre1:=hp.2; kc222 p (by omega) (by omega) (Qlx addr p.Addr (F222 p) (fiB (decide (p.Addr≤addr∧addr≤(F222 p))) (F199 p addr) rfl))) (by kernel_rfl)
theorem kc199 (p:Qb) (addr:Int) {K_:Prop} (p0_:0≤p.Len) (p1_:p.Len≤16) (k_:K_):(0≤p.Len∧p.Len≤16)∧(Imps (Qk p) (Qk p))∧(Imp (.v (vI addr)) (.v (vI addr)))∧K_:=⟨⟨p0_,p1_⟩,Imps.refl _,Imp.refl _,k_⟩
theorem kg199 {K_:Prop} (c_ b_:Bool) (p:Qb) (addr:Int) (p_:c_=b_→0≤p.Len∧p.Len≤16) (k_:K_):(c_=b_→0≤p.Len∧p.Len≤16)∧(c_=b_→Imps (Qk p) (Qk p))∧(c_=b_→Imp (.v (vI addr)) (.v (vI addr)))∧K_:=⟨p_,fun _=>Imps.refl _,fun _=>Imp.refl _,k_⟩
abbrev kh199 (p:Qb) (addr:Int):Hint true Tryz.prog:=.call 199 (S199 p addr) (Uev p addr) none
def F195 (p:Qb) (q:Qb):Bool :=
 (bif decide (q.Len≤p.Len) then (F199 q p.Addr) else false)
def S195 (p:Qb) (q:Qb):Spec:=⟨[.r (.g (Qk p)),.r (.g (Qk q))],.v (.bool (F195 p q)),0≤q.Len∧q.Len≤16⟩
theorem ok195 (p:Qb) (q:Qb):(S195 p q).ok Tryz.prog 195 :=
 Qi mixed (fn:=Tryz.f195) (ct:=.seq .no (.seq (.reg [(9,kh199 q p.Addr)]) .no)) Tryz.func195 (fun (hp:0≤q.Len∧q.Len≤16)=>have hpre0:=hp.1; have hpre1:=hp.2; kg199 (decide (q.Len≤p.Len)) true q p.Addr (fun k1=>have _:=of_decide_eq_true k1; ⟨(by omega),(by omega)⟩) (fiB (bif decide (q.Len≤p.Len) then (F199 q p.Addr) else false) (F195 p q) rfl)) (by kernel_rfl)
theorem Uel (lines:List ByteArray) {K_:Prop} (p0_:F64 lines=0) (p1_:lines.length≤16) (p2_:∀ k:Nat,(lines.getD k default).size≤1048576) (k_:K_):(F64 lines=0∧lines.length≤16∧(∀ k:Nat,(lines.getD k default).size≤1048576))∧(Imp (.l 1 eStr lines) (.l 1 eStr lines))∧K_:=⟨⟨p0_,p1_,p2_⟩,Imp.refl _,k_⟩
abbrev Qxu (lines:List ByteArray):Hint false Tryz.prog:=.call 194 (T194 (Qo lines) lines) (oa194 lines) none
def Vh (lines:List ByteArray) (v12:Int):Int→Lp Int Bool:=fun v21 =>
 bif (decide (v21<(((Qo lines).take (Int.toNat v12)).length:Int))) then (bif (bif (F195 ⟨((Qo lines).getD (Int.toNat v12) default).Addr,((Qo lines).getD (Int.toNat v12) default).Len⟩ ⟨(((Qo lines).take (Int.toNat v12)).getD (Int.toNat v21) default).Addr,(((Qo lines).take (Int.toNat v12)).getD (Int.toNat v21) default).Len⟩) then true else (F195 ⟨(((Qo lines).take (Int.toNat v12)).getD (Int.toNat v21) default).Addr,(((Qo lines).take (Int.toNat v12)).getD (Int.toNat v21) default).Len⟩ ⟨((Qo lines).getD (Int.toNat v12) default).Addr,((Qo lines).getD (Int.toNat v12) default).Len⟩)) then (.ret true) else (.next (v21+1))) else (.done v21)
def Ju (lines:List ByteArray):Int→Lp Int Bool:=fun v12 =>
 bif (decide (v12<((Qo lines).length:Int))) then ((runL (Vh lines v12) ((Int.toNat ((((Qo lines).take (Int.toNat v12)).length:Int)-0))+1) 0).fin Lp.ret (fun v21=>.next (v12+1))) else (.done v12)
def F164 (lines:List ByteArray):Bool :=
 (runL (Ju lines) ((Int.toNat (((Qo lines).length:Int)-0))+1) 0).fin (fun r=>r) (fun v12=>false)
abbrev Ng (lines:List ByteArray) (v12:Int):Nat×Int:=(((Int.toNat ((((Qo lines).take (Int.toNat v12)).length:Int)-0))+1),0)
abbrev Qim (lines:List ByteArray) (v12:Int) (m39:Nat) (v21:Int):Prop:=Int.toNat ((((Qo lines).take (Int.toNat v12)).length:Int)-v21)<m39∧(0:Int)≤v21
abbrev Qsv (lines:List ByteArray) (v12:Int):Lp Int Bool:=LpX (Vh lines v12) (Ng lines v12)
abbrev Pe (lines:List ByteArray) (v12:Int) (i:Nat×Int):Prop:=LpJ (Vh lines v12) (Ng lines v12) i (Qim lines v12 i.1 i.2)
abbrev Qta (lines:List ByteArray) (v12:Int) (i:Nat×Int) (m39:Nat) (v21:Int):Prop:=LpH (Vh lines v12) (Ng lines v12) i m39 v21 (Qim lines v12 (m39+1) v21)
abbrev Qvs (lines:List ByteArray) (v12:Int) (v21:Int) (v21_:Int) (K39:Prop):Prop:=(Rf (.int .i64 ((Qo lines).length:Int)))∧(Rf (.int .i64 v12))∧(Rf (.int .i64 (((Qo lines).take (Int.toNat v12)).length:Int)))∧((.int .i64 v21:Value)=.int .i64 v21_)∧(Im (.l 2 Qk (Qo lines)))∧(Rf (.int .i64 ((Qo lines).getD (Int.toNat v12) default).Addr))∧(Rf (.int .i64 ((Qo lines).getD (Int.toNat v12) default).Len))∧(Im (.l 2 Qk ((Qo lines).take (Int.toNat v12))))∧K39
theorem Uib (lines:List ByteArray) (v12:Int) (i:Nat×Int) (h:Pe lines v12 i):Qta lines v12 i (i.1-1) i.2:=⟨hd1 h.1 h.2.1,hd3 h.2.1,hd2 h.2.1,h.2.2⟩
theorem Ugk (lines:List ByteArray) (v12:Int) (i:Nat×Int) (m39:Nat) (v21:Int) (hl:m39<i.1) (e:runL (Vh lines v12) m39 v21=Qsv lines v12) (h:Qim lines v12 m39 v21):∃ j:Nat×Int,Qvs lines v12 v21 j.2 (Pe lines v12 j∧j.1<i.1):=⟨(m39,v21),rfl,rfl,rfl,rfl,Imp.refl _,rfl,rfl,Imp.refl _,⟨e,h⟩,hl⟩
theorem Ukm (lines:List ByteArray) (v12:Int) (h:(0:Int)≤0):Qvs lines v12 0 0 (Pe lines v12 (Ng lines v12)):=⟨rfl,rfl,rfl,rfl,Imp.refl _,rfl,rfl,Imp.refl _,rfl,Nat.lt_succ_self _,h⟩
abbrev Mf (lines:List ByteArray):Nat×Int:=(((Int.toNat (((Qo lines).length:Int)-0))+1),0)
abbrev Qin (lines:List ByteArray) (m39:Nat) (v12:Int):Prop:=Int.toNat (((Qo lines).length:Int)-v12)<m39∧(0:Int)≤v12
abbrev Qpt (lines:List ByteArray):Lp Int Bool:=LpX (Ju lines) (Mf lines)
abbrev Nx (lines:List ByteArray) (i:Nat×Int):Prop:=LpJ (Ju lines) (Mf lines) i (Qin lines i.1 i.2)
abbrev Quq (lines:List ByteArray) (i:Nat×Int) (m39:Nat) (v12:Int):Prop:=LpH (Ju lines) (Mf lines) i m39 v12 (Qin lines (m39+1) v12)
abbrev Qug (lines:List ByteArray) (v12:Int) (v12_:Int) (K39:Prop):Prop:=(Rf (.int .i64 ((Qo lines).length:Int)))∧((.int .i64 v12:Value)=.int .i64 v12_)∧(Im (.l 2 Qk (Qo lines)))∧K39
theorem Ujp (lines:List ByteArray) (i:Nat×Int) (h:Nx lines i):Quq lines i (i.1-1) i.2:=⟨hd1 h.1 h.2.1,hd3 h.2.1,hd2 h.2.1,h.2.2⟩
theorem Ujj (lines:List ByteArray) (i:Nat×Int) (m39:Nat) (v12:Int) (hl:m39<i.1) (e:runL (Ju lines) m39 v12=Qpt lines) (h:Qin lines m39 v12):∃ j:Nat×Int,Qug lines v12 j.2 (Nx lines j∧j.1<i.1):=⟨(m39,v12),rfl,rfl,Imp.refl _,⟨e,h⟩,hl⟩
theorem Uhx (lines:List ByteArray) (h:(0:Int)≤0):Qug lines 0 0 (Nx lines (Mf lines)):=⟨rfl,rfl,Imp.refl _,rfl,Nat.lt_succ_self _,h⟩
def S164 (lines:List ByteArray):Spec:=⟨[.r (.c (.l 1 eStr lines))],.v (.bool (F164 lines)),F64 lines=0∧lines.length≤16∧(∀ k:Nat,(lines.getD k default).size≤1048576)⟩
abbrev Jf (lines:List ByteArray) (v12:Int) (v21:Int):=(⟨(((Qo lines).take (Int.toNat v12)).getD (Int.toNat v21) default).Addr,(((Qo lines).take (Int.toNat v12)).getD (Int.toNat v21) default).Len⟩:Qb)
abbrev Ji (lines:List ByteArray) (v12:Int):=(⟨((Qo lines).getD (Int.toNat v12) default).Addr,((Qo lines).getD (Int.toNat v12) default).Len⟩:Qb)
theorem ok164 (lines:List ByteArray):(S164 lines).ok Tryz.prog 164 false :=
 Qi mixed (fn:=Tryz.f164) (ct:=.seqk [(0,0)] .no (.seq (.reg [(1,Qxu lines)]) (.seq (.seqk [(3,0),(10,0)] .no (.blk (.loop (ι:=Nat×Int) (fun i=>(fun (v12:Int)=>(⟨[(3,some (.h 0 0)),(10,some (.h 0 0)),(11,some (.v (vI ((Qo lines).length:Int)))),(12,some (.v (vI v12)))],[(0,some (.own 0 (.l 2 Qk (Qo lines))))],1⟩:St)) i.2) (Nx lines) (fun i=>i.1) (Mf lines) (fun i=>(fun (v12:Int)=>(.seq .no (.seq (.cond .no .no) (.seq (.blk (.seq .no (.seqk [(19,0)] .no (.blk (.loop (ι:=Nat×Int) (fun i=>(fun (v21:Int)=>(⟨[(3,some (.h 0 0)),(5,some (.p 1 0)),(10,some (.h 0 0)),(11,some (.v (vI ((Qo lines).length:Int)))),(12,some (.v (vI v12))),(19,some (.h 2 0)),(20,some (.v (vI (((Qo lines).take (Int.toNat v12)).length:Int)))),(21,some (.v (vI v21)))],[(0,some (.own 0 (.l 2 Qk (Qo lines)))),(1,some (.box 58 [.v (vI ((Qo lines).getD (Int.toNat v12) default).Addr),.v (vI ((Qo lines).getD (Int.toNat v12) default).Len)])),(2,some (.shr (some (0,0)) (.l 2 Qk ((Qo lines).take (Int.toNat v12)))))],3⟩:St)) i.2) (Pe lines v12) (fun i=>i.1) (Ng lines v12) (fun i=>(fun (v21:Int)=>(.seq .no (.seq (.cond .no .no) (.seq (.blk (.seq .no (.seq (.reg [(2,.call 195 (S195 (Ji lines v12) (Jf lines v12 v21)) ((ok195 (Ji lines v12) (Jf lines v12 v21)).to false) none),(6,.call 195 (S195 (Jf lines v12 v21) (Ji lines v12)) ((ok195 (Jf lines v12 v21) (Ji lines v12)).to false) none)]) (.cond (.seq .no .no) .no)))) (.reg [(0,.bnd)]))))) i.2)))))) (.reg [(0,.bnd)]))))) i.2)))) (.seq .no .no)))) Tryz.func164 (fun (hp:F64 lines=0∧lines.length≤16∧(∀ k:Nat,(lines.getD k default).size≤1048576))=>have hpre0:=hp.1; have hpre1:=hp.2.1; have hpre2:=hp.2.2; kn lines fun _=>Uel lines (by omega) (by omega) (by assumption) (kn (Qo lines) fun _=>kn (Qo lines) fun _=>ai (Uhx lines (by omega)) (fun (i0:Nat×Int) (hi0:Nx lines i0)=>(fun (m0:Nat) (v12:Int) (hh0:Quq lines i0 m0 v12)=>have hI0:=hh0.1; have hl0:=hh0.2.1; have _:=hh0.2.2.1; have _:=hh0.2.2.2; ifd (v12<((Qo lines).length:Int)) (fun h2 _=>ai (by omega:ib v12 (Qo lines)) (ai (by omega:0≤(0:Int)∧(0:Int)≤v12∧v12≤((Qo lines).length:Int)) (kn ((Qo lines).take (Int.toNat v12)) fun _=>ai (Ukm lines v12 (by omega)) (fun (i1:Nat×Int) (hi1:Pe lines v12 i1)=>(fun (m1:Nat) (v21:Int) (hh1:Qta lines v12 i1 m1 v21)=>have hI1:=hh1.1; have hl1:=hh1.2.1; have _:=hh1.2.2.1; have _:=hh1.2.2.2; ifd (v21<(((Qo lines).take (Int.toNat v12)).length:Int)) (fun h4 _=>ai (by omega:ib v21 ((Qo lines).take (Int.toNat v12))) (ai (ai (by exact (Qbv lines _ _).1:0≤(((Qo lines).take (Int.toNat v12)).getD (Int.toNat v21) default).Len) (by exact (Qbv lines _ _).2:(((Qo lines).take (Int.toNat v12)).getD (Int.toNat v21) default).Len≤16)) (ai (Imps.refl (Qk (Ji lines v12))) (ai (Imps.refl (Qk (Jf lines v12 v21))) (ai (fun k5:(F195 (Ji lines v12) (Jf lines v12 v21))=false=>(ai (by exact (Ry lines _).1:0≤((Qo lines).getD (Int.toNat v12) default).Len) (by exact (Ry lines _).2:((Qo lines).getD (Int.toNat v12) default).Len≤16))) (ai (fun k6:(F195 (Ji lines v12) (Jf lines v12 v21))=false=>(Imps.refl (Qk (Jf lines v12 v21)))) (ai (fun k7:(F195 (Ji lines v12) (Jf lines v12 v21))=false=>(Imps.refl (Qk (Ji lines v12)))) (ifb (bif (F195 (Ji lines v12) (Jf lines v12 v21)) then true else (F195 (Jf lines v12 v21) (Ji lines v12))) (fun h8=>fiB true (F164 lines) (finR (Qr hI0 (condT h2 (finR (Qr hI1 (condT h4 (condT h8 rfl))) rfl))) rfl)) (fun h8=>ai (iok (v21+1) (by omega)) (Ugk lines v12 i1 m1 (v21+1) hl1 (Qe hI1 (condT h4 (condF h8 rfl))) (by refine ⟨?_,?_⟩ <;> omega))))))))))) (fun h4 _=>have hD1_9:Qsv lines v12=Lp.done v21:=Qj hI1 (condF h4 rfl); ai (iok (v12+1) (by omega)) (Ujj lines i0 m0 (v12+1) hl0 (Qe hI0 (condT h2 (finD hD1_9 rfl))) (by refine ⟨?_,?_⟩ <;> omega)))) (i1.1-1) i1.2 (Uib lines v12 i1 hi1))))) (fun h2 _=>have hD0_10:Qpt lines=Lp.done v12:=Qj hI0 (condF h2 rfl); fiB false (F164 lines) (finD hD0_10 rfl))) (i0.1-1) i0.2 (Ujp lines i0 hi0)))) (by kernel_rfl)
def F198 (p:Qb) (p1:Int):Bool :=
 (bif (F199 p p1) then (p.Addr != p1) else false)
def S198 (p:Qb) (p1:Int):Spec:=⟨[.r (.g (Qk p)),.rp ([.v (vI p1)])],.v (.bool (F198 p p1)),0≤p.Len∧p.Len≤16⟩
theorem ok198 (p:Qb) (p1:Int):(S198 p p1).ok Tryz.prog 198 :=
 Qi mixed (fn:=Tryz.f198) (ct:=.seq .no (.seq (.reg [(2,kh199 p p1)]) .no)) Tryz.func198 (fun (hp:0≤p.Len∧p.Len≤16)=>have hpre0:=hp.1; have hpre1:=hp.2; kc199 p p1 (by omega) (by omega) (fiB (bif (F199 p p1) then (p.Addr != p1) else false) (F198 p p1) rfl)) (by kernel_rfl)
def Jh (Q:Qb→Prop) (p:Qb→Bool):Uw:=⟨Qb,fun i=>[.g (pxH (Qk i) (Q i))],fun i=>.bool (p i)⟩
def Gz (s:List Qb) (f:Qb→Bool):Int→Lp Int Int:=fun v8 =>
 bif (decide (v8<(s.length:Int))) then (bif (f (⟨(s.getD (Int.toNat v8) default).Addr,(s.getD (Int.toNat v8) default).Len⟩:Qb)) then (.ret v8) else (.next (v8+1))) else (.done v8)
def F221 (s:List Qb) (f:Qb→Bool):Int :=
 (runL (Gz s f) ((Int.toNat ((s.length:Int)-0))+1) 0).fin (fun r=>r) (fun v8=>(-1))
abbrev Nk (s:List Qb):Nat×Int:=(((Int.toNat ((s.length:Int)-0))+1),0)
abbrev Qhs (s:List Qb) (m39:Nat) (v8:Int):Prop:=Int.toNat ((s.length:Int)-v8)<m39∧(0:Int)≤v8
abbrev Qvi (s:List Qb) (f:Qb→Bool):Lp Int Int:=LpX (Gz s f) (Nk s)
abbrev Me (s:List Qb) (f:Qb→Bool) (i:Nat×Int):Prop:=LpJ (Gz s f) (Nk s) i (Qhs s i.1 i.2)
abbrev Qti (s:List Qb) (f:Qb→Bool) (i:Nat×Int) (m39:Nat) (v8:Int):Prop:=LpH (Gz s f) (Nk s) i m39 v8 (Qhs s (m39+1) v8)
abbrev Qtq (Qf:Qb→Prop) (s:List Qb) (f:Qb→Bool) (v8:Int) (v8_:Int) (K39:Prop):Prop:=(Rf (.int .i64 (s.length:Int)))∧((.int .i64 v8:Value)=.int .i64 v8_)∧(Im (.l 2 Qk s))∧(Jh Qf f=Jh Qf f)∧K39
theorem Uip (s:List Qb) (f:Qb→Bool) (i:Nat×Int) (h:Me s f i):Qti s f i (i.1-1) i.2:=⟨hd1 h.1 h.2.1,hd3 h.2.1,hd2 h.2.1,h.2.2⟩
theorem Uir (Qf:Qb→Prop) (s:List Qb) (f:Qb→Bool) (i:Nat×Int) (m39:Nat) (v8:Int) (hl:m39<i.1) (e:runL (Gz s f) m39 v8=Qvi s f) (h:Qhs s m39 v8):∃ j:Nat×Int,Qtq Qf s f v8 j.2 (Me s f j∧j.1<i.1):=⟨(m39,v8),rfl,rfl,Imp.refl _,rfl,⟨e,h⟩,hl⟩
theorem Ufm (Qf:Qb→Prop) (s:List Qb) (f:Qb→Bool) (h:(0:Int)≤0):Qtq Qf s f 0 0 (Me s f (Nk s)):=⟨rfl,rfl,Imp.refl _,rfl,rfl,Nat.lt_succ_self _,h⟩
def S221 (R:Int) (s:List Qb) (f:Qb→Bool) (Qf:Qb→Prop):Spec:=⟨[.r (.c (.l 2 Qk s)),.fn (Jh Qf f)],.v (vI R),(∀ k:Nat,k<s.length→Qf (s.getD k default))⟩
theorem ok221 (s:List Qb) (f:Qb→Bool) (Qf:Qb→Prop):(S221 (F221 s f) s f Qf).ok Tryz.prog 221 false :=
 Qi mixed (fn:=Tryz.f221) (ct:=.seqk [(0,0)] .no (.seq (.seqk [(0,0)] .no (.blk (.loop (ι:=Nat×Int) (fun i=>(fun (v8:Int)=>(⟨[(0,some (.h 0 0)),(1,some (.h 1 0)),(7,some (.v (vI (s.length:Int)))),(8,some (.v (vI v8)))],[(0,some (.shr none (.l 2 Qk s))),(1,some (.fn (Jh Qf f)))],2⟩:St)) i.2) (Me s f) (fun i=>i.1) (Nk s) (fun i=>(fun (v8:Int)=>(.seq .no (.seq (.cond .no .no) (.seq (.blk (.seq .no (.seq (.reg [(5,.fnv (Jh Qf f) (⟨(s.getD (Int.toNat v8) default).Addr,(s.getD (Int.toNat v8) default).Len⟩:Qb))]) (.cond (.seq .no .no) .no)))) (.reg [(0,.bnd)]))))) i.2)))) (.seq .no .no))) Tryz.func221 (fun (hpre0:∀ k:Nat,k<s.length→Qf (s.getD k default))=>kn s fun _=>kn s fun _=>ai (Ufm Qf s f (by omega)) (fun (i0:Nat×Int) (hi0:Me s f i0)=>(fun (m0:Nat) (v8:Int) (hh0:Qti s f i0 m0 v8)=>have hI0:=hh0.1; have hl0:=hh0.2.1; have _:=hh0.2.2.1; have _:=hh0.2.2.2; ifd (v8<(s.length:Int)) (fun h2 _=>ai (by omega:ib v8 s) (ai (Eq.refl (Jh Qf f)) (ai (Imps.pxH (ds:=Qk (⟨(s.getD (Int.toNat v8) default).Addr,(s.getD (Int.toNat v8) default).Len⟩:Qb)) (hpre0 (Int.toNat v8) (by omega))) (ifb (f (⟨(s.getD (Int.toNat v8) default).Addr,(s.getD (Int.toNat v8) default).Len⟩:Qb)) (fun h3=>fiI v8 (F221 s f) (finR (Qr hI0 (condT h2 (condT h3 rfl))) rfl)) (fun h3=>ai (iok (v8+1) (by omega)) (Uir Qf s f i0 m0 (v8+1) hl0 (Qe hI0 (condT h2 (condF h3 rfl))) (by refine ⟨?_,?_⟩ <;> omega))))))) (fun h2 _=>have hD0_4:Qvi s f=Lp.done v8:=Qj hI0 (condF h2 rfl); fiI (-1) (F221 s f) (finD hD0_4 rfl))) (i0.1-1) i0.2 (Uip s f i0 hi0))) (by kernel_rfl)
theorem as221 (s:List Qb) (f:Qb→Bool):F221 s f=(idxI f s):=by
 exact Vs f s (Gz s f) (fun i=>rfl)
theorem oa221 (s:List Qb) (f:Qb→Bool) (Qf:Qb→Prop):(S221 (idxI f s) s f Qf).ok Tryz.prog 221 false:=by
 intro hp; have h:=ok221 s f Qf hp; rw [as221 s f] at h; exact h
theorem g221_0 (s:List Qb) (f:Qb→Bool):(idxI f s)<(s.length:Int):=by
 exact Mj f s
theorem g221_1 (s:List Qb) (f:Qb→Bool):-1≤(idxI f s):=by
 (show -1≤idxI f s; unfold idxI; cases first (fun k=>f (s.getD k default)) s.length <;> simp only [oix] <;> omega)
theorem kc221a (s:List Qb) (f:Qb→Bool) (Qf:Qb→Prop) {K_:Prop} (p0_:∀ k:Nat,k<s.length→Qf (s.getD k default)) (k_:((idxI f s)<(s.length:Int))→(-1≤(idxI f s))→K_):(∀ k:Nat,k<s.length→Qf (s.getD k default))∧(Imp (.l 2 Qk s) (.l 2 Qk s))∧(Jh Qf f=Jh Qf f)∧K_:=⟨p0_,Imp.refl _,rfl,k_ (g221_0 s f) (g221_1 s f)⟩
abbrev kh221a (s:List Qb) (f:Qb→Bool) (Qf:Qb→Prop):Hint false Tryz.prog:=.call 221 (S221 (idxI f s) s f Qf) (oa221 s f Qf) none
def F197 (s:List Qb) (f:Qb→Bool):Bool :=
 decide ((idxI f s)≥0)
def S197 (R:Bool) (s:List Qb) (f:Qb→Bool) (Qf:Qb→Prop):Spec:=⟨[.r (.c (.l 2 Qk s)),.fn (Jh Qf f)],.v (.bool R),(∀ k:Nat,k<s.length→Qf (s.getD k default))⟩
theorem ok197 (s:List Qb) (f:Qb→Bool) (Qf:Qb→Prop):(S197 (F197 s f) s f Qf).ok Tryz.prog 197 false :=
 Qi mixed (fn:=Tryz.f197) (ct:=.seqk [(0,0)] .no (.seq (.reg [(2,kh221a s f Qf)]) .no)) Tryz.func197 (fun (hpre0:∀ k:Nat,k<s.length→Qf (s.getD k default))=>kn s fun _=>kc221a s f Qf (by assumption) (fun gv1 gv2=>fiB (decide ((idxI f s)≥0)) (F197 s f) rfl)) (by kernel_rfl)
theorem as197 (s:List Qb) (f:Qb→Bool):F197 s f=(s.any f):=by
 exact Es f s
theorem oa197 (s:List Qb) (f:Qb→Bool) (Qf:Qb→Prop):(S197 (s.any f) s f Qf).ok Tryz.prog 197 false:=by
 intro hp; have h:=ok197 s f Qf hp; rw [as197 s f] at h; exact h
def F196 (text:ByteArray) (p1:List Qb):Bool :=
 (!(p1.any (fun (x0:Qb)=>F198 x0 (F43 text))))
def S196 (text:ByteArray) (p1:List Qb):Spec:=⟨[.r (.c (.v (.string text))),.rp ([.l 2 Qk p1])],.v (.bool (F196 text p1)),text.size≤1048576∧(∀ k:Nat,0≤(p1.getD k default).Len∧(p1.getD k default).Len≤16)⟩
theorem ok196 (text:ByteArray) (p1:List Qb):(S196 text p1).ok Tryz.prog 196 false :=
 Qi mixed (fn:=Tryz.f196) (ct:=.seq .no (.seq (.reg [(1,kh43 text)]) (.seq (.reg [(2,.call 197 (S197 (p1.any (fun (x0:Qb)=>F198 x0 (F43 text))) p1 (fun (x0:Qb)=>F198 x0 (F43 text)) (fun (x0:Qb)=>0≤x0.Len∧x0.Len≤16)) (oa197 p1 (fun (x0:Qb)=>F198 x0 (F43 text)) (fun (x0:Qb)=>0≤x0.Len∧x0.Len≤16)) (some ⟨true,198,Jh (fun (x0:Qb)=>0≤x0.Len∧x0.Len≤16) (fun (x0:Qb)=>F198 x0 (F43 text)),[.rp ([.v (vI (F43 text))])],rfl,True,fun i=>Qyr (ok198 i (F43 text))⟩))]) .no))) Tryz.func196 (fun (hp:text.size≤1048576∧(∀ k:Nat,0≤(p1.getD k default).Len∧(p1.getD k default).Len≤16))=>have hpre0:=hp.1; have hpre1:=hp.2; kc43 text (by omega) (ai (by exact fun k _=>hpre1 k:∀ k:Nat,k<p1.length→(fun (x0:Qb)=>0≤x0.Len∧x0.Len≤16) (p1.getD k default)) (ai (Imp.refl (.l 2 Qk p1)) (ai (Eq.refl (Jh (fun (x0:Qb)=>0≤x0.Len∧x0.Len≤16) (fun (x0:Qb)=>F198 x0 (F43 text)))) (ai trivial (ai (Imps.refl [.v (vI (F43 text))]) (fiB (!(p1.any (fun (x0:Qb)=>F198 x0 (F43 text)))) (F196 text p1) rfl))))))) (by kernel_rfl)
def Jk (lines:List ByteArray):(List ByteArray×Int)→Lp (List ByteArray×Int) Bool:=fun (addrs1,v13) =>
 bif (decide (v13<((Qa lines (⟨#[114,111,117,116,101]⟩:ByteArray)).length:Int))) then (.next ((addrs1++[(((Qa lines (⟨#[114,111,117,116,101]⟩:ByteArray)).getD (Int.toNat v13) default).getD (Int.toNat 2) default)]),(v13+1))) else (.done (addrs1,v13))
def Gv (lines:List ByteArray):Lp (List ByteArray) Bool :=
 (runL (Jk lines) ((Int.toNat (((Qa lines (⟨#[114,111,117,116,101]⟩:ByteArray)).length:Int)-0))+1) (([]:List ByteArray),0)).fin Lp.ret (fun (addrs1,v13)=>.done addrs1)
def Jt (lines:List ByteArray) (addrs:List ByteArray):(List ByteArray×Int)→Lp (List ByteArray×Int) Bool:=fun (addrs3,v27) =>
 bif (decide (v27<((Qa lines (⟨#[112,101,101,114]⟩:ByteArray)).length:Int))) then (.next ((addrs3++[(((Qa lines (⟨#[112,101,101,114]⟩:ByteArray)).getD (Int.toNat v27) default).getD (Int.toNat 1) default)]),(v27+1))) else (.done (addrs3,v27))
def Xl (lines:List ByteArray) (addrs:List ByteArray):Lp (List ByteArray) Bool :=
 (runL (Jt lines addrs) ((Int.toNat (((Qa lines (⟨#[112,101,101,114]⟩:ByteArray)).length:Int)-0))+1) (addrs,0)).fin Lp.ret (fun (addrs3,v27)=>.done addrs3)
def F165 (lines:List ByteArray):Bool :=
 (Gv lines).fin (fun r=>r) (fun addrs=>(Xl lines addrs).fin (fun r=>r) (fun addrs2=>(addrs2.any (fun (x0:ByteArray)=>F196 x0 (Qo lines)))))
abbrev Pb (lines:List ByteArray):Nat×(List ByteArray×Int):=(((Int.toNat (((Qa lines (⟨#[114,111,117,116,101]⟩:ByteArray)).length:Int)-0))+1),(([]:List ByteArray),0))
abbrev Qjl (lines:List ByteArray) (m39:Nat) (addrs1:List ByteArray) (v13:Int):Prop:=Int.toNat (((Qa lines (⟨#[114,111,117,116,101]⟩:ByteArray)).length:Int)-v13)<m39∧(addrs1.length:Int)≤v13∧v13≤((Qa lines (⟨#[114,111,117,116,101]⟩:ByteArray)).length:Int)∧(∀ k:Nat,(addrs1.getD k default).size≤1048576)∧(0:Int)≤v13
abbrev Qqc (lines:List ByteArray):Lp (List ByteArray×Int) Bool:=LpX (Jk lines) (Pb lines)
abbrev Px (lines:List ByteArray) (i:Nat×(List ByteArray×Int)):Prop:=LpJ (Jk lines) (Pb lines) i (Qjl lines i.1 i.2.1 i.2.2)
abbrev Qui (lines:List ByteArray) (i:Nat×(List ByteArray×Int)) (m39:Nat) (addrs1:List ByteArray) (v13:Int):Prop:=LpH (Jk lines) (Pb lines) i m39 (addrs1,v13) (Qjl lines (m39+1) addrs1 v13)
abbrev Qrn (lines:List ByteArray) (addrs1:List ByteArray) (v13:Int) (addrs1_:List ByteArray) (v13_:Int) (K39:Prop):Prop:=(Rf (.int .i64 ((Qa lines (⟨#[114,111,117,116,101]⟩:ByteArray)).length:Int)))∧((.int .i64 v13:Value)=.int .i64 v13_)∧(Im (.l 1 eStr lines))∧(Imp (.l 1 eStr addrs1) (.l 1 eStr addrs1_))∧(Im (.l 1 (eL 1 eStr) (Qa lines (⟨#[114,111,117,116,101]⟩:ByteArray))))∧K39
theorem Ufp (lines:List ByteArray) (i:Nat×(List ByteArray×Int)) (h:Px lines i):Qui lines i (i.1-1) i.2.1 i.2.2:=⟨hd1 h.1 h.2.1,hd3 h.2.1,hd2 h.2.1,h.2.2⟩
theorem Ujq (lines:List ByteArray) (i:Nat×(List ByteArray×Int)) (m39:Nat) (addrs1:List ByteArray) (v13:Int) (hl:m39<i.1) (e:runL (Jk lines) m39 (addrs1,v13)=Qqc lines) (h:Qjl lines m39 addrs1 v13):∃ j:Nat×(List ByteArray×Int),Qrn lines addrs1 v13 j.2.1 j.2.2 (Px lines j∧j.1<i.1):=⟨(m39,(addrs1,v13)),rfl,rfl,Imp.refl _,Imp.refl _,Imp.refl _,⟨e,h⟩,hl⟩
theorem Uji (lines:List ByteArray) (h:(([]:List ByteArray).length:Int)≤0∧0≤((Qa lines (⟨#[114,111,117,116,101]⟩:ByteArray)).length:Int)∧(∀ k:Nat,(([]:List ByteArray).getD k default).size≤1048576)∧(0:Int)≤0):Qrn lines ([]:List ByteArray) 0 ([]:List ByteArray) 0 (Px lines (Pb lines)):=⟨rfl,rfl,Imp.refl _,Imp.refl _,Imp.refl _,rfl,Nat.lt_succ_self _,h⟩
abbrev Qhu (lines:List ByteArray) (addrs:List ByteArray):Prop:=(addrs.length:Int)≤16∧(∀ k:Nat,(addrs.getD k default).size≤1048576)
abbrev Qjs (lines:List ByteArray) (j:List ByteArray):Prop:=(Gv lines)=Lp.done j∧Qhu lines j
theorem Ugy (lines:List ByteArray) (addrs:List ByteArray) (e:(Gv lines)=Lp.done addrs) (h:Qhu lines addrs):∃ j:List ByteArray,(Imp (.l 1 eStr lines) (.l 1 eStr lines))∧(Imp (.l 1 eStr addrs) (.l 1 eStr j))∧Qjs lines j:=⟨addrs,Imp.refl _,Imp.refl _,e,h⟩
abbrev Mg (lines:List ByteArray) (addrs:List ByteArray):Nat×(List ByteArray×Int):=(((Int.toNat (((Qa lines (⟨#[112,101,101,114]⟩:ByteArray)).length:Int)-0))+1),(addrs,0))
abbrev Qix (lines:List ByteArray) (m39:Nat) (addrs3:List ByteArray) (v27:Int):Prop:=Int.toNat (((Qa lines (⟨#[112,101,101,114]⟩:ByteArray)).length:Int)-v27)<m39∧(addrs3.length:Int)≤16+v27∧v27≤((Qa lines (⟨#[112,101,101,114]⟩:ByteArray)).length:Int)∧(∀ k:Nat,(addrs3.getD k default).size≤1048576)∧(0:Int)≤v27
abbrev Qvm (lines:List ByteArray) (addrs:List ByteArray):Lp (List ByteArray×Int) Bool:=LpX (Jt lines addrs) (Mg lines addrs)
abbrev Ra (lines:List ByteArray) (addrs:List ByteArray) (i:Nat×(List ByteArray×Int)):Prop:=LpJ (Jt lines addrs) (Mg lines addrs) i (Qix lines i.1 i.2.1 i.2.2)
abbrev Qqn (lines:List ByteArray) (addrs:List ByteArray) (i:Nat×(List ByteArray×Int)) (m39:Nat) (addrs3:List ByteArray) (v27:Int):Prop:=LpH (Jt lines addrs) (Mg lines addrs) i m39 (addrs3,v27) (Qix lines (m39+1) addrs3 v27)
abbrev Qrj (lines:List ByteArray) (addrs3:List ByteArray) (v27:Int) (addrs3_:List ByteArray) (v27_:Int) (K39:Prop):Prop:=(Rf (.int .i64 ((Qa lines (⟨#[112,101,101,114]⟩:ByteArray)).length:Int)))∧((.int .i64 v27:Value)=.int .i64 v27_)∧(Im (.l 1 eStr lines))∧(Imp (.l 1 eStr addrs3) (.l 1 eStr addrs3_))∧(Im (.l 1 (eL 1 eStr) (Qa lines (⟨#[112,101,101,114]⟩:ByteArray))))∧K39
theorem Ukx (lines:List ByteArray) (addrs:List ByteArray) (i:Nat×(List ByteArray×Int)) (h:Ra lines addrs i):Qqn lines addrs i (i.1-1) i.2.1 i.2.2:=⟨hd1 h.1 h.2.1,hd3 h.2.1,hd2 h.2.1,h.2.2⟩
theorem Ufd (lines:List ByteArray) (addrs:List ByteArray) (i:Nat×(List ByteArray×Int)) (m39:Nat) (addrs3:List ByteArray) (v27:Int) (hl:m39<i.1) (e:runL (Jt lines addrs) m39 (addrs3,v27)=Qvm lines addrs) (h:Qix lines m39 addrs3 v27):∃ j:Nat×(List ByteArray×Int),Qrj lines addrs3 v27 j.2.1 j.2.2 (Ra lines addrs j∧j.1<i.1):=⟨(m39,(addrs3,v27)),rfl,rfl,Imp.refl _,Imp.refl _,Imp.refl _,⟨e,h⟩,hl⟩
theorem Ulb (lines:List ByteArray) (addrs:List ByteArray) (h:(addrs.length:Int)≤16+0∧0≤((Qa lines (⟨#[112,101,101,114]⟩:ByteArray)).length:Int)∧(∀ k:Nat,(addrs.getD k default).size≤1048576)∧(0:Int)≤0):Qrj lines addrs 0 addrs 0 (Ra lines addrs (Mg lines addrs)):=⟨rfl,rfl,Imp.refl _,Imp.refl _,Imp.refl _,rfl,Nat.lt_succ_self _,h⟩
abbrev Qhg (lines:List ByteArray) (addrs:List ByteArray) (addrs2:List ByteArray):Prop:=(addrs2.length:Int)≤32∧(∀ k:Nat,(addrs2.getD k default).size≤1048576)
abbrev Qgq (lines:List ByteArray) (addrs:List ByteArray) (j:List ByteArray):Prop:=(Xl lines addrs)=Lp.done j∧Qhg lines addrs j
theorem Ujx (lines:List ByteArray) (addrs:List ByteArray) (addrs2:List ByteArray) (e:(Xl lines addrs)=Lp.done addrs2) (h:Qhg lines addrs addrs2):∃ j:List ByteArray,(Imp (.l 1 eStr lines) (.l 1 eStr lines))∧(Imp (.l 1 eStr addrs2) (.l 1 eStr j))∧Qgq lines addrs j:=⟨addrs2,Imp.refl _,Imp.refl _,e,h⟩
def S165 (lines:List ByteArray):Spec:=⟨[.r (.c (.l 1 eStr lines))],.v (.bool (F165 lines)),F64 lines=0∧lines.length≤16∧(∀ k:Nat,(lines.getD k default).size≤1048576)⟩
theorem ok165 (lines:List ByteArray):(S165 lines).ok Tryz.prog 165 false :=
 Qi mixed (fn:=Tryz.f165) (ct:=.seqk [(0,0)] .no (.seq (.reg [(0,.dat (.l 1 eStr ([]:List ByteArray)))]) (.cut (ι:=List ByteArray) (fun j=>(fun (addrs:List ByteArray)=>(⟨[(0,some (.h 0 0)),(3,some (.h 1 0))],[(0,some (.shr none (.l 1 eStr lines))),(1,some (.own 1 (.l 1 eStr addrs)))],2⟩:St)) j) (Qjs lines) (.seqk [(3,0),(11,0)] (.reg [(1,Xb lines (⟨#[114,111,117,116,101]⟩:ByteArray))]) (.blk (.loop (ι:=Nat×(List ByteArray×Int)) (fun i=>(fun (addrs1:List ByteArray) (v13:Int)=>(⟨[(0,some (.h 0 0)),(3,some (.h 1 0)),(11,some (.h 2 0)),(12,some (.v (vI ((Qa lines (⟨#[114,111,117,116,101]⟩:ByteArray)).length:Int)))),(13,some (.v (vI v13)))],[(0,some (.shr none (.l 1 eStr lines))),(1,some (.own 1 (.l 1 eStr addrs1))),(2,some (.own 2 (.l 1 (eL 1 eStr) (Qa lines (⟨#[114,111,117,116,101]⟩:ByteArray)))))],3⟩:St)) i.2.1 i.2.2) (Px lines) (fun i=>i.1) (Pb lines) (fun i=>(fun (addrs1:List ByteArray) (v13:Int)=>(.seq .no (.seq (.cond .no .no) (.seq (.blk (.seq .no (.reg [(5,.dat (.l 1 eStr (addrs1++[(((Qa lines (⟨#[114,111,117,116,101]⟩:ByteArray)).getD (Int.toNat v13) default).getD (Int.toNat 2) default)])))]))) (.reg [(0,.bnd)]))))) i.2.1 i.2.2)))) (fun j=>(fun (addrs:List ByteArray)=>(.cut (ι:=List ByteArray) (fun j=>(fun (addrs2:List ByteArray)=>(⟨[(0,some (.h 0 0)),(3,some (.h 1 0))],[(0,some (.shr none (.l 1 eStr lines))),(1,some (.own 1 (.l 1 eStr addrs2)))],2⟩:St)) j) (Qgq lines addrs) (.seqk [(3,0),(25,0)] (.reg [(1,Xb lines (⟨#[112,101,101,114]⟩:ByteArray))]) (.blk (.loop (ι:=Nat×(List ByteArray×Int)) (fun i=>(fun (addrs3:List ByteArray) (v27:Int)=>(⟨[(0,some (.h 0 0)),(3,some (.h 1 0)),(25,some (.h 2 0)),(26,some (.v (vI ((Qa lines (⟨#[112,101,101,114]⟩:ByteArray)).length:Int)))),(27,some (.v (vI v27)))],[(0,some (.shr none (.l 1 eStr lines))),(1,some (.own 1 (.l 1 eStr addrs3))),(2,some (.own 2 (.l 1 (eL 1 eStr) (Qa lines (⟨#[112,101,101,114]⟩:ByteArray)))))],3⟩:St)) i.2.1 i.2.2) (Ra lines addrs) (fun i=>i.1) (Mg lines addrs) (fun i=>(fun (addrs3:List ByteArray) (v27:Int)=>(.seq .no (.seq (.cond .no .no) (.seq (.blk (.seq .no (.reg [(5,.dat (.l 1 eStr (addrs3++[(((Qa lines (⟨#[112,101,101,114]⟩:ByteArray)).getD (Int.toNat v27) default).getD (Int.toNat 1) default)])))]))) (.reg [(0,.bnd)]))))) i.2.1 i.2.2)))) (fun j=>(fun (addrs2:List ByteArray)=>(.seq (.reg [(1,Qxu lines)]) (.seq (.reg [(2,.call 186 (S186 (addrs2.any (fun (x0:ByteArray)=>F196 x0 (Qo lines))) addrs2 (fun (x0:ByteArray)=>F196 x0 (Qo lines)) (fun (x0:ByteArray)=>x0.size≤1048576∧(∀ k:Nat,0≤((Qo lines).getD k default).Len∧((Qo lines).getD k default).Len≤16))) (Uek addrs2 (fun (x0:ByteArray)=>F196 x0 (Qo lines)) (fun (x0:ByteArray)=>x0.size≤1048576∧(∀ k:Nat,0≤((Qo lines).getD k default).Len∧((Qo lines).getD k default).Len≤16))) (some ⟨false,196,Yg (fun (x0:ByteArray)=>x0.size≤1048576∧(∀ k:Nat,0≤((Qo lines).getD k default).Len∧((Qo lines).getD k default).Len≤16)) (fun (x0:ByteArray)=>F196 x0 (Qo lines)),[.rp ([.l 2 Qk (Qo lines)])],rfl,True,fun i=>Bw (ok196 i (Qo lines))⟩))]) .no))) j))) j)))) Tryz.func165 (fun (hp:F64 lines=0∧lines.length≤16∧(∀ k:Nat,(lines.getD k default).size≤1048576))=>have hpre0:=hp.1; have hpre1:=hp.2.1; have hpre2:=hp.2.2; kn lines fun _=>ai (bokr 1 eStr ([]:List ByteArray) fun _=>rfl) (ai (Hj lines (⟨#[114,111,117,116,101]⟩:ByteArray) (by omega) (by assumption) (by omega) (fun gv1=>kn ([]:List ByteArray) fun _=>kn (Qa lines (⟨#[114,111,117,116,101]⟩:ByteArray)) fun _=>ai (Uji lines (by refine ⟨?_,?_,?_,?_⟩ <;> first | omega | (simp only [lens,ib] at*<;> omega) | exact Qpr (by assumption) (Yq lines _ (by first | omega | (simp only [lens,ib] at*<;> omega)) _ _) | exact Uaj)) (fun (i0:Nat×(List ByteArray×Int)) (hi0:Px lines i0)=>(fun (m0:Nat) (addrs1:List ByteArray) (v13:Int) (hh0:Qui lines i0 m0 addrs1 v13)=>have hI0:=hh0.1; have hl0:=hh0.2.1; have _:=hh0.2.2.1; have _:=hh0.2.2.2.1; have _:=hh0.2.2.2.2.1; have _:=hh0.2.2.2.2.2.1; have _:=hh0.2.2.2.2.2.2; ifd (v13<((Qa lines (⟨#[114,111,117,116,101]⟩:ByteArray)).length:Int)) (fun h3 _=>ai (by (omega):0≤v13∧v13<((Qa lines (⟨#[114,111,117,116,101]⟩:ByteArray)).length:Int)) (ai (by (have h9:=Qkn lines (by omega) (Int.toNat v13) (by omega); unfold Kg at h9; omega):0≤(2:Int)∧(2:Int)<(((Qa lines (⟨#[114,111,117,116,101]⟩:ByteArray)).getD (Int.toNat v13) default).length:Int)) (ai (appr 1 eStr addrs1 [(((Qa lines (⟨#[114,111,117,116,101]⟩:ByteArray)).getD (Int.toNat v13) default).getD (Int.toNat 2) default)] fun _=>rfl) (ai (by (try simp only [lens]); omega:(addrs1++[(((Qa lines (⟨#[114,111,117,116,101]⟩:ByteArray)).getD (Int.toNat v13) default).getD (Int.toNat 2) default)]).length*16≤140737488355328) (ai (iok (v13+1) (by omega)) (Ujq lines i0 m0 (addrs1++[(((Qa lines (⟨#[114,111,117,116,101]⟩:ByteArray)).getD (Int.toNat v13) default).getD (Int.toNat 2) default)]) (v13+1) hl0 (Qe hI0 (condT h3 rfl)) (by refine ⟨?_,?_,?_,?_,?_⟩ <;> first | omega | (simp only [lens,ib] at*<;> omega) | exact Qpr (by assumption) (Yq lines _ (by first | omega | (simp only [lens,ib] at*<;> omega)) _ _) | exact Uaj))))))) (fun h3 _=>have hD0_4:Qqc lines=Lp.done (addrs1,v13):=Qj hI0 (condF h3 rfl); Ugy lines addrs1 (Eq.symm (finD hD0_4 rfl)) (by refine ⟨?_,?_⟩ <;> omega))) (i0.1-1) i0.2.1 i0.2.2 (Ufp lines i0 hi0)))) (fun (j:List ByteArray) (hj:Qjs lines j)=>(fun (addrs:List ByteArray) (hJ0_5:(Gv lines)=Lp.done addrs) (hw:Qhu lines addrs)=>have _:=hw.1; have _:=hw.2; ai (Hj lines (⟨#[112,101,101,114]⟩:ByteArray) (by omega) (by assumption) (by omega) (fun gv6=>kn addrs fun _=>kn (Qa lines (⟨#[112,101,101,114]⟩:ByteArray)) fun _=>ai (Ulb lines addrs (by refine ⟨?_,?_,?_,?_⟩ <;> omega)) (fun (i1:Nat×(List ByteArray×Int)) (hi1:Ra lines addrs i1)=>(fun (m1:Nat) (addrs3:List ByteArray) (v27:Int) (hh1:Qqn lines addrs i1 m1 addrs3 v27)=>have hI1:=hh1.1; have hl1:=hh1.2.1; have _:=hh1.2.2.1; have _:=hh1.2.2.2.1; have _:=hh1.2.2.2.2.1; have _:=hh1.2.2.2.2.2.1; have _:=hh1.2.2.2.2.2.2; ifd (v27<((Qa lines (⟨#[112,101,101,114]⟩:ByteArray)).length:Int)) (fun h8 _=>ai (by (omega):0≤v27∧v27<((Qa lines (⟨#[112,101,101,114]⟩:ByteArray)).length:Int)) (ai (by (have h9:=Ugv lines (by omega) (Int.toNat v27) (by omega); unfold Nt at h9; omega):0≤(1:Int)∧(1:Int)<(((Qa lines (⟨#[112,101,101,114]⟩:ByteArray)).getD (Int.toNat v27) default).length:Int)) (ai (appr 1 eStr addrs3 [(((Qa lines (⟨#[112,101,101,114]⟩:ByteArray)).getD (Int.toNat v27) default).getD (Int.toNat 1) default)] fun _=>rfl) (ai (by (try simp only [lens]); omega:(addrs3++[(((Qa lines (⟨#[112,101,101,114]⟩:ByteArray)).getD (Int.toNat v27) default).getD (Int.toNat 1) default)]).length*16≤140737488355328) (ai (iok (v27+1) (by omega)) (Ufd lines addrs i1 m1 (addrs3++[(((Qa lines (⟨#[112,101,101,114]⟩:ByteArray)).getD (Int.toNat v27) default).getD (Int.toNat 1) default)]) (v27+1) hl1 (Qe hI1 (condT h8 rfl)) (by refine ⟨?_,?_,?_,?_,?_⟩ <;> first | omega | (simp only [lens,ib] at*<;> omega) | exact Qpr (by assumption) (Yq lines _ (by first | omega | (simp only [lens,ib] at*<;> omega)) _ _) | assumption))))))) (fun h8 _=>have hD1_9:Qvm lines addrs=Lp.done (addrs3,v27):=Qj hI1 (condF h8 rfl); Ujx lines addrs addrs3 (Eq.symm (finD hD1_9 rfl)) (by refine ⟨?_,?_⟩ <;> omega))) (i1.1-1) i1.2.1 i1.2.2 (Ukx lines addrs i1 hi1)))) (fun (j:List ByteArray) (hj:Qgq lines addrs j)=>(fun (addrs2:List ByteArray) (hJ1_10:(Xl lines addrs)=Lp.done addrs2) (hw:Qhg lines addrs addrs2)=>have _:=hw.1; have _:=hw.2; Uel lines (by omega) (by omega) (by assumption) (ai (by exact fun k _=>⟨(by assumption:∀ k:Nat,(addrs2.getD k default).size≤1048576) k,Ry lines⟩:∀ k:Nat,k<addrs2.length→(fun (x0:ByteArray)=>x0.size≤1048576∧(∀ k:Nat,0≤((Qo lines).getD k default).Len∧((Qo lines).getD k default).Len≤16)) (addrs2.getD k default)) (ai (Imp.refl (.l 1 eStr addrs2)) (ai (Eq.refl (Yg (fun (x0:ByteArray)=>x0.size≤1048576∧(∀ k:Nat,0≤((Qo lines).getD k default).Len∧((Qo lines).getD k default).Len≤16)) (fun (x0:ByteArray)=>F196 x0 (Qo lines)))) (ai trivial (ai (Imps.refl [.l 2 Qk (Qo lines)]) (fiB (addrs2.any (fun (x0:ByteArray)=>F196 x0 (Qo lines))) (F165 lines) (finD hJ0_5 (finD hJ1_10 rfl))))))))) j hj.1 hj.2)) j hj.1 hj.2))) (by kernel_rfl)
theorem kg44 {K_:Prop} (c_ b_:Bool) (word:ByteArray) (p_:c_=b_→word.size≤1048576) (k_:K_):(c_=b_→word.size≤1048576)∧(c_=b_→Imp (.v (.string word)) (.v (.string word)))∧K_:=⟨p_,fun _=>Imp.refl _,k_⟩
def Jo (lines:List ByteArray) (v64:Int):Int→Lp Int Bool:=fun v89 =>
 bif (decide (v89<(((Qa lines (⟨#[100,111,111,114]⟩:ByteArray)).take (Int.toNat v64)).length:Int))) then (bif (bif (bif (((((Qa lines (⟨#[100,111,111,114]⟩:ByteArray)).take (Int.toNat v64)).getD (Int.toNat v89) default).getD (Int.toNat 1) default).toList==(((Qa lines (⟨#[100,111,111,114]⟩:ByteArray)).getD (Int.toNat v64) default).getD (Int.toNat 1) default).toList) then (((((Qa lines (⟨#[100,111,111,114]⟩:ByteArray)).take (Int.toNat v64)).getD (Int.toNat v89) default).getD (Int.toNat 3) default).toList==(((Qa lines (⟨#[100,111,111,114]⟩:ByteArray)).getD (Int.toNat v64) default).getD (Int.toNat 3) default).toList) else false) then (((((Qa lines (⟨#[100,111,111,114]⟩:ByteArray)).take (Int.toNat v64)).getD (Int.toNat v89) default).getD (Int.toNat 4) default).toList==(((Qa lines (⟨#[100,111,111,114]⟩:ByteArray)).getD (Int.toNat v64) default).getD (Int.toNat 4) default).toList) else false) then (.ret true) else (.next (v89+1))) else (.done v89)
def Jj (lines:List ByteArray):Int→Lp Int Bool:=fun v64 =>
 bif (decide (v64<((Qa lines (⟨#[100,111,111,114]⟩:ByteArray)).length:Int))) then (bif (bif (!(F199 ⟨(F83 (((Qa lines (⟨#[110,97,116]⟩:ByteArray)).getD (Int.toNat 0) default).getD (Int.toNat 1) default)).1.Addr,(F83 (((Qa lines (⟨#[110,97,116]⟩:ByteArray)).getD (Int.toNat 0) default).getD (Int.toNat 1) default)).1.Len⟩ (F43 (((Qa lines (⟨#[100,111,111,114]⟩:ByteArray)).getD (Int.toNat v64) default).getD (Int.toNat 3) default)))) then true else (decide ((F44 (((Qa lines (⟨#[110,97,116]⟩:ByteArray)).getD (Int.toNat 0) default).getD (Int.toNat 3) default))≤(F44 (((Qa lines (⟨#[100,111,111,114]⟩:ByteArray)).getD (Int.toNat v64) default).getD (Int.toNat 2) default))∧(F44 (((Qa lines (⟨#[100,111,111,114]⟩:ByteArray)).getD (Int.toNat v64) default).getD (Int.toNat 2) default))≤(F44 (((Qa lines (⟨#[110,97,116]⟩:ByteArray)).getD (Int.toNat 0) default).getD (Int.toNat 4) default))))) then (.ret true) else ((runL (Jo lines v64) ((Int.toNat ((((Qa lines (⟨#[100,111,111,114]⟩:ByteArray)).take (Int.toNat v64)).length:Int)-0))+1) 0).fin Lp.ret (fun v89=>.next (v64+1)))) else (.done v64)
def F166 (lines:List ByteArray):Bool :=
 bif (((Qa lines (⟨#[110,97,116]⟩:ByteArray)).length:Int)==0) then (decide (((Qa lines (⟨#[100,111,111,114]⟩:ByteArray)).length:Int)>0)) else (bif (bif (bif (F199 ⟨(F83 (((Qa lines (⟨#[110,97,116]⟩:ByteArray)).getD (Int.toNat 0) default).getD (Int.toNat 1) default)).1.Addr,(F83 (((Qa lines (⟨#[110,97,116]⟩:ByteArray)).getD (Int.toNat 0) default).getD (Int.toNat 1) default)).1.Len⟩ (F43 (((Qa lines (⟨#[110,97,116]⟩:ByteArray)).getD (Int.toNat 0) default).getD (Int.toNat 2) default))) then true else decide ((F44 (((Qa lines (⟨#[110,97,116]⟩:ByteArray)).getD (Int.toNat 0) default).getD (Int.toNat 3) default))>(F44 (((Qa lines (⟨#[110,97,116]⟩:ByteArray)).getD (Int.toNat 0) default).getD (Int.toNat 4) default)))) then true else decide (((Qa lines (⟨#[100,111,111,114]⟩:ByteArray)).length:Int)>6)) then true else ((runL (Jj lines) ((Int.toNat (((Qa lines (⟨#[100,111,111,114]⟩:ByteArray)).length:Int)-0))+1) 0).fin (fun r=>r) (fun v64=>false)))
abbrev Lz (lines:List ByteArray) (v64:Int):Nat×Int:=(((Int.toNat ((((Qa lines (⟨#[100,111,111,114]⟩:ByteArray)).take (Int.toNat v64)).length:Int)-0))+1),0)
abbrev Qib (lines:List ByteArray) (v64:Int) (m39:Nat) (v89:Int):Prop:=Int.toNat ((((Qa lines (⟨#[100,111,111,114]⟩:ByteArray)).take (Int.toNat v64)).length:Int)-v89)<m39∧(0:Int)≤v89
abbrev Qrs (lines:List ByteArray) (v64:Int):Lp Int Bool:=LpX (Jo lines v64) (Lz lines v64)
abbrev Lv (lines:List ByteArray) (v64:Int) (i:Nat×Int):Prop:=LpJ (Jo lines v64) (Lz lines v64) i (Qib lines v64 i.1 i.2)
abbrev Qum (lines:List ByteArray) (v64:Int) (i:Nat×Int) (m39:Nat) (v89:Int):Prop:=LpH (Jo lines v64) (Lz lines v64) i m39 v89 (Qib lines v64 (m39+1) v89)
abbrev Qvh (lines:List ByteArray) (v64:Int) (v89:Int) (v89_:Int) (K39:Prop):Prop:=(Rf (.int .i64 (F44 (((Qa lines (⟨#[110,97,116]⟩:ByteArray)).getD (Int.toNat 0) default).getD (Int.toNat 3) default))))∧(Rf (.int .i64 (F44 (((Qa lines (⟨#[110,97,116]⟩:ByteArray)).getD (Int.toNat 0) default).getD (Int.toNat 4) default))))∧(Rf (.int .i64 ((Qa lines (⟨#[100,111,111,114]⟩:ByteArray)).length:Int)))∧(Rf (.int .i64 v64))∧(Rf (.int .i64 (((Qa lines (⟨#[100,111,111,114]⟩:ByteArray)).take (Int.toNat v64)).length:Int)))∧((.int .i64 v89:Value)=.int .i64 v89_)∧(Im (.l 1 (eL 1 eStr) (Qa lines (⟨#[100,111,111,114]⟩:ByteArray))))∧(Rf (.int .i64 (F83 (((Qa lines (⟨#[110,97,116]⟩:ByteArray)).getD (Int.toNat 0) default).getD (Int.toNat 1) default)).1.Addr))∧(Rf (.int .i64 (F83 (((Qa lines (⟨#[110,97,116]⟩:ByteArray)).getD (Int.toNat 0) default).getD (Int.toNat 1) default)).1.Len))∧(Im (.l 1 eStr ((Qa lines (⟨#[100,111,111,114]⟩:ByteArray)).getD (Int.toNat v64) default)))∧(Im (.l 1 (eL 1 eStr) ((Qa lines (⟨#[100,111,111,114]⟩:ByteArray)).take (Int.toNat v64))))∧K39
theorem Uij (lines:List ByteArray) (v64:Int) (i:Nat×Int) (h:Lv lines v64 i):Qum lines v64 i (i.1-1) i.2:=⟨hd1 h.1 h.2.1,hd3 h.2.1,hd2 h.2.1,h.2.2⟩
theorem Ujy (lines:List ByteArray) (v64:Int) (i:Nat×Int) (m39:Nat) (v89:Int) (hl:m39<i.1) (e:runL (Jo lines v64) m39 v89=Qrs lines v64) (h:Qib lines v64 m39 v89):∃ j:Nat×Int,Qvh lines v64 v89 j.2 (Lv lines v64 j∧j.1<i.1):=⟨(m39,v89),rfl,rfl,rfl,rfl,rfl,rfl,Imp.refl _,rfl,rfl,Imp.refl _,Imp.refl _,⟨e,h⟩,hl⟩
theorem Ugj (lines:List ByteArray) (v64:Int) (h:(0:Int)≤0):Qvh lines v64 0 0 (Lv lines v64 (Lz lines v64)):=⟨rfl,rfl,rfl,rfl,rfl,rfl,Imp.refl _,rfl,rfl,Imp.refl _,Imp.refl _,rfl,Nat.lt_succ_self _,h⟩
abbrev Pw (lines:List ByteArray):Nat×Int:=(((Int.toNat (((Qa lines (⟨#[100,111,111,114]⟩:ByteArray)).length:Int)-0))+1),0)
abbrev Qja (lines:List ByteArray) (m39:Nat) (v64:Int):Prop:=Int.toNat (((Qa lines (⟨#[100,111,111,114]⟩:ByteArray)).length:Int)-v64)<m39∧(0:Int)≤v64
abbrev Qvk (lines:List ByteArray):Lp Int Bool:=LpX (Jj lines) (Pw lines)
abbrev Mv (lines:List ByteArray) (i:Nat×Int):Prop:=LpJ (Jj lines) (Pw lines) i (Qja lines i.1 i.2)
abbrev Qqt (lines:List ByteArray) (i:Nat×Int) (m39:Nat) (v64:Int):Prop:=LpH (Jj lines) (Pw lines) i m39 v64 (Qja lines (m39+1) v64)
abbrev Qtw (lines:List ByteArray) (v64:Int) (v64_:Int) (K39:Prop):Prop:=(Rf (.int .i64 (F44 (((Qa lines (⟨#[110,97,116]⟩:ByteArray)).getD (Int.toNat 0) default).getD (Int.toNat 3) default))))∧(Rf (.int .i64 (F44 (((Qa lines (⟨#[110,97,116]⟩:ByteArray)).getD (Int.toNat 0) default).getD (Int.toNat 4) default))))∧(Rf (.int .i64 ((Qa lines (⟨#[100,111,111,114]⟩:ByteArray)).length:Int)))∧((.int .i64 v64:Value)=.int .i64 v64_)∧(Im (.l 1 (eL 1 eStr) (Qa lines (⟨#[100,111,111,114]⟩:ByteArray))))∧(Rf (.int .i64 (F83 (((Qa lines (⟨#[110,97,116]⟩:ByteArray)).getD (Int.toNat 0) default).getD (Int.toNat 1) default)).1.Addr))∧(Rf (.int .i64 (F83 (((Qa lines (⟨#[110,97,116]⟩:ByteArray)).getD (Int.toNat 0) default).getD (Int.toNat 1) default)).1.Len))∧K39
theorem Ujb (lines:List ByteArray) (i:Nat×Int) (h:Mv lines i):Qqt lines i (i.1-1) i.2:=⟨hd1 h.1 h.2.1,hd3 h.2.1,hd2 h.2.1,h.2.2⟩
theorem Ulc (lines:List ByteArray) (i:Nat×Int) (m39:Nat) (v64:Int) (hl:m39<i.1) (e:runL (Jj lines) m39 v64=Qvk lines) (h:Qja lines m39 v64):∃ j:Nat×Int,Qtw lines v64 j.2 (Mv lines j∧j.1<i.1):=⟨(m39,v64),rfl,rfl,rfl,rfl,Imp.refl _,rfl,rfl,⟨e,h⟩,hl⟩
theorem Ujg (lines:List ByteArray) (h:(0:Int)≤0):Qtw lines 0 0 (Mv lines (Pw lines)):=⟨rfl,rfl,rfl,rfl,Imp.refl _,rfl,rfl,rfl,Nat.lt_succ_self _,h⟩
def S166 (lines:List ByteArray):Spec:=⟨[.r (.c (.l 1 eStr lines))],.v (.bool (F166 lines)),F64 lines=0∧lines.length≤16∧(∀ k:Nat,(lines.getD k default).size≤1048576)⟩
theorem ok166 (lines:List ByteArray):(S166 lines).ok Tryz.prog 166 false :=
 Qi mixed (fn:=Tryz.f166) (ct:=.seqk [(0,0)] .no (.seq (.reg [(1,Xb lines (⟨#[110,97,116]⟩:ByteArray)),(3,Xb lines (⟨#[100,111,111,114]⟩:ByteArray))]) (.seq (.seq .no (.cond (.seq .no .no) .no)) (.seq (.reg [(5,kh83 (((Qa lines (⟨#[110,97,116]⟩:ByteArray)).getD (Int.toNat 0) default).getD (Int.toNat 1) default))]) (.seq (.reg [(5,kh44 (((Qa lines (⟨#[110,97,116]⟩:ByteArray)).getD (Int.toNat 0) default).getD (Int.toNat 3) default)),(11,kh44 (((Qa lines (⟨#[110,97,116]⟩:ByteArray)).getD (Int.toNat 0) default).getD (Int.toNat 4) default))]) (.seq (.seq (.reg [(6,kh43 (((Qa lines (⟨#[110,97,116]⟩:ByteArray)).getD (Int.toNat 0) default).getD (Int.toNat 2) default)),(7,.call 199 (S199 (⟨(F83 (((Qa lines (⟨#[110,97,116]⟩:ByteArray)).getD (Int.toNat 0) default).getD (Int.toNat 1) default)).1.Addr,(F83 (((Qa lines (⟨#[110,97,116]⟩:ByteArray)).getD (Int.toNat 0) default).getD (Int.toNat 1) default)).1.Len⟩:Qb) (F43 (((Qa lines (⟨#[110,97,116]⟩:ByteArray)).getD (Int.toNat 0) default).getD (Int.toNat 2) default))) ((Uev (⟨(F83 (((Qa lines (⟨#[110,97,116]⟩:ByteArray)).getD (Int.toNat 0) default).getD (Int.toNat 1) default)).1.Addr,(F83 (((Qa lines (⟨#[110,97,116]⟩:ByteArray)).getD (Int.toNat 0) default).getD (Int.toNat 1) default)).1.Len⟩:Qb) (F43 (((Qa lines (⟨#[110,97,116]⟩:ByteArray)).getD (Int.toNat 0) default).getD (Int.toNat 2) default))).to false) none)]) (.cond (.seq .no .no) .no)) (.seq (.seqk [(4,0),(62,0)] .no (.blk (.loop (ι:=Nat×Int) (fun i=>(fun (v64:Int)=>(⟨[(4,some (.h 0 0)),(5,some (.p 1 0)),(7,some (.v (vI (F44 (((Qa lines (⟨#[110,97,116]⟩:ByteArray)).getD (Int.toNat 0) default).getD (Int.toNat 3) default))))),(8,some (.v (vI (F44 (((Qa lines (⟨#[110,97,116]⟩:ByteArray)).getD (Int.toNat 0) default).getD (Int.toNat 4) default))))),(62,some (.h 0 0)),(63,some (.v (vI ((Qa lines (⟨#[100,111,111,114]⟩:ByteArray)).length:Int)))),(64,some (.v (vI v64)))],[(0,some (.own 0 (.l 1 (eL 1 eStr) (Qa lines (⟨#[100,111,111,114]⟩:ByteArray))))),(1,some (.box 58 [.v (vI (F83 (((Qa lines (⟨#[110,97,116]⟩:ByteArray)).getD (Int.toNat 0) default).getD (Int.toNat 1) default)).1.Addr),.v (vI (F83 (((Qa lines (⟨#[110,97,116]⟩:ByteArray)).getD (Int.toNat 0) default).getD (Int.toNat 1) default)).1.Len)]))],2⟩:St)) i.2) (Mv lines) (fun i=>i.1) (Pw lines) (fun i=>(fun (v64:Int)=>(.seq .no (.seq (.cond .no .no) (.seq (.blk (.seq (.reg [(2,.sh)]) (.seq (.seq (.reg [(4,kh43 (((Qa lines (⟨#[100,111,111,114]⟩:ByteArray)).getD (Int.toNat v64) default).getD (Int.toNat 3) default)),(5,.call 199 (S199 (⟨(F83 (((Qa lines (⟨#[110,97,116]⟩:ByteArray)).getD (Int.toNat 0) default).getD (Int.toNat 1) default)).1.Addr,(F83 (((Qa lines (⟨#[110,97,116]⟩:ByteArray)).getD (Int.toNat 0) default).getD (Int.toNat 1) default)).1.Len⟩:Qb) (F43 (((Qa lines (⟨#[100,111,111,114]⟩:ByteArray)).getD (Int.toNat v64) default).getD (Int.toNat 3) default))) ((Uev (⟨(F83 (((Qa lines (⟨#[110,97,116]⟩:ByteArray)).getD (Int.toNat 0) default).getD (Int.toNat 1) default)).1.Addr,(F83 (((Qa lines (⟨#[110,97,116]⟩:ByteArray)).getD (Int.toNat 0) default).getD (Int.toNat 1) default)).1.Len⟩:Qb) (F43 (((Qa lines (⟨#[100,111,111,114]⟩:ByteArray)).getD (Int.toNat v64) default).getD (Int.toNat 3) default))).to false) none),(11,kh44 (((Qa lines (⟨#[100,111,111,114]⟩:ByteArray)).getD (Int.toNat v64) default).getD (Int.toNat 2) default)),(14,Qag (F44 (((Qa lines (⟨#[100,111,111,114]⟩:ByteArray)).getD (Int.toNat v64) default).getD (Int.toNat 2) default)) (F44 (((Qa lines (⟨#[110,97,116]⟩:ByteArray)).getD (Int.toNat 0) default).getD (Int.toNat 3) default)) (F44 (((Qa lines (⟨#[110,97,116]⟩:ByteArray)).getD (Int.toNat 0) default).getD (Int.toNat 4) default)))]) (.cond (.seq .no .no) .no)) (.seqk [(10,0),(87,0)] .no (.blk (.loop (ι:=Nat×Int) (fun i=>(fun (v89:Int)=>(⟨[(4,some (.h 0 0)),(5,some (.p 1 0)),(7,some (.v (vI (F44 (((Qa lines (⟨#[110,97,116]⟩:ByteArray)).getD (Int.toNat 0) default).getD (Int.toNat 3) default))))),(8,some (.v (vI (F44 (((Qa lines (⟨#[110,97,116]⟩:ByteArray)).getD (Int.toNat 0) default).getD (Int.toNat 4) default))))),(10,some (.h 2 0)),(62,some (.h 0 0)),(63,some (.v (vI ((Qa lines (⟨#[100,111,111,114]⟩:ByteArray)).length:Int)))),(64,some (.v (vI v64))),(87,some (.h 3 0)),(88,some (.v (vI (((Qa lines (⟨#[100,111,111,114]⟩:ByteArray)).take (Int.toNat v64)).length:Int)))),(89,some (.v (vI v89)))],[(0,some (.own 0 (.l 1 (eL 1 eStr) (Qa lines (⟨#[100,111,111,114]⟩:ByteArray))))),(1,some (.box 58 [.v (vI (F83 (((Qa lines (⟨#[110,97,116]⟩:ByteArray)).getD (Int.toNat 0) default).getD (Int.toNat 1) default)).1.Addr),.v (vI (F83 (((Qa lines (⟨#[110,97,116]⟩:ByteArray)).getD (Int.toNat 0) default).getD (Int.toNat 1) default)).1.Len)])),(2,some (.shr (some (0,0)) (.l 1 eStr ((Qa lines (⟨#[100,111,111,114]⟩:ByteArray)).getD (Int.toNat v64) default)))),(3,some (.shr (some (0,0)) (.l 1 (eL 1 eStr) ((Qa lines (⟨#[100,111,111,114]⟩:ByteArray)).take (Int.toNat v64)))))],4⟩:St)) i.2) (Lv lines v64) (fun i=>i.1) (Lz lines v64) (fun i=>(fun (v89:Int)=>(.seq .no (.seq (.cond .no .no) (.seq (.blk (.seq .no (.seq .no (.cond (.seq .no .no) .no)))) (.reg [(0,.bnd)]))))) i.2))))))) (.reg [(0,.bnd)]))))) i.2)))) (.seq .no .no)))))))) Tryz.func166 (fun (hp:F64 lines=0∧lines.length≤16∧(∀ k:Nat,(lines.getD k default).size≤1048576))=>have hpre0:=hp.1; have hpre1:=hp.2.1; have hpre2:=hp.2.2; kn lines fun _=>Hj lines (⟨#[110,97,116]⟩:ByteArray) (by omega) (by assumption) (by omega) (fun gv1=>Hj lines (⟨#[100,111,111,114]⟩:ByteArray) (by omega) (by assumption) (by omega) (fun gv2=>ife ((Qa lines (⟨#[110,97,116]⟩:ByteArray)).length:Int) 0 (fun h3 _=>fiB (decide (((Qa lines (⟨#[100,111,111,114]⟩:ByteArray)).length:Int)>0)) (F166 lines) (condT h3 rfl)) (fun h3 _=>ai (by (omega):0≤(0:Int)∧(0:Int)<((Qa lines (⟨#[110,97,116]⟩:ByteArray)).length:Int)) (ai (by (have h9:=Qjv lines (by omega) (Int.toNat 0) (by omega); unfold natP at h9; omega):0≤(1:Int)∧(1:Int)<(((Qa lines (⟨#[110,97,116]⟩:ByteArray)).getD (Int.toNat 0) default).length:Int)) (kc83 (((Qa lines (⟨#[110,97,116]⟩:ByteArray)).getD (Int.toNat 0) default).getD (Int.toNat 1) default) (by exact Yq lines _ (by omega) _ _) (ai (by (omega):0≤(0:Int)∧(0:Int)<((Qa lines (⟨#[110,97,116]⟩:ByteArray)).length:Int)) (ai (by (have h9:=Qjv lines (by omega) (Int.toNat 0) (by omega); unfold natP at h9; omega):0≤(3:Int)∧(3:Int)<(((Qa lines (⟨#[110,97,116]⟩:ByteArray)).getD (Int.toNat 0) default).length:Int)) (kc44 (((Qa lines (⟨#[110,97,116]⟩:ByteArray)).getD (Int.toNat 0) default).getD (Int.toNat 3) default) (by exact Yq lines _ (by omega) _ _) (ai (by (omega):0≤(0:Int)∧(0:Int)<((Qa lines (⟨#[110,97,116]⟩:ByteArray)).length:Int)) (ai (by (have h9:=Qjv lines (by omega) (Int.toNat 0) (by omega); unfold natP at h9; omega):0≤(4:Int)∧(4:Int)<(((Qa lines (⟨#[110,97,116]⟩:ByteArray)).getD (Int.toNat 0) default).length:Int)) (kc44 (((Qa lines (⟨#[110,97,116]⟩:ByteArray)).getD (Int.toNat 0) default).getD (Int.toNat 4) default) (by exact Yq lines _ (by omega) _ _) (ai (by (omega):0≤(0:Int)∧(0:Int)<((Qa lines (⟨#[110,97,116]⟩:ByteArray)).length:Int)) (ai (by (have h9:=Qjv lines (by omega) (Int.toNat 0) (by omega); unfold natP at h9; omega):0≤(2:Int)∧(2:Int)<(((Qa lines (⟨#[110,97,116]⟩:ByteArray)).getD (Int.toNat 0) default).length:Int)) (kc43 (((Qa lines (⟨#[110,97,116]⟩:ByteArray)).getD (Int.toNat 0) default).getD (Int.toNat 2) default) (by exact Yq lines _ (by omega) _ _) (ai (ai (by exact (Km _).1:0≤(F83 (((Qa lines (⟨#[110,97,116]⟩:ByteArray)).getD (Int.toNat 0) default).getD (Int.toNat 1) default)).1.Len) (by exact (Km _).2.1:(F83 (((Qa lines (⟨#[110,97,116]⟩:ByteArray)).getD (Int.toNat 0) default).getD (Int.toNat 1) default)).1.Len≤16)) (ai (Imps.refl (Qk (⟨(F83 (((Qa lines (⟨#[110,97,116]⟩:ByteArray)).getD (Int.toNat 0) default).getD (Int.toNat 1) default)).1.Addr,(F83 (((Qa lines (⟨#[110,97,116]⟩:ByteArray)).getD (Int.toNat 0) default).getD (Int.toNat 1) default)).1.Len⟩:Qb))) (ai (Imp.refl (.v (vI (F43 (((Qa lines (⟨#[110,97,116]⟩:ByteArray)).getD (Int.toNat 0) default).getD (Int.toNat 2) default))))) (ifb (bif (bif (F199 ⟨(F83 (((Qa lines (⟨#[110,97,116]⟩:ByteArray)).getD (Int.toNat 0) default).getD (Int.toNat 1) default)).1.Addr,(F83 (((Qa lines (⟨#[110,97,116]⟩:ByteArray)).getD (Int.toNat 0) default).getD (Int.toNat 1) default)).1.Len⟩ (F43 (((Qa lines (⟨#[110,97,116]⟩:ByteArray)).getD (Int.toNat 0) default).getD (Int.toNat 2) default))) then true else decide ((F44 (((Qa lines (⟨#[110,97,116]⟩:ByteArray)).getD (Int.toNat 0) default).getD (Int.toNat 3) default))>(F44 (((Qa lines (⟨#[110,97,116]⟩:ByteArray)).getD (Int.toNat 0) default).getD (Int.toNat 4) default)))) then true else decide (((Qa lines (⟨#[100,111,111,114]⟩:ByteArray)).length:Int)>6)) (fun h4=>fiB true (F166 lines) (condF h3 (condT h4 rfl))) (fun h4=>have _:¬ (F44 (((Qa lines (⟨#[110,97,116]⟩:ByteArray)).getD (Int.toNat 0) default).getD (Int.toNat 3) default))>(F44 (((Qa lines (⟨#[110,97,116]⟩:ByteArray)).getD (Int.toNat 0) default).getD (Int.toNat 4) default)):=of_decide_eq_false (orF2 (orF1 h4)); have _:¬ ((Qa lines (⟨#[100,111,111,114]⟩:ByteArray)).length:Int)>6:=of_decide_eq_false (orF2 h4); kn (Qa lines (⟨#[100,111,111,114]⟩:ByteArray)) fun _=>kn (Qa lines (⟨#[100,111,111,114]⟩:ByteArray)) fun _=>ai (Ujg lines (by omega)) (fun (i0:Nat×Int) (hi0:Mv lines i0)=>(fun (m0:Nat) (v64:Int) (hh0:Qqt lines i0 m0 v64)=>have hI0:=hh0.1; have hl0:=hh0.2.1; have _:=hh0.2.2.1; have _:=hh0.2.2.2; ifd (v64<((Qa lines (⟨#[100,111,111,114]⟩:ByteArray)).length:Int)) (fun h6 _=>ai (by (omega):0≤v64∧v64<((Qa lines (⟨#[100,111,111,114]⟩:ByteArray)).length:Int)) (ai (by (have h9:=Gk lines (by omega) (Int.toNat v64) (by omega); unfold Wi at h9; omega):0≤(3:Int)∧(3:Int)<(((Qa lines (⟨#[100,111,111,114]⟩:ByteArray)).getD (Int.toNat v64) default).length:Int)) (kc43 (((Qa lines (⟨#[100,111,111,114]⟩:ByteArray)).getD (Int.toNat v64) default).getD (Int.toNat 3) default) (by exact Yq lines _ (by omega) _ _) (ai (ai (by exact (Km _).1:0≤(F83 (((Qa lines (⟨#[110,97,116]⟩:ByteArray)).getD (Int.toNat 0) default).getD (Int.toNat 1) default)).1.Len) (by exact (Km _).2.1:(F83 (((Qa lines (⟨#[110,97,116]⟩:ByteArray)).getD (Int.toNat 0) default).getD (Int.toNat 1) default)).1.Len≤16)) (ai (Imps.refl (Qk (⟨(F83 (((Qa lines (⟨#[110,97,116]⟩:ByteArray)).getD (Int.toNat 0) default).getD (Int.toNat 1) default)).1.Addr,(F83 (((Qa lines (⟨#[110,97,116]⟩:ByteArray)).getD (Int.toNat 0) default).getD (Int.toNat 1) default)).1.Len⟩:Qb))) (ai (Imp.refl (.v (vI (F43 (((Qa lines (⟨#[100,111,111,114]⟩:ByteArray)).getD (Int.toNat v64) default).getD (Int.toNat 3) default))))) (ai (fun k7:(!(F199 ⟨(F83 (((Qa lines (⟨#[110,97,116]⟩:ByteArray)).getD (Int.toNat 0) default).getD (Int.toNat 1) default)).1.Addr,(F83 (((Qa lines (⟨#[110,97,116]⟩:ByteArray)).getD (Int.toNat 0) default).getD (Int.toNat 1) default)).1.Len⟩ (F43 (((Qa lines (⟨#[100,111,111,114]⟩:ByteArray)).getD (Int.toNat v64) default).getD (Int.toNat 3) default))))=false=>(by (have h9:=Gk lines (by omega) (Int.toNat v64) (by omega); unfold Wi at h9; omega):0≤(2:Int)∧(2:Int)<(((Qa lines (⟨#[100,111,111,114]⟩:ByteArray)).getD (Int.toNat v64) default).length:Int))) (kg44 (!(F199 ⟨(F83 (((Qa lines (⟨#[110,97,116]⟩:ByteArray)).getD (Int.toNat 0) default).getD (Int.toNat 1) default)).1.Addr,(F83 (((Qa lines (⟨#[110,97,116]⟩:ByteArray)).getD (Int.toNat 0) default).getD (Int.toNat 1) default)).1.Len⟩ (F43 (((Qa lines (⟨#[100,111,111,114]⟩:ByteArray)).getD (Int.toNat v64) default).getD (Int.toNat 3) default)))) false (((Qa lines (⟨#[100,111,111,114]⟩:ByteArray)).getD (Int.toNat v64) default).getD (Int.toNat 2) default) (fun k8=>(by exact Yq lines _ (by omega) _ _)) (Qvj (!(F199 ⟨(F83 (((Qa lines (⟨#[110,97,116]⟩:ByteArray)).getD (Int.toNat 0) default).getD (Int.toNat 1) default)).1.Addr,(F83 (((Qa lines (⟨#[110,97,116]⟩:ByteArray)).getD (Int.toNat 0) default).getD (Int.toNat 1) default)).1.Len⟩ (F43 (((Qa lines (⟨#[100,111,111,114]⟩:ByteArray)).getD (Int.toNat v64) default).getD (Int.toNat 3) default)))) false (F44 (((Qa lines (⟨#[100,111,111,114]⟩:ByteArray)).getD (Int.toNat v64) default).getD (Int.toNat 2) default)) (F44 (((Qa lines (⟨#[110,97,116]⟩:ByteArray)).getD (Int.toNat 0) default).getD (Int.toNat 3) default)) (F44 (((Qa lines (⟨#[110,97,116]⟩:ByteArray)).getD (Int.toNat 0) default).getD (Int.toNat 4) default)) (ifb (bif (!(F199 ⟨(F83 (((Qa lines (⟨#[110,97,116]⟩:ByteArray)).getD (Int.toNat 0) default).getD (Int.toNat 1) default)).1.Addr,(F83 (((Qa lines (⟨#[110,97,116]⟩:ByteArray)).getD (Int.toNat 0) default).getD (Int.toNat 1) default)).1.Len⟩ (F43 (((Qa lines (⟨#[100,111,111,114]⟩:ByteArray)).getD (Int.toNat v64) default).getD (Int.toNat 3) default)))) then true else (decide ((F44 (((Qa lines (⟨#[110,97,116]⟩:ByteArray)).getD (Int.toNat 0) default).getD (Int.toNat 3) default))≤(F44 (((Qa lines (⟨#[100,111,111,114]⟩:ByteArray)).getD (Int.toNat v64) default).getD (Int.toNat 2) default))∧(F44 (((Qa lines (⟨#[100,111,111,114]⟩:ByteArray)).getD (Int.toNat v64) default).getD (Int.toNat 2) default))≤(F44 (((Qa lines (⟨#[110,97,116]⟩:ByteArray)).getD (Int.toNat 0) default).getD (Int.toNat 4) default))))) (fun h10=>fiB true (F166 lines) (condF h3 (condF h4 (finR (Qr hI0 (condT h6 (condT h10 rfl))) rfl)))) (fun h10=>have _:¬ ((F44 (((Qa lines (⟨#[110,97,116]⟩:ByteArray)).getD (Int.toNat 0) default).getD (Int.toNat 3) default))≤(F44 (((Qa lines (⟨#[100,111,111,114]⟩:ByteArray)).getD (Int.toNat v64) default).getD (Int.toNat 2) default))∧(F44 (((Qa lines (⟨#[100,111,111,114]⟩:ByteArray)).getD (Int.toNat v64) default).getD (Int.toNat 2) default))≤(F44 (((Qa lines (⟨#[110,97,116]⟩:ByteArray)).getD (Int.toNat 0) default).getD (Int.toNat 4) default))):=of_decide_eq_false (orF2 h10); ai (by omega:0≤(0:Int)∧(0:Int)≤v64∧v64≤((Qa lines (⟨#[100,111,111,114]⟩:ByteArray)).length:Int)) (kn ((Qa lines (⟨#[100,111,111,114]⟩:ByteArray)).getD (Int.toNat v64) default) fun _=>kn ((Qa lines (⟨#[100,111,111,114]⟩:ByteArray)).take (Int.toNat v64)) fun _=>ai (Ugj lines v64 (by omega)) (fun (i1:Nat×Int) (hi1:Lv lines v64 i1)=>(fun (m1:Nat) (v89:Int) (hh1:Qum lines v64 i1 m1 v89)=>have hI1:=hh1.1; have hl1:=hh1.2.1; have _:=hh1.2.2.1; have _:=hh1.2.2.2; ifd (v89<(((Qa lines (⟨#[100,111,111,114]⟩:ByteArray)).take (Int.toNat v64)).length:Int)) (fun h12 _=>ai (by (omega):0≤v89∧v89<(((Qa lines (⟨#[100,111,111,114]⟩:ByteArray)).take (Int.toNat v64)).length:Int)) (ai (by (have h9:=Qbi lines (by omega) (Int.toNat v64) (Int.toNat v89) (by omega); unfold Wi at h9; omega):0≤(1:Int)∧(1:Int)<((((Qa lines (⟨#[100,111,111,114]⟩:ByteArray)).take (Int.toNat v64)).getD (Int.toNat v89) default).length:Int)) (ai (by (have h9:=Gk lines (by omega) (Int.toNat v64) (by omega); unfold Wi at h9; omega):0≤(1:Int)∧(1:Int)<(((Qa lines (⟨#[100,111,111,114]⟩:ByteArray)).getD (Int.toNat v64) default).length:Int)) (ai (fun k13:(((((Qa lines (⟨#[100,111,111,114]⟩:ByteArray)).take (Int.toNat v64)).getD (Int.toNat v89) default).getD (Int.toNat 1) default).toList==(((Qa lines (⟨#[100,111,111,114]⟩:ByteArray)).getD (Int.toNat v64) default).getD (Int.toNat 1) default).toList)=true=>(by (have h9:=Qbi lines (by omega) (Int.toNat v64) (Int.toNat v89) (by omega); unfold Wi at h9; omega):0≤(3:Int)∧(3:Int)<((((Qa lines (⟨#[100,111,111,114]⟩:ByteArray)).take (Int.toNat v64)).getD (Int.toNat v89) default).length:Int))) (ai (fun k14:(((((Qa lines (⟨#[100,111,111,114]⟩:ByteArray)).take (Int.toNat v64)).getD (Int.toNat v89) default).getD (Int.toNat 1) default).toList==(((Qa lines (⟨#[100,111,111,114]⟩:ByteArray)).getD (Int.toNat v64) default).getD (Int.toNat 1) default).toList)=true=>(by (have h9:=Gk lines (by omega) (Int.toNat v64) (by omega); unfold Wi at h9; omega):0≤(3:Int)∧(3:Int)<(((Qa lines (⟨#[100,111,111,114]⟩:ByteArray)).getD (Int.toNat v64) default).length:Int))) (ai (fun k15:(bif (((((Qa lines (⟨#[100,111,111,114]⟩:ByteArray)).take (Int.toNat v64)).getD (Int.toNat v89) default).getD (Int.toNat 1) default).toList==(((Qa lines (⟨#[100,111,111,114]⟩:ByteArray)).getD (Int.toNat v64) default).getD (Int.toNat 1) default).toList) then (((((Qa lines (⟨#[100,111,111,114]⟩:ByteArray)).take (Int.toNat v64)).getD (Int.toNat v89) default).getD (Int.toNat 3) default).toList==(((Qa lines (⟨#[100,111,111,114]⟩:ByteArray)).getD (Int.toNat v64) default).getD (Int.toNat 3) default).toList) else false)=true=>have _:(((((Qa lines (⟨#[100,111,111,114]⟩:ByteArray)).take (Int.toNat v64)).getD (Int.toNat v89) default).getD (Int.toNat 1) default).toList==(((Qa lines (⟨#[100,111,111,114]⟩:ByteArray)).getD (Int.toNat v64) default).getD (Int.toNat 1) default).toList)=true:=(Qn k15); have _:(((((Qa lines (⟨#[100,111,111,114]⟩:ByteArray)).take (Int.toNat v64)).getD (Int.toNat v89) default).getD (Int.toNat 3) default).toList==(((Qa lines (⟨#[100,111,111,114]⟩:ByteArray)).getD (Int.toNat v64) default).getD (Int.toNat 3) default).toList)=true:=(Qv k15); (by (have h9:=Qbi lines (by omega) (Int.toNat v64) (Int.toNat v89) (by omega); unfold Wi at h9; omega):0≤(4:Int)∧(4:Int)<((((Qa lines (⟨#[100,111,111,114]⟩:ByteArray)).take (Int.toNat v64)).getD (Int.toNat v89) default).length:Int))) (ai (fun k16:(bif (((((Qa lines (⟨#[100,111,111,114]⟩:ByteArray)).take (Int.toNat v64)).getD (Int.toNat v89) default).getD (Int.toNat 1) default).toList==(((Qa lines (⟨#[100,111,111,114]⟩:ByteArray)).getD (Int.toNat v64) default).getD (Int.toNat 1) default).toList) then (((((Qa lines (⟨#[100,111,111,114]⟩:ByteArray)).take (Int.toNat v64)).getD (Int.toNat v89) default).getD (Int.toNat 3) default).toList==(((Qa lines (⟨#[100,111,111,114]⟩:ByteArray)).getD (Int.toNat v64) default).getD (Int.toNat 3) default).toList) else false)=true=>have _:(((((Qa lines (⟨#[100,111,111,114]⟩:ByteArray)).take (Int.toNat v64)).getD (Int.toNat v89) default).getD (Int.toNat 1) default).toList==(((Qa lines (⟨#[100,111,111,114]⟩:ByteArray)).getD (Int.toNat v64) default).getD (Int.toNat 1) default).toList)=true:=(Qn k16); have _:(((((Qa lines (⟨#[100,111,111,114]⟩:ByteArray)).take (Int.toNat v64)).getD (Int.toNat v89) default).getD (Int.toNat 3) default).toList==(((Qa lines (⟨#[100,111,111,114]⟩:ByteArray)).getD (Int.toNat v64) default).getD (Int.toNat 3) default).toList)=true:=(Qv k16); (by (have h9:=Gk lines (by omega) (Int.toNat v64) (by omega); unfold Wi at h9; omega):0≤(4:Int)∧(4:Int)<(((Qa lines (⟨#[100,111,111,114]⟩:ByteArray)).getD (Int.toNat v64) default).length:Int))) (ifb (bif (bif (((((Qa lines (⟨#[100,111,111,114]⟩:ByteArray)).take (Int.toNat v64)).getD (Int.toNat v89) default).getD (Int.toNat 1) default).toList==(((Qa lines (⟨#[100,111,111,114]⟩:ByteArray)).getD (Int.toNat v64) default).getD (Int.toNat 1) default).toList) then (((((Qa lines (⟨#[100,111,111,114]⟩:ByteArray)).take (Int.toNat v64)).getD (Int.toNat v89) default).getD (Int.toNat 3) default).toList==(((Qa lines (⟨#[100,111,111,114]⟩:ByteArray)).getD (Int.toNat v64) default).getD (Int.toNat 3) default).toList) else false) then (((((Qa lines (⟨#[100,111,111,114]⟩:ByteArray)).take (Int.toNat v64)).getD (Int.toNat v89) default).getD (Int.toNat 4) default).toList==(((Qa lines (⟨#[100,111,111,114]⟩:ByteArray)).getD (Int.toNat v64) default).getD (Int.toNat 4) default).toList) else false) (fun h17=>have _:(((((Qa lines (⟨#[100,111,111,114]⟩:ByteArray)).take (Int.toNat v64)).getD (Int.toNat v89) default).getD (Int.toNat 1) default).toList==(((Qa lines (⟨#[100,111,111,114]⟩:ByteArray)).getD (Int.toNat v64) default).getD (Int.toNat 1) default).toList)=true:=(Qn (Qn h17)); have _:(((((Qa lines (⟨#[100,111,111,114]⟩:ByteArray)).take (Int.toNat v64)).getD (Int.toNat v89) default).getD (Int.toNat 3) default).toList==(((Qa lines (⟨#[100,111,111,114]⟩:ByteArray)).getD (Int.toNat v64) default).getD (Int.toNat 3) default).toList)=true:=(Qv (Qn h17)); have _:(((((Qa lines (⟨#[100,111,111,114]⟩:ByteArray)).take (Int.toNat v64)).getD (Int.toNat v89) default).getD (Int.toNat 4) default).toList==(((Qa lines (⟨#[100,111,111,114]⟩:ByteArray)).getD (Int.toNat v64) default).getD (Int.toNat 4) default).toList)=true:=(Qv h17); fiB true (F166 lines) (condF h3 (condF h4 (finR (Qr hI0 (condT h6 (condF h10 (finR (Qr hI1 (condT h12 (condT h17 rfl))) rfl)))) rfl)))) (fun h17=>ai (iok (v89+1) (by omega)) (Ujy lines v64 i1 m1 (v89+1) hl1 (Qe hI1 (condT h12 (condF h17 rfl))) (by refine ⟨?_,?_⟩ <;> omega))))))))))) (fun h12 _=>have hD1_18:Qrs lines v64=Lp.done v89:=Qj hI1 (condF h12 rfl); ai (iok (v64+1) (by omega)) (Ulc lines i0 m0 (v64+1) hl0 (Qe hI0 (condT h6 (condF h10 (finD hD1_18 rfl)))) (by refine ⟨?_,?_⟩ <;> omega)))) (i1.1-1) i1.2 (Uij lines v64 i1 hi1)))))))))))))) (fun h6 _=>have hD0_19:Qvk lines=Lp.done v64:=Qj hI0 (condF h6 rfl); fiB false (F166 lines) (condF h3 (condF h4 (finD hD0_19 rfl))))) (i0.1-1) i0.2 (Ujb lines i0 hi0)))))))))))))))))))))) (by kernel_rfl)
theorem kc77 (c:l52Cut) (k:Int) {K_:Prop} (p0_:0≤k) (k_:K_):(0≤k)∧(Imps (Qh c) (Qh c))∧(Imp (.v (vI k)) (.v (vI k)))∧K_:=⟨p0_,Imps.refl _,Imp.refl _,k_⟩
abbrev kh77 (c:l52Cut) (k:Int):Hint true Tryz.prog:=.call 77 (S77 c k) (ok77 c k) none
theorem kg77 {K_:Prop} (c_ b_:Bool) (c:l52Cut) (k:Int) (p_:c_=b_→0≤k) (k_:K_):(c_=b_→0≤k)∧(c_=b_→Imps (Qh c) (Qh c))∧(c_=b_→Imp (.v (vI k)) (.v (vI k)))∧K_:=⟨p_,fun _=>Imps.refl _,fun _=>Imp.refl _,k_⟩
def Gc (all:List l52Cut):Int→Lp Int Bool:=fun i40 =>
 bif (decide (i40<(all.length:Int))) then (bif (bif ((F77 (all.getD (Int.toNat i40) default) 0).toList==(⟨#[117,115,101,114]⟩:ByteArray).toList) then ((F77 (all.getD (Int.toNat i40) default) 2).toList==(⟨#[97,108,108]⟩:ByteArray).toList) else false) then (.ret true) else (.next (i40+1))) else (.done i40)
def F66 (all:List l52Cut):Bool :=
 (runL (Gc all) ((Int.toNat ((all.length:Int)-0))+1) 0).fin (fun r=>r) (fun i40=>false)
abbrev Qdd (all:List l52Cut):Nat×Int:=(((Int.toNat ((all.length:Int)-0))+1),0)
abbrev Qmn (all:List l52Cut) (m39:Nat) (i40:Int):Prop:=Int.toNat ((all.length:Int)-i40)<m39∧(0:Int)≤i40
abbrev Udl (all:List l52Cut):Lp Int Bool:=LpX (Gc all) (Qdd all)
abbrev Qdc (all:List l52Cut) (i:Nat×Int):Prop:=LpJ (Gc all) (Qdd all) i (Qmn all i.1 i.2)
abbrev Uby (all:List l52Cut) (i:Nat×Int) (m39:Nat) (i40:Int):Prop:=LpH (Gc all) (Qdd all) i m39 i40 (Qmn all (m39+1) i40)
abbrev Qzh (all:List l52Cut) (i40:Int) (i40_:Int) (K39:Prop):Prop:=((.int .i64 i40:Value)=.int .i64 i40_)∧(Im (.l 1 Qh all))∧K39
theorem un66_0 (all:List l52Cut) (i:Nat×Int) (h:Qdc all i):Uby all i (i.1-1) i.2:=⟨hd1 h.1 h.2.1,hd3 h.2.1,hd2 h.2.1,h.2.2⟩
theorem bk66_0 (all:List l52Cut) (i:Nat×Int) (m39:Nat) (i40:Int) (hl:m39<i.1) (e:runL (Gc all) m39 i40=Udl all) (h:Qmn all m39 i40):∃ j:Nat×Int,Qzh all i40 j.2 (Qdc all j∧j.1<i.1):=⟨(m39,i40),rfl,Imp.refl _,⟨e,h⟩,hl⟩
theorem en66_0 (all:List l52Cut) (h:(0:Int)≤0):Qzh all 0 0 (Qdc all (Qdd all)):=⟨rfl,Imp.refl _,rfl,Nat.lt_succ_self _,h⟩
def S66 (all:List l52Cut):Spec:=⟨[.r (.c (.l 1 Qh all))],.v (.bool (F66 all)),True⟩
theorem ok66 (all:List l52Cut):(S66 all).ok Tryz.prog 66 :=
 Qi mixed (fn:=Tryz.f66) (ct:=.seqk [(0,0)] .no (.seq (.seqk [(0,0)] .no (.blk (.loop (ι:=Nat×Int) (fun i=>(fun (i40:Int)=>(⟨[(0,some (.h 0 0)),(3,some (.v (vI i40)))],[(0,some (.shr none (.l 1 Qh all)))],1⟩:St)) i.2) (Qdc all) (fun i=>i.1) (Qdd all) (fun i=>(fun (i40:Int)=>(.seq (.seq .no (.cond .no .no)) (.seq (.blk (.seq (.reg [(4,kh77 (all.getD (Int.toNat i40) default) 0),(11,kh77 (all.getD (Int.toNat i40) default) 2)]) (.cond (.seq .no .no) .no))) (.reg [(1,.bnd)])))) i.2)))) (.seq .no .no))) Tryz.func66 (fun (_:True)=>kn all fun _=>kn all fun _=>ai (en66_0 all (by omega)) (fun (i0:Nat×Int) (hi0:Qdc all i0)=>(fun (m0:Nat) (i40:Int) (hh0:Uby all i0 m0 i40)=>have hI0:=hh0.1; have hl0:=hh0.2.1; have _:=hh0.2.2.1; have _:=hh0.2.2.2; ifd (i40<(all.length:Int)) (fun h2 _=>ai (by omega:ib i40 all) (kc77 (all.getD (Int.toNat i40) default) 0 (by omega) (ai (fun k3:((F77 (all.getD (Int.toNat i40) default) 0).toList==w10_.toList)=true=>(by omega:ib i40 all)) (kg77 ((F77 (all.getD (Int.toNat i40) default) 0).toList==w10_.toList) true (all.getD (Int.toNat i40) default) 2 (fun k4=>(by omega)) (ifb (bif ((F77 (all.getD (Int.toNat i40) default) 0).toList==w10_.toList) then ((F77 (all.getD (Int.toNat i40) default) 2).toList==w11_.toList) else false) (fun h5=>have _:((F77 (all.getD (Int.toNat i40) default) 0).toList==w10_.toList)=true:=(Qn h5); have _:((F77 (all.getD (Int.toNat i40) default) 2).toList==w11_.toList)=true:=(Qv h5); fiB true (F66 all) (finR (Qr hI0 (condT h2 (condT h5 rfl))) rfl)) (fun h5=>ai (iok (i40+1) (by omega)) (bk66_0 all i0 m0 (i40+1) hl0 (Qe hI0 (condT h2 (condF h5 rfl))) (by refine ⟨?_,?_⟩ <;> omega)))))))) (fun h2 _=>have hD0_6:Udl all=Lp.done i40:=Qj hI0 (condF h2 rfl); fiB false (F66 all) (finD hD0_6 rfl))) (i0.1-1) i0.2 (un66_0 all i0 hi0))) (by kernel_rfl)
def Ge (all:List l52Cut) (name:ByteArray):(Int×Int)→Lp (Int×Int) Int:=fun (n,i40) =>
 bif (decide (i40<(all.length:Int))) then (bif (bif ((F77 (all.getD (Int.toNat i40) default) 0).toList==(⟨#[114,117,108,101]⟩:ByteArray).toList) then ((F77 (all.getD (Int.toNat i40) default) 1).toList==name.toList) else false) then (.next ((n+1),(i40+1))) else (.next (n,(i40+1)))) else (.done (n,i40))
def F98 (all:List l52Cut) (name:ByteArray):Int :=
 (runL (Ge all name) ((Int.toNat ((all.length:Int)-0))+1) (0,0)).fin (fun r=>r) (fun (n,i40)=>n)
abbrev Qay (all:List l52Cut):Nat×(Int×Int):=(((Int.toNat ((all.length:Int)-0))+1),(0,0))
abbrev Qom (all:List l52Cut) (m39:Nat) (n:Int) (i40:Int):Prop:=Int.toNat ((all.length:Int)-i40)<m39∧(0:Int)≤n∧(n:Int)≤i40∧(0:Int)≤n∧(0:Int)≤i40
abbrev Ucg (all:List l52Cut) (name:ByteArray):Lp (Int×Int) Int:=LpX (Ge all name) (Qay all)
abbrev Qdf (all:List l52Cut) (name:ByteArray) (i:Nat×(Int×Int)):Prop:=LpJ (Ge all name) (Qay all) i (Qom all i.1 i.2.1 i.2.2)
abbrev Udf (all:List l52Cut) (name:ByteArray) (i:Nat×(Int×Int)) (m39:Nat) (n:Int) (i40:Int):Prop:=LpH (Ge all name) (Qay all) i m39 (n,i40) (Qom all (m39+1) n i40)
abbrev Uaa (all:List l52Cut) (name:ByteArray) (n:Int) (i40:Int) (n_:Int) (i40_:Int) (K39:Prop):Prop:=(Rf (.string name))∧((.int .i64 n:Value)=.int .i64 n_)∧((.int .i64 i40:Value)=.int .i64 i40_)∧(Im (.l 1 Qh all))∧K39
theorem un98_0 (all:List l52Cut) (name:ByteArray) (i:Nat×(Int×Int)) (h:Qdf all name i):Udf all name i (i.1-1) i.2.1 i.2.2:=⟨hd1 h.1 h.2.1,hd3 h.2.1,hd2 h.2.1,h.2.2⟩
theorem Ucv (all:List l52Cut) (name:ByteArray) (i:Nat×(Int×Int)) (m39:Nat) (n:Int) (i40:Int) (hl:m39<i.1) (e:runL (Ge all name) m39 (n,i40)=Ucg all name) (h:Qom all m39 n i40):∃ j:Nat×(Int×Int),Uaa all name n i40 j.2.1 j.2.2 (Qdf all name j∧j.1<i.1):=⟨(m39,(n,i40)),rfl,rfl,rfl,Imp.refl _,⟨e,h⟩,hl⟩
theorem en98_0 (all:List l52Cut) (name:ByteArray) (h:(0:Int)≤0∧(0:Int)≤0∧(0:Int)≤0∧(0:Int)≤0):Uaa all name 0 0 0 0 (Qdf all name (Qay all)):=⟨rfl,rfl,rfl,Imp.refl _,rfl,Nat.lt_succ_self _,h⟩
def S98 (all:List l52Cut) (name:ByteArray):Spec:=⟨[.r (.c (.l 1 Qh all)),.r (.c (.v (.string name)))],.v (vI (F98 all name)),True⟩
theorem ok98 (all:List l52Cut) (name:ByteArray):(S98 all name).ok Tryz.prog 98 :=
 Qi mixed (fn:=Tryz.f98) (ct:=.seqk [(0,0)] .no (.seq .no (.seq (.seqk [(0,0)] .no (.blk (.loop (ι:=Nat×(Int×Int)) (fun i=>(fun (n:Int) (i40:Int)=>(⟨[(0,some (.h 0 0)),(1,some (.v (.string name))),(5,some (.v (vI n))),(6,some (.v (vI i40)))],[(0,some (.shr none (.l 1 Qh all)))],1⟩:St)) i.2.1 i.2.2) (Qdf all name) (fun i=>i.1) (Qay all) (fun i=>(fun (n:Int) (i40:Int)=>(.seq (.seq .no (.cond .no .no)) (.seq (.blk (.seq (.reg [(4,kh77 (all.getD (Int.toNat i40) default) 0),(11,kh77 (all.getD (Int.toNat i40) default) 1)]) (.cond (.reg [(1,.bnd)]) .no))) (.reg [(1,.bnd)])))) i.2.1 i.2.2)))) (.seq .no .no)))) Tryz.func98 (fun (_:True)=>kn all fun _=>kn all fun _=>ai (en98_0 all name (by refine ⟨?_,?_,?_,?_⟩ <;> omega)) (fun (i0:Nat×(Int×Int)) (hi0:Qdf all name i0)=>(fun (m0:Nat) (n:Int) (i40:Int) (hh0:Udf all name i0 m0 n i40)=>have hI0:=hh0.1; have hl0:=hh0.2.1; have _:=hh0.2.2.1; have _:=hh0.2.2.2; ifd (i40<(all.length:Int)) (fun h2 _=>ai (by omega:ib i40 all) (kc77 (all.getD (Int.toNat i40) default) 0 (by omega) (ai (fun k3:((F77 (all.getD (Int.toNat i40) default) 0).toList==w9_.toList)=true=>(by omega:ib i40 all)) (kg77 ((F77 (all.getD (Int.toNat i40) default) 0).toList==w9_.toList) true (all.getD (Int.toNat i40) default) 1 (fun k4=>(by omega)) (ifb (bif ((F77 (all.getD (Int.toNat i40) default) 0).toList==w9_.toList) then ((F77 (all.getD (Int.toNat i40) default) 1).toList==name.toList) else false) (fun h5=>have _:((F77 (all.getD (Int.toNat i40) default) 0).toList==w9_.toList)=true:=(Qn h5); have _:=(Qv h5); ai (iok (n+1) (by omega)) (ai (iok (i40+1) (by omega)) (Ucv all name i0 m0 (n+1) (i40+1) hl0 (Qe hI0 (condT h2 (condT h5 rfl))) (by refine ⟨?_,?_,?_,?_,?_⟩ <;> omega)))) (fun h5=>ai (iok (i40+1) (by omega)) (Ucv all name i0 m0 n (i40+1) hl0 (Qe hI0 (condT h2 (condF h5 rfl))) (by refine ⟨?_,?_,?_,?_,?_⟩ <;> omega)))))))) (fun h2 _=>have hD0_6:Ucg all name=Lp.done (n,i40):=Qj hI0 (condF h2 rfl); fiI n (F98 all name) (finD hD0_6 rfl))) (i0.1-1) i0.2.1 i0.2.2 (un98_0 all name i0 hi0))) (by kernel_rfl)
theorem kg98 {K_:Prop} (c_ b_:Bool) (all:List l52Cut) (name:ByteArray) (k_:K_):(c_=b_→True)∧(c_=b_→Imp (.l 1 Qh all) (.l 1 Qh all))∧(c_=b_→Imp (.v (.string name)) (.v (.string name)))∧K_:=⟨fun _=>trivial,fun _=>Imp.refl _,fun _=>Imp.refl _,k_⟩
abbrev kh98 (all:List l52Cut) (name:ByteArray):Hint true Tryz.prog:=.call 98 (S98 all name) (ok98 all name) none
def Ga (all:List l52Cut):Int→Lp Int Bool:=fun i40 =>
 bif (decide (i40<(all.length:Int))) then (bif (bif (bif ((F77 (all.getD (Int.toNat i40) default) 0).toList==(⟨#[112,111,114,116]⟩:ByteArray).toList) then (!((F77 (all.getD (Int.toNat i40) default) 4).toList==(⟨#[]⟩:ByteArray).toList)) else false) then ((F98 all (F77 (all.getD (Int.toNat i40) default) 4))==0) else false) then (.ret false) else (bif (bif ((F77 (all.getD (Int.toNat i40) default) 0).toList==(⟨#[114,117,108,101]⟩:ByteArray).toList) then decide ((F98 all (F77 (all.getD (Int.toNat i40) default) 1))>12) else false) then (.ret false) else (.next (i40+1)))) else (.done i40)
def F67 (all:List l52Cut):Bool :=
 (runL (Ga all) ((Int.toNat ((all.length:Int)-0))+1) 0).fin (fun r=>r) (fun i40=>true)
abbrev Qbx (all:List l52Cut):Nat×Int:=(((Int.toNat ((all.length:Int)-0))+1),0)
abbrev Qoe (all:List l52Cut) (m39:Nat) (i40:Int):Prop:=Int.toNat ((all.length:Int)-i40)<m39∧(0:Int)≤i40
abbrev Uef (all:List l52Cut):Lp Int Bool:=LpX (Ga all) (Qbx all)
abbrev Qbh (all:List l52Cut) (i:Nat×Int):Prop:=LpJ (Ga all) (Qbx all) i (Qoe all i.1 i.2)
abbrev Uae (all:List l52Cut) (i:Nat×Int) (m39:Nat) (i40:Int):Prop:=LpH (Ga all) (Qbx all) i m39 i40 (Qoe all (m39+1) i40)
abbrev Ueh (all:List l52Cut) (i40:Int) (i40_:Int) (K39:Prop):Prop:=((.int .i64 i40:Value)=.int .i64 i40_)∧(Im (.l 1 Qh all))∧K39
theorem un67_0 (all:List l52Cut) (i:Nat×Int) (h:Qbh all i):Uae all i (i.1-1) i.2:=⟨hd1 h.1 h.2.1,hd3 h.2.1,hd2 h.2.1,h.2.2⟩
theorem bk67_0 (all:List l52Cut) (i:Nat×Int) (m39:Nat) (i40:Int) (hl:m39<i.1) (e:runL (Ga all) m39 i40=Uef all) (h:Qoe all m39 i40):∃ j:Nat×Int,Ueh all i40 j.2 (Qbh all j∧j.1<i.1):=⟨(m39,i40),rfl,Imp.refl _,⟨e,h⟩,hl⟩
theorem en67_0 (all:List l52Cut) (h:(0:Int)≤0):Ueh all 0 0 (Qbh all (Qbx all)):=⟨rfl,Imp.refl _,rfl,Nat.lt_succ_self _,h⟩
def S67 (all:List l52Cut):Spec:=⟨[.r (.c (.l 1 Qh all))],.v (.bool (F67 all)),True⟩
abbrev Uo (all:List l52Cut) (i40:Int):=(all.getD (Int.toNat i40) default)
theorem ok67 (all:List l52Cut):(S67 all).ok Tryz.prog 67 :=
 Qi mixed (fn:=Tryz.f67) (ct:=.seqk [(0,0)] .no (.seq (.seqk [(0,0)] .no (.blk (.loop (ι:=Nat×Int) (fun i=>(fun (i40:Int)=>(⟨[(0,some (.h 0 0)),(3,some (.v (vI i40)))],[(0,some (.shr none (.l 1 Qh all)))],1⟩:St)) i.2) (Qbh all) (fun i=>i.1) (Qbx all) (fun i=>(fun (i40:Int)=>(.seq (.seq .no (.cond .no .no)) (.seq (.blk (.seq (.seq (.reg [(4,kh77 (Uo all i40) 0),(11,kh77 (Uo all i40) 4),(20,kh77 (Uo all i40) 4),(21,kh98 all (F77 (Uo all i40) 4))]) (.cond (.seq .no .no) .no)) (.seq (.reg [(4,kh77 (Uo all i40) 0),(12,kh77 (Uo all i40) 1),(13,kh98 all (F77 (Uo all i40) 1))]) (.cond (.seq .no .no) .no)))) (.reg [(1,.bnd)])))) i.2)))) (.seq .no .no))) Tryz.func67 (fun (_:True)=>kn all fun _=>kn all fun _=>ai (en67_0 all (by omega)) (fun (i0:Nat×Int) (hi0:Qbh all i0)=>(fun (m0:Nat) (i40:Int) (hh0:Uae all i0 m0 i40)=>have hI0:=hh0.1; have hl0:=hh0.2.1; have _:=hh0.2.2.1; have _:=hh0.2.2.2; ifd (i40<(all.length:Int)) (fun h2 _=>ai (by omega:ib i40 all) (kc77 (Uo all i40) 0 (by omega) (ai (fun k3:((F77 (Uo all i40) 0).toList==w7_.toList)=true=>(by omega:ib i40 all)) (kg77 ((F77 (Uo all i40) 0).toList==w7_.toList) true (Uo all i40) 4 (fun k4=>(by omega)) (ai (fun k5:(bif ((F77 (Uo all i40) 0).toList==w7_.toList) then (!((F77 (Uo all i40) 4).toList==w13_.toList)) else false)=true=>have _:((F77 (Uo all i40) 0).toList==w7_.toList)=true:=(Qn k5); have _:(!((F77 (Uo all i40) 4).toList==w13_.toList))=true:=(Qv k5); (by omega:ib i40 all)) (kg77 (bif ((F77 (Uo all i40) 0).toList==w7_.toList) then (!((F77 (Uo all i40) 4).toList==w13_.toList)) else false) true (Uo all i40) 4 (fun k6=>have _:((F77 (Uo all i40) 0).toList==w7_.toList)=true:=(Qn k6); have _:(!((F77 (Uo all i40) 4).toList==w13_.toList))=true:=(Qv k6); (by omega)) (kg98 (bif ((F77 (Uo all i40) 0).toList==w7_.toList) then (!((F77 (Uo all i40) 4).toList==w13_.toList)) else false) true all (F77 (Uo all i40) 4) (ifb (bif (bif ((F77 (Uo all i40) 0).toList==w7_.toList) then (!((F77 (Uo all i40) 4).toList==w13_.toList)) else false) then ((F98 all (F77 (Uo all i40) 4))==0) else false) (fun h8=>have _:((F77 (Uo all i40) 0).toList==w7_.toList)=true:=(Qn (Qn h8)); have _:(!((F77 (Uo all i40) 4).toList==w13_.toList))=true:=(Qv (Qn h8)); have _:=eq_of_beq (Qv h8); fiB false (F67 all) (finR (Qr hI0 (condT h2 (condT h8 rfl))) rfl)) (fun h8=>ai (by omega:ib i40 all) (kc77 (Uo all i40) 0 (by omega) (ai (fun k9:((F77 (Uo all i40) 0).toList==w9_.toList)=true=>(by omega:ib i40 all)) (kg77 ((F77 (Uo all i40) 0).toList==w9_.toList) true (Uo all i40) 1 (fun k10=>(by omega)) (kg98 ((F77 (Uo all i40) 0).toList==w9_.toList) true all (F77 (Uo all i40) 1) (ifb (bif ((F77 (Uo all i40) 0).toList==w9_.toList) then decide ((F98 all (F77 (Uo all i40) 1))>12) else false) (fun h12=>have _:((F77 (Uo all i40) 0).toList==w9_.toList)=true:=(Qn h12); have _:=of_decide_eq_true (Qv h12); fiB false (F67 all) (finR (Qr hI0 (condT h2 (condF h8 (condT h12 rfl)))) rfl)) (fun h12=>ai (iok (i40+1) (by omega)) (bk67_0 all i0 m0 (i40+1) hl0 (Qe hI0 (condT h2 (condF h8 (condF h12 rfl)))) (by refine ⟨?_,?_⟩ <;> omega))))))))))))))))) (fun h2 _=>have hD0_13:Uef all=Lp.done i40:=Qj hI0 (condF h2 rfl); fiB true (F67 all) (finD hD0_13 rfl))) (i0.1-1) i0.2 (un67_0 all i0 hi0))) (by kernel_rfl)
def Bp (all:List l52Cut) (i40:Int):Int→Lp Int Bool:=fun k =>
 bif (decide (k<i40)) then (bif (bif (!((F77 (all.getD (Int.toNat i40) default) 0).toList==(⟨#[112,111,114,116]⟩:ByteArray).toList)) then true else (!((F77 (all.getD (Int.toNat k) default) 0).toList==(⟨#[112,111,114,116]⟩:ByteArray).toList))) then (.next (k+1)) else (bif (bif decide ((F99 (F77 (all.getD (Int.toNat i40) default) 2)).1<(IntKind.i64.wrap ((F99 (F77 (all.getD (Int.toNat k) default) 2)).1+(F99 (F77 (all.getD (Int.toNat k) default) 2)).2))) then decide ((F99 (F77 (all.getD (Int.toNat k) default) 2)).1<(IntKind.i64.wrap ((F99 (F77 (all.getD (Int.toNat i40) default) 2)).1+(F99 (F77 (all.getD (Int.toNat i40) default) 2)).2))) else false) then (.ret false) else (.next (k+1)))) else (.done k)
def Bm (all:List l52Cut):Int→Lp Int Bool:=fun i40 =>
 bif (decide (i40<(all.length:Int))) then ((runL (Bp all i40) ((Int.toNat (i40-0))+1) 0).fin Lp.ret (fun k=>.next (i40+1))) else (.done i40)
def F68 (all:List l52Cut):Bool :=
 (runL (Bm all) ((Int.toNat ((all.length:Int)-0))+1) 0).fin (fun r=>r) (fun i40=>true)
abbrev Qcs (i40:Int):Nat×Int:=(((Int.toNat (i40-0))+1),0)
abbrev Qpi (i40:Int) (m39:Nat) (k:Int):Prop:=Int.toNat (i40-k)<m39∧(0:Int)≤k
abbrev Ubp (all:List l52Cut) (i40:Int):Lp Int Bool:=LpX (Bp all i40) (Qcs i40)
abbrev Qcz (all:List l52Cut) (i40:Int) (i:Nat×Int):Prop:=LpJ (Bp all i40) (Qcs i40) i (Qpi i40 i.1 i.2)
abbrev Uaq (all:List l52Cut) (i40:Int) (i:Nat×Int) (m39:Nat) (k:Int):Prop:=LpH (Bp all i40) (Qcs i40) i m39 k (Qpi i40 (m39+1) k)
abbrev Qyu (all:List l52Cut) (i40:Int) (k:Int) (k_:Int) (K39:Prop):Prop:=(Rf (.int .i64 i40))∧((.int .i64 k:Value)=.int .i64 k_)∧(Im (.l 1 Qh all))∧K39
theorem un68_1 (all:List l52Cut) (i40:Int) (i:Nat×Int) (h:Qcz all i40 i):Uaq all i40 i (i.1-1) i.2:=⟨hd1 h.1 h.2.1,hd3 h.2.1,hd2 h.2.1,h.2.2⟩
theorem Qxs (all:List l52Cut) (i40:Int) (i:Nat×Int) (m39:Nat) (k:Int) (hl:m39<i.1) (e:runL (Bp all i40) m39 k=Ubp all i40) (h:Qpi i40 m39 k):∃ j:Nat×Int,Qyu all i40 k j.2 (Qcz all i40 j∧j.1<i.1):=⟨(m39,k),rfl,rfl,Imp.refl _,⟨e,h⟩,hl⟩
theorem en68_1 (all:List l52Cut) (i40:Int) (h:(0:Int)≤0):Qyu all i40 0 0 (Qcz all i40 (Qcs i40)):=⟨rfl,rfl,Imp.refl _,rfl,Nat.lt_succ_self _,h⟩
abbrev Qar (all:List l52Cut):Nat×Int:=(((Int.toNat ((all.length:Int)-0))+1),0)
abbrev Qpo (all:List l52Cut) (m39:Nat) (i40:Int):Prop:=Int.toNat ((all.length:Int)-i40)<m39∧(0:Int)≤i40
abbrev Uct (all:List l52Cut):Lp Int Bool:=LpX (Bm all) (Qar all)
abbrev Qdr (all:List l52Cut) (i:Nat×Int):Prop:=LpJ (Bm all) (Qar all) i (Qpo all i.1 i.2)
abbrev Uem (all:List l52Cut) (i:Nat×Int) (m39:Nat) (i40:Int):Prop:=LpH (Bm all) (Qar all) i m39 i40 (Qpo all (m39+1) i40)
abbrev Qxk (all:List l52Cut) (i40:Int) (i40_:Int) (K39:Prop):Prop:=((.int .i64 i40:Value)=.int .i64 i40_)∧(Im (.l 1 Qh all))∧K39
theorem un68_0 (all:List l52Cut) (i:Nat×Int) (h:Qdr all i):Uem all i (i.1-1) i.2:=⟨hd1 h.1 h.2.1,hd3 h.2.1,hd2 h.2.1,h.2.2⟩
theorem bk68_0 (all:List l52Cut) (i:Nat×Int) (m39:Nat) (i40:Int) (hl:m39<i.1) (e:runL (Bm all) m39 i40=Uct all) (h:Qpo all m39 i40):∃ j:Nat×Int,Qxk all i40 j.2 (Qdr all j∧j.1<i.1):=⟨(m39,i40),rfl,Imp.refl _,⟨e,h⟩,hl⟩
theorem en68_0 (all:List l52Cut) (h:(0:Int)≤0):Qxk all 0 0 (Qdr all (Qar all)):=⟨rfl,Imp.refl _,rfl,Nat.lt_succ_self _,h⟩
def S68 (all:List l52Cut):Spec:=⟨[.r (.c (.l 1 Qh all))],.v (.bool (F68 all)),(∀ k j:Nat,((all.getD k default).w.getD j default).size≤1048576)⟩
abbrev Vt (all:List l52Cut) (i40:Int):=(all.getD (Int.toNat i40) default)
abbrev Bn (all:List l52Cut) (k:Int):=(all.getD (Int.toNat k) default)
theorem ok68 (all:List l52Cut):(S68 all).ok Tryz.prog 68 :=
 Qi mixed (fn:=Tryz.f68) (ct:=.seqk [(0,0)] .no (.seq (.seqk [(0,0)] .no (.blk (.loop (ι:=Nat×Int) (fun i=>(fun (i40:Int)=>(⟨[(0,some (.h 0 0)),(3,some (.v (vI i40)))],[(0,some (.shr none (.l 1 Qh all)))],1⟩:St)) i.2) (Qdr all) (fun i=>i.1) (Qar all) (fun i=>(fun (i40:Int)=>(.seq (.seq .no (.cond .no .no)) (.seq (.blk (.seqk [(0,0)] .no (.blk (.loop (ι:=Nat×Int) (fun i=>(fun (k:Int)=>(⟨[(0,some (.h 0 0)),(3,some (.v (vI i40))),(4,some (.v (vI k)))],[(0,some (.shr none (.l 1 Qh all)))],1⟩:St)) i.2) (Qcz all i40) (fun i=>i.1) (Qcs i40) (fun i=>(fun (k:Int)=>(.seq (.seq .no (.cond .no .no)) (.seq (.blk (.seq (.seq (.reg [(4,kh77 (Vt all i40) 0),(11,kh77 (Bn all k) 0)]) (.cond .no .no)) (.seq (.reg [(4,kh77 (Vt all i40) 2),(5,kh99 (F77 (Vt all i40) 2))]) (.seq (.reg [(4,kh77 (Bn all k) 2),(5,kh99 (F77 (Bn all k) 2))]) (.seq .no (.cond (.seq .no .no) .no)))))) (.reg [(1,.bnd)])))) i.2))))) (.reg [(1,.bnd)])))) i.2)))) (.seq .no .no))) Tryz.func68 (fun (hpre0:∀ k j:Nat,((all.getD k default).w.getD j default).size≤1048576)=>kn all fun _=>kn all fun _=>ai (en68_0 all (by omega)) (fun (i0:Nat×Int) (hi0:Qdr all i0)=>(fun (m0:Nat) (i40:Int) (hh0:Uem all i0 m0 i40)=>have hI0:=hh0.1; have hl0:=hh0.2.1; have _:=hh0.2.2.1; have _:=hh0.2.2.2; ifd (i40<(all.length:Int)) (fun h2 _=>kn all fun _=>ai (en68_1 all i40 (by omega)) (fun (i1:Nat×Int) (hi1:Qcz all i40 i1)=>(fun (m1:Nat) (k:Int) (hh1:Uaq all i40 i1 m1 k)=>have hI1:=hh1.1; have hl1:=hh1.2.1; have _:=hh1.2.2.1; have _:=hh1.2.2.2; ifd (k<i40) (fun h4 _=>ai (by omega:ib i40 all) (kc77 (Vt all i40) 0 (by omega) (ai (fun k5:(!((F77 (Vt all i40) 0).toList==w7_.toList))=false=>(by omega:ib k all)) (kg77 (!((F77 (Vt all i40) 0).toList==w7_.toList)) false (Bn all k) 0 (fun k6=>(by omega)) (ifb (bif (!((F77 (Vt all i40) 0).toList==w7_.toList)) then true else (!((F77 (Bn all k) 0).toList==w7_.toList))) (fun h7=>ai (iok (k+1) (by omega)) (Qxs all i40 i1 m1 (k+1) hl1 (Qe hI1 (condT h4 (condT h7 rfl))) (by refine ⟨?_,?_⟩ <;> omega))) (fun h7=>have _:(!((F77 (Vt all i40) 0).toList==w7_.toList))=false:=(orF1 h7); have _:(!((F77 (Bn all k) 0).toList==w7_.toList))=false:=(orF2 h7); ai (by omega:ib i40 all) (kc77 (Vt all i40) 2 (by omega) (kc99 (F77 (Vt all i40) 2) (by exact Vn all (by assumption) _ _) (ai (by omega:ib k all) (kc77 (Bn all k) 2 (by omega) (kc99 (F77 (Bn all k) 2) (by exact Vn all (by assumption) _ _) (ifb (bif decide ((F99 (F77 (Vt all i40) 2)).1<(IntKind.i64.wrap ((F99 (F77 (Bn all k) 2)).1+(F99 (F77 (Bn all k) 2)).2))) then decide ((F99 (F77 (Bn all k) 2)).1<(IntKind.i64.wrap ((F99 (F77 (Vt all i40) 2)).1+(F99 (F77 (Vt all i40) 2)).2))) else false) (fun h8=>have _:=of_decide_eq_true (Qn h8); have _:=of_decide_eq_true (Qv h8); fiB false (F68 all) (finR (Qr hI0 (condT h2 (finR (Qr hI1 (condT h4 (condF h7 (condT h8 rfl)))) rfl))) rfl)) (fun h8=>ai (iok (k+1) (by omega)) (Qxs all i40 i1 m1 (k+1) hl1 (Qe hI1 (condT h4 (condF h7 (condF h8 rfl)))) (by refine ⟨?_,?_⟩ <;> omega))))))))))))))) (fun h4 _=>have hD1_9:Ubp all i40=Lp.done k:=Qj hI1 (condF h4 rfl); ai (iok (i40+1) (by omega)) (bk68_0 all i0 m0 (i40+1) hl0 (Qe hI0 (condT h2 (finD hD1_9 rfl))) (by refine ⟨?_,?_⟩ <;> omega)))) (i1.1-1) i1.2 (un68_1 all i40 i1 hi1))) (fun h2 _=>have hD0_10:Uct all=Lp.done i40:=Qj hI0 (condF h2 rfl); fiB true (F68 all) (finD hD0_10 rfl))) (i0.1-1) i0.2 (un68_0 all i0 hi0))) (by kernel_rfl)
def Jr (all:List l52Cut) (addr:Int):Int→Lp Int Bool:=fun i40 =>
 bif (decide (i40<(all.length:Int))) then (bif ((F77 (all.getD (Int.toNat i40) default) 0).toList==(⟨#[112,111,114,116]⟩:ByteArray).toList) then (bif (bif decide (addr>(F99 (F77 (all.getD (Int.toNat i40) default) 2)).1) then decide (addr<(IntKind.i64.wrap ((F99 (F77 (all.getD (Int.toNat i40) default) 2)).1+(F99 (F77 (all.getD (Int.toNat i40) default) 2)).2))) else false) then (.ret true) else (.next (i40+1))) else (.next (i40+1))) else (.done i40)
def F100 (all:List l52Cut) (addr:Int):Bool :=
 (runL (Jr all addr) ((Int.toNat ((all.length:Int)-0))+1) 0).fin (fun r=>r) (fun i40=>false)
abbrev Ls (all:List l52Cut):Nat×Int:=(((Int.toNat ((all.length:Int)-0))+1),0)
abbrev Qis (all:List l52Cut) (m39:Nat) (i40:Int):Prop:=Int.toNat ((all.length:Int)-i40)<m39∧(0:Int)≤i40
abbrev Qtr (all:List l52Cut) (addr:Int):Lp Int Bool:=LpX (Jr all addr) (Ls all)
abbrev Pp (all:List l52Cut) (addr:Int) (i:Nat×Int):Prop:=LpJ (Jr all addr) (Ls all) i (Qis all i.1 i.2)
abbrev Qrf (all:List l52Cut) (addr:Int) (i:Nat×Int) (m39:Nat) (i40:Int):Prop:=LpH (Jr all addr) (Ls all) i m39 i40 (Qis all (m39+1) i40)
abbrev Qqp (all:List l52Cut) (addr:Int) (i40:Int) (i40_:Int) (K39:Prop):Prop:=(Rf (.int .i64 addr))∧((.int .i64 i40:Value)=.int .i64 i40_)∧(Im (.l 1 Qh all))∧K39
theorem Ufw (all:List l52Cut) (addr:Int) (i:Nat×Int) (h:Pp all addr i):Qrf all addr i (i.1-1) i.2:=⟨hd1 h.1 h.2.1,hd3 h.2.1,hd2 h.2.1,h.2.2⟩
theorem Qpz (all:List l52Cut) (addr:Int) (i:Nat×Int) (m39:Nat) (i40:Int) (hl:m39<i.1) (e:runL (Jr all addr) m39 i40=Qtr all addr) (h:Qis all m39 i40):∃ j:Nat×Int,Qqp all addr i40 j.2 (Pp all addr j∧j.1<i.1):=⟨(m39,i40),rfl,rfl,Imp.refl _,⟨e,h⟩,hl⟩
theorem Ugg (all:List l52Cut) (addr:Int) (h:(0:Int)≤0):Qqp all addr 0 0 (Pp all addr (Ls all)):=⟨rfl,rfl,Imp.refl _,rfl,Nat.lt_succ_self _,h⟩
def S100 (all:List l52Cut) (addr:Int):Spec:=⟨[.r (.c (.l 1 Qh all)),.r (.c (.v (vI addr)))],.v (.bool (F100 all addr)),(∀ k j:Nat,((all.getD k default).w.getD j default).size≤1048576)⟩
theorem ok100 (all:List l52Cut) (addr:Int):(S100 all addr).ok Tryz.prog 100 :=
 Qi mixed (fn:=Tryz.f100) (ct:=.seqk [(0,0)] .no (.seq (.seqk [(0,0)] .no (.blk (.loop (ι:=Nat×Int) (fun i=>(fun (i40:Int)=>(⟨[(0,some (.h 0 0)),(1,some (.v (vI addr))),(5,some (.v (vI i40)))],[(0,some (.shr none (.l 1 Qh all)))],1⟩:St)) i.2) (Pp all addr) (fun i=>i.1) (Ls all) (fun i=>(fun (i40:Int)=>(.seq (.seq .no (.cond .no .no)) (.seq (.blk (.seq (.reg [(4,kh77 (all.getD (Int.toNat i40) default) 0)]) (.cond (.seq (.reg [(4,kh77 (all.getD (Int.toNat i40) default) 2),(5,kh99 (F77 (all.getD (Int.toNat i40) default) 2))]) (.seq .no (.cond (.seq .no .no) .no))) .no))) (.reg [(1,.bnd)])))) i.2)))) (.seq .no .no))) Tryz.func100 (fun (hpre0:∀ k j:Nat,((all.getD k default).w.getD j default).size≤1048576)=>kn all fun _=>kn all fun _=>ai (Ugg all addr (by omega)) (fun (i0:Nat×Int) (hi0:Pp all addr i0)=>(fun (m0:Nat) (i40:Int) (hh0:Qrf all addr i0 m0 i40)=>have hI0:=hh0.1; have hl0:=hh0.2.1; have _:=hh0.2.2.1; have _:=hh0.2.2.2; ifd (i40<(all.length:Int)) (fun h2 _=>ai (by omega:ib i40 all) (kc77 (all.getD (Int.toNat i40) default) 0 (by omega) (ifb ((F77 (all.getD (Int.toNat i40) default) 0).toList==w7_.toList) (fun h3=>ai (by omega:ib i40 all) (kc77 (all.getD (Int.toNat i40) default) 2 (by omega) (kc99 (F77 (all.getD (Int.toNat i40) default) 2) (by exact Vn all (by assumption) _ _) (ifb (bif decide (addr>(F99 (F77 (all.getD (Int.toNat i40) default) 2)).1) then decide (addr<(IntKind.i64.wrap ((F99 (F77 (all.getD (Int.toNat i40) default) 2)).1+(F99 (F77 (all.getD (Int.toNat i40) default) 2)).2))) else false) (fun h4=>have _:=of_decide_eq_true (Qn h4); have _:=of_decide_eq_true (Qv h4); fiB true (F100 all addr) (finR (Qr hI0 (condT h2 (condT h3 (condT h4 rfl)))) rfl)) (fun h4=>ai (iok (i40+1) (by omega)) (Qpz all addr i0 m0 (i40+1) hl0 (Qe hI0 (condT h2 (condT h3 (condF h4 rfl)))) (by refine ⟨?_,?_⟩ <;> omega))))))) (fun h3=>ai (iok (i40+1) (by omega)) (Qpz all addr i0 m0 (i40+1) hl0 (Qe hI0 (condT h2 (condF h3 rfl))) (by refine ⟨?_,?_⟩ <;> omega)))))) (fun h2 _=>have hD0_5:Qtr all addr=Lp.done i40:=Qj hI0 (condF h2 rfl); fiB false (F100 all addr) (finD hD0_5 rfl))) (i0.1-1) i0.2 (Ufw all addr i0 hi0))) (by kernel_rfl)
theorem kc100 (all:List l52Cut) (addr:Int) {K_:Prop} (p0_:∀ k j:Nat,((all.getD k default).w.getD j default).size≤1048576) (k_:K_):(∀ k j:Nat,((all.getD k default).w.getD j default).size≤1048576)∧(Imp (.l 1 Qh all) (.l 1 Qh all))∧(Imp (.v (vI addr)) (.v (vI addr)))∧K_:=⟨p0_,Imp.refl _,Imp.refl _,k_⟩
abbrev kh100 (all:List l52Cut) (addr:Int):Hint true Tryz.prog:=.call 100 (S100 all addr) (ok100 all addr) none
def Bx (all:List l52Cut):Int→Lp Int Bool:=fun i40 =>
 bif (decide (i40<(all.length:Int))) then (bif ((F77 (all.getD (Int.toNat i40) default) 0).toList==(⟨#[114,111,117,116,101]⟩:ByteArray).toList) then (bif (!(F100 all (F78 (F77 (all.getD (Int.toNat i40) default) 2)))) then (.ret false) else (.next (i40+1))) else (bif ((F77 (all.getD (Int.toNat i40) default) 0).toList==(⟨#[112,101,101,114]⟩:ByteArray).toList) then (bif (!(F100 all (F78 (F77 (all.getD (Int.toNat i40) default) 1)))) then (.ret false) else (.next (i40+1))) else (.next (i40+1)))) else (.done i40)
def F69 (all:List l52Cut):Bool :=
 (runL (Bx all) ((Int.toNat ((all.length:Int)-0))+1) 0).fin (fun r=>r) (fun i40=>true)
abbrev Qaq (all:List l52Cut):Nat×Int:=(((Int.toNat ((all.length:Int)-0))+1),0)
abbrev Qmi (all:List l52Cut) (m39:Nat) (i40:Int):Prop:=Int.toNat ((all.length:Int)-i40)<m39∧(0:Int)≤i40
abbrev Ues (all:List l52Cut):Lp Int Bool:=LpX (Bx all) (Qaq all)
abbrev Qdt (all:List l52Cut) (i:Nat×Int):Prop:=LpJ (Bx all) (Qaq all) i (Qmi all i.1 i.2)
abbrev Qyv (all:List l52Cut) (i:Nat×Int) (m39:Nat) (i40:Int):Prop:=LpH (Bx all) (Qaq all) i m39 i40 (Qmi all (m39+1) i40)
abbrev Qzq (all:List l52Cut) (i40:Int) (i40_:Int) (K39:Prop):Prop:=((.int .i64 i40:Value)=.int .i64 i40_)∧(Im (.l 1 Qh all))∧K39
theorem un69_0 (all:List l52Cut) (i:Nat×Int) (h:Qdt all i):Qyv all i (i.1-1) i.2:=⟨hd1 h.1 h.2.1,hd3 h.2.1,hd2 h.2.1,h.2.2⟩
theorem Qob (all:List l52Cut) (i:Nat×Int) (m39:Nat) (i40:Int) (hl:m39<i.1) (e:runL (Bx all) m39 i40=Ues all) (h:Qmi all m39 i40):∃ j:Nat×Int,Qzq all i40 j.2 (Qdt all j∧j.1<i.1):=⟨(m39,i40),rfl,Imp.refl _,⟨e,h⟩,hl⟩
theorem en69_0 (all:List l52Cut) (h:(0:Int)≤0):Qzq all 0 0 (Qdt all (Qaq all)):=⟨rfl,Imp.refl _,rfl,Nat.lt_succ_self _,h⟩
def S69 (all:List l52Cut):Spec:=⟨[.r (.c (.l 1 Qh all))],.v (.bool (F69 all)),(∀ k j:Nat,((all.getD k default).w.getD j default).size≤1048576)⟩
abbrev Kj (all:List l52Cut) (i40:Int):=(all.getD (Int.toNat i40) default)
theorem ok69 (all:List l52Cut):(S69 all).ok Tryz.prog 69 :=
 Qi mixed (fn:=Tryz.f69) (ct:=.seqk [(0,0)] .no (.seq (.seqk [(0,0)] .no (.blk (.loop (ι:=Nat×Int) (fun i=>(fun (i40:Int)=>(⟨[(0,some (.h 0 0)),(3,some (.v (vI i40)))],[(0,some (.shr none (.l 1 Qh all)))],1⟩:St)) i.2) (Qdt all) (fun i=>i.1) (Qaq all) (fun i=>(fun (i40:Int)=>(.seq (.seq .no (.cond .no .no)) (.seq (.blk (.seq (.reg [(4,kh77 (Kj all i40) 0)]) (.blk (.seq .no (.cond (.seq (.reg [(5,kh77 (Kj all i40) 2),(6,kh78 (F77 (Kj all i40) 2)),(7,kh100 all (F78 (F77 (Kj all i40) 2)))]) (.cond (.seq .no .no) .no)) (.seq .no (.cond (.seq (.reg [(5,kh77 (Kj all i40) 1),(6,kh78 (F77 (Kj all i40) 1)),(7,kh100 all (F78 (F77 (Kj all i40) 1)))]) (.cond (.seq .no .no) .no)) .no))))))) (.reg [(1,.bnd)])))) i.2)))) (.seq .no .no))) Tryz.func69 (fun (hpre0:∀ k j:Nat,((all.getD k default).w.getD j default).size≤1048576)=>kn all fun _=>kn all fun _=>ai (en69_0 all (by omega)) (fun (i0:Nat×Int) (hi0:Qdt all i0)=>(fun (m0:Nat) (i40:Int) (hh0:Qyv all i0 m0 i40)=>have hI0:=hh0.1; have hl0:=hh0.2.1; have _:=hh0.2.2.1; have _:=hh0.2.2.2; ifd (i40<(all.length:Int)) (fun h2 _=>ai (by omega:ib i40 all) (kc77 (Kj all i40) 0 (by omega) (ifb ((F77 (Kj all i40) 0).toList==w8_.toList) (fun h3=>ai (by omega:ib i40 all) (kc77 (Kj all i40) 2 (by omega) (kc78 (F77 (Kj all i40) 2) (by exact Vn all (by assumption) _ _) (kc100 all (F78 (F77 (Kj all i40) 2)) (by assumption) (ifb (!(F100 all (F78 (F77 (Kj all i40) 2)))) (fun h4=>fiB false (F69 all) (finR (Qr hI0 (condT h2 (condT h3 (condT h4 rfl)))) rfl)) (fun h4=>ai (iok (i40+1) (by omega)) (Qob all i0 m0 (i40+1) hl0 (Qe hI0 (condT h2 (condT h3 (condF h4 rfl)))) (by refine ⟨?_,?_⟩ <;> omega)))))))) (fun h3=>ifb ((F77 (Kj all i40) 0).toList==w6_.toList) (fun h5=>ai (by omega:ib i40 all) (kc77 (Kj all i40) 1 (by omega) (kc78 (F77 (Kj all i40) 1) (by exact Vn all (by assumption) _ _) (kc100 all (F78 (F77 (Kj all i40) 1)) (by assumption) (ifb (!(F100 all (F78 (F77 (Kj all i40) 1)))) (fun h6=>fiB false (F69 all) (finR (Qr hI0 (condT h2 (condF h3 (condT h5 (condT h6 rfl))))) rfl)) (fun h6=>ai (iok (i40+1) (by omega)) (Qob all i0 m0 (i40+1) hl0 (Qe hI0 (condT h2 (condF h3 (condT h5 (condF h6 rfl))))) (by refine ⟨?_,?_⟩ <;> omega)))))))) (fun h5=>ai (iok (i40+1) (by omega)) (Qob all i0 m0 (i40+1) hl0 (Qe hI0 (condT h2 (condF h3 (condF h5 rfl)))) (by refine ⟨?_,?_⟩ <;> omega))))))) (fun h2 _=>have hD0_7:Ues all=Lp.done i40:=Qj hI0 (condF h2 rfl); fiB true (F69 all) (finD hD0_7 rfl))) (i0.1-1) i0.2 (un69_0 all i0 hi0))) (by kernel_rfl)
def Gq (all:List l52Cut):Int→Lp Int Int:=fun i40 =>
 bif (decide (i40<(all.length:Int))) then (bif ((F77 (all.getD (Int.toNat i40) default) 0).toList==(⟨#[110,97,116]⟩:ByteArray).toList) then (.ret i40) else (.next (i40+1))) else (.done i40)
def F101 (all:List l52Cut):Int :=
 (runL (Gq all) ((Int.toNat ((all.length:Int)-0))+1) 0).fin (fun r=>r) (fun i40=>(-1))
abbrev Np (all:List l52Cut):Nat×Int:=(((Int.toNat ((all.length:Int)-0))+1),0)
abbrev Qhh (all:List l52Cut) (m39:Nat) (i40:Int):Prop:=Int.toNat ((all.length:Int)-i40)<m39∧(0:Int)≤i40
abbrev Qry (all:List l52Cut):Lp Int Int:=LpX (Gq all) (Np all)
abbrev Lk (all:List l52Cut) (i:Nat×Int):Prop:=LpJ (Gq all) (Np all) i (Qhh all i.1 i.2)
abbrev Qrz (all:List l52Cut) (i:Nat×Int) (m39:Nat) (i40:Int):Prop:=LpH (Gq all) (Np all) i m39 i40 (Qhh all (m39+1) i40)
abbrev Qte (all:List l52Cut) (i40:Int) (i40_:Int) (K39:Prop):Prop:=((.int .i64 i40:Value)=.int .i64 i40_)∧(Im (.l 1 Qh all))∧K39
theorem Uie (all:List l52Cut) (i:Nat×Int) (h:Lk all i):Qrz all i (i.1-1) i.2:=⟨hd1 h.1 h.2.1,hd3 h.2.1,hd2 h.2.1,h.2.2⟩
theorem Uhb (all:List l52Cut) (i:Nat×Int) (m39:Nat) (i40:Int) (hl:m39<i.1) (e:runL (Gq all) m39 i40=Qry all) (h:Qhh all m39 i40):∃ j:Nat×Int,Qte all i40 j.2 (Lk all j∧j.1<i.1):=⟨(m39,i40),rfl,Imp.refl _,⟨e,h⟩,hl⟩
theorem Ukh (all:List l52Cut) (h:(0:Int)≤0):Qte all 0 0 (Lk all (Np all)):=⟨rfl,Imp.refl _,rfl,Nat.lt_succ_self _,h⟩
def S101 (R:Int) (all:List l52Cut):Spec:=⟨[.r (.c (.l 1 Qh all))],.v (vI R),True⟩
theorem ok101 (all:List l52Cut):(S101 (F101 all) all).ok Tryz.prog 101 :=
 Qi mixed (fn:=Tryz.f101) (ct:=.seqk [(0,0)] .no (.seq (.seqk [(0,0)] .no (.blk (.loop (ι:=Nat×Int) (fun i=>(fun (i40:Int)=>(⟨[(0,some (.h 0 0)),(3,some (.v (vI i40)))],[(0,some (.shr none (.l 1 Qh all)))],1⟩:St)) i.2) (Lk all) (fun i=>i.1) (Np all) (fun i=>(fun (i40:Int)=>(.seq (.seq .no (.cond .no .no)) (.seq (.blk (.seq (.reg [(4,kh77 (all.getD (Int.toNat i40) default) 0)]) (.cond (.seq .no .no) .no))) (.reg [(1,.bnd)])))) i.2)))) (.seq .no .no))) Tryz.func101 (fun (_:True)=>kn all fun _=>kn all fun _=>ai (Ukh all (by omega)) (fun (i0:Nat×Int) (hi0:Lk all i0)=>(fun (m0:Nat) (i40:Int) (hh0:Qrz all i0 m0 i40)=>have hI0:=hh0.1; have hl0:=hh0.2.1; have _:=hh0.2.2.1; have _:=hh0.2.2.2; ifd (i40<(all.length:Int)) (fun h2 _=>ai (by omega:ib i40 all) (kc77 (all.getD (Int.toNat i40) default) 0 (by omega) (ifb ((F77 (all.getD (Int.toNat i40) default) 0).toList==w5_.toList) (fun h3=>fiI i40 (F101 all) (finR (Qr hI0 (condT h2 (condT h3 rfl))) rfl)) (fun h3=>ai (iok (i40+1) (by omega)) (Uhb all i0 m0 (i40+1) hl0 (Qe hI0 (condT h2 (condF h3 rfl))) (by refine ⟨?_,?_⟩ <;> omega)))))) (fun h2 _=>have hD0_4:Qry all=Lp.done i40:=Qj hI0 (condF h2 rfl); fiI (-1) (F101 all) (finD hD0_4 rfl))) (i0.1-1) i0.2 (Uie all i0 hi0))) (by kernel_rfl)
theorem as101 (all:List l52Cut):F101 all=(idxI (fun c=>((F77 c 0).toList==(⟨#[110,97,116]⟩:ByteArray).toList)) all):=by
 exact Vs (fun c=>((F77 c 0).toList==(⟨#[110,97,116]⟩:ByteArray).toList)) all (Gq all) (fun i=>rfl)
theorem oa101 (all:List l52Cut):(S101 (idxI (fun c=>((F77 c 0).toList==(⟨#[110,97,116]⟩:ByteArray).toList)) all) all).ok Tryz.prog 101:=by
 intro hp; have h:=ok101 all hp; rw [as101 all] at h; exact h
theorem g101_0 (all:List l52Cut):(idxI (fun c=>((F77 c 0).toList==(⟨#[110,97,116]⟩:ByteArray).toList)) all)<(all.length:Int):=by
 exact Mj _ all
theorem kg79 {K_:Prop} (c_ b_:Bool) (s:ByteArray) (p_:c_=b_→s.size≤1048576) (k_:K_):(c_=b_→s.size≤1048576)∧(c_=b_→Imp (.v (.string s)) (.v (.string s)))∧K_:=⟨p_,fun _=>Imp.refl _,k_⟩
def Jz (all:List l52Cut) (at':Int) (nat:l52Cut):Int→Lp Int Bool:=fun i40 =>
 bif (decide (i40<at')) then (bif (bif (bif (bif ((F77 (all.getD (Int.toNat i40) default) 0).toList==(⟨#[100,111,111,114]⟩:ByteArray).toList) then ((F77 (all.getD (Int.toNat i40) default) 1).toList==(F77 (all.getD (Int.toNat at') default) 1).toList) else false) then ((F77 (all.getD (Int.toNat i40) default) 3).toList==(F77 (all.getD (Int.toNat at') default) 3).toList) else false) then ((F77 (all.getD (Int.toNat i40) default) 4).toList==(F77 (all.getD (Int.toNat at') default) 4).toList) else false) then (.ret false) else (.next (i40+1))) else (.done i40)
def F102 (all:List l52Cut) (at':Int) (nat:l52Cut):Bool :=
 bif (bif (bif decide ((F78 (F77 (all.getD (Int.toNat at') default) 3))<(F99 (F77 nat 1)).1) then true else decide ((F78 (F77 (all.getD (Int.toNat at') default) 3))≥(IntKind.i64.wrap ((F99 (F77 nat 1)).1+(F99 (F77 nat 1)).2)))) then true else (decide ((F79 (F77 nat 3))≤F79 (F77 (all.getD (Int.toNat at') default) 2)∧F79 (F77 (all.getD (Int.toNat at') default) 2)≤(F79 (F77 nat 4))))) then false else ((runL (Jz all at' nat) ((Int.toNat (at'-0))+1) 0).fin (fun r=>r) (fun i40=>true))
abbrev Nb (at':Int):Nat×Int:=(((Int.toNat (at'-0))+1),0)
abbrev Qig (at':Int) (m39:Nat) (i40:Int):Prop:=Int.toNat (at'-i40)<m39∧(0:Int)≤i40
abbrev Qvc (all:List l52Cut) (at':Int) (nat:l52Cut):Lp Int Bool:=LpX (Jz all at' nat) (Nb at')
abbrev Pv (all:List l52Cut) (at':Int) (nat:l52Cut) (i:Nat×Int):Prop:=LpJ (Jz all at' nat) (Nb at') i (Qig at' i.1 i.2)
abbrev Qrc (all:List l52Cut) (at':Int) (nat:l52Cut) (i:Nat×Int) (m39:Nat) (i40:Int):Prop:=LpH (Jz all at' nat) (Nb at') i m39 i40 (Qig at' (m39+1) i40)
abbrev Qvo (all:List l52Cut) (at':Int) (i40:Int) (i40_:Int) (K39:Prop):Prop:=(Rf (.int .i64 at'))∧((.int .i64 i40:Value)=.int .i64 i40_)∧(Im (.l 1 Qh all))∧(Ims (Qh (all.getD (Int.toNat at') default)))∧K39
theorem Ukt (all:List l52Cut) (at':Int) (nat:l52Cut) (i:Nat×Int) (h:Pv all at' nat i):Qrc all at' nat i (i.1-1) i.2:=⟨hd1 h.1 h.2.1,hd3 h.2.1,hd2 h.2.1,h.2.2⟩
theorem Ugs (all:List l52Cut) (at':Int) (nat:l52Cut) (i:Nat×Int) (m39:Nat) (i40:Int) (hl:m39<i.1) (e:runL (Jz all at' nat) m39 i40=Qvc all at' nat) (h:Qig at' m39 i40):∃ j:Nat×Int,Qvo all at' i40 j.2 (Pv all at' nat j∧j.1<i.1):=⟨(m39,i40),rfl,rfl,Imp.refl _,Imps.refl _,⟨e,h⟩,hl⟩
theorem Ufh (all:List l52Cut) (at':Int) (nat:l52Cut) (h:(0:Int)≤0):Qvo all at' 0 0 (Pv all at' nat (Nb at')):=⟨rfl,rfl,Imp.refl _,Imps.refl _,rfl,Nat.lt_succ_self _,h⟩
def S102 (all:List l52Cut) (at':Int) (nat:l52Cut):Spec:=⟨[.r (.c (.l 1 Qh all)),.r (.c (.v (vI at'))),.r (.g (Qh nat))],.v (.bool (F102 all at' nat)),0≤at'∧at'<(all.length:Int)∧(∀ j:Nat,(nat.w.getD j default).size≤1048576)∧(∀ k j:Nat,((all.getD k default).w.getD j default).size≤1048576)⟩
abbrev Ui (all:List l52Cut) (at':Int):=(all.getD (Int.toNat at') default)
abbrev Ud (all:List l52Cut) (i40:Int):=(all.getD (Int.toNat i40) default)
abbrev Ki (all:List l52Cut) (at':Int):=(F78 (F77 (Ui all at') 3))
theorem ok102 (all:List l52Cut) (at':Int) (nat:l52Cut):(S102 all at' nat).ok Tryz.prog 102 :=
 Qi mixed (fn:=Tryz.f102) (ct:=.seqk [(0,0)] .no (.seq .no (.seq (.reg [(1,kh77 nat 1),(2,kh99 (F77 nat 1))]) (.seq (.reg [(1,kh77 (Ui all at') 3),(2,kh78 (F77 (Ui all at') 3))]) (.seq (.seq (.reg [(12,kh77 (Ui all at') 2),(14,kh77 nat 3),(15,kh79 (F77 nat 3)),(17,kh77 nat 4),(18,kh79 (F77 nat 4)),(19,Kh (F77 (Ui all at') 2) (F79 (F77 nat 3)) (F79 (F77 nat 4)))]) (.cond (.seq .no .no) .no)) (.seq (.seqk [(0,0),(7,0)] .no (.blk (.loop (ι:=Nat×Int) (fun i=>(fun (i40:Int)=>(⟨[(0,some (.h 0 0)),(1,some (.v (vI at'))),(7,some (.p 1 0)),(11,some (.v (vI i40)))],[(0,some (.shr none (.l 1 Qh all))),(1,some (.box 97 [.h 2 1])),(2,some (.mem none none (Qh (Ui all at'))))],3⟩:St)) i.2) (Pv all at' nat) (fun i=>i.1) (Nb at') (fun i=>(fun (i40:Int)=>(.seq (.seq .no (.cond .no .no)) (.seq (.blk (.seq (.reg [(4,kh77 (Ud all i40) 0),(11,kh77 (Ud all i40) 1),(13,kh77 (Ui all at') 1),(21,kh77 (Ud all i40) 3),(23,kh77 (Ui all at') 3),(31,kh77 (Ud all i40) 4),(33,kh77 (Ui all at') 4)]) (.cond (.seq .no .no) .no))) (.reg [(1,.bnd)])))) i.2)))) (.seq .no .no))))))) Tryz.func102 (fun (hp:0≤at'∧at'<(all.length:Int)∧(∀ j:Nat,(nat.w.getD j default).size≤1048576)∧(∀ k j:Nat,((all.getD k default).w.getD j default).size≤1048576))=>have hpre0:=hp.1; have hpre1:=hp.2.1; have hpre2:=hp.2.2.1; have hpre3:=hp.2.2.2; kn all fun _=>ai (by omega:ib at' all) (kc77 nat 1 (by omega) (kc99 (F77 nat 1) (by exact Qie (by assumption) _) (kc77 (Ui all at') 3 (by omega) (kc78 (F77 (Ui all at') 3) (by exact Vn all (by assumption) _ _) (kg77 (bif decide ((Ki all at')<(F99 (F77 nat 1)).1) then true else decide ((Ki all at')≥(IntKind.i64.wrap ((F99 (F77 nat 1)).1+(F99 (F77 nat 1)).2)))) false (Ui all at') 2 (fun k1=>have _:=of_decide_eq_false (orF1 k1); have _:=of_decide_eq_false (orF2 k1); (by omega)) (kg77 (bif decide ((Ki all at')<(F99 (F77 nat 1)).1) then true else decide ((Ki all at')≥(IntKind.i64.wrap ((F99 (F77 nat 1)).1+(F99 (F77 nat 1)).2)))) false nat 3 (fun k2=>have _:=of_decide_eq_false (orF1 k2); have _:=of_decide_eq_false (orF2 k2); (by omega)) (kg79 (bif decide ((Ki all at')<(F99 (F77 nat 1)).1) then true else decide ((Ki all at')≥(IntKind.i64.wrap ((F99 (F77 nat 1)).1+(F99 (F77 nat 1)).2)))) false (F77 nat 3) (fun k3=>have _:=of_decide_eq_false (orF1 k3); have _:=of_decide_eq_false (orF2 k3); (by exact Qie (by assumption) _)) (kg77 (bif decide ((Ki all at')<(F99 (F77 nat 1)).1) then true else decide ((Ki all at')≥(IntKind.i64.wrap ((F99 (F77 nat 1)).1+(F99 (F77 nat 1)).2)))) false nat 4 (fun k4=>have _:=of_decide_eq_false (orF1 k4); have _:=of_decide_eq_false (orF2 k4); (by omega)) (kg79 (bif decide ((Ki all at')<(F99 (F77 nat 1)).1) then true else decide ((Ki all at')≥(IntKind.i64.wrap ((F99 (F77 nat 1)).1+(F99 (F77 nat 1)).2)))) false (F77 nat 4) (fun k5=>have _:=of_decide_eq_false (orF1 k5); have _:=of_decide_eq_false (orF2 k5); (by exact Qie (by assumption) _)) (Kd (bif decide ((Ki all at')<(F99 (F77 nat 1)).1) then true else decide ((Ki all at')≥(IntKind.i64.wrap ((F99 (F77 nat 1)).1+(F99 (F77 nat 1)).2)))) false (F77 (Ui all at') 2) (F79 (F77 nat 3)) (F79 (F77 nat 4)) (fun k6=>have _:=of_decide_eq_false (orF1 k6); have _:=of_decide_eq_false (orF2 k6); (by exact Vn all (by assumption) _ _)) (ifb (bif (bif decide ((Ki all at')<(F99 (F77 nat 1)).1) then true else decide ((Ki all at')≥(IntKind.i64.wrap ((F99 (F77 nat 1)).1+(F99 (F77 nat 1)).2)))) then true else (decide ((F79 (F77 nat 3))≤F79 (F77 (Ui all at') 2)∧F79 (F77 (Ui all at') 2)≤(F79 (F77 nat 4))))) (fun h7=>fiB false (F102 all at' nat) (condT h7 rfl)) (fun h7=>have _:=of_decide_eq_false (orF1 (orF1 h7)); have _:=of_decide_eq_false (orF2 (orF1 h7)); have _:=of_decide_eq_false (orF2 h7); kn all fun _=>kn (Ui all at').w fun _=>ai (Ufh all at' nat (by omega)) (fun (i0:Nat×Int) (hi0:Pv all at' nat i0)=>(fun (m0:Nat) (i40:Int) (hh0:Qrc all at' nat i0 m0 i40)=>have hI0:=hh0.1; have hl0:=hh0.2.1; have _:=hh0.2.2.1; have _:=hh0.2.2.2; ifd (i40<at') (fun h9 _=>ai (by omega:ib i40 all) (kc77 (Ud all i40) 0 (by omega) (ai (fun k10:((F77 (Ud all i40) 0).toList==w3_.toList)=true=>(by omega:ib i40 all)) (kg77 ((F77 (Ud all i40) 0).toList==w3_.toList) true (Ud all i40) 1 (fun k11=>(by omega)) (kg77 ((F77 (Ud all i40) 0).toList==w3_.toList) true (Ui all at') 1 (fun k12=>(by omega)) (ai (fun k13:(bif ((F77 (Ud all i40) 0).toList==w3_.toList) then ((F77 (Ud all i40) 1).toList==(F77 (Ui all at') 1).toList) else false)=true=>have _:((F77 (Ud all i40) 0).toList==w3_.toList)=true:=(Qn k13); have _:=(Qv k13); (by omega:ib i40 all)) (kg77 (bif ((F77 (Ud all i40) 0).toList==w3_.toList) then ((F77 (Ud all i40) 1).toList==(F77 (Ui all at') 1).toList) else false) true (Ud all i40) 3 (fun k14=>have _:((F77 (Ud all i40) 0).toList==w3_.toList)=true:=(Qn k14); have _:=(Qv k14); (by omega)) (kg77 (bif ((F77 (Ud all i40) 0).toList==w3_.toList) then ((F77 (Ud all i40) 1).toList==(F77 (Ui all at') 1).toList) else false) true (Ui all at') 3 (fun k15=>have _:((F77 (Ud all i40) 0).toList==w3_.toList)=true:=(Qn k15); have _:=(Qv k15); (by omega)) (ai (fun k16:(bif (bif ((F77 (Ud all i40) 0).toList==w3_.toList) then ((F77 (Ud all i40) 1).toList==(F77 (Ui all at') 1).toList) else false) then ((F77 (Ud all i40) 3).toList==(F77 (Ui all at') 3).toList) else false)=true=>have _:((F77 (Ud all i40) 0).toList==w3_.toList)=true:=(Qn (Qn k16)); have _:=(Qv (Qn k16)); have _:=(Qv k16); (by omega:ib i40 all)) (kg77 (bif (bif ((F77 (Ud all i40) 0).toList==w3_.toList) then ((F77 (Ud all i40) 1).toList==(F77 (Ui all at') 1).toList) else false) then ((F77 (Ud all i40) 3).toList==(F77 (Ui all at') 3).toList) else false) true (Ud all i40) 4 (fun k17=>have _:((F77 (Ud all i40) 0).toList==w3_.toList)=true:=(Qn (Qn k17)); have _:=(Qv (Qn k17)); have _:=(Qv k17); (by omega)) (kg77 (bif (bif ((F77 (Ud all i40) 0).toList==w3_.toList) then ((F77 (Ud all i40) 1).toList==(F77 (Ui all at') 1).toList) else false) then ((F77 (Ud all i40) 3).toList==(F77 (Ui all at') 3).toList) else false) true (Ui all at') 4 (fun k18=>have _:((F77 (Ud all i40) 0).toList==w3_.toList)=true:=(Qn (Qn k18)); have _:=(Qv (Qn k18)); have _:=(Qv k18); (by omega)) (ifb (bif (bif (bif ((F77 (Ud all i40) 0).toList==w3_.toList) then ((F77 (Ud all i40) 1).toList==(F77 (Ui all at') 1).toList) else false) then ((F77 (Ud all i40) 3).toList==(F77 (Ui all at') 3).toList) else false) then ((F77 (Ud all i40) 4).toList==(F77 (Ui all at') 4).toList) else false) (fun h19=>have _:((F77 (Ud all i40) 0).toList==w3_.toList)=true:=(Qn (Qn (Qn h19))); have _:=(Qv (Qn (Qn h19))); have _:=(Qv (Qn h19)); have _:=(Qv h19); fiB false (F102 all at' nat) (condF h7 (finR (Qr hI0 (condT h9 (condT h19 rfl))) rfl))) (fun h19=>ai (iok (i40+1) (by omega)) (Ugs all at' nat i0 m0 (i40+1) hl0 (Qe hI0 (condT h9 (condF h19 rfl))) (by refine ⟨?_,?_⟩ <;> omega))))))))))))))) (fun h9 _=>have hD0_20:Qvc all at' nat=Lp.done i40:=Qj hI0 (condF h9 rfl); fiB true (F102 all at' nat) (condF h7 (finD hD0_20 rfl)))) (i0.1-1) i0.2 (Ukt all at' nat i0 hi0))))))))))))))) (by kernel_rfl)
theorem kc101a (all:List l52Cut) {K_:Prop} (k_:((idxI (fun c=>((F77 c 0).toList==w5_.toList)) all)<(all.length:Int))→K_):(True)∧(Imp (.l 1 Qh all) (.l 1 Qh all))∧K_:=⟨trivial,Imp.refl _,k_ (g101_0 all)⟩
abbrev kh101a (all:List l52Cut):Hint true Tryz.prog:=.call 101 (S101 (idxI (fun c=>((F77 c 0).toList==w5_.toList)) all) all) (oa101 all) none
theorem kg102 {K_:Prop} (c_ b_:Bool) (all:List l52Cut) (at':Int) (nat:l52Cut) (p_:c_=b_→0≤at'∧at'<(all.length:Int)∧(∀ j:Nat,(nat.w.getD j default).size≤1048576)∧(∀ k j:Nat,((all.getD k default).w.getD j default).size≤1048576)) (k_:K_):(c_=b_→0≤at'∧at'<(all.length:Int)∧(∀ j:Nat,(nat.w.getD j default).size≤1048576)∧(∀ k j:Nat,((all.getD k default).w.getD j default).size≤1048576))∧(c_=b_→Imp (.l 1 Qh all) (.l 1 Qh all))∧(c_=b_→Imp (.v (vI at')) (.v (vI at')))∧(c_=b_→Imps (Qh nat) (Qh nat))∧K_:=⟨p_,fun _=>Imp.refl _,fun _=>Imp.refl _,fun _=>Imps.refl _,k_⟩
abbrev kh102 (all:List l52Cut) (at':Int) (nat:l52Cut):Hint true Tryz.prog:=.call 102 (S102 all at' nat) (ok102 all at' nat) none
def Bz (all:List l52Cut):(Int×Int)→Lp (Int×Int) Bool:=fun (doors,i40) =>
 bif (decide (i40<(all.length:Int))) then (bif (!((F77 (all.getD (Int.toNat i40) default) 0).toList==(⟨#[100,111,111,114]⟩:ByteArray).toList)) then (.next (doors,(i40+1))) else (bif (bif decide ((idxI (fun c=>((F77 c 0).toList==(⟨#[110,97,116]⟩:ByteArray).toList)) all)<0) then true else (!(F102 all i40 (all.getD (Int.toNat (idxI (fun c=>((F77 c 0).toList==(⟨#[110,97,116]⟩:ByteArray).toList)) all)) default)))) then (.ret false) else (.next ((doors+1),(i40+1))))) else (.done (doors,i40))
def F70 (all:List l52Cut):Bool :=
 (runL (Bz all) ((Int.toNat ((all.length:Int)-0))+1) (0,0)).fin (fun r=>r) (fun (doors,i40)=>bif (decide ((idxI (fun c=>((F77 c 0).toList==(⟨#[110,97,116]⟩:ByteArray).toList)) all)<0)) then true else (bif (bif decide (doors≤6) then (bif decide ((F78 (F77 (all.getD (Int.toNat (idxI (fun c=>((F77 c 0).toList==(⟨#[110,97,116]⟩:ByteArray).toList)) all)) default) 2))<(F99 (F77 (all.getD (Int.toNat (idxI (fun c=>((F77 c 0).toList==(⟨#[110,97,116]⟩:ByteArray).toList)) all)) default) 1)).1) then true else decide ((F78 (F77 (all.getD (Int.toNat (idxI (fun c=>((F77 c 0).toList==(⟨#[110,97,116]⟩:ByteArray).toList)) all)) default) 2))≥(IntKind.i64.wrap ((F99 (F77 (all.getD (Int.toNat (idxI (fun c=>((F77 c 0).toList==(⟨#[110,97,116]⟩:ByteArray).toList)) all)) default) 1)).1+(F99 (F77 (all.getD (Int.toNat (idxI (fun c=>((F77 c 0).toList==(⟨#[110,97,116]⟩:ByteArray).toList)) all)) default) 1)).2)))) else false) then decide ((F79 (F77 (all.getD (Int.toNat (idxI (fun c=>((F77 c 0).toList==(⟨#[110,97,116]⟩:ByteArray).toList)) all)) default) 3))≤(F79 (F77 (all.getD (Int.toNat (idxI (fun c=>((F77 c 0).toList==(⟨#[110,97,116]⟩:ByteArray).toList)) all)) default) 4))) else false))
abbrev Qcf (all:List l52Cut):Nat×(Int×Int):=(((Int.toNat ((all.length:Int)-0))+1),(0,0))
abbrev Qpk (all:List l52Cut) (m39:Nat) (doors:Int) (i40:Int):Prop:=Int.toNat ((all.length:Int)-i40)<m39∧(0:Int)≤doors∧(doors:Int)≤i40∧(0:Int)≤doors∧(0:Int)≤i40
abbrev Uei (all:List l52Cut):Lp (Int×Int) Bool:=LpX (Bz all) (Qcf all)
abbrev Qap (all:List l52Cut) (i:Nat×(Int×Int)):Prop:=LpJ (Bz all) (Qcf all) i (Qpk all i.1 i.2.1 i.2.2)
abbrev Ufc (all:List l52Cut) (i:Nat×(Int×Int)) (m39:Nat) (doors:Int) (i40:Int):Prop:=LpH (Bz all) (Qcf all) i m39 (doors,i40) (Qpk all (m39+1) doors i40)
abbrev Ude (all:List l52Cut) (doors:Int) (i40:Int) (doors_:Int) (i40_:Int) (K39:Prop):Prop:=(Rf (.int .i64 (idxI (fun c=>((F77 c 0).toList==w5_.toList)) all)))∧((.int .i64 doors:Value)=.int .i64 doors_)∧((.int .i64 i40:Value)=.int .i64 i40_)∧(Im (.l 1 Qh all))∧K39
theorem un70_0 (all:List l52Cut) (i:Nat×(Int×Int)) (h:Qap all i):Ufc all i (i.1-1) i.2.1 i.2.2:=⟨hd1 h.1 h.2.1,hd3 h.2.1,hd2 h.2.1,h.2.2⟩
theorem Qzk (all:List l52Cut) (i:Nat×(Int×Int)) (m39:Nat) (doors:Int) (i40:Int) (hl:m39<i.1) (e:runL (Bz all) m39 (doors,i40)=Uei all) (h:Qpk all m39 doors i40):∃ j:Nat×(Int×Int),Ude all doors i40 j.2.1 j.2.2 (Qap all j∧j.1<i.1):=⟨(m39,(doors,i40)),rfl,rfl,rfl,Imp.refl _,⟨e,h⟩,hl⟩
theorem en70_0 (all:List l52Cut) (h:(0:Int)≤0∧(0:Int)≤0∧(0:Int)≤0∧(0:Int)≤0):Ude all 0 0 0 0 (Qap all (Qcf all)):=⟨rfl,rfl,rfl,Imp.refl _,rfl,Nat.lt_succ_self _,h⟩
def S70 (all:List l52Cut):Spec:=⟨[.r (.c (.l 1 Qh all))],.v (.bool (F70 all)),(∀ k j:Nat,((all.getD k default).w.getD j default).size≤1048576)⟩
theorem ok70 (all:List l52Cut):(S70 all).ok Tryz.prog 70 :=
 Qi mixed (fn:=Tryz.f70) (ct:=.seqk [(0,0)] .no (.seq (.reg [(1,kh101a all)]) (.seq .no (.seq (.seqk [(0,0)] .no (.blk (.loop (ι:=Nat×(Int×Int)) (fun i=>(fun (doors:Int) (i40:Int)=>(⟨[(0,some (.h 0 0)),(3,some (.v (vI (idxI (fun c=>((F77 c 0).toList==w5_.toList)) all)))),(4,some (.v (vI doors))),(5,some (.v (vI i40)))],[(0,some (.shr none (.l 1 Qh all)))],1⟩:St)) i.2.1 i.2.2) (Qap all) (fun i=>i.1) (Qcf all) (fun i=>(fun (doors:Int) (i40:Int)=>(.seq (.seq .no (.cond .no .no)) (.seq (.blk (.seq (.seq (.reg [(4,kh77 (all.getD (Int.toNat i40) default) 0)]) (.cond .no .no)) (.seq (.reg [(1,.bnd)]) (.seq (.reg [(9,kh102 all i40 (all.getD (Int.toNat (idxI (fun c=>((F77 c 0).toList==w5_.toList)) all)) default))]) (.cond (.seq .no .no) .no))))) (.reg [(1,.bnd)])))) i.2.1 i.2.2)))) (.seq (.seq .no (.cond (.seq .no .no) .no)) (.seq (.reg [(4,kh77 (all.getD (Int.toNat (idxI (fun c=>((F77 c 0).toList==w5_.toList)) all)) default) 1),(5,kh99 (F77 (all.getD (Int.toNat (idxI (fun c=>((F77 c 0).toList==w5_.toList)) all)) default) 1))]) (.seq (.reg [(4,kh77 (all.getD (Int.toNat (idxI (fun c=>((F77 c 0).toList==w5_.toList)) all)) default) 2),(5,kh78 (F77 (all.getD (Int.toNat (idxI (fun c=>((F77 c 0).toList==w5_.toList)) all)) default) 2))]) (.seq (.reg [(19,kh77 (all.getD (Int.toNat (idxI (fun c=>((F77 c 0).toList==w5_.toList)) all)) default) 3),(20,kh79 (F77 (all.getD (Int.toNat (idxI (fun c=>((F77 c 0).toList==w5_.toList)) all)) default) 3)),(25,kh77 (all.getD (Int.toNat (idxI (fun c=>((F77 c 0).toList==w5_.toList)) all)) default) 4),(26,kh79 (F77 (all.getD (Int.toNat (idxI (fun c=>((F77 c 0).toList==w5_.toList)) all)) default) 4))]) .no)))))))) Tryz.func70 (fun (hpre0:∀ k j:Nat,((all.getD k default).w.getD j default).size≤1048576)=>kn all fun _=>kc101a all (fun gv1=>kn all fun _=>ai (en70_0 all (by refine ⟨?_,?_,?_,?_⟩ <;> omega)) (fun (i0:Nat×(Int×Int)) (hi0:Qap all i0)=>(fun (m0:Nat) (doors:Int) (i40:Int) (hh0:Ufc all i0 m0 doors i40)=>have hI0:=hh0.1; have hl0:=hh0.2.1; have _:=hh0.2.2.1; have _:=hh0.2.2.2; ifd (i40<(all.length:Int)) (fun h3 _=>ai (by omega:ib i40 all) (kc77 (all.getD (Int.toNat i40) default) 0 (by omega) (ifb (!((F77 (all.getD (Int.toNat i40) default) 0).toList==w3_.toList)) (fun h4=>ai (iok (i40+1) (by omega)) (Qzk all i0 m0 doors (i40+1) hl0 (Qe hI0 (condT h3 (condT h4 rfl))) (by refine ⟨?_,?_,?_,?_,?_⟩ <;> omega))) (fun h4=>ai (iok (doors+1) (by omega)) (ai (fun k5:(decide ((idxI (fun c=>((F77 c 0).toList==w5_.toList)) all)<0))=false=>have _:¬ (idxI (fun c=>((F77 c 0).toList==w5_.toList)) all)<0:=of_decide_eq_false k5; (by omega:ib (idxI (fun c=>((F77 c 0).toList==w5_.toList)) all) all)) (kg102 (decide ((idxI (fun c=>((F77 c 0).toList==w5_.toList)) all)<0)) false all i40 (all.getD (Int.toNat (idxI (fun c=>((F77 c 0).toList==w5_.toList)) all)) default) (fun k6=>have _:¬ (idxI (fun c=>((F77 c 0).toList==w5_.toList)) all)<0:=of_decide_eq_false k6; ⟨(by omega),(by omega),(by exact fun j=>(by assumption:∀ k j:Nat,((all.getD k default).w.getD j default).size≤1048576) _ j),(by omega)⟩) (ifb (bif decide ((idxI (fun c=>((F77 c 0).toList==w5_.toList)) all)<0) then true else (!(F102 all i40 (all.getD (Int.toNat (idxI (fun c=>((F77 c 0).toList==w5_.toList)) all)) default)))) (fun h7=>fiB false (F70 all) (finR (Qr hI0 (condT h3 (condF h4 (condT h7 rfl)))) rfl)) (fun h7=>have _:¬ (idxI (fun c=>((F77 c 0).toList==w5_.toList)) all)<0:=of_decide_eq_false (orF1 h7); ai (iok (i40+1) (by omega)) (Qzk all i0 m0 (doors+1) (i40+1) hl0 (Qe hI0 (condT h3 (condF h4 (condF h7 rfl)))) (by refine ⟨?_,?_,?_,?_,?_⟩ <;> omega)))))))))) (fun h3 _=>have hD0_8:Uei all=Lp.done (doors,i40):=Qj hI0 (condF h3 rfl); ifd ((idxI (fun c=>((F77 c 0).toList==w5_.toList)) all)<0) (fun h9 _=>fiB true (F70 all) (finD hD0_8 (condT h9 rfl))) (fun h9 _=>ai (by omega:ib (idxI (fun c=>((F77 c 0).toList==w5_.toList)) all) all) (kc77 (all.getD (Int.toNat (idxI (fun c=>((F77 c 0).toList==w5_.toList)) all)) default) 1 (by omega) (kc99 (F77 (all.getD (Int.toNat (idxI (fun c=>((F77 c 0).toList==w5_.toList)) all)) default) 1) (by exact Vn all (by assumption) _ _) (ai (by omega:ib (idxI (fun c=>((F77 c 0).toList==w5_.toList)) all) all) (kc77 (all.getD (Int.toNat (idxI (fun c=>((F77 c 0).toList==w5_.toList)) all)) default) 2 (by omega) (kc78 (F77 (all.getD (Int.toNat (idxI (fun c=>((F77 c 0).toList==w5_.toList)) all)) default) 2) (by exact Vn all (by assumption) _ _) (ai (fun k10:(bif decide (doors≤6) then (bif decide ((F78 (F77 (all.getD (Int.toNat (idxI (fun c=>((F77 c 0).toList==w5_.toList)) all)) default) 2))<(F99 (F77 (all.getD (Int.toNat (idxI (fun c=>((F77 c 0).toList==w5_.toList)) all)) default) 1)).1) then true else decide ((F78 (F77 (all.getD (Int.toNat (idxI (fun c=>((F77 c 0).toList==w5_.toList)) all)) default) 2))≥(IntKind.i64.wrap ((F99 (F77 (all.getD (Int.toNat (idxI (fun c=>((F77 c 0).toList==w5_.toList)) all)) default) 1)).1+(F99 (F77 (all.getD (Int.toNat (idxI (fun c=>((F77 c 0).toList==w5_.toList)) all)) default) 1)).2)))) else false)=true=>have _:=of_decide_eq_true (Qn k10); (by omega:ib (idxI (fun c=>((F77 c 0).toList==w5_.toList)) all) all)) (kg77 (bif decide (doors≤6) then (bif decide ((F78 (F77 (all.getD (Int.toNat (idxI (fun c=>((F77 c 0).toList==w5_.toList)) all)) default) 2))<(F99 (F77 (all.getD (Int.toNat (idxI (fun c=>((F77 c 0).toList==w5_.toList)) all)) default) 1)).1) then true else decide ((F78 (F77 (all.getD (Int.toNat (idxI (fun c=>((F77 c 0).toList==w5_.toList)) all)) default) 2))≥(IntKind.i64.wrap ((F99 (F77 (all.getD (Int.toNat (idxI (fun c=>((F77 c 0).toList==w5_.toList)) all)) default) 1)).1+(F99 (F77 (all.getD (Int.toNat (idxI (fun c=>((F77 c 0).toList==w5_.toList)) all)) default) 1)).2)))) else false) true (all.getD (Int.toNat (idxI (fun c=>((F77 c 0).toList==w5_.toList)) all)) default) 3 (fun k11=>have _:=of_decide_eq_true (Qn k11); (by omega)) (kg79 (bif decide (doors≤6) then (bif decide ((F78 (F77 (all.getD (Int.toNat (idxI (fun c=>((F77 c 0).toList==w5_.toList)) all)) default) 2))<(F99 (F77 (all.getD (Int.toNat (idxI (fun c=>((F77 c 0).toList==w5_.toList)) all)) default) 1)).1) then true else decide ((F78 (F77 (all.getD (Int.toNat (idxI (fun c=>((F77 c 0).toList==w5_.toList)) all)) default) 2))≥(IntKind.i64.wrap ((F99 (F77 (all.getD (Int.toNat (idxI (fun c=>((F77 c 0).toList==w5_.toList)) all)) default) 1)).1+(F99 (F77 (all.getD (Int.toNat (idxI (fun c=>((F77 c 0).toList==w5_.toList)) all)) default) 1)).2)))) else false) true (F77 (all.getD (Int.toNat (idxI (fun c=>((F77 c 0).toList==w5_.toList)) all)) default) 3) (fun k12=>have _:=of_decide_eq_true (Qn k12); (by exact Vn all (by assumption) _ _)) (ai (fun k13:(bif decide (doors≤6) then (bif decide ((F78 (F77 (all.getD (Int.toNat (idxI (fun c=>((F77 c 0).toList==w5_.toList)) all)) default) 2))<(F99 (F77 (all.getD (Int.toNat (idxI (fun c=>((F77 c 0).toList==w5_.toList)) all)) default) 1)).1) then true else decide ((F78 (F77 (all.getD (Int.toNat (idxI (fun c=>((F77 c 0).toList==w5_.toList)) all)) default) 2))≥(IntKind.i64.wrap ((F99 (F77 (all.getD (Int.toNat (idxI (fun c=>((F77 c 0).toList==w5_.toList)) all)) default) 1)).1+(F99 (F77 (all.getD (Int.toNat (idxI (fun c=>((F77 c 0).toList==w5_.toList)) all)) default) 1)).2)))) else false)=true=>have _:=of_decide_eq_true (Qn k13); (by omega:ib (idxI (fun c=>((F77 c 0).toList==w5_.toList)) all) all)) (kg77 (bif decide (doors≤6) then (bif decide ((F78 (F77 (all.getD (Int.toNat (idxI (fun c=>((F77 c 0).toList==w5_.toList)) all)) default) 2))<(F99 (F77 (all.getD (Int.toNat (idxI (fun c=>((F77 c 0).toList==w5_.toList)) all)) default) 1)).1) then true else decide ((F78 (F77 (all.getD (Int.toNat (idxI (fun c=>((F77 c 0).toList==w5_.toList)) all)) default) 2))≥(IntKind.i64.wrap ((F99 (F77 (all.getD (Int.toNat (idxI (fun c=>((F77 c 0).toList==w5_.toList)) all)) default) 1)).1+(F99 (F77 (all.getD (Int.toNat (idxI (fun c=>((F77 c 0).toList==w5_.toList)) all)) default) 1)).2)))) else false) true (all.getD (Int.toNat (idxI (fun c=>((F77 c 0).toList==w5_.toList)) all)) default) 4 (fun k14=>have _:=of_decide_eq_true (Qn k14); (by omega)) (kg79 (bif decide (doors≤6) then (bif decide ((F78 (F77 (all.getD (Int.toNat (idxI (fun c=>((F77 c 0).toList==w5_.toList)) all)) default) 2))<(F99 (F77 (all.getD (Int.toNat (idxI (fun c=>((F77 c 0).toList==w5_.toList)) all)) default) 1)).1) then true else decide ((F78 (F77 (all.getD (Int.toNat (idxI (fun c=>((F77 c 0).toList==w5_.toList)) all)) default) 2))≥(IntKind.i64.wrap ((F99 (F77 (all.getD (Int.toNat (idxI (fun c=>((F77 c 0).toList==w5_.toList)) all)) default) 1)).1+(F99 (F77 (all.getD (Int.toNat (idxI (fun c=>((F77 c 0).toList==w5_.toList)) all)) default) 1)).2)))) else false) true (F77 (all.getD (Int.toNat (idxI (fun c=>((F77 c 0).toList==w5_.toList)) all)) default) 4) (fun k15=>have _:=of_decide_eq_true (Qn k15); (by exact Vn all (by assumption) _ _)) (fiB (bif (bif decide (doors≤6) then (bif decide ((F78 (F77 (all.getD (Int.toNat (idxI (fun c=>((F77 c 0).toList==w5_.toList)) all)) default) 2))<(F99 (F77 (all.getD (Int.toNat (idxI (fun c=>((F77 c 0).toList==w5_.toList)) all)) default) 1)).1) then true else decide ((F78 (F77 (all.getD (Int.toNat (idxI (fun c=>((F77 c 0).toList==w5_.toList)) all)) default) 2))≥(IntKind.i64.wrap ((F99 (F77 (all.getD (Int.toNat (idxI (fun c=>((F77 c 0).toList==w5_.toList)) all)) default) 1)).1+(F99 (F77 (all.getD (Int.toNat (idxI (fun c=>((F77 c 0).toList==w5_.toList)) all)) default) 1)).2)))) else false) then decide ((F79 (F77 (all.getD (Int.toNat (idxI (fun c=>((F77 c 0).toList==w5_.toList)) all)) default) 3))≤(F79 (F77 (all.getD (Int.toNat (idxI (fun c=>((F77 c 0).toList==w5_.toList)) all)) default) 4))) else false) (F70 all) (finD hD0_8 (condF h9 rfl))))))))))))))))) (i0.1-1) i0.2.1 i0.2.2 (un70_0 all i0 hi0)))) (by kernel_rfl)
theorem Rt {α β:Type} [Inhabited α] [Inhabited β] (f:α→β) (ls:List α) (i:Nat) (h:i<ls.length):(ls.map f).getD i default=f (ls.getD i default):=by
 rw [Kx _ (by simpa using h),Kx _ h,List.getElem_map]
def wsL (lines:List ByteArray):List (List ByteArray):=lines.map fun l=>(F97 l).1
def hdB (w:List ByteArray) (l:List UInt8):Bool:=(w.getD 0 default).data.toList==l
def Uea:List UInt8:=[117,115,101,114]
def Yd:List UInt8:=[112,111,114,116]
def Vz:List UInt8:=[114,117,108,101]
def Qaj:List UInt8:=[114,111,117,116,101]
def Qft:List UInt8:=[112,101,101,114]
def hNat:List UInt8:=[110,97,116]
def Uj:List UInt8:=[100,111,111,114]
theorem Yo (lines:List ByteArray) (h:F64 lines=0) (word:ByteArray):Qa lines word=(wsL lines).filter fun w=>hdB w word.data.toList:=by
 unfold Qa wsL
 have e:(lines.map fun l=>Qw l (⟨#[32]⟩:ByteArray))=lines.map fun l=>(F97 l).1:=List.map_congr_left fun l hl=>Qcd l ((Nu lines h).2 l hl)
 rw [e]; rfl
theorem Er (lines:List ByteArray) (h:F64 lines=0):∀ w∈wsL lines,Wp w:=fun w hw=>by
 obtain ⟨l,hl,rfl⟩:=List.mem_map.1 hw
 exact (Hg l ((Nu lines h).2 l hl)).form
theorem ws_no (lines:List ByteArray):∀ w∈wsL lines,∀ x∈w,(32:UInt8) ∉ x.data.toList∧x.data.toList≠[]∧x.size≤24:=fun w hw=>by
 obtain ⟨l,hl,rfl⟩:=List.mem_map.1 hw
 exact Qsu l
theorem Uky (lines:List ByteArray):(lines.map (fun l=>(⟨(F97 l).1⟩:l52Cut)))=(wsL lines).map l52Cut.mk:=by
 unfold wsL
 rw [List.map_map]; rfl
theorem at_n (c:l52Cut) (k:Nat):F77 c (k:Int)=c.w.getD k default:=by
 unfold F77
 by_cases h:k<c.w.length
 ·rw [ltD h,cond_true,nn]
 ·rw [decide_eq_false (by omega),cond_false,Ws _ (by omega)]; rfl
theorem at0 (c:l52Cut):F77 c 0=c.w.getD 0 default:=at_n c 0
theorem at1 (c:l52Cut):F77 c 1=c.w.getD 1 default:=at_n c 1
theorem at2 (c:l52Cut):F77 c 2=c.w.getD 2 default:=at_n c 2
theorem at3 (c:l52Cut):F77 c 3=c.w.getD 3 default:=at_n c 3
theorem at4 (c:l52Cut):F77 c 4=c.w.getD 4 default:=at_n c 4
theorem Gg (ws:List (List ByteArray)) (p:l52Cut→Bool):(ws.map l52Cut.mk).any p=ws.any fun w=>p ⟨w⟩:=by rw [List.any_map]; rfl
theorem Uq {α:Type} {p q:α→Bool}:∀ {xs:List α},(∀ x∈xs,p x=q x)→xs.any p=xs.any q
 | [],_=>rfl
 | x :: xs,h=>by rw [List.any_cons,List.any_cons,h x List.mem_cons_self,Uq fun y hy=>h y (List.mem_cons_of_mem _ hy)]
theorem Uhc (all:List l52Cut):F66 all=all.any fun c=>hdB c.w Uea&&((c.w.getD 2 default).data.toList==[97,108,108]):=by
 unfold F66
 have:=anyL all (fun c=>hdB c.w Uea&&((c.w.getD 2 default).data.toList==[97,108,108])) true (Gc all) (fun i hi=>by
  simp only [Gc,ltD hi,cond_true,nn,at0,at2,blit,cb1]
  rfl) (by simp only [Gc,geD,cond_false]) (fun r=>r) (fun i40=>false) false (fun _=>rfl)
 refine this.trans ?_
 cases (all.any fun c=>hdB c.w Uea&&((c.w.getD 2 default).data.toList==[97,108,108])) <;> rfl
theorem Qir (lines:List ByteArray) (h:F64 lines=0):F162 lines=!F66 ((wsL lines).map l52Cut.mk):=by
 unfold F162
 rw [Uhc,Gg,Yo lines h,List.any_filter]
 congr 1
 refine Uq fun w _=>?_
 unfold F191
 rw [blit]; rfl
def Qnu (ws:List (List ByteArray)) (name:List UInt8):Nat:=(ws.filter fun w=>hdB w Vz&&((w.getD 1 default).data.toList==name)).length
theorem Qbd (lines:List ByteArray) (h:F64 lines=0) (name:ByteArray):F192 lines name=(Qnu (wsL lines) name.data.toList:Int):=by
 unfold F192
 have:=Ye (Qa lines (⟨#[114,117,108,101]⟩:ByteArray)) (fun (n:Int) w=>bif ((w.getD 1 default).data.toList==name.data.toList) then n+1 else n) (fun n i=>(n,i)) (Vj lines name) (fun i s hi=>by
  simp only [Vj,ltD hi,cond_true,nn,Qz]
  show (bif (((Qa lines (⟨#[114,117,108,101]⟩:ByteArray)).getD i default).getD 1 default).data.toList==name.data.toList then _ else _)=_
  cases ((((Qa lines (⟨#[114,117,108,101]⟩:ByteArray)).getD i default).getD 1 default).data.toList==name.data.toList) <;> rfl) (fun s=>by simp only [Vj,geD,cond_false]) (fun r=>r) (fun (n,v11)=>n) 0
 refine this.trans ?_
 show (Qa lines (⟨#[114,117,108,101]⟩:ByteArray)).foldl _ (0:Int)=_
 rw [Gf (fun w:List ByteArray=>((w.getD 1 default).data.toList==name.data.toList)),Yo lines h,List.filter_filter,Int.zero_add]
 unfold Qnu
 rw [show (fun a:List ByteArray=>((a.getD 1 default).data.toList==name.data.toList&&hdB a (⟨#[114,117,108,101]⟩:ByteArray).data.toList))=fun w=>hdB w Vz&&((w.getD 1 default).data.toList==name.data.toList) from funext fun w=>Bool.and_comm _ _]
theorem Udt (all:List l52Cut) (name:ByteArray):F98 all name=((all.filter fun c=>hdB c.w Vz&&((c.w.getD 1 default).data.toList==name.data.toList)).length:Int):=by
 unfold F98
 have:=Ye all (fun (n:Int) c=>bif (hdB c.w Vz&&((c.w.getD 1 default).data.toList==name.data.toList)) then n+1 else n) (fun n i=>(n,i)) (Ge all name) (fun i s hi=>by
  simp only [Ge,ltD hi,cond_true,nn,at0,at1,blit,cb1]
  rw [Qz,Qz]
  show (bif (hdB (all.getD i default).w Vz&&(((all.getD i default).w.getD 1 default).data.toList==name.data.toList)) then _ else _)=_
  cases (hdB (all.getD i default).w Vz&&(((all.getD i default).w.getD 1 default).data.toList==name.data.toList)) <;> rfl) (fun s=>by simp only [Ge,geD,cond_false]) (fun r=>r) (fun (n,i40)=>n) 0
 refine this.trans ?_
 show all.foldl _ (0:Int)=_
 rw [Gf (fun c:l52Cut=>hdB c.w Vz&&((c.w.getD 1 default).data.toList==name.data.toList)),Int.zero_add]
theorem Qto (ws:List (List ByteArray)) (name:ByteArray):F98 (ws.map l52Cut.mk) name=(Qnu ws name.data.toList:Int):=by
 rw [Udt,List.filter_map,List.length_map]; rfl
theorem Ucm (all:List l52Cut):F67 all=!all.any fun c=>(hdB c.w Yd&&(!((c.w.getD 4 default).data.toList==[])&&((F98 all (c.w.getD 4 default))==0))) || (hdB c.w Vz&&decide (F98 all (c.w.getD 1 default)>12)):=by
 unfold F67
 have:=anyL all (fun c=>(hdB c.w Yd&&(!((c.w.getD 4 default).data.toList==[])&&((F98 all (c.w.getD 4 default))==0))) || (hdB c.w Vz&&decide (F98 all (c.w.getD 1 default)>12))) false (Ga all) (fun i hi=>by
  simp only [Ga,ltD hi,cond_true,nn,at0,at1,at4,blit,cb1,Bool.and_assoc]
  show (bif (hdB (all.getD i default).w Yd&&(!(((all.getD i default).w.getD 4 default).data.toList==[])&&(F98 all ((all.getD i default).w.getD 4 default)==0))) then _ else (bif (hdB (all.getD i default).w Vz&&_) then _ else _))=_
  cases (hdB (all.getD i default).w Yd&&(!(((all.getD i default).w.getD 4 default).data.toList==[])&&(F98 all ((all.getD i default).w.getD 4 default)==0))) <;> cases (hdB (all.getD i default).w Vz&&decide (F98 all ((all.getD i default).w.getD 1 default)>12)) <;> rfl) (by simp only [Ga,geD,cond_false]) (fun r=>r) (fun i40=>true) true (fun _=>rfl)
 refine this.trans ?_
 cases all.any _ <;> rfl
theorem Qot {α:Type} (p q:α→Bool):∀ xs:List α,xs.any (fun x=>p x || q x)=(xs.any p || xs.any q)
 | []=>rfl
 | x :: xs=>by
  simp only [List.any_cons,Qot p q xs]
  cases p x <;> cases q x <;> simp
theorem Qwh {w:List ByteArray} (h:Jm w) (hn:∀ x∈w,x.data.toList≠[]):decide ((w.length:Int)>4)=!((w.getD 4 default).data.toList==[]):=by
 by_cases hl:4<w.length
 ·rw [decide_eq_true (by omega)]
  have:=hn _ (Wg w hl)
  rw [beq_eq_false_iff_ne.2 this]; rfl
 ·rw [decide_eq_false (by omega),Ws w (by omega)]; rfl
theorem El (lines:List ByteArray) (h:F64 lines=0):F163 lines=!F67 ((wsL lines).map l52Cut.mk):=by
 rw [Ucm,Bool.not_not,Gg,Qot]
 unfold F163
 have:=anyL (Qa lines (⟨#[112,111,114,116]⟩:ByteArray)) (fun w=>decide ((w.length:Int)>4)&&(F192 lines (w.getD 4 default)==0)) true (Js lines) (fun i hi=>by
  simp only [Js,ltD hi,cond_true,nn,cb1]; rfl) (by simp only [Js,geD,cond_false]) (fun r=>r) (fun v8=>(Qa lines (⟨#[114,117,108,101]⟩:ByteArray)).any (fun (x0:List ByteArray)=>F193 x0 lines)) _ (fun _=>rfl)
 refine this.trans ?_
 rw [Yo lines h,Yo lines h,List.any_filter,List.any_filter,cb2]
 congr 1
 ·refine Uq fun w hw=>?_
  have e4:F98 ((wsL lines).map l52Cut.mk) (w.getD 4 default)=F192 lines (w.getD 4 default):=by rw [Qto,Qbd lines h]
  rw [e4]
  cases hp:hdB w Yd with
  | false =>
   have hp':hdB w (⟨#[112,111,114,116]⟩:ByteArray).data.toList=false:=hp
   rw [hp',Bool.false_and,Bool.false_and]
  | true =>
   have hp':hdB w (⟨#[112,111,114,116]⟩:ByteArray).data.toList=true:=hp
   have hpp:=Qab (Er lines h w hw) (eq_of_beq hp)
   rw [hp',Qwh hpp fun x hx=>(ws_no lines w hw x hx).2.1]
 ·refine Uq fun w hw=>?_
  have e1:F98 ((wsL lines).map l52Cut.mk) (w.getD 1 default)=F192 lines (w.getD 1 default):=by rw [Qto,Qbd lines h]
  show (hdB w Vz&&_)=(hdB w Vz&&_)
  rw [e1]; rfl
def Zk {α:Type} (ov:α→α→Bool):List α→List α→Bool
 | _,[]=>false
 | seen,x :: r=>seen.any (ov x) || Zk ov (seen++[x]) r
theorem Vq {α:Type} [Inhabited α] (ov:α→α→Bool) (xs:List α):∀ (m i:Nat),i+m=xs.length→anyF (fun i=>(xs.take i).any (ov (xs.getD i default))) i m=Zk ov (xs.take i) (xs.drop i)
 | 0,i,h=>by rw [List.drop_of_length_le (by omega)]; rfl
 | m+1,i,h=>by
  have hd:xs.drop i=xs.getD i default :: xs.drop (i+1):=by
   rw [List.drop_eq_getElem_cons (show i<xs.length by omega),List.getD_eq_getElem?_getD,List.getElem?_eq_getElem (show i<xs.length by omega)]; rfl
  rw [hd,Zk,anyF,Vq ov xs m (i+1) (by omega),Rx (show i<xs.length by omega)]
theorem Bd {α:Type} (P:α→Bool) (ov:α→α→Bool):∀ (xs seen:List α),Zk (fun x y=>P x&&(P y&&ov x y)) seen xs=Zk ov (seen.filter P) (xs.filter P)
 | [],seen=>rfl
 | x :: xs,seen=>by
  rw [Zk,Bd P ov xs]
  cases h:P x with
  | true =>
   rw [List.filter_cons_of_pos h,Zk,List.filter_append,List.any_filter]
   simp only [Bool.true_and,List.filter_cons_of_pos h,List.filter_nil]
  | false =>
   rw [List.filter_cons_of_neg (by simp [h]),List.filter_append,List.filter_cons_of_neg (by simp [h]),List.filter_nil,List.append_nil]
   simp only [Bool.false_and]
   rw [show seen.any (fun _=>false)=false by simp,Bool.false_or]
theorem Qdg {α γ:Type} (f:α→γ) (ov:γ→γ→Bool):∀ (xs seen:List α),Zk ov (seen.map f) (xs.map f)=Zk (fun x y=>ov (f x) (f y)) seen xs
 | [],_=>rfl
 | x :: xs,seen=>by
  rw [List.map_cons,Zk,Zk,← Qdg f ov xs,List.map_append,List.any_map]; rfl
theorem Qal {α:Type} {ov ov':α→α→Bool} {Q:α→Prop} (h:∀ x y,Q x→Q y→ov x y=ov' x y):∀ (xs seen:List α),(∀ x∈xs,Q x)→(∀ x∈seen,Q x)→Zk ov seen xs=Zk ov' seen xs
 | [],_,_,_=>rfl
 | x :: xs,seen,h1,h2=>by
  have hx:=h1 x List.mem_cons_self
  rw [Zk,Zk,Uq (fun y hy=>h x y hx (h2 y hy)),Qal h xs (seen++[x]) (fun y hy=>h1 y (List.mem_cons_of_mem _ hy)) (fun y hy=>by
   rcases List.mem_append.1 hy with hy | hy
   ·exact h2 y hy
   ·rw [List.mem_singleton.1 hy]; exact hx)]
theorem Qfr {α:Type} [Inhabited α] (xs:List α) (p:α→Bool) (i:Nat) (h:i≤xs.length):anyF (fun k=>p (xs.getD k default)) 0 i=(xs.take i).any p:=by
 have hl:(xs.take i).length=i:=by rw [List.length_take]; omega
 have h1:=Kw (xs.take i) p i 0 (by omega)
 rw [List.drop_zero] at h1
 rw [← h1]
 have:∀ (m k:Nat),k+m=i→anyF (fun k=>p (xs.getD k default)) k m=anyF (fun k=>p ((xs.take i).getD k default)) k m:=by
  intro m
  induction m with
  | zero=>intro k _; rfl
  | succ m ih =>
   intro k hk
   rw [anyF,anyF,ih (k+1) (by omega)]
   congr 2
   rw [List.getD_eq_getElem?_getD,List.getD_eq_getElem?_getD,List.getElem?_take,if_pos (by omega)]
 exact this i 0 (by omega)
theorem Qmd (L:Int) (h0:0≤L) (h1:L≤16):F151 L=((2 ^ (16-L.toNat):Nat):Int):=by
 have h3:L=0∨L=1∨L=2∨L=3∨L=4∨L=5∨L=6∨L=7∨L=8∨L=9∨L=10∨L=11∨L=12∨L=13∨L=14∨L=15∨L=16:=by omega
 rcases h3 with rfl | rfl | rfl | rfl | rfl | rfl | rfl | rfl | rfl | rfl | rfl | rfl | rfl | rfl | rfl | rfl | rfl <;> exact of_decide_eq_true rfl
theorem Qhp (a L x:Int) (ha:0≤a∧a≤65535) (hL:0≤L∧L≤16):F199 (⟨a,L⟩:Qb) x=decide (a≤x∧x<a+F151 L):=by
 unfold F199 F222
 have hs:=Qju L hL.1 hL.2
 have e:F168 (⟨a,L⟩:Qb)=F151 L:=Qfe a L hL.1 hL.2
 rw [e]
 simp only
 have w1:IntKind.i64.wrap (a+F151 L)=a+F151 L:=Yl (by omega) (by omega)
 have w2:IntKind.i64.wrap (a+F151 L-1)=a+F151 L-1:=Yl (by omega) (by omega)
 rw [w1,w2]
 exact decide_eq_decide.2 (by omega)
theorem Qkw (a b n m c:Int) (hm:1≤m) (hn:n=m*c) (ha:n ∣ a) (hb:m ∣ b) (h:a<b+m):a≤b:=by
 obtain ⟨x,rfl⟩:=ha
 obtain ⟨y,rfl⟩:=hb
 subst hn
 have h1:m*(c*x)<m*(y+1):=by rw [Int.mul_add,Int.mul_one,← Int.mul_assoc]; exact h
 have h2:c*x<y+1:=Int.lt_of_mul_lt_mul_left h1 (by omega)
 rw [Int.mul_assoc]
 exact Int.mul_le_mul_of_nonneg_left (by omega) (by omega)
theorem Qkl (L M:Int) (h:0≤L∧L≤M∧M≤16):∃ c:Int,F151 L=F151 M*c:=by
 rw [Qmd L h.1 (by omega),Qmd M (by omega) h.2.2]
 refine ⟨((2 ^ (M.toNat-L.toNat):Nat):Int),?_⟩
 rw [← Int.natCast_mul,← Nat.pow_add]
 congr 2
 omega
theorem Qyc {l:List UInt8} {a n:Int} (h:pfxL l=some (a,n)):F151 n ∣ a∧0≤a∧a≤65535∧0≤n∧n≤16:=by
 have hb:=Qio h
 refine ⟨?_,hb⟩
 unfold pfxL at h
 match hs:Qx 47 l,h with
 | [x,y],h =>
  rw [pfx2] at h
  cases hc:decide (0≤Yf x)&&(in16 (num6 y)&&((Yf x).tmod (F151 (num6 y))==0)) with
  | false=>rw [hc] at h; cases h
  | true =>
   rw [hc] at h
   simp only [cond_true,Option.some.injEq,Prod.mk.injEq] at h
   obtain ⟨rfl,rfl⟩:=h
   simp only [Bool.and_eq_true,beq_iff_eq] at hc
   exact Int.dvd_of_tmod_eq_zero hc.2.2
 | [],h=>cases h
 | [x],h=>cases h
 | x :: y :: z :: r,h=>cases h
theorem Rd (s:ByteArray) (h:F252 s=true):∃ a L:Int,F83 s=((⟨a,L⟩:Qb),true)∧F99 s=(a,F151 L)∧F151 L ∣ a∧(0≤a∧a≤65535)∧(0≤L∧L≤16)∧1≤F151 L∧F151 L≤65536:=by
 rw [Lx] at h
 cases hp:pfxL s.data.toList with
 | none=>rw [hp] at h; cases h
 | some q =>
  obtain ⟨a,L⟩:=q
  have hd:=Qyc hp
  have hs:=Qju L hd.2.2.2.1 hd.2.2.2.2
  exact ⟨a,L,by rw [Xd,hp],by rw [Qcq,hp],hd.1,⟨hd.2.1,hd.2.2.1⟩,hd.2.2.2,hs⟩
def ovI (x y:ByteArray):Bool:=F195 (F83 x).1 (F83 y).1 || F195 (F83 y).1 (F83 x).1
def ovS (x y:ByteArray):Bool:=decide ((F99 x).1<IntKind.i64.wrap ((F99 y).1+(F99 y).2))&&decide ((F99 y).1<IntKind.i64.wrap ((F99 x).1+(F99 x).2))
theorem Ufz (x y:ByteArray) (hx:F252 x=true) (hy:F252 y=true):ovI x y=ovS x y:=by
 obtain ⟨a,L,e1,e2,d1,b1,c1,s1⟩:=Rd x hx
 obtain ⟨b,M,f1,f2,d2,b2,c2,s2⟩:=Rd y hy
 unfold ovI ovS F195
 rw [e1,e2,f1,f2]
 simp only [Qhp _ _ _ b1 c1,Qhp _ _ _ b2 c2,cb1]
 rw [Yl (by omega) (by omega),Yl (by omega) (by omega),← Bool.decide_and,← Bool.decide_and,← Bool.decide_and,← Bool.decide_or]
 refine decide_eq_decide.2 ⟨fun h=>?_,fun h=>?_⟩
 ·rcases h with h | h <;> omega
 ·rcases Int.le_total L M with hl | hl
  ·obtain ⟨c,hc⟩:=Qkl L M ⟨c1.1,hl,c2.2⟩
   exact .inr ⟨hl,Qkw a b _ _ c s2.1 hc d1 d2 h.1,h.2⟩
  ·obtain ⟨c,hc⟩:=Qkl M L ⟨c2.1,hl,c1.2⟩
   exact .inl ⟨hl,Qkw b a _ _ c s1.1 hc d2 d1 h.2,h.1⟩
theorem Qnh (lines:List ByteArray):F164 lines=Zk (fun p q=>F195 p q || F195 q p) [] (Qo lines):=by
 unfold F164
 have:=Yx (Ju lines) (Qo lines).length (fun i=>((Qo lines).take i).any (fun q=>F195 ((Qo lines).getD i default) q || F195 q ((Qo lines).getD i default))) true (fun r=>r) false (fun i hi=>by
  simp only [Ju,ltD hi,cond_true,nn]
  exact anyL ((Qo lines).take i) (fun q=>F195 ((Qo lines).getD i default) q || F195 q ((Qo lines).getD i default)) true (Vh lines (i:Int)) (fun j hj=>by
   simp only [Vh,nn,ltD hj,cond_true,cb2]; rfl) (by simp only [Vh,nn,geD,cond_false]) Lp.ret _ _ (fun _=>rfl)) (by simp only [Ju,geD,cond_false]) (Qo lines).length 0 (by omega) (Int.toNat (((Qo lines).length:Int)-0)+1) (by omega)
 rw [Vq (fun p q=>F195 p q || F195 q p) (Qo lines) (Qo lines).length 0 (by omega),List.take_zero,List.drop_zero] at this
 refine Eq.trans this ?_
 cases Zk (fun p q=>F195 p q || F195 q p) [] (Qo lines) <;> rfl
theorem Qzw (all:List l52Cut):F68 all=!Zk (fun c e=>hdB c.w Yd&&(hdB e.w Yd&&ovS (c.w.getD 2 default) (e.w.getD 2 default))) [] all:=by
 unfold F68
 have:=Yx (Bm all) all.length (fun i=>(all.take i).any (fun e=>hdB (all.getD i default).w Yd&&(hdB e.w Yd&&ovS ((all.getD i default).w.getD 2 default) (e.w.getD 2 default)))) false (fun r=>r) true (fun i hi=>by
  simp only [Bm,ltD hi,cond_true]
  have h1:=Yx (Bp all (i:Int)) i (fun k=>hdB (all.getD i default).w Yd&&(hdB (all.getD k default).w Yd&&ovS ((all.getD i default).w.getD 2 default) ((all.getD k default).w.getD 2 default))) false (Lp.ret:Bool→Lp Int Bool) (.next ((i+1:Nat):Int)) (fun k hk=>by
   simp only [Bp,ltD hk,cond_true,nn,at0,at2,blit,cb1,cb2]
   show (bif (!(hdB (all.getD i default).w Yd) || !(hdB (all.getD k default).w Yd)) then _ else (bif ovS ((all.getD i default).w.getD 2 default) ((all.getD k default).w.getD 2 default) then _ else _))=_
   cases hdB (all.getD i default).w Yd <;> cases hdB (all.getD k default).w Yd <;> cases ovS ((all.getD i default).w.getD 2 default) ((all.getD k default).w.getD 2 default) <;> rfl) (by
   simp only [Bp,decide_eq_false (show ¬ (i:Int)<(i:Int) by omega),cond_false]) i 0 (by omega) (Int.toNat ((i:Int)-0)+1) (by omega)
  rw [Qfr all (fun e=>hdB (all.getD i default).w Yd&&(hdB e.w Yd&&ovS ((all.getD i default).w.getD 2 default) (e.w.getD 2 default))) i (by omega)] at h1
  exact h1) (by simp only [Bm,geD,cond_false]) all.length 0 (by omega) (Int.toNat ((all.length:Int)-0)+1) (by omega)
 rw [Vq (fun c e=>hdB c.w Yd&&(hdB e.w Yd&&ovS (c.w.getD 2 default) (e.w.getD 2 default))) all all.length 0 (by omega),List.take_zero,List.drop_zero] at this
 refine Eq.trans this ?_
 cases Zk (fun (c e:l52Cut)=>hdB c.w Yd&&(hdB e.w Yd&&ovS (c.w.getD 2 default) (e.w.getD 2 default))) [] all <;> rfl
theorem Qik (lines:List ByteArray) (h:F64 lines=0):F164 lines=!F68 ((wsL lines).map l52Cut.mk):=by
 rw [Qzw,Bool.not_not,Qnh]
 have e1:=Qdg l52Cut.mk (fun (c e:l52Cut)=>hdB c.w Yd&&(hdB e.w Yd&&ovS (c.w.getD 2 default) (e.w.getD 2 default))) (wsL lines) []
 rw [List.map_nil] at e1
 rw [e1]
 have e2:=Bd (fun w:List ByteArray=>hdB w Yd) (fun w v=>ovS (w.getD 2 default) (v.getD 2 default)) (wsL lines) []
 refine Eq.trans ?_ e2.symm
 have e3:=Qdg (fun w:List ByteArray=>(F83 (w.getD 2 default)).1) (fun p q=>F195 p q || F195 q p) (Qa lines (⟨#[112,111,114,116]⟩:ByteArray)) []
 rw [List.map_nil] at e3
 have e4:Qo lines=(Qa lines (⟨#[112,111,114,116]⟩:ByteArray)).map (fun w:List ByteArray=>(F83 (w.getD 2 default)).1):=rfl
 rw [e4,e3,Yo lines h]
 refine Qal (Q:=fun w=>Jm w) (fun w v hw hv=>Ufz _ _ (by unfold Jm at hw; exact hw.2.2.2.2) (by unfold Jm at hv; exact hv.2.2.2.2)) _ [] (fun w hw=>?_) (fun w hw=>by cases hw)
 obtain ⟨h1,h2⟩:=List.mem_filter.1 hw
 exact Qab (Er lines h w h1) (eq_of_beq h2)
def Qyq (w:List ByteArray) (addr:Int):Bool:=hdB w Yd&&(decide (addr>(F99 (w.getD 2 default)).1)&&decide (addr<IntKind.i64.wrap ((F99 (w.getD 2 default)).1+(F99 (w.getD 2 default)).2)))
theorem Uiu (all:List l52Cut) (addr:Int):F100 all addr=all.any fun c=>Qyq c.w addr:=by
 unfold F100
 have:=anyL all (fun c=>Qyq c.w addr) true (Jr all addr) (fun i hi=>by
  simp only [Jr,ltD hi,cond_true,nn,at0,at2,blit,cb1]
  show (bif hdB (all.getD i default).w Yd then (bif _ then _ else _) else _)=bif (hdB (all.getD i default).w Yd&&_) then _ else _
  cases hdB (all.getD i default).w Yd <;> rfl) (by simp only [Jr,geD,cond_false]) (fun r=>r) (fun i40=>false) false (fun _=>rfl)
 refine this.trans ?_
 cases all.any (fun c=>Qyq c.w addr) <;> rfl
theorem Qzg (all:List l52Cut):F69 all=!all.any fun c=>(hdB c.w Qaj&&!F100 all (F78 (c.w.getD 2 default))) || (hdB c.w Qft&&!F100 all (F78 (c.w.getD 1 default))):=by
 unfold F69
 have:=anyL all (fun c=>(hdB c.w Qaj&&!F100 all (F78 (c.w.getD 2 default))) || (hdB c.w Qft&&!F100 all (F78 (c.w.getD 1 default)))) false (Bx all) (fun i hi=>by
  simp only [Bx,ltD hi,cond_true,nn,at0,at1,at2,blit]
  show (bif hdB (all.getD i default).w Qaj then (bif !F100 all (F78 ((all.getD i default).w.getD 2 default)) then _ else _) else (bif hdB (all.getD i default).w Qft then (bif !F100 all (F78 ((all.getD i default).w.getD 1 default)) then _ else _) else _))=_
  cases hr:hdB (all.getD i default).w Qaj with
  | true =>
   have hp:hdB (all.getD i default).w Qft=false:=by
    rw [hdB,beq_iff_eq] at hr
    rw [hdB,hr]; decide
   rw [hp]
   cases (!F100 all (F78 ((all.getD i default).w.getD 2 default))) <;> rfl
  | false=>cases hdB (all.getD i default).w Qft <;> cases (!F100 all (F78 ((all.getD i default).w.getD 1 default))) <;> rfl) (by simp only [Bx,geD,cond_false]) (fun r=>r) (fun i40=>true) true (fun _=>rfl)
 refine this.trans ?_
 cases all.any _ <;> rfl
theorem Qed (lines:List ByteArray):F165 lines=(((Qa lines (⟨#[114,111,117,116,101]⟩:ByteArray)).map fun w=>w.getD 2 default)++((Qa lines (⟨#[112,101,101,114]⟩:ByteArray)).map fun w=>w.getD 1 default)).any fun x0=>F196 x0 (Qo lines):=by
 have h0:Gv lines=Lp.done ((Qa lines (⟨#[114,111,117,116,101]⟩:ByteArray)).map fun w=>w.getD 2 default):=by
  unfold Gv
  have:=Ye (Qa lines (⟨#[114,111,117,116,101]⟩:ByteArray)) (fun (s:List ByteArray) w=>s++[w.getD 2 default]) (fun s i=>(s,i)) (Jk lines) (fun i s hi=>by
   simp only [Jk,ltD hi,cond_true,nn]; rfl) (fun s=>by simp only [Jk,geD,cond_false]) Lp.ret (fun (addrs1,v13)=>Lp.done addrs1) []
  refine this.trans ?_
  rw [Zp,List.nil_append]
 have h1:∀ a,Xl lines a=Lp.done (a++(Qa lines (⟨#[112,101,101,114]⟩:ByteArray)).map fun w=>w.getD 1 default):=fun a=>by
  unfold Xl
  have:=Ye (Qa lines (⟨#[112,101,101,114]⟩:ByteArray)) (fun (s:List ByteArray) w=>s++[w.getD 1 default]) (fun s i=>(s,i)) (Jt lines a) (fun i s hi=>by
   simp only [Jt,ltD hi,cond_true,nn]; rfl) (fun s=>by simp only [Jt,geD,cond_false]) Lp.ret (fun (addrs3,v27)=>Lp.done addrs3) a
  refine this.trans ?_
  rw [Zp]
 unfold F165
 rw [h0]
 show (Xl lines _).fin _ _=_
 rw [h1]; rfl
theorem Qgd (lines:List ByteArray) (h:F64 lines=0) (t:ByteArray):F196 t (Qo lines)=!F100 ((wsL lines).map l52Cut.mk) (F78 t):=by
 rw [Uiu,Gg]
 unfold F196
 rw [He]
 congr 1
 have e4:Qo lines=(Qa lines (⟨#[112,111,114,116]⟩:ByteArray)).map (fun w:List ByteArray=>(F83 (w.getD 2 default)).1):=rfl
 rw [e4,List.any_map,Yo lines h,List.any_filter]
 refine Uq fun w hw=>?_
 show (hdB w Yd&&_)=(hdB w Yd&&_)
 cases hp:hdB w Yd with
 | false=>rfl
 | true =>
  have hpp:=Qab (Er lines h w hw) (eq_of_beq hp)
  obtain ⟨a,L,e1,e2,d1,b1,c1,s1⟩:=Rd (w.getD 2 default) (by unfold Jm at hpp; exact hpp.2.2.2.2)
  rw [Bool.true_and,Bool.true_and]
  show F198 (F83 (w.getD 2 default)).1 (F78 t)=_
  unfold F198
  rw [e1,e2,Qhp _ _ _ b1 c1,cb1,Yl (by simp only; omega) (by simp only; omega),neI]
  simp only
  rw [← decide_not,← Bool.decide_and,← Bool.decide_and]
  exact decide_eq_decide.2 (by omega)
theorem Ek (lines:List ByteArray) (h:F64 lines=0):F165 lines=!F69 ((wsL lines).map l52Cut.mk):=by
 rw [Qzg,Bool.not_not,Gg,Qed,List.any_append,Qot,List.any_map,List.any_map,Yo lines h,Yo lines h,List.any_filter,List.any_filter]
 congr 1
 ·refine Uq fun w hw=>?_
  show (hdB w Qaj&&F196 (w.getD 2 default) (Qo lines))=_
  rw [Qgd lines h]
 ·refine Uq fun w hw=>?_
  show (hdB w Qft&&F196 (w.getD 1 default) (Qo lines))=_
  rw [Qgd lines h]
theorem Qae {α ρ τ:Type} [Inhabited α] (xs:List α) (P:α→Bool) (B:Nat→Bool) (bad:ρ) (step:Int×Int→Lp (Int×Int) ρ)
  (h1:∀ (i:Nat) (n:Int),i<xs.length→step (n,(i:Int))=bif P (xs.getD i default) then (bif B i then .ret bad else .next (n+1,((i+1:Nat):Int))) else .next (n,((i+1:Nat):Int)))
  (h2:∀ n:Int,step (n,(xs.length:Int))=.done (n,(xs.length:Int))) (f:ρ→τ) (g:Int×Int→τ) :
  ∀ (m i:Nat) (n:Int),i+m=xs.length→∀ fuel,m<fuel→(runL step fuel (n,(i:Int))).fin f g=bif anyF (fun i=>P (xs.getD i default)&&B i) i m then f bad else g (n+(((xs.drop i).filter P).length:Int),(xs.length:Int))
 | m,i,_,_,0,hf=>absurd hf (Nat.not_lt_zero _)
 | 0,i,n,h,fuel+1,hf=>by
  obtain rfl:i=xs.length:=by omega
  rw [Ko _ (h2 n),List.drop_of_length_le (Nat.le_refl _)]
  show g _=g _
  simp
 | m+1,i,n,h,fuel+1,hf=>by
  have hst:=h1 i n (by omega)
  have hd:xs.drop i=xs.getD i default :: xs.drop (i+1):=by
   rw [List.drop_eq_getElem_cons (show i<xs.length by omega),List.getD_eq_getElem?_getD,List.getElem?_eq_getElem (show i<xs.length by omega)]; rfl
  rw [anyF,hd]
  cases hp:P (xs.getD i default) with
  | false =>
   rw [hp,cond_false] at hst
   rw [Yc _ hst,Qae xs P B bad step h1 h2 f g m (i+1) _ (by omega) fuel (by omega),List.filter_cons_of_neg (by rw [hp]; exact Bool.false_ne_true)]
   simp
  | true =>
   rw [hp,cond_true] at hst
   rw [Bool.true_and]
   cases hb:B i with
   | true=>rw [hb,cond_true] at hst; rw [Zl _ hst]; rfl
   | false =>
    rw [hb,cond_false] at hst
    rw [Yc _ hst,Qae xs P B bad step h1 h2 f g m (i+1) _ (by omega) fuel (by omega),List.filter_cons_of_pos hp,Bool.false_or,List.length_cons]
    congr 2
    rw [Int.natCast_add,Int.add_assoc,Int.add_comm (1:Int)]; rfl
theorem Qnd {α:Type} [Inhabited α] (p:α→Bool) (xs:List α):(idxI p xs<0↔xs.filter p=[])∧(0≤idxI p xs→xs.getD (idxI p xs).toNat default=(xs.filter p).getD 0 default):=by
 unfold idxI
 cases h:first (fun k=>p (xs.getD k default)) xs.length with
 | none =>
  have h1:=first_none.1 h
  refine ⟨⟨fun _=>?_,fun _=>by decide⟩,fun h=>absurd h (by decide)⟩
  rw [List.filter_eq_nil_iff]
  intro x hx
  obtain ⟨k,hk,rfl⟩:=Bo hx
  rw [h1 k hk]; exact Bool.false_ne_true
 | some k =>
  obtain ⟨h1,h2,h3⟩:=first_some.1 h
  have hs:xs.filter p=xs.getD k default :: (xs.drop (k+1)).filter p:=by
   have e:xs=xs.take k++xs.getD k default :: xs.drop (k+1):=by
    rw [Kx _ h1,← List.drop_eq_getElem_cons h1,List.take_append_drop]
   have h4:(xs.take k).filter p=[]:=by
    rw [List.filter_eq_nil_iff]
    intro x hx
    obtain ⟨j,hj,rfl⟩:=Bo hx
    have hl:j<k:=by rw [List.length_take] at hj; omega
    rw [List.getD_eq_getElem?_getD,List.getElem?_take,if_pos hl,← List.getD_eq_getElem?_getD]
    rw [h3 j hl]; exact Bool.false_ne_true
   conv=>lhs; rw [e]
   rw [List.filter_append,h4,List.nil_append,List.filter_cons_of_pos h2]
  refine ⟨⟨fun h=>absurd h (by show ¬ ((k:Int)<0); omega),fun h=>by rw [hs] at h; cases h⟩,fun _=>?_⟩
  rw [hs]
  show xs.getD (k:Int).toNat default=xs.getD k default
  rw [nn]
theorem Qiq (p q:Nat→Bool):∀ (m i:Nat),anyF (fun k=>p k || q k) i m=(anyF p i m || anyF q i m)
 | 0,_=>rfl
 | m+1,i=>by
  rw [anyF,anyF,anyF,Qiq p q m (i+1)]
  cases p i <;> cases q i <;> simp
theorem Qbk {p q:Nat→Bool}:∀ (m i:Nat),(∀ k,i≤k→k<i+m→p k=q k)→anyF p i m=anyF q i m
 | 0,_,_=>rfl
 | m+1,i,h=>by rw [anyF,anyF,h i (Nat.le_refl _) (by omega),Qbk m (i+1) fun k h1 h2=>h k (by omega) (by omega)]
def badD (a n lo hi:Int) (d:List ByteArray):Bool:=(decide (F78 (d.getD 3 default)<a) || decide (F78 (d.getD 3 default)≥a+n)) || decide (lo≤F79 (d.getD 2 default)∧F79 (d.getD 2 default)≤hi)
def Xa (x y:List ByteArray):Bool:=(((y.getD 1 default).toList==(x.getD 1 default).toList)&&((y.getD 3 default).toList==(x.getD 3 default).toList))&&((y.getD 4 default).toList==(x.getD 4 default).toList)
theorem Ujs (all:List l52Cut) (i:Nat) (hi:i<all.length) (nat:l52Cut) (a n:Int) (hp:F99 (nat.w.getD 1 default)=(a,n)) (hb:0≤a∧a≤65535∧1≤n∧n≤65536) :
  F102 all (i:Int) nat=!(badD a n (F79 (nat.w.getD 3 default)) (F79 (nat.w.getD 4 default)) (all.getD i default).w || (all.take i).any fun e=>hdB e.w Uj&&Xa (all.getD i default).w e.w):=by
 unfold F102
 simp only [at1,at2,at3,at4,nn,hp,cb2]
 rw [Yl (by omega) (by omega)]
 have h1:=Yx (Jz all (i:Int) nat) i (fun k=>hdB (all.getD k default).w Uj&&Xa (all.getD i default).w (all.getD k default).w) false (fun r=>r) true (fun k hk=>by
  simp only [Jz,ltD hk,cond_true,nn,at0,at1,at3,at4,cb1]
  show (bif (((_&&_)&&_)&&_) then _ else _)=bif (hdB (all.getD k default).w Uj&&((_&&_)&&_)) then _ else _
  rw [blit,Bool.and_assoc,Bool.and_assoc,Bool.and_assoc]; rfl) (by simp only [Jz,decide_eq_false (show ¬ (i:Int)<(i:Int) by omega),cond_false]) i 0 (by omega) (Int.toNat ((i:Int)-0)+1) (by omega)
 rw [Qfr all (fun e=>hdB e.w Uj&&Xa (all.getD i default).w e.w) i (by omega)] at h1
 rw [Bool.not_or]
 show (bif badD a n _ _ _ then false else _)=_
 refine (congrArg (fun z=>bif badD a n (F79 (nat.w.getD 3 default)) (F79 (nat.w.getD 4 default)) (all.getD i default).w then false else z) h1).trans ?_
 cases badD a n (F79 (nat.w.getD 3 default)) (F79 (nat.w.getD 4 default)) (all.getD i default).w <;> cases ((all.take i).any fun e=>hdB e.w Uj&&Xa (all.getD i default).w e.w) <;> rfl
def Qhz (a n lo hi:Int) (ds:List (List ByteArray)):Bool:=ds.any (badD a n lo hi) || Zk Xa [] ds
theorem Qee (ws:List (List ByteArray)):F70 (ws.map l52Cut.mk)=match ws.filter (fun w=>hdB w hNat) with
  | []=>!(ws.any fun w=>hdB w Uj)
  | w :: _=>bif anyF (fun i=>hdB ((ws.map l52Cut.mk).getD i default).w Uj&&!F102 (ws.map l52Cut.mk) (i:Int) ⟨w⟩) 0 ws.length then false else
    ((decide (((ws.filter fun w=>hdB w Uj).length:Int)≤6)&&(decide (F78 (w.getD 2 default)<(F99 (w.getD 1 default)).1) || decide (F78 (w.getD 2 default)≥IntKind.i64.wrap ((F99 (w.getD 1 default)).1+(F99 (w.getD 1 default)).2))))&&decide (F79 (w.getD 3 default)≤F79 (w.getD 4 default))):=by
 generalize hall:ws.map l52Cut.mk=all
 have hlen:all.length=ws.length:=by rw [← hall,List.length_map]
 have hidx:=Qnd (fun c=>((F77 c 0).toList==(⟨#[110,97,116]⟩:ByteArray).toList)) all
 have hnf:all.filter (fun c=>((F77 c 0).toList==(⟨#[110,97,116]⟩:ByteArray).toList))=(ws.filter fun w=>hdB w hNat).map l52Cut.mk:=by
  rw [← hall,List.filter_map]
  congr 2
  funext w
  show ((F77 ⟨w⟩ 0).toList==_)=_
  rw [at0,blit]; rfl
 rw [hnf] at hidx
 have hdf:all.filter (fun c=>hdB c.w Uj)=(ws.filter fun w=>hdB w Uj).map l52Cut.mk:=by
  rw [← hall,List.filter_map]; rfl
 have e211:F101 all=idxI (fun c=>((F77 c 0).toList==(⟨#[110,97,116]⟩:ByteArray).toList)) all:=as101 all
 unfold F70
 generalize hk:idxI (fun c=>((F77 c 0).toList==(⟨#[110,97,116]⟩:ByteArray).toList)) all=k at hidx
 have hloop:=Qae all (fun c=>hdB c.w Uj) (fun i=>decide (k<0) || !F102 all (i:Int) (all.getD (Int.toNat k) default)) false (Bz all) (fun i n hi=>by
  simp only [Bz,ltD hi,cond_true,nn,hk,e211]
  simp only [at0,blit,cb2]
  show (bif !(hdB (all.getD i default).w Uj) then _ else _)=bif hdB (all.getD i default).w Uj then _ else _
  cases hdB (all.getD i default).w Uj <;> rfl) (fun n=>by simp only [Bz,geD,cond_false]) (fun r=>r)
  (fun (doors,i40)=>bif (decide (k<0)) then true else (((decide (doors≤6)&&(decide (F78 ((all.getD k.toNat default).w.getD 2 default)<(F99 ((all.getD k.toNat default).w.getD 1 default)).1) || decide (F78 ((all.getD k.toNat default).w.getD 2 default)≥IntKind.i64.wrap ((F99 ((all.getD k.toNat default).w.getD 1 default)).1+(F99 ((all.getD k.toNat default).w.getD 1 default)).2)))))&&decide (F79 ((all.getD k.toNat default).w.getD 3 default)≤F79 ((all.getD k.toNat default).w.getD 4 default)))) all.length 0 0 (by omega) (Int.toNat ((all.length:Int)-0)+1) (by omega)
 simp only [hk,e211]
 simp only [at1,at2,at3,at4,cb1,cb2]
 refine Eq.trans hloop ?_
 rw [List.drop_zero,hdf,List.length_map,hlen]
 cases hn:ws.filter (fun w=>hdB w hNat) with
 | nil =>
  rw [hn] at hidx
  have hk0:=hidx.1.2 rfl
  simp only [decide_eq_true hk0,Bool.true_or,Bool.and_true,cond_true]
  have:=Kw all (fun c=>hdB c.w Uj) all.length 0 (by omega)
  rw [List.drop_zero,hlen] at this
  rw [this,← hall,List.any_map]
  show (bif ws.any (fun w=>hdB w Uj) then false else true)=!ws.any fun w=>hdB w Uj
  cases ws.any fun w=>hdB w Uj <;> rfl
 | cons w r =>
  rw [hn] at hidx
  have hk0:¬ k<0:=fun h=>by have:=hidx.1.1 h; cases this
  have hw:all.getD k.toNat default=⟨w⟩:=(hidx.2 (by omega)).trans rfl
  simp only [decide_eq_false hk0,Bool.false_or,cond_false,hw]
  rw [Int.zero_add]
theorem Qka (lines:List ByteArray) (w:List ByteArray) (r:List (List ByteArray)) (hn:Qa lines (⟨#[110,97,116]⟩:ByteArray)=w :: r) :
  F166 lines=(((F199 (F83 (w.getD 1 default)).1 (F43 (w.getD 2 default)) || decide (F44 (w.getD 3 default)>F44 (w.getD 4 default))) || decide (((Qa lines (⟨#[100,111,111,114]⟩:ByteArray)).length:Int)>6)) ||
   ((Qa lines (⟨#[100,111,111,114]⟩:ByteArray)).any (fun d=>!F199 (F83 (w.getD 1 default)).1 (F43 (d.getD 3 default)) || decide (F44 (w.getD 3 default)≤F44 (d.getD 2 default)∧F44 (d.getD 2 default)≤F44 (w.getD 4 default))) || Zk Xa [] (Qa lines (⟨#[100,111,111,114]⟩:ByteArray)))):=by
 unfold F166
 have e0:((Qa lines (⟨#[110,97,116]⟩:ByteArray)).getD (Int.toNat 0) default)=w:=by rw [hn]; rfl
 have hl:((((Qa lines (⟨#[110,97,116]⟩:ByteArray)).length:Int)==0))=false:=by rw [hn,beq_eq_false_iff_ne,List.length_cons]; omega
 rw [hl,cond_false]
 simp only [e0,cb2]
 generalize hds:Qa lines (⟨#[100,111,111,114]⟩:ByteArray)=ds
 have hloop:=Yx (Jj lines) ds.length (fun i=>(!F199 (F83 (w.getD 1 default)).1 (F43 ((ds.getD i default).getD 3 default)) || decide (F44 (w.getD 3 default)≤F44 ((ds.getD i default).getD 2 default)∧F44 ((ds.getD i default).getD 2 default)≤F44 (w.getD 4 default))) || (ds.take i).any (Xa (ds.getD i default))) true (fun r=>r) false (fun i hi=>by
  simp only [Jj,hds,ltD hi,cond_true,nn,e0,cb2]
  have h1:=anyL (ds.take i) (Xa (ds.getD i default)) true (Jo lines (i:Int)) (fun j hj=>by
   simp only [Jo,hds,nn,ltD hj,cond_true,cb1]; rfl) (by simp only [Jo,hds,nn,geD,cond_false]) (Lp.ret:Bool→Lp Int Bool) (fun v89=>.next ((i:Int)+1)) (.next ((i:Int)+1)) (fun _=>rfl)
  rw [h1]
  show (bif (!F199 (F83 (w.getD 1 default)).1 (F43 ((ds.getD i default).getD 3 default)) || decide (F44 (w.getD 3 default)≤F44 ((ds.getD i default).getD 2 default)∧F44 ((ds.getD i default).getD 2 default)≤F44 (w.getD 4 default))) then _ else _)=_
  cases (!F199 (F83 (w.getD 1 default)).1 (F43 ((ds.getD i default).getD 3 default)) || decide (F44 (w.getD 3 default)≤F44 ((ds.getD i default).getD 2 default)∧F44 ((ds.getD i default).getD 2 default)≤F44 (w.getD 4 default))) <;> cases ((ds.take i).any (Xa (ds.getD i default))) <;> rfl) (by simp only [Jj,hds,geD,cond_false]) ds.length 0 (by omega) (Int.toNat ((ds.length:Int)-0)+1) (by omega)
 rw [Qiq,Vq Xa ds ds.length 0 (by omega),List.take_zero,List.drop_zero] at hloop
 have h2:=Kw ds (fun d=>(!F199 (F83 (w.getD 1 default)).1 (F43 (d.getD 3 default)) || decide (F44 (w.getD 3 default)≤F44 (d.getD 2 default)∧F44 (d.getD 2 default)≤F44 (w.getD 4 default)))) ds.length 0 (by omega)
 rw [List.drop_zero] at h2
 rw [h2] at hloop
 refine (congrArg (fun z=>bif ((F199 (F83 (w.getD 1 default)).1 (F43 (w.getD 2 default)) || decide (F44 (w.getD 3 default)>F44 (w.getD 4 default))) || decide ((ds.length:Int)>6)) then true else z) hloop).trans ?_
 rw [cb2]
 congr 1
 cases ((ds.any fun d=>!F199 (F83 (w.getD 1 default)).1 (F43 (d.getD 3 default)) || decide (F44 (w.getD 3 default)≤F44 (d.getD 2 default)∧F44 (d.getD 2 default)≤F44 (w.getD 4 default))) || Zk Xa [] ds) <;> rfl
theorem Qeh (lines:List ByteArray) (h:F64 lines=0):F166 lines=!F70 ((wsL lines).map l52Cut.mk):=by
 rw [Qee]
 have hN:Qa lines (⟨#[110,97,116]⟩:ByteArray)=(wsL lines).filter fun w=>hdB w hNat:=Yo lines h _
 have hD:Qa lines (⟨#[100,111,111,114]⟩:ByteArray)=(wsL lines).filter fun w=>hdB w Uj:=Yo lines h _
 cases hn:(wsL lines).filter fun w=>hdB w hNat with
 | nil =>
  rw [hn] at hN
  unfold F166
  rw [hN,hD]
  show decide ((((wsL lines).filter fun w=>hdB w Uj).length:Int)>0)=!!_
  rw [Bool.not_not,Bool.eq_iff_iff,decide_eq_true_eq,List.any_eq_true]
  constructor
  ·intro hl
   have hl:0<((wsL lines).filter fun w=>hdB w Uj).length:=by omega
   have:=List.mem_filter.1 (List.getElem_mem hl)
   exact ⟨_,this.1,this.2⟩
  ·rintro ⟨x,hx,hp⟩
   have:=List.length_pos_of_mem (List.mem_filter.2 ⟨hx,hp⟩:x∈(wsL lines).filter fun w=>hdB w Uj)
   omega
 | cons w r =>
  have hwm:w∈(wsL lines).filter fun w=>hdB w hNat:=by rw [hn]; exact List.mem_cons_self
  rw [hn] at hN
  obtain ⟨hw1,hw2⟩:=List.mem_filter.1 hwm
  have hnp:=Qzn (Er lines h w hw1) (eq_of_beq hw2)
  unfold natP at hnp
  obtain ⟨a,L,e1,e2,d1,b1,c1,s1⟩:=Rd (w.getD 1 default) hnp.2.2.1
  rw [Qka lines w r hN]
  simp only [e1,e2,Qhp _ _ _ b1 c1,Ec,He]
  rw [Yl (by omega) (by omega),hD]
  have hdoor:anyF (fun i=>hdB (((wsL lines).map l52Cut.mk).getD i default).w Uj&&!F102 ((wsL lines).map l52Cut.mk) (i:Int) ⟨w⟩) 0 (wsL lines).length=Qhz a (F151 L) (F79 (w.getD 3 default)) (F79 (w.getD 4 default)) ((wsL lines).filter fun w=>hdB w Uj):=by
   have hc:=Qbk (p:=fun i=>hdB (((wsL lines).map l52Cut.mk).getD i default).w Uj&&!F102 ((wsL lines).map l52Cut.mk) (i:Int) ⟨w⟩) (q:=fun i=>(hdB ((wsL lines).getD i default) Uj&&badD a (F151 L) (F79 (w.getD 3 default)) (F79 (w.getD 4 default)) ((wsL lines).getD i default)) || ((wsL lines).take i).any (fun e=>hdB ((wsL lines).getD i default) Uj&&(hdB e Uj&&Xa ((wsL lines).getD i default) e))) (wsL lines).length 0 (fun k _ hk=>by
    have hk:k<(wsL lines).length:=by omega
    have hg:((wsL lines).map l52Cut.mk).getD k default=⟨(wsL lines).getD k default⟩:=Rt _ _ _ hk
    rw [Ujs _ k (by simpa using hk) ⟨w⟩ a _ e2 ⟨b1.1,b1.2,s1⟩,Bool.not_not,hg,← List.map_take,Gg]
    show (hdB ((wsL lines).getD k default) Uj&&_)=_
    cases hdB ((wsL lines).getD k default) Uj with
    | true=>simp only [Bool.true_and]
    | false =>
     simp only [Bool.false_and]
     rw [show ((wsL lines).take k).any (fun _=>false)=false by simp]; rfl)
   rw [hc,Qiq,Vq (fun x e=>hdB x Uj&&(hdB e Uj&&Xa x e)) (wsL lines) (wsL lines).length 0 (by omega),List.take_zero,List.drop_zero,Bd]
   have h3:=Kw (wsL lines) (fun d=>hdB d Uj&&badD a (F151 L) (F79 (w.getD 3 default)) (F79 (w.getD 4 default)) d) (wsL lines).length 0 (by omega)
   rw [List.drop_zero] at h3
   rw [h3]
   unfold Qhz
   rw [List.any_filter]; rfl
  rw [hdoor]
  have hbd:((wsL lines).filter fun w=>hdB w Uj).any (fun d=>!decide (a≤F78 (d.getD 3 default)∧F78 (d.getD 3 default)<a+F151 L) || decide (F79 (w.getD 3 default)≤F79 (d.getD 2 default)∧F79 (d.getD 2 default)≤F79 (w.getD 4 default)))=((wsL lines).filter fun w=>hdB w Uj).any (badD a (F151 L) (F79 (w.getD 3 default)) (F79 (w.getD 4 default))):=Uq fun d _=>by
   unfold badD
   congr 1
   rw [← decide_not,← Bool.decide_or]
   exact decide_eq_decide.2 (by omega)
  rw [hbd]
  show (_ || Qhz a (F151 L) (F79 (w.getD 3 default)) (F79 (w.getD 4 default)) ((wsL lines).filter fun w=>hdB w Uj))=_
  have g1:decide (a≤F78 (w.getD 2 default)∧F78 (w.getD 2 default)<a+F151 L)=!(decide (F78 (w.getD 2 default)<a) || decide (F78 (w.getD 2 default)≥a+F151 L)):=by
   rw [← Bool.decide_or,← decide_not]
   exact decide_eq_decide.2 (by omega)
  have g2:decide (F79 (w.getD 3 default)>F79 (w.getD 4 default))=!decide (F79 (w.getD 3 default)≤F79 (w.getD 4 default)):=by
   rw [← decide_not]
   exact decide_eq_decide.2 (by omega)
  have g3:decide ((((wsL lines).filter fun w=>hdB w Uj).length:Int)>6)=!decide ((((wsL lines).filter fun w=>hdB w Uj).length:Int)≤6):=by
   rw [← decide_not]
   exact decide_eq_decide.2 (by omega)
  rw [g1,g2,g3]
  generalize (decide (F78 (w.getD 2 default)<a) || decide (F78 (w.getD 2 default)≥a+F151 L))=x1,decide (F79 (w.getD 3 default)≤F79 (w.getD 4 default))=x2,decide ((((wsL lines).filter fun w=>hdB w Uj).length:Int)≤6)=x3,Qhz a (F151 L) (F79 (w.getD 3 default)) (F79 (w.getD 4 default)) ((wsL lines).filter fun w=>hdB w Uj)=x4
  cases x1 <;> cases x2 <;> cases x3 <;> cases x4 <;> rfl
theorem Qwp (lines:List ByteArray) (hz:∀ k:Nat,(lines.getD k default).size≤1048576) (h:F161 lines=0):F64 lines=0∧lines.length≤16∧∀ k:Nat,(lines.getD k default).size≤1048576:=by
 rw [Qfg] at h
 exact ⟨h,Bb lines h,hz⟩
theorem Eo (lines:List ByteArray) (hz:∀ k:Nat,(lines.getD k default).size≤1048576):∀ k j:Nat,(((lines.map (fun l=>(⟨(F97 l).1⟩:l52Cut))).getD k default).w.getD j default).size≤1048576:=fun k j=>by
 by_cases hk:k<lines.length
 ·rw [Rt _ _ _ hk]
  exact Qd (lines.getD k default) j
 ·have e:(lines.map (fun l=>(⟨(F97 l).1⟩:l52Cut))).getD k default=default:=by
   rw [List.getD_eq_getElem?_getD,List.getElem?_eq_none (by rw [List.length_map]; omega)]; rfl
  rw [e]
  exact Nat.zero_le _
theorem kc161 (lines:List ByteArray) {K_:Prop} (p0_:∀ k:Nat,(lines.getD k default).size≤1048576) (k_:K_):(∀ k:Nat,(lines.getD k default).size≤1048576)∧(Imp (.l 1 eStr lines) (.l 1 eStr lines))∧K_:=⟨p0_,Imp.refl _,k_⟩
abbrev kh161 (lines:List ByteArray):Hint false Tryz.prog:=.call 161 (S161 lines) (ok161 lines) none
def Ei (p:(List ByteArray)→Bool):Uw:=⟨List ByteArray,fun i=>[.c (.x (PX (.l 1 eStr i) (F64 i=0∧i.length≤16∧∀ k:Nat,(i.getD k default).size≤1048576)))],fun i=>.bool (p i)⟩
def Qme (p:(List ByteArray)→Bool):List Dat:=[.x (FnX Tryz.prog (Ei p))]
def fh162:FnH Tryz.prog:=⟨false,162,Ei (fun x0=>F162 x0),[],rfl,True,fun i=>Bw (ok162 i)⟩
theorem ca162:Ua Tryz.prog 162=true:=by kernel_rfl
def fh163:FnH Tryz.prog:=⟨false,163,Ei (fun x0=>F163 x0),[],rfl,True,fun i=>Bw (ok163 i)⟩
theorem ca163:Ua Tryz.prog 163=true:=by kernel_rfl
def fh164:FnH Tryz.prog:=⟨false,164,Ei (fun x0=>F164 x0),[],rfl,True,fun i=>Bw (ok164 i)⟩
theorem ca164:Ua Tryz.prog 164=true:=by kernel_rfl
def fh165:FnH Tryz.prog:=⟨false,165,Ei (fun x0=>F165 x0),[],rfl,True,fun i=>Bw (ok165 i)⟩
theorem ca165:Ua Tryz.prog 165=true:=by kernel_rfl
def fh166:FnH Tryz.prog:=⟨false,166,Ei (fun x0=>F166 x0),[],rfl,True,fun i=>Bw (ok166 i)⟩
theorem ca166:Ua Tryz.prog 166=true:=by kernel_rfl
def Zn (lines:List ByteArray):Int→Lp Int Int:=fun v13 =>
 bif (decide (v13<(([(fun x0=>F162 x0),(fun x0=>F163 x0),(fun x0=>F164 x0),(fun x0=>F165 x0),(fun x0=>F166 x0)]:List ((List ByteArray)→Bool)).length:Int))) then (bif ((([(fun x0=>F162 x0),(fun x0=>F163 x0),(fun x0=>F164 x0),(fun x0=>F165 x0),(fun x0=>F166 x0)]:List ((List ByteArray)→Bool)).getD v13.toNat default) lines) then (.ret (5+v13)) else (.next (v13+1))) else (.done v13)
def F119 (lines:List ByteArray):Int :=
 bif ((F161 lines) != 0) then (F161 lines) else ((runL (Zn lines) (((([(fun x0=>F162 x0),(fun x0=>F163 x0),(fun x0=>F164 x0),(fun x0=>F165 x0),(fun x0=>F166 x0)]:List ((List ByteArray)→Bool)).length:Int)-0).toNat+1) 0).fin (fun r=>r) (fun v13=>0))
abbrev Nz:Nat×Int:=((((([(fun x0=>F162 x0),(fun x0=>F163 x0),(fun x0=>F164 x0),(fun x0=>F165 x0),(fun x0=>F166 x0)]:List ((List ByteArray)→Bool)).length:Int)-0).toNat+1),0)
abbrev Qiu (m39:Nat) (v13:Int):Prop:=(Int.toNat ((([(fun x0=>F162 x0),(fun x0=>F163 x0),(fun x0=>F164 x0),(fun x0=>F165 x0),(fun x0=>F166 x0)]:List ((List ByteArray)→Bool)).length:Int)-v13)<m39)∧(0:Int)≤v13
abbrev Qvp (lines:List ByteArray):Lp Int Int:=LpX (Zn lines) (Nz)
abbrev Lu (lines:List ByteArray) (i:Nat×Int):Prop:=LpJ (Zn lines) (Nz) i (Qiu i.1 i.2)
abbrev Qtj (lines:List ByteArray) (i:Nat×Int) (m39:Nat) (v13:Int):Prop:=LpH (Zn lines) (Nz) i m39 v13 (Qiu (m39+1) v13)
abbrev Qqh (lines:List ByteArray) (v13:Int) (v13_:Int) (K39:Prop):Prop:=(Rf (.int .i64 (([(fun x0=>F162 x0),(fun x0=>F163 x0),(fun x0=>F164 x0),(fun x0=>F165 x0),(fun x0=>F166 x0)]:List ((List ByteArray)→Bool)).length:Int)))∧((.int .i64 v13:Value)=.int .i64 v13_)∧(Im (.l 1 eStr lines))∧(Im (.l 1 Qme ([(fun x0=>F162 x0),(fun x0=>F163 x0),(fun x0=>F164 x0),(fun x0=>F165 x0),(fun x0=>F166 x0)]:List ((List ByteArray)→Bool))))∧K39
theorem Ujf (lines:List ByteArray) (i:Nat×Int) (h:Lu lines i):Qtj lines i (i.1-1) i.2:=⟨hd1 h.1 h.2.1,hd3 h.2.1,hd2 h.2.1,h.2.2⟩
theorem Ugh (lines:List ByteArray) (i:Nat×Int) (m39:Nat) (v13:Int) (hl:m39<i.1) (e:runL (Zn lines) m39 v13=Qvp lines) (h:Qiu m39 v13):∃ j:Nat×Int,Qqh lines v13 j.2 (Lu lines j∧j.1<i.1):=⟨(m39,v13),rfl,rfl,Imp.refl _,Imp.refl _,⟨e,h⟩,hl⟩
theorem Ula (lines:List ByteArray) (h:(0:Int)≤0):Qqh lines 0 0 (Lu lines (Nz)):=⟨rfl,rfl,Imp.refl _,Imp.refl _,rfl,Nat.lt_succ_self _,h⟩
def S119 (lines:List ByteArray):Spec:=⟨[.r (.c (.l 1 eStr lines))],.v (vI (F119 lines)),lines.length≤1048576∧(∀ k:Nat,(lines.getD k default).size≤1048576)⟩
theorem ok119 (lines:List ByteArray):(S119 lines).ok Tryz.prog 119 false :=
 Qi mixed (fn:=Tryz.f119) (ct:=.seqk [(0,0)] .no (.seq (.seq (.reg [(1,kh161 lines)]) (.seq .no (.cond (.seq .no .no) .no))) (.seq (.seqk [(0,0),(11,0)] (.reg [(0,.dat (.l 1 Qme ([(fun x0=>F162 x0),(fun x0=>F163 x0),(fun x0=>F164 x0),(fun x0=>F165 x0),(fun x0=>F166 x0)]:List ((List ByteArray)→Bool))))]) (.blk (.loop (ι:=Nat×Int) (fun i=>(fun (v13:Int)=>(⟨[(0,some (.h 0 0)),(11,some (.h 1 0)),(12,some (.v (vI (([(fun x0=>F162 x0),(fun x0=>F163 x0),(fun x0=>F164 x0),(fun x0=>F165 x0),(fun x0=>F166 x0)]:List ((List ByteArray)→Bool)).length:Int)))),(13,some (.v (vI v13)))],[(0,some (.shr none (.l 1 eStr lines))),(1,some (.own 1 (.l 1 Qme ([(fun x0=>F162 x0),(fun x0=>F163 x0),(fun x0=>F164 x0),(fun x0=>F165 x0),(fun x0=>F166 x0)]:List ((List ByteArray)→Bool)))))],2⟩:St)) i.2) (Lu lines) (fun i=>i.1) (Nz) (fun i=>(fun (v13:Int)=>(.seq .no (.seq (.cond .no .no) (.seq (.blk (.seq .no (.seq (.reg [(2,.fnv (Ei (([(fun x0=>F162 x0),(fun x0=>F163 x0),(fun x0=>F164 x0),(fun x0=>F165 x0),(fun x0=>F166 x0)]:List ((List ByteArray)→Bool)).getD v13.toNat default)) lines)]) (.cond (.seq (.reg [(1,.bnd)]) .no) .no)))) (.reg [(0,.bnd)]))))) i.2)))) (.seq .no .no)))) Tryz.func119 (fun (hp:lines.length≤1048576∧(∀ k:Nat,(lines.getD k default).size≤1048576))=>have hpre0:=hp.1; have hpre1:=hp.2; kn lines fun _=>kc161 lines (by first | assumption | exact hpre1 _ | exact fun k _=>hpre1 k | (intros; exact trivial) | (intros; exact Nat.zero_le _)) (ifn (F161 lines) 0 (fun h1 _=>fiI (F161 lines) (F119 lines) (condT h1 rfl)) (fun h1 _=>ai (BuildOK.mk Qme ([(fun x0=>F162 x0),(fun x0=>F163 x0),(fun x0=>F164 x0),(fun x0=>F165 x0),(fun x0=>F166 x0)]:List ((List ByteArray)→Bool)) rfl (by exact ai (Imp.fn fh162 rfl trivial ca162) (ai (Imp.fn fh163 rfl trivial ca163) (ai (Imp.fn fh164 rfl trivial ca164) (ai (Imp.fn fh165 rfl trivial ca165) (ai (Imp.fn fh166 rfl trivial ca166) trivial))))) (fun _=>rfl):BuildOK 5 1 [.v (.func (.func 162) #[] #[]),.v (.func (.func 163) #[] #[]),.v (.func (.func 164) #[] #[]),.v (.func (.func 165) #[] #[]),.v (.func (.func 166) #[] #[])] (.l 1 Qme ([(fun x0=>F162 x0),(fun x0=>F163 x0),(fun x0=>F164 x0),(fun x0=>F165 x0),(fun x0=>F166 x0)]:List ((List ByteArray)→Bool)))) (kn lines fun _=>kn ([(fun x0=>F162 x0),(fun x0=>F163 x0),(fun x0=>F164 x0),(fun x0=>F165 x0),(fun x0=>F166 x0)]:List ((List ByteArray)→Bool)) fun _=>ai (Ula lines (by omega)) (fun (i0:Nat×Int) (hi0:Lu lines i0)=>(fun (m0:Nat) (v13:Int) (hh0:Qtj lines i0 m0 v13)=>have hI0:=hh0.1; have hl0:=hh0.2.1; have _:=hh0.2.2.1; have _:=hh0.2.2.2; ifd (v13<(([(fun x0=>F162 x0),(fun x0=>F163 x0),(fun x0=>F164 x0),(fun x0=>F165 x0),(fun x0=>F166 x0)]:List ((List ByteArray)→Bool)).length:Int)) (fun h3 _=>ai (by omega:ib v13 ([(fun x0=>F162 x0),(fun x0=>F163 x0),(fun x0=>F164 x0),(fun x0=>F165 x0),(fun x0=>F166 x0)]:List ((List ByteArray)→Bool))) (ai (Eq.refl (FnX Tryz.prog (Ei (([(fun x0=>F162 x0),(fun x0=>F163 x0),(fun x0=>F164 x0),(fun x0=>F165 x0),(fun x0=>F166 x0)]:List ((List ByteArray)→Bool)).getD v13.toNat default)))) (ai (Imp.px (d:=.l 1 eStr lines) (by exact Qwp lines (by assumption) (by omega):F64 lines=0∧lines.length≤16∧∀ k:Nat,(lines.getD k default).size≤1048576)) (ifb ((([(fun x0=>F162 x0),(fun x0=>F163 x0),(fun x0=>F164 x0),(fun x0=>F165 x0),(fun x0=>F166 x0)]:List ((List ByteArray)→Bool)).getD v13.toNat default) lines) (fun h4=>ai (iok (5+v13) (by first | omega | (simp only [List.length_cons,List.length_nil] at *; omega))) (fiI (5+v13) (F119 lines) (condF h1 (finR (Qr hI0 (condT h3 (condT h4 rfl))) rfl)))) (fun h4=>ai (iok (v13+1) (by first | omega | (simp only [List.length_cons,List.length_nil] at *; omega))) (Ugh lines i0 m0 (v13+1) hl0 (Qe hI0 (condT h3 (condF h4 rfl))) (by refine ⟨?_,?_⟩ <;> omega))))))) (fun h3 _=>have hD0_5:Qvp lines=Lp.done v13:=Qj hI0 (condF h3 rfl); fiI 0 (F119 lines) (condF h1 (finD hD0_5 rfl)))) (i0.1-1) i0.2 (Ujf lines i0 hi0)))))) (by kernel_rfl)
theorem kc64 (lines:List ByteArray) {K_:Prop} (p0_:∀ k:Nat,(lines.getD k default).size≤1048576) (k_:K_):(∀ k:Nat,(lines.getD k default).size≤1048576)∧(Imp (.l 1 eStr lines) (.l 1 eStr lines))∧K_:=⟨p0_,Imp.refl _,k_⟩
abbrev kh64 (lines:List ByteArray):Hint true Tryz.prog:=.call 64 (S64 lines) (ok64 lines) none
theorem kc65a (lines:List ByteArray) {K_:Prop} (p0_:lines.length≤16) (p1_:∀ k:Nat,(lines.getD k default).size≤1048576) (k_:K_):(lines.length≤16∧(∀ k:Nat,(lines.getD k default).size≤1048576))∧(Imp (.l 1 eStr lines) (.l 1 eStr lines))∧K_:=⟨⟨p0_,p1_⟩,Imp.refl _,k_⟩
abbrev kh65a (lines:List ByteArray):Hint true Tryz.prog:=.call 65 (T65 (lines.map (fun l=>(⟨(F97 l).1⟩:l52Cut))) lines) (oa65 lines) none
def F31 (lines:List ByteArray):Int :=
 bif ((F64 lines) != 0) then (F64 lines) else (bif (!(F66 (lines.map (fun l=>(⟨(F97 l).1⟩:l52Cut))))) then 5 else (bif (!(F67 (lines.map (fun l=>(⟨(F97 l).1⟩:l52Cut))))) then 6 else (bif (!(F68 (lines.map (fun l=>(⟨(F97 l).1⟩:l52Cut))))) then 7 else (bif (!(F69 (lines.map (fun l=>(⟨(F97 l).1⟩:l52Cut))))) then 8 else (bif (!(F70 (lines.map (fun l=>(⟨(F97 l).1⟩:l52Cut))))) then 9 else 0)))))
def S31 (lines:List ByteArray):Spec:=⟨[.r (.c (.l 1 eStr lines))],.v (vI (F31 lines)),lines.length≤1048576∧(∀ k:Nat,(lines.getD k default).size≤1048576)⟩
theorem ok31 (lines:List ByteArray):(S31 lines).ok Tryz.prog 31 :=
 Qi mixed (fn:=Tryz.f31) (ct:=.seqk [(0,0)] .no (.seq (.reg [(1,kh64 lines)]) (.seq (.seq .no (.cond (.seq .no .no) .no)) (.seq (.reg [(1,kh65a lines)]) (.seq (.blk (.seq (.reg [(1,.call 66 (S66 (lines.map (fun l=>(⟨(F97 l).1⟩:l52Cut)))) (ok66 (lines.map (fun l=>(⟨(F97 l).1⟩:l52Cut)))) none)]) (.cond (.seq .no .no) (.seq (.reg [(1,.call 67 (S67 (lines.map (fun l=>(⟨(F97 l).1⟩:l52Cut)))) (ok67 (lines.map (fun l=>(⟨(F97 l).1⟩:l52Cut)))) none)]) (.cond (.seq .no .no) (.seq (.reg [(1,.call 68 (S68 (lines.map (fun l=>(⟨(F97 l).1⟩:l52Cut)))) (ok68 (lines.map (fun l=>(⟨(F97 l).1⟩:l52Cut)))) none)]) (.cond (.seq .no .no) (.seq (.reg [(1,.call 69 (S69 (lines.map (fun l=>(⟨(F97 l).1⟩:l52Cut)))) (ok69 (lines.map (fun l=>(⟨(F97 l).1⟩:l52Cut)))) none)]) (.cond (.seq .no .no) (.seq (.reg [(1,.call 70 (S70 (lines.map (fun l=>(⟨(F97 l).1⟩:l52Cut)))) (ok70 (lines.map (fun l=>(⟨(F97 l).1⟩:l52Cut)))) none)]) (.cond (.seq .no .no) .no))))))))))) (.seq .no .no)))))) Tryz.func31 (fun (hp:lines.length≤1048576∧(∀ k:Nat,(lines.getD k default).size≤1048576))=>have hpre0:=hp.1; have hpre1:=hp.2; kn lines fun _=>kc64 lines (by first | assumption | exact hpre1 _ | exact fun k _=>hpre1 k | (intros; exact trivial) | (intros; exact Nat.zero_le _)) (ifn (F64 lines) 0 (fun h1 _=>fiI (F64 lines) (F31 lines) (condT h1 rfl)) (fun h1 _=>kc65a lines (by first | omega | assumption | (have h9:=Bb lines (by omega); omega)) (by first | omega | assumption | (have h9:=Bb lines (by omega); omega)) (ai trivial (ai (Imp.refl (.l 1 Qh (lines.map (fun l=>(⟨(F97 l).1⟩:l52Cut))))) (ifb (!(F66 (lines.map (fun l=>(⟨(F97 l).1⟩:l52Cut))))) (fun h2=>fiI 5 (F31 lines) (condF h1 (condT h2 rfl))) (fun h2=>ai trivial (ai (Imp.refl (.l 1 Qh (lines.map (fun l=>(⟨(F97 l).1⟩:l52Cut))))) (ifb (!(F67 (lines.map (fun l=>(⟨(F97 l).1⟩:l52Cut))))) (fun h3=>fiI 6 (F31 lines) (condF h1 (condF h2 (condT h3 rfl)))) (fun h3=>ai (by exact Eo lines (by assumption):∀ k j:Nat,(((lines.map (fun l=>(⟨(F97 l).1⟩:l52Cut))).getD k default).w.getD j default).size≤1048576) (ai (Imp.refl (.l 1 Qh (lines.map (fun l=>(⟨(F97 l).1⟩:l52Cut))))) (ifb (!(F68 (lines.map (fun l=>(⟨(F97 l).1⟩:l52Cut))))) (fun h4=>fiI 7 (F31 lines) (condF h1 (condF h2 (condF h3 (condT h4 rfl))))) (fun h4=>ai (by exact Eo lines (by assumption):∀ k j:Nat,(((lines.map (fun l=>(⟨(F97 l).1⟩:l52Cut))).getD k default).w.getD j default).size≤1048576) (ai (Imp.refl (.l 1 Qh (lines.map (fun l=>(⟨(F97 l).1⟩:l52Cut))))) (ifb (!(F69 (lines.map (fun l=>(⟨(F97 l).1⟩:l52Cut))))) (fun h5=>fiI 8 (F31 lines) (condF h1 (condF h2 (condF h3 (condF h4 (condT h5 rfl)))))) (fun h5=>ai (by exact Eo lines (by assumption):∀ k j:Nat,(((lines.map (fun l=>(⟨(F97 l).1⟩:l52Cut))).getD k default).w.getD j default).size≤1048576) (ai (Imp.refl (.l 1 Qh (lines.map (fun l=>(⟨(F97 l).1⟩:l52Cut))))) (ifb (!(F70 (lines.map (fun l=>(⟨(F97 l).1⟩:l52Cut))))) (fun h6=>fiI 9 (F31 lines) (condF h1 (condF h2 (condF h3 (condF h4 (condF h5 (condT h6 rfl))))))) (fun h6=>fiI 0 (F31 lines) (condF h1 (condF h2 (condF h3 (condF h4 (condF h5 (condF h6 rfl))))))))))))))))))))))))) (by kernel_rfl)
theorem Lb (lines:List ByteArray):F119 lines=F31 lines:=by
 unfold F119 F31
 rw [Qfg]
 cases hn:(F64 lines != 0) with
 | true=>rfl
 | false =>
  have h0:F64 lines=0:=by simpa using hn
  rw [cond_false,cond_false]
  have e:(lines.map (fun l=>(⟨(F97 l).1⟩:l52Cut)))=(wsL lines).map l52Cut.mk:=by
   unfold wsL
   rw [List.map_map]; rfl
  rw [e]
  have k1:=Qir lines h0
  have k2:=El lines h0
  have k3:=Qik lines h0
  have k4:=Ek lines h0
  have k5:=Qeh lines h0
  rw [← k1,← k2,← k3,← k4,← k5]
  have s0:Zn lines 0=bif F162 lines then .ret 5 else .next 1:=rfl
  have s1:Zn lines 1=bif F163 lines then .ret 6 else .next 2:=rfl
  have s2:Zn lines 2=bif F164 lines then .ret 7 else .next 3:=rfl
  have s3:Zn lines 3=bif F165 lines then .ret 8 else .next 4:=rfl
  have s4:Zn lines 4=bif F166 lines then .ret 9 else .next 5:=rfl
  have s5:Zn lines 5=.done 5:=rfl
  show (runL (Zn lines) 6 0).fin _ _=_
  cases b0:F162 lines with
  | true=>rw [b0,cond_true] at s0; rw [Zl _ s0]; rfl
  | false =>
  rw [b0,cond_false] at s0; rw [Yc _ s0]
  cases b1:F163 lines with
  | true=>rw [b1,cond_true] at s1; rw [Zl _ s1]; rfl
  | false =>
  rw [b1,cond_false] at s1; rw [Yc _ s1]
  cases b2:F164 lines with
  | true=>rw [b2,cond_true] at s2; rw [Zl _ s2]; rfl
  | false =>
  rw [b2,cond_false] at s2; rw [Yc _ s2]
  cases b3:F165 lines with
  | true=>rw [b3,cond_true] at s3; rw [Zl _ s3]; rfl
  | false =>
  rw [b3,cond_false] at s3; rw [Yc _ s3]
  cases b4:F166 lines with
  | true=>rw [b4,cond_true] at s4; rw [Zl _ s4]; rfl
  | false =>
  rw [b4,cond_false] at s4; rw [Yc _ s4,Ko _ s5]; rfl
theorem Tp (lines:List ByteArray) (h:F31 lines=0):lines.length≤16:=by
 unfold F31 at h
 cases hn:(F64 lines != 0) with
 | true=>rw [hn,cond_true] at h; rw [h] at hn; exact absurd hn (by decide)
 | false=>exact Bb lines (by simpa using hn)
theorem Qpg (lines:List ByteArray) (h:F119 lines=0):lines.length≤16:=Tp lines (by rw [← Lb]; exact h)
def Xn (a:List ByteArray) (left':Int):(Int×Int)→Lp (Int×Int) Int:=fun (left'1,i40) =>
 bif (decide (i40<(a.length:Int))) then (bif (decide ((left'1-((a.getD i40.toNat default).size:Int))<0)) then (.ret (-1)) else (.next ((left'1-((a.getD i40.toNat default).size:Int)),(i40+1)))) else (.done (left'1,i40))
def F7 (a:List ByteArray) (left':Int):Int :=
 bif (decide ((left'-(a.length:Int))<0)) then (-1) else ((runL (Xn a left') (((a.length:Int)-0).toNat+1) ((left'-(a.length:Int)),0)).fin (fun r=>r) (fun (left'1,i40)=>left'1))
abbrev Qkq (a:List ByteArray) (left':Int):Nat×(Int×Int):=((((a.length:Int)-0).toNat+1),((left'-(a.length:Int)),0))
abbrev Ubi (a:List ByteArray) (m39:Nat) (left'1:Int) (i40:Int):Prop:=Int.toNat ((a.length:Int)-i40)<m39∧(0:Int)≤left'1∧left'1≤1048576∧(0:Int)≤i40
abbrev lX7_0 (a:List ByteArray) (left':Int):Lp (Int×Int) Int:=LpX (Xn a left') (Qkq a left')
abbrev Qkp (a:List ByteArray) (left':Int) (i:Nat×(Int×Int)):Prop:=LpJ (Xn a left') (Qkq a left') i (Ubi a i.1 i.2.1 i.2.2)
abbrev lH7_0 (a:List ByteArray) (left':Int) (i:Nat×(Int×Int)) (m39:Nat) (left'1:Int) (i40:Int):Prop:=LpH (Xn a left') (Qkq a left') i m39 (left'1,i40) (Ubi a (m39+1) left'1 i40)
abbrev lE7_0 (a:List ByteArray) (left'1:Int) (i40:Int) (left'1_:Int) (i40_:Int) (K39:Prop):Prop:=((.int .i64 left'1:Value)=.int .i64 left'1_)∧((.int .i64 i40:Value)=.int .i64 i40_)∧(Im (.l 1 eStr a))∧K39
theorem un7_0 (a:List ByteArray) (left':Int) (i:Nat×(Int×Int)) (h:Qkp a left' i):lH7_0 a left' i (i.1-1) i.2.1 i.2.2:=⟨hd1 h.1 h.2.1,hd3 h.2.1,hd2 h.2.1,h.2.2⟩
theorem bk7_0 (a:List ByteArray) (left':Int) (i:Nat×(Int×Int)) (m39:Nat) (left'1:Int) (i40:Int) (hl:m39<i.1) (e:runL (Xn a left') m39 (left'1,i40)=lX7_0 a left') (h:Ubi a m39 left'1 i40):∃ j:Nat×(Int×Int),lE7_0 a left'1 i40 j.2.1 j.2.2 (Qkp a left' j∧j.1<i.1):=⟨(m39,(left'1,i40)),rfl,rfl,Imp.refl _,⟨e,h⟩,hl⟩
theorem en7_0 (a:List ByteArray) (left':Int) (h:(0:Int)≤(left'-(a.length:Int))∧(left'-(a.length:Int))≤1048576∧(0:Int)≤0):lE7_0 a (left'-(a.length:Int)) 0 (left'-(a.length:Int)) 0 (Qkp a left' (Qkq a left')):=⟨rfl,rfl,Imp.refl _,rfl,Nat.lt_succ_self _,h⟩
def S7 (a:List ByteArray) (left':Int):Spec:=⟨[.r (.c (.l 1 eStr a)),.r (.c (.v (vI left')))],.v (vI (F7 a left')),0≤left'∧left'≤1048576∧(∀ k:Nat,(a.getD k default).size≤9223372036854775807)⟩
theorem ok7 (a:List ByteArray) (left':Int):(S7 a left').ok Tryz.prog 7 :=
 Qi mixed (fn:=Tryz.f7) (ct:=.seqk [(0,0)] .no (.seq (.reg [(3,.bnd)]) (.seq (.seq .no (.cond (.seq .no .no) .no)) (.seq (.seqk [(0,0)] .no (.blk (.loop (ι:=Nat×(Int×Int)) (fun i=>(fun (left'1:Int) (i40:Int)=>(⟨[(0,some (.h 0 0)),(1,some (.v (vI left'1))),(5,some (.v (vI i40)))],[(0,some (.shr none (.l 1 eStr a)))],1⟩:St)) i.2.1 i.2.2) (Qkp a left') (fun i=>i.1) (Qkq a left') (fun i=>(fun (left'1:Int) (i40:Int)=>(.seq (.seq .no (.cond .no .no)) (.seq (.blk (.seq (.reg [(6,.bnd)]) (.seq .no (.cond (.seq .no .no) .no)))) (.reg [(1,.bnd)])))) i.2.1 i.2.2)))) (.seq .no .no))))) Tryz.func7 (fun (hp:0≤left'∧left'≤1048576∧(∀ k:Nat,(a.getD k default).size≤9223372036854775807))=>have hpre0:=hp.1; have hpre1:=hp.2.1; have hpre2:=hp.2.2; kn a fun _=>ai (iok (left'-(a.length:Int)) (by first | omega | (have hz:=(by assumption:∀ k:Nat,(a.getD k default).size≤9223372036854775807) i40.toNat; omega))) (ifd ((left'-(a.length:Int))<0) (fun h1 _=>fiI (-1) (F7 a left') (condT h1 rfl)) (fun h1 _=>kn a fun _=>ai (en7_0 a left' (by refine ⟨?_,?_,?_⟩ <;> omega)) (fun (i0:Nat×(Int×Int)) (hi0:Qkp a left' i0)=>(fun (m0:Nat) (left'1:Int) (i40:Int) (hh0:lH7_0 a left' i0 m0 left'1 i40)=>have hI0:=hh0.1; have hl0:=hh0.2.1; have _:=hh0.2.2.1; have _:=hh0.2.2.2; ifd (i40<(a.length:Int)) (fun h3 _=>ai (by omega:ib i40 a) (ai (iok (left'1-((a.getD i40.toNat default).size:Int)) (by first | omega | (have hz:=(by assumption:∀ k:Nat,(a.getD k default).size≤9223372036854775807) i40.toNat; omega))) (ifd ((left'1-((a.getD i40.toNat default).size:Int))<0) (fun h4 _=>fiI (-1) (F7 a left') (condF h1 (finR (Qr hI0 (condT h3 (condT h4 rfl))) rfl))) (fun h4 _=>ai (iok (i40+1) (by first | omega | (have hz:=(by assumption:∀ k:Nat,(a.getD k default).size≤9223372036854775807) i40.toNat; omega))) (bk7_0 a left' i0 m0 (left'1-((a.getD i40.toNat default).size:Int)) (i40+1) hl0 (Qe hI0 (condT h3 (condF h4 rfl))) (by refine ⟨?_,?_,?_,?_⟩ <;> omega)))))) (fun h3 _=>have hD0_5:lX7_0 a left'=Lp.done (left'1,i40):=Qj hI0 (condF h3 rfl); fiI left'1 (F7 a left') (condF h1 (finD hD0_5 rfl)))) (i0.1-1) i0.2.1 i0.2.2 (un7_0 a left' i0 hi0))))) (by kernel_rfl)
theorem gb7 (a:List ByteArray) (left':Int):0≤left'→left'≤1048576→0≤(F7 a left')→(F7 a left')≤left'∧(a.length≤1000000000)∧(∀ k:Nat,(a.getD k default).size≤1000000000):=by
 intro h0 h1 h2
 simp only [F7] at h2 ⊢
 cases h:decide (left'-(a.length:Int)<0)
 ·simp only [h,cond_false] at h2 ⊢
  have hc:=of_decide_eq_false h
  obtain ⟨hall,hle⟩:=Ufq (fun (x:ByteArray) (l:Int)=>l-(x.size:Int)) (fun x=>(x.size≤1000000000)) (fun x l g0 g1 g2=>⟨by omega,by omega⟩) a (Xn a left') (left'-(a.length:Int)) (by omega) (by omega) (fun l i=>rfl) h2
  exact ⟨Int.le_trans hle (by omega),by omega,fun k=>by
   by_cases hk:k<a.length
   ·exact (hall k hk)
   ·rw [Ws a (by omega)]; first | exact Nat.zero_le _ | (intro k'; exact Nat.zero_le _) | (intro k' k''; exact Nat.zero_le _)⟩
 ·simp only [h,cond_true] at h2
  exact absurd h2 (by decide)
theorem g7_0 (a:List ByteArray) (left':Int):0≤left'→left'≤1048576→0≤(F7 a left')→(F7 a left')≤left':=by
 intro h0 h1 h2; exact (gb7 a left' h0 h1 h2).1
theorem g7_1 (a:List ByteArray) (left':Int):0≤left'→left'≤1048576→0≤(F7 a left')→a.length≤1000000000:=by
 intro h0 h1 h2; exact (gb7 a left' h0 h1 h2).2.1
theorem g7_2 (a:List ByteArray) (left':Int):0≤left'→left'≤1048576→0≤(F7 a left')→∀ k:Nat,(a.getD k default).size≤1000000000:=by
 intro h0 h1 h2; exact (gb7 a left' h0 h1 h2).2.2
theorem Qlz (a:List ByteArray) (l:Int) (h:0≤F7 a l):(a.length:Int)≤l∧(∀ k:Nat,((a.getD k default).size:Int)≤l)∧F7 a l≤l:=by
 unfold F7 at h ⊢
 cases hd:decide ((l-(a.length:Int))<0) with
 | true=>rw [hd,cond_true] at h; exact absurd h (by decide)
 | false =>
  rw [hd,cond_false] at h
  have hd:=of_decide_eq_false hd
  have key:∀ (m i:Nat) (s:Int),i+m=a.length→0≤s→∀ fuel,m<fuel→0≤(runL (Xn a l) fuel (s,(i:Int))).fin (fun r=>r) (fun (x:Int×Int)=>x.1)→(∀ k:Nat,i≤k→k<a.length→((a.getD k default).size:Int)≤s)∧(runL (Xn a l) fuel (s,(i:Int))).fin (fun r=>r) (fun (x:Int×Int)=>x.1)≤s:=by
   intro m
   induction m with
   | zero =>
    intro i s hi hs fuel hf hr
    obtain ⟨fuel,rfl⟩:∃ f,fuel=f+1:=⟨fuel-1,by omega⟩
    have e:Xn a l (s,(i:Int))=.done (s,(i:Int)):=by
     simp only [Xn,decide_eq_false (show ¬ (i:Int)<(a.length:Int) by omega),cond_false]
    rw [Ko _ e]
    exact ⟨fun k h1 h2=>by omega,Int.le_refl _⟩
   | succ m ih =>
    intro i s hi hs fuel hf hr
    obtain ⟨fuel,rfl⟩:∃ f,fuel=f+1:=⟨fuel-1,by omega⟩
    have e:Xn a l (s,(i:Int))=bif decide (s-((a.getD i default).size:Int)<0) then .ret (-1) else .next (s-((a.getD i default).size:Int),((i+1:Nat):Int)):=by
     simp only [Xn,decide_eq_true (show (i:Int)<(a.length:Int) by omega),cond_true,nn]; rfl
    cases hb:decide (s-((a.getD i default).size:Int)<0) with
    | true =>
     rw [hb,cond_true] at e
     rw [Zl _ e] at hr
     exact absurd hr (by show ¬ (0:Int)≤-1; decide)
    | false =>
     rw [hb,cond_false] at e
     have hb:=of_decide_eq_false hb
     rw [Yc _ e] at hr ⊢
     obtain ⟨h1,h2⟩:=ih (i+1) _ (by omega) (by omega) fuel (by omega) hr
     refine ⟨fun k hk1 hk2=>?_,by omega⟩
     rcases Nat.eq_or_lt_of_le hk1 with rfl | hk
     ·omega
     ·have:=h1 k hk hk2
      omega
  obtain ⟨h1,h2⟩:=key a.length 0 (l-(a.length:Int)) (by omega) (by omega) (Int.toNat ((a.length:Int)-0)+1) (by omega) h
  refine ⟨by omega,fun k=>?_,?_⟩
  ·by_cases hk:k<a.length
   ·have:=h1 k (Nat.zero_le _) hk
    omega
   ·rw [List.getD_eq_getElem?_getD,List.getElem?_eq_none (by omega)]
    show ((0:Nat):Int)≤l
    omega
  ·rw [cond_false]
   refine Int.le_trans h2 ?_
   omega
theorem Bc (a:List ByteArray) {l:Int} (h:0≤F7 a l) (hl:l≤1048576):a.length≤1048576:=by have:=(Qlz a l h).1; omega
theorem Gn (a:List ByteArray) {l:Int} (h:0≤F7 a l) (hl:l≤1048576):∀ k:Nat,(a.getD k default).size≤1048576:=fun k=>by have:=(Qlz a l h).2.1 k; omega
def Pr (s:ByteArray) (at':Int):(List ByteArray×Int×Int)→Lp (List ByteArray×Int×Int) (List ByteArray):=fun (out1,from'1,i40) =>
 bif (decide (i40<(s.size:Int))) then (bif (((s.data.getD i40.toNat 0).toNat:Int)==(at'%256)) then (.next ((out1++[(s.extract (Int.toNat from'1) i40.toNat)]),(i40+1),(i40+1))) else (.next (out1,from'1,(i40+1)))) else (.done (out1,from'1,i40))
def En (s:ByteArray) (at':Int):Lp (List ByteArray×Int) (List ByteArray) :=
 (runL (Pr s at') (((s.size:Int)-0).toNat+1) (([]:List ByteArray),0,0)).fin Lp.ret (fun (out1,from'1,i40)=>.done (out1,from'1))
def F157 (s:ByteArray) (at':Int):List ByteArray :=
 (En s at').fin (fun r=>r) (fun (out,from')=>(out++[(s.extract from'.toNat (s.size:Int).toNat)]))
abbrev Pd (s:ByteArray):Nat×(List ByteArray×Int×Int):=((((s.size:Int)-0).toNat+1),(([]:List ByteArray),0,0))
abbrev Qhq (s:ByteArray) (m39:Nat) (out1:List ByteArray) (from'1:Int) (i40:Int):Prop:=Int.toNat ((s.size:Int)-i40)<m39∧(0:Int)≤from'1∧(from'1:Int)≤i40∧(out1.length:Int)≤i40∧i40≤(s.size:Int)∧(0:Int)≤from'1∧(0:Int)≤i40
abbrev Qqi (s:ByteArray) (at':Int):Lp (List ByteArray×Int×Int) (List ByteArray):=LpX (Pr s at') (Pd s)
abbrev Pu (s:ByteArray) (at':Int) (i:Nat×(List ByteArray×Int×Int)):Prop:=LpJ (Pr s at') (Pd s) i (Qhq s i.1 i.2.1 i.2.2.1 i.2.2.2)
abbrev Qra (s:ByteArray) (at':Int) (i:Nat×(List ByteArray×Int×Int)) (m39:Nat) (out1:List ByteArray) (from'1:Int) (i40:Int):Prop:=LpH (Pr s at') (Pd s) i m39 (out1,from'1,i40) (Qhq s (m39+1) out1 from'1 i40)
abbrev Qqb (s:ByteArray) (at':Int) (out1:List ByteArray) (from'1:Int) (i40:Int) (out1_:List ByteArray) (from'1_:Int) (i40_:Int) (K39:Prop):Prop:=(Rf (.string s))∧(Rf (.int .u8 (at'%256)))∧((.int .i64 from'1:Value)=.int .i64 from'1_)∧((.int .i64 i40:Value)=.int .i64 i40_)∧(Imp (.l 1 eStr out1) (.l 1 eStr out1_))∧K39
theorem Uik (s:ByteArray) (at':Int) (i:Nat×(List ByteArray×Int×Int)) (h:Pu s at' i):Qra s at' i (i.1-1) i.2.1 i.2.2.1 i.2.2.2:=⟨hd1 h.1 h.2.1,hd3 h.2.1,hd2 h.2.1,h.2.2⟩
theorem Qvf (s:ByteArray) (at':Int) (i:Nat×(List ByteArray×Int×Int)) (m39:Nat) (out1:List ByteArray) (from'1:Int) (i40:Int) (hl:m39<i.1) (e:runL (Pr s at') m39 (out1,from'1,i40)=Qqi s at') (h:Qhq s m39 out1 from'1 i40):∃ j:Nat×(List ByteArray×Int×Int),Qqb s at' out1 from'1 i40 j.2.1 j.2.2.1 j.2.2.2 (Pu s at' j∧j.1<i.1):=⟨(m39,(out1,from'1,i40)),rfl,rfl,rfl,rfl,Imp.refl _,⟨e,h⟩,hl⟩
theorem Uhn (s:ByteArray) (at':Int) (h:(0:Int)≤0∧(0:Int)≤0∧(([]:List ByteArray).length:Int)≤0∧0≤(s.size:Int)∧(0:Int)≤0∧(0:Int)≤0):Qqb s at' ([]:List ByteArray) 0 0 ([]:List ByteArray) 0 0 (Pu s at' (Pd s)):=⟨rfl,rfl,rfl,rfl,Imp.refl _,rfl,Nat.lt_succ_self _,h⟩
abbrev Qjd (s:ByteArray) (at':Int) (out:List ByteArray) (from':Int):Prop:=(0:Int)≤from'∧from'≤(s.size:Int)∧(out.length:Int)≤(s.size:Int)
abbrev Qhf (s:ByteArray) (at':Int) (j:List ByteArray×Int):Prop:=(En s at')=Lp.done j∧Qjd s at' j.1 j.2
theorem Uhq (s:ByteArray) (at':Int) (out:List ByteArray) (from':Int) (e:(En s at')=Lp.done (out,from')) (h:Qjd s at' out from'):∃ j:List ByteArray×Int,((.string s:Value)=.string s)∧((.int .i64 from':Value)=.int .i64 j.2)∧(Imp (.l 1 eStr out) (.l 1 eStr j.1))∧Qhf s at' j:=⟨(out,from'),rfl,rfl,Imp.refl _,e,h⟩
theorem fi157 (s:ByteArray) (at':Int) (r:List ByteArray) (hF:r=(F157 s at')):(Imp (.l 1 eStr r) (.l 1 eStr (F157 s at')))∧True:=by cases hF; exact ⟨Imp.refl _,trivial⟩
def S157 (s:ByteArray) (at':Int):Spec:=⟨[.r (.c (.v (.string s))),.r (.c (.v (.int .u8 (at'%256))))],.ow (.l 1 eStr (F157 s at')),s.size≤1048576⟩
theorem ok157 (s:ByteArray) (at':Int):(S157 s at').ok Tryz.prog 157 :=
 Qi mixed (fn:=Tryz.f157) (ct:=.seq .no (.seq (.reg [(0,.dat (.l 1 eStr ([]:List ByteArray)))]) (.seq .no (.cut (ι:=List ByteArray×Int) (fun j=>(fun (out:List ByteArray) (from':Int)=>(⟨[(0,some (.v (.string s))),(5,some (.h 0 0)),(6,some (.v (vI from')))],[(0,some (.own 0 (.l 1 eStr out)))],1⟩:St)) j.1 j.2) (Qhf s at') (.seqk [(5,0)] .no (.blk (.loop (ι:=Nat×(List ByteArray×Int×Int)) (fun i=>(fun (out1:List ByteArray) (from'1:Int) (i40:Int)=>(⟨[(0,some (.v (.string s))),(1,some (.v (.int .u8 (at'%256)))),(5,some (.h 0 0)),(6,some (.v (vI from'1))),(7,some (.v (vI i40)))],[(0,some (.own 0 (.l 1 eStr out1)))],1⟩:St)) i.2.1 i.2.2.1 i.2.2.2) (Pu s at') (fun i=>i.1) (Pd s) (fun i=>(fun (out1:List ByteArray) (from'1:Int) (i40:Int)=>(.seq (.seq .no (.cond .no .no)) (.seq (.blk (.seq .no (.cond (.seq (.reg [(6,.dat (.l 1 eStr (out1++[(s.extract (Int.toNat from'1) i40.toNat)])))]) (.reg [(1,.bnd)])) .no))) (.reg [(1,.bnd)])))) i.2.1 i.2.2.1 i.2.2.2)))) (fun j=>(fun (out:List ByteArray) (from':Int)=>(.seq (.reg [(5,.dat (.l 1 eStr (out++[(s.extract from'.toNat (s.size:Int).toNat)])))]) .no)) j.1 j.2))))) Tryz.func157 (fun (hpre0:s.size≤1048576)=>ai (bokr 1 eStr ([]:List ByteArray) fun _=>rfl) (ai (kn ([]:List ByteArray) fun _=>ai (Uhn s at' (by refine ⟨?_,?_,?_,?_,?_,?_⟩ <;> first | omega | (simp only [lens,ib] at*<;> omega))) (fun (i0:Nat×(List ByteArray×Int×Int)) (hi0:Pu s at' i0)=>(fun (m0:Nat) (out1:List ByteArray) (from'1:Int) (i40:Int) (hh0:Qra s at' i0 m0 out1 from'1 i40)=>have hI0:=hh0.1; have hl0:=hh0.2.1; have _:=hh0.2.2.1; have _:=hh0.2.2.2; ifd (i40<(s.size:Int)) (fun h2 _=>ai (by first | omega | (simp only [lens,ib] at*<;> omega):0≤i40∧i40<(s.size:Int)) (ife ((s.data.getD i40.toNat 0).toNat:Int) (at'%256) (fun h3 _=>ai (by first | omega | (simp only [lens,ib] at*<;> omega):0≤from'1∧from'1≤i40∧i40≤(s.size:Int)) (ai (appr 1 eStr out1 [(s.extract (Int.toNat from'1) i40.toNat)] fun _=>rfl) (ai (by (try simp only [lens]); omega:(out1++[(s.extract (Int.toNat from'1) i40.toNat)]).length*16≤140737488355328) (ai (iok (i40+1) (by first | omega | (simp only [lens,ib] at*<;> omega))) (ai (iok (i40+1) (by first | omega | (simp only [lens,ib] at*<;> omega))) (Qvf s at' i0 m0 (out1++[(s.extract (Int.toNat from'1) i40.toNat)]) (i40+1) (i40+1) hl0 (Qe hI0 (condT h2 (condT h3 rfl))) (by refine ⟨?_,?_,?_,?_,?_,?_,?_⟩ <;> first | omega | (simp only [lens,ib] at*<;> omega)))))))) (fun h3 _=>ai (iok (i40+1) (by first | omega | (simp only [lens,ib] at*<;> omega))) (Qvf s at' i0 m0 out1 from'1 (i40+1) hl0 (Qe hI0 (condT h2 (condF h3 rfl))) (by refine ⟨?_,?_,?_,?_,?_,?_,?_⟩ <;> first | omega | (simp only [lens,ib] at*<;> omega)))))) (fun h2 _=>have hD0_4:Qqi s at'=Lp.done (out1,from'1,i40):=Qj hI0 (condF h2 rfl); Uhq s at' out1 from'1 (Eq.symm (finD hD0_4 rfl)) (by refine ⟨?_,?_,?_⟩ <;> first | omega | (simp only [lens,ib] at*<;> omega)))) (i0.1-1) i0.2.1 i0.2.2.1 i0.2.2.2 (Uik s at' i0 hi0))) (fun (j:List ByteArray×Int) (hj:Qhf s at' j)=>(fun (out:List ByteArray) (from':Int) (hJ0_5:(En s at')=Lp.done (out,from')) (hw:Qjd s at' out from')=>have _:=hw.1; have _:=hw.2.1; have _:=hw.2.2; ai (by first | omega | (simp only [lens,ib] at*<;> omega):0≤from'∧from'≤(s.size:Int)∧(s.size:Int)≤(s.size:Int)) (ai (appr 1 eStr out [(s.extract from'.toNat (s.size:Int).toNat)] fun _=>rfl) (ai (by (try simp only [lens]); omega:(out++[(s.extract from'.toNat (s.size:Int).toNat)]).length*16≤140737488355328) (fi157 s at' (out++[(s.extract from'.toNat (s.size:Int).toNat)]) (finD hJ0_5 rfl))))) j.1 j.2 hj.1 hj.2))) (by kernel_rfl)
def F184 (n:Int) (low:Int) (high:Int):Bool :=
 (bif decide (n≥low) then decide (n≤high) else false)
def S184 (R:Bool) (n:Int) (low:Int) (high:Int):Spec:=⟨[.r (.c (.v (vI n))),.r (.c (.v (vI low))),.r (.c (.v (vI high)))],.v (.bool R),True⟩
theorem ok184 (n:Int) (low:Int) (high:Int):(S184 (F184 n low high) n low high).ok Tryz.prog 184 :=
 Qi mixed (fn:=Tryz.f184) (ct:=.seq .no (.seq .no .no)) Tryz.func184 (fun (_:True)=>fiB (bif decide (n≥low) then decide (n≤high) else false) (F184 n low high) rfl) (by kernel_rfl)
theorem as184 (n:Int) (low:Int) (high:Int):F184 n low high=(decide (low≤n∧n≤high)):=by
 simp only [F184,Bool.decide_and,Qyd]
theorem oa184 (n:Int) (low:Int) (high:Int):(S184 (decide (low≤n∧n≤high)) n low high).ok Tryz.prog 184:=by
 intro hp; have h:=ok184 n low high hp; rw [as184 n low high] at h; exact h
theorem Qoj (n:Int) (low:Int) (high:Int) {K_:Prop} (k_:K_):(True)∧(Imp (.v (vI n)) (.v (vI n)))∧(Imp (.v (vI low)) (.v (vI low)))∧(Imp (.v (vI high)) (.v (vI high)))∧K_:=⟨trivial,Imp.refl _,Imp.refl _,Imp.refl _,k_⟩
abbrev Qbl (n:Int) (low:Int) (high:Int):Hint true Tryz.prog:=.call 184 (S184 (decide (low≤n∧n≤high)) n low high) (oa184 n low high) none
def Jy (s:ByteArray):(Int×Int)→Lp (Int×Int) Int:=fun (n,i40) =>
 bif (decide (i40<(s.size:Int))) then (bif (bif decide (((s.data.getD i40.toNat 0).toNat:Int)<48) then true else decide (((s.data.getD i40.toNat 0).toNat:Int)>57)) then (.ret (-1)) else (.next ((IntKind.i64.wrap ((IntKind.i64.wrap (n*10))+(IntKind.i64.wrap (IntKind.u8.wrap (((s.data.getD i40.toNat 0).toNat:Int)-48))))),(i40+1)))) else (.done (n,i40))
def F159 (s:ByteArray):Int :=
 bif (bif (!(decide (1≤(s.size:Int)∧(s.size:Int)≤5))) then true else (bif decide ((s.size:Int)>1) then (((s.data.getD (Int.toNat 0) 0).toNat:Int)==48) else false)) then (-1) else ((runL (Jy s) (((s.size:Int)-0).toNat+1) (0,0)).fin (fun r=>r) (fun (n,i40)=>n))
abbrev Nr (s:ByteArray):Nat×(Int×Int):=((((s.size:Int)-0).toNat+1),(0,0))
abbrev Qjp (s:ByteArray) (m39:Nat) (n:Int) (i40:Int):Prop:=Int.toNat ((s.size:Int)-i40)<m39∧(0:Int)≤i40
abbrev Qqa (s:ByteArray):Lp (Int×Int) Int:=LpX (Jy s) (Nr s)
abbrev Mq (s:ByteArray) (i:Nat×(Int×Int)):Prop:=LpJ (Jy s) (Nr s) i (Qjp s i.1 i.2.1 i.2.2)
abbrev Qqj (s:ByteArray) (i:Nat×(Int×Int)) (m39:Nat) (n:Int) (i40:Int):Prop:=LpH (Jy s) (Nr s) i m39 (n,i40) (Qjp s (m39+1) n i40)
abbrev Qqq (s:ByteArray) (n:Int) (i40:Int) (n_:Int) (i40_:Int) (K39:Prop):Prop:=(Rf (.string s))∧((.int .i64 n:Value)=.int .i64 n_)∧((.int .i64 i40:Value)=.int .i64 i40_)∧K39
theorem Uje (s:ByteArray) (i:Nat×(Int×Int)) (h:Mq s i):Qqj s i (i.1-1) i.2.1 i.2.2:=⟨hd1 h.1 h.2.1,hd3 h.2.1,hd2 h.2.1,h.2.2⟩
theorem Uhs (s:ByteArray) (i:Nat×(Int×Int)) (m39:Nat) (n:Int) (i40:Int) (hl:m39<i.1) (e:runL (Jy s) m39 (n,i40)=Qqa s) (h:Qjp s m39 n i40):∃ j:Nat×(Int×Int),Qqq s n i40 j.2.1 j.2.2 (Mq s j∧j.1<i.1):=⟨(m39,(n,i40)),rfl,rfl,rfl,⟨e,h⟩,hl⟩
theorem Uix (s:ByteArray) (h:(0:Int)≤0):Qqq s 0 0 0 0 (Mq s (Nr s)):=⟨rfl,rfl,rfl,rfl,Nat.lt_succ_self _,h⟩
def S159 (s:ByteArray):Spec:=⟨[.r (.c (.v (.string s)))],.v (vI (F159 s)),s.size≤1048576⟩
theorem ok159 (s:ByteArray):(S159 s).ok Tryz.prog 159 :=
 Qi mixed (fn:=Tryz.f159) (ct:=.seq .no (.seq (.seq (.reg [(2,Qbl (s.size:Int) 1 5)]) (.cond (.seq .no .no) .no)) (.seq .no (.seq (.seq .no (.blk (.loop (ι:=Nat×(Int×Int)) (fun i=>(fun (n:Int) (i40:Int)=>(⟨[(0,some (.v (.string s))),(3,some (.v (vI n))),(4,some (.v (vI i40)))],[],0⟩:St)) i.2.1 i.2.2) (Mq s) (fun i=>i.1) (Nr s) (fun i=>(fun (n:Int) (i40:Int)=>(.seq (.seq .no (.cond .no .no)) (.seq (.blk (.seq (.seq .no (.cond (.seq .no .no) .no)) .no)) (.reg [(1,.bnd)])))) i.2.1 i.2.2)))) (.seq .no .no))))) Tryz.func159 (fun (hpre0:s.size≤1048576)=>Qoj (s.size:Int) 1 5 (ai (fun k2:(decide ((s.size:Int)>1))=true=>have _:=of_decide_eq_true k2; (fun k1:(!(decide (1≤(s.size:Int)∧(s.size:Int)≤5)))=false=>have _:=of_decide_eq_true (Uu k1); (by omega:0≤(0:Int)∧(0:Int)<(s.size:Int)))) (ifb (bif (!(decide (1≤(s.size:Int)∧(s.size:Int)≤5))) then true else (bif decide ((s.size:Int)>1) then (((s.data.getD (Int.toNat 0) 0).toNat:Int)==48) else false)) (fun h3=>fiI (-1) (F159 s) (condT h3 rfl)) (fun h3=>have _:=of_decide_eq_true (Uu (orF1 h3)); ai (Uix s (by omega)) (fun (i0:Nat×(Int×Int)) (hi0:Mq s i0)=>(fun (m0:Nat) (n:Int) (i40:Int) (hh0:Qqj s i0 m0 n i40)=>have hI0:=hh0.1; have hl0:=hh0.2.1; have _:=hh0.2.2.1; have _:=hh0.2.2.2; ifd (i40<(s.size:Int)) (fun h5 _=>ai (by omega:0≤i40∧i40<(s.size:Int)) (ai (fun k6:(decide (((s.data.getD i40.toNat 0).toNat:Int)<48))=false=>have _:=of_decide_eq_false k6; (by omega:0≤i40∧i40<(s.size:Int))) (ifb (bif decide (((s.data.getD i40.toNat 0).toNat:Int)<48) then true else decide (((s.data.getD i40.toNat 0).toNat:Int)>57)) (fun h7=>fiI (-1) (F159 s) (condF h3 (finR (Qr hI0 (condT h5 (condT h7 rfl))) rfl))) (fun h7=>have _:=of_decide_eq_false (orF1 h7); have _:=of_decide_eq_false (orF2 h7); ai (by omega:0≤i40∧i40<(s.size:Int)) (ai (iok (i40+1) (by omega)) (Uhs s i0 m0 (IntKind.i64.wrap ((IntKind.i64.wrap (n*10))+(IntKind.i64.wrap (IntKind.u8.wrap (((s.data.getD i40.toNat 0).toNat:Int)-48))))) (i40+1) hl0 (Qe hI0 (condT h5 (condF h7 rfl))) (by refine ⟨?_,?_⟩ <;> omega))))))) (fun h5 _=>have hD0_8:Qqa s=Lp.done (n,i40):=Qj hI0 (condF h5 rfl); fiI n (F159 s) (condF h3 (finD hD0_8 rfl)))) (i0.1-1) i0.2.1 i0.2.2 (Uje s i0 hi0)))))) (by kernel_rfl)
theorem kc157 (s:ByteArray) (at':Int) {K_:Prop} (p0_:s.size≤1048576) (q0_:s.size≤1048576) (k_:(∀ k:Nat,((F157 s at').getD k default).size≤1048576)→K_):(s.size≤1048576)∧(Imp (.v (.string s)) (.v (.string s)))∧(Imp (.v (.int .u8 at')) (.v (.int .u8 at')))∧K_:=⟨p0_,Imp.refl _,Imp.refl _,k_ (Zb s at' q0_)⟩
abbrev kh157 (s:ByteArray) (at':Int):Hint true Tryz.prog:=.call 157 (S157 s at') (ok157 s at') none
theorem Uee (s:ByteArray) {K_:Prop} (p0_:s.size≤1048576) (k_:K_):(s.size≤1048576)∧(Imp (.v (.string s)) (.v (.string s)))∧K_:=⟨p0_,Imp.refl _,k_⟩
abbrev Qxl (s:ByteArray):Hint true Tryz.prog:=.call 159 (S159 s) (ok159 s) none
theorem Uba {K_:Prop} (c_ b_:Bool) (n:Int) (low:Int) (high:Int) (k_:K_):(c_=b_→True)∧(c_=b_→Imp (.v (vI n)) (.v (vI n)))∧(c_=b_→Imp (.v (vI low)) (.v (vI low)))∧(c_=b_→Imp (.v (vI high)) (.v (vI high)))∧K_:=⟨fun _=>trivial,fun _=>Imp.refl _,fun _=>Imp.refl _,fun _=>Imp.refl _,k_⟩
def F158 (text:ByteArray):Int :=
 bif (((F157 text 46).length:Int) != 2) then (-1) else (bif (bif (!(decide (0≤(F159 ((F157 text 46).getD (Int.toNat 0) default))∧(F159 ((F157 text 46).getD (Int.toNat 0) default))≤255))) then true else (!(decide (0≤(F159 ((F157 text 46).getD (Int.toNat 1) default))∧(F159 ((F157 text 46).getD (Int.toNat 1) default))≤255)))) then (-1) else (IntKind.i64.wrap ((IntKind.i64.wrap (256*(F159 ((F157 text 46).getD (Int.toNat 0) default))))+(F159 ((F157 text 46).getD (Int.toNat 1) default)))))
def S158 (text:ByteArray):Spec:=⟨[.r (.c (.v (.string text)))],.v (vI (F158 text)),text.size≤1048576⟩
theorem ok158 (text:ByteArray):(S158 text).ok Tryz.prog 158 :=
 Qi mixed (fn:=Tryz.f158) (ct:=.seq .no (.seq (.reg [(1,kh157 text 46)]) (.seq (.seq .no (.cond (.seq .no .no) .no)) (.seq (.reg [(3,Qxl ((F157 text 46).getD (Int.toNat 0) default))]) (.seq (.reg [(3,Qxl ((F157 text 46).getD (Int.toNat 1) default))]) (.seq (.seq (.reg [(1,Qbl (F159 ((F157 text 46).getD (Int.toNat 0) default)) 0 255),(5,Qbl (F159 ((F157 text 46).getD (Int.toNat 1) default)) 0 255)]) (.cond (.seq .no .no) .no)) (.seq .no .no))))))) Tryz.func158 (fun (hpre0:text.size≤1048576)=>kc157 text 46 (by omega) (by omega) (fun gv1=>ifn ((F157 text 46).length:Int) 2 (fun h2 _=>fiI (-1) (F158 text) (condT h2 rfl)) (fun h2 _=>ai (by omega:ib 0 (F157 text 46)) (Uee ((F157 text 46).getD (Int.toNat 0) default) (by exact Zb _ _ (by omega) _) (ai (by omega:ib 1 (F157 text 46)) (Uee ((F157 text 46).getD (Int.toNat 1) default) (by exact Zb _ _ (by omega) _) (Qoj (F159 ((F157 text 46).getD (Int.toNat 0) default)) 0 255 (Uba (!(decide (0≤(F159 ((F157 text 46).getD (Int.toNat 0) default))∧(F159 ((F157 text 46).getD (Int.toNat 0) default))≤255))) false (F159 ((F157 text 46).getD (Int.toNat 1) default)) 0 255 (ifb (bif (!(decide (0≤(F159 ((F157 text 46).getD (Int.toNat 0) default))∧(F159 ((F157 text 46).getD (Int.toNat 0) default))≤255))) then true else (!(decide (0≤(F159 ((F157 text 46).getD (Int.toNat 1) default))∧(F159 ((F157 text 46).getD (Int.toNat 1) default))≤255)))) (fun h4=>fiI (-1) (F158 text) (condF h2 (condT h4 rfl))) (fun h4=>have _:=of_decide_eq_true (Uu (orF1 h4)); have _:=of_decide_eq_true (Uu (orF2 h4)); fiI (IntKind.i64.wrap ((IntKind.i64.wrap (256*(F159 ((F157 text 46).getD (Int.toNat 0) default))))+(F159 ((F157 text 46).getD (Int.toNat 1) default)))) (F158 text) (condF h2 (condF h4 rfl)))))))))))) (by kernel_rfl)
def Nf (len:Int):(Int×Int)→Lp (Int×Int) Int:=fun (n,i40) =>
 bif (decide (i40<16)) then (.next ((IntKind.i64.wrap (n*2)),(i40+1))) else (.done (n,i40))
def F185 (len:Int):Int :=
 (runL (Nf len) ((16-len).toNat+1) (1,len)).fin (fun r=>r) (fun (n,i40)=>n)
abbrev Mo (len:Int):Nat×(Int×Int):=(((16-len).toNat+1),(1,len))
abbrev Qhn (m39:Nat) (n:Int) (i40:Int):Prop:=Int.toNat (16-i40)<m39∧(0:Int)≤i40
abbrev Quj (len:Int):Lp (Int×Int) Int:=LpX (Nf len) (Mo len)
abbrev Nl (len:Int) (i:Nat×(Int×Int)):Prop:=LpJ (Nf len) (Mo len) i (Qhn i.1 i.2.1 i.2.2)
abbrev Qvt (len:Int) (i:Nat×(Int×Int)) (m39:Nat) (n:Int) (i40:Int):Prop:=LpH (Nf len) (Mo len) i m39 (n,i40) (Qhn (m39+1) n i40)
abbrev Qrv (n:Int) (i40:Int) (n_:Int) (i40_:Int) (K39:Prop):Prop:=((.int .i64 n:Value)=.int .i64 n_)∧((.int .i64 i40:Value)=.int .i64 i40_)∧K39
theorem Ujv (len:Int) (i:Nat×(Int×Int)) (h:Nl len i):Qvt len i (i.1-1) i.2.1 i.2.2:=⟨hd1 h.1 h.2.1,hd3 h.2.1,hd2 h.2.1,h.2.2⟩
theorem Ugw (len:Int) (i:Nat×(Int×Int)) (m39:Nat) (n:Int) (i40:Int) (hl:m39<i.1) (e:runL (Nf len) m39 (n,i40)=Quj len) (h:Qhn m39 n i40):∃ j:Nat×(Int×Int),Qrv n i40 j.2.1 j.2.2 (Nl len j∧j.1<i.1):=⟨(m39,(n,i40)),rfl,rfl,⟨e,h⟩,hl⟩
theorem Ukb (len:Int) (h:(0:Int)≤len):Qrv 1 len 1 len (Nl len (Mo len)):=⟨rfl,rfl,rfl,Nat.lt_succ_self _,h⟩
def S185 (len:Int):Spec:=⟨[.r (.c (.v (vI len)))],.v (vI (F185 len)),0≤len⟩
theorem ok185 (len:Int):(S185 len).ok Tryz.prog 185 :=
 Qi mixed (fn:=Tryz.f185) (ct:=.seq .no (.seq .no (.seq (.seq .no (.blk (.loop (ι:=Nat×(Int×Int)) (fun i=>(fun (n:Int) (i40:Int)=>(⟨[(3,some (.v (vI n))),(4,some (.v (vI i40)))],[],0⟩:St)) i.2.1 i.2.2) (Nl len) (fun i=>i.1) (Mo len) (fun i=>(fun (n:Int) (i40:Int)=>(.seq (.seq .no (.cond .no .no)) (.seq (.blk .no) (.reg [(1,.bnd)])))) i.2.1 i.2.2)))) (.seq .no .no)))) Tryz.func185 (fun (hpre0:0≤len)=>ai (Ukb len (by omega)) (fun (i0:Nat×(Int×Int)) (hi0:Nl len i0)=>(fun (m0:Nat) (n:Int) (i40:Int) (hh0:Qvt len i0 m0 n i40)=>have hI0:=hh0.1; have hl0:=hh0.2.1; have _:=hh0.2.2.1; have _:=hh0.2.2.2; ifd (i40<16) (fun h2 _=>ai (iok (i40+1) (by omega)) (Ugw len i0 m0 (IntKind.i64.wrap (n*2)) (i40+1) hl0 (Qe hI0 (condT h2 rfl)) (by refine ⟨?_,?_⟩ <;> omega))) (fun h2 _=>have hD0_3:Quj len=Lp.done (n,i40):=Qj hI0 (condF h2 rfl); fiI n (F185 len) (finD hD0_3 rfl))) (i0.1-1) i0.2.1 i0.2.2 (Ujv len i0 hi0))) (by kernel_rfl)
theorem g185_0 (len:Int):0≤len→len≤16→1≤(F185 len)∧(F185 len)≤65536:=by
 intro h1 h2; have h3:len=0∨len=1∨len=2∨len=3∨len=4∨len=5∨len=6∨len=7∨len=8∨len=9∨len=10∨len=11∨len=12∨len=13∨len=14∨len=15∨len=16:=by omega
 rcases h3 with rfl | rfl | rfl | rfl | rfl | rfl | rfl | rfl | rfl | rfl | rfl | rfl | rfl | rfl | rfl | rfl | rfl <;> exact of_decide_eq_true rfl
theorem kg185 {K_:Prop} (c_ b_:Bool) (len:Int) (p_:c_=b_→0≤len) (k_:K_):(c_=b_→0≤len)∧(c_=b_→Imp (.v (vI len)) (.v (vI len)))∧K_:=⟨p_,fun _=>Imp.refl _,k_⟩
abbrev kh185 (len:Int):Hint true Tryz.prog:=.call 185 (S185 len) (ok185 len) none
def F160 (p:Qb):Bool :=
 (bif (bif (decide (0≤p.Len∧p.Len≤16)) then (decide (0≤p.Addr∧p.Addr≤65535)) else false) then ((p.Addr.tmod (F185 p.Len))==0) else false)
def S160 (p:Qb):Spec:=⟨[.r (.g (Qk p))],.v (.bool (F160 p)),True⟩
theorem ok160 (p:Qb):(S160 p).ok Tryz.prog 160 :=
 Qi mixed (fn:=Tryz.f160) (ct:=.seq .no (.seq (.reg [(2,Qbl p.Len 0 16),(6,Qbl p.Addr 0 65535),(13,kh185 p.Len)]) .no)) Tryz.func160 (fun (_:True)=>Qoj p.Len 0 16 (Uba (decide (0≤p.Len∧p.Len≤16)) true p.Addr 0 65535 (kg185 (bif (decide (0≤p.Len∧p.Len≤16)) then (decide (0≤p.Addr∧p.Addr≤65535)) else false) true p.Len (fun k4=>have _:=of_decide_eq_true (Qn k4); have _:=of_decide_eq_true (Qv k4); (by omega)) (ai (fun k5:(bif (decide (0≤p.Len∧p.Len≤16)) then (decide (0≤p.Addr∧p.Addr≤65535)) else false)=true=>have _:=of_decide_eq_true (Qn k5); have _:=of_decide_eq_true (Qv k5); (by have h9:=g185_0 p.Len (by omega) (by omega); omega:¬ (F185 p.Len)=0)) (fiB (bif (bif (decide (0≤p.Len∧p.Len≤16)) then (decide (0≤p.Addr∧p.Addr≤65535)) else false) then ((p.Addr.tmod (F185 p.Len))==0) else false) (F160 p) rfl))))) (by kernel_rfl)
theorem kc158 (text:ByteArray) {K_:Prop} (p0_:text.size≤1048576) (k_:K_):(text.size≤1048576)∧(Imp (.v (.string text)) (.v (.string text)))∧K_:=⟨p0_,Imp.refl _,k_⟩
abbrev kh158 (text:ByteArray):Hint true Tryz.prog:=.call 158 (S158 text) (ok158 text) none
def F115 (text:ByteArray):Qb×Bool :=
 bif (((F157 text 47).length:Int) != 2) then ((⟨0,0⟩:Qb),false) else (bif (!(F160 ⟨(F158 ((F157 text 47).getD (Int.toNat 0) default)),(F159 ((F157 text 47).getD (Int.toNat 1) default))⟩)) then ((⟨0,0⟩:Qb),false) else ((⟨(F158 ((F157 text 47).getD (Int.toNat 0) default)),(F159 ((F157 text 47).getD (Int.toNat 1) default))⟩:Qb),true))
theorem Uex (text:ByteArray) (r:Qb×Bool) (hF:r=(F115 text)):((.int .i64 r.1.Addr:Value)=.int .i64 (F115 text).1.Addr)∧((.int .i64 r.1.Len:Value)=.int .i64 (F115 text).1.Len)∧((.bool r.2:Value)=.bool (F115 text).2)∧True:=by cases hF; exact ⟨rfl,rfl,rfl,trivial⟩
def S115 (text:ByteArray):Spec:=⟨[.r (.c (.v (.string text)))],.tu [.ag [.v (vI (F115 text).1.Addr),.v (vI (F115 text).1.Len)],.v (.bool (F115 text).2)],text.size≤1048576⟩
theorem ok115 (text:ByteArray):(S115 text).ok Tryz.prog 115 :=
 Qi mixed (fn:=Tryz.f115) (ct:=.seq .no (.seq (.reg [(1,kh157 text 47)]) (.seq (.seq .no (.cond (.seq .no .no) .no)) (.seq (.reg [(3,kh158 ((F157 text 47).getD (Int.toNat 0) default)),(7,Qxl ((F157 text 47).getD (Int.toNat 1) default))]) (.seq (.seq (.reg [(1,.call 160 (S160 (⟨(F158 ((F157 text 47).getD (Int.toNat 0) default)),(F159 ((F157 text 47).getD (Int.toNat 1) default))⟩:Qb)) (ok160 (⟨(F158 ((F157 text 47).getD (Int.toNat 0) default)),(F159 ((F157 text 47).getD (Int.toNat 1) default))⟩:Qb)) none)]) (.cond (.seq .no .no) .no)) (.seq .no .no)))))) Tryz.func115 (fun (hpre0:text.size≤1048576)=>kc157 text 47 (by omega) (by omega) (fun gv1=>ifn ((F157 text 47).length:Int) 2 (fun h2 _=>Uex text ((⟨0,0⟩:Qb),false) (condT h2 rfl)) (fun h2 _=>ai (by omega:ib 0 (F157 text 47)) (kc158 ((F157 text 47).getD (Int.toNat 0) default) (by exact Zb _ _ (by omega) _) (ai (by omega:ib 1 (F157 text 47)) (Uee ((F157 text 47).getD (Int.toNat 1) default) (by exact Zb _ _ (by omega) _) (ai trivial (ai (Imps.refl (Qk (⟨(F158 ((F157 text 47).getD (Int.toNat 0) default)),(F159 ((F157 text 47).getD (Int.toNat 1) default))⟩:Qb))) (ifb (!(F160 ⟨(F158 ((F157 text 47).getD (Int.toNat 0) default)),(F159 ((F157 text 47).getD (Int.toNat 1) default))⟩)) (fun h3=>Uex text ((⟨0,0⟩:Qb),false) (condF h2 (condT h3 rfl))) (fun h3=>Uex text ((⟨(F158 ((F157 text 47).getD (Int.toNat 0) default)),(F159 ((F157 text 47).getD (Int.toNat 1) default))⟩:Qb),true) (condF h2 (condF h3 rfl)))))))))))) (by kernel_rfl)
theorem kc119 (lines:List ByteArray) {K_:Prop} (p0_:lines.length≤1048576) (p1_:∀ k:Nat,(lines.getD k default).size≤1048576) (k_:K_):(lines.length≤1048576∧(∀ k:Nat,(lines.getD k default).size≤1048576))∧(Imp (.l 1 eStr lines) (.l 1 eStr lines))∧K_:=⟨⟨p0_,p1_⟩,Imp.refl _,k_⟩
abbrev kh119 (lines:List ByteArray):Hint false Tryz.prog:=.call 119 (S119 lines) (ok119 lines) none
def F81 (lines:List ByteArray):Bool :=
 ((F119 lines)==0)
def S81 (lines:List ByteArray):Spec:=⟨[.r (.c (.l 1 eStr lines))],.v (.bool (F81 lines)),lines.length≤1048576∧(∀ k:Nat,(lines.getD k default).size≤1048576)⟩
theorem ok81 (lines:List ByteArray):(S81 lines).ok Tryz.prog 81 false :=
 Qi mixed (fn:=Tryz.f81) (ct:=.seqk [(0,0)] .no (.seq (.reg [(1,kh119 lines)]) .no)) Tryz.func81 (fun (hp:lines.length≤1048576∧(∀ k:Nat,(lines.getD k default).size≤1048576))=>have hpre0:=hp.1; have hpre1:=hp.2; kn lines fun _=>kc119 lines (by omega) (by first | assumption | exact hpre1 _ | exact fun k _=>hpre1 k | (intros; exact trivial) | (intros; exact Nat.zero_le _)) (fiB ((F119 lines)==0) (F81 lines) rfl)) (by kernel_rfl)
theorem dig_or (b:Int):(bif decide (b<48) then true else decide (b>57))=!decide (48≤b∧b≤57):=by
 by_cases h1:b<48
 ·rw [decide_eq_true h1,decide_eq_false (show ¬ (48≤b∧b≤57) by omega)]; rfl
 ·rw [decide_eq_false h1,cond_false]
  by_cases h2:b>57
  ·rw [decide_eq_true h2,decide_eq_false (show ¬ (48≤b∧b≤57) by omega)]; rfl
  ·rw [decide_eq_false h2,decide_eq_true (show 48≤b∧b≤57 by omega)]; rfl
theorem l2step (s:ByteArray) (x:Int×Int):Jy s x=Kn s x:=by
 obtain ⟨n,i⟩:=x
 simp only [Jy,Kn,Ep,dig_or]
theorem Ugr {l:List UInt8} (h:l.length=6):num6 l=-1∨100000≤num6 l:=by
 unfold num6
 cases hn:Zf l with
 | false=>exact .inl rfl
 | true =>
  rw [decide_eq_true (show l.length≤6 by omega)]
  refine .inr ?_
  show (100000:Int)≤((valL 0 l:Nat):Int)
  have hd:=Qiz _ l rfl hn
  by_cases hv:valL 0 l<10 ^ (4+1)
  ·have:=Qhw 4 _ hv
   rw [hd] at this
   omega
  ·have:(10:Nat) ^ (4+1)=100000:=rfl
   omega
theorem Qzx (s:ByteArray):F159 s=bif decide (s.size≤5) then num6 s.data.toList else -1:=by
 by_cases h:s.size≤5
 ·rw [decide_eq_true h,cond_true,← Xe]
  unfold F159 F79
  rw [show Jy s=Kn s from funext (l2step s)]
  have e:decide (1≤(s.size:Int)∧(s.size:Int)≤5)=decide (1≤(s.size:Int)∧(s.size:Int)≤6):=by
   by_cases h0:1≤s.size
   ·rw [decide_eq_true (by omega),decide_eq_true (by omega)]
   ·rw [decide_eq_false (by omega),decide_eq_false (by omega)]
  rw [e]
 ·rw [decide_eq_false h,cond_false]
  unfold F159
  rw [decide_eq_false (show ¬ (1≤(s.size:Int)∧(s.size:Int)≤5) by omega)]; rfl
theorem Ru (s:ByteArray) (hi:Int) (hh:hi≤99999):decide (0≤F159 s∧F159 s≤hi)=decide (0≤num6 s.data.toList∧num6 s.data.toList≤hi)∧(decide (0≤num6 s.data.toList∧num6 s.data.toList≤hi)=true→F159 s=num6 s.data.toList):=by
 have hl:s.data.toList.length=s.size:=Array.length_toList
 rw [Qzx]
 by_cases h:s.size≤5
 ·rw [decide_eq_true h,cond_true]; exact ⟨rfl,fun _=>rfl⟩
 ·rw [decide_eq_false h,cond_false]
  have hb:num6 s.data.toList=-1∨100000≤num6 s.data.toList:=by
   by_cases h6:s.data.toList.length=6
   ·exact Ugr h6
   ·refine .inl ?_
    unfold num6
    rw [decide_eq_false (show ¬ s.data.toList.length≤6 by omega),Bool.and_false]; rfl
  have e:decide (0≤num6 s.data.toList∧num6 s.data.toList≤hi)=false:=decide_eq_false (by omega)
  rw [e]
  exact ⟨rfl,fun h=>by cases h⟩
theorem Qvw (s:ByteArray):F158 s=Yf s.data.toList:=by
 have hc:F157 s 46=(Qx 46 s.data.toList).map mkB:=Kp s 46
 unfold F158 Yf
 rw [hc]
 cases Qx 46 s.data.toList with
 | nil=>rfl
 | cons a t=>cases t with
  | nil=>rfl
  | cons b t=>cases t with
   | nil =>
    have ha:=Ru (mkB a) 255 (by omega)
    have hb:=Ru (mkB b) 255 (by omega)
    rw [Vy] at ha hb
    show (bif (bif (!decide (0≤F159 (mkB a)∧F159 (mkB a)≤255)) then true else (!decide (0≤F159 (mkB b)∧F159 (mkB b)≤255))) then (-1) else (IntKind.i64.wrap ((IntKind.i64.wrap (256*F159 (mkB a)))+F159 (mkB b))))=bif Us (num6 a)&&Us (num6 b) then 256*num6 a+num6 b else -1
    rw [ha.1,hb.1]
    cases h1:decide (0≤num6 a∧num6 a≤255) with
    | false=>rw [show Us (num6 a)=false from h1]; rfl
    | true=>cases h2:decide (0≤num6 b∧num6 b≤255) with
     | false=>rw [show Us (num6 b)=false from h2,Bool.and_false]; rfl
     | true =>
      rw [show Us (num6 a)=true from h1,show Us (num6 b)=true from h2,ha.2 h1,hb.2 h2]
      exact Rw _ _ h1 h2
   | cons c t =>
    have:(((List.map mkB (a :: b :: c :: t)).length:Int) != 2)=true:=by
     rw [bne_iff_ne]
     simp only [List.map_cons,List.length_cons,List.length_map]
     omega
    rw [this]; rfl
theorem Qxa (a n:Int) (ha:-1≤a∧a≤65535):F160 (⟨a,n⟩:Qb)=(decide (0≤a)&&(in16 n&&(a.tmod (F151 n)==0))):=by
 unfold F160
 show (bif (bif (decide (0≤n∧n≤16)) then (decide (0≤a∧a≤65535)) else false) then ((a.tmod (F151 n))==0) else false)=_
 have e16:decide (0≤n∧n≤16)=in16 n:=rfl
 have e0:decide (0≤a∧a≤65535)=decide (0≤a):=by
  by_cases h0:0≤a
  ·rw [decide_eq_true h0,decide_eq_true (by omega)]
  ·rw [decide_eq_false h0,decide_eq_false (by omega)]
 rw [e16,e0]
 cases decide (0≤a) <;> cases in16 n <;> rfl
theorem Qjr (s:ByteArray):F115 s=match pfxL s.data.toList with | some (a,n)=>(⟨a,n⟩,true) | none=>(⟨0,0⟩,false):=by
 have hc:F157 s 47=(Qx 47 s.data.toList).map mkB:=Kp s 47
 unfold F115 pfxL
 rw [hc]
 simp only [Qvw]
 cases Qx 47 s.data.toList with
 | nil=>rfl
 | cons a t=>cases t with
  | nil=>rfl
  | cons b t=>cases t with
   | nil =>
    have hb:=Ru (mkB b) 16 (by omega)
    rw [Vy] at hb
    show (bif (!(F160 (⟨Yf (mkB a).data.toList,F159 (mkB b)⟩:Qb))) then ((⟨0,0⟩:Qb),false) else ((⟨Yf (mkB a).data.toList,F159 (mkB b)⟩:Qb),true))=match pfx2 [a,b] with | some (a,n)=>(⟨a,n⟩,true) | none=>(⟨0,0⟩,false)
    rw [Vy,Qxa _ _ (Mx a),pfx2]
    have e1:in16 (F159 (mkB b))=in16 (num6 b):=hb.1
    cases h16:in16 (num6 b) with
    | false =>
     rw [e1,h16,Bool.false_and,Bool.false_and,Bool.and_false]; rfl
    | true =>
     rw [e1,h16,hb.2 h16,Bool.true_and]
     cases decide (0≤Yf a)&&((Yf a).tmod (F151 (num6 b))==0) <;> rfl
   | cons c t =>
    have:(((List.map mkB (a :: b :: c :: t)).length:Int) != 2)=true:=by
     rw [bne_iff_ne]
     simp only [List.map_cons,List.length_cons,List.length_map]
     omega
    rw [this]; rfl
theorem Qmx (s:ByteArray):F115 s=F83 s:=(Qjr s).trans (Xd s).symm
theorem Lf (lines:List ByteArray) (h:(!(F81 lines))=false):lines.length≤16:=Qpg lines (by unfold F81 at h; simpa using h)
theorem kc81 (lines:List ByteArray) {K_:Prop} (p0_:lines.length≤1048576) (p1_:∀ k:Nat,(lines.getD k default).size≤1048576) (k_:K_):(lines.length≤1048576∧(∀ k:Nat,(lines.getD k default).size≤1048576))∧(Imp (.l 1 eStr lines) (.l 1 eStr lines))∧K_:=⟨⟨p0_,p1_⟩,Imp.refl _,k_⟩
abbrev kh81 (lines:List ByteArray):Hint false Tryz.prog:=.call 81 (S81 lines) (ok81 lines) none
def F41 (lines:List ByteArray) (word:ByteArray):List (List ByteArray) :=
 bif (!(F81 lines)) then ([]:List (List ByteArray)) else (Qa lines word)
theorem fi41 (lines:List ByteArray) (word:ByteArray) (r:List (List ByteArray)) (hF:r=(F41 lines word)):(Imp (.l 1 (eL 1 eStr) r) (.l 1 (eL 1 eStr) (F41 lines word)))∧True:=by cases hF; exact ⟨Imp.refl _,trivial⟩
def S41 (R:List (List ByteArray)) (lines:List ByteArray) (word:ByteArray):Spec:=⟨[.r (.c (.l 1 eStr lines)),.r (.c (.v (.string word)))],.ow (.l 1 (eL 1 eStr) R),lines.length≤1048576∧(∀ k:Nat,(lines.getD k default).size≤1048576)⟩
theorem ok41 (lines:List ByteArray) (word:ByteArray):(S41 (F41 lines word) lines word).ok Tryz.prog 41 false :=
 Qi mixed (fn:=Tryz.f41) (ct:=.seqk [(0,0)] .no (.seq (.seq (.reg [(1,kh81 lines)]) (.cond (.seq .no .no) .no)) (.seq (.reg [(2,Xb lines word)]) .no))) Tryz.func41 (fun (hp:lines.length≤1048576∧(∀ k:Nat,(lines.getD k default).size≤1048576))=>have hpre0:=hp.1; have hpre1:=hp.2; kn lines fun _=>kc81 lines (by omega) (by first | assumption | exact hpre1 _ | exact fun k _=>hpre1 k | (intros; exact trivial) | (intros; exact Nat.zero_le _)) (ifb (!(F81 lines)) (fun h1=>(fun hF:(([]:List (List ByteArray)):List (List ByteArray))=(F41 lines word)=>ai ((Imp.nil 1 (eL 1 eStr)).trans (Imp.of_eq (congrArg (fun r:List (List ByteArray)=>Dat.l 1 (eL 1 eStr) r) hF))) trivial) (condT h1 rfl)) (fun h1=>Hj lines word (by first | omega | assumption | exact Lf lines (by assumption)) (by first | omega | assumption | exact Lf lines (by assumption)) (by first | omega | assumption | exact Lf lines (by assumption)) (fun gv2=>fi41 lines word (Qa lines word) (condF h1 rfl))))) (by kernel_rfl)
def Xr (lines:List ByteArray) (head:ByteArray):(List l52Cut×Int×List (l52Cut×Bool))→Lp (List l52Cut×Int×List (l52Cut×Bool)) (List l52Cut):=fun (out,i40,xs) =>
 bif (decide (i40<(xs.length:Int))) then (bif ((F77 (xs.getD i40.toNat default).1 0).toList==head.toList) then (.next ((out++[(xs.getD i40.toNat default).1]),(i40+1),(xs.set (i40).toNat ((xs.getD i40.toNat default).1,true)))) else (.next (out,(i40+1),xs))) else (.done (out,i40,xs))
def F75 (lines:List ByteArray) (head:ByteArray):List l52Cut :=
 (runL (Xr lines head) (((((lines.map (fun l=>(⟨(F97 l).1⟩:l52Cut))).map hz).length:Int)-0).toNat+1) (([]:List l52Cut),0,((lines.map (fun l=>(⟨(F97 l).1⟩:l52Cut))).map hz))).fin (fun r=>r) (fun (out,i40,xs)=>out)
abbrev Qda (lines:List ByteArray):Nat×(List l52Cut×Int×List (l52Cut×Bool)):=((((((lines.map (fun l=>(⟨(F97 l).1⟩:l52Cut))).map hz).length:Int)-0).toNat+1),(([]:List l52Cut),0,((lines.map (fun l=>(⟨(F97 l).1⟩:l52Cut))).map hz)))
abbrev Qnn (lines:List ByteArray) (m39:Nat) (out:List l52Cut) (i40:Int) (xs:List (l52Cut×Bool)):Prop:=Int.toNat ((xs.length:Int)-i40)<m39∧(∀ k:Nat,i40≤(k:Int)→(xs.getD k default).2=false)∧(out.length:Int)≤i40∧(0:Int)≤i40∧xs.length=((lines.map (fun l=>(⟨(F97 l).1⟩:l52Cut))).map hz).length
abbrev Qzm (lines:List ByteArray) (head:ByteArray):Lp (List l52Cut×Int×List (l52Cut×Bool)) (List l52Cut):=LpX (Xr lines head) (Qda lines)
abbrev Qba (lines:List ByteArray) (head:ByteArray) (i:Nat×(List l52Cut×Int×List (l52Cut×Bool))):Prop:=LpJ (Xr lines head) (Qda lines) i (Qnn lines i.1 i.2.1 i.2.2.1 i.2.2.2)
abbrev Qzy (lines:List ByteArray) (head:ByteArray) (i:Nat×(List l52Cut×Int×List (l52Cut×Bool))) (m39:Nat) (out:List l52Cut) (i40:Int) (xs:List (l52Cut×Bool)):Prop:=LpH (Xr lines head) (Qda lines) i m39 (out,i40,xs) (Qnn lines (m39+1) out i40 xs)
abbrev lE75_0 (head:ByteArray) (out:List l52Cut) (i40:Int) (xs:List (l52Cut×Bool)) (out_:List l52Cut) (i40_:Int) (xs_:List (l52Cut×Bool)) (K39:Prop):Prop:=(Rf (.string head))∧((.int .i64 i40:Value)=.int .i64 i40_)∧(Imp (.l 1 (encH 0 Qh) xs) (.l 1 (encH 0 Qh) xs_))∧(Imp (.l 1 Qh out) (.l 1 Qh out_))∧K39
theorem un75_0 (lines:List ByteArray) (head:ByteArray) (i:Nat×(List l52Cut×Int×List (l52Cut×Bool))) (h:Qba lines head i):Qzy lines head i (i.1-1) i.2.1 i.2.2.1 i.2.2.2:=⟨hd1 h.1 h.2.1,hd3 h.2.1,hd2 h.2.1,h.2.2⟩
theorem Udn (lines:List ByteArray) (head:ByteArray) (i:Nat×(List l52Cut×Int×List (l52Cut×Bool))) (m39:Nat) (out:List l52Cut) (i40:Int) (xs:List (l52Cut×Bool)) (hl:m39<i.1) (e:runL (Xr lines head) m39 (out,i40,xs)=Qzm lines head) (h:Qnn lines m39 out i40 xs):∃ j:Nat×(List l52Cut×Int×List (l52Cut×Bool)),lE75_0 head out i40 xs j.2.1 j.2.2.1 j.2.2.2 (Qba lines head j∧j.1<i.1):=⟨(m39,(out,i40,xs)),rfl,rfl,Imp.refl _,Imp.refl _,⟨e,h⟩,hl⟩
theorem fi75 (lines:List ByteArray) (head:ByteArray) (r:List l52Cut) (hF:r=(F75 lines head)):(Imp (.l 1 Qh r) (.l 1 Qh (F75 lines head)))∧True:=by cases hF; exact ⟨Imp.refl _,trivial⟩
def S75 (R:List l52Cut) (lines:List ByteArray) (head:ByteArray):Spec:=⟨[.r (.c (.l 1 eStr lines)),.r (.c (.v (.string head)))],.ow (.l 1 Qh R),lines.length≤16∧(∀ k:Nat,(lines.getD k default).size≤1048576)⟩
theorem ok75 (lines:List ByteArray) (head:ByteArray):(S75 (F75 lines head) lines head).ok Tryz.prog 75 :=
 Qi mixed (fn:=Tryz.f75) (ct:=.seqk [(0,0)] .no (.seq (.reg [(1,kh65a lines)]) (.seq (.reg [(0,.dat (.l 1 Qh ([]:List l52Cut)))]) (.seq (.seqk [(5,0),(6,0)] .no (.blk (.loop (ι:=Nat×(List l52Cut×Int×List (l52Cut×Bool))) (fun i=>(fun (out:List l52Cut) (i40:Int) (xs:List (l52Cut×Bool))=>(⟨[(1,some (.v (.string head))),(5,some (.h 0 0)),(6,some (.h 1 0)),(7,some (.v (vI i40)))],[(0,some (.own 0 (.l 1 (encH 0 Qh) xs))),(1,some (.own 1 (.l 1 Qh out)))],2⟩:St)) i.2.1 i.2.2.1 i.2.2.2) (Qba lines head) (fun i=>i.1) (Qda lines) (fun i=>(fun (out:List l52Cut) (i40:Int) (xs:List (l52Cut×Bool))=>(.seq (.seq .no (.cond .no .no)) (.seq (.blk (.seq (.reg [(2,.ix [.l 1 eStr (xs.getD i40.toNat default).1.w]),(4,kh77 (xs.getD i40.toNat default).1 0)]) (.cond (.reg [(3,.ix [.l 1 eStr (xs.getD i40.toNat default).1.w]),(4,.take (.l 1 (encH 0 Qh) (xs.set (i40).toNat ((xs.getD i40.toNat default).1,true)))),(6,.dat (.l 1 Qh (out++[(xs.getD i40.toNat default).1])))]) .no))) (.reg [(1,.bnd)])))) i.2.1 i.2.2.1 i.2.2.2)))) (.seq .no .no))))) Tryz.func75 (fun (hp:lines.length≤16∧(∀ k:Nat,(lines.getD k default).size≤1048576))=>have hpre0:=hp.1; have hpre1:=hp.2; kn lines fun _=>kc65a lines (by first | omega | (simp only [lens,ib] at*<;> omega)) (by first | assumption | exact hpre1 _ | exact fun k _=>hpre1 k | (intros; exact trivial) | (intros; exact Nat.zero_le _)) (ai (bokr 1 Qh ([]:List l52Cut) fun _=>rfl) (kn (lines.map (fun l=>(⟨(F97 l).1⟩:l52Cut))) fun _=>kn ([]:List l52Cut) fun _=>ai (ai (rfl:(.string head:Value)=.string head) (ai (rfl:(.int .i64 0:Value)=.int .i64 0) (ai ((Imp.toH _ _ _ _):Imp (.l 1 Qh (lines.map (fun l=>(⟨(F97 l).1⟩:l52Cut)))) (.l 1 (encH 0 Qh) ((lines.map (fun l=>(⟨(F97 l).1⟩:l52Cut))).map hz))) (ai (ir:Imp (.l 1 Qh ([]:List l52Cut)) (.l 1 Qh ([]:List l52Cut))) (And.intro rfl (ai (Nat.lt_succ_self _) (by refine ⟨?_,?_,?_,?_⟩ <;> first | omega | (simp only [lens,ib] at*<;> omega) | (intro k hk; first | exact hz_f _ _ | exact (by assumption:∀ k:Nat,i40≤(k:Int)→(xs.getD k default).2=false) _ (by first | omega | (simp only [lens,ib] at*<;> omega)) | (rw [Un _ _ _ _ (by first | omega | (simp only [lens,ib] at*<;> omega))]; exact (by assumption:∀ k:Nat,i40≤(k:Int)→(xs.getD k default).2=false) _ (by first | omega | (simp only [lens,ib] at*<;> omega)))))):Qba lines head (Qda lines)))))) (fun (i0:Nat×(List l52Cut×Int×List (l52Cut×Bool))) (hi0:Qba lines head i0)=>(fun (m0:Nat) (out:List l52Cut) (i40:Int) (xs:List (l52Cut×Bool)) (hh0:Qzy lines head i0 m0 out i40 xs)=>have hI0:=hh0.1; have hl0:=hh0.2.1; have _:=hh0.2.2.1; have _:=hh0.2.2.2.1; have _:=hh0.2.2.2.2.1; have _:=hh0.2.2.2.2.2.1; have _:=hh0.2.2.2.2.2.2; ifd (i40<(xs.length:Int)) (fun h2 _=>ai (by first | omega | (simp only [lens,ib] at*<;> omega):ib i40 xs) (ai (Imps.of_eq (Qnj 0 Qh (xs.getD i40.toNat default) (by exact (by assumption:∀ k:Nat,i40≤(k:Int)→(xs.getD k default).2=false) _ (by first | omega | (simp only [lens,ib] at*<;> omega))))) (kc77 (xs.getD i40.toNat default).1 0 (by first | omega | (simp only [lens,ib] at*<;> omega)) (ifb ((F77 (xs.getD i40.toNat default).1 0).toList==head.toList) (fun h3=>ai (by first | omega | (simp only [lens,ib] at*<;> omega):ib i40 xs) (ai (Imps.of_eq (Qnj 0 Qh (xs.getD i40.toNat default) (by exact (by assumption:∀ k:Nat,i40≤(k:Int)→(xs.getD k default).2=false) _ (by first | omega | (simp only [lens,ib] at*<;> omega))))) (ai (SetOK.take2 Qh xs 0 (by exact (by assumption:∀ k:Nat,i40≤(k:Int)→(xs.getD k default).2=false) _ (by first | omega | (simp only [lens,ib] at*<;> omega))) rfl rfl:SetOK (.l 1 (encH 0 Qh) xs) (i40).toNat (Qh (xs.getD i40.toNat default).1) [.any] (.l 1 (encH 0 Qh) (xs.set (i40).toNat ((xs.getD i40.toNat default).1,true)))) (ai (appr 1 Qh out [(xs.getD i40.toNat default).1] fun _=>rfl) (ai (by (simp only [lens] at *); omega:(out++[(xs.getD i40.toNat default).1]).length*24≤140737488355328) (ai (iok (i40+1) (by first | omega | (simp only [lens,ib] at*<;> omega))) (Udn lines head i0 m0 (out++[(xs.getD i40.toNat default).1]) (i40+1) (xs.set (i40).toNat ((xs.getD i40.toNat default).1,true)) hl0 (Qe hI0 (condT h2 (condT h3 rfl))) (by refine ⟨?_,?_,?_,?_,?_⟩ <;> first | omega | (simp only [lens,ib] at*<;> omega) | (intro k hk; first | exact hz_f _ _ | exact (by assumption:∀ k:Nat,i40≤(k:Int)→(xs.getD k default).2=false) _ (by first | omega | (simp only [lens,ib] at*<;> omega)) | (rw [Un _ _ _ _ (by first | omega | (simp only [lens,ib] at*<;> omega))]; exact (by assumption:∀ k:Nat,i40≤(k:Int)→(xs.getD k default).2=false) _ (by first | omega | (simp only [lens,ib] at*<;> omega)))))))))))) (fun h3=>ai (iok (i40+1) (by first | omega | (simp only [lens,ib] at*<;> omega))) (Udn lines head i0 m0 out (i40+1) xs hl0 (Qe hI0 (condT h2 (condF h3 rfl))) (by refine ⟨?_,?_,?_,?_,?_⟩ <;> first | omega | (simp only [lens,ib] at*<;> omega) | (intro k hk; first | exact hz_f _ _ | exact (by assumption:∀ k:Nat,i40≤(k:Int)→(xs.getD k default).2=false) _ (by first | omega | (simp only [lens,ib] at*<;> omega)) | (rw [Un _ _ _ _ (by first | omega | (simp only [lens,ib] at*<;> omega))]; exact (by assumption:∀ k:Nat,i40≤(k:Int)→(xs.getD k default).2=false) _ (by first | omega | (simp only [lens,ib] at*<;> omega))))))))))) (fun h2 _=>have hD0_4:Qzm lines head=Lp.done (out,i40,xs):=Qj hI0 (condF h2 rfl); fi75 lines head out (finD hD0_4 rfl))) (i0.1-1) i0.2.1 i0.2.2.1 i0.2.2.2 (un75_0 lines head i0 hi0))))) (by kernel_rfl)
theorem Qmh (lines:List ByteArray) (h:F31 lines=0):F64 lines=0:=by
 unfold F31 at h
 cases hn:(F64 lines != 0) with
 | true=>rw [hn,cond_true] at h; rw [h] at hn; exact absurd hn (by decide)
 | false=>simpa using hn
theorem Tv (lines:List ByteArray) (h:F119 lines=0):F64 lines=0:=Qmh lines (by rw [← Lb]; exact h)
def Uc (lines:List ByteArray) (word:ByteArray):List (List ByteArray):=bif (F119 lines==0) then Qa lines word else []
theorem as41 (lines:List ByteArray) (word:ByteArray):F41 lines word=(Uc lines word):=by
 unfold F41 F81 Uc
 cases (F119 lines==0) <;> rfl
theorem Bi (lines:List ByteArray) (word:ByteArray):(F119 lines=0∧F64 lines=0∧Uc lines word=Qa lines word)∨Uc lines word=[]:=by
 unfold Uc
 cases h:(F119 lines==0) with
 | true=>have h0:=eq_of_beq h; exact .inl ⟨h0,Tv lines h0,rfl⟩
 | false=>exact .inr rfl
theorem Qfi (lines:List ByteArray) (word:ByteArray):(Uc lines word).length≤16:=by
 rcases Bi lines word with ⟨_,h,e⟩ | e
 ·rw [e]; exact Qbo lines word (Bb lines h)
 ·rw [e]; exact Nat.zero_le _
theorem Qjy (lines:List ByteArray) (word:ByteArray) (k j:Nat):(((Uc lines word).getD k default).getD j default).size≤1048576:=by
 rcases Bi lines word with ⟨_,h,e⟩ | e
 ·rw [e]; exact Yq lines word h k j
 ·rw [e]; exact Nat.zero_le _
def ofL (lines:List ByteArray) (head:ByteArray):List l52Cut:=(lines.map (fun l=>(⟨(F97 l).1⟩:l52Cut))).filter fun c=>((F77 c 0).toList==head.toList)
theorem Qzs {α:Type} [Inhabited α] (xs:List α) (k:Nat):xs.set k (xs.getD k default)=xs:=by
 apply List.ext_getElem?
 intro i
 rw [List.getElem?_set]
 by_cases h:k=i
 ·subst h
  rw [if_pos rfl]
  by_cases hk:k<xs.length
  ·rw [if_pos hk,List.getD_eq_getElem?_getD,List.getElem?_eq_getElem hk]; rfl
  ·rw [if_neg hk,List.getElem?_eq_none (by omega)]
 ·rw [if_neg h]
theorem Tf {α:Type} [Inhabited α] (p:α→Bool) (xs:List α) (k:Nat) (hk:k<xs.length):(xs.take (k+1)).filter p=bif p (xs.getD k default) then (xs.take k).filter p++[xs.getD k default] else (xs.take k).filter p:=by
 rw [List.take_add_one,List.filter_append,List.getElem?_eq_getElem hk,Option.toList_some]
 have e:xs.getD k default=xs[k]:=by rw [List.getD_eq_getElem?_getD,List.getElem?_eq_getElem hk]; rfl
 rw [e]
 cases h:p xs[k] with
 | true=>rw [List.filter_cons_of_pos h]; rfl
 | false=>rw [List.filter_cons_of_neg (by simp [h])]; simp
theorem as75 (lines:List ByteArray) (head:ByteArray):F75 lines head=(ofL lines head):=by
 unfold F75 ofL
 generalize (lines.map (fun l=>(⟨(F97 l).1⟩:l52Cut)))=cuts
 have e:Int.toNat (((cuts.map hz).length:Int)-0)+1=cuts.length+1:=by rw [List.length_map]; omega
 rw [e]
 have h:=Yi (step:=Xr lines head) (fun (k:Nat) (s:List l52Cut×List (l52Cut×Bool))=>(s.1,(k:Int),s.2)) cuts.length
  (fun k s=>s.2.map Prod.fst=cuts∧s.1=(cuts.take k).filter fun c=>((F77 c 0).toList==head.toList)) (fun _=>False)
  (fun k s hk hs=>.inl ⟨(bif ((F77 (cuts.getD k default) 0).toList==head.toList) then (s.1++[cuts.getD k default],s.2.set k (cuts.getD k default,true)) else s),by
   have hl:s.2.length=cuts.length:=by rw [← hs.1,List.length_map]
   have hcx:(s.2.getD k default).1=cuts.getD k default:=by rw [← hs.1]; exact (Rt Prod.fst s.2 k (by omega)).symm
   simp only [Xr,ltD (show k<s.2.length by omega),cond_true,nn,hcx]
   cases ((F77 (cuts.getD k default) 0).toList==head.toList) <;> rfl,by
   have hl:s.2.length=cuts.length:=by rw [← hs.1,List.length_map]
   refine ⟨?_,?_⟩
   ·cases ((F77 (cuts.getD k default) 0).toList==head.toList) with
    | false=>exact hs.1
    | true =>
     show (s.2.set k (cuts.getD k default,true)).map Prod.fst=cuts
     rw [List.map_set,hs.1]
     exact Qzs cuts k
   ·rw [Tf _ cuts k hk,← hs.2]
    cases ((F77 (cuts.getD k default) 0).toList==head.toList) <;> rfl⟩)
  (fun s hs=>by
   have hl:s.2.length=cuts.length:=by rw [← hs.1,List.length_map]
   simp only [Xr,hl,geD,cond_false]) cuts.length 0 ([],cuts.map hz) (by omega) ⟨by rw [List.map_map]; exact List.map_id _,rfl⟩ (cuts.length+1) (by omega)
 rcases h with ⟨s',e1,h1,h2⟩ | ⟨r,_,hr⟩
 ·rw [show (([]:List l52Cut),(0:Int),cuts.map hz)=(([]:List l52Cut),((0:Nat):Int),cuts.map hz) from rfl,e1]
  show s'.1=_
  rw [h2,List.take_length]
 ·exact hr.elim
theorem Ugp (lines:List ByteArray) (head:ByteArray) (h:lines.length≤16):(ofL lines head).length≤16:=by
 have:=List.length_filter_le (fun c:l52Cut=>((F77 c 0).toList==head.toList)) (lines.map (fun l=>(⟨(F97 l).1⟩:l52Cut)))
 rw [List.length_map] at this
 unfold ofL
 omega
theorem Qzt (lines:List ByteArray) (head:ByteArray) (hz:∀ k:Nat,(lines.getD k default).size≤1048576):∀ k j:Nat,(((ofL lines head).getD k default).w.getD j default).size≤1048576:=fun k j=>by
 by_cases hk:k<(ofL lines head).length
 ·have hm:=(List.mem_filter.1 (Wg _ hk)).1
  obtain ⟨i,hi,e⟩:=Bo hm
  have:=Eo lines hz i j
  rw [e] at this
  exact this
 ·rw [Ws (ofL lines head) (by omega)]; exact Nat.zero_le _
theorem Ukz (lines:List ByteArray) (h:F64 lines=0) (head:ByteArray):ofL lines head=(Qa lines head).map l52Cut.mk:=by
 unfold ofL
 rw [Uky,Yo lines h,List.filter_map]
 congr 1
 refine List.filter_congr fun w _=>?_
 show ((F77 ⟨w⟩ 0).toList==head.toList)=hdB w head.data.toList
 rw [at0,Qz,Qz]; rfl
def insL {α:Type} (less:α→α→Bool) (v:α):List α→List α
 | []=>[v]
 | x :: xs=>bif less x v then x :: insL less v xs else v :: x :: xs
def posL {α:Type} (less:α→α→Bool) (v:α):List α→Nat
 | []=>0
 | x :: xs=>bif less x v then posL less v xs+1 else 0
theorem Qru {α:Type} (less:α→α→Bool) (v:α):∀ xs:List α,posL less v xs≤xs.length
 | []=>Nat.le_refl _
 | x :: xs=>by
  simp only [posL,List.length_cons]
  have:=Qru less v xs
  cases less x v <;> simp only [cond_true,cond_false] <;> omega
theorem Qsb {α:Type} (less:α→α→Bool) (v:α):∀ xs:List α,xs.take (posL less v xs)++[v]++xs.drop (posL less v xs)=insL less v xs
 | []=>rfl
 | x :: xs=>by
  simp only [posL,insL]
  cases less x v with
  | false=>rfl
  | true =>
   simp only [cond_true,List.take_succ_cons,List.drop_succ_cons,List.cons_append]
   rw [Qsb less v xs]
theorem Qcb {α:Type} [Inhabited α] (less:α→α→Bool) (v:α):∀ (xs:List α) (k:Nat),k<posL less v xs→less (xs.getD k default) v=true
 | [],k,h=>absurd h (Nat.not_lt_zero _)
 | x :: xs,k,h=>by
  simp only [posL] at h
  cases hl:less x v with
  | false=>rw [hl,cond_false] at h; exact absurd h (Nat.not_lt_zero _)
  | true =>
   rw [hl,cond_true] at h
   cases k with
   | zero=>exact hl
   | succ k=>exact Qcb less v xs k (by omega)
theorem Qsa {α:Type} [Inhabited α] (less:α→α→Bool) (v:α):∀ (xs:List α),posL less v xs<xs.length→less (xs.getD (posL less v xs) default) v=false
 | [],h=>absurd h (Nat.not_lt_zero _)
 | x :: xs,h=>by
  simp only [posL] at h ⊢
  cases hl:less x v with
  | false=>exact hl
  | true =>
   rw [hl] at h
   exact Qsa less v xs (by simp only [cond_true,List.length_cons] at h; omega)
theorem Udc {α ρ:Type} [Inhabited α] (less:α→α→Bool) (v:α) (xs:List α) (step:Int→Lp Int ρ)
  (hs:∀ k,step k=bif (bif decide (k<(xs.length:Int)) then less (xs.getD k.toNat default) v else false) then .next (k+1) else .done k) :
  runL step (Int.toNat ((xs.length:Int)-0)+1) 0=.done ((posL less v xs:Nat):Int):=by
 have hle:=Qru less v xs
 have hr:=Yi (step:=step) (fun (k:Nat) (_:Unit)=>((k:Nat):Int)) (posL less v xs) (fun _ _=>True) (fun _=>False)
  (fun k _ hk _=>.inl ⟨(),by
   rw [hs,ltD (show k<xs.length by omega),cond_true,nn,Qcb less v xs k hk]; rfl,trivial⟩)
  (fun _ _=>by
   rw [hs]
   rcases Nat.lt_or_ge (posL less v xs) xs.length with h | h
   ·rw [ltD h,cond_true,nn,Qsa less v xs h]; rfl
   ·rw [decide_eq_false (by omega)]; rfl)
  (posL less v xs) 0 () (by omega) trivial (Int.toNat ((xs.length:Int)-0)+1) (by omega)
 rcases hr with ⟨_,hr,_⟩ | ⟨_,_,hr⟩
 ·exact hr
 ·exact hr.elim
theorem Gu {α:Type} (less:α→α→Bool) (v:α):∀ xs:List α,(insL less v xs).Perm (v :: xs)
 | []=>List.Perm.refl _
 | x :: xs=>by
  simp only [insL]
  cases less x v with
  | false=>exact List.Perm.refl _
  | true=>exact (List.Perm.cons x (Gu less v xs)).trans (List.Perm.swap v x xs)
theorem Qtk {α:Type} {cf:α→α→Int} {less:α→α→Bool} {vs:List α} (h:Vi cf vs) (hl:∀ a∈vs,∀ b∈vs,less a b=decide (cf a b<0)) {v:α} (hv:v∈vs):∀ xs:List α,(∀ x∈xs,x∈vs)→(xs.Pairwise fun x y=>¬ cf y x<0)→(insL less v xs).Pairwise fun x y=>¬ cf y x<0
 | [],_,_=>List.pairwise_singleton _ _
 | x :: xs,hx,hp=>by
  obtain ⟨h1,h2⟩:=List.pairwise_cons.1 hp
  have hxv:=hx x List.mem_cons_self
  simp only [insL]
  cases e:less x v with
  | true =>
   have e':cf x v<0:=by have:=hl x hxv v hv; rw [e] at this; exact of_decide_eq_true this.symm
   refine List.pairwise_cons.2 ⟨fun y hy=>?_,Qtk h hl hv xs (fun z hz=>hx z (List.mem_cons_of_mem _ hz)) h2⟩
   rcases List.mem_cons.1 ((Gu less v xs).subset hy) with rfl | hy
   ·exact fun hc=>h.irr _ hxv (h.tr _ hxv _ hv _ hxv e' hc)
   ·exact h1 y hy
  | false =>
   have e':¬ cf x v<0:=by have:=hl x hxv v hv; rw [e] at this; exact of_decide_eq_false this.symm
   refine List.pairwise_cons.2 ⟨fun y hy=>?_,hp⟩
   rcases List.mem_cons.1 hy with rfl | hy
   ·exact e'
   ·exact h.ntr _ (hx y (List.mem_cons_of_mem _ hy)) _ hxv _ hv (h1 y hy) e'
theorem Uce {α:Type} [Inhabited α] {cf:α→α→Int} {less:α→α→Bool} {vs:List α} (h:Vi cf vs) (hl:∀ a∈vs,∀ b∈vs,less a b=decide (cf a b<0)):vs.foldl (fun out v=>insL less v out) []=Zv cf vs:=by
 have key:∀ (ws out:List α),(∀ x∈ws,x∈vs)→(∀ x∈out,x∈vs)→(out.Pairwise fun x y=>¬ cf y x<0)→(ws.foldl (fun out v=>insL less v out) out).Perm (ws++out)∧(ws.foldl (fun out v=>insL less v out) out).Pairwise fun x y=>¬ cf y x<0:=by
  intro ws
  induction ws with
  | nil=>exact fun out _ _ hp=>⟨List.Perm.refl _,hp⟩
  | cons w ws ih =>
   intro out hw ho hp
   have hwv:=hw w List.mem_cons_self
   obtain ⟨k1,k2⟩:=ih (insL less w out) (fun x hx=>hw x (List.mem_cons_of_mem _ hx)) (fun x hx=>by
    rcases List.mem_cons.1 ((Gu less w out).subset hx) with rfl | hx
    ·exact hwv
    ·exact ho x hx) (Qtk h hl hwv out ho hp)
   refine ⟨k1.trans ?_,k2⟩
   refine ((Gu less w out).append_left ws).trans ?_
   exact List.perm_middle
 obtain ⟨k1,k2⟩:=key vs [] (fun x hx=>hx) (fun x hx=>by cases hx) List.Pairwise.nil
 rw [List.append_nil] at k1
 exact Mw h k1 k2
def T41 (R:List (List ByteArray)) (lines:List ByteArray) (word:ByteArray):Spec:=⟨(S41 R lines word).args,(S41 R lines word).res,lines.length≤1048576∧(∀ k:Nat,(lines.getD k default).size≤1048576)⟩
theorem oa41 (lines:List ByteArray) (word:ByteArray):(T41 (Uc lines word) lines word).ok Tryz.prog 41 false:=by
 intro hp; have h:=ok41 lines word hp; rw [as41 lines word] at h; exact h
def T75 (R:List l52Cut) (lines:List ByteArray) (head:ByteArray):Spec:=⟨(S75 R lines head).args,(S75 R lines head).res,lines.length≤16∧(∀ k:Nat,(lines.getD k default).size≤1048576)⟩
theorem oa75 (lines:List ByteArray) (head:ByteArray):(T75 (ofL lines head) lines head).ok Tryz.prog 75:=by
 intro hp; have h:=ok75 lines head hp; rw [as75 lines head] at h; exact h
def Xx (vals:List Int):Int→Lp Int Int:=fun v8 =>
 bif (decide (v8<(vals.length:Int))) then (bif ((vals.getD v8.toNat default) != 0) then (.ret (vals.getD v8.toNat default)) else (.next (v8+1))) else (.done v8)
def F47 (vals:List Int):Int :=
 (runL (Xx vals) (((vals.length:Int)-0).toNat+1) 0).fin (fun r=>r) (fun v8=>0)
abbrev Qdy (vals:List Int):Nat×Int:=((((vals.length:Int)-0).toNat+1),0)
abbrev Qnv (vals:List Int) (m39:Nat) (v8:Int):Prop:=Int.toNat ((vals.length:Int)-v8)<m39∧(0:Int)≤v8
abbrev Udo (vals:List Int):Lp Int Int:=LpX (Xx vals) (Qdy vals)
abbrev Qai (vals:List Int) (i:Nat×Int):Prop:=LpJ (Xx vals) (Qdy vals) i (Qnv vals i.1 i.2)
abbrev Uep (vals:List Int) (i:Nat×Int) (m39:Nat) (v8:Int):Prop:=LpH (Xx vals) (Qdy vals) i m39 v8 (Qnv vals (m39+1) v8)
abbrev Qyj (vals:List Int) (v8:Int) (v8_:Int) (K39:Prop):Prop:=(Rf (.int .i64 0))∧(Rf (.int .i64 (vals.length:Int)))∧((.int .i64 v8:Value)=.int .i64 v8_)∧(Im (.l 1 eInt vals))∧K39
theorem un47_0 (vals:List Int) (i:Nat×Int) (h:Qai vals i):Uep vals i (i.1-1) i.2:=⟨hd1 h.1 h.2.1,hd3 h.2.1,hd2 h.2.1,h.2.2⟩
theorem bk47_0 (vals:List Int) (i:Nat×Int) (m39:Nat) (v8:Int) (hl:m39<i.1) (e:runL (Xx vals) m39 v8=Udo vals) (h:Qnv vals m39 v8):∃ j:Nat×Int,Qyj vals v8 j.2 (Qai vals j∧j.1<i.1):=⟨(m39,v8),rfl,rfl,rfl,Imp.refl _,⟨e,h⟩,hl⟩
theorem en47_0 (vals:List Int) (h:(0:Int)≤0):Qyj vals 0 0 (Qai vals (Qdy vals)):=⟨rfl,rfl,rfl,Imp.refl _,rfl,Nat.lt_succ_self _,h⟩
def S47 (vals:List Int):Spec:=⟨[.r (.c (.l 1 eInt vals))],.v (vI (F47 vals)),True⟩
theorem ok47 (vals:List Int):(S47 vals).ok Tryz.prog 47 :=
 Qi mixed (fn:=Tryz.f47) (ct:=.seqk [(0,0)] .no (.seq .no (.seq (.seqk [(6,0)] .no (.blk (.loop (ι:=Nat×Int) (fun i=>(fun (v8:Int)=>(⟨[(3,some (.v (vI 0))),(6,some (.h 0 0)),(7,some (.v (vI (vals.length:Int)))),(8,some (.v (vI v8)))],[(0,some (.shr none (.l 1 eInt vals)))],1⟩:St)) i.2) (Qai vals) (fun i=>i.1) (Qdy vals) (fun i=>(fun (v8:Int)=>(.seq .no (.seq (.cond .no .no) (.seq (.blk (.seq .no (.seq .no (.cond (.seq .no .no) .no)))) (.reg [(0,.bnd)]))))) i.2)))) (.seq .no .no)))) Tryz.func47 (fun (_:True)=>kn vals fun _=>kn vals fun _=>ai (en47_0 vals (by omega)) (fun (i0:Nat×Int) (hi0:Qai vals i0)=>(fun (m0:Nat) (v8:Int) (hh0:Uep vals i0 m0 v8)=>have hI0:=hh0.1; have hl0:=hh0.2.1; have _:=hh0.2.2.1; have _:=hh0.2.2.2; ifd (v8<(vals.length:Int)) (fun h2 _=>ai (by omega:ib v8 vals) (ifn (vals.getD v8.toNat default) 0 (fun h3 _=>fiI (vals.getD v8.toNat default) (F47 vals) (finR (Qr hI0 (condT h2 (condT h3 rfl))) rfl)) (fun h3 _=>ai (iok (v8+1) (by omega)) (bk47_0 vals i0 m0 (v8+1) hl0 (Qe hI0 (condT h2 (condF h3 rfl))) (by refine ⟨?_,?_⟩ <;> omega))))) (fun h2 _=>have hD0_4:Udo vals=Lp.done v8:=Qj hI0 (condF h2 rfl); fiI 0 (F47 vals) (finD hD0_4 rfl))) (i0.1-1) i0.2 (un47_0 vals i0 hi0))) (by kernel_rfl)
structure TernVia where
 Addr:Int
 Len:Int
 Next:Int
 deriving DecidableEq,Inhabited
def Qc (x:TernVia):List Dat:=[.v (vI x.Addr),.v (vI x.Len),.v (vI x.Next)]
theorem kc47 (vals:List Int) {K_:Prop} (k_:K_):(True)∧(Imp (.l 1 eInt vals) (.l 1 eInt vals))∧K_:=⟨trivial,Imp.refl _,k_⟩
abbrev kh47 (vals:List Int):Hint true Tryz.prog:=.call 47 (S47 vals) (ok47 vals) none
def F56 (a:TernVia) (b:TernVia):Int :=
 (F47 ([(IntKind.i64.wrap (a.Addr-b.Addr)),(IntKind.i64.wrap (a.Len-b.Len)),(IntKind.i64.wrap (a.Next-b.Next))]:List Int))
def S56 (a:TernVia) (b:TernVia):Spec:=⟨[.r (.g (Qc a)),.r (.g (Qc b))],.v (vI (F56 a b)),True⟩
theorem ok56 (a:TernVia) (b:TernVia):(S56 a b).ok Tryz.prog 56 :=
 Qi mixed (fn:=Tryz.f56) (ct:=.seq .no (.seq (.reg [(15,.dat (.l 1 eInt ([(IntKind.i64.wrap (a.Addr-b.Addr)),(IntKind.i64.wrap (a.Len-b.Len)),(IntKind.i64.wrap (a.Next-b.Next))]:List Int))),(16,kh47 ([(IntKind.i64.wrap (a.Addr-b.Addr)),(IntKind.i64.wrap (a.Len-b.Len)),(IntKind.i64.wrap (a.Next-b.Next))]:List Int))]) .no)) Tryz.func56 (fun (_:True)=>ai (bokr 1 eInt ([(IntKind.i64.wrap (a.Addr-b.Addr)),(IntKind.i64.wrap (a.Len-b.Len)),(IntKind.i64.wrap (a.Next-b.Next))]:List Int) fun _=>rfl) (kc47 ([(IntKind.i64.wrap (a.Addr-b.Addr)),(IntKind.i64.wrap (a.Len-b.Len)),(IntKind.i64.wrap (a.Next-b.Next))]:List Int) (fiI (F47 ([(IntKind.i64.wrap (a.Addr-b.Addr)),(IntKind.i64.wrap (a.Len-b.Len)),(IntKind.i64.wrap (a.Next-b.Next))]:List Int)) (F56 a b) rfl))) (by kernel_rfl)
def F42 (word:ByteArray):Qb :=
 (⟨(F83 word).1.Addr,(F83 word).1.Len⟩:Qb)
theorem fi42 (word:ByteArray) (r:Qb) (hF:r=(F42 word)):((.int .i64 r.Addr:Value)=.int .i64 (F42 word).Addr)∧((.int .i64 r.Len:Value)=.int .i64 (F42 word).Len)∧True:=by cases hF; exact ⟨rfl,rfl,trivial⟩
def S42 (word:ByteArray):Spec:=⟨[.r (.c (.v (.string word)))],.ag [.v (vI (F42 word).Addr),.v (vI (F42 word).Len)],word.size≤1048576⟩
theorem ok42 (word:ByteArray):(S42 word).ok Tryz.prog 42 false :=
 Qi mixed (fn:=Tryz.f42) (ct:=.seq .no (.seq (.reg [(1,kh83 word)]) (.seq .no .no))) Tryz.func42 (fun (hpre0:word.size≤1048576)=>kc83 word (by omega) (fi42 word (⟨(F83 word).1.Addr,(F83 word).1.Len⟩:Qb) rfl)) (by kernel_rfl)
theorem or_nil:F47 []=0:=rfl
theorem Qhr (x:Int) (xs:List Int):F47 (x :: xs)=bif (x != 0) then x else F47 xs:=by
 have key:∀ (ys:List Int),F47 ys=((first (fun k=>ys.getD k default != 0) ys.length).map fun k=>ys.getD k default).getD 0:=fun ys=>by
  unfold F47
  rw [Uag (fun k=>ys.getD k default != 0) (fun k=>ys.getD k default) ys.length (Xx ys) (fun k hk=>by simp only [Xx,ltD hk,nn]; rfl) (by simp only [Xx,geD]; rfl)]
  all_goals (cases first (fun k=>ys.getD k default != 0) ys.length <;> rfl)
 rw [key,key]
 cases hx:(x != 0) with
 | true =>
  have:first (fun k=>(x :: xs).getD k default != 0) (x :: xs).length=some 0:=first_some.2 ⟨by simp,hx,fun j hj=>absurd hj (Nat.not_lt_zero _)⟩
  rw [this]; rfl
 | false =>
  cases hf:first (fun k=>xs.getD k default != 0) xs.length with
  | none =>
   have:first (fun k=>(x :: xs).getD k default != 0) (x :: xs).length=none:=first_none.2 fun k hk=>by
    cases k with
    | zero=>exact hx
    | succ k=>exact first_none.1 hf k (by simp at hk; omega)
   rw [this]; rfl
  | some k =>
   obtain ⟨h1,h2,h3⟩:=first_some.1 hf
   have:first (fun k=>(x :: xs).getD k default != 0) (x :: xs).length=some (k+1):=first_some.2 ⟨by simp; omega,h2,fun j hj=>by
    cases j with
    | zero=>exact hx
    | succ j=>exact h3 j (by omega)⟩
   rw [this]; rfl
theorem Ho (lines:List ByteArray) (k:Nat) (hk:k<(Uc lines (⟨#[114,111,117,116,101]⟩:ByteArray)).length):Kg ((Uc lines (⟨#[114,111,117,116,101]⟩:ByteArray)).getD k default):=by
 rcases Bi lines (⟨#[114,111,117,116,101]⟩:ByteArray) with ⟨_,h,e⟩ | e
 ·rw [e] at hk ⊢; exact Qkn lines h k hk
 ·rw [e] at hk; exact absurd hk (Nat.not_lt_zero _)
def viaT (w:List ByteArray):TernVia:=⟨(F83 (w.getD 1 default)).1.Addr,(F83 (w.getD 1 default)).1.Len,F43 (w.getD 2 default)⟩
def VB (v:TernVia):Prop:=0≤v.Addr∧v.Addr≤65535∧0≤v.Len∧v.Len≤16∧-1≤v.Next∧v.Next≤65535
theorem Ubg (w:List ByteArray):VB (viaT w):=by
 have h1:=Km (w.getD 1 default)
 have h2:=Mx (w.getD 2 default).data.toList
 rw [← Bg] at h2
 exact ⟨h1.2.2.1,h1.2.2.2,h1.1,h1.2.1,h2.1,h2.2⟩
theorem cfV_eq (a b:TernVia) (ha:VB a) (hb:VB b):F56 a b=bif (a.Addr-b.Addr != 0) then a.Addr-b.Addr else bif (a.Len-b.Len != 0) then a.Len-b.Len else a.Next-b.Next:=by
 unfold VB at ha hb
 unfold F56
 rw [Yl (n:=a.Addr-b.Addr) (by omega) (by omega),Yl (n:=a.Len-b.Len) (by omega) (by omega),Yl (n:=a.Next-b.Next) (by omega) (by omega),Qhr,Qhr,Qhr,or_nil]
 cases h:(a.Next-b.Next != 0) with
 | true=>rfl
 | false =>
  have:a.Next-b.Next=0:=by simpa using h
  rw [this]; rfl
theorem Vl (a b:TernVia) (ha:VB a) (hb:VB b):F56 a b<0↔a.Addr<b.Addr∨a.Addr=b.Addr∧(a.Len<b.Len∨a.Len=b.Len∧a.Next<b.Next):=by
 rw [cfV_eq a b ha hb]
 by_cases h1:a.Addr=b.Addr
 ·rw [show (a.Addr-b.Addr != 0)=false by simp; omega,cond_false]
  by_cases h2:a.Len=b.Len
  ·rw [show (a.Len-b.Len != 0)=false by simp; omega,cond_false]; omega
  ·rw [show (a.Len-b.Len != 0)=true by simp; omega,cond_true]; omega
 ·rw [show (a.Addr-b.Addr != 0)=true by simp; omega,cond_true]; omega
theorem Qlo (ws:List (List ByteArray)):Vi (fun (x0:TernVia) (x1:TernVia)=>F56 x0 x1) (ws.map viaT):=by
 have hb:∀ x∈ws.map viaT,VB x:=fun x hx=>by obtain ⟨w,_,rfl⟩:=List.mem_map.1 hx; exact Ubg w
 refine ⟨fun x hx=>?_,fun x hx y hy z hz=>?_,fun x hx y hy z hz=>?_,fun x hx y hy=>?_⟩
 ·rw [Vl x x (hb x hx) (hb x hx)]; omega
 ·rw [Vl x y (hb x hx) (hb y hy),Vl y z (hb y hy) (hb z hz),Vl x z (hb x hx) (hb z hz)]; omega
 ·rw [Vl x y (hb x hx) (hb y hy),Vl y z (hb y hy) (hb z hz),Vl x z (hb x hx) (hb z hz)]; omega
 ·rw [Vl x y (hb x hx) (hb y hy),Vl y x (hb y hy) (hb x hx)]
  intro h1 h2
  obtain ⟨a,b,c⟩:=x
  obtain ⟨d,e,f⟩:=y
  simp only at h1 h2
  have:a=d∧b=e∧c=f:=by omega
  obtain ⟨rfl,rfl,rfl⟩:=this
  rfl
theorem Qsh:∃ ws:List (List ByteArray),([]:List TernVia)=ws.map viaT:=⟨[],rfl⟩
theorem Qtg {out:List TernVia} (h:∃ ws:List (List ByteArray),out=ws.map viaT) (w:List ByteArray):∃ ws:List (List ByteArray),out++[viaT w]=ws.map viaT:=by
 obtain ⟨ws,rfl⟩:=h
 exact ⟨ws++[w],by rw [List.map_append]; rfl⟩
theorem Qsp {out:List TernVia} (h:∃ ws:List (List ByteArray),out=ws.map viaT):Vi (fun (x0:TernVia) (x1:TernVia)=>F56 x0 x1) out:=by
 obtain ⟨ws,rfl⟩:=h
 exact Qlo ws
end Go.Proofs.YtcgfkhokhiggkaaGreatDoor
