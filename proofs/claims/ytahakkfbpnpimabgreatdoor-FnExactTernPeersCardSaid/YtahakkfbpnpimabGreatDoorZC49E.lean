/- A part of the proof of FnExactTernPeers. Texts put together: VCKC, VCKD, PCE0, PCE1, PCE2, PCHA, VCH, PCH, VSZ, PSZ, VTA, PTA, VTB, PTB, PTS, PTK, VTP0, PTP0, VTP, PTP, VMKP, PMKP. -/
import Derived.Test.YtahakkfbpnpimabGreatDoorRows
import Derived.Test.YtahakkfbpnpimabGreatDoorZC49D
namespace Go.Proofs.YtahakkfbpnpimabGreatDoor
open Go.RowKit
set_option maxRecDepth 100000
set_option linter.unusedVariables false
set_option linter.unusedSimpArgs false
def T94 (R:List Qb) (lines:List ByteArray):Spec:=⟨(S94 R lines).args,(S94 R lines).res,F22 lines=0∧lines.length≤16∧(∀ k:Nat,(lines.getD k default).size≤1048576)⟩
theorem oa94 (lines:List ByteArray):(T94 (Qo lines) lines).ok Tryz.prog 94 false:=by
 intro hp; have h:=ok94 lines hp; rw [as94 lines] at h; exact h
def T23 (R:List l52Cut) (lines:List ByteArray):Spec:=⟨(S23 R lines).args,(S23 R lines).res,lines.length≤16∧(∀ k:Nat,(lines.getD k default).size≤1048576)⟩
theorem oa23 (lines:List ByteArray):(T23 (lines.map (fun l=>(⟨(F42 l).1⟩:l52Cut))) lines).ok Tryz.prog 23:=by
 intro hp; have h:=ok23 lines hp; rw [as23 lines] at h; exact h
def F122 (p:Qb):Int :=
 (IntKind.i64.wrap ((IntKind.i64.wrap (p.Addr+(F144 p)))-1))
def S122 (p:Qb):Spec:=⟨[.r (.g (Qi p))],.v (vI (F122 p)),0≤p.Len∧p.Len≤16⟩
theorem ok122 (p:Qb):(S122 p).ok Tryz.prog 122 :=
 Qn mixed (fn:=Tryz.f122) (ct:=.seq .no (.seq (.reg [(3,kh144 p)]) .no)) Tryz.func122 (fun (hp:0≤p.Len∧p.Len≤16)=>have hpre0:=hp.1; have hpre1:=hp.2; kc144 p (by omega) (by omega) (by omega) (by omega) (fun gv1 gv2=>fiI (IntKind.i64.wrap ((IntKind.i64.wrap (p.Addr+(F144 p)))-1)) (F122 p) rfl)) (by kernel_rfl)
theorem kc122 (p:Qb) {K_:Prop} (p0_:0≤p.Len) (p1_:p.Len≤16) (k_:K_):(0≤p.Len∧p.Len≤16)∧(Imps (Qi p) (Qi p))∧K_:=⟨⟨p0_,p1_⟩,Imps.refl _,k_⟩
abbrev kh122 (p:Qb):Hint true Tryz.prog:=.call 122 (S122 p) (ok122 p) none
def F99 (p:Qb) (addr:Int):Bool :=
 (decide (p.Addr≤addr∧addr≤(F122 p)))
def S99 (p:Qb) (addr:Int):Spec:=⟨[.r (.g (Qi p)),.r (.c (.v (vI addr)))],.v (.bool (F99 p addr)),0≤p.Len∧p.Len≤16⟩
theorem ok99 (p:Qb) (addr:Int):(S99 p addr).ok Tryz.prog 99 :=
 Qn mixed (fn:=Tryz.f99) (ct:=.seq .no (.seq (.reg [(4,kh122 p),(5,Qrl addr p.Addr (F122 p))]) .no)) Tryz.func99 (fun (hp:0≤p.Len∧p.Len≤16)=>have hpre0:=hp.1; have hpre1:=hp.2; kc122 p (by omega) (by omega) (Qjv addr p.Addr (F122 p) (fiB (decide (p.Addr≤addr∧addr≤(F122 p))) (F99 p addr) rfl))) (by kernel_rfl)
theorem kc99 (p:Qb) (addr:Int) {K_:Prop} (p0_:0≤p.Len) (p1_:p.Len≤16) (k_:K_):(0≤p.Len∧p.Len≤16)∧(Imps (Qi p) (Qi p))∧(Imp (.v (vI addr)) (.v (vI addr)))∧K_:=⟨⟨p0_,p1_⟩,Imps.refl _,Imp.refl _,k_⟩
theorem kg99 {K_:Prop} (c_ b_:Bool) (p:Qb) (addr:Int) (p_:c_=b_→0≤p.Len∧p.Len≤16) (k_:K_):(c_=b_→0≤p.Len∧p.Len≤16)∧(c_=b_→Imps (Qi p) (Qi p))∧(c_=b_→Imp (.v (vI addr)) (.v (vI addr)))∧K_:=⟨p_,fun _=>Imps.refl _,fun _=>Imp.refl _,k_⟩
abbrev kh99 (p:Qb) (addr:Int):Hint true Tryz.prog:=.call 99 (S99 p addr) (ok99 p addr) none
def F95 (p:Qb) (q:Qb):Bool :=
 (bif decide (q.Len≤p.Len) then (F99 q p.Addr) else false)
def S95 (p:Qb) (q:Qb):Spec:=⟨[.r (.g (Qi p)),.r (.g (Qi q))],.v (.bool (F95 p q)),0≤q.Len∧q.Len≤16⟩
theorem ok95 (p:Qb) (q:Qb):(S95 p q).ok Tryz.prog 95 :=
 Qn mixed (fn:=Tryz.f95) (ct:=.seq .no (.seq (.reg [(9,kh99 q p.Addr)]) .no)) Tryz.func95 (fun (hp:0≤q.Len∧q.Len≤16)=>have hpre0:=hp.1; have hpre1:=hp.2; kg99 (decide (q.Len≤p.Len)) true q p.Addr (fun k1=>have _:=of_decide_eq_true k1; ⟨(by omega),(by omega)⟩) (fiB (bif decide (q.Len≤p.Len) then (F99 q p.Addr) else false) (F95 p q) rfl)) (by kernel_rfl)
theorem kc94a (lines:List ByteArray) {K_:Prop} (p0_:F22 lines=0) (p1_:lines.length≤16) (p2_:∀ k:Nat,(lines.getD k default).size≤1048576) (k_:K_):(F22 lines=0∧lines.length≤16∧(∀ k:Nat,(lines.getD k default).size≤1048576))∧(Imp (.l 1 eStr lines) (.l 1 eStr lines))∧K_:=⟨⟨p0_,p1_,p2_⟩,Imp.refl _,k_⟩
abbrev kh94a (lines:List ByteArray):Hint false Tryz.prog:=.call 94 (T94 (Qo lines) lines) (oa94 lines) none
theorem kc95 (p:Qb) (q:Qb) {K_:Prop} (p0_:0≤q.Len) (p1_:q.Len≤16) (k_:K_):(0≤q.Len∧q.Len≤16)∧(Imps (Qi p) (Qi p))∧(Imps (Qi q) (Qi q))∧K_:=⟨⟨p0_,p1_⟩,Imps.refl _,Imps.refl _,k_⟩
abbrev kh95f (p:Qb) (q:Qb):Hint false Tryz.prog:=.call 95 (S95 p q) ((ok95 p q).to false) none
theorem kg95 {K_:Prop} (c_ b_:Bool) (p:Qb) (q:Qb) (p_:c_=b_→0≤q.Len∧q.Len≤16) (k_:K_):(c_=b_→0≤q.Len∧q.Len≤16)∧(c_=b_→Imps (Qi p) (Qi p))∧(c_=b_→Imps (Qi q) (Qi q))∧K_:=⟨p_,fun _=>Imps.refl _,fun _=>Imps.refl _,k_⟩
def Bf (lines:List ByteArray) (v12:Int):Int→Lp Int Bool:=fun v21 =>
 bif (decide (v21<(((Qo lines).take (Int.toNat v12)).length:Int))) then (bif (bif (F95 ((Qo lines).getD (Int.toNat v12) default) (((Qo lines).take (Int.toNat v12)).getD (Int.toNat v21) default)) then true else (F95 (((Qo lines).take (Int.toNat v12)).getD (Int.toNat v21) default) ((Qo lines).getD (Int.toNat v12) default))) then (.ret true) else (.next (v21+1))) else (.done v21)
def Bv (lines:List ByteArray):Int→Lp Int Bool:=fun v12 =>
 bif (decide (v12<((Qo lines).length:Int))) then ((runL (Bf lines v12) ((Int.toNat ((((Qo lines).take (Int.toNat v12)).length:Int)-0))+1) 0).fin Lp.ret (fun v21=>.next (v12+1))) else (.done v12)
def F72 (lines:List ByteArray):Bool :=
 (runL (Bv lines) ((Int.toNat (((Qo lines).length:Int)-0))+1) 0).fin (fun r=>r) (fun v12=>false)
abbrev Ed (lines:List ByteArray) (v12:Int):Nat×Int:=(((Int.toNat ((((Qo lines).take (Int.toNat v12)).length:Int)-0))+1),0)
abbrev Qmg (lines:List ByteArray) (v12:Int) (m39:Nat) (v21:Int):Prop:=Int.toNat ((((Qo lines).take (Int.toNat v12)).length:Int)-v21)<m39∧(0:Int)≤v21
abbrev Ubz (lines:List ByteArray) (v12:Int):Lp Int Bool:=LpX (Bf lines v12) (Ed lines v12)
abbrev Qcz (lines:List ByteArray) (v12:Int) (i:Nat×Int):Prop:=LpJ (Bf lines v12) (Ed lines v12) i (Qmg lines v12 i.1 i.2)
abbrev Qzc (lines:List ByteArray) (v12:Int) (i:Nat×Int) (m39:Nat) (v21:Int):Prop:=LpH (Bf lines v12) (Ed lines v12) i m39 v21 (Qmg lines v12 (m39+1) v21)
abbrev Qyw (lines:List ByteArray) (v12:Int) (v21:Int) (v21_:Int) (K39:Prop):Prop:=(Rf (.int .i64 ((Qo lines).length:Int)))∧(Rf (.int .i64 v12))∧(Rf (.int .i64 (((Qo lines).take (Int.toNat v12)).length:Int)))∧((.int .i64 v21:Value)=.int .i64 v21_)∧(Im (.l 2 Qi (Qo lines)))∧(Rf (.int .i64 ((Qo lines).getD (Int.toNat v12) default).Addr))∧(Rf (.int .i64 ((Qo lines).getD (Int.toNat v12) default).Len))∧(Im (.l 2 Qi ((Qo lines).take (Int.toNat v12))))∧K39
theorem un72_1 (lines:List ByteArray) (v12:Int) (i:Nat×Int) (h:Qcz lines v12 i):Qzc lines v12 i (i.1-1) i.2:=⟨hd1 h.1 h.2.1,hd3 h.2.1,hd2 h.2.1,h.2.2⟩
theorem bk72_1 (lines:List ByteArray) (v12:Int) (i:Nat×Int) (m39:Nat) (v21:Int) (hl:m39<i.1) (e:runL (Bf lines v12) m39 v21=Ubz lines v12) (h:Qmg lines v12 m39 v21):∃ j:Nat×Int,Qyw lines v12 v21 j.2 (Qcz lines v12 j∧j.1<i.1):=⟨(m39,v21),rfl,rfl,rfl,rfl,Imp.refl _,rfl,rfl,Imp.refl _,⟨e,h⟩,hl⟩
theorem en72_1 (lines:List ByteArray) (v12:Int) (h:(0:Int)≤0):Qyw lines v12 0 0 (Qcz lines v12 (Ed lines v12)):=⟨rfl,rfl,rfl,rfl,Imp.refl _,rfl,rfl,Imp.refl _,rfl,Nat.lt_succ_self _,h⟩
abbrev Qcm (lines:List ByteArray):Nat×Int:=(((Int.toNat (((Qo lines).length:Int)-0))+1),0)
abbrev Qnj (lines:List ByteArray) (m39:Nat) (v12:Int):Prop:=Int.toNat (((Qo lines).length:Int)-v12)<m39∧(0:Int)≤v12
abbrev Qzg (lines:List ByteArray):Lp Int Bool:=LpX (Bv lines) (Qcm lines)
abbrev To (lines:List ByteArray) (i:Nat×Int):Prop:=LpJ (Bv lines) (Qcm lines) i (Qnj lines i.1 i.2)
abbrev Qwn (lines:List ByteArray) (i:Nat×Int) (m39:Nat) (v12:Int):Prop:=LpH (Bv lines) (Qcm lines) i m39 v12 (Qnj lines (m39+1) v12)
abbrev Qxe (lines:List ByteArray) (v12:Int) (v12_:Int) (K39:Prop):Prop:=(Rf (.int .i64 ((Qo lines).length:Int)))∧((.int .i64 v12:Value)=.int .i64 v12_)∧(Im (.l 2 Qi (Qo lines)))∧K39
theorem un72_0 (lines:List ByteArray) (i:Nat×Int) (h:To lines i):Qwn lines i (i.1-1) i.2:=⟨hd1 h.1 h.2.1,hd3 h.2.1,hd2 h.2.1,h.2.2⟩
theorem bk72_0 (lines:List ByteArray) (i:Nat×Int) (m39:Nat) (v12:Int) (hl:m39<i.1) (e:runL (Bv lines) m39 v12=Qzg lines) (h:Qnj lines m39 v12):∃ j:Nat×Int,Qxe lines v12 j.2 (To lines j∧j.1<i.1):=⟨(m39,v12),rfl,rfl,Imp.refl _,⟨e,h⟩,hl⟩
theorem en72_0 (lines:List ByteArray) (h:(0:Int)≤0):Qxe lines 0 0 (To lines (Qcm lines)):=⟨rfl,rfl,Imp.refl _,rfl,Nat.lt_succ_self _,h⟩
def S72 (lines:List ByteArray):Spec:=⟨[.r (.c (.l 1 eStr lines))],.v (.bool (F72 lines)),F22 lines=0∧lines.length≤16∧(∀ k:Nat,(lines.getD k default).size≤1048576)⟩
abbrev Ti (lines:List ByteArray) (v12:Int) (v21:Int):=(((Qo lines).take (Int.toNat v12)).getD (Int.toNat v21) default)
abbrev My (lines:List ByteArray) (v12:Int):=((Qo lines).getD (Int.toNat v12) default)
theorem ok72 (lines:List ByteArray):(S72 lines).ok Tryz.prog 72 false :=
 Qn mixed (fn:=Tryz.f72) (ct:=.seqk [(0,0)] .no (.seq (.reg [(1,kh94a lines)]) (.seq (.seqk [(3,0),(10,0)] .no (.blk (.loop (ι:=Nat×Int) (fun i=>(fun (v12:Int)=>(⟨[(3,some (.h 0 0)),(10,some (.h 0 0)),(11,some (.v (vI ((Qo lines).length:Int)))),(12,some (.v (vI v12)))],[(0,some (.own 0 (.l 2 Qi (Qo lines))))],1⟩:St)) i.2) (To lines) (fun i=>i.1) (Qcm lines) (fun i=>(fun (v12:Int)=>(.seq .no (.seq (.cond .no .no) (.seq (.blk (.seq .no (.seqk [(19,0)] .no (.blk (.loop (ι:=Nat×Int) (fun i=>(fun (v21:Int)=>(⟨[(3,some (.h 0 0)),(5,some (.p 1 0)),(10,some (.h 0 0)),(11,some (.v (vI ((Qo lines).length:Int)))),(12,some (.v (vI v12))),(19,some (.h 2 0)),(20,some (.v (vI (((Qo lines).take (Int.toNat v12)).length:Int)))),(21,some (.v (vI v21)))],[(0,some (.own 0 (.l 2 Qi (Qo lines)))),(1,some (.box 102 [.v (vI (My lines v12).Addr),.v (vI (My lines v12).Len)])),(2,some (.shr (some (0,0)) (.l 2 Qi ((Qo lines).take (Int.toNat v12)))))],3⟩:St)) i.2) (Qcz lines v12) (fun i=>i.1) (Ed lines v12) (fun i=>(fun (v21:Int)=>(.seq .no (.seq (.cond .no .no) (.seq (.blk (.seq .no (.seq (.reg [(2,kh95f (My lines v12) (Ti lines v12 v21)),(6,kh95f (Ti lines v12 v21) (My lines v12))]) (.cond (.seq .no .no) .no)))) (.reg [(0,.bnd)]))))) i.2)))))) (.reg [(0,.bnd)]))))) i.2)))) (.seq .no .no)))) Tryz.func72 (fun (hp:F22 lines=0∧lines.length≤16∧(∀ k:Nat,(lines.getD k default).size≤1048576))=>have hpre0:=hp.1; have hpre1:=hp.2.1; have hpre2:=hp.2.2; kn lines fun _=>kc94a lines (by first | omega | (simp only [lens,ib] at*<;> omega)) (by first | omega | (simp only [lens,ib] at*<;> omega)) (by first | assumption | exact hpre2 _ | exact fun k _=>hpre2 k | (intros; exact trivial) | (intros; exact Nat.zero_le _)) (kn (Qo lines) fun _=>kn (Qo lines) fun _=>ai (en72_0 lines (by first | omega | (simp only [lens,ib] at*<;> omega))) (fun (i0:Nat×Int) (hi0:To lines i0)=>(fun (m0:Nat) (v12:Int) (hh0:Qwn lines i0 m0 v12)=>have hI0:=hh0.1; have hl0:=hh0.2.1; have _:=hh0.2.2.1; have _:=hh0.2.2.2; ifd (v12<((Qo lines).length:Int)) (fun h2 _=>ai (by first | omega | (simp only [lens,ib] at*<;> omega):ib v12 (Qo lines)) (ai (by first | omega | (simp only [lens,ib] at*<;> omega):0≤(0:Int)∧(0:Int)≤v12∧v12≤((Qo lines).length:Int)) (kn ((Qo lines).take (Int.toNat v12)) fun _=>ai (en72_1 lines v12 (by first | omega | (simp only [lens,ib] at*<;> omega))) (fun (i1:Nat×Int) (hi1:Qcz lines v12 i1)=>(fun (m1:Nat) (v21:Int) (hh1:Qzc lines v12 i1 m1 v21)=>have hI1:=hh1.1; have hl1:=hh1.2.1; have _:=hh1.2.2.1; have _:=hh1.2.2.2; ifd (v21<(((Qo lines).take (Int.toNat v12)).length:Int)) (fun h4 _=>ai (by first | omega | (simp only [lens,ib] at*<;> omega):ib v21 ((Qo lines).take (Int.toNat v12))) (kc95 (My lines v12) (Ti lines v12 v21) (by first | omega | exact (Zo lines _).1 | exact (Zo lines _).2 | exact (Zg lines _ _).1 | exact (Zg lines _ _).2) (by first | omega | exact (Zo lines _).1 | exact (Zo lines _).2 | exact (Zg lines _ _).1 | exact (Zg lines _ _).2) (kg95 (F95 (My lines v12) (Ti lines v12 v21)) false (Ti lines v12 v21) (My lines v12) (fun k5=>⟨(by first | omega | exact (Zo lines _).1 | exact (Zo lines _).2 | exact (Zg lines _ _).1 | exact (Zg lines _ _).2),(by first | omega | exact (Zo lines _).1 | exact (Zo lines _).2 | exact (Zg lines _ _).1 | exact (Zg lines _ _).2)⟩) (ifb (bif (F95 (My lines v12) (Ti lines v12 v21)) then true else (F95 (Ti lines v12 v21) (My lines v12))) (fun h6=>fiB true (F72 lines) (finR (Qr hI0 (condT h2 (finR (Qr hI1 (condT h4 (condT h6 rfl))) rfl))) rfl)) (fun h6=>ai (iok (v21+1) (by first | omega | (simp only [lens,ib] at*<;> omega))) (bk72_1 lines v12 i1 m1 (v21+1) hl1 (Qe hI1 (condT h4 (condF h6 rfl))) (by refine ⟨?_,?_⟩ <;> first | omega | (simp only [lens,ib] at*<;> omega)))))))) (fun h4 _=>have hD1_7:Ubz lines v12=Lp.done v21:=Qk hI1 (condF h4 rfl); ai (iok (v12+1) (by first | omega | (simp only [lens,ib] at*<;> omega))) (bk72_0 lines i0 m0 (v12+1) hl0 (Qe hI0 (condT h2 (finD hD1_7 rfl))) (by refine ⟨?_,?_⟩ <;> first | omega | (simp only [lens,ib] at*<;> omega))))) (i1.1-1) i1.2 (un72_1 lines v12 i1 hi1))))) (fun h2 _=>have hD0_8:Qzg lines=Lp.done v12:=Qk hI0 (condF h2 rfl); fiB false (F72 lines) (finD hD0_8 rfl))) (i0.1-1) i0.2 (un72_0 lines i0 hi0)))) (by kernel_rfl)
def F98 (p:Qb) (p1:Int):Bool :=
 (bif (F99 p p1) then (p.Addr != p1) else false)
def S98 (p:Qb) (p1:Int):Spec:=⟨[.r (.g (Qi p)),.rp ([.v (vI p1)])],.v (.bool (F98 p p1)),0≤p.Len∧p.Len≤16⟩
theorem ok98 (p:Qb) (p1:Int):(S98 p p1).ok Tryz.prog 98 :=
 Qn mixed (fn:=Tryz.f98) (ct:=.seq .no (.seq (.reg [(2,kh99 p p1)]) .no)) Tryz.func98 (fun (hp:0≤p.Len∧p.Len≤16)=>have hpre0:=hp.1; have hpre1:=hp.2; kc99 p p1 (by omega) (by omega) (fiB (bif (F99 p p1) then (p.Addr != p1) else false) (F98 p p1) rfl)) (by kernel_rfl)
def Jg (Q:Qb→Prop) (p:Qb→Bool):Uu:=⟨Qb,fun i=>[.g (pxH (Qi i) (Q i))],fun i=>.bool (p i)⟩
def Hd (s:List Qb) (f:Qb→Bool):Int→Lp Int Int:=fun v8 =>
 bif (decide (v8<(s.length:Int))) then (bif (f (s.getD (Int.toNat v8) default)) then (.ret v8) else (.next (v8+1))) else (.done v8)
def F121 (s:List Qb) (f:Qb→Bool):Int :=
 (runL (Hd s f) ((Int.toNat ((s.length:Int)-0))+1) 0).fin (fun r=>r) (fun v8=>(-1))
abbrev Nm (s:List Qb):Nat×Int:=(((Int.toNat ((s.length:Int)-0))+1),0)
abbrev Qgn (s:List Qb) (m39:Nat) (v8:Int):Prop:=Int.toNat ((s.length:Int)-v8)<m39∧(0:Int)≤v8
abbrev Qrr (s:List Qb) (f:Qb→Bool):Lp Int Int:=LpX (Hd s f) (Nm s)
abbrev Mw (s:List Qb) (f:Qb→Bool) (i:Nat×Int):Prop:=LpJ (Hd s f) (Nm s) i (Qgn s i.1 i.2)
abbrev Qsl (s:List Qb) (f:Qb→Bool) (i:Nat×Int) (m39:Nat) (v8:Int):Prop:=LpH (Hd s f) (Nm s) i m39 v8 (Qgn s (m39+1) v8)
abbrev Qqe (Qf:Qb→Prop) (s:List Qb) (f:Qb→Bool) (v8:Int) (v8_:Int) (K39:Prop):Prop:=(Rf (.int .i64 (s.length:Int)))∧((.int .i64 v8:Value)=.int .i64 v8_)∧(Im (.l 2 Qi s))∧(Jg Qf f=Jg Qf f)∧K39
theorem Udh (s:List Qb) (f:Qb→Bool) (i:Nat×Int) (h:Mw s f i):Qsl s f i (i.1-1) i.2:=⟨hd1 h.1 h.2.1,hd3 h.2.1,hd2 h.2.1,h.2.2⟩
theorem Uen (Qf:Qb→Prop) (s:List Qb) (f:Qb→Bool) (i:Nat×Int) (m39:Nat) (v8:Int) (hl:m39<i.1) (e:runL (Hd s f) m39 v8=Qrr s f) (h:Qgn s m39 v8):∃ j:Nat×Int,Qqe Qf s f v8 j.2 (Mw s f j∧j.1<i.1):=⟨(m39,v8),rfl,rfl,Imp.refl _,rfl,⟨e,h⟩,hl⟩
theorem Uec (Qf:Qb→Prop) (s:List Qb) (f:Qb→Bool) (h:(0:Int)≤0):Qqe Qf s f 0 0 (Mw s f (Nm s)):=⟨rfl,rfl,Imp.refl _,rfl,rfl,Nat.lt_succ_self _,h⟩
def S121 (R:Int) (s:List Qb) (f:Qb→Bool) (Qf:Qb→Prop):Spec:=⟨[.r (.c (.l 2 Qi s)),.fn (Jg Qf f)],.v (vI R),(∀ k:Nat,k<s.length→Qf (s.getD k default))⟩
theorem ok121 (s:List Qb) (f:Qb→Bool) (Qf:Qb→Prop):(S121 (F121 s f) s f Qf).ok Tryz.prog 121 false :=
 Qn mixed (fn:=Tryz.f121) (ct:=.seqk [(0,0)] .no (.seq (.seqk [(0,0)] .no (.blk (.loop (ι:=Nat×Int) (fun i=>(fun (v8:Int)=>(⟨[(0,some (.h 0 0)),(1,some (.h 1 0)),(7,some (.v (vI (s.length:Int)))),(8,some (.v (vI v8)))],[(0,some (.shr none (.l 2 Qi s))),(1,some (.fn (Jg Qf f)))],2⟩:St)) i.2) (Mw s f) (fun i=>i.1) (Nm s) (fun i=>(fun (v8:Int)=>(.seq .no (.seq (.cond .no .no) (.seq (.blk (.seq .no (.seq (.reg [(5,.fnv (Jg Qf f) (s.getD (Int.toNat v8) default))]) (.cond (.seq .no .no) .no)))) (.reg [(0,.bnd)]))))) i.2)))) (.seq .no .no))) Tryz.func121 (fun (hpre0:∀ k:Nat,k<s.length→Qf (s.getD k default))=>kn s fun _=>kn s fun _=>ai (Uec Qf s f (by omega)) (fun (i0:Nat×Int) (hi0:Mw s f i0)=>(fun (m0:Nat) (v8:Int) (hh0:Qsl s f i0 m0 v8)=>have hI0:=hh0.1; have hl0:=hh0.2.1; have _:=hh0.2.2.1; have _:=hh0.2.2.2; ifd (v8<(s.length:Int)) (fun h2 _=>ai (by omega:ib v8 s) (ai (Eq.refl (Jg Qf f)) (ai (Imps.pxH (ds:=Qi (s.getD (Int.toNat v8) default)) (hpre0 (Int.toNat v8) (by omega))) (ifb (f (s.getD (Int.toNat v8) default)) (fun h3=>fiI v8 (F121 s f) (finR (Qr hI0 (condT h2 (condT h3 rfl))) rfl)) (fun h3=>ai (iok (v8+1) (by omega)) (Uen Qf s f i0 m0 (v8+1) hl0 (Qe hI0 (condT h2 (condF h3 rfl))) (by refine ⟨?_,?_⟩ <;> omega))))))) (fun h2 _=>have hD0_4:Qrr s f=Lp.done v8:=Qk hI0 (condF h2 rfl); fiI (-1) (F121 s f) (finD hD0_4 rfl))) (i0.1-1) i0.2 (Udh s f i0 hi0))) (by kernel_rfl)
theorem as121 (s:List Qb) (f:Qb→Bool):F121 s f=(idxI f s):=by
 exact Vo f s (Hd s f) (fun i=>rfl)
theorem oa121 (s:List Qb) (f:Qb→Bool) (Qf:Qb→Prop):(S121 (idxI f s) s f Qf).ok Tryz.prog 121 false:=by
 intro hp; have h:=ok121 s f Qf hp; rw [as121 s f] at h; exact h
theorem g121_0 (s:List Qb) (f:Qb→Bool):(idxI f s)<(s.length:Int):=by
 exact Mp f s
theorem g121_1 (s:List Qb) (f:Qb→Bool):-1≤(idxI f s):=by
 (show -1≤idxI f s; unfold idxI; cases first (fun k=>f (s.getD k default)) s.length <;> simp only [oix] <;> omega)
theorem kc121a (s:List Qb) (f:Qb→Bool) (Qf:Qb→Prop) {K_:Prop} (p0_:∀ k:Nat,k<s.length→Qf (s.getD k default)) (k_:((idxI f s)<(s.length:Int))→(-1≤(idxI f s))→K_):(∀ k:Nat,k<s.length→Qf (s.getD k default))∧(Imp (.l 2 Qi s) (.l 2 Qi s))∧(Jg Qf f=Jg Qf f)∧K_:=⟨p0_,Imp.refl _,rfl,k_ (g121_0 s f) (g121_1 s f)⟩
abbrev kh121a (s:List Qb) (f:Qb→Bool) (Qf:Qb→Prop):Hint false Tryz.prog:=.call 121 (S121 (idxI f s) s f Qf) (oa121 s f Qf) none
def F97 (s:List Qb) (f:Qb→Bool):Bool :=
 decide ((idxI f s)≥0)
def S97 (R:Bool) (s:List Qb) (f:Qb→Bool) (Qf:Qb→Prop):Spec:=⟨[.r (.c (.l 2 Qi s)),.fn (Jg Qf f)],.v (.bool R),(∀ k:Nat,k<s.length→Qf (s.getD k default))⟩
theorem ok97 (s:List Qb) (f:Qb→Bool) (Qf:Qb→Prop):(S97 (F97 s f) s f Qf).ok Tryz.prog 97 false :=
 Qn mixed (fn:=Tryz.f97) (ct:=.seqk [(0,0)] .no (.seq (.reg [(2,kh121a s f Qf)]) .no)) Tryz.func97 (fun (hpre0:∀ k:Nat,k<s.length→Qf (s.getD k default))=>kn s fun _=>kc121a s f Qf (by assumption) (fun gv1 gv2=>fiB (decide ((idxI f s)≥0)) (F97 s f) rfl)) (by kernel_rfl)
theorem as97 (s:List Qb) (f:Qb→Bool):F97 s f=(s.any f):=by
 exact Tc f s
theorem oa97 (s:List Qb) (f:Qb→Bool) (Qf:Qb→Prop):(S97 (s.any f) s f Qf).ok Tryz.prog 97 false:=by
 intro hp; have h:=ok97 s f Qf hp; rw [as97 s f] at h; exact h
def F96 (text:ByteArray) (p1:List Qb):Bool :=
 (!(p1.any (fun (x0:Qb)=>F98 x0 (F16 text))))
def S96 (text:ByteArray) (p1:List Qb):Spec:=⟨[.r (.c (.v (.string text))),.rp ([.l 2 Qi p1])],.v (.bool (F96 text p1)),text.size≤1048576∧(∀ k:Nat,0≤(p1.getD k default).Len∧(p1.getD k default).Len≤16)⟩
theorem ok96 (text:ByteArray) (p1:List Qb):(S96 text p1).ok Tryz.prog 96 false :=
 Qn mixed (fn:=Tryz.f96) (ct:=.seq .no (.seq (.reg [(1,kh16 text)]) (.seq (.reg [(2,.call 97 (S97 (p1.any (fun (x0:Qb)=>F98 x0 (F16 text))) p1 (fun (x0:Qb)=>F98 x0 (F16 text)) (fun (x0:Qb)=>0≤x0.Len∧x0.Len≤16)) (oa97 p1 (fun (x0:Qb)=>F98 x0 (F16 text)) (fun (x0:Qb)=>0≤x0.Len∧x0.Len≤16)) (some ⟨true,98,Jg (fun (x0:Qb)=>0≤x0.Len∧x0.Len≤16) (fun (x0:Qb)=>F98 x0 (F16 text)),[.rp ([.v (vI (F16 text))])],rfl,True,fun i=>Qvd (ok98 i (F16 text))⟩))]) .no))) Tryz.func96 (fun (hp:text.size≤1048576∧(∀ k:Nat,0≤(p1.getD k default).Len∧(p1.getD k default).Len≤16))=>have hpre0:=hp.1; have hpre1:=hp.2; kc16 text (by omega) (ai (by exact fun k _=>hpre1 k:∀ k:Nat,k<p1.length→(fun (x0:Qb)=>0≤x0.Len∧x0.Len≤16) (p1.getD k default)) (ai (Imp.refl (.l 2 Qi p1)) (ai (Eq.refl (Jg (fun (x0:Qb)=>0≤x0.Len∧x0.Len≤16) (fun (x0:Qb)=>F98 x0 (F16 text)))) (ai trivial (ai (Imps.refl [.v (vI (F16 text))]) (fiB (!(p1.any (fun (x0:Qb)=>F98 x0 (F16 text)))) (F96 text p1) rfl))))))) (by kernel_rfl)
def Xm (lines:List ByteArray):(List ByteArray×Int)→Lp (List ByteArray×Int) Bool:=fun (addrs1,v13) =>
 bif (decide (v13<((Qa lines (⟨#[114,111,117,116,101]⟩:ByteArray)).length:Int))) then (.next ((addrs1++[(((Qa lines (⟨#[114,111,117,116,101]⟩:ByteArray)).getD (Int.toNat v13) default).getD (Int.toNat 2) default)]),(v13+1))) else (.done (addrs1,v13))
def Pa (lines:List ByteArray):Lp (List ByteArray) Bool :=
 (runL (Xm lines) ((Int.toNat (((Qa lines (⟨#[114,111,117,116,101]⟩:ByteArray)).length:Int)-0))+1) (([]:List ByteArray),0)).fin Lp.ret (fun (addrs1,v13)=>.done addrs1)
def Bc (lines:List ByteArray) (addrs:List ByteArray):(List ByteArray×Int)→Lp (List ByteArray×Int) Bool:=fun (addrs3,v27) =>
 bif (decide (v27<((Qa lines (⟨#[112,101,101,114]⟩:ByteArray)).length:Int))) then (.next ((addrs3++[(((Qa lines (⟨#[112,101,101,114]⟩:ByteArray)).getD (Int.toNat v27) default).getD (Int.toNat 1) default)]),(v27+1))) else (.done (addrs3,v27))
def Hr (lines:List ByteArray) (addrs:List ByteArray):Lp (List ByteArray) Bool :=
 (runL (Bc lines addrs) ((Int.toNat (((Qa lines (⟨#[112,101,101,114]⟩:ByteArray)).length:Int)-0))+1) (addrs,0)).fin Lp.ret (fun (addrs3,v27)=>.done addrs3)
def F73 (lines:List ByteArray):Bool :=
 (Pa lines).fin (fun r=>r) (fun addrs=>(Hr lines addrs).fin (fun r=>r) (fun addrs2=>(addrs2.any (fun (x0:ByteArray)=>F96 x0 (Qo lines)))))
abbrev Ee (lines:List ByteArray):Nat×(List ByteArray×Int):=(((Int.toNat (((Qa lines (⟨#[114,111,117,116,101]⟩:ByteArray)).length:Int)-0))+1),(([]:List ByteArray),0))
abbrev Qli (lines:List ByteArray) (m39:Nat) (addrs1:List ByteArray) (v13:Int):Prop:=Int.toNat (((Qa lines (⟨#[114,111,117,116,101]⟩:ByteArray)).length:Int)-v13)<m39∧(addrs1.length:Int)≤v13∧v13≤((Qa lines (⟨#[114,111,117,116,101]⟩:ByteArray)).length:Int)∧(∀ k:Nat,(addrs1.getD k default).size≤1048576)∧(0:Int)≤v13
abbrev Qyx (lines:List ByteArray):Lp (List ByteArray×Int) Bool:=LpX (Xm lines) (Ee lines)
abbrev Qad (lines:List ByteArray) (i:Nat×(List ByteArray×Int)):Prop:=LpJ (Xm lines) (Ee lines) i (Qli lines i.1 i.2.1 i.2.2)
abbrev Uby (lines:List ByteArray) (i:Nat×(List ByteArray×Int)) (m39:Nat) (addrs1:List ByteArray) (v13:Int):Prop:=LpH (Xm lines) (Ee lines) i m39 (addrs1,v13) (Qli lines (m39+1) addrs1 v13)
abbrev Qzw (lines:List ByteArray) (addrs1:List ByteArray) (v13:Int) (addrs1_:List ByteArray) (v13_:Int) (K39:Prop):Prop:=(Rf (.int .i64 ((Qa lines (⟨#[114,111,117,116,101]⟩:ByteArray)).length:Int)))∧((.int .i64 v13:Value)=.int .i64 v13_)∧(Im (.l 1 eStr lines))∧(Imp (.l 1 eStr addrs1) (.l 1 eStr addrs1_))∧(Im (.l 1 (eL 1 eStr) (Qa lines (⟨#[114,111,117,116,101]⟩:ByteArray))))∧K39
theorem un73_0 (lines:List ByteArray) (i:Nat×(List ByteArray×Int)) (h:Qad lines i):Uby lines i (i.1-1) i.2.1 i.2.2:=⟨hd1 h.1 h.2.1,hd3 h.2.1,hd2 h.2.1,h.2.2⟩
theorem bk73_0 (lines:List ByteArray) (i:Nat×(List ByteArray×Int)) (m39:Nat) (addrs1:List ByteArray) (v13:Int) (hl:m39<i.1) (e:runL (Xm lines) m39 (addrs1,v13)=Qyx lines) (h:Qli lines m39 addrs1 v13):∃ j:Nat×(List ByteArray×Int),Qzw lines addrs1 v13 j.2.1 j.2.2 (Qad lines j∧j.1<i.1):=⟨(m39,(addrs1,v13)),rfl,rfl,Imp.refl _,Imp.refl _,Imp.refl _,⟨e,h⟩,hl⟩
theorem en73_0 (lines:List ByteArray) (h:(([]:List ByteArray).length:Int)≤0∧0≤((Qa lines (⟨#[114,111,117,116,101]⟩:ByteArray)).length:Int)∧(∀ k:Nat,(([]:List ByteArray).getD k default).size≤1048576)∧(0:Int)≤0):Qzw lines ([]:List ByteArray) 0 ([]:List ByteArray) 0 (Qad lines (Ee lines)):=⟨rfl,rfl,Imp.refl _,Imp.refl _,Imp.refl _,rfl,Nat.lt_succ_self _,h⟩
abbrev Qkw (lines:List ByteArray) (addrs:List ByteArray):Prop:=(addrs.length:Int)≤16∧(∀ k:Nat,(addrs.getD k default).size≤1048576)
abbrev Qkz (lines:List ByteArray) (j:List ByteArray):Prop:=(Pa lines)=Lp.done j∧Qkw lines j
theorem jn73_0 (lines:List ByteArray) (addrs:List ByteArray) (e:(Pa lines)=Lp.done addrs) (h:Qkw lines addrs):∃ j:List ByteArray,(Imp (.l 1 eStr lines) (.l 1 eStr lines))∧(Imp (.l 1 eStr addrs) (.l 1 eStr j))∧Qkz lines j:=⟨addrs,Imp.refl _,Imp.refl _,e,h⟩
abbrev Tt (lines:List ByteArray) (addrs:List ByteArray):Nat×(List ByteArray×Int):=(((Int.toNat (((Qa lines (⟨#[112,101,101,114]⟩:ByteArray)).length:Int)-0))+1),(addrs,0))
abbrev Qnt (lines:List ByteArray) (m39:Nat) (addrs3:List ByteArray) (v27:Int):Prop:=Int.toNat (((Qa lines (⟨#[112,101,101,114]⟩:ByteArray)).length:Int)-v27)<m39∧(addrs3.length:Int)≤16+v27∧v27≤((Qa lines (⟨#[112,101,101,114]⟩:ByteArray)).length:Int)∧(∀ k:Nat,(addrs3.getD k default).size≤1048576)∧(0:Int)≤v27
abbrev Qvs (lines:List ByteArray) (addrs:List ByteArray):Lp (List ByteArray×Int) Bool:=LpX (Bc lines addrs) (Tt lines addrs)
abbrev Qbq (lines:List ByteArray) (addrs:List ByteArray) (i:Nat×(List ByteArray×Int)):Prop:=LpJ (Bc lines addrs) (Tt lines addrs) i (Qnt lines i.1 i.2.1 i.2.2)
abbrev Uch (lines:List ByteArray) (addrs:List ByteArray) (i:Nat×(List ByteArray×Int)) (m39:Nat) (addrs3:List ByteArray) (v27:Int):Prop:=LpH (Bc lines addrs) (Tt lines addrs) i m39 (addrs3,v27) (Qnt lines (m39+1) addrs3 v27)
abbrev Quo (lines:List ByteArray) (addrs3:List ByteArray) (v27:Int) (addrs3_:List ByteArray) (v27_:Int) (K39:Prop):Prop:=(Rf (.int .i64 ((Qa lines (⟨#[112,101,101,114]⟩:ByteArray)).length:Int)))∧((.int .i64 v27:Value)=.int .i64 v27_)∧(Im (.l 1 eStr lines))∧(Imp (.l 1 eStr addrs3) (.l 1 eStr addrs3_))∧(Im (.l 1 (eL 1 eStr) (Qa lines (⟨#[112,101,101,114]⟩:ByteArray))))∧K39
theorem un73_1 (lines:List ByteArray) (addrs:List ByteArray) (i:Nat×(List ByteArray×Int)) (h:Qbq lines addrs i):Uch lines addrs i (i.1-1) i.2.1 i.2.2:=⟨hd1 h.1 h.2.1,hd3 h.2.1,hd2 h.2.1,h.2.2⟩
theorem bk73_1 (lines:List ByteArray) (addrs:List ByteArray) (i:Nat×(List ByteArray×Int)) (m39:Nat) (addrs3:List ByteArray) (v27:Int) (hl:m39<i.1) (e:runL (Bc lines addrs) m39 (addrs3,v27)=Qvs lines addrs) (h:Qnt lines m39 addrs3 v27):∃ j:Nat×(List ByteArray×Int),Quo lines addrs3 v27 j.2.1 j.2.2 (Qbq lines addrs j∧j.1<i.1):=⟨(m39,(addrs3,v27)),rfl,rfl,Imp.refl _,Imp.refl _,Imp.refl _,⟨e,h⟩,hl⟩
theorem en73_1 (lines:List ByteArray) (addrs:List ByteArray) (h:(addrs.length:Int)≤16+0∧0≤((Qa lines (⟨#[112,101,101,114]⟩:ByteArray)).length:Int)∧(∀ k:Nat,(addrs.getD k default).size≤1048576)∧(0:Int)≤0):Quo lines addrs 0 addrs 0 (Qbq lines addrs (Tt lines addrs)):=⟨rfl,rfl,Imp.refl _,Imp.refl _,Imp.refl _,rfl,Nat.lt_succ_self _,h⟩
abbrev Qmp (lines:List ByteArray) (addrs:List ByteArray) (addrs2:List ByteArray):Prop:=(addrs2.length:Int)≤32∧(∀ k:Nat,(addrs2.getD k default).size≤1048576)
abbrev Qog (lines:List ByteArray) (addrs:List ByteArray) (j:List ByteArray):Prop:=(Hr lines addrs)=Lp.done j∧Qmp lines addrs j
theorem jn73_1 (lines:List ByteArray) (addrs:List ByteArray) (addrs2:List ByteArray) (e:(Hr lines addrs)=Lp.done addrs2) (h:Qmp lines addrs addrs2):∃ j:List ByteArray,(Imp (.l 1 eStr lines) (.l 1 eStr lines))∧(Imp (.l 1 eStr addrs2) (.l 1 eStr j))∧Qog lines addrs j:=⟨addrs2,Imp.refl _,Imp.refl _,e,h⟩
def S73 (lines:List ByteArray):Spec:=⟨[.r (.c (.l 1 eStr lines))],.v (.bool (F73 lines)),F22 lines=0∧lines.length≤16∧(∀ k:Nat,(lines.getD k default).size≤1048576)⟩
theorem ok73 (lines:List ByteArray):(S73 lines).ok Tryz.prog 73 false :=
 Qn mixed (fn:=Tryz.f73) (ct:=.seqk [(0,0)] .no (.seq (.reg [(0,.dat (.l 1 eStr ([]:List ByteArray)))]) (.cut (ι:=List ByteArray) (fun j=>(fun (addrs:List ByteArray)=>(⟨[(0,some (.h 0 0)),(3,some (.h 1 0))],[(0,some (.shr none (.l 1 eStr lines))),(1,some (.own 1 (.l 1 eStr addrs)))],2⟩:St)) j) (Qkz lines) (.seqk [(3,0),(11,0)] (.reg [(1,Vy lines (⟨#[114,111,117,116,101]⟩:ByteArray))]) (.blk (.loop (ι:=Nat×(List ByteArray×Int)) (fun i=>(fun (addrs1:List ByteArray) (v13:Int)=>(⟨[(0,some (.h 0 0)),(3,some (.h 1 0)),(11,some (.h 2 0)),(12,some (.v (vI ((Qa lines (⟨#[114,111,117,116,101]⟩:ByteArray)).length:Int)))),(13,some (.v (vI v13)))],[(0,some (.shr none (.l 1 eStr lines))),(1,some (.own 1 (.l 1 eStr addrs1))),(2,some (.own 2 (.l 1 (eL 1 eStr) (Qa lines (⟨#[114,111,117,116,101]⟩:ByteArray)))))],3⟩:St)) i.2.1 i.2.2) (Qad lines) (fun i=>i.1) (Ee lines) (fun i=>(fun (addrs1:List ByteArray) (v13:Int)=>(.seq .no (.seq (.cond .no .no) (.seq (.blk (.seq .no (.reg [(5,.dat (.l 1 eStr (addrs1++[(((Qa lines (⟨#[114,111,117,116,101]⟩:ByteArray)).getD (Int.toNat v13) default).getD (Int.toNat 2) default)])))]))) (.reg [(0,.bnd)]))))) i.2.1 i.2.2)))) (fun j=>(fun (addrs:List ByteArray)=>(.cut (ι:=List ByteArray) (fun j=>(fun (addrs2:List ByteArray)=>(⟨[(0,some (.h 0 0)),(3,some (.h 1 0))],[(0,some (.shr none (.l 1 eStr lines))),(1,some (.own 1 (.l 1 eStr addrs2)))],2⟩:St)) j) (Qog lines addrs) (.seqk [(3,0),(25,0)] (.reg [(1,Vy lines (⟨#[112,101,101,114]⟩:ByteArray))]) (.blk (.loop (ι:=Nat×(List ByteArray×Int)) (fun i=>(fun (addrs3:List ByteArray) (v27:Int)=>(⟨[(0,some (.h 0 0)),(3,some (.h 1 0)),(25,some (.h 2 0)),(26,some (.v (vI ((Qa lines (⟨#[112,101,101,114]⟩:ByteArray)).length:Int)))),(27,some (.v (vI v27)))],[(0,some (.shr none (.l 1 eStr lines))),(1,some (.own 1 (.l 1 eStr addrs3))),(2,some (.own 2 (.l 1 (eL 1 eStr) (Qa lines (⟨#[112,101,101,114]⟩:ByteArray)))))],3⟩:St)) i.2.1 i.2.2) (Qbq lines addrs) (fun i=>i.1) (Tt lines addrs) (fun i=>(fun (addrs3:List ByteArray) (v27:Int)=>(.seq .no (.seq (.cond .no .no) (.seq (.blk (.seq .no (.reg [(5,.dat (.l 1 eStr (addrs3++[(((Qa lines (⟨#[112,101,101,114]⟩:ByteArray)).getD (Int.toNat v27) default).getD (Int.toNat 1) default)])))]))) (.reg [(0,.bnd)]))))) i.2.1 i.2.2)))) (fun j=>(fun (addrs2:List ByteArray)=>(.seq (.reg [(1,kh94a lines)]) (.seq (.reg [(2,.call 86 (S86 (addrs2.any (fun (x0:ByteArray)=>F96 x0 (Qo lines))) addrs2 (fun (x0:ByteArray)=>F96 x0 (Qo lines)) (fun (x0:ByteArray)=>x0.size≤1048576∧(∀ k:Nat,0≤((Qo lines).getD k default).Len∧((Qo lines).getD k default).Len≤16))) (oa86 addrs2 (fun (x0:ByteArray)=>F96 x0 (Qo lines)) (fun (x0:ByteArray)=>x0.size≤1048576∧(∀ k:Nat,0≤((Qo lines).getD k default).Len∧((Qo lines).getD k default).Len≤16))) (some ⟨false,96,Ze (fun (x0:ByteArray)=>x0.size≤1048576∧(∀ k:Nat,0≤((Qo lines).getD k default).Len∧((Qo lines).getD k default).Len≤16)) (fun (x0:ByteArray)=>F96 x0 (Qo lines)),[.rp ([.l 2 Qi (Qo lines)])],rfl,True,fun i=>Xv (ok96 i (Qo lines))⟩))]) .no))) j))) j)))) Tryz.func73 (fun (hp:F22 lines=0∧lines.length≤16∧(∀ k:Nat,(lines.getD k default).size≤1048576))=>have hpre0:=hp.1; have hpre1:=hp.2.1; have hpre2:=hp.2.2; kn lines fun _=>ai (bokr 1 eStr ([]:List ByteArray) fun _=>rfl) (ai (Hf lines (⟨#[114,111,117,116,101]⟩:ByteArray) (by omega) (by assumption) (by omega) (fun gv1=>kn ([]:List ByteArray) fun _=>kn (Qa lines (⟨#[114,111,117,116,101]⟩:ByteArray)) fun _=>ai (en73_0 lines (by refine ⟨?_,?_,?_,?_⟩ <;> first | omega | (simp only [lens,ib] at*<;> omega) | exact Qmu (by assumption) (Yq lines _ (by first | omega | (simp only [lens,ib] at*<;> omega)) _ _) | exact Qwx)) (fun (i0:Nat×(List ByteArray×Int)) (hi0:Qad lines i0)=>(fun (m0:Nat) (addrs1:List ByteArray) (v13:Int) (hh0:Uby lines i0 m0 addrs1 v13)=>have hI0:=hh0.1; have hl0:=hh0.2.1; have _:=hh0.2.2.1; have _:=hh0.2.2.2.1; have _:=hh0.2.2.2.2.1; have _:=hh0.2.2.2.2.2.1; have _:=hh0.2.2.2.2.2.2; ifd (v13<((Qa lines (⟨#[114,111,117,116,101]⟩:ByteArray)).length:Int)) (fun h3 _=>ai (by (omega):0≤v13∧v13<((Qa lines (⟨#[114,111,117,116,101]⟩:ByteArray)).length:Int)) (ai (by (have h9:=Uax lines (by omega) (Int.toNat v13) (by omega); unfold Vg at h9; omega):0≤(2:Int)∧(2:Int)<(((Qa lines (⟨#[114,111,117,116,101]⟩:ByteArray)).getD (Int.toNat v13) default).length:Int)) (ai (appr 1 eStr addrs1 [(((Qa lines (⟨#[114,111,117,116,101]⟩:ByteArray)).getD (Int.toNat v13) default).getD (Int.toNat 2) default)] fun _=>rfl) (ai (by (try simp only [lens]); omega:(addrs1++[(((Qa lines (⟨#[114,111,117,116,101]⟩:ByteArray)).getD (Int.toNat v13) default).getD (Int.toNat 2) default)]).length*16≤140737488355328) (ai (iok (v13+1) (by omega)) (bk73_0 lines i0 m0 (addrs1++[(((Qa lines (⟨#[114,111,117,116,101]⟩:ByteArray)).getD (Int.toNat v13) default).getD (Int.toNat 2) default)]) (v13+1) hl0 (Qe hI0 (condT h3 rfl)) (by refine ⟨?_,?_,?_,?_,?_⟩ <;> first | omega | (simp only [lens,ib] at*<;> omega) | exact Qmu (by assumption) (Yq lines _ (by first | omega | (simp only [lens,ib] at*<;> omega)) _ _) | exact Qwx))))))) (fun h3 _=>have hD0_4:Qyx lines=Lp.done (addrs1,v13):=Qk hI0 (condF h3 rfl); jn73_0 lines addrs1 (Eq.symm (finD hD0_4 rfl)) (by refine ⟨?_,?_⟩ <;> omega))) (i0.1-1) i0.2.1 i0.2.2 (un73_0 lines i0 hi0)))) (fun (j:List ByteArray) (hj:Qkz lines j)=>(fun (addrs:List ByteArray) (hJ0_5:(Pa lines)=Lp.done addrs) (hw:Qkw lines addrs)=>have _:=hw.1; have _:=hw.2; ai (Hf lines (⟨#[112,101,101,114]⟩:ByteArray) (by omega) (by assumption) (by omega) (fun gv6=>kn addrs fun _=>kn (Qa lines (⟨#[112,101,101,114]⟩:ByteArray)) fun _=>ai (en73_1 lines addrs (by refine ⟨?_,?_,?_,?_⟩ <;> omega)) (fun (i1:Nat×(List ByteArray×Int)) (hi1:Qbq lines addrs i1)=>(fun (m1:Nat) (addrs3:List ByteArray) (v27:Int) (hh1:Uch lines addrs i1 m1 addrs3 v27)=>have hI1:=hh1.1; have hl1:=hh1.2.1; have _:=hh1.2.2.1; have _:=hh1.2.2.2.1; have _:=hh1.2.2.2.2.1; have _:=hh1.2.2.2.2.2.1; have _:=hh1.2.2.2.2.2.2; ifd (v27<((Qa lines (⟨#[112,101,101,114]⟩:ByteArray)).length:Int)) (fun h8 _=>ai (by (omega):0≤v27∧v27<((Qa lines (⟨#[112,101,101,114]⟩:ByteArray)).length:Int)) (ai (by (have h9:=Qpi lines (by omega) (Int.toNat v27) (by omega); unfold Wc at h9; omega):0≤(1:Int)∧(1:Int)<(((Qa lines (⟨#[112,101,101,114]⟩:ByteArray)).getD (Int.toNat v27) default).length:Int)) (ai (appr 1 eStr addrs3 [(((Qa lines (⟨#[112,101,101,114]⟩:ByteArray)).getD (Int.toNat v27) default).getD (Int.toNat 1) default)] fun _=>rfl) (ai (by (try simp only [lens]); omega:(addrs3++[(((Qa lines (⟨#[112,101,101,114]⟩:ByteArray)).getD (Int.toNat v27) default).getD (Int.toNat 1) default)]).length*16≤140737488355328) (ai (iok (v27+1) (by omega)) (bk73_1 lines addrs i1 m1 (addrs3++[(((Qa lines (⟨#[112,101,101,114]⟩:ByteArray)).getD (Int.toNat v27) default).getD (Int.toNat 1) default)]) (v27+1) hl1 (Qe hI1 (condT h8 rfl)) (by refine ⟨?_,?_,?_,?_,?_⟩ <;> first | omega | (simp only [lens,ib] at*<;> omega) | exact Qmu (by assumption) (Yq lines _ (by first | omega | (simp only [lens,ib] at*<;> omega)) _ _) | assumption))))))) (fun h8 _=>have hD1_9:Qvs lines addrs=Lp.done (addrs3,v27):=Qk hI1 (condF h8 rfl); jn73_1 lines addrs addrs3 (Eq.symm (finD hD1_9 rfl)) (by refine ⟨?_,?_⟩ <;> omega))) (i1.1-1) i1.2.1 i1.2.2 (un73_1 lines addrs i1 hi1)))) (fun (j:List ByteArray) (hj:Qog lines addrs j)=>(fun (addrs2:List ByteArray) (hJ1_10:(Hr lines addrs)=Lp.done addrs2) (hw:Qmp lines addrs addrs2)=>have _:=hw.1; have _:=hw.2; kc94a lines (by omega) (by omega) (by assumption) (ai (by exact fun k _=>⟨(by assumption:∀ k:Nat,(addrs2.getD k default).size≤1048576) k,Zo lines⟩:∀ k:Nat,k<addrs2.length→(fun (x0:ByteArray)=>x0.size≤1048576∧(∀ k:Nat,0≤((Qo lines).getD k default).Len∧((Qo lines).getD k default).Len≤16)) (addrs2.getD k default)) (ai (Imp.refl (.l 1 eStr addrs2)) (ai (Eq.refl (Ze (fun (x0:ByteArray)=>x0.size≤1048576∧(∀ k:Nat,0≤((Qo lines).getD k default).Len∧((Qo lines).getD k default).Len≤16)) (fun (x0:ByteArray)=>F96 x0 (Qo lines)))) (ai trivial (ai (Imps.refl [.l 2 Qi (Qo lines)]) (fiB (addrs2.any (fun (x0:ByteArray)=>F96 x0 (Qo lines))) (F73 lines) (finD hJ0_5 (finD hJ1_10 rfl))))))))) j hj.1 hj.2)) j hj.1 hj.2))) (by kernel_rfl)
abbrev kh99f (p:Qb) (addr:Int):Hint false Tryz.prog:=.call 99 (S99 p addr) ((ok99 p addr).to false) none
theorem kg17 {K_:Prop} (c_ b_:Bool) (word:ByteArray) (p_:c_=b_→word.size≤1048576) (k_:K_):(c_=b_→word.size≤1048576)∧(c_=b_→Imp (.v (.string word)) (.v (.string word)))∧K_:=⟨p_,fun _=>Imp.refl _,k_⟩
def Xw (lines:List ByteArray) (v64:Int):Int→Lp Int Bool:=fun v89 =>
 bif (decide (v89<(((Qa lines (⟨#[100,111,111,114]⟩:ByteArray)).take (Int.toNat v64)).length:Int))) then (bif (bif (bif (((((Qa lines (⟨#[100,111,111,114]⟩:ByteArray)).take (Int.toNat v64)).getD (Int.toNat v89) default).getD (Int.toNat 1) default).toList==(((Qa lines (⟨#[100,111,111,114]⟩:ByteArray)).getD (Int.toNat v64) default).getD (Int.toNat 1) default).toList) then (((((Qa lines (⟨#[100,111,111,114]⟩:ByteArray)).take (Int.toNat v64)).getD (Int.toNat v89) default).getD (Int.toNat 3) default).toList==(((Qa lines (⟨#[100,111,111,114]⟩:ByteArray)).getD (Int.toNat v64) default).getD (Int.toNat 3) default).toList) else false) then (((((Qa lines (⟨#[100,111,111,114]⟩:ByteArray)).take (Int.toNat v64)).getD (Int.toNat v89) default).getD (Int.toNat 4) default).toList==(((Qa lines (⟨#[100,111,111,114]⟩:ByteArray)).getD (Int.toNat v64) default).getD (Int.toNat 4) default).toList) else false) then (.ret true) else (.next (v89+1))) else (.done v89)
def Bi (lines:List ByteArray):Int→Lp Int Bool:=fun v64 =>
 bif (decide (v64<((Qa lines (⟨#[100,111,111,114]⟩:ByteArray)).length:Int))) then (bif (bif (!(F99 (F100 (((Qa lines (⟨#[110,97,116]⟩:ByteArray)).getD (Int.toNat 0) default).getD (Int.toNat 1) default)).1 (F16 (((Qa lines (⟨#[100,111,111,114]⟩:ByteArray)).getD (Int.toNat v64) default).getD (Int.toNat 3) default)))) then true else (decide ((F17 (((Qa lines (⟨#[110,97,116]⟩:ByteArray)).getD (Int.toNat 0) default).getD (Int.toNat 3) default))≤(F17 (((Qa lines (⟨#[100,111,111,114]⟩:ByteArray)).getD (Int.toNat v64) default).getD (Int.toNat 2) default))∧(F17 (((Qa lines (⟨#[100,111,111,114]⟩:ByteArray)).getD (Int.toNat v64) default).getD (Int.toNat 2) default))≤(F17 (((Qa lines (⟨#[110,97,116]⟩:ByteArray)).getD (Int.toNat 0) default).getD (Int.toNat 4) default))))) then (.ret true) else ((runL (Xw lines v64) ((Int.toNat ((((Qa lines (⟨#[100,111,111,114]⟩:ByteArray)).take (Int.toNat v64)).length:Int)-0))+1) 0).fin Lp.ret (fun v89=>.next (v64+1)))) else (.done v64)
def F74 (lines:List ByteArray):Bool :=
 bif (((Qa lines (⟨#[110,97,116]⟩:ByteArray)).length:Int)==0) then (decide (((Qa lines (⟨#[100,111,111,114]⟩:ByteArray)).length:Int)>0)) else (bif (bif (bif (F99 (F100 (((Qa lines (⟨#[110,97,116]⟩:ByteArray)).getD (Int.toNat 0) default).getD (Int.toNat 1) default)).1 (F16 (((Qa lines (⟨#[110,97,116]⟩:ByteArray)).getD (Int.toNat 0) default).getD (Int.toNat 2) default))) then true else decide ((F17 (((Qa lines (⟨#[110,97,116]⟩:ByteArray)).getD (Int.toNat 0) default).getD (Int.toNat 3) default))>(F17 (((Qa lines (⟨#[110,97,116]⟩:ByteArray)).getD (Int.toNat 0) default).getD (Int.toNat 4) default)))) then true else decide (((Qa lines (⟨#[100,111,111,114]⟩:ByteArray)).length:Int)>6)) then true else ((runL (Bi lines) ((Int.toNat (((Qa lines (⟨#[100,111,111,114]⟩:ByteArray)).length:Int)-0))+1) 0).fin (fun r=>r) (fun v64=>false)))
abbrev Qba (lines:List ByteArray) (v64:Int):Nat×Int:=(((Int.toNat ((((Qa lines (⟨#[100,111,111,114]⟩:ByteArray)).take (Int.toNat v64)).length:Int)-0))+1),0)
abbrev Qlb (lines:List ByteArray) (v64:Int) (m39:Nat) (v89:Int):Prop:=Int.toNat ((((Qa lines (⟨#[100,111,111,114]⟩:ByteArray)).take (Int.toNat v64)).length:Int)-v89)<m39∧(0:Int)≤v89
abbrev Ucp (lines:List ByteArray) (v64:Int):Lp Int Bool:=LpX (Xw lines v64) (Qba lines v64)
abbrev Qcg (lines:List ByteArray) (v64:Int) (i:Nat×Int):Prop:=LpJ (Xw lines v64) (Qba lines v64) i (Qlb lines v64 i.1 i.2)
abbrev Ubl (lines:List ByteArray) (v64:Int) (i:Nat×Int) (m39:Nat) (v89:Int):Prop:=LpH (Xw lines v64) (Qba lines v64) i m39 v89 (Qlb lines v64 (m39+1) v89)
abbrev Uat (lines:List ByteArray) (v64:Int) (v89:Int) (v89_:Int) (K39:Prop):Prop:=(Rf (.int .i64 (F17 (((Qa lines (⟨#[110,97,116]⟩:ByteArray)).getD (Int.toNat 0) default).getD (Int.toNat 3) default))))∧(Rf (.int .i64 (F17 (((Qa lines (⟨#[110,97,116]⟩:ByteArray)).getD (Int.toNat 0) default).getD (Int.toNat 4) default))))∧(Rf (.int .i64 ((Qa lines (⟨#[100,111,111,114]⟩:ByteArray)).length:Int)))∧(Rf (.int .i64 v64))∧(Rf (.int .i64 (((Qa lines (⟨#[100,111,111,114]⟩:ByteArray)).take (Int.toNat v64)).length:Int)))∧((.int .i64 v89:Value)=.int .i64 v89_)∧(Im (.l 1 (eL 1 eStr) (Qa lines (⟨#[100,111,111,114]⟩:ByteArray))))∧(Rf (.int .i64 (F100 (((Qa lines (⟨#[110,97,116]⟩:ByteArray)).getD (Int.toNat 0) default).getD (Int.toNat 1) default)).1.Addr))∧(Rf (.int .i64 (F100 (((Qa lines (⟨#[110,97,116]⟩:ByteArray)).getD (Int.toNat 0) default).getD (Int.toNat 1) default)).1.Len))∧(Im (.l 1 eStr ((Qa lines (⟨#[100,111,111,114]⟩:ByteArray)).getD (Int.toNat v64) default)))∧(Im (.l 1 (eL 1 eStr) ((Qa lines (⟨#[100,111,111,114]⟩:ByteArray)).take (Int.toNat v64))))∧K39
theorem un74_1 (lines:List ByteArray) (v64:Int) (i:Nat×Int) (h:Qcg lines v64 i):Ubl lines v64 i (i.1-1) i.2:=⟨hd1 h.1 h.2.1,hd3 h.2.1,hd2 h.2.1,h.2.2⟩
theorem bk74_1 (lines:List ByteArray) (v64:Int) (i:Nat×Int) (m39:Nat) (v89:Int) (hl:m39<i.1) (e:runL (Xw lines v64) m39 v89=Ucp lines v64) (h:Qlb lines v64 m39 v89):∃ j:Nat×Int,Uat lines v64 v89 j.2 (Qcg lines v64 j∧j.1<i.1):=⟨(m39,v89),rfl,rfl,rfl,rfl,rfl,rfl,Imp.refl _,rfl,rfl,Imp.refl _,Imp.refl _,⟨e,h⟩,hl⟩
theorem en74_1 (lines:List ByteArray) (v64:Int) (h:(0:Int)≤0):Uat lines v64 0 0 (Qcg lines v64 (Qba lines v64)):=⟨rfl,rfl,rfl,rfl,rfl,rfl,Imp.refl _,rfl,rfl,Imp.refl _,Imp.refl _,rfl,Nat.lt_succ_self _,h⟩
abbrev Qbn (lines:List ByteArray):Nat×Int:=(((Int.toNat (((Qa lines (⟨#[100,111,111,114]⟩:ByteArray)).length:Int)-0))+1),0)
abbrev Qkr (lines:List ByteArray) (m39:Nat) (v64:Int):Prop:=Int.toNat (((Qa lines (⟨#[100,111,111,114]⟩:ByteArray)).length:Int)-v64)<m39∧(0:Int)≤v64
abbrev Qvy (lines:List ByteArray):Lp Int Bool:=LpX (Bi lines) (Qbn lines)
abbrev Er (lines:List ByteArray) (i:Nat×Int):Prop:=LpJ (Bi lines) (Qbn lines) i (Qkr lines i.1 i.2)
abbrev Que (lines:List ByteArray) (i:Nat×Int) (m39:Nat) (v64:Int):Prop:=LpH (Bi lines) (Qbn lines) i m39 v64 (Qkr lines (m39+1) v64)
abbrev Qzl (lines:List ByteArray) (v64:Int) (v64_:Int) (K39:Prop):Prop:=(Rf (.int .i64 (F17 (((Qa lines (⟨#[110,97,116]⟩:ByteArray)).getD (Int.toNat 0) default).getD (Int.toNat 3) default))))∧(Rf (.int .i64 (F17 (((Qa lines (⟨#[110,97,116]⟩:ByteArray)).getD (Int.toNat 0) default).getD (Int.toNat 4) default))))∧(Rf (.int .i64 ((Qa lines (⟨#[100,111,111,114]⟩:ByteArray)).length:Int)))∧((.int .i64 v64:Value)=.int .i64 v64_)∧(Im (.l 1 (eL 1 eStr) (Qa lines (⟨#[100,111,111,114]⟩:ByteArray))))∧(Rf (.int .i64 (F100 (((Qa lines (⟨#[110,97,116]⟩:ByteArray)).getD (Int.toNat 0) default).getD (Int.toNat 1) default)).1.Addr))∧(Rf (.int .i64 (F100 (((Qa lines (⟨#[110,97,116]⟩:ByteArray)).getD (Int.toNat 0) default).getD (Int.toNat 1) default)).1.Len))∧K39
theorem un74_0 (lines:List ByteArray) (i:Nat×Int) (h:Er lines i):Que lines i (i.1-1) i.2:=⟨hd1 h.1 h.2.1,hd3 h.2.1,hd2 h.2.1,h.2.2⟩
theorem bk74_0 (lines:List ByteArray) (i:Nat×Int) (m39:Nat) (v64:Int) (hl:m39<i.1) (e:runL (Bi lines) m39 v64=Qvy lines) (h:Qkr lines m39 v64):∃ j:Nat×Int,Qzl lines v64 j.2 (Er lines j∧j.1<i.1):=⟨(m39,v64),rfl,rfl,rfl,rfl,Imp.refl _,rfl,rfl,⟨e,h⟩,hl⟩
theorem en74_0 (lines:List ByteArray) (h:(0:Int)≤0):Qzl lines 0 0 (Er lines (Qbn lines)):=⟨rfl,rfl,rfl,rfl,Imp.refl _,rfl,rfl,rfl,Nat.lt_succ_self _,h⟩
def S74 (lines:List ByteArray):Spec:=⟨[.r (.c (.l 1 eStr lines))],.v (.bool (F74 lines)),F22 lines=0∧lines.length≤16∧(∀ k:Nat,(lines.getD k default).size≤1048576)⟩
theorem ok74 (lines:List ByteArray):(S74 lines).ok Tryz.prog 74 false :=
 Qn mixed (fn:=Tryz.f74) (ct:=.seqk [(0,0)] .no (.seq (.reg [(1,Vy lines (⟨#[110,97,116]⟩:ByteArray)),(3,Vy lines (⟨#[100,111,111,114]⟩:ByteArray))]) (.seq (.seq .no (.cond (.seq .no .no) .no)) (.seq (.reg [(5,Qwv (((Qa lines (⟨#[110,97,116]⟩:ByteArray)).getD (Int.toNat 0) default).getD (Int.toNat 1) default))]) (.seq (.reg [(5,kh17 (((Qa lines (⟨#[110,97,116]⟩:ByteArray)).getD (Int.toNat 0) default).getD (Int.toNat 3) default)),(11,kh17 (((Qa lines (⟨#[110,97,116]⟩:ByteArray)).getD (Int.toNat 0) default).getD (Int.toNat 4) default))]) (.seq (.seq (.reg [(6,kh16 (((Qa lines (⟨#[110,97,116]⟩:ByteArray)).getD (Int.toNat 0) default).getD (Int.toNat 2) default)),(7,kh99f (F100 (((Qa lines (⟨#[110,97,116]⟩:ByteArray)).getD (Int.toNat 0) default).getD (Int.toNat 1) default)).1 (F16 (((Qa lines (⟨#[110,97,116]⟩:ByteArray)).getD (Int.toNat 0) default).getD (Int.toNat 2) default)))]) (.cond (.seq .no .no) .no)) (.seq (.seqk [(4,0),(62,0)] .no (.blk (.loop (ι:=Nat×Int) (fun i=>(fun (v64:Int)=>(⟨[(4,some (.h 0 0)),(5,some (.p 1 0)),(7,some (.v (vI (F17 (((Qa lines (⟨#[110,97,116]⟩:ByteArray)).getD (Int.toNat 0) default).getD (Int.toNat 3) default))))),(8,some (.v (vI (F17 (((Qa lines (⟨#[110,97,116]⟩:ByteArray)).getD (Int.toNat 0) default).getD (Int.toNat 4) default))))),(62,some (.h 0 0)),(63,some (.v (vI ((Qa lines (⟨#[100,111,111,114]⟩:ByteArray)).length:Int)))),(64,some (.v (vI v64)))],[(0,some (.own 0 (.l 1 (eL 1 eStr) (Qa lines (⟨#[100,111,111,114]⟩:ByteArray))))),(1,some (.box 102 [.v (vI (F100 (((Qa lines (⟨#[110,97,116]⟩:ByteArray)).getD (Int.toNat 0) default).getD (Int.toNat 1) default)).1.Addr),.v (vI (F100 (((Qa lines (⟨#[110,97,116]⟩:ByteArray)).getD (Int.toNat 0) default).getD (Int.toNat 1) default)).1.Len)]))],2⟩:St)) i.2) (Er lines) (fun i=>i.1) (Qbn lines) (fun i=>(fun (v64:Int)=>(.seq .no (.seq (.cond .no .no) (.seq (.blk (.seq (.reg [(2,.sh)]) (.seq (.seq (.reg [(4,kh16 (((Qa lines (⟨#[100,111,111,114]⟩:ByteArray)).getD (Int.toNat v64) default).getD (Int.toNat 3) default)),(5,kh99f (F100 (((Qa lines (⟨#[110,97,116]⟩:ByteArray)).getD (Int.toNat 0) default).getD (Int.toNat 1) default)).1 (F16 (((Qa lines (⟨#[100,111,111,114]⟩:ByteArray)).getD (Int.toNat v64) default).getD (Int.toNat 3) default))),(11,kh17 (((Qa lines (⟨#[100,111,111,114]⟩:ByteArray)).getD (Int.toNat v64) default).getD (Int.toNat 2) default)),(14,Qav (F17 (((Qa lines (⟨#[100,111,111,114]⟩:ByteArray)).getD (Int.toNat v64) default).getD (Int.toNat 2) default)) (F17 (((Qa lines (⟨#[110,97,116]⟩:ByteArray)).getD (Int.toNat 0) default).getD (Int.toNat 3) default)) (F17 (((Qa lines (⟨#[110,97,116]⟩:ByteArray)).getD (Int.toNat 0) default).getD (Int.toNat 4) default)))]) (.cond (.seq .no .no) .no)) (.seqk [(10,0),(87,0)] .no (.blk (.loop (ι:=Nat×Int) (fun i=>(fun (v89:Int)=>(⟨[(4,some (.h 0 0)),(5,some (.p 1 0)),(7,some (.v (vI (F17 (((Qa lines (⟨#[110,97,116]⟩:ByteArray)).getD (Int.toNat 0) default).getD (Int.toNat 3) default))))),(8,some (.v (vI (F17 (((Qa lines (⟨#[110,97,116]⟩:ByteArray)).getD (Int.toNat 0) default).getD (Int.toNat 4) default))))),(10,some (.h 2 0)),(62,some (.h 0 0)),(63,some (.v (vI ((Qa lines (⟨#[100,111,111,114]⟩:ByteArray)).length:Int)))),(64,some (.v (vI v64))),(87,some (.h 3 0)),(88,some (.v (vI (((Qa lines (⟨#[100,111,111,114]⟩:ByteArray)).take (Int.toNat v64)).length:Int)))),(89,some (.v (vI v89)))],[(0,some (.own 0 (.l 1 (eL 1 eStr) (Qa lines (⟨#[100,111,111,114]⟩:ByteArray))))),(1,some (.box 102 [.v (vI (F100 (((Qa lines (⟨#[110,97,116]⟩:ByteArray)).getD (Int.toNat 0) default).getD (Int.toNat 1) default)).1.Addr),.v (vI (F100 (((Qa lines (⟨#[110,97,116]⟩:ByteArray)).getD (Int.toNat 0) default).getD (Int.toNat 1) default)).1.Len)])),(2,some (.shr (some (0,0)) (.l 1 eStr ((Qa lines (⟨#[100,111,111,114]⟩:ByteArray)).getD (Int.toNat v64) default)))),(3,some (.shr (some (0,0)) (.l 1 (eL 1 eStr) ((Qa lines (⟨#[100,111,111,114]⟩:ByteArray)).take (Int.toNat v64)))))],4⟩:St)) i.2) (Qcg lines v64) (fun i=>i.1) (Qba lines v64) (fun i=>(fun (v89:Int)=>(.seq .no (.seq (.cond .no .no) (.seq (.blk (.seq .no (.seq .no (.cond (.seq .no .no) .no)))) (.reg [(0,.bnd)]))))) i.2))))))) (.reg [(0,.bnd)]))))) i.2)))) (.seq .no .no)))))))) Tryz.func74 (fun (hp:F22 lines=0∧lines.length≤16∧(∀ k:Nat,(lines.getD k default).size≤1048576))=>have hpre0:=hp.1; have hpre1:=hp.2.1; have hpre2:=hp.2.2; kn lines fun _=>Hf lines (⟨#[110,97,116]⟩:ByteArray) (by first | omega | (simp only [lens,ib] at*<;> omega)) (by first | assumption | exact hpre2 _ | exact fun k _=>hpre2 k | (intros; exact trivial) | (intros; exact Nat.zero_le _)) (by first | omega | (simp only [lens,ib] at*<;> omega)) (fun gv1=>Hf lines (⟨#[100,111,111,114]⟩:ByteArray) (by first | omega | (simp only [lens,ib] at*<;> omega)) (by first | assumption | exact hpre2 _ | exact fun k _=>hpre2 k | (intros; exact trivial) | (intros; exact Nat.zero_le _)) (by first | omega | (simp only [lens,ib] at*<;> omega)) (fun gv2=>ife ((Qa lines (⟨#[110,97,116]⟩:ByteArray)).length:Int) 0 (fun h3 _=>fiB (decide (((Qa lines (⟨#[100,111,111,114]⟩:ByteArray)).length:Int)>0)) (F74 lines) (condT h3 rfl)) (fun h3 _=>ai (by (first | omega | (have h9:=Zc lines (by first | omega | (simp only [lens,ib] at*<;> omega)) (Int.toNat 0) (by first | omega | (simp only [lens,ib] at*<;> omega)); unfold natP at h9; omega) | (have h9:=Uv lines (by first | omega | (simp only [lens,ib] at*<;> omega)) (Int.toNat v64) (by first | omega | (simp only [lens,ib] at*<;> omega)); unfold Ug at h9; omega) | (have h9:=Up lines (by first | omega | (simp only [lens,ib] at*<;> omega)) (Int.toNat v64) (Int.toNat v89) (by first | omega | (simp only [lens,ib] at*<;> omega)); unfold Ug at h9; omega)):0≤(0:Int)∧(0:Int)<((Qa lines (⟨#[110,97,116]⟩:ByteArray)).length:Int)) (ai (by (first | omega | (have h9:=Zc lines (by first | omega | (simp only [lens,ib] at*<;> omega)) (Int.toNat 0) (by first | omega | (simp only [lens,ib] at*<;> omega)); unfold natP at h9; omega) | (have h9:=Uv lines (by first | omega | (simp only [lens,ib] at*<;> omega)) (Int.toNat v64) (by first | omega | (simp only [lens,ib] at*<;> omega)); unfold Ug at h9; omega) | (have h9:=Up lines (by first | omega | (simp only [lens,ib] at*<;> omega)) (Int.toNat v64) (Int.toNat v89) (by first | omega | (simp only [lens,ib] at*<;> omega)); unfold Ug at h9; omega)):0≤(1:Int)∧(1:Int)<(((Qa lines (⟨#[110,97,116]⟩:ByteArray)).getD (Int.toNat 0) default).length:Int)) (Ual (((Qa lines (⟨#[110,97,116]⟩:ByteArray)).getD (Int.toNat 0) default).getD (Int.toNat 1) default) (by exact Yq lines _ (by first | omega | (simp only [lens,ib] at*<;> omega)) _ _) (ai (by (first | omega | (have h9:=Zc lines (by first | omega | (simp only [lens,ib] at*<;> omega)) (Int.toNat 0) (by first | omega | (simp only [lens,ib] at*<;> omega)); unfold natP at h9; omega) | (have h9:=Uv lines (by first | omega | (simp only [lens,ib] at*<;> omega)) (Int.toNat v64) (by first | omega | (simp only [lens,ib] at*<;> omega)); unfold Ug at h9; omega) | (have h9:=Up lines (by first | omega | (simp only [lens,ib] at*<;> omega)) (Int.toNat v64) (Int.toNat v89) (by first | omega | (simp only [lens,ib] at*<;> omega)); unfold Ug at h9; omega)):0≤(0:Int)∧(0:Int)<((Qa lines (⟨#[110,97,116]⟩:ByteArray)).length:Int)) (ai (by (first | omega | (have h9:=Zc lines (by first | omega | (simp only [lens,ib] at*<;> omega)) (Int.toNat 0) (by first | omega | (simp only [lens,ib] at*<;> omega)); unfold natP at h9; omega) | (have h9:=Uv lines (by first | omega | (simp only [lens,ib] at*<;> omega)) (Int.toNat v64) (by first | omega | (simp only [lens,ib] at*<;> omega)); unfold Ug at h9; omega) | (have h9:=Up lines (by first | omega | (simp only [lens,ib] at*<;> omega)) (Int.toNat v64) (Int.toNat v89) (by first | omega | (simp only [lens,ib] at*<;> omega)); unfold Ug at h9; omega)):0≤(3:Int)∧(3:Int)<(((Qa lines (⟨#[110,97,116]⟩:ByteArray)).getD (Int.toNat 0) default).length:Int)) (kc17 (((Qa lines (⟨#[110,97,116]⟩:ByteArray)).getD (Int.toNat 0) default).getD (Int.toNat 3) default) (by exact Yq lines _ (by first | omega | (simp only [lens,ib] at*<;> omega)) _ _) (ai (by (first | omega | (have h9:=Zc lines (by first | omega | (simp only [lens,ib] at*<;> omega)) (Int.toNat 0) (by first | omega | (simp only [lens,ib] at*<;> omega)); unfold natP at h9; omega) | (have h9:=Uv lines (by first | omega | (simp only [lens,ib] at*<;> omega)) (Int.toNat v64) (by first | omega | (simp only [lens,ib] at*<;> omega)); unfold Ug at h9; omega) | (have h9:=Up lines (by first | omega | (simp only [lens,ib] at*<;> omega)) (Int.toNat v64) (Int.toNat v89) (by first | omega | (simp only [lens,ib] at*<;> omega)); unfold Ug at h9; omega)):0≤(0:Int)∧(0:Int)<((Qa lines (⟨#[110,97,116]⟩:ByteArray)).length:Int)) (ai (by (first | omega | (have h9:=Zc lines (by first | omega | (simp only [lens,ib] at*<;> omega)) (Int.toNat 0) (by first | omega | (simp only [lens,ib] at*<;> omega)); unfold natP at h9; omega) | (have h9:=Uv lines (by first | omega | (simp only [lens,ib] at*<;> omega)) (Int.toNat v64) (by first | omega | (simp only [lens,ib] at*<;> omega)); unfold Ug at h9; omega) | (have h9:=Up lines (by first | omega | (simp only [lens,ib] at*<;> omega)) (Int.toNat v64) (Int.toNat v89) (by first | omega | (simp only [lens,ib] at*<;> omega)); unfold Ug at h9; omega)):0≤(4:Int)∧(4:Int)<(((Qa lines (⟨#[110,97,116]⟩:ByteArray)).getD (Int.toNat 0) default).length:Int)) (kc17 (((Qa lines (⟨#[110,97,116]⟩:ByteArray)).getD (Int.toNat 0) default).getD (Int.toNat 4) default) (by exact Yq lines _ (by first | omega | (simp only [lens,ib] at*<;> omega)) _ _) (ai (by (first | omega | (have h9:=Zc lines (by first | omega | (simp only [lens,ib] at*<;> omega)) (Int.toNat 0) (by first | omega | (simp only [lens,ib] at*<;> omega)); unfold natP at h9; omega) | (have h9:=Uv lines (by first | omega | (simp only [lens,ib] at*<;> omega)) (Int.toNat v64) (by first | omega | (simp only [lens,ib] at*<;> omega)); unfold Ug at h9; omega) | (have h9:=Up lines (by first | omega | (simp only [lens,ib] at*<;> omega)) (Int.toNat v64) (Int.toNat v89) (by first | omega | (simp only [lens,ib] at*<;> omega)); unfold Ug at h9; omega)):0≤(0:Int)∧(0:Int)<((Qa lines (⟨#[110,97,116]⟩:ByteArray)).length:Int)) (ai (by (first | omega | (have h9:=Zc lines (by first | omega | (simp only [lens,ib] at*<;> omega)) (Int.toNat 0) (by first | omega | (simp only [lens,ib] at*<;> omega)); unfold natP at h9; omega) | (have h9:=Uv lines (by first | omega | (simp only [lens,ib] at*<;> omega)) (Int.toNat v64) (by first | omega | (simp only [lens,ib] at*<;> omega)); unfold Ug at h9; omega) | (have h9:=Up lines (by first | omega | (simp only [lens,ib] at*<;> omega)) (Int.toNat v64) (Int.toNat v89) (by first | omega | (simp only [lens,ib] at*<;> omega)); unfold Ug at h9; omega)):0≤(2:Int)∧(2:Int)<(((Qa lines (⟨#[110,97,116]⟩:ByteArray)).getD (Int.toNat 0) default).length:Int)) (kc16 (((Qa lines (⟨#[110,97,116]⟩:ByteArray)).getD (Int.toNat 0) default).getD (Int.toNat 2) default) (by exact Yq lines _ (by first | omega | (simp only [lens,ib] at*<;> omega)) _ _) (kc99 (F100 (((Qa lines (⟨#[110,97,116]⟩:ByteArray)).getD (Int.toNat 0) default).getD (Int.toNat 1) default)).1 (F16 (((Qa lines (⟨#[110,97,116]⟩:ByteArray)).getD (Int.toNat 0) default).getD (Int.toNat 2) default)) (by first | exact (Yt _).1 | exact (Yt _).2.1) (by first | exact (Yt _).1 | exact (Yt _).2.1) (ifb (bif (bif (F99 (F100 (((Qa lines (⟨#[110,97,116]⟩:ByteArray)).getD (Int.toNat 0) default).getD (Int.toNat 1) default)).1 (F16 (((Qa lines (⟨#[110,97,116]⟩:ByteArray)).getD (Int.toNat 0) default).getD (Int.toNat 2) default))) then true else decide ((F17 (((Qa lines (⟨#[110,97,116]⟩:ByteArray)).getD (Int.toNat 0) default).getD (Int.toNat 3) default))>(F17 (((Qa lines (⟨#[110,97,116]⟩:ByteArray)).getD (Int.toNat 0) default).getD (Int.toNat 4) default)))) then true else decide (((Qa lines (⟨#[100,111,111,114]⟩:ByteArray)).length:Int)>6)) (fun h4=>fiB true (F74 lines) (condF h3 (condT h4 rfl))) (fun h4=>have _:¬ (F17 (((Qa lines (⟨#[110,97,116]⟩:ByteArray)).getD (Int.toNat 0) default).getD (Int.toNat 3) default))>(F17 (((Qa lines (⟨#[110,97,116]⟩:ByteArray)).getD (Int.toNat 0) default).getD (Int.toNat 4) default)):=of_decide_eq_false (orF2 (orF1 h4)); have _:¬ ((Qa lines (⟨#[100,111,111,114]⟩:ByteArray)).length:Int)>6:=of_decide_eq_false (orF2 h4); kn (Qa lines (⟨#[100,111,111,114]⟩:ByteArray)) fun _=>kn (Qa lines (⟨#[100,111,111,114]⟩:ByteArray)) fun _=>ai (en74_0 lines (by first | omega | (simp only [lens,ib] at*<;> omega))) (fun (i0:Nat×Int) (hi0:Er lines i0)=>(fun (m0:Nat) (v64:Int) (hh0:Que lines i0 m0 v64)=>have hI0:=hh0.1; have hl0:=hh0.2.1; have _:=hh0.2.2.1; have _:=hh0.2.2.2; ifd (v64<((Qa lines (⟨#[100,111,111,114]⟩:ByteArray)).length:Int)) (fun h6 _=>ai (by (first | omega | (have h9:=Zc lines (by first | omega | (simp only [lens,ib] at*<;> omega)) (Int.toNat 0) (by first | omega | (simp only [lens,ib] at*<;> omega)); unfold natP at h9; omega) | (have h9:=Uv lines (by first | omega | (simp only [lens,ib] at*<;> omega)) (Int.toNat v64) (by first | omega | (simp only [lens,ib] at*<;> omega)); unfold Ug at h9; omega) | (have h9:=Up lines (by first | omega | (simp only [lens,ib] at*<;> omega)) (Int.toNat v64) (Int.toNat v89) (by first | omega | (simp only [lens,ib] at*<;> omega)); unfold Ug at h9; omega)):0≤v64∧v64<((Qa lines (⟨#[100,111,111,114]⟩:ByteArray)).length:Int)) (ai (by (first | omega | (have h9:=Zc lines (by first | omega | (simp only [lens,ib] at*<;> omega)) (Int.toNat 0) (by first | omega | (simp only [lens,ib] at*<;> omega)); unfold natP at h9; omega) | (have h9:=Uv lines (by first | omega | (simp only [lens,ib] at*<;> omega)) (Int.toNat v64) (by first | omega | (simp only [lens,ib] at*<;> omega)); unfold Ug at h9; omega) | (have h9:=Up lines (by first | omega | (simp only [lens,ib] at*<;> omega)) (Int.toNat v64) (Int.toNat v89) (by first | omega | (simp only [lens,ib] at*<;> omega)); unfold Ug at h9; omega)):0≤(3:Int)∧(3:Int)<(((Qa lines (⟨#[100,111,111,114]⟩:ByteArray)).getD (Int.toNat v64) default).length:Int)) (kc16 (((Qa lines (⟨#[100,111,111,114]⟩:ByteArray)).getD (Int.toNat v64) default).getD (Int.toNat 3) default) (by exact Yq lines _ (by first | omega | (simp only [lens,ib] at*<;> omega)) _ _) (kc99 (F100 (((Qa lines (⟨#[110,97,116]⟩:ByteArray)).getD (Int.toNat 0) default).getD (Int.toNat 1) default)).1 (F16 (((Qa lines (⟨#[100,111,111,114]⟩:ByteArray)).getD (Int.toNat v64) default).getD (Int.toNat 3) default)) (by first | exact (Yt _).1 | exact (Yt _).2.1) (by first | exact (Yt _).1 | exact (Yt _).2.1) (ai (fun k7:(!(F99 (F100 (((Qa lines (⟨#[110,97,116]⟩:ByteArray)).getD (Int.toNat 0) default).getD (Int.toNat 1) default)).1 (F16 (((Qa lines (⟨#[100,111,111,114]⟩:ByteArray)).getD (Int.toNat v64) default).getD (Int.toNat 3) default))))=false=>(by (first | omega | (have h9:=Zc lines (by first | omega | (simp only [lens,ib] at*<;> omega)) (Int.toNat 0) (by first | omega | (simp only [lens,ib] at*<;> omega)); unfold natP at h9; omega) | (have h9:=Uv lines (by first | omega | (simp only [lens,ib] at*<;> omega)) (Int.toNat v64) (by first | omega | (simp only [lens,ib] at*<;> omega)); unfold Ug at h9; omega) | (have h9:=Up lines (by first | omega | (simp only [lens,ib] at*<;> omega)) (Int.toNat v64) (Int.toNat v89) (by first | omega | (simp only [lens,ib] at*<;> omega)); unfold Ug at h9; omega)):0≤(2:Int)∧(2:Int)<(((Qa lines (⟨#[100,111,111,114]⟩:ByteArray)).getD (Int.toNat v64) default).length:Int))) (kg17 (!(F99 (F100 (((Qa lines (⟨#[110,97,116]⟩:ByteArray)).getD (Int.toNat 0) default).getD (Int.toNat 1) default)).1 (F16 (((Qa lines (⟨#[100,111,111,114]⟩:ByteArray)).getD (Int.toNat v64) default).getD (Int.toNat 3) default)))) false (((Qa lines (⟨#[100,111,111,114]⟩:ByteArray)).getD (Int.toNat v64) default).getD (Int.toNat 2) default) (fun k8=>(by exact Yq lines _ (by first | omega | (simp only [lens,ib] at*<;> omega)) _ _)) (Qpc (!(F99 (F100 (((Qa lines (⟨#[110,97,116]⟩:ByteArray)).getD (Int.toNat 0) default).getD (Int.toNat 1) default)).1 (F16 (((Qa lines (⟨#[100,111,111,114]⟩:ByteArray)).getD (Int.toNat v64) default).getD (Int.toNat 3) default)))) false (F17 (((Qa lines (⟨#[100,111,111,114]⟩:ByteArray)).getD (Int.toNat v64) default).getD (Int.toNat 2) default)) (F17 (((Qa lines (⟨#[110,97,116]⟩:ByteArray)).getD (Int.toNat 0) default).getD (Int.toNat 3) default)) (F17 (((Qa lines (⟨#[110,97,116]⟩:ByteArray)).getD (Int.toNat 0) default).getD (Int.toNat 4) default)) (ifb (bif (!(F99 (F100 (((Qa lines (⟨#[110,97,116]⟩:ByteArray)).getD (Int.toNat 0) default).getD (Int.toNat 1) default)).1 (F16 (((Qa lines (⟨#[100,111,111,114]⟩:ByteArray)).getD (Int.toNat v64) default).getD (Int.toNat 3) default)))) then true else (decide ((F17 (((Qa lines (⟨#[110,97,116]⟩:ByteArray)).getD (Int.toNat 0) default).getD (Int.toNat 3) default))≤(F17 (((Qa lines (⟨#[100,111,111,114]⟩:ByteArray)).getD (Int.toNat v64) default).getD (Int.toNat 2) default))∧(F17 (((Qa lines (⟨#[100,111,111,114]⟩:ByteArray)).getD (Int.toNat v64) default).getD (Int.toNat 2) default))≤(F17 (((Qa lines (⟨#[110,97,116]⟩:ByteArray)).getD (Int.toNat 0) default).getD (Int.toNat 4) default))))) (fun h10=>fiB true (F74 lines) (condF h3 (condF h4 (finR (Qr hI0 (condT h6 (condT h10 rfl))) rfl)))) (fun h10=>have _:¬ ((F17 (((Qa lines (⟨#[110,97,116]⟩:ByteArray)).getD (Int.toNat 0) default).getD (Int.toNat 3) default))≤(F17 (((Qa lines (⟨#[100,111,111,114]⟩:ByteArray)).getD (Int.toNat v64) default).getD (Int.toNat 2) default))∧(F17 (((Qa lines (⟨#[100,111,111,114]⟩:ByteArray)).getD (Int.toNat v64) default).getD (Int.toNat 2) default))≤(F17 (((Qa lines (⟨#[110,97,116]⟩:ByteArray)).getD (Int.toNat 0) default).getD (Int.toNat 4) default))):=of_decide_eq_false (orF2 h10); ai (by first | omega | (simp only [lens,ib] at*<;> omega):0≤(0:Int)∧(0:Int)≤v64∧v64≤((Qa lines (⟨#[100,111,111,114]⟩:ByteArray)).length:Int)) (kn ((Qa lines (⟨#[100,111,111,114]⟩:ByteArray)).getD (Int.toNat v64) default) fun _=>kn ((Qa lines (⟨#[100,111,111,114]⟩:ByteArray)).take (Int.toNat v64)) fun _=>ai (en74_1 lines v64 (by first | omega | (simp only [lens,ib] at*<;> omega))) (fun (i1:Nat×Int) (hi1:Qcg lines v64 i1)=>(fun (m1:Nat) (v89:Int) (hh1:Ubl lines v64 i1 m1 v89)=>have hI1:=hh1.1; have hl1:=hh1.2.1; have _:=hh1.2.2.1; have _:=hh1.2.2.2; ifd (v89<(((Qa lines (⟨#[100,111,111,114]⟩:ByteArray)).take (Int.toNat v64)).length:Int)) (fun h12 _=>ai (by (first | omega | (have h9:=Zc lines (by first | omega | (simp only [lens,ib] at*<;> omega)) (Int.toNat 0) (by first | omega | (simp only [lens,ib] at*<;> omega)); unfold natP at h9; omega) | (have h9:=Uv lines (by first | omega | (simp only [lens,ib] at*<;> omega)) (Int.toNat v64) (by first | omega | (simp only [lens,ib] at*<;> omega)); unfold Ug at h9; omega) | (have h9:=Up lines (by first | omega | (simp only [lens,ib] at*<;> omega)) (Int.toNat v64) (Int.toNat v89) (by first | omega | (simp only [lens,ib] at*<;> omega)); unfold Ug at h9; omega)):0≤v89∧v89<(((Qa lines (⟨#[100,111,111,114]⟩:ByteArray)).take (Int.toNat v64)).length:Int)) (ai (by (first | omega | (have h9:=Zc lines (by first | omega | (simp only [lens,ib] at*<;> omega)) (Int.toNat 0) (by first | omega | (simp only [lens,ib] at*<;> omega)); unfold natP at h9; omega) | (have h9:=Uv lines (by first | omega | (simp only [lens,ib] at*<;> omega)) (Int.toNat v64) (by first | omega | (simp only [lens,ib] at*<;> omega)); unfold Ug at h9; omega) | (have h9:=Up lines (by first | omega | (simp only [lens,ib] at*<;> omega)) (Int.toNat v64) (Int.toNat v89) (by first | omega | (simp only [lens,ib] at*<;> omega)); unfold Ug at h9; omega)):0≤(1:Int)∧(1:Int)<((((Qa lines (⟨#[100,111,111,114]⟩:ByteArray)).take (Int.toNat v64)).getD (Int.toNat v89) default).length:Int)) (ai (by (first | omega | (have h9:=Zc lines (by first | omega | (simp only [lens,ib] at*<;> omega)) (Int.toNat 0) (by first | omega | (simp only [lens,ib] at*<;> omega)); unfold natP at h9; omega) | (have h9:=Uv lines (by first | omega | (simp only [lens,ib] at*<;> omega)) (Int.toNat v64) (by first | omega | (simp only [lens,ib] at*<;> omega)); unfold Ug at h9; omega) | (have h9:=Up lines (by first | omega | (simp only [lens,ib] at*<;> omega)) (Int.toNat v64) (Int.toNat v89) (by first | omega | (simp only [lens,ib] at*<;> omega)); unfold Ug at h9; omega)):0≤(1:Int)∧(1:Int)<(((Qa lines (⟨#[100,111,111,114]⟩:ByteArray)).getD (Int.toNat v64) default).length:Int)) (ai (fun k13:(((((Qa lines (⟨#[100,111,111,114]⟩:ByteArray)).take (Int.toNat v64)).getD (Int.toNat v89) default).getD (Int.toNat 1) default).toList==(((Qa lines (⟨#[100,111,111,114]⟩:ByteArray)).getD (Int.toNat v64) default).getD (Int.toNat 1) default).toList)=true=>(by (first | omega | (have h9:=Zc lines (by first | omega | (simp only [lens,ib] at*<;> omega)) (Int.toNat 0) (by first | omega | (simp only [lens,ib] at*<;> omega)); unfold natP at h9; omega) | (have h9:=Uv lines (by first | omega | (simp only [lens,ib] at*<;> omega)) (Int.toNat v64) (by first | omega | (simp only [lens,ib] at*<;> omega)); unfold Ug at h9; omega) | (have h9:=Up lines (by first | omega | (simp only [lens,ib] at*<;> omega)) (Int.toNat v64) (Int.toNat v89) (by first | omega | (simp only [lens,ib] at*<;> omega)); unfold Ug at h9; omega)):0≤(3:Int)∧(3:Int)<((((Qa lines (⟨#[100,111,111,114]⟩:ByteArray)).take (Int.toNat v64)).getD (Int.toNat v89) default).length:Int))) (ai (fun k14:(((((Qa lines (⟨#[100,111,111,114]⟩:ByteArray)).take (Int.toNat v64)).getD (Int.toNat v89) default).getD (Int.toNat 1) default).toList==(((Qa lines (⟨#[100,111,111,114]⟩:ByteArray)).getD (Int.toNat v64) default).getD (Int.toNat 1) default).toList)=true=>(by (first | omega | (have h9:=Zc lines (by first | omega | (simp only [lens,ib] at*<;> omega)) (Int.toNat 0) (by first | omega | (simp only [lens,ib] at*<;> omega)); unfold natP at h9; omega) | (have h9:=Uv lines (by first | omega | (simp only [lens,ib] at*<;> omega)) (Int.toNat v64) (by first | omega | (simp only [lens,ib] at*<;> omega)); unfold Ug at h9; omega) | (have h9:=Up lines (by first | omega | (simp only [lens,ib] at*<;> omega)) (Int.toNat v64) (Int.toNat v89) (by first | omega | (simp only [lens,ib] at*<;> omega)); unfold Ug at h9; omega)):0≤(3:Int)∧(3:Int)<(((Qa lines (⟨#[100,111,111,114]⟩:ByteArray)).getD (Int.toNat v64) default).length:Int))) (ai (fun k15:(bif (((((Qa lines (⟨#[100,111,111,114]⟩:ByteArray)).take (Int.toNat v64)).getD (Int.toNat v89) default).getD (Int.toNat 1) default).toList==(((Qa lines (⟨#[100,111,111,114]⟩:ByteArray)).getD (Int.toNat v64) default).getD (Int.toNat 1) default).toList) then (((((Qa lines (⟨#[100,111,111,114]⟩:ByteArray)).take (Int.toNat v64)).getD (Int.toNat v89) default).getD (Int.toNat 3) default).toList==(((Qa lines (⟨#[100,111,111,114]⟩:ByteArray)).getD (Int.toNat v64) default).getD (Int.toNat 3) default).toList) else false)=true=>have _:(((((Qa lines (⟨#[100,111,111,114]⟩:ByteArray)).take (Int.toNat v64)).getD (Int.toNat v89) default).getD (Int.toNat 1) default).toList==(((Qa lines (⟨#[100,111,111,114]⟩:ByteArray)).getD (Int.toNat v64) default).getD (Int.toNat 1) default).toList)=true:=(Ql k15); have _:(((((Qa lines (⟨#[100,111,111,114]⟩:ByteArray)).take (Int.toNat v64)).getD (Int.toNat v89) default).getD (Int.toNat 3) default).toList==(((Qa lines (⟨#[100,111,111,114]⟩:ByteArray)).getD (Int.toNat v64) default).getD (Int.toNat 3) default).toList)=true:=(Qv k15); (by (first | omega | (have h9:=Zc lines (by first | omega | (simp only [lens,ib] at*<;> omega)) (Int.toNat 0) (by first | omega | (simp only [lens,ib] at*<;> omega)); unfold natP at h9; omega) | (have h9:=Uv lines (by first | omega | (simp only [lens,ib] at*<;> omega)) (Int.toNat v64) (by first | omega | (simp only [lens,ib] at*<;> omega)); unfold Ug at h9; omega) | (have h9:=Up lines (by first | omega | (simp only [lens,ib] at*<;> omega)) (Int.toNat v64) (Int.toNat v89) (by first | omega | (simp only [lens,ib] at*<;> omega)); unfold Ug at h9; omega)):0≤(4:Int)∧(4:Int)<((((Qa lines (⟨#[100,111,111,114]⟩:ByteArray)).take (Int.toNat v64)).getD (Int.toNat v89) default).length:Int))) (ai (fun k16:(bif (((((Qa lines (⟨#[100,111,111,114]⟩:ByteArray)).take (Int.toNat v64)).getD (Int.toNat v89) default).getD (Int.toNat 1) default).toList==(((Qa lines (⟨#[100,111,111,114]⟩:ByteArray)).getD (Int.toNat v64) default).getD (Int.toNat 1) default).toList) then (((((Qa lines (⟨#[100,111,111,114]⟩:ByteArray)).take (Int.toNat v64)).getD (Int.toNat v89) default).getD (Int.toNat 3) default).toList==(((Qa lines (⟨#[100,111,111,114]⟩:ByteArray)).getD (Int.toNat v64) default).getD (Int.toNat 3) default).toList) else false)=true=>have _:(((((Qa lines (⟨#[100,111,111,114]⟩:ByteArray)).take (Int.toNat v64)).getD (Int.toNat v89) default).getD (Int.toNat 1) default).toList==(((Qa lines (⟨#[100,111,111,114]⟩:ByteArray)).getD (Int.toNat v64) default).getD (Int.toNat 1) default).toList)=true:=(Ql k16); have _:(((((Qa lines (⟨#[100,111,111,114]⟩:ByteArray)).take (Int.toNat v64)).getD (Int.toNat v89) default).getD (Int.toNat 3) default).toList==(((Qa lines (⟨#[100,111,111,114]⟩:ByteArray)).getD (Int.toNat v64) default).getD (Int.toNat 3) default).toList)=true:=(Qv k16); (by (first | omega | (have h9:=Zc lines (by first | omega | (simp only [lens,ib] at*<;> omega)) (Int.toNat 0) (by first | omega | (simp only [lens,ib] at*<;> omega)); unfold natP at h9; omega) | (have h9:=Uv lines (by first | omega | (simp only [lens,ib] at*<;> omega)) (Int.toNat v64) (by first | omega | (simp only [lens,ib] at*<;> omega)); unfold Ug at h9; omega) | (have h9:=Up lines (by first | omega | (simp only [lens,ib] at*<;> omega)) (Int.toNat v64) (Int.toNat v89) (by first | omega | (simp only [lens,ib] at*<;> omega)); unfold Ug at h9; omega)):0≤(4:Int)∧(4:Int)<(((Qa lines (⟨#[100,111,111,114]⟩:ByteArray)).getD (Int.toNat v64) default).length:Int))) (ifb (bif (bif (((((Qa lines (⟨#[100,111,111,114]⟩:ByteArray)).take (Int.toNat v64)).getD (Int.toNat v89) default).getD (Int.toNat 1) default).toList==(((Qa lines (⟨#[100,111,111,114]⟩:ByteArray)).getD (Int.toNat v64) default).getD (Int.toNat 1) default).toList) then (((((Qa lines (⟨#[100,111,111,114]⟩:ByteArray)).take (Int.toNat v64)).getD (Int.toNat v89) default).getD (Int.toNat 3) default).toList==(((Qa lines (⟨#[100,111,111,114]⟩:ByteArray)).getD (Int.toNat v64) default).getD (Int.toNat 3) default).toList) else false) then (((((Qa lines (⟨#[100,111,111,114]⟩:ByteArray)).take (Int.toNat v64)).getD (Int.toNat v89) default).getD (Int.toNat 4) default).toList==(((Qa lines (⟨#[100,111,111,114]⟩:ByteArray)).getD (Int.toNat v64) default).getD (Int.toNat 4) default).toList) else false) (fun h17=>have _:(((((Qa lines (⟨#[100,111,111,114]⟩:ByteArray)).take (Int.toNat v64)).getD (Int.toNat v89) default).getD (Int.toNat 1) default).toList==(((Qa lines (⟨#[100,111,111,114]⟩:ByteArray)).getD (Int.toNat v64) default).getD (Int.toNat 1) default).toList)=true:=(Ql (Ql h17)); have _:(((((Qa lines (⟨#[100,111,111,114]⟩:ByteArray)).take (Int.toNat v64)).getD (Int.toNat v89) default).getD (Int.toNat 3) default).toList==(((Qa lines (⟨#[100,111,111,114]⟩:ByteArray)).getD (Int.toNat v64) default).getD (Int.toNat 3) default).toList)=true:=(Qv (Ql h17)); have _:(((((Qa lines (⟨#[100,111,111,114]⟩:ByteArray)).take (Int.toNat v64)).getD (Int.toNat v89) default).getD (Int.toNat 4) default).toList==(((Qa lines (⟨#[100,111,111,114]⟩:ByteArray)).getD (Int.toNat v64) default).getD (Int.toNat 4) default).toList)=true:=(Qv h17); fiB true (F74 lines) (condF h3 (condF h4 (finR (Qr hI0 (condT h6 (condF h10 (finR (Qr hI1 (condT h12 (condT h17 rfl))) rfl)))) rfl)))) (fun h17=>ai (iok (v89+1) (by first | omega | (simp only [lens,ib] at*<;> omega))) (bk74_1 lines v64 i1 m1 (v89+1) hl1 (Qe hI1 (condT h12 (condF h17 rfl))) (by refine ⟨?_,?_⟩ <;> first | omega | (simp only [lens,ib] at*<;> omega)))))))))))) (fun h12 _=>have hD1_18:Ucp lines v64=Lp.done v89:=Qk hI1 (condF h12 rfl); ai (iok (v64+1) (by first | omega | (simp only [lens,ib] at*<;> omega))) (bk74_0 lines i0 m0 (v64+1) hl0 (Qe hI0 (condT h6 (condF h10 (finD hD1_18 rfl)))) (by refine ⟨?_,?_⟩ <;> first | omega | (simp only [lens,ib] at*<;> omega))))) (i1.1-1) i1.2 (un74_1 lines v64 i1 hi1)))))))))))) (fun h6 _=>have hD0_19:Qvy lines=Lp.done v64:=Qk hI0 (condF h6 rfl); fiB false (F74 lines) (condF h3 (condF h4 (finD hD0_19 rfl))))) (i0.1-1) i0.2 (un74_0 lines i0 hi0)))))))))))))))))))) (by kernel_rfl)
theorem kc31 (c:l52Cut) (k:Int) {K_:Prop} (p0_:0≤k) (k_:K_):(0≤k)∧(Imps (Qh c) (Qh c))∧(Imp (.v (vI k)) (.v (vI k)))∧K_:=⟨p0_,Imps.refl _,Imp.refl _,k_⟩
abbrev kh31 (c:l52Cut) (k:Int):Hint true Tryz.prog:=.call 31 (S31 c k) (ok31 c k) none
theorem kg31 {K_:Prop} (c_ b_:Bool) (c:l52Cut) (k:Int) (p_:c_=b_→0≤k) (k_:K_):(c_=b_→0≤k)∧(c_=b_→Imps (Qh c) (Qh c))∧(c_=b_→Imp (.v (vI k)) (.v (vI k)))∧K_:=⟨p_,fun _=>Imps.refl _,fun _=>Imp.refl _,k_⟩
def Gc (all:List l52Cut):Int→Lp Int Bool:=fun i40 =>
 bif (decide (i40<(all.length:Int))) then (bif (bif ((F31 (all.getD (Int.toNat i40) default) 0).toList==(⟨#[117,115,101,114]⟩:ByteArray).toList) then ((F31 (all.getD (Int.toNat i40) default) 2).toList==(⟨#[97,108,108]⟩:ByteArray).toList) else false) then (.ret true) else (.next (i40+1))) else (.done i40)
def F24 (all:List l52Cut):Bool :=
 (runL (Gc all) ((Int.toNat ((all.length:Int)-0))+1) 0).fin (fun r=>r) (fun i40=>false)
abbrev Qcw (all:List l52Cut):Nat×Int:=(((Int.toNat ((all.length:Int)-0))+1),0)
abbrev Qng (all:List l52Cut) (m39:Nat) (i40:Int):Prop:=Int.toNat ((all.length:Int)-i40)<m39∧(0:Int)≤i40
abbrev Ubr (all:List l52Cut):Lp Int Bool:=LpX (Gc all) (Qcw all)
abbrev Qcf (all:List l52Cut) (i:Nat×Int):Prop:=LpJ (Gc all) (Qcw all) i (Qng all i.1 i.2)
abbrev Qze (all:List l52Cut) (i:Nat×Int) (m39:Nat) (i40:Int):Prop:=LpH (Gc all) (Qcw all) i m39 i40 (Qng all (m39+1) i40)
abbrev Qwy (all:List l52Cut) (i40:Int) (i40_:Int) (K39:Prop):Prop:=((.int .i64 i40:Value)=.int .i64 i40_)∧(Im (.l 1 Qh all))∧K39
theorem un24_0 (all:List l52Cut) (i:Nat×Int) (h:Qcf all i):Qze all i (i.1-1) i.2:=⟨hd1 h.1 h.2.1,hd3 h.2.1,hd2 h.2.1,h.2.2⟩
theorem bk24_0 (all:List l52Cut) (i:Nat×Int) (m39:Nat) (i40:Int) (hl:m39<i.1) (e:runL (Gc all) m39 i40=Ubr all) (h:Qng all m39 i40):∃ j:Nat×Int,Qwy all i40 j.2 (Qcf all j∧j.1<i.1):=⟨(m39,i40),rfl,Imp.refl _,⟨e,h⟩,hl⟩
theorem en24_0 (all:List l52Cut) (h:(0:Int)≤0):Qwy all 0 0 (Qcf all (Qcw all)):=⟨rfl,Imp.refl _,rfl,Nat.lt_succ_self _,h⟩
def S24 (all:List l52Cut):Spec:=⟨[.r (.c (.l 1 Qh all))],.v (.bool (F24 all)),True⟩
theorem ok24 (all:List l52Cut):(S24 all).ok Tryz.prog 24 :=
 Qn mixed (fn:=Tryz.f24) (ct:=.seqk [(0,0)] .no (.seq (.seqk [(0,0)] .no (.blk (.loop (ι:=Nat×Int) (fun i=>(fun (i40:Int)=>(⟨[(0,some (.h 0 0)),(3,some (.v (vI i40)))],[(0,some (.shr none (.l 1 Qh all)))],1⟩:St)) i.2) (Qcf all) (fun i=>i.1) (Qcw all) (fun i=>(fun (i40:Int)=>(.seq (.seq .no (.cond .no .no)) (.seq (.blk (.seq (.reg [(4,kh31 (all.getD (Int.toNat i40) default) 0),(11,kh31 (all.getD (Int.toNat i40) default) 2)]) (.cond (.seq .no .no) .no))) (.reg [(1,.bnd)])))) i.2)))) (.seq .no .no))) Tryz.func24 (fun (_:True)=>kn all fun _=>kn all fun _=>ai (en24_0 all (by omega)) (fun (i0:Nat×Int) (hi0:Qcf all i0)=>(fun (m0:Nat) (i40:Int) (hh0:Qze all i0 m0 i40)=>have hI0:=hh0.1; have hl0:=hh0.2.1; have _:=hh0.2.2.1; have _:=hh0.2.2.2; ifd (i40<(all.length:Int)) (fun h2 _=>ai (by omega:ib i40 all) (kc31 (all.getD (Int.toNat i40) default) 0 (by omega) (ai (fun k3:((F31 (all.getD (Int.toNat i40) default) 0).toList==w10_.toList)=true=>(by omega:ib i40 all)) (kg31 ((F31 (all.getD (Int.toNat i40) default) 0).toList==w10_.toList) true (all.getD (Int.toNat i40) default) 2 (fun k4=>(by omega)) (ifb (bif ((F31 (all.getD (Int.toNat i40) default) 0).toList==w10_.toList) then ((F31 (all.getD (Int.toNat i40) default) 2).toList==w11_.toList) else false) (fun h5=>have _:((F31 (all.getD (Int.toNat i40) default) 0).toList==w10_.toList)=true:=(Ql h5); have _:((F31 (all.getD (Int.toNat i40) default) 2).toList==w11_.toList)=true:=(Qv h5); fiB true (F24 all) (finR (Qr hI0 (condT h2 (condT h5 rfl))) rfl)) (fun h5=>ai (iok (i40+1) (by omega)) (bk24_0 all i0 m0 (i40+1) hl0 (Qe hI0 (condT h2 (condF h5 rfl))) (by refine ⟨?_,?_⟩ <;> omega)))))))) (fun h2 _=>have hD0_6:Ubr all=Lp.done i40:=Qk hI0 (condF h2 rfl); fiB false (F24 all) (finD hD0_6 rfl))) (i0.1-1) i0.2 (un24_0 all i0 hi0))) (by kernel_rfl)
def Xs (all:List l52Cut) (name:ByteArray):(Int×Int)→Lp (Int×Int) Int:=fun (n,i40) =>
 bif (decide (i40<(all.length:Int))) then (bif (bif ((F31 (all.getD (Int.toNat i40) default) 0).toList==(⟨#[114,117,108,101]⟩:ByteArray).toList) then ((F31 (all.getD (Int.toNat i40) default) 1).toList==name.toList) else false) then (.next ((n+1),(i40+1))) else (.next (n,(i40+1)))) else (.done (n,i40))
def F43 (all:List l52Cut) (name:ByteArray):Int :=
 (runL (Xs all name) ((Int.toNat ((all.length:Int)-0))+1) (0,0)).fin (fun r=>r) (fun (n,i40)=>n)
abbrev Qah (all:List l52Cut):Nat×(Int×Int):=(((Int.toNat ((all.length:Int)-0))+1),(0,0))
abbrev Qlr (all:List l52Cut) (m39:Nat) (n:Int) (i40:Int):Prop:=Int.toNat ((all.length:Int)-i40)<m39∧(0:Int)≤n∧(n:Int)≤i40∧(0:Int)≤n∧(0:Int)≤i40
abbrev Qzu (all:List l52Cut) (name:ByteArray):Lp (Int×Int) Int:=LpX (Xs all name) (Qah all)
abbrev Qat (all:List l52Cut) (name:ByteArray) (i:Nat×(Int×Int)):Prop:=LpJ (Xs all name) (Qah all) i (Qlr all i.1 i.2.1 i.2.2)
abbrev Ubo (all:List l52Cut) (name:ByteArray) (i:Nat×(Int×Int)) (m39:Nat) (n:Int) (i40:Int):Prop:=LpH (Xs all name) (Qah all) i m39 (n,i40) (Qlr all (m39+1) n i40)
abbrev Uah (all:List l52Cut) (name:ByteArray) (n:Int) (i40:Int) (n_:Int) (i40_:Int) (K39:Prop):Prop:=(Rf (.string name))∧((.int .i64 n:Value)=.int .i64 n_)∧((.int .i64 i40:Value)=.int .i64 i40_)∧(Im (.l 1 Qh all))∧K39
theorem un43_0 (all:List l52Cut) (name:ByteArray) (i:Nat×(Int×Int)) (h:Qat all name i):Ubo all name i (i.1-1) i.2.1 i.2.2:=⟨hd1 h.1 h.2.1,hd3 h.2.1,hd2 h.2.1,h.2.2⟩
theorem Ucc (all:List l52Cut) (name:ByteArray) (i:Nat×(Int×Int)) (m39:Nat) (n:Int) (i40:Int) (hl:m39<i.1) (e:runL (Xs all name) m39 (n,i40)=Qzu all name) (h:Qlr all m39 n i40):∃ j:Nat×(Int×Int),Uah all name n i40 j.2.1 j.2.2 (Qat all name j∧j.1<i.1):=⟨(m39,(n,i40)),rfl,rfl,rfl,Imp.refl _,⟨e,h⟩,hl⟩
theorem en43_0 (all:List l52Cut) (name:ByteArray) (h:(0:Int)≤0∧(0:Int)≤0∧(0:Int)≤0∧(0:Int)≤0):Uah all name 0 0 0 0 (Qat all name (Qah all)):=⟨rfl,rfl,rfl,Imp.refl _,rfl,Nat.lt_succ_self _,h⟩
def S43 (all:List l52Cut) (name:ByteArray):Spec:=⟨[.r (.c (.l 1 Qh all)),.r (.c (.v (.string name)))],.v (vI (F43 all name)),True⟩
theorem ok43 (all:List l52Cut) (name:ByteArray):(S43 all name).ok Tryz.prog 43 :=
 Qn mixed (fn:=Tryz.f43) (ct:=.seqk [(0,0)] .no (.seq .no (.seq (.seqk [(0,0)] .no (.blk (.loop (ι:=Nat×(Int×Int)) (fun i=>(fun (n:Int) (i40:Int)=>(⟨[(0,some (.h 0 0)),(1,some (.v (.string name))),(5,some (.v (vI n))),(6,some (.v (vI i40)))],[(0,some (.shr none (.l 1 Qh all)))],1⟩:St)) i.2.1 i.2.2) (Qat all name) (fun i=>i.1) (Qah all) (fun i=>(fun (n:Int) (i40:Int)=>(.seq (.seq .no (.cond .no .no)) (.seq (.blk (.seq (.reg [(4,kh31 (all.getD (Int.toNat i40) default) 0),(11,kh31 (all.getD (Int.toNat i40) default) 1)]) (.cond (.reg [(1,.bnd)]) .no))) (.reg [(1,.bnd)])))) i.2.1 i.2.2)))) (.seq .no .no)))) Tryz.func43 (fun (_:True)=>kn all fun _=>kn all fun _=>ai (en43_0 all name (by refine ⟨?_,?_,?_,?_⟩ <;> omega)) (fun (i0:Nat×(Int×Int)) (hi0:Qat all name i0)=>(fun (m0:Nat) (n:Int) (i40:Int) (hh0:Ubo all name i0 m0 n i40)=>have hI0:=hh0.1; have hl0:=hh0.2.1; have _:=hh0.2.2.1; have _:=hh0.2.2.2; ifd (i40<(all.length:Int)) (fun h2 _=>ai (by omega:ib i40 all) (kc31 (all.getD (Int.toNat i40) default) 0 (by omega) (ai (fun k3:((F31 (all.getD (Int.toNat i40) default) 0).toList==w9_.toList)=true=>(by omega:ib i40 all)) (kg31 ((F31 (all.getD (Int.toNat i40) default) 0).toList==w9_.toList) true (all.getD (Int.toNat i40) default) 1 (fun k4=>(by omega)) (ifb (bif ((F31 (all.getD (Int.toNat i40) default) 0).toList==w9_.toList) then ((F31 (all.getD (Int.toNat i40) default) 1).toList==name.toList) else false) (fun h5=>have _:((F31 (all.getD (Int.toNat i40) default) 0).toList==w9_.toList)=true:=(Ql h5); have _:=(Qv h5); ai (iok (n+1) (by omega)) (ai (iok (i40+1) (by omega)) (Ucc all name i0 m0 (n+1) (i40+1) hl0 (Qe hI0 (condT h2 (condT h5 rfl))) (by refine ⟨?_,?_,?_,?_,?_⟩ <;> omega)))) (fun h5=>ai (iok (i40+1) (by omega)) (Ucc all name i0 m0 n (i40+1) hl0 (Qe hI0 (condT h2 (condF h5 rfl))) (by refine ⟨?_,?_,?_,?_,?_⟩ <;> omega)))))))) (fun h2 _=>have hD0_6:Qzu all name=Lp.done (n,i40):=Qk hI0 (condF h2 rfl); fiI n (F43 all name) (finD hD0_6 rfl))) (i0.1-1) i0.2.1 i0.2.2 (un43_0 all name i0 hi0))) (by kernel_rfl)
theorem kg43 {K_:Prop} (c_ b_:Bool) (all:List l52Cut) (name:ByteArray) (k_:K_):(c_=b_→True)∧(c_=b_→Imp (.l 1 Qh all) (.l 1 Qh all))∧(c_=b_→Imp (.v (.string name)) (.v (.string name)))∧K_:=⟨fun _=>trivial,fun _=>Imp.refl _,fun _=>Imp.refl _,k_⟩
abbrev kh43 (all:List l52Cut) (name:ByteArray):Hint true Tryz.prog:=.call 43 (S43 all name) (ok43 all name) none
def Bx (all:List l52Cut):Int→Lp Int Bool:=fun i40 =>
 bif (decide (i40<(all.length:Int))) then (bif (bif (bif ((F31 (all.getD (Int.toNat i40) default) 0).toList==(⟨#[112,111,114,116]⟩:ByteArray).toList) then (!((F31 (all.getD (Int.toNat i40) default) 4).toList==(⟨#[]⟩:ByteArray).toList)) else false) then ((F43 all (F31 (all.getD (Int.toNat i40) default) 4))==0) else false) then (.ret false) else (bif (bif ((F31 (all.getD (Int.toNat i40) default) 0).toList==(⟨#[114,117,108,101]⟩:ByteArray).toList) then decide ((F43 all (F31 (all.getD (Int.toNat i40) default) 1))>12) else false) then (.ret false) else (.next (i40+1)))) else (.done i40)
def F25 (all:List l52Cut):Bool :=
 (runL (Bx all) ((Int.toNat ((all.length:Int)-0))+1) 0).fin (fun r=>r) (fun i40=>true)
abbrev Qcv (all:List l52Cut):Nat×Int:=(((Int.toNat ((all.length:Int)-0))+1),0)
abbrev Qok (all:List l52Cut) (m39:Nat) (i40:Int):Prop:=Int.toNat ((all.length:Int)-i40)<m39∧(0:Int)≤i40
abbrev Qyz (all:List l52Cut):Lp Int Bool:=LpX (Bx all) (Qcv all)
abbrev Tw (all:List l52Cut) (i:Nat×Int):Prop:=LpJ (Bx all) (Qcv all) i (Qok all i.1 i.2)
abbrev Qxs (all:List l52Cut) (i:Nat×Int) (m39:Nat) (i40:Int):Prop:=LpH (Bx all) (Qcv all) i m39 i40 (Qok all (m39+1) i40)
abbrev Ubt (all:List l52Cut) (i40:Int) (i40_:Int) (K39:Prop):Prop:=((.int .i64 i40:Value)=.int .i64 i40_)∧(Im (.l 1 Qh all))∧K39
theorem un25_0 (all:List l52Cut) (i:Nat×Int) (h:Tw all i):Qxs all i (i.1-1) i.2:=⟨hd1 h.1 h.2.1,hd3 h.2.1,hd2 h.2.1,h.2.2⟩
theorem bk25_0 (all:List l52Cut) (i:Nat×Int) (m39:Nat) (i40:Int) (hl:m39<i.1) (e:runL (Bx all) m39 i40=Qyz all) (h:Qok all m39 i40):∃ j:Nat×Int,Ubt all i40 j.2 (Tw all j∧j.1<i.1):=⟨(m39,i40),rfl,Imp.refl _,⟨e,h⟩,hl⟩
theorem en25_0 (all:List l52Cut) (h:(0:Int)≤0):Ubt all 0 0 (Tw all (Qcv all)):=⟨rfl,Imp.refl _,rfl,Nat.lt_succ_self _,h⟩
def S25 (all:List l52Cut):Spec:=⟨[.r (.c (.l 1 Qh all))],.v (.bool (F25 all)),True⟩
abbrev Un (all:List l52Cut) (i40:Int):=(all.getD (Int.toNat i40) default)
theorem ok25 (all:List l52Cut):(S25 all).ok Tryz.prog 25 :=
 Qn mixed (fn:=Tryz.f25) (ct:=.seqk [(0,0)] .no (.seq (.seqk [(0,0)] .no (.blk (.loop (ι:=Nat×Int) (fun i=>(fun (i40:Int)=>(⟨[(0,some (.h 0 0)),(3,some (.v (vI i40)))],[(0,some (.shr none (.l 1 Qh all)))],1⟩:St)) i.2) (Tw all) (fun i=>i.1) (Qcv all) (fun i=>(fun (i40:Int)=>(.seq (.seq .no (.cond .no .no)) (.seq (.blk (.seq (.seq (.reg [(4,kh31 (Un all i40) 0),(11,kh31 (Un all i40) 4),(20,kh31 (Un all i40) 4),(21,kh43 all (F31 (Un all i40) 4))]) (.cond (.seq .no .no) .no)) (.seq (.reg [(4,kh31 (Un all i40) 0),(12,kh31 (Un all i40) 1),(13,kh43 all (F31 (Un all i40) 1))]) (.cond (.seq .no .no) .no)))) (.reg [(1,.bnd)])))) i.2)))) (.seq .no .no))) Tryz.func25 (fun (_:True)=>kn all fun _=>kn all fun _=>ai (en25_0 all (by omega)) (fun (i0:Nat×Int) (hi0:Tw all i0)=>(fun (m0:Nat) (i40:Int) (hh0:Qxs all i0 m0 i40)=>have hI0:=hh0.1; have hl0:=hh0.2.1; have _:=hh0.2.2.1; have _:=hh0.2.2.2; ifd (i40<(all.length:Int)) (fun h2 _=>ai (by omega:ib i40 all) (kc31 (Un all i40) 0 (by omega) (ai (fun k3:((F31 (Un all i40) 0).toList==w7_.toList)=true=>(by omega:ib i40 all)) (kg31 ((F31 (Un all i40) 0).toList==w7_.toList) true (Un all i40) 4 (fun k4=>(by omega)) (ai (fun k5:(bif ((F31 (Un all i40) 0).toList==w7_.toList) then (!((F31 (Un all i40) 4).toList==w13_.toList)) else false)=true=>have _:((F31 (Un all i40) 0).toList==w7_.toList)=true:=(Ql k5); have _:(!((F31 (Un all i40) 4).toList==w13_.toList))=true:=(Qv k5); (by omega:ib i40 all)) (kg31 (bif ((F31 (Un all i40) 0).toList==w7_.toList) then (!((F31 (Un all i40) 4).toList==w13_.toList)) else false) true (Un all i40) 4 (fun k6=>have _:((F31 (Un all i40) 0).toList==w7_.toList)=true:=(Ql k6); have _:(!((F31 (Un all i40) 4).toList==w13_.toList))=true:=(Qv k6); (by omega)) (kg43 (bif ((F31 (Un all i40) 0).toList==w7_.toList) then (!((F31 (Un all i40) 4).toList==w13_.toList)) else false) true all (F31 (Un all i40) 4) (ifb (bif (bif ((F31 (Un all i40) 0).toList==w7_.toList) then (!((F31 (Un all i40) 4).toList==w13_.toList)) else false) then ((F43 all (F31 (Un all i40) 4))==0) else false) (fun h8=>have _:((F31 (Un all i40) 0).toList==w7_.toList)=true:=(Ql (Ql h8)); have _:(!((F31 (Un all i40) 4).toList==w13_.toList))=true:=(Qv (Ql h8)); have _:=eq_of_beq (Qv h8); fiB false (F25 all) (finR (Qr hI0 (condT h2 (condT h8 rfl))) rfl)) (fun h8=>ai (by omega:ib i40 all) (kc31 (Un all i40) 0 (by omega) (ai (fun k9:((F31 (Un all i40) 0).toList==w9_.toList)=true=>(by omega:ib i40 all)) (kg31 ((F31 (Un all i40) 0).toList==w9_.toList) true (Un all i40) 1 (fun k10=>(by omega)) (kg43 ((F31 (Un all i40) 0).toList==w9_.toList) true all (F31 (Un all i40) 1) (ifb (bif ((F31 (Un all i40) 0).toList==w9_.toList) then decide ((F43 all (F31 (Un all i40) 1))>12) else false) (fun h12=>have _:((F31 (Un all i40) 0).toList==w9_.toList)=true:=(Ql h12); have _:=of_decide_eq_true (Qv h12); fiB false (F25 all) (finR (Qr hI0 (condT h2 (condF h8 (condT h12 rfl)))) rfl)) (fun h12=>ai (iok (i40+1) (by omega)) (bk25_0 all i0 m0 (i40+1) hl0 (Qe hI0 (condT h2 (condF h8 (condF h12 rfl)))) (by refine ⟨?_,?_⟩ <;> omega))))))))))))))))) (fun h2 _=>have hD0_13:Qyz all=Lp.done i40:=Qk hI0 (condF h2 rfl); fiB true (F25 all) (finD hD0_13 rfl))) (i0.1-1) i0.2 (un25_0 all i0 hi0))) (by kernel_rfl)
def Bk (all:List l52Cut) (i40:Int):Int→Lp Int Bool:=fun k =>
 bif (decide (k<i40)) then (bif (bif (!((F31 (all.getD (Int.toNat i40) default) 0).toList==(⟨#[112,111,114,116]⟩:ByteArray).toList)) then true else (!((F31 (all.getD (Int.toNat k) default) 0).toList==(⟨#[112,111,114,116]⟩:ByteArray).toList))) then (.next (k+1)) else (bif (bif decide ((F44 (F31 (all.getD (Int.toNat i40) default) 2)).1<(IntKind.i64.wrap ((F44 (F31 (all.getD (Int.toNat k) default) 2)).1+(F44 (F31 (all.getD (Int.toNat k) default) 2)).2))) then decide ((F44 (F31 (all.getD (Int.toNat k) default) 2)).1<(IntKind.i64.wrap ((F44 (F31 (all.getD (Int.toNat i40) default) 2)).1+(F44 (F31 (all.getD (Int.toNat i40) default) 2)).2))) else false) then (.ret false) else (.next (k+1)))) else (.done k)
def Xk (all:List l52Cut):Int→Lp Int Bool:=fun i40 =>
 bif (decide (i40<(all.length:Int))) then ((runL (Bk all i40) ((Int.toNat (i40-0))+1) 0).fin Lp.ret (fun k=>.next (i40+1))) else (.done i40)
def F26 (all:List l52Cut):Bool :=
 (runL (Xk all) ((Int.toNat ((all.length:Int)-0))+1) 0).fin (fun r=>r) (fun i40=>true)
abbrev Ep (i40:Int):Nat×Int:=(((Int.toNat (i40-0))+1),0)
abbrev Qoo (i40:Int) (m39:Nat) (k:Int):Prop:=Int.toNat (i40-k)<m39∧(0:Int)≤k
abbrev Qym (all:List l52Cut) (i40:Int):Lp Int Bool:=LpX (Bk all i40) (Ep i40)
abbrev Qas (all:List l52Cut) (i40:Int) (i:Nat×Int):Prop:=LpJ (Bk all i40) (Ep i40) i (Qoo i40 i.1 i.2)
abbrev Qzs (all:List l52Cut) (i40:Int) (i:Nat×Int) (m39:Nat) (k:Int):Prop:=LpH (Bk all i40) (Ep i40) i m39 k (Qoo i40 (m39+1) k)
abbrev Qut (all:List l52Cut) (i40:Int) (k:Int) (k_:Int) (K39:Prop):Prop:=(Rf (.int .i64 i40))∧((.int .i64 k:Value)=.int .i64 k_)∧(Im (.l 1 Qh all))∧K39
theorem un26_1 (all:List l52Cut) (i40:Int) (i:Nat×Int) (h:Qas all i40 i):Qzs all i40 i (i.1-1) i.2:=⟨hd1 h.1 h.2.1,hd3 h.2.1,hd2 h.2.1,h.2.2⟩
theorem Uct (all:List l52Cut) (i40:Int) (i:Nat×Int) (m39:Nat) (k:Int) (hl:m39<i.1) (e:runL (Bk all i40) m39 k=Qym all i40) (h:Qoo i40 m39 k):∃ j:Nat×Int,Qut all i40 k j.2 (Qas all i40 j∧j.1<i.1):=⟨(m39,k),rfl,rfl,Imp.refl _,⟨e,h⟩,hl⟩
theorem en26_1 (all:List l52Cut) (i40:Int) (h:(0:Int)≤0):Qut all i40 0 0 (Qas all i40 (Ep i40)):=⟨rfl,rfl,Imp.refl _,rfl,Nat.lt_succ_self _,h⟩
abbrev Ec (all:List l52Cut):Nat×Int:=(((Int.toNat ((all.length:Int)-0))+1),0)
abbrev Qnf (all:List l52Cut) (m39:Nat) (i40:Int):Prop:=Int.toNat ((all.length:Int)-i40)<m39∧(0:Int)≤i40
abbrev Qvw (all:List l52Cut):Lp Int Bool:=LpX (Xk all) (Ec all)
abbrev Tf (all:List l52Cut) (i:Nat×Int):Prop:=LpJ (Xk all) (Ec all) i (Qnf all i.1 i.2)
abbrev Qwz (all:List l52Cut) (i:Nat×Int) (m39:Nat) (i40:Int):Prop:=LpH (Xk all) (Ec all) i m39 i40 (Qnf all (m39+1) i40)
abbrev Ucz (all:List l52Cut) (i40:Int) (i40_:Int) (K39:Prop):Prop:=((.int .i64 i40:Value)=.int .i64 i40_)∧(Im (.l 1 Qh all))∧K39
theorem un26_0 (all:List l52Cut) (i:Nat×Int) (h:Tf all i):Qwz all i (i.1-1) i.2:=⟨hd1 h.1 h.2.1,hd3 h.2.1,hd2 h.2.1,h.2.2⟩
theorem bk26_0 (all:List l52Cut) (i:Nat×Int) (m39:Nat) (i40:Int) (hl:m39<i.1) (e:runL (Xk all) m39 i40=Qvw all) (h:Qnf all m39 i40):∃ j:Nat×Int,Ucz all i40 j.2 (Tf all j∧j.1<i.1):=⟨(m39,i40),rfl,Imp.refl _,⟨e,h⟩,hl⟩
theorem en26_0 (all:List l52Cut) (h:(0:Int)≤0):Ucz all 0 0 (Tf all (Ec all)):=⟨rfl,Imp.refl _,rfl,Nat.lt_succ_self _,h⟩
def S26 (all:List l52Cut):Spec:=⟨[.r (.c (.l 1 Qh all))],.v (.bool (F26 all)),(∀ k j:Nat,((all.getD k default).w.getD j default).size≤1048576)⟩
abbrev Vm (all:List l52Cut) (i40:Int):=(all.getD (Int.toNat i40) default)
abbrev By (all:List l52Cut) (k:Int):=(all.getD (Int.toNat k) default)
theorem ok26 (all:List l52Cut):(S26 all).ok Tryz.prog 26 :=
 Qn mixed (fn:=Tryz.f26) (ct:=.seqk [(0,0)] .no (.seq (.seqk [(0,0)] .no (.blk (.loop (ι:=Nat×Int) (fun i=>(fun (i40:Int)=>(⟨[(0,some (.h 0 0)),(3,some (.v (vI i40)))],[(0,some (.shr none (.l 1 Qh all)))],1⟩:St)) i.2) (Tf all) (fun i=>i.1) (Ec all) (fun i=>(fun (i40:Int)=>(.seq (.seq .no (.cond .no .no)) (.seq (.blk (.seqk [(0,0)] .no (.blk (.loop (ι:=Nat×Int) (fun i=>(fun (k:Int)=>(⟨[(0,some (.h 0 0)),(3,some (.v (vI i40))),(4,some (.v (vI k)))],[(0,some (.shr none (.l 1 Qh all)))],1⟩:St)) i.2) (Qas all i40) (fun i=>i.1) (Ep i40) (fun i=>(fun (k:Int)=>(.seq (.seq .no (.cond .no .no)) (.seq (.blk (.seq (.seq (.reg [(4,kh31 (Vm all i40) 0),(11,kh31 (By all k) 0)]) (.cond .no .no)) (.seq (.reg [(4,kh31 (Vm all i40) 2),(5,kh44 (F31 (Vm all i40) 2))]) (.seq (.reg [(4,kh31 (By all k) 2),(5,kh44 (F31 (By all k) 2))]) (.seq .no (.cond (.seq .no .no) .no)))))) (.reg [(1,.bnd)])))) i.2))))) (.reg [(1,.bnd)])))) i.2)))) (.seq .no .no))) Tryz.func26 (fun (hpre0:∀ k j:Nat,((all.getD k default).w.getD j default).size≤1048576)=>kn all fun _=>kn all fun _=>ai (en26_0 all (by omega)) (fun (i0:Nat×Int) (hi0:Tf all i0)=>(fun (m0:Nat) (i40:Int) (hh0:Qwz all i0 m0 i40)=>have hI0:=hh0.1; have hl0:=hh0.2.1; have _:=hh0.2.2.1; have _:=hh0.2.2.2; ifd (i40<(all.length:Int)) (fun h2 _=>kn all fun _=>ai (en26_1 all i40 (by omega)) (fun (i1:Nat×Int) (hi1:Qas all i40 i1)=>(fun (m1:Nat) (k:Int) (hh1:Qzs all i40 i1 m1 k)=>have hI1:=hh1.1; have hl1:=hh1.2.1; have _:=hh1.2.2.1; have _:=hh1.2.2.2; ifd (k<i40) (fun h4 _=>ai (by omega:ib i40 all) (kc31 (Vm all i40) 0 (by omega) (ai (fun k5:(!((F31 (Vm all i40) 0).toList==w7_.toList))=false=>(by omega:ib k all)) (kg31 (!((F31 (Vm all i40) 0).toList==w7_.toList)) false (By all k) 0 (fun k6=>(by omega)) (ifb (bif (!((F31 (Vm all i40) 0).toList==w7_.toList)) then true else (!((F31 (By all k) 0).toList==w7_.toList))) (fun h7=>ai (iok (k+1) (by omega)) (Uct all i40 i1 m1 (k+1) hl1 (Qe hI1 (condT h4 (condT h7 rfl))) (by refine ⟨?_,?_⟩ <;> omega))) (fun h7=>have _:(!((F31 (Vm all i40) 0).toList==w7_.toList))=false:=(orF1 h7); have _:(!((F31 (By all k) 0).toList==w7_.toList))=false:=(orF2 h7); ai (by omega:ib i40 all) (kc31 (Vm all i40) 2 (by omega) (kc44 (F31 (Vm all i40) 2) (by exact Va all (by assumption) _ _) (ai (by omega:ib k all) (kc31 (By all k) 2 (by omega) (kc44 (F31 (By all k) 2) (by exact Va all (by assumption) _ _) (ifb (bif decide ((F44 (F31 (Vm all i40) 2)).1<(IntKind.i64.wrap ((F44 (F31 (By all k) 2)).1+(F44 (F31 (By all k) 2)).2))) then decide ((F44 (F31 (By all k) 2)).1<(IntKind.i64.wrap ((F44 (F31 (Vm all i40) 2)).1+(F44 (F31 (Vm all i40) 2)).2))) else false) (fun h8=>have _:=of_decide_eq_true (Ql h8); have _:=of_decide_eq_true (Qv h8); fiB false (F26 all) (finR (Qr hI0 (condT h2 (finR (Qr hI1 (condT h4 (condF h7 (condT h8 rfl)))) rfl))) rfl)) (fun h8=>ai (iok (k+1) (by omega)) (Uct all i40 i1 m1 (k+1) hl1 (Qe hI1 (condT h4 (condF h7 (condF h8 rfl)))) (by refine ⟨?_,?_⟩ <;> omega))))))))))))))) (fun h4 _=>have hD1_9:Qym all i40=Lp.done k:=Qk hI1 (condF h4 rfl); ai (iok (i40+1) (by omega)) (bk26_0 all i0 m0 (i40+1) hl0 (Qe hI0 (condT h2 (finD hD1_9 rfl))) (by refine ⟨?_,?_⟩ <;> omega)))) (i1.1-1) i1.2 (un26_1 all i40 i1 hi1))) (fun h2 _=>have hD0_10:Qvw all=Lp.done i40:=Qk hI0 (condF h2 rfl); fiB true (F26 all) (finD hD0_10 rfl))) (i0.1-1) i0.2 (un26_0 all i0 hi0))) (by kernel_rfl)
def Bz (all:List l52Cut) (addr:Int):Int→Lp Int Bool:=fun i40 =>
 bif (decide (i40<(all.length:Int))) then (bif ((F31 (all.getD (Int.toNat i40) default) 0).toList==(⟨#[112,111,114,116]⟩:ByteArray).toList) then (bif (bif decide (addr>(F44 (F31 (all.getD (Int.toNat i40) default) 2)).1) then decide (addr<(IntKind.i64.wrap ((F44 (F31 (all.getD (Int.toNat i40) default) 2)).1+(F44 (F31 (all.getD (Int.toNat i40) default) 2)).2))) else false) then (.ret true) else (.next (i40+1))) else (.next (i40+1))) else (.done i40)
def F45 (all:List l52Cut) (addr:Int):Bool :=
 (runL (Bz all addr) ((Int.toNat ((all.length:Int)-0))+1) 0).fin (fun r=>r) (fun i40=>false)
abbrev Eu (all:List l52Cut):Nat×Int:=(((Int.toNat ((all.length:Int)-0))+1),0)
abbrev Qno (all:List l52Cut) (m39:Nat) (i40:Int):Prop:=Int.toNat ((all.length:Int)-i40)<m39∧(0:Int)≤i40
abbrev Udg (all:List l52Cut) (addr:Int):Lp Int Bool:=LpX (Bz all addr) (Eu all)
abbrev Qca (all:List l52Cut) (addr:Int) (i:Nat×Int):Prop:=LpJ (Bz all addr) (Eu all) i (Qno all i.1 i.2)
abbrev Ucf (all:List l52Cut) (addr:Int) (i:Nat×Int) (m39:Nat) (i40:Int):Prop:=LpH (Bz all addr) (Eu all) i m39 i40 (Qno all (m39+1) i40)
abbrev Qwe (all:List l52Cut) (addr:Int) (i40:Int) (i40_:Int) (K39:Prop):Prop:=(Rf (.int .i64 addr))∧((.int .i64 i40:Value)=.int .i64 i40_)∧(Im (.l 1 Qh all))∧K39
theorem un45_0 (all:List l52Cut) (addr:Int) (i:Nat×Int) (h:Qca all addr i):Ucf all addr i (i.1-1) i.2:=⟨hd1 h.1 h.2.1,hd3 h.2.1,hd2 h.2.1,h.2.2⟩
theorem Ubs (all:List l52Cut) (addr:Int) (i:Nat×Int) (m39:Nat) (i40:Int) (hl:m39<i.1) (e:runL (Bz all addr) m39 i40=Udg all addr) (h:Qno all m39 i40):∃ j:Nat×Int,Qwe all addr i40 j.2 (Qca all addr j∧j.1<i.1):=⟨(m39,i40),rfl,rfl,Imp.refl _,⟨e,h⟩,hl⟩
theorem en45_0 (all:List l52Cut) (addr:Int) (h:(0:Int)≤0):Qwe all addr 0 0 (Qca all addr (Eu all)):=⟨rfl,rfl,Imp.refl _,rfl,Nat.lt_succ_self _,h⟩
def S45 (all:List l52Cut) (addr:Int):Spec:=⟨[.r (.c (.l 1 Qh all)),.r (.c (.v (vI addr)))],.v (.bool (F45 all addr)),(∀ k j:Nat,((all.getD k default).w.getD j default).size≤1048576)⟩
theorem ok45 (all:List l52Cut) (addr:Int):(S45 all addr).ok Tryz.prog 45 :=
 Qn mixed (fn:=Tryz.f45) (ct:=.seqk [(0,0)] .no (.seq (.seqk [(0,0)] .no (.blk (.loop (ι:=Nat×Int) (fun i=>(fun (i40:Int)=>(⟨[(0,some (.h 0 0)),(1,some (.v (vI addr))),(5,some (.v (vI i40)))],[(0,some (.shr none (.l 1 Qh all)))],1⟩:St)) i.2) (Qca all addr) (fun i=>i.1) (Eu all) (fun i=>(fun (i40:Int)=>(.seq (.seq .no (.cond .no .no)) (.seq (.blk (.seq (.reg [(4,kh31 (all.getD (Int.toNat i40) default) 0)]) (.cond (.seq (.reg [(4,kh31 (all.getD (Int.toNat i40) default) 2),(5,kh44 (F31 (all.getD (Int.toNat i40) default) 2))]) (.seq .no (.cond (.seq .no .no) .no))) .no))) (.reg [(1,.bnd)])))) i.2)))) (.seq .no .no))) Tryz.func45 (fun (hpre0:∀ k j:Nat,((all.getD k default).w.getD j default).size≤1048576)=>kn all fun _=>kn all fun _=>ai (en45_0 all addr (by omega)) (fun (i0:Nat×Int) (hi0:Qca all addr i0)=>(fun (m0:Nat) (i40:Int) (hh0:Ucf all addr i0 m0 i40)=>have hI0:=hh0.1; have hl0:=hh0.2.1; have _:=hh0.2.2.1; have _:=hh0.2.2.2; ifd (i40<(all.length:Int)) (fun h2 _=>ai (by omega:ib i40 all) (kc31 (all.getD (Int.toNat i40) default) 0 (by omega) (ifb ((F31 (all.getD (Int.toNat i40) default) 0).toList==w7_.toList) (fun h3=>ai (by omega:ib i40 all) (kc31 (all.getD (Int.toNat i40) default) 2 (by omega) (kc44 (F31 (all.getD (Int.toNat i40) default) 2) (by exact Va all (by assumption) _ _) (ifb (bif decide (addr>(F44 (F31 (all.getD (Int.toNat i40) default) 2)).1) then decide (addr<(IntKind.i64.wrap ((F44 (F31 (all.getD (Int.toNat i40) default) 2)).1+(F44 (F31 (all.getD (Int.toNat i40) default) 2)).2))) else false) (fun h4=>have _:=of_decide_eq_true (Ql h4); have _:=of_decide_eq_true (Qv h4); fiB true (F45 all addr) (finR (Qr hI0 (condT h2 (condT h3 (condT h4 rfl)))) rfl)) (fun h4=>ai (iok (i40+1) (by omega)) (Ubs all addr i0 m0 (i40+1) hl0 (Qe hI0 (condT h2 (condT h3 (condF h4 rfl)))) (by refine ⟨?_,?_⟩ <;> omega))))))) (fun h3=>ai (iok (i40+1) (by omega)) (Ubs all addr i0 m0 (i40+1) hl0 (Qe hI0 (condT h2 (condF h3 rfl))) (by refine ⟨?_,?_⟩ <;> omega)))))) (fun h2 _=>have hD0_5:Udg all addr=Lp.done i40:=Qk hI0 (condF h2 rfl); fiB false (F45 all addr) (finD hD0_5 rfl))) (i0.1-1) i0.2 (un45_0 all addr i0 hi0))) (by kernel_rfl)
theorem kc45 (all:List l52Cut) (addr:Int) {K_:Prop} (p0_:∀ k j:Nat,((all.getD k default).w.getD j default).size≤1048576) (k_:K_):(∀ k j:Nat,((all.getD k default).w.getD j default).size≤1048576)∧(Imp (.l 1 Qh all) (.l 1 Qh all))∧(Imp (.v (vI addr)) (.v (vI addr)))∧K_:=⟨p0_,Imp.refl _,Imp.refl _,k_⟩
abbrev kh45 (all:List l52Cut) (addr:Int):Hint true Tryz.prog:=.call 45 (S45 all addr) (ok45 all addr) none
def Xx (all:List l52Cut):Int→Lp Int Bool:=fun i40 =>
 bif (decide (i40<(all.length:Int))) then (bif ((F31 (all.getD (Int.toNat i40) default) 0).toList==(⟨#[114,111,117,116,101]⟩:ByteArray).toList) then (bif (!(F45 all (F30 (F31 (all.getD (Int.toNat i40) default) 2)))) then (.ret false) else (.next (i40+1))) else (bif ((F31 (all.getD (Int.toNat i40) default) 0).toList==(⟨#[112,101,101,114]⟩:ByteArray).toList) then (bif (!(F45 all (F30 (F31 (all.getD (Int.toNat i40) default) 1)))) then (.ret false) else (.next (i40+1))) else (.next (i40+1)))) else (.done i40)
def F27 (all:List l52Cut):Bool :=
 (runL (Xx all) ((Int.toNat ((all.length:Int)-0))+1) 0).fin (fun r=>r) (fun i40=>true)
abbrev Ef (all:List l52Cut):Nat×Int:=(((Int.toNat ((all.length:Int)-0))+1),0)
abbrev Qnc (all:List l52Cut) (m39:Nat) (i40:Int):Prop:=Int.toNat ((all.length:Int)-i40)<m39∧(0:Int)≤i40
abbrev Qxt (all:List l52Cut):Lp Int Bool:=LpX (Xx all) (Ef all)
abbrev Ey (all:List l52Cut) (i:Nat×Int):Prop:=LpJ (Xx all) (Ef all) i (Qnc all i.1 i.2)
abbrev Ubu (all:List l52Cut) (i:Nat×Int) (m39:Nat) (i40:Int):Prop:=LpH (Xx all) (Ef all) i m39 i40 (Qnc all (m39+1) i40)
abbrev Qww (all:List l52Cut) (i40:Int) (i40_:Int) (K39:Prop):Prop:=((.int .i64 i40:Value)=.int .i64 i40_)∧(Im (.l 1 Qh all))∧K39
theorem un27_0 (all:List l52Cut) (i:Nat×Int) (h:Ey all i):Ubu all i (i.1-1) i.2:=⟨hd1 h.1 h.2.1,hd3 h.2.1,hd2 h.2.1,h.2.2⟩
theorem Qlx (all:List l52Cut) (i:Nat×Int) (m39:Nat) (i40:Int) (hl:m39<i.1) (e:runL (Xx all) m39 i40=Qxt all) (h:Qnc all m39 i40):∃ j:Nat×Int,Qww all i40 j.2 (Ey all j∧j.1<i.1):=⟨(m39,i40),rfl,Imp.refl _,⟨e,h⟩,hl⟩
theorem en27_0 (all:List l52Cut) (h:(0:Int)≤0):Qww all 0 0 (Ey all (Ef all)):=⟨rfl,Imp.refl _,rfl,Nat.lt_succ_self _,h⟩
def S27 (all:List l52Cut):Spec:=⟨[.r (.c (.l 1 Qh all))],.v (.bool (F27 all)),(∀ k j:Nat,((all.getD k default).w.getD j default).size≤1048576)⟩
abbrev Km (all:List l52Cut) (i40:Int):=(all.getD (Int.toNat i40) default)
theorem ok27 (all:List l52Cut):(S27 all).ok Tryz.prog 27 :=
 Qn mixed (fn:=Tryz.f27) (ct:=.seqk [(0,0)] .no (.seq (.seqk [(0,0)] .no (.blk (.loop (ι:=Nat×Int) (fun i=>(fun (i40:Int)=>(⟨[(0,some (.h 0 0)),(3,some (.v (vI i40)))],[(0,some (.shr none (.l 1 Qh all)))],1⟩:St)) i.2) (Ey all) (fun i=>i.1) (Ef all) (fun i=>(fun (i40:Int)=>(.seq (.seq .no (.cond .no .no)) (.seq (.blk (.seq (.reg [(4,kh31 (Km all i40) 0)]) (.blk (.seq .no (.cond (.seq (.reg [(5,kh31 (Km all i40) 2),(6,kh30 (F31 (Km all i40) 2)),(7,kh45 all (F30 (F31 (Km all i40) 2)))]) (.cond (.seq .no .no) .no)) (.seq .no (.cond (.seq (.reg [(5,kh31 (Km all i40) 1),(6,kh30 (F31 (Km all i40) 1)),(7,kh45 all (F30 (F31 (Km all i40) 1)))]) (.cond (.seq .no .no) .no)) .no))))))) (.reg [(1,.bnd)])))) i.2)))) (.seq .no .no))) Tryz.func27 (fun (hpre0:∀ k j:Nat,((all.getD k default).w.getD j default).size≤1048576)=>kn all fun _=>kn all fun _=>ai (en27_0 all (by omega)) (fun (i0:Nat×Int) (hi0:Ey all i0)=>(fun (m0:Nat) (i40:Int) (hh0:Ubu all i0 m0 i40)=>have hI0:=hh0.1; have hl0:=hh0.2.1; have _:=hh0.2.2.1; have _:=hh0.2.2.2; ifd (i40<(all.length:Int)) (fun h2 _=>ai (by omega:ib i40 all) (kc31 (Km all i40) 0 (by omega) (ifb ((F31 (Km all i40) 0).toList==w8_.toList) (fun h3=>ai (by omega:ib i40 all) (kc31 (Km all i40) 2 (by omega) (kc30 (F31 (Km all i40) 2) (by exact Va all (by assumption) _ _) (kc45 all (F30 (F31 (Km all i40) 2)) (by assumption) (ifb (!(F45 all (F30 (F31 (Km all i40) 2)))) (fun h4=>fiB false (F27 all) (finR (Qr hI0 (condT h2 (condT h3 (condT h4 rfl)))) rfl)) (fun h4=>ai (iok (i40+1) (by omega)) (Qlx all i0 m0 (i40+1) hl0 (Qe hI0 (condT h2 (condT h3 (condF h4 rfl)))) (by refine ⟨?_,?_⟩ <;> omega)))))))) (fun h3=>ifb ((F31 (Km all i40) 0).toList==w6_.toList) (fun h5=>ai (by omega:ib i40 all) (kc31 (Km all i40) 1 (by omega) (kc30 (F31 (Km all i40) 1) (by exact Va all (by assumption) _ _) (kc45 all (F30 (F31 (Km all i40) 1)) (by assumption) (ifb (!(F45 all (F30 (F31 (Km all i40) 1)))) (fun h6=>fiB false (F27 all) (finR (Qr hI0 (condT h2 (condF h3 (condT h5 (condT h6 rfl))))) rfl)) (fun h6=>ai (iok (i40+1) (by omega)) (Qlx all i0 m0 (i40+1) hl0 (Qe hI0 (condT h2 (condF h3 (condT h5 (condF h6 rfl))))) (by refine ⟨?_,?_⟩ <;> omega)))))))) (fun h5=>ai (iok (i40+1) (by omega)) (Qlx all i0 m0 (i40+1) hl0 (Qe hI0 (condT h2 (condF h3 (condF h5 rfl)))) (by refine ⟨?_,?_⟩ <;> omega))))))) (fun h2 _=>have hD0_7:Qxt all=Lp.done i40:=Qk hI0 (condF h2 rfl); fiB true (F27 all) (finD hD0_7 rfl))) (i0.1-1) i0.2 (un27_0 all i0 hi0))) (by kernel_rfl)
def Pe (all:List l52Cut):Int→Lp Int Int:=fun i40 =>
 bif (decide (i40<(all.length:Int))) then (bif ((F31 (all.getD (Int.toNat i40) default) 0).toList==(⟨#[110,97,116]⟩:ByteArray).toList) then (.ret i40) else (.next (i40+1))) else (.done i40)
def F46 (all:List l52Cut):Int :=
 (runL (Pe all) ((Int.toNat ((all.length:Int)-0))+1) 0).fin (fun r=>r) (fun i40=>(-1))
abbrev Qbj (all:List l52Cut):Nat×Int:=(((Int.toNat ((all.length:Int)-0))+1),0)
abbrev Qop (all:List l52Cut) (m39:Nat) (i40:Int):Prop:=Int.toNat ((all.length:Int)-i40)<m39∧(0:Int)≤i40
abbrev Ubp (all:List l52Cut):Lp Int Int:=LpX (Pe all) (Qbj all)
abbrev Et (all:List l52Cut) (i:Nat×Int):Prop:=LpJ (Pe all) (Qbj all) i (Qop all i.1 i.2)
abbrev Qyv (all:List l52Cut) (i:Nat×Int) (m39:Nat) (i40:Int):Prop:=LpH (Pe all) (Qbj all) i m39 i40 (Qop all (m39+1) i40)
abbrev Ubf (all:List l52Cut) (i40:Int) (i40_:Int) (K39:Prop):Prop:=((.int .i64 i40:Value)=.int .i64 i40_)∧(Im (.l 1 Qh all))∧K39
theorem un46_0 (all:List l52Cut) (i:Nat×Int) (h:Et all i):Qyv all i (i.1-1) i.2:=⟨hd1 h.1 h.2.1,hd3 h.2.1,hd2 h.2.1,h.2.2⟩
theorem bk46_0 (all:List l52Cut) (i:Nat×Int) (m39:Nat) (i40:Int) (hl:m39<i.1) (e:runL (Pe all) m39 i40=Ubp all) (h:Qop all m39 i40):∃ j:Nat×Int,Ubf all i40 j.2 (Et all j∧j.1<i.1):=⟨(m39,i40),rfl,Imp.refl _,⟨e,h⟩,hl⟩
theorem en46_0 (all:List l52Cut) (h:(0:Int)≤0):Ubf all 0 0 (Et all (Qbj all)):=⟨rfl,Imp.refl _,rfl,Nat.lt_succ_self _,h⟩
def S46 (R:Int) (all:List l52Cut):Spec:=⟨[.r (.c (.l 1 Qh all))],.v (vI R),True⟩
theorem ok46 (all:List l52Cut):(S46 (F46 all) all).ok Tryz.prog 46 :=
 Qn mixed (fn:=Tryz.f46) (ct:=.seqk [(0,0)] .no (.seq (.seqk [(0,0)] .no (.blk (.loop (ι:=Nat×Int) (fun i=>(fun (i40:Int)=>(⟨[(0,some (.h 0 0)),(3,some (.v (vI i40)))],[(0,some (.shr none (.l 1 Qh all)))],1⟩:St)) i.2) (Et all) (fun i=>i.1) (Qbj all) (fun i=>(fun (i40:Int)=>(.seq (.seq .no (.cond .no .no)) (.seq (.blk (.seq (.reg [(4,kh31 (all.getD (Int.toNat i40) default) 0)]) (.cond (.seq .no .no) .no))) (.reg [(1,.bnd)])))) i.2)))) (.seq .no .no))) Tryz.func46 (fun (_:True)=>kn all fun _=>kn all fun _=>ai (en46_0 all (by omega)) (fun (i0:Nat×Int) (hi0:Et all i0)=>(fun (m0:Nat) (i40:Int) (hh0:Qyv all i0 m0 i40)=>have hI0:=hh0.1; have hl0:=hh0.2.1; have _:=hh0.2.2.1; have _:=hh0.2.2.2; ifd (i40<(all.length:Int)) (fun h2 _=>ai (by omega:ib i40 all) (kc31 (all.getD (Int.toNat i40) default) 0 (by omega) (ifb ((F31 (all.getD (Int.toNat i40) default) 0).toList==w5_.toList) (fun h3=>fiI i40 (F46 all) (finR (Qr hI0 (condT h2 (condT h3 rfl))) rfl)) (fun h3=>ai (iok (i40+1) (by omega)) (bk46_0 all i0 m0 (i40+1) hl0 (Qe hI0 (condT h2 (condF h3 rfl))) (by refine ⟨?_,?_⟩ <;> omega)))))) (fun h2 _=>have hD0_4:Ubp all=Lp.done i40:=Qk hI0 (condF h2 rfl); fiI (-1) (F46 all) (finD hD0_4 rfl))) (i0.1-1) i0.2 (un46_0 all i0 hi0))) (by kernel_rfl)
theorem as46 (all:List l52Cut):F46 all=(idxI (fun c=>((F31 c 0).toList==(⟨#[110,97,116]⟩:ByteArray).toList)) all):=by
 exact Vo (fun c=>((F31 c 0).toList==(⟨#[110,97,116]⟩:ByteArray).toList)) all (Pe all) (fun i=>rfl)
theorem oa46 (all:List l52Cut):(S46 (idxI (fun c=>((F31 c 0).toList==(⟨#[110,97,116]⟩:ByteArray).toList)) all) all).ok Tryz.prog 46:=by
 intro hp; have h:=ok46 all hp; rw [as46 all] at h; exact h
theorem g46_0 (all:List l52Cut):(idxI (fun c=>((F31 c 0).toList==(⟨#[110,97,116]⟩:ByteArray).toList)) all)<(all.length:Int):=by
 exact Mp _ all
theorem kg32 {K_:Prop} (c_ b_:Bool) (s:ByteArray) (p_:c_=b_→s.size≤1048576) (k_:K_):(c_=b_→s.size≤1048576)∧(c_=b_→Imp (.v (.string s)) (.v (.string s)))∧K_:=⟨p_,fun _=>Imp.refl _,k_⟩
def Bm (all:List l52Cut) (at':Int) (nat:l52Cut):Int→Lp Int Bool:=fun i40 =>
 bif (decide (i40<at')) then (bif (bif (bif (bif ((F31 (all.getD (Int.toNat i40) default) 0).toList==(⟨#[100,111,111,114]⟩:ByteArray).toList) then ((F31 (all.getD (Int.toNat i40) default) 1).toList==(F31 (all.getD (Int.toNat at') default) 1).toList) else false) then ((F31 (all.getD (Int.toNat i40) default) 3).toList==(F31 (all.getD (Int.toNat at') default) 3).toList) else false) then ((F31 (all.getD (Int.toNat i40) default) 4).toList==(F31 (all.getD (Int.toNat at') default) 4).toList) else false) then (.ret false) else (.next (i40+1))) else (.done i40)
def F47 (all:List l52Cut) (at':Int) (nat:l52Cut):Bool :=
 bif (bif (bif decide ((F30 (F31 (all.getD (Int.toNat at') default) 3))<(F44 (F31 nat 1)).1) then true else decide ((F30 (F31 (all.getD (Int.toNat at') default) 3))≥(IntKind.i64.wrap ((F44 (F31 nat 1)).1+(F44 (F31 nat 1)).2)))) then true else (decide ((F32 (F31 nat 3))≤F32 (F31 (all.getD (Int.toNat at') default) 2)∧F32 (F31 (all.getD (Int.toNat at') default) 2)≤(F32 (F31 nat 4))))) then false else ((runL (Bm all at' nat) ((Int.toNat (at'-0))+1) 0).fin (fun r=>r) (fun i40=>true))
abbrev Qal (at':Int):Nat×Int:=(((Int.toNat (at'-0))+1),0)
abbrev Qlz (at':Int) (m39:Nat) (i40:Int):Prop:=Int.toNat (at'-i40)<m39∧(0:Int)≤i40
abbrev Uaw (all:List l52Cut) (at':Int) (nat:l52Cut):Lp Int Bool:=LpX (Bm all at' nat) (Qal at')
abbrev Qaa (all:List l52Cut) (at':Int) (nat:l52Cut) (i:Nat×Int):Prop:=LpJ (Bm all at' nat) (Qal at') i (Qlz at' i.1 i.2)
abbrev Ubx (all:List l52Cut) (at':Int) (nat:l52Cut) (i:Nat×Int) (m39:Nat) (i40:Int):Prop:=LpH (Bm all at' nat) (Qal at') i m39 i40 (Qlz at' (m39+1) i40)
abbrev Qxf (all:List l52Cut) (at':Int) (i40:Int) (i40_:Int) (K39:Prop):Prop:=(Rf (.int .i64 at'))∧((.int .i64 i40:Value)=.int .i64 i40_)∧(Im (.l 1 Qh all))∧(Ims (Qh (all.getD (Int.toNat at') default)))∧K39
theorem un47_0 (all:List l52Cut) (at':Int) (nat:l52Cut) (i:Nat×Int) (h:Qaa all at' nat i):Ubx all at' nat i (i.1-1) i.2:=⟨hd1 h.1 h.2.1,hd3 h.2.1,hd2 h.2.1,h.2.2⟩
theorem bk47_0 (all:List l52Cut) (at':Int) (nat:l52Cut) (i:Nat×Int) (m39:Nat) (i40:Int) (hl:m39<i.1) (e:runL (Bm all at' nat) m39 i40=Uaw all at' nat) (h:Qlz at' m39 i40):∃ j:Nat×Int,Qxf all at' i40 j.2 (Qaa all at' nat j∧j.1<i.1):=⟨(m39,i40),rfl,rfl,Imp.refl _,Imps.refl _,⟨e,h⟩,hl⟩
theorem en47_0 (all:List l52Cut) (at':Int) (nat:l52Cut) (h:(0:Int)≤0):Qxf all at' 0 0 (Qaa all at' nat (Qal at')):=⟨rfl,rfl,Imp.refl _,Imps.refl _,rfl,Nat.lt_succ_self _,h⟩
def S47 (all:List l52Cut) (at':Int) (nat:l52Cut):Spec:=⟨[.r (.c (.l 1 Qh all)),.r (.c (.v (vI at'))),.r (.g (Qh nat))],.v (.bool (F47 all at' nat)),0≤at'∧at'<(all.length:Int)∧(∀ j:Nat,(nat.w.getD j default).size≤1048576)∧(∀ k j:Nat,((all.getD k default).w.getD j default).size≤1048576)⟩
abbrev Yg (all:List l52Cut) (at':Int):=(all.getD (Int.toNat at') default)
abbrev Uo (all:List l52Cut) (i40:Int):=(all.getD (Int.toNat i40) default)
abbrev Vc (all:List l52Cut) (at':Int):=(F30 (F31 (Yg all at') 3))
theorem ok47 (all:List l52Cut) (at':Int) (nat:l52Cut):(S47 all at' nat).ok Tryz.prog 47 :=
 Qn mixed (fn:=Tryz.f47) (ct:=.seqk [(0,0)] .no (.seq .no (.seq (.reg [(1,kh31 nat 1),(2,kh44 (F31 nat 1))]) (.seq (.reg [(1,kh31 (Yg all at') 3),(2,kh30 (F31 (Yg all at') 3))]) (.seq (.seq (.reg [(12,kh31 (Yg all at') 2),(14,kh31 nat 3),(15,kh32 (F31 nat 3)),(17,kh31 nat 4),(18,kh32 (F31 nat 4)),(19,Jn (F31 (Yg all at') 2) (F32 (F31 nat 3)) (F32 (F31 nat 4)))]) (.cond (.seq .no .no) .no)) (.seq (.seqk [(0,0),(7,0)] .no (.blk (.loop (ι:=Nat×Int) (fun i=>(fun (i40:Int)=>(⟨[(0,some (.h 0 0)),(1,some (.v (vI at'))),(7,some (.p 1 0)),(11,some (.v (vI i40)))],[(0,some (.shr none (.l 1 Qh all))),(1,some (.box 46 [.h 2 1])),(2,some (.mem none none (Qh (Yg all at'))))],3⟩:St)) i.2) (Qaa all at' nat) (fun i=>i.1) (Qal at') (fun i=>(fun (i40:Int)=>(.seq (.seq .no (.cond .no .no)) (.seq (.blk (.seq (.reg [(4,kh31 (Uo all i40) 0),(11,kh31 (Uo all i40) 1),(13,kh31 (Yg all at') 1),(21,kh31 (Uo all i40) 3),(23,kh31 (Yg all at') 3),(31,kh31 (Uo all i40) 4),(33,kh31 (Yg all at') 4)]) (.cond (.seq .no .no) .no))) (.reg [(1,.bnd)])))) i.2)))) (.seq .no .no))))))) Tryz.func47 (fun (hp:0≤at'∧at'<(all.length:Int)∧(∀ j:Nat,(nat.w.getD j default).size≤1048576)∧(∀ k j:Nat,((all.getD k default).w.getD j default).size≤1048576))=>have hpre0:=hp.1; have hpre1:=hp.2.1; have hpre2:=hp.2.2.1; have hpre3:=hp.2.2.2; kn all fun _=>ai (by omega:ib at' all) (kc31 nat 1 (by omega) (kc44 (F31 nat 1) (by exact Qgx (by assumption) _) (kc31 (Yg all at') 3 (by omega) (kc30 (F31 (Yg all at') 3) (by exact Va all (by assumption) _ _) (kg31 (bif decide ((Vc all at')<(F44 (F31 nat 1)).1) then true else decide ((Vc all at')≥(IntKind.i64.wrap ((F44 (F31 nat 1)).1+(F44 (F31 nat 1)).2)))) false (Yg all at') 2 (fun k1=>have _:=of_decide_eq_false (orF1 k1); have _:=of_decide_eq_false (orF2 k1); (by omega)) (kg31 (bif decide ((Vc all at')<(F44 (F31 nat 1)).1) then true else decide ((Vc all at')≥(IntKind.i64.wrap ((F44 (F31 nat 1)).1+(F44 (F31 nat 1)).2)))) false nat 3 (fun k2=>have _:=of_decide_eq_false (orF1 k2); have _:=of_decide_eq_false (orF2 k2); (by omega)) (kg32 (bif decide ((Vc all at')<(F44 (F31 nat 1)).1) then true else decide ((Vc all at')≥(IntKind.i64.wrap ((F44 (F31 nat 1)).1+(F44 (F31 nat 1)).2)))) false (F31 nat 3) (fun k3=>have _:=of_decide_eq_false (orF1 k3); have _:=of_decide_eq_false (orF2 k3); (by exact Qgx (by assumption) _)) (kg31 (bif decide ((Vc all at')<(F44 (F31 nat 1)).1) then true else decide ((Vc all at')≥(IntKind.i64.wrap ((F44 (F31 nat 1)).1+(F44 (F31 nat 1)).2)))) false nat 4 (fun k4=>have _:=of_decide_eq_false (orF1 k4); have _:=of_decide_eq_false (orF2 k4); (by omega)) (kg32 (bif decide ((Vc all at')<(F44 (F31 nat 1)).1) then true else decide ((Vc all at')≥(IntKind.i64.wrap ((F44 (F31 nat 1)).1+(F44 (F31 nat 1)).2)))) false (F31 nat 4) (fun k5=>have _:=of_decide_eq_false (orF1 k5); have _:=of_decide_eq_false (orF2 k5); (by exact Qgx (by assumption) _)) (Jr (bif decide ((Vc all at')<(F44 (F31 nat 1)).1) then true else decide ((Vc all at')≥(IntKind.i64.wrap ((F44 (F31 nat 1)).1+(F44 (F31 nat 1)).2)))) false (F31 (Yg all at') 2) (F32 (F31 nat 3)) (F32 (F31 nat 4)) (fun k6=>have _:=of_decide_eq_false (orF1 k6); have _:=of_decide_eq_false (orF2 k6); (by exact Va all (by assumption) _ _)) (ifb (bif (bif decide ((Vc all at')<(F44 (F31 nat 1)).1) then true else decide ((Vc all at')≥(IntKind.i64.wrap ((F44 (F31 nat 1)).1+(F44 (F31 nat 1)).2)))) then true else (decide ((F32 (F31 nat 3))≤F32 (F31 (Yg all at') 2)∧F32 (F31 (Yg all at') 2)≤(F32 (F31 nat 4))))) (fun h7=>fiB false (F47 all at' nat) (condT h7 rfl)) (fun h7=>have _:=of_decide_eq_false (orF1 (orF1 h7)); have _:=of_decide_eq_false (orF2 (orF1 h7)); have _:=of_decide_eq_false (orF2 h7); kn all fun _=>kn (Yg all at').w fun _=>ai (en47_0 all at' nat (by omega)) (fun (i0:Nat×Int) (hi0:Qaa all at' nat i0)=>(fun (m0:Nat) (i40:Int) (hh0:Ubx all at' nat i0 m0 i40)=>have hI0:=hh0.1; have hl0:=hh0.2.1; have _:=hh0.2.2.1; have _:=hh0.2.2.2; ifd (i40<at') (fun h9 _=>ai (by omega:ib i40 all) (kc31 (Uo all i40) 0 (by omega) (ai (fun k10:((F31 (Uo all i40) 0).toList==w3_.toList)=true=>(by omega:ib i40 all)) (kg31 ((F31 (Uo all i40) 0).toList==w3_.toList) true (Uo all i40) 1 (fun k11=>(by omega)) (kg31 ((F31 (Uo all i40) 0).toList==w3_.toList) true (Yg all at') 1 (fun k12=>(by omega)) (ai (fun k13:(bif ((F31 (Uo all i40) 0).toList==w3_.toList) then ((F31 (Uo all i40) 1).toList==(F31 (Yg all at') 1).toList) else false)=true=>have _:((F31 (Uo all i40) 0).toList==w3_.toList)=true:=(Ql k13); have _:=(Qv k13); (by omega:ib i40 all)) (kg31 (bif ((F31 (Uo all i40) 0).toList==w3_.toList) then ((F31 (Uo all i40) 1).toList==(F31 (Yg all at') 1).toList) else false) true (Uo all i40) 3 (fun k14=>have _:((F31 (Uo all i40) 0).toList==w3_.toList)=true:=(Ql k14); have _:=(Qv k14); (by omega)) (kg31 (bif ((F31 (Uo all i40) 0).toList==w3_.toList) then ((F31 (Uo all i40) 1).toList==(F31 (Yg all at') 1).toList) else false) true (Yg all at') 3 (fun k15=>have _:((F31 (Uo all i40) 0).toList==w3_.toList)=true:=(Ql k15); have _:=(Qv k15); (by omega)) (ai (fun k16:(bif (bif ((F31 (Uo all i40) 0).toList==w3_.toList) then ((F31 (Uo all i40) 1).toList==(F31 (Yg all at') 1).toList) else false) then ((F31 (Uo all i40) 3).toList==(F31 (Yg all at') 3).toList) else false)=true=>have _:((F31 (Uo all i40) 0).toList==w3_.toList)=true:=(Ql (Ql k16)); have _:=(Qv (Ql k16)); have _:=(Qv k16); (by omega:ib i40 all)) (kg31 (bif (bif ((F31 (Uo all i40) 0).toList==w3_.toList) then ((F31 (Uo all i40) 1).toList==(F31 (Yg all at') 1).toList) else false) then ((F31 (Uo all i40) 3).toList==(F31 (Yg all at') 3).toList) else false) true (Uo all i40) 4 (fun k17=>have _:((F31 (Uo all i40) 0).toList==w3_.toList)=true:=(Ql (Ql k17)); have _:=(Qv (Ql k17)); have _:=(Qv k17); (by omega)) (kg31 (bif (bif ((F31 (Uo all i40) 0).toList==w3_.toList) then ((F31 (Uo all i40) 1).toList==(F31 (Yg all at') 1).toList) else false) then ((F31 (Uo all i40) 3).toList==(F31 (Yg all at') 3).toList) else false) true (Yg all at') 4 (fun k18=>have _:((F31 (Uo all i40) 0).toList==w3_.toList)=true:=(Ql (Ql k18)); have _:=(Qv (Ql k18)); have _:=(Qv k18); (by omega)) (ifb (bif (bif (bif ((F31 (Uo all i40) 0).toList==w3_.toList) then ((F31 (Uo all i40) 1).toList==(F31 (Yg all at') 1).toList) else false) then ((F31 (Uo all i40) 3).toList==(F31 (Yg all at') 3).toList) else false) then ((F31 (Uo all i40) 4).toList==(F31 (Yg all at') 4).toList) else false) (fun h19=>have _:((F31 (Uo all i40) 0).toList==w3_.toList)=true:=(Ql (Ql (Ql h19))); have _:=(Qv (Ql (Ql h19))); have _:=(Qv (Ql h19)); have _:=(Qv h19); fiB false (F47 all at' nat) (condF h7 (finR (Qr hI0 (condT h9 (condT h19 rfl))) rfl))) (fun h19=>ai (iok (i40+1) (by omega)) (bk47_0 all at' nat i0 m0 (i40+1) hl0 (Qe hI0 (condT h9 (condF h19 rfl))) (by refine ⟨?_,?_⟩ <;> omega))))))))))))))) (fun h9 _=>have hD0_20:Uaw all at' nat=Lp.done i40:=Qk hI0 (condF h9 rfl); fiB true (F47 all at' nat) (condF h7 (finD hD0_20 rfl)))) (i0.1-1) i0.2 (un47_0 all at' nat i0 hi0))))))))))))))) (by kernel_rfl)
theorem kc46a (all:List l52Cut) {K_:Prop} (k_:((idxI (fun c=>((F31 c 0).toList==w5_.toList)) all)<(all.length:Int))→K_):(True)∧(Imp (.l 1 Qh all) (.l 1 Qh all))∧K_:=⟨trivial,Imp.refl _,k_ (g46_0 all)⟩
abbrev kh46a (all:List l52Cut):Hint true Tryz.prog:=.call 46 (S46 (idxI (fun c=>((F31 c 0).toList==w5_.toList)) all) all) (oa46 all) none
theorem kg47 {K_:Prop} (c_ b_:Bool) (all:List l52Cut) (at':Int) (nat:l52Cut) (p_:c_=b_→0≤at'∧at'<(all.length:Int)∧(∀ j:Nat,(nat.w.getD j default).size≤1048576)∧(∀ k j:Nat,((all.getD k default).w.getD j default).size≤1048576)) (k_:K_):(c_=b_→0≤at'∧at'<(all.length:Int)∧(∀ j:Nat,(nat.w.getD j default).size≤1048576)∧(∀ k j:Nat,((all.getD k default).w.getD j default).size≤1048576))∧(c_=b_→Imp (.l 1 Qh all) (.l 1 Qh all))∧(c_=b_→Imp (.v (vI at')) (.v (vI at')))∧(c_=b_→Imps (Qh nat) (Qh nat))∧K_:=⟨p_,fun _=>Imp.refl _,fun _=>Imp.refl _,fun _=>Imps.refl _,k_⟩
abbrev kh47 (all:List l52Cut) (at':Int) (nat:l52Cut):Hint true Tryz.prog:=.call 47 (S47 all at' nat) (ok47 all at' nat) none
def Bu (all:List l52Cut):(Int×Int)→Lp (Int×Int) Bool:=fun (doors,i40) =>
 bif (decide (i40<(all.length:Int))) then (bif (!((F31 (all.getD (Int.toNat i40) default) 0).toList==(⟨#[100,111,111,114]⟩:ByteArray).toList)) then (.next (doors,(i40+1))) else (bif (bif decide ((idxI (fun c=>((F31 c 0).toList==(⟨#[110,97,116]⟩:ByteArray).toList)) all)<0) then true else (!(F47 all i40 (all.getD (Int.toNat (idxI (fun c=>((F31 c 0).toList==(⟨#[110,97,116]⟩:ByteArray).toList)) all)) default)))) then (.ret false) else (.next ((doors+1),(i40+1))))) else (.done (doors,i40))
def F28 (all:List l52Cut):Bool :=
 (runL (Bu all) ((Int.toNat ((all.length:Int)-0))+1) (0,0)).fin (fun r=>r) (fun (doors,i40)=>bif (decide ((idxI (fun c=>((F31 c 0).toList==(⟨#[110,97,116]⟩:ByteArray).toList)) all)<0)) then true else (bif (bif decide (doors≤6) then (bif decide ((F30 (F31 (all.getD (Int.toNat (idxI (fun c=>((F31 c 0).toList==(⟨#[110,97,116]⟩:ByteArray).toList)) all)) default) 2))<(F44 (F31 (all.getD (Int.toNat (idxI (fun c=>((F31 c 0).toList==(⟨#[110,97,116]⟩:ByteArray).toList)) all)) default) 1)).1) then true else decide ((F30 (F31 (all.getD (Int.toNat (idxI (fun c=>((F31 c 0).toList==(⟨#[110,97,116]⟩:ByteArray).toList)) all)) default) 2))≥(IntKind.i64.wrap ((F44 (F31 (all.getD (Int.toNat (idxI (fun c=>((F31 c 0).toList==(⟨#[110,97,116]⟩:ByteArray).toList)) all)) default) 1)).1+(F44 (F31 (all.getD (Int.toNat (idxI (fun c=>((F31 c 0).toList==(⟨#[110,97,116]⟩:ByteArray).toList)) all)) default) 1)).2)))) else false) then decide ((F32 (F31 (all.getD (Int.toNat (idxI (fun c=>((F31 c 0).toList==(⟨#[110,97,116]⟩:ByteArray).toList)) all)) default) 3))≤(F32 (F31 (all.getD (Int.toNat (idxI (fun c=>((F31 c 0).toList==(⟨#[110,97,116]⟩:ByteArray).toList)) all)) default) 4))) else false))
abbrev Qaj (all:List l52Cut):Nat×(Int×Int):=(((Int.toNat ((all.length:Int)-0))+1),(0,0))
abbrev Qny (all:List l52Cut) (m39:Nat) (doors:Int) (i40:Int):Prop:=Int.toNat ((all.length:Int)-i40)<m39∧(0:Int)≤doors∧(doors:Int)≤i40∧(0:Int)≤doors∧(0:Int)≤i40
abbrev Qxq (all:List l52Cut):Lp (Int×Int) Bool:=LpX (Bu all) (Qaj all)
abbrev Qbh (all:List l52Cut) (i:Nat×(Int×Int)):Prop:=LpJ (Bu all) (Qaj all) i (Qny all i.1 i.2.1 i.2.2)
abbrev Uan (all:List l52Cut) (i:Nat×(Int×Int)) (m39:Nat) (doors:Int) (i40:Int):Prop:=LpH (Bu all) (Qaj all) i m39 (doors,i40) (Qny all (m39+1) doors i40)
abbrev Qzb (all:List l52Cut) (doors:Int) (i40:Int) (doors_:Int) (i40_:Int) (K39:Prop):Prop:=(Rf (.int .i64 (idxI (fun c=>((F31 c 0).toList==w5_.toList)) all)))∧((.int .i64 doors:Value)=.int .i64 doors_)∧((.int .i64 i40:Value)=.int .i64 i40_)∧(Im (.l 1 Qh all))∧K39
theorem un28_0 (all:List l52Cut) (i:Nat×(Int×Int)) (h:Qbh all i):Uan all i (i.1-1) i.2.1 i.2.2:=⟨hd1 h.1 h.2.1,hd3 h.2.1,hd2 h.2.1,h.2.2⟩
theorem Uda (all:List l52Cut) (i:Nat×(Int×Int)) (m39:Nat) (doors:Int) (i40:Int) (hl:m39<i.1) (e:runL (Bu all) m39 (doors,i40)=Qxq all) (h:Qny all m39 doors i40):∃ j:Nat×(Int×Int),Qzb all doors i40 j.2.1 j.2.2 (Qbh all j∧j.1<i.1):=⟨(m39,(doors,i40)),rfl,rfl,rfl,Imp.refl _,⟨e,h⟩,hl⟩
theorem en28_0 (all:List l52Cut) (h:(0:Int)≤0∧(0:Int)≤0∧(0:Int)≤0∧(0:Int)≤0):Qzb all 0 0 0 0 (Qbh all (Qaj all)):=⟨rfl,rfl,rfl,Imp.refl _,rfl,Nat.lt_succ_self _,h⟩
def S28 (all:List l52Cut):Spec:=⟨[.r (.c (.l 1 Qh all))],.v (.bool (F28 all)),(∀ k j:Nat,((all.getD k default).w.getD j default).size≤1048576)⟩
theorem ok28 (all:List l52Cut):(S28 all).ok Tryz.prog 28 :=
 Qn mixed (fn:=Tryz.f28) (ct:=.seqk [(0,0)] .no (.seq (.reg [(1,kh46a all)]) (.seq .no (.seq (.seqk [(0,0)] .no (.blk (.loop (ι:=Nat×(Int×Int)) (fun i=>(fun (doors:Int) (i40:Int)=>(⟨[(0,some (.h 0 0)),(3,some (.v (vI (idxI (fun c=>((F31 c 0).toList==w5_.toList)) all)))),(4,some (.v (vI doors))),(5,some (.v (vI i40)))],[(0,some (.shr none (.l 1 Qh all)))],1⟩:St)) i.2.1 i.2.2) (Qbh all) (fun i=>i.1) (Qaj all) (fun i=>(fun (doors:Int) (i40:Int)=>(.seq (.seq .no (.cond .no .no)) (.seq (.blk (.seq (.seq (.reg [(4,kh31 (all.getD (Int.toNat i40) default) 0)]) (.cond .no .no)) (.seq (.reg [(1,.bnd)]) (.seq (.reg [(9,kh47 all i40 (all.getD (Int.toNat (idxI (fun c=>((F31 c 0).toList==w5_.toList)) all)) default))]) (.cond (.seq .no .no) .no))))) (.reg [(1,.bnd)])))) i.2.1 i.2.2)))) (.seq (.seq .no (.cond (.seq .no .no) .no)) (.seq (.reg [(4,kh31 (all.getD (Int.toNat (idxI (fun c=>((F31 c 0).toList==w5_.toList)) all)) default) 1),(5,kh44 (F31 (all.getD (Int.toNat (idxI (fun c=>((F31 c 0).toList==w5_.toList)) all)) default) 1))]) (.seq (.reg [(4,kh31 (all.getD (Int.toNat (idxI (fun c=>((F31 c 0).toList==w5_.toList)) all)) default) 2),(5,kh30 (F31 (all.getD (Int.toNat (idxI (fun c=>((F31 c 0).toList==w5_.toList)) all)) default) 2))]) (.seq (.reg [(19,kh31 (all.getD (Int.toNat (idxI (fun c=>((F31 c 0).toList==w5_.toList)) all)) default) 3),(20,kh32 (F31 (all.getD (Int.toNat (idxI (fun c=>((F31 c 0).toList==w5_.toList)) all)) default) 3)),(25,kh31 (all.getD (Int.toNat (idxI (fun c=>((F31 c 0).toList==w5_.toList)) all)) default) 4),(26,kh32 (F31 (all.getD (Int.toNat (idxI (fun c=>((F31 c 0).toList==w5_.toList)) all)) default) 4))]) .no)))))))) Tryz.func28 (fun (hpre0:∀ k j:Nat,((all.getD k default).w.getD j default).size≤1048576)=>kn all fun _=>kc46a all (fun gv1=>kn all fun _=>ai (en28_0 all (by refine ⟨?_,?_,?_,?_⟩ <;> omega)) (fun (i0:Nat×(Int×Int)) (hi0:Qbh all i0)=>(fun (m0:Nat) (doors:Int) (i40:Int) (hh0:Uan all i0 m0 doors i40)=>have hI0:=hh0.1; have hl0:=hh0.2.1; have _:=hh0.2.2.1; have _:=hh0.2.2.2; ifd (i40<(all.length:Int)) (fun h3 _=>ai (by omega:ib i40 all) (kc31 (all.getD (Int.toNat i40) default) 0 (by omega) (ifb (!((F31 (all.getD (Int.toNat i40) default) 0).toList==w3_.toList)) (fun h4=>ai (iok (i40+1) (by omega)) (Uda all i0 m0 doors (i40+1) hl0 (Qe hI0 (condT h3 (condT h4 rfl))) (by refine ⟨?_,?_,?_,?_,?_⟩ <;> omega))) (fun h4=>ai (iok (doors+1) (by omega)) (ai (fun k5:(decide ((idxI (fun c=>((F31 c 0).toList==w5_.toList)) all)<0))=false=>have _:¬ (idxI (fun c=>((F31 c 0).toList==w5_.toList)) all)<0:=of_decide_eq_false k5; (by omega:ib (idxI (fun c=>((F31 c 0).toList==w5_.toList)) all) all)) (kg47 (decide ((idxI (fun c=>((F31 c 0).toList==w5_.toList)) all)<0)) false all i40 (all.getD (Int.toNat (idxI (fun c=>((F31 c 0).toList==w5_.toList)) all)) default) (fun k6=>have _:¬ (idxI (fun c=>((F31 c 0).toList==w5_.toList)) all)<0:=of_decide_eq_false k6; ⟨(by omega),(by omega),(by exact fun j=>(by assumption:∀ k j:Nat,((all.getD k default).w.getD j default).size≤1048576) _ j),(by omega)⟩) (ifb (bif decide ((idxI (fun c=>((F31 c 0).toList==w5_.toList)) all)<0) then true else (!(F47 all i40 (all.getD (Int.toNat (idxI (fun c=>((F31 c 0).toList==w5_.toList)) all)) default)))) (fun h7=>fiB false (F28 all) (finR (Qr hI0 (condT h3 (condF h4 (condT h7 rfl)))) rfl)) (fun h7=>have _:¬ (idxI (fun c=>((F31 c 0).toList==w5_.toList)) all)<0:=of_decide_eq_false (orF1 h7); ai (iok (i40+1) (by omega)) (Uda all i0 m0 (doors+1) (i40+1) hl0 (Qe hI0 (condT h3 (condF h4 (condF h7 rfl)))) (by refine ⟨?_,?_,?_,?_,?_⟩ <;> omega)))))))))) (fun h3 _=>have hD0_8:Qxq all=Lp.done (doors,i40):=Qk hI0 (condF h3 rfl); ifd ((idxI (fun c=>((F31 c 0).toList==w5_.toList)) all)<0) (fun h9 _=>fiB true (F28 all) (finD hD0_8 (condT h9 rfl))) (fun h9 _=>ai (by omega:ib (idxI (fun c=>((F31 c 0).toList==w5_.toList)) all) all) (kc31 (all.getD (Int.toNat (idxI (fun c=>((F31 c 0).toList==w5_.toList)) all)) default) 1 (by omega) (kc44 (F31 (all.getD (Int.toNat (idxI (fun c=>((F31 c 0).toList==w5_.toList)) all)) default) 1) (by exact Va all (by assumption) _ _) (ai (by omega:ib (idxI (fun c=>((F31 c 0).toList==w5_.toList)) all) all) (kc31 (all.getD (Int.toNat (idxI (fun c=>((F31 c 0).toList==w5_.toList)) all)) default) 2 (by omega) (kc30 (F31 (all.getD (Int.toNat (idxI (fun c=>((F31 c 0).toList==w5_.toList)) all)) default) 2) (by exact Va all (by assumption) _ _) (ai (fun k10:(bif decide (doors≤6) then (bif decide ((F30 (F31 (all.getD (Int.toNat (idxI (fun c=>((F31 c 0).toList==w5_.toList)) all)) default) 2))<(F44 (F31 (all.getD (Int.toNat (idxI (fun c=>((F31 c 0).toList==w5_.toList)) all)) default) 1)).1) then true else decide ((F30 (F31 (all.getD (Int.toNat (idxI (fun c=>((F31 c 0).toList==w5_.toList)) all)) default) 2))≥(IntKind.i64.wrap ((F44 (F31 (all.getD (Int.toNat (idxI (fun c=>((F31 c 0).toList==w5_.toList)) all)) default) 1)).1+(F44 (F31 (all.getD (Int.toNat (idxI (fun c=>((F31 c 0).toList==w5_.toList)) all)) default) 1)).2)))) else false)=true=>have _:=of_decide_eq_true (Ql k10); (by omega:ib (idxI (fun c=>((F31 c 0).toList==w5_.toList)) all) all)) (kg31 (bif decide (doors≤6) then (bif decide ((F30 (F31 (all.getD (Int.toNat (idxI (fun c=>((F31 c 0).toList==w5_.toList)) all)) default) 2))<(F44 (F31 (all.getD (Int.toNat (idxI (fun c=>((F31 c 0).toList==w5_.toList)) all)) default) 1)).1) then true else decide ((F30 (F31 (all.getD (Int.toNat (idxI (fun c=>((F31 c 0).toList==w5_.toList)) all)) default) 2))≥(IntKind.i64.wrap ((F44 (F31 (all.getD (Int.toNat (idxI (fun c=>((F31 c 0).toList==w5_.toList)) all)) default) 1)).1+(F44 (F31 (all.getD (Int.toNat (idxI (fun c=>((F31 c 0).toList==w5_.toList)) all)) default) 1)).2)))) else false) true (all.getD (Int.toNat (idxI (fun c=>((F31 c 0).toList==w5_.toList)) all)) default) 3 (fun k11=>have _:=of_decide_eq_true (Ql k11); (by omega)) (kg32 (bif decide (doors≤6) then (bif decide ((F30 (F31 (all.getD (Int.toNat (idxI (fun c=>((F31 c 0).toList==w5_.toList)) all)) default) 2))<(F44 (F31 (all.getD (Int.toNat (idxI (fun c=>((F31 c 0).toList==w5_.toList)) all)) default) 1)).1) then true else decide ((F30 (F31 (all.getD (Int.toNat (idxI (fun c=>((F31 c 0).toList==w5_.toList)) all)) default) 2))≥(IntKind.i64.wrap ((F44 (F31 (all.getD (Int.toNat (idxI (fun c=>((F31 c 0).toList==w5_.toList)) all)) default) 1)).1+(F44 (F31 (all.getD (Int.toNat (idxI (fun c=>((F31 c 0).toList==w5_.toList)) all)) default) 1)).2)))) else false) true (F31 (all.getD (Int.toNat (idxI (fun c=>((F31 c 0).toList==w5_.toList)) all)) default) 3) (fun k12=>have _:=of_decide_eq_true (Ql k12); (by exact Va all (by assumption) _ _)) (ai (fun k13:(bif decide (doors≤6) then (bif decide ((F30 (F31 (all.getD (Int.toNat (idxI (fun c=>((F31 c 0).toList==w5_.toList)) all)) default) 2))<(F44 (F31 (all.getD (Int.toNat (idxI (fun c=>((F31 c 0).toList==w5_.toList)) all)) default) 1)).1) then true else decide ((F30 (F31 (all.getD (Int.toNat (idxI (fun c=>((F31 c 0).toList==w5_.toList)) all)) default) 2))≥(IntKind.i64.wrap ((F44 (F31 (all.getD (Int.toNat (idxI (fun c=>((F31 c 0).toList==w5_.toList)) all)) default) 1)).1+(F44 (F31 (all.getD (Int.toNat (idxI (fun c=>((F31 c 0).toList==w5_.toList)) all)) default) 1)).2)))) else false)=true=>have _:=of_decide_eq_true (Ql k13); (by omega:ib (idxI (fun c=>((F31 c 0).toList==w5_.toList)) all) all)) (kg31 (bif decide (doors≤6) then (bif decide ((F30 (F31 (all.getD (Int.toNat (idxI (fun c=>((F31 c 0).toList==w5_.toList)) all)) default) 2))<(F44 (F31 (all.getD (Int.toNat (idxI (fun c=>((F31 c 0).toList==w5_.toList)) all)) default) 1)).1) then true else decide ((F30 (F31 (all.getD (Int.toNat (idxI (fun c=>((F31 c 0).toList==w5_.toList)) all)) default) 2))≥(IntKind.i64.wrap ((F44 (F31 (all.getD (Int.toNat (idxI (fun c=>((F31 c 0).toList==w5_.toList)) all)) default) 1)).1+(F44 (F31 (all.getD (Int.toNat (idxI (fun c=>((F31 c 0).toList==w5_.toList)) all)) default) 1)).2)))) else false) true (all.getD (Int.toNat (idxI (fun c=>((F31 c 0).toList==w5_.toList)) all)) default) 4 (fun k14=>have _:=of_decide_eq_true (Ql k14); (by omega)) (kg32 (bif decide (doors≤6) then (bif decide ((F30 (F31 (all.getD (Int.toNat (idxI (fun c=>((F31 c 0).toList==w5_.toList)) all)) default) 2))<(F44 (F31 (all.getD (Int.toNat (idxI (fun c=>((F31 c 0).toList==w5_.toList)) all)) default) 1)).1) then true else decide ((F30 (F31 (all.getD (Int.toNat (idxI (fun c=>((F31 c 0).toList==w5_.toList)) all)) default) 2))≥(IntKind.i64.wrap ((F44 (F31 (all.getD (Int.toNat (idxI (fun c=>((F31 c 0).toList==w5_.toList)) all)) default) 1)).1+(F44 (F31 (all.getD (Int.toNat (idxI (fun c=>((F31 c 0).toList==w5_.toList)) all)) default) 1)).2)))) else false) true (F31 (all.getD (Int.toNat (idxI (fun c=>((F31 c 0).toList==w5_.toList)) all)) default) 4) (fun k15=>have _:=of_decide_eq_true (Ql k15); (by exact Va all (by assumption) _ _)) (fiB (bif (bif decide (doors≤6) then (bif decide ((F30 (F31 (all.getD (Int.toNat (idxI (fun c=>((F31 c 0).toList==w5_.toList)) all)) default) 2))<(F44 (F31 (all.getD (Int.toNat (idxI (fun c=>((F31 c 0).toList==w5_.toList)) all)) default) 1)).1) then true else decide ((F30 (F31 (all.getD (Int.toNat (idxI (fun c=>((F31 c 0).toList==w5_.toList)) all)) default) 2))≥(IntKind.i64.wrap ((F44 (F31 (all.getD (Int.toNat (idxI (fun c=>((F31 c 0).toList==w5_.toList)) all)) default) 1)).1+(F44 (F31 (all.getD (Int.toNat (idxI (fun c=>((F31 c 0).toList==w5_.toList)) all)) default) 1)).2)))) else false) then decide ((F32 (F31 (all.getD (Int.toNat (idxI (fun c=>((F31 c 0).toList==w5_.toList)) all)) default) 3))≤(F32 (F31 (all.getD (Int.toNat (idxI (fun c=>((F31 c 0).toList==w5_.toList)) all)) default) 4))) else false) (F28 all) (finD hD0_8 (condF h9 rfl))))))))))))))))) (i0.1-1) i0.2.1 i0.2.2 (un28_0 all i0 hi0)))) (by kernel_rfl)
theorem Pn {α β:Type} [Inhabited α] [Inhabited β] (f:α→β) (ls:List α) (i:Nat) (h:i<ls.length):(ls.map f).getD i default=f (ls.getD i default):=by
 rw [Kz _ (by simpa using h),Kz _ h,List.getElem_map]
def wsL (lines:List ByteArray):List (List ByteArray):=lines.map fun l=>(F42 l).1
def hdB (w:List ByteArray) (l:List UInt8):Bool:=(w.getD 0 default).data.toList==l
def Qun:List UInt8:=[117,115,101,114]
def Yd:List UInt8:=[112,111,114,116]
def Vh:List UInt8:=[114,117,108,101]
def Tl:List UInt8:=[114,111,117,116,101]
def Qea:List UInt8:=[112,101,101,114]
def hNat:List UInt8:=[110,97,116]
def Ui:List UInt8:=[100,111,111,114]
theorem Yp (lines:List ByteArray) (h:F22 lines=0) (word:ByteArray):Qa lines word=(wsL lines).filter fun w=>hdB w word.data.toList:=by
 unfold Qa wsL
 have e:(lines.map fun l=>Qw l (⟨#[32]⟩:ByteArray))=lines.map fun l=>(F42 l).1:=List.map_congr_left fun l hl=>Li l ((Vp lines h).2 l hl)
 rw [e]; rfl
theorem Ru (lines:List ByteArray) (h:F22 lines=0):∀ w∈wsL lines,Wo w:=fun w hw=>by
 obtain ⟨l,hl,rfl⟩:=List.mem_map.1 hw
 exact (Hj l ((Vp lines h).2 l hl)).form
theorem ws_no (lines:List ByteArray):∀ w∈wsL lines,∀ x∈w,(32:UInt8) ∉ x.data.toList∧x.data.toList≠[]∧x.size≤24:=fun w hw=>by
 obtain ⟨l,hl,rfl⟩:=List.mem_map.1 hw
 exact Qpt l
theorem Ufw (lines:List ByteArray):(lines.map (fun l=>(⟨(F42 l).1⟩:l52Cut)))=(wsL lines).map l52Cut.mk:=by
 unfold wsL
 rw [List.map_map]; rfl
theorem at_n (c:l52Cut) (k:Nat):F31 c (k:Int)=c.w.getD k default:=by
 unfold F31
 by_cases h:k<c.w.length
 ·rw [ltD h,cond_true,nn]
 ·rw [decide_eq_false (by omega),cond_false,Wu _ (by omega)]; rfl
theorem at0 (c:l52Cut):F31 c 0=c.w.getD 0 default:=at_n c 0
theorem at1 (c:l52Cut):F31 c 1=c.w.getD 1 default:=at_n c 1
theorem at2 (c:l52Cut):F31 c 2=c.w.getD 2 default:=at_n c 2
theorem at3 (c:l52Cut):F31 c 3=c.w.getD 3 default:=at_n c 3
theorem at4 (c:l52Cut):F31 c 4=c.w.getD 4 default:=at_n c 4
theorem Xn (ws:List (List ByteArray)) (p:l52Cut→Bool):(ws.map l52Cut.mk).any p=ws.any fun w=>p ⟨w⟩:=by rw [List.any_map]; rfl
theorem Ur {α:Type} {p q:α→Bool}:∀ {xs:List α},(∀ x∈xs,p x=q x)→xs.any p=xs.any q
 | [],_=>rfl
 | x :: xs,h=>by rw [List.any_cons,List.any_cons,h x List.mem_cons_self,Ur fun y hy=>h y (List.mem_cons_of_mem _ hy)]
theorem Ueb (all:List l52Cut):F24 all=all.any fun c=>hdB c.w Qun&&((c.w.getD 2 default).data.toList==[97,108,108]):=by
 unfold F24
 have:=anyL all (fun c=>hdB c.w Qun&&((c.w.getD 2 default).data.toList==[97,108,108])) true (Gc all) (fun i hi=>by
  simp only [Gc,ltD hi,cond_true,nn,at0,at2,blit,cb1]
  rfl) (by simp only [Gc,geD,cond_false]) (fun r=>r) (fun i40=>false) false (fun _=>rfl)
 refine this.trans ?_
 cases (all.any fun c=>hdB c.w Qun&&((c.w.getD 2 default).data.toList==[97,108,108])) <;> rfl
theorem Qgw (lines:List ByteArray) (h:F22 lines=0):F70 lines=!F24 ((wsL lines).map l52Cut.mk):=by
 unfold F70
 rw [Ueb,Xn,Yp lines h,List.any_filter]
 congr 1
 refine Ur fun w _=>?_
 unfold F91
 rw [blit]; rfl
def Qme (ws:List (List ByteArray)) (name:List UInt8):Nat:=(ws.filter fun w=>hdB w Vh&&((w.getD 1 default).data.toList==name)).length
theorem Ts (lines:List ByteArray) (h:F22 lines=0) (name:ByteArray):F92 lines name=(Qme (wsL lines) name.data.toList:Int):=by
 unfold F92
 have:=Ye (Qa lines (⟨#[114,117,108,101]⟩:ByteArray)) (fun (n:Int) w=>bif ((w.getD 1 default).data.toList==name.data.toList) then n+1 else n) (fun n i=>(n,i)) (Bw lines name) (fun i s hi=>by
  simp only [Bw,ltD hi,cond_true,nn,Qz]
  show (bif (((Qa lines (⟨#[114,117,108,101]⟩:ByteArray)).getD i default).getD 1 default).data.toList==name.data.toList then _ else _)=_
  cases ((((Qa lines (⟨#[114,117,108,101]⟩:ByteArray)).getD i default).getD 1 default).data.toList==name.data.toList) <;> rfl) (fun s=>by simp only [Bw,geD,cond_false]) (fun r=>r) (fun (n,v11)=>n) 0
 refine this.trans ?_
 show (Qa lines (⟨#[114,117,108,101]⟩:ByteArray)).foldl _ (0:Int)=_
 rw [Br (fun w:List ByteArray=>((w.getD 1 default).data.toList==name.data.toList)),Yp lines h,List.filter_filter,Int.zero_add]
 unfold Qme
 rw [show (fun a:List ByteArray=>((a.getD 1 default).data.toList==name.data.toList&&hdB a (⟨#[114,117,108,101]⟩:ByteArray).data.toList))=fun w=>hdB w Vh&&((w.getD 1 default).data.toList==name.data.toList) from funext fun w=>Bool.and_comm _ _]
theorem Qwc (all:List l52Cut) (name:ByteArray):F43 all name=((all.filter fun c=>hdB c.w Vh&&((c.w.getD 1 default).data.toList==name.data.toList)).length:Int):=by
 unfold F43
 have:=Ye all (fun (n:Int) c=>bif (hdB c.w Vh&&((c.w.getD 1 default).data.toList==name.data.toList)) then n+1 else n) (fun n i=>(n,i)) (Xs all name) (fun i s hi=>by
  simp only [Xs,ltD hi,cond_true,nn,at0,at1,blit,cb1]
  rw [Qz,Qz]
  show (bif (hdB (all.getD i default).w Vh&&(((all.getD i default).w.getD 1 default).data.toList==name.data.toList)) then _ else _)=_
  cases (hdB (all.getD i default).w Vh&&(((all.getD i default).w.getD 1 default).data.toList==name.data.toList)) <;> rfl) (fun s=>by simp only [Xs,geD,cond_false]) (fun r=>r) (fun (n,i40)=>n) 0
 refine this.trans ?_
 show all.foldl _ (0:Int)=_
 rw [Br (fun c:l52Cut=>hdB c.w Vh&&((c.w.getD 1 default).data.toList==name.data.toList)),Int.zero_add]
theorem Qrh (ws:List (List ByteArray)) (name:ByteArray):F43 (ws.map l52Cut.mk) name=(Qme ws name.data.toList:Int):=by
 rw [Qwc,List.filter_map,List.length_map]; rfl
theorem Qzq (all:List l52Cut):F25 all=!all.any fun c=>(hdB c.w Yd&&(!((c.w.getD 4 default).data.toList==[])&&((F43 all (c.w.getD 4 default))==0))) || (hdB c.w Vh&&decide (F43 all (c.w.getD 1 default)>12)):=by
 unfold F25
 have:=anyL all (fun c=>(hdB c.w Yd&&(!((c.w.getD 4 default).data.toList==[])&&((F43 all (c.w.getD 4 default))==0))) || (hdB c.w Vh&&decide (F43 all (c.w.getD 1 default)>12))) false (Bx all) (fun i hi=>by
  simp only [Bx,ltD hi,cond_true,nn,at0,at1,at4,blit,cb1,Bool.and_assoc]
  show (bif (hdB (all.getD i default).w Yd&&(!(((all.getD i default).w.getD 4 default).data.toList==[])&&(F43 all ((all.getD i default).w.getD 4 default)==0))) then _ else (bif (hdB (all.getD i default).w Vh&&_) then _ else _))=_
  cases (hdB (all.getD i default).w Yd&&(!(((all.getD i default).w.getD 4 default).data.toList==[])&&(F43 all ((all.getD i default).w.getD 4 default)==0))) <;> cases (hdB (all.getD i default).w Vh&&decide (F43 all ((all.getD i default).w.getD 1 default)>12)) <;> rfl) (by simp only [Bx,geD,cond_false]) (fun r=>r) (fun i40=>true) true (fun _=>rfl)
 refine this.trans ?_
 cases all.any _ <;> rfl
theorem Qoe {α:Type} (p q:α→Bool):∀ xs:List α,xs.any (fun x=>p x || q x)=(xs.any p || xs.any q)
 | []=>rfl
 | x :: xs=>by
  simp only [List.any_cons,Qoe p q xs]
  cases p x <;> cases q x <;> simp
theorem Qtp {w:List ByteArray} (h:Jk w) (hn:∀ x∈w,x.data.toList≠[]):decide ((w.length:Int)>4)=!((w.getD 4 default).data.toList==[]):=by
 by_cases hl:4<w.length
 ·rw [decide_eq_true (by omega)]
  have:=hn _ (Kh w hl)
  rw [beq_eq_false_iff_ne.2 this]; rfl
 ·rw [decide_eq_false (by omega),Wu w (by omega)]; rfl
theorem Rt (lines:List ByteArray) (h:F22 lines=0):F71 lines=!F25 ((wsL lines).map l52Cut.mk):=by
 rw [Qzq,Bool.not_not,Xn,Qoe]
 unfold F71
 have:=anyL (Qa lines (⟨#[112,111,114,116]⟩:ByteArray)) (fun w=>decide ((w.length:Int)>4)&&(F92 lines (w.getD 4 default)==0)) true (Bs lines) (fun i hi=>by
  simp only [Bs,ltD hi,cond_true,nn,cb1]; rfl) (by simp only [Bs,geD,cond_false]) (fun r=>r) (fun v8=>(Qa lines (⟨#[114,117,108,101]⟩:ByteArray)).any (fun (x0:List ByteArray)=>F93 x0 lines)) _ (fun _=>rfl)
 refine this.trans ?_
 rw [Yp lines h,Yp lines h,List.any_filter,List.any_filter,cb2]
 congr 1
 ·refine Ur fun w hw=>?_
  have e4:F43 ((wsL lines).map l52Cut.mk) (w.getD 4 default)=F92 lines (w.getD 4 default):=by rw [Qrh,Ts lines h]
  rw [e4]
  cases hp:hdB w Yd with
  | false =>
   have hp':hdB w (⟨#[112,111,114,116]⟩:ByteArray).data.toList=false:=hp
   rw [hp',Bool.false_and,Bool.false_and]
  | true =>
   have hp':hdB w (⟨#[112,111,114,116]⟩:ByteArray).data.toList=true:=hp
   have hpp:=Rx (Ru lines h w hw) (eq_of_beq hp)
   rw [hp',Qtp hpp fun x hx=>(ws_no lines w hw x hx).2.1]
 ·refine Ur fun w hw=>?_
  have e1:F43 ((wsL lines).map l52Cut.mk) (w.getD 1 default)=F92 lines (w.getD 1 default):=by rw [Qrh,Ts lines h]
  show (hdB w Vh&&_)=(hdB w Vh&&_)
  rw [e1]; rfl
def Zp {α:Type} (ov:α→α→Bool):List α→List α→Bool
 | _,[]=>false
 | seen,x :: r=>seen.any (ov x) || Zp ov (seen++[x]) r
theorem Vi {α:Type} [Inhabited α] (ov:α→α→Bool) (xs:List α):∀ (m i:Nat),i+m=xs.length→anyF (fun i=>(xs.take i).any (ov (xs.getD i default))) i m=Zp ov (xs.take i) (xs.drop i)
 | 0,i,h=>by rw [List.drop_of_length_le (by omega)]; rfl
 | m+1,i,h=>by
  have hd:xs.drop i=xs.getD i default :: xs.drop (i+1):=by
   rw [List.drop_eq_getElem_cons (show i<xs.length by omega),List.getD_eq_getElem?_getD,List.getElem?_eq_getElem (show i<xs.length by omega)]; rfl
  rw [hd,Zp,anyF,Vi ov xs m (i+1) (by omega),Nx (show i<xs.length by omega)]
theorem Bt {α:Type} (P:α→Bool) (ov:α→α→Bool):∀ (xs seen:List α),Zp (fun x y=>P x&&(P y&&ov x y)) seen xs=Zp ov (seen.filter P) (xs.filter P)
 | [],seen=>rfl
 | x :: xs,seen=>by
  rw [Zp,Bt P ov xs]
  cases h:P x with
  | true =>
   rw [List.filter_cons_of_pos h,Zp,List.filter_append,List.any_filter]
   simp only [Bool.true_and,List.filter_cons_of_pos h,List.filter_nil]
  | false =>
   rw [List.filter_cons_of_neg (by simp [h]),List.filter_append,List.filter_cons_of_neg (by simp [h]),List.filter_nil,List.append_nil]
   simp only [Bool.false_and]
   rw [show seen.any (fun _=>false)=false by simp,Bool.false_or]
theorem Qbs {α γ:Type} (f:α→γ) (ov:γ→γ→Bool):∀ (xs seen:List α),Zp ov (seen.map f) (xs.map f)=Zp (fun x y=>ov (f x) (f y)) seen xs
 | [],_=>rfl
 | x :: xs,seen=>by
  rw [List.map_cons,Zp,Zp,← Qbs f ov xs,List.map_append,List.any_map]; rfl
theorem Qaw {α:Type} {ov ov':α→α→Bool} {Q:α→Prop} (h:∀ x y,Q x→Q y→ov x y=ov' x y):∀ (xs seen:List α),(∀ x∈xs,Q x)→(∀ x∈seen,Q x)→Zp ov seen xs=Zp ov' seen xs
 | [],_,_,_=>rfl
 | x :: xs,seen,h1,h2=>by
  have hx:=h1 x List.mem_cons_self
  rw [Zp,Zp,Ur (fun y hy=>h x y hx (h2 y hy)),Qaw h xs (seen++[x]) (fun y hy=>h1 y (List.mem_cons_of_mem _ hy)) (fun y hy=>by
   rcases List.mem_append.1 hy with hy | hy
   ·exact h2 y hy
   ·rw [List.mem_singleton.1 hy]; exact hx)]
theorem Qfl {α:Type} [Inhabited α] (xs:List α) (p:α→Bool) (i:Nat) (h:i≤xs.length):anyF (fun k=>p (xs.getD k default)) 0 i=(xs.take i).any p:=by
 have hl:(xs.take i).length=i:=by rw [List.length_take]; omega
 have h1:=Kq (xs.take i) p i 0 (by omega)
 rw [List.drop_zero] at h1
 rw [← h1]
 have:∀ (m k:Nat),k+m=i→anyF (fun k=>p (xs.getD k default)) k m=anyF (fun k=>p ((xs.take i).getD k default)) k m:=by
  intro m
  induction m with
  | zero=>intro k _; rfl
  | succ m ih =>
   intro k hk
   rw [anyF,anyF,ih (k+1) (by omega)]
   congr 2
   rw [List.getD_eq_getElem?_getD,List.getD_eq_getElem?_getD,List.getElem?_take,if_pos (by omega)]
 exact this i 0 (by omega)
theorem Qis (L:Int) (h0:0≤L) (h1:L≤16):F68 L=((2 ^ (16-L.toNat):Nat):Int):=by
 have h3:L=0∨L=1∨L=2∨L=3∨L=4∨L=5∨L=6∨L=7∨L=8∨L=9∨L=10∨L=11∨L=12∨L=13∨L=14∨L=15∨L=16:=by omega
 rcases h3 with rfl | rfl | rfl | rfl | rfl | rfl | rfl | rfl | rfl | rfl | rfl | rfl | rfl | rfl | rfl | rfl | rfl <;> exact of_decide_eq_true rfl
theorem Qgc (a L x:Int) (ha:0≤a∧a≤65535) (hL:0≤L∧L≤16):F99 (⟨a,L⟩:Qb) x=decide (a≤x∧x<a+F68 L):=by
 unfold F99 F122
 have hs:=Qre L hL.1 hL.2
 have e:F144 (⟨a,L⟩:Qb)=F68 L:=Qfj a L hL.1 hL.2
 rw [e]
 simp only
 have w1:IntKind.i64.wrap (a+F68 L)=a+F68 L:=Yw (by omega) (by omega)
 have w2:IntKind.i64.wrap (a+F68 L-1)=a+F68 L-1:=Yw (by omega) (by omega)
 rw [w1,w2]
 exact decide_eq_decide.2 (by omega)
theorem Qil (a b n m c:Int) (hm:1≤m) (hn:n=m*c) (ha:n ∣ a) (hb:m ∣ b) (h:a<b+m):a≤b:=by
 obtain ⟨x,rfl⟩:=ha
 obtain ⟨y,rfl⟩:=hb
 subst hn
 have h1:m*(c*x)<m*(y+1):=by rw [Int.mul_add,Int.mul_one,← Int.mul_assoc]; exact h
 have h2:c*x<y+1:=Int.lt_of_mul_lt_mul_left h1 (by omega)
 rw [Int.mul_assoc]
 exact Int.mul_le_mul_of_nonneg_left (by omega) (by omega)
theorem Qka (L M:Int) (h:0≤L∧L≤M∧M≤16):∃ c:Int,F68 L=F68 M*c:=by
 rw [Qis L h.1 (by omega),Qis M (by omega) h.2.2]
 refine ⟨((2 ^ (M.toNat-L.toNat):Nat):Int),?_⟩
 rw [← Int.natCast_mul,← Nat.pow_add]
 congr 2
 omega
theorem Quq {l:List UInt8} {a n:Int} (h:pfxL l=some (a,n)):F68 n ∣ a∧0≤a∧a≤65535∧0≤n∧n≤16:=by
 have hb:=Qhc h
 refine ⟨?_,hb⟩
 unfold pfxL at h
 match hs:Qx 47 l,h with
 | [x,y],h =>
  rw [pfx2] at h
  cases hc:decide (0≤Yc x)&&(in16 (num6 y)&&((Yc x).tmod (F68 (num6 y))==0)) with
  | false=>rw [hc] at h; cases h
  | true =>
   rw [hc] at h
   simp only [cond_true,Option.some.injEq,Prod.mk.injEq] at h
   obtain ⟨rfl,rfl⟩:=h
   simp only [Bool.and_eq_true,beq_iff_eq] at hc
   exact Int.dvd_of_tmod_eq_zero hc.2.2
 | [],h=>cases h
 | [x],h=>cases h
 | x :: y :: z :: r,h=>cases h
theorem Lz (s:ByteArray) (h:F154 s=true):∃ a L:Int,F100 s=((⟨a,L⟩:Qb),true)∧F44 s=(a,F68 L)∧F68 L ∣ a∧(0≤a∧a≤65535)∧(0≤L∧L≤16)∧1≤F68 L∧F68 L≤65536:=by
 rw [Lu] at h
 cases hp:pfxL s.data.toList with
 | none=>rw [hp] at h; cases h
 | some q =>
  obtain ⟨a,L⟩:=q
  have hd:=Quq hp
  have hs:=Qre L hd.2.2.2.1 hd.2.2.2.2
  exact ⟨a,L,by rw [Lg,hp],by rw [Qac,hp],hd.1,⟨hd.2.1,hd.2.2.1⟩,hd.2.2.2,hs⟩
def ovI (x y:ByteArray):Bool:=F95 (F100 x).1 (F100 y).1 || F95 (F100 y).1 (F100 x).1
def ovS (x y:ByteArray):Bool:=decide ((F44 x).1<IntKind.i64.wrap ((F44 y).1+(F44 y).2))&&decide ((F44 y).1<IntKind.i64.wrap ((F44 x).1+(F44 x).2))
theorem Uft (x y:ByteArray) (hx:F154 x=true) (hy:F154 y=true):ovI x y=ovS x y:=by
 obtain ⟨a,L,e1,e2,d1,b1,c1,s1⟩:=Lz x hx
 obtain ⟨b,M,f1,f2,d2,b2,c2,s2⟩:=Lz y hy
 unfold ovI ovS F95
 rw [e1,e2,f1,f2]
 simp only [Qgc _ _ _ b1 c1,Qgc _ _ _ b2 c2,cb1]
 rw [Yw (by omega) (by omega),Yw (by omega) (by omega),← Bool.decide_and,← Bool.decide_and,← Bool.decide_and,← Bool.decide_or]
 refine decide_eq_decide.2 ⟨fun h=>?_,fun h=>?_⟩
 ·rcases h with h | h <;> omega
 ·rcases Int.le_total L M with hl | hl
  ·obtain ⟨c,hc⟩:=Qka L M ⟨c1.1,hl,c2.2⟩
   exact .inr ⟨hl,Qil a b _ _ c s2.1 hc d1 d2 h.1,h.2⟩
  ·obtain ⟨c,hc⟩:=Qka M L ⟨c2.1,hl,c1.2⟩
   exact .inl ⟨hl,Qil b a _ _ c s1.1 hc d2 d1 h.2,h.1⟩
theorem Qml (lines:List ByteArray):F72 lines=Zp (fun p q=>F95 p q || F95 q p) [] (Qo lines):=by
 unfold F72
 have:=Yk (Bv lines) (Qo lines).length (fun i=>((Qo lines).take i).any (fun q=>F95 ((Qo lines).getD i default) q || F95 q ((Qo lines).getD i default))) true (fun r=>r) false (fun i hi=>by
  simp only [Bv,ltD hi,cond_true,nn]
  exact anyL ((Qo lines).take i) (fun q=>F95 ((Qo lines).getD i default) q || F95 q ((Qo lines).getD i default)) true (Bf lines (i:Int)) (fun j hj=>by
   simp only [Bf,nn,ltD hj,cond_true,cb2]; rfl) (by simp only [Bf,nn,geD,cond_false]) Lp.ret _ _ (fun _=>rfl)) (by simp only [Bv,geD,cond_false]) (Qo lines).length 0 (by omega) (Int.toNat (((Qo lines).length:Int)-0)+1) (by omega)
 rw [Vi (fun p q=>F95 p q || F95 q p) (Qo lines) (Qo lines).length 0 (by omega),List.take_zero,List.drop_zero] at this
 refine Eq.trans this ?_
 cases Zp (fun p q=>F95 p q || F95 q p) [] (Qo lines) <;> rfl
theorem Qvu (all:List l52Cut):F26 all=!Zp (fun c e=>hdB c.w Yd&&(hdB e.w Yd&&ovS (c.w.getD 2 default) (e.w.getD 2 default))) [] all:=by
 unfold F26
 have:=Yk (Xk all) all.length (fun i=>(all.take i).any (fun e=>hdB (all.getD i default).w Yd&&(hdB e.w Yd&&ovS ((all.getD i default).w.getD 2 default) (e.w.getD 2 default)))) false (fun r=>r) true (fun i hi=>by
  simp only [Xk,ltD hi,cond_true]
  have h1:=Yk (Bk all (i:Int)) i (fun k=>hdB (all.getD i default).w Yd&&(hdB (all.getD k default).w Yd&&ovS ((all.getD i default).w.getD 2 default) ((all.getD k default).w.getD 2 default))) false (Lp.ret:Bool→Lp Int Bool) (.next ((i+1:Nat):Int)) (fun k hk=>by
   simp only [Bk,ltD hk,cond_true,nn,at0,at2,blit,cb1,cb2]
   show (bif (!(hdB (all.getD i default).w Yd) || !(hdB (all.getD k default).w Yd)) then _ else (bif ovS ((all.getD i default).w.getD 2 default) ((all.getD k default).w.getD 2 default) then _ else _))=_
   cases hdB (all.getD i default).w Yd <;> cases hdB (all.getD k default).w Yd <;> cases ovS ((all.getD i default).w.getD 2 default) ((all.getD k default).w.getD 2 default) <;> rfl) (by
   simp only [Bk,decide_eq_false (show ¬ (i:Int)<(i:Int) by omega),cond_false]) i 0 (by omega) (Int.toNat ((i:Int)-0)+1) (by omega)
  rw [Qfl all (fun e=>hdB (all.getD i default).w Yd&&(hdB e.w Yd&&ovS ((all.getD i default).w.getD 2 default) (e.w.getD 2 default))) i (by omega)] at h1
  exact h1) (by simp only [Xk,geD,cond_false]) all.length 0 (by omega) (Int.toNat ((all.length:Int)-0)+1) (by omega)
 rw [Vi (fun c e=>hdB c.w Yd&&(hdB e.w Yd&&ovS (c.w.getD 2 default) (e.w.getD 2 default))) all all.length 0 (by omega),List.take_zero,List.drop_zero] at this
 refine Eq.trans this ?_
 cases Zp (fun (c e:l52Cut)=>hdB c.w Yd&&(hdB e.w Yd&&ovS (c.w.getD 2 default) (e.w.getD 2 default))) [] all <;> rfl
theorem Qhx (lines:List ByteArray) (h:F22 lines=0):F72 lines=!F26 ((wsL lines).map l52Cut.mk):=by
 rw [Qvu,Bool.not_not,Qml]
 have e1:=Qbs l52Cut.mk (fun (c e:l52Cut)=>hdB c.w Yd&&(hdB e.w Yd&&ovS (c.w.getD 2 default) (e.w.getD 2 default))) (wsL lines) []
 rw [List.map_nil] at e1
 rw [e1]
 have e2:=Bt (fun w:List ByteArray=>hdB w Yd) (fun w v=>ovS (w.getD 2 default) (v.getD 2 default)) (wsL lines) []
 refine Eq.trans ?_ e2.symm
 have e3:=Qbs (fun w:List ByteArray=>(F100 (w.getD 2 default)).1) (fun p q=>F95 p q || F95 q p) (Qa lines (⟨#[112,111,114,116]⟩:ByteArray)) []
 rw [List.map_nil] at e3
 have e4:Qo lines=(Qa lines (⟨#[112,111,114,116]⟩:ByteArray)).map (fun w:List ByteArray=>(F100 (w.getD 2 default)).1):=rfl
 rw [e4,e3,Yp lines h]
 refine Qaw (Q:=fun w=>Jk w) (fun w v hw hv=>Uft _ _ (by unfold Jk at hw; exact hw.2.2.2.2) (by unfold Jk at hv; exact hv.2.2.2.2)) _ [] (fun w hw=>?_) (fun w hw=>by cases hw)
 obtain ⟨h1,h2⟩:=List.mem_filter.1 hw
 exact Rx (Ru lines h w h1) (eq_of_beq h2)
def Qzf (w:List ByteArray) (addr:Int):Bool:=hdB w Yd&&(decide (addr>(F44 (w.getD 2 default)).1)&&decide (addr<IntKind.i64.wrap ((F44 (w.getD 2 default)).1+(F44 (w.getD 2 default)).2)))
theorem Udi (all:List l52Cut) (addr:Int):F45 all addr=all.any fun c=>Qzf c.w addr:=by
 unfold F45
 have:=anyL all (fun c=>Qzf c.w addr) true (Bz all addr) (fun i hi=>by
  simp only [Bz,ltD hi,cond_true,nn,at0,at2,blit,cb1]
  show (bif hdB (all.getD i default).w Yd then (bif _ then _ else _) else _)=bif (hdB (all.getD i default).w Yd&&_) then _ else _
  cases hdB (all.getD i default).w Yd <;> rfl) (by simp only [Bz,geD,cond_false]) (fun r=>r) (fun i40=>false) false (fun _=>rfl)
 refine this.trans ?_
 cases all.any (fun c=>Qzf c.w addr) <;> rfl
theorem Ucb (all:List l52Cut):F27 all=!all.any fun c=>(hdB c.w Tl&&!F45 all (F30 (c.w.getD 2 default))) || (hdB c.w Qea&&!F45 all (F30 (c.w.getD 1 default))):=by
 unfold F27
 have:=anyL all (fun c=>(hdB c.w Tl&&!F45 all (F30 (c.w.getD 2 default))) || (hdB c.w Qea&&!F45 all (F30 (c.w.getD 1 default)))) false (Xx all) (fun i hi=>by
  simp only [Xx,ltD hi,cond_true,nn,at0,at1,at2,blit]
  show (bif hdB (all.getD i default).w Tl then (bif !F45 all (F30 ((all.getD i default).w.getD 2 default)) then _ else _) else (bif hdB (all.getD i default).w Qea then (bif !F45 all (F30 ((all.getD i default).w.getD 1 default)) then _ else _) else _))=_
  cases hr:hdB (all.getD i default).w Tl with
  | true =>
   have hp:hdB (all.getD i default).w Qea=false:=by
    rw [hdB,beq_iff_eq] at hr
    rw [hdB,hr]; decide
   rw [hp]
   cases (!F45 all (F30 ((all.getD i default).w.getD 2 default))) <;> rfl
  | false=>cases hdB (all.getD i default).w Qea <;> cases (!F45 all (F30 ((all.getD i default).w.getD 1 default))) <;> rfl) (by simp only [Xx,geD,cond_false]) (fun r=>r) (fun i40=>true) true (fun _=>rfl)
 refine this.trans ?_
 cases all.any _ <;> rfl
theorem Qdh (lines:List ByteArray):F73 lines=(((Qa lines (⟨#[114,111,117,116,101]⟩:ByteArray)).map fun w=>w.getD 2 default)++((Qa lines (⟨#[112,101,101,114]⟩:ByteArray)).map fun w=>w.getD 1 default)).any fun x0=>F96 x0 (Qo lines):=by
 have h0:Pa lines=Lp.done ((Qa lines (⟨#[114,111,117,116,101]⟩:ByteArray)).map fun w=>w.getD 2 default):=by
  unfold Pa
  have:=Ye (Qa lines (⟨#[114,111,117,116,101]⟩:ByteArray)) (fun (s:List ByteArray) w=>s++[w.getD 2 default]) (fun s i=>(s,i)) (Xm lines) (fun i s hi=>by
   simp only [Xm,ltD hi,cond_true,nn]; rfl) (fun s=>by simp only [Xm,geD,cond_false]) Lp.ret (fun (addrs1,v13)=>Lp.done addrs1) []
  refine this.trans ?_
  rw [Zt,List.nil_append]
 have h1:∀ a,Hr lines a=Lp.done (a++(Qa lines (⟨#[112,101,101,114]⟩:ByteArray)).map fun w=>w.getD 1 default):=fun a=>by
  unfold Hr
  have:=Ye (Qa lines (⟨#[112,101,101,114]⟩:ByteArray)) (fun (s:List ByteArray) w=>s++[w.getD 1 default]) (fun s i=>(s,i)) (Bc lines a) (fun i s hi=>by
   simp only [Bc,ltD hi,cond_true,nn]; rfl) (fun s=>by simp only [Bc,geD,cond_false]) Lp.ret (fun (addrs3,v27)=>Lp.done addrs3) a
  refine this.trans ?_
  rw [Zt]
 unfold F73
 rw [h0]
 show (Hr lines _).fin _ _=_
 rw [h1]; rfl
theorem Qez (lines:List ByteArray) (h:F22 lines=0) (t:ByteArray):F96 t (Qo lines)=!F45 ((wsL lines).map l52Cut.mk) (F30 t):=by
 rw [Udi,Xn]
 unfold F96
 rw [Gs]
 congr 1
 have e4:Qo lines=(Qa lines (⟨#[112,111,114,116]⟩:ByteArray)).map (fun w:List ByteArray=>(F100 (w.getD 2 default)).1):=rfl
 rw [e4,List.any_map,Yp lines h,List.any_filter]
 refine Ur fun w hw=>?_
 show (hdB w Yd&&_)=(hdB w Yd&&_)
 cases hp:hdB w Yd with
 | false=>rfl
 | true =>
  have hpp:=Rx (Ru lines h w hw) (eq_of_beq hp)
  obtain ⟨a,L,e1,e2,d1,b1,c1,s1⟩:=Lz (w.getD 2 default) (by unfold Jk at hpp; exact hpp.2.2.2.2)
  rw [Bool.true_and,Bool.true_and]
  show F98 (F100 (w.getD 2 default)).1 (F30 t)=_
  unfold F98
  rw [e1,e2,Qgc _ _ _ b1 c1,cb1,Yw (by simp only; omega) (by simp only; omega),neI]
  simp only
  rw [← decide_not,← Bool.decide_and,← Bool.decide_and]
  exact decide_eq_decide.2 (by omega)
theorem Rs (lines:List ByteArray) (h:F22 lines=0):F73 lines=!F27 ((wsL lines).map l52Cut.mk):=by
 rw [Ucb,Bool.not_not,Xn,Qdh,List.any_append,Qoe,List.any_map,List.any_map,Yp lines h,Yp lines h,List.any_filter,List.any_filter]
 congr 1
 ·refine Ur fun w hw=>?_
  show (hdB w Tl&&F96 (w.getD 2 default) (Qo lines))=_
  rw [Qez lines h]
 ·refine Ur fun w hw=>?_
  show (hdB w Qea&&F96 (w.getD 1 default) (Qo lines))=_
  rw [Qez lines h]
theorem Qcd {α ρ τ:Type} [Inhabited α] (xs:List α) (P:α→Bool) (B:Nat→Bool) (bad:ρ) (step:Int×Int→Lp (Int×Int) ρ)
  (h1:∀ (i:Nat) (n:Int),i<xs.length→step (n,(i:Int))=bif P (xs.getD i default) then (bif B i then .ret bad else .next (n+1,((i+1:Nat):Int))) else .next (n,((i+1:Nat):Int)))
  (h2:∀ n:Int,step (n,(xs.length:Int))=.done (n,(xs.length:Int))) (f:ρ→τ) (g:Int×Int→τ) :
  ∀ (m i:Nat) (n:Int),i+m=xs.length→∀ fuel,m<fuel→(runL step fuel (n,(i:Int))).fin f g=bif anyF (fun i=>P (xs.getD i default)&&B i) i m then f bad else g (n+(((xs.drop i).filter P).length:Int),(xs.length:Int))
 | m,i,_,_,0,hf=>absurd hf (Nat.not_lt_zero _)
 | 0,i,n,h,fuel+1,hf=>by
  obtain rfl:i=xs.length:=by omega
  rw [Kv _ (h2 n),List.drop_of_length_le (Nat.le_refl _)]
  show g _=g _
  simp
 | m+1,i,n,h,fuel+1,hf=>by
  have hst:=h1 i n (by omega)
  have hd:xs.drop i=xs.getD i default :: xs.drop (i+1):=by
   rw [List.drop_eq_getElem_cons (show i<xs.length by omega),List.getD_eq_getElem?_getD,List.getElem?_eq_getElem (show i<xs.length by omega)]; rfl
  rw [anyF,hd]
  cases hp:P (xs.getD i default) with
  | false =>
   rw [hp,cond_false] at hst
   rw [Yf _ hst,Qcd xs P B bad step h1 h2 f g m (i+1) _ (by omega) fuel (by omega),List.filter_cons_of_neg (by rw [hp]; exact Bool.false_ne_true)]
   simp
  | true =>
   rw [hp,cond_true] at hst
   rw [Bool.true_and]
   cases hb:B i with
   | true=>rw [hb,cond_true] at hst; rw [Zq _ hst]; rfl
   | false =>
    rw [hb,cond_false] at hst
    rw [Yf _ hst,Qcd xs P B bad step h1 h2 f g m (i+1) _ (by omega) fuel (by omega),List.filter_cons_of_pos hp,Bool.false_or,List.length_cons]
    congr 2
    rw [Int.natCast_add,Int.add_assoc,Int.add_comm (1:Int)]; rfl
theorem Qkp {α:Type} [Inhabited α] (p:α→Bool) (xs:List α):(idxI p xs<0↔xs.filter p=[])∧(0≤idxI p xs→xs.getD (idxI p xs).toNat default=(xs.filter p).getD 0 default):=by
 unfold idxI
 cases h:first (fun k=>p (xs.getD k default)) xs.length with
 | none =>
  have h1:=first_none.1 h
  refine ⟨⟨fun _=>?_,fun _=>by decide⟩,fun h=>absurd h (by decide)⟩
  rw [List.filter_eq_nil_iff]
  intro x hx
  obtain ⟨k,hk,rfl⟩:=Je hx
  rw [h1 k hk]; exact Bool.false_ne_true
 | some k =>
  obtain ⟨h1,h2,h3⟩:=first_some.1 h
  have hs:xs.filter p=xs.getD k default :: (xs.drop (k+1)).filter p:=by
   have e:xs=xs.take k++xs.getD k default :: xs.drop (k+1):=by
    rw [Kz _ h1,← List.drop_eq_getElem_cons h1,List.take_append_drop]
   have h4:(xs.take k).filter p=[]:=by
    rw [List.filter_eq_nil_iff]
    intro x hx
    obtain ⟨j,hj,rfl⟩:=Je hx
    have hl:j<k:=by rw [List.length_take] at hj; omega
    rw [List.getD_eq_getElem?_getD,List.getElem?_take,if_pos hl,← List.getD_eq_getElem?_getD]
    rw [h3 j hl]; exact Bool.false_ne_true
   conv=>lhs; rw [e]
   rw [List.filter_append,h4,List.nil_append,List.filter_cons_of_pos h2]
  refine ⟨⟨fun h=>absurd h (by show ¬ ((k:Int)<0); omega),fun h=>by rw [hs] at h; cases h⟩,fun _=>?_⟩
  rw [hs]
  show xs.getD (k:Int).toNat default=xs.getD k default
  rw [nn]
theorem Qho (p q:Nat→Bool):∀ (m i:Nat),anyF (fun k=>p k || q k) i m=(anyF p i m || anyF q i m)
 | 0,_=>rfl
 | m+1,i=>by
  rw [anyF,anyF,anyF,Qho p q m (i+1)]
  cases p i <;> cases q i <;> simp
theorem Es {p q:Nat→Bool}:∀ (m i:Nat),(∀ k,i≤k→k<i+m→p k=q k)→anyF p i m=anyF q i m
 | 0,_,_=>rfl
 | m+1,i,h=>by rw [anyF,anyF,h i (Nat.le_refl _) (by omega),Es m (i+1) fun k h1 h2=>h k (by omega) (by omega)]
def badD (a n lo hi:Int) (d:List ByteArray):Bool:=(decide (F30 (d.getD 3 default)<a) || decide (F30 (d.getD 3 default)≥a+n)) || decide (lo≤F32 (d.getD 2 default)∧F32 (d.getD 2 default)≤hi)
def Vn (x y:List ByteArray):Bool:=(((y.getD 1 default).toList==(x.getD 1 default).toList)&&((y.getD 3 default).toList==(x.getD 3 default).toList))&&((y.getD 4 default).toList==(x.getD 4 default).toList)
theorem Ufi (all:List l52Cut) (i:Nat) (hi:i<all.length) (nat:l52Cut) (a n:Int) (hp:F44 (nat.w.getD 1 default)=(a,n)) (hb:0≤a∧a≤65535∧1≤n∧n≤65536) :
  F47 all (i:Int) nat=!(badD a n (F32 (nat.w.getD 3 default)) (F32 (nat.w.getD 4 default)) (all.getD i default).w || (all.take i).any fun e=>hdB e.w Ui&&Vn (all.getD i default).w e.w):=by
 unfold F47
 simp only [at1,at2,at3,at4,nn,hp,cb2]
 rw [Yw (by omega) (by omega)]
 have h1:=Yk (Bm all (i:Int) nat) i (fun k=>hdB (all.getD k default).w Ui&&Vn (all.getD i default).w (all.getD k default).w) false (fun r=>r) true (fun k hk=>by
  simp only [Bm,ltD hk,cond_true,nn,at0,at1,at3,at4,cb1]
  show (bif (((_&&_)&&_)&&_) then _ else _)=bif (hdB (all.getD k default).w Ui&&((_&&_)&&_)) then _ else _
  rw [blit,Bool.and_assoc,Bool.and_assoc,Bool.and_assoc]; rfl) (by simp only [Bm,decide_eq_false (show ¬ (i:Int)<(i:Int) by omega),cond_false]) i 0 (by omega) (Int.toNat ((i:Int)-0)+1) (by omega)
 rw [Qfl all (fun e=>hdB e.w Ui&&Vn (all.getD i default).w e.w) i (by omega)] at h1
 rw [Bool.not_or]
 show (bif badD a n _ _ _ then false else _)=_
 refine (congrArg (fun z=>bif badD a n (F32 (nat.w.getD 3 default)) (F32 (nat.w.getD 4 default)) (all.getD i default).w then false else z) h1).trans ?_
 cases badD a n (F32 (nat.w.getD 3 default)) (F32 (nat.w.getD 4 default)) (all.getD i default).w <;> cases ((all.take i).any fun e=>hdB e.w Ui&&Vn (all.getD i default).w e.w) <;> rfl
def Qgl (a n lo hi:Int) (ds:List (List ByteArray)):Bool:=ds.any (badD a n lo hi) || Zp Vn [] ds
theorem Qdm (ws:List (List ByteArray)):F28 (ws.map l52Cut.mk)=match ws.filter (fun w=>hdB w hNat) with
  | []=>!(ws.any fun w=>hdB w Ui)
  | w :: _=>bif anyF (fun i=>hdB ((ws.map l52Cut.mk).getD i default).w Ui&&!F47 (ws.map l52Cut.mk) (i:Int) ⟨w⟩) 0 ws.length then false else
    ((decide (((ws.filter fun w=>hdB w Ui).length:Int)≤6)&&(decide (F30 (w.getD 2 default)<(F44 (w.getD 1 default)).1) || decide (F30 (w.getD 2 default)≥IntKind.i64.wrap ((F44 (w.getD 1 default)).1+(F44 (w.getD 1 default)).2))))&&decide (F32 (w.getD 3 default)≤F32 (w.getD 4 default))):=by
 generalize hall:ws.map l52Cut.mk=all
 have hlen:all.length=ws.length:=by rw [← hall,List.length_map]
 have hidx:=Qkp (fun c=>((F31 c 0).toList==(⟨#[110,97,116]⟩:ByteArray).toList)) all
 have hnf:all.filter (fun c=>((F31 c 0).toList==(⟨#[110,97,116]⟩:ByteArray).toList))=(ws.filter fun w=>hdB w hNat).map l52Cut.mk:=by
  rw [← hall,List.filter_map]
  congr 2
  funext w
  show ((F31 ⟨w⟩ 0).toList==_)=_
  rw [at0,blit]; rfl
 rw [hnf] at hidx
 have hdf:all.filter (fun c=>hdB c.w Ui)=(ws.filter fun w=>hdB w Ui).map l52Cut.mk:=by
  rw [← hall,List.filter_map]; rfl
 have e211:F46 all=idxI (fun c=>((F31 c 0).toList==(⟨#[110,97,116]⟩:ByteArray).toList)) all:=as46 all
 unfold F28
 generalize hk:idxI (fun c=>((F31 c 0).toList==(⟨#[110,97,116]⟩:ByteArray).toList)) all=k at hidx
 have hloop:=Qcd all (fun c=>hdB c.w Ui) (fun i=>decide (k<0) || !F47 all (i:Int) (all.getD (Int.toNat k) default)) false (Bu all) (fun i n hi=>by
  simp only [Bu,ltD hi,cond_true,nn,hk,e211]
  simp only [at0,blit,cb2]
  show (bif !(hdB (all.getD i default).w Ui) then _ else _)=bif hdB (all.getD i default).w Ui then _ else _
  cases hdB (all.getD i default).w Ui <;> rfl) (fun n=>by simp only [Bu,geD,cond_false]) (fun r=>r)
  (fun (doors,i40)=>bif (decide (k<0)) then true else (((decide (doors≤6)&&(decide (F30 ((all.getD k.toNat default).w.getD 2 default)<(F44 ((all.getD k.toNat default).w.getD 1 default)).1) || decide (F30 ((all.getD k.toNat default).w.getD 2 default)≥IntKind.i64.wrap ((F44 ((all.getD k.toNat default).w.getD 1 default)).1+(F44 ((all.getD k.toNat default).w.getD 1 default)).2)))))&&decide (F32 ((all.getD k.toNat default).w.getD 3 default)≤F32 ((all.getD k.toNat default).w.getD 4 default)))) all.length 0 0 (by omega) (Int.toNat ((all.length:Int)-0)+1) (by omega)
 simp only [hk,e211]
 simp only [at1,at2,at3,at4,cb1,cb2]
 refine Eq.trans hloop ?_
 rw [List.drop_zero,hdf,List.length_map,hlen]
 cases hn:ws.filter (fun w=>hdB w hNat) with
 | nil =>
  rw [hn] at hidx
  have hk0:=hidx.1.2 rfl
  simp only [decide_eq_true hk0,Bool.true_or,Bool.and_true,cond_true]
  have:=Kq all (fun c=>hdB c.w Ui) all.length 0 (by omega)
  rw [List.drop_zero,hlen] at this
  rw [this,← hall,List.any_map]
  show (bif ws.any (fun w=>hdB w Ui) then false else true)=!ws.any fun w=>hdB w Ui
  cases ws.any fun w=>hdB w Ui <;> rfl
 | cons w r =>
  rw [hn] at hidx
  have hk0:¬ k<0:=fun h=>by have:=hidx.1.1 h; cases this
  have hw:all.getD k.toNat default=⟨w⟩:=(hidx.2 (by omega)).trans rfl
  simp only [decide_eq_false hk0,Bool.false_or,cond_false,hw]
  rw [Int.zero_add]
theorem Qiv (lines:List ByteArray) (w:List ByteArray) (r:List (List ByteArray)) (hn:Qa lines (⟨#[110,97,116]⟩:ByteArray)=w :: r) :
  F74 lines=(((F99 (F100 (w.getD 1 default)).1 (F16 (w.getD 2 default)) || decide (F17 (w.getD 3 default)>F17 (w.getD 4 default))) || decide (((Qa lines (⟨#[100,111,111,114]⟩:ByteArray)).length:Int)>6)) ||
   ((Qa lines (⟨#[100,111,111,114]⟩:ByteArray)).any (fun d=>!F99 (F100 (w.getD 1 default)).1 (F16 (d.getD 3 default)) || decide (F17 (w.getD 3 default)≤F17 (d.getD 2 default)∧F17 (d.getD 2 default)≤F17 (w.getD 4 default))) || Zp Vn [] (Qa lines (⟨#[100,111,111,114]⟩:ByteArray)))):=by
 unfold F74
 have e0:((Qa lines (⟨#[110,97,116]⟩:ByteArray)).getD (Int.toNat 0) default)=w:=by rw [hn]; rfl
 have hl:((((Qa lines (⟨#[110,97,116]⟩:ByteArray)).length:Int)==0))=false:=by rw [hn,beq_eq_false_iff_ne,List.length_cons]; omega
 rw [hl,cond_false]
 simp only [e0,cb2]
 generalize hds:Qa lines (⟨#[100,111,111,114]⟩:ByteArray)=ds
 have hloop:=Yk (Bi lines) ds.length (fun i=>(!F99 (F100 (w.getD 1 default)).1 (F16 ((ds.getD i default).getD 3 default)) || decide (F17 (w.getD 3 default)≤F17 ((ds.getD i default).getD 2 default)∧F17 ((ds.getD i default).getD 2 default)≤F17 (w.getD 4 default))) || (ds.take i).any (Vn (ds.getD i default))) true (fun r=>r) false (fun i hi=>by
  simp only [Bi,hds,ltD hi,cond_true,nn,e0,cb2]
  have h1:=anyL (ds.take i) (Vn (ds.getD i default)) true (Xw lines (i:Int)) (fun j hj=>by
   simp only [Xw,hds,nn,ltD hj,cond_true,cb1]; rfl) (by simp only [Xw,hds,nn,geD,cond_false]) (Lp.ret:Bool→Lp Int Bool) (fun v89=>.next ((i:Int)+1)) (.next ((i:Int)+1)) (fun _=>rfl)
  rw [h1]
  show (bif (!F99 (F100 (w.getD 1 default)).1 (F16 ((ds.getD i default).getD 3 default)) || decide (F17 (w.getD 3 default)≤F17 ((ds.getD i default).getD 2 default)∧F17 ((ds.getD i default).getD 2 default)≤F17 (w.getD 4 default))) then _ else _)=_
  cases (!F99 (F100 (w.getD 1 default)).1 (F16 ((ds.getD i default).getD 3 default)) || decide (F17 (w.getD 3 default)≤F17 ((ds.getD i default).getD 2 default)∧F17 ((ds.getD i default).getD 2 default)≤F17 (w.getD 4 default))) <;> cases ((ds.take i).any (Vn (ds.getD i default))) <;> rfl) (by simp only [Bi,hds,geD,cond_false]) ds.length 0 (by omega) (Int.toNat ((ds.length:Int)-0)+1) (by omega)
 rw [Qho,Vi Vn ds ds.length 0 (by omega),List.take_zero,List.drop_zero] at hloop
 have h2:=Kq ds (fun d=>(!F99 (F100 (w.getD 1 default)).1 (F16 (d.getD 3 default)) || decide (F17 (w.getD 3 default)≤F17 (d.getD 2 default)∧F17 (d.getD 2 default)≤F17 (w.getD 4 default)))) ds.length 0 (by omega)
 rw [List.drop_zero] at h2
 rw [h2] at hloop
 refine (congrArg (fun z=>bif ((F99 (F100 (w.getD 1 default)).1 (F16 (w.getD 2 default)) || decide (F17 (w.getD 3 default)>F17 (w.getD 4 default))) || decide ((ds.length:Int)>6)) then true else z) hloop).trans ?_
 rw [cb2]
 congr 1
 cases ((ds.any fun d=>!F99 (F100 (w.getD 1 default)).1 (F16 (d.getD 3 default)) || decide (F17 (w.getD 3 default)≤F17 (d.getD 2 default)∧F17 (d.getD 2 default)≤F17 (w.getD 4 default))) || Zp Vn [] ds) <;> rfl
theorem Qdi (lines:List ByteArray) (h:F22 lines=0):F74 lines=!F28 ((wsL lines).map l52Cut.mk):=by
 rw [Qdm]
 have hN:Qa lines (⟨#[110,97,116]⟩:ByteArray)=(wsL lines).filter fun w=>hdB w hNat:=Yp lines h _
 have hD:Qa lines (⟨#[100,111,111,114]⟩:ByteArray)=(wsL lines).filter fun w=>hdB w Ui:=Yp lines h _
 cases hn:(wsL lines).filter fun w=>hdB w hNat with
 | nil =>
  rw [hn] at hN
  unfold F74
  rw [hN,hD]
  show decide ((((wsL lines).filter fun w=>hdB w Ui).length:Int)>0)=!!_
  rw [Bool.not_not,Bool.eq_iff_iff,decide_eq_true_eq,List.any_eq_true]
  constructor
  ·intro hl
   have hl:0<((wsL lines).filter fun w=>hdB w Ui).length:=by omega
   have:=List.mem_filter.1 (List.getElem_mem hl)
   exact ⟨_,this.1,this.2⟩
  ·rintro ⟨x,hx,hp⟩
   have:=List.length_pos_of_mem (List.mem_filter.2 ⟨hx,hp⟩:x∈(wsL lines).filter fun w=>hdB w Ui)
   omega
 | cons w r =>
  have hwm:w∈(wsL lines).filter fun w=>hdB w hNat:=by rw [hn]; exact List.mem_cons_self
  rw [hn] at hN
  obtain ⟨hw1,hw2⟩:=List.mem_filter.1 hwm
  have hnp:=Qwq (Ru lines h w hw1) (eq_of_beq hw2)
  unfold natP at hnp
  obtain ⟨a,L,e1,e2,d1,b1,c1,s1⟩:=Lz (w.getD 1 default) hnp.2.2.1
  rw [Qiv lines w r hN]
  simp only [e1,e2,Qgc _ _ _ b1 c1,Js,Gs]
  rw [Yw (by omega) (by omega),hD]
  have hdoor:anyF (fun i=>hdB (((wsL lines).map l52Cut.mk).getD i default).w Ui&&!F47 ((wsL lines).map l52Cut.mk) (i:Int) ⟨w⟩) 0 (wsL lines).length=Qgl a (F68 L) (F32 (w.getD 3 default)) (F32 (w.getD 4 default)) ((wsL lines).filter fun w=>hdB w Ui):=by
   have hc:=Es (p:=fun i=>hdB (((wsL lines).map l52Cut.mk).getD i default).w Ui&&!F47 ((wsL lines).map l52Cut.mk) (i:Int) ⟨w⟩) (q:=fun i=>(hdB ((wsL lines).getD i default) Ui&&badD a (F68 L) (F32 (w.getD 3 default)) (F32 (w.getD 4 default)) ((wsL lines).getD i default)) || ((wsL lines).take i).any (fun e=>hdB ((wsL lines).getD i default) Ui&&(hdB e Ui&&Vn ((wsL lines).getD i default) e))) (wsL lines).length 0 (fun k _ hk=>by
    have hk:k<(wsL lines).length:=by omega
    have hg:((wsL lines).map l52Cut.mk).getD k default=⟨(wsL lines).getD k default⟩:=Pn _ _ _ hk
    rw [Ufi _ k (by simpa using hk) ⟨w⟩ a _ e2 ⟨b1.1,b1.2,s1⟩,Bool.not_not,hg,← List.map_take,Xn]
    show (hdB ((wsL lines).getD k default) Ui&&_)=_
    cases hdB ((wsL lines).getD k default) Ui with
    | true=>simp only [Bool.true_and]
    | false =>
     simp only [Bool.false_and]
     rw [show ((wsL lines).take k).any (fun _=>false)=false by simp]; rfl)
   rw [hc,Qho,Vi (fun x e=>hdB x Ui&&(hdB e Ui&&Vn x e)) (wsL lines) (wsL lines).length 0 (by omega),List.take_zero,List.drop_zero,Bt]
   have h3:=Kq (wsL lines) (fun d=>hdB d Ui&&badD a (F68 L) (F32 (w.getD 3 default)) (F32 (w.getD 4 default)) d) (wsL lines).length 0 (by omega)
   rw [List.drop_zero] at h3
   rw [h3]
   unfold Qgl
   rw [List.any_filter]; rfl
  rw [hdoor]
  have hbd:((wsL lines).filter fun w=>hdB w Ui).any (fun d=>!decide (a≤F30 (d.getD 3 default)∧F30 (d.getD 3 default)<a+F68 L) || decide (F32 (w.getD 3 default)≤F32 (d.getD 2 default)∧F32 (d.getD 2 default)≤F32 (w.getD 4 default)))=((wsL lines).filter fun w=>hdB w Ui).any (badD a (F68 L) (F32 (w.getD 3 default)) (F32 (w.getD 4 default))):=Ur fun d _=>by
   unfold badD
   congr 1
   rw [← decide_not,← Bool.decide_or]
   exact decide_eq_decide.2 (by omega)
  rw [hbd]
  show (_ || Qgl a (F68 L) (F32 (w.getD 3 default)) (F32 (w.getD 4 default)) ((wsL lines).filter fun w=>hdB w Ui))=_
  have g1:decide (a≤F30 (w.getD 2 default)∧F30 (w.getD 2 default)<a+F68 L)=!(decide (F30 (w.getD 2 default)<a) || decide (F30 (w.getD 2 default)≥a+F68 L)):=by
   rw [← Bool.decide_or,← decide_not]
   exact decide_eq_decide.2 (by omega)
  have g2:decide (F32 (w.getD 3 default)>F32 (w.getD 4 default))=!decide (F32 (w.getD 3 default)≤F32 (w.getD 4 default)):=by
   rw [← decide_not]
   exact decide_eq_decide.2 (by omega)
  have g3:decide ((((wsL lines).filter fun w=>hdB w Ui).length:Int)>6)=!decide ((((wsL lines).filter fun w=>hdB w Ui).length:Int)≤6):=by
   rw [← decide_not]
   exact decide_eq_decide.2 (by omega)
  rw [g1,g2,g3]
  generalize (decide (F30 (w.getD 2 default)<a) || decide (F30 (w.getD 2 default)≥a+F68 L))=x1,decide (F32 (w.getD 3 default)≤F32 (w.getD 4 default))=x2,decide ((((wsL lines).filter fun w=>hdB w Ui).length:Int)≤6)=x3,Qgl a (F68 L) (F32 (w.getD 3 default)) (F32 (w.getD 4 default)) ((wsL lines).filter fun w=>hdB w Ui)=x4
  cases x1 <;> cases x2 <;> cases x3 <;> cases x4 <;> rfl
theorem Qtm (lines:List ByteArray) (hz:∀ k:Nat,(lines.getD k default).size≤1048576) (h:F69 lines=0):F22 lines=0∧lines.length≤16∧∀ k:Nat,(lines.getD k default).size≤1048576:=by
 rw [Qej] at h
 exact ⟨h,Bg lines h,hz⟩
theorem Tb (lines:List ByteArray) (hz:∀ k:Nat,(lines.getD k default).size≤1048576):∀ k j:Nat,(((lines.map (fun l=>(⟨(F42 l).1⟩:l52Cut))).getD k default).w.getD j default).size≤1048576:=fun k j=>by
 by_cases hk:k<lines.length
 ·rw [Pn _ _ _ hk]
  exact Qd (lines.getD k default) j
 ·have e:(lines.map (fun l=>(⟨(F42 l).1⟩:l52Cut))).getD k default=default:=by
   rw [List.getD_eq_getElem?_getD,List.getElem?_eq_none (by rw [List.length_map]; omega)]; rfl
  rw [e]
  exact Nat.zero_le _
theorem kc69 (lines:List ByteArray) {K_:Prop} (p0_:∀ k:Nat,(lines.getD k default).size≤1048576) (k_:K_):(∀ k:Nat,(lines.getD k default).size≤1048576)∧(Imp (.l 1 eStr lines) (.l 1 eStr lines))∧K_:=⟨p0_,Imp.refl _,k_⟩
abbrev kh69 (lines:List ByteArray):Hint false Tryz.prog:=.call 69 (S69 lines) (ok69 lines) none
def Rc (p:(List ByteArray)→Bool):Uu:=⟨List ByteArray,fun i=>[.c (.x (PX (.l 1 eStr i) (F22 i=0∧i.length≤16∧∀ k:Nat,(i.getD k default).size≤1048576)))],fun i=>.bool (p i)⟩
def Qjm (p:(List ByteArray)→Bool):List Dat:=[.x (FnX Tryz.prog (Rc p))]
def fh70:FnH Tryz.prog:=⟨false,70,Rc (fun x0=>F70 x0),[],rfl,True,fun i=>Xv (ok70 i)⟩
theorem ca70:Ub Tryz.prog 70=true:=by kernel_rfl
def fh71:FnH Tryz.prog:=⟨false,71,Rc (fun x0=>F71 x0),[],rfl,True,fun i=>Xv (ok71 i)⟩
theorem ca71:Ub Tryz.prog 71=true:=by kernel_rfl
def fh72:FnH Tryz.prog:=⟨false,72,Rc (fun x0=>F72 x0),[],rfl,True,fun i=>Xv (ok72 i)⟩
theorem ca72:Ub Tryz.prog 72=true:=by kernel_rfl
def fh73:FnH Tryz.prog:=⟨false,73,Rc (fun x0=>F73 x0),[],rfl,True,fun i=>Xv (ok73 i)⟩
theorem ca73:Ub Tryz.prog 73=true:=by kernel_rfl
def fh74:FnH Tryz.prog:=⟨false,74,Rc (fun x0=>F74 x0),[],rfl,True,fun i=>Xv (ok74 i)⟩
theorem ca74:Ub Tryz.prog 74=true:=by kernel_rfl
def Wj (lines:List ByteArray):Int→Lp Int Int:=fun v13 =>
 bif (decide (v13<(([(fun x0=>F70 x0),(fun x0=>F71 x0),(fun x0=>F72 x0),(fun x0=>F73 x0),(fun x0=>F74 x0)]:List ((List ByteArray)→Bool)).length:Int))) then (bif ((([(fun x0=>F70 x0),(fun x0=>F71 x0),(fun x0=>F72 x0),(fun x0=>F73 x0),(fun x0=>F74 x0)]:List ((List ByteArray)→Bool)).getD v13.toNat default) lines) then (.ret (5+v13)) else (.next (v13+1))) else (.done v13)
def F51 (lines:List ByteArray):Int :=
 bif ((F69 lines) != 0) then (F69 lines) else ((runL (Wj lines) (((([(fun x0=>F70 x0),(fun x0=>F71 x0),(fun x0=>F72 x0),(fun x0=>F73 x0),(fun x0=>F74 x0)]:List ((List ByteArray)→Bool)).length:Int)-0).toNat+1) 0).fin (fun r=>r) (fun v13=>0))
abbrev Eb:Nat×Int:=((((([(fun x0=>F70 x0),(fun x0=>F71 x0),(fun x0=>F72 x0),(fun x0=>F73 x0),(fun x0=>F74 x0)]:List ((List ByteArray)→Bool)).length:Int)-0).toNat+1),0)
abbrev Qlf (m39:Nat) (v13:Int):Prop:=(Int.toNat ((([(fun x0=>F70 x0),(fun x0=>F71 x0),(fun x0=>F72 x0),(fun x0=>F73 x0),(fun x0=>F74 x0)]:List ((List ByteArray)→Bool)).length:Int)-v13)<m39)∧(0:Int)≤v13
abbrev Qxr (lines:List ByteArray):Lp Int Int:=LpX (Wj lines) (Eb)
abbrev Qao (lines:List ByteArray) (i:Nat×Int):Prop:=LpJ (Wj lines) (Eb) i (Qlf i.1 i.2)
abbrev Qug (lines:List ByteArray) (i:Nat×Int) (m39:Nat) (v13:Int):Prop:=LpH (Wj lines) (Eb) i m39 v13 (Qlf (m39+1) v13)
abbrev Qve (lines:List ByteArray) (v13:Int) (v13_:Int) (K39:Prop):Prop:=(Rf (.int .i64 (([(fun x0=>F70 x0),(fun x0=>F71 x0),(fun x0=>F72 x0),(fun x0=>F73 x0),(fun x0=>F74 x0)]:List ((List ByteArray)→Bool)).length:Int)))∧((.int .i64 v13:Value)=.int .i64 v13_)∧(Im (.l 1 eStr lines))∧(Im (.l 1 Qjm ([(fun x0=>F70 x0),(fun x0=>F71 x0),(fun x0=>F72 x0),(fun x0=>F73 x0),(fun x0=>F74 x0)]:List ((List ByteArray)→Bool))))∧K39
theorem un51_0 (lines:List ByteArray) (i:Nat×Int) (h:Qao lines i):Qug lines i (i.1-1) i.2:=⟨hd1 h.1 h.2.1,hd3 h.2.1,hd2 h.2.1,h.2.2⟩
theorem bk51_0 (lines:List ByteArray) (i:Nat×Int) (m39:Nat) (v13:Int) (hl:m39<i.1) (e:runL (Wj lines) m39 v13=Qxr lines) (h:Qlf m39 v13):∃ j:Nat×Int,Qve lines v13 j.2 (Qao lines j∧j.1<i.1):=⟨(m39,v13),rfl,rfl,Imp.refl _,Imp.refl _,⟨e,h⟩,hl⟩
theorem en51_0 (lines:List ByteArray) (h:(0:Int)≤0):Qve lines 0 0 (Qao lines (Eb)):=⟨rfl,rfl,Imp.refl _,Imp.refl _,rfl,Nat.lt_succ_self _,h⟩
def S51 (lines:List ByteArray):Spec:=⟨[.r (.c (.l 1 eStr lines))],.v (vI (F51 lines)),lines.length≤1048576∧(∀ k:Nat,(lines.getD k default).size≤1048576)⟩
theorem ok51 (lines:List ByteArray):(S51 lines).ok Tryz.prog 51 false :=
 Qn mixed (fn:=Tryz.f51) (ct:=.seqk [(0,0)] .no (.seq (.seq (.reg [(1,kh69 lines)]) (.seq .no (.cond (.seq .no .no) .no))) (.seq (.seqk [(0,0),(11,0)] (.reg [(0,.dat (.l 1 Qjm ([(fun x0=>F70 x0),(fun x0=>F71 x0),(fun x0=>F72 x0),(fun x0=>F73 x0),(fun x0=>F74 x0)]:List ((List ByteArray)→Bool))))]) (.blk (.loop (ι:=Nat×Int) (fun i=>(fun (v13:Int)=>(⟨[(0,some (.h 0 0)),(11,some (.h 1 0)),(12,some (.v (vI (([(fun x0=>F70 x0),(fun x0=>F71 x0),(fun x0=>F72 x0),(fun x0=>F73 x0),(fun x0=>F74 x0)]:List ((List ByteArray)→Bool)).length:Int)))),(13,some (.v (vI v13)))],[(0,some (.shr none (.l 1 eStr lines))),(1,some (.own 1 (.l 1 Qjm ([(fun x0=>F70 x0),(fun x0=>F71 x0),(fun x0=>F72 x0),(fun x0=>F73 x0),(fun x0=>F74 x0)]:List ((List ByteArray)→Bool)))))],2⟩:St)) i.2) (Qao lines) (fun i=>i.1) (Eb) (fun i=>(fun (v13:Int)=>(.seq .no (.seq (.cond .no .no) (.seq (.blk (.seq .no (.seq (.reg [(2,.fnv (Rc (([(fun x0=>F70 x0),(fun x0=>F71 x0),(fun x0=>F72 x0),(fun x0=>F73 x0),(fun x0=>F74 x0)]:List ((List ByteArray)→Bool)).getD v13.toNat default)) lines)]) (.cond (.seq (.reg [(1,.bnd)]) .no) .no)))) (.reg [(0,.bnd)]))))) i.2)))) (.seq .no .no)))) Tryz.func51 (fun (hp:lines.length≤1048576∧(∀ k:Nat,(lines.getD k default).size≤1048576))=>have hpre0:=hp.1; have hpre1:=hp.2; kn lines fun _=>kc69 lines (by first | assumption | exact hpre1 _ | exact fun k _=>hpre1 k | (intros; exact trivial) | (intros; exact Nat.zero_le _)) (ifn (F69 lines) 0 (fun h1 _=>fiI (F69 lines) (F51 lines) (condT h1 rfl)) (fun h1 _=>ai (BuildOK.mk Qjm ([(fun x0=>F70 x0),(fun x0=>F71 x0),(fun x0=>F72 x0),(fun x0=>F73 x0),(fun x0=>F74 x0)]:List ((List ByteArray)→Bool)) rfl (by exact ai (Imp.fn fh70 rfl trivial ca70) (ai (Imp.fn fh71 rfl trivial ca71) (ai (Imp.fn fh72 rfl trivial ca72) (ai (Imp.fn fh73 rfl trivial ca73) (ai (Imp.fn fh74 rfl trivial ca74) trivial))))) (fun _=>rfl):BuildOK 5 1 [.v (.func (.func 70) #[] #[]),.v (.func (.func 71) #[] #[]),.v (.func (.func 72) #[] #[]),.v (.func (.func 73) #[] #[]),.v (.func (.func 74) #[] #[])] (.l 1 Qjm ([(fun x0=>F70 x0),(fun x0=>F71 x0),(fun x0=>F72 x0),(fun x0=>F73 x0),(fun x0=>F74 x0)]:List ((List ByteArray)→Bool)))) (kn lines fun _=>kn ([(fun x0=>F70 x0),(fun x0=>F71 x0),(fun x0=>F72 x0),(fun x0=>F73 x0),(fun x0=>F74 x0)]:List ((List ByteArray)→Bool)) fun _=>ai (en51_0 lines (by omega)) (fun (i0:Nat×Int) (hi0:Qao lines i0)=>(fun (m0:Nat) (v13:Int) (hh0:Qug lines i0 m0 v13)=>have hI0:=hh0.1; have hl0:=hh0.2.1; have _:=hh0.2.2.1; have _:=hh0.2.2.2; ifd (v13<(([(fun x0=>F70 x0),(fun x0=>F71 x0),(fun x0=>F72 x0),(fun x0=>F73 x0),(fun x0=>F74 x0)]:List ((List ByteArray)→Bool)).length:Int)) (fun h3 _=>ai (by omega:ib v13 ([(fun x0=>F70 x0),(fun x0=>F71 x0),(fun x0=>F72 x0),(fun x0=>F73 x0),(fun x0=>F74 x0)]:List ((List ByteArray)→Bool))) (ai (Eq.refl (FnX Tryz.prog (Rc (([(fun x0=>F70 x0),(fun x0=>F71 x0),(fun x0=>F72 x0),(fun x0=>F73 x0),(fun x0=>F74 x0)]:List ((List ByteArray)→Bool)).getD v13.toNat default)))) (ai (Imp.px (d:=.l 1 eStr lines) (by exact Qtm lines (by assumption) (by omega):F22 lines=0∧lines.length≤16∧∀ k:Nat,(lines.getD k default).size≤1048576)) (ifb ((([(fun x0=>F70 x0),(fun x0=>F71 x0),(fun x0=>F72 x0),(fun x0=>F73 x0),(fun x0=>F74 x0)]:List ((List ByteArray)→Bool)).getD v13.toNat default) lines) (fun h4=>ai (iok (5+v13) (by first | omega | (simp only [List.length_cons,List.length_nil] at *; omega))) (fiI (5+v13) (F51 lines) (condF h1 (finR (Qr hI0 (condT h3 (condT h4 rfl))) rfl)))) (fun h4=>ai (iok (v13+1) (by first | omega | (simp only [List.length_cons,List.length_nil] at *; omega))) (bk51_0 lines i0 m0 (v13+1) hl0 (Qe hI0 (condT h3 (condF h4 rfl))) (by refine ⟨?_,?_⟩ <;> omega))))))) (fun h3 _=>have hD0_5:Qxr lines=Lp.done v13:=Qk hI0 (condF h3 rfl); fiI 0 (F51 lines) (condF h1 (finD hD0_5 rfl)))) (i0.1-1) i0.2 (un51_0 lines i0 hi0)))))) (by kernel_rfl)
theorem kc22 (lines:List ByteArray) {K_:Prop} (p0_:∀ k:Nat,(lines.getD k default).size≤1048576) (k_:K_):(∀ k:Nat,(lines.getD k default).size≤1048576)∧(Imp (.l 1 eStr lines) (.l 1 eStr lines))∧K_:=⟨p0_,Imp.refl _,k_⟩
abbrev kh22 (lines:List ByteArray):Hint true Tryz.prog:=.call 22 (S22 lines) (ok22 lines) none
theorem kc23a (lines:List ByteArray) {K_:Prop} (p0_:lines.length≤16) (p1_:∀ k:Nat,(lines.getD k default).size≤1048576) (k_:K_):(lines.length≤16∧(∀ k:Nat,(lines.getD k default).size≤1048576))∧(Imp (.l 1 eStr lines) (.l 1 eStr lines))∧K_:=⟨⟨p0_,p1_⟩,Imp.refl _,k_⟩
abbrev kh23a (lines:List ByteArray):Hint true Tryz.prog:=.call 23 (T23 (lines.map (fun l=>(⟨(F42 l).1⟩:l52Cut))) lines) (oa23 lines) none
def F13 (lines:List ByteArray):Int :=
 bif ((F22 lines) != 0) then (F22 lines) else (bif (!(F24 (lines.map (fun l=>(⟨(F42 l).1⟩:l52Cut))))) then 5 else (bif (!(F25 (lines.map (fun l=>(⟨(F42 l).1⟩:l52Cut))))) then 6 else (bif (!(F26 (lines.map (fun l=>(⟨(F42 l).1⟩:l52Cut))))) then 7 else (bif (!(F27 (lines.map (fun l=>(⟨(F42 l).1⟩:l52Cut))))) then 8 else (bif (!(F28 (lines.map (fun l=>(⟨(F42 l).1⟩:l52Cut))))) then 9 else 0)))))
def S13 (lines:List ByteArray):Spec:=⟨[.r (.c (.l 1 eStr lines))],.v (vI (F13 lines)),lines.length≤1048576∧(∀ k:Nat,(lines.getD k default).size≤1048576)⟩
theorem ok13 (lines:List ByteArray):(S13 lines).ok Tryz.prog 13 :=
 Qn mixed (fn:=Tryz.f13) (ct:=.seqk [(0,0)] .no (.seq (.reg [(1,kh22 lines)]) (.seq (.seq .no (.cond (.seq .no .no) .no)) (.seq (.reg [(1,kh23a lines)]) (.seq (.blk (.seq (.reg [(1,.call 24 (S24 (lines.map (fun l=>(⟨(F42 l).1⟩:l52Cut)))) (ok24 (lines.map (fun l=>(⟨(F42 l).1⟩:l52Cut)))) none)]) (.cond (.seq .no .no) (.seq (.reg [(1,.call 25 (S25 (lines.map (fun l=>(⟨(F42 l).1⟩:l52Cut)))) (ok25 (lines.map (fun l=>(⟨(F42 l).1⟩:l52Cut)))) none)]) (.cond (.seq .no .no) (.seq (.reg [(1,.call 26 (S26 (lines.map (fun l=>(⟨(F42 l).1⟩:l52Cut)))) (ok26 (lines.map (fun l=>(⟨(F42 l).1⟩:l52Cut)))) none)]) (.cond (.seq .no .no) (.seq (.reg [(1,.call 27 (S27 (lines.map (fun l=>(⟨(F42 l).1⟩:l52Cut)))) (ok27 (lines.map (fun l=>(⟨(F42 l).1⟩:l52Cut)))) none)]) (.cond (.seq .no .no) (.seq (.reg [(1,.call 28 (S28 (lines.map (fun l=>(⟨(F42 l).1⟩:l52Cut)))) (ok28 (lines.map (fun l=>(⟨(F42 l).1⟩:l52Cut)))) none)]) (.cond (.seq .no .no) .no))))))))))) (.seq .no .no)))))) Tryz.func13 (fun (hp:lines.length≤1048576∧(∀ k:Nat,(lines.getD k default).size≤1048576))=>have hpre0:=hp.1; have hpre1:=hp.2; kn lines fun _=>kc22 lines (by first | assumption | exact hpre1 _ | exact fun k _=>hpre1 k | (intros; exact trivial) | (intros; exact Nat.zero_le _)) (ifn (F22 lines) 0 (fun h1 _=>fiI (F22 lines) (F13 lines) (condT h1 rfl)) (fun h1 _=>kc23a lines (by first | omega | assumption | (have h9:=Bg lines (by omega); omega)) (by first | omega | assumption | (have h9:=Bg lines (by omega); omega)) (ai trivial (ai (Imp.refl (.l 1 Qh (lines.map (fun l=>(⟨(F42 l).1⟩:l52Cut))))) (ifb (!(F24 (lines.map (fun l=>(⟨(F42 l).1⟩:l52Cut))))) (fun h2=>fiI 5 (F13 lines) (condF h1 (condT h2 rfl))) (fun h2=>ai trivial (ai (Imp.refl (.l 1 Qh (lines.map (fun l=>(⟨(F42 l).1⟩:l52Cut))))) (ifb (!(F25 (lines.map (fun l=>(⟨(F42 l).1⟩:l52Cut))))) (fun h3=>fiI 6 (F13 lines) (condF h1 (condF h2 (condT h3 rfl)))) (fun h3=>ai (by exact Tb lines (by assumption):∀ k j:Nat,(((lines.map (fun l=>(⟨(F42 l).1⟩:l52Cut))).getD k default).w.getD j default).size≤1048576) (ai (Imp.refl (.l 1 Qh (lines.map (fun l=>(⟨(F42 l).1⟩:l52Cut))))) (ifb (!(F26 (lines.map (fun l=>(⟨(F42 l).1⟩:l52Cut))))) (fun h4=>fiI 7 (F13 lines) (condF h1 (condF h2 (condF h3 (condT h4 rfl))))) (fun h4=>ai (by exact Tb lines (by assumption):∀ k j:Nat,(((lines.map (fun l=>(⟨(F42 l).1⟩:l52Cut))).getD k default).w.getD j default).size≤1048576) (ai (Imp.refl (.l 1 Qh (lines.map (fun l=>(⟨(F42 l).1⟩:l52Cut))))) (ifb (!(F27 (lines.map (fun l=>(⟨(F42 l).1⟩:l52Cut))))) (fun h5=>fiI 8 (F13 lines) (condF h1 (condF h2 (condF h3 (condF h4 (condT h5 rfl)))))) (fun h5=>ai (by exact Tb lines (by assumption):∀ k j:Nat,(((lines.map (fun l=>(⟨(F42 l).1⟩:l52Cut))).getD k default).w.getD j default).size≤1048576) (ai (Imp.refl (.l 1 Qh (lines.map (fun l=>(⟨(F42 l).1⟩:l52Cut))))) (ifb (!(F28 (lines.map (fun l=>(⟨(F42 l).1⟩:l52Cut))))) (fun h6=>fiI 9 (F13 lines) (condF h1 (condF h2 (condF h3 (condF h4 (condF h5 (condT h6 rfl))))))) (fun h6=>fiI 0 (F13 lines) (condF h1 (condF h2 (condF h3 (condF h4 (condF h5 (condF h6 rfl))))))))))))))))))))))))) (by kernel_rfl)
theorem Hw (lines:List ByteArray):F51 lines=F13 lines:=by
 unfold F51 F13
 rw [Qej]
 cases hn:(F22 lines != 0) with
 | true=>rfl
 | false =>
  have h0:F22 lines=0:=by simpa using hn
  rw [cond_false,cond_false]
  have e:(lines.map (fun l=>(⟨(F42 l).1⟩:l52Cut)))=(wsL lines).map l52Cut.mk:=by
   unfold wsL
   rw [List.map_map]; rfl
  rw [e]
  have k1:=Qgw lines h0
  have k2:=Rt lines h0
  have k3:=Qhx lines h0
  have k4:=Rs lines h0
  have k5:=Qdi lines h0
  rw [← k1,← k2,← k3,← k4,← k5]
  have s0:Wj lines 0=bif F70 lines then .ret 5 else .next 1:=rfl
  have s1:Wj lines 1=bif F71 lines then .ret 6 else .next 2:=rfl
  have s2:Wj lines 2=bif F72 lines then .ret 7 else .next 3:=rfl
  have s3:Wj lines 3=bif F73 lines then .ret 8 else .next 4:=rfl
  have s4:Wj lines 4=bif F74 lines then .ret 9 else .next 5:=rfl
  have s5:Wj lines 5=.done 5:=rfl
  show (runL (Wj lines) 6 0).fin _ _=_
  cases b0:F70 lines with
  | true=>rw [b0,cond_true] at s0; rw [Zq _ s0]; rfl
  | false =>
  rw [b0,cond_false] at s0; rw [Yf _ s0]
  cases b1:F71 lines with
  | true=>rw [b1,cond_true] at s1; rw [Zq _ s1]; rfl
  | false =>
  rw [b1,cond_false] at s1; rw [Yf _ s1]
  cases b2:F72 lines with
  | true=>rw [b2,cond_true] at s2; rw [Zq _ s2]; rfl
  | false =>
  rw [b2,cond_false] at s2; rw [Yf _ s2]
  cases b3:F73 lines with
  | true=>rw [b3,cond_true] at s3; rw [Zq _ s3]; rfl
  | false =>
  rw [b3,cond_false] at s3; rw [Yf _ s3]
  cases b4:F74 lines with
  | true=>rw [b4,cond_true] at s4; rw [Zq _ s4]; rfl
  | false =>
  rw [b4,cond_false] at s4; rw [Yf _ s4,Kv _ s5]; rfl
theorem Np (lines:List ByteArray) (h:F13 lines=0):lines.length≤16:=by
 unfold F13 at h
 cases hn:(F22 lines != 0) with
 | true=>rw [hn,cond_true] at h; rw [h] at hn; exact absurd hn (by decide)
 | false=>exact Bg lines (by simpa using hn)
theorem Qla (lines:List ByteArray) (h:F51 lines=0):lines.length≤16:=Np lines (by rw [← Hw]; exact h)
def Xj (a:List ByteArray) (left':Int):(Int×Int)→Lp (Int×Int) Int:=fun (left'1,i40) =>
 bif (decide (i40<(a.length:Int))) then (bif (decide ((left'1-((a.getD i40.toNat default).size:Int))<0)) then (.ret (-1)) else (.next ((left'1-((a.getD i40.toNat default).size:Int)),(i40+1)))) else (.done (left'1,i40))
def F4 (a:List ByteArray) (left':Int):Int :=
 bif (decide ((left'-(a.length:Int))<0)) then (-1) else ((runL (Xj a left') (((a.length:Int)-0).toNat+1) ((left'-(a.length:Int)),0)).fin (fun r=>r) (fun (left'1,i40)=>left'1))
abbrev Qig (a:List ByteArray) (left':Int):Nat×(Int×Int):=((((a.length:Int)-0).toNat+1),((left'-(a.length:Int)),0))
abbrev Qxa (a:List ByteArray) (m39:Nat) (left'1:Int) (i40:Int):Prop:=Int.toNat ((a.length:Int)-i40)<m39∧(0:Int)≤left'1∧left'1≤1048576∧(0:Int)≤i40
abbrev lX4_0 (a:List ByteArray) (left':Int):Lp (Int×Int) Int:=LpX (Xj a left') (Qig a left')
abbrev Qin (a:List ByteArray) (left':Int) (i:Nat×(Int×Int)):Prop:=LpJ (Xj a left') (Qig a left') i (Qxa a i.1 i.2.1 i.2.2)
abbrev lH4_0 (a:List ByteArray) (left':Int) (i:Nat×(Int×Int)) (m39:Nat) (left'1:Int) (i40:Int):Prop:=LpH (Xj a left') (Qig a left') i m39 (left'1,i40) (Qxa a (m39+1) left'1 i40)
abbrev lE4_0 (a:List ByteArray) (left'1:Int) (i40:Int) (left'1_:Int) (i40_:Int) (K39:Prop):Prop:=((.int .i64 left'1:Value)=.int .i64 left'1_)∧((.int .i64 i40:Value)=.int .i64 i40_)∧(Im (.l 1 eStr a))∧K39
theorem un4_0 (a:List ByteArray) (left':Int) (i:Nat×(Int×Int)) (h:Qin a left' i):lH4_0 a left' i (i.1-1) i.2.1 i.2.2:=⟨hd1 h.1 h.2.1,hd3 h.2.1,hd2 h.2.1,h.2.2⟩
theorem bk4_0 (a:List ByteArray) (left':Int) (i:Nat×(Int×Int)) (m39:Nat) (left'1:Int) (i40:Int) (hl:m39<i.1) (e:runL (Xj a left') m39 (left'1,i40)=lX4_0 a left') (h:Qxa a m39 left'1 i40):∃ j:Nat×(Int×Int),lE4_0 a left'1 i40 j.2.1 j.2.2 (Qin a left' j∧j.1<i.1):=⟨(m39,(left'1,i40)),rfl,rfl,Imp.refl _,⟨e,h⟩,hl⟩
theorem en4_0 (a:List ByteArray) (left':Int) (h:(0:Int)≤(left'-(a.length:Int))∧(left'-(a.length:Int))≤1048576∧(0:Int)≤0):lE4_0 a (left'-(a.length:Int)) 0 (left'-(a.length:Int)) 0 (Qin a left' (Qig a left')):=⟨rfl,rfl,Imp.refl _,rfl,Nat.lt_succ_self _,h⟩
def S4 (a:List ByteArray) (left':Int):Spec:=⟨[.r (.c (.l 1 eStr a)),.r (.c (.v (vI left')))],.v (vI (F4 a left')),0≤left'∧left'≤1048576∧(∀ k:Nat,(a.getD k default).size≤9223372036854775807)⟩
theorem ok4 (a:List ByteArray) (left':Int):(S4 a left').ok Tryz.prog 4 :=
 Qn mixed (fn:=Tryz.f4) (ct:=.seqk [(0,0)] .no (.seq (.reg [(3,.bnd)]) (.seq (.seq .no (.cond (.seq .no .no) .no)) (.seq (.seqk [(0,0)] .no (.blk (.loop (ι:=Nat×(Int×Int)) (fun i=>(fun (left'1:Int) (i40:Int)=>(⟨[(0,some (.h 0 0)),(1,some (.v (vI left'1))),(5,some (.v (vI i40)))],[(0,some (.shr none (.l 1 eStr a)))],1⟩:St)) i.2.1 i.2.2) (Qin a left') (fun i=>i.1) (Qig a left') (fun i=>(fun (left'1:Int) (i40:Int)=>(.seq (.seq .no (.cond .no .no)) (.seq (.blk (.seq (.reg [(6,.bnd)]) (.seq .no (.cond (.seq .no .no) .no)))) (.reg [(1,.bnd)])))) i.2.1 i.2.2)))) (.seq .no .no))))) Tryz.func4 (fun (hp:0≤left'∧left'≤1048576∧(∀ k:Nat,(a.getD k default).size≤9223372036854775807))=>have hpre0:=hp.1; have hpre1:=hp.2.1; have hpre2:=hp.2.2; kn a fun _=>ai (iok (left'-(a.length:Int)) (by first | omega | (have hz:=(by assumption:∀ k:Nat,(a.getD k default).size≤9223372036854775807) i40.toNat; omega))) (ifd ((left'-(a.length:Int))<0) (fun h1 _=>fiI (-1) (F4 a left') (condT h1 rfl)) (fun h1 _=>kn a fun _=>ai (en4_0 a left' (by refine ⟨?_,?_,?_⟩ <;> omega)) (fun (i0:Nat×(Int×Int)) (hi0:Qin a left' i0)=>(fun (m0:Nat) (left'1:Int) (i40:Int) (hh0:lH4_0 a left' i0 m0 left'1 i40)=>have hI0:=hh0.1; have hl0:=hh0.2.1; have _:=hh0.2.2.1; have _:=hh0.2.2.2; ifd (i40<(a.length:Int)) (fun h3 _=>ai (by omega:ib i40 a) (ai (iok (left'1-((a.getD i40.toNat default).size:Int)) (by first | omega | (have hz:=(by assumption:∀ k:Nat,(a.getD k default).size≤9223372036854775807) i40.toNat; omega))) (ifd ((left'1-((a.getD i40.toNat default).size:Int))<0) (fun h4 _=>fiI (-1) (F4 a left') (condF h1 (finR (Qr hI0 (condT h3 (condT h4 rfl))) rfl))) (fun h4 _=>ai (iok (i40+1) (by first | omega | (have hz:=(by assumption:∀ k:Nat,(a.getD k default).size≤9223372036854775807) i40.toNat; omega))) (bk4_0 a left' i0 m0 (left'1-((a.getD i40.toNat default).size:Int)) (i40+1) hl0 (Qe hI0 (condT h3 (condF h4 rfl))) (by refine ⟨?_,?_,?_,?_⟩ <;> omega)))))) (fun h3 _=>have hD0_5:lX4_0 a left'=Lp.done (left'1,i40):=Qk hI0 (condF h3 rfl); fiI left'1 (F4 a left') (condF h1 (finD hD0_5 rfl)))) (i0.1-1) i0.2.1 i0.2.2 (un4_0 a left' i0 hi0))))) (by kernel_rfl)
theorem gb4 (a:List ByteArray) (left':Int):0≤left'→left'≤1048576→0≤(F4 a left')→(F4 a left')≤left'∧(a.length≤1000000000)∧(∀ k:Nat,(a.getD k default).size≤1000000000):=by
 intro h0 h1 h2
 simp only [F4] at h2 ⊢
 cases h:decide (left'-(a.length:Int)<0)
 ·simp only [h,cond_false] at h2 ⊢
  have hc:=of_decide_eq_false h
  obtain ⟨hall,hle⟩:=Ufj (fun (x:ByteArray) (l:Int)=>l-(x.size:Int)) (fun x=>(x.size≤1000000000)) (fun x l g0 g1 g2=>⟨by omega,by omega⟩) a (Xj a left') (left'-(a.length:Int)) (by omega) (by omega) (fun l i=>rfl) h2
  exact ⟨Int.le_trans hle (by omega),by omega,fun k=>by
   by_cases hk:k<a.length
   ·exact (hall k hk)
   ·rw [Wu a (by omega)]; first | exact Nat.zero_le _ | (intro k'; exact Nat.zero_le _) | (intro k' k''; exact Nat.zero_le _)⟩
 ·simp only [h,cond_true] at h2
  exact absurd h2 (by decide)
theorem g4_0 (a:List ByteArray) (left':Int):0≤left'→left'≤1048576→0≤(F4 a left')→(F4 a left')≤left':=by
 intro h0 h1 h2; exact (gb4 a left' h0 h1 h2).1
theorem g4_1 (a:List ByteArray) (left':Int):0≤left'→left'≤1048576→0≤(F4 a left')→a.length≤1000000000:=by
 intro h0 h1 h2; exact (gb4 a left' h0 h1 h2).2.1
theorem g4_2 (a:List ByteArray) (left':Int):0≤left'→left'≤1048576→0≤(F4 a left')→∀ k:Nat,(a.getD k default).size≤1000000000:=by
 intro h0 h1 h2; exact (gb4 a left' h0 h1 h2).2.2
theorem Qiz (a:List ByteArray) (l:Int) (h:0≤F4 a l):(a.length:Int)≤l∧(∀ k:Nat,((a.getD k default).size:Int)≤l)∧F4 a l≤l:=by
 unfold F4 at h ⊢
 cases hd:decide ((l-(a.length:Int))<0) with
 | true=>rw [hd,cond_true] at h; exact absurd h (by decide)
 | false =>
  rw [hd,cond_false] at h
  have hd:=of_decide_eq_false hd
  have key:∀ (m i:Nat) (s:Int),i+m=a.length→0≤s→∀ fuel,m<fuel→0≤(runL (Xj a l) fuel (s,(i:Int))).fin (fun r=>r) (fun (x:Int×Int)=>x.1)→(∀ k:Nat,i≤k→k<a.length→((a.getD k default).size:Int)≤s)∧(runL (Xj a l) fuel (s,(i:Int))).fin (fun r=>r) (fun (x:Int×Int)=>x.1)≤s:=by
   intro m
   induction m with
   | zero =>
    intro i s hi hs fuel hf hr
    obtain ⟨fuel,rfl⟩:∃ f,fuel=f+1:=⟨fuel-1,by omega⟩
    have e:Xj a l (s,(i:Int))=.done (s,(i:Int)):=by
     simp only [Xj,decide_eq_false (show ¬ (i:Int)<(a.length:Int) by omega),cond_false]
    rw [Kv _ e]
    exact ⟨fun k h1 h2=>by omega,Int.le_refl _⟩
   | succ m ih =>
    intro i s hi hs fuel hf hr
    obtain ⟨fuel,rfl⟩:∃ f,fuel=f+1:=⟨fuel-1,by omega⟩
    have e:Xj a l (s,(i:Int))=bif decide (s-((a.getD i default).size:Int)<0) then .ret (-1) else .next (s-((a.getD i default).size:Int),((i+1:Nat):Int)):=by
     simp only [Xj,decide_eq_true (show (i:Int)<(a.length:Int) by omega),cond_true,nn]; rfl
    cases hb:decide (s-((a.getD i default).size:Int)<0) with
    | true =>
     rw [hb,cond_true] at e
     rw [Zq _ e] at hr
     exact absurd hr (by show ¬ (0:Int)≤-1; decide)
    | false =>
     rw [hb,cond_false] at e
     have hb:=of_decide_eq_false hb
     rw [Yf _ e] at hr ⊢
     obtain ⟨h1,h2⟩:=ih (i+1) _ (by omega) (by omega) fuel (by omega) hr
     refine ⟨fun k hk1 hk2=>?_,by omega⟩
     rcases Nat.eq_or_lt_of_le hk1 with rfl | hk
     ·omega
     ·have:=h1 k hk hk2
      omega
  obtain ⟨h1,h2⟩:=key a.length 0 (l-(a.length:Int)) (by omega) (by omega) (Int.toNat ((a.length:Int)-0)+1) (by omega) h
  refine ⟨by omega,fun k=>?_,?_⟩
  ·by_cases hk:k<a.length
   ·have:=h1 k (Nat.zero_le _) hk
    omega
   ·rw [List.getD_eq_getElem?_getD,List.getElem?_eq_none (by omega)]
    show ((0:Nat):Int)≤l
    omega
  ·rw [cond_false]
   refine Int.le_trans h2 ?_
   omega
theorem Xy (a:List ByteArray) {l:Int} (h:0≤F4 a l) (hl:l≤1048576):a.length≤1048576:=by have:=(Qiz a l h).1; omega
theorem Gy (a:List ByteArray) {l:Int} (h:0≤F4 a l) (hl:l≤1048576):∀ k:Nat,(a.getD k default).size≤1048576:=fun k=>by have:=(Qiz a l h).2.1 k; omega
theorem kc51 (lines:List ByteArray) {K_:Prop} (p0_:lines.length≤1048576) (p1_:∀ k:Nat,(lines.getD k default).size≤1048576) (k_:K_):(lines.length≤1048576∧(∀ k:Nat,(lines.getD k default).size≤1048576))∧(Imp (.l 1 eStr lines) (.l 1 eStr lines))∧K_:=⟨⟨p0_,p1_⟩,Imp.refl _,k_⟩
abbrev kh51 (lines:List ByteArray):Hint false Tryz.prog:=.call 51 (S51 lines) (ok51 lines) none
def F33 (lines:List ByteArray):Bool :=
 ((F51 lines)==0)
def S33 (lines:List ByteArray):Spec:=⟨[.r (.c (.l 1 eStr lines))],.v (.bool (F33 lines)),lines.length≤1048576∧(∀ k:Nat,(lines.getD k default).size≤1048576)⟩
theorem ok33 (lines:List ByteArray):(S33 lines).ok Tryz.prog 33 false :=
 Qn mixed (fn:=Tryz.f33) (ct:=.seqk [(0,0)] .no (.seq (.reg [(1,kh51 lines)]) .no)) Tryz.func33 (fun (hp:lines.length≤1048576∧(∀ k:Nat,(lines.getD k default).size≤1048576))=>have hpre0:=hp.1; have hpre1:=hp.2; kn lines fun _=>kc51 lines (by omega) (by first | assumption | exact hpre1 _ | exact fun k _=>hpre1 k | (intros; exact trivial) | (intros; exact Nat.zero_le _)) (fiB ((F51 lines)==0) (F33 lines) rfl)) (by kernel_rfl)
theorem Hm (lines:List ByteArray) (h:(!(F33 lines))=false):lines.length≤16:=Qla lines (by unfold F33 at h; simpa using h)
theorem kc33 (lines:List ByteArray) {K_:Prop} (p0_:lines.length≤1048576) (p1_:∀ k:Nat,(lines.getD k default).size≤1048576) (k_:K_):(lines.length≤1048576∧(∀ k:Nat,(lines.getD k default).size≤1048576))∧(Imp (.l 1 eStr lines) (.l 1 eStr lines))∧K_:=⟨⟨p0_,p1_⟩,Imp.refl _,k_⟩
abbrev kh33 (lines:List ByteArray):Hint false Tryz.prog:=.call 33 (S33 lines) (ok33 lines) none
def F15 (lines:List ByteArray) (word:ByteArray):List (List ByteArray) :=
 bif (!(F33 lines)) then ([]:List (List ByteArray)) else (Qa lines word)
theorem fi15 (lines:List ByteArray) (word:ByteArray) (r:List (List ByteArray)) (hF:r=(F15 lines word)):(Imp (.l 1 (eL 1 eStr) r) (.l 1 (eL 1 eStr) (F15 lines word)))∧True:=by cases hF; exact ⟨Imp.refl _,trivial⟩
def S15 (R:List (List ByteArray)) (lines:List ByteArray) (word:ByteArray):Spec:=⟨[.r (.c (.l 1 eStr lines)),.r (.c (.v (.string word)))],.ow (.l 1 (eL 1 eStr) R),lines.length≤1048576∧(∀ k:Nat,(lines.getD k default).size≤1048576)⟩
theorem ok15 (lines:List ByteArray) (word:ByteArray):(S15 (F15 lines word) lines word).ok Tryz.prog 15 false :=
 Qn mixed (fn:=Tryz.f15) (ct:=.seqk [(0,0)] .no (.seq (.seq (.reg [(1,kh33 lines)]) (.cond (.seq .no .no) .no)) (.seq (.reg [(2,Vy lines word)]) .no))) Tryz.func15 (fun (hp:lines.length≤1048576∧(∀ k:Nat,(lines.getD k default).size≤1048576))=>have hpre0:=hp.1; have hpre1:=hp.2; kn lines fun _=>kc33 lines (by omega) (by first | assumption | exact hpre1 _ | exact fun k _=>hpre1 k | (intros; exact trivial) | (intros; exact Nat.zero_le _)) (ifb (!(F33 lines)) (fun h1=>(fun hF:(([]:List (List ByteArray)):List (List ByteArray))=(F15 lines word)=>ai ((Imp.nil 1 (eL 1 eStr)).trans (Imp.of_eq (congrArg (fun r:List (List ByteArray)=>Dat.l 1 (eL 1 eStr) r) hF))) trivial) (condT h1 rfl)) (fun h1=>Hf lines word (by first | omega | assumption | exact Hm lines (by assumption)) (by first | omega | assumption | exact Hm lines (by assumption)) (by first | omega | assumption | exact Hm lines (by assumption)) (fun gv2=>fi15 lines word (Qa lines word) (condF h1 rfl))))) (by kernel_rfl)
def Xu (lines:List ByteArray) (head:ByteArray):(List l52Cut×Int×List (l52Cut×Bool))→Lp (List l52Cut×Int×List (l52Cut×Bool)) (List l52Cut):=fun (out,i40,xs) =>
 bif (decide (i40<(xs.length:Int))) then (bif ((F31 (xs.getD i40.toNat default).1 0).toList==head.toList) then (.next ((out++[(xs.getD i40.toNat default).1]),(i40+1),(xs.set (i40).toNat ((xs.getD i40.toNat default).1,true)))) else (.next (out,(i40+1),xs))) else (.done (out,i40,xs))
def F29 (lines:List ByteArray) (head:ByteArray):List l52Cut :=
 (runL (Xu lines head) (((((lines.map (fun l=>(⟨(F42 l).1⟩:l52Cut))).map hz).length:Int)-0).toNat+1) (([]:List l52Cut),0,((lines.map (fun l=>(⟨(F42 l).1⟩:l52Cut))).map hz))).fin (fun r=>r) (fun (out,i40,xs)=>out)
abbrev Qdf (lines:List ByteArray):Nat×(List l52Cut×Int×List (l52Cut×Bool)):=((((((lines.map (fun l=>(⟨(F42 l).1⟩:l52Cut))).map hz).length:Int)-0).toNat+1),(([]:List l52Cut),0,((lines.map (fun l=>(⟨(F42 l).1⟩:l52Cut))).map hz)))
abbrev Qnb (lines:List ByteArray) (m39:Nat) (out:List l52Cut) (i40:Int) (xs:List (l52Cut×Bool)):Prop:=Int.toNat ((xs.length:Int)-i40)<m39∧(∀ k:Nat,i40≤(k:Int)→(xs.getD k default).2=false)∧(out.length:Int)≤i40∧(0:Int)≤i40∧xs.length=((lines.map (fun l=>(⟨(F42 l).1⟩:l52Cut))).map hz).length
abbrev Qud (lines:List ByteArray) (head:ByteArray):Lp (List l52Cut×Int×List (l52Cut×Bool)) (List l52Cut):=LpX (Xu lines head) (Qdf lines)
abbrev Qag (lines:List ByteArray) (head:ByteArray) (i:Nat×(List l52Cut×Int×List (l52Cut×Bool))):Prop:=LpJ (Xu lines head) (Qdf lines) i (Qnb lines i.1 i.2.1 i.2.2.1 i.2.2.2)
abbrev Uco (lines:List ByteArray) (head:ByteArray) (i:Nat×(List l52Cut×Int×List (l52Cut×Bool))) (m39:Nat) (out:List l52Cut) (i40:Int) (xs:List (l52Cut×Bool)):Prop:=LpH (Xu lines head) (Qdf lines) i m39 (out,i40,xs) (Qnb lines (m39+1) out i40 xs)
abbrev lE29_0 (head:ByteArray) (out:List l52Cut) (i40:Int) (xs:List (l52Cut×Bool)) (out_:List l52Cut) (i40_:Int) (xs_:List (l52Cut×Bool)) (K39:Prop):Prop:=(Rf (.string head))∧((.int .i64 i40:Value)=.int .i64 i40_)∧(Imp (.l 1 (encH 0 Qh) xs) (.l 1 (encH 0 Qh) xs_))∧(Imp (.l 1 Qh out) (.l 1 Qh out_))∧K39
theorem un29_0 (lines:List ByteArray) (head:ByteArray) (i:Nat×(List l52Cut×Int×List (l52Cut×Bool))) (h:Qag lines head i):Uco lines head i (i.1-1) i.2.1 i.2.2.1 i.2.2.2:=⟨hd1 h.1 h.2.1,hd3 h.2.1,hd2 h.2.1,h.2.2⟩
theorem Qyg (lines:List ByteArray) (head:ByteArray) (i:Nat×(List l52Cut×Int×List (l52Cut×Bool))) (m39:Nat) (out:List l52Cut) (i40:Int) (xs:List (l52Cut×Bool)) (hl:m39<i.1) (e:runL (Xu lines head) m39 (out,i40,xs)=Qud lines head) (h:Qnb lines m39 out i40 xs):∃ j:Nat×(List l52Cut×Int×List (l52Cut×Bool)),lE29_0 head out i40 xs j.2.1 j.2.2.1 j.2.2.2 (Qag lines head j∧j.1<i.1):=⟨(m39,(out,i40,xs)),rfl,rfl,Imp.refl _,Imp.refl _,⟨e,h⟩,hl⟩
theorem fi29 (lines:List ByteArray) (head:ByteArray) (r:List l52Cut) (hF:r=(F29 lines head)):(Imp (.l 1 Qh r) (.l 1 Qh (F29 lines head)))∧True:=by cases hF; exact ⟨Imp.refl _,trivial⟩
def S29 (R:List l52Cut) (lines:List ByteArray) (head:ByteArray):Spec:=⟨[.r (.c (.l 1 eStr lines)),.r (.c (.v (.string head)))],.ow (.l 1 Qh R),lines.length≤16∧(∀ k:Nat,(lines.getD k default).size≤1048576)⟩
theorem ok29 (lines:List ByteArray) (head:ByteArray):(S29 (F29 lines head) lines head).ok Tryz.prog 29 :=
 Qn mixed (fn:=Tryz.f29) (ct:=.seqk [(0,0)] .no (.seq (.reg [(1,kh23a lines)]) (.seq (.reg [(0,.dat (.l 1 Qh ([]:List l52Cut)))]) (.seq (.seqk [(5,0),(6,0)] .no (.blk (.loop (ι:=Nat×(List l52Cut×Int×List (l52Cut×Bool))) (fun i=>(fun (out:List l52Cut) (i40:Int) (xs:List (l52Cut×Bool))=>(⟨[(1,some (.v (.string head))),(5,some (.h 0 0)),(6,some (.h 1 0)),(7,some (.v (vI i40)))],[(0,some (.own 0 (.l 1 (encH 0 Qh) xs))),(1,some (.own 1 (.l 1 Qh out)))],2⟩:St)) i.2.1 i.2.2.1 i.2.2.2) (Qag lines head) (fun i=>i.1) (Qdf lines) (fun i=>(fun (out:List l52Cut) (i40:Int) (xs:List (l52Cut×Bool))=>(.seq (.seq .no (.cond .no .no)) (.seq (.blk (.seq (.reg [(2,.ix [.l 1 eStr (xs.getD i40.toNat default).1.w]),(4,kh31 (xs.getD i40.toNat default).1 0)]) (.cond (.reg [(3,.ix [.l 1 eStr (xs.getD i40.toNat default).1.w]),(4,.take (.l 1 (encH 0 Qh) (xs.set (i40).toNat ((xs.getD i40.toNat default).1,true)))),(6,.dat (.l 1 Qh (out++[(xs.getD i40.toNat default).1])))]) .no))) (.reg [(1,.bnd)])))) i.2.1 i.2.2.1 i.2.2.2)))) (.seq .no .no))))) Tryz.func29 (fun (hp:lines.length≤16∧(∀ k:Nat,(lines.getD k default).size≤1048576))=>have hpre0:=hp.1; have hpre1:=hp.2; kn lines fun _=>kc23a lines (by first | omega | (simp only [lens,ib] at*<;> omega)) (by first | assumption | exact hpre1 _ | exact fun k _=>hpre1 k | (intros; exact trivial) | (intros; exact Nat.zero_le _)) (ai (bokr 1 Qh ([]:List l52Cut) fun _=>rfl) (kn (lines.map (fun l=>(⟨(F42 l).1⟩:l52Cut))) fun _=>kn ([]:List l52Cut) fun _=>ai (ai (rfl:(.string head:Value)=.string head) (ai (rfl:(.int .i64 0:Value)=.int .i64 0) (ai ((Imp.toH _ _ _ _):Imp (.l 1 Qh (lines.map (fun l=>(⟨(F42 l).1⟩:l52Cut)))) (.l 1 (encH 0 Qh) ((lines.map (fun l=>(⟨(F42 l).1⟩:l52Cut))).map hz))) (ai (ir:Imp (.l 1 Qh ([]:List l52Cut)) (.l 1 Qh ([]:List l52Cut))) (And.intro rfl (ai (Nat.lt_succ_self _) (by refine ⟨?_,?_,?_,?_⟩ <;> first | omega | (simp only [lens,ib] at*<;> omega) | (intro k hk; first | exact hz_f _ _ | exact (by assumption:∀ k:Nat,i40≤(k:Int)→(xs.getD k default).2=false) _ (by first | omega | (simp only [lens,ib] at*<;> omega)) | (rw [Ul _ _ _ _ (by first | omega | (simp only [lens,ib] at*<;> omega))]; exact (by assumption:∀ k:Nat,i40≤(k:Int)→(xs.getD k default).2=false) _ (by first | omega | (simp only [lens,ib] at*<;> omega)))))):Qag lines head (Qdf lines)))))) (fun (i0:Nat×(List l52Cut×Int×List (l52Cut×Bool))) (hi0:Qag lines head i0)=>(fun (m0:Nat) (out:List l52Cut) (i40:Int) (xs:List (l52Cut×Bool)) (hh0:Uco lines head i0 m0 out i40 xs)=>have hI0:=hh0.1; have hl0:=hh0.2.1; have _:=hh0.2.2.1; have _:=hh0.2.2.2.1; have _:=hh0.2.2.2.2.1; have _:=hh0.2.2.2.2.2.1; have _:=hh0.2.2.2.2.2.2; ifd (i40<(xs.length:Int)) (fun h2 _=>ai (by first | omega | (simp only [lens,ib] at*<;> omega):ib i40 xs) (ai (Imps.of_eq (Qmf 0 Qh (xs.getD i40.toNat default) (by exact (by assumption:∀ k:Nat,i40≤(k:Int)→(xs.getD k default).2=false) _ (by first | omega | (simp only [lens,ib] at*<;> omega))))) (kc31 (xs.getD i40.toNat default).1 0 (by first | omega | (simp only [lens,ib] at*<;> omega)) (ifb ((F31 (xs.getD i40.toNat default).1 0).toList==head.toList) (fun h3=>ai (by first | omega | (simp only [lens,ib] at*<;> omega):ib i40 xs) (ai (Imps.of_eq (Qmf 0 Qh (xs.getD i40.toNat default) (by exact (by assumption:∀ k:Nat,i40≤(k:Int)→(xs.getD k default).2=false) _ (by first | omega | (simp only [lens,ib] at*<;> omega))))) (ai (SetOK.take2 Qh xs 0 (by exact (by assumption:∀ k:Nat,i40≤(k:Int)→(xs.getD k default).2=false) _ (by first | omega | (simp only [lens,ib] at*<;> omega))) rfl rfl:SetOK (.l 1 (encH 0 Qh) xs) (i40).toNat (Qh (xs.getD i40.toNat default).1) [.any] (.l 1 (encH 0 Qh) (xs.set (i40).toNat ((xs.getD i40.toNat default).1,true)))) (ai (appr 1 Qh out [(xs.getD i40.toNat default).1] fun _=>rfl) (ai (by (simp only [lens] at *); omega:(out++[(xs.getD i40.toNat default).1]).length*24≤140737488355328) (ai (iok (i40+1) (by first | omega | (simp only [lens,ib] at*<;> omega))) (Qyg lines head i0 m0 (out++[(xs.getD i40.toNat default).1]) (i40+1) (xs.set (i40).toNat ((xs.getD i40.toNat default).1,true)) hl0 (Qe hI0 (condT h2 (condT h3 rfl))) (by refine ⟨?_,?_,?_,?_,?_⟩ <;> first | omega | (simp only [lens,ib] at*<;> omega) | (intro k hk; first | exact hz_f _ _ | exact (by assumption:∀ k:Nat,i40≤(k:Int)→(xs.getD k default).2=false) _ (by first | omega | (simp only [lens,ib] at*<;> omega)) | (rw [Ul _ _ _ _ (by first | omega | (simp only [lens,ib] at*<;> omega))]; exact (by assumption:∀ k:Nat,i40≤(k:Int)→(xs.getD k default).2=false) _ (by first | omega | (simp only [lens,ib] at*<;> omega)))))))))))) (fun h3=>ai (iok (i40+1) (by first | omega | (simp only [lens,ib] at*<;> omega))) (Qyg lines head i0 m0 out (i40+1) xs hl0 (Qe hI0 (condT h2 (condF h3 rfl))) (by refine ⟨?_,?_,?_,?_,?_⟩ <;> first | omega | (simp only [lens,ib] at*<;> omega) | (intro k hk; first | exact hz_f _ _ | exact (by assumption:∀ k:Nat,i40≤(k:Int)→(xs.getD k default).2=false) _ (by first | omega | (simp only [lens,ib] at*<;> omega)) | (rw [Ul _ _ _ _ (by first | omega | (simp only [lens,ib] at*<;> omega))]; exact (by assumption:∀ k:Nat,i40≤(k:Int)→(xs.getD k default).2=false) _ (by first | omega | (simp only [lens,ib] at*<;> omega))))))))))) (fun h2 _=>have hD0_4:Qud lines head=Lp.done (out,i40,xs):=Qk hI0 (condF h2 rfl); fi29 lines head out (finD hD0_4 rfl))) (i0.1-1) i0.2.1 i0.2.2.1 i0.2.2.2 (un29_0 lines head i0 hi0))))) (by kernel_rfl)
theorem Qnh (lines:List ByteArray) (h:F13 lines=0):F22 lines=0:=by
 unfold F13 at h
 cases hn:(F22 lines != 0) with
 | true=>rw [hn,cond_true] at h; rw [h] at hn; exact absurd hn (by decide)
 | false=>simpa using hn
theorem Rj (lines:List ByteArray) (h:F51 lines=0):F22 lines=0:=Qnh lines (by rw [← Hw]; exact h)
def Qy (lines:List ByteArray) (word:ByteArray):List (List ByteArray):=bif (F51 lines==0) then Qa lines word else []
theorem as15 (lines:List ByteArray) (word:ByteArray):F15 lines word=(Qy lines word):=by
 unfold F15 F33 Qy
 cases (F51 lines==0) <;> rfl
theorem Ju (lines:List ByteArray) (word:ByteArray):(F51 lines=0∧F22 lines=0∧Qy lines word=Qa lines word)∨Qy lines word=[]:=by
 unfold Qy
 cases h:(F51 lines==0) with
 | true=>have h0:=eq_of_beq h; exact .inl ⟨h0,Rj lines h0,rfl⟩
 | false=>exact .inr rfl
theorem Qfi (lines:List ByteArray) (word:ByteArray):(Qy lines word).length≤16:=by
 rcases Ju lines word with ⟨_,h,e⟩ | e
 ·rw [e]; exact Qbz lines word (Bg lines h)
 ·rw [e]; exact Nat.zero_le _
theorem Qay (lines:List ByteArray) (word:ByteArray) (k j:Nat):(((Qy lines word).getD k default).getD j default).size≤1048576:=by
 rcases Ju lines word with ⟨_,h,e⟩ | e
 ·rw [e]; exact Yq lines word h k j
 ·rw [e]; exact Nat.zero_le _
def ofL (lines:List ByteArray) (head:ByteArray):List l52Cut:=(lines.map (fun l=>(⟨(F42 l).1⟩:l52Cut))).filter fun c=>((F31 c 0).toList==head.toList)
theorem Qxo {α:Type} [Inhabited α] (xs:List α) (k:Nat):xs.set k (xs.getD k default)=xs:=by
 apply List.ext_getElem?
 intro i
 rw [List.getElem?_set]
 by_cases h:k=i
 ·subst h
  rw [if_pos rfl]
  by_cases hk:k<xs.length
  ·rw [if_pos hk,List.getD_eq_getElem?_getD,List.getElem?_eq_getElem hk]; rfl
  ·rw [if_neg hk,List.getElem?_eq_none (by omega)]
 ·rw [if_neg h]
theorem Nr {α:Type} [Inhabited α] (p:α→Bool) (xs:List α) (k:Nat) (hk:k<xs.length):(xs.take (k+1)).filter p=bif p (xs.getD k default) then (xs.take k).filter p++[xs.getD k default] else (xs.take k).filter p:=by
 rw [List.take_add_one,List.filter_append,List.getElem?_eq_getElem hk,Option.toList_some]
 have e:xs.getD k default=xs[k]:=by rw [List.getD_eq_getElem?_getD,List.getElem?_eq_getElem hk]; rfl
 rw [e]
 cases h:p xs[k] with
 | true=>rw [List.filter_cons_of_pos h]; rfl
 | false=>rw [List.filter_cons_of_neg (by simp [h])]; simp
theorem as29 (lines:List ByteArray) (head:ByteArray):F29 lines head=(ofL lines head):=by
 unfold F29 ofL
 generalize (lines.map (fun l=>(⟨(F42 l).1⟩:l52Cut)))=cuts
 have e:Int.toNat (((cuts.map hz).length:Int)-0)+1=cuts.length+1:=by rw [List.length_map]; omega
 rw [e]
 have h:=Yj (step:=Xu lines head) (fun (k:Nat) (s:List l52Cut×List (l52Cut×Bool))=>(s.1,(k:Int),s.2)) cuts.length
  (fun k s=>s.2.map Prod.fst=cuts∧s.1=(cuts.take k).filter fun c=>((F31 c 0).toList==head.toList)) (fun _=>False)
  (fun k s hk hs=>.inl ⟨(bif ((F31 (cuts.getD k default) 0).toList==head.toList) then (s.1++[cuts.getD k default],s.2.set k (cuts.getD k default,true)) else s),by
   have hl:s.2.length=cuts.length:=by rw [← hs.1,List.length_map]
   have hcx:(s.2.getD k default).1=cuts.getD k default:=by rw [← hs.1]; exact (Pn Prod.fst s.2 k (by omega)).symm
   simp only [Xu,ltD (show k<s.2.length by omega),cond_true,nn,hcx]
   cases ((F31 (cuts.getD k default) 0).toList==head.toList) <;> rfl,by
   have hl:s.2.length=cuts.length:=by rw [← hs.1,List.length_map]
   refine ⟨?_,?_⟩
   ·cases ((F31 (cuts.getD k default) 0).toList==head.toList) with
    | false=>exact hs.1
    | true =>
     show (s.2.set k (cuts.getD k default,true)).map Prod.fst=cuts
     rw [List.map_set,hs.1]
     exact Qxo cuts k
   ·rw [Nr _ cuts k hk,← hs.2]
    cases ((F31 (cuts.getD k default) 0).toList==head.toList) <;> rfl⟩)
  (fun s hs=>by
   have hl:s.2.length=cuts.length:=by rw [← hs.1,List.length_map]
   simp only [Xu,hl,geD,cond_false]) cuts.length 0 ([],cuts.map hz) (by omega) ⟨by rw [List.map_map]; exact List.map_id _,rfl⟩ (cuts.length+1) (by omega)
 rcases h with ⟨s',e1,h1,h2⟩ | ⟨r,_,hr⟩
 ·rw [show (([]:List l52Cut),(0:Int),cuts.map hz)=(([]:List l52Cut),((0:Nat):Int),cuts.map hz) from rfl,e1]
  show s'.1=_
  rw [h2,List.take_length]
 ·exact hr.elim
theorem Udt (lines:List ByteArray) (head:ByteArray) (h:lines.length≤16):(ofL lines head).length≤16:=by
 have:=List.length_filter_le (fun c:l52Cut=>((F31 c 0).toList==head.toList)) (lines.map (fun l=>(⟨(F42 l).1⟩:l52Cut)))
 rw [List.length_map] at this
 unfold ofL
 omega
theorem Qlj (lines:List ByteArray) (head:ByteArray) (hz:∀ k:Nat,(lines.getD k default).size≤1048576):∀ k j:Nat,(((ofL lines head).getD k default).w.getD j default).size≤1048576:=fun k j=>by
 by_cases hk:k<(ofL lines head).length
 ·have hm:=(List.mem_filter.1 (Kh _ hk)).1
  obtain ⟨i,hi,e⟩:=Je hm
  have:=Tb lines hz i j
  rw [e] at this
  exact this
 ·rw [Wu (ofL lines head) (by omega)]; exact Nat.zero_le _
theorem Ugk (lines:List ByteArray) (h:F22 lines=0) (head:ByteArray):ofL lines head=(Qa lines head).map l52Cut.mk:=by
 unfold ofL
 rw [Ufw,Yp lines h,List.filter_map]
 congr 1
 refine List.filter_congr fun w _=>?_
 show ((F31 ⟨w⟩ 0).toList==head.toList)=hdB w head.data.toList
 rw [at0,Qz,Qz]; rfl
def insL {α:Type} (less:α→α→Bool) (v:α):List α→List α
 | []=>[v]
 | x :: xs=>bif less x v then x :: insL less v xs else v :: x :: xs
def posL {α:Type} (less:α→α→Bool) (v:α):List α→Nat
 | []=>0
 | x :: xs=>bif less x v then posL less v xs+1 else 0
theorem Qou {α:Type} (less:α→α→Bool) (v:α):∀ xs:List α,posL less v xs≤xs.length
 | []=>Nat.le_refl _
 | x :: xs=>by
  simp only [posL,List.length_cons]
  have:=Qou less v xs
  cases less x v <;> simp only [cond_true,cond_false] <;> omega
theorem Qpp {α:Type} (less:α→α→Bool) (v:α):∀ xs:List α,xs.take (posL less v xs)++[v]++xs.drop (posL less v xs)=insL less v xs
 | []=>rfl
 | x :: xs=>by
  simp only [posL,insL]
  cases less x v with
  | false=>rfl
  | true =>
   simp only [cond_true,List.take_succ_cons,List.drop_succ_cons,List.cons_append]
   rw [Qpp less v xs]
theorem Qcc {α:Type} [Inhabited α] (less:α→α→Bool) (v:α):∀ (xs:List α) (k:Nat),k<posL less v xs→less (xs.getD k default) v=true
 | [],k,h=>absurd h (Nat.not_lt_zero _)
 | x :: xs,k,h=>by
  simp only [posL] at h
  cases hl:less x v with
  | false=>rw [hl,cond_false] at h; exact absurd h (Nat.not_lt_zero _)
  | true =>
   rw [hl,cond_true] at h
   cases k with
   | zero=>exact hl
   | succ k=>exact Qcc less v xs k (by omega)
theorem Qse {α:Type} [Inhabited α] (less:α→α→Bool) (v:α):∀ (xs:List α),posL less v xs<xs.length→less (xs.getD (posL less v xs) default) v=false
 | [],h=>absurd h (Nat.not_lt_zero _)
 | x :: xs,h=>by
  simp only [posL] at h ⊢
  cases hl:less x v with
  | false=>exact hl
  | true =>
   rw [hl] at h
   exact Qse less v xs (by simp only [cond_true,List.length_cons] at h; omega)
theorem Qxu {α ρ:Type} [Inhabited α] (less:α→α→Bool) (v:α) (xs:List α) (step:Int→Lp Int ρ)
  (hs:∀ k,step k=bif (bif decide (k<(xs.length:Int)) then less (xs.getD k.toNat default) v else false) then .next (k+1) else .done k) :
  runL step (Int.toNat ((xs.length:Int)-0)+1) 0=.done ((posL less v xs:Nat):Int):=by
 have hle:=Qou less v xs
 have hr:=Yj (step:=step) (fun (k:Nat) (_:Unit)=>((k:Nat):Int)) (posL less v xs) (fun _ _=>True) (fun _=>False)
  (fun k _ hk _=>.inl ⟨(),by
   rw [hs,ltD (show k<xs.length by omega),cond_true,nn,Qcc less v xs k hk]; rfl,trivial⟩)
  (fun _ _=>by
   rw [hs]
   rcases Nat.lt_or_ge (posL less v xs) xs.length with h | h
   ·rw [ltD h,cond_true,nn,Qse less v xs h]; rfl
   ·rw [decide_eq_false (by omega)]; rfl)
  (posL less v xs) 0 () (by omega) trivial (Int.toNat ((xs.length:Int)-0)+1) (by omega)
 rcases hr with ⟨_,hr,_⟩ | ⟨_,_,hr⟩
 ·exact hr
 ·exact hr.elim
theorem Gq {α:Type} (less:α→α→Bool) (v:α):∀ xs:List α,(insL less v xs).Perm (v :: xs)
 | []=>List.Perm.refl _
 | x :: xs=>by
  simp only [insL]
  cases less x v with
  | false=>exact List.Perm.refl _
  | true=>exact (List.Perm.cons x (Gq less v xs)).trans (List.Perm.swap v x xs)
theorem Qrx {α:Type} {cf:α→α→Int} {less:α→α→Bool} {vs:List α} (h:Vz cf vs) (hl:∀ a∈vs,∀ b∈vs,less a b=decide (cf a b<0)) {v:α} (hv:v∈vs):∀ xs:List α,(∀ x∈xs,x∈vs)→(xs.Pairwise fun x y=>¬ cf y x<0)→(insL less v xs).Pairwise fun x y=>¬ cf y x<0
 | [],_,_=>List.pairwise_singleton _ _
 | x :: xs,hx,hp=>by
  obtain ⟨h1,h2⟩:=List.pairwise_cons.1 hp
  have hxv:=hx x List.mem_cons_self
  simp only [insL]
  cases e:less x v with
  | true =>
   have e':cf x v<0:=by have:=hl x hxv v hv; rw [e] at this; exact of_decide_eq_true this.symm
   refine List.pairwise_cons.2 ⟨fun y hy=>?_,Qrx h hl hv xs (fun z hz=>hx z (List.mem_cons_of_mem _ hz)) h2⟩
   rcases List.mem_cons.1 ((Gq less v xs).subset hy) with rfl | hy
   ·exact fun hc=>h.irr _ hxv (h.tr _ hxv _ hv _ hxv e' hc)
   ·exact h1 y hy
  | false =>
   have e':¬ cf x v<0:=by have:=hl x hxv v hv; rw [e] at this; exact of_decide_eq_false this.symm
   refine List.pairwise_cons.2 ⟨fun y hy=>?_,hp⟩
   rcases List.mem_cons.1 hy with rfl | hy
   ·exact e'
   ·exact h.ntr _ (hx y (List.mem_cons_of_mem _ hy)) _ hxv _ hv (h1 y hy) e'
theorem Ucy {α:Type} [Inhabited α] {cf:α→α→Int} {less:α→α→Bool} {vs:List α} (h:Vz cf vs) (hl:∀ a∈vs,∀ b∈vs,less a b=decide (cf a b<0)):vs.foldl (fun out v=>insL less v out) []=We cf vs:=by
 have key:∀ (ws out:List α),(∀ x∈ws,x∈vs)→(∀ x∈out,x∈vs)→(out.Pairwise fun x y=>¬ cf y x<0)→(ws.foldl (fun out v=>insL less v out) out).Perm (ws++out)∧(ws.foldl (fun out v=>insL less v out) out).Pairwise fun x y=>¬ cf y x<0:=by
  intro ws
  induction ws with
  | nil=>exact fun out _ _ hp=>⟨List.Perm.refl _,hp⟩
  | cons w ws ih =>
   intro out hw ho hp
   have hwv:=hw w List.mem_cons_self
   obtain ⟨k1,k2⟩:=ih (insL less w out) (fun x hx=>hw x (List.mem_cons_of_mem _ hx)) (fun x hx=>by
    rcases List.mem_cons.1 ((Gq less w out).subset hx) with rfl | hx
    ·exact hwv
    ·exact ho x hx) (Qrx h hl hwv out ho hp)
   refine ⟨k1.trans ?_,k2⟩
   refine ((Gq less w out).append_left ws).trans ?_
   exact List.perm_middle
 obtain ⟨k1,k2⟩:=key vs [] (fun x hx=>hx) (fun x hx=>by cases hx) List.Pairwise.nil
 rw [List.append_nil] at k1
 exact Nl h k1 k2
theorem Qek {p:Nat→Bool}:∀ (m i:Nat),anyF p i m=false→∀ k,i≤k→k<i+m→p k=false
 | 0,i,_,k,h1,h2=>by omega
 | m+1,i,h,k,h1,h2=>by
  rw [anyF,Bool.or_eq_false_iff] at h
  rcases Nat.eq_or_lt_of_le h1 with rfl | hlt
  ·exact h.1
  ·exact Qek m (i+1) h.2 k hlt (by omega)
theorem Qtv (lines:List ByteArray) (h:F22 lines=0):(lines.map F66).Nodup:=by
 have hk:=(Vp lines h).2
 unfold F22 at h
 cases h16:decide ((lines.length:Int)>16) with
 | true=>rw [h16,cond_true] at h; exact absurd h (by decide)
 | false =>
 rw [h16,cond_false] at h
 have h0:=fun (f:Int→Int) (g:Int→Int) (y:Int) (hg:∀ i,g i=y)=>anyL lines (fun l=>!F85 l) (2:Int) (Kc lines) (fun i hi=>by
  simp only [Kc,ltD hi,cond_true,nn,Qdd _ _ _ hi,Pr]
  rfl) (by simp only [Kc,geD,cond_false]) f g y hg
 have hany:(lines.any fun l=>!F85 l)=false:=by
  rw [Bool.eq_false_iff]
  intro hc
  obtain ⟨x,hx,hp⟩:=List.any_eq_true.1 hc
  rw [hk x hx] at hp
  cases hp
 rw [h0 (fun r=>r) _ _ (fun _=>rfl),hany,cond_false] at h
 have h3:(runL (Zu lines) (((lines.length:Int)-0).toNat+1) 0).fin (fun r=>r) (fun i42=>0)=0:=by
  rcases Nat.eq_zero_or_pos lines.length with hz | hz
  ·have:lines=[]:=List.eq_nil_of_length_eq_zero hz
   subst this; rfl
  ·have h1:=fun (y:Int)=>Yk (Ja lines) lines.length (fun k=>(!(Op.bytesLess (lines.getD (k-1) default).toList (lines.getD k default).toList))) (3:Int) (fun r=>r) y (fun k hk=>by
    simp only [Ja,ltD hk,cond_true,nn]
    rw [show Int.toNat ((k:Int)-1)=k-1 by omega]; rfl) (by simp only [Ja,geD,cond_false]) (lines.length-1) 1 (by omega) (Int.toNat ((lines.length:Int)-1)+1) (by omega)
   have h2:=h1 ((runL (Zu lines) (((lines.length:Int)-0).toNat+1) 0).fin (fun r=>r) (fun i42=>0))
   have h3:=h2.symm.trans h
   cases ha:anyF (fun k=>(!(Op.bytesLess (lines.getD (k-1) default).toList (lines.getD k default).toList))) 1 (lines.length-1) with
   | true=>rw [ha,cond_true] at h3; exact absurd h3 (by decide)
   | false=>rw [ha,cond_false] at h3; exact h3
 have h4:=Yk (Zu lines) lines.length (fun k=>decide ((lines.map F66).getD k default∈(lines.map F66).take k)) (4:Int) (fun r=>r) (0:Int) (fun i hi=>by
  simp only [Zu,ltD hi,cond_true,nn,Rq]; rfl) (by simp only [Zu,geD,cond_false]) lines.length 0 (by omega) (Int.toNat ((lines.length:Int)-0)+1) (by omega)
 have h5:=h4.symm.trans h3
 cases hb:anyF (fun k=>decide ((lines.map F66).getD k default∈(lines.map F66).take k)) 0 lines.length with
 | true=>rw [hb,cond_true] at h5; exact absurd h5 (by decide)
 | false =>
  refine List.pairwise_iff_getElem.2 fun i j hi hj hij e=>?_
  have hj':j<lines.length:=by simpa using hj
  have:=of_decide_eq_false (Qek _ _ hb j (Nat.zero_le _) (by omega))
  refine this ?_
  rw [List.getD_eq_getElem?_getD,List.getElem?_eq_getElem hj,Option.getD_some,← e]
  exact List.mem_take_iff_getElem.2 ⟨i,by omega,rfl⟩
theorem Qpe {α β:Type} {f:α→β}:∀ {xs:List α},(xs.map f).Nodup→∀ x∈xs,∀ y∈xs,f x=f y→x=y
 | [],_,x,hx,_,_,_=>by cases hx
 | a :: xs,h,x,hx,y,hy,e=>by
  rw [List.map_cons,List.nodup_cons] at h
  rcases List.mem_cons.1 hx with rfl | hx
  ·rcases List.mem_cons.1 hy with rfl | hy
   ·rfl
   ·exact absurd (List.mem_map.2 ⟨y,hy,e.symm⟩) h.1
  ·rcases List.mem_cons.1 hy with hy | hy
   ·exact absurd (List.mem_map.2 ⟨x,hx,e.trans (congrArg f hy)⟩) h.1
   ·exact Qpe h.2 x hx y hy e
theorem Qtn {lines:List ByteArray} {word:ByteArray} (h:F22 lines=0) {n:Nat} (hn:(keyN word.data.toList).toNat=n) {w1 w2:List ByteArray} (m1:w1∈Qa lines word) (m2:w2∈Qa lines word) (e:w1.take n=w2.take n):w1=w2:=by
 have key:∀ w∈Qa lines word,∃ l∈lines,w=Qw l (⟨#[32]⟩:ByteArray)∧F66 l=Ys (w.take n) (⟨#[32]⟩:ByteArray):=fun w hw=>by
  unfold Qa at hw
  obtain ⟨hw,hh⟩:=List.mem_filter.1 hw
  obtain ⟨l,hl,rfl⟩:=List.mem_map.1 hw
  have hk:=(Vp lines h).2 l hl
  refine ⟨l,hl,rfl,?_⟩
  rw [Qle l hk]
  have hs:=Li l hk
  rw [← hs,eq_of_beq hh,hn]
 obtain ⟨l1,a1,b1,c1⟩:=key w1 m1
 obtain ⟨l2,a2,b2,c2⟩:=key w2 m2
 have:=Qpe (Qtv lines h) l1 a1 l2 a2 (by rw [c1,c2,e])
 rw [b1,b2,this]
theorem Qra {a b:List UInt8} (h:num6 a=num6 b) (h0:0≤num6 a):a=b:=by
 have key:∀ l:List UInt8,0≤num6 l→num6 l=(valL 0 l:Int)∧Zd l=true:=fun l hl=>by
  unfold num6 at hl ⊢
  cases hc:Zd l&&decide (l.length≤6) with
  | false=>rw [hc,cond_false] at hl; exact absurd hl (by decide)
  | true=>rw [Bool.and_eq_true] at hc; exact ⟨rfl,hc.1⟩
 obtain ⟨a1,a2⟩:=key a h0
 obtain ⟨b1,b2⟩:=key b (h ▸ h0)
 have e:valL 0 a=valL 0 b:=by omega
 rw [← Ry _ a rfl a2,← Ry _ b rfl b2,e]
def Qih (c:UInt8):List (List UInt8)→List UInt8
 | []=>[]
 | [w]=>w
 | w :: x :: ws=>w++c :: Qih c (x :: ws)
theorem Qtj (c:UInt8) (l:List UInt8):Qx c l≠[]:=by
 cases l with
 | nil=>rw [Qx]; exact fun h=>by cases h
 | cons b l =>
  rw [Qx]
  split
  ·exact fun h=>by cases h
  ·split <;> exact fun h=>by cases h
theorem Xq (c:UInt8):∀ l:List UInt8,Qih c (Qx c l)=l
 | []=>rfl
 | b :: l=>by
  have ih:=Xq c l
  rw [Qx]
  cases hs:Qx c l with
  | nil=>exact absurd hs (Qtj c l)
  | cons w ws =>
   rw [hs] at ih
   by_cases hb:b=c
   ·rw [if_pos hb,Qih,ih,hb]; rfl
   ·rw [if_neg hb]
    cases ws with
    | nil=>rw [Qih] at ih ⊢; rw [ih]
    | cons x ws=>rw [Qih] at ih ⊢; rw [← ih]; rfl
theorem Uad {a b:List UInt8} (h:Yc a=Yc b) (h0:0≤Yc a):a=b:=by
 have key:∀ l:List UInt8,0≤Yc l→∃ x y,Qx 46 l=[x,y]∧Ux (num6 x)=true∧Ux (num6 y)=true∧Yc l=256*num6 x+num6 y:=fun l hl=>by
  unfold Yc at hl ⊢
  cases hs:Qx 46 l with
  | nil=>rw [hs] at hl; exact absurd hl (by decide)
  | cons x t=>cases t with
   | nil=>rw [hs] at hl; exact absurd (show (0:Int)≤-1 from hl) (by decide)
   | cons y t=>cases t with
    | cons z t=>rw [hs] at hl; exact absurd (show (0:Int)≤-1 from hl) (by decide)
    | nil =>
     rw [hs,Qox] at hl
     cases hc:Ux (num6 x)&&Ux (num6 y) with
     | false=>rw [hc,cond_false] at hl; exact absurd hl (by decide)
     | true =>
      rw [Bool.and_eq_true] at hc
      refine ⟨x,y,rfl,hc.1,hc.2,?_⟩
      rw [Qox,hc.1,hc.2]; rfl
 obtain ⟨x,y,e1,p1,p2,p3⟩:=key a h0
 obtain ⟨u,v,e2,q1,q2,q3⟩:=key b (h ▸ h0)
 have p1:=of_decide_eq_true p1
 have p2:=of_decide_eq_true p2
 have q1:=of_decide_eq_true q1
 have q2:=of_decide_eq_true q2
 have k1:num6 x=num6 u:=by omega
 have k2:num6 y=num6 v:=by omega
 have k1:=Qra k1 p1.1
 have k2:=Qra k2 p2.1
 subst k1 k2
 rw [← Xq 46 a,← Xq 46 b,e1,e2]
def T15 (R:List (List ByteArray)) (lines:List ByteArray) (word:ByteArray):Spec:=⟨(S15 R lines word).args,(S15 R lines word).res,lines.length≤1048576∧(∀ k:Nat,(lines.getD k default).size≤1048576)⟩
theorem oa15 (lines:List ByteArray) (word:ByteArray):(T15 (Qy lines word) lines word).ok Tryz.prog 15 false:=by
 intro hp; have h:=ok15 lines word hp; rw [as15 lines word] at h; exact h
def T29 (R:List l52Cut) (lines:List ByteArray) (head:ByteArray):Spec:=⟨(S29 R lines head).args,(S29 R lines head).res,lines.length≤16∧(∀ k:Nat,(lines.getD k default).size≤1048576)⟩
theorem oa29 (lines:List ByteArray) (head:ByteArray):(T29 (ofL lines head) lines head).ok Tryz.prog 29:=by
 intro hp; have h:=ok29 lines head hp; rw [as29 lines head] at h; exact h
structure TernPeer where
 Addr:Int
 Key:Int
 Secret:Int
 deriving DecidableEq,Inhabited
def Qc (x:TernPeer):List Dat:=[.v (vI x.Addr),.v (vI x.Key),.v (vI x.Secret)]
def F19 (a:TernPeer) (b:TernPeer):Int :=
 (IntKind.i64.wrap (a.Addr-b.Addr))
def S19 (a:TernPeer) (b:TernPeer):Spec:=⟨[.r (.g (Qc a)),.r (.g (Qc b))],.v (vI (F19 a b)),True⟩
theorem ok19 (a:TernPeer) (b:TernPeer):(S19 a b).ok Tryz.prog 19 :=
 Qn mixed (fn:=Tryz.f19) (ct:=.seq .no (.seq .no .no)) Tryz.func19 (fun (_:True)=>fiI (IntKind.i64.wrap (a.Addr-b.Addr)) (F19 a b) rfl) (by kernel_rfl)
theorem Ww (lines:List ByteArray) (k:Nat) (hk:k<(Qy lines (⟨#[112,101,101,114]⟩:ByteArray)).length):Wc ((Qy lines (⟨#[112,101,101,114]⟩:ByteArray)).getD k default):=by
 rcases Ju lines (⟨#[112,101,101,114]⟩:ByteArray) with ⟨_,h,e⟩ | e
 ·rw [e] at hk ⊢; exact Qpi lines h k hk
 ·rw [e] at hk; exact absurd hk (Nat.not_lt_zero _)
def Jm (w:List ByteArray):TernPeer:=⟨F16 (w.getD 1 default),F17 (w.getD 2 default),F17 (w.getD 3 default)⟩
theorem Qpd (w:List ByteArray):-1≤(Jm w).Addr∧(Jm w).Addr≤65535:=by
 have h2:=Qct (w.getD 1 default).data.toList
 rw [← Wf] at h2
 exact h2
def Rk (lines:List ByteArray) (out:List TernPeer):Prop:=∃ ws:List (List ByteArray),out=ws.map Jm∧∀ w∈ws,w∈Qy lines (⟨#[112,101,101,114]⟩:ByteArray)
theorem Qjw (lines:List ByteArray):Rk lines []:=⟨[],rfl,fun w hw=>by cases hw⟩
theorem Qir {lines:List ByteArray} {out:List TernPeer} (h:Rk lines out) {k:Nat} (hk:k<(Qy lines (⟨#[112,101,101,114]⟩:ByteArray)).length):Rk lines (out++[Jm ((Qy lines (⟨#[112,101,101,114]⟩:ByteArray)).getD k default)]):=by
 obtain ⟨ws,rfl,hw⟩:=h
 refine ⟨ws++[(Qy lines (⟨#[112,101,101,114]⟩:ByteArray)).getD k default],by rw [List.map_append]; rfl,fun w hm=>?_⟩
 rcases List.mem_append.1 hm with hm | hm
 ·exact hw w hm
 ·rw [List.mem_singleton.1 hm]; exact Kh _ hk
theorem Qzt (lines:List ByteArray):Rk lines ((Qy lines (⟨#[112,101,101,114]⟩:ByteArray)).map Jm):=⟨_,rfl,fun w hw=>hw⟩
theorem Ucv {lines:List ByteArray} {w1 w2:List ByteArray} (h1:w1∈Qy lines (⟨#[112,101,101,114]⟩:ByteArray)) (h2:w2∈Qy lines (⟨#[112,101,101,114]⟩:ByteArray)) (e:(Jm w1).Addr=(Jm w2).Addr):w1=w2:=by
 have p1:Wc w1:=by obtain ⟨k,hk,rfl⟩:=Je h1; exact Ww lines k hk
 have p2:Wc w2:=by obtain ⟨k,hk,rfl⟩:=Je h2; exact Ww lines k hk
 rcases Ju lines (⟨#[112,101,101,114]⟩:ByteArray) with ⟨_,h,e0⟩ | e0
 ·rw [e0] at h1 h2
  refine Qtn h (n:=2) rfl h1 h2 ?_
  unfold Wc at p1 p2
  rw [Bd w1 (by omega),Bd w2 (by omega)]
  have a0:w1.getD 0 default=w2.getD 0 default:=Jj (p1.1.trans p2.1.symm)
  have a1:w1.getD 1 default=w2.getD 1 default:=Jj (Uad (by
   have e':F16 (w1.getD 1 default)=F16 (w2.getD 1 default):=e
   rw [Wf,Wf] at e'; exact e') (by have:=p1.2.2.1; rw [Bh] at this; exact this))
  rw [a0,a1]
 ·rw [e0] at h1; cases h1
theorem Vf (a b:TernPeer) (ha:-1≤a.Addr∧a.Addr≤65535) (hb:-1≤b.Addr∧b.Addr≤65535):F19 a b=a.Addr-b.Addr:=Yw (by omega) (by omega)
theorem El {lines:List ByteArray} {out:List TernPeer} (h:Rk lines out):Vz (fun (x0:TernPeer) (x1:TernPeer)=>F19 x0 x1) out:=by
 obtain ⟨ws,rfl,hw⟩:=h
 have hb:∀ x∈ws.map Jm,-1≤x.Addr∧x.Addr≤65535:=fun x hx=>by obtain ⟨w,_,rfl⟩:=List.mem_map.1 hx; exact Qpd w
 refine ⟨fun x hx=>?_,fun x hx y hy z hz=>?_,fun x hx y hy z hz=>?_,fun x hx y hy=>?_⟩
 ·rw [Vf x x (hb x hx) (hb x hx)]; omega
 ·rw [Vf x y (hb x hx) (hb y hy),Vf y z (hb y hy) (hb z hz),Vf x z (hb x hx) (hb z hz)]; omega
 ·rw [Vf x y (hb x hx) (hb y hy),Vf y z (hb y hy) (hb z hz),Vf x z (hb x hx) (hb z hz)]; omega
 ·rw [Vf x y (hb x hx) (hb y hy),Vf y x (hb y hy) (hb x hx)]
  intro k1 k2
  obtain ⟨w1,m1,rfl⟩:=List.mem_map.1 hx
  obtain ⟨w2,m2,rfl⟩:=List.mem_map.1 hy
  rw [Ucv (hw w1 m1) (hw w2 m2) (by omega)]
def fs38 (p:TernPeer→TernPeer→Int):Uu:=⟨TernPeer×TernPeer,fun i=>[.g (Qc i.1),.g (Qc i.2)],fun i=>.int .i64 (p i.1 i.2)⟩
def F18 (x9:List TernPeer) (cmp:TernPeer→TernPeer→Int):List TernPeer :=
 We cmp x9
def S18 (x9:List TernPeer) (cmp:TernPeer→TernPeer→Int):Spec:=⟨[.ow (.l 3 Qc x9) (some (.l 3 Qc (F18 x9 cmp))),.fn (fs38 cmp) true],.tu [],Vz cmp x9∧x9.length≤4000000000000000000⟩
theorem ok18 (x9:List TernPeer) (cmp:TernPeer→TernPeer→Int):(S18 x9 cmp).ok Tryz.prog 18 :=
 Ued lay18 lay18a lay18z Qc (fun x=>⟨rfl,fun d hd=>by simp only [Qc,List.mem_cons,List.not_mem_nil,or_false] at hd; rcases hd with rfl | rfl | rfl <;> exact ⟨_,rfl,rfl⟩⟩) cmp x9
theorem kc15a (lines:List ByteArray) (word:ByteArray) {K_:Prop} (p0_:lines.length≤1048576) (p1_:∀ k:Nat,(lines.getD k default).size≤1048576) (k_:((Qy lines word).length≤16)→K_):(lines.length≤1048576∧(∀ k:Nat,(lines.getD k default).size≤1048576))∧(Imp (.l 1 eStr lines) (.l 1 eStr lines))∧(Imp (.v (.string word)) (.v (.string word)))∧K_:=⟨⟨p0_,p1_⟩,Imp.refl _,Imp.refl _,k_ (Qfi lines word)⟩
abbrev kh15a (lines:List ByteArray) (word:ByteArray):Hint false Tryz.prog:=.call 15 (T15 (Qy lines word) lines word) (oa15 lines word) none
def Rn (lines:List ByteArray):(List TernPeer×Int)→Lp (List TernPeer×Int) (List TernPeer):=fun (out1,v10) =>
 bif (decide (v10<((Qy lines (⟨#[112,101,101,114]⟩:ByteArray)).length:Int))) then (.next ((out1++[(⟨(F16 (((Qy lines (⟨#[112,101,101,114]⟩:ByteArray)).getD v10.toNat default).getD (Int.toNat 1) default)),(F17 (((Qy lines (⟨#[112,101,101,114]⟩:ByteArray)).getD v10.toNat default).getD (Int.toNat 2) default)),(F17 (((Qy lines (⟨#[112,101,101,114]⟩:ByteArray)).getD v10.toNat default).getD (Int.toNat 3) default))⟩:TernPeer)]),(v10+1))) else (.done (out1,v10))
def Qff (lines:List ByteArray):Lp (List TernPeer) (List TernPeer) :=
 (runL (Rn lines) ((((Qy lines (⟨#[112,101,101,114]⟩:ByteArray)).length:Int)-0).toNat+1) (([]:List TernPeer),0)).fin Lp.ret (fun (out1,v10)=>.done out1)
def F7 (lines:List ByteArray):List TernPeer :=
 (Qff lines).fin (fun r=>r) (fun out=>(F18 out (fun (x0:TernPeer) (x1:TernPeer)=>F19 x0 x1)))
abbrev Qic (lines:List ByteArray):Nat×(List TernPeer×Int):=(((((Qy lines (⟨#[112,101,101,114]⟩:ByteArray)).length:Int)-0).toNat+1),(([]:List TernPeer),0))
abbrev Qvx (lines:List ByteArray) (m39:Nat) (out1:List TernPeer) (v10:Int):Prop:=Int.toNat (((Qy lines (⟨#[112,101,101,114]⟩:ByteArray)).length:Int)-v10)<m39∧(out1.length:Int)≤v10∧v10≤((Qy lines (⟨#[112,101,101,114]⟩:ByteArray)).length:Int)∧Rk lines out1∧(0:Int)≤v10
abbrev lX7_0 (lines:List ByteArray):Lp (List TernPeer×Int) (List TernPeer):=LpX (Rn lines) (Qic lines)
abbrev Qii (lines:List ByteArray) (i:Nat×(List TernPeer×Int)):Prop:=LpJ (Rn lines) (Qic lines) i (Qvx lines i.1 i.2.1 i.2.2)
abbrev lH7_0 (lines:List ByteArray) (i:Nat×(List TernPeer×Int)) (m39:Nat) (out1:List TernPeer) (v10:Int):Prop:=LpH (Rn lines) (Qic lines) i m39 (out1,v10) (Qvx lines (m39+1) out1 v10)
abbrev lE7_0 (lines:List ByteArray) (out1:List TernPeer) (v10:Int) (out1_:List TernPeer) (v10_:Int) (K39:Prop):Prop:=(Rf (.int .i64 ((Qy lines (⟨#[112,101,101,114]⟩:ByteArray)).length:Int)))∧((.int .i64 v10:Value)=.int .i64 v10_)∧(Imp (.l 3 Qc out1) (.l 3 Qc out1_))∧(Im (.l 1 (eL 1 eStr) (Qy lines (⟨#[112,101,101,114]⟩:ByteArray))))∧K39
theorem un7_0 (lines:List ByteArray) (i:Nat×(List TernPeer×Int)) (h:Qii lines i):lH7_0 lines i (i.1-1) i.2.1 i.2.2:=⟨hd1 h.1 h.2.1,hd3 h.2.1,hd2 h.2.1,h.2.2⟩
theorem bk7_0 (lines:List ByteArray) (i:Nat×(List TernPeer×Int)) (m39:Nat) (out1:List TernPeer) (v10:Int) (hl:m39<i.1) (e:runL (Rn lines) m39 (out1,v10)=lX7_0 lines) (h:Qvx lines m39 out1 v10):∃ j:Nat×(List TernPeer×Int),lE7_0 lines out1 v10 j.2.1 j.2.2 (Qii lines j∧j.1<i.1):=⟨(m39,(out1,v10)),rfl,rfl,Imp.refl _,Imp.refl _,⟨e,h⟩,hl⟩
theorem en7_0 (lines:List ByteArray) (h:(([]:List TernPeer).length:Int)≤0∧0≤((Qy lines (⟨#[112,101,101,114]⟩:ByteArray)).length:Int)∧Rk lines ([]:List TernPeer)∧(0:Int)≤0):lE7_0 lines ([]:List TernPeer) 0 ([]:List TernPeer) 0 (Qii lines (Qic lines)):=⟨rfl,rfl,Imp.refl _,Imp.refl _,rfl,Nat.lt_succ_self _,h⟩
abbrev Qvi (lines:List ByteArray) (out:List TernPeer):Prop:=out.length≤16∧Rk lines out
abbrev Qvn (lines:List ByteArray) (j:List TernPeer):Prop:=(Qff lines)=Lp.done j∧Qvi lines j
theorem jn7_0 (lines:List ByteArray) (out:List TernPeer) (e:(Qff lines)=Lp.done out) (h:Qvi lines out):∃ j:List TernPeer,(Imp (.l 3 Qc out) (.l 3 Qc j))∧Qvn lines j:=⟨out,Imp.refl _,e,h⟩
theorem fi7 (lines:List ByteArray) (r:List TernPeer) (hF:r=(F7 lines)):(Imp (.l 3 Qc r) (.l 3 Qc (F7 lines)))∧True:=by cases hF; exact ⟨Imp.refl _,trivial⟩
def S7 (lines:List ByteArray):Spec:=⟨[.r (.c (.l 1 eStr lines))],.ow (.l 3 Qc (F7 lines)),lines.length≤1048576∧(∀ k:Nat,(lines.getD k default).size≤1048576)⟩
theorem ok7 (lines:List ByteArray):(S7 lines).ok Tryz.prog 7 false :=
 Qn mixed (fn:=Tryz.f7) (ct:=.seqk [(0,0)] .no (.seq (.reg [(0,.dat (.l 3 Qc ([]:List TernPeer)))]) (.cut (ι:=List TernPeer) (fun j=>(fun (out:List TernPeer)=>(⟨[(3,some (.h 0 0))],[(0,some (.own 0 (.l 3 Qc out)))],1⟩:St)) j) (Qvn lines) (.seqk [(3,0),(8,0)] (.reg [(1,kh15a lines (⟨#[112,101,101,114]⟩:ByteArray))]) (.blk (.loop (ι:=Nat×(List TernPeer×Int)) (fun i=>(fun (out1:List TernPeer) (v10:Int)=>(⟨[(3,some (.h 0 0)),(8,some (.h 1 0)),(9,some (.v (vI ((Qy lines (⟨#[112,101,101,114]⟩:ByteArray)).length:Int)))),(10,some (.v (vI v10)))],[(0,some (.own 0 (.l 3 Qc out1))),(1,some (.own 1 (.l 1 (eL 1 eStr) (Qy lines (⟨#[112,101,101,114]⟩:ByteArray)))))],2⟩:St)) i.2.1 i.2.2) (Qii lines) (fun i=>i.1) (Qic lines) (fun i=>(fun (out1:List TernPeer) (v10:Int)=>(.seq .no (.seq (.cond .no .no) (.seq (.blk (.seq .no (.reg [(4,kh16 (((Qy lines (⟨#[112,101,101,114]⟩:ByteArray)).getD v10.toNat default).getD (Int.toNat 1) default)),(8,kh17 (((Qy lines (⟨#[112,101,101,114]⟩:ByteArray)).getD v10.toNat default).getD (Int.toNat 2) default)),(12,kh17 (((Qy lines (⟨#[112,101,101,114]⟩:ByteArray)).getD v10.toNat default).getD (Int.toNat 3) default)),(15,.dat (.l 3 Qc (out1++[(⟨(F16 (((Qy lines (⟨#[112,101,101,114]⟩:ByteArray)).getD v10.toNat default).getD (Int.toNat 1) default)),(F17 (((Qy lines (⟨#[112,101,101,114]⟩:ByteArray)).getD v10.toNat default).getD (Int.toNat 2) default)),(F17 (((Qy lines (⟨#[112,101,101,114]⟩:ByteArray)).getD v10.toNat default).getD (Int.toNat 3) default))⟩:TernPeer)])))]))) (.reg [(0,.bnd)]))))) i.2.1 i.2.2)))) (fun j=>(fun (out:List TernPeer)=>(.seq (.reg [(1,.call 18 (S18 out (fun (x0:TernPeer) (x1:TernPeer)=>F19 x0 x1)) ((ok18 out (fun (x0:TernPeer) (x1:TernPeer)=>F19 x0 x1)).to false) (some ⟨true,19,fs38 (fun (x0:TernPeer) (x1:TernPeer)=>F19 x0 x1),[],rfl,True,fun i=>(ok19 i.1 i.2)⟩))]) (.seq .no .no))) j)))) Tryz.func7 (fun (hp:lines.length≤1048576∧(∀ k:Nat,(lines.getD k default).size≤1048576))=>have hpre0:=hp.1; have hpre1:=hp.2; kn lines fun _=>ai (bokr 3 Qc ([]:List TernPeer) fun _=>rfl) (ai (kc15a lines (⟨#[112,101,101,114]⟩:ByteArray) (by first | omega | (simp only [lens,ib] at*<;> omega)) (by first | assumption | exact hpre1 _ | exact fun k _=>hpre1 k | (intros; exact trivial) | (intros; exact Nat.zero_le _)) (fun gv1=>kn ([]:List TernPeer) fun _=>kn (Qy lines (⟨#[112,101,101,114]⟩:ByteArray)) fun _=>ai (en7_0 lines (by refine ⟨?_,?_,?_,?_⟩ <;> first | omega | (simp only [lens,ib] at*<;> omega) | exact Qjw lines | exact Qir (by assumption) (k:=Int.toNat v10) (by first | omega | (simp only [lens,ib] at*<;> omega)))) (fun (i0:Nat×(List TernPeer×Int)) (hi0:Qii lines i0)=>(fun (m0:Nat) (out1:List TernPeer) (v10:Int) (hh0:lH7_0 lines i0 m0 out1 v10)=>have hI0:=hh0.1; have hl0:=hh0.2.1; have _:=hh0.2.2.1; have _:=hh0.2.2.2.1; have _:=hh0.2.2.2.2.1; have _:=hh0.2.2.2.2.2.1; have _:=hh0.2.2.2.2.2.2; ifd (v10<((Qy lines (⟨#[112,101,101,114]⟩:ByteArray)).length:Int)) (fun h3 _=>ai (by (first | omega | (have h9:=Ww lines v10.toNat (by first | omega | (simp only [lens,ib] at*<;> omega)); unfold Wc at h9; omega)):0≤v10∧v10<((Qy lines (⟨#[112,101,101,114]⟩:ByteArray)).length:Int)) (ai (by (first | omega | (have h9:=Ww lines v10.toNat (by first | omega | (simp only [lens,ib] at*<;> omega)); unfold Wc at h9; omega)):0≤(1:Int)∧(1:Int)<(((Qy lines (⟨#[112,101,101,114]⟩:ByteArray)).getD v10.toNat default).length:Int)) (kc16 (((Qy lines (⟨#[112,101,101,114]⟩:ByteArray)).getD v10.toNat default).getD (Int.toNat 1) default) (by exact Qay lines _ _ _) (ai (by (first | omega | (have h9:=Ww lines v10.toNat (by first | omega | (simp only [lens,ib] at*<;> omega)); unfold Wc at h9; omega)):0≤(2:Int)∧(2:Int)<(((Qy lines (⟨#[112,101,101,114]⟩:ByteArray)).getD v10.toNat default).length:Int)) (kc17 (((Qy lines (⟨#[112,101,101,114]⟩:ByteArray)).getD v10.toNat default).getD (Int.toNat 2) default) (by exact Qay lines _ _ _) (ai (by (first | omega | (have h9:=Ww lines v10.toNat (by first | omega | (simp only [lens,ib] at*<;> omega)); unfold Wc at h9; omega)):0≤(3:Int)∧(3:Int)<(((Qy lines (⟨#[112,101,101,114]⟩:ByteArray)).getD v10.toNat default).length:Int)) (kc17 (((Qy lines (⟨#[112,101,101,114]⟩:ByteArray)).getD v10.toNat default).getD (Int.toNat 3) default) (by exact Qay lines _ _ _) (ai (appr 3 Qc out1 [(⟨(F16 (((Qy lines (⟨#[112,101,101,114]⟩:ByteArray)).getD v10.toNat default).getD (Int.toNat 1) default)),(F17 (((Qy lines (⟨#[112,101,101,114]⟩:ByteArray)).getD v10.toNat default).getD (Int.toNat 2) default)),(F17 (((Qy lines (⟨#[112,101,101,114]⟩:ByteArray)).getD v10.toNat default).getD (Int.toNat 3) default))⟩:TernPeer)] fun _=>rfl) (ai (by (try simp only [lens]); omega:(out1++[(⟨(F16 (((Qy lines (⟨#[112,101,101,114]⟩:ByteArray)).getD v10.toNat default).getD (Int.toNat 1) default)),(F17 (((Qy lines (⟨#[112,101,101,114]⟩:ByteArray)).getD v10.toNat default).getD (Int.toNat 2) default)),(F17 (((Qy lines (⟨#[112,101,101,114]⟩:ByteArray)).getD v10.toNat default).getD (Int.toNat 3) default))⟩:TernPeer)]).length*24≤140737488355328) (ai (iok (v10+1) (by first | omega | (simp only [lens,ib] at*<;> omega))) (bk7_0 lines i0 m0 (out1++[(⟨(F16 (((Qy lines (⟨#[112,101,101,114]⟩:ByteArray)).getD v10.toNat default).getD (Int.toNat 1) default)),(F17 (((Qy lines (⟨#[112,101,101,114]⟩:ByteArray)).getD v10.toNat default).getD (Int.toNat 2) default)),(F17 (((Qy lines (⟨#[112,101,101,114]⟩:ByteArray)).getD v10.toNat default).getD (Int.toNat 3) default))⟩:TernPeer)]) (v10+1) hl0 (Qe hI0 (condT h3 rfl)) (by refine ⟨?_,?_,?_,?_,?_⟩ <;> first | omega | (simp only [lens,ib] at*<;> omega) | exact Qjw lines | exact Qir (by assumption) (k:=Int.toNat v10) (by first | omega | (simp only [lens,ib] at*<;> omega)))))))))))))) (fun h3 _=>have hD0_4:lX7_0 lines=Lp.done (out1,v10):=Qk hI0 (condF h3 rfl); jn7_0 lines out1 (Eq.symm (finD hD0_4 rfl)) (by refine ⟨?_,?_⟩ <;> first | omega | (simp only [lens,ib] at*<;> omega) | assumption))) (i0.1-1) i0.2.1 i0.2.2 (un7_0 lines i0 hi0)))) (fun (j:List TernPeer) (hj:Qvn lines j)=>(fun (out:List TernPeer) (hJ0_5:(Qff lines)=Lp.done out) (hw:Qvi lines out)=>have _:=hw.1; have _:=hw.2; ai (ai (by first | omega | exact El (lines:=lines) (by assumption):Vz (fun (x0:TernPeer) (x1:TernPeer)=>F19 x0 x1) out) (by first | omega | exact El (lines:=lines) (by assumption):out.length≤4000000000000000000)) (ai (Imp.refl (.l 3 Qc out)) (ai (Eq.refl (fs38 (fun (x0:TernPeer) (x1:TernPeer)=>F19 x0 x1))) (ai trivial (fi7 lines (F18 out (fun (x0:TernPeer) (x1:TernPeer)=>F19 x0 x1)) (finD hJ0_5 rfl)))))) j hj.1 hj.2))) (by kernel_rfl)
theorem kc29a (lines:List ByteArray) (head:ByteArray) {K_:Prop} (p0_:lines.length≤16) (p1_:∀ k:Nat,(lines.getD k default).size≤1048576) (q0_:lines.length≤16) (k_:((ofL lines head).length≤16)→K_):(lines.length≤16∧(∀ k:Nat,(lines.getD k default).size≤1048576))∧(Imp (.l 1 eStr lines) (.l 1 eStr lines))∧(Imp (.v (.string head)) (.v (.string head)))∧K_:=⟨⟨p0_,p1_⟩,Imp.refl _,Imp.refl _,k_ (Udt lines head q0_)⟩
abbrev kh29a (lines:List ByteArray) (head:ByteArray):Hint true Tryz.prog:=.call 29 (T29 (ofL lines head) lines head) (oa29 lines head) none
def La (lines:List ByteArray) (out:List TernPeer) (i40:Int):Int→Lp Int (List TernPeer):=fun k400 =>
 bif (bif decide (k400<(out.length:Int)) then decide ((out.getD k400.toNat default).Addr<(F30 (F31 ((ofL lines (⟨#[112,101,101,114]⟩:ByteArray)).getD i40.toNat default) 1))) else false) then (.next (k400+1)) else (.done k400)
def Nu (lines:List ByteArray) (out:List TernPeer) (i40:Int):Lp Int (List TernPeer) :=
 (runL (La lines out i40) (((out.length:Int)-0).toNat+1) 0).fin Lp.ret (fun k400=>.done k400)
def Bq (lines:List ByteArray):(List TernPeer×Int)→Lp (List TernPeer×Int) (List TernPeer):=fun (out,i40) =>
 bif (decide (i40<((ofL lines (⟨#[112,101,101,114]⟩:ByteArray)).length:Int))) then ((Nu lines out i40).fin Lp.ret (fun k=>.next ((((([]:List TernPeer)++(out.take k.toNat))++[(⟨(F30 (F31 ((ofL lines (⟨#[112,101,101,114]⟩:ByteArray)).getD i40.toNat default) 1)),(F32 (F31 ((ofL lines (⟨#[112,101,101,114]⟩:ByteArray)).getD i40.toNat default) 2)),(F32 (F31 ((ofL lines (⟨#[112,101,101,114]⟩:ByteArray)).getD i40.toNat default) 3))⟩:TernPeer)])++(out.drop k.toNat)),(i40+1)))) else (.done (out,i40))
def F14 (lines:List ByteArray):List TernPeer :=
 (runL (Bq lines) ((((ofL lines (⟨#[112,101,101,114]⟩:ByteArray)).length:Int)-0).toNat+1) (([]:List TernPeer),0)).fin (fun r=>r) (fun (out,i40)=>out)
abbrev Tj (out:List TernPeer):Nat×Int:=((((out.length:Int)-0).toNat+1),0)
abbrev Qlh (out:List TernPeer) (m39:Nat) (k400:Int):Prop:=Int.toNat ((out.length:Int)-k400)<m39∧(0:Int)≤k400∧k400≤(out.length:Int)∧(0:Int)≤k400
abbrev Uca (lines:List ByteArray) (out:List TernPeer) (i40:Int):Lp Int (List TernPeer):=LpX (La lines out i40) (Tj out)
abbrev Qbx (lines:List ByteArray) (out:List TernPeer) (i40:Int) (i:Nat×Int):Prop:=LpJ (La lines out i40) (Tj out) i (Qlh out i.1 i.2)
abbrev Qwl (lines:List ByteArray) (out:List TernPeer) (i40:Int) (i:Nat×Int) (m39:Nat) (k400:Int):Prop:=LpH (La lines out i40) (Tj out) i m39 k400 (Qlh out (m39+1) k400)
abbrev Qyc (lines:List ByteArray) (out:List TernPeer) (i40:Int) (k400:Int) (k400_:Int) (K39:Prop):Prop:=(Rf (.int .i64 i40))∧((.int .i64 k400:Value)=.int .i64 k400_)∧(Im (.l 1 Qh (ofL lines w6_)))∧(Im (.l 3 Qc out))∧(Rf (.int .i64 (F30 (F31 ((ofL lines w6_).getD i40.toNat default) 1))))∧(Rf (.int .i64 (F32 (F31 ((ofL lines w6_).getD i40.toNat default) 2))))∧(Rf (.int .i64 (F32 (F31 ((ofL lines w6_).getD i40.toNat default) 3))))∧K39
theorem un14_1 (lines:List ByteArray) (out:List TernPeer) (i40:Int) (i:Nat×Int) (h:Qbx lines out i40 i):Qwl lines out i40 i (i.1-1) i.2:=⟨hd1 h.1 h.2.1,hd3 h.2.1,hd2 h.2.1,h.2.2⟩
theorem bk14_1 (lines:List ByteArray) (out:List TernPeer) (i40:Int) (i:Nat×Int) (m39:Nat) (k400:Int) (hl:m39<i.1) (e:runL (La lines out i40) m39 k400=Uca lines out i40) (h:Qlh out m39 k400):∃ j:Nat×Int,Qyc lines out i40 k400 j.2 (Qbx lines out i40 j∧j.1<i.1):=⟨(m39,k400),rfl,rfl,Imp.refl _,Imp.refl _,rfl,rfl,rfl,⟨e,h⟩,hl⟩
theorem en14_1 (lines:List ByteArray) (out:List TernPeer) (i40:Int) (h:(0:Int)≤0∧0≤(out.length:Int)∧(0:Int)≤0):Qyc lines out i40 0 0 (Qbx lines out i40 (Tj out)):=⟨rfl,rfl,Imp.refl _,Imp.refl _,rfl,rfl,rfl,rfl,Nat.lt_succ_self _,h⟩
abbrev Qom (lines:List ByteArray) (out:List TernPeer) (i40:Int) (k:Int):Prop:=(0:Int)≤k∧k≤(out.length:Int)
abbrev Qlt (lines:List ByteArray) (out:List TernPeer) (i40:Int) (j:Int):Prop:=(Nu lines out i40)=Lp.done j∧Qom lines out i40 j
theorem jn14_2 (lines:List ByteArray) (out:List TernPeer) (i40:Int) (k:Int) (e:(Nu lines out i40)=Lp.done k) (h:Qom lines out i40 k):∃ j:Int,((.int .i64 i40:Value)=.int .i64 i40)∧((.int .i64 k:Value)=.int .i64 j)∧(Imp (.l 1 Qh (ofL lines w6_)) (.l 1 Qh (ofL lines w6_)))∧(Imp (.l 3 Qc out) (.l 3 Qc out))∧((.int .i64 (F30 (F31 ((ofL lines w6_).getD i40.toNat default) 1)):Value)=.int .i64 (F30 (F31 ((ofL lines w6_).getD i40.toNat default) 1)))∧((.int .i64 (F32 (F31 ((ofL lines w6_).getD i40.toNat default) 2)):Value)=.int .i64 (F32 (F31 ((ofL lines w6_).getD i40.toNat default) 2)))∧((.int .i64 (F32 (F31 ((ofL lines w6_).getD i40.toNat default) 3)):Value)=.int .i64 (F32 (F31 ((ofL lines w6_).getD i40.toNat default) 3)))∧Qlt lines out i40 j:=⟨k,rfl,rfl,Imp.refl _,Imp.refl _,rfl,rfl,rfl,e,h⟩
abbrev Qcy (lines:List ByteArray):Nat×(List TernPeer×Int):=(((((ofL lines w6_).length:Int)-0).toNat+1),(([]:List TernPeer),0))
abbrev Qkv (lines:List ByteArray) (m39:Nat) (out:List TernPeer) (i40:Int):Prop:=Int.toNat (((ofL lines w6_).length:Int)-i40)<m39∧(out.length:Int)≤i40∧(0:Int)≤i40
abbrev Ubm (lines:List ByteArray):Lp (List TernPeer×Int) (List TernPeer):=LpX (Bq lines) (Qcy lines)
abbrev Qco (lines:List ByteArray) (i:Nat×(List TernPeer×Int)):Prop:=LpJ (Bq lines) (Qcy lines) i (Qkv lines i.1 i.2.1 i.2.2)
abbrev Qxj (lines:List ByteArray) (i:Nat×(List TernPeer×Int)) (m39:Nat) (out:List TernPeer) (i40:Int):Prop:=LpH (Bq lines) (Qcy lines) i m39 (out,i40) (Qkv lines (m39+1) out i40)
abbrev Qyr (lines:List ByteArray) (out:List TernPeer) (i40:Int) (out_:List TernPeer) (i40_:Int) (K39:Prop):Prop:=((.int .i64 i40:Value)=.int .i64 i40_)∧(Im (.l 1 Qh (ofL lines w6_)))∧(Imp (.l 3 Qc out) (.l 3 Qc out_))∧K39
theorem un14_0 (lines:List ByteArray) (i:Nat×(List TernPeer×Int)) (h:Qco lines i):Qxj lines i (i.1-1) i.2.1 i.2.2:=⟨hd1 h.1 h.2.1,hd3 h.2.1,hd2 h.2.1,h.2.2⟩
theorem bk14_0 (lines:List ByteArray) (i:Nat×(List TernPeer×Int)) (m39:Nat) (out:List TernPeer) (i40:Int) (hl:m39<i.1) (e:runL (Bq lines) m39 (out,i40)=Ubm lines) (h:Qkv lines m39 out i40):∃ j:Nat×(List TernPeer×Int),Qyr lines out i40 j.2.1 j.2.2 (Qco lines j∧j.1<i.1):=⟨(m39,(out,i40)),rfl,Imp.refl _,Imp.refl _,⟨e,h⟩,hl⟩
theorem en14_0 (lines:List ByteArray) (h:(([]:List TernPeer).length:Int)≤0∧(0:Int)≤0):Qyr lines ([]:List TernPeer) 0 ([]:List TernPeer) 0 (Qco lines (Qcy lines)):=⟨rfl,Imp.refl _,Imp.refl _,rfl,Nat.lt_succ_self _,h⟩
theorem fi14 (lines:List ByteArray) (r:List TernPeer) (hF:r=(F14 lines)):(Imp (.l 3 Qc r) (.l 3 Qc (F14 lines)))∧True:=by cases hF; exact ⟨Imp.refl _,trivial⟩
def S14 (lines:List ByteArray):Spec:=⟨[.r (.c (.l 1 eStr lines))],.ow (.l 3 Qc (F14 lines)),lines.length≤16∧(∀ k:Nat,(lines.getD k default).size≤1048576)⟩
theorem ok14 (lines:List ByteArray):(S14 lines).ok Tryz.prog 14 :=
 Qn mixed (fn:=Tryz.f14) (ct:=.seqk [(0,0)] .no (.seq (.reg [(1,kh29a lines w6_)]) (.seq (.reg [(0,.dat (.l 3 Qc ([]:List TernPeer)))]) (.seq (.seqk [(3,0),(4,0)] .no (.blk (.loop (ι:=Nat×(List TernPeer×Int)) (fun i=>(fun (out:List TernPeer) (i40:Int)=>(⟨[(3,some (.h 0 0)),(4,some (.h 1 0)),(5,some (.v (vI i40)))],[(0,some (.own 0 (.l 1 Qh (ofL lines w6_)))),(1,some (.own 1 (.l 3 Qc out)))],2⟩:St)) i.2.1 i.2.2) (Qco lines) (fun i=>i.1) (Qcy lines) (fun i=>(fun (out:List TernPeer) (i40:Int)=>(.seq (.seq .no (.cond .no .no)) (.seq (.blk (.seq (.reg [(4,kh31 ((ofL lines w6_).getD i40.toNat default) 1),(5,kh30 (F31 ((ofL lines w6_).getD i40.toNat default) 1)),(10,kh31 ((ofL lines w6_).getD i40.toNat default) 2),(11,kh32 (F31 ((ofL lines w6_).getD i40.toNat default) 2)),(16,kh31 ((ofL lines w6_).getD i40.toNat default) 3),(17,kh32 (F31 ((ofL lines w6_).getD i40.toNat default) 3))]) (.seqk [(4,0)] .no (.cut (ι:=Int) (fun j=>(fun (k:Int)=>(⟨[(3,some (.h 0 0)),(4,some (.h 1 0)),(5,some (.v (vI i40))),(6,some (.p 2 0)),(7,some (.v (vI k)))],[(0,some (.own 0 (.l 1 Qh (ofL lines w6_)))),(1,some (.own 1 (.l 3 Qc out))),(2,some (.box 36 [.v (vI (F30 (F31 ((ofL lines w6_).getD i40.toNat default) 1))),.v (vI (F32 (F31 ((ofL lines w6_).getD i40.toNat default) 2))),.v (vI (F32 (F31 ((ofL lines w6_).getD i40.toNat default) 3)))]))],3⟩:St)) j) (Qlt lines out i40) (.blk (.loop (ι:=Nat×Int) (fun i=>(fun (k400:Int)=>(⟨[(3,some (.h 0 0)),(4,some (.h 1 0)),(5,some (.v (vI i40))),(6,some (.p 2 0)),(7,some (.v (vI k400)))],[(0,some (.own 0 (.l 1 Qh (ofL lines w6_)))),(1,some (.own 1 (.l 3 Qc out))),(2,some (.box 36 [.v (vI (F30 (F31 ((ofL lines w6_).getD i40.toNat default) 1))),.v (vI (F32 (F31 ((ofL lines w6_).getD i40.toNat default) 2))),.v (vI (F32 (F31 ((ofL lines w6_).getD i40.toNat default) 3)))]))],3⟩:St)) i.2) (Qbx lines out i40) (fun i=>i.1) (Tj out) (fun i=>(fun (k400:Int)=>(.seq (.seq .no (.cond .no .no)) (.blk (.reg [(1,.bnd)])))) i.2))) (fun j=>(fun (k:Int)=>(.reg [(0,.dat (.l 3 Qc ([]:List TernPeer))),(4,.dat (.l 3 Qc (([]:List TernPeer)++(out.take k.toNat)))),(7,.dat (.l 3 Qc ((([]:List TernPeer)++(out.take k.toNat))++[(⟨(F30 (F31 ((ofL lines w6_).getD i40.toNat default) 1)),(F32 (F31 ((ofL lines w6_).getD i40.toNat default) 2)),(F32 (F31 ((ofL lines w6_).getD i40.toNat default) 3))⟩:TernPeer)]))),(11,.dat (.l 3 Qc (((([]:List TernPeer)++(out.take k.toNat))++[(⟨(F30 (F31 ((ofL lines w6_).getD i40.toNat default) 1)),(F32 (F31 ((ofL lines w6_).getD i40.toNat default) 2)),(F32 (F31 ((ofL lines w6_).getD i40.toNat default) 3))⟩:TernPeer)])++(out.drop k.toNat))))])) j))))) (.reg [(1,.bnd)])))) i.2.1 i.2.2)))) (.seq .no .no))))) Tryz.func14 (fun (hp:lines.length≤16∧(∀ k:Nat,(lines.getD k default).size≤1048576))=>have hpre0:=hp.1; have hpre1:=hp.2; kn lines fun _=>kc29a lines w6_ (by first | omega | (simp only [lens,ib] at*<;> omega)) (by first | assumption | exact hpre1 _ | exact fun k _=>hpre1 k | (intros; exact trivial) | (intros; exact Nat.zero_le _)) (by first | omega | (simp only [lens,ib] at*<;> omega)) (fun gv1=>ai (bokr 3 Qc ([]:List TernPeer) fun _=>rfl) (kn (ofL lines w6_) fun _=>kn ([]:List TernPeer) fun _=>ai (en14_0 lines (by refine ⟨?_,?_⟩ <;> first | omega | (simp only [lens,ib] at*<;> omega) | (simp only [lens] at *; omega))) (fun (i0:Nat×(List TernPeer×Int)) (hi0:Qco lines i0)=>(fun (m0:Nat) (out:List TernPeer) (i40:Int) (hh0:Qxj lines i0 m0 out i40)=>have hI0:=hh0.1; have hl0:=hh0.2.1; have _:=hh0.2.2.1; have _:=hh0.2.2.2; ifd (i40<((ofL lines w6_).length:Int)) (fun h3 _=>ai (by first | omega | (simp only [lens,ib] at*<;> omega):ib i40 (ofL lines w6_)) (kc31 ((ofL lines w6_).getD i40.toNat default) 1 (by first | omega | (simp only [lens,ib] at*<;> omega)) (kc30 (F31 ((ofL lines w6_).getD i40.toNat default) 1) (by exact Va _ (Qlj lines _ (by assumption)) _ _) (ai (by first | omega | (simp only [lens,ib] at*<;> omega):ib i40 (ofL lines w6_)) (kc31 ((ofL lines w6_).getD i40.toNat default) 2 (by first | omega | (simp only [lens,ib] at*<;> omega)) (kc32 (F31 ((ofL lines w6_).getD i40.toNat default) 2) (by exact Va _ (Qlj lines _ (by assumption)) _ _) (ai (by first | omega | (simp only [lens,ib] at*<;> omega):ib i40 (ofL lines w6_)) (kc31 ((ofL lines w6_).getD i40.toNat default) 3 (by first | omega | (simp only [lens,ib] at*<;> omega)) (kc32 (F31 ((ofL lines w6_).getD i40.toNat default) 3) (by exact Va _ (Qlj lines _ (by assumption)) _ _) (kn out fun _=>ai (ai (en14_1 lines out i40 (by refine ⟨?_,?_,?_⟩ <;> first | omega | (simp only [lens,ib] at*<;> omega))) (fun (i1:Nat×Int) (hi1:Qbx lines out i40 i1)=>(fun (m1:Nat) (k400:Int) (hh1:Qwl lines out i40 i1 m1 k400)=>have hI1:=hh1.1; have hl1:=hh1.2.1; have _:=hh1.2.2.1; have _:=hh1.2.2.2; ai (fun k5:(decide (k400<(out.length:Int)))=true=>have _:=of_decide_eq_true k5; (by first | omega | (simp only [lens,ib] at*<;> omega):ib k400 out)) (ifb (bif decide (k400<(out.length:Int)) then decide ((out.getD k400.toNat default).Addr<(F30 (F31 ((ofL lines w6_).getD i40.toNat default) 1))) else false) (fun h6=>have _:=of_decide_eq_true (Ql h6); have _:(out.getD k400.toNat default).Addr<(F30 (F31 ((ofL lines w6_).getD i40.toNat default) 1)):=of_decide_eq_true (Qv h6); ai (iok (k400+1) (by first | omega | (simp only [lens,ib] at*<;> omega))) (bk14_1 lines out i40 i1 m1 (k400+1) hl1 (Qe hI1 (condT h6 rfl)) (by refine ⟨?_,?_,?_,?_⟩ <;> first | omega | (simp only [lens,ib] at*<;> omega)))) (fun h6=>have hD1_7:Uca lines out i40=Lp.done k400:=Qk hI1 (condF h6 rfl); jn14_2 lines out i40 k400 (Eq.symm (finD hD1_7 rfl)) (by refine ⟨?_,?_⟩ <;> first | omega | (simp only [lens,ib] at*<;> omega))))) (i1.1-1) i1.2 (un14_1 lines out i40 i1 hi1))) (fun (j:Int) (hj:Qlt lines out i40 j)=>(fun (k:Int) (hJ2_8:(Nu lines out i40)=Lp.done k) (hw:Qom lines out i40 k)=>have _:=hw.1; have _:=hw.2; ai (bokr 3 Qc ([]:List TernPeer) fun _=>rfl) (ai (by first | omega | (simp only [lens,ib] at*<;> omega):0≤(0:Int)∧(0:Int)≤k∧k≤(out.length:Int)) (ai (AppL.mk Qc ([]:List TernPeer) (out.take k.toNat) (Imp.refl (.l 3 Qc ([]:List TernPeer))) ir (fun y=>⟨rfl,fun e he=>by simp only [Qc,List.mem_cons,List.not_mem_nil,or_false] at he; rcases he with rfl | rfl | rfl <;> exact ⟨_,rfl⟩⟩):AppL (.l 3 Qc ([]:List TernPeer)) (.l 3 Qc (out.take k.toNat)) 3 (.l 3 Qc (([]:List TernPeer)++(out.take k.toNat)))) (ai (by (try simp only [lens]); omega:(([]:List TernPeer)++(out.take k.toNat)).length*24≤140737488355328) (ai (appr 3 Qc (([]:List TernPeer)++(out.take k.toNat)) [(⟨(F30 (F31 ((ofL lines w6_).getD i40.toNat default) 1)),(F32 (F31 ((ofL lines w6_).getD i40.toNat default) 2)),(F32 (F31 ((ofL lines w6_).getD i40.toNat default) 3))⟩:TernPeer)] fun _=>rfl) (ai (by (try simp only [lens]); omega:((([]:List TernPeer)++(out.take k.toNat))++[(⟨(F30 (F31 ((ofL lines w6_).getD i40.toNat default) 1)),(F32 (F31 ((ofL lines w6_).getD i40.toNat default) 2)),(F32 (F31 ((ofL lines w6_).getD i40.toNat default) 3))⟩:TernPeer)]).length*24≤140737488355328) (ai (by first | omega | (simp only [lens,ib] at*<;> omega):0≤k∧k≤(out.length:Int)∧(out.length:Int)≤(out.length:Int)) (ai (AppL.mk Qc ((([]:List TernPeer)++(out.take k.toNat))++[(⟨(F30 (F31 ((ofL lines w6_).getD i40.toNat default) 1)),(F32 (F31 ((ofL lines w6_).getD i40.toNat default) 2)),(F32 (F31 ((ofL lines w6_).getD i40.toNat default) 3))⟩:TernPeer)]) (out.drop k.toNat) (Imp.refl (.l 3 Qc ((([]:List TernPeer)++(out.take k.toNat))++[(⟨(F30 (F31 ((ofL lines w6_).getD i40.toNat default) 1)),(F32 (F31 ((ofL lines w6_).getD i40.toNat default) 2)),(F32 (F31 ((ofL lines w6_).getD i40.toNat default) 3))⟩:TernPeer)]))) ir (fun y=>⟨rfl,fun e he=>by simp only [Qc,List.mem_cons,List.not_mem_nil,or_false] at he; rcases he with rfl | rfl | rfl <;> exact ⟨_,rfl⟩⟩):AppL (.l 3 Qc ((([]:List TernPeer)++(out.take k.toNat))++[(⟨(F30 (F31 ((ofL lines w6_).getD i40.toNat default) 1)),(F32 (F31 ((ofL lines w6_).getD i40.toNat default) 2)),(F32 (F31 ((ofL lines w6_).getD i40.toNat default) 3))⟩:TernPeer)])) (.l 3 Qc (out.drop k.toNat)) 3 (.l 3 Qc (((([]:List TernPeer)++(out.take k.toNat))++[(⟨(F30 (F31 ((ofL lines w6_).getD i40.toNat default) 1)),(F32 (F31 ((ofL lines w6_).getD i40.toNat default) 2)),(F32 (F31 ((ofL lines w6_).getD i40.toNat default) 3))⟩:TernPeer)])++(out.drop k.toNat)))) (ai (by (try simp only [lens]); omega:(((([]:List TernPeer)++(out.take k.toNat))++[(⟨(F30 (F31 ((ofL lines w6_).getD i40.toNat default) 1)),(F32 (F31 ((ofL lines w6_).getD i40.toNat default) 2)),(F32 (F31 ((ofL lines w6_).getD i40.toNat default) 3))⟩:TernPeer)])++(out.drop k.toNat)).length*24≤140737488355328) (ai (iok (i40+1) (by first | omega | (simp only [lens,ib] at*<;> omega))) (bk14_0 lines i0 m0 (((([]:List TernPeer)++(out.take k.toNat))++[(⟨(F30 (F31 ((ofL lines w6_).getD i40.toNat default) 1)),(F32 (F31 ((ofL lines w6_).getD i40.toNat default) 2)),(F32 (F31 ((ofL lines w6_).getD i40.toNat default) 3))⟩:TernPeer)])++(out.drop k.toNat)) (i40+1) hl0 (Qe hI0 (condT h3 (finD hJ2_8 rfl))) (by refine ⟨?_,?_,?_⟩ <;> first | omega | (simp only [lens,ib] at*<;> omega) | (simp only [lens] at *; omega))))))))))))) j hj.1 hj.2))))))))))) (fun h3 _=>have hD0_9:Ubm lines=Lp.done (out,i40):=Qk hI0 (condF h3 rfl); fi14 lines out (finD hD0_9 rfl))) (i0.1-1) i0.2.1 i0.2.2 (un14_0 lines i0 hi0))))) (by kernel_rfl)
theorem kc13 (lines:List ByteArray) {K_:Prop} (p0_:lines.length≤1048576) (p1_:∀ k:Nat,(lines.getD k default).size≤1048576) (k_:K_):(lines.length≤1048576∧(∀ k:Nat,(lines.getD k default).size≤1048576))∧(Imp (.l 1 eStr lines) (.l 1 eStr lines))∧K_:=⟨⟨p0_,p1_⟩,Imp.refl _,k_⟩
abbrev kh13 (lines:List ByteArray):Hint true Tryz.prog:=.call 13 (S13 lines) (ok13 lines) none
theorem kc14 (lines:List ByteArray) {K_:Prop} (p0_:lines.length≤16) (p1_:∀ k:Nat,(lines.getD k default).size≤1048576) (k_:K_):(lines.length≤16∧(∀ k:Nat,(lines.getD k default).size≤1048576))∧(Imp (.l 1 eStr lines) (.l 1 eStr lines))∧K_:=⟨⟨p0_,p1_⟩,Imp.refl _,k_⟩
abbrev kh14 (lines:List ByteArray):Hint true Tryz.prog:=.call 14 (S14 lines) (ok14 lines) none
def F5 (lines:List ByteArray):List TernPeer :=
 bif ((F13 lines) != 0) then ([]:List TernPeer) else (F14 lines)
theorem fi5 (lines:List ByteArray) (r:List TernPeer) (hF:r=(F5 lines)):(Imp (.l 3 Qc r) (.l 3 Qc (F5 lines)))∧True:=by cases hF; exact ⟨Imp.refl _,trivial⟩
def S5 (lines:List ByteArray):Spec:=⟨[.r (.c (.l 1 eStr lines))],.ow (.l 3 Qc (F5 lines)),lines.length≤1048576∧(∀ k:Nat,(lines.getD k default).size≤1048576)⟩
theorem ok5 (lines:List ByteArray):(S5 lines).ok Tryz.prog 5 :=
 Qn mixed (fn:=Tryz.f5) (ct:=.seqk [(0,0)] .no (.seq (.seq (.reg [(1,kh13 lines)]) (.cond (.seq (.reg [(0,.dat (.l 3 Qc ([]:List TernPeer)))]) .no) .no)) (.seq (.reg [(1,kh14 lines)]) .no))) Tryz.func5 (fun (hp:lines.length≤1048576∧(∀ k:Nat,(lines.getD k default).size≤1048576))=>have hpre0:=hp.1; have hpre1:=hp.2; kn lines fun _=>kc13 lines (by omega) (by first | assumption | exact hpre1 _ | exact fun k _=>hpre1 k | (intros; exact trivial) | (intros; exact Nat.zero_le _)) (ifn (F13 lines) 0 (fun h1 _=>ai (bokr 3 Qc ([]:List TernPeer) fun _=>rfl) (fi5 lines ([]:List TernPeer) (condT h1 rfl))) (fun h1 _=>kc14 lines (by first | assumption | exact Np lines (by omega)) (by first | assumption | exact Np lines (by omega)) (fi5 lines (F14 lines) (condF h1 rfl))))) (by kernel_rfl)
theorem Qtd (lines:List ByteArray):Qff lines=.done ((Qy lines (⟨#[112,101,101,114]⟩:ByteArray)).map Jm):=by
 unfold Qff
 have:=Ye (Qy lines (⟨#[112,101,101,114]⟩:ByteArray)) (fun (s:List TernPeer) w=>s++[Jm w]) (fun s i=>(s,i)) (Rn lines) (fun i s hi=>by
  simp only [Rn,ltD hi,cond_true,nn]; rfl) (fun s=>by simp only [Rn,geD,cond_false]) Lp.ret (fun (out1,v11)=>(.done out1:Lp (List TernPeer) (List TernPeer))) []
 refine this.trans ?_
 rw [Zt,List.nil_append]
theorem Qel (lines:List ByteArray):F7 lines=We (fun (x0:TernPeer) (x1:TernPeer)=>F19 x0 x1) ((Qy lines (⟨#[112,101,101,114]⟩:ByteArray)).map Jm):=by
 unfold F7
 rw [Qtd]; rfl
def Rg (c:l52Cut):TernPeer:=⟨F30 (F31 c 1),F32 (F31 c 2),F32 (F31 c 3)⟩
theorem Ucr (w:List ByteArray):Rg ⟨w⟩=Jm w:=by
 unfold Rg Jm
 rw [at1,at2,at3,Gs,Js,Js]
def Ps (a b:TernPeer):Bool:=decide (a.Addr<b.Addr)
theorem Qst (lines:List ByteArray):F14 lines=(ofL lines (⟨#[112,101,101,114]⟩:ByteArray)).foldl (fun out c=>insL Ps (Rg c) out) []:=by
 unfold F14
 have:=Ye (ofL lines (⟨#[112,101,101,114]⟩:ByteArray)) (fun (s:List TernPeer) c=>insL Ps (Rg c) s) (fun s i=>(s,i)) (Bq lines) (fun i s hi=>by
  simp only [Bq,ltD hi,cond_true]
  have hj:Nu lines s (i:Int)=.done ((posL Ps (Rg ((ofL lines (⟨#[112,101,101,114]⟩:ByteArray)).getD i default)) s:Nat):Int):=by
   unfold Nu
   rw [Qxu Ps (Rg ((ofL lines (⟨#[112,101,101,114]⟩:ByteArray)).getD i default)) s (La lines s (i:Int)) (fun k=>by
    simp only [La,nn]; rfl)]
   rfl
  rw [hj]
  simp only [Lp.fin,nn,List.nil_append]
  rw [← Qpp]; rfl) (fun s=>by simp only [Bq,geD,cond_false]) (fun r=>r) (fun (out,i40)=>out) []
 exact this
theorem Qbm (lines:List ByteArray):F7 lines=F5 lines:=by
 rw [Qel]
 have hs:=El (Qzt lines)
 have hb:∀ x∈(Qy lines (⟨#[112,101,101,114]⟩:ByteArray)).map Jm,-1≤x.Addr∧x.Addr≤65535:=fun x hx=>by obtain ⟨w,_,rfl⟩:=List.mem_map.1 hx; exact Qpd w
 rw [← Ucy hs (less:=Ps) (fun a ha b hbb=>by rw [Vf a b (hb a ha) (hb b hbb)]; exact decide_eq_decide.2 (by omega)),List.foldl_map]
 unfold F5 Qy
 rw [← Hw]
 cases h:(F51 lines==0) with
 | true =>
  have h0:=eq_of_beq h
  rw [h0,Qst,Ugk lines (Rj lines h0),List.foldl_map]
  have e:(fun (out:List TernPeer) (w:List ByteArray)=>insL Ps (Rg ⟨w⟩) out)=fun out w=>insL Ps (Jm w) out:=by funext out w; rw [Ucr]
  show _=List.foldl (fun (out:List TernPeer) (w:List ByteArray)=>insL Ps (Rg ⟨w⟩) out) [] _
  rw [e]; rfl
 | false =>
  rw [show (F51 lines != 0)=true by simp only [bne,h,Bool.not_false]]; rfl
theorem Qub (lines:List ByteArray):(F7 lines).length≤16:=by
 rw [Qel,Ks,List.length_map]; exact Qfi _ _
theorem kc21 (k:Int) {K_:Prop} (p0_:k≤1000000000) (k_:K_):(k≤1000000000)∧(Imp (.v (vI k)) (.v (vI k)))∧K_:=⟨p0_,Imp.refl _,k_⟩
abbrev kh21 (k:Int):Hint true Tryz.prog:=.call 21 (S21 k) (ok21 k) none
def Kt (a:List ByteArray) (k:Int):(Int×Int×List ByteArray)→Lp (Int×Int×List ByteArray) (Int×List ByteArray):=fun (k400,i40,xs) =>
 bif (decide (i40<(xs.length:Int))) then (.next ((k400+1),(i40+1),(xs.set (i40).toNat (F21 k400)))) else (.done (k400,i40,xs))
def F10 (a:List ByteArray) (k:Int):Int×List ByteArray :=
 (runL (Kt a k) ((Int.toNat ((a.length:Int)-0))+1) (k,0,a)).fin (fun r=>r) (fun (k400,i40,xs)=>(k400,xs))
abbrev Qde (a:List ByteArray) (k:Int):Nat×(Int×Int×List ByteArray):=(((Int.toNat ((a.length:Int)-0))+1),(k,0,a))
abbrev Qoc (a:List ByteArray) (m39:Nat) (k400:Int) (i40:Int) (xs:List ByteArray):Prop:=Int.toNat ((xs.length:Int)-i40)<m39∧(0:Int)≤k400∧k400+((xs.length:Int)-i40)≤1000000000∧(0:Int)≤i40∧xs.length=a.length
abbrev Qxn (a:List ByteArray) (k:Int):Lp (Int×Int×List ByteArray) (Int×List ByteArray):=LpX (Kt a k) (Qde a k)
abbrev Eo (a:List ByteArray) (k:Int) (i:Nat×(Int×Int×List ByteArray)):Prop:=LpJ (Kt a k) (Qde a k) i (Qoc a i.1 i.2.1 i.2.2.1 i.2.2.2)
abbrev Qvp (a:List ByteArray) (k:Int) (i:Nat×(Int×Int×List ByteArray)) (m39:Nat) (k400:Int) (i40:Int) (xs:List ByteArray):Prop:=LpH (Kt a k) (Qde a k) i m39 (k400,i40,xs) (Qoc a (m39+1) k400 i40 xs)
abbrev Qxd (k400:Int) (i40:Int) (xs:List ByteArray) (k400_:Int) (i40_:Int) (xs_:List ByteArray) (K39:Prop):Prop:=((.int .i64 k400:Value)=.int .i64 k400_)∧((.int .i64 i40:Value)=.int .i64 i40_)∧(Imp (.l 1 eStr xs) (.l 1 eStr xs_))∧K39
theorem un10_0 (a:List ByteArray) (k:Int) (i:Nat×(Int×Int×List ByteArray)) (h:Eo a k i):Qvp a k i (i.1-1) i.2.1 i.2.2.1 i.2.2.2:=⟨hd1 h.1 h.2.1,hd3 h.2.1,hd2 h.2.1,h.2.2⟩
theorem bk10_0 (a:List ByteArray) (k:Int) (i:Nat×(Int×Int×List ByteArray)) (m39:Nat) (k400:Int) (i40:Int) (xs:List ByteArray) (hl:m39<i.1) (e:runL (Kt a k) m39 (k400,i40,xs)=Qxn a k) (h:Qoc a m39 k400 i40 xs):∃ j:Nat×(Int×Int×List ByteArray),Qxd k400 i40 xs j.2.1 j.2.2.1 j.2.2.2 (Eo a k j∧j.1<i.1):=⟨(m39,(k400,i40,xs)),rfl,rfl,Imp.refl _,⟨e,h⟩,hl⟩
theorem en10_0 (a:List ByteArray) (k:Int) (h:(0:Int)≤k∧k+((a.length:Int)-0)≤1000000000∧(0:Int)≤0∧a.length=a.length):Qxd k 0 a k 0 a (Eo a k (Qde a k)):=⟨rfl,rfl,Imp.refl _,rfl,Nat.lt_succ_self _,h⟩
theorem fi10 (a:List ByteArray) (k:Int) (r:Int×List ByteArray) (hF:r=(F10 a k)):((.int .i64 r.1:Value)=.int .i64 (F10 a k).1)∧(Imp (.l 1 eStr r.2) (.l 1 eStr (F10 a k).2))∧True:=by cases hF; exact ⟨rfl,Imp.refl _,trivial⟩
def S10 (a:List ByteArray) (k:Int):Spec:=⟨[.ow (.l 1 eStr a) (some (.l 1 eStr (F10 a k).2)),.r (.c (.v (vI k)))],.v (vI (F10 a k).1),0≤k∧k+(a.length:Int)≤1000000000⟩
theorem ok10 (a:List ByteArray) (k:Int):(S10 a k).ok Tryz.prog 10 :=
 Qn mixed (fn:=Tryz.f10) (ct:=.seqk [(0,0)] .no (.seq (.seqk [(0,0)] .no (.blk (.loop (ι:=Nat×(Int×Int×List ByteArray)) (fun i=>(fun (k400:Int) (i40:Int) (xs:List ByteArray)=>(⟨[(0,some (.h 0 0)),(1,some (.v (vI k400))),(5,some (.v (vI i40)))],[(0,some (.own 0 (.l 1 eStr xs)))],1⟩:St)) i.2.1 i.2.2.1 i.2.2.2) (Eo a k) (fun i=>i.1) (Qde a k) (fun i=>(fun (k400:Int) (i40:Int) (xs:List ByteArray)=>(.seq (.seq .no (.cond .no .no)) (.seq (.blk (.seq (.reg [(3,kh21 k400),(5,.dat (.l 1 eStr (xs.set (i40).toNat (F21 k400))))]) (.reg [(1,.bnd)]))) (.reg [(1,.bnd)])))) i.2.1 i.2.2.1 i.2.2.2)))) (.seq .no .no))) Tryz.func10 (fun (hp:0≤k∧k+(a.length:Int)≤1000000000)=>have hpre0:=hp.1; have hpre1:=hp.2; kn a fun _=>kn a fun _=>ai (en10_0 a k (by refine ⟨?_,?_,?_,?_⟩ <;> first | omega | (simp only [lens,ib] at*<;> omega))) (fun (i0:Nat×(Int×Int×List ByteArray)) (hi0:Eo a k i0)=>(fun (m0:Nat) (k400:Int) (i40:Int) (xs:List ByteArray) (hh0:Qvp a k i0 m0 k400 i40 xs)=>have hI0:=hh0.1; have hl0:=hh0.2.1; have _:=hh0.2.2.1; have _:=hh0.2.2.2; ifd (i40<(xs.length:Int)) (fun h2 _=>kc21 k400 (by first | omega | (simp only [lens,ib] at*<;> omega)) (ai (by first | omega | (simp only [lens,ib] at*<;> omega):ib i40 xs) (ai (setr 1 eStr xs (i40).toNat (F21 k400)) (ai (iok (k400+1) (by first | omega | (simp only [lens,ib] at*<;> omega))) (ai (iok (i40+1) (by first | omega | (simp only [lens,ib] at*<;> omega))) (bk10_0 a k i0 m0 (k400+1) (i40+1) (xs.set (i40).toNat (F21 k400)) hl0 (Qe hI0 (condT h2 rfl)) (by refine ⟨?_,?_,?_,?_,?_⟩ <;> first | omega | (simp only [lens,ib] at*<;> omega)))))))) (fun h2 _=>have hD0_3:Qxn a k=Lp.done (k400,i40,xs):=Qk hI0 (condF h2 rfl); fi10 a k (k400,xs) (finD hD0_3 rfl))) (i0.1-1) i0.2.1 i0.2.2.1 i0.2.2.2 (un10_0 a k i0 hi0))) (by kernel_rfl)
theorem g10_0 (a:List ByteArray) (k:Int):(F10 a k).2.length=a.length:=by
 have h:=Yj (step:=Kt a k) (fun i (s:Int×List ByteArray)=>(s.1,(i:Int),s.2)) a.length (fun _ s=>s.2.length=a.length) (fun _=>False) (fun i s hi hs=>.inl ⟨(s.1+1,s.2.set i (F21 s.1)),by simp only [Kt,hs,decide_eq_true (show (i:Int)<(a.length:Int) by omega),cond_true,Int.toNat_natCast]; rfl,by simpa using hs⟩) (fun s hs=>by simp only [Kt,hs,decide_eq_false (show ¬ (a.length:Int)<(a.length:Int) by omega),cond_false]) a.length 0 (k,a) (by omega) rfl (Int.toNat ((a.length:Int)-0)+1) (by omega)
 show ((runL (Kt a k) (Int.toNat ((a.length:Int)-0)+1) (k,0,a)).fin (fun r=>r) (fun (k400,i40,xs)=>(k400,xs))).2.length=a.length
 rcases h with ⟨s,e,hs⟩ | ⟨r,_,hr⟩
 ·rw [show (k,(0:Int),a)=((k,a).1,((0:Nat):Int),(k,a).2) from rfl,e]; exact hs
 ·exact hr.elim
theorem Qjf (a:List ByteArray) (k:Int):(F10 a k).1=k+(a.length:Int):=by
 have h:=Yj (step:=Kt a k) (fun i (s:Int×List ByteArray)=>(s.1,(i:Int),s.2)) a.length (fun i s=>s.2.length=a.length∧s.1=k+(i:Int)) (fun _=>False) (fun i s hi hs=>.inl ⟨(s.1+1,s.2.set i (F21 s.1)),by simp only [Kt,hs.1,decide_eq_true (show (i:Int)<(a.length:Int) by omega),cond_true,Int.toNat_natCast]; rfl,by
   refine ⟨by simpa using hs.1,?_⟩
   have:=hs.2
   show s.1+1=k+((i+1:Nat):Int)
   omega⟩) (fun s hs=>by simp only [Kt,hs.1,decide_eq_false (show ¬ (a.length:Int)<(a.length:Int) by omega),cond_false]) a.length 0 (k,a) (by omega) ⟨rfl,by simp⟩ (Int.toNat ((a.length:Int)-0)+1) (by omega)
 show ((runL (Kt a k) (Int.toNat ((a.length:Int)-0)+1) (k,0,a)).fin (fun r=>r) (fun (k400,i40,xs)=>(k400,xs))).1=k+(a.length:Int)
 rcases h with ⟨s,e,hs⟩ | ⟨r,_,hr⟩
 ·rw [show (k,(0:Int),a)=((k,a).1,((0:Nat):Int),(k,a).2) from rfl,e]; exact hs.2
 ·exact hr.elim
theorem Qjb {α:Type} (L:α→Nat) (c:Nat) (h:∀ x,L x=c):∀ xs:List α,sumL L xs=xs.length*c
 | []=>(Nat.zero_mul c).symm
 | x :: xs=>by rw [Vj,Qjb L c h xs,List.length_cons,Nat.add_one_mul,h x,Nat.add_comm]
end Go.Proofs.YtahakkfbpnpimabGreatDoor
