/- A part of the proof of FnHelloNext. Texts put together: PH00, VH0, PH0, VH1, PH1, VH2, PH2, VHN, VHW, PHW, VHS0, PHS0, VHS, VHT0, PHT0. -/
import Derived.Test.YtpecbmjjkfekbaaGreatRows
import Derived.Test.YtpecbmjjkfekbaaGreatXC37B
namespace Go.Proofs.YtpecbmjjkfekbaaGreat
open Go.RowKit
set_option maxRecDepth 100000
set_option linter.unusedVariables false
set_option linter.unusedSimpArgs false
def szP (n:Int):Int:=2 ^ (16-n).toNat
theorem szP_pos (n:Int):1<=szP n:=by
 unfold szP
 have:=Int.pow_pos (n:=2) (m:=(16-n).toNat) uu5
 omega
theorem szP_pos' (p:NetPrefix):1<=szP p.Len:=szP_pos _
theorem as90 (n:Int) (h0:0<=n) (h1:n<=16):F90 n=szP n:=by
 have hd:∀ k,k<16->IntKind.i64.wrap ((2:Int) ^ k*2)=2 ^ (k+1):=by decide
 unfold F90
 have hr:=runL_rule (step:=F90_s0 n) (fun (k:Nat) (_:Unit)=>((2:Int) ^ k,n+(k:Int))) (16-n).toNat (fun _ _=>True) (fun _=>False)
  (fun k _ hk _=>.inl ⟨(),by
   simp only [F90_s0]
   rw [Qs uu0,Qd,hd k uu0]
   have:n+(k:Int)+1=n+((k+1:Nat):Int):=by omega
   rw [this],trivial⟩)
  (fun _ _=>by
   simp only [F90_s0]
   rw [Qt uu0,Qi])
  (16-n).toNat 0 () uu0 trivial ((16-n).toNat+1) uu0
 rcases hr with ⟨_,hr,_⟩ | ⟨_,_,hr⟩
 ·have hr':runL (F90_s0 n) ((16-n).toNat+1) (1,n+((0:Nat):Int))=_:=hr
  rw [Int.natCast_zero,Int.add_zero] at hr'
  rw [hr']; rfl
 ·exact hr.elim
theorem as85 (p:NetPrefix) (h0:0<=p.Len) (h1:p.Len<=16):F85 p=szP p.Len:=by
 have hd:∀ q,q<17->IntKind.i64.wrap (1*(2:Int) ^ (min q IntKind.i64.bits))=2 ^ q:=by decide
 unfold F85 szP
 exact hd _ uu0
theorem half_eq (a b:Int) (h0:0<=a) (h1:a<b) (h2:b<=1000000000):IntKind.i64.wrap ((IntKind.u64.wrap (a+b)).fdiv (2 ^ (min (1:Int).toNat IntKind.u64.bits)))=(a+b) / 2:=by
 have e1:IntKind.u64.wrap (a+b)=a+b:=IntWalk.u64_in _ uu0
 have e2:(2:Int) ^ (min (1:Int).toNat IntKind.u64.bits)=2:=by decide
 rw [e1,e2,Int.fdiv_eq_ediv_of_nonneg _ uu5,wrap_of uu0 uu0]
theorem half_in (a b:Int) (h0:0<=a) (h1:a<b) (h2:b<=1000000000):a<=IntKind.i64.wrap ((IntKind.u64.wrap (a+b)).fdiv (2 ^ (min (1:Int).toNat IntKind.u64.bits)))/\IntKind.i64.wrap ((IntKind.u64.wrap (a+b)).fdiv (2 ^ (min (1:Int).toNat IntKind.u64.bits)))<b:=by
 rw [half_eq a b h0 h1 h2]; omega
def T90 (R:Int) (n:Int):Spec:=⟨(S90 R n).args,(S90 R n).res,0<=n/\n<=16⟩
theorem oa90 (n:Int):(T90 (szP n) n).ok Tryz.prog 90:=by
 intro hp; have h:=ok90 n hp; rw [as90 n hp.1 hp.2] at h; exact h
def T85 (R:Int) (p:NetPrefix):Spec:=⟨(S85 R p).args,(S85 R p).res,0<=p.Len/\p.Len<=16⟩
theorem oa85 (p:NetPrefix):(T85 (szP p.Len) p).ok Tryz.prog 85:=by
 intro hp; have h:=ok85 p hp; rw [as85 p hp.1 hp.2] at h; exact h
def F28 (n:Int) (low:Int) (high:Int):Bool :=
 (bif decide (n>=low) then decide (n<=high) else false)
def S28 (R:Bool) (n:Int) (low:Int) (high:Int):Spec:=⟨[.r (.c (.v (vI n))),.r (.c (.v (vI low))),.r (.c (.v (vI high)))],.v (.bool R),True⟩
theorem ok28 (n:Int) (low:Int) (high:Int):(S28 (F28 n low high) n low high).ok Tryz.prog 28 :=
 fnG_ok mixed (fn:=Tryz.f28) (ct:=.seq .no (.seq .no .no)) Tryz.func28 (fun (_:True)=>fiB (bif decide (n>=low) then decide (n<=high) else false) (F28 n low high) rfl) uu3
theorem as28 (n:Int) (low:Int) (high:Int):F28 n low high=(decide (low<=n/\n<=high)):=by
 simp only [F28,Bool.decide_and,bandd,geleD]
theorem oa28 (n:Int) (low:Int) (high:Int):(S28 (decide (low<=n/\n<=high)) n low high).ok Tryz.prog 28:=by
 intro hp; have h:=ok28 n low high hp; rw [as28 n low high] at h; exact h
structure Ue where
 Addr:Int
 Len:Int
 Cost:Int
 Label:Int
 deriving DecidableEq,Inhabited
def eHelloEntry (x:Ue):List Dat:=[.v (vI x.Addr),.v (vI x.Len),.v (vI x.Cost),.v (vI x.Label)]
theorem kc28a (n:Int) (low:Int) (high:Int) {K_:Prop} (k_:K_):(True)/\(Imp (.v (vI n)) (.v (vI n)))/\(Imp (.v (vI low)) (.v (vI low)))/\(Imp (.v (vI high)) (.v (vI high)))/\K_:=⟨trivial,Imp.refl _,Imp.refl _,Imp.refl _,k_⟩
abbrev kh28a (n:Int) (low:Int) (high:Int):Hint true Tryz.prog:=.call 28 (S28 (decide (low<=n/\n<=high)) n low high) (oa28 n low high) none
theorem kg28a {K_:Prop} (c_ b_:Bool) (n:Int) (low:Int) (high:Int) (k_:K_):(c_=b_->True)/\(c_=b_->Imp (.v (vI n)) (.v (vI n)))/\(c_=b_->Imp (.v (vI low)) (.v (vI low)))/\(c_=b_->Imp (.v (vI high)) (.v (vI high)))/\K_:=⟨fun _=>trivial,fun _=>Imp.refl _,fun _=>Imp.refl _,fun _=>Imp.refl _,k_⟩
theorem kg90a {K_:Prop} (c_ b_:Bool) (n:Int) (p_:c_=b_->0<=n/\n<=16) (k_:(1<=(szP n))->K_):(c_=b_->0<=n/\n<=16)/\(c_=b_->Imp (.v (vI n)) (.v (vI n)))/\K_:=⟨p_,fun _=>Imp.refl _,k_ (szP_pos n)⟩
abbrev kh90a (n:Int):Hint true Tryz.prog:=.call 90 (T90 (szP n) n) (oa90 n) none
def F61 (e1:Ue):Bool :=
 (bif (bif (decide (0<=e1.Len/\e1.Len<=16)) then (decide (0<=e1.Addr/\e1.Addr<=65535)) else false) then ((e1.Addr.tmod (szP e1.Len))==0) else false)
def S61 (e1:Ue):Spec:=⟨[.r (.g (eHelloEntry e1))],.v (.bool (F61 e1)),True⟩
theorem ok61 (e1:Ue):(S61 e1).ok Tryz.prog 61 :=
 fnG_ok mixed (fn:=Tryz.f61) (ct:=.seq .no (.seq (.reg [(2,kh28a e1.Len 0 16),(6,kh28a e1.Addr 0 65535),(13,kh90a e1.Len)]) .no)) Tryz.func61 (fun (_:True)=>kc28a e1.Len 0 16 (kg28a (decide (0<=e1.Len/\e1.Len<=16)) true e1.Addr 0 65535 (kg90a (bif (decide (0<=e1.Len/\e1.Len<=16)) then (decide (0<=e1.Addr/\e1.Addr<=65535)) else false) true e1.Len (fun k3=>have _:=Qb (andT1 k3); have _:=Qb (andT2 k3); ⟨uu0,uu0⟩) (fun gv2=>ai (fun k4:(bif (decide (0<=e1.Len/\e1.Len<=16)) then (decide (0<=e1.Addr/\e1.Addr<=65535)) else false)=true=>have _:=Qb (andT1 k4); have _:=Qb (andT2 k4); (uu0:¬ (szP e1.Len)=0)) (fiB (bif (bif (decide (0<=e1.Len/\e1.Len<=16)) then (decide (0<=e1.Addr/\e1.Addr<=65535)) else false) then ((e1.Addr.tmod (szP e1.Len))==0) else false) (F61 e1) rfl))))) uu3
theorem kc61 (e1:Ue) {K_:Prop} (k_:K_):(True)/\(Imps (eHelloEntry e1) (eHelloEntry e1))/\K_:=⟨trivial,Imps.refl _,k_⟩
abbrev kh61 (e1:Ue):Hint true Tryz.prog:=.call 61 (S61 e1) (ok61 e1) none
def F59 (e1:Ue):Bool :=
 (bif (bif (F61 e1) then (decide (1<=e1.Cost/\e1.Cost<=255)) else false) then (decide (0<=e1.Label/\e1.Label<=1000)) else false)
def S59 (e1:Ue):Spec:=⟨[.r (.g (eHelloEntry e1))],.v (.bool (F59 e1)),True⟩
theorem ok59 (e1:Ue):(S59 e1).ok Tryz.prog 59 :=
 fnG_ok mixed (fn:=Tryz.f59) (ct:=.seq .no (.seq (.reg [(1,kh61 e1),(5,kh28a e1.Cost 1 255),(10,kh28a e1.Label 0 1000)]) .no)) Tryz.func59 (fun (_:True)=>kc61 e1 (kg28a (F61 e1) true e1.Cost 1 255 (kg28a (bif (F61 e1) then (decide (1<=e1.Cost/\e1.Cost<=255)) else false) true e1.Label 0 1000 (fiB (bif (bif (F61 e1) then (decide (1<=e1.Cost/\e1.Cost<=255)) else false) then (decide (0<=e1.Label/\e1.Label<=1000)) else false) (F59 e1) rfl)))) uu3
def F60 (a:Ue) (b:Ue):Bool :=
 (bif decide (a.Addr<b.Addr) then true else (bif (a.Addr==b.Addr) then decide (a.Len<b.Len) else false))
def S60 (a:Ue) (b:Ue):Spec:=⟨[.r (.g (eHelloEntry a)),.r (.g (eHelloEntry b))],.v (.bool (F60 a b)),True⟩
theorem ok60 (a:Ue) (b:Ue):(S60 a b).ok Tryz.prog 60 :=
 fnG_ok mixed (fn:=Tryz.f60) (ct:=.seq .no (.seq .no .no)) Tryz.func60 (fun (_:True)=>fiB (bif decide (a.Addr<b.Addr) then true else (bif (a.Addr==b.Addr) then decide (a.Len<b.Len) else false)) (F60 a b) rfl) uu3
theorem kc59 (e1:Ue) {K_:Prop} (k_:K_):(True)/\(Imps (eHelloEntry e1) (eHelloEntry e1))/\K_:=⟨trivial,Imps.refl _,k_⟩
abbrev kh59 (e1:Ue):Hint true Tryz.prog:=.call 59 (S59 e1) (ok59 e1) none
abbrev kh60 (a:Ue) (b:Ue):Hint true Tryz.prog:=.call 60 (S60 a b) (ok60 a b) none
def F30_s0 (table:List Ue):Int->Lp Int Bool:=fun i40 =>
 bif (decide (i40<(table.length:Int))) then (bif (bif (!(F59 (table.getD i40.toNat default))) then true else (bif decide (i40>0) then (!(F60 (table.getD (i40-1).toNat default) (table.getD i40.toNat default))) else false)) then (.ret false) else (.next (i40+1))) else (.done i40)
def F30 (table:List Ue):Bool :=
 bif (decide ((table.length:Int)>8)) then false else ((runL (F30_s0 table) (((table.length:Int)-0).toNat+1) 0).fin (fun r=>r) (fun i40=>true))
abbrev lN30_0 (table:List Ue):Nat×Int:=((((table.length:Int)-0).toNat+1),0)
abbrev lI30_0 (table:List Ue) (m39:Nat) (i40:Int):Prop:=Int.toNat ((table.length:Int)-i40)<m39/\(0:Int)<=i40
abbrev lX30_0 (table:List Ue):Lp Int Bool:=LpX (F30_s0 table) (lN30_0 table)
abbrev lJ30_0 (table:List Ue) (i:Nat×Int):Prop:=LpJ (F30_s0 table) (lN30_0 table) i (lI30_0 table i.1 i.2)
abbrev lH30_0 (table:List Ue) (i:Nat×Int) (m39:Nat) (i40:Int):Prop:=LpH (F30_s0 table) (lN30_0 table) i m39 i40 (lI30_0 table (m39+1) i40)
abbrev lE30_0 (table:List Ue) (i40:Int) (i40_:Int) (K39:Prop):Prop:=((.int .i64 i40:Value)=.int .i64 i40_)/\(Im (.l 4 eHelloEntry table))/\K39
theorem un30_0 (table:List Ue) (i:Nat×Int) (h:lJ30_0 table i):lH30_0 table i (i.1-1) i.2:=⟨hd1 h.1 h.2.1,hd3 h.2.1,hd2 h.2.1,h.2.2⟩
theorem bk30_0 (table:List Ue) (i:Nat×Int) (m39:Nat) (i40:Int) (hl:m39<i.1) (e:runL (F30_s0 table) m39 i40=lX30_0 table) (h:lI30_0 table m39 i40):∃ j:Nat×Int,lE30_0 table i40 j.2 (lJ30_0 table j/\j.1<i.1):=⟨(m39,i40),rfl,Imp.refl _,⟨e,h⟩,hl⟩
theorem en30_0 (table:List Ue) (h:(0:Int)<=0):lE30_0 table 0 0 (lJ30_0 table (lN30_0 table)):=⟨rfl,Imp.refl _,rfl,Qq _,h⟩
def S30 (table:List Ue):Spec:=⟨[.r (.c (.l 4 eHelloEntry table))],.v (.bool (F30 table)),True⟩
theorem ok30 (table:List Ue):(S30 table).ok Tryz.prog 30 :=
 fnG_ok mixed (fn:=Tryz.f30) (ct:=.seqk [(0,0)] .no (.seq (.seq .no (.cond (.seq .no .no) .no)) (.seq (.seqk [(0,0)] .no (.blk (.loop (ι:=Nat×Int) (fun i=>(fun (i40:Int)=>(⟨[(0,some (.h 0 0)),(3,some (.v (vI i40)))],[(0,some (.shr none (.l 4 eHelloEntry table)))],1⟩:St)) i.2) (lJ30_0 table) (fun i=>i.1) (lN30_0 table) (fun i=>(fun (i40:Int)=>(.seq (.seq .no (.cond .no .no)) (.seq (.blk (.seq (.reg [(4,kh59 (table.getD i40.toNat default)),(12,.bnd),(19,kh60 (table.getD (i40-1).toNat default) (table.getD i40.toNat default))]) (.cond (.seq .no .no) .no))) (.reg [(1,.bnd)])))) i.2)))) (.seq .no .no)))) Tryz.func30 (fun (_:True)=>kn table fun _=>ifd ((table.length:Int)>8) (fun h1 _=>fiB false (F30 table) (condT h1 rfl)) (fun h1 _=>kn table fun _=>ai (en30_0 table uu0) (fun (i0:Nat×Int) (hi0:lJ30_0 table i0)=>(fun (m0:Nat) (i40:Int) (hh0:lH30_0 table i0 m0 i40)=>have hI0:=hh0.1; have hl0:=hh0.2.1; have _:=hh0.2.2.1; have _:=hh0.2.2.2; ifd (i40<(table.length:Int)) (fun h3 _=>ai (uu0:ib i40 table) (kc59 (table.getD i40.toNat default) (ai (fun k5:(decide (i40>0))=true=>have _:=Qb k5; (fun k4:(!(F59 (table.getD i40.toNat default)))=false=>iok (i40-1) uu0)) (ai (fun k7:(decide (i40>0))=true=>have _:=Qb k7; (fun k6:(!(F59 (table.getD i40.toNat default)))=false=>(uu0:ib (i40-1) table))) (ai (fun k9:(decide (i40>0))=true=>have _:=Qb k9; (fun k8:(!(F59 (table.getD i40.toNat default)))=false=>(uu0:ib i40 table))) (ai (fun k11:(decide (i40>0))=true=>have _:=Qb k11; (fun k10:(!(F59 (table.getD i40.toNat default)))=false=>trivial)) (ai (fun k13:(decide (i40>0))=true=>have _:=Qb k13; (fun k12:(!(F59 (table.getD i40.toNat default)))=false=>(Imps.refl (eHelloEntry (table.getD (i40-1).toNat default))))) (ai (fun k15:(decide (i40>0))=true=>have _:=Qb k15; (fun k14:(!(F59 (table.getD i40.toNat default)))=false=>(Imps.refl (eHelloEntry (table.getD i40.toNat default))))) (ifb (bif (!(F59 (table.getD i40.toNat default))) then true else (bif decide (i40>0) then (!(F60 (table.getD (i40-1).toNat default) (table.getD i40.toNat default))) else false)) (fun h16=>fiB false (F30 table) (condF h1 (finR (runL_ret hI0 (condT h3 (condT h16 rfl))) rfl))) (fun h16=>ai (iok (i40+1) uu0) (bk30_0 table i0 m0 (i40+1) hl0 (runL_next hI0 (condT h3 (condF h16 rfl))) uu7))))))))))) (fun h3 _=>have hD0_17:lX30_0 table=Lp.done i40:=runL_done hI0 (condF h3 rfl); fiB true (F30 table) (condF h1 (finD hD0_17 rfl)))) (i0.1-1) i0.2 (un30_0 table i0 hi0)))) uu3
def F48 (e1:Ue):NetPrefix :=
 (⟨e1.Addr,e1.Len⟩:NetPrefix)
theorem fi48 (e1:Ue) (r:NetPrefix) (hF:r=(F48 e1)):((.int .i64 r.Addr:Value)=.int .i64 (F48 e1).Addr)/\((.int .i64 r.Len:Value)=.int .i64 (F48 e1).Len)/\True:=by cases hF; exact ⟨rfl,rfl,trivial⟩
def S48 (e1:Ue):Spec:=⟨[.r (.g (eHelloEntry e1))],.ag [.v (vI (F48 e1).Addr),.v (vI (F48 e1).Len)],True⟩
theorem ok48 (e1:Ue):(S48 e1).ok Tryz.prog 48 :=
 fnG_ok mixed (fn:=Tryz.f48) (ct:=.seq .no (.seq .no .no)) Tryz.func48 (fun (_:True)=>fi48 e1 (⟨e1.Addr,e1.Len⟩:NetPrefix) rfl) uu3
def F22 (n:Int) (low:Int) (high:Int):Bool :=
 (bif decide (low<=n) then decide (n<=high) else false)
def S22 (R:Bool) (n:Int) (low:Int) (high:Int):Spec:=⟨[.r (.c (.v (vI n))),.r (.c (.v (vI low))),.r (.c (.v (vI high)))],.v (.bool R),True⟩
theorem ok22 (n:Int) (low:Int) (high:Int):(S22 (F22 n low high) n low high).ok Tryz.prog 22 :=
 fnG_ok mixed (fn:=Tryz.f22) (ct:=.seq .no (.seq .no .no)) Tryz.func22 (fun (_:True)=>fiB (bif decide (low<=n) then decide (n<=high) else false) (F22 n low high) rfl) uu3
theorem as22 (n:Int) (low:Int) (high:Int):F22 n low high=(decide (low<=n/\n<=high)):=by
 simp only [F22,Bool.decide_and,bandd]
theorem oa22 (n:Int) (low:Int) (high:Int):(S22 (decide (low<=n/\n<=high)) n low high).ok Tryz.prog 22:=by
 intro hp; have h:=ok22 n low high hp; rw [as22 n low high] at h; exact h
theorem kc22a (n:Int) (low:Int) (high:Int) {K_:Prop} (k_:K_):(True)/\(Imp (.v (vI n)) (.v (vI n)))/\(Imp (.v (vI low)) (.v (vI low)))/\(Imp (.v (vI high)) (.v (vI high)))/\K_:=⟨trivial,Imp.refl _,Imp.refl _,Imp.refl _,k_⟩
abbrev kh22a (n:Int) (low:Int) (high:Int):Hint true Tryz.prog:=.call 22 (S22 (decide (low<=n/\n<=high)) n low high) (oa22 n low high) none
theorem kg22a {K_:Prop} (c_ b_:Bool) (n:Int) (low:Int) (high:Int) (k_:K_):(c_=b_->True)/\(c_=b_->Imp (.v (vI n)) (.v (vI n)))/\(c_=b_->Imp (.v (vI low)) (.v (vI low)))/\(c_=b_->Imp (.v (vI high)) (.v (vI high)))/\K_:=⟨fun _=>trivial,fun _=>Imp.refl _,fun _=>Imp.refl _,fun _=>Imp.refl _,k_⟩
theorem kg85a {K_:Prop} (c_ b_:Bool) (p:NetPrefix) (p_:c_=b_->0<=p.Len/\p.Len<=16) (k_:(1<=(szP p.Len))->K_):(c_=b_->0<=p.Len/\p.Len<=16)/\(c_=b_->Imps (eNetPrefix p) (eNetPrefix p))/\K_:=⟨p_,fun _=>Imps.refl _,k_ (szP_pos' p)⟩
abbrev kh85a (p:NetPrefix):Hint true Tryz.prog:=.call 85 (T85 (szP p.Len) p) (oa85 p) none
def F53 (p:NetPrefix):Bool :=
 (bif (bif (decide (0<=p.Len/\p.Len<=16)) then (decide (0<=p.Addr/\p.Addr<=65535)) else false) then ((p.Addr.tmod (szP p.Len))==0) else false)
def S53 (p:NetPrefix):Spec:=⟨[.r (.g (eNetPrefix p))],.v (.bool (F53 p)),True⟩
theorem ok53 (p:NetPrefix):(S53 p).ok Tryz.prog 53 :=
 fnG_ok mixed (fn:=Tryz.f53) (ct:=.seq .no (.seq (.reg [(2,kh22a p.Len 0 16),(6,kh22a p.Addr 0 65535),(12,kh85a p)]) .no)) Tryz.func53 (fun (_:True)=>kc22a p.Len 0 16 (kg22a (decide (0<=p.Len/\p.Len<=16)) true p.Addr 0 65535 (kg85a (bif (decide (0<=p.Len/\p.Len<=16)) then (decide (0<=p.Addr/\p.Addr<=65535)) else false) true p (fun k3=>have _:=Qb (andT1 k3); have _:=Qb (andT2 k3); ⟨uu0,uu0⟩) (fun gv2=>ai (fun k4:(bif (decide (0<=p.Len/\p.Len<=16)) then (decide (0<=p.Addr/\p.Addr<=65535)) else false)=true=>have _:=Qb (andT1 k4); have _:=Qb (andT2 k4); (uu0:¬ (szP p.Len)=0)) (fiB (bif (bif (decide (0<=p.Len/\p.Len<=16)) then (decide (0<=p.Addr/\p.Addr<=65535)) else false) then ((p.Addr.tmod (szP p.Len))==0) else false) (F53 p) rfl))))) uu3
theorem kc48 (e1:Ue) {K_:Prop} (k_:K_):(True)/\(Imps (eHelloEntry e1) (eHelloEntry e1))/\K_:=⟨trivial,Imps.refl _,k_⟩
abbrev kh48 (e1:Ue):Hint true Tryz.prog:=.call 48 (S48 e1) (ok48 e1) none
theorem kc53 (p:NetPrefix) {K_:Prop} (k_:K_):(True)/\(Imps (eNetPrefix p) (eNetPrefix p))/\K_:=⟨trivial,Imps.refl _,k_⟩
abbrev kh53 (p:NetPrefix):Hint true Tryz.prog:=.call 53 (S53 p) (ok53 p) none
def F52 (e1:Ue):Bool :=
 (bif (bif (F53 (F48 e1)) then (decide (1<=e1.Cost/\e1.Cost<=255)) else false) then (decide (0<=e1.Label/\e1.Label<=1000)) else false)
def S52 (e1:Ue):Spec:=⟨[.r (.g (eHelloEntry e1))],.v (.bool (F52 e1)),True⟩
theorem ok52 (e1:Ue):(S52 e1).ok Tryz.prog 52 :=
 fnG_ok mixed (fn:=Tryz.f52) (ct:=.seq .no (.seq (.reg [(1,kh48 e1),(2,kh53 (F48 e1)),(6,kh22a e1.Cost 1 255),(11,kh22a e1.Label 0 1000)]) .no)) Tryz.func52 (fun (_:True)=>kc48 e1 (kc53 (F48 e1) (kg22a (F53 (F48 e1)) true e1.Cost 1 255 (kg22a (bif (F53 (F48 e1)) then (decide (1<=e1.Cost/\e1.Cost<=255)) else false) true e1.Label 0 1000 (fiB (bif (bif (F53 (F48 e1)) then (decide (1<=e1.Cost/\e1.Cost<=255)) else false) then (decide (0<=e1.Label/\e1.Label<=1000)) else false) (F52 e1) rfl))))) uu3
def F54 (p:NetPrefix) (q:NetPrefix):Int :=
 bif (p.Addr != q.Addr) then (IntKind.i64.wrap (p.Addr-q.Addr)) else (IntKind.i64.wrap (p.Len-q.Len))
def S54 (p:NetPrefix) (q:NetPrefix):Spec:=⟨[.r (.g (eNetPrefix p)),.r (.g (eNetPrefix q))],.v (vI (F54 p q)),True⟩
theorem ok54 (p:NetPrefix) (q:NetPrefix):(S54 p q).ok Tryz.prog 54 :=
 fnG_ok mixed (fn:=Tryz.f54) (ct:=.seq .no (.seq (.seq .no (.cond (.seq .no .no) .no)) (.seq .no .no))) Tryz.func54 (fun (_:True)=>ifn p.Addr q.Addr (fun h1 _=>fiI (IntKind.i64.wrap (p.Addr-q.Addr)) (F54 p q) (condT h1 rfl)) (fun h1 _=>fiI (IntKind.i64.wrap (p.Len-q.Len)) (F54 p q) (condF h1 rfl))) uu3
theorem kc52 (e1:Ue) {K_:Prop} (k_:K_):(True)/\(Imps (eHelloEntry e1) (eHelloEntry e1))/\K_:=⟨trivial,Imps.refl _,k_⟩
abbrev kh52 (e1:Ue):Hint true Tryz.prog:=.call 52 (S52 e1) (ok52 e1) none
theorem kc54 (p:NetPrefix) (q:NetPrefix) {K_:Prop} (k_:K_):(True)/\(Imps (eNetPrefix p) (eNetPrefix p))/\(Imps (eNetPrefix q) (eNetPrefix q))/\K_:=⟨trivial,Imps.refl _,Imps.refl _,k_⟩
abbrev kh54 (p:NetPrefix) (q:NetPrefix):Hint true Tryz.prog:=.call 54 (S54 p q) (ok54 p q) none
def F25_s0 (table:List Ue):Int->Lp Int Bool:=fun v7 =>
 bif (decide (v7<(table.length:Int))) then (bif (bif (!(F52 (table.getD v7.toNat default))) then true else (bif decide (v7>0) then decide ((F54 (F48 (table.getD (v7-1).toNat default)) (F48 (table.getD v7.toNat default)))>=0) else false)) then (.ret false) else (.next (v7+1))) else (.done v7)
def F25 (table:List Ue):Bool :=
 (runL (F25_s0 table) (((table.length:Int)-0).toNat+1) 0).fin (fun r=>r) (fun v7=>decide ((table.length:Int)<=8))
abbrev lN25_0 (table:List Ue):Nat×Int:=((((table.length:Int)-0).toNat+1),0)
abbrev lI25_0 (table:List Ue) (m39:Nat) (v7:Int):Prop:=Int.toNat ((table.length:Int)-v7)<m39/\(0:Int)<=v7
abbrev lX25_0 (table:List Ue):Lp Int Bool:=LpX (F25_s0 table) (lN25_0 table)
abbrev lJ25_0 (table:List Ue) (i:Nat×Int):Prop:=LpJ (F25_s0 table) (lN25_0 table) i (lI25_0 table i.1 i.2)
abbrev lH25_0 (table:List Ue) (i:Nat×Int) (m39:Nat) (v7:Int):Prop:=LpH (F25_s0 table) (lN25_0 table) i m39 v7 (lI25_0 table (m39+1) v7)
abbrev lE25_0 (table:List Ue) (v7:Int) (v7_:Int) (K39:Prop):Prop:=(Rf (.int .i64 (table.length:Int)))/\((.int .i64 v7:Value)=.int .i64 v7_)/\(Im (.l 4 eHelloEntry table))/\K39
theorem un25_0 (table:List Ue) (i:Nat×Int) (h:lJ25_0 table i):lH25_0 table i (i.1-1) i.2:=⟨hd1 h.1 h.2.1,hd3 h.2.1,hd2 h.2.1,h.2.2⟩
theorem bk25_0 (table:List Ue) (i:Nat×Int) (m39:Nat) (v7:Int) (hl:m39<i.1) (e:runL (F25_s0 table) m39 v7=lX25_0 table) (h:lI25_0 table m39 v7):∃ j:Nat×Int,lE25_0 table v7 j.2 (lJ25_0 table j/\j.1<i.1):=⟨(m39,v7),rfl,rfl,Imp.refl _,⟨e,h⟩,hl⟩
theorem en25_0 (table:List Ue) (h:(0:Int)<=0):lE25_0 table 0 0 (lJ25_0 table (lN25_0 table)):=⟨rfl,rfl,Imp.refl _,rfl,Qq _,h⟩
def S25 (table:List Ue):Spec:=⟨[.r (.c (.l 4 eHelloEntry table))],.v (.bool (F25 table)),True⟩
abbrev q25_1 (table:List Ue) (v7:Int):=(table.getD v7.toNat default)
theorem ok25 (table:List Ue):(S25 table).ok Tryz.prog 25 :=
 fnG_ok mixed (fn:=Tryz.f25) (ct:=.seqk [(0,0)] .no (.seq (.seqk [(0,0),(5,0)] .no (.blk (.loop (ι:=Nat×Int) (fun i=>(fun (v7:Int)=>(⟨[(0,some (.h 0 0)),(5,some (.h 0 0)),(6,some (.v (vI (table.length:Int)))),(7,some (.v (vI v7)))],[(0,some (.shr none (.l 4 eHelloEntry table)))],1⟩:St)) i.2) (lJ25_0 table) (fun i=>i.1) (lN25_0 table) (fun i=>(fun (v7:Int)=>(.seq .no (.seq (.cond .no .no) (.seq (.blk (.seq .no (.seq (.reg [(1,kh52 (q25_1 table v7)),(9,.bnd),(12,kh48 (table.getD (v7-1).toNat default)),(14,kh48 (q25_1 table v7)),(15,kh54 (F48 (table.getD (v7-1).toNat default)) (F48 (q25_1 table v7)))]) (.cond (.seq .no .no) .no)))) (.reg [(0,.bnd)]))))) i.2)))) (.seq .no .no))) Tryz.func25 (fun (_:True)=>kn table fun _=>kn table fun _=>kn table fun _=>ai (en25_0 table uu0) (fun (i0:Nat×Int) (hi0:lJ25_0 table i0)=>(fun (m0:Nat) (v7:Int) (hh0:lH25_0 table i0 m0 v7)=>have hI0:=hh0.1; have hl0:=hh0.2.1; have _:=hh0.2.2.1; have _:=hh0.2.2.2; ifd (v7<(table.length:Int)) (fun h2 _=>ai (uu0:ib v7 table) (kc52 (q25_1 table v7) (ai (fun k4:(decide (v7>0))=true=>have _:=Qb k4; (fun k3:(!(F52 (q25_1 table v7)))=false=>iok (v7-1) uu0)) (ai (fun k6:(decide (v7>0))=true=>have _:=Qb k6; (fun k5:(!(F52 (q25_1 table v7)))=false=>(uu0:ib (v7-1) table))) (ai (fun k8:(decide (v7>0))=true=>have _:=Qb k8; (fun k7:(!(F52 (q25_1 table v7)))=false=>trivial)) (ai (fun k10:(decide (v7>0))=true=>have _:=Qb k10; (fun k9:(!(F52 (q25_1 table v7)))=false=>(Imps.refl (eHelloEntry (table.getD (v7-1).toNat default))))) (ai (fun k12:(decide (v7>0))=true=>have _:=Qb k12; (fun k11:(!(F52 (q25_1 table v7)))=false=>trivial)) (ai (fun k14:(decide (v7>0))=true=>have _:=Qb k14; (fun k13:(!(F52 (q25_1 table v7)))=false=>(Imps.refl (eHelloEntry (q25_1 table v7))))) (ai (fun k16:(decide (v7>0))=true=>have _:=Qb k16; (fun k15:(!(F52 (q25_1 table v7)))=false=>trivial)) (ai (fun k18:(decide (v7>0))=true=>have _:=Qb k18; (fun k17:(!(F52 (q25_1 table v7)))=false=>(Imps.refl (eNetPrefix (F48 (table.getD (v7-1).toNat default)))))) (ai (fun k20:(decide (v7>0))=true=>have _:=Qb k20; (fun k19:(!(F52 (q25_1 table v7)))=false=>(Imps.refl (eNetPrefix (F48 (q25_1 table v7)))))) (ifb (bif (!(F52 (q25_1 table v7))) then true else (bif decide (v7>0) then decide ((F54 (F48 (table.getD (v7-1).toNat default)) (F48 (q25_1 table v7)))>=0) else false)) (fun h21=>fiB false (F25 table) (finR (runL_ret hI0 (condT h2 (condT h21 rfl))) rfl)) (fun h21=>ai (iok (v7+1) uu0) (bk25_0 table i0 m0 (v7+1) hl0 (runL_next hI0 (condT h2 (condF h21 rfl))) uu7)))))))))))))) (fun h2 _=>have hD0_22:lX25_0 table=Lp.done v7:=runL_done hI0 (condF h2 rfl); fiB (decide ((table.length:Int)<=8)) (F25 table) (finD hD0_22 rfl))) (i0.1-1) i0.2 (un25_0 table i0 hi0))) uu3
structure HelloKey where
 Id:Int
 Secret:Int
 deriving DecidableEq,Inhabited
def eHelloKey (x:HelloKey):List Dat:=[.v (vI x.Id),.v (vI x.Secret)]
def F29_s0 (keys:List HelloKey):Int->Lp Int Bool:=fun i40 =>
 bif (decide (i40<(keys.length:Int))) then (bif (bif (bif (!(decide (1<=(keys.getD i40.toNat default).Id/\(keys.getD i40.toNat default).Id<=9))) then true else (!(decide (1<=(keys.getD i40.toNat default).Secret/\(keys.getD i40.toNat default).Secret<=2147483646)))) then true else (bif decide (i40>0) then decide ((keys.getD (i40-1).toNat default).Id>=(keys.getD i40.toNat default).Id) else false)) then (.ret false) else (.next (i40+1))) else (.done i40)
def F29 (keys:List HelloKey):Bool :=
 bif (!(decide (1<=(keys.length:Int)/\(keys.length:Int)<=3))) then false else ((runL (F29_s0 keys) (((keys.length:Int)-0).toNat+1) 0).fin (fun r=>r) (fun i40=>true))
abbrev lN29_0 (keys:List HelloKey):Nat×Int:=((((keys.length:Int)-0).toNat+1),0)
abbrev lI29_0 (keys:List HelloKey) (m39:Nat) (i40:Int):Prop:=Int.toNat ((keys.length:Int)-i40)<m39/\(0:Int)<=i40
abbrev lX29_0 (keys:List HelloKey):Lp Int Bool:=LpX (F29_s0 keys) (lN29_0 keys)
abbrev lJ29_0 (keys:List HelloKey) (i:Nat×Int):Prop:=LpJ (F29_s0 keys) (lN29_0 keys) i (lI29_0 keys i.1 i.2)
abbrev lH29_0 (keys:List HelloKey) (i:Nat×Int) (m39:Nat) (i40:Int):Prop:=LpH (F29_s0 keys) (lN29_0 keys) i m39 i40 (lI29_0 keys (m39+1) i40)
abbrev lE29_0 (keys:List HelloKey) (i40:Int) (i40_:Int) (K39:Prop):Prop:=((.int .i64 i40:Value)=.int .i64 i40_)/\(Im (.l 2 eHelloKey keys))/\K39
theorem un29_0 (keys:List HelloKey) (i:Nat×Int) (h:lJ29_0 keys i):lH29_0 keys i (i.1-1) i.2:=⟨hd1 h.1 h.2.1,hd3 h.2.1,hd2 h.2.1,h.2.2⟩
theorem bk29_0 (keys:List HelloKey) (i:Nat×Int) (m39:Nat) (i40:Int) (hl:m39<i.1) (e:runL (F29_s0 keys) m39 i40=lX29_0 keys) (h:lI29_0 keys m39 i40):∃ j:Nat×Int,lE29_0 keys i40 j.2 (lJ29_0 keys j/\j.1<i.1):=⟨(m39,i40),rfl,Imp.refl _,⟨e,h⟩,hl⟩
theorem en29_0 (keys:List HelloKey) (h:(0:Int)<=0):lE29_0 keys 0 0 (lJ29_0 keys (lN29_0 keys)):=⟨rfl,Imp.refl _,rfl,Qq _,h⟩
def S29 (keys:List HelloKey):Spec:=⟨[.r (.c (.l 2 eHelloKey keys))],.v (.bool (F29 keys)),True⟩
abbrev q29_1 (keys:List HelloKey) (i40:Int):=(keys.getD i40.toNat default)
theorem ok29 (keys:List HelloKey):(S29 keys).ok Tryz.prog 29 :=
 fnG_ok mixed (fn:=Tryz.f29) (ct:=.seqk [(0,0)] .no (.seq (.seq (.reg [(2,kh28a (keys.length:Int) 1 3)]) (.cond (.seq .no .no) .no)) (.seq (.seqk [(0,0)] .no (.blk (.loop (ι:=Nat×Int) (fun i=>(fun (i40:Int)=>(⟨[(0,some (.h 0 0)),(3,some (.v (vI i40)))],[(0,some (.shr none (.l 2 eHelloKey keys)))],1⟩:St)) i.2) (lJ29_0 keys) (fun i=>i.1) (lN29_0 keys) (fun i=>(fun (i40:Int)=>(.seq (.seq .no (.cond .no .no)) (.seq (.blk (.seq (.reg [(5,kh28a (q29_1 keys i40).Id 1 9),(13,kh28a (q29_1 keys i40).Secret 1 2147483646),(22,.bnd)]) (.cond (.seq .no .no) .no))) (.reg [(1,.bnd)])))) i.2)))) (.seq .no .no)))) Tryz.func29 (fun (_:True)=>kn keys fun _=>kc28a (keys.length:Int) 1 3 (ifb (!(decide (1<=(keys.length:Int)/\(keys.length:Int)<=3))) (fun h1=>have _:=Rj (notET h1); fiB false (F29 keys) (condT h1 rfl)) (fun h1=>have _:=Qb (notEF h1); kn keys fun _=>ai (en29_0 keys uu0) (fun (i0:Nat×Int) (hi0:lJ29_0 keys i0)=>(fun (m0:Nat) (i40:Int) (hh0:lH29_0 keys i0 m0 i40)=>have hI0:=hh0.1; have hl0:=hh0.2.1; have _:=hh0.2.2.1; have _:=hh0.2.2.2; ifd (i40<(keys.length:Int)) (fun h3 _=>ai (uu0:ib i40 keys) (kc28a (q29_1 keys i40).Id 1 9 (ai (fun k4:(!(decide (1<=(q29_1 keys i40).Id/\(q29_1 keys i40).Id<=9)))=false=>have _:=Qb (notEF k4); (uu0:ib i40 keys)) (kg28a (!(decide (1<=(q29_1 keys i40).Id/\(q29_1 keys i40).Id<=9))) false (q29_1 keys i40).Secret 1 2147483646 (ai (fun k7:(decide (i40>0))=true=>have _:=Qb k7; (fun k6:(bif (!(decide (1<=(q29_1 keys i40).Id/\(q29_1 keys i40).Id<=9))) then true else (!(decide (1<=(q29_1 keys i40).Secret/\(q29_1 keys i40).Secret<=2147483646))))=false=>have _:=Qb (notEF (orF1 k6)); have _:=Qb (notEF (orF2 k6)); iok (i40-1) uu0)) (ai (fun k9:(decide (i40>0))=true=>have _:=Qb k9; (fun k8:(bif (!(decide (1<=(q29_1 keys i40).Id/\(q29_1 keys i40).Id<=9))) then true else (!(decide (1<=(q29_1 keys i40).Secret/\(q29_1 keys i40).Secret<=2147483646))))=false=>have _:=Qb (notEF (orF1 k8)); have _:=Qb (notEF (orF2 k8)); (uu0:ib (i40-1) keys))) (ai (fun k11:(decide (i40>0))=true=>have _:=Qb k11; (fun k10:(bif (!(decide (1<=(q29_1 keys i40).Id/\(q29_1 keys i40).Id<=9))) then true else (!(decide (1<=(q29_1 keys i40).Secret/\(q29_1 keys i40).Secret<=2147483646))))=false=>have _:=Qb (notEF (orF1 k10)); have _:=Qb (notEF (orF2 k10)); (uu0:ib i40 keys))) (ifb (bif (bif (!(decide (1<=(q29_1 keys i40).Id/\(q29_1 keys i40).Id<=9))) then true else (!(decide (1<=(q29_1 keys i40).Secret/\(q29_1 keys i40).Secret<=2147483646)))) then true else (bif decide (i40>0) then decide ((keys.getD (i40-1).toNat default).Id>=(q29_1 keys i40).Id) else false)) (fun h12=>fiB false (F29 keys) (condF h1 (finR (runL_ret hI0 (condT h3 (condT h12 rfl))) rfl))) (fun h12=>have _:=Qb (notEF (orF1 (orF1 h12))); have _:=Qb (notEF (orF2 (orF1 h12))); ai (iok (i40+1) uu0) (bk29_0 keys i0 m0 (i40+1) hl0 (runL_next hI0 (condT h3 (condF h12 rfl))) uu7)))))))))) (fun h3 _=>have hD0_13:lX29_0 keys=Lp.done i40:=runL_done hI0 (condF h3 rfl); fiB true (F29 keys) (condF h1 (finD hD0_13 rfl)))) (i0.1-1) i0.2 (un29_0 keys i0 hi0))))) uu3
def F23_s0 (keys:List HelloKey):Int->Lp Int Bool:=fun v7 =>
 bif (decide (v7<(keys.length:Int))) then (bif (bif (bif (!(decide (1<=(keys.getD v7.toNat default).Id/\(keys.getD v7.toNat default).Id<=9))) then true else (!(decide (1<=(keys.getD v7.toNat default).Secret/\(keys.getD v7.toNat default).Secret<=2147483646)))) then true else (bif decide (v7>0) then decide ((keys.getD (v7-1).toNat default).Id>=(keys.getD v7.toNat default).Id) else false)) then (.ret false) else (.next (v7+1))) else (.done v7)
def F23 (keys:List HelloKey):Bool :=
 (runL (F23_s0 keys) (((keys.length:Int)-0).toNat+1) 0).fin (fun r=>r) (fun v7=>(decide (1<=(keys.length:Int)/\(keys.length:Int)<=3)))
abbrev lN23_0 (keys:List HelloKey):Nat×Int:=((((keys.length:Int)-0).toNat+1),0)
abbrev lI23_0 (keys:List HelloKey) (m39:Nat) (v7:Int):Prop:=Int.toNat ((keys.length:Int)-v7)<m39/\(0:Int)<=v7
abbrev lX23_0 (keys:List HelloKey):Lp Int Bool:=LpX (F23_s0 keys) (lN23_0 keys)
abbrev lJ23_0 (keys:List HelloKey) (i:Nat×Int):Prop:=LpJ (F23_s0 keys) (lN23_0 keys) i (lI23_0 keys i.1 i.2)
abbrev lH23_0 (keys:List HelloKey) (i:Nat×Int) (m39:Nat) (v7:Int):Prop:=LpH (F23_s0 keys) (lN23_0 keys) i m39 v7 (lI23_0 keys (m39+1) v7)
abbrev lE23_0 (keys:List HelloKey) (v7:Int) (v7_:Int) (K39:Prop):Prop:=(Rf (.int .i64 (keys.length:Int)))/\((.int .i64 v7:Value)=.int .i64 v7_)/\(Im (.l 2 eHelloKey keys))/\K39
theorem un23_0 (keys:List HelloKey) (i:Nat×Int) (h:lJ23_0 keys i):lH23_0 keys i (i.1-1) i.2:=⟨hd1 h.1 h.2.1,hd3 h.2.1,hd2 h.2.1,h.2.2⟩
theorem bk23_0 (keys:List HelloKey) (i:Nat×Int) (m39:Nat) (v7:Int) (hl:m39<i.1) (e:runL (F23_s0 keys) m39 v7=lX23_0 keys) (h:lI23_0 keys m39 v7):∃ j:Nat×Int,lE23_0 keys v7 j.2 (lJ23_0 keys j/\j.1<i.1):=⟨(m39,v7),rfl,rfl,Imp.refl _,⟨e,h⟩,hl⟩
theorem en23_0 (keys:List HelloKey) (h:(0:Int)<=0):lE23_0 keys 0 0 (lJ23_0 keys (lN23_0 keys)):=⟨rfl,rfl,Imp.refl _,rfl,Qq _,h⟩
def S23 (keys:List HelloKey):Spec:=⟨[.r (.c (.l 2 eHelloKey keys))],.v (.bool (F23 keys)),True⟩
abbrev q23_1 (keys:List HelloKey) (v7:Int):=(keys.getD v7.toNat default)
theorem ok23 (keys:List HelloKey):(S23 keys).ok Tryz.prog 23 :=
 fnG_ok mixed (fn:=Tryz.f23) (ct:=.seqk [(0,0)] .no (.seq (.seqk [(0,0),(5,0)] .no (.blk (.loop (ι:=Nat×Int) (fun i=>(fun (v7:Int)=>(⟨[(0,some (.h 0 0)),(5,some (.h 0 0)),(6,some (.v (vI (keys.length:Int)))),(7,some (.v (vI v7)))],[(0,some (.shr none (.l 2 eHelloKey keys)))],1⟩:St)) i.2) (lJ23_0 keys) (fun i=>i.1) (lN23_0 keys) (fun i=>(fun (v7:Int)=>(.seq .no (.seq (.cond .no .no) (.seq (.blk (.seq .no (.seq (.reg [(2,kh22a (q23_1 keys v7).Id 1 9),(7,kh22a (q23_1 keys v7).Secret 1 2147483646),(16,.bnd)]) (.cond (.seq .no .no) .no)))) (.reg [(0,.bnd)]))))) i.2)))) (.seq (.reg [(2,kh22a (keys.length:Int) 1 3)]) .no))) Tryz.func23 (fun (_:True)=>kn keys fun _=>kn keys fun _=>kn keys fun _=>ai (en23_0 keys uu0) (fun (i0:Nat×Int) (hi0:lJ23_0 keys i0)=>(fun (m0:Nat) (v7:Int) (hh0:lH23_0 keys i0 m0 v7)=>have hI0:=hh0.1; have hl0:=hh0.2.1; have _:=hh0.2.2.1; have _:=hh0.2.2.2; ifd (v7<(keys.length:Int)) (fun h2 _=>ai (uu0:ib v7 keys) (kc22a (q23_1 keys v7).Id 1 9 (kg22a (!(decide (1<=(q23_1 keys v7).Id/\(q23_1 keys v7).Id<=9))) false (q23_1 keys v7).Secret 1 2147483646 (ai (fun k5:(decide (v7>0))=true=>have _:=Qb k5; (fun k4:(bif (!(decide (1<=(q23_1 keys v7).Id/\(q23_1 keys v7).Id<=9))) then true else (!(decide (1<=(q23_1 keys v7).Secret/\(q23_1 keys v7).Secret<=2147483646))))=false=>have _:=Qb (notEF (orF1 k4)); have _:=Qb (notEF (orF2 k4)); iok (v7-1) uu0)) (ai (fun k7:(decide (v7>0))=true=>have _:=Qb k7; (fun k6:(bif (!(decide (1<=(q23_1 keys v7).Id/\(q23_1 keys v7).Id<=9))) then true else (!(decide (1<=(q23_1 keys v7).Secret/\(q23_1 keys v7).Secret<=2147483646))))=false=>have _:=Qb (notEF (orF1 k6)); have _:=Qb (notEF (orF2 k6)); (uu0:ib (v7-1) keys))) (ifb (bif (bif (!(decide (1<=(q23_1 keys v7).Id/\(q23_1 keys v7).Id<=9))) then true else (!(decide (1<=(q23_1 keys v7).Secret/\(q23_1 keys v7).Secret<=2147483646)))) then true else (bif decide (v7>0) then decide ((keys.getD (v7-1).toNat default).Id>=(q23_1 keys v7).Id) else false)) (fun h8=>fiB false (F23 keys) (finR (runL_ret hI0 (condT h2 (condT h8 rfl))) rfl)) (fun h8=>have _:=Qb (notEF (orF1 (orF1 h8))); have _:=Qb (notEF (orF2 (orF1 h8))); ai (iok (v7+1) uu0) (bk23_0 keys i0 m0 (v7+1) hl0 (runL_next hI0 (condT h2 (condF h8 rfl))) uu7)))))))) (fun h2 _=>have hD0_9:lX23_0 keys=Lp.done v7:=runL_done hI0 (condF h2 rfl); kc22a (keys.length:Int) 1 3 (fiB (decide (1<=(keys.length:Int)/\(keys.length:Int)<=3)) (F23 keys) (finD hD0_9 rfl)))) (i0.1-1) i0.2 (un23_0 keys i0 hi0))) uu3
structure HelloChange where
 Kind:Int
 Entry:Ue
 deriving DecidableEq,Inhabited
def eHelloChange (x:HelloChange):List Dat:=[.v (vI x.Kind),.v (vI x.Entry.Addr),.v (vI x.Entry.Len),.v (vI x.Entry.Cost),.v (vI x.Entry.Label)]
theorem eqlT26 (x0 y0:Int) (x1 y1:Int) (x2 y2:Int) (x3 y3:Int) (p q:Operand) (w:World):(do eqGuard .eql 26 p q (.agg #[.int .i64 x0,.int .i64 x1,.int .i64 x2,.int .i64 x3]) (.agg #[.int .i64 y0,.int .i64 y1,.int .i64 y2,.int .i64 y3]); binOp .eql 26 (.agg #[.int .i64 x0,.int .i64 x1,.int .i64 x2,.int .i64 x3]) (.agg #[.int .i64 y0,.int .i64 y1,.int .i64 y2,.int .i64 y3])).run Tryz.prog w=.ok (.bool ((x0==y0)&&((x1==y1)&&((x2==y2)&&(x3==y3))))) w:=by
 by_cases h0:x0=y0
 case neg=>simp [go_sem,h0]
 by_cases h1:x1=y1
 case neg=>simp [go_sem,h0,h1]
 by_cases h2:x2=y2
 case neg=>simp [go_sem,h0,h1,h2]
 by_cases h3:x3=y3
 case neg=>simp [go_sem,h0,h1,h2,h3]
 simp [go_sem,h0,h1,h2,h3]
def F31 (c:HelloChange):Bool :=
 bif (c.Kind==0) then (bif (c.Kind==0) then ((c.Entry.Addr==0)&&((c.Entry.Len==0)&&((c.Entry.Cost==0)&&(c.Entry.Label==0)))) else (bif (c.Kind==1) then (F59 c.Entry) else (bif (c.Kind==2) then (bif (bif (F61 c.Entry) then (c.Entry.Cost==0) else false) then (c.Entry.Label==0) else false) else false))) else (bif (c.Kind==3) then ((c.Entry.Addr==0)&&((c.Entry.Len==0)&&((c.Entry.Cost==0)&&(c.Entry.Label==0)))) else (bif (c.Kind==1) then (F59 c.Entry) else (bif (c.Kind==2) then (bif (bif (F61 c.Entry) then (c.Entry.Cost==0) else false) then (c.Entry.Label==0) else false) else false)))
def S31 (c:HelloChange):Spec:=⟨[.r (.g (eHelloChange c))],.v (.bool (F31 c)),True⟩
theorem ok31 (c:HelloChange):(S31 c).ok Tryz.prog 31 :=
 fnG_ok mixed (fn:=Tryz.f31) (ct:=.seq .no (.seq (.seq .no (.blk (.seq (.seq .no (.cond .no .no)) (.cond (.seq (.reg [(3,.bin .eql 26 (.agg #[.int .i64 c.Entry.Addr,.int .i64 c.Entry.Len,.int .i64 c.Entry.Cost,.int .i64 c.Entry.Label]) (.agg #[.int .i64 0,.int .i64 0,.int .i64 0,.int .i64 0]) (.bool ((c.Entry.Addr==0)&&((c.Entry.Len==0)&&((c.Entry.Cost==0)&&(c.Entry.Label==0))))) rfl (eqlT26 c.Entry.Addr 0 c.Entry.Len 0 c.Entry.Cost 0 c.Entry.Label 0))]) .no) (.seq .no (.cond (.seq (.reg [(2,kh59 c.Entry)]) .no) (.seq .no (.cond (.seq (.reg [(2,kh61 c.Entry)]) .no) .no)))))))) (.seq .no .no))) Tryz.func31 (fun (_:True)=>ife c.Kind 0 (fun h1 _=>ife c.Kind 0 (fun h2 _=>ai (Eq.refl (.agg #[.int .i64 c.Entry.Addr,.int .i64 c.Entry.Len,.int .i64 c.Entry.Cost,.int .i64 c.Entry.Label]:Value)) (ai (Eq.refl (.agg #[.int .i64 0,.int .i64 0,.int .i64 0,.int .i64 0]:Value)) (fiB ((c.Entry.Addr==0)&&((c.Entry.Len==0)&&((c.Entry.Cost==0)&&(c.Entry.Label==0)))) (F31 c) (condT h1 (condT h2 rfl))))) (fun h2 _=>ife c.Kind 1 (fun h3 _=>kc59 c.Entry (fiB (F59 c.Entry) (F31 c) (condT h1 (condF h2 (condT h3 rfl))))) (fun h3 _=>ife c.Kind 2 (fun h4 _=>kc61 c.Entry (fiB (bif (bif (F61 c.Entry) then (c.Entry.Cost==0) else false) then (c.Entry.Label==0) else false) (F31 c) (condT h1 (condF h2 (condF h3 (condT h4 rfl)))))) (fun h4 _=>fiB false (F31 c) (condT h1 (condF h2 (condF h3 (condF h4 rfl)))))))) (fun h1 _=>ife c.Kind 3 (fun h5 _=>ai (Eq.refl (.agg #[.int .i64 c.Entry.Addr,.int .i64 c.Entry.Len,.int .i64 c.Entry.Cost,.int .i64 c.Entry.Label]:Value)) (ai (Eq.refl (.agg #[.int .i64 0,.int .i64 0,.int .i64 0,.int .i64 0]:Value)) (fiB ((c.Entry.Addr==0)&&((c.Entry.Len==0)&&((c.Entry.Cost==0)&&(c.Entry.Label==0)))) (F31 c) (condF h1 (condT h5 rfl))))) (fun h5 _=>ife c.Kind 1 (fun h6 _=>kc59 c.Entry (fiB (F59 c.Entry) (F31 c) (condF h1 (condF h5 (condT h6 rfl))))) (fun h6 _=>ife c.Kind 2 (fun h7 _=>kc61 c.Entry (fiB (bif (bif (F61 c.Entry) then (c.Entry.Cost==0) else false) then (c.Entry.Label==0) else false) (F31 c) (condF h1 (condF h5 (condF h6 (condT h7 rfl)))))) (fun h7 _=>fiB false (F31 c) (condF h1 (condF h5 (condF h6 (condF h7 rfl))))))))) uu3
def F24 (c:HelloChange):Bool :=
 bif (c.Kind==0) then (bif (c.Kind==0) then ((c.Entry.Addr==0)&&((c.Entry.Len==0)&&((c.Entry.Cost==0)&&(c.Entry.Label==0)))) else (bif (c.Kind==1) then (F52 c.Entry) else (bif (c.Kind==2) then (bif (bif (F53 (F48 c.Entry)) then (c.Entry.Cost==0) else false) then (c.Entry.Label==0) else false) else false))) else (bif (c.Kind==3) then ((c.Entry.Addr==0)&&((c.Entry.Len==0)&&((c.Entry.Cost==0)&&(c.Entry.Label==0)))) else (bif (c.Kind==1) then (F52 c.Entry) else (bif (c.Kind==2) then (bif (bif (F53 (F48 c.Entry)) then (c.Entry.Cost==0) else false) then (c.Entry.Label==0) else false) else false)))
def S24 (c:HelloChange):Spec:=⟨[.r (.g (eHelloChange c))],.v (.bool (F24 c)),True⟩
theorem ok24 (c:HelloChange):(S24 c).ok Tryz.prog 24 :=
 fnG_ok mixed (fn:=Tryz.f24) (ct:=.seq .no (.seq (.seq .no (.blk (.seq (.seq .no (.cond .no .no)) (.cond (.seq (.reg [(3,.bin .eql 26 (.agg #[.int .i64 c.Entry.Addr,.int .i64 c.Entry.Len,.int .i64 c.Entry.Cost,.int .i64 c.Entry.Label]) (.agg #[.int .i64 0,.int .i64 0,.int .i64 0,.int .i64 0]) (.bool ((c.Entry.Addr==0)&&((c.Entry.Len==0)&&((c.Entry.Cost==0)&&(c.Entry.Label==0))))) rfl (eqlT26 c.Entry.Addr 0 c.Entry.Len 0 c.Entry.Cost 0 c.Entry.Label 0))]) .no) (.seq .no (.cond (.seq (.reg [(2,kh52 c.Entry)]) .no) (.seq .no (.cond (.seq (.reg [(2,kh48 c.Entry),(3,kh53 (F48 c.Entry))]) .no) .no)))))))) (.seq .no .no))) Tryz.func24 (fun (_:True)=>ife c.Kind 0 (fun h1 _=>ife c.Kind 0 (fun h2 _=>ai (Eq.refl (.agg #[.int .i64 c.Entry.Addr,.int .i64 c.Entry.Len,.int .i64 c.Entry.Cost,.int .i64 c.Entry.Label]:Value)) (ai (Eq.refl (.agg #[.int .i64 0,.int .i64 0,.int .i64 0,.int .i64 0]:Value)) (fiB ((c.Entry.Addr==0)&&((c.Entry.Len==0)&&((c.Entry.Cost==0)&&(c.Entry.Label==0)))) (F24 c) (condT h1 (condT h2 rfl))))) (fun h2 _=>ife c.Kind 1 (fun h3 _=>kc52 c.Entry (fiB (F52 c.Entry) (F24 c) (condT h1 (condF h2 (condT h3 rfl))))) (fun h3 _=>ife c.Kind 2 (fun h4 _=>kc48 c.Entry (kc53 (F48 c.Entry) (fiB (bif (bif (F53 (F48 c.Entry)) then (c.Entry.Cost==0) else false) then (c.Entry.Label==0) else false) (F24 c) (condT h1 (condF h2 (condF h3 (condT h4 rfl))))))) (fun h4 _=>fiB false (F24 c) (condT h1 (condF h2 (condF h3 (condF h4 rfl)))))))) (fun h1 _=>ife c.Kind 3 (fun h5 _=>ai (Eq.refl (.agg #[.int .i64 c.Entry.Addr,.int .i64 c.Entry.Len,.int .i64 c.Entry.Cost,.int .i64 c.Entry.Label]:Value)) (ai (Eq.refl (.agg #[.int .i64 0,.int .i64 0,.int .i64 0,.int .i64 0]:Value)) (fiB ((c.Entry.Addr==0)&&((c.Entry.Len==0)&&((c.Entry.Cost==0)&&(c.Entry.Label==0)))) (F24 c) (condF h1 (condT h5 rfl))))) (fun h5 _=>ife c.Kind 1 (fun h6 _=>kc52 c.Entry (fiB (F52 c.Entry) (F24 c) (condF h1 (condF h5 (condT h6 rfl))))) (fun h6 _=>ife c.Kind 2 (fun h7 _=>kc48 c.Entry (kc53 (F48 c.Entry) (fiB (bif (bif (F53 (F48 c.Entry)) then (c.Entry.Cost==0) else false) then (c.Entry.Label==0) else false) (F24 c) (condF h1 (condF h5 (condF h6 (condT h7 rfl))))))) (fun h7 _=>fiB false (F24 c) (condF h1 (condF h5 (condF h6 (condF h7 rfl))))))))) uu3
def F84_s0 (table:List Ue) (e1:Ue):Int->Lp Int Int:=fun i40 =>
 bif (decide (i40<(table.length:Int))) then (bif (bif ((table.getD i40.toNat default).Addr==e1.Addr) then ((table.getD i40.toNat default).Len==e1.Len) else false) then (.ret i40) else (.next (i40+1))) else (.done i40)
def F84 (table:List Ue) (e1:Ue):Int :=
 (runL (F84_s0 table e1) (((table.length:Int)-0).toNat+1) 0).fin (fun r=>r) (fun i40=>(-1))
abbrev lN84_0 (table:List Ue):Nat×Int:=((((table.length:Int)-0).toNat+1),0)
abbrev lI84_0 (table:List Ue) (m39:Nat) (i40:Int):Prop:=Int.toNat ((table.length:Int)-i40)<m39/\(0:Int)<=i40
abbrev lX84_0 (table:List Ue) (e1:Ue):Lp Int Int:=LpX (F84_s0 table e1) (lN84_0 table)
abbrev lJ84_0 (table:List Ue) (e1:Ue) (i:Nat×Int):Prop:=LpJ (F84_s0 table e1) (lN84_0 table) i (lI84_0 table i.1 i.2)
abbrev lH84_0 (table:List Ue) (e1:Ue) (i:Nat×Int) (m39:Nat) (i40:Int):Prop:=LpH (F84_s0 table e1) (lN84_0 table) i m39 i40 (lI84_0 table (m39+1) i40)
abbrev lE84_0 (table:List Ue) (e1:Ue) (i40:Int) (i40_:Int) (K39:Prop):Prop:=((.int .i64 i40:Value)=.int .i64 i40_)/\(Im (.l 4 eHelloEntry table))/\(Rf (.int .i64 e1.Addr))/\(Rf (.int .i64 e1.Len))/\(Rf (.int .i64 e1.Cost))/\(Rf (.int .i64 e1.Label))/\K39
theorem un84_0 (table:List Ue) (e1:Ue) (i:Nat×Int) (h:lJ84_0 table e1 i):lH84_0 table e1 i (i.1-1) i.2:=⟨hd1 h.1 h.2.1,hd3 h.2.1,hd2 h.2.1,h.2.2⟩
theorem bk84_0 (table:List Ue) (e1:Ue) (i:Nat×Int) (m39:Nat) (i40:Int) (hl:m39<i.1) (e:runL (F84_s0 table e1) m39 i40=lX84_0 table e1) (h:lI84_0 table m39 i40):∃ j:Nat×Int,lE84_0 table e1 i40 j.2 (lJ84_0 table e1 j/\j.1<i.1):=⟨(m39,i40),rfl,Imp.refl _,rfl,rfl,rfl,rfl,⟨e,h⟩,hl⟩
theorem en84_0 (table:List Ue) (e1:Ue) (h:(0:Int)<=0):lE84_0 table e1 0 0 (lJ84_0 table e1 (lN84_0 table)):=⟨rfl,Imp.refl _,rfl,rfl,rfl,rfl,rfl,Qq _,h⟩
def S84 (table:List Ue) (e1:Ue):Spec:=⟨[.r (.c (.l 4 eHelloEntry table)),.r (.g (eHelloEntry e1))],.v (vI (F84 table e1)),True⟩
theorem ok84 (table:List Ue) (e1:Ue):(S84 table e1).ok Tryz.prog 84 :=
 fnG_ok mixed (fn:=Tryz.f84) (ct:=.seqk [(0,0)] .no (.seq (.seqk [(0,0)] .no (.blk (.loop (ι:=Nat×Int) (fun i=>(fun (i40:Int)=>(⟨[(0,some (.h 0 0)),(3,some (.p 1 0)),(5,some (.v (vI i40)))],[(0,some (.shr none (.l 4 eHelloEntry table))),(1,some (.box 26 [.v (vI e1.Addr),.v (vI e1.Len),.v (vI e1.Cost),.v (vI e1.Label)]))],2⟩:St)) i.2) (lJ84_0 table e1) (fun i=>i.1) (lN84_0 table) (fun i=>(fun (i40:Int)=>(.seq (.seq .no (.cond .no .no)) (.seq (.blk (.seq .no (.cond (.seq .no .no) .no))) (.reg [(1,.bnd)])))) i.2)))) (.seq .no .no))) Tryz.func84 (fun (_:True)=>kn table fun _=>kn table fun _=>ai (en84_0 table e1 uu0) (fun (i0:Nat×Int) (hi0:lJ84_0 table e1 i0)=>(fun (m0:Nat) (i40:Int) (hh0:lH84_0 table e1 i0 m0 i40)=>have hI0:=hh0.1; have hl0:=hh0.2.1; have _:=hh0.2.2.1; have _:=hh0.2.2.2; ifd (i40<(table.length:Int)) (fun h2 _=>ai (uu0:ib i40 table) (ai (fun k3:((table.getD i40.toNat default).Addr==e1.Addr)=true=>have _:=eq_of_beq k3; (uu0:ib i40 table)) (ifb (bif ((table.getD i40.toNat default).Addr==e1.Addr) then ((table.getD i40.toNat default).Len==e1.Len) else false) (fun h4=>have _:=eq_of_beq (andT1 h4); have _:=eq_of_beq (andT2 h4); fiI i40 (F84 table e1) (finR (runL_ret hI0 (condT h2 (condT h4 rfl))) rfl)) (fun h4=>ai (iok (i40+1) uu0) (bk84_0 table e1 i0 m0 (i40+1) hl0 (runL_next hI0 (condT h2 (condF h4 rfl))) uu7))))) (fun h2 _=>have hD0_5:lX84_0 table e1=Lp.done i40:=runL_done hI0 (condF h2 rfl); fiI (-1) (F84 table e1) (finD hD0_5 rfl))) (i0.1-1) i0.2 (un84_0 table e1 i0 hi0))) uu3
def F82 (e1:Ue) (p:NetPrefix):Int :=
 (F54 (F48 e1) p)
def S82 (e1:Ue) (p:NetPrefix):Spec:=⟨[.r (.g (eHelloEntry e1)),.r (.g (eNetPrefix p))],.v (vI (F82 e1 p)),True⟩
theorem ok82 (e1:Ue) (p:NetPrefix):(S82 e1 p).ok Tryz.prog 82 :=
 fnG_ok mixed (fn:=Tryz.f82) (ct:=.seq .no (.seq (.reg [(1,kh48 e1),(3,kh54 (F48 e1) p)]) .no)) Tryz.func82 (fun (_:True)=>kc48 e1 (kc54 (F48 e1) p (fiI (F54 (F48 e1) p) (F82 e1 p) rfl))) uu3
def fs108 (p:Ue->NetPrefix->Int):FnSpec:=⟨Ue×NetPrefix,fun i=>[.g (eHelloEntry i.1),.g (eNetPrefix i.2)],fun i=>.int .i64 (p i.1 i.2)⟩
def F81_s0 (x9:List Ue) (target:NetPrefix) (cmp:Ue->NetPrefix->Int):(Int×Int)->Lp (Int×Int) (Int×Bool):=fun (i41,j1) =>
 bif (decide (i41<j1)) then (bif (decide ((cmp (x9.getD (IntKind.i64.wrap ((IntKind.u64.wrap (i41+j1)).fdiv (2 ^ (min (1:Int).toNat IntKind.u64.bits)))).toNat default) target)<0)) then (.next (((IntKind.i64.wrap ((IntKind.u64.wrap (i41+j1)).fdiv (2 ^ (min (1:Int).toNat IntKind.u64.bits))))+1),j1)) else (.next (i41,(IntKind.i64.wrap ((IntKind.u64.wrap (i41+j1)).fdiv (2 ^ (min (1:Int).toNat IntKind.u64.bits))))))) else (.done (i41,j1))
def F81_j0 (x9:List Ue) (target:NetPrefix) (cmp:Ue->NetPrefix->Int):Lp Int (Int×Bool) :=
 (runL (F81_s0 x9 target cmp) (((x9.length:Int)-0).toNat+1) (0,(x9.length:Int))).fin Lp.ret (fun (i41,j1)=>.done i41)
def F81 (x9:List Ue) (target:NetPrefix) (cmp:Ue->NetPrefix->Int):Int×Bool :=
 (F81_j0 x9 target cmp).fin (fun r=>r) (fun i40=>(i40,(bif decide (i40<(x9.length:Int)) then ((cmp (x9.getD i40.toNat default) target)==0) else false)))
abbrev lN81_0 (x9:List Ue):Nat×(Int×Int):=((((x9.length:Int)-0).toNat+1),(0,(x9.length:Int)))
abbrev lI81_0 (x9:List Ue) (m39:Nat) (i41:Int) (j1:Int):Prop:=Int.toNat (j1-i41)<m39/\i41<=j1/\j1<=(x9.length:Int)/\(0:Int)<=i41
abbrev lX81_0 (x9:List Ue) (target:NetPrefix) (cmp:Ue->NetPrefix->Int):Lp (Int×Int) (Int×Bool):=LpX (F81_s0 x9 target cmp) (lN81_0 x9)
abbrev lJ81_0 (x9:List Ue) (target:NetPrefix) (cmp:Ue->NetPrefix->Int) (i:Nat×(Int×Int)):Prop:=LpJ (F81_s0 x9 target cmp) (lN81_0 x9) i (lI81_0 x9 i.1 i.2.1 i.2.2)
abbrev lH81_0 (x9:List Ue) (target:NetPrefix) (cmp:Ue->NetPrefix->Int) (i:Nat×(Int×Int)) (m39:Nat) (i41:Int) (j1:Int):Prop:=LpH (F81_s0 x9 target cmp) (lN81_0 x9) i m39 (i41,j1) (lI81_0 x9 (m39+1) i41 j1)
abbrev lE81_0 (x9:List Ue) (target:NetPrefix) (cmp:Ue->NetPrefix->Int) (i41:Int) (j1:Int) (i41_:Int) (j1_:Int) (K39:Prop):Prop:=(Rf (.int .i64 (x9.length:Int)))/\((.int .i64 i41:Value)=.int .i64 i41_)/\((.int .i64 j1:Value)=.int .i64 j1_)/\(Im (.l 4 eHelloEntry x9))/\(fs108 cmp=fs108 cmp)/\(Rf (.int .i64 target.Addr))/\(Rf (.int .i64 target.Len))/\K39
theorem un81_0 (x9:List Ue) (target:NetPrefix) (cmp:Ue->NetPrefix->Int) (i:Nat×(Int×Int)) (h:lJ81_0 x9 target cmp i):lH81_0 x9 target cmp i (i.1-1) i.2.1 i.2.2:=⟨hd1 h.1 h.2.1,hd3 h.2.1,hd2 h.2.1,h.2.2⟩
theorem bk81_0 (x9:List Ue) (target:NetPrefix) (cmp:Ue->NetPrefix->Int) (i:Nat×(Int×Int)) (m39:Nat) (i41:Int) (j1:Int) (hl:m39<i.1) (e:runL (F81_s0 x9 target cmp) m39 (i41,j1)=lX81_0 x9 target cmp) (h:lI81_0 x9 m39 i41 j1):∃ j:Nat×(Int×Int),lE81_0 x9 target cmp i41 j1 j.2.1 j.2.2 (lJ81_0 x9 target cmp j/\j.1<i.1):=⟨(m39,(i41,j1)),rfl,rfl,rfl,Imp.refl _,rfl,rfl,rfl,⟨e,h⟩,hl⟩
theorem en81_0 (x9:List Ue) (target:NetPrefix) (cmp:Ue->NetPrefix->Int) (h:0<=(x9.length:Int)/\(x9.length:Int)<=(x9.length:Int)/\(0:Int)<=0):lE81_0 x9 target cmp 0 (x9.length:Int) 0 (x9.length:Int) (lJ81_0 x9 target cmp (lN81_0 x9)):=⟨rfl,rfl,rfl,Imp.refl _,rfl,rfl,rfl,rfl,Qq _,h⟩
abbrev jI81_0 (x9:List Ue) (target:NetPrefix) (cmp:Ue->NetPrefix->Int) (i40:Int):Prop:=(0<=i40/\i40<=(x9.length:Int))/\True
abbrev jJ81_0 (x9:List Ue) (target:NetPrefix) (cmp:Ue->NetPrefix->Int) (j:Int):Prop:=(F81_j0 x9 target cmp)=Lp.done j/\jI81_0 x9 target cmp j
theorem jn81_0 (x9:List Ue) (target:NetPrefix) (cmp:Ue->NetPrefix->Int) (i40:Int) (e:(F81_j0 x9 target cmp)=Lp.done i40) (h:jI81_0 x9 target cmp i40):∃ j:Int,((.int .i64 (x9.length:Int):Value)=.int .i64 (x9.length:Int))/\((.int .i64 i40:Value)=.int .i64 j)/\(Imp (.l 4 eHelloEntry x9) (.l 4 eHelloEntry x9))/\(fs108 cmp=fs108 cmp)/\((.int .i64 target.Addr:Value)=.int .i64 target.Addr)/\((.int .i64 target.Len:Value)=.int .i64 target.Len)/\jJ81_0 x9 target cmp j:=⟨i40,rfl,rfl,Imp.refl _,rfl,rfl,rfl,e,h⟩
theorem fi81 (x9:List Ue) (target:NetPrefix) (cmp:Ue->NetPrefix->Int) (r:Int×Bool) (hF:r=(F81 x9 target cmp)):((.int .i64 r.1:Value)=.int .i64 (F81 x9 target cmp).1)/\((.bool r.2:Value)=.bool (F81 x9 target cmp).2)/\True:=by cases hF; exact ⟨rfl,rfl,trivial⟩
def S81 (x9:List Ue) (target:NetPrefix) (cmp:Ue->NetPrefix->Int):Spec:=⟨[.r (.c (.l 4 eHelloEntry x9)),.r (.g (eNetPrefix target)),.fn (fs108 cmp)],.tu [.v (vI (F81 x9 target cmp).1),.v (.bool (F81 x9 target cmp).2)],x9.length<=1000000000⟩
theorem ok81 (x9:List Ue) (target:NetPrefix) (cmp:Ue->NetPrefix->Int):(S81 x9 target cmp).ok Tryz.prog 81 false :=
 fnG_ok mixed (fn:=Tryz.f81) (ct:=.seqk [(0,0)] .no (.seq .no (.seqk [(0,0)] .no (.cut (ι:=Int) (fun j=>(fun (i40:Int)=>(⟨[(0,some (.h 0 0)),(2,some (.h 1 0)),(4,some (.p 2 0)),(8,some (.v (vI (x9.length:Int)))),(9,some (.v (vI i40)))],[(0,some (.shr none (.l 4 eHelloEntry x9))),(1,some (.fn (fs108 cmp))),(2,some (.box 71 [.v (vI target.Addr),.v (vI target.Len)]))],3⟩:St)) j) (jJ81_0 x9 target cmp) (.blk (.loop (ι:=Nat×(Int×Int)) (fun i=>(fun (i41:Int) (j1:Int)=>(⟨[(0,some (.h 0 0)),(2,some (.h 1 0)),(4,some (.p 2 0)),(8,some (.v (vI (x9.length:Int)))),(9,some (.v (vI i41))),(10,some (.v (vI j1)))],[(0,some (.shr none (.l 4 eHelloEntry x9))),(1,some (.fn (fs108 cmp))),(2,some (.box 71 [.v (vI target.Addr),.v (vI target.Len)]))],3⟩:St)) i.2.1 i.2.2) (lJ81_0 x9 target cmp) (fun i=>i.1) (lN81_0 x9) (fun i=>(fun (i41:Int) (j1:Int)=>(.seq (.seq .no (.cond .no .no)) (.blk (.seq (.reg [(2,.bnd)]) (.seq (.reg [(6,.fnv (fs108 cmp) ((x9.getD (IntKind.i64.wrap ((IntKind.u64.wrap (i41+j1)).fdiv (2 ^ (min (1:Int).toNat IntKind.u64.bits)))).toNat default),target))]) (.cond (.reg [(1,.bnd)]) .no)))))) i.2.1 i.2.2))) (fun j=>(fun (i40:Int)=>(.seq (.reg [(11,.fnv (fs108 cmp) ((x9.getD i40.toNat default),target))]) .no)) j))))) Tryz.func81 (fun (hpre0:x9.length<=1000000000)=>kn x9 fun _=>kn x9 fun _=>ai (ai (en81_0 x9 target cmp uu27) (fun (i0:Nat×(Int×Int)) (hi0:lJ81_0 x9 target cmp i0)=>(fun (m0:Nat) (i41:Int) (j1:Int) (hh0:lH81_0 x9 target cmp i0 m0 i41 j1)=>have hI0:=hh0.1; have hl0:=hh0.2.1; have _:=hh0.2.2.1; have _:=hh0.2.2.2; ifd (i41<j1) (fun h2 _=>ai (iok (i41+j1) uu0) (ai (uu0:0<=(1:Int)) (have gv3:i41<=(IntKind.i64.wrap ((IntKind.u64.wrap (i41+j1)).fdiv (2 ^ (min (1:Int).toNat IntKind.u64.bits))))/\(IntKind.i64.wrap ((IntKind.u64.wrap (i41+j1)).fdiv (2 ^ (min (1:Int).toNat IntKind.u64.bits))))<j1:=(by exact half_in i41 j1 (by omega) (by omega) (by omega)); ai (uu0:ib (IntKind.i64.wrap ((IntKind.u64.wrap (i41+j1)).fdiv (2 ^ (min (1:Int).toNat IntKind.u64.bits)))) x9) (ai (Eq.refl (fs108 cmp)) (ai (Imps.refl (eHelloEntry (x9.getD (IntKind.i64.wrap ((IntKind.u64.wrap (i41+j1)).fdiv (2 ^ (min (1:Int).toNat IntKind.u64.bits)))).toNat default))) (ai (Imps.refl (eNetPrefix target)) (ifd ((cmp (x9.getD (IntKind.i64.wrap ((IntKind.u64.wrap (i41+j1)).fdiv (2 ^ (min (1:Int).toNat IntKind.u64.bits)))).toNat default) target)<0) (fun h4 _=>ai (iok ((IntKind.i64.wrap ((IntKind.u64.wrap (i41+j1)).fdiv (2 ^ (min (1:Int).toNat IntKind.u64.bits))))+1) uu0) (bk81_0 x9 target cmp i0 m0 ((IntKind.i64.wrap ((IntKind.u64.wrap (i41+j1)).fdiv (2 ^ (min (1:Int).toNat IntKind.u64.bits))))+1) j1 hl0 (runL_next hI0 (condT h2 (condT h4 rfl))) (by refine ⟨?_,?_,?_,?_⟩ <;> omega))) (fun h4 _=>bk81_0 x9 target cmp i0 m0 i41 (IntKind.i64.wrap ((IntKind.u64.wrap (i41+j1)).fdiv (2 ^ (min (1:Int).toNat IntKind.u64.bits)))) hl0 (runL_next hI0 (condT h2 (condF h4 rfl))) (by refine ⟨?_,?_,?_,?_⟩ <;> omega))))))))) (fun h2 _=>have hD0_5:lX81_0 x9 target cmp=Lp.done (i41,j1):=runL_done hI0 (condF h2 rfl); jn81_0 x9 target cmp i41 (Ri (finD hD0_5 rfl)) uu22)) (i0.1-1) i0.2.1 i0.2.2 (un81_0 x9 target cmp i0 hi0))) (fun (j:Int) (hj:jJ81_0 x9 target cmp j)=>(fun (i40:Int) (hJ0_6:(F81_j0 x9 target cmp)=Lp.done i40) (hw:jI81_0 x9 target cmp i40)=>have _:=hw.1; ai (fun k7:(decide (i40<(x9.length:Int)))=true=>have _:=Qb k7; (uu0:ib i40 x9)) (ai (fun k8:(decide (i40<(x9.length:Int)))=true=>have _:=Qb k8; (Eq.refl (fs108 cmp))) (ai (fun k9:(decide (i40<(x9.length:Int)))=true=>have _:=Qb k9; (Imps.refl (eHelloEntry (x9.getD i40.toNat default)))) (ai (fun k10:(decide (i40<(x9.length:Int)))=true=>have _:=Qb k10; (Imps.refl (eNetPrefix target))) (fi81 x9 target cmp (i40,(bif decide (i40<(x9.length:Int)) then ((cmp (x9.getD i40.toNat default) target)==0) else false)) (finD hJ0_6 rfl)))))) j hj.1 hj.2)) uu3
def F47 (table:List Ue) (p:NetPrefix):Int×Bool :=
 ((F81 table p (fun (x0:Ue) (x1:NetPrefix)=>F82 x0 x1)).1,(F81 table p (fun (x0:Ue) (x1:NetPrefix)=>F82 x0 x1)).2)
theorem fi47 (table:List Ue) (p:NetPrefix) (r:Int×Bool) (hF:r=(F47 table p)):((.int .i64 r.1:Value)=.int .i64 (F47 table p).1)/\((.bool r.2:Value)=.bool (F47 table p).2)/\True:=by cases hF; exact ⟨rfl,rfl,trivial⟩
def S47 (R:Int×Bool) (table:List Ue) (p:NetPrefix):Spec:=⟨[.r (.c (.l 4 eHelloEntry table)),.r (.g (eNetPrefix p))],.tu [.v (vI R.1),.v (.bool R.2)],table.length<=1000000000⟩
theorem ok47 (table:List Ue) (p:NetPrefix):(S47 (F47 table p) table p).ok Tryz.prog 47 false :=
 fnG_ok mixed (fn:=Tryz.f47) (ct:=.seqk [(0,0)] .no (.seq (.reg [(2,.call 81 (S81 table p (fun (x0:Ue) (x1:NetPrefix)=>F82 x0 x1)) (ok81 table p (fun (x0:Ue) (x1:NetPrefix)=>F82 x0 x1)) (some ⟨true,82,fs108 (fun (x0:Ue) (x1:NetPrefix)=>F82 x0 x1),[],rfl,True,fun i=>(ok82 i.1 i.2)⟩))]) .no)) Tryz.func47 (fun (hpre0:table.length<=1000000000)=>kn table fun _=>ai (uu0:table.length<=1000000000) (ai (Imp.refl (.l 4 eHelloEntry table)) (ai (Imps.refl (eNetPrefix p)) (ai (Eq.refl (fs108 (fun (x0:Ue) (x1:NetPrefix)=>F82 x0 x1))) (ai trivial (fi47 table p ((F81 table p (fun (x0:Ue) (x1:NetPrefix)=>F82 x0 x1)).1,(F81 table p (fun (x0:Ue) (x1:NetPrefix)=>F82 x0 x1)).2) rfl)))))) uu3
def F64 (list:List Ue):List Ue :=
 (([]:List Ue)++list)
theorem fi64 (list:List Ue) (r:List Ue) (hF:r=(F64 list)):(Imp (.l 4 eHelloEntry r) (.l 4 eHelloEntry (F64 list)))/\True:=by cases hF; exact ⟨Imp.refl _,trivial⟩
def S64 (R:List Ue) (list:List Ue):Spec:=⟨[.r (.c (.l 4 eHelloEntry list))],.ow (.l 4 eHelloEntry R),list.length<=1000000000⟩
theorem ok64 (list:List Ue):(S64 (F64 list) list).ok Tryz.prog 64 :=
 fnG_ok mixed (fn:=Tryz.f64) (ct:=.seqk [(0,0)] .no (.seq (.reg [(0,.dat (.l 4 eHelloEntry ([]:List Ue))),(2,.dat (.l 4 eHelloEntry (([]:List Ue)++list)))]) .no)) Tryz.func64 (fun (hpre0:list.length<=1000000000)=>kn list fun _=>ai (bokr 4 eHelloEntry ([]:List Ue) fun _=>rfl) (ai (AppL.mk eHelloEntry ([]:List Ue) list (Imp.refl (.l 4 eHelloEntry ([]:List Ue))) ir (fun y=>⟨rfl,fun e he=>by simp only [eHelloEntry,Ql,Rh,Sr] at he; rcases he with rfl | rfl | rfl | rfl <;> exact ⟨_,rfl⟩⟩):AppL (.l 4 eHelloEntry ([]:List Ue)) (.l 4 eHelloEntry list) 4 (.l 4 eHelloEntry (([]:List Ue)++list))) (ai (uu6:(([]:List Ue)++list).length*32<=140737488355328) (fi64 list (([]:List Ue)++list) rfl)))) uu3
theorem as64 (list:List Ue):F64 list=(list):=by
 rfl
theorem oa64 (list:List Ue):(S64 (list) list).ok Tryz.prog 64:=by
 intro hp; have h:=ok64 list hp; rw [as64 list] at h; exact h
def F55 (list:List Ue):List Ue :=
 ((List.replicate (Int.toNat 0) ((⟨0,0,0,0⟩:Ue):Ue))++list)
theorem fi55 (list:List Ue) (r:List Ue) (hF:r=(F55 list)):(Imp (.l 4 eHelloEntry r) (.l 4 eHelloEntry (F55 list)))/\True:=by cases hF; exact ⟨Imp.refl _,trivial⟩
def S55 (R:List Ue) (list:List Ue):Spec:=⟨[.r (.c (.l 4 eHelloEntry list))],.ow (.l 4 eHelloEntry R),list.length<=1000000000⟩
theorem ok55 (list:List Ue):(S55 (F55 list) list).ok Tryz.prog 55 :=
 fnG_ok mixed (fn:=Tryz.f55) (ct:=.seqk [(0,0)] .no (.seq (.reg [(2,.dat (.l 4 eHelloEntry (List.replicate (Int.toNat 0) ((⟨0,0,0,0⟩:Ue):Ue)))),(4,.dat (.l 4 eHelloEntry ((List.replicate (Int.toNat 0) ((⟨0,0,0,0⟩:Ue):Ue))++list)))]) .no)) Tryz.func55 (fun (hpre0:list.length<=1000000000)=>kn list fun _=>ai (uu1:0<=(0:Int)/\(0:Int)<=(list.length:Int)/\(32:Int)*(list.length:Int)<=281474976710656) (ai (MakeOK.mk eHelloEntry ((⟨0,0,0,0⟩:Ue):Ue) (by exact ai ir (ai ir (ai ir (ai ir trivial)))):MakeOK 4 [.v (vI 0),.v (vI 0),.v (vI 0),.v (vI 0)] (Int.toNat 0) (.l 4 eHelloEntry (List.replicate (Int.toNat 0) ((⟨0,0,0,0⟩:Ue):Ue)))) (ai (AppL.mk eHelloEntry (List.replicate (Int.toNat 0) ((⟨0,0,0,0⟩:Ue):Ue)) list (Imp.refl (.l 4 eHelloEntry (List.replicate (Int.toNat 0) ((⟨0,0,0,0⟩:Ue):Ue)))) ir (fun y=>⟨rfl,fun e he=>by simp only [eHelloEntry,Ql,Rh,Sr] at he; rcases he with rfl | rfl | rfl | rfl <;> exact ⟨_,rfl⟩⟩):AppL (.l 4 eHelloEntry (List.replicate (Int.toNat 0) ((⟨0,0,0,0⟩:Ue):Ue))) (.l 4 eHelloEntry list) 4 (.l 4 eHelloEntry ((List.replicate (Int.toNat 0) ((⟨0,0,0,0⟩:Ue):Ue))++list))) (ai (uu6:((List.replicate (Int.toNat 0) ((⟨0,0,0,0⟩:Ue):Ue))++list).length*32<=140737488355328) (fi55 list ((List.replicate (Int.toNat 0) ((⟨0,0,0,0⟩:Ue):Ue))++list) rfl))))) uu3
theorem as55 (list:List Ue):F55 list=(list):=by
 rfl
theorem oa55 (list:List Ue):(S55 (list) list).ok Tryz.prog 55:=by
 intro hp; have h:=ok55 list hp; rw [as55 list] at h; exact h
theorem first_congr' {p q:Nat->Bool} {n:Nat} (h:∀ k,k<n->(∀ j,j<k->q j=false)->p k=q k):first p n=first q n:=by
 cases e:first q n with
 | none =>
  rw [first_none] at *
  exact fun k hk=>(h k hk fun j hj=>e j uu0).trans (e k hk)
 | some k =>
  rw [first_some] at *
  obtain ⟨h1,h2,h3⟩:=e
  exact ⟨h1,(h k h1 h3).trans h2,fun j hj=>(h j uu0 fun i hi=>h3 i uu0).trans (h3 j hj)⟩
theorem entryOk_eq (e:Ue):F52 e=F59 e:=rfl
theorem changeOk_eq (c:HelloChange):F24 c=F31 c:=rfl
def badKey (keys:List HelloKey) (k:Nat):Bool :=
 bif (bif (!(decide (1<=(keys.getD k default).Id/\(keys.getD k default).Id<=9))) then true else (!(decide (1<=(keys.getD k default).Secret/\(keys.getD k default).Secret<=2147483646)))) then true else (bif decide (0<k) then decide ((keys.getD (k-1) default).Id>=(keys.getD k default).Id) else false)
theorem keysOkS_eq (keys:List HelloKey):F29 keys=(decide (1<=(keys.length:Int)/\(keys.length:Int)<=3)&&(first (badKey keys) keys.length).isNone):=by
 unfold F29
 rw [allB (badKey keys) keys.length _ (fun k hk=>by simp only [F29_s0,ltD hk,Qd,nn,toNat_pred,pos_cast]; rfl) (by simp [F29_s0])]
 cases decide (1<=(keys.length:Int)/\(keys.length:Int)<=3)
 ·rfl
 ·simp
theorem keysOk_eq (keys:List HelloKey):F23 keys=F29 keys:=by
 rw [keysOkS_eq]
 unfold F23
 rw [allB (badKey keys) keys.length _ (fun k hk=>by simp only [F23_s0,ltD hk,Qd,nn,toNat_pred,pos_cast]; rfl) (by simp [F23_s0])]
 exact Bool.and_comm _ _
theorem keysOkS_T (keys:List HelloKey) (h:F29 keys=true):1<=keys.length/\keys.length<=3:=by
 rw [keysOkS_eq] at h
 simp only [Qh,Rn] at h
 omega
theorem keysOk_T (keys:List HelloKey) (h:F23 keys=true):1<=keys.length/\keys.length<=3:=keysOkS_T keys (keysOk_eq keys ▸ h)
def EIn (e:Ue):Prop:=0<=e.Addr/\e.Addr<=65535/\0<=e.Len/\e.Len<=16
theorem prefix_in {e:Ue} (h:F61 e=true):EIn e:=by
 unfold F61 at h
 unfold EIn
 simp only [Rd,Qh,Rn] at h
 omega
theorem entry_in {e:Ue} (h:F59 e=true):EIn e:=by
 unfold F59 at h
 simp only [Rd,Qh] at h
 exact prefix_in h.1.1
theorem cmp_lt {x y:Ue} (hx:EIn x) (hy:EIn y):decide (F54 (F48 x) (F48 y)<0)=F60 x y:=by
 unfold EIn at hx hy
 unfold F54 F48 F60
 by_cases h:x.Addr=y.Addr
 ·simp only [h,bne_self_eq_false,Qi]
  rw [wrap_of uu0 uu0]
  simp only [Int.lt_irrefl,decide_false,Qi,beq_self_eq_true,Qd]
  rw [Rx]; omega
 ·have h1:(x.Addr != y.Addr)=true:=by simpa using h
  have h2:(x.Addr==y.Addr)=false:=by simpa using h
  simp only [h1,h2,Qd,Qi]
  rw [wrap_of uu0 uu0]
  have e:decide (x.Addr-y.Addr<0)=decide (x.Addr<y.Addr):=by rw [Rx]; omega
  rw [e]
  cases decide (x.Addr<y.Addr) <;> rfl
theorem cmp_ge {x y:Ue} (hx:EIn x) (hy:EIn y):decide (F54 (F48 x) (F48 y)>=0)=!(F60 x y):=by
 rw [<- cmp_lt hx hy,<- decide_not,Rx]; omega
def sameP (x y:Ue):Bool:=bif (x.Addr==y.Addr) then (x.Len==y.Len) else false
theorem cmp_eq {x y:Ue} (hx:EIn x) (hy:EIn y):(F54 (F48 x) (F48 y)==0)=sameP x y:=by
 unfold EIn at hx hy
 unfold F54 F48 sameP
 by_cases h:x.Addr=y.Addr
 ·simp only [h,bne_self_eq_false,Qi,beq_self_eq_true,Qd]
  rw [wrap_of uu0 uu0,beqD,beqD,Rx]; omega
 ·have h1:(x.Addr != y.Addr)=true:=by simpa using h
  have h2:(x.Addr==y.Addr)=false:=by simpa using h
  simp only [h1,h2,Qd,Qi]
  rw [wrap_of uu0 uu0,beqD,Se]; omega
def badE (t:List Ue) (k:Nat):Bool :=
 bif !(F59 (t.getD k default)) then true else bif decide (0<k) then !(F60 (t.getD (k-1) default) (t.getD k default)) else false
theorem badE_ok {t:List Ue} {k:Nat} (h:badE t k=false):F59 (t.getD k default)=true:=by
 unfold badE at h
 cases e:F59 (t.getD k default) with
 | true=>rfl
 | false=>rw [e] at h; cases h
theorem tableOkS_eq (t:List Ue):F30 t=(decide ((t.length:Int)<=8)&&(first (badE t) t.length).isNone):=by
 unfold F30
 rw [allB (badE t) t.length _ (fun k hk=>by simp only [F30_s0,ltD hk,Qd,nn,toNat_pred,pos_cast]; rfl) (by simp [F30_s0])]
 by_cases h:(t.length:Int)>8
 ·rw [Qs h,Qt uu0]; rfl
 ·rw [Qt h,Qs uu0]; simp
theorem tableOk_eq (t:List Ue):F25 t=F30 t:=by
 rw [tableOkS_eq]
 unfold F25
 rw [allB (fun k=>bif !(F52 (t.getD k default)) then true else bif decide (0<k) then decide (F54 (F48 (t.getD (k-1) default)) (F48 (t.getD k default))>=0) else false) t.length _ (fun k hk=>by simp only [F25_s0,ltD hk,Qd,nn,toNat_pred,pos_cast]) (by simp [F25_s0])]
 rw [first_congr' (q:=badE t) fun k hk hb=>by
  unfold badE
  rw [entryOk_eq]
  cases e:F59 (t.getD k default) with
  | false=>rfl
  | true =>
   cases k with
   | zero=>rfl
   | succ k =>
    have h1:=entry_in (badE_ok (hb k uu0))
    simp only [Nat.add_sub_cancel]
    rw [cmp_ge h1 (entry_in e)]]
 exact Bool.and_comm _ _
structure TblOk (t:List Ue):Prop where
 len:t.length<=8
 ok:∀ k,k<t.length->F59 (t.getD k default)=true
 inc:∀ k,k+1<t.length->F60 (t.getD k default) (t.getD (k+1) default)=true
theorem tableOkS_T (t:List Ue) (h:F30 t=true):TblOk t:=by
 rw [tableOkS_eq] at h
 simp only [Qh,Rn,allB_iff] at h
 refine ⟨by omega,fun k hk=>badE_ok (h.2 k hk),fun k hk=>?_⟩
 have h1:=h.2 (k+1) hk
 unfold badE at h1
 rw [badE_ok (h.2 (k+1) hk)] at h1
 simpa using h1
theorem tableOk_T (t:List Ue) (h:F25 t=true):TblOk t:=tableOkS_T t (tableOk_eq t ▸ h)
theorem tableOkS_len (t:List Ue) (h:F30 t=true):t.length<=8:=(tableOkS_T t h).len
theorem tableOk_len (t:List Ue) (h:F25 t=true):t.length<=8:=(tableOk_T t h).len
theorem less_trans {x y z:Ue} (h1:F60 x y=true) (h2:F60 y z=true):F60 x z=true:=by
 unfold F60 at *
 simp only [Rl,Rd,Ti,Qh,Rn,Ts] at *
 omega
theorem less_irr (x:Ue):F60 x x=false:=by
 unfold F60
 simp
theorem TblOk.lt {t:List Ue} (h:TblOk t):∀ (d j:Nat),j+d+1<t.length->F60 (t.getD j default) (t.getD (j+d+1) default)=true
 | 0,j,hj=>h.inc j hj
 | d+1,j,hj=>less_trans (TblOk.lt h d j uu0) (h.inc (j+d+1) hj)
theorem TblOk.eIn {t:List Ue} (h:TblOk t) {k:Nat} (hk:k<t.length):EIn (t.getD k default):=entry_in (h.ok k hk)
def posE (t:List Ue) (e:Ue):Nat:=(first (fun k=>!(F60 (t.getD k default) e)) t.length).getD t.length
theorem posE_le (t:List Ue) (e:Ue):posE t e<=t.length:=by
 unfold posE
 cases h:first (fun k=>!(F60 (t.getD k default) e)) t.length with
 | none=>exact Qn _
 | some k=>exact Nat.le_of_lt (first_some.1 h).1
theorem posE_below {t:List Ue} {e:Ue} {k:Nat} (hk:k<posE t e):F60 (t.getD k default) e=true:=by
 unfold posE at hk
 cases h:first (fun k=>!(F60 (t.getD k default) e)) t.length with
 | none=>rw [h] at hk; simpa using first_none.1 h k hk
 | some j=>rw [h] at hk; simpa using (first_some.1 h).2.2 k hk
theorem posE_at {t:List Ue} {e:Ue} (hk:posE t e<t.length):F60 (t.getD (posE t e) default) e=false:=by
 unfold posE at hk ⊢
 cases h:first (fun k=>!(F60 (t.getD k default) e)) t.length with
 | none=>rw [h] at hk; exact absurd hk (Nat.lt_irrefl _)
 | some j=>simpa using (first_some.1 h).2.1
theorem posE_of {t:List Ue} {e:Ue} {i:Nat} (hi:i<=t.length) (h1:∀ k,k<i->F60 (t.getD k default) e=true) (h2:i<t.length->F60 (t.getD i default) e=false):posE t e=i:=by
 rcases Nat.lt_trichotomy (posE t e) i with h | h | h
 ·have a:=posE_at (t:=t) (e:=e) uu0
  rw [h1 _ h] at a; cases a
 ·exact h
 ·have a:=posE_below h
  have:=posE_le t e
  rw [h2 uu0] at a; cases a
def fndE (t:List Ue) (e:Ue):Bool:=bif decide (posE t e<t.length) then sameP (t.getD (posE t e) default) e else false
theorem fndE_lt {t:List Ue} {e:Ue} (h:fndE t e=true):posE t e<t.length:=by
 unfold fndE at h
 simp only [Rd,Qh,Rn] at h
 exact h.1
def atP (p:NetPrefix):Ue:=⟨p.Addr,p.Len,0,0⟩
theorem bs_run {t:List Ue} {e:Ue} (ht:TblOk t) (he:EIn e):∀ (m i j:Nat),j-i<m->i<=j->j<=t.length->(∀ k,k<i->F60 (t.getD k default) e=true)->(∀ k,j<=k->k<t.length->F60 (t.getD k default) e=false) ->
  runL (F81_s0 t (F48 e) (fun x0 x1=>F82 x0 x1)) m ((i:Int),(j:Int))=.done (((posE t e:Nat):Int),((posE t e:Nat):Int))
 | 0,i,j,hm,_,_,_,_=>absurd hm (Tu _)
 | m+1,i,j,hm,hij,hj,hl,hr=>by
  have h8:=ht.len
  simp only [runL,F81_s0]
  by_cases h:i<j
  ·rw [Qs (uu0:(i:Int)<(j:Int)),Qd,half_eq (i:Int) (j:Int) uu0 uu0 uu0]
   have e1:((i:Int)+(j:Int)) / 2=(((i+j) / 2:Nat):Int):=by omega
   obtain ⟨q,hq⟩:∃ q,q=(i+j) / 2:=⟨_,rfl⟩
   rw [e1,nn,<- hq]
   have hc:decide (F82 (t.getD q default) (F48 e)<0)=F60 (t.getD q default) e:=cmp_lt (ht.eIn uu0) he
   rw [hc]
   cases hb:F60 (t.getD q default) e with
   | true =>
    rw [Qd]
    have e2:(q:Int)+1=((q+1:Nat):Int):=by omega
    rw [e2]
    refine bs_run ht he m (q+1) j uu0 uu0 hj (fun k hk=>?_) hr
    rcases Sx k q with h1 | h1
    ·have:=ht.lt (q-k-1) k uu0
     have e3:k+(q-k-1)+1=q:=by omega
     rw [e3] at this
     exact less_trans this hb
    ·have:k=q:=by omega
     rw [this]; exact hb
   | false =>
    rw [Qi]
    refine bs_run ht he m i q uu0 uu0 uu0 hl fun k hk1 hk2=>?_
    rcases Sx q k with h1 | h1
    ·have:=ht.lt (k-q-1) q uu0
     have e3:q+(k-q-1)+1=k:=by omega
     rw [e3] at this
     cases h2:F60 (t.getD k default) e with
     | false=>rfl
     | true=>rw [less_trans this h2] at hb; cases hb
    ·have:k=q:=by omega
     rw [this]; exact hb
  ·have:i=j:=by omega
   subst this
   rw [Qt (uu0:¬ (i:Int)<(i:Int)),Qi]
   rw [posE_of hj hl (fun hi=>hr i (Qn _) hi)]
theorem find_eq {t:List Ue} {e:Ue} (ht:TblOk t) (he:EIn e):F47 t (F48 e)=(((posE t e:Nat):Int),fndE t e):=by
 have h8:=ht.len
 have hr:=bs_run ht he (Int.toNat ((t.length:Int)-0)+1) 0 t.length uu0 uu0 (Qn _) (fun k hk=>absurd hk (Tu _)) (fun k h1 h2=>by omega)
 unfold F47 F81 F81_j0
 have hr':runL (F81_s0 t (F48 e) (fun x0 x1=>F82 x0 x1)) (Int.toNat ((t.length:Int)-0)+1) (0,(t.length:Int))=_:=hr
 rw [hr']
 simp only [Lp.fin,nn]
 have e1:decide (((posE t e:Nat):Int)<(t.length:Int))=decide (posE t e<t.length):=by rw [Rx]; omega
 rw [e1]
 unfold fndE
 by_cases h:posE t e<t.length
 ·rw [Qs h,Qd,Qd]
  have hc:(F82 (t.getD (posE t e) default) (F48 e)==0)=sameP (t.getD (posE t e) default) e:=cmp_eq (ht.eIn h) he
  rw [hc]
 ·rw [Qt h]; rfl
theorem as47 (table:List Ue) (p:NetPrefix) (h1:TblOk table) (h2:EIn (atP p)):F47 table p=(((posE table (atP p):Nat):Int),fndE table (atP p)) :=
 (Qc (fun q=>F47 table q) (show p=F48 (atP p) from rfl)).trans (find_eq h1 h2)
theorem find_le (table:List Ue) (p:NetPrefix):((posE table (atP p):Nat):Int)<=(table.length:Int):=by
 have:=posE_le table (atP p); omega
theorem at_eq (t:List Ue) (e:Ue):F84 t e=match first (fun k=>sameP (t.getD k default) e) t.length with | some k=>(k:Int) | none=>-1:=by
 unfold F84
 rw [search (fun k=>sameP (t.getD k default) e) (fun k=>(k:Int)) t.length _ (fun k hk=>by simp only [F84_s0,ltD hk,Qd,nn]; rfl) (by simp [F84_s0])]
 all_goals (cases first (fun k=>sameP (t.getD k default) e) t.length <;> rfl)
theorem at_in (t:List Ue) (e:Ue):-1<=F84 t e/\F84 t e<(t.length:Int):=by
 rw [at_eq]
 cases h:first (fun k=>sameP (t.getD k default) e) t.length with
 | none=>simp only; omega
 | some k=>have:=(first_some.1 h).1; simp only; omega
def T47 (R:Int×Bool) (table:List Ue) (p:NetPrefix):Spec:=⟨(S47 R table p).args,(S47 R table p).res,TblOk table/\EIn (atP p)/\table.length<=1000000000⟩
theorem oa47 (table:List Ue) (p:NetPrefix):(T47 (((posE table (atP p):Nat):Int),fndE table (atP p)) table p).ok Tryz.prog 47 false:=by
 intro hp; have h:=ok47 table p hp.2.2; rw [as47 table p hp.1 hp.2.1] at h; exact h
theorem kg60 {K_:Prop} (c_ b_:Bool) (a:Ue) (b:Ue) (k_:K_):(c_=b_->True)/\(c_=b_->Imps (eHelloEntry a) (eHelloEntry a))/\(c_=b_->Imps (eHelloEntry b) (eHelloEntry b))/\K_:=⟨fun _=>trivial,fun _=>Imps.refl _,fun _=>Imps.refl _,k_⟩
theorem kc64a (list:List Ue) {K_:Prop} (p0_:list.length<=1000000000) (k_:K_):(list.length<=1000000000)/\(Imp (.l 4 eHelloEntry list) (.l 4 eHelloEntry list))/\K_:=⟨p0_,Imp.refl _,k_⟩
abbrev kh64a (list:List Ue):Hint true Tryz.prog:=.call 64 (S64 list list) (oa64 list) none
def F62_s0 (table:List Ue) (e1:Ue):Int->Lp Int (List Ue):=fun k400 =>
 bif (bif decide (k400<(table.length:Int)) then (F60 (table.getD k400.toNat default) e1) else false) then (.next (k400+1)) else (.done k400)
def F62_j0 (table:List Ue) (e1:Ue):Lp Int (List Ue) :=
 (runL (F62_s0 table e1) (((table.length:Int)-0).toNat+1) 0).fin Lp.ret (fun k400=>.done k400)
def F62 (table:List Ue) (e1:Ue):List Ue :=
 (F62_j0 table e1).fin (fun r=>r) (fun k=>bif (bif (bif decide (k<(table.length:Int)) then ((table.getD k.toNat default).Addr==e1.Addr) else false) then ((table.getD k.toNat default).Len==e1.Len) else false) then (table.set (k).toNat e1) else (((table.take k.toNat)++[e1])++(table.drop k.toNat)))
abbrev lN62_0 (table:List Ue):Nat×Int:=((((table.length:Int)-0).toNat+1),0)
abbrev lI62_0 (table:List Ue) (m39:Nat) (k400:Int):Prop:=Int.toNat ((table.length:Int)-k400)<m39/\k400<=(table.length:Int)/\(0:Int)<=k400
abbrev lX62_0 (table:List Ue) (e1:Ue):Lp Int (List Ue):=LpX (F62_s0 table e1) (lN62_0 table)
abbrev lJ62_0 (table:List Ue) (e1:Ue) (i:Nat×Int):Prop:=LpJ (F62_s0 table e1) (lN62_0 table) i (lI62_0 table i.1 i.2)
abbrev lH62_0 (table:List Ue) (e1:Ue) (i:Nat×Int) (m39:Nat) (k400:Int):Prop:=LpH (F62_s0 table e1) (lN62_0 table) i m39 k400 (lI62_0 table (m39+1) k400)
abbrev lE62_0 (table:List Ue) (e1:Ue) (k400:Int) (k400_:Int) (K39:Prop):Prop:=((.int .i64 k400:Value)=.int .i64 k400_)/\(Im (.l 4 eHelloEntry table))/\(Rf (.int .i64 e1.Addr))/\(Rf (.int .i64 e1.Len))/\(Rf (.int .i64 e1.Cost))/\(Rf (.int .i64 e1.Label))/\K39
theorem un62_0 (table:List Ue) (e1:Ue) (i:Nat×Int) (h:lJ62_0 table e1 i):lH62_0 table e1 i (i.1-1) i.2:=⟨hd1 h.1 h.2.1,hd3 h.2.1,hd2 h.2.1,h.2.2⟩
theorem bk62_0 (table:List Ue) (e1:Ue) (i:Nat×Int) (m39:Nat) (k400:Int) (hl:m39<i.1) (e:runL (F62_s0 table e1) m39 k400=lX62_0 table e1) (h:lI62_0 table m39 k400):∃ j:Nat×Int,lE62_0 table e1 k400 j.2 (lJ62_0 table e1 j/\j.1<i.1):=⟨(m39,k400),rfl,Imp.refl _,rfl,rfl,rfl,rfl,⟨e,h⟩,hl⟩
theorem en62_0 (table:List Ue) (e1:Ue) (h:0<=(table.length:Int)/\(0:Int)<=0):lE62_0 table e1 0 0 (lJ62_0 table e1 (lN62_0 table)):=⟨rfl,Imp.refl _,rfl,rfl,rfl,rfl,rfl,Qq _,h⟩
abbrev jI62_0 (table:List Ue) (e1:Ue) (k:Int):Prop:=0<=k/\k<=(table.length:Int)
abbrev jJ62_0 (table:List Ue) (e1:Ue) (j:Int):Prop:=(F62_j0 table e1)=Lp.done j/\jI62_0 table e1 j
theorem jn62_0 (table:List Ue) (e1:Ue) (k:Int) (e:(F62_j0 table e1)=Lp.done k) (h:jI62_0 table e1 k):∃ j:Int,((.int .i64 k:Value)=.int .i64 j)/\(Imp (.l 4 eHelloEntry table) (.l 4 eHelloEntry table))/\((.int .i64 e1.Addr:Value)=.int .i64 e1.Addr)/\((.int .i64 e1.Len:Value)=.int .i64 e1.Len)/\((.int .i64 e1.Cost:Value)=.int .i64 e1.Cost)/\((.int .i64 e1.Label:Value)=.int .i64 e1.Label)/\jJ62_0 table e1 j:=⟨k,rfl,Imp.refl _,rfl,rfl,rfl,rfl,e,h⟩
theorem fi62 (table:List Ue) (e1:Ue) (r:List Ue) (hF:r=(F62 table e1)):(Imp (.l 4 eHelloEntry r) (.l 4 eHelloEntry (F62 table e1)))/\True:=by cases hF; exact ⟨Imp.refl _,trivial⟩
def S62 (table:List Ue) (e1:Ue):Spec:=⟨[.r (.c (.l 4 eHelloEntry table)),.r (.g (eHelloEntry e1))],.ow (.l 4 eHelloEntry (F62 table e1)),table.length<=1000000000⟩
theorem ok62 (table:List Ue) (e1:Ue):(S62 table e1).ok Tryz.prog 62 :=
 fnG_ok mixed (fn:=Tryz.f62) (ct:=.seqk [(0,0)] .no (.seqk [(0,0)] .no (.cut (ι:=Int) (fun j=>(fun (k:Int)=>(⟨[(0,some (.h 0 0)),(3,some (.p 1 0)),(5,some (.v (vI k)))],[(0,some (.shr none (.l 4 eHelloEntry table))),(1,some (.box 26 [.v (vI e1.Addr),.v (vI e1.Len),.v (vI e1.Cost),.v (vI e1.Label)]))],2⟩:St)) j) (jJ62_0 table e1) (.blk (.loop (ι:=Nat×Int) (fun i=>(fun (k400:Int)=>(⟨[(0,some (.h 0 0)),(3,some (.p 1 0)),(5,some (.v (vI k400)))],[(0,some (.shr none (.l 4 eHelloEntry table))),(1,some (.box 26 [.v (vI e1.Addr),.v (vI e1.Len),.v (vI e1.Cost),.v (vI e1.Label)]))],2⟩:St)) i.2) (lJ62_0 table e1) (fun i=>i.1) (lN62_0 table) (fun i=>(fun (k400:Int)=>(.seq (.seq (.reg [(10,kh60 (table.getD k400.toNat default) e1)]) (.cond .no .no)) (.blk (.reg [(1,.bnd)])))) i.2))) (fun j=>(fun (k:Int)=>(.seq (.seq .no (.cond (.seq (.reg [(1,kh64a table)]) (.seq (.reg [(4,.dat (.l 4 eHelloEntry (table.set (k).toNat e1)))]) (.seq .no .no))) .no)) (.seq (.reg [(3,kh64a (table.take k.toNat)),(6,.dat (.l 4 eHelloEntry ((table.take k.toNat)++[e1]))),(10,.dat (.l 4 eHelloEntry (((table.take k.toNat)++[e1])++(table.drop k.toNat))))]) .no))) j)))) Tryz.func62 (fun (hpre0:table.length<=1000000000)=>kn table fun _=>kn table fun _=>ai (ai (en62_0 table e1 uu23) (fun (i0:Nat×Int) (hi0:lJ62_0 table e1 i0)=>(fun (m0:Nat) (k400:Int) (hh0:lH62_0 table e1 i0 m0 k400)=>have hI0:=hh0.1; have hl0:=hh0.2.1; have _:=hh0.2.2.1; have _:=hh0.2.2.2; ai (fun k2:(decide (k400<(table.length:Int)))=true=>have _:=Qb k2; (uu1:ib k400 table)) (kg60 (decide (k400<(table.length:Int))) true (table.getD k400.toNat default) e1 (ifb (bif decide (k400<(table.length:Int)) then (F60 (table.getD k400.toNat default) e1) else false) (fun h4=>have _:=Qb (andT1 h4); ai (iok (k400+1) uu1) (bk62_0 table e1 i0 m0 (k400+1) hl0 (runL_next hI0 (condT h4 rfl)) uu18)) (fun h4=>have hD0_5:lX62_0 table e1=Lp.done k400:=runL_done hI0 (condF h4 rfl); jn62_0 table e1 k400 (Ri (finD hD0_5 rfl)) uu23)))) (i0.1-1) i0.2 (un62_0 table e1 i0 hi0))) (fun (j:Int) (hj:jJ62_0 table e1 j)=>(fun (k:Int) (hJ0_6:(F62_j0 table e1)=Lp.done k) (hw:jI62_0 table e1 k)=>have _:=hw.1; have _:=hw.2; ai (fun k7:(decide (k<(table.length:Int)))=true=>have _:=Qb k7; (uu1:ib k table)) (ai (fun k8:(bif decide (k<(table.length:Int)) then ((table.getD k.toNat default).Addr==e1.Addr) else false)=true=>have _:=Qb (andT1 k8); have _:=eq_of_beq (andT2 k8); (uu1:ib k table)) (ifb (bif (bif decide (k<(table.length:Int)) then ((table.getD k.toNat default).Addr==e1.Addr) else false) then ((table.getD k.toNat default).Len==e1.Len) else false) (fun h9=>have _:=Qb (andT1 (andT1 h9)); have _:=eq_of_beq (andT2 (andT1 h9)); have _:=eq_of_beq (andT2 h9); kc64a table uu1 (ai (uu1:ib k table) (ai (setr 4 eHelloEntry table (k).toNat e1) (fi62 table e1 (table.set (k).toNat e1) (finD hJ0_6 (condT h9 rfl)))))) (fun h9=>ai (uu1:0<=(0:Int)/\(0:Int)<=k/\k<=(table.length:Int)) (kc64a (table.take k.toNat) uu1 (ai (appr 4 eHelloEntry (table.take k.toNat) [e1] fun _=>rfl) (ai (uu6:((table.take k.toNat)++[e1]).length*32<=140737488355328) (ai (uu1:0<=k/\k<=(table.length:Int)/\(table.length:Int)<=(table.length:Int)) (ai (AppL.mk eHelloEntry ((table.take k.toNat)++[e1]) (table.drop k.toNat) (Imp.refl (.l 4 eHelloEntry ((table.take k.toNat)++[e1]))) ir (fun y=>⟨rfl,fun e he=>by simp only [eHelloEntry,Ql,Rh,Sr] at he; rcases he with rfl | rfl | rfl | rfl <;> exact ⟨_,rfl⟩⟩):AppL (.l 4 eHelloEntry ((table.take k.toNat)++[e1])) (.l 4 eHelloEntry (table.drop k.toNat)) 4 (.l 4 eHelloEntry (((table.take k.toNat)++[e1])++(table.drop k.toNat)))) (ai (uu6:(((table.take k.toNat)++[e1])++(table.drop k.toNat)).length*32<=140737488355328) (fi62 table e1 (((table.take k.toNat)++[e1])++(table.drop k.toNat)) (finD hJ0_6 (condF h9 rfl))))))))))))) j hj.1 hj.2)) uu3
theorem kc84l (table:List Ue) (e1:Ue) {K_:Prop} (k_:(-1<=(F84 table e1)/\(F84 table e1)<(table.length:Int))->K_):(True)/\(Imp (.l 4 eHelloEntry table) (.l 4 eHelloEntry table))/\(Imps (eHelloEntry e1) (eHelloEntry e1))/\K_:=⟨trivial,Imp.refl _,Imps.refl _,k_ (at_in table e1)⟩
abbrev kh84l (table:List Ue) (e1:Ue):Hint true Tryz.prog:=.call 84 (S84 table e1) (ok84 table e1) none
def F63 (table:List Ue) (e1:Ue):List Ue :=
 bif (decide ((F84 table e1)<0)) then table else ((table.take (F84 table e1).toNat)++(table.drop ((F84 table e1)+1).toNat))
theorem fi63 (table:List Ue) (e1:Ue) (r:List Ue) (hF:r=(F63 table e1)):(Imp (.l 4 eHelloEntry r) (.l 4 eHelloEntry (F63 table e1)))/\True:=by cases hF; exact ⟨Imp.refl _,trivial⟩
def S63 (table:List Ue) (e1:Ue):Spec:=⟨[.r (.c (.l 4 eHelloEntry table)),.r (.g (eHelloEntry e1))],.ow (.l 4 eHelloEntry (F63 table e1)),table.length<=1000000000⟩
theorem ok63 (table:List Ue) (e1:Ue):(S63 table e1).ok Tryz.prog 63 :=
 fnG_ok mixed (fn:=Tryz.f63) (ct:=.seqk [(0,0)] .no (.seq (.reg [(2,kh84l table e1)]) (.seq (.seq .no (.cond (.seq (.reg [(1,kh64a table)]) .no) .no)) (.seq (.reg [(3,kh64a (table.take (F84 table e1).toNat)),(6,.bnd),(8,.dat (.l 4 eHelloEntry ((table.take (F84 table e1).toNat)++(table.drop ((F84 table e1)+1).toNat))))]) .no)))) Tryz.func63 (fun (hpre0:table.length<=1000000000)=>kn table fun _=>kc84l table e1 (fun gv1=>ifd ((F84 table e1)<0) (fun h2 _=>kc64a table uu1 (fi63 table e1 table (condT h2 rfl))) (fun h2 _=>ai (uu1:0<=(0:Int)/\(0:Int)<=(F84 table e1)/\(F84 table e1)<=(table.length:Int)) (kc64a (table.take (F84 table e1).toNat) uu1 (ai (iok ((F84 table e1)+1) uu1) (ai (uu1:0<=((F84 table e1)+1)/\((F84 table e1)+1)<=(table.length:Int)/\(table.length:Int)<=(table.length:Int)) (ai (AppL.mk eHelloEntry (table.take (F84 table e1).toNat) (table.drop ((F84 table e1)+1).toNat) (Imp.refl (.l 4 eHelloEntry (table.take (F84 table e1).toNat))) ir (fun y=>⟨rfl,fun e he=>by simp only [eHelloEntry,Ql,Rh,Sr] at he; rcases he with rfl | rfl | rfl | rfl <;> exact ⟨_,rfl⟩⟩):AppL (.l 4 eHelloEntry (table.take (F84 table e1).toNat)) (.l 4 eHelloEntry (table.drop ((F84 table e1)+1).toNat)) 4 (.l 4 eHelloEntry ((table.take (F84 table e1).toNat)++(table.drop ((F84 table e1)+1).toNat)))) (ai (uu6:((table.take (F84 table e1).toNat)++(table.drop ((F84 table e1)+1).toNat)).length*32<=140737488355328) (fi63 table e1 ((table.take (F84 table e1).toNat)++(table.drop ((F84 table e1)+1).toNat)) (condF h2 rfl)))))))))) uu3
theorem kc62 (table:List Ue) (e1:Ue) {K_:Prop} (p0_:table.length<=1000000000) (k_:K_):(table.length<=1000000000)/\(Imp (.l 4 eHelloEntry table) (.l 4 eHelloEntry table))/\(Imps (eHelloEntry e1) (eHelloEntry e1))/\K_:=⟨p0_,Imp.refl _,Imps.refl _,k_⟩
abbrev kh62 (table:List Ue) (e1:Ue):Hint true Tryz.prog:=.call 62 (S62 table e1) (ok62 table e1) none
theorem kc63 (table:List Ue) (e1:Ue) {K_:Prop} (p0_:table.length<=1000000000) (k_:K_):(table.length<=1000000000)/\(Imp (.l 4 eHelloEntry table) (.l 4 eHelloEntry table))/\(Imps (eHelloEntry e1) (eHelloEntry e1))/\K_:=⟨p0_,Imp.refl _,Imps.refl _,k_⟩
abbrev kh63 (table:List Ue) (e1:Ue):Hint true Tryz.prog:=.call 63 (S63 table e1) (ok63 table e1) none
def F32 (table:List Ue) (c:HelloChange):List Ue :=
 bif (c.Kind==1) then (F62 table c.Entry) else (bif (c.Kind==2) then (F63 table c.Entry) else table)
theorem fi32 (table:List Ue) (c:HelloChange) (r:List Ue) (hF:r=(F32 table c)):(Imp (.l 4 eHelloEntry r) (.l 4 eHelloEntry (F32 table c)))/\True:=by cases hF; exact ⟨Imp.refl _,trivial⟩
def S32 (table:List Ue) (c:HelloChange):Spec:=⟨[.r (.c (.l 4 eHelloEntry table)),.r (.g (eHelloChange c))],.ow (.l 4 eHelloEntry (F32 table c)),table.length<=1000000000⟩
theorem ok32 (table:List Ue) (c:HelloChange):(S32 table c).ok Tryz.prog 32 :=
 fnG_ok mixed (fn:=Tryz.f32) (ct:=.seqk [(0,0)] .no (.seq (.seq .no (.blk (.seq .no (.cond (.seq (.reg [(3,kh62 table c.Entry)]) .no) (.seq .no (.cond (.seq (.reg [(3,kh63 table c.Entry)]) .no) .no)))))) (.seq (.reg [(1,kh64a table)]) .no))) Tryz.func32 (fun (hpre0:table.length<=1000000000)=>kn table fun _=>ife c.Kind 1 (fun h1 _=>kc62 table c.Entry uu0 (fi32 table c (F62 table c.Entry) (condT h1 rfl))) (fun h1 _=>ife c.Kind 2 (fun h2 _=>kc63 table c.Entry uu0 (fi32 table c (F63 table c.Entry) (condF h1 (condT h2 rfl)))) (fun h2 _=>kc64a table uu0 (fi32 table c table (condF h1 (condF h2 rfl)))))) uu3
def F56 (s:List Ue) (i40:Int) (v1:List Ue):List Ue :=
 (s.take i40.toNat++v1++s.drop i40.toNat)
def S56 (s:List Ue) (i40:Int) (v1:List Ue):Spec:=⟨[.ow (.l 4 eHelloEntry s) none,.r (.c (.v (vI i40))),.ow (.l 4 eHelloEntry v1) none],.ow (.l 4 eHelloEntry (F56 s i40 v1)),0<=i40/\i40<=(s.length:Int)/\1<=v1.length/\s.length<=1000000000/\v1.length<=1000000000⟩
theorem ok56 (s:List Ue) (i40:Int) (v1:List Ue):(S56 s i40 v1).ok Tryz.prog 56 :=
 insert_ok eHelloEntry (fun x=>⟨rfl,fun d hd=>by simp only [eHelloEntry,Ql,Rh,Sr] at hd; rcases hd with rfl | rfl | rfl | rfl <;> exact ⟨_,rfl,rfl⟩⟩) s v1 i40
def F57 (s:List Ue) (i40:Int) (j1:Int):List Ue :=
 (s.take i40.toNat++s.drop j1.toNat)
def S57 (s:List Ue) (i40:Int) (j1:Int):Spec:=⟨[.ow (.l 4 eHelloEntry s) none,.r (.c (.v (vI i40))),.r (.c (.v (vI j1)))],.ow (.l 4 eHelloEntry (F57 s i40 j1)),0<=i40/\i40<=j1/\j1<=(s.length:Int)⟩
theorem ok57 (s:List Ue) (i40:Int) (j1:Int):(S57 s i40 j1).ok Tryz.prog 57 :=
 delete_ok eHelloEntry (fun x=>⟨rfl,fun d hd=>by simp only [eHelloEntry,Ql,Rh,Sr] at hd; rcases hd with rfl | rfl | rfl | rfl <;> exact ⟨_,rfl,rfl⟩⟩) s i40 j1
theorem kc55a (list:List Ue) {K_:Prop} (p0_:list.length<=1000000000) (k_:K_):(list.length<=1000000000)/\(Imp (.l 4 eHelloEntry list) (.l 4 eHelloEntry list))/\K_:=⟨p0_,Imp.refl _,k_⟩
theorem kc47a (table:List Ue) (p:NetPrefix) {K_:Prop} (p0_:TblOk table) (p1_:EIn (atP p)) (p2_:table.length<=1000000000) (k_:(((posE table (atP p):Nat):Int)<=(table.length:Int))->K_):(TblOk table/\EIn (atP p)/\table.length<=1000000000)/\(Imp (.l 4 eHelloEntry table) (.l 4 eHelloEntry table))/\(Imps (eNetPrefix p) (eNetPrefix p))/\K_:=⟨⟨p0_,p1_,p2_⟩,Imp.refl _,Imps.refl _,k_ (find_le table p)⟩
abbrev kh55af (list:List Ue):Hint false Tryz.prog:=.call 55 (S55 list list) ((oa55 list).to false) none
abbrev kh48f (e1:Ue):Hint false Tryz.prog:=.call 48 (S48 e1) ((ok48 e1).to false) none
abbrev kh47a (table:List Ue) (p:NetPrefix):Hint false Tryz.prog:=.call 47 (T47 (((posE table (atP p):Nat):Int),fndE table (atP p)) table p) (oa47 table p) none
theorem kc56 (s:List Ue) (i40:Int) (v1:List Ue) {K_:Prop} (p0_:0<=i40) (p1_:i40<=(s.length:Int)) (p2_:1<=v1.length) (p3_:s.length<=1000000000) (p4_:v1.length<=1000000000) (k_:K_):(0<=i40/\i40<=(s.length:Int)/\1<=v1.length/\s.length<=1000000000/\v1.length<=1000000000)/\(Imp (.l 4 eHelloEntry s) (.l 4 eHelloEntry s))/\(Imp (.v (vI i40)) (.v (vI i40)))/\(Imp (.l 4 eHelloEntry v1) (.l 4 eHelloEntry v1))/\K_:=⟨⟨p0_,p1_,p2_,p3_,p4_⟩,Imp.refl _,Imp.refl _,Imp.refl _,k_⟩
abbrev kh56f (s:List Ue) (i40:Int) (v1:List Ue):Hint false Tryz.prog:=.call 56 (S56 s i40 v1) ((ok56 s i40 v1).to false) none
theorem kc57 (s:List Ue) (i40:Int) (j1:Int) {K_:Prop} (p0_:0<=i40) (p1_:i40<=j1) (p2_:j1<=(s.length:Int)) (k_:K_):(0<=i40/\i40<=j1/\j1<=(s.length:Int))/\(Imp (.l 4 eHelloEntry s) (.l 4 eHelloEntry s))/\(Imp (.v (vI i40)) (.v (vI i40)))/\(Imp (.v (vI j1)) (.v (vI j1)))/\K_:=⟨⟨p0_,p1_,p2_⟩,Imp.refl _,Imp.refl _,Imp.refl _,k_⟩
abbrev kh57f (s:List Ue) (i40:Int) (j1:Int):Hint false Tryz.prog:=.call 57 (S57 s i40 j1) ((ok57 s i40 j1).to false) none
def F26 (table:List Ue) (c:HelloChange):List Ue :=
 bif (bif (c.Kind==1) then fndE table (atP (F48 c.Entry)) else false) then (table.set ((posE table (atP (F48 c.Entry)):Nat):Int).toNat c.Entry) else (bif (c.Kind==1) then (F56 table ((posE table (atP (F48 c.Entry)):Nat):Int) ([c.Entry]:List Ue)) else (bif (bif (c.Kind==2) then fndE table (atP (F48 c.Entry)) else false) then (F57 table ((posE table (atP (F48 c.Entry)):Nat):Int) (((posE table (atP (F48 c.Entry)):Nat):Int)+1)) else table))
theorem fi26 (table:List Ue) (c:HelloChange) (r:List Ue) (hF:r=(F26 table c)):(Imp (.l 4 eHelloEntry r) (.l 4 eHelloEntry (F26 table c)))/\True:=by cases hF; exact ⟨Imp.refl _,trivial⟩
def S26 (R:List Ue) (table:List Ue) (c:HelloChange):Spec:=⟨[.r (.c (.l 4 eHelloEntry table)),.r (.g (eHelloChange c))],.ow (.l 4 eHelloEntry R),TblOk table/\EIn c.Entry/\table.length<=8⟩
theorem ok26 (table:List Ue) (c:HelloChange):(S26 (F26 table c) table c).ok Tryz.prog 26 false :=
 fnG_ok mixed (fn:=Tryz.f26) (ct:=.seqk [(0,0)] .no (.seq (.reg [(1,kh55af table)]) (.seq (.reg [(3,kh48f c.Entry),(4,kh47a table (F48 c.Entry))]) (.seq (.blk (.seq .no (.cond (.reg [(5,.dat (.l 4 eHelloEntry (table.set ((posE table (atP (F48 c.Entry)):Nat):Int).toNat c.Entry)))]) (.seq .no (.cond (.reg [(4,.dat (.l 4 eHelloEntry ([c.Entry]:List Ue))),(5,kh56f table ((posE table (atP (F48 c.Entry)):Nat):Int) ([c.Entry]:List Ue))]) (.seq .no (.cond (.reg [(3,.bnd),(4,kh57f table ((posE table (atP (F48 c.Entry)):Nat):Int) (((posE table (atP (F48 c.Entry)):Nat):Int)+1))]) .no))))))) (.seq .no .no))))) Tryz.func26 (fun (hp:TblOk table/\EIn c.Entry/\table.length<=8)=>have hpre0:=hp.1; have hpre1:=hp.2.1; have hpre2:=hp.2.2; kn table fun _=>kc55a table uu1 (kc48 c.Entry (kc47a table (F48 c.Entry) (by assumption) (by assumption) uu1 (fun gv1=>ifb (bif (c.Kind==1) then fndE table (atP (F48 c.Entry)) else false) (fun h2=>have _:=eq_of_beq (andT1 h2); have _:=(andT2 h2); ai (by first | omega | ((have hq:=fndE_lt (by assumption)); (try simp only [lens]); omega):0<=((posE table (atP (F48 c.Entry)):Nat):Int)/\((posE table (atP (F48 c.Entry)):Nat):Int)<(table.length:Int)) (ai (setr 4 eHelloEntry table ((posE table (atP (F48 c.Entry)):Nat):Int).toNat c.Entry) (fi26 table c (table.set ((posE table (atP (F48 c.Entry)):Nat):Int).toNat c.Entry) (condT h2 rfl)))) (fun h2=>ife c.Kind 1 (fun h3 _=>ai (bokr 4 eHelloEntry ([c.Entry]:List Ue) fun _=>rfl) (kc56 table ((posE table (atP (F48 c.Entry)):Nat):Int) ([c.Entry]:List Ue) uu26 uu26 uu26 uu26 uu26 (fi26 table c (F56 table ((posE table (atP (F48 c.Entry)):Nat):Int) ([c.Entry]:List Ue)) (condF h2 (condT h3 rfl))))) (fun h3 _=>ifb (bif (c.Kind==2) then fndE table (atP (F48 c.Entry)) else false) (fun h4=>have _:=eq_of_beq (andT1 h4); have _:=(andT2 h4); ai (iok (((posE table (atP (F48 c.Entry)):Nat):Int)+1) uu1) (kc57 table ((posE table (atP (F48 c.Entry)):Nat):Int) (((posE table (atP (F48 c.Entry)):Nat):Int)+1) uu31 uu31 uu31 (fi26 table c (F57 table ((posE table (atP (F48 c.Entry)):Nat):Int) (((posE table (atP (F48 c.Entry)):Nat):Int)+1)) (condF h2 (condF h3 (condT h4 rfl)))))) (fun h4=>fi26 table c table (condF h2 (condF h3 (condF h4 rfl)))))))))) uu3
theorem change_in (c:HelloChange) (h:F31 c=true):EIn c.Entry:=by
 unfold F31 at h
 have hz:((c.Entry.Addr==0)&&((c.Entry.Len==0)&&((c.Entry.Cost==0)&&(c.Entry.Label==0))))=true->EIn c.Entry:=fun h=>by
  simp only [Qh,Ts] at h
  unfold EIn; omega
 have hg:(bif (bif (F61 c.Entry) then (c.Entry.Cost==0) else false) then (c.Entry.Label==0) else false)=true->EIn c.Entry:=fun h=>by
  simp only [Rd,Qh] at h
  exact prefix_in h.1.1
 cases h0:(c.Kind==0) with
 | true=>rw [h0] at h; exact hz h
 | false =>
  rw [h0] at h
  cases h3:(c.Kind==3) with
  | true=>rw [h3] at h; exact hz h
  | false =>
   rw [h3] at h
   cases h1:(c.Kind==1) with
   | true=>rw [h1] at h; exact entry_in h
   | false =>
    rw [h1] at h
    cases h2:(c.Kind==2) with
    | true=>rw [h2] at h; exact hg h
    | false=>rw [h2] at h; cases h
theorem change_inI (c:HelloChange) (h:F24 c=true):EIn c.Entry:=change_in c (changeOk_eq c ▸ h)
theorem same_iff {x y:Ue}:sameP x y=true↔x.Addr=y.Addr/\x.Len=y.Len:=by
 unfold sameP
 simp only [Rd,Qh,Ts]
theorem less_same {x y:Ue} (h:F60 x y=true):sameP x y=false:=by
 cases e:sameP x y with
 | false=>rfl
 | true =>
  have:=same_iff.1 e
  unfold F60 at h
  simp only [Rl,Rd,Ti,Qh,Rn,Ts] at h
  omega
theorem same_less {x y z:Ue} (h:sameP y z=true):F60 x y=F60 x z:=by
 obtain ⟨h1,h2⟩:=same_iff.1 h
 unfold F60
 rw [h1,h2]
theorem putK_eq (t:List Ue) (e:Ue):F62_j0 t e=.done ((posE t e:Nat):Int):=by
 have hle:=posE_le t e
 have hr:=runL_rule (step:=F62_s0 t e) (fun (k:Nat) (_:Unit)=>((k:Nat):Int)) (posE t e) (fun _ _=>True) (fun _=>False)
  (fun k _ hk _=>.inl ⟨(),by
   simp only [F62_s0,ltD (show k<t.length by omega),Qd,nn,posE_below hk]; rfl,trivial⟩)
  (fun _ _=>by
   simp only [F62_s0,nn]
   rcases Sx (posE t e) t.length with h | h
   ·rw [ltD h,Qd,posE_at h]; rfl
   ·rw [Qt uu0]; rfl)
  (posE t e) 0 () uu0 trivial (Int.toNat ((t.length:Int)-0)+1) uu0
 rcases hr with ⟨_,hr,_⟩ | ⟨_,_,hr⟩
 ·have hr':runL (F62_s0 t e) (Int.toNat ((t.length:Int)-0)+1) 0=_:=hr
  unfold F62_j0
  rw [hr']; rfl
 ·exact hr.elim
theorem put_eq (t:List Ue) (e:Ue):F62 t e=bif fndE t e then t.set (posE t e) e else t.take (posE t e)++[e]++t.drop (posE t e):=by
 unfold F62
 rw [putK_eq]
 simp only [Lp.fin,nn]
 have e1:decide (((posE t e:Nat):Int)<(t.length:Int))=decide (posE t e<t.length):=by rw [Rx]; omega
 rw [e1]
 unfold fndE sameP
 cases decide (posE t e<t.length)
 ·rfl
 ·cases ((t.getD (posE t e) default).Addr==e.Addr) <;> rfl
theorem at_pos {t:List Ue} {e:Ue} (ht:TblOk t):F84 t e=bif fndE t e then ((posE t e:Nat):Int) else -1:=by
 rw [at_eq]
 cases h:fndE t e with
 | true =>
  have hl:=fndE_lt h
  have hs:sameP (t.getD (posE t e) default) e=true:=by
   unfold fndE at h
   simp only [Rd,Qh] at h
   exact h.2
  have:first (fun k=>sameP (t.getD k default) e) t.length=some (posE t e):=first_some.2 ⟨hl,hs,fun j hj=>less_same (posE_below hj)⟩
  rw [this]; rfl
 | false =>
  have:first (fun k=>sameP (t.getD k default) e) t.length=none:=first_none.2 fun k hk=>by
   rcases Nat.lt_trichotomy k (posE t e) with h1 | h1 | h1
   ·exact less_same (posE_below h1)
   ·unfold fndE at h
    rw [<- h1,Qs hk,Qd] at h
    exact h
   ·cases hs:sameP (t.getD k default) e with
    | false=>rfl
    | true =>
     have a:=ht.lt (k-posE t e-1) (posE t e) uu0
     have e3:posE t e+(k-posE t e-1)+1=k:=by omega
     rw [e3,same_less hs,posE_at uu0] at a
     cases a
  rw [this]; rfl
theorem as26 (table:List Ue) (c:HelloChange) (h1:TblOk table) (h2:EIn c.Entry):F26 table c=F32 table c:=by
 have ep:posE table (atP (F48 c.Entry))=posE table c.Entry:=rfl
 have ef:fndE table (atP (F48 c.Entry))=fndE table c.Entry:=rfl
 unfold F26 F32 F63 F56 F57
 rw [ep,ef,put_eq,at_pos h1]
 cases h3:(c.Kind==1) with
 | true =>
  cases fndE table c.Entry
  ·simp only [Qd,Qi,nn]
  ·simp only [Qd,nn]
 | false =>
  cases h4:(c.Kind==2) with
  | false=>rfl
  | true =>
   cases fndE table c.Entry
   ·rfl
   ·simp only [Qd,Qi,nn]
    rw [Qt uu0]; rfl
def T26 (R:List Ue) (table:List Ue) (c:HelloChange):Spec:=⟨(S26 R table c).args,(S26 R table c).res,TblOk table/\EIn c.Entry/\table.length<=8⟩
theorem oa26 (table:List Ue) (c:HelloChange):(T26 (F32 table c) table c).ok Tryz.prog 26 false:=by
 intro hp; have h:=ok26 table c hp; rw [as26 table c hp.1 hp.2.1] at h; exact h
structure Uf where
 Entry:Ue
 Stale:Bool
 deriving DecidableEq,Inhabited
def eHelloRoute (x:Uf):List Dat:=[.v (vI x.Entry.Addr),.v (vI x.Entry.Len),.v (vI x.Entry.Cost),.v (vI x.Entry.Label),.v (.bool x.Stale)]
structure Ud where
 Name:Int
 Peer:Int
 Keys:List HelloKey
 Boot:Int
 Want:List Ue
 Turn:Int
 PeerBoot:Int
 PeerTurn:Int
 Up:Bool
 Left:Int
 Num:Int
 Under:HelloChange
 Told:List Ue
 All:Bool
 Got:Int
 Full:Bool
 Heard:List Uf
 Keep:Int
 deriving DecidableEq,Inhabited
def eHelloEnd (x:Ud):List Dat:=[.v (vI x.Name),.v (vI x.Peer),.l 2 eHelloKey x.Keys,.v (vI x.Boot),.l 4 eHelloEntry x.Want,.v (vI x.Turn),.v (vI x.PeerBoot),.v (vI x.PeerTurn),.v (.bool x.Up),.v (vI x.Left),.v (vI x.Num),.v (vI x.Under.Kind),.v (vI x.Under.Entry.Addr),.v (vI x.Under.Entry.Len),.v (vI x.Under.Entry.Cost),.v (vI x.Under.Entry.Label),.l 4 eHelloEntry x.Told,.v (.bool x.All),.v (vI x.Got),.v (.bool x.Full),.l 5 eHelloRoute x.Heard,.v (vI x.Keep)]
def F33_s0 (e1:Ud):(Bool×Int)->Lp (Bool×Int) Bool:=fun (stale,i40) =>
 bif (decide (i40<(e1.Heard.length:Int))) then (bif (bif (bif (!(F59 (e1.Heard.getD i40.toNat default).Entry)) then true else (bif decide (i40>0) then (!(F60 (e1.Heard.getD (i40-1).toNat default).Entry (e1.Heard.getD i40.toNat default).Entry)) else false)) then true else (bif (!(e1.Heard.getD i40.toNat default).Stale) then (e1.Left==0) else false)) then (.ret false) else (.next ((bif stale then true else (e1.Heard.getD i40.toNat default).Stale),(i40+1)))) else (.done (stale,i40))
def F33 (e1:Ud):Bool :=
 bif (bif decide ((e1.Heard.length:Int)>16) then true else (!(decide (0<=e1.Keep/\e1.Keep<=6)))) then false else ((runL (F33_s0 e1) (((e1.Heard.length:Int)-0).toNat+1) (false,0)).fin (fun r=>r) (fun (stale,i40)=>(stale==decide (e1.Keep>0))))
abbrev lN33_0 (e1:Ud):Nat×(Bool×Int):=((((e1.Heard.length:Int)-0).toNat+1),(false,0))
abbrev lI33_0 (e1:Ud) (m39:Nat) (stale:Bool) (i40:Int):Prop:=Int.toNat ((e1.Heard.length:Int)-i40)<m39/\(0:Int)<=i40
abbrev lX33_0 (e1:Ud):Lp (Bool×Int) Bool:=LpX (F33_s0 e1) (lN33_0 e1)
abbrev lJ33_0 (e1:Ud) (i:Nat×(Bool×Int)):Prop:=LpJ (F33_s0 e1) (lN33_0 e1) i (lI33_0 e1 i.1 i.2.1 i.2.2)
abbrev lH33_0 (e1:Ud) (i:Nat×(Bool×Int)) (m39:Nat) (stale:Bool) (i40:Int):Prop:=LpH (F33_s0 e1) (lN33_0 e1) i m39 (stale,i40) (lI33_0 e1 (m39+1) stale i40)
abbrev lE33_0 (e1:Ud) (stale:Bool) (i40:Int) (stale_:Bool) (i40_:Int) (K39:Prop):Prop:=((.bool stale:Value)=.bool stale_)/\((.int .i64 i40:Value)=.int .i64 i40_)/\(Rf (.int .i64 e1.Name))/\(Rf (.int .i64 e1.Peer))/\(Rf (.int .i64 e1.Boot))/\(Rf (.int .i64 e1.Turn))/\(Rf (.int .i64 e1.PeerBoot))/\(Rf (.int .i64 e1.PeerTurn))/\(Rf (.bool e1.Up))/\(Rf (.int .i64 e1.Left))/\(Rf (.int .i64 e1.Num))/\(Rf (.int .i64 e1.Under.Kind))/\(Rf (.int .i64 e1.Under.Entry.Addr))/\(Rf (.int .i64 e1.Under.Entry.Len))/\(Rf (.int .i64 e1.Under.Entry.Cost))/\(Rf (.int .i64 e1.Under.Entry.Label))/\(Rf (.bool e1.All))/\(Rf (.int .i64 e1.Got))/\(Rf (.bool e1.Full))/\(Rf (.int .i64 e1.Keep))/\(Im (.l 2 eHelloKey e1.Keys))/\(Im (.l 4 eHelloEntry e1.Want))/\(Im (.l 4 eHelloEntry e1.Told))/\(Im (.l 5 eHelloRoute e1.Heard))/\K39
theorem un33_0 (e1:Ud) (i:Nat×(Bool×Int)) (h:lJ33_0 e1 i):lH33_0 e1 i (i.1-1) i.2.1 i.2.2:=⟨hd1 h.1 h.2.1,hd3 h.2.1,hd2 h.2.1,h.2.2⟩
theorem bk33_0 (e1:Ud) (i:Nat×(Bool×Int)) (m39:Nat) (stale:Bool) (i40:Int) (hl:m39<i.1) (e:runL (F33_s0 e1) m39 (stale,i40)=lX33_0 e1) (h:lI33_0 e1 m39 stale i40):∃ j:Nat×(Bool×Int),lE33_0 e1 stale i40 j.2.1 j.2.2 (lJ33_0 e1 j/\j.1<i.1):=⟨(m39,(stale,i40)),rfl,rfl,rfl,rfl,rfl,rfl,rfl,rfl,rfl,rfl,rfl,rfl,rfl,rfl,rfl,rfl,rfl,rfl,rfl,rfl,Imp.refl _,Imp.refl _,Imp.refl _,Imp.refl _,⟨e,h⟩,hl⟩
theorem en33_0 (e1:Ud) (h:(0:Int)<=0):lE33_0 e1 false 0 false 0 (lJ33_0 e1 (lN33_0 e1)):=⟨rfl,rfl,rfl,rfl,rfl,rfl,rfl,rfl,rfl,rfl,rfl,rfl,rfl,rfl,rfl,rfl,rfl,rfl,rfl,rfl,Imp.refl _,Imp.refl _,Imp.refl _,Imp.refl _,rfl,Qq _,h⟩
def S33 (e1:Ud):Spec:=⟨[.r (.g (eHelloEnd e1))],.v (.bool (F33 e1)),True⟩
abbrev q33_1 (e1:Ud) (i40:Int):=(e1.Heard.getD i40.toNat default)
theorem ok33 (e1:Ud):(S33 e1).ok Tryz.prog 33 :=
 fnG_ok mixed (fn:=Tryz.f33) (ct:=.seq .no (.seq (.seq (.reg [(7,kh28a e1.Keep 0 6)]) (.cond (.seq .no .no) .no)) (.seq .no (.seq (.seqk [(1,2),(1,4),(1,16),(1,20)] .no (.blk (.loop (ι:=Nat×(Bool×Int)) (fun i=>(fun (stale:Bool) (i40:Int)=>(⟨[(1,some (.p 0 0)),(3,some (.v (.bool stale))),(4,some (.v (vI i40)))],[(0,some (.box 31 [.v (vI e1.Name),.v (vI e1.Peer),.h 1 0,.v (vI e1.Boot),.h 2 0,.v (vI e1.Turn),.v (vI e1.PeerBoot),.v (vI e1.PeerTurn),.v (.bool e1.Up),.v (vI e1.Left),.v (vI e1.Num),.v (vI e1.Under.Kind),.v (vI e1.Under.Entry.Addr),.v (vI e1.Under.Entry.Len),.v (vI e1.Under.Entry.Cost),.v (vI e1.Under.Entry.Label),.h 3 0,.v (.bool e1.All),.v (vI e1.Got),.v (.bool e1.Full),.h 4 0,.v (vI e1.Keep)])),(1,some (.shr none (.l 2 eHelloKey e1.Keys))),(2,some (.shr none (.l 4 eHelloEntry e1.Want))),(3,some (.shr none (.l 4 eHelloEntry e1.Told))),(4,some (.shr none (.l 5 eHelloRoute e1.Heard)))],5⟩:St)) i.2.1 i.2.2) (lJ33_0 e1) (fun i=>i.1) (lN33_0 e1) (fun i=>(fun (stale:Bool) (i40:Int)=>(.seq (.seq .no (.cond .no .no)) (.seq (.blk (.seq .no (.seq (.seq (.reg [(2,kh59 (q33_1 e1 i40).Entry),(11,.bnd),(17,kh60 (e1.Heard.getD (i40-1).toNat default).Entry (q33_1 e1 i40).Entry)]) (.cond (.seq .no .no) .no)) .no))) (.reg [(1,.bnd)])))) i.2.1 i.2.2)))) (.seq .no .no))))) Tryz.func33 (fun (_:True)=>kg28a (decide ((e1.Heard.length:Int)>16)) false e1.Keep 0 6 (ifb (bif decide ((e1.Heard.length:Int)>16) then true else (!(decide (0<=e1.Keep/\e1.Keep<=6)))) (fun h2=>fiB false (F33 e1) (condT h2 rfl)) (fun h2=>have _:=Rj (orF1 h2); have _:=Qb (notEF (orF2 h2)); kn e1.Keys fun _=>kn e1.Want fun _=>kn e1.Told fun _=>kn e1.Heard fun _=>ai (en33_0 e1 uu0) (fun (i0:Nat×(Bool×Int)) (hi0:lJ33_0 e1 i0)=>(fun (m0:Nat) (stale:Bool) (i40:Int) (hh0:lH33_0 e1 i0 m0 stale i40)=>have hI0:=hh0.1; have hl0:=hh0.2.1; have _:=hh0.2.2.1; have _:=hh0.2.2.2; ifd (i40<(e1.Heard.length:Int)) (fun h4 _=>ai (uu0:ib i40 e1.Heard) (kc59 (q33_1 e1 i40).Entry (ai (fun k6:(decide (i40>0))=true=>have _:=Qb k6; (fun k5:(!(F59 (q33_1 e1 i40).Entry))=false=>iok (i40-1) uu0)) (ai (fun k8:(decide (i40>0))=true=>have _:=Qb k8; (fun k7:(!(F59 (q33_1 e1 i40).Entry))=false=>(uu0:ib (i40-1) e1.Heard))) (ai (fun k10:(decide (i40>0))=true=>have _:=Qb k10; (fun k9:(!(F59 (q33_1 e1 i40).Entry))=false=>trivial)) (ai (fun k12:(decide (i40>0))=true=>have _:=Qb k12; (fun k11:(!(F59 (q33_1 e1 i40).Entry))=false=>(Imps.refl (eHelloEntry (e1.Heard.getD (i40-1).toNat default).Entry)))) (ai (fun k14:(decide (i40>0))=true=>have _:=Qb k14; (fun k13:(!(F59 (q33_1 e1 i40).Entry))=false=>(Imps.refl (eHelloEntry (q33_1 e1 i40).Entry)))) (ifb (bif (bif (!(F59 (q33_1 e1 i40).Entry)) then true else (bif decide (i40>0) then (!(F60 (e1.Heard.getD (i40-1).toNat default).Entry (q33_1 e1 i40).Entry)) else false)) then true else (bif (!(q33_1 e1 i40).Stale) then (e1.Left==0) else false)) (fun h15=>fiB false (F33 e1) (condF h2 (finR (runL_ret hI0 (condT h4 (condT h15 rfl))) rfl))) (fun h15=>ai (iok (i40+1) uu0) (bk33_0 e1 i0 m0 (bif stale then true else (q33_1 e1 i40).Stale) (i40+1) hl0 (runL_next hI0 (condT h4 (condF h15 rfl))) uu7)))))))))) (fun h4 _=>have hD0_16:lX33_0 e1=Lp.done (stale,i40):=runL_done hI0 (condF h4 rfl); fiB (stale==decide (e1.Keep>0)) (F33 e1) (condF h2 (finD hD0_16 rfl)))) (i0.1-1) i0.2.1 i0.2.2 (un33_0 e1 i0 hi0))))) uu3
theorem kc29l (keys:List HelloKey) {K_:Prop} (k_:K_):(True)/\(Imp (.l 2 eHelloKey keys) (.l 2 eHelloKey keys))/\K_:=⟨trivial,Imp.refl _,k_⟩
theorem kg29l {K_:Prop} (c_ b_:Bool) (keys:List HelloKey) (k_:K_):(c_=b_->True)/\(c_=b_->Imp (.l 2 eHelloKey keys) (.l 2 eHelloKey keys))/\K_:=⟨fun _=>trivial,fun _=>Imp.refl _,k_⟩
abbrev kh29l (keys:List HelloKey):Hint true Tryz.prog:=.call 29 (S29 keys) (ok29 keys) none
theorem kc30l (table:List Ue) {K_:Prop} (k_:K_):(True)/\(Imp (.l 4 eHelloEntry table) (.l 4 eHelloEntry table))/\K_:=⟨trivial,Imp.refl _,k_⟩
theorem kg30l {K_:Prop} (c_ b_:Bool) (table:List Ue) (k_:K_):(c_=b_->True)/\(c_=b_->Imp (.l 4 eHelloEntry table) (.l 4 eHelloEntry table))/\K_:=⟨fun _=>trivial,fun _=>Imp.refl _,k_⟩
abbrev kh30l (table:List Ue):Hint true Tryz.prog:=.call 30 (S30 table) (ok30 table) none
theorem kc31l (c:HelloChange) {K_:Prop} (k_:K_):(True)/\(Imps (eHelloChange c) (eHelloChange c))/\K_:=⟨trivial,Imps.refl _,k_⟩
theorem kg31l {K_:Prop} (c_ b_:Bool) (c:HelloChange) (k_:K_):(c_=b_->True)/\(c_=b_->Imps (eHelloChange c) (eHelloChange c))/\K_:=⟨fun _=>trivial,fun _=>Imps.refl _,k_⟩
abbrev kh31l (c:HelloChange):Hint true Tryz.prog:=.call 31 (S31 c) (ok31 c) none
theorem kc32 (table:List Ue) (c:HelloChange) {K_:Prop} (p0_:table.length<=1000000000) (k_:K_):(table.length<=1000000000)/\(Imp (.l 4 eHelloEntry table) (.l 4 eHelloEntry table))/\(Imps (eHelloChange c) (eHelloChange c))/\K_:=⟨p0_,Imp.refl _,Imps.refl _,k_⟩
theorem kg32 {K_:Prop} (c_ b_:Bool) (table:List Ue) (c:HelloChange) (p_:c_=b_->table.length<=1000000000) (k_:K_):(c_=b_->table.length<=1000000000)/\(c_=b_->Imp (.l 4 eHelloEntry table) (.l 4 eHelloEntry table))/\(c_=b_->Imps (eHelloChange c) (eHelloChange c))/\K_:=⟨p_,fun _=>Imp.refl _,fun _=>Imps.refl _,k_⟩
abbrev kh32 (table:List Ue) (c:HelloChange):Hint true Tryz.prog:=.call 32 (S32 table c) (ok32 table c) none
theorem kc33 (e1:Ud) {K_:Prop} (k_:K_):(True)/\(Imps (eHelloEnd e1) (eHelloEnd e1))/\K_:=⟨trivial,Imps.refl _,k_⟩
abbrev kh33 (e1:Ud):Hint true Tryz.prog:=.call 33 (S33 e1) (ok33 e1) none
def F9 (e1:Ud):Bool :=
 bif (bif (bif (bif (bif (bif (!(decide (0<=e1.Name/\e1.Name<=65535))) then true else (!(decide (0<=e1.Peer/\e1.Peer<=65535)))) then true else (e1.Name==e1.Peer)) then true else (!(F29 e1.Keys))) then true else (!(decide (1<=e1.Boot/\e1.Boot<=1000)))) then true else (!(F30 e1.Want))) then false else (bif (bif (bif (bif (!(decide (0<=e1.Turn/\e1.Turn<=1000000))) then true else (!(decide (0<=e1.PeerBoot/\e1.PeerBoot<=999)))) then true else (!(decide (0<=e1.PeerTurn/\e1.PeerTurn<=1000000)))) then true else (!((e1.PeerBoot==0)==(e1.PeerTurn==0)))) then false else (bif (bif (bif (!(decide (0<=e1.Left/\e1.Left<=4))) then true else (bif decide (e1.Left>0) then (e1.PeerBoot==0) else false)) then true else (bif e1.Up then (e1.Left==0) else false)) then false else (bif (bif (bif (bif (bif (bif (!(decide (0<=e1.Num/\e1.Num<=e1.Turn))) then true else (!(decide (0<=e1.Got/\e1.Got<=1000000)))) then true else (!(F31 e1.Under))) then true else (bif decide (e1.Under.Kind>0) then (e1.Num==0) else false)) then true else (!(F30 e1.Told))) then true else (!(F30 (F32 e1.Told e1.Under)))) then false else (F33 e1))))
def S9 (e1:Ud):Spec:=⟨[.r (.g (eHelloEnd e1))],.v (.bool (F9 e1)),True⟩
theorem ok9 (e1:Ud):(S9 e1).ok Tryz.prog 9 :=
 fnG_ok mixed (fn:=Tryz.f9) (ct:=.seq .no (.seq (.seq (.reg [(2,kh28a e1.Name 0 65535),(7,kh28a e1.Peer 0 65535),(20,kh29l e1.Keys),(26,kh28a e1.Boot 1 1000),(32,kh30l e1.Want)]) (.cond (.seq .no .no) .no)) (.seq (.seq (.reg [(2,kh28a e1.Turn 0 1000000),(7,kh28a e1.PeerBoot 0 999),(13,kh28a e1.PeerTurn 0 1000000)]) (.cond (.seq .no .no) .no)) (.seq (.seq (.reg [(2,kh28a e1.Left 0 4)]) (.cond (.seq .no .no) .no)) (.seq (.seq (.reg [(4,kh28a e1.Num 0 e1.Turn),(9,kh28a e1.Got 0 1000000),(15,kh31l e1.Under),(32,kh30l e1.Told),(40,kh32 e1.Told e1.Under),(41,kh30l (F32 e1.Told e1.Under))]) (.cond (.seq .no .no) .no)) (.seq (.reg [(1,kh33 e1)]) .no)))))) Tryz.func9 (fun (_:True)=>kc28a e1.Name 0 65535 (kg28a (!(decide (0<=e1.Name/\e1.Name<=65535))) false e1.Peer 0 65535 (kg29l (bif (bif (!(decide (0<=e1.Name/\e1.Name<=65535))) then true else (!(decide (0<=e1.Peer/\e1.Peer<=65535)))) then true else (e1.Name==e1.Peer)) false e1.Keys (kg28a (bif (bif (bif (!(decide (0<=e1.Name/\e1.Name<=65535))) then true else (!(decide (0<=e1.Peer/\e1.Peer<=65535)))) then true else (e1.Name==e1.Peer)) then true else (!(F29 e1.Keys))) false e1.Boot 1 1000 (kg30l (bif (bif (bif (bif (!(decide (0<=e1.Name/\e1.Name<=65535))) then true else (!(decide (0<=e1.Peer/\e1.Peer<=65535)))) then true else (e1.Name==e1.Peer)) then true else (!(F29 e1.Keys))) then true else (!(decide (1<=e1.Boot/\e1.Boot<=1000)))) false e1.Want (ifb (bif (bif (bif (bif (bif (!(decide (0<=e1.Name/\e1.Name<=65535))) then true else (!(decide (0<=e1.Peer/\e1.Peer<=65535)))) then true else (e1.Name==e1.Peer)) then true else (!(F29 e1.Keys))) then true else (!(decide (1<=e1.Boot/\e1.Boot<=1000)))) then true else (!(F30 e1.Want))) (fun h5=>fiB false (F9 e1) (condT h5 rfl)) (fun h5=>have _:=Qb (notEF (orF1 (orF1 (orF1 (orF1 (orF1 h5)))))); have _:=Qb (notEF (orF2 (orF1 (orF1 (orF1 (orF1 h5)))))); have _:=beqF (orF2 (orF1 (orF1 (orF1 h5)))); have _:1<=e1.Keys.length/\e1.Keys.length<=3:=keysOkS_T e1.Keys (notEF (orF2 (orF1 (orF1 h5)))); have _:=Qb (notEF (orF2 (orF1 h5))); have _:TblOk e1.Want:=tableOkS_T e1.Want (notEF (orF2 h5)); have _:e1.Want.length<=8:=tableOkS_len e1.Want (notEF (orF2 h5)); kc28a e1.Turn 0 1000000 (kg28a (!(decide (0<=e1.Turn/\e1.Turn<=1000000))) false e1.PeerBoot 0 999 (kg28a (bif (!(decide (0<=e1.Turn/\e1.Turn<=1000000))) then true else (!(decide (0<=e1.PeerBoot/\e1.PeerBoot<=999)))) false e1.PeerTurn 0 1000000 (ifb (bif (bif (bif (!(decide (0<=e1.Turn/\e1.Turn<=1000000))) then true else (!(decide (0<=e1.PeerBoot/\e1.PeerBoot<=999)))) then true else (!(decide (0<=e1.PeerTurn/\e1.PeerTurn<=1000000)))) then true else (!((e1.PeerBoot==0)==(e1.PeerTurn==0)))) (fun h8=>fiB false (F9 e1) (condF h5 (condT h8 rfl))) (fun h8=>have _:=Qb (notEF (orF1 (orF1 (orF1 h8)))); have _:=Qb (notEF (orF2 (orF1 (orF1 h8)))); have _:=Qb (notEF (orF2 (orF1 h8))); have _:=(orF2 h8); kc28a e1.Left 0 4 (ifb (bif (bif (!(decide (0<=e1.Left/\e1.Left<=4))) then true else (bif decide (e1.Left>0) then (e1.PeerBoot==0) else false)) then true else (bif e1.Up then (e1.Left==0) else false)) (fun h9=>fiB false (F9 e1) (condF h5 (condF h8 (condT h9 rfl)))) (fun h9=>have _:=Qb (notEF (orF1 (orF1 h9))); kc28a e1.Num 0 e1.Turn (kg28a (!(decide (0<=e1.Num/\e1.Num<=e1.Turn))) false e1.Got 0 1000000 (kg31l (bif (!(decide (0<=e1.Num/\e1.Num<=e1.Turn))) then true else (!(decide (0<=e1.Got/\e1.Got<=1000000)))) false e1.Under (kg30l (bif (bif (bif (!(decide (0<=e1.Num/\e1.Num<=e1.Turn))) then true else (!(decide (0<=e1.Got/\e1.Got<=1000000)))) then true else (!(F31 e1.Under))) then true else (bif decide (e1.Under.Kind>0) then (e1.Num==0) else false)) false e1.Told (kg32 (bif (bif (bif (bif (!(decide (0<=e1.Num/\e1.Num<=e1.Turn))) then true else (!(decide (0<=e1.Got/\e1.Got<=1000000)))) then true else (!(F31 e1.Under))) then true else (bif decide (e1.Under.Kind>0) then (e1.Num==0) else false)) then true else (!(F30 e1.Told))) false e1.Told e1.Under (fun k13=>have _:=Qb (notEF (orF1 (orF1 (orF1 (orF1 k13))))); have _:=Qb (notEF (orF2 (orF1 (orF1 (orF1 k13))))); have _:EIn e1.Under.Entry:=change_in e1.Under (notEF (orF2 (orF1 (orF1 k13)))); have _:TblOk e1.Told:=tableOkS_T e1.Told (notEF (orF2 k13)); have _:e1.Told.length<=8:=tableOkS_len e1.Told (notEF (orF2 k13)); uu16) (kg30l (bif (bif (bif (bif (!(decide (0<=e1.Num/\e1.Num<=e1.Turn))) then true else (!(decide (0<=e1.Got/\e1.Got<=1000000)))) then true else (!(F31 e1.Under))) then true else (bif decide (e1.Under.Kind>0) then (e1.Num==0) else false)) then true else (!(F30 e1.Told))) false (F32 e1.Told e1.Under) (ifb (bif (bif (bif (bif (bif (!(decide (0<=e1.Num/\e1.Num<=e1.Turn))) then true else (!(decide (0<=e1.Got/\e1.Got<=1000000)))) then true else (!(F31 e1.Under))) then true else (bif decide (e1.Under.Kind>0) then (e1.Num==0) else false)) then true else (!(F30 e1.Told))) then true else (!(F30 (F32 e1.Told e1.Under)))) (fun h15=>fiB false (F9 e1) (condF h5 (condF h8 (condF h9 (condT h15 rfl))))) (fun h15=>have _:=Qb (notEF (orF1 (orF1 (orF1 (orF1 (orF1 h15)))))); have _:=Qb (notEF (orF2 (orF1 (orF1 (orF1 (orF1 h15)))))); have _:EIn e1.Under.Entry:=change_in e1.Under (notEF (orF2 (orF1 (orF1 (orF1 h15))))); have _:TblOk e1.Told:=tableOkS_T e1.Told (notEF (orF2 (orF1 h15))); have _:e1.Told.length<=8:=tableOkS_len e1.Told (notEF (orF2 (orF1 h15))); have _:TblOk (F32 e1.Told e1.Under):=tableOkS_T (F32 e1.Told e1.Under) (notEF (orF2 h15)); have _:(F32 e1.Told e1.Under).length<=8:=tableOkS_len (F32 e1.Told e1.Under) (notEF (orF2 h15)); kc33 e1 (fiB (F33 e1) (F9 e1) (condF h5 (condF h8 (condF h9 (condF h15 rfl))))))))))))))))))))))))) uu3
def F89 (r1:Uf):Bool :=
 r1.Stale
def S89 (r1:Uf):Spec:=⟨[.r (.g (eHelloRoute r1))],.v (.bool (F89 r1)),True⟩
theorem ok89 (r1:Uf):(S89 r1).ok Tryz.prog 89 :=
 fnG_ok mixed (fn:=Tryz.f89) (ct:=.seq .no (.seq .no .no)) Tryz.func89 (fun (_:True)=>fiB r1.Stale (F89 r1) rfl) uu3
def fs113 (p:Uf->Bool):FnSpec:=⟨Uf,fun i=>[.g (eHelloRoute i)],fun i=>.bool (p i)⟩
def F102_s0 (s:List Uf) (f:Uf->Bool):Int->Lp Int Int:=fun v8 =>
 bif (decide (v8<(s.length:Int))) then (bif (f (s.getD v8.toNat default)) then (.ret v8) else (.next (v8+1))) else (.done v8)
def F102 (s:List Uf) (f:Uf->Bool):Int :=
 (runL (F102_s0 s f) (((s.length:Int)-0).toNat+1) 0).fin (fun r=>r) (fun v8=>(-1))
abbrev lN102_0 (s:List Uf):Nat×Int:=((((s.length:Int)-0).toNat+1),0)
abbrev lI102_0 (s:List Uf) (m39:Nat) (v8:Int):Prop:=Int.toNat ((s.length:Int)-v8)<m39/\(0:Int)<=v8
abbrev lX102_0 (s:List Uf) (f:Uf->Bool):Lp Int Int:=LpX (F102_s0 s f) (lN102_0 s)
abbrev lJ102_0 (s:List Uf) (f:Uf->Bool) (i:Nat×Int):Prop:=LpJ (F102_s0 s f) (lN102_0 s) i (lI102_0 s i.1 i.2)
abbrev lH102_0 (s:List Uf) (f:Uf->Bool) (i:Nat×Int) (m39:Nat) (v8:Int):Prop:=LpH (F102_s0 s f) (lN102_0 s) i m39 v8 (lI102_0 s (m39+1) v8)
abbrev lE102_0 (s:List Uf) (f:Uf->Bool) (v8:Int) (v8_:Int) (K39:Prop):Prop:=(Rf (.int .i64 (s.length:Int)))/\((.int .i64 v8:Value)=.int .i64 v8_)/\(Im (.l 5 eHelloRoute s))/\(fs113 f=fs113 f)/\K39
theorem un102_0 (s:List Uf) (f:Uf->Bool) (i:Nat×Int) (h:lJ102_0 s f i):lH102_0 s f i (i.1-1) i.2:=⟨hd1 h.1 h.2.1,hd3 h.2.1,hd2 h.2.1,h.2.2⟩
theorem bk102_0 (s:List Uf) (f:Uf->Bool) (i:Nat×Int) (m39:Nat) (v8:Int) (hl:m39<i.1) (e:runL (F102_s0 s f) m39 v8=lX102_0 s f) (h:lI102_0 s m39 v8):∃ j:Nat×Int,lE102_0 s f v8 j.2 (lJ102_0 s f j/\j.1<i.1):=⟨(m39,v8),rfl,rfl,Imp.refl _,rfl,⟨e,h⟩,hl⟩
theorem en102_0 (s:List Uf) (f:Uf->Bool) (h:(0:Int)<=0):lE102_0 s f 0 0 (lJ102_0 s f (lN102_0 s)):=⟨rfl,rfl,Imp.refl _,rfl,rfl,Qq _,h⟩
def S102 (R:Int) (s:List Uf) (f:Uf->Bool):Spec:=⟨[.r (.c (.l 5 eHelloRoute s)),.fn (fs113 f)],.v (vI R),True⟩
theorem ok102 (s:List Uf) (f:Uf->Bool):(S102 (F102 s f) s f).ok Tryz.prog 102 false :=
 fnG_ok mixed (fn:=Tryz.f102) (ct:=.seqk [(0,0)] .no (.seq (.seqk [(0,0)] .no (.blk (.loop (ι:=Nat×Int) (fun i=>(fun (v8:Int)=>(⟨[(0,some (.h 0 0)),(1,some (.h 1 0)),(7,some (.v (vI (s.length:Int)))),(8,some (.v (vI v8)))],[(0,some (.shr none (.l 5 eHelloRoute s))),(1,some (.fn (fs113 f)))],2⟩:St)) i.2) (lJ102_0 s f) (fun i=>i.1) (lN102_0 s) (fun i=>(fun (v8:Int)=>(.seq .no (.seq (.cond .no .no) (.seq (.blk (.seq .no (.seq (.reg [(5,.fnv (fs113 f) (s.getD v8.toNat default))]) (.cond (.seq .no .no) .no)))) (.reg [(0,.bnd)]))))) i.2)))) (.seq .no .no))) Tryz.func102 (fun (_:True)=>kn s fun _=>kn s fun _=>ai (en102_0 s f uu0) (fun (i0:Nat×Int) (hi0:lJ102_0 s f i0)=>(fun (m0:Nat) (v8:Int) (hh0:lH102_0 s f i0 m0 v8)=>have hI0:=hh0.1; have hl0:=hh0.2.1; have _:=hh0.2.2.1; have _:=hh0.2.2.2; ifd (v8<(s.length:Int)) (fun h2 _=>ai (uu0:ib v8 s) (ai (Eq.refl (fs113 f)) (ai (Imps.refl (eHelloRoute (s.getD v8.toNat default))) (ifb (f (s.getD v8.toNat default)) (fun h3=>fiI v8 (F102 s f) (finR (runL_ret hI0 (condT h2 (condT h3 rfl))) rfl)) (fun h3=>ai (iok (v8+1) uu0) (bk102_0 s f i0 m0 (v8+1) hl0 (runL_next hI0 (condT h2 (condF h3 rfl))) uu7)))))) (fun h2 _=>have hD0_4:lX102_0 s f=Lp.done v8:=runL_done hI0 (condF h2 rfl); fiI (-1) (F102 s f) (finD hD0_4 rfl))) (i0.1-1) i0.2 (un102_0 s f i0 hi0))) uu3
theorem as102 (s:List Uf) (f:Uf->Bool):F102 s f=(idxI f s):=by
 exact idx_loop f s (F102_s0 s f) (fun i=>rfl)
theorem oa102 (s:List Uf) (f:Uf->Bool):(S102 (idxI f s) s f).ok Tryz.prog 102 false:=by
 intro hp; have h:=ok102 s f hp; rw [as102 s f] at h; exact h
theorem g102_0 (s:List Uf) (f:Uf->Bool):(idxI f s)<(s.length:Int):=by
 exact idxI_lt f s
theorem g102_1 (s:List Uf) (f:Uf->Bool):-1<=(idxI f s):=by
 (show -1<=idxI f s; unfold idxI; cases first (fun k=>f (s.getD k default)) s.length <;> simp only [oix] <;> omega)
theorem kc102a (s:List Uf) (f:Uf->Bool) {K_:Prop} (k_:((idxI f s)<(s.length:Int))->(-1<=(idxI f s))->K_):(True)/\(Imp (.l 5 eHelloRoute s) (.l 5 eHelloRoute s))/\(fs113 f=fs113 f)/\K_:=⟨trivial,Imp.refl _,rfl,k_ (g102_0 s f) (g102_1 s f)⟩
abbrev kh102a (s:List Uf) (f:Uf->Bool):Hint false Tryz.prog:=.call 102 (S102 (idxI f s) s f) (oa102 s f) none
def F88 (s:List Uf) (f:Uf->Bool):Bool :=
 decide ((idxI f s)>=0)
def S88 (R:Bool) (s:List Uf) (f:Uf->Bool):Spec:=⟨[.r (.c (.l 5 eHelloRoute s)),.fn (fs113 f)],.v (.bool R),True⟩
theorem ok88 (s:List Uf) (f:Uf->Bool):(S88 (F88 s f) s f).ok Tryz.prog 88 false :=
 fnG_ok mixed (fn:=Tryz.f88) (ct:=.seqk [(0,0)] .no (.seq (.reg [(2,kh102a s f)]) .no)) Tryz.func88 (fun (_:True)=>kn s fun _=>kc102a s f (fun gv1 gv2=>fiB (decide ((idxI f s)>=0)) (F88 s f) rfl)) uu3
theorem as88 (s:List Uf) (f:Uf->Bool):F88 s f=(s.any f):=by
 exact any_idx f s
theorem oa88 (s:List Uf) (f:Uf->Bool):(S88 (s.any f) s f).ok Tryz.prog 88 false:=by
 intro hp; have h:=ok88 s f hp; rw [as88 s f] at h; exact h
def F58 (heard:List Uf):Bool :=
 (heard.any (fun (x0:Uf)=>F89 x0))
def S58 (heard:List Uf):Spec:=⟨[.r (.c (.l 5 eHelloRoute heard))],.v (.bool (F58 heard)),True⟩
theorem ok58 (heard:List Uf):(S58 heard).ok Tryz.prog 58 false :=
 fnG_ok mixed (fn:=Tryz.f58) (ct:=.seqk [(0,0)] .no (.seq (.reg [(1,.call 88 (S88 (heard.any (fun (x0:Uf)=>F89 x0)) heard (fun (x0:Uf)=>F89 x0)) (oa88 heard (fun (x0:Uf)=>F89 x0)) (some ⟨true,89,fs113 (fun (x0:Uf)=>F89 x0),[],rfl,True,fun i=>(ok89 i)⟩))]) .no)) Tryz.func58 (fun (_:True)=>kn heard fun _=>ai trivial (ai (Imp.refl (.l 5 eHelloRoute heard)) (ai (Eq.refl (fs113 (fun (x0:Uf)=>F89 x0))) (ai trivial (fiB (heard.any (fun (x0:Uf)=>F89 x0)) (F58 heard) rfl))))) uu3
theorem kg58 {K_:Prop} (c_ b_:Bool) (heard:List Uf) (k_:K_):(c_=b_->True)/\(c_=b_->Imp (.l 5 eHelloRoute heard) (.l 5 eHelloRoute heard))/\K_:=⟨fun _=>trivial,fun _=>Imp.refl _,k_⟩
abbrev kh52f (e1:Ue):Hint false Tryz.prog:=.call 52 (S52 e1) ((ok52 e1).to false) none
abbrev kh54f (p:NetPrefix) (q:NetPrefix):Hint false Tryz.prog:=.call 54 (S54 p q) ((ok54 p q).to false) none
abbrev kh22af (n:Int) (low:Int) (high:Int):Hint false Tryz.prog:=.call 22 (S22 (decide (low<=n/\n<=high)) n low high) ((oa22 n low high).to false) none
abbrev kh58 (heard:List Uf):Hint false Tryz.prog:=.call 58 (S58 heard) (ok58 heard) none
def F27_s0 (e1:Ud):Int->Lp Int Bool:=fun v8 =>
 bif (decide (v8<(e1.Heard.length:Int))) then (bif (bif (bif (!(F52 (e1.Heard.getD v8.toNat default).Entry)) then true else (bif (e1.Left==0) then (!(e1.Heard.getD v8.toNat default).Stale) else false)) then true else (bif decide (v8>0) then decide ((F54 (F48 (e1.Heard.getD (v8-1).toNat default).Entry) (F48 (e1.Heard.getD v8.toNat default).Entry))>=0) else false)) then (.ret false) else (.next (v8+1))) else (.done v8)
def F27 (e1:Ud):Bool :=
 (runL (F27_s0 e1) (((e1.Heard.length:Int)-0).toNat+1) 0).fin (fun r=>r) (fun v8=>(bif (bif decide ((e1.Heard.length:Int)<=16) then (decide (0<=e1.Keep/\e1.Keep<=6)) else false) then (decide (e1.Keep>0)==(F58 e1.Heard)) else false))
abbrev lN27_0 (e1:Ud):Nat×Int:=((((e1.Heard.length:Int)-0).toNat+1),0)
abbrev lI27_0 (e1:Ud) (m39:Nat) (v8:Int):Prop:=Int.toNat ((e1.Heard.length:Int)-v8)<m39/\(0:Int)<=v8
abbrev lX27_0 (e1:Ud):Lp Int Bool:=LpX (F27_s0 e1) (lN27_0 e1)
abbrev lJ27_0 (e1:Ud) (i:Nat×Int):Prop:=LpJ (F27_s0 e1) (lN27_0 e1) i (lI27_0 e1 i.1 i.2)
abbrev lH27_0 (e1:Ud) (i:Nat×Int) (m39:Nat) (v8:Int):Prop:=LpH (F27_s0 e1) (lN27_0 e1) i m39 v8 (lI27_0 e1 (m39+1) v8)
abbrev lE27_0 (e1:Ud) (v8:Int) (v8_:Int) (K39:Prop):Prop:=(Rf (.int .i64 (e1.Heard.length:Int)))/\((.int .i64 v8:Value)=.int .i64 v8_)/\(Rf (.int .i64 e1.Name))/\(Rf (.int .i64 e1.Peer))/\(Rf (.int .i64 e1.Boot))/\(Rf (.int .i64 e1.Turn))/\(Rf (.int .i64 e1.PeerBoot))/\(Rf (.int .i64 e1.PeerTurn))/\(Rf (.bool e1.Up))/\(Rf (.int .i64 e1.Left))/\(Rf (.int .i64 e1.Num))/\(Rf (.int .i64 e1.Under.Kind))/\(Rf (.int .i64 e1.Under.Entry.Addr))/\(Rf (.int .i64 e1.Under.Entry.Len))/\(Rf (.int .i64 e1.Under.Entry.Cost))/\(Rf (.int .i64 e1.Under.Entry.Label))/\(Rf (.bool e1.All))/\(Rf (.int .i64 e1.Got))/\(Rf (.bool e1.Full))/\(Rf (.int .i64 e1.Keep))/\(Im (.l 2 eHelloKey e1.Keys))/\(Im (.l 4 eHelloEntry e1.Want))/\(Im (.l 4 eHelloEntry e1.Told))/\(Im (.l 5 eHelloRoute e1.Heard))/\K39
theorem un27_0 (e1:Ud) (i:Nat×Int) (h:lJ27_0 e1 i):lH27_0 e1 i (i.1-1) i.2:=⟨hd1 h.1 h.2.1,hd3 h.2.1,hd2 h.2.1,h.2.2⟩
theorem bk27_0 (e1:Ud) (i:Nat×Int) (m39:Nat) (v8:Int) (hl:m39<i.1) (e:runL (F27_s0 e1) m39 v8=lX27_0 e1) (h:lI27_0 e1 m39 v8):∃ j:Nat×Int,lE27_0 e1 v8 j.2 (lJ27_0 e1 j/\j.1<i.1):=⟨(m39,v8),rfl,rfl,rfl,rfl,rfl,rfl,rfl,rfl,rfl,rfl,rfl,rfl,rfl,rfl,rfl,rfl,rfl,rfl,rfl,rfl,Imp.refl _,Imp.refl _,Imp.refl _,Imp.refl _,⟨e,h⟩,hl⟩
theorem en27_0 (e1:Ud) (h:(0:Int)<=0):lE27_0 e1 0 0 (lJ27_0 e1 (lN27_0 e1)):=⟨rfl,rfl,rfl,rfl,rfl,rfl,rfl,rfl,rfl,rfl,rfl,rfl,rfl,rfl,rfl,rfl,rfl,rfl,rfl,rfl,Imp.refl _,Imp.refl _,Imp.refl _,Imp.refl _,rfl,Qq _,h⟩
def S27 (e1:Ud):Spec:=⟨[.r (.g (eHelloEnd e1))],.v (.bool (F27 e1)),True⟩
abbrev q27_1 (e1:Ud) (v8:Int):=(e1.Heard.getD v8.toNat default)
theorem ok27 (e1:Ud):(S27 e1).ok Tryz.prog 27 false :=
 fnG_ok mixed (fn:=Tryz.f27) (ct:=.seq .no (.seq (.seqk [(1,2),(1,4),(1,16),(1,20),(6,0)] .no (.blk (.loop (ι:=Nat×Int) (fun i=>(fun (v8:Int)=>(⟨[(1,some (.p 0 0)),(6,some (.h 4 0)),(7,some (.v (vI (e1.Heard.length:Int)))),(8,some (.v (vI v8)))],[(0,some (.box 31 [.v (vI e1.Name),.v (vI e1.Peer),.h 1 0,.v (vI e1.Boot),.h 2 0,.v (vI e1.Turn),.v (vI e1.PeerBoot),.v (vI e1.PeerTurn),.v (.bool e1.Up),.v (vI e1.Left),.v (vI e1.Num),.v (vI e1.Under.Kind),.v (vI e1.Under.Entry.Addr),.v (vI e1.Under.Entry.Len),.v (vI e1.Under.Entry.Cost),.v (vI e1.Under.Entry.Label),.h 3 0,.v (.bool e1.All),.v (vI e1.Got),.v (.bool e1.Full),.h 4 0,.v (vI e1.Keep)])),(1,some (.shr none (.l 2 eHelloKey e1.Keys))),(2,some (.shr none (.l 4 eHelloEntry e1.Want))),(3,some (.shr none (.l 4 eHelloEntry e1.Told))),(4,some (.shr none (.l 5 eHelloRoute e1.Heard)))],5⟩:St)) i.2) (lJ27_0 e1) (fun i=>i.1) (lN27_0 e1) (fun i=>(fun (v8:Int)=>(.seq .no (.seq (.cond .no .no) (.seq (.blk (.seq .no (.seq (.reg [(2,kh52f (q27_1 e1 v8).Entry),(21,.bnd),(25,kh48f (e1.Heard.getD (v8-1).toNat default).Entry),(28,kh48f (q27_1 e1 v8).Entry),(29,kh54f (F48 (e1.Heard.getD (v8-1).toNat default).Entry) (F48 (q27_1 e1 v8).Entry))]) (.cond (.seq .no .no) .no)))) (.reg [(0,.bnd)]))))) i.2)))) (.seq (.reg [(7,kh22af e1.Keep 0 6),(15,kh58 e1.Heard)]) .no))) Tryz.func27 (fun (_:True)=>kn e1.Keys fun _=>kn e1.Want fun _=>kn e1.Told fun _=>kn e1.Heard fun _=>kn e1.Heard fun _=>ai (en27_0 e1 uu0) (fun (i0:Nat×Int) (hi0:lJ27_0 e1 i0)=>(fun (m0:Nat) (v8:Int) (hh0:lH27_0 e1 i0 m0 v8)=>have hI0:=hh0.1; have hl0:=hh0.2.1; have _:=hh0.2.2.1; have _:=hh0.2.2.2; ifd (v8<(e1.Heard.length:Int)) (fun h2 _=>ai (uu0:ib v8 e1.Heard) (kc52 (q27_1 e1 v8).Entry (ai (fun k4:(decide (v8>0))=true=>have _:=Qb k4; (fun k3:(bif (!(F52 (q27_1 e1 v8).Entry)) then true else (bif (e1.Left==0) then (!(q27_1 e1 v8).Stale) else false))=false=>iok (v8-1) uu0)) (ai (fun k6:(decide (v8>0))=true=>have _:=Qb k6; (fun k5:(bif (!(F52 (q27_1 e1 v8).Entry)) then true else (bif (e1.Left==0) then (!(q27_1 e1 v8).Stale) else false))=false=>(uu0:ib (v8-1) e1.Heard))) (ai (fun k8:(decide (v8>0))=true=>have _:=Qb k8; (fun k7:(bif (!(F52 (q27_1 e1 v8).Entry)) then true else (bif (e1.Left==0) then (!(q27_1 e1 v8).Stale) else false))=false=>trivial)) (ai (fun k10:(decide (v8>0))=true=>have _:=Qb k10; (fun k9:(bif (!(F52 (q27_1 e1 v8).Entry)) then true else (bif (e1.Left==0) then (!(q27_1 e1 v8).Stale) else false))=false=>(Imps.refl (eHelloEntry (e1.Heard.getD (v8-1).toNat default).Entry)))) (ai (fun k12:(decide (v8>0))=true=>have _:=Qb k12; (fun k11:(bif (!(F52 (q27_1 e1 v8).Entry)) then true else (bif (e1.Left==0) then (!(q27_1 e1 v8).Stale) else false))=false=>trivial)) (ai (fun k14:(decide (v8>0))=true=>have _:=Qb k14; (fun k13:(bif (!(F52 (q27_1 e1 v8).Entry)) then true else (bif (e1.Left==0) then (!(q27_1 e1 v8).Stale) else false))=false=>(Imps.refl (eHelloEntry (q27_1 e1 v8).Entry)))) (ai (fun k16:(decide (v8>0))=true=>have _:=Qb k16; (fun k15:(bif (!(F52 (q27_1 e1 v8).Entry)) then true else (bif (e1.Left==0) then (!(q27_1 e1 v8).Stale) else false))=false=>trivial)) (ai (fun k18:(decide (v8>0))=true=>have _:=Qb k18; (fun k17:(bif (!(F52 (q27_1 e1 v8).Entry)) then true else (bif (e1.Left==0) then (!(q27_1 e1 v8).Stale) else false))=false=>(Imps.refl (eNetPrefix (F48 (e1.Heard.getD (v8-1).toNat default).Entry))))) (ai (fun k20:(decide (v8>0))=true=>have _:=Qb k20; (fun k19:(bif (!(F52 (q27_1 e1 v8).Entry)) then true else (bif (e1.Left==0) then (!(q27_1 e1 v8).Stale) else false))=false=>(Imps.refl (eNetPrefix (F48 (q27_1 e1 v8).Entry))))) (ifb (bif (bif (!(F52 (q27_1 e1 v8).Entry)) then true else (bif (e1.Left==0) then (!(q27_1 e1 v8).Stale) else false)) then true else (bif decide (v8>0) then decide ((F54 (F48 (e1.Heard.getD (v8-1).toNat default).Entry) (F48 (q27_1 e1 v8).Entry))>=0) else false)) (fun h21=>fiB false (F27 e1) (finR (runL_ret hI0 (condT h2 (condT h21 rfl))) rfl)) (fun h21=>ai (iok (v8+1) uu0) (bk27_0 e1 i0 m0 (v8+1) hl0 (runL_next hI0 (condT h2 (condF h21 rfl))) uu7)))))))))))))) (fun h2 _=>have hD0_22:lX27_0 e1=Lp.done v8:=runL_done hI0 (condF h2 rfl); kg22a (decide ((e1.Heard.length:Int)<=16)) true e1.Keep 0 6 (kg58 (bif decide ((e1.Heard.length:Int)<=16) then (decide (0<=e1.Keep/\e1.Keep<=6)) else false) true e1.Heard (fiB (bif (bif decide ((e1.Heard.length:Int)<=16) then (decide (0<=e1.Keep/\e1.Keep<=6)) else false) then (decide (e1.Keep>0)==(F58 e1.Heard)) else false) (F27 e1) (finD hD0_22 rfl))))) (i0.1-1) i0.2 (un27_0 e1 i0 hi0))) uu3
theorem kg23l {K_:Prop} (c_ b_:Bool) (keys:List HelloKey) (k_:K_):(c_=b_->True)/\(c_=b_->Imp (.l 2 eHelloKey keys) (.l 2 eHelloKey keys))/\K_:=⟨fun _=>trivial,fun _=>Imp.refl _,k_⟩
theorem kg24l {K_:Prop} (c_ b_:Bool) (c:HelloChange) (k_:K_):(c_=b_->True)/\(c_=b_->Imps (eHelloChange c) (eHelloChange c))/\K_:=⟨fun _=>trivial,fun _=>Imps.refl _,k_⟩
theorem kc25l (table:List Ue) {K_:Prop} (k_:K_):(True)/\(Imp (.l 4 eHelloEntry table) (.l 4 eHelloEntry table))/\K_:=⟨trivial,Imp.refl _,k_⟩
theorem kg25l {K_:Prop} (c_ b_:Bool) (table:List Ue) (k_:K_):(c_=b_->True)/\(c_=b_->Imp (.l 4 eHelloEntry table) (.l 4 eHelloEntry table))/\K_:=⟨fun _=>trivial,fun _=>Imp.refl _,k_⟩
theorem kg26a {K_:Prop} (c_ b_:Bool) (table:List Ue) (c:HelloChange) (p_:c_=b_->TblOk table/\EIn c.Entry/\table.length<=8) (k_:K_):(c_=b_->TblOk table/\EIn c.Entry/\table.length<=8)/\(c_=b_->Imp (.l 4 eHelloEntry table) (.l 4 eHelloEntry table))/\(c_=b_->Imps (eHelloChange c) (eHelloChange c))/\K_:=⟨p_,fun _=>Imp.refl _,fun _=>Imps.refl _,k_⟩
abbrev kh23lf (keys:List HelloKey):Hint false Tryz.prog:=.call 23 (S23 keys) ((ok23 keys).to false) none
abbrev kh24lf (c:HelloChange):Hint false Tryz.prog:=.call 24 (S24 c) ((ok24 c).to false) none
abbrev kh25lf (table:List Ue):Hint false Tryz.prog:=.call 25 (S25 table) ((ok25 table).to false) none
abbrev kh26a (table:List Ue) (c:HelloChange):Hint false Tryz.prog:=.call 26 (T26 (F32 table c) table c) (oa26 table c) none
theorem kc27 (e1:Ud) {K_:Prop} (k_:K_):(True)/\(Imps (eHelloEnd e1) (eHelloEnd e1))/\K_:=⟨trivial,Imps.refl _,k_⟩
abbrev kh27 (e1:Ud):Hint false Tryz.prog:=.call 27 (S27 e1) (ok27 e1) none
def F8 (e1:Ud):Bool :=
 bif (bif (bif (bif (!(decide (0<=e1.Name/\e1.Name<=65535))) then true else (!(decide (0<=e1.Peer/\e1.Peer<=65535)))) then true else (e1.Name==e1.Peer)) then true else (!(F23 e1.Keys))) then false else (bif (bif (bif (bif (!(decide (1<=e1.Boot/\e1.Boot<=1000))) then true else (!(decide (0<=e1.Turn/\e1.Turn<=1000000)))) then true else (!(decide (0<=e1.PeerTurn/\e1.PeerTurn<=1000000)))) then true else (!(decide (0<=e1.Got/\e1.Got<=1000000)))) then false else (bif (bif (!(decide (0<=e1.PeerBoot/\e1.PeerBoot<=999))) then true else (!((e1.PeerBoot==0)==(e1.PeerTurn==0)))) then false else (bif (bif (bif (!(decide (0<=e1.Left/\e1.Left<=4))) then true else (bif (e1.PeerBoot==0) then (e1.Left != 0) else false)) then true else (bif e1.Up then (e1.Left==0) else false)) then false else (bif (bif (bif (!(decide (0<=e1.Num/\e1.Num<=e1.Turn))) then true else (!(F24 e1.Under))) then true else (bif (e1.Num==0) then (e1.Under.Kind != 0) else false)) then false else (bif (bif (bif (!(F25 e1.Want)) then true else (!(F25 e1.Told))) then true else (!(F25 (F32 e1.Told e1.Under)))) then false else (F27 e1))))))
def S8 (e1:Ud):Spec:=⟨[.r (.g (eHelloEnd e1))],.v (.bool (F8 e1)),True⟩
theorem ok8 (e1:Ud):(S8 e1).ok Tryz.prog 8 false :=
 fnG_ok mixed (fn:=Tryz.f8) (ct:=.seq .no (.seq (.blk (.seq (.reg [(2,kh22af e1.Name 0 65535),(7,kh22af e1.Peer 0 65535),(20,kh23lf e1.Keys)]) (.cond (.seq .no .no) (.seq (.reg [(2,kh22af e1.Boot 1 1000),(7,kh22af e1.Turn 0 1000000),(13,kh22af e1.PeerTurn 0 1000000),(19,kh22af e1.Got 0 1000000)]) (.cond (.seq .no .no) (.seq (.reg [(2,kh22af e1.PeerBoot 0 999)]) (.cond (.seq .no .no) (.seq (.reg [(2,kh22af e1.Left 0 4)]) (.cond (.seq .no .no) (.seq (.reg [(4,kh22af e1.Num 0 e1.Turn),(9,kh24lf e1.Under)]) (.cond (.seq .no .no) (.seq (.reg [(2,kh25lf e1.Want),(7,kh25lf e1.Told),(15,kh26a e1.Told e1.Under),(16,kh25lf (F32 e1.Told e1.Under))]) (.cond (.seq .no .no) .no))))))))))))) (.seq (.reg [(1,kh27 e1)]) .no))) Tryz.func8 (fun (_:True)=>kc22a e1.Name 0 65535 (kg22a (!(decide (0<=e1.Name/\e1.Name<=65535))) false e1.Peer 0 65535 (kg23l (bif (bif (!(decide (0<=e1.Name/\e1.Name<=65535))) then true else (!(decide (0<=e1.Peer/\e1.Peer<=65535)))) then true else (e1.Name==e1.Peer)) false e1.Keys (ifb (bif (bif (bif (!(decide (0<=e1.Name/\e1.Name<=65535))) then true else (!(decide (0<=e1.Peer/\e1.Peer<=65535)))) then true else (e1.Name==e1.Peer)) then true else (!(F23 e1.Keys))) (fun h3=>fiB false (F8 e1) (condT h3 rfl)) (fun h3=>have _:=Qb (notEF (orF1 (orF1 (orF1 h3)))); have _:=Qb (notEF (orF2 (orF1 (orF1 h3)))); have _:=beqF (orF2 (orF1 h3)); have _:1<=e1.Keys.length/\e1.Keys.length<=3:=keysOk_T e1.Keys (notEF (orF2 h3)); kc22a e1.Boot 1 1000 (kg22a (!(decide (1<=e1.Boot/\e1.Boot<=1000))) false e1.Turn 0 1000000 (kg22a (bif (!(decide (1<=e1.Boot/\e1.Boot<=1000))) then true else (!(decide (0<=e1.Turn/\e1.Turn<=1000000)))) false e1.PeerTurn 0 1000000 (kg22a (bif (bif (!(decide (1<=e1.Boot/\e1.Boot<=1000))) then true else (!(decide (0<=e1.Turn/\e1.Turn<=1000000)))) then true else (!(decide (0<=e1.PeerTurn/\e1.PeerTurn<=1000000)))) false e1.Got 0 1000000 (ifb (bif (bif (bif (!(decide (1<=e1.Boot/\e1.Boot<=1000))) then true else (!(decide (0<=e1.Turn/\e1.Turn<=1000000)))) then true else (!(decide (0<=e1.PeerTurn/\e1.PeerTurn<=1000000)))) then true else (!(decide (0<=e1.Got/\e1.Got<=1000000)))) (fun h7=>fiB false (F8 e1) (condF h3 (condT h7 rfl))) (fun h7=>have _:=Qb (notEF (orF1 (orF1 (orF1 h7)))); have _:=Qb (notEF (orF2 (orF1 (orF1 h7)))); have _:=Qb (notEF (orF2 (orF1 h7))); have _:=Qb (notEF (orF2 h7)); kc22a e1.PeerBoot 0 999 (ifb (bif (!(decide (0<=e1.PeerBoot/\e1.PeerBoot<=999))) then true else (!((e1.PeerBoot==0)==(e1.PeerTurn==0)))) (fun h8=>fiB false (F8 e1) (condF h3 (condF h7 (condT h8 rfl)))) (fun h8=>have _:=Qb (notEF (orF1 h8)); have _:=(orF2 h8); kc22a e1.Left 0 4 (ifb (bif (bif (!(decide (0<=e1.Left/\e1.Left<=4))) then true else (bif (e1.PeerBoot==0) then (e1.Left != 0) else false)) then true else (bif e1.Up then (e1.Left==0) else false)) (fun h9=>fiB false (F8 e1) (condF h3 (condF h7 (condF h8 (condT h9 rfl))))) (fun h9=>have _:=Qb (notEF (orF1 (orF1 h9))); kc22a e1.Num 0 e1.Turn (kg24l (!(decide (0<=e1.Num/\e1.Num<=e1.Turn))) false e1.Under (ifb (bif (bif (!(decide (0<=e1.Num/\e1.Num<=e1.Turn))) then true else (!(F24 e1.Under))) then true else (bif (e1.Num==0) then (e1.Under.Kind != 0) else false)) (fun h11=>fiB false (F8 e1) (condF h3 (condF h7 (condF h8 (condF h9 (condT h11 rfl)))))) (fun h11=>have _:=Qb (notEF (orF1 (orF1 h11))); have _:EIn e1.Under.Entry:=change_inI e1.Under (notEF (orF2 (orF1 h11))); kc25l e1.Want (kg25l (!(F25 e1.Want)) false e1.Told (kg26a (bif (!(F25 e1.Want)) then true else (!(F25 e1.Told))) false e1.Told e1.Under (fun k13=>have _:TblOk e1.Want:=tableOk_T e1.Want (notEF (orF1 k13)); have _:e1.Want.length<=8:=tableOk_len e1.Want (notEF (orF1 k13)); have _:TblOk e1.Told:=tableOk_T e1.Told (notEF (orF2 k13)); have _:e1.Told.length<=8:=tableOk_len e1.Told (notEF (orF2 k13)); ⟨(by first | assumption | exact EndFit.told (by assumption)),(by first | assumption | exact EndFit.under (by assumption)),(by first | omega | exact EndFit.toldB (by first | assumption | exact EndFit.side (by assumption) _) | exact EndFit.told8 (by first | assumption | exact EndFit.side (by assumption) _))⟩) (kg25l (bif (!(F25 e1.Want)) then true else (!(F25 e1.Told))) false (F32 e1.Told e1.Under) (ifb (bif (bif (!(F25 e1.Want)) then true else (!(F25 e1.Told))) then true else (!(F25 (F32 e1.Told e1.Under)))) (fun h15=>fiB false (F8 e1) (condF h3 (condF h7 (condF h8 (condF h9 (condF h11 (condT h15 rfl))))))) (fun h15=>have _:TblOk e1.Want:=tableOk_T e1.Want (notEF (orF1 (orF1 h15))); have _:e1.Want.length<=8:=tableOk_len e1.Want (notEF (orF1 (orF1 h15))); have _:TblOk e1.Told:=tableOk_T e1.Told (notEF (orF2 (orF1 h15))); have _:e1.Told.length<=8:=tableOk_len e1.Told (notEF (orF2 (orF1 h15))); have _:TblOk (F32 e1.Told e1.Under):=tableOk_T (F32 e1.Told e1.Under) (notEF (orF2 h15)); have _:(F32 e1.Told e1.Under).length<=8:=tableOk_len (F32 e1.Told e1.Under) (notEF (orF2 h15)); kc27 e1 (fiB (F27 e1) (F8 e1) (condF h3 (condF h7 (condF h8 (condF h9 (condF h11 (condF h15 rfl))))))))))))))))))))))))))))) uu3
def badR (e:Ud) (k:Nat):Bool :=
 bif (bif (!(F59 (e.Heard.getD k default).Entry)) then true else (bif decide (0<k) then (!(F60 (e.Heard.getD (k-1) default).Entry (e.Heard.getD k default).Entry)) else false)) then true else (bif (!((e.Heard.getD k default).Stale)) then (e.Left==0) else false)
theorem badR_ok {e:Ud} {k:Nat} (h:badR e k=false):F59 (e.Heard.getD k default).Entry=true:=by
 unfold badR at h
 cases x:F59 (e.Heard.getD k default).Entry with
 | true=>rfl
 | false=>rw [x] at h; cases h
def anySt (l:List Uf):Bool:=l.any (fun r=>r.Stale)
theorem heardS_eq (e:Ud):F33 e=bif (bif decide ((e.Heard.length:Int)>16) then true else (!(decide (0<=e.Keep/\e.Keep<=6)))) then false else ((first (badR e) e.Heard.length).isNone&&(anySt e.Heard==decide (e.Keep>0))):=by
 unfold F33
 have hr:=runL_rule (step:=F33_s0 e) (fun (k:Nat) (s:Bool)=>((s,(k:Int)):Bool×Int)) e.Heard.length (fun k s=>s=anySt (e.Heard.take k)/\∀ j,j<k->badR e j=false) (fun r=>r=false/\(first (badR e) e.Heard.length).isNone=false)
  (fun k s hk hI=>by
   simp only [F33_s0,ltD hk,Qd,nn,toNat_pred,pos_cast]
   cases hb:badR e k with
   | true =>
    refine .inr ⟨false,?_,rfl,?_⟩
    ·have hb':=hb
     unfold badR at hb'
     rw [hb']; rfl
    ·cases hn:first (badR e) e.Heard.length with
     | none=>rw [first_none.1 hn k hk] at hb; cases hb
     | some _=>rfl
   | false =>
    have hb':=hb
    unfold badR at hb'
    rw [hb',Qi]
    refine .inl ⟨_,rfl,?_,fun j hj=>?_⟩
    ·rw [hI.1,take_next hk]
     unfold anySt
     rw [List.any_append]
     cases (e.Heard.take k).any (fun r=>r.Stale) <;> simp
    ·rcases Sx j k with h | h
     ·exact hI.2 j h
     ·have:j=k:=by omega
      rw [this]; exact hb)
  (fun s _=>by simp [F33_s0])
  e.Heard.length 0 false uu0 ⟨rfl,fun j hj=>absurd hj (Tu _)⟩ (Int.toNat ((e.Heard.length:Int)-0)+1) uu0
 congr 1
 rcases hr with ⟨s,hr,h1,h2⟩ | ⟨r,hr,h1,h2⟩
 ·have hr':runL (F33_s0 e) (Int.toNat ((e.Heard.length:Int)-0)+1) (false,0)=_:=hr
  rw [hr']
  have:(first (badR e) e.Heard.length).isNone=true:=by rw [first_none.2 h2]; rfl
  rw [this,Bool.true_and]
  show (s==_)=_
  rw [h1,List.take_length]
 ·have hr':runL (F33_s0 e) (Int.toNat ((e.Heard.length:Int)-0)+1) (false,0)=_:=hr
  rw [hr',h2]
  show r=_
  rw [h1]; rfl
theorem heard_eq (e:Ud):F27 e=F33 e:=by
 rw [heardS_eq]
 unfold F27
 rw [allB (fun k=>bif (bif (!(F52 (e.Heard.getD k default).Entry)) then true else (bif (e.Left==0) then (!((e.Heard.getD k default).Stale)) else false)) then true else (bif decide (0<k) then decide (F54 (F48 (e.Heard.getD (k-1) default).Entry) (F48 (e.Heard.getD k default).Entry)>=0) else false)) e.Heard.length _ (fun k hk=>by simp only [F27_s0,ltD hk,Qd,nn,toNat_pred,pos_cast]) (by simp [F27_s0])]
 rw [first_congr' (q:=badR e) fun k hk hb=>by
  unfold badR
  rw [entryOk_eq]
  cases x:F59 (e.Heard.getD k default).Entry with
  | false=>rfl
  | true =>
   cases k with
   | zero=>cases (e.Left==0) <;> cases (e.Heard.getD 0 default).Stale <;> rfl
   | succ k =>
    have h1:=entry_in (badR_ok (hb k uu0))
    simp only [Nat.add_sub_cancel]
    rw [cmp_ge h1 (entry_in x)]
    cases (e.Left==0) <;> cases (e.Heard.getD (k+1) default).Stale <;> cases F60 (e.Heard.getD k default).Entry (e.Heard.getD (k+1) default).Entry <;> simp]
 have ha:F58 e.Heard=anySt e.Heard:=rfl
 rw [ha]
 have hd:decide ((e.Heard.length:Int)>16)=!(decide ((e.Heard.length:Int)<=16)):=by rw [<- decide_not,Rx]; omega
 rw [hd]
 cases (first (badR e) e.Heard.length).isNone <;> cases decide ((e.Heard.length:Int)<=16) <;> cases decide (0<=e.Keep/\e.Keep<=6) <;> cases anySt e.Heard <;> cases decide (e.Keep>0) <;> rfl
theorem change_kind {c:HelloChange} (h:F31 c=true):c.Kind=0\/c.Kind=1\/c.Kind=2\/c.Kind=3:=by
 unfold F31 at h
 by_cases h0:c.Kind=0
 ·exact .inl h0
 by_cases h1:c.Kind=1
 ·exact .inr (.inl h1)
 by_cases h2:c.Kind=2
 ·exact .inr (.inr (.inl h2))
 by_cases h3:c.Kind=3
 ·exact .inr (.inr (.inr h3))
 have e0:(c.Kind==0)=false:=by simpa using h0
 have e1:(c.Kind==1)=false:=by simpa using h1
 have e2:(c.Kind==2)=false:=by simpa using h2
 have e3:(c.Kind==3)=false:=by simpa using h3
 rw [e0,e1,e2,e3] at h
 cases h
theorem endOk_eq (e:Ud):F8 e=F9 e:=by
 unfold F8 F9
 have hl:decide (0<=e.Left/\e.Left<=4)=true->decide (e.Left>0)=!(e.Left==0):=fun h=>by
  have:=Qb h
  rw [beqD,<- decide_not,Rx]; omega
 have hk:F31 e.Under=true->decide (e.Under.Kind>0)=!(e.Under.Kind==0):=fun h=>by
  have:=change_kind h
  rw [beqD,<- decide_not,Rx]; omega
 have hb:∀ a b:Int,(a != b)=!(a==b):=fun _ _=>rfl
 simp only [keysOk_eq,changeOk_eq,tableOk_eq,heard_eq,hb]
 generalize F31 e.Under=bu at *
 generalize decide (0<=e.Left/\e.Left<=4)=bl at *
 generalize decide (0<=e.Name/\e.Name<=65535)=b1
 generalize decide (0<=e.Peer/\e.Peer<=65535)=b2
 generalize (e.Name==e.Peer)=b3
 generalize F29 e.Keys=b4
 generalize decide (1<=e.Boot/\e.Boot<=1000)=b5
 generalize F30 e.Want=b6
 generalize decide (0<=e.Turn/\e.Turn<=1000000)=b7
 generalize decide (0<=e.PeerBoot/\e.PeerBoot<=999)=b8
 generalize decide (0<=e.PeerTurn/\e.PeerTurn<=1000000)=b9
 generalize decide (0<=e.Num/\e.Num<=e.Turn)=c1
 generalize decide (0<=e.Got/\e.Got<=1000000)=c2
 generalize F30 e.Told=c3
 generalize F30 (F32 e.Told e.Under)=c4
 generalize (e.PeerBoot==0)=c5
 generalize (e.PeerTurn==0)=c6
 generalize (e.Num==0)=c7
 cases bu
 ·simp
 cases bl
 ·simp
 rw [hl rfl,hk rfl]
 generalize (e.Left==0)=c8
 generalize (e.Under.Kind==0)=c9
 generalize e.Up=d1
 cases b1
 ·simp
 cases b2
 ·simp
 cases b3
 rotate_left
 ·simp
 cases b4
 ·simp
 cases b5
 ·simp
 cases b6
 ·simp
 cases b7
 ·simp
 cases b8
 ·simp
 cases b9
 ·simp
 cases c1
 ·simp
 cases c2
 ·simp
 cases c3
 ·simp
 cases c4
 ·simp
 cases c5 <;> cases c6 <;> cases c7 <;> cases c8 <;> cases c9 <;> cases d1 <;> simp
def smallE (e:Ud):Prop:=e.Keys.length<=1000000000/\e.Want.length<=1000000000/\e.Told.length<=1000000000/\e.Heard.length<=1000000000
theorem endOkS_T (e:Ud) (h:F9 e=true):1<=e.Keys.length/\e.Keys.length<=3/\e.Want.length<=8/\e.Told.length<=8/\e.Heard.length<=16:=by
 have h1:F29 e.Keys=true:=by
  cases x:F29 e.Keys with
  | true=>rfl
  | false=>simp [F9,x] at h
 have h2:F30 e.Want=true:=by
  cases x:F30 e.Want with
  | true=>rfl
  | false=>simp [F9,x] at h
 have h3:F30 e.Told=true:=by
  cases x:F30 e.Told with
  | true=>rfl
  | false=>simp [F9,x] at h
 have h4:F33 e=true:=by
  cases x:F33 e with
  | true=>rfl
  | false=>simp [F9,x] at h
 have a1:=keysOkS_T _ h1
 have a2:=tableOkS_len _ h2
 have a3:=tableOkS_len _ h3
 rw [heardS_eq] at h4
 have a4:¬ (e.Heard.length:Int)>16:=fun hc=>by rw [Qs hc] at h4; cases h4
 omega
theorem endOk_T (e:Ud) (h:F8 e=true):1<=e.Keys.length/\e.Keys.length<=3/\e.Want.length<=8/\e.Told.length<=8/\e.Heard.length<=16:=endOkS_T e (endOk_eq e ▸ h)
def F69 (list:List HelloKey):List HelloKey :=
 (([]:List HelloKey)++list)
theorem fi69 (list:List HelloKey) (r:List HelloKey) (hF:r=(F69 list)):(Imp (.l 2 eHelloKey r) (.l 2 eHelloKey (F69 list)))/\True:=by cases hF; exact ⟨Imp.refl _,trivial⟩
def S69 (R:List HelloKey) (list:List HelloKey):Spec:=⟨[.r (.c (.l 2 eHelloKey list))],.ow (.l 2 eHelloKey R),list.length<=1000000000⟩
theorem ok69 (list:List HelloKey):(S69 (F69 list) list).ok Tryz.prog 69 :=
 fnG_ok mixed (fn:=Tryz.f69) (ct:=.seqk [(0,0)] .no (.seq (.reg [(0,.dat (.l 2 eHelloKey ([]:List HelloKey))),(2,.dat (.l 2 eHelloKey (([]:List HelloKey)++list)))]) .no)) Tryz.func69 (fun (hpre0:list.length<=1000000000)=>kn list fun _=>ai (bokr 2 eHelloKey ([]:List HelloKey) fun _=>rfl) (ai (AppL.mk eHelloKey ([]:List HelloKey) list (Imp.refl (.l 2 eHelloKey ([]:List HelloKey))) ir (fun y=>⟨rfl,fun e he=>by simp only [eHelloKey,Ql,Rh,Sr] at he; rcases he with rfl | rfl <;> exact ⟨_,rfl⟩⟩):AppL (.l 2 eHelloKey ([]:List HelloKey)) (.l 2 eHelloKey list) 2 (.l 2 eHelloKey (([]:List HelloKey)++list))) (ai (uu6:(([]:List HelloKey)++list).length*16<=140737488355328) (fi69 list (([]:List HelloKey)++list) rfl)))) uu3
theorem as69 (list:List HelloKey):F69 list=(list):=by
 rfl
theorem oa69 (list:List HelloKey):(S69 (list) list).ok Tryz.prog 69:=by
 intro hp; have h:=ok69 list hp; rw [as69 list] at h; exact h
def F70 (list:List Uf):List Uf :=
 (([]:List Uf)++list)
theorem fi70 (list:List Uf) (r:List Uf) (hF:r=(F70 list)):(Imp (.l 5 eHelloRoute r) (.l 5 eHelloRoute (F70 list)))/\True:=by cases hF; exact ⟨Imp.refl _,trivial⟩
def S70 (R:List Uf) (list:List Uf):Spec:=⟨[.r (.c (.l 5 eHelloRoute list))],.ow (.l 5 eHelloRoute R),list.length<=1000000000⟩
theorem ok70 (list:List Uf):(S70 (F70 list) list).ok Tryz.prog 70 :=
 fnG_ok mixed (fn:=Tryz.f70) (ct:=.seqk [(0,0)] .no (.seq (.reg [(0,.dat (.l 5 eHelloRoute ([]:List Uf))),(2,.dat (.l 5 eHelloRoute (([]:List Uf)++list)))]) .no)) Tryz.func70 (fun (hpre0:list.length<=1000000000)=>kn list fun _=>ai (bokr 5 eHelloRoute ([]:List Uf) fun _=>rfl) (ai (AppL.mk eHelloRoute ([]:List Uf) list (Imp.refl (.l 5 eHelloRoute ([]:List Uf))) ir (fun y=>⟨rfl,fun e he=>by simp only [eHelloRoute,Ql,Rh,Sr] at he; rcases he with rfl | rfl | rfl | rfl | rfl <;> exact ⟨_,rfl⟩⟩):AppL (.l 5 eHelloRoute ([]:List Uf)) (.l 5 eHelloRoute list) 5 (.l 5 eHelloRoute (([]:List Uf)++list))) (ai (uu6:(([]:List Uf)++list).length*40<=140737488355328) (fi70 list (([]:List Uf)++list) rfl)))) uu3
theorem as70 (list:List Uf):F70 list=(list):=by
 rfl
theorem oa70 (list:List Uf):(S70 (list) list).ok Tryz.prog 70:=by
 intro hp; have h:=ok70 list hp; rw [as70 list] at h; exact h
theorem kc69a (list:List HelloKey) {K_:Prop} (p0_:list.length<=1000000000) (k_:K_):(list.length<=1000000000)/\(Imp (.l 2 eHelloKey list) (.l 2 eHelloKey list))/\K_:=⟨p0_,Imp.refl _,k_⟩
abbrev kh69a (list:List HelloKey):Hint true Tryz.prog:=.call 69 (S69 list list) (oa69 list) none
theorem kc70a (list:List Uf) {K_:Prop} (p0_:list.length<=1000000000) (k_:K_):(list.length<=1000000000)/\(Imp (.l 5 eHelloRoute list) (.l 5 eHelloRoute list))/\K_:=⟨p0_,Imp.refl _,k_⟩
abbrev kh70a (list:List Uf):Hint true Tryz.prog:=.call 70 (S70 list list) (oa70 list) none
def F36 (e1:Ud):Ud :=
 e1
theorem fi36 (e1:Ud) (r:Ud) (hF:r=(F36 e1)):((.int .i64 r.Name:Value)=.int .i64 (F36 e1).Name)/\((.int .i64 r.Peer:Value)=.int .i64 (F36 e1).Peer)/\(Imp (.l 2 eHelloKey r.Keys) (.l 2 eHelloKey (F36 e1).Keys))/\((.int .i64 r.Boot:Value)=.int .i64 (F36 e1).Boot)/\(Imp (.l 4 eHelloEntry r.Want) (.l 4 eHelloEntry (F36 e1).Want))/\((.int .i64 r.Turn:Value)=.int .i64 (F36 e1).Turn)/\((.int .i64 r.PeerBoot:Value)=.int .i64 (F36 e1).PeerBoot)/\((.int .i64 r.PeerTurn:Value)=.int .i64 (F36 e1).PeerTurn)/\((.bool r.Up:Value)=.bool (F36 e1).Up)/\((.int .i64 r.Left:Value)=.int .i64 (F36 e1).Left)/\((.int .i64 r.Num:Value)=.int .i64 (F36 e1).Num)/\((.int .i64 r.Under.Kind:Value)=.int .i64 (F36 e1).Under.Kind)/\((.int .i64 r.Under.Entry.Addr:Value)=.int .i64 (F36 e1).Under.Entry.Addr)/\((.int .i64 r.Under.Entry.Len:Value)=.int .i64 (F36 e1).Under.Entry.Len)/\((.int .i64 r.Under.Entry.Cost:Value)=.int .i64 (F36 e1).Under.Entry.Cost)/\((.int .i64 r.Under.Entry.Label:Value)=.int .i64 (F36 e1).Under.Entry.Label)/\(Imp (.l 4 eHelloEntry r.Told) (.l 4 eHelloEntry (F36 e1).Told))/\((.bool r.All:Value)=.bool (F36 e1).All)/\((.int .i64 r.Got:Value)=.int .i64 (F36 e1).Got)/\((.bool r.Full:Value)=.bool (F36 e1).Full)/\(Imp (.l 5 eHelloRoute r.Heard) (.l 5 eHelloRoute (F36 e1).Heard))/\((.int .i64 r.Keep:Value)=.int .i64 (F36 e1).Keep)/\True:=by cases hF; exact ⟨rfl,rfl,Imp.refl _,rfl,Imp.refl _,rfl,rfl,rfl,rfl,rfl,rfl,rfl,rfl,rfl,rfl,rfl,Imp.refl _,rfl,rfl,rfl,Imp.refl _,rfl,trivial⟩
def S36 (R:Ud) (e1:Ud):Spec:=⟨[.r (.g (eHelloEnd e1))],.ag [.v (vI R.Name),.v (vI R.Peer),.ow (.l 2 eHelloKey R.Keys),.v (vI R.Boot),.ow (.l 4 eHelloEntry R.Want),.v (vI R.Turn),.v (vI R.PeerBoot),.v (vI R.PeerTurn),.v (.bool R.Up),.v (vI R.Left),.v (vI R.Num),.v (vI R.Under.Kind),.v (vI R.Under.Entry.Addr),.v (vI R.Under.Entry.Len),.v (vI R.Under.Entry.Cost),.v (vI R.Under.Entry.Label),.ow (.l 4 eHelloEntry R.Told),.v (.bool R.All),.v (vI R.Got),.v (.bool R.Full),.ow (.l 5 eHelloRoute R.Heard),.v (vI R.Keep)],smallE e1⟩
theorem ok36 (e1:Ud):(S36 (F36 e1) e1).ok Tryz.prog 36 :=
 fnG_ok mixed (fn:=Tryz.f36) (ct:=.seq .no (.seq (.reg [(2,kh69a e1.Keys)]) (.seq (.reg [(2,kh64a e1.Want)]) (.seq (.reg [(2,kh64a e1.Told)]) (.seq (.reg [(2,kh70a e1.Heard)]) (.seq .no .no)))))) Tryz.func36 (fun (hpre0:smallE e1)=>kc69a e1.Keys uu16 (kc64a e1.Want uu16 (kc64a e1.Told uu16 (kc70a e1.Heard uu16 (fi36 e1 e1 rfl))))) uu3
theorem as36 (e1:Ud):F36 e1=(e1):=by
 rfl
theorem oa36 (e1:Ud):(S36 (e1) e1).ok Tryz.prog 36:=by
 intro hp; have h:=ok36 e1 hp; rw [as36 e1] at h; exact h
def F112 (name:Int) (peer:Int) (keys:List HelloKey) (boot:Int) (want:List Ue):Ud :=
 bif (!(F9 ⟨name,peer,keys,boot,want,0,0,0,false,0,0,(⟨0,(⟨0,0,0,0⟩:Ue)⟩:HelloChange),[],false,0,false,[],0⟩)) then (⟨0,0,[],0,[],0,0,0,false,0,0,(⟨0,(⟨0,0,0,0⟩:Ue)⟩:HelloChange),[],false,0,false,[],0⟩:Ud) else (⟨name,peer,keys,boot,want,0,0,0,false,0,0,(⟨0,(⟨0,0,0,0⟩:Ue)⟩:HelloChange),[],false,0,false,[],0⟩:Ud)
theorem fi112 (name:Int) (peer:Int) (keys:List HelloKey) (boot:Int) (want:List Ue) (r:Ud) (hF:r=(F112 name peer keys boot want)):((.int .i64 r.Name:Value)=.int .i64 (F112 name peer keys boot want).Name)/\((.int .i64 r.Peer:Value)=.int .i64 (F112 name peer keys boot want).Peer)/\(Imp (.l 2 eHelloKey r.Keys) (.l 2 eHelloKey (F112 name peer keys boot want).Keys))/\((.int .i64 r.Boot:Value)=.int .i64 (F112 name peer keys boot want).Boot)/\(Imp (.l 4 eHelloEntry r.Want) (.l 4 eHelloEntry (F112 name peer keys boot want).Want))/\((.int .i64 r.Turn:Value)=.int .i64 (F112 name peer keys boot want).Turn)/\((.int .i64 r.PeerBoot:Value)=.int .i64 (F112 name peer keys boot want).PeerBoot)/\((.int .i64 r.PeerTurn:Value)=.int .i64 (F112 name peer keys boot want).PeerTurn)/\((.bool r.Up:Value)=.bool (F112 name peer keys boot want).Up)/\((.int .i64 r.Left:Value)=.int .i64 (F112 name peer keys boot want).Left)/\((.int .i64 r.Num:Value)=.int .i64 (F112 name peer keys boot want).Num)/\((.int .i64 r.Under.Kind:Value)=.int .i64 (F112 name peer keys boot want).Under.Kind)/\((.int .i64 r.Under.Entry.Addr:Value)=.int .i64 (F112 name peer keys boot want).Under.Entry.Addr)/\((.int .i64 r.Under.Entry.Len:Value)=.int .i64 (F112 name peer keys boot want).Under.Entry.Len)/\((.int .i64 r.Under.Entry.Cost:Value)=.int .i64 (F112 name peer keys boot want).Under.Entry.Cost)/\((.int .i64 r.Under.Entry.Label:Value)=.int .i64 (F112 name peer keys boot want).Under.Entry.Label)/\(Imp (.l 4 eHelloEntry r.Told) (.l 4 eHelloEntry (F112 name peer keys boot want).Told))/\((.bool r.All:Value)=.bool (F112 name peer keys boot want).All)/\((.int .i64 r.Got:Value)=.int .i64 (F112 name peer keys boot want).Got)/\((.bool r.Full:Value)=.bool (F112 name peer keys boot want).Full)/\(Imp (.l 5 eHelloRoute r.Heard) (.l 5 eHelloRoute (F112 name peer keys boot want).Heard))/\((.int .i64 r.Keep:Value)=.int .i64 (F112 name peer keys boot want).Keep)/\True:=by cases hF; exact ⟨rfl,rfl,Imp.refl _,rfl,Imp.refl _,rfl,rfl,rfl,rfl,rfl,rfl,rfl,rfl,rfl,rfl,rfl,Imp.refl _,rfl,rfl,rfl,Imp.refl _,rfl,trivial⟩
def S112 (name:Int) (peer:Int) (keys:List HelloKey) (boot:Int) (want:List Ue):Spec:=⟨[.r (.c (.v (vI name))),.r (.c (.v (vI peer))),.r (.c (.l 2 eHelloKey keys)),.r (.c (.v (vI boot))),.r (.c (.l 4 eHelloEntry want))],.ag [.v (vI (F112 name peer keys boot want).Name),.v (vI (F112 name peer keys boot want).Peer),.ow (.l 2 eHelloKey (F112 name peer keys boot want).Keys),.v (vI (F112 name peer keys boot want).Boot),.ow (.l 4 eHelloEntry (F112 name peer keys boot want).Want),.v (vI (F112 name peer keys boot want).Turn),.v (vI (F112 name peer keys boot want).PeerBoot),.v (vI (F112 name peer keys boot want).PeerTurn),.v (.bool (F112 name peer keys boot want).Up),.v (vI (F112 name peer keys boot want).Left),.v (vI (F112 name peer keys boot want).Num),.v (vI (F112 name peer keys boot want).Under.Kind),.v (vI (F112 name peer keys boot want).Under.Entry.Addr),.v (vI (F112 name peer keys boot want).Under.Entry.Len),.v (vI (F112 name peer keys boot want).Under.Entry.Cost),.v (vI (F112 name peer keys boot want).Under.Entry.Label),.ow (.l 4 eHelloEntry (F112 name peer keys boot want).Told),.v (.bool (F112 name peer keys boot want).All),.v (vI (F112 name peer keys boot want).Got),.v (.bool (F112 name peer keys boot want).Full),.ow (.l 5 eHelloRoute (F112 name peer keys boot want).Heard),.v (vI (F112 name peer keys boot want).Keep)],keys.length<=1000000000/\want.length<=1000000000⟩
abbrev q112_1 (name:Int) (peer:Int) (keys:List HelloKey) (boot:Int) (want:List Ue):=(⟨name,peer,keys,boot,want,0,0,0,false,0,0,(⟨0,(⟨0,0,0,0⟩:Ue)⟩:HelloChange),[],false,0,false,[],0⟩:Ud)
theorem ok112 (name:Int) (peer:Int) (keys:List HelloKey) (boot:Int) (want:List Ue):(S112 name peer keys boot want).ok Tryz.prog 112 :=
 fnG_ok mixed (fn:=Tryz.f112) (ct:=.seqk [(2,0),(4,0)] .no (.seq (.reg [(6,.call 36 (S36 (q112_1 name peer keys boot want) (q112_1 name peer keys boot want)) (oa36 (q112_1 name peer keys boot want)) none)]) (.seq (.seq (.reg [(1,.call 9 (S9 (q112_1 name peer keys boot want)) (ok9 (q112_1 name peer keys boot want)) none)]) (.cond (.seq .no .no) .no)) (.seq .no .no)))) Tryz.func112 (fun (hp:keys.length<=1000000000/\want.length<=1000000000)=>have hpre0:=hp.1; have hpre1:=hp.2; kn keys fun _=>kn want fun _=>ai (uu17:smallE (q112_1 name peer keys boot want)) (ai (ai (Imp.refl (.v (vI name))) (ai (Imp.refl (.v (vI peer))) (ai (Imp.refl (.l 2 eHelloKey keys)) (ai (Imp.refl (.v (vI boot))) (ai (Imp.refl (.l 4 eHelloEntry want)) (ai (Imp.refl (.v (vI 0))) (ai (Imp.refl (.v (vI 0))) (ai (Imp.refl (.v (vI 0))) (ai (Imp.refl (.v (.bool false))) (ai (Imp.refl (.v (vI 0))) (ai (Imp.refl (.v (vI 0))) (ai (Imp.refl (.v (vI 0))) (ai (Imp.refl (.v (vI 0))) (ai (Imp.refl (.v (vI 0))) (ai (Imp.refl (.v (vI 0))) (ai (Imp.refl (.v (vI 0))) (ai (Imp.nil 4 eHelloEntry) (ai (Imp.refl (.v (.bool false))) (ai (Imp.refl (.v (vI 0))) (ai (Imp.refl (.v (.bool false))) (ai (Imp.nil 5 eHelloRoute) (ai (Imp.refl (.v (vI 0))) trivial)))))))))))))))))))))) (ai trivial (ai (Imps.refl (eHelloEnd (q112_1 name peer keys boot want))) (ifb (!(F9 (q112_1 name peer keys boot want))) (fun h1=>(fun hF:((⟨0,0,[],0,[],0,0,0,false,0,0,(⟨0,(⟨0,0,0,0⟩:Ue)⟩:HelloChange),[],false,0,false,[],0⟩:Ud):Ud)=(F112 name peer keys boot want)=>ai (Qc (fun r:Ud=>(.int .i64 r.Name:Value)) hF) (ai (Qc (fun r:Ud=>(.int .i64 r.Peer:Value)) hF) (ai ((Imp.nil 2 eHelloKey).trans (Imp.of_eq (Qc (fun r:Ud=>Dat.l 2 eHelloKey r.Keys) hF))) (ai (Qc (fun r:Ud=>(.int .i64 r.Boot:Value)) hF) (ai ((Imp.nil 4 eHelloEntry).trans (Imp.of_eq (Qc (fun r:Ud=>Dat.l 4 eHelloEntry r.Want) hF))) (ai (Qc (fun r:Ud=>(.int .i64 r.Turn:Value)) hF) (ai (Qc (fun r:Ud=>(.int .i64 r.PeerBoot:Value)) hF) (ai (Qc (fun r:Ud=>(.int .i64 r.PeerTurn:Value)) hF) (ai (Qc (fun r:Ud=>(.bool r.Up:Value)) hF) (ai (Qc (fun r:Ud=>(.int .i64 r.Left:Value)) hF) (ai (Qc (fun r:Ud=>(.int .i64 r.Num:Value)) hF) (ai (Qc (fun r:Ud=>(.int .i64 r.Under.Kind:Value)) hF) (ai (Qc (fun r:Ud=>(.int .i64 r.Under.Entry.Addr:Value)) hF) (ai (Qc (fun r:Ud=>(.int .i64 r.Under.Entry.Len:Value)) hF) (ai (Qc (fun r:Ud=>(.int .i64 r.Under.Entry.Cost:Value)) hF) (ai (Qc (fun r:Ud=>(.int .i64 r.Under.Entry.Label:Value)) hF) (ai ((Imp.nil 4 eHelloEntry).trans (Imp.of_eq (Qc (fun r:Ud=>Dat.l 4 eHelloEntry r.Told) hF))) (ai (Qc (fun r:Ud=>(.bool r.All:Value)) hF) (ai (Qc (fun r:Ud=>(.int .i64 r.Got:Value)) hF) (ai (Qc (fun r:Ud=>(.bool r.Full:Value)) hF) (ai ((Imp.nil 5 eHelloRoute).trans (Imp.of_eq (Qc (fun r:Ud=>Dat.l 5 eHelloRoute r.Heard) hF))) (ai (Qc (fun r:Ud=>(.int .i64 r.Keep:Value)) hF) trivial)))))))))))))))))))))) (condT h1 rfl)) (fun h1=>have _:1<=keys.length/\keys.length<=3/\want.length<=8/\([]).length<=8/\([]).length<=16:=endOkS_T (q112_1 name peer keys boot want) (notEF h1); fi112 name peer keys boot want (q112_1 name peer keys boot want) (condF h1 rfl))))))) uu3
structure Uc where
 Up:Bool
 End:Ud
 deriving DecidableEq,Inhabited
def eHelloSide (x:Uc):List Dat:=[.v (.bool x.Up),.v (vI x.End.Name),.v (vI x.End.Peer),.l 2 eHelloKey x.End.Keys,.v (vI x.End.Boot),.l 4 eHelloEntry x.End.Want,.v (vI x.End.Turn),.v (vI x.End.PeerBoot),.v (vI x.End.PeerTurn),.v (.bool x.End.Up),.v (vI x.End.Left),.v (vI x.End.Num),.v (vI x.End.Under.Kind),.v (vI x.End.Under.Entry.Addr),.v (vI x.End.Under.Entry.Len),.v (vI x.End.Under.Entry.Cost),.v (vI x.End.Under.Entry.Label),.l 4 eHelloEntry x.End.Told,.v (.bool x.End.All),.v (vI x.End.Got),.v (.bool x.End.Full),.l 5 eHelloRoute x.End.Heard,.v (vI x.End.Keep)]
theorem kc9l (e1:Ud) {K_:Prop} (k_:K_):(True)/\(Imps (eHelloEnd e1) (eHelloEnd e1))/\K_:=⟨trivial,Imps.refl _,k_⟩
abbrev kh9l (e1:Ud):Hint true Tryz.prog:=.call 9 (S9 e1) (ok9 e1) none
def F113 (s:Uc):Bool :=
 bif (!(F9 s.End)) then false else (bif s.Up then true else (bif (bif (bif (bif (bif (bif (bif (bif (bif (s.End.Turn==0) then (s.End.PeerBoot==0) else false) then (!s.End.Up) else false) then (s.End.Num==0) else false) then (s.End.Under.Kind==0) else false) then ((s.End.Told.length:Int)==0) else false) then (!s.End.All) else false) then (s.End.Got==0) else false) then (!s.End.Full) else false) then ((s.End.Heard.length:Int)==0) else false))
def S113 (s:Uc):Spec:=⟨[.r (.g (eHelloSide s))],.v (.bool (F113 s)),True⟩
theorem ok113 (s:Uc):(S113 s).ok Tryz.prog 113 :=
 fnG_ok mixed (fn:=Tryz.f113) (ct:=.seq .no (.seq .no (.seq (.seq (.reg [(1,kh9l s.End)]) (.cond (.seq .no .no) .no)) (.seq .no .no)))) Tryz.func113 (fun (_:True)=>kc9l s.End (ifb (!(F9 s.End)) (fun h1=>fiB false (F113 s) (condT h1 rfl)) (fun h1=>have _:1<=s.End.Keys.length/\s.End.Keys.length<=3/\s.End.Want.length<=8/\s.End.Told.length<=8/\s.End.Heard.length<=16:=endOkS_T s.End (notEF h1); fiB (bif s.Up then true else (bif (bif (bif (bif (bif (bif (bif (bif (bif (s.End.Turn==0) then (s.End.PeerBoot==0) else false) then (!s.End.Up) else false) then (s.End.Num==0) else false) then (s.End.Under.Kind==0) else false) then ((s.End.Told.length:Int)==0) else false) then (!s.End.All) else false) then (s.End.Got==0) else false) then (!s.End.Full) else false) then ((s.End.Heard.length:Int)==0) else false)) (F113 s) (condF h1 rfl)))) uu3
structure HelloWord where
 From:Int
 To:Int
 Key:Int
 Boot:Int
 Yours:Int
 Turn:Int
 Num:Int
 Heard:Int
 Change:HelloChange
 Sum:Int
 deriving DecidableEq,Inhabited
def eHelloWord (x:HelloWord):List Dat:=[.v (vI x.From),.v (vI x.To),.v (vI x.Key),.v (vI x.Boot),.v (vI x.Yours),.v (vI x.Turn),.v (vI x.Num),.v (vI x.Heard),.v (vI x.Change.Kind),.v (vI x.Change.Entry.Addr),.v (vI x.Change.Entry.Len),.v (vI x.Change.Entry.Cost),.v (vI x.Change.Entry.Label),.v (vI x.Sum)]
def F114 (w1:HelloWord):Bool :=
 bif (bif (bif (bif (bif (!(decide (0<=w1.From/\w1.From<=65535))) then true else (!(decide (0<=w1.To/\w1.To<=65535)))) then true else (!(decide (1<=w1.Key/\w1.Key<=9)))) then true else (!(decide (1<=w1.Boot/\w1.Boot<=999)))) then true else (!(decide (0<=w1.Yours/\w1.Yours<=999)))) then false else (bif (bif (bif (bif (!(decide (1<=w1.Turn/\w1.Turn<=1000000))) then true else (!(decide (0<=w1.Num/\w1.Num<=w1.Turn)))) then true else (!(decide (0<=w1.Heard/\w1.Heard<=1000000)))) then true else (!(decide (0<=w1.Sum/\w1.Sum<=2147483646)))) then false else (bif (F31 w1.Change) then (bif (w1.Change.Kind==0) then true else decide (w1.Num>0)) else false))
def S114 (w1:HelloWord):Spec:=⟨[.r (.g (eHelloWord w1))],.v (.bool (F114 w1)),True⟩
theorem ok114 (w1:HelloWord):(S114 w1).ok Tryz.prog 114 :=
 fnG_ok mixed (fn:=Tryz.f114) (ct:=.seq .no (.seq (.seq (.reg [(2,kh28a w1.From 0 65535),(7,kh28a w1.To 0 65535),(13,kh28a w1.Key 1 9),(19,kh28a w1.Boot 1 999),(25,kh28a w1.Yours 0 999)]) (.cond (.seq .no .no) .no)) (.seq (.seq (.reg [(2,kh28a w1.Turn 1 1000000),(9,kh28a w1.Num 0 w1.Turn),(15,kh28a w1.Heard 0 1000000),(21,kh28a w1.Sum 0 2147483646)]) (.cond (.seq .no .no) .no)) (.seq (.reg [(2,kh31l w1.Change)]) .no)))) Tryz.func114 (fun (_:True)=>kc28a w1.From 0 65535 (kg28a (!(decide (0<=w1.From/\w1.From<=65535))) false w1.To 0 65535 (kg28a (bif (!(decide (0<=w1.From/\w1.From<=65535))) then true else (!(decide (0<=w1.To/\w1.To<=65535)))) false w1.Key 1 9 (kg28a (bif (bif (!(decide (0<=w1.From/\w1.From<=65535))) then true else (!(decide (0<=w1.To/\w1.To<=65535)))) then true else (!(decide (1<=w1.Key/\w1.Key<=9)))) false w1.Boot 1 999 (kg28a (bif (bif (bif (!(decide (0<=w1.From/\w1.From<=65535))) then true else (!(decide (0<=w1.To/\w1.To<=65535)))) then true else (!(decide (1<=w1.Key/\w1.Key<=9)))) then true else (!(decide (1<=w1.Boot/\w1.Boot<=999)))) false w1.Yours 0 999 (ifb (bif (bif (bif (bif (!(decide (0<=w1.From/\w1.From<=65535))) then true else (!(decide (0<=w1.To/\w1.To<=65535)))) then true else (!(decide (1<=w1.Key/\w1.Key<=9)))) then true else (!(decide (1<=w1.Boot/\w1.Boot<=999)))) then true else (!(decide (0<=w1.Yours/\w1.Yours<=999)))) (fun h5=>fiB false (F114 w1) (condT h5 rfl)) (fun h5=>have _:=Qb (notEF (orF1 (orF1 (orF1 (orF1 h5))))); have _:=Qb (notEF (orF2 (orF1 (orF1 (orF1 h5))))); have _:=Qb (notEF (orF2 (orF1 (orF1 h5)))); have _:=Qb (notEF (orF2 (orF1 h5))); have _:=Qb (notEF (orF2 h5)); kc28a w1.Turn 1 1000000 (kg28a (!(decide (1<=w1.Turn/\w1.Turn<=1000000))) false w1.Num 0 w1.Turn (kg28a (bif (!(decide (1<=w1.Turn/\w1.Turn<=1000000))) then true else (!(decide (0<=w1.Num/\w1.Num<=w1.Turn)))) false w1.Heard 0 1000000 (kg28a (bif (bif (!(decide (1<=w1.Turn/\w1.Turn<=1000000))) then true else (!(decide (0<=w1.Num/\w1.Num<=w1.Turn)))) then true else (!(decide (0<=w1.Heard/\w1.Heard<=1000000)))) false w1.Sum 0 2147483646 (ifb (bif (bif (bif (!(decide (1<=w1.Turn/\w1.Turn<=1000000))) then true else (!(decide (0<=w1.Num/\w1.Num<=w1.Turn)))) then true else (!(decide (0<=w1.Heard/\w1.Heard<=1000000)))) then true else (!(decide (0<=w1.Sum/\w1.Sum<=2147483646)))) (fun h9=>fiB false (F114 w1) (condF h5 (condT h9 rfl))) (fun h9=>have _:=Qb (notEF (orF1 (orF1 (orF1 h9)))); have _:=Qb (notEF (orF2 (orF1 (orF1 h9)))); have _:=Qb (notEF (orF2 (orF1 h9))); have _:=Qb (notEF (orF2 h9)); kc31l w1.Change (fiB (bif (F31 w1.Change) then (bif (w1.Change.Kind==0) then true else decide (w1.Num>0)) else false) (F114 w1) (condF h5 (condF h9 rfl))))))))))))))) uu3
structure Ub where
 Sides:List Uc
 Radio:List HelloWord
 deriving DecidableEq,Inhabited
def eHelloWorld (x:Ub):List Dat:=[.l 23 eHelloSide x.Sides,.l 14 eHelloWord x.Radio]
theorem kg113 {K_:Prop} (c_ b_:Bool) (s:Uc) (k_:K_):(c_=b_->True)/\(c_=b_->Imps (eHelloSide s) (eHelloSide s))/\K_:=⟨fun _=>trivial,fun _=>Imps.refl _,k_⟩
abbrev kh113 (s:Uc):Hint true Tryz.prog:=.call 113 (S113 s) (ok113 s) none
theorem kc114 (w1:HelloWord) {K_:Prop} (k_:K_):(True)/\(Imps (eHelloWord w1) (eHelloWord w1))/\K_:=⟨trivial,Imps.refl _,k_⟩
abbrev kh114 (w1:HelloWord):Hint true Tryz.prog:=.call 114 (S114 w1) (ok114 w1) none
def F106_s0 (w1:Ub):Int->Lp Int Bool:=fun i40 =>
 bif (decide (i40<(w1.Radio.length:Int))) then (bif (!(F114 (w1.Radio.getD i40.toNat default))) then (.ret false) else (.next (i40+1))) else (.done i40)
def F106 (w1:Ub):Bool :=
 bif (bif (bif (bif (bif (bif ((w1.Sides.length:Int) != 2) then true else (!(F113 (w1.Sides.getD (Int.toNat 0) default)))) then true else (!(F113 (w1.Sides.getD (Int.toNat 1) default)))) then true else ((w1.Sides.getD (Int.toNat 0) default).End.Name != (w1.Sides.getD (Int.toNat 1) default).End.Peer)) then true else ((w1.Sides.getD (Int.toNat 1) default).End.Name != (w1.Sides.getD (Int.toNat 0) default).End.Peer)) then true else decide ((w1.Radio.length:Int)>12)) then false else ((runL (F106_s0 w1) (((w1.Radio.length:Int)-0).toNat+1) 0).fin (fun r=>r) (fun i40=>true))
abbrev lN106_0 (w1:Ub):Nat×Int:=((((w1.Radio.length:Int)-0).toNat+1),0)
abbrev lI106_0 (w1:Ub) (m39:Nat) (i40:Int):Prop:=Int.toNat ((w1.Radio.length:Int)-i40)<m39/\(0:Int)<=i40
abbrev lX106_0 (w1:Ub):Lp Int Bool:=LpX (F106_s0 w1) (lN106_0 w1)
abbrev lJ106_0 (w1:Ub) (i:Nat×Int):Prop:=LpJ (F106_s0 w1) (lN106_0 w1) i (lI106_0 w1 i.1 i.2)
abbrev lH106_0 (w1:Ub) (i:Nat×Int) (m39:Nat) (i40:Int):Prop:=LpH (F106_s0 w1) (lN106_0 w1) i m39 i40 (lI106_0 w1 (m39+1) i40)
abbrev lE106_0 (w1:Ub) (i40:Int) (i40_:Int) (K39:Prop):Prop:=((.int .i64 i40:Value)=.int .i64 i40_)/\(Im (.l 23 eHelloSide w1.Sides))/\(Im (.l 14 eHelloWord w1.Radio))/\K39
theorem un106_0 (w1:Ub) (i:Nat×Int) (h:lJ106_0 w1 i):lH106_0 w1 i (i.1-1) i.2:=⟨hd1 h.1 h.2.1,hd3 h.2.1,hd2 h.2.1,h.2.2⟩
theorem bk106_0 (w1:Ub) (i:Nat×Int) (m39:Nat) (i40:Int) (hl:m39<i.1) (e:runL (F106_s0 w1) m39 i40=lX106_0 w1) (h:lI106_0 w1 m39 i40):∃ j:Nat×Int,lE106_0 w1 i40 j.2 (lJ106_0 w1 j/\j.1<i.1):=⟨(m39,i40),rfl,Imp.refl _,Imp.refl _,⟨e,h⟩,hl⟩
theorem en106_0 (w1:Ub) (h:(0:Int)<=0):lE106_0 w1 0 0 (lJ106_0 w1 (lN106_0 w1)):=⟨rfl,Imp.refl _,Imp.refl _,rfl,Qq _,h⟩
def S106 (w1:Ub):Spec:=⟨[.r (.g (eHelloWorld w1))],.v (.bool (F106 w1)),True⟩
abbrev q106_1 (w1:Ub):=(w1.Sides.getD (Int.toNat 0) default)
abbrev q106_2 (w1:Ub):=(w1.Sides.getD (Int.toNat 1) default)
theorem ok106 (w1:Ub):(S106 w1).ok Tryz.prog 106 :=
 fnG_ok mixed (fn:=Tryz.f106) (ct:=.seq .no (.seq (.seq (.reg [(9,kh113 (q106_1 w1)),(17,kh113 (q106_2 w1))]) (.cond (.seq .no .no) .no)) (.seq (.seqk [(1,0),(1,1)] .no (.blk (.loop (ι:=Nat×Int) (fun i=>(fun (i40:Int)=>(⟨[(1,some (.p 0 0)),(3,some (.v (vI i40)))],[(0,some (.box 97 [.h 1 0,.h 2 0])),(1,some (.shr none (.l 23 eHelloSide w1.Sides))),(2,some (.shr none (.l 14 eHelloWord w1.Radio)))],3⟩:St)) i.2) (lJ106_0 w1) (fun i=>i.1) (lN106_0 w1) (fun i=>(fun (i40:Int)=>(.seq (.seq .no (.cond .no .no)) (.seq (.blk (.seq (.reg [(5,kh114 (w1.Radio.getD i40.toNat default))]) (.cond (.seq .no .no) .no))) (.reg [(1,.bnd)])))) i.2)))) (.seq .no .no)))) Tryz.func106 (fun (_:True)=>ai (fun k1:((w1.Sides.length:Int) != 2)=false=>have _:=bneF k1; (uu0:ib 0 w1.Sides)) (kg113 ((w1.Sides.length:Int) != 2) false (q106_1 w1) (ai (fun k3:(bif ((w1.Sides.length:Int) != 2) then true else (!(F113 (q106_1 w1))))=false=>have _:=bneF (orF1 k3); (uu0:ib 1 w1.Sides)) (kg113 (bif ((w1.Sides.length:Int) != 2) then true else (!(F113 (q106_1 w1)))) false (q106_2 w1) (ai (fun k5:(bif (bif ((w1.Sides.length:Int) != 2) then true else (!(F113 (q106_1 w1)))) then true else (!(F113 (q106_2 w1))))=false=>have _:=bneF (orF1 (orF1 k5)); (uu0:ib 0 w1.Sides)) (ai (fun k6:(bif (bif ((w1.Sides.length:Int) != 2) then true else (!(F113 (q106_1 w1)))) then true else (!(F113 (q106_2 w1))))=false=>have _:=bneF (orF1 (orF1 k6)); (uu0:ib 1 w1.Sides)) (ai (fun k7:(bif (bif (bif ((w1.Sides.length:Int) != 2) then true else (!(F113 (q106_1 w1)))) then true else (!(F113 (q106_2 w1)))) then true else ((q106_1 w1).End.Name != (q106_2 w1).End.Peer))=false=>have _:=bneF (orF1 (orF1 (orF1 k7))); have _:=bneF (orF2 k7); (uu0:ib 1 w1.Sides)) (ai (fun k8:(bif (bif (bif ((w1.Sides.length:Int) != 2) then true else (!(F113 (q106_1 w1)))) then true else (!(F113 (q106_2 w1)))) then true else ((q106_1 w1).End.Name != (q106_2 w1).End.Peer))=false=>have _:=bneF (orF1 (orF1 (orF1 k8))); have _:=bneF (orF2 k8); (uu0:ib 0 w1.Sides)) (ifb (bif (bif (bif (bif (bif ((w1.Sides.length:Int) != 2) then true else (!(F113 (q106_1 w1)))) then true else (!(F113 (q106_2 w1)))) then true else ((q106_1 w1).End.Name != (q106_2 w1).End.Peer)) then true else ((q106_2 w1).End.Name != (q106_1 w1).End.Peer)) then true else decide ((w1.Radio.length:Int)>12)) (fun h9=>fiB false (F106 w1) (condT h9 rfl)) (fun h9=>have _:=bneF (orF1 (orF1 (orF1 (orF1 (orF1 h9))))); have _:=bneF (orF2 (orF1 (orF1 h9))); have _:=bneF (orF2 (orF1 h9)); have _:=Rj (orF2 h9); kn w1.Sides fun _=>kn w1.Radio fun _=>ai (en106_0 w1 uu0) (fun (i0:Nat×Int) (hi0:lJ106_0 w1 i0)=>(fun (m0:Nat) (i40:Int) (hh0:lH106_0 w1 i0 m0 i40)=>have hI0:=hh0.1; have hl0:=hh0.2.1; have _:=hh0.2.2.1; have _:=hh0.2.2.2; ifd (i40<(w1.Radio.length:Int)) (fun h11 _=>ai (uu0:ib i40 w1.Radio) (kc114 (w1.Radio.getD i40.toNat default) (ifb (!(F114 (w1.Radio.getD i40.toNat default))) (fun h12=>fiB false (F106 w1) (condF h9 (finR (runL_ret hI0 (condT h11 (condT h12 rfl))) rfl))) (fun h12=>ai (iok (i40+1) uu0) (bk106_0 w1 i0 m0 (i40+1) hl0 (runL_next hI0 (condT h11 (condF h12 rfl))) uu7))))) (fun h11 _=>have hD0_13:lX106_0 w1=Lp.done i40:=runL_done hI0 (condF h11 rfl); fiB true (F106 w1) (condF h9 (finD hD0_13 rfl)))) (i0.1-1) i0.2 (un106_0 w1 i0 hi0)))))))))))) uu3
theorem endOk_facts {e:Ud} (h:F9 e=true):(e.PeerBoot=0↔e.PeerTurn=0)/\(0<=e.Left/\e.Left<=4)/\¬ (e.Left>0/\e.PeerBoot=0)/\F31 e.Under=true/\F33 e=true:=by
 have h1:((e.PeerBoot==0)==(e.PeerTurn==0))=true:=by
  cases x:((e.PeerBoot==0)==(e.PeerTurn==0)) with
  | true=>rfl
  | false=>simp only [F9,x,Td,Bool.cond_true_right,Rl,Bool.cond_false_left,Bool.or_true,Rt,Bool.false_and,Bool.and_false] at h; cases h
 have h2:decide (0<=e.Left/\e.Left<=4)=true:=by
  cases x:decide (0<=e.Left/\e.Left<=4) with
  | true=>rfl
  | false=>simp only [F9,x,Td,Rl,Bool.cond_false_left,Bool.true_or,Bool.or_true,Rt,Bool.false_and,Bool.and_false] at h; cases h
 have h3:(bif decide (e.Left>0) then (e.PeerBoot==0) else false)=false:=by
  cases x:(bif decide (e.Left>0) then (e.PeerBoot==0) else false) with
  | false=>rfl
  | true=>simp only [F9,x,Td,Rl,Bool.cond_false_left,Bool.true_or,Bool.or_true,Rt,Bool.false_and,Bool.and_false] at h; cases h
 have h4:F31 e.Under=true:=by
  cases x:F31 e.Under with
  | true=>rfl
  | false=>simp [F9,x] at h
 have h5:F33 e=true:=by
  cases x:F33 e with
  | true=>rfl
  | false=>simp [F9,x] at h
 refine ⟨?_,Qb h2,?_,h4,h5⟩
 ·have:=eq_of_beq h1
  rw [beqD,beqD,Rx] at this
  exact this
 ·simp only [Rd,Gc,Se,Tp,ne_eq] at h3
  omega
structure EndFit (e:Ud):Prop where
 told:TblOk e.Told
 want:TblOk e.Want
 under:EIn e.Under.Entry
 heard:e.Heard.length<=16
 keys:e.Keys.length<=3
theorem EndFit.heardB {e:Ud} (h:EndFit e):e.Heard.length<=1000000000:=Qu h.heard uu5
theorem EndFit.told8 {e:Ud} (h:EndFit e):e.Told.length<=8:=h.told.len
theorem EndFit.toldB {e:Ud} (h:EndFit e):e.Told.length<=1000000000:=Qu h.told.len uu5
theorem endFitS (e:Ud) (h:F9 e=true):EndFit e:=by
 have h0:=endOkS_T e h
 have h2:F30 e.Want=true:=by
  cases x:F30 e.Want with
  | true=>rfl
  | false=>simp [F9,x] at h
 have h3:F30 e.Told=true:=by
  cases x:F30 e.Told with
  | true=>rfl
  | false=>simp [F9,x] at h
 exact ⟨tableOkS_T _ h3,tableOkS_T _ h2,change_in _ (endOk_facts h).2.2.2.1,by omega,by omega⟩
theorem EndFit.wantB {e:Ud} (h:EndFit e):e.Want.length<=1000000000:=Qu h.want.len uu5
theorem EndFit.like {e x:Ud} (h:EndFit e) (h1:x.Told=e.Told) (h2:x.Want=e.Want) (h3:x.Under.Entry=e.Under.Entry) (h4:x.Heard=e.Heard) (h5:x.Keys=e.Keys):EndFit x :=
 ⟨h1 ▸ h.told,h2 ▸ h.want,h3 ▸ h.under,h4 ▸ h.heard,h5 ▸ h.keys⟩
theorem EndFit.side {w:Ub} (h:∀ k:Nat,EndFit (w.Sides.getD k default).End) (k:Nat):EndFit (w.Sides.getD k default).End:=h k
theorem endFitI (e:Ud) (h:F8 e=true):EndFit e:=endFitS e (endOk_eq e ▸ h)
theorem endFit_default:EndFit default:=by
 have ht:TblOk []:=⟨by simp,fun k hk=>by simp at hk,fun k hk=>by simp at hk⟩
 exact ⟨ht,ht,by unfold EIn; decide,by decide,by decide⟩
theorem worldS_facts {w:Ub} (h:F106 w=true):w.Sides.length=2/\F9 (w.Sides.getD 0 default).End=true/\F9 (w.Sides.getD 1 default).End=true:=by
 have hz:Int.toNat 0=0:=rfl
 have ho:Int.toNat 1=1:=rfl
 unfold F106 at h
 rw [hz,ho] at h
 have hs:∀ s:Uc,F113 s=true->F9 s.End=true:=fun s hs=>by
  unfold F113 at hs
  cases x:F9 s.End with
  | true=>rfl
  | false=>rw [x] at hs; cases hs
 refine ⟨?_,hs _ ?_,hs _ ?_⟩
 ·by_cases x:w.Sides.length=2
  ·exact x
  ·have hb:((w.Sides.length:Int) != 2)=true:=by
    have:¬ (w.Sides.length:Int)=2:=by omega
    simpa using this
   rw [hb] at h
   simp at h
 ·cases x:F113 (w.Sides.getD 0 default) with
  | true=>rfl
  | false=>rw [x] at h; simp at h
 ·cases x:F113 (w.Sides.getD 1 default) with
  | true=>rfl
  | false=>rw [x] at h; simp at h
theorem worldS_two (w:Ub) (h:F106 w=true):w.Sides.length=2:=(worldS_facts h).1
theorem worldS_fit (w:Ub) (h:F106 w=true):∀ k:Nat,EndFit (w.Sides.getD k default).End:=fun k=>by
 obtain ⟨h1,h2,h3⟩:=worldS_facts h
 match k with
 | 0=>exact endFitS _ h2
 | 1=>exact endFitS _ h3
 | k+2 =>
  have:w.Sides.getD (k+2) default=default:=by
   rw [Qy,List.getElem?_eq_none uu0]; rfl
  rw [this]; exact endFit_default
def F50_s0 (a:List Ue) (b:List Ue):Int->Lp Int (Ue×Bool):=fun i40 =>
 bif (decide (i40<(a.length:Int))) then (bif (decide ((F84 b (a.getD i40.toNat default))<0)) then (.ret ((a.getD i40.toNat default),true)) else (.next (i40+1))) else (.done i40)
def F50 (a:List Ue) (b:List Ue):Ue×Bool :=
 (runL (F50_s0 a b) (((a.length:Int)-0).toNat+1) 0).fin (fun r=>r) (fun i40=>((⟨0,0,0,0⟩:Ue),false))
abbrev lN50_0 (a:List Ue):Nat×Int:=((((a.length:Int)-0).toNat+1),0)
abbrev lI50_0 (a:List Ue) (m39:Nat) (i40:Int):Prop:=Int.toNat ((a.length:Int)-i40)<m39/\(0:Int)<=i40
abbrev lX50_0 (a:List Ue) (b:List Ue):Lp Int (Ue×Bool):=LpX (F50_s0 a b) (lN50_0 a)
abbrev lJ50_0 (a:List Ue) (b:List Ue) (i:Nat×Int):Prop:=LpJ (F50_s0 a b) (lN50_0 a) i (lI50_0 a i.1 i.2)
abbrev lH50_0 (a:List Ue) (b:List Ue) (i:Nat×Int) (m39:Nat) (i40:Int):Prop:=LpH (F50_s0 a b) (lN50_0 a) i m39 i40 (lI50_0 a (m39+1) i40)
abbrev lE50_0 (a:List Ue) (b:List Ue) (i40:Int) (i40_:Int) (K39:Prop):Prop:=((.int .i64 i40:Value)=.int .i64 i40_)/\(Im (.l 4 eHelloEntry a))/\(Im (.l 4 eHelloEntry b))/\(Rf (.int .i64 0))/\(Rf (.int .i64 0))/\(Rf (.int .i64 0))/\(Rf (.int .i64 0))/\K39
theorem un50_0 (a:List Ue) (b:List Ue) (i:Nat×Int) (h:lJ50_0 a b i):lH50_0 a b i (i.1-1) i.2:=⟨hd1 h.1 h.2.1,hd3 h.2.1,hd2 h.2.1,h.2.2⟩
theorem bk50_0 (a:List Ue) (b:List Ue) (i:Nat×Int) (m39:Nat) (i40:Int) (hl:m39<i.1) (e:runL (F50_s0 a b) m39 i40=lX50_0 a b) (h:lI50_0 a m39 i40):∃ j:Nat×Int,lE50_0 a b i40 j.2 (lJ50_0 a b j/\j.1<i.1):=⟨(m39,i40),rfl,Imp.refl _,Imp.refl _,rfl,rfl,rfl,rfl,⟨e,h⟩,hl⟩
theorem en50_0 (a:List Ue) (b:List Ue) (h:(0:Int)<=0):lE50_0 a b 0 0 (lJ50_0 a b (lN50_0 a)):=⟨rfl,Imp.refl _,Imp.refl _,rfl,rfl,rfl,rfl,rfl,Qq _,h⟩
theorem fi50 (a:List Ue) (b:List Ue) (r:Ue×Bool) (hF:r=(F50 a b)):((.int .i64 r.1.Addr:Value)=.int .i64 (F50 a b).1.Addr)/\((.int .i64 r.1.Len:Value)=.int .i64 (F50 a b).1.Len)/\((.int .i64 r.1.Cost:Value)=.int .i64 (F50 a b).1.Cost)/\((.int .i64 r.1.Label:Value)=.int .i64 (F50 a b).1.Label)/\((.bool r.2:Value)=.bool (F50 a b).2)/\True:=by cases hF; exact ⟨rfl,rfl,rfl,rfl,rfl,trivial⟩
def S50 (a:List Ue) (b:List Ue):Spec:=⟨[.r (.c (.l 4 eHelloEntry a)),.r (.c (.l 4 eHelloEntry b))],.tu [.ag [.v (vI (F50 a b).1.Addr),.v (vI (F50 a b).1.Len),.v (vI (F50 a b).1.Cost),.v (vI (F50 a b).1.Label)],.v (.bool (F50 a b).2)],True⟩
theorem ok50 (a:List Ue) (b:List Ue):(S50 a b).ok Tryz.prog 50 :=
 fnG_ok mixed (fn:=Tryz.f50) (ct:=.seqk [(0,0),(1,0)] .no (.seq (.seqk [(0,0),(1,0)] .no (.blk (.loop (ι:=Nat×Int) (fun i=>(fun (i40:Int)=>(⟨[(0,some (.h 0 0)),(1,some (.h 1 0)),(4,some (.p 2 0)),(6,some (.v (vI i40)))],[(0,some (.shr none (.l 4 eHelloEntry a))),(1,some (.shr none (.l 4 eHelloEntry b))),(2,some (.box 26 [.v (vI 0),.v (vI 0),.v (vI 0),.v (vI 0)]))],3⟩:St)) i.2) (lJ50_0 a b) (fun i=>i.1) (lN50_0 a) (fun i=>(fun (i40:Int)=>(.seq (.seq .no (.cond .no .no)) (.seq (.blk (.seq (.reg [(5,kh84l b (a.getD i40.toNat default))]) (.cond (.seq .no .no) .no))) (.reg [(1,.bnd)])))) i.2)))) (.seq .no .no))) Tryz.func50 (fun (_:True)=>kn a fun _=>kn b fun _=>kn a fun _=>kn b fun _=>ai (en50_0 a b uu0) (fun (i0:Nat×Int) (hi0:lJ50_0 a b i0)=>(fun (m0:Nat) (i40:Int) (hh0:lH50_0 a b i0 m0 i40)=>have hI0:=hh0.1; have hl0:=hh0.2.1; have _:=hh0.2.2.1; have _:=hh0.2.2.2; ifd (i40<(a.length:Int)) (fun h2 _=>ai (uu0:ib i40 a) (kc84l b (a.getD i40.toNat default) (fun gv3=>ifd ((F84 b (a.getD i40.toNat default))<0) (fun h4 _=>ai (uu0:ib i40 a) (fi50 a b ((a.getD i40.toNat default),true) (finR (runL_ret hI0 (condT h2 (condT h4 rfl))) rfl))) (fun h4 _=>ai (iok (i40+1) uu0) (bk50_0 a b i0 m0 (i40+1) hl0 (runL_next hI0 (condT h2 (condF h4 rfl))) uu7))))) (fun h2 _=>have hD0_5:lX50_0 a b=Lp.done i40:=runL_done hI0 (condF h2 rfl); fi50 a b ((⟨0,0,0,0⟩:Ue),false) (finD hD0_5 rfl))) (i0.1-1) i0.2 (un50_0 a b i0 hi0))) uu3
theorem neqT26 (x0 y0:Int) (x1 y1:Int) (x2 y2:Int) (x3 y3:Int) (p q:Operand) (w:World):(do eqGuard .neq 26 p q (.agg #[.int .i64 x0,.int .i64 x1,.int .i64 x2,.int .i64 x3]) (.agg #[.int .i64 y0,.int .i64 y1,.int .i64 y2,.int .i64 y3]); binOp .neq 26 (.agg #[.int .i64 x0,.int .i64 x1,.int .i64 x2,.int .i64 x3]) (.agg #[.int .i64 y0,.int .i64 y1,.int .i64 y2,.int .i64 y3])).run Tryz.prog w=.ok (.bool (!((x0==y0)&&((x1==y1)&&((x2==y2)&&(x3==y3)))))) w:=by
 by_cases h0:x0=y0
 case neg=>simp [go_sem,h0]
 by_cases h1:x1=y1
 case neg=>simp [go_sem,h0,h1]
 by_cases h2:x2=y2
 case neg=>simp [go_sem,h0,h1,h2]
 by_cases h3:x3=y3
 case neg=>simp [go_sem,h0,h1,h2,h3]
 simp [go_sem,h0,h1,h2,h3]
def F51_s0 (a:List Ue) (b:List Ue):Int->Lp Int (Ue×Bool):=fun i40 =>
 bif (decide (i40<(a.length:Int))) then (bif (bif decide ((F84 b (a.getD i40.toNat default))<0) then true else (!(((b.getD (F84 b (a.getD i40.toNat default)).toNat default).Addr==(a.getD i40.toNat default).Addr)&&(((b.getD (F84 b (a.getD i40.toNat default)).toNat default).Len==(a.getD i40.toNat default).Len)&&(((b.getD (F84 b (a.getD i40.toNat default)).toNat default).Cost==(a.getD i40.toNat default).Cost)&&((b.getD (F84 b (a.getD i40.toNat default)).toNat default).Label==(a.getD i40.toNat default).Label)))))) then (.ret ((a.getD i40.toNat default),true)) else (.next (i40+1))) else (.done i40)
def F51 (a:List Ue) (b:List Ue):Ue×Bool :=
 (runL (F51_s0 a b) (((a.length:Int)-0).toNat+1) 0).fin (fun r=>r) (fun i40=>((⟨0,0,0,0⟩:Ue),false))
abbrev lN51_0 (a:List Ue):Nat×Int:=((((a.length:Int)-0).toNat+1),0)
abbrev lI51_0 (a:List Ue) (m39:Nat) (i40:Int):Prop:=Int.toNat ((a.length:Int)-i40)<m39/\(0:Int)<=i40
abbrev lX51_0 (a:List Ue) (b:List Ue):Lp Int (Ue×Bool):=LpX (F51_s0 a b) (lN51_0 a)
abbrev lJ51_0 (a:List Ue) (b:List Ue) (i:Nat×Int):Prop:=LpJ (F51_s0 a b) (lN51_0 a) i (lI51_0 a i.1 i.2)
abbrev lH51_0 (a:List Ue) (b:List Ue) (i:Nat×Int) (m39:Nat) (i40:Int):Prop:=LpH (F51_s0 a b) (lN51_0 a) i m39 i40 (lI51_0 a (m39+1) i40)
abbrev lE51_0 (a:List Ue) (b:List Ue) (i40:Int) (i40_:Int) (K39:Prop):Prop:=((.int .i64 i40:Value)=.int .i64 i40_)/\(Im (.l 4 eHelloEntry a))/\(Im (.l 4 eHelloEntry b))/\(Rf (.int .i64 0))/\(Rf (.int .i64 0))/\(Rf (.int .i64 0))/\(Rf (.int .i64 0))/\K39
theorem un51_0 (a:List Ue) (b:List Ue) (i:Nat×Int) (h:lJ51_0 a b i):lH51_0 a b i (i.1-1) i.2:=⟨hd1 h.1 h.2.1,hd3 h.2.1,hd2 h.2.1,h.2.2⟩
theorem bk51_0 (a:List Ue) (b:List Ue) (i:Nat×Int) (m39:Nat) (i40:Int) (hl:m39<i.1) (e:runL (F51_s0 a b) m39 i40=lX51_0 a b) (h:lI51_0 a m39 i40):∃ j:Nat×Int,lE51_0 a b i40 j.2 (lJ51_0 a b j/\j.1<i.1):=⟨(m39,i40),rfl,Imp.refl _,Imp.refl _,rfl,rfl,rfl,rfl,⟨e,h⟩,hl⟩
theorem en51_0 (a:List Ue) (b:List Ue) (h:(0:Int)<=0):lE51_0 a b 0 0 (lJ51_0 a b (lN51_0 a)):=⟨rfl,Imp.refl _,Imp.refl _,rfl,rfl,rfl,rfl,rfl,Qq _,h⟩
theorem fi51 (a:List Ue) (b:List Ue) (r:Ue×Bool) (hF:r=(F51 a b)):((.int .i64 r.1.Addr:Value)=.int .i64 (F51 a b).1.Addr)/\((.int .i64 r.1.Len:Value)=.int .i64 (F51 a b).1.Len)/\((.int .i64 r.1.Cost:Value)=.int .i64 (F51 a b).1.Cost)/\((.int .i64 r.1.Label:Value)=.int .i64 (F51 a b).1.Label)/\((.bool r.2:Value)=.bool (F51 a b).2)/\True:=by cases hF; exact ⟨rfl,rfl,rfl,rfl,rfl,trivial⟩
def S51 (a:List Ue) (b:List Ue):Spec:=⟨[.r (.c (.l 4 eHelloEntry a)),.r (.c (.l 4 eHelloEntry b))],.tu [.ag [.v (vI (F51 a b).1.Addr),.v (vI (F51 a b).1.Len),.v (vI (F51 a b).1.Cost),.v (vI (F51 a b).1.Label)],.v (.bool (F51 a b).2)],True⟩
abbrev q51_1 (b:List Ue) (a:List Ue) (i40:Int):=(b.getD (F84 b (a.getD i40.toNat default)).toNat default)
abbrev q51_2 (a:List Ue) (i40:Int):=(a.getD i40.toNat default)
theorem ok51 (a:List Ue) (b:List Ue):(S51 a b).ok Tryz.prog 51 :=
 fnG_ok mixed (fn:=Tryz.f51) (ct:=.seqk [(0,0),(1,0)] .no (.seq (.seqk [(0,0),(1,0)] .no (.blk (.loop (ι:=Nat×Int) (fun i=>(fun (i40:Int)=>(⟨[(0,some (.h 0 0)),(1,some (.h 1 0)),(4,some (.p 2 0)),(6,some (.v (vI i40)))],[(0,some (.shr none (.l 4 eHelloEntry a))),(1,some (.shr none (.l 4 eHelloEntry b))),(2,some (.box 26 [.v (vI 0),.v (vI 0),.v (vI 0),.v (vI 0)]))],3⟩:St)) i.2) (lJ51_0 a b) (fun i=>i.1) (lN51_0 a) (fun i=>(fun (i40:Int)=>(.seq (.seq .no (.cond .no .no)) (.seq (.blk (.seq (.reg [(5,kh84l b (q51_2 a i40))]) (.seq (.reg [(11,.bin .neq 26 (.agg #[.int .i64 (q51_1 b a i40).Addr,.int .i64 (q51_1 b a i40).Len,.int .i64 (q51_1 b a i40).Cost,.int .i64 (q51_1 b a i40).Label]) (.agg #[.int .i64 (q51_2 a i40).Addr,.int .i64 (q51_2 a i40).Len,.int .i64 (q51_2 a i40).Cost,.int .i64 (q51_2 a i40).Label]) (.bool (!(((q51_1 b a i40).Addr==(q51_2 a i40).Addr)&&(((q51_1 b a i40).Len==(q51_2 a i40).Len)&&(((q51_1 b a i40).Cost==(q51_2 a i40).Cost)&&((q51_1 b a i40).Label==(q51_2 a i40).Label)))))) rfl (neqT26 (q51_1 b a i40).Addr (q51_2 a i40).Addr (q51_1 b a i40).Len (q51_2 a i40).Len (q51_1 b a i40).Cost (q51_2 a i40).Cost (q51_1 b a i40).Label (q51_2 a i40).Label))]) (.cond (.seq .no .no) .no)))) (.reg [(1,.bnd)])))) i.2)))) (.seq .no .no))) Tryz.func51 (fun (_:True)=>kn a fun _=>kn b fun _=>kn a fun _=>kn b fun _=>ai (en51_0 a b uu0) (fun (i0:Nat×Int) (hi0:lJ51_0 a b i0)=>(fun (m0:Nat) (i40:Int) (hh0:lH51_0 a b i0 m0 i40)=>have hI0:=hh0.1; have hl0:=hh0.2.1; have _:=hh0.2.2.1; have _:=hh0.2.2.2; ifd (i40<(a.length:Int)) (fun h2 _=>ai (uu0:ib i40 a) (kc84l b (q51_2 a i40) (fun gv3=>ai (fun k4:(decide ((F84 b (q51_2 a i40))<0))=false=>have _:=Rj k4; (uu0:ib (F84 b (q51_2 a i40)) b)) (ai (fun k5:(decide ((F84 b (q51_2 a i40))<0))=false=>have _:=Rj k5; (uu0:ib i40 a)) (ai (fun k6:(decide ((F84 b (q51_2 a i40))<0))=false=>have _:=Rj k6; (Eq.refl (.agg #[.int .i64 (q51_1 b a i40).Addr,.int .i64 (q51_1 b a i40).Len,.int .i64 (q51_1 b a i40).Cost,.int .i64 (q51_1 b a i40).Label]:Value))) (ai (fun k7:(decide ((F84 b (q51_2 a i40))<0))=false=>have _:=Rj k7; (Eq.refl (.agg #[.int .i64 (q51_2 a i40).Addr,.int .i64 (q51_2 a i40).Len,.int .i64 (q51_2 a i40).Cost,.int .i64 (q51_2 a i40).Label]:Value))) (ifb (bif decide ((F84 b (q51_2 a i40))<0) then true else (!(((q51_1 b a i40).Addr==(q51_2 a i40).Addr)&&(((q51_1 b a i40).Len==(q51_2 a i40).Len)&&(((q51_1 b a i40).Cost==(q51_2 a i40).Cost)&&((q51_1 b a i40).Label==(q51_2 a i40).Label)))))) (fun h8=>ai (uu0:ib i40 a) (fi51 a b ((q51_2 a i40),true) (finR (runL_ret hI0 (condT h2 (condT h8 rfl))) rfl))) (fun h8=>have _:=Rj (orF1 h8); have _:=(orF2 h8); ai (iok (i40+1) uu0) (bk51_0 a b i0 m0 (i40+1) hl0 (runL_next hI0 (condT h2 (condF h8 rfl))) uu7))))))))) (fun h2 _=>have hD0_9:lX51_0 a b=Lp.done i40:=runL_done hI0 (condF h2 rfl); fi51 a b ((⟨0,0,0,0⟩:Ue),false) (finD hD0_9 rfl))) (i0.1-1) i0.2 (un51_0 a b i0 hi0))) uu3
theorem kc50 (a:List Ue) (b:List Ue) {K_:Prop} (k_:K_):(True)/\(Imp (.l 4 eHelloEntry a) (.l 4 eHelloEntry a))/\(Imp (.l 4 eHelloEntry b) (.l 4 eHelloEntry b))/\K_:=⟨trivial,Imp.refl _,Imp.refl _,k_⟩
abbrev kh50 (a:List Ue) (b:List Ue):Hint true Tryz.prog:=.call 50 (S50 a b) (ok50 a b) none
theorem kc51 (a:List Ue) (b:List Ue) {K_:Prop} (k_:K_):(True)/\(Imp (.l 4 eHelloEntry a) (.l 4 eHelloEntry a))/\(Imp (.l 4 eHelloEntry b) (.l 4 eHelloEntry b))/\K_:=⟨trivial,Imp.refl _,Imp.refl _,k_⟩
abbrev kh51 (a:List Ue) (b:List Ue):Hint true Tryz.prog:=.call 51 (S51 a b) (ok51 a b) none
def F21 (e1:Ud):HelloChange :=
 bif (F50 e1.Told e1.Want).2 then (⟨2,(⟨(F50 e1.Told e1.Want).1.Addr,(F50 e1.Told e1.Want).1.Len,0,0⟩:Ue)⟩:HelloChange) else (bif (F51 e1.Want e1.Told).2 then (⟨1,(F51 e1.Want e1.Told).1⟩:HelloChange) else (bif (!e1.All) then (⟨3,(⟨0,0,0,0⟩:Ue)⟩:HelloChange) else (⟨0,(⟨0,0,0,0⟩:Ue)⟩:HelloChange)))
theorem fi21 (e1:Ud) (r:HelloChange) (hF:r=(F21 e1)):((.int .i64 r.Kind:Value)=.int .i64 (F21 e1).Kind)/\((.int .i64 r.Entry.Addr:Value)=.int .i64 (F21 e1).Entry.Addr)/\((.int .i64 r.Entry.Len:Value)=.int .i64 (F21 e1).Entry.Len)/\((.int .i64 r.Entry.Cost:Value)=.int .i64 (F21 e1).Entry.Cost)/\((.int .i64 r.Entry.Label:Value)=.int .i64 (F21 e1).Entry.Label)/\True:=by cases hF; exact ⟨rfl,rfl,rfl,rfl,rfl,trivial⟩
def S21 (e1:Ud):Spec:=⟨[.r (.g (eHelloEnd e1))],.ag [.v (vI (F21 e1).Kind),.v (vI (F21 e1).Entry.Addr),.v (vI (F21 e1).Entry.Len),.v (vI (F21 e1).Entry.Cost),.v (vI (F21 e1).Entry.Label)],True⟩
theorem ok21 (e1:Ud):(S21 e1).ok Tryz.prog 21 :=
 fnG_ok mixed (fn:=Tryz.f21) (ct:=.seq .no (.seq (.reg [(4,kh50 e1.Told e1.Want)]) (.seq (.seq .no (.cond (.seq .no .no) .no)) (.seq (.reg [(4,kh51 e1.Want e1.Told)]) (.seq (.seq .no (.cond (.seq .no .no) .no)) (.seq (.seq .no (.cond (.seq .no .no) .no)) (.seq .no .no))))))) Tryz.func21 (fun (_:True)=>kc50 e1.Told e1.Want (ifb (F50 e1.Told e1.Want).2 (fun h1=>fi21 e1 (⟨2,(⟨(F50 e1.Told e1.Want).1.Addr,(F50 e1.Told e1.Want).1.Len,0,0⟩:Ue)⟩:HelloChange) (condT h1 rfl)) (fun h1=>kc51 e1.Want e1.Told (ifb (F51 e1.Want e1.Told).2 (fun h2=>fi21 e1 (⟨1,(F51 e1.Want e1.Told).1⟩:HelloChange) (condF h1 (condT h2 rfl))) (fun h2=>ifb (!e1.All) (fun h3=>have _:=(notET h3); fi21 e1 (⟨3,(⟨0,0,0,0⟩:Ue)⟩:HelloChange) (condF h1 (condF h2 (condT h3 rfl)))) (fun h3=>have _:=(notEF h3); fi21 e1 (⟨0,(⟨0,0,0,0⟩:Ue)⟩:HelloChange) (condF h1 (condF h2 (condF h3 rfl))))))))) uu3
def F83_s0 (s:List Ue) (v1:Ue):Int->Lp Int Int:=fun v8 =>
 bif (decide (v8<(s.length:Int))) then (bif ((v1.Addr==(s.getD v8.toNat default).Addr)&&((v1.Len==(s.getD v8.toNat default).Len)&&((v1.Cost==(s.getD v8.toNat default).Cost)&&(v1.Label==(s.getD v8.toNat default).Label)))) then (.ret v8) else (.next (v8+1))) else (.done v8)
def F83 (s:List Ue) (v1:Ue):Int :=
 (runL (F83_s0 s v1) (((s.length:Int)-0).toNat+1) 0).fin (fun r=>r) (fun v8=>(-1))
abbrev lN83_0 (s:List Ue):Nat×Int:=((((s.length:Int)-0).toNat+1),0)
abbrev lI83_0 (s:List Ue) (m39:Nat) (v8:Int):Prop:=Int.toNat ((s.length:Int)-v8)<m39/\(0:Int)<=v8
abbrev lX83_0 (s:List Ue) (v1:Ue):Lp Int Int:=LpX (F83_s0 s v1) (lN83_0 s)
abbrev lJ83_0 (s:List Ue) (v1:Ue) (i:Nat×Int):Prop:=LpJ (F83_s0 s v1) (lN83_0 s) i (lI83_0 s i.1 i.2)
abbrev lH83_0 (s:List Ue) (v1:Ue) (i:Nat×Int) (m39:Nat) (v8:Int):Prop:=LpH (F83_s0 s v1) (lN83_0 s) i m39 v8 (lI83_0 s (m39+1) v8)
abbrev lE83_0 (s:List Ue) (v1:Ue) (v8:Int) (v8_:Int) (K39:Prop):Prop:=(Rf (.int .i64 (s.length:Int)))/\((.int .i64 v8:Value)=.int .i64 v8_)/\(Im (.l 4 eHelloEntry s))/\(Rf (.int .i64 v1.Addr))/\(Rf (.int .i64 v1.Len))/\(Rf (.int .i64 v1.Cost))/\(Rf (.int .i64 v1.Label))/\K39
theorem un83_0 (s:List Ue) (v1:Ue) (i:Nat×Int) (h:lJ83_0 s v1 i):lH83_0 s v1 i (i.1-1) i.2:=⟨hd1 h.1 h.2.1,hd3 h.2.1,hd2 h.2.1,h.2.2⟩
theorem bk83_0 (s:List Ue) (v1:Ue) (i:Nat×Int) (m39:Nat) (v8:Int) (hl:m39<i.1) (e:runL (F83_s0 s v1) m39 v8=lX83_0 s v1) (h:lI83_0 s m39 v8):∃ j:Nat×Int,lE83_0 s v1 v8 j.2 (lJ83_0 s v1 j/\j.1<i.1):=⟨(m39,v8),rfl,rfl,Imp.refl _,rfl,rfl,rfl,rfl,⟨e,h⟩,hl⟩
theorem en83_0 (s:List Ue) (v1:Ue) (h:(0:Int)<=0):lE83_0 s v1 0 0 (lJ83_0 s v1 (lN83_0 s)):=⟨rfl,rfl,Imp.refl _,rfl,rfl,rfl,rfl,rfl,Qq _,h⟩
def S83 (s:List Ue) (v1:Ue):Spec:=⟨[.r (.c (.l 4 eHelloEntry s)),.r (.g (eHelloEntry v1))],.v (vI (F83 s v1)),True⟩
theorem ok83 (s:List Ue) (v1:Ue):(S83 s v1).ok Tryz.prog 83 :=
 fnG_ok mixed (fn:=Tryz.f83) (ct:=.seqk [(0,0)] .no (.seq (.seqk [(0,0)] .no (.blk (.loop (ι:=Nat×Int) (fun i=>(fun (v8:Int)=>(⟨[(0,some (.h 0 0)),(3,some (.p 1 0)),(7,some (.v (vI (s.length:Int)))),(8,some (.v (vI v8)))],[(0,some (.shr none (.l 4 eHelloEntry s))),(1,some (.box 26 [.v (vI v1.Addr),.v (vI v1.Len),.v (vI v1.Cost),.v (vI v1.Label)]))],2⟩:St)) i.2) (lJ83_0 s v1) (fun i=>i.1) (lN83_0 s) (fun i=>(fun (v8:Int)=>(.seq .no (.seq (.cond .no .no) (.seq (.blk (.seq .no (.seq (.reg [(5,.bin .eql 26 (.agg #[.int .i64 v1.Addr,.int .i64 v1.Len,.int .i64 v1.Cost,.int .i64 v1.Label]) (.agg #[.int .i64 (s.getD v8.toNat default).Addr,.int .i64 (s.getD v8.toNat default).Len,.int .i64 (s.getD v8.toNat default).Cost,.int .i64 (s.getD v8.toNat default).Label]) (.bool ((v1.Addr==(s.getD v8.toNat default).Addr)&&((v1.Len==(s.getD v8.toNat default).Len)&&((v1.Cost==(s.getD v8.toNat default).Cost)&&(v1.Label==(s.getD v8.toNat default).Label))))) rfl (eqlT26 v1.Addr (s.getD v8.toNat default).Addr v1.Len (s.getD v8.toNat default).Len v1.Cost (s.getD v8.toNat default).Cost v1.Label (s.getD v8.toNat default).Label))]) (.cond (.seq .no .no) .no)))) (.reg [(0,.bnd)]))))) i.2)))) (.seq .no .no))) Tryz.func83 (fun (_:True)=>kn s fun _=>kn s fun _=>ai (en83_0 s v1 uu0) (fun (i0:Nat×Int) (hi0:lJ83_0 s v1 i0)=>(fun (m0:Nat) (v8:Int) (hh0:lH83_0 s v1 i0 m0 v8)=>have hI0:=hh0.1; have hl0:=hh0.2.1; have _:=hh0.2.2.1; have _:=hh0.2.2.2; ifd (v8<(s.length:Int)) (fun h2 _=>ai (uu0:ib v8 s) (ai (Eq.refl (.agg #[.int .i64 v1.Addr,.int .i64 v1.Len,.int .i64 v1.Cost,.int .i64 v1.Label]:Value)) (ai (Eq.refl (.agg #[.int .i64 (s.getD v8.toNat default).Addr,.int .i64 (s.getD v8.toNat default).Len,.int .i64 (s.getD v8.toNat default).Cost,.int .i64 (s.getD v8.toNat default).Label]:Value)) (ifb ((v1.Addr==(s.getD v8.toNat default).Addr)&&((v1.Len==(s.getD v8.toNat default).Len)&&((v1.Cost==(s.getD v8.toNat default).Cost)&&(v1.Label==(s.getD v8.toNat default).Label)))) (fun h3=>fiI v8 (F83 s v1) (finR (runL_ret hI0 (condT h2 (condT h3 rfl))) rfl)) (fun h3=>ai (iok (v8+1) uu0) (bk83_0 s v1 i0 m0 (v8+1) hl0 (runL_next hI0 (condT h2 (condF h3 rfl))) uu7)))))) (fun h2 _=>have hD0_4:lX83_0 s v1=Lp.done v8:=runL_done hI0 (condF h2 rfl); fiI (-1) (F83 s v1) (finD hD0_4 rfl))) (i0.1-1) i0.2 (un83_0 s v1 i0 hi0))) uu3
theorem kc83 (s:List Ue) (v1:Ue) {K_:Prop} (k_:K_):(True)/\(Imp (.l 4 eHelloEntry s) (.l 4 eHelloEntry s))/\(Imps (eHelloEntry v1) (eHelloEntry v1))/\K_:=⟨trivial,Imp.refl _,Imps.refl _,k_⟩
abbrev kh83 (s:List Ue) (v1:Ue):Hint true Tryz.prog:=.call 83 (S83 s v1) (ok83 s v1) none
def F49 (s:List Ue) (v1:Ue):Bool :=
 decide ((F83 s v1)>=0)
def S49 (s:List Ue) (v1:Ue):Spec:=⟨[.r (.c (.l 4 eHelloEntry s)),.r (.g (eHelloEntry v1))],.v (.bool (F49 s v1)),True⟩
theorem ok49 (s:List Ue) (v1:Ue):(S49 s v1).ok Tryz.prog 49 :=
 fnG_ok mixed (fn:=Tryz.f49) (ct:=.seqk [(0,0)] .no (.seq (.reg [(2,kh83 s v1)]) .no)) Tryz.func49 (fun (_:True)=>kn s fun _=>kc83 s v1 (fiB (decide ((F83 s v1)>=0)) (F49 s v1) rfl)) uu3
theorem kc49 (s:List Ue) (v1:Ue) {K_:Prop} (k_:K_):(True)/\(Imp (.l 4 eHelloEntry s) (.l 4 eHelloEntry s))/\(Imps (eHelloEntry v1) (eHelloEntry v1))/\K_:=⟨trivial,Imp.refl _,Imps.refl _,k_⟩
abbrev kh49f (s:List Ue) (v1:Ue):Hint false Tryz.prog:=.call 49 (S49 s v1) ((ok49 s v1).to false) none
def F20_s1 (e1:Ud):Int->Lp Int HelloChange:=fun v36 =>
 bif (decide (v36<(e1.Want.length:Int))) then (bif (!(F49 e1.Told (e1.Want.getD v36.toNat default))) then (.ret (⟨1,(e1.Want.getD v36.toNat default)⟩:HelloChange)) else (.next (v36+1))) else (.done v36)
def F20_s0 (e1:Ud):Int->Lp Int HelloChange:=fun v12 =>
 bif (decide (v12<(e1.Told.length:Int))) then (bif (!(fndE e1.Want (atP (F48 (e1.Told.getD v12.toNat default))))) then (.ret (⟨2,(⟨(e1.Told.getD v12.toNat default).Addr,(e1.Told.getD v12.toNat default).Len,0,0⟩:Ue)⟩:HelloChange)) else (.next (v12+1))) else (.done v12)
def F20 (e1:Ud):HelloChange :=
 (runL (F20_s0 e1) (((e1.Told.length:Int)-0).toNat+1) 0).fin (fun r=>r) (fun v12=>(runL (F20_s1 e1) (((e1.Want.length:Int)-0).toNat+1) 0).fin (fun r=>r) (fun v36=>bif (!e1.All) then (⟨3,(⟨0,0,0,0⟩:Ue)⟩:HelloChange) else (⟨0,(⟨0,0,0,0⟩:Ue)⟩:HelloChange)))
abbrev lN20_1 (e1:Ud):Nat×Int:=((((e1.Want.length:Int)-0).toNat+1),0)
abbrev lI20_1 (e1:Ud) (m39:Nat) (v36:Int):Prop:=Int.toNat ((e1.Want.length:Int)-v36)<m39/\(0:Int)<=v36
abbrev lX20_1 (e1:Ud):Lp Int HelloChange:=LpX (F20_s1 e1) (lN20_1 e1)
abbrev lJ20_1 (e1:Ud) (i:Nat×Int):Prop:=LpJ (F20_s1 e1) (lN20_1 e1) i (lI20_1 e1 i.1 i.2)
abbrev lH20_1 (e1:Ud) (i:Nat×Int) (m39:Nat) (v36:Int):Prop:=LpH (F20_s1 e1) (lN20_1 e1) i m39 v36 (lI20_1 e1 (m39+1) v36)
abbrev lE20_1 (e1:Ud) (v36:Int) (v36_:Int) (K39:Prop):Prop:=(Rf (.int .i64 (e1.Want.length:Int)))/\((.int .i64 v36:Value)=.int .i64 v36_)/\(Rf (.int .i64 e1.Name))/\(Rf (.int .i64 e1.Peer))/\(Rf (.int .i64 e1.Boot))/\(Rf (.int .i64 e1.Turn))/\(Rf (.int .i64 e1.PeerBoot))/\(Rf (.int .i64 e1.PeerTurn))/\(Rf (.bool e1.Up))/\(Rf (.int .i64 e1.Left))/\(Rf (.int .i64 e1.Num))/\(Rf (.int .i64 e1.Under.Kind))/\(Rf (.int .i64 e1.Under.Entry.Addr))/\(Rf (.int .i64 e1.Under.Entry.Len))/\(Rf (.int .i64 e1.Under.Entry.Cost))/\(Rf (.int .i64 e1.Under.Entry.Label))/\(Rf (.bool e1.All))/\(Rf (.int .i64 e1.Got))/\(Rf (.bool e1.Full))/\(Rf (.int .i64 e1.Keep))/\(Im (.l 2 eHelloKey e1.Keys))/\(Im (.l 4 eHelloEntry e1.Want))/\(Im (.l 4 eHelloEntry e1.Told))/\(Im (.l 5 eHelloRoute e1.Heard))/\(Rf (.int .i64 0))/\(Rf (.int .i64 0))/\(Rf (.int .i64 0))/\(Rf (.int .i64 0))/\(Rf (.int .i64 0))/\K39
theorem un20_1 (e1:Ud) (i:Nat×Int) (h:lJ20_1 e1 i):lH20_1 e1 i (i.1-1) i.2:=⟨hd1 h.1 h.2.1,hd3 h.2.1,hd2 h.2.1,h.2.2⟩
theorem bk20_1 (e1:Ud) (i:Nat×Int) (m39:Nat) (v36:Int) (hl:m39<i.1) (e:runL (F20_s1 e1) m39 v36=lX20_1 e1) (h:lI20_1 e1 m39 v36):∃ j:Nat×Int,lE20_1 e1 v36 j.2 (lJ20_1 e1 j/\j.1<i.1):=⟨(m39,v36),rfl,rfl,rfl,rfl,rfl,rfl,rfl,rfl,rfl,rfl,rfl,rfl,rfl,rfl,rfl,rfl,rfl,rfl,rfl,rfl,Imp.refl _,Imp.refl _,Imp.refl _,Imp.refl _,rfl,rfl,rfl,rfl,rfl,⟨e,h⟩,hl⟩
theorem en20_1 (e1:Ud) (h:(0:Int)<=0):lE20_1 e1 0 0 (lJ20_1 e1 (lN20_1 e1)):=⟨rfl,rfl,rfl,rfl,rfl,rfl,rfl,rfl,rfl,rfl,rfl,rfl,rfl,rfl,rfl,rfl,rfl,rfl,rfl,rfl,Imp.refl _,Imp.refl _,Imp.refl _,Imp.refl _,rfl,rfl,rfl,rfl,rfl,rfl,Qq _,h⟩
abbrev lN20_0 (e1:Ud):Nat×Int:=((((e1.Told.length:Int)-0).toNat+1),0)
abbrev lI20_0 (e1:Ud) (m39:Nat) (v12:Int):Prop:=Int.toNat ((e1.Told.length:Int)-v12)<m39/\(0:Int)<=v12
abbrev lX20_0 (e1:Ud):Lp Int HelloChange:=LpX (F20_s0 e1) (lN20_0 e1)
abbrev lJ20_0 (e1:Ud) (i:Nat×Int):Prop:=LpJ (F20_s0 e1) (lN20_0 e1) i (lI20_0 e1 i.1 i.2)
abbrev lH20_0 (e1:Ud) (i:Nat×Int) (m39:Nat) (v12:Int):Prop:=LpH (F20_s0 e1) (lN20_0 e1) i m39 v12 (lI20_0 e1 (m39+1) v12)
abbrev lE20_0 (e1:Ud) (v12:Int) (v12_:Int) (K39:Prop):Prop:=(Rf (.int .i64 (e1.Told.length:Int)))/\((.int .i64 v12:Value)=.int .i64 v12_)/\(Rf (.int .i64 e1.Name))/\(Rf (.int .i64 e1.Peer))/\(Rf (.int .i64 e1.Boot))/\(Rf (.int .i64 e1.Turn))/\(Rf (.int .i64 e1.PeerBoot))/\(Rf (.int .i64 e1.PeerTurn))/\(Rf (.bool e1.Up))/\(Rf (.int .i64 e1.Left))/\(Rf (.int .i64 e1.Num))/\(Rf (.int .i64 e1.Under.Kind))/\(Rf (.int .i64 e1.Under.Entry.Addr))/\(Rf (.int .i64 e1.Under.Entry.Len))/\(Rf (.int .i64 e1.Under.Entry.Cost))/\(Rf (.int .i64 e1.Under.Entry.Label))/\(Rf (.bool e1.All))/\(Rf (.int .i64 e1.Got))/\(Rf (.bool e1.Full))/\(Rf (.int .i64 e1.Keep))/\(Im (.l 2 eHelloKey e1.Keys))/\(Im (.l 4 eHelloEntry e1.Want))/\(Im (.l 4 eHelloEntry e1.Told))/\(Im (.l 5 eHelloRoute e1.Heard))/\(Rf (.int .i64 0))/\(Rf (.int .i64 0))/\(Rf (.int .i64 0))/\(Rf (.int .i64 0))/\(Rf (.int .i64 0))/\K39
theorem un20_0 (e1:Ud) (i:Nat×Int) (h:lJ20_0 e1 i):lH20_0 e1 i (i.1-1) i.2:=⟨hd1 h.1 h.2.1,hd3 h.2.1,hd2 h.2.1,h.2.2⟩
theorem bk20_0 (e1:Ud) (i:Nat×Int) (m39:Nat) (v12:Int) (hl:m39<i.1) (e:runL (F20_s0 e1) m39 v12=lX20_0 e1) (h:lI20_0 e1 m39 v12):∃ j:Nat×Int,lE20_0 e1 v12 j.2 (lJ20_0 e1 j/\j.1<i.1):=⟨(m39,v12),rfl,rfl,rfl,rfl,rfl,rfl,rfl,rfl,rfl,rfl,rfl,rfl,rfl,rfl,rfl,rfl,rfl,rfl,rfl,rfl,Imp.refl _,Imp.refl _,Imp.refl _,Imp.refl _,rfl,rfl,rfl,rfl,rfl,⟨e,h⟩,hl⟩
theorem en20_0 (e1:Ud) (h:(0:Int)<=0):lE20_0 e1 0 0 (lJ20_0 e1 (lN20_0 e1)):=⟨rfl,rfl,rfl,rfl,rfl,rfl,rfl,rfl,rfl,rfl,rfl,rfl,rfl,rfl,rfl,rfl,rfl,rfl,rfl,rfl,Imp.refl _,Imp.refl _,Imp.refl _,Imp.refl _,rfl,rfl,rfl,rfl,rfl,rfl,Qq _,h⟩
theorem fi20 (e1:Ud) (r:HelloChange) (hF:r=(F20 e1)):((.int .i64 r.Kind:Value)=.int .i64 (F20 e1).Kind)/\((.int .i64 r.Entry.Addr:Value)=.int .i64 (F20 e1).Entry.Addr)/\((.int .i64 r.Entry.Len:Value)=.int .i64 (F20 e1).Entry.Len)/\((.int .i64 r.Entry.Cost:Value)=.int .i64 (F20 e1).Entry.Cost)/\((.int .i64 r.Entry.Label:Value)=.int .i64 (F20 e1).Entry.Label)/\True:=by cases hF; exact ⟨rfl,rfl,rfl,rfl,rfl,trivial⟩
def S20 (e1:Ud):Spec:=⟨[.r (.g (eHelloEnd e1))],.ag [.v (vI (F20 e1).Kind),.v (vI (F20 e1).Entry.Addr),.v (vI (F20 e1).Entry.Len),.v (vI (F20 e1).Entry.Cost),.v (vI (F20 e1).Entry.Label)],EndFit e1⟩
theorem ok20 (e1:Ud):(S20 e1).ok Tryz.prog 20 false :=
 fnG_ok mixed (fn:=Tryz.f20) (ct:=.seq .no (.seq (.seqk [(1,2),(1,4),(1,16),(1,20),(10,0)] .no (.blk (.loop (ι:=Nat×Int) (fun i=>(fun (v12:Int)=>(⟨[(1,some (.p 0 0)),(2,some (.p 5 0)),(10,some (.h 3 0)),(11,some (.v (vI (e1.Told.length:Int)))),(12,some (.v (vI v12)))],[(0,some (.box 31 [.v (vI e1.Name),.v (vI e1.Peer),.h 1 0,.v (vI e1.Boot),.h 2 0,.v (vI e1.Turn),.v (vI e1.PeerBoot),.v (vI e1.PeerTurn),.v (.bool e1.Up),.v (vI e1.Left),.v (vI e1.Num),.v (vI e1.Under.Kind),.v (vI e1.Under.Entry.Addr),.v (vI e1.Under.Entry.Len),.v (vI e1.Under.Entry.Cost),.v (vI e1.Under.Entry.Label),.h 3 0,.v (.bool e1.All),.v (vI e1.Got),.v (.bool e1.Full),.h 4 0,.v (vI e1.Keep)])),(1,some (.shr none (.l 2 eHelloKey e1.Keys))),(2,some (.shr none (.l 4 eHelloEntry e1.Want))),(3,some (.shr none (.l 4 eHelloEntry e1.Told))),(4,some (.shr none (.l 5 eHelloRoute e1.Heard))),(5,some (.box 28 [.v (vI 0),.v (vI 0),.v (vI 0),.v (vI 0),.v (vI 0)]))],6⟩:St)) i.2) (lJ20_0 e1) (fun i=>i.1) (lN20_0 e1) (fun i=>(fun (v12:Int)=>(.seq .no (.seq (.cond .no .no) (.seq (.blk (.seq .no (.seq (.reg [(3,kh48f (e1.Told.getD v12.toNat default)),(4,kh47a e1.Want (F48 (e1.Told.getD v12.toNat default)))]) (.seq .no (.cond (.seq .no .no) .no))))) (.reg [(0,.bnd)]))))) i.2)))) (.seq (.seqk [(1,2),(1,4),(1,16),(1,20),(34,0)] .no (.blk (.loop (ι:=Nat×Int) (fun i=>(fun (v36:Int)=>(⟨[(1,some (.p 0 0)),(2,some (.p 5 0)),(34,some (.h 2 0)),(35,some (.v (vI (e1.Want.length:Int)))),(36,some (.v (vI v36)))],[(0,some (.box 31 [.v (vI e1.Name),.v (vI e1.Peer),.h 1 0,.v (vI e1.Boot),.h 2 0,.v (vI e1.Turn),.v (vI e1.PeerBoot),.v (vI e1.PeerTurn),.v (.bool e1.Up),.v (vI e1.Left),.v (vI e1.Num),.v (vI e1.Under.Kind),.v (vI e1.Under.Entry.Addr),.v (vI e1.Under.Entry.Len),.v (vI e1.Under.Entry.Cost),.v (vI e1.Under.Entry.Label),.h 3 0,.v (.bool e1.All),.v (vI e1.Got),.v (.bool e1.Full),.h 4 0,.v (vI e1.Keep)])),(1,some (.shr none (.l 2 eHelloKey e1.Keys))),(2,some (.shr none (.l 4 eHelloEntry e1.Want))),(3,some (.shr none (.l 4 eHelloEntry e1.Told))),(4,some (.shr none (.l 5 eHelloRoute e1.Heard))),(5,some (.box 28 [.v (vI 0),.v (vI 0),.v (vI 0),.v (vI 0),.v (vI 0)]))],6⟩:St)) i.2) (lJ20_1 e1) (fun i=>i.1) (lN20_1 e1) (fun i=>(fun (v36:Int)=>(.seq .no (.seq (.cond .no .no) (.seq (.blk (.seq .no (.seq (.reg [(3,kh49f e1.Told (e1.Want.getD v36.toNat default))]) (.cond (.seq .no .no) .no)))) (.reg [(0,.bnd)]))))) i.2)))) (.seq (.seq .no (.cond (.seq .no .no) .no)) (.seq .no .no))))) Tryz.func20 (fun (hpre0:EndFit e1)=>kn e1.Keys fun _=>kn e1.Want fun _=>kn e1.Told fun _=>kn e1.Heard fun _=>kn e1.Told fun _=>ai (en20_0 e1 uu0) (fun (i0:Nat×Int) (hi0:lJ20_0 e1 i0)=>(fun (m0:Nat) (v12:Int) (hh0:lH20_0 e1 i0 m0 v12)=>have hI0:=hh0.1; have hl0:=hh0.2.1; have _:=hh0.2.2.1; have _:=hh0.2.2.2; ifd (v12<(e1.Told.length:Int)) (fun h2 _=>ai (uu0:ib v12 e1.Told) (kc48 (e1.Told.getD v12.toNat default) (kc47a e1.Want (F48 (e1.Told.getD v12.toNat default)) (by first | assumption | exact EndFit.want (by assumption)) (by first | assumption | exact (EndFit.told (by assumption)).eIn (by omega)) uu16 (fun gv3=>ifb (!(fndE e1.Want (atP (F48 (e1.Told.getD v12.toNat default))))) (fun h4=>have _:=(notET h4); fi20 e1 (⟨2,(⟨(e1.Told.getD v12.toNat default).Addr,(e1.Told.getD v12.toNat default).Len,0,0⟩:Ue)⟩:HelloChange) (finR (runL_ret hI0 (condT h2 (condT h4 rfl))) rfl)) (fun h4=>have _:=(notEF h4); ai (iok (v12+1) uu0) (bk20_0 e1 i0 m0 (v12+1) hl0 (runL_next hI0 (condT h2 (condF h4 rfl))) uu7)))))) (fun h2 _=>have hD0_5:lX20_0 e1=Lp.done v12:=runL_done hI0 (condF h2 rfl); kn e1.Keys fun _=>kn e1.Want fun _=>kn e1.Told fun _=>kn e1.Heard fun _=>kn e1.Want fun _=>ai (en20_1 e1 uu0) (fun (i1:Nat×Int) (hi1:lJ20_1 e1 i1)=>(fun (m1:Nat) (v36:Int) (hh1:lH20_1 e1 i1 m1 v36)=>have hI1:=hh1.1; have hl1:=hh1.2.1; have _:=hh1.2.2.1; have _:=hh1.2.2.2; ifd (v36<(e1.Want.length:Int)) (fun h7 _=>ai (uu0:ib v36 e1.Want) (kc49 e1.Told (e1.Want.getD v36.toNat default) (ifb (!(F49 e1.Told (e1.Want.getD v36.toNat default))) (fun h8=>fi20 e1 (⟨1,(e1.Want.getD v36.toNat default)⟩:HelloChange) (finD hD0_5 (finR (runL_ret hI1 (condT h7 (condT h8 rfl))) rfl))) (fun h8=>ai (iok (v36+1) uu0) (bk20_1 e1 i1 m1 (v36+1) hl1 (runL_next hI1 (condT h7 (condF h8 rfl))) uu7))))) (fun h7 _=>have hD1_9:lX20_1 e1=Lp.done v36:=runL_done hI1 (condF h7 rfl); ifb (!e1.All) (fun h10=>have _:=(notET h10); fi20 e1 (⟨3,(⟨0,0,0,0⟩:Ue)⟩:HelloChange) (finD hD0_5 (finD hD1_9 (condT h10 rfl)))) (fun h10=>have _:=(notEF h10); fi20 e1 (⟨0,(⟨0,0,0,0⟩:Ue)⟩:HelloChange) (finD hD0_5 (finD hD1_9 (condF h10 rfl)))))) (i1.1-1) i1.2 (un20_1 e1 i1 hi1)))) (i0.1-1) i0.2 (un20_0 e1 i0 hi0))) uu3
def F72 (x9:Int) (n:Int):Int :=
 bif (decide ((n.tmod 2147483647)<0)) then ((IntKind.i64.wrap ((IntKind.i64.wrap ((IntKind.i64.wrap (x9*48271))+(IntKind.i64.wrap ((n.tmod 2147483647)+2147483647))))+1)).tmod 2147483647) else ((IntKind.i64.wrap ((IntKind.i64.wrap ((IntKind.i64.wrap (x9*48271))+(n.tmod 2147483647)))+1)).tmod 2147483647)
def S72 (x9:Int) (n:Int):Spec:=⟨[.r (.c (.v (vI x9))),.r (.c (.v (vI n)))],.v (vI (F72 x9 n)),True⟩
theorem ok72 (x9:Int) (n:Int):(S72 x9 n).ok Tryz.prog 72 :=
 fnG_ok mixed (fn:=Tryz.f72) (ct:=.seq .no (.seq .no (.seq (.seq .no (.cond .no .no)) (.seq .no .no)))) Tryz.func72 (fun (_:True)=>ai (uu0:¬ (2147483647:Int)=0) (ifd ((n.tmod 2147483647)<0) (fun h1 _=>ai (uu0:¬ (2147483647:Int)=0) (fiI ((IntKind.i64.wrap ((IntKind.i64.wrap ((IntKind.i64.wrap (x9*48271))+(IntKind.i64.wrap ((n.tmod 2147483647)+2147483647))))+1)).tmod 2147483647) (F72 x9 n) (condT h1 rfl))) (fun h1 _=>ai (uu0:¬ (2147483647:Int)=0) (fiI ((IntKind.i64.wrap ((IntKind.i64.wrap ((IntKind.i64.wrap (x9*48271))+(n.tmod 2147483647)))+1)).tmod 2147483647) (F72 x9 n) (condF h1 rfl))))) uu3
theorem kc72 (x9:Int) (n:Int) {K_:Prop} (k_:K_):(True)/\(Imp (.v (vI x9)) (.v (vI x9)))/\(Imp (.v (vI n)) (.v (vI n)))/\K_:=⟨trivial,Imp.refl _,Imp.refl _,k_⟩
abbrev kh72 (x9:Int) (n:Int):Hint true Tryz.prog:=.call 72 (S72 x9 n) (ok72 x9 n) none
def F38_s0 (secret:Int) (w1:HelloWord):(Int×Int)->Lp (Int×Int) Int:=fun (x10,i40) =>
 bif (decide (i40<(([w1.From,w1.To,w1.Key,w1.Boot,w1.Yours,w1.Turn,w1.Num,w1.Heard,w1.Change.Kind,w1.Change.Entry.Addr,w1.Change.Entry.Len,w1.Change.Entry.Cost,w1.Change.Entry.Label]:List Int).length:Int))) then (.next ((F72 x10 (([w1.From,w1.To,w1.Key,w1.Boot,w1.Yours,w1.Turn,w1.Num,w1.Heard,w1.Change.Kind,w1.Change.Entry.Addr,w1.Change.Entry.Len,w1.Change.Entry.Cost,w1.Change.Entry.Label]:List Int).getD i40.toNat default)),(i40+1))) else (.done (x10,i40))
def F38_j0 (secret:Int) (w1:HelloWord):Lp Int Int :=
 (runL (F38_s0 secret w1) (((([w1.From,w1.To,w1.Key,w1.Boot,w1.Yours,w1.Turn,w1.Num,w1.Heard,w1.Change.Kind,w1.Change.Entry.Addr,w1.Change.Entry.Len,w1.Change.Entry.Cost,w1.Change.Entry.Label]:List Int).length:Int)-0).toNat+1) ((F72 0 secret),0)).fin Lp.ret (fun (x10,i40)=>.done x10)
def F38 (secret:Int) (w1:HelloWord):Int :=
 (F38_j0 secret w1).fin (fun r=>r) (fun x9=>(F72 x9 secret))
abbrev lN38_0 (secret:Int) (w1:HelloWord):Nat×(Int×Int):=((((([w1.From,w1.To,w1.Key,w1.Boot,w1.Yours,w1.Turn,w1.Num,w1.Heard,w1.Change.Kind,w1.Change.Entry.Addr,w1.Change.Entry.Len,w1.Change.Entry.Cost,w1.Change.Entry.Label]:List Int).length:Int)-0).toNat+1),((F72 0 secret),0))
abbrev lI38_0 (w1:HelloWord) (m39:Nat) (x10:Int) (i40:Int):Prop:=Int.toNat ((([w1.From,w1.To,w1.Key,w1.Boot,w1.Yours,w1.Turn,w1.Num,w1.Heard,w1.Change.Kind,w1.Change.Entry.Addr,w1.Change.Entry.Len,w1.Change.Entry.Cost,w1.Change.Entry.Label]:List Int).length:Int)-i40)<m39/\(0:Int)<=i40
abbrev lX38_0 (secret:Int) (w1:HelloWord):Lp (Int×Int) Int:=LpX (F38_s0 secret w1) (lN38_0 secret w1)
abbrev lJ38_0 (secret:Int) (w1:HelloWord) (i:Nat×(Int×Int)):Prop:=LpJ (F38_s0 secret w1) (lN38_0 secret w1) i (lI38_0 w1 i.1 i.2.1 i.2.2)
abbrev lH38_0 (secret:Int) (w1:HelloWord) (i:Nat×(Int×Int)) (m39:Nat) (x10:Int) (i40:Int):Prop:=LpH (F38_s0 secret w1) (lN38_0 secret w1) i m39 (x10,i40) (lI38_0 w1 (m39+1) x10 i40)
abbrev lE38_0 (secret:Int) (w1:HelloWord) (x10:Int) (i40:Int) (x10_:Int) (i40_:Int) (K39:Prop):Prop:=(Rf (.int .i64 secret))/\((.int .i64 x10:Value)=.int .i64 x10_)/\((.int .i64 i40:Value)=.int .i64 i40_)/\(Im (.l 1 eInt ([w1.From,w1.To,w1.Key,w1.Boot,w1.Yours,w1.Turn,w1.Num,w1.Heard,w1.Change.Kind,w1.Change.Entry.Addr,w1.Change.Entry.Len,w1.Change.Entry.Cost,w1.Change.Entry.Label]:List Int)))/\K39
theorem un38_0 (secret:Int) (w1:HelloWord) (i:Nat×(Int×Int)) (h:lJ38_0 secret w1 i):lH38_0 secret w1 i (i.1-1) i.2.1 i.2.2:=⟨hd1 h.1 h.2.1,hd3 h.2.1,hd2 h.2.1,h.2.2⟩
theorem bk38_0 (secret:Int) (w1:HelloWord) (i:Nat×(Int×Int)) (m39:Nat) (x10:Int) (i40:Int) (hl:m39<i.1) (e:runL (F38_s0 secret w1) m39 (x10,i40)=lX38_0 secret w1) (h:lI38_0 w1 m39 x10 i40):∃ j:Nat×(Int×Int),lE38_0 secret w1 x10 i40 j.2.1 j.2.2 (lJ38_0 secret w1 j/\j.1<i.1):=⟨(m39,(x10,i40)),rfl,rfl,rfl,Imp.refl _,⟨e,h⟩,hl⟩
theorem en38_0 (secret:Int) (w1:HelloWord) (h:(0:Int)<=0):lE38_0 secret w1 (F72 0 secret) 0 (F72 0 secret) 0 (lJ38_0 secret w1 (lN38_0 secret w1)):=⟨rfl,rfl,rfl,Imp.refl _,rfl,Qq _,h⟩
abbrev jJ38_0 (secret:Int) (w1:HelloWord) (j:Int):Prop:=(F38_j0 secret w1)=Lp.done j
theorem jn38_0 (secret:Int) (w1:HelloWord) (x9:Int) (e:(F38_j0 secret w1)=Lp.done x9):∃ j:Int,((.int .i64 secret:Value)=.int .i64 secret)/\((.int .i64 x9:Value)=.int .i64 j)/\jJ38_0 secret w1 j:=⟨x9,rfl,rfl,e⟩
def S38 (secret:Int) (w1:HelloWord):Spec:=⟨[.r (.c (.v (vI secret))),.r (.g (eHelloWord w1))],.v (vI (F38 secret w1)),True⟩
theorem ok38 (secret:Int) (w1:HelloWord):(S38 secret w1).ok Tryz.prog 38 :=
 fnG_ok mixed (fn:=Tryz.f38) (ct:=.seq .no (.seq (.reg [(1,kh72 0 secret)]) (.seq (.reg [(35,.dat (.l 1 eInt ([w1.From,w1.To,w1.Key,w1.Boot,w1.Yours,w1.Turn,w1.Num,w1.Heard,w1.Change.Kind,w1.Change.Entry.Addr,w1.Change.Entry.Len,w1.Change.Entry.Cost,w1.Change.Entry.Label]:List Int)))]) (.cut (ι:=Int) (fun j=>(fun (x9:Int)=>(⟨[(0,some (.v (vI secret))),(5,some (.v (vI x9)))],[],0⟩:St)) j) (jJ38_0 secret w1) (.seqk [(6,0)] .no (.blk (.loop (ι:=Nat×(Int×Int)) (fun i=>(fun (x10:Int) (i40:Int)=>(⟨[(0,some (.v (vI secret))),(5,some (.v (vI x10))),(6,some (.h 0 0)),(7,some (.v (vI i40)))],[(0,some (.own 0 (.l 1 eInt ([w1.From,w1.To,w1.Key,w1.Boot,w1.Yours,w1.Turn,w1.Num,w1.Heard,w1.Change.Kind,w1.Change.Entry.Addr,w1.Change.Entry.Len,w1.Change.Entry.Cost,w1.Change.Entry.Label]:List Int))))],1⟩:St)) i.2.1 i.2.2) (lJ38_0 secret w1) (fun i=>i.1) (lN38_0 secret w1) (fun i=>(fun (x10:Int) (i40:Int)=>(.seq (.seq .no (.cond .no .no)) (.seq (.blk (.reg [(5,kh72 x10 (([w1.From,w1.To,w1.Key,w1.Boot,w1.Yours,w1.Turn,w1.Num,w1.Heard,w1.Change.Kind,w1.Change.Entry.Addr,w1.Change.Entry.Len,w1.Change.Entry.Cost,w1.Change.Entry.Label]:List Int).getD i40.toNat default))])) (.reg [(1,.bnd)])))) i.2.1 i.2.2)))) (fun j=>(fun (x9:Int)=>(.seq (.reg [(2,kh72 x9 secret)]) .no)) j))))) Tryz.func38 (fun (_:True)=>kc72 0 secret (ai (bokr 1 eInt ([w1.From,w1.To,w1.Key,w1.Boot,w1.Yours,w1.Turn,w1.Num,w1.Heard,w1.Change.Kind,w1.Change.Entry.Addr,w1.Change.Entry.Len,w1.Change.Entry.Cost,w1.Change.Entry.Label]:List Int) fun _=>rfl) (ai (kn ([w1.From,w1.To,w1.Key,w1.Boot,w1.Yours,w1.Turn,w1.Num,w1.Heard,w1.Change.Kind,w1.Change.Entry.Addr,w1.Change.Entry.Len,w1.Change.Entry.Cost,w1.Change.Entry.Label]:List Int) fun _=>ai (en38_0 secret w1 uu0) (fun (i0:Nat×(Int×Int)) (hi0:lJ38_0 secret w1 i0)=>(fun (m0:Nat) (x10:Int) (i40:Int) (hh0:lH38_0 secret w1 i0 m0 x10 i40)=>have hI0:=hh0.1; have hl0:=hh0.2.1; have _:=hh0.2.2.1; have _:=hh0.2.2.2; ifd (i40<(([w1.From,w1.To,w1.Key,w1.Boot,w1.Yours,w1.Turn,w1.Num,w1.Heard,w1.Change.Kind,w1.Change.Entry.Addr,w1.Change.Entry.Len,w1.Change.Entry.Cost,w1.Change.Entry.Label]:List Int).length:Int)) (fun h2 _=>ai (uu0:ib i40 ([w1.From,w1.To,w1.Key,w1.Boot,w1.Yours,w1.Turn,w1.Num,w1.Heard,w1.Change.Kind,w1.Change.Entry.Addr,w1.Change.Entry.Len,w1.Change.Entry.Cost,w1.Change.Entry.Label]:List Int)) (kc72 x10 (([w1.From,w1.To,w1.Key,w1.Boot,w1.Yours,w1.Turn,w1.Num,w1.Heard,w1.Change.Kind,w1.Change.Entry.Addr,w1.Change.Entry.Len,w1.Change.Entry.Cost,w1.Change.Entry.Label]:List Int).getD i40.toNat default) (ai (iok (i40+1) uu0) (bk38_0 secret w1 i0 m0 (F72 x10 (([w1.From,w1.To,w1.Key,w1.Boot,w1.Yours,w1.Turn,w1.Num,w1.Heard,w1.Change.Kind,w1.Change.Entry.Addr,w1.Change.Entry.Len,w1.Change.Entry.Cost,w1.Change.Entry.Label]:List Int).getD i40.toNat default)) (i40+1) hl0 (runL_next hI0 (condT h2 rfl)) uu7)))) (fun h2 _=>have hD0_3:lX38_0 secret w1=Lp.done (x10,i40):=runL_done hI0 (condF h2 rfl); jn38_0 secret w1 x10 (Ri (finD hD0_3 rfl)) )) (i0.1-1) i0.2.1 i0.2.2 (un38_0 secret w1 i0 hi0))) (fun (j:Int) (hj:jJ38_0 secret w1 j)=>(fun (x9:Int) (hJ0_4:(F38_j0 secret w1)=Lp.done x9)=>kc72 x9 secret (fiI (F72 x9 secret) (F38 secret w1) (finD hJ0_4 rfl))) j hj)))) uu3
def F92_s0 (e1:Ud):(Int×List Uf)->Lp (Int×List Uf) Ud:=fun (i40,xs) =>
 bif (decide (i40<(xs.length:Int))) then (.next ((i40+1),(xs.set (i40).toNat (⟨(xs.getD i40.toNat default).Entry,true⟩:Uf)))) else (.done (i40,xs))
def F92 (e1:Ud):Ud :=
 (runL (F92_s0 e1) (((e1.Heard.length:Int)-0).toNat+1) (0,e1.Heard)).fin (fun r=>r) (fun (i40,xs)=>bif (bif decide ((xs.length:Int)>0) then (e1.Keep==0) else false) then (⟨e1.Name,e1.Peer,e1.Keys,e1.Boot,e1.Want,e1.Turn,e1.PeerBoot,e1.PeerTurn,e1.Up,e1.Left,e1.Num,e1.Under,e1.Told,e1.All,e1.Got,e1.Full,xs,6⟩:Ud) else (⟨e1.Name,e1.Peer,e1.Keys,e1.Boot,e1.Want,e1.Turn,e1.PeerBoot,e1.PeerTurn,e1.Up,e1.Left,e1.Num,e1.Under,e1.Told,e1.All,e1.Got,e1.Full,xs,e1.Keep⟩:Ud))
abbrev lN92_0 (e1:Ud):Nat×(Int×List Uf):=((((e1.Heard.length:Int)-0).toNat+1),(0,e1.Heard))
abbrev lI92_0 (e1:Ud) (m39:Nat) (i40:Int) (xs:List Uf):Prop:=Int.toNat ((xs.length:Int)-i40)<m39/\(0:Int)<=i40/\xs.length=e1.Heard.length
abbrev lX92_0 (e1:Ud):Lp (Int×List Uf) Ud:=LpX (F92_s0 e1) (lN92_0 e1)
abbrev lJ92_0 (e1:Ud) (i:Nat×(Int×List Uf)):Prop:=LpJ (F92_s0 e1) (lN92_0 e1) i (lI92_0 e1 i.1 i.2.1 i.2.2)
abbrev lH92_0 (e1:Ud) (i:Nat×(Int×List Uf)) (m39:Nat) (i40:Int) (xs:List Uf):Prop:=LpH (F92_s0 e1) (lN92_0 e1) i m39 (i40,xs) (lI92_0 e1 (m39+1) i40 xs)
abbrev lE92_0 (e1:Ud) (i40:Int) (xs:List Uf) (i40_:Int) (xs_:List Uf) (K39:Prop):Prop:=((.int .i64 i40:Value)=.int .i64 i40_)/\(Rf (.int .i64 e1.Name))/\(Rf (.int .i64 e1.Peer))/\(Rf (.int .i64 e1.Boot))/\(Rf (.int .i64 e1.Turn))/\(Rf (.int .i64 e1.PeerBoot))/\(Rf (.int .i64 e1.PeerTurn))/\(Rf (.bool e1.Up))/\(Rf (.int .i64 e1.Left))/\(Rf (.int .i64 e1.Num))/\(Rf (.int .i64 e1.Under.Kind))/\(Rf (.int .i64 e1.Under.Entry.Addr))/\(Rf (.int .i64 e1.Under.Entry.Len))/\(Rf (.int .i64 e1.Under.Entry.Cost))/\(Rf (.int .i64 e1.Under.Entry.Label))/\(Rf (.bool e1.All))/\(Rf (.int .i64 e1.Got))/\(Rf (.bool e1.Full))/\(Rf (.int .i64 e1.Keep))/\(Im (.l 2 eHelloKey e1.Keys))/\(Im (.l 4 eHelloEntry e1.Want))/\(Im (.l 4 eHelloEntry e1.Told))/\(Imp (.l 5 eHelloRoute xs) (.l 5 eHelloRoute xs_))/\(Rf (.int .i64 0))/\(Rf (.int .i64 0))/\(Rf (.slice none 0 0))/\(Rf (.int .i64 0))/\(Rf (.slice none 0 0))/\(Rf (.int .i64 0))/\(Rf (.int .i64 0))/\(Rf (.int .i64 0))/\(Rf (.bool false))/\(Rf (.int .i64 0))/\(Rf (.int .i64 0))/\(Rf (.int .i64 0))/\(Rf (.int .i64 0))/\(Rf (.int .i64 0))/\(Rf (.int .i64 0))/\(Rf (.int .i64 0))/\(Rf (.slice none 0 0))/\(Rf (.bool false))/\(Rf (.int .i64 0))/\(Rf (.bool false))/\(Rf (.slice none 0 0))/\(Rf (.int .i64 0))/\K39
theorem un92_0 (e1:Ud) (i:Nat×(Int×List Uf)) (h:lJ92_0 e1 i):lH92_0 e1 i (i.1-1) i.2.1 i.2.2:=⟨hd1 h.1 h.2.1,hd3 h.2.1,hd2 h.2.1,h.2.2⟩
theorem bk92_0 (e1:Ud) (i:Nat×(Int×List Uf)) (m39:Nat) (i40:Int) (xs:List Uf) (hl:m39<i.1) (e:runL (F92_s0 e1) m39 (i40,xs)=lX92_0 e1) (h:lI92_0 e1 m39 i40 xs):∃ j:Nat×(Int×List Uf),lE92_0 e1 i40 xs j.2.1 j.2.2 (lJ92_0 e1 j/\j.1<i.1):=⟨(m39,(i40,xs)),rfl,rfl,rfl,rfl,rfl,rfl,rfl,rfl,rfl,rfl,rfl,rfl,rfl,rfl,rfl,rfl,rfl,rfl,rfl,Imp.refl _,Imp.refl _,Imp.refl _,Imp.refl _,rfl,rfl,rfl,rfl,rfl,rfl,rfl,rfl,rfl,rfl,rfl,rfl,rfl,rfl,rfl,rfl,rfl,rfl,rfl,rfl,rfl,rfl,⟨e,h⟩,hl⟩
theorem en92_0 (e1:Ud) (h:(0:Int)<=0/\e1.Heard.length=e1.Heard.length):lE92_0 e1 0 e1.Heard 0 e1.Heard (lJ92_0 e1 (lN92_0 e1)):=⟨rfl,rfl,rfl,rfl,rfl,rfl,rfl,rfl,rfl,rfl,rfl,rfl,rfl,rfl,rfl,rfl,rfl,rfl,rfl,Imp.refl _,Imp.refl _,Imp.refl _,Imp.refl _,rfl,rfl,rfl,rfl,rfl,rfl,rfl,rfl,rfl,rfl,rfl,rfl,rfl,rfl,rfl,rfl,rfl,rfl,rfl,rfl,rfl,rfl,rfl,Qq _,h⟩
theorem fi92 (e1:Ud) (r:Ud) (hF:r=(F92 e1)):((.int .i64 r.Name:Value)=.int .i64 (F92 e1).Name)/\((.int .i64 r.Peer:Value)=.int .i64 (F92 e1).Peer)/\(Imp (.l 2 eHelloKey r.Keys) (.l 2 eHelloKey (F92 e1).Keys))/\((.int .i64 r.Boot:Value)=.int .i64 (F92 e1).Boot)/\(Imp (.l 4 eHelloEntry r.Want) (.l 4 eHelloEntry (F92 e1).Want))/\((.int .i64 r.Turn:Value)=.int .i64 (F92 e1).Turn)/\((.int .i64 r.PeerBoot:Value)=.int .i64 (F92 e1).PeerBoot)/\((.int .i64 r.PeerTurn:Value)=.int .i64 (F92 e1).PeerTurn)/\((.bool r.Up:Value)=.bool (F92 e1).Up)/\((.int .i64 r.Left:Value)=.int .i64 (F92 e1).Left)/\((.int .i64 r.Num:Value)=.int .i64 (F92 e1).Num)/\((.int .i64 r.Under.Kind:Value)=.int .i64 (F92 e1).Under.Kind)/\((.int .i64 r.Under.Entry.Addr:Value)=.int .i64 (F92 e1).Under.Entry.Addr)/\((.int .i64 r.Under.Entry.Len:Value)=.int .i64 (F92 e1).Under.Entry.Len)/\((.int .i64 r.Under.Entry.Cost:Value)=.int .i64 (F92 e1).Under.Entry.Cost)/\((.int .i64 r.Under.Entry.Label:Value)=.int .i64 (F92 e1).Under.Entry.Label)/\(Imp (.l 4 eHelloEntry r.Told) (.l 4 eHelloEntry (F92 e1).Told))/\((.bool r.All:Value)=.bool (F92 e1).All)/\((.int .i64 r.Got:Value)=.int .i64 (F92 e1).Got)/\((.bool r.Full:Value)=.bool (F92 e1).Full)/\(Imp (.l 5 eHelloRoute r.Heard) (.l 5 eHelloRoute (F92 e1).Heard))/\((.int .i64 r.Keep:Value)=.int .i64 (F92 e1).Keep)/\True:=by cases hF; exact ⟨rfl,rfl,Imp.refl _,rfl,Imp.refl _,rfl,rfl,rfl,rfl,rfl,rfl,rfl,rfl,rfl,rfl,rfl,Imp.refl _,rfl,rfl,rfl,Imp.refl _,rfl,trivial⟩
def S92 (e1:Ud):Spec:=⟨[.ot (eHelloEnd e1)],.ag [.v (vI (F92 e1).Name),.v (vI (F92 e1).Peer),.ow (.l 2 eHelloKey (F92 e1).Keys),.v (vI (F92 e1).Boot),.ow (.l 4 eHelloEntry (F92 e1).Want),.v (vI (F92 e1).Turn),.v (vI (F92 e1).PeerBoot),.v (vI (F92 e1).PeerTurn),.v (.bool (F92 e1).Up),.v (vI (F92 e1).Left),.v (vI (F92 e1).Num),.v (vI (F92 e1).Under.Kind),.v (vI (F92 e1).Under.Entry.Addr),.v (vI (F92 e1).Under.Entry.Len),.v (vI (F92 e1).Under.Entry.Cost),.v (vI (F92 e1).Under.Entry.Label),.ow (.l 4 eHelloEntry (F92 e1).Told),.v (.bool (F92 e1).All),.v (vI (F92 e1).Got),.v (.bool (F92 e1).Full),.ow (.l 5 eHelloRoute (F92 e1).Heard),.v (vI (F92 e1).Keep)],True⟩
theorem ok92 (e1:Ud):(S92 e1).ok Tryz.prog 92 :=
 fnG_ok mixed (fn:=Tryz.f92) (ct:=.seq .no (.seq (.seqk [(1,2),(1,4),(1,16),(1,20)] .no (.blk (.loop (ι:=Nat×(Int×List Uf)) (fun i=>(fun (i40:Int) (xs:List Uf)=>(⟨[(1,some (.p 0 0)),(2,some (.p 5 0)),(3,some (.v (vI i40)))],[(0,some (.box 31 [.v (vI e1.Name),.v (vI e1.Peer),.h 1 0,.v (vI e1.Boot),.h 2 0,.v (vI e1.Turn),.v (vI e1.PeerBoot),.v (vI e1.PeerTurn),.v (.bool e1.Up),.v (vI e1.Left),.v (vI e1.Num),.v (vI e1.Under.Kind),.v (vI e1.Under.Entry.Addr),.v (vI e1.Under.Entry.Len),.v (vI e1.Under.Entry.Cost),.v (vI e1.Under.Entry.Label),.h 3 0,.v (.bool e1.All),.v (vI e1.Got),.v (.bool e1.Full),.h 4 0,.v (vI e1.Keep)])),(1,some (.own 1 (.l 2 eHelloKey e1.Keys))),(2,some (.own 2 (.l 4 eHelloEntry e1.Want))),(3,some (.own 3 (.l 4 eHelloEntry e1.Told))),(4,some (.own 4 (.l 5 eHelloRoute xs))),(5,some (.box 31 [.v (vI 0),.v (vI 0),.v (.slice none 0 0),.v (vI 0),.v (.slice none 0 0),.v (vI 0),.v (vI 0),.v (vI 0),.v (.bool false),.v (vI 0),.v (vI 0),.v (vI 0),.v (vI 0),.v (vI 0),.v (vI 0),.v (vI 0),.v (.slice none 0 0),.v (.bool false),.v (vI 0),.v (.bool false),.v (.slice none 0 0),.v (vI 0)]))],6⟩:St)) i.2.1 i.2.2) (lJ92_0 e1) (fun i=>i.1) (lN92_0 e1) (fun i=>(fun (i40:Int) (xs:List Uf)=>(.seq (.seq .no (.cond .no .no)) (.seq (.blk (.reg [(5,.dat (.l 5 eHelloRoute (xs.set (i40).toNat (⟨(xs.getD i40.toNat default).Entry,true⟩:Uf))))])) (.reg [(1,.bnd)])))) i.2.1 i.2.2)))) (.seq (.seq .no (.cond .no .no)) (.seq .no .no)))) Tryz.func92 (fun (_:True)=>kn e1.Keys fun _=>kn e1.Want fun _=>kn e1.Told fun _=>kn e1.Heard fun _=>ai (en92_0 e1 uu23) (fun (i0:Nat×(Int×List Uf)) (hi0:lJ92_0 e1 i0)=>(fun (m0:Nat) (i40:Int) (xs:List Uf) (hh0:lH92_0 e1 i0 m0 i40 xs)=>have hI0:=hh0.1; have hl0:=hh0.2.1; have _:=hh0.2.2.1; have _:=hh0.2.2.2; ifd (i40<(xs.length:Int)) (fun h2 _=>ai (uu1:ib i40 xs) (ai (setr 5 eHelloRoute xs (i40).toNat (⟨(xs.getD i40.toNat default).Entry,true⟩:Uf)) (ai (iok (i40+1) uu1) (bk92_0 e1 i0 m0 (i40+1) (xs.set (i40).toNat (⟨(xs.getD i40.toNat default).Entry,true⟩:Uf)) hl0 (runL_next hI0 (condT h2 rfl)) uu18)))) (fun h2 _=>have hD0_3:lX92_0 e1=Lp.done (i40,xs):=runL_done hI0 (condF h2 rfl); ifb (bif decide ((xs.length:Int)>0) then (e1.Keep==0) else false) (fun h4=>have _:=Qb (andT1 h4); have _:=eq_of_beq (andT2 h4); fi92 e1 (⟨e1.Name,e1.Peer,e1.Keys,e1.Boot,e1.Want,e1.Turn,e1.PeerBoot,e1.PeerTurn,e1.Up,e1.Left,e1.Num,e1.Under,e1.Told,e1.All,e1.Got,e1.Full,xs,6⟩:Ud) (finD hD0_3 (condT h4 rfl))) (fun h4=>fi92 e1 (⟨e1.Name,e1.Peer,e1.Keys,e1.Boot,e1.Want,e1.Turn,e1.PeerBoot,e1.PeerTurn,e1.Up,e1.Left,e1.Num,e1.Under,e1.Told,e1.All,e1.Got,e1.Full,xs,e1.Keep⟩:Ud) (finD hD0_3 (condF h4 rfl))))) (i0.1-1) i0.2.1 i0.2.2 (un92_0 e1 i0 hi0))) uu3
def F71 (e1:Ud):Ud :=
 (F92 ⟨e1.Name,e1.Peer,e1.Keys,e1.Boot,e1.Want,e1.Turn,e1.PeerBoot,e1.PeerTurn,false,e1.Left,0,(⟨0,(⟨0,0,0,0⟩:Ue)⟩:HelloChange),([]:List Ue),false,0,false,e1.Heard,e1.Keep⟩)
theorem fi71 (e1:Ud) (r:Ud) (hF:r=(F71 e1)):((.int .i64 r.Name:Value)=.int .i64 (F71 e1).Name)/\((.int .i64 r.Peer:Value)=.int .i64 (F71 e1).Peer)/\(Imp (.l 2 eHelloKey r.Keys) (.l 2 eHelloKey (F71 e1).Keys))/\((.int .i64 r.Boot:Value)=.int .i64 (F71 e1).Boot)/\(Imp (.l 4 eHelloEntry r.Want) (.l 4 eHelloEntry (F71 e1).Want))/\((.int .i64 r.Turn:Value)=.int .i64 (F71 e1).Turn)/\((.int .i64 r.PeerBoot:Value)=.int .i64 (F71 e1).PeerBoot)/\((.int .i64 r.PeerTurn:Value)=.int .i64 (F71 e1).PeerTurn)/\((.bool r.Up:Value)=.bool (F71 e1).Up)/\((.int .i64 r.Left:Value)=.int .i64 (F71 e1).Left)/\((.int .i64 r.Num:Value)=.int .i64 (F71 e1).Num)/\((.int .i64 r.Under.Kind:Value)=.int .i64 (F71 e1).Under.Kind)/\((.int .i64 r.Under.Entry.Addr:Value)=.int .i64 (F71 e1).Under.Entry.Addr)/\((.int .i64 r.Under.Entry.Len:Value)=.int .i64 (F71 e1).Under.Entry.Len)/\((.int .i64 r.Under.Entry.Cost:Value)=.int .i64 (F71 e1).Under.Entry.Cost)/\((.int .i64 r.Under.Entry.Label:Value)=.int .i64 (F71 e1).Under.Entry.Label)/\(Imp (.l 4 eHelloEntry r.Told) (.l 4 eHelloEntry (F71 e1).Told))/\((.bool r.All:Value)=.bool (F71 e1).All)/\((.int .i64 r.Got:Value)=.int .i64 (F71 e1).Got)/\((.bool r.Full:Value)=.bool (F71 e1).Full)/\(Imp (.l 5 eHelloRoute r.Heard) (.l 5 eHelloRoute (F71 e1).Heard))/\((.int .i64 r.Keep:Value)=.int .i64 (F71 e1).Keep)/\True:=by cases hF; exact ⟨rfl,rfl,Imp.refl _,rfl,Imp.refl _,rfl,rfl,rfl,rfl,rfl,rfl,rfl,rfl,rfl,rfl,rfl,Imp.refl _,rfl,rfl,rfl,Imp.refl _,rfl,trivial⟩
def S71 (e1:Ud):Spec:=⟨[.ot (eHelloEnd e1)],.ag [.v (vI (F71 e1).Name),.v (vI (F71 e1).Peer),.ow (.l 2 eHelloKey (F71 e1).Keys),.v (vI (F71 e1).Boot),.ow (.l 4 eHelloEntry (F71 e1).Want),.v (vI (F71 e1).Turn),.v (vI (F71 e1).PeerBoot),.v (vI (F71 e1).PeerTurn),.v (.bool (F71 e1).Up),.v (vI (F71 e1).Left),.v (vI (F71 e1).Num),.v (vI (F71 e1).Under.Kind),.v (vI (F71 e1).Under.Entry.Addr),.v (vI (F71 e1).Under.Entry.Len),.v (vI (F71 e1).Under.Entry.Cost),.v (vI (F71 e1).Under.Entry.Label),.ow (.l 4 eHelloEntry (F71 e1).Told),.v (.bool (F71 e1).All),.v (vI (F71 e1).Got),.v (.bool (F71 e1).Full),.ow (.l 5 eHelloRoute (F71 e1).Heard),.v (vI (F71 e1).Keep)],True⟩
theorem ok71 (e1:Ud):(S71 e1).ok Tryz.prog 71 :=
 fnG_ok mixed (fn:=Tryz.f71) (ct:=.seq .no (.seq .no (.seq .no (.seq .no (.seq (.reg [(0,.dat (.l 4 eHelloEntry ([]:List Ue)))]) (.seq .no (.seq .no (.seq .no (.seq (.reg [(1,.call 92 (S92 (⟨e1.Name,e1.Peer,e1.Keys,e1.Boot,e1.Want,e1.Turn,e1.PeerBoot,e1.PeerTurn,false,e1.Left,0,(⟨0,(⟨0,0,0,0⟩:Ue)⟩:HelloChange),([]:List Ue),false,0,false,e1.Heard,e1.Keep⟩:Ud)) (ok92 (⟨e1.Name,e1.Peer,e1.Keys,e1.Boot,e1.Want,e1.Turn,e1.PeerBoot,e1.PeerTurn,false,e1.Left,0,(⟨0,(⟨0,0,0,0⟩:Ue)⟩:HelloChange),([]:List Ue),false,0,false,e1.Heard,e1.Keep⟩:Ud)) none)]) .no))))))))) Tryz.func71 (fun (_:True)=>ai (bokr 4 eHelloEntry ([]:List Ue) fun _=>rfl) (ai trivial (ai (Imps.refl (eHelloEnd (⟨e1.Name,e1.Peer,e1.Keys,e1.Boot,e1.Want,e1.Turn,e1.PeerBoot,e1.PeerTurn,false,e1.Left,0,(⟨0,(⟨0,0,0,0⟩:Ue)⟩:HelloChange),([]:List Ue),false,0,false,e1.Heard,e1.Keep⟩:Ud))) (fi71 e1 (F92 ⟨e1.Name,e1.Peer,e1.Keys,e1.Boot,e1.Want,e1.Turn,e1.PeerBoot,e1.PeerTurn,false,e1.Left,0,(⟨0,(⟨0,0,0,0⟩:Ue)⟩:HelloChange),([]:List Ue),false,0,false,e1.Heard,e1.Keep⟩) rfl)))) uu3
def F37_j0 (e1:Ud):Lp Int Ud :=
 bif (decide (e1.Boot<1000)) then (.done (IntKind.i64.wrap (e1.Boot+1))) else (.done e1.Boot)
def F37 (e1:Ud):Ud :=
 (F37_j0 e1).fin (fun r=>r) (fun e2=>(F71 ⟨e1.Name,e1.Peer,e1.Keys,e2,e1.Want,0,e1.PeerBoot,e1.PeerTurn,e1.Up,0,e1.Num,e1.Under,e1.Told,e1.All,e1.Got,e1.Full,e1.Heard,e1.Keep⟩))
abbrev jJ37_0 (e1:Ud) (j:Int):Prop:=(F37_j0 e1)=Lp.done j
theorem jn37_0 (e1:Ud) (e2:Int) (e:(F37_j0 e1)=Lp.done e2):∃ j:Int,((.int .i64 e1.Name:Value)=.int .i64 e1.Name)/\((.int .i64 e1.Peer:Value)=.int .i64 e1.Peer)/\((.int .i64 e2:Value)=.int .i64 j)/\((.int .i64 e1.Turn:Value)=.int .i64 e1.Turn)/\((.int .i64 e1.PeerBoot:Value)=.int .i64 e1.PeerBoot)/\((.int .i64 e1.PeerTurn:Value)=.int .i64 e1.PeerTurn)/\((.bool e1.Up:Value)=.bool e1.Up)/\((.int .i64 e1.Left:Value)=.int .i64 e1.Left)/\((.int .i64 e1.Num:Value)=.int .i64 e1.Num)/\((.int .i64 e1.Under.Kind:Value)=.int .i64 e1.Under.Kind)/\((.int .i64 e1.Under.Entry.Addr:Value)=.int .i64 e1.Under.Entry.Addr)/\((.int .i64 e1.Under.Entry.Len:Value)=.int .i64 e1.Under.Entry.Len)/\((.int .i64 e1.Under.Entry.Cost:Value)=.int .i64 e1.Under.Entry.Cost)/\((.int .i64 e1.Under.Entry.Label:Value)=.int .i64 e1.Under.Entry.Label)/\((.bool e1.All:Value)=.bool e1.All)/\((.int .i64 e1.Got:Value)=.int .i64 e1.Got)/\((.bool e1.Full:Value)=.bool e1.Full)/\((.int .i64 e1.Keep:Value)=.int .i64 e1.Keep)/\(Imp (.l 2 eHelloKey e1.Keys) (.l 2 eHelloKey e1.Keys))/\(Imp (.l 4 eHelloEntry e1.Want) (.l 4 eHelloEntry e1.Want))/\(Imp (.l 4 eHelloEntry e1.Told) (.l 4 eHelloEntry e1.Told))/\(Imp (.l 5 eHelloRoute e1.Heard) (.l 5 eHelloRoute e1.Heard))/\((.int .i64 0:Value)=.int .i64 0)/\((.int .i64 0:Value)=.int .i64 0)/\((.slice none 0 0:Value)=.slice none 0 0)/\((.int .i64 0:Value)=.int .i64 0)/\((.slice none 0 0:Value)=.slice none 0 0)/\((.int .i64 0:Value)=.int .i64 0)/\((.int .i64 0:Value)=.int .i64 0)/\((.int .i64 0:Value)=.int .i64 0)/\((.bool false:Value)=.bool false)/\((.int .i64 0:Value)=.int .i64 0)/\((.int .i64 0:Value)=.int .i64 0)/\((.int .i64 0:Value)=.int .i64 0)/\((.int .i64 0:Value)=.int .i64 0)/\((.int .i64 0:Value)=.int .i64 0)/\((.int .i64 0:Value)=.int .i64 0)/\((.int .i64 0:Value)=.int .i64 0)/\((.slice none 0 0:Value)=.slice none 0 0)/\((.bool false:Value)=.bool false)/\((.int .i64 0:Value)=.int .i64 0)/\((.bool false:Value)=.bool false)/\((.slice none 0 0:Value)=.slice none 0 0)/\((.int .i64 0:Value)=.int .i64 0)/\jJ37_0 e1 j:=⟨e2,rfl,rfl,rfl,rfl,rfl,rfl,rfl,rfl,rfl,rfl,rfl,rfl,rfl,rfl,rfl,rfl,rfl,rfl,Imp.refl _,Imp.refl _,Imp.refl _,Imp.refl _,rfl,rfl,rfl,rfl,rfl,rfl,rfl,rfl,rfl,rfl,rfl,rfl,rfl,rfl,rfl,rfl,rfl,rfl,rfl,rfl,rfl,rfl,e⟩
theorem fi37 (e1:Ud) (r:Ud) (hF:r=(F37 e1)):((.int .i64 r.Name:Value)=.int .i64 (F37 e1).Name)/\((.int .i64 r.Peer:Value)=.int .i64 (F37 e1).Peer)/\(Imp (.l 2 eHelloKey r.Keys) (.l 2 eHelloKey (F37 e1).Keys))/\((.int .i64 r.Boot:Value)=.int .i64 (F37 e1).Boot)/\(Imp (.l 4 eHelloEntry r.Want) (.l 4 eHelloEntry (F37 e1).Want))/\((.int .i64 r.Turn:Value)=.int .i64 (F37 e1).Turn)/\((.int .i64 r.PeerBoot:Value)=.int .i64 (F37 e1).PeerBoot)/\((.int .i64 r.PeerTurn:Value)=.int .i64 (F37 e1).PeerTurn)/\((.bool r.Up:Value)=.bool (F37 e1).Up)/\((.int .i64 r.Left:Value)=.int .i64 (F37 e1).Left)/\((.int .i64 r.Num:Value)=.int .i64 (F37 e1).Num)/\((.int .i64 r.Under.Kind:Value)=.int .i64 (F37 e1).Under.Kind)/\((.int .i64 r.Under.Entry.Addr:Value)=.int .i64 (F37 e1).Under.Entry.Addr)/\((.int .i64 r.Under.Entry.Len:Value)=.int .i64 (F37 e1).Under.Entry.Len)/\((.int .i64 r.Under.Entry.Cost:Value)=.int .i64 (F37 e1).Under.Entry.Cost)/\((.int .i64 r.Under.Entry.Label:Value)=.int .i64 (F37 e1).Under.Entry.Label)/\(Imp (.l 4 eHelloEntry r.Told) (.l 4 eHelloEntry (F37 e1).Told))/\((.bool r.All:Value)=.bool (F37 e1).All)/\((.int .i64 r.Got:Value)=.int .i64 (F37 e1).Got)/\((.bool r.Full:Value)=.bool (F37 e1).Full)/\(Imp (.l 5 eHelloRoute r.Heard) (.l 5 eHelloRoute (F37 e1).Heard))/\((.int .i64 r.Keep:Value)=.int .i64 (F37 e1).Keep)/\True:=by cases hF; exact ⟨rfl,rfl,Imp.refl _,rfl,Imp.refl _,rfl,rfl,rfl,rfl,rfl,rfl,rfl,rfl,rfl,rfl,rfl,Imp.refl _,rfl,rfl,rfl,Imp.refl _,rfl,trivial⟩
def S37 (e1:Ud):Spec:=⟨[.ot (eHelloEnd e1)],.ag [.v (vI (F37 e1).Name),.v (vI (F37 e1).Peer),.ow (.l 2 eHelloKey (F37 e1).Keys),.v (vI (F37 e1).Boot),.ow (.l 4 eHelloEntry (F37 e1).Want),.v (vI (F37 e1).Turn),.v (vI (F37 e1).PeerBoot),.v (vI (F37 e1).PeerTurn),.v (.bool (F37 e1).Up),.v (vI (F37 e1).Left),.v (vI (F37 e1).Num),.v (vI (F37 e1).Under.Kind),.v (vI (F37 e1).Under.Entry.Addr),.v (vI (F37 e1).Under.Entry.Len),.v (vI (F37 e1).Under.Entry.Cost),.v (vI (F37 e1).Under.Entry.Label),.ow (.l 4 eHelloEntry (F37 e1).Told),.v (.bool (F37 e1).All),.v (vI (F37 e1).Got),.v (.bool (F37 e1).Full),.ow (.l 5 eHelloRoute (F37 e1).Heard),.v (vI (F37 e1).Keep)],True⟩
theorem ok37 (e1:Ud):(S37 e1).ok Tryz.prog 37 :=
 fnG_ok mixed (fn:=Tryz.f37) (ct:=.seq .no (.cut (ι:=Int) (fun j=>(fun (e2:Int)=>(⟨[(1,some (.p 0 0)),(2,some (.p 5 0))],[(0,some (.box 31 [.v (vI e1.Name),.v (vI e1.Peer),.h 1 0,.v (vI e2),.h 2 0,.v (vI e1.Turn),.v (vI e1.PeerBoot),.v (vI e1.PeerTurn),.v (.bool e1.Up),.v (vI e1.Left),.v (vI e1.Num),.v (vI e1.Under.Kind),.v (vI e1.Under.Entry.Addr),.v (vI e1.Under.Entry.Len),.v (vI e1.Under.Entry.Cost),.v (vI e1.Under.Entry.Label),.h 3 0,.v (.bool e1.All),.v (vI e1.Got),.v (.bool e1.Full),.h 4 0,.v (vI e1.Keep)])),(1,some (.own 1 (.l 2 eHelloKey e1.Keys))),(2,some (.own 2 (.l 4 eHelloEntry e1.Want))),(3,some (.own 3 (.l 4 eHelloEntry e1.Told))),(4,some (.own 4 (.l 5 eHelloRoute e1.Heard))),(5,some (.box 31 [.v (vI 0),.v (vI 0),.v (.slice none 0 0),.v (vI 0),.v (.slice none 0 0),.v (vI 0),.v (vI 0),.v (vI 0),.v (.bool false),.v (vI 0),.v (vI 0),.v (vI 0),.v (vI 0),.v (vI 0),.v (vI 0),.v (vI 0),.v (.slice none 0 0),.v (.bool false),.v (vI 0),.v (.bool false),.v (.slice none 0 0),.v (vI 0)]))],6⟩:St)) j) (jJ37_0 e1) (.seq .no (.cond .no .no)) (fun j=>(fun (e2:Int)=>(.seq .no (.seq .no (.seq (.reg [(1,.call 71 (S71 (⟨e1.Name,e1.Peer,e1.Keys,e2,e1.Want,0,e1.PeerBoot,e1.PeerTurn,e1.Up,0,e1.Num,e1.Under,e1.Told,e1.All,e1.Got,e1.Full,e1.Heard,e1.Keep⟩:Ud)) (ok71 (⟨e1.Name,e1.Peer,e1.Keys,e2,e1.Want,0,e1.PeerBoot,e1.PeerTurn,e1.Up,0,e1.Num,e1.Under,e1.Told,e1.All,e1.Got,e1.Full,e1.Heard,e1.Keep⟩:Ud)) none)]) .no)))) j))) Tryz.func37 (fun (_:True)=>ai (ifd (e1.Boot<1000) (fun h1 _=>jn37_0 e1 (IntKind.i64.wrap (e1.Boot+1)) (Ri (condT h1 rfl)) ) (fun h1 _=>jn37_0 e1 e1.Boot (Ri (condF h1 rfl)) )) (fun (j:Int) (hj:jJ37_0 e1 j)=>(fun (e2:Int) (hJ0_2:(F37_j0 e1)=Lp.done e2)=>ai trivial (ai (Imps.refl (eHelloEnd (⟨e1.Name,e1.Peer,e1.Keys,e2,e1.Want,0,e1.PeerBoot,e1.PeerTurn,e1.Up,0,e1.Num,e1.Under,e1.Told,e1.All,e1.Got,e1.Full,e1.Heard,e1.Keep⟩:Ud))) (fi37 e1 (F71 ⟨e1.Name,e1.Peer,e1.Keys,e2,e1.Want,0,e1.PeerBoot,e1.PeerTurn,e1.Up,0,e1.Num,e1.Under,e1.Told,e1.All,e1.Got,e1.Full,e1.Heard,e1.Keep⟩) (finD hJ0_2 rfl)))) j hj)) uu3
def eqN (x y:Ue):Bool:=(x.Addr==y.Addr)&&((x.Len==y.Len)&&((x.Cost==y.Cost)&&(x.Label==y.Label)))
theorem eqN_iff {x y:Ue}:eqN x y=true↔x=y:=by
 unfold eqN
 obtain ⟨a,b,c,d⟩:=x
 obtain ⟨a',b',c',d'⟩:=y
 simp only [Qh,Ts,Ue.mk.injEq]
theorem same_refl (x:Ue):sameP x x=true:=same_iff.2 ⟨rfl,rfl⟩
theorem at_neg {t:List Ue} {x:Ue} (ht:TblOk t):decide (F84 t x<0)=!(fndE t x):=by
 rw [at_pos ht]
 cases fndE t x with
 | false=>rfl
 | true=>rw [Qd]; exact Qt uu0
theorem at_lacks {t:List Ue} {x:Ue} (ht:TblOk t):(bif decide (F84 t x<0) then true else !(eqN (t.getD (F84 t x).toNat default) x))=!(decide (x∈t)):=by
 rw [at_eq]
 cases h:first (fun k=>sameP (t.getD k default) x) t.length with
 | none =>
  have hn:=first_none.1 h
  have:x ∉ t:=fun hx=>by
   obtain ⟨k,hk,rfl⟩:=mem_getD hx
   have:=hn k hk
   simp only [same_refl] at this
   cases this
  rw [Qt this]; rfl
 | some k =>
  obtain ⟨hk,hs,hl⟩:=first_some.1 h
  have e1:decide (((k:Nat):Int)<0)=false:=Qt uu0
  simp only [e1,Qi,nn]
  congr 1
  rw [T7,eqN_iff,Rn]
  constructor
  ·intro he
   rw [<- he]; exact getD_mem t hk
  ·intro hx
   obtain ⟨j,hj,rfl⟩:=mem_getD hx
   rcases Nat.lt_trichotomy j k with h1 | h1 | h1
   ·have:=hl j h1
    rw [same_refl] at this; cases this
   ·rw [h1]
   ·have:=ht.lt (j-k-1) k uu0
    have e3:k+(j-k-1)+1=j:=by omega
    rw [e3] at this
    rw [less_same this] at hs; cases hs
theorem has_eq (t:List Ue) (x:Ue):F49 t x=decide (x∈t):=by
 unfold F49 F83
 rw [idx_loop (fun y=>eqN x y) t (F83_s0 t x) (fun _=>rfl),any_idx,T7,Ru,Rn]
 constructor
 ·rintro ⟨y,hy,h⟩
  rw [eqN_iff.1 h]; exact hy
 ·exact fun h=>⟨x,h,eqN_iff.2 rfl⟩
theorem extra_eq (a b:List Ue) (hb:TblOk b):F50 a b=match first (fun k=>!(fndE b (a.getD k default))) a.length with | some k=>(a.getD k default,true) | none=>((⟨0,0,0,0⟩:Ue),false):=by
 unfold F50
 rw [search (fun k=>!(fndE b (a.getD k default))) (fun k=>(a.getD k default,true)) a.length _ (fun k hk=>by simp only [F50_s0,ltD hk,Qd,nn,at_neg hb]) (by simp [F50_s0])]
 all_goals (cases first (fun k=>!(fndE b (a.getD k default))) a.length <;> rfl)
theorem lacks_eq (a b:List Ue) (hb:TblOk b):F51 a b=match first (fun k=>!(decide (a.getD k default∈b))) a.length with | some k=>(a.getD k default,true) | none=>((⟨0,0,0,0⟩:Ue),false):=by
 unfold F51
 rw [search (fun k=>!(decide (a.getD k default∈b))) (fun k=>(a.getD k default,true)) a.length _ (fun k hk=>by
  have:=at_lacks (x:=a.getD k default) hb
  unfold eqN at this
  simp only [F51_s0,ltD hk,Qd,nn,this]) (by simp [F51_s0])]
 all_goals (cases first (fun k=>!(decide (a.getD k default∈b))) a.length <;> rfl)
theorem next_eq (e:Ud) (h:EndFit e):F20 e=F21 e:=by
 unfold F20 F21
 have ef:∀ x:Ue,fndE e.Want (atP (F48 x))=fndE e.Want x:=fun _=>rfl
 rw [extra_eq _ _ h.want,lacks_eq _ _ h.told,
  search (fun k=>!(fndE e.Want (e.Told.getD k default))) (fun k=>(⟨2,(⟨(e.Told.getD k default).Addr,(e.Told.getD k default).Len,0,0⟩:Ue)⟩:HelloChange)) e.Told.length _ (fun k hk=>by simp only [F20_s0,ltD hk,Qd,nn,ef]) (by simp [F20_s0]),
  search (fun k=>!(decide (e.Want.getD k default∈e.Told))) (fun k=>(⟨1,e.Want.getD k default⟩:HelloChange)) e.Want.length _ (fun k hk=>by simp only [F20_s1,ltD hk,Qd,nn,has_eq]) (by simp [F20_s1])]
 cases first (fun k=>!(fndE e.Want (e.Told.getD k default))) e.Told.length with
 | some k=>rfl
 | none =>
  cases first (fun k=>!(decide (e.Want.getD k default∈e.Told))) e.Want.length with
  | some k=>rfl
  | none=>rfl
def modP (n:Int):Int:=bif decide (n.tmod 2147483647<0) then n.tmod 2147483647+2147483647 else n.tmod 2147483647
theorem tmod_in (n:Int):-2147483647<n.tmod 2147483647/\n.tmod 2147483647<2147483647:=by
 rcases Int.le_total 0 n with h | h
 ·rw [Int.tmod_eq_emod_of_nonneg h]; omega
 ·have e:n=-(-n):=by omega
  rw [e,Int.neg_tmod,Int.tmod_eq_emod_of_nonneg uu0]; omega
theorem modP_in (n:Int):0<=modP n/\modP n<2147483647:=by
 have:=tmod_in n
 unfold modP
 by_cases h:n.tmod 2147483647<0
 ·rw [Qs h]; simp only [Qd]; omega
 ·rw [Qt h]; simp only [Qi]; omega
def mixP (x n:Int):Int:=(x*48271+modP n+1)%2147483647
def InP (x:Int):Prop:=0<=x/\x<2147483647
theorem mixP_in (x n:Int):InP (mixP x n):=by
 unfold InP mixP; omega
theorem mixS {x:Int} (n:Int) (hx:InP x):F72 x n=mixP x n:=by
 have h1:=modP_in n
 have h2:=tmod_in n
 unfold InP at hx
 have key:((IntKind.i64.wrap ((IntKind.i64.wrap ((IntKind.i64.wrap (x*48271))+modP n))+1)).tmod 2147483647)=mixP x n:=by
  rw [wrap_of (n:=x*48271) uu0 uu0,wrap_of (n:=x*48271+modP n) uu0 uu0,wrap_of uu0 uu0,Int.tmod_eq_emod_of_nonneg uu0]
  rfl
 rw [<- key]
 unfold F72 modP
 rw [wrap_of (n:=n.tmod 2147483647+2147483647) uu0 uu0]
 cases decide (n.tmod 2147483647<0) <;> rfl
theorem fold_loop {ρ:Type} (a:List Int) (x0:Int) (h0:InP x0) (step:Int×Int->Lp (Int×Int) ρ)
  (hs:∀ (k:Nat) x,k<a.length->InP x->step (x,(k:Int))=.next (mixP x (a.getD k default),(k:Int)+1)) (he:∀ x,step (x,(a.length:Int))=.done (x,(a.length:Int))) :
  runL step (((a.length:Int)-0).toNat+1) (x0,0)=.done (a.foldl mixP x0,(a.length:Int)):=by
 have h:=runL_rule (step:=step) (fun (k:Nat) (s:Int)=>(s,(k:Int))) a.length (fun k s=>s=(a.take k).foldl mixP x0/\InP s) (fun _=>False)
  (fun k s hk hI=>.inl ⟨_,by rw [hs k s hk hI.2]; rfl,by rw [hI.1,take_next hk,List.foldl_append]; rfl,mixP_in _ _⟩)
  (fun s _=>he s) a.length 0 x0 uu0 ⟨rfl,h0⟩ (Int.toNat ((a.length:Int)-0)+1) uu0
 rcases h with ⟨s,h,hI,_⟩ | ⟨_,_,h⟩
 ·have h':runL step (Int.toNat ((a.length:Int)-0)+1) (x0,0)=_:=h
  rw [h',hI,List.take_length]
 ·exact h.elim
theorem fold_in:∀ (a:List Int) (x:Int),InP x->InP (a.foldl mixP x)
 | [],_,h=>h
 | n :: a,x,_=>fold_in a (mixP x n) (mixP_in x n)
def wordL (w:HelloWord):List Int:=[w.From,w.To,w.Key,w.Boot,w.Yours,w.Turn,w.Num,w.Heard,w.Change.Kind,w.Change.Entry.Addr,w.Change.Entry.Len,w.Change.Entry.Cost,w.Change.Entry.Label]
theorem in0:InP 0:=by unfold InP; decide
theorem sumS_eq (secret:Int) (w:HelloWord):F38 secret w=mixP ((wordL w).foldl mixP (mixP 0 secret)) secret:=by
 unfold F38 F38_j0
 rw [mixS secret in0]
 have h:=fold_loop (ρ:=Int) (wordL w) (mixP 0 secret) (mixP_in _ _) (F38_s0 secret w) (fun k x hk h=>by
  have hk':decide ((k:Int)<((wordL w).length:Int))=true:=ltD hk
  unfold wordL at hk' ⊢
  simp only [F38_s0,hk',Qd,nn,mixS _ h]) (fun x=>by
  unfold wordL
  simp [F38_s0])
 unfold wordL at h ⊢
 rw [h]
 exact mixS secret (fold_in _ _ (mixP_in _ _))
def staleR (r:Uf):Uf:=⟨r.Entry,true⟩
theorem stale_loop {ρ:Type} (a:List Uf) (step:Int×List Uf->Lp (Int×List Uf) ρ)
  (hs:∀ (k:Nat) xs,k<a.length->xs.length=a.length->step ((k:Int),xs)=.next ((k:Int)+1,xs.set k (staleR (xs.getD k default)))) (he:∀ xs,xs.length=a.length->step ((a.length:Int),xs)=.done ((a.length:Int),xs)) :
  runL step (((a.length:Int)-0).toNat+1) (0,a)=.done ((a.length:Int),a.map staleR):=by
 have h:=runL_rule (step:=step) (fun (k:Nat) (s:List Uf)=>((k:Int),s)) a.length (fun k s=>s=(a.take k).map staleR++a.drop k) (fun _=>False)
  (fun k s hk hI=>by
   have hl:s.length=a.length:=by rw [hI]; simp; omega
   have hd:a.drop k=a.getD k default :: a.drop (k+1):=by rw [getD_lt a hk]; exact Th hk
   have hg:s.getD k default=a.getD k default:=by
    rw [hI,hd,Qy,R8 (by simp; omega)]
    simp [Rs (Nat.le_of_lt hk)]
   refine .inl ⟨_,by rw [hs k s hk hl]; rfl,?_⟩
   rw [hg,hI,hd,List.set_append_right _ _ (by simp; omega),take_next hk,T6,Qp]
   simp [Rs (Nat.le_of_lt hk)])
  (fun s hI=>he s (by rw [hI]; simp)) a.length 0 a uu0 (by simp) (Int.toNat ((a.length:Int)-0)+1) uu0
 rcases h with ⟨s,h,hI⟩ | ⟨_,_,h⟩
 ·have h':runL step (Int.toNat ((a.length:Int)-0)+1) (0,a)=_:=h
  rw [h',hI,List.take_length,List.drop_length,Sh]
 ·exact h.elim
theorem lifeS_loop (e:Ud):runL (F92_s0 e) (((e.Heard.length:Int)-0).toNat+1) (0,e.Heard)=.done ((e.Heard.length:Int),e.Heard.map staleR) :=
 stale_loop e.Heard _ (fun k xs hk hl=>by
  have:decide ((k:Int)<(xs.length:Int))=true:=Qs uu0
  simp only [F92_s0,this,Qd,nn]; rfl) (fun xs hl=>by
  have:decide ((e.Heard.length:Int)<(xs.length:Int))=false:=Qt uu0
  simp only [F92_s0,this,Qi])
theorem stale_facts (e:Ud):(F92 e).Keys=e.Keys/\(F92 e).Want=e.Want/\(F92 e).Told=e.Told/\(F92 e).Heard.length=e.Heard.length:=by
 unfold F92
 rw [lifeS_loop]
 simp only [Lp.fin]
 cases (bif decide (((e.Heard.map staleR).length:Int)>0) then (e.Keep==0) else false) <;> exact ⟨rfl,rfl,rfl,Si _⟩
theorem life_facts (e:Ud):(F37 e).Keys=e.Keys/\(F37 e).Want=e.Want/\(F37 e).Told=[]/\(F37 e).Heard.length=e.Heard.length:=by
 unfold F37 F37_j0 F71
 cases decide (e.Boot<1000) <;> exact stale_facts _
theorem life_small (e:Ud) (h:smallE e):smallE (F37 e):=by
 obtain ⟨h1,h2,h3,h4⟩:=life_facts e
 unfold smallE at h ⊢
 rw [h1,h2,h3,h4]
 exact ⟨h.1,h.2.1,Rm _,h.2.2.2⟩
theorem kc36a (e1:Ud) {K_:Prop} (p0_:smallE e1) (k_:K_):(smallE e1)/\(Imps (eHelloEnd e1) (eHelloEnd e1))/\K_:=⟨p0_,Imps.refl _,k_⟩
abbrev kh36a (e1:Ud):Hint true Tryz.prog:=.call 36 (S36 e1 e1) (oa36 e1) none
theorem kc37l (e1:Ud) {K_:Prop} (q0_:smallE e1) (k_:(smallE (F37 e1))->K_):(True)/\(Imps (eHelloEnd e1) (eHelloEnd e1))/\K_:=⟨trivial,Imps.refl _,k_ (life_small e1 q0_)⟩
abbrev kh37l (e1:Ud):Hint true Tryz.prog:=.call 37 (S37 e1) (ok37 e1) none
def F14_j0 (e1:Ud):Lp (Int×Int×Int×Int×Int×Int) (Ud×HelloWord×Bool) :=
 bif (bif e1.Up then (e1.Under.Kind==0) else false) then (bif (decide ((F21 ⟨e1.Name,e1.Peer,e1.Keys,e1.Boot,e1.Want,(IntKind.i64.wrap (e1.Turn+1)),e1.PeerBoot,e1.PeerTurn,e1.Up,e1.Left,e1.Num,e1.Under,e1.Told,e1.All,e1.Got,e1.Full,e1.Heard,e1.Keep⟩).Kind>0)) then (.done ((IntKind.i64.wrap (e1.Num+1)),(F21 ⟨e1.Name,e1.Peer,e1.Keys,e1.Boot,e1.Want,(IntKind.i64.wrap (e1.Turn+1)),e1.PeerBoot,e1.PeerTurn,e1.Up,e1.Left,e1.Num,e1.Under,e1.Told,e1.All,e1.Got,e1.Full,e1.Heard,e1.Keep⟩).Kind,(F21 ⟨e1.Name,e1.Peer,e1.Keys,e1.Boot,e1.Want,(IntKind.i64.wrap (e1.Turn+1)),e1.PeerBoot,e1.PeerTurn,e1.Up,e1.Left,e1.Num,e1.Under,e1.Told,e1.All,e1.Got,e1.Full,e1.Heard,e1.Keep⟩).Entry.Addr,(F21 ⟨e1.Name,e1.Peer,e1.Keys,e1.Boot,e1.Want,(IntKind.i64.wrap (e1.Turn+1)),e1.PeerBoot,e1.PeerTurn,e1.Up,e1.Left,e1.Num,e1.Under,e1.Told,e1.All,e1.Got,e1.Full,e1.Heard,e1.Keep⟩).Entry.Len,(F21 ⟨e1.Name,e1.Peer,e1.Keys,e1.Boot,e1.Want,(IntKind.i64.wrap (e1.Turn+1)),e1.PeerBoot,e1.PeerTurn,e1.Up,e1.Left,e1.Num,e1.Under,e1.Told,e1.All,e1.Got,e1.Full,e1.Heard,e1.Keep⟩).Entry.Cost,(F21 ⟨e1.Name,e1.Peer,e1.Keys,e1.Boot,e1.Want,(IntKind.i64.wrap (e1.Turn+1)),e1.PeerBoot,e1.PeerTurn,e1.Up,e1.Left,e1.Num,e1.Under,e1.Told,e1.All,e1.Got,e1.Full,e1.Heard,e1.Keep⟩).Entry.Label)) else (.done (e1.Num,(F21 ⟨e1.Name,e1.Peer,e1.Keys,e1.Boot,e1.Want,(IntKind.i64.wrap (e1.Turn+1)),e1.PeerBoot,e1.PeerTurn,e1.Up,e1.Left,e1.Num,e1.Under,e1.Told,e1.All,e1.Got,e1.Full,e1.Heard,e1.Keep⟩).Kind,(F21 ⟨e1.Name,e1.Peer,e1.Keys,e1.Boot,e1.Want,(IntKind.i64.wrap (e1.Turn+1)),e1.PeerBoot,e1.PeerTurn,e1.Up,e1.Left,e1.Num,e1.Under,e1.Told,e1.All,e1.Got,e1.Full,e1.Heard,e1.Keep⟩).Entry.Addr,(F21 ⟨e1.Name,e1.Peer,e1.Keys,e1.Boot,e1.Want,(IntKind.i64.wrap (e1.Turn+1)),e1.PeerBoot,e1.PeerTurn,e1.Up,e1.Left,e1.Num,e1.Under,e1.Told,e1.All,e1.Got,e1.Full,e1.Heard,e1.Keep⟩).Entry.Len,(F21 ⟨e1.Name,e1.Peer,e1.Keys,e1.Boot,e1.Want,(IntKind.i64.wrap (e1.Turn+1)),e1.PeerBoot,e1.PeerTurn,e1.Up,e1.Left,e1.Num,e1.Under,e1.Told,e1.All,e1.Got,e1.Full,e1.Heard,e1.Keep⟩).Entry.Cost,(F21 ⟨e1.Name,e1.Peer,e1.Keys,e1.Boot,e1.Want,(IntKind.i64.wrap (e1.Turn+1)),e1.PeerBoot,e1.PeerTurn,e1.Up,e1.Left,e1.Num,e1.Under,e1.Told,e1.All,e1.Got,e1.Full,e1.Heard,e1.Keep⟩).Entry.Label))) else (.done (e1.Num,e1.Under.Kind,e1.Under.Entry.Addr,e1.Under.Entry.Len,e1.Under.Entry.Cost,e1.Under.Entry.Label))
def F14 (e1:Ud):Ud×HelloWord×Bool :=
 bif (!(F9 e1)) then ((⟨0,0,[],0,[],0,0,0,false,0,0,(⟨0,(⟨0,0,0,0⟩:Ue)⟩:HelloChange),[],false,0,false,[],0⟩:Ud),(⟨0,0,0,0,0,0,0,0,(⟨0,(⟨0,0,0,0⟩:Ue)⟩:HelloChange),0⟩:HelloWord),false) else (bif (e1.Boot==1000) then (e1,(⟨0,0,0,0,0,0,0,0,(⟨0,(⟨0,0,0,0⟩:Ue)⟩:HelloChange),0⟩:HelloWord),false) else (bif (e1.Turn==1000000) then ((F37 e1),(⟨0,0,0,0,0,0,0,0,(⟨0,(⟨0,0,0,0⟩:Ue)⟩:HelloChange),0⟩:HelloWord),false) else ((F14_j0 e1).fin (fun r=>r) (fun (x9,x10,x11,x12,x13,x14)=>((⟨e1.Name,e1.Peer,e1.Keys,e1.Boot,e1.Want,(IntKind.i64.wrap (e1.Turn+1)),e1.PeerBoot,e1.PeerTurn,e1.Up,e1.Left,x9,(⟨x10,(⟨x11,x12,x13,x14⟩:Ue)⟩:HelloChange),e1.Told,e1.All,e1.Got,e1.Full,e1.Heard,e1.Keep⟩:Ud),(⟨e1.Name,e1.Peer,(e1.Keys.getD ((e1.Keys.length:Int)-1).toNat default).Id,e1.Boot,e1.PeerBoot,(IntKind.i64.wrap (e1.Turn+1)),x9,e1.Got,(⟨x10,(⟨x11,x12,x13,x14⟩:Ue)⟩:HelloChange),(F38 (e1.Keys.getD ((e1.Keys.length:Int)-1).toNat default).Secret ⟨e1.Name,e1.Peer,(e1.Keys.getD ((e1.Keys.length:Int)-1).toNat default).Id,e1.Boot,e1.PeerBoot,(IntKind.i64.wrap (e1.Turn+1)),x9,e1.Got,(⟨x10,(⟨x11,x12,x13,x14⟩:Ue)⟩:HelloChange),0⟩)⟩:HelloWord),true)))))
abbrev jJ14_0 (e1:Ud) (j:Int×Int×Int×Int×Int×Int):Prop:=(F14_j0 e1)=Lp.done j
theorem jn14_0 (e1:Ud) (x9:Int) (x10:Int) (x11:Int) (x12:Int) (x13:Int) (x14:Int) (e:(F14_j0 e1)=Lp.done (x9,x10,x11,x12,x13,x14)):∃ j:Int×Int×Int×Int×Int×Int,((.int .i64 0:Value)=.int .i64 0)/\((.int .i64 0:Value)=.int .i64 0)/\((.slice none 0 0:Value)=.slice none 0 0)/\((.int .i64 0:Value)=.int .i64 0)/\((.slice none 0 0:Value)=.slice none 0 0)/\((.int .i64 0:Value)=.int .i64 0)/\((.int .i64 0:Value)=.int .i64 0)/\((.int .i64 0:Value)=.int .i64 0)/\((.bool false:Value)=.bool false)/\((.int .i64 0:Value)=.int .i64 0)/\((.int .i64 0:Value)=.int .i64 0)/\((.int .i64 0:Value)=.int .i64 0)/\((.int .i64 0:Value)=.int .i64 0)/\((.int .i64 0:Value)=.int .i64 0)/\((.int .i64 0:Value)=.int .i64 0)/\((.int .i64 0:Value)=.int .i64 0)/\((.slice none 0 0:Value)=.slice none 0 0)/\((.bool false:Value)=.bool false)/\((.int .i64 0:Value)=.int .i64 0)/\((.bool false:Value)=.bool false)/\((.slice none 0 0:Value)=.slice none 0 0)/\((.int .i64 0:Value)=.int .i64 0)/\((.int .i64 0:Value)=.int .i64 0)/\((.int .i64 0:Value)=.int .i64 0)/\((.int .i64 0:Value)=.int .i64 0)/\((.int .i64 0:Value)=.int .i64 0)/\((.int .i64 0:Value)=.int .i64 0)/\((.int .i64 0:Value)=.int .i64 0)/\((.int .i64 0:Value)=.int .i64 0)/\((.int .i64 0:Value)=.int .i64 0)/\((.int .i64 0:Value)=.int .i64 0)/\((.int .i64 0:Value)=.int .i64 0)/\((.int .i64 0:Value)=.int .i64 0)/\((.int .i64 0:Value)=.int .i64 0)/\((.int .i64 0:Value)=.int .i64 0)/\((.int .i64 0:Value)=.int .i64 0)/\((.int .i64 e1.Name:Value)=.int .i64 e1.Name)/\((.int .i64 e1.Peer:Value)=.int .i64 e1.Peer)/\((.int .i64 e1.Boot:Value)=.int .i64 e1.Boot)/\((.int .i64 (IntKind.i64.wrap (e1.Turn+1)):Value)=.int .i64 (IntKind.i64.wrap (e1.Turn+1)))/\((.int .i64 e1.PeerBoot:Value)=.int .i64 e1.PeerBoot)/\((.int .i64 e1.PeerTurn:Value)=.int .i64 e1.PeerTurn)/\((.bool e1.Up:Value)=.bool e1.Up)/\((.int .i64 e1.Left:Value)=.int .i64 e1.Left)/\((.int .i64 x9:Value)=.int .i64 j.1)/\((.int .i64 x10:Value)=.int .i64 j.2.1)/\((.int .i64 x11:Value)=.int .i64 j.2.2.1)/\((.int .i64 x12:Value)=.int .i64 j.2.2.2.1)/\((.int .i64 x13:Value)=.int .i64 j.2.2.2.2.1)/\((.int .i64 x14:Value)=.int .i64 j.2.2.2.2.2)/\((.bool e1.All:Value)=.bool e1.All)/\((.int .i64 e1.Got:Value)=.int .i64 e1.Got)/\((.bool e1.Full:Value)=.bool e1.Full)/\((.int .i64 e1.Keep:Value)=.int .i64 e1.Keep)/\(Imp (.l 2 eHelloKey e1.Keys) (.l 2 eHelloKey e1.Keys))/\(Imp (.l 4 eHelloEntry e1.Want) (.l 4 eHelloEntry e1.Want))/\(Imp (.l 4 eHelloEntry e1.Told) (.l 4 eHelloEntry e1.Told))/\(Imp (.l 5 eHelloRoute e1.Heard) (.l 5 eHelloRoute e1.Heard))/\jJ14_0 e1 j:=⟨(x9,x10,x11,x12,x13,x14),rfl,rfl,rfl,rfl,rfl,rfl,rfl,rfl,rfl,rfl,rfl,rfl,rfl,rfl,rfl,rfl,rfl,rfl,rfl,rfl,rfl,rfl,rfl,rfl,rfl,rfl,rfl,rfl,rfl,rfl,rfl,rfl,rfl,rfl,rfl,rfl,rfl,rfl,rfl,rfl,rfl,rfl,rfl,rfl,rfl,rfl,rfl,rfl,rfl,rfl,rfl,rfl,rfl,rfl,Imp.refl _,Imp.refl _,Imp.refl _,Imp.refl _,e⟩
theorem fi14 (e1:Ud) (r:Ud×HelloWord×Bool) (hF:r=(F14 e1)):((.int .i64 r.1.Name:Value)=.int .i64 (F14 e1).1.Name)/\((.int .i64 r.1.Peer:Value)=.int .i64 (F14 e1).1.Peer)/\(Imp (.l 2 eHelloKey r.1.Keys) (.l 2 eHelloKey (F14 e1).1.Keys))/\((.int .i64 r.1.Boot:Value)=.int .i64 (F14 e1).1.Boot)/\(Imp (.l 4 eHelloEntry r.1.Want) (.l 4 eHelloEntry (F14 e1).1.Want))/\((.int .i64 r.1.Turn:Value)=.int .i64 (F14 e1).1.Turn)/\((.int .i64 r.1.PeerBoot:Value)=.int .i64 (F14 e1).1.PeerBoot)/\((.int .i64 r.1.PeerTurn:Value)=.int .i64 (F14 e1).1.PeerTurn)/\((.bool r.1.Up:Value)=.bool (F14 e1).1.Up)/\((.int .i64 r.1.Left:Value)=.int .i64 (F14 e1).1.Left)/\((.int .i64 r.1.Num:Value)=.int .i64 (F14 e1).1.Num)/\((.int .i64 r.1.Under.Kind:Value)=.int .i64 (F14 e1).1.Under.Kind)/\((.int .i64 r.1.Under.Entry.Addr:Value)=.int .i64 (F14 e1).1.Under.Entry.Addr)/\((.int .i64 r.1.Under.Entry.Len:Value)=.int .i64 (F14 e1).1.Under.Entry.Len)/\((.int .i64 r.1.Under.Entry.Cost:Value)=.int .i64 (F14 e1).1.Under.Entry.Cost)/\((.int .i64 r.1.Under.Entry.Label:Value)=.int .i64 (F14 e1).1.Under.Entry.Label)/\(Imp (.l 4 eHelloEntry r.1.Told) (.l 4 eHelloEntry (F14 e1).1.Told))/\((.bool r.1.All:Value)=.bool (F14 e1).1.All)/\((.int .i64 r.1.Got:Value)=.int .i64 (F14 e1).1.Got)/\((.bool r.1.Full:Value)=.bool (F14 e1).1.Full)/\(Imp (.l 5 eHelloRoute r.1.Heard) (.l 5 eHelloRoute (F14 e1).1.Heard))/\((.int .i64 r.1.Keep:Value)=.int .i64 (F14 e1).1.Keep)/\((.int .i64 r.2.1.From:Value)=.int .i64 (F14 e1).2.1.From)/\((.int .i64 r.2.1.To:Value)=.int .i64 (F14 e1).2.1.To)/\((.int .i64 r.2.1.Key:Value)=.int .i64 (F14 e1).2.1.Key)/\((.int .i64 r.2.1.Boot:Value)=.int .i64 (F14 e1).2.1.Boot)/\((.int .i64 r.2.1.Yours:Value)=.int .i64 (F14 e1).2.1.Yours)/\((.int .i64 r.2.1.Turn:Value)=.int .i64 (F14 e1).2.1.Turn)/\((.int .i64 r.2.1.Num:Value)=.int .i64 (F14 e1).2.1.Num)/\((.int .i64 r.2.1.Heard:Value)=.int .i64 (F14 e1).2.1.Heard)/\((.int .i64 r.2.1.Change.Kind:Value)=.int .i64 (F14 e1).2.1.Change.Kind)/\((.int .i64 r.2.1.Change.Entry.Addr:Value)=.int .i64 (F14 e1).2.1.Change.Entry.Addr)/\((.int .i64 r.2.1.Change.Entry.Len:Value)=.int .i64 (F14 e1).2.1.Change.Entry.Len)/\((.int .i64 r.2.1.Change.Entry.Cost:Value)=.int .i64 (F14 e1).2.1.Change.Entry.Cost)/\((.int .i64 r.2.1.Change.Entry.Label:Value)=.int .i64 (F14 e1).2.1.Change.Entry.Label)/\((.int .i64 r.2.1.Sum:Value)=.int .i64 (F14 e1).2.1.Sum)/\((.bool r.2.2:Value)=.bool (F14 e1).2.2)/\True:=by cases hF; exact ⟨rfl,rfl,Imp.refl _,rfl,Imp.refl _,rfl,rfl,rfl,rfl,rfl,rfl,rfl,rfl,rfl,rfl,rfl,Imp.refl _,rfl,rfl,rfl,Imp.refl _,rfl,rfl,rfl,rfl,rfl,rfl,rfl,rfl,rfl,rfl,rfl,rfl,rfl,rfl,rfl,rfl,trivial⟩
def S14 (e1:Ud):Spec:=⟨[.r (.g (eHelloEnd e1))],.tu [.ag [.v (vI (F14 e1).1.Name),.v (vI (F14 e1).1.Peer),.ow (.l 2 eHelloKey (F14 e1).1.Keys),.v (vI (F14 e1).1.Boot),.ow (.l 4 eHelloEntry (F14 e1).1.Want),.v (vI (F14 e1).1.Turn),.v (vI (F14 e1).1.PeerBoot),.v (vI (F14 e1).1.PeerTurn),.v (.bool (F14 e1).1.Up),.v (vI (F14 e1).1.Left),.v (vI (F14 e1).1.Num),.v (vI (F14 e1).1.Under.Kind),.v (vI (F14 e1).1.Under.Entry.Addr),.v (vI (F14 e1).1.Under.Entry.Len),.v (vI (F14 e1).1.Under.Entry.Cost),.v (vI (F14 e1).1.Under.Entry.Label),.ow (.l 4 eHelloEntry (F14 e1).1.Told),.v (.bool (F14 e1).1.All),.v (vI (F14 e1).1.Got),.v (.bool (F14 e1).1.Full),.ow (.l 5 eHelloRoute (F14 e1).1.Heard),.v (vI (F14 e1).1.Keep)],.ag [.v (vI (F14 e1).2.1.From),.v (vI (F14 e1).2.1.To),.v (vI (F14 e1).2.1.Key),.v (vI (F14 e1).2.1.Boot),.v (vI (F14 e1).2.1.Yours),.v (vI (F14 e1).2.1.Turn),.v (vI (F14 e1).2.1.Num),.v (vI (F14 e1).2.1.Heard),.v (vI (F14 e1).2.1.Change.Kind),.v (vI (F14 e1).2.1.Change.Entry.Addr),.v (vI (F14 e1).2.1.Change.Entry.Len),.v (vI (F14 e1).2.1.Change.Entry.Cost),.v (vI (F14 e1).2.1.Change.Entry.Label),.v (vI (F14 e1).2.1.Sum)],.v (.bool (F14 e1).2.2)],True⟩
abbrev q14_1 (e1:Ud):=(e1.Keys.getD ((e1.Keys.length:Int)-1).toNat default)
abbrev q14_2 (x10:Int) (x11:Int) (x12:Int) (x13:Int) (x14:Int):=(⟨x10,(⟨x11,x12,x13,x14⟩:Ue)⟩:HelloChange)
theorem ok14 (e1:Ud):(S14 e1).ok Tryz.prog 14 :=
 fnG_ok mixed (fn:=Tryz.f14) (ct:=.seq .no (.seq (.seq (.reg [(1,kh9l e1)]) (.cond (.seq .no .no) .no)) (.seq (.reg [(1,kh36a e1)]) (.seq (.seq .no (.cond (.seq .no .no) .no)) (.seq (.seq .no (.cond (.seq (.reg [(1,kh37l e1),(2,kh36a (F37 e1))]) .no) .no)) (.seq .no (.cut (ι:=Int×Int×Int×Int×Int×Int) (fun j=>(fun (x9:Int) (x10:Int) (x11:Int) (x12:Int) (x13:Int) (x14:Int)=>(⟨[(2,some (.p 0 0)),(3,some (.p 1 0)),(5,some (.p 2 0))],[(0,some (.box 31 [.v (vI 0),.v (vI 0),.v (.slice none 0 0),.v (vI 0),.v (.slice none 0 0),.v (vI 0),.v (vI 0),.v (vI 0),.v (.bool false),.v (vI 0),.v (vI 0),.v (vI 0),.v (vI 0),.v (vI 0),.v (vI 0),.v (vI 0),.v (.slice none 0 0),.v (.bool false),.v (vI 0),.v (.bool false),.v (.slice none 0 0),.v (vI 0)])),(1,some (.box 39 [.v (vI 0),.v (vI 0),.v (vI 0),.v (vI 0),.v (vI 0),.v (vI 0),.v (vI 0),.v (vI 0),.v (vI 0),.v (vI 0),.v (vI 0),.v (vI 0),.v (vI 0),.v (vI 0)])),(2,some (.box 31 [.v (vI e1.Name),.v (vI e1.Peer),.h 3 0,.v (vI e1.Boot),.h 4 0,.v (vI (IntKind.i64.wrap (e1.Turn+1))),.v (vI e1.PeerBoot),.v (vI e1.PeerTurn),.v (.bool e1.Up),.v (vI e1.Left),.v (vI x9),.v (vI x10),.v (vI x11),.v (vI x12),.v (vI x13),.v (vI x14),.h 5 0,.v (.bool e1.All),.v (vI e1.Got),.v (.bool e1.Full),.h 6 0,.v (vI e1.Keep)])),(3,some (.own 3 (.l 2 eHelloKey e1.Keys))),(4,some (.own 4 (.l 4 eHelloEntry e1.Want))),(5,some (.own 5 (.l 4 eHelloEntry e1.Told))),(6,some (.own 6 (.l 5 eHelloRoute e1.Heard)))],7⟩:St)) j.1 j.2.1 j.2.2.1 j.2.2.2.1 j.2.2.2.2.1 j.2.2.2.2.2) (jJ14_0 e1) (.seq .no (.cond (.seq (.reg [(1,.call 21 (S21 (⟨e1.Name,e1.Peer,e1.Keys,e1.Boot,e1.Want,(IntKind.i64.wrap (e1.Turn+1)),e1.PeerBoot,e1.PeerTurn,e1.Up,e1.Left,e1.Num,e1.Under,e1.Told,e1.All,e1.Got,e1.Full,e1.Heard,e1.Keep⟩:Ud)) (ok21 (⟨e1.Name,e1.Peer,e1.Keys,e1.Boot,e1.Want,(IntKind.i64.wrap (e1.Turn+1)),e1.PeerBoot,e1.PeerTurn,e1.Up,e1.Left,e1.Num,e1.Under,e1.Told,e1.All,e1.Got,e1.Full,e1.Heard,e1.Keep⟩:Ud)) none)]) (.seq .no (.cond .no .no))) .no)) (fun j=>(fun (x9:Int) (x10:Int) (x11:Int) (x12:Int) (x13:Int) (x14:Int)=>(.seq (.reg [(5,.bnd)]) (.seq .no (.seq (.reg [(3,.call 38 (S38 (q14_1 e1).Secret (⟨e1.Name,e1.Peer,(q14_1 e1).Id,e1.Boot,e1.PeerBoot,(IntKind.i64.wrap (e1.Turn+1)),x9,e1.Got,(q14_2 x10 x11 x12 x13 x14),0⟩:HelloWord)) (ok38 (q14_1 e1).Secret (⟨e1.Name,e1.Peer,(q14_1 e1).Id,e1.Boot,e1.PeerBoot,(IntKind.i64.wrap (e1.Turn+1)),x9,e1.Got,(q14_2 x10 x11 x12 x13 x14),0⟩:HelloWord)) none)]) (.seq .no .no))))) j.1 j.2.1 j.2.2.1 j.2.2.2.1 j.2.2.2.2.1 j.2.2.2.2.2)))))))) Tryz.func14 (fun (_:True)=>kc9l e1 (ifb (!(F9 e1)) (fun h1=>(fun hF:((⟨0,0,[],0,[],0,0,0,false,0,0,(⟨0,(⟨0,0,0,0⟩:Ue)⟩:HelloChange),[],false,0,false,[],0⟩:Ud),(⟨0,0,0,0,0,0,0,0,(⟨0,(⟨0,0,0,0⟩:Ue)⟩:HelloChange),0⟩:HelloWord),false)=(F14 e1)=>ai (Qc (fun r:Ud×HelloWord×Bool=>(.int .i64 r.1.Name:Value)) hF) (ai (Qc (fun r:Ud×HelloWord×Bool=>(.int .i64 r.1.Peer:Value)) hF) (ai ((Imp.nil 2 eHelloKey).trans (Imp.of_eq (Qc (fun r:Ud×HelloWord×Bool=>Dat.l 2 eHelloKey r.1.Keys) hF))) (ai (Qc (fun r:Ud×HelloWord×Bool=>(.int .i64 r.1.Boot:Value)) hF) (ai ((Imp.nil 4 eHelloEntry).trans (Imp.of_eq (Qc (fun r:Ud×HelloWord×Bool=>Dat.l 4 eHelloEntry r.1.Want) hF))) (ai (Qc (fun r:Ud×HelloWord×Bool=>(.int .i64 r.1.Turn:Value)) hF) (ai (Qc (fun r:Ud×HelloWord×Bool=>(.int .i64 r.1.PeerBoot:Value)) hF) (ai (Qc (fun r:Ud×HelloWord×Bool=>(.int .i64 r.1.PeerTurn:Value)) hF) (ai (Qc (fun r:Ud×HelloWord×Bool=>(.bool r.1.Up:Value)) hF) (ai (Qc (fun r:Ud×HelloWord×Bool=>(.int .i64 r.1.Left:Value)) hF) (ai (Qc (fun r:Ud×HelloWord×Bool=>(.int .i64 r.1.Num:Value)) hF) (ai (Qc (fun r:Ud×HelloWord×Bool=>(.int .i64 r.1.Under.Kind:Value)) hF) (ai (Qc (fun r:Ud×HelloWord×Bool=>(.int .i64 r.1.Under.Entry.Addr:Value)) hF) (ai (Qc (fun r:Ud×HelloWord×Bool=>(.int .i64 r.1.Under.Entry.Len:Value)) hF) (ai (Qc (fun r:Ud×HelloWord×Bool=>(.int .i64 r.1.Under.Entry.Cost:Value)) hF) (ai (Qc (fun r:Ud×HelloWord×Bool=>(.int .i64 r.1.Under.Entry.Label:Value)) hF) (ai ((Imp.nil 4 eHelloEntry).trans (Imp.of_eq (Qc (fun r:Ud×HelloWord×Bool=>Dat.l 4 eHelloEntry r.1.Told) hF))) (ai (Qc (fun r:Ud×HelloWord×Bool=>(.bool r.1.All:Value)) hF) (ai (Qc (fun r:Ud×HelloWord×Bool=>(.int .i64 r.1.Got:Value)) hF) (ai (Qc (fun r:Ud×HelloWord×Bool=>(.bool r.1.Full:Value)) hF) (ai ((Imp.nil 5 eHelloRoute).trans (Imp.of_eq (Qc (fun r:Ud×HelloWord×Bool=>Dat.l 5 eHelloRoute r.1.Heard) hF))) (ai (Qc (fun r:Ud×HelloWord×Bool=>(.int .i64 r.1.Keep:Value)) hF) (ai (Qc (fun r:Ud×HelloWord×Bool=>(.int .i64 r.2.1.From:Value)) hF) (ai (Qc (fun r:Ud×HelloWord×Bool=>(.int .i64 r.2.1.To:Value)) hF) (ai (Qc (fun r:Ud×HelloWord×Bool=>(.int .i64 r.2.1.Key:Value)) hF) (ai (Qc (fun r:Ud×HelloWord×Bool=>(.int .i64 r.2.1.Boot:Value)) hF) (ai (Qc (fun r:Ud×HelloWord×Bool=>(.int .i64 r.2.1.Yours:Value)) hF) (ai (Qc (fun r:Ud×HelloWord×Bool=>(.int .i64 r.2.1.Turn:Value)) hF) (ai (Qc (fun r:Ud×HelloWord×Bool=>(.int .i64 r.2.1.Num:Value)) hF) (ai (Qc (fun r:Ud×HelloWord×Bool=>(.int .i64 r.2.1.Heard:Value)) hF) (ai (Qc (fun r:Ud×HelloWord×Bool=>(.int .i64 r.2.1.Change.Kind:Value)) hF) (ai (Qc (fun r:Ud×HelloWord×Bool=>(.int .i64 r.2.1.Change.Entry.Addr:Value)) hF) (ai (Qc (fun r:Ud×HelloWord×Bool=>(.int .i64 r.2.1.Change.Entry.Len:Value)) hF) (ai (Qc (fun r:Ud×HelloWord×Bool=>(.int .i64 r.2.1.Change.Entry.Cost:Value)) hF) (ai (Qc (fun r:Ud×HelloWord×Bool=>(.int .i64 r.2.1.Change.Entry.Label:Value)) hF) (ai (Qc (fun r:Ud×HelloWord×Bool=>(.int .i64 r.2.1.Sum:Value)) hF) (ai (Qc (fun r:Ud×HelloWord×Bool=>(.bool r.2.2:Value)) hF) trivial))))))))))))))))))))))))))))))))))))) (condT h1 rfl)) (fun h1=>have _:1<=e1.Keys.length/\e1.Keys.length<=3/\e1.Want.length<=8/\e1.Told.length<=8/\e1.Heard.length<=16:=endOkS_T e1 (notEF h1); have _:EndFit e1:=endFitS e1 (notEF h1); kc36a e1 uu17 (ife e1.Boot 1000 (fun h2 _=>fi14 e1 (e1,(⟨0,0,0,0,0,0,0,0,(⟨0,(⟨0,0,0,0⟩:Ue)⟩:HelloChange),0⟩:HelloWord),false) (condF h1 (condT h2 rfl))) (fun h2 _=>ife e1.Turn 1000000 (fun h3 _=>kc37l e1 uu17 (fun gv4=>kc36a (F37 e1) uu17 (fi14 e1 ((F37 e1),(⟨0,0,0,0,0,0,0,0,(⟨0,(⟨0,0,0,0⟩:Ue)⟩:HelloChange),0⟩:HelloWord),false) (condF h1 (condF h2 (condT h3 rfl)))))) (fun h3 _=>ai (ifb (bif e1.Up then (e1.Under.Kind==0) else false) (fun h5=>have _:=(andT1 h5); have _:=eq_of_beq (andT2 h5); ai trivial (ai (Imps.refl (eHelloEnd (⟨e1.Name,e1.Peer,e1.Keys,e1.Boot,e1.Want,(IntKind.i64.wrap (e1.Turn+1)),e1.PeerBoot,e1.PeerTurn,e1.Up,e1.Left,e1.Num,e1.Under,e1.Told,e1.All,e1.Got,e1.Full,e1.Heard,e1.Keep⟩:Ud))) (ifd ((F21 ⟨e1.Name,e1.Peer,e1.Keys,e1.Boot,e1.Want,(IntKind.i64.wrap (e1.Turn+1)),e1.PeerBoot,e1.PeerTurn,e1.Up,e1.Left,e1.Num,e1.Under,e1.Told,e1.All,e1.Got,e1.Full,e1.Heard,e1.Keep⟩).Kind>0) (fun h6 _=>jn14_0 e1 (IntKind.i64.wrap (e1.Num+1)) (F21 ⟨e1.Name,e1.Peer,e1.Keys,e1.Boot,e1.Want,(IntKind.i64.wrap (e1.Turn+1)),e1.PeerBoot,e1.PeerTurn,e1.Up,e1.Left,e1.Num,e1.Under,e1.Told,e1.All,e1.Got,e1.Full,e1.Heard,e1.Keep⟩).Kind (F21 ⟨e1.Name,e1.Peer,e1.Keys,e1.Boot,e1.Want,(IntKind.i64.wrap (e1.Turn+1)),e1.PeerBoot,e1.PeerTurn,e1.Up,e1.Left,e1.Num,e1.Under,e1.Told,e1.All,e1.Got,e1.Full,e1.Heard,e1.Keep⟩).Entry.Addr (F21 ⟨e1.Name,e1.Peer,e1.Keys,e1.Boot,e1.Want,(IntKind.i64.wrap (e1.Turn+1)),e1.PeerBoot,e1.PeerTurn,e1.Up,e1.Left,e1.Num,e1.Under,e1.Told,e1.All,e1.Got,e1.Full,e1.Heard,e1.Keep⟩).Entry.Len (F21 ⟨e1.Name,e1.Peer,e1.Keys,e1.Boot,e1.Want,(IntKind.i64.wrap (e1.Turn+1)),e1.PeerBoot,e1.PeerTurn,e1.Up,e1.Left,e1.Num,e1.Under,e1.Told,e1.All,e1.Got,e1.Full,e1.Heard,e1.Keep⟩).Entry.Cost (F21 ⟨e1.Name,e1.Peer,e1.Keys,e1.Boot,e1.Want,(IntKind.i64.wrap (e1.Turn+1)),e1.PeerBoot,e1.PeerTurn,e1.Up,e1.Left,e1.Num,e1.Under,e1.Told,e1.All,e1.Got,e1.Full,e1.Heard,e1.Keep⟩).Entry.Label (Ri (condT h5 (condT h6 rfl))) ) (fun h6 _=>jn14_0 e1 e1.Num (F21 ⟨e1.Name,e1.Peer,e1.Keys,e1.Boot,e1.Want,(IntKind.i64.wrap (e1.Turn+1)),e1.PeerBoot,e1.PeerTurn,e1.Up,e1.Left,e1.Num,e1.Under,e1.Told,e1.All,e1.Got,e1.Full,e1.Heard,e1.Keep⟩).Kind (F21 ⟨e1.Name,e1.Peer,e1.Keys,e1.Boot,e1.Want,(IntKind.i64.wrap (e1.Turn+1)),e1.PeerBoot,e1.PeerTurn,e1.Up,e1.Left,e1.Num,e1.Under,e1.Told,e1.All,e1.Got,e1.Full,e1.Heard,e1.Keep⟩).Entry.Addr (F21 ⟨e1.Name,e1.Peer,e1.Keys,e1.Boot,e1.Want,(IntKind.i64.wrap (e1.Turn+1)),e1.PeerBoot,e1.PeerTurn,e1.Up,e1.Left,e1.Num,e1.Under,e1.Told,e1.All,e1.Got,e1.Full,e1.Heard,e1.Keep⟩).Entry.Len (F21 ⟨e1.Name,e1.Peer,e1.Keys,e1.Boot,e1.Want,(IntKind.i64.wrap (e1.Turn+1)),e1.PeerBoot,e1.PeerTurn,e1.Up,e1.Left,e1.Num,e1.Under,e1.Told,e1.All,e1.Got,e1.Full,e1.Heard,e1.Keep⟩).Entry.Cost (F21 ⟨e1.Name,e1.Peer,e1.Keys,e1.Boot,e1.Want,(IntKind.i64.wrap (e1.Turn+1)),e1.PeerBoot,e1.PeerTurn,e1.Up,e1.Left,e1.Num,e1.Under,e1.Told,e1.All,e1.Got,e1.Full,e1.Heard,e1.Keep⟩).Entry.Label (Ri (condT h5 (condF h6 rfl))) )))) (fun h5=>jn14_0 e1 e1.Num e1.Under.Kind e1.Under.Entry.Addr e1.Under.Entry.Len e1.Under.Entry.Cost e1.Under.Entry.Label (Ri (condF h5 rfl)) )) (fun (j:Int×Int×Int×Int×Int×Int) (hj:jJ14_0 e1 j)=>(fun (x9:Int) (x10:Int) (x11:Int) (x12:Int) (x13:Int) (x14:Int) (hJ0_7:(F14_j0 e1)=Lp.done (x9,x10,x11,x12,x13,x14))=>ai (iok ((e1.Keys.length:Int)-1) uu0) (ai (uu0:ib ((e1.Keys.length:Int)-1) e1.Keys) (ai trivial (ai (Imp.refl (.v (vI (q14_1 e1).Secret))) (ai (Imps.refl (eHelloWord (⟨e1.Name,e1.Peer,(q14_1 e1).Id,e1.Boot,e1.PeerBoot,(IntKind.i64.wrap (e1.Turn+1)),x9,e1.Got,(q14_2 x10 x11 x12 x13 x14),0⟩:HelloWord))) (fi14 e1 ((⟨e1.Name,e1.Peer,e1.Keys,e1.Boot,e1.Want,(IntKind.i64.wrap (e1.Turn+1)),e1.PeerBoot,e1.PeerTurn,e1.Up,e1.Left,x9,(q14_2 x10 x11 x12 x13 x14),e1.Told,e1.All,e1.Got,e1.Full,e1.Heard,e1.Keep⟩:Ud),(⟨e1.Name,e1.Peer,(q14_1 e1).Id,e1.Boot,e1.PeerBoot,(IntKind.i64.wrap (e1.Turn+1)),x9,e1.Got,(q14_2 x10 x11 x12 x13 x14),(F38 (q14_1 e1).Secret ⟨e1.Name,e1.Peer,(q14_1 e1).Id,e1.Boot,e1.PeerBoot,(IntKind.i64.wrap (e1.Turn+1)),x9,e1.Got,(q14_2 x10 x11 x12 x13 x14),0⟩)⟩:HelloWord),true) (condF h1 (condF h2 (condF h3 (finD hJ0_7 rfl)))))))))) j.1 j.2.1 j.2.2.1 j.2.2.2.1 j.2.2.2.2.1 j.2.2.2.2.2 hj))))))) uu3
theorem kc8l (e1:Ud) {K_:Prop} (k_:K_):(True)/\(Imps (eHelloEnd e1) (eHelloEnd e1))/\K_:=⟨trivial,Imps.refl _,k_⟩
abbrev kh8l (e1:Ud):Hint false Tryz.prog:=.call 8 (S8 e1) (ok8 e1) none
def F99 (list:List Uf) (k:Int):List Uf :=
 ((list.take k.toNat)++(list.drop (k+1).toNat))
theorem fi99 (list:List Uf) (k:Int) (r:List Uf) (hF:r=(F99 list k)):(Imp (.l 5 eHelloRoute r) (.l 5 eHelloRoute (F99 list k)))/\True:=by cases hF; exact ⟨Imp.refl _,trivial⟩
def S99 (list:List Uf) (k:Int):Spec:=⟨[.r (.c (.l 5 eHelloRoute list)),.r (.c (.v (vI k)))],.ow (.l 5 eHelloRoute (F99 list k)),list.length<=1000/\0<=k/\k<(list.length:Int)⟩
theorem ok99 (list:List Uf) (k:Int):(S99 list k).ok Tryz.prog 99 :=
 fnG_ok mixed (fn:=Tryz.f99) (ct:=.seqk [(0,0)] .no (.seq (.reg [(3,kh70a (list.take k.toNat)),(6,.bnd),(8,.dat (.l 5 eHelloRoute ((list.take k.toNat)++(list.drop (k+1).toNat))))]) .no)) Tryz.func99 (fun (hp:list.length<=1000/\0<=k/\k<(list.length:Int))=>have hpre0:=hp.1; have hpre1:=hp.2.1; have hpre2:=hp.2.2; kn list fun _=>ai (uu1:0<=(0:Int)/\(0:Int)<=k/\k<=(list.length:Int)) (kc70a (list.take k.toNat) uu1 (ai (iok (k+1) uu1) (ai (uu1:0<=(k+1)/\(k+1)<=(list.length:Int)/\(list.length:Int)<=(list.length:Int)) (ai (AppL.mk eHelloRoute (list.take k.toNat) (list.drop (k+1).toNat) (Imp.refl (.l 5 eHelloRoute (list.take k.toNat))) ir (fun y=>⟨rfl,fun e he=>by simp only [eHelloRoute,Ql,Rh,Sr] at he; rcases he with rfl | rfl | rfl | rfl | rfl <;> exact ⟨_,rfl⟩⟩):AppL (.l 5 eHelloRoute (list.take k.toNat)) (.l 5 eHelloRoute (list.drop (k+1).toNat)) 5 (.l 5 eHelloRoute ((list.take k.toNat)++(list.drop (k+1).toNat)))) (ai (uu6:((list.take k.toNat)++(list.drop (k+1).toNat)).length*40<=140737488355328) (fi99 list k ((list.take k.toNat)++(list.drop (k+1).toNat)) rfl))))))) uu3
def F97_s0 (list:List Uf) (e1:Ue):Int->Lp Int Int:=fun k =>
 bif (bif decide (k<(list.length:Int)) then (F60 (list.getD k.toNat default).Entry e1) else false) then (.next (k+1)) else (.done k)
def F97 (list:List Uf) (e1:Ue):Int :=
 (runL (F97_s0 list e1) (((list.length:Int)-0).toNat+1) 0).fin (fun r=>r) (fun k=>k)
abbrev lN97_0 (list:List Uf):Nat×Int:=((((list.length:Int)-0).toNat+1),0)
abbrev lI97_0 (list:List Uf) (m39:Nat) (k:Int):Prop:=Int.toNat ((list.length:Int)-k)<m39/\k<=(list.length:Int)/\(0:Int)<=k
abbrev lX97_0 (list:List Uf) (e1:Ue):Lp Int Int:=LpX (F97_s0 list e1) (lN97_0 list)
abbrev lJ97_0 (list:List Uf) (e1:Ue) (i:Nat×Int):Prop:=LpJ (F97_s0 list e1) (lN97_0 list) i (lI97_0 list i.1 i.2)
abbrev lH97_0 (list:List Uf) (e1:Ue) (i:Nat×Int) (m39:Nat) (k:Int):Prop:=LpH (F97_s0 list e1) (lN97_0 list) i m39 k (lI97_0 list (m39+1) k)
abbrev lE97_0 (list:List Uf) (e1:Ue) (k:Int) (k_:Int) (K39:Prop):Prop:=((.int .i64 k:Value)=.int .i64 k_)/\(Im (.l 5 eHelloRoute list))/\(Rf (.int .i64 e1.Addr))/\(Rf (.int .i64 e1.Len))/\(Rf (.int .i64 e1.Cost))/\(Rf (.int .i64 e1.Label))/\K39
theorem un97_0 (list:List Uf) (e1:Ue) (i:Nat×Int) (h:lJ97_0 list e1 i):lH97_0 list e1 i (i.1-1) i.2:=⟨hd1 h.1 h.2.1,hd3 h.2.1,hd2 h.2.1,h.2.2⟩
theorem bk97_0 (list:List Uf) (e1:Ue) (i:Nat×Int) (m39:Nat) (k:Int) (hl:m39<i.1) (e:runL (F97_s0 list e1) m39 k=lX97_0 list e1) (h:lI97_0 list m39 k):∃ j:Nat×Int,lE97_0 list e1 k j.2 (lJ97_0 list e1 j/\j.1<i.1):=⟨(m39,k),rfl,Imp.refl _,rfl,rfl,rfl,rfl,⟨e,h⟩,hl⟩
theorem en97_0 (list:List Uf) (e1:Ue) (h:0<=(list.length:Int)/\(0:Int)<=0):lE97_0 list e1 0 0 (lJ97_0 list e1 (lN97_0 list)):=⟨rfl,Imp.refl _,rfl,rfl,rfl,rfl,rfl,Qq _,h⟩
def S97 (list:List Uf) (e1:Ue):Spec:=⟨[.r (.c (.l 5 eHelloRoute list)),.r (.g (eHelloEntry e1))],.v (vI (F97 list e1)),True⟩
theorem ok97 (list:List Uf) (e1:Ue):(S97 list e1).ok Tryz.prog 97 :=
 fnG_ok mixed (fn:=Tryz.f97) (ct:=.seqk [(0,0)] .no (.seqk [(0,0)] .no (.seq (.blk (.loop (ι:=Nat×Int) (fun i=>(fun (k:Int)=>(⟨[(0,some (.h 0 0)),(3,some (.p 1 0)),(5,some (.v (vI k)))],[(0,some (.shr none (.l 5 eHelloRoute list))),(1,some (.box 26 [.v (vI e1.Addr),.v (vI e1.Len),.v (vI e1.Cost),.v (vI e1.Label)]))],2⟩:St)) i.2) (lJ97_0 list e1) (fun i=>i.1) (lN97_0 list) (fun i=>(fun (k:Int)=>(.seq (.seq (.reg [(11,kh60 (list.getD k.toNat default).Entry e1)]) (.cond .no .no)) (.blk (.reg [(1,.bnd)])))) i.2))) (.seq .no .no)))) Tryz.func97 (fun (_:True)=>kn list fun _=>kn list fun _=>ai (en97_0 list e1 uu7) (fun (i0:Nat×Int) (hi0:lJ97_0 list e1 i0)=>(fun (m0:Nat) (k:Int) (hh0:lH97_0 list e1 i0 m0 k)=>have hI0:=hh0.1; have hl0:=hh0.2.1; have _:=hh0.2.2.1; have _:=hh0.2.2.2; ai (fun k2:(decide (k<(list.length:Int)))=true=>have _:=Qb k2; (uu0:ib k list)) (kg60 (decide (k<(list.length:Int))) true (list.getD k.toNat default).Entry e1 (ifb (bif decide (k<(list.length:Int)) then (F60 (list.getD k.toNat default).Entry e1) else false) (fun h4=>have _:=Qb (andT1 h4); ai (iok (k+1) uu0) (bk97_0 list e1 i0 m0 (k+1) hl0 (runL_next hI0 (condT h4 rfl)) uu27)) (fun h4=>have hD0_5:lX97_0 list e1=Lp.done k:=runL_done hI0 (condF h4 rfl); fiI k (F97 list e1) (finD hD0_5 rfl))))) (i0.1-1) i0.2 (un97_0 list e1 i0 hi0))) uu3
def F98_s0 (list:List Uf):Int->Lp Int Int:=fun i40 =>
 bif (decide (i40<(list.length:Int))) then (bif (list.getD i40.toNat default).Stale then (.ret i40) else (.next (i40+1))) else (.done i40)
def F98 (list:List Uf):Int :=
 (runL (F98_s0 list) (((list.length:Int)-0).toNat+1) 0).fin (fun r=>r) (fun i40=>(-1))
abbrev lN98_0 (list:List Uf):Nat×Int:=((((list.length:Int)-0).toNat+1),0)
abbrev lI98_0 (list:List Uf) (m39:Nat) (i40:Int):Prop:=Int.toNat ((list.length:Int)-i40)<m39/\(0:Int)<=i40
abbrev lX98_0 (list:List Uf):Lp Int Int:=LpX (F98_s0 list) (lN98_0 list)
abbrev lJ98_0 (list:List Uf) (i:Nat×Int):Prop:=LpJ (F98_s0 list) (lN98_0 list) i (lI98_0 list i.1 i.2)
abbrev lH98_0 (list:List Uf) (i:Nat×Int) (m39:Nat) (i40:Int):Prop:=LpH (F98_s0 list) (lN98_0 list) i m39 i40 (lI98_0 list (m39+1) i40)
abbrev lE98_0 (list:List Uf) (i40:Int) (i40_:Int) (K39:Prop):Prop:=((.int .i64 i40:Value)=.int .i64 i40_)/\(Im (.l 5 eHelloRoute list))/\K39
theorem un98_0 (list:List Uf) (i:Nat×Int) (h:lJ98_0 list i):lH98_0 list i (i.1-1) i.2:=⟨hd1 h.1 h.2.1,hd3 h.2.1,hd2 h.2.1,h.2.2⟩
theorem bk98_0 (list:List Uf) (i:Nat×Int) (m39:Nat) (i40:Int) (hl:m39<i.1) (e:runL (F98_s0 list) m39 i40=lX98_0 list) (h:lI98_0 list m39 i40):∃ j:Nat×Int,lE98_0 list i40 j.2 (lJ98_0 list j/\j.1<i.1):=⟨(m39,i40),rfl,Imp.refl _,⟨e,h⟩,hl⟩
theorem en98_0 (list:List Uf) (h:(0:Int)<=0):lE98_0 list 0 0 (lJ98_0 list (lN98_0 list)):=⟨rfl,Imp.refl _,rfl,Qq _,h⟩
def S98 (list:List Uf):Spec:=⟨[.r (.c (.l 5 eHelloRoute list))],.v (vI (F98 list)),True⟩
theorem ok98 (list:List Uf):(S98 list).ok Tryz.prog 98 :=
 fnG_ok mixed (fn:=Tryz.f98) (ct:=.seqk [(0,0)] .no (.seq (.seqk [(0,0)] .no (.blk (.loop (ι:=Nat×Int) (fun i=>(fun (i40:Int)=>(⟨[(0,some (.h 0 0)),(3,some (.v (vI i40)))],[(0,some (.shr none (.l 5 eHelloRoute list)))],1⟩:St)) i.2) (lJ98_0 list) (fun i=>i.1) (lN98_0 list) (fun i=>(fun (i40:Int)=>(.seq (.seq .no (.cond .no .no)) (.seq (.blk (.seq .no (.cond (.seq .no .no) .no))) (.reg [(1,.bnd)])))) i.2)))) (.seq .no .no))) Tryz.func98 (fun (_:True)=>kn list fun _=>kn list fun _=>ai (en98_0 list uu0) (fun (i0:Nat×Int) (hi0:lJ98_0 list i0)=>(fun (m0:Nat) (i40:Int) (hh0:lH98_0 list i0 m0 i40)=>have hI0:=hh0.1; have hl0:=hh0.2.1; have _:=hh0.2.2.1; have _:=hh0.2.2.2; ifd (i40<(list.length:Int)) (fun h2 _=>ai (uu0:ib i40 list) (ifb (list.getD i40.toNat default).Stale (fun h3=>fiI i40 (F98 list) (finR (runL_ret hI0 (condT h2 (condT h3 rfl))) rfl)) (fun h3=>ai (iok (i40+1) uu0) (bk98_0 list i0 m0 (i40+1) hl0 (runL_next hI0 (condT h2 (condF h3 rfl))) uu7)))) (fun h2 _=>have hD0_4:lX98_0 list=Lp.done i40:=runL_done hI0 (condF h2 rfl); fiI (-1) (F98 list) (finD hD0_4 rfl))) (i0.1-1) i0.2 (un98_0 list i0 hi0))) uu3
theorem kc98 (list:List Uf) {K_:Prop} (k_:K_):(True)/\(Imp (.l 5 eHelloRoute list) (.l 5 eHelloRoute list))/\K_:=⟨trivial,Imp.refl _,k_⟩
abbrev kh98 (list:List Uf):Hint true Tryz.prog:=.call 98 (S98 list) (ok98 list) none
def F129 (e1:Ud):Ud :=
 bif (decide ((F98 e1.Heard)<0)) then (⟨e1.Name,e1.Peer,e1.Keys,e1.Boot,e1.Want,e1.Turn,e1.PeerBoot,e1.PeerTurn,e1.Up,e1.Left,e1.Num,e1.Under,e1.Told,e1.All,e1.Got,e1.Full,e1.Heard,0⟩:Ud) else e1
theorem fi129 (e1:Ud) (r:Ud) (hF:r=(F129 e1)):((.int .i64 r.Name:Value)=.int .i64 (F129 e1).Name)/\((.int .i64 r.Peer:Value)=.int .i64 (F129 e1).Peer)/\(Imp (.l 2 eHelloKey r.Keys) (.l 2 eHelloKey (F129 e1).Keys))/\((.int .i64 r.Boot:Value)=.int .i64 (F129 e1).Boot)/\(Imp (.l 4 eHelloEntry r.Want) (.l 4 eHelloEntry (F129 e1).Want))/\((.int .i64 r.Turn:Value)=.int .i64 (F129 e1).Turn)/\((.int .i64 r.PeerBoot:Value)=.int .i64 (F129 e1).PeerBoot)/\((.int .i64 r.PeerTurn:Value)=.int .i64 (F129 e1).PeerTurn)/\((.bool r.Up:Value)=.bool (F129 e1).Up)/\((.int .i64 r.Left:Value)=.int .i64 (F129 e1).Left)/\((.int .i64 r.Num:Value)=.int .i64 (F129 e1).Num)/\((.int .i64 r.Under.Kind:Value)=.int .i64 (F129 e1).Under.Kind)/\((.int .i64 r.Under.Entry.Addr:Value)=.int .i64 (F129 e1).Under.Entry.Addr)/\((.int .i64 r.Under.Entry.Len:Value)=.int .i64 (F129 e1).Under.Entry.Len)/\((.int .i64 r.Under.Entry.Cost:Value)=.int .i64 (F129 e1).Under.Entry.Cost)/\((.int .i64 r.Under.Entry.Label:Value)=.int .i64 (F129 e1).Under.Entry.Label)/\(Imp (.l 4 eHelloEntry r.Told) (.l 4 eHelloEntry (F129 e1).Told))/\((.bool r.All:Value)=.bool (F129 e1).All)/\((.int .i64 r.Got:Value)=.int .i64 (F129 e1).Got)/\((.bool r.Full:Value)=.bool (F129 e1).Full)/\(Imp (.l 5 eHelloRoute r.Heard) (.l 5 eHelloRoute (F129 e1).Heard))/\((.int .i64 r.Keep:Value)=.int .i64 (F129 e1).Keep)/\True:=by cases hF; exact ⟨rfl,rfl,Imp.refl _,rfl,Imp.refl _,rfl,rfl,rfl,rfl,rfl,rfl,rfl,rfl,rfl,rfl,rfl,Imp.refl _,rfl,rfl,rfl,Imp.refl _,rfl,trivial⟩
def S129 (e1:Ud):Spec:=⟨[.ot (eHelloEnd e1)],.ag [.v (vI (F129 e1).Name),.v (vI (F129 e1).Peer),.ow (.l 2 eHelloKey (F129 e1).Keys),.v (vI (F129 e1).Boot),.ow (.l 4 eHelloEntry (F129 e1).Want),.v (vI (F129 e1).Turn),.v (vI (F129 e1).PeerBoot),.v (vI (F129 e1).PeerTurn),.v (.bool (F129 e1).Up),.v (vI (F129 e1).Left),.v (vI (F129 e1).Num),.v (vI (F129 e1).Under.Kind),.v (vI (F129 e1).Under.Entry.Addr),.v (vI (F129 e1).Under.Entry.Len),.v (vI (F129 e1).Under.Entry.Cost),.v (vI (F129 e1).Under.Entry.Label),.ow (.l 4 eHelloEntry (F129 e1).Told),.v (.bool (F129 e1).All),.v (vI (F129 e1).Got),.v (.bool (F129 e1).Full),.ow (.l 5 eHelloRoute (F129 e1).Heard),.v (vI (F129 e1).Keep)],True⟩
theorem ok129 (e1:Ud):(S129 e1).ok Tryz.prog 129 :=
 fnG_ok mixed (fn:=Tryz.f129) (ct:=.seq .no (.seq (.seq (.reg [(2,kh98 e1.Heard)]) (.cond .no .no)) (.seq .no .no))) Tryz.func129 (fun (_:True)=>kc98 e1.Heard (ifd ((F98 e1.Heard)<0) (fun h1 _=>fi129 e1 (⟨e1.Name,e1.Peer,e1.Keys,e1.Boot,e1.Want,e1.Turn,e1.PeerBoot,e1.PeerTurn,e1.Up,e1.Left,e1.Num,e1.Under,e1.Told,e1.All,e1.Got,e1.Full,e1.Heard,0⟩:Ud) (condT h1 rfl)) (fun h1 _=>fi129 e1 e1 (condF h1 rfl)))) uu3
theorem without_eq (list:List Uf) (k:Int):F99 list k=list.take k.toNat++list.drop (k+1).toNat:=rfl
theorem without_len (list:List Uf) (k:Int) (_:list.length<=1000) (h0:0<=k) (h1:k<(list.length:Int)):(F99 list k).length+1=list.length:=by
 rw [without_eq]
 simp only [Qr,Q0,Rb]
 omega
def posR (l:List Uf) (e:Ue):Nat:=(first (fun k=>!(F60 (l.getD k default).Entry e)) l.length).getD l.length
theorem posR_le (l:List Uf) (e:Ue):posR l e<=l.length:=by
 unfold posR
 cases h:first (fun k=>!(F60 (l.getD k default).Entry e)) l.length with
 | none=>exact Qn _
 | some k=>have:=(first_some.1 h).1; show k<=_; omega
theorem where_run (l:List Uf) (e:Ue):∀ (m i:Nat),i+m=l.length->(∀ j,j<i->F60 (l.getD j default).Entry e=true)->∀ fuel,m<fuel->runL (F97_s0 l e) fuel (i:Int)=.done ((posR l e:Nat):Int)
 | m,i,_,_,0,hf=>absurd hf (Tu _)
 | 0,i,hi,hb,fuel+1,_=>by
  obtain rfl:i=l.length:=by omega
  have hp:posR l e=l.length:=by
   unfold posR
   rw [first_none.2 fun k hk=>by rw [hb k hk]; rfl]; rfl
  simp only [runL,F97_s0,geD,Qi,hp]
 | m+1,i,hi,hb,fuel+1,hf=>by
  have hlt:i<l.length:=by omega
  cases hl:F60 (l.getD i default).Entry e with
  | true =>
   have ih:=where_run l e m (i+1) uu0 (fun j hj=>by
    rcases Sx j i with h | h
    ·exact hb j h
    ·obtain rfl:j=i:=by omega
     exact hl) fuel uu0
   simp only [runL,F97_s0,ltD hlt,Qd,nn,hl]
   exact ih
  | false =>
   have hp:posR l e=i:=by
    unfold posR
    rw [(first_some (k:=i)).2 ⟨hlt,by rw [hl]; rfl,fun j hj=>by rw [hb j hj]; rfl⟩]; rfl
   simp only [runL,F97_s0,ltD hlt,Qd,nn,hl,Qi,hp]
theorem where_eq (l:List Uf) (e:Ue):F97 l e=((posR l e:Nat):Int):=by
 unfold F97
 have h:=where_run l e l.length 0 uu0 (fun j hj=>absurd hj (Tu _)) (Int.toNat ((l.length:Int)-0)+1) uu0
 have h':runL (F97_s0 l e) (Int.toNat ((l.length:Int)-0)+1) 0=.done ((posR l e:Nat):Int):=h
 rw [h']; rfl
theorem where_in (l:List Uf) (e:Ue):0<=F97 l e/\F97 l e<=(l.length:Int):=by
 rw [where_eq]
 have:=posR_le l e
 omega
theorem stale_idx (l:List Uf):F98 l=idxI (fun r=>r.Stale) l:=idx_loop (fun r:Uf=>r.Stale) l (F98_s0 l) (fun i=>rfl)
theorem stale_in (l:List Uf):-1<=F98 l/\F98 l<(l.length:Int):=by
 rw [stale_idx]
 exact ⟨idxI_ge _ _,idxI_lt _ _⟩
theorem stale_none (l:List Uf):decide (F98 l<0)=!anySt l:=by
 rw [stale_idx]
 have h:=any_idx (fun r:Uf=>r.Stale) l
 have h2:=idxI_ge (fun r:Uf=>r.Stale) l
 unfold anySt
 rw [<- h]
 by_cases hq:idxI (fun r:Uf=>r.Stale) l<0
 ·rw [Qs hq,Qt uu0]; rfl
 ·rw [Qt hq,Qs uu0]; rfl
def fndR (l:List Uf) (e:Ue):Bool:=bif (bif decide ((F97 l e)<(l.length:Int)) then (((l.getD (F97 l e).toNat default).Entry).Addr==e.Addr) else false) then (((l.getD (F97 l e).toNat default).Entry).Len==e.Len) else false
def hasAl (l:List Uf) (e:Ue):Bool:=bif fndR l e then false else bif ((l.length:Int)==16) then decide (F98 l<0) else false
theorem hasAl_no {l:List Uf} {e:Ue} (h:hasAl l e=false) (h1:fndR l e=false) (h2:((l.length:Int)==16)=true):decide (F98 l<0)=false:=by
 unfold hasAl at h; rw [h1,h2] at h; exact h
theorem hasAl_1 {l:List Uf} {e:Ue} (h:hasAl l e=true):fndR l e=false:=by
 unfold hasAl at h
 cases hq:fndR l e with
 | true=>rw [hq] at h; cases h
 | false=>rfl
theorem hasAl_2 {l:List Uf} {e:Ue} (h:hasAl l e=true):((l.length:Int)==16)=true:=by
 have h1:=hasAl_1 h
 unfold hasAl at h; rw [h1,Qi] at h
 cases hq:((l.length:Int)==16) with
 | true=>rfl
 | false=>rw [hq] at h; cases h
theorem hasAl_3 {l:List Uf} {e:Ue} (h:hasAl l e=true):decide (F98 l<0)=true:=by
 have h1:=hasAl_1 h; have h2:=hasAl_2 h
 unfold hasAl at h; rw [h1,h2] at h; exact h
def toldAl (l:List Uf) (c:HelloChange):Bool:=bif (c.Kind==1) then hasAl l c.Entry else bif (c.Kind==2) then !(fndR l c.Entry) else false
theorem toldAl_1 {l:List Uf} {c:HelloChange} {b:Bool} (h:toldAl l c=b) (h1:(c.Kind==1)=true):hasAl l c.Entry=b:=by
 unfold toldAl at h; rw [h1] at h; exact h
theorem toldAl_2 {l:List Uf} {c:HelloChange} (h:toldAl l c=false) (h1:(c.Kind==1)=false) (h2:(c.Kind==2)=true):fndR l c.Entry=true:=by
 unfold toldAl at h; rw [h1,h2] at h
 cases hq:fndR l c.Entry with
 | true=>rfl
 | false=>rw [hq] at h; cases h
theorem toldAl_4 {l:List Uf} {c:HelloChange} (h:toldAl l c=true) (h1:(c.Kind==1)=false):(c.Kind==2)=true:=by
 unfold toldAl at h; rw [h1] at h
 cases hq:(c.Kind==2) with
 | true=>rfl
 | false=>rw [hq] at h; cases h
theorem toldAl_3 {l:List Uf} {c:HelloChange} (h:toldAl l c=true) (h1:(c.Kind==1)=false):fndR l c.Entry=false:=by
 have h2:=toldAl_4 h h1
 unfold toldAl at h; rw [h1,h2] at h
 cases hq:fndR l c.Entry with
 | true=>rw [hq] at h; cases h
 | false=>rfl
theorem toldAl_5 {c:HelloChange} (h1:(c.Kind==1)=true):false=(c.Kind==2):=by
 rw [eq_of_beq h1]; rfl
end Go.Proofs.YtpecbmjjkfekbaaGreat
