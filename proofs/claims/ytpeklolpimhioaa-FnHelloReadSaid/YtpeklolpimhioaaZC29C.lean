/- A part of the proof of FnHelloRead. Texts put together: VH0, PH0, VH1, PH1, VH2, PH2, VHN, VHW, PHW, VHS0, PHS0, VHS, VHT0, PHT0, VHT1, PHT1, VHT2, PHE. -/
import Derived.Test.YtpeklolpimhioaaRows
import Derived.Test.YtpeklolpimhioaaZC29B
namespace Go.Proofs.Ytpeklolpimhioaa
open Go.RowKit
set_option maxRecDepth 100000
set_option linter.unusedVariables false
set_option linter.unusedSimpArgs false
def T53 (R:Int) (n:Int):Spec:=⟨(S53 R n).args,(S53 R n).res,0<=n/\n<=16⟩
theorem oa53 (n:Int):(T53 (szP n) n).ok Try.prog 53:=by
 intro hp; have h:=ok53 n hp; rw [as53 n hp.1 hp.2] at h; exact h
def T62 (R:Int) (p:NetPrefix):Spec:=⟨(S62 R p).args,(S62 R p).res,0<=p.Len/\p.Len<=16⟩
theorem oa62 (p:NetPrefix):(T62 (szP p.Len) p).ok Try.prog 62:=by
 intro hp; have h:=ok62 p hp; rw [as62 p hp.1 hp.2] at h; exact h
def F32 (n:Int) (low:Int) (high:Int):Bool :=
 (bif decide (n>=low) then decide (n<=high) else false)
def S32 (R:Bool) (n:Int) (low:Int) (high:Int):Spec:=⟨[.r (.c (.v (vI n))),.r (.c (.v (vI low))),.r (.c (.v (vI high)))],.v (.bool R),True⟩
theorem ok32 (n:Int) (low:Int) (high:Int):(S32 (F32 n low high) n low high).ok Try.prog 32 :=
 fnG_ok mixed (fn:=Try.f32) (ct:=.seq .no (.seq .no .no)) Try.func32 (fun (_:True)=>fiB (bif decide (n>=low) then decide (n<=high) else false) (F32 n low high) rfl) uu3
theorem as32 (n:Int) (low:Int) (high:Int):F32 n low high=(decide (low<=n/\n<=high)):=by
 simp only [F32,Bool.decide_and,bandd,geleD]
theorem oa32 (n:Int) (low:Int) (high:Int):(S32 (decide (low<=n/\n<=high)) n low high).ok Try.prog 32:=by
 intro hp; have h:=ok32 n low high hp; rw [as32 n low high] at h; exact h
structure Ue where
 Addr:Int
 Len:Int
 Cost:Int
 Label:Int
 deriving DecidableEq,Inhabited
def eHelloEntry (x:Ue):List Dat:=[.v (vI x.Addr),.v (vI x.Len),.v (vI x.Cost),.v (vI x.Label)]
theorem kc32a (n:Int) (low:Int) (high:Int) {K_:Prop} (k_:K_):(True)/\(Imp (.v (vI n)) (.v (vI n)))/\(Imp (.v (vI low)) (.v (vI low)))/\(Imp (.v (vI high)) (.v (vI high)))/\K_:=⟨trivial,Imp.refl _,Imp.refl _,Imp.refl _,k_⟩
abbrev kh32a (n:Int) (low:Int) (high:Int):Hint true Try.prog:=.call 32 (S32 (decide (low<=n/\n<=high)) n low high) (oa32 n low high) none
theorem kg32a {K_:Prop} (c_ b_:Bool) (n:Int) (low:Int) (high:Int) (k_:K_):(c_=b_->True)/\(c_=b_->Imp (.v (vI n)) (.v (vI n)))/\(c_=b_->Imp (.v (vI low)) (.v (vI low)))/\(c_=b_->Imp (.v (vI high)) (.v (vI high)))/\K_:=⟨fun _=>trivial,fun _=>Imp.refl _,fun _=>Imp.refl _,fun _=>Imp.refl _,k_⟩
theorem kg53a {K_:Prop} (c_ b_:Bool) (n:Int) (p_:c_=b_->0<=n/\n<=16) (k_:(1<=(szP n))->K_):(c_=b_->0<=n/\n<=16)/\(c_=b_->Imp (.v (vI n)) (.v (vI n)))/\K_:=⟨p_,fun _=>Imp.refl _,k_ (szP_pos n)⟩
abbrev kh53a (n:Int):Hint true Try.prog:=.call 53 (T53 (szP n) n) (oa53 n) none
def F49 (e1:Ue):Bool :=
 (bif (bif (decide (0<=e1.Len/\e1.Len<=16)) then (decide (0<=e1.Addr/\e1.Addr<=65535)) else false) then ((e1.Addr.tmod (szP e1.Len))==0) else false)
def S49 (e1:Ue):Spec:=⟨[.r (.g (eHelloEntry e1))],.v (.bool (F49 e1)),True⟩
theorem ok49 (e1:Ue):(S49 e1).ok Try.prog 49 :=
 fnG_ok mixed (fn:=Try.f49) (ct:=.seq .no (.seq (.reg [(2,kh32a e1.Len 0 16),(6,kh32a e1.Addr 0 65535),(13,kh53a e1.Len)]) .no)) Try.func49 (fun (_:True)=>kc32a e1.Len 0 16 (kg32a (decide (0<=e1.Len/\e1.Len<=16)) true e1.Addr 0 65535 (kg53a (bif (decide (0<=e1.Len/\e1.Len<=16)) then (decide (0<=e1.Addr/\e1.Addr<=65535)) else false) true e1.Len (fun k3=>have _:=Qc (andT1 k3); have _:=Qc (andT2 k3); ⟨uu0,uu0⟩) (fun gv2=>ai (fun k4:(bif (decide (0<=e1.Len/\e1.Len<=16)) then (decide (0<=e1.Addr/\e1.Addr<=65535)) else false)=true=>have _:=Qc (andT1 k4); have _:=Qc (andT2 k4); (uu0:¬ (szP e1.Len)=0)) (fiB (bif (bif (decide (0<=e1.Len/\e1.Len<=16)) then (decide (0<=e1.Addr/\e1.Addr<=65535)) else false) then ((e1.Addr.tmod (szP e1.Len))==0) else false) (F49 e1) rfl))))) uu3
theorem kc49 (e1:Ue) {K_:Prop} (k_:K_):(True)/\(Imps (eHelloEntry e1) (eHelloEntry e1))/\K_:=⟨trivial,Imps.refl _,k_⟩
abbrev kh49 (e1:Ue):Hint true Try.prog:=.call 49 (S49 e1) (ok49 e1) none
def F29 (e1:Ue):Bool :=
 (bif (bif (F49 e1) then (decide (1<=e1.Cost/\e1.Cost<=255)) else false) then (decide (0<=e1.Label/\e1.Label<=1000)) else false)
def S29 (e1:Ue):Spec:=⟨[.r (.g (eHelloEntry e1))],.v (.bool (F29 e1)),True⟩
theorem ok29 (e1:Ue):(S29 e1).ok Try.prog 29 :=
 fnG_ok mixed (fn:=Try.f29) (ct:=.seq .no (.seq (.reg [(1,kh49 e1),(5,kh32a e1.Cost 1 255),(10,kh32a e1.Label 0 1000)]) .no)) Try.func29 (fun (_:True)=>kc49 e1 (kg32a (F49 e1) true e1.Cost 1 255 (kg32a (bif (F49 e1) then (decide (1<=e1.Cost/\e1.Cost<=255)) else false) true e1.Label 0 1000 (fiB (bif (bif (F49 e1) then (decide (1<=e1.Cost/\e1.Cost<=255)) else false) then (decide (0<=e1.Label/\e1.Label<=1000)) else false) (F29 e1) rfl)))) uu3
def F30 (a:Ue) (b:Ue):Bool :=
 (bif decide (a.Addr<b.Addr) then true else (bif (a.Addr==b.Addr) then decide (a.Len<b.Len) else false))
def S30 (a:Ue) (b:Ue):Spec:=⟨[.r (.g (eHelloEntry a)),.r (.g (eHelloEntry b))],.v (.bool (F30 a b)),True⟩
theorem ok30 (a:Ue) (b:Ue):(S30 a b).ok Try.prog 30 :=
 fnG_ok mixed (fn:=Try.f30) (ct:=.seq .no (.seq .no .no)) Try.func30 (fun (_:True)=>fiB (bif decide (a.Addr<b.Addr) then true else (bif (a.Addr==b.Addr) then decide (a.Len<b.Len) else false)) (F30 a b) rfl) uu3
theorem kc29 (e1:Ue) {K_:Prop} (k_:K_):(True)/\(Imps (eHelloEntry e1) (eHelloEntry e1))/\K_:=⟨trivial,Imps.refl _,k_⟩
abbrev kh29 (e1:Ue):Hint true Try.prog:=.call 29 (S29 e1) (ok29 e1) none
abbrev kh30 (a:Ue) (b:Ue):Hint true Try.prog:=.call 30 (S30 a b) (ok30 a b) none
def F8_s0 (table:List Ue):Int->Lp Int Bool:=fun i40 =>
 bif (decide (i40<(table.length:Int))) then (bif (bif (!(F29 (table.getD i40.toNat default))) then true else (bif decide (i40>0) then (!(F30 (table.getD (i40-1).toNat default) (table.getD i40.toNat default))) else false)) then (.ret false) else (.next (i40+1))) else (.done i40)
def F8 (table:List Ue):Bool :=
 bif (decide ((table.length:Int)>8)) then false else ((runL (F8_s0 table) (((table.length:Int)-0).toNat+1) 0).fin (fun r=>r) (fun i40=>true))
abbrev lN8_0 (table:List Ue):Nat×Int:=((((table.length:Int)-0).toNat+1),0)
abbrev lI8_0 (table:List Ue) (m39:Nat) (i40:Int):Prop:=Int.toNat ((table.length:Int)-i40)<m39/\(0:Int)<=i40
abbrev lX8_0 (table:List Ue):Lp Int Bool:=LpX (F8_s0 table) (lN8_0 table)
abbrev lJ8_0 (table:List Ue) (i:Nat×Int):Prop:=LpJ (F8_s0 table) (lN8_0 table) i (lI8_0 table i.1 i.2)
abbrev lH8_0 (table:List Ue) (i:Nat×Int) (m39:Nat) (i40:Int):Prop:=LpH (F8_s0 table) (lN8_0 table) i m39 i40 (lI8_0 table (m39+1) i40)
abbrev lE8_0 (table:List Ue) (i40:Int) (i40_:Int) (K39:Prop):Prop:=((.int .i64 i40:Value)=.int .i64 i40_)/\(Im (.l 4 eHelloEntry table))/\K39
theorem un8_0 (table:List Ue) (i:Nat×Int) (h:lJ8_0 table i):lH8_0 table i (i.1-1) i.2:=⟨hd1 h.1 h.2.1,hd3 h.2.1,hd2 h.2.1,h.2.2⟩
theorem bk8_0 (table:List Ue) (i:Nat×Int) (m39:Nat) (i40:Int) (hl:m39<i.1) (e:runL (F8_s0 table) m39 i40=lX8_0 table) (h:lI8_0 table m39 i40):∃ j:Nat×Int,lE8_0 table i40 j.2 (lJ8_0 table j/\j.1<i.1):=⟨(m39,i40),rfl,Imp.refl _,⟨e,h⟩,hl⟩
theorem en8_0 (table:List Ue) (h:(0:Int)<=0):lE8_0 table 0 0 (lJ8_0 table (lN8_0 table)):=⟨rfl,Imp.refl _,rfl,Qr _,h⟩
def S8 (table:List Ue):Spec:=⟨[.r (.c (.l 4 eHelloEntry table))],.v (.bool (F8 table)),True⟩
theorem ok8 (table:List Ue):(S8 table).ok Try.prog 8 :=
 fnG_ok mixed (fn:=Try.f8) (ct:=.seqk [(0,0)] .no (.seq (.seq .no (.cond (.seq .no .no) .no)) (.seq (.seqk [(0,0)] .no (.blk (.loop (ι:=Nat×Int) (fun i=>(fun (i40:Int)=>(⟨[(0,some (.h 0 0)),(3,some (.v (vI i40)))],[(0,some (.shr none (.l 4 eHelloEntry table)))],1⟩:St)) i.2) (lJ8_0 table) (fun i=>i.1) (lN8_0 table) (fun i=>(fun (i40:Int)=>(.seq (.seq .no (.cond .no .no)) (.seq (.blk (.seq (.reg [(4,kh29 (table.getD i40.toNat default)),(12,.bnd),(19,kh30 (table.getD (i40-1).toNat default) (table.getD i40.toNat default))]) (.cond (.seq .no .no) .no))) (.reg [(1,.bnd)])))) i.2)))) (.seq .no .no)))) Try.func8 (fun (_:True)=>kn table fun _=>ifd ((table.length:Int)>8) (fun h1 _=>fiB false (F8 table) (condT h1 rfl)) (fun h1 _=>kn table fun _=>ai (en8_0 table uu0) (fun (i0:Nat×Int) (hi0:lJ8_0 table i0)=>(fun (m0:Nat) (i40:Int) (hh0:lH8_0 table i0 m0 i40)=>have hI0:=hh0.1; have hl0:=hh0.2.1; have _:=hh0.2.2.1; have _:=hh0.2.2.2; ifd (i40<(table.length:Int)) (fun h3 _=>ai (uu0:ib i40 table) (kc29 (table.getD i40.toNat default) (ai (fun k5:(decide (i40>0))=true=>have _:=Qc k5; (fun k4:(!(F29 (table.getD i40.toNat default)))=false=>iok (i40-1) uu0)) (ai (fun k7:(decide (i40>0))=true=>have _:=Qc k7; (fun k6:(!(F29 (table.getD i40.toNat default)))=false=>(uu0:ib (i40-1) table))) (ai (fun k9:(decide (i40>0))=true=>have _:=Qc k9; (fun k8:(!(F29 (table.getD i40.toNat default)))=false=>(uu0:ib i40 table))) (ai (fun k11:(decide (i40>0))=true=>have _:=Qc k11; (fun k10:(!(F29 (table.getD i40.toNat default)))=false=>trivial)) (ai (fun k13:(decide (i40>0))=true=>have _:=Qc k13; (fun k12:(!(F29 (table.getD i40.toNat default)))=false=>(Imps.refl (eHelloEntry (table.getD (i40-1).toNat default))))) (ai (fun k15:(decide (i40>0))=true=>have _:=Qc k15; (fun k14:(!(F29 (table.getD i40.toNat default)))=false=>(Imps.refl (eHelloEntry (table.getD i40.toNat default))))) (ifb (bif (!(F29 (table.getD i40.toNat default))) then true else (bif decide (i40>0) then (!(F30 (table.getD (i40-1).toNat default) (table.getD i40.toNat default))) else false)) (fun h16=>fiB false (F8 table) (condF h1 (finR (runL_ret hI0 (condT h3 (condT h16 rfl))) rfl))) (fun h16=>ai (iok (i40+1) uu0) (bk8_0 table i0 m0 (i40+1) hl0 (runL_next hI0 (condT h3 (condF h16 rfl))) uu10))))))))))) (fun h3 _=>have hD0_17:lX8_0 table=Lp.done i40:=runL_done hI0 (condF h3 rfl); fiB true (F8 table) (condF h1 (finD hD0_17 rfl)))) (i0.1-1) i0.2 (un8_0 table i0 hi0)))) uu3
def F28 (e1:Ue):NetPrefix :=
 (⟨e1.Addr,e1.Len⟩:NetPrefix)
theorem fi28 (e1:Ue) (r:NetPrefix) (hF:r=(F28 e1)):((.int .i64 r.Addr:Value)=.int .i64 (F28 e1).Addr)/\((.int .i64 r.Len:Value)=.int .i64 (F28 e1).Len)/\True:=by cases hF; exact ⟨rfl,rfl,trivial⟩
def S28 (e1:Ue):Spec:=⟨[.r (.g (eHelloEntry e1))],.ag [.v (vI (F28 e1).Addr),.v (vI (F28 e1).Len)],True⟩
theorem ok28 (e1:Ue):(S28 e1).ok Try.prog 28 :=
 fnG_ok mixed (fn:=Try.f28) (ct:=.seq .no (.seq .no .no)) Try.func28 (fun (_:True)=>fi28 e1 (⟨e1.Addr,e1.Len⟩:NetPrefix) rfl) uu3
def F31 (n:Int) (low:Int) (high:Int):Bool :=
 (bif decide (low<=n) then decide (n<=high) else false)
def S31 (R:Bool) (n:Int) (low:Int) (high:Int):Spec:=⟨[.r (.c (.v (vI n))),.r (.c (.v (vI low))),.r (.c (.v (vI high)))],.v (.bool R),True⟩
theorem ok31 (n:Int) (low:Int) (high:Int):(S31 (F31 n low high) n low high).ok Try.prog 31 :=
 fnG_ok mixed (fn:=Try.f31) (ct:=.seq .no (.seq .no .no)) Try.func31 (fun (_:True)=>fiB (bif decide (low<=n) then decide (n<=high) else false) (F31 n low high) rfl) uu3
theorem as31 (n:Int) (low:Int) (high:Int):F31 n low high=(decide (low<=n/\n<=high)):=by
 simp only [F31,Bool.decide_and,bandd]
theorem oa31 (n:Int) (low:Int) (high:Int):(S31 (decide (low<=n/\n<=high)) n low high).ok Try.prog 31:=by
 intro hp; have h:=ok31 n low high hp; rw [as31 n low high] at h; exact h
theorem kc31a (n:Int) (low:Int) (high:Int) {K_:Prop} (k_:K_):(True)/\(Imp (.v (vI n)) (.v (vI n)))/\(Imp (.v (vI low)) (.v (vI low)))/\(Imp (.v (vI high)) (.v (vI high)))/\K_:=⟨trivial,Imp.refl _,Imp.refl _,Imp.refl _,k_⟩
abbrev kh31a (n:Int) (low:Int) (high:Int):Hint true Try.prog:=.call 31 (S31 (decide (low<=n/\n<=high)) n low high) (oa31 n low high) none
theorem kg31a {K_:Prop} (c_ b_:Bool) (n:Int) (low:Int) (high:Int) (k_:K_):(c_=b_->True)/\(c_=b_->Imp (.v (vI n)) (.v (vI n)))/\(c_=b_->Imp (.v (vI low)) (.v (vI low)))/\(c_=b_->Imp (.v (vI high)) (.v (vI high)))/\K_:=⟨fun _=>trivial,fun _=>Imp.refl _,fun _=>Imp.refl _,fun _=>Imp.refl _,k_⟩
theorem kg62a {K_:Prop} (c_ b_:Bool) (p:NetPrefix) (p_:c_=b_->0<=p.Len/\p.Len<=16) (k_:(1<=(szP p.Len))->K_):(c_=b_->0<=p.Len/\p.Len<=16)/\(c_=b_->Imps (eNetPrefix p) (eNetPrefix p))/\K_:=⟨p_,fun _=>Imps.refl _,k_ (szP_pos' p)⟩
abbrev kh62a (p:NetPrefix):Hint true Try.prog:=.call 62 (T62 (szP p.Len) p) (oa62 p) none
def F48 (p:NetPrefix):Bool :=
 (bif (bif (decide (0<=p.Len/\p.Len<=16)) then (decide (0<=p.Addr/\p.Addr<=65535)) else false) then ((p.Addr.tmod (szP p.Len))==0) else false)
def S48 (p:NetPrefix):Spec:=⟨[.r (.g (eNetPrefix p))],.v (.bool (F48 p)),True⟩
theorem ok48 (p:NetPrefix):(S48 p).ok Try.prog 48 :=
 fnG_ok mixed (fn:=Try.f48) (ct:=.seq .no (.seq (.reg [(2,kh31a p.Len 0 16),(6,kh31a p.Addr 0 65535),(12,kh62a p)]) .no)) Try.func48 (fun (_:True)=>kc31a p.Len 0 16 (kg31a (decide (0<=p.Len/\p.Len<=16)) true p.Addr 0 65535 (kg62a (bif (decide (0<=p.Len/\p.Len<=16)) then (decide (0<=p.Addr/\p.Addr<=65535)) else false) true p (fun k3=>have _:=Qc (andT1 k3); have _:=Qc (andT2 k3); ⟨uu0,uu0⟩) (fun gv2=>ai (fun k4:(bif (decide (0<=p.Len/\p.Len<=16)) then (decide (0<=p.Addr/\p.Addr<=65535)) else false)=true=>have _:=Qc (andT1 k4); have _:=Qc (andT2 k4); (uu0:¬ (szP p.Len)=0)) (fiB (bif (bif (decide (0<=p.Len/\p.Len<=16)) then (decide (0<=p.Addr/\p.Addr<=65535)) else false) then ((p.Addr.tmod (szP p.Len))==0) else false) (F48 p) rfl))))) uu3
theorem kc28 (e1:Ue) {K_:Prop} (k_:K_):(True)/\(Imps (eHelloEntry e1) (eHelloEntry e1))/\K_:=⟨trivial,Imps.refl _,k_⟩
abbrev kh28 (e1:Ue):Hint true Try.prog:=.call 28 (S28 e1) (ok28 e1) none
theorem kc48 (p:NetPrefix) {K_:Prop} (k_:K_):(True)/\(Imps (eNetPrefix p) (eNetPrefix p))/\K_:=⟨trivial,Imps.refl _,k_⟩
abbrev kh48 (p:NetPrefix):Hint true Try.prog:=.call 48 (S48 p) (ok48 p) none
def F26 (e1:Ue):Bool :=
 (bif (bif (F48 (F28 e1)) then (decide (1<=e1.Cost/\e1.Cost<=255)) else false) then (decide (0<=e1.Label/\e1.Label<=1000)) else false)
def S26 (e1:Ue):Spec:=⟨[.r (.g (eHelloEntry e1))],.v (.bool (F26 e1)),True⟩
theorem ok26 (e1:Ue):(S26 e1).ok Try.prog 26 :=
 fnG_ok mixed (fn:=Try.f26) (ct:=.seq .no (.seq (.reg [(1,kh28 e1),(2,kh48 (F28 e1)),(6,kh31a e1.Cost 1 255),(11,kh31a e1.Label 0 1000)]) .no)) Try.func26 (fun (_:True)=>kc28 e1 (kc48 (F28 e1) (kg31a (F48 (F28 e1)) true e1.Cost 1 255 (kg31a (bif (F48 (F28 e1)) then (decide (1<=e1.Cost/\e1.Cost<=255)) else false) true e1.Label 0 1000 (fiB (bif (bif (F48 (F28 e1)) then (decide (1<=e1.Cost/\e1.Cost<=255)) else false) then (decide (0<=e1.Label/\e1.Label<=1000)) else false) (F26 e1) rfl))))) uu3
def F27 (p:NetPrefix) (q:NetPrefix):Int :=
 bif (p.Addr != q.Addr) then (IntKind.i64.wrap (p.Addr-q.Addr)) else (IntKind.i64.wrap (p.Len-q.Len))
def S27 (p:NetPrefix) (q:NetPrefix):Spec:=⟨[.r (.g (eNetPrefix p)),.r (.g (eNetPrefix q))],.v (vI (F27 p q)),True⟩
theorem ok27 (p:NetPrefix) (q:NetPrefix):(S27 p q).ok Try.prog 27 :=
 fnG_ok mixed (fn:=Try.f27) (ct:=.seq .no (.seq (.seq .no (.cond (.seq .no .no) .no)) (.seq .no .no))) Try.func27 (fun (_:True)=>ifn p.Addr q.Addr (fun h1 _=>fiI (IntKind.i64.wrap (p.Addr-q.Addr)) (F27 p q) (condT h1 rfl)) (fun h1 _=>fiI (IntKind.i64.wrap (p.Len-q.Len)) (F27 p q) (condF h1 rfl))) uu3
theorem kc26 (e1:Ue) {K_:Prop} (k_:K_):(True)/\(Imps (eHelloEntry e1) (eHelloEntry e1))/\K_:=⟨trivial,Imps.refl _,k_⟩
abbrev kh26 (e1:Ue):Hint true Try.prog:=.call 26 (S26 e1) (ok26 e1) none
abbrev kh27 (p:NetPrefix) (q:NetPrefix):Hint true Try.prog:=.call 27 (S27 p q) (ok27 p q) none
def F7_s0 (table:List Ue):Int->Lp Int Bool:=fun v7 =>
 bif (decide (v7<(table.length:Int))) then (bif (bif (!(F26 (table.getD v7.toNat default))) then true else (bif decide (v7>0) then decide ((F27 (F28 (table.getD (v7-1).toNat default)) (F28 (table.getD v7.toNat default)))>=0) else false)) then (.ret false) else (.next (v7+1))) else (.done v7)
def F7 (table:List Ue):Bool :=
 (runL (F7_s0 table) (((table.length:Int)-0).toNat+1) 0).fin (fun r=>r) (fun v7=>decide ((table.length:Int)<=8))
abbrev lN7_0 (table:List Ue):Nat×Int:=((((table.length:Int)-0).toNat+1),0)
abbrev lI7_0 (table:List Ue) (m39:Nat) (v7:Int):Prop:=Int.toNat ((table.length:Int)-v7)<m39/\(0:Int)<=v7
abbrev lX7_0 (table:List Ue):Lp Int Bool:=LpX (F7_s0 table) (lN7_0 table)
abbrev lJ7_0 (table:List Ue) (i:Nat×Int):Prop:=LpJ (F7_s0 table) (lN7_0 table) i (lI7_0 table i.1 i.2)
abbrev lH7_0 (table:List Ue) (i:Nat×Int) (m39:Nat) (v7:Int):Prop:=LpH (F7_s0 table) (lN7_0 table) i m39 v7 (lI7_0 table (m39+1) v7)
abbrev lE7_0 (table:List Ue) (v7:Int) (v7_:Int) (K39:Prop):Prop:=(Rf (.int .i64 (table.length:Int)))/\((.int .i64 v7:Value)=.int .i64 v7_)/\(Im (.l 4 eHelloEntry table))/\K39
theorem un7_0 (table:List Ue) (i:Nat×Int) (h:lJ7_0 table i):lH7_0 table i (i.1-1) i.2:=⟨hd1 h.1 h.2.1,hd3 h.2.1,hd2 h.2.1,h.2.2⟩
theorem bk7_0 (table:List Ue) (i:Nat×Int) (m39:Nat) (v7:Int) (hl:m39<i.1) (e:runL (F7_s0 table) m39 v7=lX7_0 table) (h:lI7_0 table m39 v7):∃ j:Nat×Int,lE7_0 table v7 j.2 (lJ7_0 table j/\j.1<i.1):=⟨(m39,v7),rfl,rfl,Imp.refl _,⟨e,h⟩,hl⟩
theorem en7_0 (table:List Ue) (h:(0:Int)<=0):lE7_0 table 0 0 (lJ7_0 table (lN7_0 table)):=⟨rfl,rfl,Imp.refl _,rfl,Qr _,h⟩
def S7 (table:List Ue):Spec:=⟨[.r (.c (.l 4 eHelloEntry table))],.v (.bool (F7 table)),True⟩
abbrev q7_1 (table:List Ue) (v7:Int):=(table.getD v7.toNat default)
theorem ok7 (table:List Ue):(S7 table).ok Try.prog 7 :=
 fnG_ok mixed (fn:=Try.f7) (ct:=.seqk [(0,0)] .no (.seq (.seqk [(0,0),(5,0)] .no (.blk (.loop (ι:=Nat×Int) (fun i=>(fun (v7:Int)=>(⟨[(0,some (.h 0 0)),(5,some (.h 0 0)),(6,some (.v (vI (table.length:Int)))),(7,some (.v (vI v7)))],[(0,some (.shr none (.l 4 eHelloEntry table)))],1⟩:St)) i.2) (lJ7_0 table) (fun i=>i.1) (lN7_0 table) (fun i=>(fun (v7:Int)=>(.seq .no (.seq (.cond .no .no) (.seq (.blk (.seq .no (.seq (.reg [(1,kh26 (q7_1 table v7)),(9,.bnd),(12,kh28 (table.getD (v7-1).toNat default)),(14,kh28 (q7_1 table v7)),(15,kh27 (F28 (table.getD (v7-1).toNat default)) (F28 (q7_1 table v7)))]) (.cond (.seq .no .no) .no)))) (.reg [(0,.bnd)]))))) i.2)))) (.seq .no .no))) Try.func7 (fun (_:True)=>kn table fun _=>kn table fun _=>kn table fun _=>ai (en7_0 table uu0) (fun (i0:Nat×Int) (hi0:lJ7_0 table i0)=>(fun (m0:Nat) (v7:Int) (hh0:lH7_0 table i0 m0 v7)=>have hI0:=hh0.1; have hl0:=hh0.2.1; have _:=hh0.2.2.1; have _:=hh0.2.2.2; ifd (v7<(table.length:Int)) (fun h2 _=>ai (uu0:ib v7 table) (kc26 (q7_1 table v7) (ai (fun k4:(decide (v7>0))=true=>have _:=Qc k4; (fun k3:(!(F26 (q7_1 table v7)))=false=>iok (v7-1) uu0)) (ai (fun k6:(decide (v7>0))=true=>have _:=Qc k6; (fun k5:(!(F26 (q7_1 table v7)))=false=>(uu0:ib (v7-1) table))) (ai (fun k8:(decide (v7>0))=true=>have _:=Qc k8; (fun k7:(!(F26 (q7_1 table v7)))=false=>trivial)) (ai (fun k10:(decide (v7>0))=true=>have _:=Qc k10; (fun k9:(!(F26 (q7_1 table v7)))=false=>(Imps.refl (eHelloEntry (table.getD (v7-1).toNat default))))) (ai (fun k12:(decide (v7>0))=true=>have _:=Qc k12; (fun k11:(!(F26 (q7_1 table v7)))=false=>trivial)) (ai (fun k14:(decide (v7>0))=true=>have _:=Qc k14; (fun k13:(!(F26 (q7_1 table v7)))=false=>(Imps.refl (eHelloEntry (q7_1 table v7))))) (ai (fun k16:(decide (v7>0))=true=>have _:=Qc k16; (fun k15:(!(F26 (q7_1 table v7)))=false=>trivial)) (ai (fun k18:(decide (v7>0))=true=>have _:=Qc k18; (fun k17:(!(F26 (q7_1 table v7)))=false=>(Imps.refl (eNetPrefix (F28 (table.getD (v7-1).toNat default)))))) (ai (fun k20:(decide (v7>0))=true=>have _:=Qc k20; (fun k19:(!(F26 (q7_1 table v7)))=false=>(Imps.refl (eNetPrefix (F28 (q7_1 table v7)))))) (ifb (bif (!(F26 (q7_1 table v7))) then true else (bif decide (v7>0) then decide ((F27 (F28 (table.getD (v7-1).toNat default)) (F28 (q7_1 table v7)))>=0) else false)) (fun h21=>fiB false (F7 table) (finR (runL_ret hI0 (condT h2 (condT h21 rfl))) rfl)) (fun h21=>ai (iok (v7+1) uu0) (bk7_0 table i0 m0 (v7+1) hl0 (runL_next hI0 (condT h2 (condF h21 rfl))) uu10)))))))))))))) (fun h2 _=>have hD0_22:lX7_0 table=Lp.done v7:=runL_done hI0 (condF h2 rfl); fiB (decide ((table.length:Int)<=8)) (F7 table) (finD hD0_22 rfl))) (i0.1-1) i0.2 (un7_0 table i0 hi0))) uu3
structure HelloKey where
 Id:Int
 Secret:Int
 deriving DecidableEq,Inhabited
def eHelloKey (x:HelloKey):List Dat:=[.v (vI x.Id),.v (vI x.Secret)]
def F10_s0 (keys:List HelloKey):Int->Lp Int Bool:=fun i40 =>
 bif (decide (i40<(keys.length:Int))) then (bif (bif (bif (!(decide (1<=(keys.getD i40.toNat default).Id/\(keys.getD i40.toNat default).Id<=9))) then true else (!(decide (1<=(keys.getD i40.toNat default).Secret/\(keys.getD i40.toNat default).Secret<=2147483646)))) then true else (bif decide (i40>0) then decide ((keys.getD (i40-1).toNat default).Id>=(keys.getD i40.toNat default).Id) else false)) then (.ret false) else (.next (i40+1))) else (.done i40)
def F10 (keys:List HelloKey):Bool :=
 bif (!(decide (1<=(keys.length:Int)/\(keys.length:Int)<=3))) then false else ((runL (F10_s0 keys) (((keys.length:Int)-0).toNat+1) 0).fin (fun r=>r) (fun i40=>true))
abbrev lN10_0 (keys:List HelloKey):Nat×Int:=((((keys.length:Int)-0).toNat+1),0)
abbrev lI10_0 (keys:List HelloKey) (m39:Nat) (i40:Int):Prop:=Int.toNat ((keys.length:Int)-i40)<m39/\(0:Int)<=i40
abbrev lX10_0 (keys:List HelloKey):Lp Int Bool:=LpX (F10_s0 keys) (lN10_0 keys)
abbrev lJ10_0 (keys:List HelloKey) (i:Nat×Int):Prop:=LpJ (F10_s0 keys) (lN10_0 keys) i (lI10_0 keys i.1 i.2)
abbrev lH10_0 (keys:List HelloKey) (i:Nat×Int) (m39:Nat) (i40:Int):Prop:=LpH (F10_s0 keys) (lN10_0 keys) i m39 i40 (lI10_0 keys (m39+1) i40)
abbrev lE10_0 (keys:List HelloKey) (i40:Int) (i40_:Int) (K39:Prop):Prop:=((.int .i64 i40:Value)=.int .i64 i40_)/\(Im (.l 2 eHelloKey keys))/\K39
theorem un10_0 (keys:List HelloKey) (i:Nat×Int) (h:lJ10_0 keys i):lH10_0 keys i (i.1-1) i.2:=⟨hd1 h.1 h.2.1,hd3 h.2.1,hd2 h.2.1,h.2.2⟩
theorem bk10_0 (keys:List HelloKey) (i:Nat×Int) (m39:Nat) (i40:Int) (hl:m39<i.1) (e:runL (F10_s0 keys) m39 i40=lX10_0 keys) (h:lI10_0 keys m39 i40):∃ j:Nat×Int,lE10_0 keys i40 j.2 (lJ10_0 keys j/\j.1<i.1):=⟨(m39,i40),rfl,Imp.refl _,⟨e,h⟩,hl⟩
theorem en10_0 (keys:List HelloKey) (h:(0:Int)<=0):lE10_0 keys 0 0 (lJ10_0 keys (lN10_0 keys)):=⟨rfl,Imp.refl _,rfl,Qr _,h⟩
def S10 (keys:List HelloKey):Spec:=⟨[.r (.c (.l 2 eHelloKey keys))],.v (.bool (F10 keys)),True⟩
abbrev q10_1 (keys:List HelloKey) (i40:Int):=(keys.getD i40.toNat default)
theorem ok10 (keys:List HelloKey):(S10 keys).ok Try.prog 10 :=
 fnG_ok mixed (fn:=Try.f10) (ct:=.seqk [(0,0)] .no (.seq (.seq (.reg [(2,kh32a (keys.length:Int) 1 3)]) (.cond (.seq .no .no) .no)) (.seq (.seqk [(0,0)] .no (.blk (.loop (ι:=Nat×Int) (fun i=>(fun (i40:Int)=>(⟨[(0,some (.h 0 0)),(3,some (.v (vI i40)))],[(0,some (.shr none (.l 2 eHelloKey keys)))],1⟩:St)) i.2) (lJ10_0 keys) (fun i=>i.1) (lN10_0 keys) (fun i=>(fun (i40:Int)=>(.seq (.seq .no (.cond .no .no)) (.seq (.blk (.seq (.reg [(5,kh32a (q10_1 keys i40).Id 1 9),(13,kh32a (q10_1 keys i40).Secret 1 2147483646),(22,.bnd)]) (.cond (.seq .no .no) .no))) (.reg [(1,.bnd)])))) i.2)))) (.seq .no .no)))) Try.func10 (fun (_:True)=>kn keys fun _=>kc32a (keys.length:Int) 1 3 (ifb (!(decide (1<=(keys.length:Int)/\(keys.length:Int)<=3))) (fun h1=>have _:=Re (notET h1); fiB false (F10 keys) (condT h1 rfl)) (fun h1=>have _:=Qc (notEF h1); kn keys fun _=>ai (en10_0 keys uu0) (fun (i0:Nat×Int) (hi0:lJ10_0 keys i0)=>(fun (m0:Nat) (i40:Int) (hh0:lH10_0 keys i0 m0 i40)=>have hI0:=hh0.1; have hl0:=hh0.2.1; have _:=hh0.2.2.1; have _:=hh0.2.2.2; ifd (i40<(keys.length:Int)) (fun h3 _=>ai (uu0:ib i40 keys) (kc32a (q10_1 keys i40).Id 1 9 (ai (fun k4:(!(decide (1<=(q10_1 keys i40).Id/\(q10_1 keys i40).Id<=9)))=false=>have _:=Qc (notEF k4); (uu0:ib i40 keys)) (kg32a (!(decide (1<=(q10_1 keys i40).Id/\(q10_1 keys i40).Id<=9))) false (q10_1 keys i40).Secret 1 2147483646 (ai (fun k7:(decide (i40>0))=true=>have _:=Qc k7; (fun k6:(bif (!(decide (1<=(q10_1 keys i40).Id/\(q10_1 keys i40).Id<=9))) then true else (!(decide (1<=(q10_1 keys i40).Secret/\(q10_1 keys i40).Secret<=2147483646))))=false=>have _:=Qc (notEF (orF1 k6)); have _:=Qc (notEF (orF2 k6)); iok (i40-1) uu0)) (ai (fun k9:(decide (i40>0))=true=>have _:=Qc k9; (fun k8:(bif (!(decide (1<=(q10_1 keys i40).Id/\(q10_1 keys i40).Id<=9))) then true else (!(decide (1<=(q10_1 keys i40).Secret/\(q10_1 keys i40).Secret<=2147483646))))=false=>have _:=Qc (notEF (orF1 k8)); have _:=Qc (notEF (orF2 k8)); (uu0:ib (i40-1) keys))) (ai (fun k11:(decide (i40>0))=true=>have _:=Qc k11; (fun k10:(bif (!(decide (1<=(q10_1 keys i40).Id/\(q10_1 keys i40).Id<=9))) then true else (!(decide (1<=(q10_1 keys i40).Secret/\(q10_1 keys i40).Secret<=2147483646))))=false=>have _:=Qc (notEF (orF1 k10)); have _:=Qc (notEF (orF2 k10)); (uu0:ib i40 keys))) (ifb (bif (bif (!(decide (1<=(q10_1 keys i40).Id/\(q10_1 keys i40).Id<=9))) then true else (!(decide (1<=(q10_1 keys i40).Secret/\(q10_1 keys i40).Secret<=2147483646)))) then true else (bif decide (i40>0) then decide ((keys.getD (i40-1).toNat default).Id>=(q10_1 keys i40).Id) else false)) (fun h12=>fiB false (F10 keys) (condF h1 (finR (runL_ret hI0 (condT h3 (condT h12 rfl))) rfl))) (fun h12=>have _:=Qc (notEF (orF1 (orF1 h12))); have _:=Qc (notEF (orF2 (orF1 h12))); ai (iok (i40+1) uu0) (bk10_0 keys i0 m0 (i40+1) hl0 (runL_next hI0 (condT h3 (condF h12 rfl))) uu10)))))))))) (fun h3 _=>have hD0_13:lX10_0 keys=Lp.done i40:=runL_done hI0 (condF h3 rfl); fiB true (F10 keys) (condF h1 (finD hD0_13 rfl)))) (i0.1-1) i0.2 (un10_0 keys i0 hi0))))) uu3
def F9_s0 (keys:List HelloKey):Int->Lp Int Bool:=fun v7 =>
 bif (decide (v7<(keys.length:Int))) then (bif (bif (bif (!(decide (1<=(keys.getD v7.toNat default).Id/\(keys.getD v7.toNat default).Id<=9))) then true else (!(decide (1<=(keys.getD v7.toNat default).Secret/\(keys.getD v7.toNat default).Secret<=2147483646)))) then true else (bif decide (v7>0) then decide ((keys.getD (v7-1).toNat default).Id>=(keys.getD v7.toNat default).Id) else false)) then (.ret false) else (.next (v7+1))) else (.done v7)
def F9 (keys:List HelloKey):Bool :=
 (runL (F9_s0 keys) (((keys.length:Int)-0).toNat+1) 0).fin (fun r=>r) (fun v7=>(decide (1<=(keys.length:Int)/\(keys.length:Int)<=3)))
abbrev lN9_0 (keys:List HelloKey):Nat×Int:=((((keys.length:Int)-0).toNat+1),0)
abbrev lI9_0 (keys:List HelloKey) (m39:Nat) (v7:Int):Prop:=Int.toNat ((keys.length:Int)-v7)<m39/\(0:Int)<=v7
abbrev lX9_0 (keys:List HelloKey):Lp Int Bool:=LpX (F9_s0 keys) (lN9_0 keys)
abbrev lJ9_0 (keys:List HelloKey) (i:Nat×Int):Prop:=LpJ (F9_s0 keys) (lN9_0 keys) i (lI9_0 keys i.1 i.2)
abbrev lH9_0 (keys:List HelloKey) (i:Nat×Int) (m39:Nat) (v7:Int):Prop:=LpH (F9_s0 keys) (lN9_0 keys) i m39 v7 (lI9_0 keys (m39+1) v7)
abbrev lE9_0 (keys:List HelloKey) (v7:Int) (v7_:Int) (K39:Prop):Prop:=(Rf (.int .i64 (keys.length:Int)))/\((.int .i64 v7:Value)=.int .i64 v7_)/\(Im (.l 2 eHelloKey keys))/\K39
theorem un9_0 (keys:List HelloKey) (i:Nat×Int) (h:lJ9_0 keys i):lH9_0 keys i (i.1-1) i.2:=⟨hd1 h.1 h.2.1,hd3 h.2.1,hd2 h.2.1,h.2.2⟩
theorem bk9_0 (keys:List HelloKey) (i:Nat×Int) (m39:Nat) (v7:Int) (hl:m39<i.1) (e:runL (F9_s0 keys) m39 v7=lX9_0 keys) (h:lI9_0 keys m39 v7):∃ j:Nat×Int,lE9_0 keys v7 j.2 (lJ9_0 keys j/\j.1<i.1):=⟨(m39,v7),rfl,rfl,Imp.refl _,⟨e,h⟩,hl⟩
theorem en9_0 (keys:List HelloKey) (h:(0:Int)<=0):lE9_0 keys 0 0 (lJ9_0 keys (lN9_0 keys)):=⟨rfl,rfl,Imp.refl _,rfl,Qr _,h⟩
def S9 (keys:List HelloKey):Spec:=⟨[.r (.c (.l 2 eHelloKey keys))],.v (.bool (F9 keys)),True⟩
abbrev q9_1 (keys:List HelloKey) (v7:Int):=(keys.getD v7.toNat default)
theorem ok9 (keys:List HelloKey):(S9 keys).ok Try.prog 9 :=
 fnG_ok mixed (fn:=Try.f9) (ct:=.seqk [(0,0)] .no (.seq (.seqk [(0,0),(5,0)] .no (.blk (.loop (ι:=Nat×Int) (fun i=>(fun (v7:Int)=>(⟨[(0,some (.h 0 0)),(5,some (.h 0 0)),(6,some (.v (vI (keys.length:Int)))),(7,some (.v (vI v7)))],[(0,some (.shr none (.l 2 eHelloKey keys)))],1⟩:St)) i.2) (lJ9_0 keys) (fun i=>i.1) (lN9_0 keys) (fun i=>(fun (v7:Int)=>(.seq .no (.seq (.cond .no .no) (.seq (.blk (.seq .no (.seq (.reg [(2,kh31a (q9_1 keys v7).Id 1 9),(7,kh31a (q9_1 keys v7).Secret 1 2147483646),(16,.bnd)]) (.cond (.seq .no .no) .no)))) (.reg [(0,.bnd)]))))) i.2)))) (.seq (.reg [(2,kh31a (keys.length:Int) 1 3)]) .no))) Try.func9 (fun (_:True)=>kn keys fun _=>kn keys fun _=>kn keys fun _=>ai (en9_0 keys uu0) (fun (i0:Nat×Int) (hi0:lJ9_0 keys i0)=>(fun (m0:Nat) (v7:Int) (hh0:lH9_0 keys i0 m0 v7)=>have hI0:=hh0.1; have hl0:=hh0.2.1; have _:=hh0.2.2.1; have _:=hh0.2.2.2; ifd (v7<(keys.length:Int)) (fun h2 _=>ai (uu0:ib v7 keys) (kc31a (q9_1 keys v7).Id 1 9 (kg31a (!(decide (1<=(q9_1 keys v7).Id/\(q9_1 keys v7).Id<=9))) false (q9_1 keys v7).Secret 1 2147483646 (ai (fun k5:(decide (v7>0))=true=>have _:=Qc k5; (fun k4:(bif (!(decide (1<=(q9_1 keys v7).Id/\(q9_1 keys v7).Id<=9))) then true else (!(decide (1<=(q9_1 keys v7).Secret/\(q9_1 keys v7).Secret<=2147483646))))=false=>have _:=Qc (notEF (orF1 k4)); have _:=Qc (notEF (orF2 k4)); iok (v7-1) uu0)) (ai (fun k7:(decide (v7>0))=true=>have _:=Qc k7; (fun k6:(bif (!(decide (1<=(q9_1 keys v7).Id/\(q9_1 keys v7).Id<=9))) then true else (!(decide (1<=(q9_1 keys v7).Secret/\(q9_1 keys v7).Secret<=2147483646))))=false=>have _:=Qc (notEF (orF1 k6)); have _:=Qc (notEF (orF2 k6)); (uu0:ib (v7-1) keys))) (ifb (bif (bif (!(decide (1<=(q9_1 keys v7).Id/\(q9_1 keys v7).Id<=9))) then true else (!(decide (1<=(q9_1 keys v7).Secret/\(q9_1 keys v7).Secret<=2147483646)))) then true else (bif decide (v7>0) then decide ((keys.getD (v7-1).toNat default).Id>=(q9_1 keys v7).Id) else false)) (fun h8=>fiB false (F9 keys) (finR (runL_ret hI0 (condT h2 (condT h8 rfl))) rfl)) (fun h8=>have _:=Qc (notEF (orF1 (orF1 h8))); have _:=Qc (notEF (orF2 (orF1 h8))); ai (iok (v7+1) uu0) (bk9_0 keys i0 m0 (v7+1) hl0 (runL_next hI0 (condT h2 (condF h8 rfl))) uu10)))))))) (fun h2 _=>have hD0_9:lX9_0 keys=Lp.done v7:=runL_done hI0 (condF h2 rfl); kc31a (keys.length:Int) 1 3 (fiB (decide (1<=(keys.length:Int)/\(keys.length:Int)<=3)) (F9 keys) (finD hD0_9 rfl)))) (i0.1-1) i0.2 (un9_0 keys i0 hi0))) uu3
structure HelloChange where
 Kind:Int
 Entry:Ue
 deriving DecidableEq,Inhabited
def eHelloChange (x:HelloChange):List Dat:=[.v (vI x.Kind),.v (vI x.Entry.Addr),.v (vI x.Entry.Len),.v (vI x.Entry.Cost),.v (vI x.Entry.Label)]
theorem eqlT28 (x0 y0:Int) (x1 y1:Int) (x2 y2:Int) (x3 y3:Int) (p q:Operand) (w:World):(do eqGuard .eql 28 p q (.agg #[.int .i64 x0,.int .i64 x1,.int .i64 x2,.int .i64 x3]) (.agg #[.int .i64 y0,.int .i64 y1,.int .i64 y2,.int .i64 y3]); binOp .eql 28 (.agg #[.int .i64 x0,.int .i64 x1,.int .i64 x2,.int .i64 x3]) (.agg #[.int .i64 y0,.int .i64 y1,.int .i64 y2,.int .i64 y3])).run Try.prog w=.ok (.bool ((x0==y0)&&((x1==y1)&&((x2==y2)&&(x3==y3))))) w:=by
 by_cases h0:x0=y0
 case neg=>simp [go_sem,h0]
 by_cases h1:x1=y1
 case neg=>simp [go_sem,h0,h1]
 by_cases h2:x2=y2
 case neg=>simp [go_sem,h0,h1,h2]
 by_cases h3:x3=y3
 case neg=>simp [go_sem,h0,h1,h2,h3]
 simp [go_sem,h0,h1,h2,h3]
def F34 (c:HelloChange):Bool :=
 bif (c.Kind==0) then (bif (c.Kind==0) then ((c.Entry.Addr==0)&&((c.Entry.Len==0)&&((c.Entry.Cost==0)&&(c.Entry.Label==0)))) else (bif (c.Kind==1) then (F29 c.Entry) else (bif (c.Kind==2) then (bif (bif (F49 c.Entry) then (c.Entry.Cost==0) else false) then (c.Entry.Label==0) else false) else false))) else (bif (c.Kind==3) then ((c.Entry.Addr==0)&&((c.Entry.Len==0)&&((c.Entry.Cost==0)&&(c.Entry.Label==0)))) else (bif (c.Kind==1) then (F29 c.Entry) else (bif (c.Kind==2) then (bif (bif (F49 c.Entry) then (c.Entry.Cost==0) else false) then (c.Entry.Label==0) else false) else false)))
def S34 (c:HelloChange):Spec:=⟨[.r (.g (eHelloChange c))],.v (.bool (F34 c)),True⟩
theorem ok34 (c:HelloChange):(S34 c).ok Try.prog 34 :=
 fnG_ok mixed (fn:=Try.f34) (ct:=.seq .no (.seq (.seq .no (.blk (.seq (.seq .no (.cond .no .no)) (.cond (.seq (.reg [(3,.bin .eql 28 (.agg #[.int .i64 c.Entry.Addr,.int .i64 c.Entry.Len,.int .i64 c.Entry.Cost,.int .i64 c.Entry.Label]) (.agg #[.int .i64 0,.int .i64 0,.int .i64 0,.int .i64 0]) (.bool ((c.Entry.Addr==0)&&((c.Entry.Len==0)&&((c.Entry.Cost==0)&&(c.Entry.Label==0))))) rfl (eqlT28 c.Entry.Addr 0 c.Entry.Len 0 c.Entry.Cost 0 c.Entry.Label 0))]) .no) (.seq .no (.cond (.seq (.reg [(2,kh29 c.Entry)]) .no) (.seq .no (.cond (.seq (.reg [(2,kh49 c.Entry)]) .no) .no)))))))) (.seq .no .no))) Try.func34 (fun (_:True)=>ife c.Kind 0 (fun h1 _=>ife c.Kind 0 (fun h2 _=>ai (Eq.refl (.agg #[.int .i64 c.Entry.Addr,.int .i64 c.Entry.Len,.int .i64 c.Entry.Cost,.int .i64 c.Entry.Label]:Value)) (ai (Eq.refl (.agg #[.int .i64 0,.int .i64 0,.int .i64 0,.int .i64 0]:Value)) (fiB ((c.Entry.Addr==0)&&((c.Entry.Len==0)&&((c.Entry.Cost==0)&&(c.Entry.Label==0)))) (F34 c) (condT h1 (condT h2 rfl))))) (fun h2 _=>ife c.Kind 1 (fun h3 _=>kc29 c.Entry (fiB (F29 c.Entry) (F34 c) (condT h1 (condF h2 (condT h3 rfl))))) (fun h3 _=>ife c.Kind 2 (fun h4 _=>kc49 c.Entry (fiB (bif (bif (F49 c.Entry) then (c.Entry.Cost==0) else false) then (c.Entry.Label==0) else false) (F34 c) (condT h1 (condF h2 (condF h3 (condT h4 rfl)))))) (fun h4 _=>fiB false (F34 c) (condT h1 (condF h2 (condF h3 (condF h4 rfl)))))))) (fun h1 _=>ife c.Kind 3 (fun h5 _=>ai (Eq.refl (.agg #[.int .i64 c.Entry.Addr,.int .i64 c.Entry.Len,.int .i64 c.Entry.Cost,.int .i64 c.Entry.Label]:Value)) (ai (Eq.refl (.agg #[.int .i64 0,.int .i64 0,.int .i64 0,.int .i64 0]:Value)) (fiB ((c.Entry.Addr==0)&&((c.Entry.Len==0)&&((c.Entry.Cost==0)&&(c.Entry.Label==0)))) (F34 c) (condF h1 (condT h5 rfl))))) (fun h5 _=>ife c.Kind 1 (fun h6 _=>kc29 c.Entry (fiB (F29 c.Entry) (F34 c) (condF h1 (condF h5 (condT h6 rfl))))) (fun h6 _=>ife c.Kind 2 (fun h7 _=>kc49 c.Entry (fiB (bif (bif (F49 c.Entry) then (c.Entry.Cost==0) else false) then (c.Entry.Label==0) else false) (F34 c) (condF h1 (condF h5 (condF h6 (condT h7 rfl)))))) (fun h7 _=>fiB false (F34 c) (condF h1 (condF h5 (condF h6 (condF h7 rfl))))))))) uu3
def F33 (c:HelloChange):Bool :=
 bif (c.Kind==0) then (bif (c.Kind==0) then ((c.Entry.Addr==0)&&((c.Entry.Len==0)&&((c.Entry.Cost==0)&&(c.Entry.Label==0)))) else (bif (c.Kind==1) then (F26 c.Entry) else (bif (c.Kind==2) then (bif (bif (F48 (F28 c.Entry)) then (c.Entry.Cost==0) else false) then (c.Entry.Label==0) else false) else false))) else (bif (c.Kind==3) then ((c.Entry.Addr==0)&&((c.Entry.Len==0)&&((c.Entry.Cost==0)&&(c.Entry.Label==0)))) else (bif (c.Kind==1) then (F26 c.Entry) else (bif (c.Kind==2) then (bif (bif (F48 (F28 c.Entry)) then (c.Entry.Cost==0) else false) then (c.Entry.Label==0) else false) else false)))
def S33 (c:HelloChange):Spec:=⟨[.r (.g (eHelloChange c))],.v (.bool (F33 c)),True⟩
theorem ok33 (c:HelloChange):(S33 c).ok Try.prog 33 :=
 fnG_ok mixed (fn:=Try.f33) (ct:=.seq .no (.seq (.seq .no (.blk (.seq (.seq .no (.cond .no .no)) (.cond (.seq (.reg [(3,.bin .eql 28 (.agg #[.int .i64 c.Entry.Addr,.int .i64 c.Entry.Len,.int .i64 c.Entry.Cost,.int .i64 c.Entry.Label]) (.agg #[.int .i64 0,.int .i64 0,.int .i64 0,.int .i64 0]) (.bool ((c.Entry.Addr==0)&&((c.Entry.Len==0)&&((c.Entry.Cost==0)&&(c.Entry.Label==0))))) rfl (eqlT28 c.Entry.Addr 0 c.Entry.Len 0 c.Entry.Cost 0 c.Entry.Label 0))]) .no) (.seq .no (.cond (.seq (.reg [(2,kh26 c.Entry)]) .no) (.seq .no (.cond (.seq (.reg [(2,kh28 c.Entry),(3,kh48 (F28 c.Entry))]) .no) .no)))))))) (.seq .no .no))) Try.func33 (fun (_:True)=>ife c.Kind 0 (fun h1 _=>ife c.Kind 0 (fun h2 _=>ai (Eq.refl (.agg #[.int .i64 c.Entry.Addr,.int .i64 c.Entry.Len,.int .i64 c.Entry.Cost,.int .i64 c.Entry.Label]:Value)) (ai (Eq.refl (.agg #[.int .i64 0,.int .i64 0,.int .i64 0,.int .i64 0]:Value)) (fiB ((c.Entry.Addr==0)&&((c.Entry.Len==0)&&((c.Entry.Cost==0)&&(c.Entry.Label==0)))) (F33 c) (condT h1 (condT h2 rfl))))) (fun h2 _=>ife c.Kind 1 (fun h3 _=>kc26 c.Entry (fiB (F26 c.Entry) (F33 c) (condT h1 (condF h2 (condT h3 rfl))))) (fun h3 _=>ife c.Kind 2 (fun h4 _=>kc28 c.Entry (kc48 (F28 c.Entry) (fiB (bif (bif (F48 (F28 c.Entry)) then (c.Entry.Cost==0) else false) then (c.Entry.Label==0) else false) (F33 c) (condT h1 (condF h2 (condF h3 (condT h4 rfl))))))) (fun h4 _=>fiB false (F33 c) (condT h1 (condF h2 (condF h3 (condF h4 rfl)))))))) (fun h1 _=>ife c.Kind 3 (fun h5 _=>ai (Eq.refl (.agg #[.int .i64 c.Entry.Addr,.int .i64 c.Entry.Len,.int .i64 c.Entry.Cost,.int .i64 c.Entry.Label]:Value)) (ai (Eq.refl (.agg #[.int .i64 0,.int .i64 0,.int .i64 0,.int .i64 0]:Value)) (fiB ((c.Entry.Addr==0)&&((c.Entry.Len==0)&&((c.Entry.Cost==0)&&(c.Entry.Label==0)))) (F33 c) (condF h1 (condT h5 rfl))))) (fun h5 _=>ife c.Kind 1 (fun h6 _=>kc26 c.Entry (fiB (F26 c.Entry) (F33 c) (condF h1 (condF h5 (condT h6 rfl))))) (fun h6 _=>ife c.Kind 2 (fun h7 _=>kc28 c.Entry (kc48 (F28 c.Entry) (fiB (bif (bif (F48 (F28 c.Entry)) then (c.Entry.Cost==0) else false) then (c.Entry.Label==0) else false) (F33 c) (condF h1 (condF h5 (condF h6 (condT h7 rfl))))))) (fun h7 _=>fiB false (F33 c) (condF h1 (condF h5 (condF h6 (condF h7 rfl))))))))) uu3
def F97_s0 (table:List Ue) (e1:Ue):Int->Lp Int Int:=fun i40 =>
 bif (decide (i40<(table.length:Int))) then (bif (bif ((table.getD i40.toNat default).Addr==e1.Addr) then ((table.getD i40.toNat default).Len==e1.Len) else false) then (.ret i40) else (.next (i40+1))) else (.done i40)
def F97 (table:List Ue) (e1:Ue):Int :=
 (runL (F97_s0 table e1) (((table.length:Int)-0).toNat+1) 0).fin (fun r=>r) (fun i40=>(-1))
abbrev lN97_0 (table:List Ue):Nat×Int:=((((table.length:Int)-0).toNat+1),0)
abbrev lI97_0 (table:List Ue) (m39:Nat) (i40:Int):Prop:=Int.toNat ((table.length:Int)-i40)<m39/\(0:Int)<=i40
abbrev lX97_0 (table:List Ue) (e1:Ue):Lp Int Int:=LpX (F97_s0 table e1) (lN97_0 table)
abbrev lJ97_0 (table:List Ue) (e1:Ue) (i:Nat×Int):Prop:=LpJ (F97_s0 table e1) (lN97_0 table) i (lI97_0 table i.1 i.2)
abbrev lH97_0 (table:List Ue) (e1:Ue) (i:Nat×Int) (m39:Nat) (i40:Int):Prop:=LpH (F97_s0 table e1) (lN97_0 table) i m39 i40 (lI97_0 table (m39+1) i40)
abbrev lE97_0 (table:List Ue) (e1:Ue) (i40:Int) (i40_:Int) (K39:Prop):Prop:=((.int .i64 i40:Value)=.int .i64 i40_)/\(Im (.l 4 eHelloEntry table))/\(Rf (.int .i64 e1.Addr))/\(Rf (.int .i64 e1.Len))/\(Rf (.int .i64 e1.Cost))/\(Rf (.int .i64 e1.Label))/\K39
theorem un97_0 (table:List Ue) (e1:Ue) (i:Nat×Int) (h:lJ97_0 table e1 i):lH97_0 table e1 i (i.1-1) i.2:=⟨hd1 h.1 h.2.1,hd3 h.2.1,hd2 h.2.1,h.2.2⟩
theorem bk97_0 (table:List Ue) (e1:Ue) (i:Nat×Int) (m39:Nat) (i40:Int) (hl:m39<i.1) (e:runL (F97_s0 table e1) m39 i40=lX97_0 table e1) (h:lI97_0 table m39 i40):∃ j:Nat×Int,lE97_0 table e1 i40 j.2 (lJ97_0 table e1 j/\j.1<i.1):=⟨(m39,i40),rfl,Imp.refl _,rfl,rfl,rfl,rfl,⟨e,h⟩,hl⟩
theorem en97_0 (table:List Ue) (e1:Ue) (h:(0:Int)<=0):lE97_0 table e1 0 0 (lJ97_0 table e1 (lN97_0 table)):=⟨rfl,Imp.refl _,rfl,rfl,rfl,rfl,rfl,Qr _,h⟩
def S97 (table:List Ue) (e1:Ue):Spec:=⟨[.r (.c (.l 4 eHelloEntry table)),.r (.g (eHelloEntry e1))],.v (vI (F97 table e1)),True⟩
theorem ok97 (table:List Ue) (e1:Ue):(S97 table e1).ok Try.prog 97 :=
 fnG_ok mixed (fn:=Try.f97) (ct:=.seqk [(0,0)] .no (.seq (.seqk [(0,0)] .no (.blk (.loop (ι:=Nat×Int) (fun i=>(fun (i40:Int)=>(⟨[(0,some (.h 0 0)),(3,some (.p 1 0)),(5,some (.v (vI i40)))],[(0,some (.shr none (.l 4 eHelloEntry table))),(1,some (.box 28 [.v (vI e1.Addr),.v (vI e1.Len),.v (vI e1.Cost),.v (vI e1.Label)]))],2⟩:St)) i.2) (lJ97_0 table e1) (fun i=>i.1) (lN97_0 table) (fun i=>(fun (i40:Int)=>(.seq (.seq .no (.cond .no .no)) (.seq (.blk (.seq .no (.cond (.seq .no .no) .no))) (.reg [(1,.bnd)])))) i.2)))) (.seq .no .no))) Try.func97 (fun (_:True)=>kn table fun _=>kn table fun _=>ai (en97_0 table e1 uu0) (fun (i0:Nat×Int) (hi0:lJ97_0 table e1 i0)=>(fun (m0:Nat) (i40:Int) (hh0:lH97_0 table e1 i0 m0 i40)=>have hI0:=hh0.1; have hl0:=hh0.2.1; have _:=hh0.2.2.1; have _:=hh0.2.2.2; ifd (i40<(table.length:Int)) (fun h2 _=>ai (uu0:ib i40 table) (ai (fun k3:((table.getD i40.toNat default).Addr==e1.Addr)=true=>have _:=eq_of_beq k3; (uu0:ib i40 table)) (ifb (bif ((table.getD i40.toNat default).Addr==e1.Addr) then ((table.getD i40.toNat default).Len==e1.Len) else false) (fun h4=>have _:=eq_of_beq (andT1 h4); have _:=eq_of_beq (andT2 h4); fiI i40 (F97 table e1) (finR (runL_ret hI0 (condT h2 (condT h4 rfl))) rfl)) (fun h4=>ai (iok (i40+1) uu0) (bk97_0 table e1 i0 m0 (i40+1) hl0 (runL_next hI0 (condT h2 (condF h4 rfl))) uu10))))) (fun h2 _=>have hD0_5:lX97_0 table e1=Lp.done i40:=runL_done hI0 (condF h2 rfl); fiI (-1) (F97 table e1) (finD hD0_5 rfl))) (i0.1-1) i0.2 (un97_0 table e1 i0 hi0))) uu3
def F42 (list:List Ue):List Ue :=
 (([]:List Ue)++list)
theorem fi42 (list:List Ue) (r:List Ue) (hF:r=(F42 list)):(Imp (.l 4 eHelloEntry r) (.l 4 eHelloEntry (F42 list)))/\True:=by cases hF; exact ⟨Imp.refl _,trivial⟩
def S42 (R:List Ue) (list:List Ue):Spec:=⟨[.r (.c (.l 4 eHelloEntry list))],.ow (.l 4 eHelloEntry R),list.length<=1000000000⟩
theorem ok42 (list:List Ue):(S42 (F42 list) list).ok Try.prog 42 :=
 fnG_ok mixed (fn:=Try.f42) (ct:=.seqk [(0,0)] .no (.seq (.reg [(0,.dat (.l 4 eHelloEntry ([]:List Ue))),(2,.dat (.l 4 eHelloEntry (([]:List Ue)++list)))]) .no)) Try.func42 (fun (hpre0:list.length<=1000000000)=>kn list fun _=>ai (bokr 4 eHelloEntry ([]:List Ue) fun _=>rfl) (ai (AppL.mk eHelloEntry ([]:List Ue) list (Imp.refl (.l 4 eHelloEntry ([]:List Ue))) ir (fun y=>⟨rfl,fun e he=>by simp only [eHelloEntry,Qo,Rj,Sz] at he; rcases he with rfl | rfl | rfl | rfl <;> exact ⟨_,rfl⟩⟩):AppL (.l 4 eHelloEntry ([]:List Ue)) (.l 4 eHelloEntry list) 4 (.l 4 eHelloEntry (([]:List Ue)++list))) (ai (uu8:(([]:List Ue)++list).length*32<=140737488355328) (fi42 list (([]:List Ue)++list) rfl)))) uu3
theorem as42 (list:List Ue):F42 list=(list):=by
 rfl
theorem oa42 (list:List Ue):(S42 (list) list).ok Try.prog 42:=by
 intro hp; have h:=ok42 list hp; rw [as42 list] at h; exact h
theorem first_congr' {p q:Nat->Bool} {n:Nat} (h:∀ k,k<n->(∀ j,j<k->q j=false)->p k=q k):first p n=first q n:=by
 cases e:first q n with
 | none =>
  rw [first_none] at *
  exact fun k hk=>(h k hk fun j hj=>e j uu0).trans (e k hk)
 | some k =>
  rw [first_some] at *
  obtain ⟨h1,h2,h3⟩:=e
  exact ⟨h1,(h k h1 h3).trans h2,fun j hj=>(h j uu0 fun i hi=>h3 i uu0).trans (h3 j hj)⟩
theorem entryOk_eq (e:Ue):F26 e=F29 e:=rfl
theorem changeOk_eq (c:HelloChange):F33 c=F34 c:=rfl
def badKey (keys:List HelloKey) (k:Nat):Bool :=
 bif (bif (!(decide (1<=(keys.getD k default).Id/\(keys.getD k default).Id<=9))) then true else (!(decide (1<=(keys.getD k default).Secret/\(keys.getD k default).Secret<=2147483646)))) then true else (bif decide (0<k) then decide ((keys.getD (k-1) default).Id>=(keys.getD k default).Id) else false)
theorem keysOkS_eq (keys:List HelloKey):F10 keys=(decide (1<=(keys.length:Int)/\(keys.length:Int)<=3)&&(first (badKey keys) keys.length).isNone):=by
 unfold F10
 rw [allB (badKey keys) keys.length _ (fun k hk=>by simp only [F10_s0,ltD hk,Qd,nn,toNat_pred,pos_cast]; rfl) (by simp [F10_s0])]
 cases decide (1<=(keys.length:Int)/\(keys.length:Int)<=3)
 ·rfl
 ·simp
theorem keysOk_eq (keys:List HelloKey):F9 keys=F10 keys:=by
 rw [keysOkS_eq]
 unfold F9
 rw [allB (badKey keys) keys.length _ (fun k hk=>by simp only [F9_s0,ltD hk,Qd,nn,toNat_pred,pos_cast]; rfl) (by simp [F9_s0])]
 exact Bool.and_comm _ _
theorem keysOkS_T (keys:List HelloKey) (h:F10 keys=true):1<=keys.length/\keys.length<=3:=by
 rw [keysOkS_eq] at h
 simp only [Qh,Rs] at h
 omega
theorem keysOk_T (keys:List HelloKey) (h:F9 keys=true):1<=keys.length/\keys.length<=3:=keysOkS_T keys (keysOk_eq keys ▸ h)
def EIn (e:Ue):Prop:=0<=e.Addr/\e.Addr<=65535/\0<=e.Len/\e.Len<=16
theorem prefix_in {e:Ue} (h:F49 e=true):EIn e:=by
 unfold F49 at h
 unfold EIn
 simp only [Q9,Qh,Rs] at h
 omega
theorem entry_in {e:Ue} (h:F29 e=true):EIn e:=by
 unfold F29 at h
 simp only [Q9,Qh] at h
 exact prefix_in h.1.1
theorem cmp_lt {x y:Ue} (hx:EIn x) (hy:EIn y):decide (F27 (F28 x) (F28 y)<0)=F30 x y:=by
 unfold EIn at hx hy
 unfold F27 F28 F30
 by_cases h:x.Addr=y.Addr
 ·simp only [h,bne_self_eq_false,Qj]
  rw [wrap_of uu0 uu0]
  simp only [Int.lt_irrefl,decide_false,Qj,beq_self_eq_true,Qd]
  rw [Si]; omega
 ·have h1:(x.Addr != y.Addr)=true:=by simpa using h
  have h2:(x.Addr==y.Addr)=false:=by simpa using h
  simp only [h1,h2,Qd,Qj]
  rw [wrap_of uu0 uu0]
  have e:decide (x.Addr-y.Addr<0)=decide (x.Addr<y.Addr):=by rw [Si]; omega
  rw [e]
  cases decide (x.Addr<y.Addr) <;> rfl
theorem cmp_ge {x y:Ue} (hx:EIn x) (hy:EIn y):decide (F27 (F28 x) (F28 y)>=0)=!(F30 x y):=by
 rw [<- cmp_lt hx hy,<- decide_not,Si]; omega
def sameP (x y:Ue):Bool:=bif (x.Addr==y.Addr) then (x.Len==y.Len) else false
def badE (t:List Ue) (k:Nat):Bool :=
 bif !(F29 (t.getD k default)) then true else bif decide (0<k) then !(F30 (t.getD (k-1) default) (t.getD k default)) else false
theorem badE_ok {t:List Ue} {k:Nat} (h:badE t k=false):F29 (t.getD k default)=true:=by
 unfold badE at h
 cases e:F29 (t.getD k default) with
 | true=>rfl
 | false=>rw [e] at h; cases h
theorem tableOkS_eq (t:List Ue):F8 t=(decide ((t.length:Int)<=8)&&(first (badE t) t.length).isNone):=by
 unfold F8
 rw [allB (badE t) t.length _ (fun k hk=>by simp only [F8_s0,ltD hk,Qd,nn,toNat_pred,pos_cast]; rfl) (by simp [F8_s0])]
 by_cases h:(t.length:Int)>8
 ·rw [Qv h,Qw uu0]; rfl
 ·rw [Qw h,Qv uu0]; simp
theorem tableOk_eq (t:List Ue):F7 t=F8 t:=by
 rw [tableOkS_eq]
 unfold F7
 rw [allB (fun k=>bif !(F26 (t.getD k default)) then true else bif decide (0<k) then decide (F27 (F28 (t.getD (k-1) default)) (F28 (t.getD k default))>=0) else false) t.length _ (fun k hk=>by simp only [F7_s0,ltD hk,Qd,nn,toNat_pred,pos_cast]) (by simp [F7_s0])]
 rw [first_congr' (q:=badE t) fun k hk hb=>by
  unfold badE
  rw [entryOk_eq]
  cases e:F29 (t.getD k default) with
  | false=>rfl
  | true =>
   cases k with
   | zero=>rfl
   | succ k =>
    have h1:=entry_in (badE_ok (hb k uu0))
    simp only [Nat.add_sub_cancel]
    rw [cmp_ge h1 (entry_in e)]]
 exact Bool.and_comm _ _
structure TblOk (t:List Ue):Prop where
 len:t.length<=8
 ok:∀ k,k<t.length->F29 (t.getD k default)=true
 inc:∀ k,k+1<t.length->F30 (t.getD k default) (t.getD (k+1) default)=true
theorem tableOkS_T (t:List Ue) (h:F8 t=true):TblOk t:=by
 rw [tableOkS_eq] at h
 simp only [Qh,Rs,allB_iff] at h
 refine ⟨by omega,fun k hk=>badE_ok (h.2 k hk),fun k hk=>?_⟩
 have h1:=h.2 (k+1) hk
 unfold badE at h1
 rw [badE_ok (h.2 (k+1) hk)] at h1
 simpa using h1
theorem tableOkS_len (t:List Ue) (h:F8 t=true):t.length<=8:=(tableOkS_T t h).len
theorem less_trans {x y z:Ue} (h1:F30 x y=true) (h2:F30 y z=true):F30 x z=true:=by
 unfold F30 at *
 simp only [Rr,Q9,Tk,Qh,Rs,Tj] at *
 omega
theorem TblOk.lt {t:List Ue} (h:TblOk t):∀ (d j:Nat),j+d+1<t.length->F30 (t.getD j default) (t.getD (j+d+1) default)=true
 | 0,j,hj=>h.inc j hj
 | d+1,j,hj=>less_trans (TblOk.lt h d j uu0) (h.inc (j+d+1) hj)
def posE (t:List Ue) (e:Ue):Nat:=(first (fun k=>!(F30 (t.getD k default) e)) t.length).getD t.length
theorem posE_le (t:List Ue) (e:Ue):posE t e<=t.length:=by
 unfold posE
 cases h:first (fun k=>!(F30 (t.getD k default) e)) t.length with
 | none=>exact Qk _
 | some k=>exact Nat.le_of_lt (first_some.1 h).1
theorem posE_below {t:List Ue} {e:Ue} {k:Nat} (hk:k<posE t e):F30 (t.getD k default) e=true:=by
 unfold posE at hk
 cases h:first (fun k=>!(F30 (t.getD k default) e)) t.length with
 | none=>rw [h] at hk; simpa using first_none.1 h k hk
 | some j=>rw [h] at hk; simpa using (first_some.1 h).2.2 k hk
theorem posE_at {t:List Ue} {e:Ue} (hk:posE t e<t.length):F30 (t.getD (posE t e) default) e=false:=by
 unfold posE at hk ⊢
 cases h:first (fun k=>!(F30 (t.getD k default) e)) t.length with
 | none=>rw [h] at hk; exact absurd hk (Nat.lt_irrefl _)
 | some j=>simpa using (first_some.1 h).2.1
def fndE (t:List Ue) (e:Ue):Bool:=bif decide (posE t e<t.length) then sameP (t.getD (posE t e) default) e else false
theorem fndE_lt {t:List Ue} {e:Ue} (h:fndE t e=true):posE t e<t.length:=by
 unfold fndE at h
 simp only [Q9,Qh,Rs] at h
 exact h.1
theorem at_eq (t:List Ue) (e:Ue):F97 t e=match first (fun k=>sameP (t.getD k default) e) t.length with | some k=>(k:Int) | none=>-1:=by
 unfold F97
 rw [search (fun k=>sameP (t.getD k default) e) (fun k=>(k:Int)) t.length _ (fun k hk=>by simp only [F97_s0,ltD hk,Qd,nn]; rfl) (by simp [F97_s0])]
 all_goals (cases first (fun k=>sameP (t.getD k default) e) t.length <;> rfl)
theorem at_in (t:List Ue) (e:Ue):-1<=F97 t e/\F97 t e<(t.length:Int):=by
 rw [at_eq]
 cases h:first (fun k=>sameP (t.getD k default) e) t.length with
 | none=>simp only; omega
 | some k=>have:=(first_some.1 h).1; simp only; omega
theorem kg30 {K_:Prop} (c_ b_:Bool) (a:Ue) (b:Ue) (k_:K_):(c_=b_->True)/\(c_=b_->Imps (eHelloEntry a) (eHelloEntry a))/\(c_=b_->Imps (eHelloEntry b) (eHelloEntry b))/\K_:=⟨fun _=>trivial,fun _=>Imps.refl _,fun _=>Imps.refl _,k_⟩
theorem kc42a (list:List Ue) {K_:Prop} (p0_:list.length<=1000000000) (k_:K_):(list.length<=1000000000)/\(Imp (.l 4 eHelloEntry list) (.l 4 eHelloEntry list))/\K_:=⟨p0_,Imp.refl _,k_⟩
abbrev kh42a (list:List Ue):Hint true Try.prog:=.call 42 (S42 list list) (oa42 list) none
def F40_s0 (table:List Ue) (e1:Ue):Int->Lp Int (List Ue):=fun k400 =>
 bif (bif decide (k400<(table.length:Int)) then (F30 (table.getD k400.toNat default) e1) else false) then (.next (k400+1)) else (.done k400)
def F40_j0 (table:List Ue) (e1:Ue):Lp Int (List Ue) :=
 (runL (F40_s0 table e1) (((table.length:Int)-0).toNat+1) 0).fin Lp.ret (fun k400=>.done k400)
def F40 (table:List Ue) (e1:Ue):List Ue :=
 (F40_j0 table e1).fin (fun r=>r) (fun k=>bif (bif (bif decide (k<(table.length:Int)) then ((table.getD k.toNat default).Addr==e1.Addr) else false) then ((table.getD k.toNat default).Len==e1.Len) else false) then (table.set (k).toNat e1) else (((table.take k.toNat)++[e1])++(table.drop k.toNat)))
abbrev lN40_0 (table:List Ue):Nat×Int:=((((table.length:Int)-0).toNat+1),0)
abbrev lI40_0 (table:List Ue) (m39:Nat) (k400:Int):Prop:=Int.toNat ((table.length:Int)-k400)<m39/\k400<=(table.length:Int)/\(0:Int)<=k400
abbrev lX40_0 (table:List Ue) (e1:Ue):Lp Int (List Ue):=LpX (F40_s0 table e1) (lN40_0 table)
abbrev lJ40_0 (table:List Ue) (e1:Ue) (i:Nat×Int):Prop:=LpJ (F40_s0 table e1) (lN40_0 table) i (lI40_0 table i.1 i.2)
abbrev lH40_0 (table:List Ue) (e1:Ue) (i:Nat×Int) (m39:Nat) (k400:Int):Prop:=LpH (F40_s0 table e1) (lN40_0 table) i m39 k400 (lI40_0 table (m39+1) k400)
abbrev lE40_0 (table:List Ue) (e1:Ue) (k400:Int) (k400_:Int) (K39:Prop):Prop:=((.int .i64 k400:Value)=.int .i64 k400_)/\(Im (.l 4 eHelloEntry table))/\(Rf (.int .i64 e1.Addr))/\(Rf (.int .i64 e1.Len))/\(Rf (.int .i64 e1.Cost))/\(Rf (.int .i64 e1.Label))/\K39
theorem un40_0 (table:List Ue) (e1:Ue) (i:Nat×Int) (h:lJ40_0 table e1 i):lH40_0 table e1 i (i.1-1) i.2:=⟨hd1 h.1 h.2.1,hd3 h.2.1,hd2 h.2.1,h.2.2⟩
theorem bk40_0 (table:List Ue) (e1:Ue) (i:Nat×Int) (m39:Nat) (k400:Int) (hl:m39<i.1) (e:runL (F40_s0 table e1) m39 k400=lX40_0 table e1) (h:lI40_0 table m39 k400):∃ j:Nat×Int,lE40_0 table e1 k400 j.2 (lJ40_0 table e1 j/\j.1<i.1):=⟨(m39,k400),rfl,Imp.refl _,rfl,rfl,rfl,rfl,⟨e,h⟩,hl⟩
theorem en40_0 (table:List Ue) (e1:Ue) (h:0<=(table.length:Int)/\(0:Int)<=0):lE40_0 table e1 0 0 (lJ40_0 table e1 (lN40_0 table)):=⟨rfl,Imp.refl _,rfl,rfl,rfl,rfl,rfl,Qr _,h⟩
abbrev jI40_0 (table:List Ue) (e1:Ue) (k:Int):Prop:=0<=k/\k<=(table.length:Int)
abbrev jJ40_0 (table:List Ue) (e1:Ue) (j:Int):Prop:=(F40_j0 table e1)=Lp.done j/\jI40_0 table e1 j
theorem jn40_0 (table:List Ue) (e1:Ue) (k:Int) (e:(F40_j0 table e1)=Lp.done k) (h:jI40_0 table e1 k):∃ j:Int,((.int .i64 k:Value)=.int .i64 j)/\(Imp (.l 4 eHelloEntry table) (.l 4 eHelloEntry table))/\((.int .i64 e1.Addr:Value)=.int .i64 e1.Addr)/\((.int .i64 e1.Len:Value)=.int .i64 e1.Len)/\((.int .i64 e1.Cost:Value)=.int .i64 e1.Cost)/\((.int .i64 e1.Label:Value)=.int .i64 e1.Label)/\jJ40_0 table e1 j:=⟨k,rfl,Imp.refl _,rfl,rfl,rfl,rfl,e,h⟩
theorem fi40 (table:List Ue) (e1:Ue) (r:List Ue) (hF:r=(F40 table e1)):(Imp (.l 4 eHelloEntry r) (.l 4 eHelloEntry (F40 table e1)))/\True:=by cases hF; exact ⟨Imp.refl _,trivial⟩
def S40 (table:List Ue) (e1:Ue):Spec:=⟨[.r (.c (.l 4 eHelloEntry table)),.r (.g (eHelloEntry e1))],.ow (.l 4 eHelloEntry (F40 table e1)),table.length<=1000000000⟩
theorem ok40 (table:List Ue) (e1:Ue):(S40 table e1).ok Try.prog 40 :=
 fnG_ok mixed (fn:=Try.f40) (ct:=.seqk [(0,0)] .no (.seqk [(0,0)] .no (.cut (ι:=Int) (fun j=>(fun (k:Int)=>(⟨[(0,some (.h 0 0)),(3,some (.p 1 0)),(5,some (.v (vI k)))],[(0,some (.shr none (.l 4 eHelloEntry table))),(1,some (.box 28 [.v (vI e1.Addr),.v (vI e1.Len),.v (vI e1.Cost),.v (vI e1.Label)]))],2⟩:St)) j) (jJ40_0 table e1) (.blk (.loop (ι:=Nat×Int) (fun i=>(fun (k400:Int)=>(⟨[(0,some (.h 0 0)),(3,some (.p 1 0)),(5,some (.v (vI k400)))],[(0,some (.shr none (.l 4 eHelloEntry table))),(1,some (.box 28 [.v (vI e1.Addr),.v (vI e1.Len),.v (vI e1.Cost),.v (vI e1.Label)]))],2⟩:St)) i.2) (lJ40_0 table e1) (fun i=>i.1) (lN40_0 table) (fun i=>(fun (k400:Int)=>(.seq (.seq (.reg [(10,kh30 (table.getD k400.toNat default) e1)]) (.cond .no .no)) (.blk (.reg [(1,.bnd)])))) i.2))) (fun j=>(fun (k:Int)=>(.seq (.seq .no (.cond (.seq (.reg [(1,kh42a table)]) (.seq (.reg [(4,.dat (.l 4 eHelloEntry (table.set (k).toNat e1)))]) (.seq .no .no))) .no)) (.seq (.reg [(3,kh42a (table.take k.toNat)),(6,.dat (.l 4 eHelloEntry ((table.take k.toNat)++[e1]))),(10,.dat (.l 4 eHelloEntry (((table.take k.toNat)++[e1])++(table.drop k.toNat))))]) .no))) j)))) Try.func40 (fun (hpre0:table.length<=1000000000)=>kn table fun _=>kn table fun _=>ai (ai (en40_0 table e1 uu23) (fun (i0:Nat×Int) (hi0:lJ40_0 table e1 i0)=>(fun (m0:Nat) (k400:Int) (hh0:lH40_0 table e1 i0 m0 k400)=>have hI0:=hh0.1; have hl0:=hh0.2.1; have _:=hh0.2.2.1; have _:=hh0.2.2.2; ai (fun k2:(decide (k400<(table.length:Int)))=true=>have _:=Qc k2; (uu1:ib k400 table)) (kg30 (decide (k400<(table.length:Int))) true (table.getD k400.toNat default) e1 (ifb (bif decide (k400<(table.length:Int)) then (F30 (table.getD k400.toNat default) e1) else false) (fun h4=>have _:=Qc (andT1 h4); ai (iok (k400+1) uu1) (bk40_0 table e1 i0 m0 (k400+1) hl0 (runL_next hI0 (condT h4 rfl)) uu19)) (fun h4=>have hD0_5:lX40_0 table e1=Lp.done k400:=runL_done hI0 (condF h4 rfl); jn40_0 table e1 k400 (Q5 (finD hD0_5 rfl)) uu23)))) (i0.1-1) i0.2 (un40_0 table e1 i0 hi0))) (fun (j:Int) (hj:jJ40_0 table e1 j)=>(fun (k:Int) (hJ0_6:(F40_j0 table e1)=Lp.done k) (hw:jI40_0 table e1 k)=>have _:=hw.1; have _:=hw.2; ai (fun k7:(decide (k<(table.length:Int)))=true=>have _:=Qc k7; (uu1:ib k table)) (ai (fun k8:(bif decide (k<(table.length:Int)) then ((table.getD k.toNat default).Addr==e1.Addr) else false)=true=>have _:=Qc (andT1 k8); have _:=eq_of_beq (andT2 k8); (uu1:ib k table)) (ifb (bif (bif decide (k<(table.length:Int)) then ((table.getD k.toNat default).Addr==e1.Addr) else false) then ((table.getD k.toNat default).Len==e1.Len) else false) (fun h9=>have _:=Qc (andT1 (andT1 h9)); have _:=eq_of_beq (andT2 (andT1 h9)); have _:=eq_of_beq (andT2 h9); kc42a table uu1 (ai (uu1:ib k table) (ai (setr 4 eHelloEntry table (k).toNat e1) (fi40 table e1 (table.set (k).toNat e1) (finD hJ0_6 (condT h9 rfl)))))) (fun h9=>ai (uu1:0<=(0:Int)/\(0:Int)<=k/\k<=(table.length:Int)) (kc42a (table.take k.toNat) uu1 (ai (appr 4 eHelloEntry (table.take k.toNat) [e1] fun _=>rfl) (ai (uu8:((table.take k.toNat)++[e1]).length*32<=140737488355328) (ai (uu1:0<=k/\k<=(table.length:Int)/\(table.length:Int)<=(table.length:Int)) (ai (AppL.mk eHelloEntry ((table.take k.toNat)++[e1]) (table.drop k.toNat) (Imp.refl (.l 4 eHelloEntry ((table.take k.toNat)++[e1]))) ir (fun y=>⟨rfl,fun e he=>by simp only [eHelloEntry,Qo,Rj,Sz] at he; rcases he with rfl | rfl | rfl | rfl <;> exact ⟨_,rfl⟩⟩):AppL (.l 4 eHelloEntry ((table.take k.toNat)++[e1])) (.l 4 eHelloEntry (table.drop k.toNat)) 4 (.l 4 eHelloEntry (((table.take k.toNat)++[e1])++(table.drop k.toNat)))) (ai (uu8:(((table.take k.toNat)++[e1])++(table.drop k.toNat)).length*32<=140737488355328) (fi40 table e1 (((table.take k.toNat)++[e1])++(table.drop k.toNat)) (finD hJ0_6 (condF h9 rfl))))))))))))) j hj.1 hj.2)) uu3
theorem kc97l (table:List Ue) (e1:Ue) {K_:Prop} (k_:(-1<=(F97 table e1)/\(F97 table e1)<(table.length:Int))->K_):(True)/\(Imp (.l 4 eHelloEntry table) (.l 4 eHelloEntry table))/\(Imps (eHelloEntry e1) (eHelloEntry e1))/\K_:=⟨trivial,Imp.refl _,Imps.refl _,k_ (at_in table e1)⟩
abbrev kh97l (table:List Ue) (e1:Ue):Hint true Try.prog:=.call 97 (S97 table e1) (ok97 table e1) none
def F90 (table:List Ue) (e1:Ue):List Ue :=
 bif (decide ((F97 table e1)<0)) then table else ((table.take (F97 table e1).toNat)++(table.drop ((F97 table e1)+1).toNat))
theorem fi90 (table:List Ue) (e1:Ue) (r:List Ue) (hF:r=(F90 table e1)):(Imp (.l 4 eHelloEntry r) (.l 4 eHelloEntry (F90 table e1)))/\True:=by cases hF; exact ⟨Imp.refl _,trivial⟩
def S90 (table:List Ue) (e1:Ue):Spec:=⟨[.r (.c (.l 4 eHelloEntry table)),.r (.g (eHelloEntry e1))],.ow (.l 4 eHelloEntry (F90 table e1)),table.length<=1000000000⟩
theorem ok90 (table:List Ue) (e1:Ue):(S90 table e1).ok Try.prog 90 :=
 fnG_ok mixed (fn:=Try.f90) (ct:=.seqk [(0,0)] .no (.seq (.reg [(2,kh97l table e1)]) (.seq (.seq .no (.cond (.seq (.reg [(1,kh42a table)]) .no) .no)) (.seq (.reg [(3,kh42a (table.take (F97 table e1).toNat)),(6,.bnd),(8,.dat (.l 4 eHelloEntry ((table.take (F97 table e1).toNat)++(table.drop ((F97 table e1)+1).toNat))))]) .no)))) Try.func90 (fun (hpre0:table.length<=1000000000)=>kn table fun _=>kc97l table e1 (fun gv1=>ifd ((F97 table e1)<0) (fun h2 _=>kc42a table uu1 (fi90 table e1 table (condT h2 rfl))) (fun h2 _=>ai (uu1:0<=(0:Int)/\(0:Int)<=(F97 table e1)/\(F97 table e1)<=(table.length:Int)) (kc42a (table.take (F97 table e1).toNat) uu1 (ai (iok ((F97 table e1)+1) uu1) (ai (uu1:0<=((F97 table e1)+1)/\((F97 table e1)+1)<=(table.length:Int)/\(table.length:Int)<=(table.length:Int)) (ai (AppL.mk eHelloEntry (table.take (F97 table e1).toNat) (table.drop ((F97 table e1)+1).toNat) (Imp.refl (.l 4 eHelloEntry (table.take (F97 table e1).toNat))) ir (fun y=>⟨rfl,fun e he=>by simp only [eHelloEntry,Qo,Rj,Sz] at he; rcases he with rfl | rfl | rfl | rfl <;> exact ⟨_,rfl⟩⟩):AppL (.l 4 eHelloEntry (table.take (F97 table e1).toNat)) (.l 4 eHelloEntry (table.drop ((F97 table e1)+1).toNat)) 4 (.l 4 eHelloEntry ((table.take (F97 table e1).toNat)++(table.drop ((F97 table e1)+1).toNat)))) (ai (uu8:((table.take (F97 table e1).toNat)++(table.drop ((F97 table e1)+1).toNat)).length*32<=140737488355328) (fi90 table e1 ((table.take (F97 table e1).toNat)++(table.drop ((F97 table e1)+1).toNat)) (condF h2 rfl)))))))))) uu3
theorem kc40 (table:List Ue) (e1:Ue) {K_:Prop} (p0_:table.length<=1000000000) (k_:K_):(table.length<=1000000000)/\(Imp (.l 4 eHelloEntry table) (.l 4 eHelloEntry table))/\(Imps (eHelloEntry e1) (eHelloEntry e1))/\K_:=⟨p0_,Imp.refl _,Imps.refl _,k_⟩
abbrev kh40 (table:List Ue) (e1:Ue):Hint true Try.prog:=.call 40 (S40 table e1) (ok40 table e1) none
theorem kc90 (table:List Ue) (e1:Ue) {K_:Prop} (p0_:table.length<=1000000000) (k_:K_):(table.length<=1000000000)/\(Imp (.l 4 eHelloEntry table) (.l 4 eHelloEntry table))/\(Imps (eHelloEntry e1) (eHelloEntry e1))/\K_:=⟨p0_,Imp.refl _,Imps.refl _,k_⟩
abbrev kh90 (table:List Ue) (e1:Ue):Hint true Try.prog:=.call 90 (S90 table e1) (ok90 table e1) none
def F84 (table:List Ue) (c:HelloChange):List Ue :=
 bif (c.Kind==1) then (F40 table c.Entry) else (bif (c.Kind==2) then (F90 table c.Entry) else table)
theorem fi84 (table:List Ue) (c:HelloChange) (r:List Ue) (hF:r=(F84 table c)):(Imp (.l 4 eHelloEntry r) (.l 4 eHelloEntry (F84 table c)))/\True:=by cases hF; exact ⟨Imp.refl _,trivial⟩
def S84 (table:List Ue) (c:HelloChange):Spec:=⟨[.r (.c (.l 4 eHelloEntry table)),.r (.g (eHelloChange c))],.ow (.l 4 eHelloEntry (F84 table c)),table.length<=1000000000⟩
theorem ok84 (table:List Ue) (c:HelloChange):(S84 table c).ok Try.prog 84 :=
 fnG_ok mixed (fn:=Try.f84) (ct:=.seqk [(0,0)] .no (.seq (.seq .no (.blk (.seq .no (.cond (.seq (.reg [(3,kh40 table c.Entry)]) .no) (.seq .no (.cond (.seq (.reg [(3,kh90 table c.Entry)]) .no) .no)))))) (.seq (.reg [(1,kh42a table)]) .no))) Try.func84 (fun (hpre0:table.length<=1000000000)=>kn table fun _=>ife c.Kind 1 (fun h1 _=>kc40 table c.Entry uu0 (fi84 table c (F40 table c.Entry) (condT h1 rfl))) (fun h1 _=>ife c.Kind 2 (fun h2 _=>kc90 table c.Entry uu0 (fi84 table c (F90 table c.Entry) (condF h1 (condT h2 rfl)))) (fun h2 _=>kc42a table uu0 (fi84 table c table (condF h1 (condF h2 rfl)))))) uu3
theorem change_in (c:HelloChange) (h:F34 c=true):EIn c.Entry:=by
 unfold F34 at h
 have hz:((c.Entry.Addr==0)&&((c.Entry.Len==0)&&((c.Entry.Cost==0)&&(c.Entry.Label==0))))=true->EIn c.Entry:=fun h=>by
  simp only [Qh,Tj] at h
  unfold EIn; omega
 have hg:(bif (bif (F49 c.Entry) then (c.Entry.Cost==0) else false) then (c.Entry.Label==0) else false)=true->EIn c.Entry:=fun h=>by
  simp only [Q9,Qh] at h
  exact prefix_in h.1.1
 cases h0:(c.Kind==0) with
 | true=>rw [h0] at h; exact hz h
 | false =>
  rw [h0] at h
  cases h3:(c.Kind==3) with
  | true=>rw [h3] at h; exact hz h
  | false =>
   rw [h3] at h
   cases h1:(c.Kind==1) with
   | true=>rw [h1] at h; exact entry_in h
   | false =>
    rw [h1] at h
    cases h2:(c.Kind==2) with
    | true=>rw [h2] at h; exact hg h
    | false=>rw [h2] at h; cases h
theorem same_iff {x y:Ue}:sameP x y=true↔x.Addr=y.Addr/\x.Len=y.Len:=by
 unfold sameP
 simp only [Q9,Qh,Tj]
theorem less_same {x y:Ue} (h:F30 x y=true):sameP x y=false:=by
 cases e:sameP x y with
 | false=>rfl
 | true =>
  have:=same_iff.1 e
  unfold F30 at h
  simp only [Rr,Q9,Tk,Qh,Rs,Tj] at h
  omega
theorem same_less {x y z:Ue} (h:sameP y z=true):F30 x y=F30 x z:=by
 obtain ⟨h1,h2⟩:=same_iff.1 h
 unfold F30
 rw [h1,h2]
theorem putK_eq (t:List Ue) (e:Ue):F40_j0 t e=.done ((posE t e:Nat):Int):=by
 have hle:=posE_le t e
 have hr:=runL_rule (step:=F40_s0 t e) (fun (k:Nat) (_:Unit)=>((k:Nat):Int)) (posE t e) (fun _ _=>True) (fun _=>False)
  (fun k _ hk _=>.inl ⟨(),by
   simp only [F40_s0,ltD (show k<t.length by omega),Qd,nn,posE_below hk]; rfl,trivial⟩)
  (fun _ _=>by
   simp only [F40_s0,nn]
   rcases Te (posE t e) t.length with h | h
   ·rw [ltD h,Qd,posE_at h]; rfl
   ·rw [Qw uu0]; rfl)
  (posE t e) 0 () uu0 trivial (Int.toNat ((t.length:Int)-0)+1) uu0
 rcases hr with ⟨_,hr,_⟩ | ⟨_,_,hr⟩
 ·have hr':runL (F40_s0 t e) (Int.toNat ((t.length:Int)-0)+1) 0=_:=hr
  unfold F40_j0
  rw [hr']; rfl
 ·exact hr.elim
theorem put_eq (t:List Ue) (e:Ue):F40 t e=bif fndE t e then t.set (posE t e) e else t.take (posE t e)++[e]++t.drop (posE t e):=by
 unfold F40
 rw [putK_eq]
 simp only [Lp.fin,nn]
 have e1:decide (((posE t e:Nat):Int)<(t.length:Int))=decide (posE t e<t.length):=by rw [Si]; omega
 rw [e1]
 unfold fndE sameP
 cases decide (posE t e<t.length)
 ·rfl
 ·cases ((t.getD (posE t e) default).Addr==e.Addr) <;> rfl
theorem at_pos {t:List Ue} {e:Ue} (ht:TblOk t):F97 t e=bif fndE t e then ((posE t e:Nat):Int) else -1:=by
 rw [at_eq]
 cases h:fndE t e with
 | true =>
  have hl:=fndE_lt h
  have hs:sameP (t.getD (posE t e) default) e=true:=by
   unfold fndE at h
   simp only [Q9,Qh] at h
   exact h.2
  have:first (fun k=>sameP (t.getD k default) e) t.length=some (posE t e):=first_some.2 ⟨hl,hs,fun j hj=>less_same (posE_below hj)⟩
  rw [this]; rfl
 | false =>
  have:first (fun k=>sameP (t.getD k default) e) t.length=none:=first_none.2 fun k hk=>by
   rcases Nat.lt_trichotomy k (posE t e) with h1 | h1 | h1
   ·exact less_same (posE_below h1)
   ·unfold fndE at h
    rw [<- h1,Qv hk,Qd] at h
    exact h
   ·cases hs:sameP (t.getD k default) e with
    | false=>rfl
    | true =>
     have a:=ht.lt (k-posE t e-1) (posE t e) uu0
     have e3:posE t e+(k-posE t e-1)+1=k:=by omega
     rw [e3,same_less hs,posE_at uu0] at a
     cases a
  rw [this]; rfl
structure Uf where
 Entry:Ue
 Stale:Bool
 deriving DecidableEq,Inhabited
def eHelloRoute (x:Uf):List Dat:=[.v (vI x.Entry.Addr),.v (vI x.Entry.Len),.v (vI x.Entry.Cost),.v (vI x.Entry.Label),.v (.bool x.Stale)]
structure Ud where
 Name:Int
 Peer:Int
 Keys:List HelloKey
 Boot:Int
 Want:List Ue
 Turn:Int
 PeerBoot:Int
 PeerTurn:Int
 Up:Bool
 Left:Int
 Num:Int
 Under:HelloChange
 Told:List Ue
 All:Bool
 Got:Int
 Full:Bool
 Heard:List Uf
 Keep:Int
 deriving DecidableEq,Inhabited
def eHelloEnd (x:Ud):List Dat:=[.v (vI x.Name),.v (vI x.Peer),.l 2 eHelloKey x.Keys,.v (vI x.Boot),.l 4 eHelloEntry x.Want,.v (vI x.Turn),.v (vI x.PeerBoot),.v (vI x.PeerTurn),.v (.bool x.Up),.v (vI x.Left),.v (vI x.Num),.v (vI x.Under.Kind),.v (vI x.Under.Entry.Addr),.v (vI x.Under.Entry.Len),.v (vI x.Under.Entry.Cost),.v (vI x.Under.Entry.Label),.l 4 eHelloEntry x.Told,.v (.bool x.All),.v (vI x.Got),.v (.bool x.Full),.l 5 eHelloRoute x.Heard,.v (vI x.Keep)]
def F85_s0 (e1:Ud):(Bool×Int)->Lp (Bool×Int) Bool:=fun (stale,i40) =>
 bif (decide (i40<(e1.Heard.length:Int))) then (bif (bif (bif (!(F29 (e1.Heard.getD i40.toNat default).Entry)) then true else (bif decide (i40>0) then (!(F30 (e1.Heard.getD (i40-1).toNat default).Entry (e1.Heard.getD i40.toNat default).Entry)) else false)) then true else (bif (!(e1.Heard.getD i40.toNat default).Stale) then (e1.Left==0) else false)) then (.ret false) else (.next ((bif stale then true else (e1.Heard.getD i40.toNat default).Stale),(i40+1)))) else (.done (stale,i40))
def F85 (e1:Ud):Bool :=
 bif (bif decide ((e1.Heard.length:Int)>16) then true else (!(decide (0<=e1.Keep/\e1.Keep<=6)))) then false else ((runL (F85_s0 e1) (((e1.Heard.length:Int)-0).toNat+1) (false,0)).fin (fun r=>r) (fun (stale,i40)=>(stale==decide (e1.Keep>0))))
abbrev lN85_0 (e1:Ud):Nat×(Bool×Int):=((((e1.Heard.length:Int)-0).toNat+1),(false,0))
abbrev lI85_0 (e1:Ud) (m39:Nat) (stale:Bool) (i40:Int):Prop:=Int.toNat ((e1.Heard.length:Int)-i40)<m39/\(0:Int)<=i40
abbrev lX85_0 (e1:Ud):Lp (Bool×Int) Bool:=LpX (F85_s0 e1) (lN85_0 e1)
abbrev lJ85_0 (e1:Ud) (i:Nat×(Bool×Int)):Prop:=LpJ (F85_s0 e1) (lN85_0 e1) i (lI85_0 e1 i.1 i.2.1 i.2.2)
abbrev lH85_0 (e1:Ud) (i:Nat×(Bool×Int)) (m39:Nat) (stale:Bool) (i40:Int):Prop:=LpH (F85_s0 e1) (lN85_0 e1) i m39 (stale,i40) (lI85_0 e1 (m39+1) stale i40)
abbrev lE85_0 (e1:Ud) (stale:Bool) (i40:Int) (stale_:Bool) (i40_:Int) (K39:Prop):Prop:=((.bool stale:Value)=.bool stale_)/\((.int .i64 i40:Value)=.int .i64 i40_)/\(Rf (.int .i64 e1.Name))/\(Rf (.int .i64 e1.Peer))/\(Rf (.int .i64 e1.Boot))/\(Rf (.int .i64 e1.Turn))/\(Rf (.int .i64 e1.PeerBoot))/\(Rf (.int .i64 e1.PeerTurn))/\(Rf (.bool e1.Up))/\(Rf (.int .i64 e1.Left))/\(Rf (.int .i64 e1.Num))/\(Rf (.int .i64 e1.Under.Kind))/\(Rf (.int .i64 e1.Under.Entry.Addr))/\(Rf (.int .i64 e1.Under.Entry.Len))/\(Rf (.int .i64 e1.Under.Entry.Cost))/\(Rf (.int .i64 e1.Under.Entry.Label))/\(Rf (.bool e1.All))/\(Rf (.int .i64 e1.Got))/\(Rf (.bool e1.Full))/\(Rf (.int .i64 e1.Keep))/\(Im (.l 2 eHelloKey e1.Keys))/\(Im (.l 4 eHelloEntry e1.Want))/\(Im (.l 4 eHelloEntry e1.Told))/\(Im (.l 5 eHelloRoute e1.Heard))/\K39
theorem un85_0 (e1:Ud) (i:Nat×(Bool×Int)) (h:lJ85_0 e1 i):lH85_0 e1 i (i.1-1) i.2.1 i.2.2:=⟨hd1 h.1 h.2.1,hd3 h.2.1,hd2 h.2.1,h.2.2⟩
theorem bk85_0 (e1:Ud) (i:Nat×(Bool×Int)) (m39:Nat) (stale:Bool) (i40:Int) (hl:m39<i.1) (e:runL (F85_s0 e1) m39 (stale,i40)=lX85_0 e1) (h:lI85_0 e1 m39 stale i40):∃ j:Nat×(Bool×Int),lE85_0 e1 stale i40 j.2.1 j.2.2 (lJ85_0 e1 j/\j.1<i.1):=⟨(m39,(stale,i40)),rfl,rfl,rfl,rfl,rfl,rfl,rfl,rfl,rfl,rfl,rfl,rfl,rfl,rfl,rfl,rfl,rfl,rfl,rfl,rfl,Imp.refl _,Imp.refl _,Imp.refl _,Imp.refl _,⟨e,h⟩,hl⟩
theorem en85_0 (e1:Ud) (h:(0:Int)<=0):lE85_0 e1 false 0 false 0 (lJ85_0 e1 (lN85_0 e1)):=⟨rfl,rfl,rfl,rfl,rfl,rfl,rfl,rfl,rfl,rfl,rfl,rfl,rfl,rfl,rfl,rfl,rfl,rfl,rfl,rfl,Imp.refl _,Imp.refl _,Imp.refl _,Imp.refl _,rfl,Qr _,h⟩
def S85 (e1:Ud):Spec:=⟨[.r (.g (eHelloEnd e1))],.v (.bool (F85 e1)),True⟩
abbrev q85_1 (e1:Ud) (i40:Int):=(e1.Heard.getD i40.toNat default)
theorem ok85 (e1:Ud):(S85 e1).ok Try.prog 85 :=
 fnG_ok mixed (fn:=Try.f85) (ct:=.seq .no (.seq (.seq (.reg [(7,kh32a e1.Keep 0 6)]) (.cond (.seq .no .no) .no)) (.seq .no (.seq (.seqk [(1,2),(1,4),(1,16),(1,20)] .no (.blk (.loop (ι:=Nat×(Bool×Int)) (fun i=>(fun (stale:Bool) (i40:Int)=>(⟨[(1,some (.p 0 0)),(3,some (.v (.bool stale))),(4,some (.v (vI i40)))],[(0,some (.box 54 [.v (vI e1.Name),.v (vI e1.Peer),.h 1 0,.v (vI e1.Boot),.h 2 0,.v (vI e1.Turn),.v (vI e1.PeerBoot),.v (vI e1.PeerTurn),.v (.bool e1.Up),.v (vI e1.Left),.v (vI e1.Num),.v (vI e1.Under.Kind),.v (vI e1.Under.Entry.Addr),.v (vI e1.Under.Entry.Len),.v (vI e1.Under.Entry.Cost),.v (vI e1.Under.Entry.Label),.h 3 0,.v (.bool e1.All),.v (vI e1.Got),.v (.bool e1.Full),.h 4 0,.v (vI e1.Keep)])),(1,some (.shr none (.l 2 eHelloKey e1.Keys))),(2,some (.shr none (.l 4 eHelloEntry e1.Want))),(3,some (.shr none (.l 4 eHelloEntry e1.Told))),(4,some (.shr none (.l 5 eHelloRoute e1.Heard)))],5⟩:St)) i.2.1 i.2.2) (lJ85_0 e1) (fun i=>i.1) (lN85_0 e1) (fun i=>(fun (stale:Bool) (i40:Int)=>(.seq (.seq .no (.cond .no .no)) (.seq (.blk (.seq .no (.seq (.seq (.reg [(2,kh29 (q85_1 e1 i40).Entry),(11,.bnd),(17,kh30 (e1.Heard.getD (i40-1).toNat default).Entry (q85_1 e1 i40).Entry)]) (.cond (.seq .no .no) .no)) .no))) (.reg [(1,.bnd)])))) i.2.1 i.2.2)))) (.seq .no .no))))) Try.func85 (fun (_:True)=>kg32a (decide ((e1.Heard.length:Int)>16)) false e1.Keep 0 6 (ifb (bif decide ((e1.Heard.length:Int)>16) then true else (!(decide (0<=e1.Keep/\e1.Keep<=6)))) (fun h2=>fiB false (F85 e1) (condT h2 rfl)) (fun h2=>have _:=Re (orF1 h2); have _:=Qc (notEF (orF2 h2)); kn e1.Keys fun _=>kn e1.Want fun _=>kn e1.Told fun _=>kn e1.Heard fun _=>ai (en85_0 e1 uu0) (fun (i0:Nat×(Bool×Int)) (hi0:lJ85_0 e1 i0)=>(fun (m0:Nat) (stale:Bool) (i40:Int) (hh0:lH85_0 e1 i0 m0 stale i40)=>have hI0:=hh0.1; have hl0:=hh0.2.1; have _:=hh0.2.2.1; have _:=hh0.2.2.2; ifd (i40<(e1.Heard.length:Int)) (fun h4 _=>ai (uu0:ib i40 e1.Heard) (kc29 (q85_1 e1 i40).Entry (ai (fun k6:(decide (i40>0))=true=>have _:=Qc k6; (fun k5:(!(F29 (q85_1 e1 i40).Entry))=false=>iok (i40-1) uu0)) (ai (fun k8:(decide (i40>0))=true=>have _:=Qc k8; (fun k7:(!(F29 (q85_1 e1 i40).Entry))=false=>(uu0:ib (i40-1) e1.Heard))) (ai (fun k10:(decide (i40>0))=true=>have _:=Qc k10; (fun k9:(!(F29 (q85_1 e1 i40).Entry))=false=>trivial)) (ai (fun k12:(decide (i40>0))=true=>have _:=Qc k12; (fun k11:(!(F29 (q85_1 e1 i40).Entry))=false=>(Imps.refl (eHelloEntry (e1.Heard.getD (i40-1).toNat default).Entry)))) (ai (fun k14:(decide (i40>0))=true=>have _:=Qc k14; (fun k13:(!(F29 (q85_1 e1 i40).Entry))=false=>(Imps.refl (eHelloEntry (q85_1 e1 i40).Entry)))) (ifb (bif (bif (!(F29 (q85_1 e1 i40).Entry)) then true else (bif decide (i40>0) then (!(F30 (e1.Heard.getD (i40-1).toNat default).Entry (q85_1 e1 i40).Entry)) else false)) then true else (bif (!(q85_1 e1 i40).Stale) then (e1.Left==0) else false)) (fun h15=>fiB false (F85 e1) (condF h2 (finR (runL_ret hI0 (condT h4 (condT h15 rfl))) rfl))) (fun h15=>ai (iok (i40+1) uu0) (bk85_0 e1 i0 m0 (bif stale then true else (q85_1 e1 i40).Stale) (i40+1) hl0 (runL_next hI0 (condT h4 (condF h15 rfl))) uu10)))))))))) (fun h4 _=>have hD0_16:lX85_0 e1=Lp.done (stale,i40):=runL_done hI0 (condF h4 rfl); fiB (stale==decide (e1.Keep>0)) (F85 e1) (condF h2 (finD hD0_16 rfl)))) (i0.1-1) i0.2.1 i0.2.2 (un85_0 e1 i0 hi0))))) uu3
theorem kc10l (keys:List HelloKey) {K_:Prop} (k_:K_):(True)/\(Imp (.l 2 eHelloKey keys) (.l 2 eHelloKey keys))/\K_:=⟨trivial,Imp.refl _,k_⟩
theorem kg10l {K_:Prop} (c_ b_:Bool) (keys:List HelloKey) (k_:K_):(c_=b_->True)/\(c_=b_->Imp (.l 2 eHelloKey keys) (.l 2 eHelloKey keys))/\K_:=⟨fun _=>trivial,fun _=>Imp.refl _,k_⟩
abbrev kh10l (keys:List HelloKey):Hint true Try.prog:=.call 10 (S10 keys) (ok10 keys) none
theorem kc8l (table:List Ue) {K_:Prop} (k_:K_):(True)/\(Imp (.l 4 eHelloEntry table) (.l 4 eHelloEntry table))/\K_:=⟨trivial,Imp.refl _,k_⟩
theorem kg8l {K_:Prop} (c_ b_:Bool) (table:List Ue) (k_:K_):(c_=b_->True)/\(c_=b_->Imp (.l 4 eHelloEntry table) (.l 4 eHelloEntry table))/\K_:=⟨fun _=>trivial,fun _=>Imp.refl _,k_⟩
abbrev kh8l (table:List Ue):Hint true Try.prog:=.call 8 (S8 table) (ok8 table) none
theorem kc34l (c:HelloChange) {K_:Prop} (k_:K_):(True)/\(Imps (eHelloChange c) (eHelloChange c))/\K_:=⟨trivial,Imps.refl _,k_⟩
theorem kg34l {K_:Prop} (c_ b_:Bool) (c:HelloChange) (k_:K_):(c_=b_->True)/\(c_=b_->Imps (eHelloChange c) (eHelloChange c))/\K_:=⟨fun _=>trivial,fun _=>Imps.refl _,k_⟩
abbrev kh34l (c:HelloChange):Hint true Try.prog:=.call 34 (S34 c) (ok34 c) none
theorem kc84 (table:List Ue) (c:HelloChange) {K_:Prop} (p0_:table.length<=1000000000) (k_:K_):(table.length<=1000000000)/\(Imp (.l 4 eHelloEntry table) (.l 4 eHelloEntry table))/\(Imps (eHelloChange c) (eHelloChange c))/\K_:=⟨p0_,Imp.refl _,Imps.refl _,k_⟩
theorem kg84 {K_:Prop} (c_ b_:Bool) (table:List Ue) (c:HelloChange) (p_:c_=b_->table.length<=1000000000) (k_:K_):(c_=b_->table.length<=1000000000)/\(c_=b_->Imp (.l 4 eHelloEntry table) (.l 4 eHelloEntry table))/\(c_=b_->Imps (eHelloChange c) (eHelloChange c))/\K_:=⟨p_,fun _=>Imp.refl _,fun _=>Imps.refl _,k_⟩
abbrev kh84 (table:List Ue) (c:HelloChange):Hint true Try.prog:=.call 84 (S84 table c) (ok84 table c) none
theorem kc85 (e1:Ud) {K_:Prop} (k_:K_):(True)/\(Imps (eHelloEnd e1) (eHelloEnd e1))/\K_:=⟨trivial,Imps.refl _,k_⟩
abbrev kh85 (e1:Ud):Hint true Try.prog:=.call 85 (S85 e1) (ok85 e1) none
def F76 (e1:Ud):Bool :=
 bif (bif (bif (bif (bif (bif (!(decide (0<=e1.Name/\e1.Name<=65535))) then true else (!(decide (0<=e1.Peer/\e1.Peer<=65535)))) then true else (e1.Name==e1.Peer)) then true else (!(F10 e1.Keys))) then true else (!(decide (1<=e1.Boot/\e1.Boot<=1000)))) then true else (!(F8 e1.Want))) then false else (bif (bif (bif (bif (!(decide (0<=e1.Turn/\e1.Turn<=1000000))) then true else (!(decide (0<=e1.PeerBoot/\e1.PeerBoot<=999)))) then true else (!(decide (0<=e1.PeerTurn/\e1.PeerTurn<=1000000)))) then true else (!((e1.PeerBoot==0)==(e1.PeerTurn==0)))) then false else (bif (bif (bif (!(decide (0<=e1.Left/\e1.Left<=4))) then true else (bif decide (e1.Left>0) then (e1.PeerBoot==0) else false)) then true else (bif e1.Up then (e1.Left==0) else false)) then false else (bif (bif (bif (bif (bif (bif (!(decide (0<=e1.Num/\e1.Num<=e1.Turn))) then true else (!(decide (0<=e1.Got/\e1.Got<=1000000)))) then true else (!(F34 e1.Under))) then true else (bif decide (e1.Under.Kind>0) then (e1.Num==0) else false)) then true else (!(F8 e1.Told))) then true else (!(F8 (F84 e1.Told e1.Under)))) then false else (F85 e1))))
def S76 (e1:Ud):Spec:=⟨[.r (.g (eHelloEnd e1))],.v (.bool (F76 e1)),True⟩
theorem ok76 (e1:Ud):(S76 e1).ok Try.prog 76 :=
 fnG_ok mixed (fn:=Try.f76) (ct:=.seq .no (.seq (.seq (.reg [(2,kh32a e1.Name 0 65535),(7,kh32a e1.Peer 0 65535),(20,kh10l e1.Keys),(26,kh32a e1.Boot 1 1000),(32,kh8l e1.Want)]) (.cond (.seq .no .no) .no)) (.seq (.seq (.reg [(2,kh32a e1.Turn 0 1000000),(7,kh32a e1.PeerBoot 0 999),(13,kh32a e1.PeerTurn 0 1000000)]) (.cond (.seq .no .no) .no)) (.seq (.seq (.reg [(2,kh32a e1.Left 0 4)]) (.cond (.seq .no .no) .no)) (.seq (.seq (.reg [(4,kh32a e1.Num 0 e1.Turn),(9,kh32a e1.Got 0 1000000),(15,kh34l e1.Under),(32,kh8l e1.Told),(40,kh84 e1.Told e1.Under),(41,kh8l (F84 e1.Told e1.Under))]) (.cond (.seq .no .no) .no)) (.seq (.reg [(1,kh85 e1)]) .no)))))) Try.func76 (fun (_:True)=>kc32a e1.Name 0 65535 (kg32a (!(decide (0<=e1.Name/\e1.Name<=65535))) false e1.Peer 0 65535 (kg10l (bif (bif (!(decide (0<=e1.Name/\e1.Name<=65535))) then true else (!(decide (0<=e1.Peer/\e1.Peer<=65535)))) then true else (e1.Name==e1.Peer)) false e1.Keys (kg32a (bif (bif (bif (!(decide (0<=e1.Name/\e1.Name<=65535))) then true else (!(decide (0<=e1.Peer/\e1.Peer<=65535)))) then true else (e1.Name==e1.Peer)) then true else (!(F10 e1.Keys))) false e1.Boot 1 1000 (kg8l (bif (bif (bif (bif (!(decide (0<=e1.Name/\e1.Name<=65535))) then true else (!(decide (0<=e1.Peer/\e1.Peer<=65535)))) then true else (e1.Name==e1.Peer)) then true else (!(F10 e1.Keys))) then true else (!(decide (1<=e1.Boot/\e1.Boot<=1000)))) false e1.Want (ifb (bif (bif (bif (bif (bif (!(decide (0<=e1.Name/\e1.Name<=65535))) then true else (!(decide (0<=e1.Peer/\e1.Peer<=65535)))) then true else (e1.Name==e1.Peer)) then true else (!(F10 e1.Keys))) then true else (!(decide (1<=e1.Boot/\e1.Boot<=1000)))) then true else (!(F8 e1.Want))) (fun h5=>fiB false (F76 e1) (condT h5 rfl)) (fun h5=>have _:=Qc (notEF (orF1 (orF1 (orF1 (orF1 (orF1 h5)))))); have _:=Qc (notEF (orF2 (orF1 (orF1 (orF1 (orF1 h5)))))); have _:=beqF (orF2 (orF1 (orF1 (orF1 h5)))); have _:1<=e1.Keys.length/\e1.Keys.length<=3:=keysOkS_T e1.Keys (notEF (orF2 (orF1 (orF1 h5)))); have _:=Qc (notEF (orF2 (orF1 h5))); have _:TblOk e1.Want:=tableOkS_T e1.Want (notEF (orF2 h5)); have _:e1.Want.length<=8:=tableOkS_len e1.Want (notEF (orF2 h5)); kc32a e1.Turn 0 1000000 (kg32a (!(decide (0<=e1.Turn/\e1.Turn<=1000000))) false e1.PeerBoot 0 999 (kg32a (bif (!(decide (0<=e1.Turn/\e1.Turn<=1000000))) then true else (!(decide (0<=e1.PeerBoot/\e1.PeerBoot<=999)))) false e1.PeerTurn 0 1000000 (ifb (bif (bif (bif (!(decide (0<=e1.Turn/\e1.Turn<=1000000))) then true else (!(decide (0<=e1.PeerBoot/\e1.PeerBoot<=999)))) then true else (!(decide (0<=e1.PeerTurn/\e1.PeerTurn<=1000000)))) then true else (!((e1.PeerBoot==0)==(e1.PeerTurn==0)))) (fun h8=>fiB false (F76 e1) (condF h5 (condT h8 rfl))) (fun h8=>have _:=Qc (notEF (orF1 (orF1 (orF1 h8)))); have _:=Qc (notEF (orF2 (orF1 (orF1 h8)))); have _:=Qc (notEF (orF2 (orF1 h8))); have _:=(orF2 h8); kc32a e1.Left 0 4 (ifb (bif (bif (!(decide (0<=e1.Left/\e1.Left<=4))) then true else (bif decide (e1.Left>0) then (e1.PeerBoot==0) else false)) then true else (bif e1.Up then (e1.Left==0) else false)) (fun h9=>fiB false (F76 e1) (condF h5 (condF h8 (condT h9 rfl)))) (fun h9=>have _:=Qc (notEF (orF1 (orF1 h9))); kc32a e1.Num 0 e1.Turn (kg32a (!(decide (0<=e1.Num/\e1.Num<=e1.Turn))) false e1.Got 0 1000000 (kg34l (bif (!(decide (0<=e1.Num/\e1.Num<=e1.Turn))) then true else (!(decide (0<=e1.Got/\e1.Got<=1000000)))) false e1.Under (kg8l (bif (bif (bif (!(decide (0<=e1.Num/\e1.Num<=e1.Turn))) then true else (!(decide (0<=e1.Got/\e1.Got<=1000000)))) then true else (!(F34 e1.Under))) then true else (bif decide (e1.Under.Kind>0) then (e1.Num==0) else false)) false e1.Told (kg84 (bif (bif (bif (bif (!(decide (0<=e1.Num/\e1.Num<=e1.Turn))) then true else (!(decide (0<=e1.Got/\e1.Got<=1000000)))) then true else (!(F34 e1.Under))) then true else (bif decide (e1.Under.Kind>0) then (e1.Num==0) else false)) then true else (!(F8 e1.Told))) false e1.Told e1.Under (fun k13=>have _:=Qc (notEF (orF1 (orF1 (orF1 (orF1 k13))))); have _:=Qc (notEF (orF2 (orF1 (orF1 (orF1 k13))))); have _:EIn e1.Under.Entry:=change_in e1.Under (notEF (orF2 (orF1 (orF1 k13)))); have _:TblOk e1.Told:=tableOkS_T e1.Told (notEF (orF2 k13)); have _:e1.Told.length<=8:=tableOkS_len e1.Told (notEF (orF2 k13)); uu18) (kg8l (bif (bif (bif (bif (!(decide (0<=e1.Num/\e1.Num<=e1.Turn))) then true else (!(decide (0<=e1.Got/\e1.Got<=1000000)))) then true else (!(F34 e1.Under))) then true else (bif decide (e1.Under.Kind>0) then (e1.Num==0) else false)) then true else (!(F8 e1.Told))) false (F84 e1.Told e1.Under) (ifb (bif (bif (bif (bif (bif (!(decide (0<=e1.Num/\e1.Num<=e1.Turn))) then true else (!(decide (0<=e1.Got/\e1.Got<=1000000)))) then true else (!(F34 e1.Under))) then true else (bif decide (e1.Under.Kind>0) then (e1.Num==0) else false)) then true else (!(F8 e1.Told))) then true else (!(F8 (F84 e1.Told e1.Under)))) (fun h15=>fiB false (F76 e1) (condF h5 (condF h8 (condF h9 (condT h15 rfl))))) (fun h15=>have _:=Qc (notEF (orF1 (orF1 (orF1 (orF1 (orF1 h15)))))); have _:=Qc (notEF (orF2 (orF1 (orF1 (orF1 (orF1 h15)))))); have _:EIn e1.Under.Entry:=change_in e1.Under (notEF (orF2 (orF1 (orF1 (orF1 h15))))); have _:TblOk e1.Told:=tableOkS_T e1.Told (notEF (orF2 (orF1 h15))); have _:e1.Told.length<=8:=tableOkS_len e1.Told (notEF (orF2 (orF1 h15))); have _:TblOk (F84 e1.Told e1.Under):=tableOkS_T (F84 e1.Told e1.Under) (notEF (orF2 h15)); have _:(F84 e1.Told e1.Under).length<=8:=tableOkS_len (F84 e1.Told e1.Under) (notEF (orF2 h15)); kc85 e1 (fiB (F85 e1) (F76 e1) (condF h5 (condF h8 (condF h9 (condF h15 rfl))))))))))))))))))))))))) uu3
def badR (e:Ud) (k:Nat):Bool :=
 bif (bif (!(F29 (e.Heard.getD k default).Entry)) then true else (bif decide (0<k) then (!(F30 (e.Heard.getD (k-1) default).Entry (e.Heard.getD k default).Entry)) else false)) then true else (bif (!((e.Heard.getD k default).Stale)) then (e.Left==0) else false)
def anySt (l:List Uf):Bool:=l.any (fun r=>r.Stale)
theorem heardS_eq (e:Ud):F85 e=bif (bif decide ((e.Heard.length:Int)>16) then true else (!(decide (0<=e.Keep/\e.Keep<=6)))) then false else ((first (badR e) e.Heard.length).isNone&&(anySt e.Heard==decide (e.Keep>0))):=by
 unfold F85
 have hr:=runL_rule (step:=F85_s0 e) (fun (k:Nat) (s:Bool)=>((s,(k:Int)):Bool×Int)) e.Heard.length (fun k s=>s=anySt (e.Heard.take k)/\∀ j,j<k->badR e j=false) (fun r=>r=false/\(first (badR e) e.Heard.length).isNone=false)
  (fun k s hk hI=>by
   simp only [F85_s0,ltD hk,Qd,nn,toNat_pred,pos_cast]
   cases hb:badR e k with
   | true =>
    refine .inr ⟨false,?_,rfl,?_⟩
    ·have hb':=hb
     unfold badR at hb'
     rw [hb']; rfl
    ·cases hn:first (badR e) e.Heard.length with
     | none=>rw [first_none.1 hn k hk] at hb; cases hb
     | some _=>rfl
   | false =>
    have hb':=hb
    unfold badR at hb'
    rw [hb',Qj]
    refine .inl ⟨_,rfl,?_,fun j hj=>?_⟩
    ·rw [hI.1,take_next hk]
     unfold anySt
     rw [List.any_append]
     cases (e.Heard.take k).any (fun r=>r.Stale) <;> simp
    ·rcases Te j k with h | h
     ·exact hI.2 j h
     ·have:j=k:=by omega
      rw [this]; exact hb)
  (fun s _=>by simp [F85_s0])
  e.Heard.length 0 false uu0 ⟨rfl,fun j hj=>absurd hj (Ga _)⟩ (Int.toNat ((e.Heard.length:Int)-0)+1) uu0
 congr 1
 rcases hr with ⟨s,hr,h1,h2⟩ | ⟨r,hr,h1,h2⟩
 ·have hr':runL (F85_s0 e) (Int.toNat ((e.Heard.length:Int)-0)+1) (false,0)=_:=hr
  rw [hr']
  have:(first (badR e) e.Heard.length).isNone=true:=by rw [first_none.2 h2]; rfl
  rw [this,Bool.true_and]
  show (s==_)=_
  rw [h1,List.take_length]
 ·have hr':runL (F85_s0 e) (Int.toNat ((e.Heard.length:Int)-0)+1) (false,0)=_:=hr
  rw [hr',h2]
  show r=_
  rw [h1]; rfl
theorem change_kind {c:HelloChange} (h:F34 c=true):c.Kind=0\/c.Kind=1\/c.Kind=2\/c.Kind=3:=by
 unfold F34 at h
 by_cases h0:c.Kind=0
 ·exact .inl h0
 by_cases h1:c.Kind=1
 ·exact .inr (.inl h1)
 by_cases h2:c.Kind=2
 ·exact .inr (.inr (.inl h2))
 by_cases h3:c.Kind=3
 ·exact .inr (.inr (.inr h3))
 have e0:(c.Kind==0)=false:=by simpa using h0
 have e1:(c.Kind==1)=false:=by simpa using h1
 have e2:(c.Kind==2)=false:=by simpa using h2
 have e3:(c.Kind==3)=false:=by simpa using h3
 rw [e0,e1,e2,e3] at h
 cases h
def smallE (e:Ud):Prop:=e.Keys.length<=1000000000/\e.Want.length<=1000000000/\e.Told.length<=1000000000/\e.Heard.length<=1000000000
theorem endOkS_T (e:Ud) (h:F76 e=true):1<=e.Keys.length/\e.Keys.length<=3/\e.Want.length<=8/\e.Told.length<=8/\e.Heard.length<=16:=by
 have h1:F10 e.Keys=true:=by
  cases x:F10 e.Keys with
  | true=>rfl
  | false=>simp [F76,x] at h
 have h2:F8 e.Want=true:=by
  cases x:F8 e.Want with
  | true=>rfl
  | false=>simp [F76,x] at h
 have h3:F8 e.Told=true:=by
  cases x:F8 e.Told with
  | true=>rfl
  | false=>simp [F76,x] at h
 have h4:F85 e=true:=by
  cases x:F85 e with
  | true=>rfl
  | false=>simp [F76,x] at h
 have a1:=keysOkS_T _ h1
 have a2:=tableOkS_len _ h2
 have a3:=tableOkS_len _ h3
 rw [heardS_eq] at h4
 have a4:¬ (e.Heard.length:Int)>16:=fun hc=>by rw [Qv hc] at h4; cases h4
 omega
def F44 (list:List HelloKey):List HelloKey :=
 (([]:List HelloKey)++list)
theorem fi44 (list:List HelloKey) (r:List HelloKey) (hF:r=(F44 list)):(Imp (.l 2 eHelloKey r) (.l 2 eHelloKey (F44 list)))/\True:=by cases hF; exact ⟨Imp.refl _,trivial⟩
def S44 (R:List HelloKey) (list:List HelloKey):Spec:=⟨[.r (.c (.l 2 eHelloKey list))],.ow (.l 2 eHelloKey R),list.length<=1000000000⟩
theorem ok44 (list:List HelloKey):(S44 (F44 list) list).ok Try.prog 44 :=
 fnG_ok mixed (fn:=Try.f44) (ct:=.seqk [(0,0)] .no (.seq (.reg [(0,.dat (.l 2 eHelloKey ([]:List HelloKey))),(2,.dat (.l 2 eHelloKey (([]:List HelloKey)++list)))]) .no)) Try.func44 (fun (hpre0:list.length<=1000000000)=>kn list fun _=>ai (bokr 2 eHelloKey ([]:List HelloKey) fun _=>rfl) (ai (AppL.mk eHelloKey ([]:List HelloKey) list (Imp.refl (.l 2 eHelloKey ([]:List HelloKey))) ir (fun y=>⟨rfl,fun e he=>by simp only [eHelloKey,Qo,Rj,Sz] at he; rcases he with rfl | rfl <;> exact ⟨_,rfl⟩⟩):AppL (.l 2 eHelloKey ([]:List HelloKey)) (.l 2 eHelloKey list) 2 (.l 2 eHelloKey (([]:List HelloKey)++list))) (ai (uu8:(([]:List HelloKey)++list).length*16<=140737488355328) (fi44 list (([]:List HelloKey)++list) rfl)))) uu3
theorem as44 (list:List HelloKey):F44 list=(list):=by
 rfl
theorem oa44 (list:List HelloKey):(S44 (list) list).ok Try.prog 44:=by
 intro hp; have h:=ok44 list hp; rw [as44 list] at h; exact h
def F59 (list:List Uf):List Uf :=
 (([]:List Uf)++list)
theorem fi59 (list:List Uf) (r:List Uf) (hF:r=(F59 list)):(Imp (.l 5 eHelloRoute r) (.l 5 eHelloRoute (F59 list)))/\True:=by cases hF; exact ⟨Imp.refl _,trivial⟩
def S59 (R:List Uf) (list:List Uf):Spec:=⟨[.r (.c (.l 5 eHelloRoute list))],.ow (.l 5 eHelloRoute R),list.length<=1000000000⟩
theorem ok59 (list:List Uf):(S59 (F59 list) list).ok Try.prog 59 :=
 fnG_ok mixed (fn:=Try.f59) (ct:=.seqk [(0,0)] .no (.seq (.reg [(0,.dat (.l 5 eHelloRoute ([]:List Uf))),(2,.dat (.l 5 eHelloRoute (([]:List Uf)++list)))]) .no)) Try.func59 (fun (hpre0:list.length<=1000000000)=>kn list fun _=>ai (bokr 5 eHelloRoute ([]:List Uf) fun _=>rfl) (ai (AppL.mk eHelloRoute ([]:List Uf) list (Imp.refl (.l 5 eHelloRoute ([]:List Uf))) ir (fun y=>⟨rfl,fun e he=>by simp only [eHelloRoute,Qo,Rj,Sz] at he; rcases he with rfl | rfl | rfl | rfl | rfl <;> exact ⟨_,rfl⟩⟩):AppL (.l 5 eHelloRoute ([]:List Uf)) (.l 5 eHelloRoute list) 5 (.l 5 eHelloRoute (([]:List Uf)++list))) (ai (uu8:(([]:List Uf)++list).length*40<=140737488355328) (fi59 list (([]:List Uf)++list) rfl)))) uu3
theorem as59 (list:List Uf):F59 list=(list):=by
 rfl
theorem oa59 (list:List Uf):(S59 (list) list).ok Try.prog 59:=by
 intro hp; have h:=ok59 list hp; rw [as59 list] at h; exact h
theorem kc44a (list:List HelloKey) {K_:Prop} (p0_:list.length<=1000000000) (k_:K_):(list.length<=1000000000)/\(Imp (.l 2 eHelloKey list) (.l 2 eHelloKey list))/\K_:=⟨p0_,Imp.refl _,k_⟩
abbrev kh44a (list:List HelloKey):Hint true Try.prog:=.call 44 (S44 list list) (oa44 list) none
theorem kc59a (list:List Uf) {K_:Prop} (p0_:list.length<=1000000000) (k_:K_):(list.length<=1000000000)/\(Imp (.l 5 eHelloRoute list) (.l 5 eHelloRoute list))/\K_:=⟨p0_,Imp.refl _,k_⟩
abbrev kh59a (list:List Uf):Hint true Try.prog:=.call 59 (S59 list list) (oa59 list) none
def F63 (e1:Ud):Ud :=
 e1
theorem fi63 (e1:Ud) (r:Ud) (hF:r=(F63 e1)):((.int .i64 r.Name:Value)=.int .i64 (F63 e1).Name)/\((.int .i64 r.Peer:Value)=.int .i64 (F63 e1).Peer)/\(Imp (.l 2 eHelloKey r.Keys) (.l 2 eHelloKey (F63 e1).Keys))/\((.int .i64 r.Boot:Value)=.int .i64 (F63 e1).Boot)/\(Imp (.l 4 eHelloEntry r.Want) (.l 4 eHelloEntry (F63 e1).Want))/\((.int .i64 r.Turn:Value)=.int .i64 (F63 e1).Turn)/\((.int .i64 r.PeerBoot:Value)=.int .i64 (F63 e1).PeerBoot)/\((.int .i64 r.PeerTurn:Value)=.int .i64 (F63 e1).PeerTurn)/\((.bool r.Up:Value)=.bool (F63 e1).Up)/\((.int .i64 r.Left:Value)=.int .i64 (F63 e1).Left)/\((.int .i64 r.Num:Value)=.int .i64 (F63 e1).Num)/\((.int .i64 r.Under.Kind:Value)=.int .i64 (F63 e1).Under.Kind)/\((.int .i64 r.Under.Entry.Addr:Value)=.int .i64 (F63 e1).Under.Entry.Addr)/\((.int .i64 r.Under.Entry.Len:Value)=.int .i64 (F63 e1).Under.Entry.Len)/\((.int .i64 r.Under.Entry.Cost:Value)=.int .i64 (F63 e1).Under.Entry.Cost)/\((.int .i64 r.Under.Entry.Label:Value)=.int .i64 (F63 e1).Under.Entry.Label)/\(Imp (.l 4 eHelloEntry r.Told) (.l 4 eHelloEntry (F63 e1).Told))/\((.bool r.All:Value)=.bool (F63 e1).All)/\((.int .i64 r.Got:Value)=.int .i64 (F63 e1).Got)/\((.bool r.Full:Value)=.bool (F63 e1).Full)/\(Imp (.l 5 eHelloRoute r.Heard) (.l 5 eHelloRoute (F63 e1).Heard))/\((.int .i64 r.Keep:Value)=.int .i64 (F63 e1).Keep)/\True:=by cases hF; exact ⟨rfl,rfl,Imp.refl _,rfl,Imp.refl _,rfl,rfl,rfl,rfl,rfl,rfl,rfl,rfl,rfl,rfl,rfl,Imp.refl _,rfl,rfl,rfl,Imp.refl _,rfl,trivial⟩
def S63 (R:Ud) (e1:Ud):Spec:=⟨[.r (.g (eHelloEnd e1))],.ag [.v (vI R.Name),.v (vI R.Peer),.ow (.l 2 eHelloKey R.Keys),.v (vI R.Boot),.ow (.l 4 eHelloEntry R.Want),.v (vI R.Turn),.v (vI R.PeerBoot),.v (vI R.PeerTurn),.v (.bool R.Up),.v (vI R.Left),.v (vI R.Num),.v (vI R.Under.Kind),.v (vI R.Under.Entry.Addr),.v (vI R.Under.Entry.Len),.v (vI R.Under.Entry.Cost),.v (vI R.Under.Entry.Label),.ow (.l 4 eHelloEntry R.Told),.v (.bool R.All),.v (vI R.Got),.v (.bool R.Full),.ow (.l 5 eHelloRoute R.Heard),.v (vI R.Keep)],smallE e1⟩
theorem ok63 (e1:Ud):(S63 (F63 e1) e1).ok Try.prog 63 :=
 fnG_ok mixed (fn:=Try.f63) (ct:=.seq .no (.seq (.reg [(2,kh44a e1.Keys)]) (.seq (.reg [(2,kh42a e1.Want)]) (.seq (.reg [(2,kh42a e1.Told)]) (.seq (.reg [(2,kh59a e1.Heard)]) (.seq .no .no)))))) Try.func63 (fun (hpre0:smallE e1)=>kc44a e1.Keys uu18 (kc42a e1.Want uu18 (kc42a e1.Told uu18 (kc59a e1.Heard uu18 (fi63 e1 e1 rfl))))) uu3
theorem as63 (e1:Ud):F63 e1=(e1):=by
 rfl
theorem oa63 (e1:Ud):(S63 (e1) e1).ok Try.prog 63:=by
 intro hp; have h:=ok63 e1 hp; rw [as63 e1] at h; exact h
def F70 (name:Int) (peer:Int) (keys:List HelloKey) (boot:Int) (want:List Ue):Ud :=
 bif (!(F76 ⟨name,peer,keys,boot,want,0,0,0,false,0,0,(⟨0,(⟨0,0,0,0⟩:Ue)⟩:HelloChange),[],false,0,false,[],0⟩)) then (⟨0,0,[],0,[],0,0,0,false,0,0,(⟨0,(⟨0,0,0,0⟩:Ue)⟩:HelloChange),[],false,0,false,[],0⟩:Ud) else (⟨name,peer,keys,boot,want,0,0,0,false,0,0,(⟨0,(⟨0,0,0,0⟩:Ue)⟩:HelloChange),[],false,0,false,[],0⟩:Ud)
theorem fi70 (name:Int) (peer:Int) (keys:List HelloKey) (boot:Int) (want:List Ue) (r:Ud) (hF:r=(F70 name peer keys boot want)):((.int .i64 r.Name:Value)=.int .i64 (F70 name peer keys boot want).Name)/\((.int .i64 r.Peer:Value)=.int .i64 (F70 name peer keys boot want).Peer)/\(Imp (.l 2 eHelloKey r.Keys) (.l 2 eHelloKey (F70 name peer keys boot want).Keys))/\((.int .i64 r.Boot:Value)=.int .i64 (F70 name peer keys boot want).Boot)/\(Imp (.l 4 eHelloEntry r.Want) (.l 4 eHelloEntry (F70 name peer keys boot want).Want))/\((.int .i64 r.Turn:Value)=.int .i64 (F70 name peer keys boot want).Turn)/\((.int .i64 r.PeerBoot:Value)=.int .i64 (F70 name peer keys boot want).PeerBoot)/\((.int .i64 r.PeerTurn:Value)=.int .i64 (F70 name peer keys boot want).PeerTurn)/\((.bool r.Up:Value)=.bool (F70 name peer keys boot want).Up)/\((.int .i64 r.Left:Value)=.int .i64 (F70 name peer keys boot want).Left)/\((.int .i64 r.Num:Value)=.int .i64 (F70 name peer keys boot want).Num)/\((.int .i64 r.Under.Kind:Value)=.int .i64 (F70 name peer keys boot want).Under.Kind)/\((.int .i64 r.Under.Entry.Addr:Value)=.int .i64 (F70 name peer keys boot want).Under.Entry.Addr)/\((.int .i64 r.Under.Entry.Len:Value)=.int .i64 (F70 name peer keys boot want).Under.Entry.Len)/\((.int .i64 r.Under.Entry.Cost:Value)=.int .i64 (F70 name peer keys boot want).Under.Entry.Cost)/\((.int .i64 r.Under.Entry.Label:Value)=.int .i64 (F70 name peer keys boot want).Under.Entry.Label)/\(Imp (.l 4 eHelloEntry r.Told) (.l 4 eHelloEntry (F70 name peer keys boot want).Told))/\((.bool r.All:Value)=.bool (F70 name peer keys boot want).All)/\((.int .i64 r.Got:Value)=.int .i64 (F70 name peer keys boot want).Got)/\((.bool r.Full:Value)=.bool (F70 name peer keys boot want).Full)/\(Imp (.l 5 eHelloRoute r.Heard) (.l 5 eHelloRoute (F70 name peer keys boot want).Heard))/\((.int .i64 r.Keep:Value)=.int .i64 (F70 name peer keys boot want).Keep)/\True:=by cases hF; exact ⟨rfl,rfl,Imp.refl _,rfl,Imp.refl _,rfl,rfl,rfl,rfl,rfl,rfl,rfl,rfl,rfl,rfl,rfl,Imp.refl _,rfl,rfl,rfl,Imp.refl _,rfl,trivial⟩
def S70 (name:Int) (peer:Int) (keys:List HelloKey) (boot:Int) (want:List Ue):Spec:=⟨[.r (.c (.v (vI name))),.r (.c (.v (vI peer))),.r (.c (.l 2 eHelloKey keys)),.r (.c (.v (vI boot))),.r (.c (.l 4 eHelloEntry want))],.ag [.v (vI (F70 name peer keys boot want).Name),.v (vI (F70 name peer keys boot want).Peer),.ow (.l 2 eHelloKey (F70 name peer keys boot want).Keys),.v (vI (F70 name peer keys boot want).Boot),.ow (.l 4 eHelloEntry (F70 name peer keys boot want).Want),.v (vI (F70 name peer keys boot want).Turn),.v (vI (F70 name peer keys boot want).PeerBoot),.v (vI (F70 name peer keys boot want).PeerTurn),.v (.bool (F70 name peer keys boot want).Up),.v (vI (F70 name peer keys boot want).Left),.v (vI (F70 name peer keys boot want).Num),.v (vI (F70 name peer keys boot want).Under.Kind),.v (vI (F70 name peer keys boot want).Under.Entry.Addr),.v (vI (F70 name peer keys boot want).Under.Entry.Len),.v (vI (F70 name peer keys boot want).Under.Entry.Cost),.v (vI (F70 name peer keys boot want).Under.Entry.Label),.ow (.l 4 eHelloEntry (F70 name peer keys boot want).Told),.v (.bool (F70 name peer keys boot want).All),.v (vI (F70 name peer keys boot want).Got),.v (.bool (F70 name peer keys boot want).Full),.ow (.l 5 eHelloRoute (F70 name peer keys boot want).Heard),.v (vI (F70 name peer keys boot want).Keep)],keys.length<=1000000000/\want.length<=1000000000⟩
abbrev q70_1 (name:Int) (peer:Int) (keys:List HelloKey) (boot:Int) (want:List Ue):=(⟨name,peer,keys,boot,want,0,0,0,false,0,0,(⟨0,(⟨0,0,0,0⟩:Ue)⟩:HelloChange),[],false,0,false,[],0⟩:Ud)
theorem ok70 (name:Int) (peer:Int) (keys:List HelloKey) (boot:Int) (want:List Ue):(S70 name peer keys boot want).ok Try.prog 70 :=
 fnG_ok mixed (fn:=Try.f70) (ct:=.seqk [(2,0),(4,0)] .no (.seq (.reg [(6,.call 63 (S63 (q70_1 name peer keys boot want) (q70_1 name peer keys boot want)) (oa63 (q70_1 name peer keys boot want)) none)]) (.seq (.seq (.reg [(1,.call 76 (S76 (q70_1 name peer keys boot want)) (ok76 (q70_1 name peer keys boot want)) none)]) (.cond (.seq .no .no) .no)) (.seq .no .no)))) Try.func70 (fun (hp:keys.length<=1000000000/\want.length<=1000000000)=>have hpre0:=hp.1; have hpre1:=hp.2; kn keys fun _=>kn want fun _=>ai (uu17:smallE (q70_1 name peer keys boot want)) (ai (ai (Imp.refl (.v (vI name))) (ai (Imp.refl (.v (vI peer))) (ai (Imp.refl (.l 2 eHelloKey keys)) (ai (Imp.refl (.v (vI boot))) (ai (Imp.refl (.l 4 eHelloEntry want)) (ai (Imp.refl (.v (vI 0))) (ai (Imp.refl (.v (vI 0))) (ai (Imp.refl (.v (vI 0))) (ai (Imp.refl (.v (.bool false))) (ai (Imp.refl (.v (vI 0))) (ai (Imp.refl (.v (vI 0))) (ai (Imp.refl (.v (vI 0))) (ai (Imp.refl (.v (vI 0))) (ai (Imp.refl (.v (vI 0))) (ai (Imp.refl (.v (vI 0))) (ai (Imp.refl (.v (vI 0))) (ai (Imp.nil 4 eHelloEntry) (ai (Imp.refl (.v (.bool false))) (ai (Imp.refl (.v (vI 0))) (ai (Imp.refl (.v (.bool false))) (ai (Imp.nil 5 eHelloRoute) (ai (Imp.refl (.v (vI 0))) trivial)))))))))))))))))))))) (ai trivial (ai (Imps.refl (eHelloEnd (q70_1 name peer keys boot want))) (ifb (!(F76 (q70_1 name peer keys boot want))) (fun h1=>(fun hF:((⟨0,0,[],0,[],0,0,0,false,0,0,(⟨0,(⟨0,0,0,0⟩:Ue)⟩:HelloChange),[],false,0,false,[],0⟩:Ud):Ud)=(F70 name peer keys boot want)=>ai (Qa (fun r:Ud=>(.int .i64 r.Name:Value)) hF) (ai (Qa (fun r:Ud=>(.int .i64 r.Peer:Value)) hF) (ai ((Imp.nil 2 eHelloKey).trans (Imp.of_eq (Qa (fun r:Ud=>Dat.l 2 eHelloKey r.Keys) hF))) (ai (Qa (fun r:Ud=>(.int .i64 r.Boot:Value)) hF) (ai ((Imp.nil 4 eHelloEntry).trans (Imp.of_eq (Qa (fun r:Ud=>Dat.l 4 eHelloEntry r.Want) hF))) (ai (Qa (fun r:Ud=>(.int .i64 r.Turn:Value)) hF) (ai (Qa (fun r:Ud=>(.int .i64 r.PeerBoot:Value)) hF) (ai (Qa (fun r:Ud=>(.int .i64 r.PeerTurn:Value)) hF) (ai (Qa (fun r:Ud=>(.bool r.Up:Value)) hF) (ai (Qa (fun r:Ud=>(.int .i64 r.Left:Value)) hF) (ai (Qa (fun r:Ud=>(.int .i64 r.Num:Value)) hF) (ai (Qa (fun r:Ud=>(.int .i64 r.Under.Kind:Value)) hF) (ai (Qa (fun r:Ud=>(.int .i64 r.Under.Entry.Addr:Value)) hF) (ai (Qa (fun r:Ud=>(.int .i64 r.Under.Entry.Len:Value)) hF) (ai (Qa (fun r:Ud=>(.int .i64 r.Under.Entry.Cost:Value)) hF) (ai (Qa (fun r:Ud=>(.int .i64 r.Under.Entry.Label:Value)) hF) (ai ((Imp.nil 4 eHelloEntry).trans (Imp.of_eq (Qa (fun r:Ud=>Dat.l 4 eHelloEntry r.Told) hF))) (ai (Qa (fun r:Ud=>(.bool r.All:Value)) hF) (ai (Qa (fun r:Ud=>(.int .i64 r.Got:Value)) hF) (ai (Qa (fun r:Ud=>(.bool r.Full:Value)) hF) (ai ((Imp.nil 5 eHelloRoute).trans (Imp.of_eq (Qa (fun r:Ud=>Dat.l 5 eHelloRoute r.Heard) hF))) (ai (Qa (fun r:Ud=>(.int .i64 r.Keep:Value)) hF) trivial)))))))))))))))))))))) (condT h1 rfl)) (fun h1=>have _:1<=keys.length/\keys.length<=3/\want.length<=8/\([]).length<=8/\([]).length<=16:=endOkS_T (q70_1 name peer keys boot want) (notEF h1); fi70 name peer keys boot want (q70_1 name peer keys boot want) (condF h1 rfl))))))) uu3
structure Uc where
 Up:Bool
 End:Ud
 deriving DecidableEq,Inhabited
def eHelloSide (x:Uc):List Dat:=[.v (.bool x.Up),.v (vI x.End.Name),.v (vI x.End.Peer),.l 2 eHelloKey x.End.Keys,.v (vI x.End.Boot),.l 4 eHelloEntry x.End.Want,.v (vI x.End.Turn),.v (vI x.End.PeerBoot),.v (vI x.End.PeerTurn),.v (.bool x.End.Up),.v (vI x.End.Left),.v (vI x.End.Num),.v (vI x.End.Under.Kind),.v (vI x.End.Under.Entry.Addr),.v (vI x.End.Under.Entry.Len),.v (vI x.End.Under.Entry.Cost),.v (vI x.End.Under.Entry.Label),.l 4 eHelloEntry x.End.Told,.v (.bool x.End.All),.v (vI x.End.Got),.v (.bool x.End.Full),.l 5 eHelloRoute x.End.Heard,.v (vI x.End.Keep)]
theorem kc76l (e1:Ud) {K_:Prop} (k_:K_):(True)/\(Imps (eHelloEnd e1) (eHelloEnd e1))/\K_:=⟨trivial,Imps.refl _,k_⟩
abbrev kh76l (e1:Ud):Hint true Try.prog:=.call 76 (S76 e1) (ok76 e1) none
def F71 (s:Uc):Bool :=
 bif (!(F76 s.End)) then false else (bif s.Up then true else (bif (bif (bif (bif (bif (bif (bif (bif (bif (s.End.Turn==0) then (s.End.PeerBoot==0) else false) then (!s.End.Up) else false) then (s.End.Num==0) else false) then (s.End.Under.Kind==0) else false) then ((s.End.Told.length:Int)==0) else false) then (!s.End.All) else false) then (s.End.Got==0) else false) then (!s.End.Full) else false) then ((s.End.Heard.length:Int)==0) else false))
def S71 (s:Uc):Spec:=⟨[.r (.g (eHelloSide s))],.v (.bool (F71 s)),True⟩
theorem ok71 (s:Uc):(S71 s).ok Try.prog 71 :=
 fnG_ok mixed (fn:=Try.f71) (ct:=.seq .no (.seq .no (.seq (.seq (.reg [(1,kh76l s.End)]) (.cond (.seq .no .no) .no)) (.seq .no .no)))) Try.func71 (fun (_:True)=>kc76l s.End (ifb (!(F76 s.End)) (fun h1=>fiB false (F71 s) (condT h1 rfl)) (fun h1=>have _:1<=s.End.Keys.length/\s.End.Keys.length<=3/\s.End.Want.length<=8/\s.End.Told.length<=8/\s.End.Heard.length<=16:=endOkS_T s.End (notEF h1); fiB (bif s.Up then true else (bif (bif (bif (bif (bif (bif (bif (bif (bif (s.End.Turn==0) then (s.End.PeerBoot==0) else false) then (!s.End.Up) else false) then (s.End.Num==0) else false) then (s.End.Under.Kind==0) else false) then ((s.End.Told.length:Int)==0) else false) then (!s.End.All) else false) then (s.End.Got==0) else false) then (!s.End.Full) else false) then ((s.End.Heard.length:Int)==0) else false)) (F71 s) (condF h1 rfl)))) uu3
structure HelloWord where
 From:Int
 To:Int
 Key:Int
 Boot:Int
 Yours:Int
 Turn:Int
 Num:Int
 Heard:Int
 Change:HelloChange
 Sum:Int
 deriving DecidableEq,Inhabited
def eHelloWord (x:HelloWord):List Dat:=[.v (vI x.From),.v (vI x.To),.v (vI x.Key),.v (vI x.Boot),.v (vI x.Yours),.v (vI x.Turn),.v (vI x.Num),.v (vI x.Heard),.v (vI x.Change.Kind),.v (vI x.Change.Entry.Addr),.v (vI x.Change.Entry.Len),.v (vI x.Change.Entry.Cost),.v (vI x.Change.Entry.Label),.v (vI x.Sum)]
def F12 (w1:HelloWord):Bool :=
 bif (bif (bif (bif (bif (!(decide (0<=w1.From/\w1.From<=65535))) then true else (!(decide (0<=w1.To/\w1.To<=65535)))) then true else (!(decide (1<=w1.Key/\w1.Key<=9)))) then true else (!(decide (1<=w1.Boot/\w1.Boot<=999)))) then true else (!(decide (0<=w1.Yours/\w1.Yours<=999)))) then false else (bif (bif (bif (bif (!(decide (1<=w1.Turn/\w1.Turn<=1000000))) then true else (!(decide (0<=w1.Num/\w1.Num<=w1.Turn)))) then true else (!(decide (0<=w1.Heard/\w1.Heard<=1000000)))) then true else (!(decide (0<=w1.Sum/\w1.Sum<=2147483646)))) then false else (bif (F34 w1.Change) then (bif (w1.Change.Kind==0) then true else decide (w1.Num>0)) else false))
def S12 (w1:HelloWord):Spec:=⟨[.r (.g (eHelloWord w1))],.v (.bool (F12 w1)),True⟩
theorem ok12 (w1:HelloWord):(S12 w1).ok Try.prog 12 :=
 fnG_ok mixed (fn:=Try.f12) (ct:=.seq .no (.seq (.seq (.reg [(2,kh32a w1.From 0 65535),(7,kh32a w1.To 0 65535),(13,kh32a w1.Key 1 9),(19,kh32a w1.Boot 1 999),(25,kh32a w1.Yours 0 999)]) (.cond (.seq .no .no) .no)) (.seq (.seq (.reg [(2,kh32a w1.Turn 1 1000000),(9,kh32a w1.Num 0 w1.Turn),(15,kh32a w1.Heard 0 1000000),(21,kh32a w1.Sum 0 2147483646)]) (.cond (.seq .no .no) .no)) (.seq (.reg [(2,kh34l w1.Change)]) .no)))) Try.func12 (fun (_:True)=>kc32a w1.From 0 65535 (kg32a (!(decide (0<=w1.From/\w1.From<=65535))) false w1.To 0 65535 (kg32a (bif (!(decide (0<=w1.From/\w1.From<=65535))) then true else (!(decide (0<=w1.To/\w1.To<=65535)))) false w1.Key 1 9 (kg32a (bif (bif (!(decide (0<=w1.From/\w1.From<=65535))) then true else (!(decide (0<=w1.To/\w1.To<=65535)))) then true else (!(decide (1<=w1.Key/\w1.Key<=9)))) false w1.Boot 1 999 (kg32a (bif (bif (bif (!(decide (0<=w1.From/\w1.From<=65535))) then true else (!(decide (0<=w1.To/\w1.To<=65535)))) then true else (!(decide (1<=w1.Key/\w1.Key<=9)))) then true else (!(decide (1<=w1.Boot/\w1.Boot<=999)))) false w1.Yours 0 999 (ifb (bif (bif (bif (bif (!(decide (0<=w1.From/\w1.From<=65535))) then true else (!(decide (0<=w1.To/\w1.To<=65535)))) then true else (!(decide (1<=w1.Key/\w1.Key<=9)))) then true else (!(decide (1<=w1.Boot/\w1.Boot<=999)))) then true else (!(decide (0<=w1.Yours/\w1.Yours<=999)))) (fun h5=>fiB false (F12 w1) (condT h5 rfl)) (fun h5=>have _:=Qc (notEF (orF1 (orF1 (orF1 (orF1 h5))))); have _:=Qc (notEF (orF2 (orF1 (orF1 (orF1 h5))))); have _:=Qc (notEF (orF2 (orF1 (orF1 h5)))); have _:=Qc (notEF (orF2 (orF1 h5))); have _:=Qc (notEF (orF2 h5)); kc32a w1.Turn 1 1000000 (kg32a (!(decide (1<=w1.Turn/\w1.Turn<=1000000))) false w1.Num 0 w1.Turn (kg32a (bif (!(decide (1<=w1.Turn/\w1.Turn<=1000000))) then true else (!(decide (0<=w1.Num/\w1.Num<=w1.Turn)))) false w1.Heard 0 1000000 (kg32a (bif (bif (!(decide (1<=w1.Turn/\w1.Turn<=1000000))) then true else (!(decide (0<=w1.Num/\w1.Num<=w1.Turn)))) then true else (!(decide (0<=w1.Heard/\w1.Heard<=1000000)))) false w1.Sum 0 2147483646 (ifb (bif (bif (bif (!(decide (1<=w1.Turn/\w1.Turn<=1000000))) then true else (!(decide (0<=w1.Num/\w1.Num<=w1.Turn)))) then true else (!(decide (0<=w1.Heard/\w1.Heard<=1000000)))) then true else (!(decide (0<=w1.Sum/\w1.Sum<=2147483646)))) (fun h9=>fiB false (F12 w1) (condF h5 (condT h9 rfl))) (fun h9=>have _:=Qc (notEF (orF1 (orF1 (orF1 h9)))); have _:=Qc (notEF (orF2 (orF1 (orF1 h9)))); have _:=Qc (notEF (orF2 (orF1 h9))); have _:=Qc (notEF (orF2 h9)); kc34l w1.Change (fiB (bif (F34 w1.Change) then (bif (w1.Change.Kind==0) then true else decide (w1.Num>0)) else false) (F12 w1) (condF h5 (condF h9 rfl))))))))))))))) uu3
structure Ub where
 Sides:List Uc
 Radio:List HelloWord
 deriving DecidableEq,Inhabited
def eHelloWorld (x:Ub):List Dat:=[.l 23 eHelloSide x.Sides,.l 14 eHelloWord x.Radio]
theorem kg71 {K_:Prop} (c_ b_:Bool) (s:Uc) (k_:K_):(c_=b_->True)/\(c_=b_->Imps (eHelloSide s) (eHelloSide s))/\K_:=⟨fun _=>trivial,fun _=>Imps.refl _,k_⟩
abbrev kh71 (s:Uc):Hint true Try.prog:=.call 71 (S71 s) (ok71 s) none
theorem kc12 (w1:HelloWord) {K_:Prop} (k_:K_):(True)/\(Imps (eHelloWord w1) (eHelloWord w1))/\K_:=⟨trivial,Imps.refl _,k_⟩
abbrev kh12 (w1:HelloWord):Hint true Try.prog:=.call 12 (S12 w1) (ok12 w1) none
def F65_s0 (w1:Ub):Int->Lp Int Bool:=fun i40 =>
 bif (decide (i40<(w1.Radio.length:Int))) then (bif (!(F12 (w1.Radio.getD i40.toNat default))) then (.ret false) else (.next (i40+1))) else (.done i40)
def F65 (w1:Ub):Bool :=
 bif (bif (bif (bif (bif (bif ((w1.Sides.length:Int) != 2) then true else (!(F71 (w1.Sides.getD (Int.toNat 0) default)))) then true else (!(F71 (w1.Sides.getD (Int.toNat 1) default)))) then true else ((w1.Sides.getD (Int.toNat 0) default).End.Name != (w1.Sides.getD (Int.toNat 1) default).End.Peer)) then true else ((w1.Sides.getD (Int.toNat 1) default).End.Name != (w1.Sides.getD (Int.toNat 0) default).End.Peer)) then true else decide ((w1.Radio.length:Int)>12)) then false else ((runL (F65_s0 w1) (((w1.Radio.length:Int)-0).toNat+1) 0).fin (fun r=>r) (fun i40=>true))
abbrev lN65_0 (w1:Ub):Nat×Int:=((((w1.Radio.length:Int)-0).toNat+1),0)
abbrev lI65_0 (w1:Ub) (m39:Nat) (i40:Int):Prop:=Int.toNat ((w1.Radio.length:Int)-i40)<m39/\(0:Int)<=i40
abbrev lX65_0 (w1:Ub):Lp Int Bool:=LpX (F65_s0 w1) (lN65_0 w1)
abbrev lJ65_0 (w1:Ub) (i:Nat×Int):Prop:=LpJ (F65_s0 w1) (lN65_0 w1) i (lI65_0 w1 i.1 i.2)
abbrev lH65_0 (w1:Ub) (i:Nat×Int) (m39:Nat) (i40:Int):Prop:=LpH (F65_s0 w1) (lN65_0 w1) i m39 i40 (lI65_0 w1 (m39+1) i40)
abbrev lE65_0 (w1:Ub) (i40:Int) (i40_:Int) (K39:Prop):Prop:=((.int .i64 i40:Value)=.int .i64 i40_)/\(Im (.l 23 eHelloSide w1.Sides))/\(Im (.l 14 eHelloWord w1.Radio))/\K39
theorem un65_0 (w1:Ub) (i:Nat×Int) (h:lJ65_0 w1 i):lH65_0 w1 i (i.1-1) i.2:=⟨hd1 h.1 h.2.1,hd3 h.2.1,hd2 h.2.1,h.2.2⟩
theorem bk65_0 (w1:Ub) (i:Nat×Int) (m39:Nat) (i40:Int) (hl:m39<i.1) (e:runL (F65_s0 w1) m39 i40=lX65_0 w1) (h:lI65_0 w1 m39 i40):∃ j:Nat×Int,lE65_0 w1 i40 j.2 (lJ65_0 w1 j/\j.1<i.1):=⟨(m39,i40),rfl,Imp.refl _,Imp.refl _,⟨e,h⟩,hl⟩
theorem en65_0 (w1:Ub) (h:(0:Int)<=0):lE65_0 w1 0 0 (lJ65_0 w1 (lN65_0 w1)):=⟨rfl,Imp.refl _,Imp.refl _,rfl,Qr _,h⟩
def S65 (w1:Ub):Spec:=⟨[.r (.g (eHelloWorld w1))],.v (.bool (F65 w1)),True⟩
abbrev q65_1 (w1:Ub):=(w1.Sides.getD (Int.toNat 0) default)
abbrev q65_2 (w1:Ub):=(w1.Sides.getD (Int.toNat 1) default)
theorem ok65 (w1:Ub):(S65 w1).ok Try.prog 65 :=
 fnG_ok mixed (fn:=Try.f65) (ct:=.seq .no (.seq (.seq (.reg [(9,kh71 (q65_1 w1)),(17,kh71 (q65_2 w1))]) (.cond (.seq .no .no) .no)) (.seq (.seqk [(1,0),(1,1)] .no (.blk (.loop (ι:=Nat×Int) (fun i=>(fun (i40:Int)=>(⟨[(1,some (.p 0 0)),(3,some (.v (vI i40)))],[(0,some (.box 82 [.h 1 0,.h 2 0])),(1,some (.shr none (.l 23 eHelloSide w1.Sides))),(2,some (.shr none (.l 14 eHelloWord w1.Radio)))],3⟩:St)) i.2) (lJ65_0 w1) (fun i=>i.1) (lN65_0 w1) (fun i=>(fun (i40:Int)=>(.seq (.seq .no (.cond .no .no)) (.seq (.blk (.seq (.reg [(5,kh12 (w1.Radio.getD i40.toNat default))]) (.cond (.seq .no .no) .no))) (.reg [(1,.bnd)])))) i.2)))) (.seq .no .no)))) Try.func65 (fun (_:True)=>ai (fun k1:((w1.Sides.length:Int) != 2)=false=>have _:=bneF k1; (uu0:ib 0 w1.Sides)) (kg71 ((w1.Sides.length:Int) != 2) false (q65_1 w1) (ai (fun k3:(bif ((w1.Sides.length:Int) != 2) then true else (!(F71 (q65_1 w1))))=false=>have _:=bneF (orF1 k3); (uu0:ib 1 w1.Sides)) (kg71 (bif ((w1.Sides.length:Int) != 2) then true else (!(F71 (q65_1 w1)))) false (q65_2 w1) (ai (fun k5:(bif (bif ((w1.Sides.length:Int) != 2) then true else (!(F71 (q65_1 w1)))) then true else (!(F71 (q65_2 w1))))=false=>have _:=bneF (orF1 (orF1 k5)); (uu0:ib 0 w1.Sides)) (ai (fun k6:(bif (bif ((w1.Sides.length:Int) != 2) then true else (!(F71 (q65_1 w1)))) then true else (!(F71 (q65_2 w1))))=false=>have _:=bneF (orF1 (orF1 k6)); (uu0:ib 1 w1.Sides)) (ai (fun k7:(bif (bif (bif ((w1.Sides.length:Int) != 2) then true else (!(F71 (q65_1 w1)))) then true else (!(F71 (q65_2 w1)))) then true else ((q65_1 w1).End.Name != (q65_2 w1).End.Peer))=false=>have _:=bneF (orF1 (orF1 (orF1 k7))); have _:=bneF (orF2 k7); (uu0:ib 1 w1.Sides)) (ai (fun k8:(bif (bif (bif ((w1.Sides.length:Int) != 2) then true else (!(F71 (q65_1 w1)))) then true else (!(F71 (q65_2 w1)))) then true else ((q65_1 w1).End.Name != (q65_2 w1).End.Peer))=false=>have _:=bneF (orF1 (orF1 (orF1 k8))); have _:=bneF (orF2 k8); (uu0:ib 0 w1.Sides)) (ifb (bif (bif (bif (bif (bif ((w1.Sides.length:Int) != 2) then true else (!(F71 (q65_1 w1)))) then true else (!(F71 (q65_2 w1)))) then true else ((q65_1 w1).End.Name != (q65_2 w1).End.Peer)) then true else ((q65_2 w1).End.Name != (q65_1 w1).End.Peer)) then true else decide ((w1.Radio.length:Int)>12)) (fun h9=>fiB false (F65 w1) (condT h9 rfl)) (fun h9=>have _:=bneF (orF1 (orF1 (orF1 (orF1 (orF1 h9))))); have _:=bneF (orF2 (orF1 (orF1 h9))); have _:=bneF (orF2 (orF1 h9)); have _:=Re (orF2 h9); kn w1.Sides fun _=>kn w1.Radio fun _=>ai (en65_0 w1 uu0) (fun (i0:Nat×Int) (hi0:lJ65_0 w1 i0)=>(fun (m0:Nat) (i40:Int) (hh0:lH65_0 w1 i0 m0 i40)=>have hI0:=hh0.1; have hl0:=hh0.2.1; have _:=hh0.2.2.1; have _:=hh0.2.2.2; ifd (i40<(w1.Radio.length:Int)) (fun h11 _=>ai (uu0:ib i40 w1.Radio) (kc12 (w1.Radio.getD i40.toNat default) (ifb (!(F12 (w1.Radio.getD i40.toNat default))) (fun h12=>fiB false (F65 w1) (condF h9 (finR (runL_ret hI0 (condT h11 (condT h12 rfl))) rfl))) (fun h12=>ai (iok (i40+1) uu0) (bk65_0 w1 i0 m0 (i40+1) hl0 (runL_next hI0 (condT h11 (condF h12 rfl))) uu10))))) (fun h11 _=>have hD0_13:lX65_0 w1=Lp.done i40:=runL_done hI0 (condF h11 rfl); fiB true (F65 w1) (condF h9 (finD hD0_13 rfl)))) (i0.1-1) i0.2 (un65_0 w1 i0 hi0)))))))))))) uu3
theorem kc33l (c:HelloChange) {K_:Prop} (k_:K_):(True)/\(Imps (eHelloChange c) (eHelloChange c))/\K_:=⟨trivial,Imps.refl _,k_⟩
abbrev kh33l (c:HelloChange):Hint true Try.prog:=.call 33 (S33 c) (ok33 c) none
def F11 (w1:HelloWord):Bool :=
 bif (bif (bif (!(decide (0<=w1.From/\w1.From<=65535))) then true else (!(decide (0<=w1.To/\w1.To<=65535)))) then true else (!(decide (1<=w1.Key/\w1.Key<=9)))) then false else (bif (bif (bif (!(decide (1<=w1.Boot/\w1.Boot<=999))) then true else (!(decide (0<=w1.Yours/\w1.Yours<=999)))) then true else (!(decide (1<=w1.Turn/\w1.Turn<=1000000)))) then false else (bif (bif (bif (!(decide (0<=w1.Num/\w1.Num<=w1.Turn))) then true else (!(decide (0<=w1.Heard/\w1.Heard<=1000000)))) then true else (!(decide (0<=w1.Sum/\w1.Sum<=2147483646)))) then false else (bif (F33 w1.Change) then (bif (w1.Change.Kind==0) then true else decide (w1.Num>0)) else false)))
def S11 (w1:HelloWord):Spec:=⟨[.r (.g (eHelloWord w1))],.v (.bool (F11 w1)),True⟩
theorem ok11 (w1:HelloWord):(S11 w1).ok Try.prog 11 :=
 fnG_ok mixed (fn:=Try.f11) (ct:=.seq .no (.seq (.blk (.seq (.reg [(2,kh31a w1.From 0 65535),(7,kh31a w1.To 0 65535),(13,kh31a w1.Key 1 9)]) (.cond (.seq .no .no) (.seq (.reg [(2,kh31a w1.Boot 1 999),(7,kh31a w1.Yours 0 999),(13,kh31a w1.Turn 1 1000000)]) (.cond (.seq .no .no) (.seq (.reg [(4,kh31a w1.Num 0 w1.Turn),(9,kh31a w1.Heard 0 1000000),(15,kh31a w1.Sum 0 2147483646)]) (.cond (.seq .no .no) .no))))))) (.seq (.reg [(2,kh33l w1.Change)]) .no))) Try.func11 (fun (_:True)=>kc31a w1.From 0 65535 (kg31a (!(decide (0<=w1.From/\w1.From<=65535))) false w1.To 0 65535 (kg31a (bif (!(decide (0<=w1.From/\w1.From<=65535))) then true else (!(decide (0<=w1.To/\w1.To<=65535)))) false w1.Key 1 9 (ifb (bif (bif (!(decide (0<=w1.From/\w1.From<=65535))) then true else (!(decide (0<=w1.To/\w1.To<=65535)))) then true else (!(decide (1<=w1.Key/\w1.Key<=9)))) (fun h3=>fiB false (F11 w1) (condT h3 rfl)) (fun h3=>have _:=Qc (notEF (orF1 (orF1 h3))); have _:=Qc (notEF (orF2 (orF1 h3))); have _:=Qc (notEF (orF2 h3)); kc31a w1.Boot 1 999 (kg31a (!(decide (1<=w1.Boot/\w1.Boot<=999))) false w1.Yours 0 999 (kg31a (bif (!(decide (1<=w1.Boot/\w1.Boot<=999))) then true else (!(decide (0<=w1.Yours/\w1.Yours<=999)))) false w1.Turn 1 1000000 (ifb (bif (bif (!(decide (1<=w1.Boot/\w1.Boot<=999))) then true else (!(decide (0<=w1.Yours/\w1.Yours<=999)))) then true else (!(decide (1<=w1.Turn/\w1.Turn<=1000000)))) (fun h6=>fiB false (F11 w1) (condF h3 (condT h6 rfl))) (fun h6=>have _:=Qc (notEF (orF1 (orF1 h6))); have _:=Qc (notEF (orF2 (orF1 h6))); have _:=Qc (notEF (orF2 h6)); kc31a w1.Num 0 w1.Turn (kg31a (!(decide (0<=w1.Num/\w1.Num<=w1.Turn))) false w1.Heard 0 1000000 (kg31a (bif (!(decide (0<=w1.Num/\w1.Num<=w1.Turn))) then true else (!(decide (0<=w1.Heard/\w1.Heard<=1000000)))) false w1.Sum 0 2147483646 (ifb (bif (bif (!(decide (0<=w1.Num/\w1.Num<=w1.Turn))) then true else (!(decide (0<=w1.Heard/\w1.Heard<=1000000)))) then true else (!(decide (0<=w1.Sum/\w1.Sum<=2147483646)))) (fun h9=>fiB false (F11 w1) (condF h3 (condF h6 (condT h9 rfl)))) (fun h9=>have _:=Qc (notEF (orF1 (orF1 h9))); have _:=Qc (notEF (orF2 (orF1 h9))); have _:=Qc (notEF (orF2 h9)); kc33l w1.Change (fiB (bif (F33 w1.Change) then (bif (w1.Change.Kind==0) then true else decide (w1.Num>0)) else false) (F11 w1) (condF h3 (condF h6 (condF h9 rfl))))))))))))))))) uu3
theorem wordOk_eq (w:HelloWord):F11 w=F12 w:=by
 unfold F11 F12
 rw [changeOk_eq]
 generalize decide (0<=w.From/\w.From<=65535)=b1
 generalize decide (0<=w.To/\w.To<=65535)=b2
 generalize decide (1<=w.Key/\w.Key<=9)=b3
 generalize decide (1<=w.Boot/\w.Boot<=999)=b4
 generalize decide (0<=w.Yours/\w.Yours<=999)=b5
 generalize decide (1<=w.Turn/\w.Turn<=1000000)=b6
 generalize decide (0<=w.Num/\w.Num<=w.Turn)=b7
 generalize decide (0<=w.Heard/\w.Heard<=1000000)=b8
 generalize decide (0<=w.Sum/\w.Sum<=2147483646)=b9
 cases b1
 ·simp
 cases b2
 ·simp
 cases b3
 ·simp
 cases b4
 ·simp
 cases b5
 ·simp
 cases b6
 ·simp
 cases b7
 ·simp
 cases b8
 ·simp
 cases b9
 ·simp
 rfl
theorem endOk_facts {e:Ud} (h:F76 e=true):(e.PeerBoot=0↔e.PeerTurn=0)/\(0<=e.Left/\e.Left<=4)/\¬ (e.Left>0/\e.PeerBoot=0)/\F34 e.Under=true/\F85 e=true:=by
 have h1:((e.PeerBoot==0)==(e.PeerTurn==0))=true:=by
  cases x:((e.PeerBoot==0)==(e.PeerTurn==0)) with
  | true=>rfl
  | false=>simp only [F76,x,Sy,Bool.cond_true_right,Rr,Bool.cond_false_left,Bool.or_true,Rw,Bool.false_and,Bool.and_false] at h; cases h
 have h2:decide (0<=e.Left/\e.Left<=4)=true:=by
  cases x:decide (0<=e.Left/\e.Left<=4) with
  | true=>rfl
  | false=>simp only [F76,x,Sy,Rr,Bool.cond_false_left,Bool.true_or,Bool.or_true,Rw,Bool.false_and,Bool.and_false] at h; cases h
 have h3:(bif decide (e.Left>0) then (e.PeerBoot==0) else false)=false:=by
  cases x:(bif decide (e.Left>0) then (e.PeerBoot==0) else false) with
  | false=>rfl
  | true=>simp only [F76,x,Sy,Rr,Bool.cond_false_left,Bool.true_or,Bool.or_true,Rw,Bool.false_and,Bool.and_false] at h; cases h
 have h4:F34 e.Under=true:=by
  cases x:F34 e.Under with
  | true=>rfl
  | false=>simp [F76,x] at h
 have h5:F85 e=true:=by
  cases x:F85 e with
  | true=>rfl
  | false=>simp [F76,x] at h
 refine ⟨?_,Qc h2,?_,h4,h5⟩
 ·have:=eq_of_beq h1
  rw [beqD,beqD,Si] at this
  exact this
 ·simp only [Q9,Bool.and_eq_false_iff,T4,Tz,ne_eq] at h3
  omega
structure EndFit (e:Ud):Prop where
 told:TblOk e.Told
 want:TblOk e.Want
 under:EIn e.Under.Entry
 heard:e.Heard.length<=16
 keys:e.Keys.length<=3
theorem EndFit.heardB {e:Ud} (h:EndFit e):e.Heard.length<=1000000000:=Qs h.heard uu6
theorem EndFit.told8 {e:Ud} (h:EndFit e):e.Told.length<=8:=h.told.len
theorem EndFit.toldB {e:Ud} (h:EndFit e):e.Told.length<=1000000000:=Qs h.told.len uu6
theorem endFitS (e:Ud) (h:F76 e=true):EndFit e:=by
 have h0:=endOkS_T e h
 have h2:F8 e.Want=true:=by
  cases x:F8 e.Want with
  | true=>rfl
  | false=>simp [F76,x] at h
 have h3:F8 e.Told=true:=by
  cases x:F8 e.Told with
  | true=>rfl
  | false=>simp [F76,x] at h
 exact ⟨tableOkS_T _ h3,tableOkS_T _ h2,change_in _ (endOk_facts h).2.2.2.1,by omega,by omega⟩
theorem EndFit.wantB {e:Ud} (h:EndFit e):e.Want.length<=1000000000:=Qs h.want.len uu6
theorem EndFit.like {e x:Ud} (h:EndFit e) (h1:x.Told=e.Told) (h2:x.Want=e.Want) (h3:x.Under.Entry=e.Under.Entry) (h4:x.Heard=e.Heard) (h5:x.Keys=e.Keys):EndFit x :=
 ⟨h1 ▸ h.told,h2 ▸ h.want,h3 ▸ h.under,h4 ▸ h.heard,h5 ▸ h.keys⟩
theorem EndFit.side {w:Ub} (h:∀ k:Nat,EndFit (w.Sides.getD k default).End) (k:Nat):EndFit (w.Sides.getD k default).End:=h k
theorem endFit_default:EndFit default:=by
 have ht:TblOk []:=⟨by simp,fun k hk=>by simp at hk,fun k hk=>by simp at hk⟩
 exact ⟨ht,ht,by unfold EIn; decide,by decide,by decide⟩
theorem worldS_facts {w:Ub} (h:F65 w=true):w.Sides.length=2/\F76 (w.Sides.getD 0 default).End=true/\F76 (w.Sides.getD 1 default).End=true:=by
 have hz:Int.toNat 0=0:=rfl
 have ho:Int.toNat 1=1:=rfl
 unfold F65 at h
 rw [hz,ho] at h
 have hs:∀ s:Uc,F71 s=true->F76 s.End=true:=fun s hs=>by
  unfold F71 at hs
  cases x:F76 s.End with
  | true=>rfl
  | false=>rw [x] at hs; cases hs
 refine ⟨?_,hs _ ?_,hs _ ?_⟩
 ·by_cases x:w.Sides.length=2
  ·exact x
  ·have hb:((w.Sides.length:Int) != 2)=true:=by
    have:¬ (w.Sides.length:Int)=2:=by omega
    simpa using this
   rw [hb] at h
   simp at h
 ·cases x:F71 (w.Sides.getD 0 default) with
  | true=>rfl
  | false=>rw [x] at h; simp at h
 ·cases x:F71 (w.Sides.getD 1 default) with
  | true=>rfl
  | false=>rw [x] at h; simp at h
theorem worldS_two (w:Ub) (h:F65 w=true):w.Sides.length=2:=(worldS_facts h).1
theorem worldS_fit (w:Ub) (h:F65 w=true):∀ k:Nat,EndFit (w.Sides.getD k default).End:=fun k=>by
 obtain ⟨h1,h2,h3⟩:=worldS_facts h
 match k with
 | 0=>exact endFitS _ h2
 | 1=>exact endFitS _ h3
 | k+2 =>
  have:w.Sides.getD (k+2) default=default:=by
   rw [Qt,Tp uu0]; rfl
  rw [this]; exact endFit_default
def F94_s0 (a:List Ue) (b:List Ue):Int->Lp Int (Ue×Bool):=fun i40 =>
 bif (decide (i40<(a.length:Int))) then (bif (decide ((F97 b (a.getD i40.toNat default))<0)) then (.ret ((a.getD i40.toNat default),true)) else (.next (i40+1))) else (.done i40)
def F94 (a:List Ue) (b:List Ue):Ue×Bool :=
 (runL (F94_s0 a b) (((a.length:Int)-0).toNat+1) 0).fin (fun r=>r) (fun i40=>((⟨0,0,0,0⟩:Ue),false))
abbrev lN94_0 (a:List Ue):Nat×Int:=((((a.length:Int)-0).toNat+1),0)
abbrev lI94_0 (a:List Ue) (m39:Nat) (i40:Int):Prop:=Int.toNat ((a.length:Int)-i40)<m39/\(0:Int)<=i40
abbrev lX94_0 (a:List Ue) (b:List Ue):Lp Int (Ue×Bool):=LpX (F94_s0 a b) (lN94_0 a)
abbrev lJ94_0 (a:List Ue) (b:List Ue) (i:Nat×Int):Prop:=LpJ (F94_s0 a b) (lN94_0 a) i (lI94_0 a i.1 i.2)
abbrev lH94_0 (a:List Ue) (b:List Ue) (i:Nat×Int) (m39:Nat) (i40:Int):Prop:=LpH (F94_s0 a b) (lN94_0 a) i m39 i40 (lI94_0 a (m39+1) i40)
abbrev lE94_0 (a:List Ue) (b:List Ue) (i40:Int) (i40_:Int) (K39:Prop):Prop:=((.int .i64 i40:Value)=.int .i64 i40_)/\(Im (.l 4 eHelloEntry a))/\(Im (.l 4 eHelloEntry b))/\(Rf (.int .i64 0))/\(Rf (.int .i64 0))/\(Rf (.int .i64 0))/\(Rf (.int .i64 0))/\K39
theorem un94_0 (a:List Ue) (b:List Ue) (i:Nat×Int) (h:lJ94_0 a b i):lH94_0 a b i (i.1-1) i.2:=⟨hd1 h.1 h.2.1,hd3 h.2.1,hd2 h.2.1,h.2.2⟩
theorem bk94_0 (a:List Ue) (b:List Ue) (i:Nat×Int) (m39:Nat) (i40:Int) (hl:m39<i.1) (e:runL (F94_s0 a b) m39 i40=lX94_0 a b) (h:lI94_0 a m39 i40):∃ j:Nat×Int,lE94_0 a b i40 j.2 (lJ94_0 a b j/\j.1<i.1):=⟨(m39,i40),rfl,Imp.refl _,Imp.refl _,rfl,rfl,rfl,rfl,⟨e,h⟩,hl⟩
theorem en94_0 (a:List Ue) (b:List Ue) (h:(0:Int)<=0):lE94_0 a b 0 0 (lJ94_0 a b (lN94_0 a)):=⟨rfl,Imp.refl _,Imp.refl _,rfl,rfl,rfl,rfl,rfl,Qr _,h⟩
theorem fi94 (a:List Ue) (b:List Ue) (r:Ue×Bool) (hF:r=(F94 a b)):((.int .i64 r.1.Addr:Value)=.int .i64 (F94 a b).1.Addr)/\((.int .i64 r.1.Len:Value)=.int .i64 (F94 a b).1.Len)/\((.int .i64 r.1.Cost:Value)=.int .i64 (F94 a b).1.Cost)/\((.int .i64 r.1.Label:Value)=.int .i64 (F94 a b).1.Label)/\((.bool r.2:Value)=.bool (F94 a b).2)/\True:=by cases hF; exact ⟨rfl,rfl,rfl,rfl,rfl,trivial⟩
def S94 (a:List Ue) (b:List Ue):Spec:=⟨[.r (.c (.l 4 eHelloEntry a)),.r (.c (.l 4 eHelloEntry b))],.tu [.ag [.v (vI (F94 a b).1.Addr),.v (vI (F94 a b).1.Len),.v (vI (F94 a b).1.Cost),.v (vI (F94 a b).1.Label)],.v (.bool (F94 a b).2)],True⟩
theorem ok94 (a:List Ue) (b:List Ue):(S94 a b).ok Try.prog 94 :=
 fnG_ok mixed (fn:=Try.f94) (ct:=.seqk [(0,0),(1,0)] .no (.seq (.seqk [(0,0),(1,0)] .no (.blk (.loop (ι:=Nat×Int) (fun i=>(fun (i40:Int)=>(⟨[(0,some (.h 0 0)),(1,some (.h 1 0)),(4,some (.p 2 0)),(6,some (.v (vI i40)))],[(0,some (.shr none (.l 4 eHelloEntry a))),(1,some (.shr none (.l 4 eHelloEntry b))),(2,some (.box 28 [.v (vI 0),.v (vI 0),.v (vI 0),.v (vI 0)]))],3⟩:St)) i.2) (lJ94_0 a b) (fun i=>i.1) (lN94_0 a) (fun i=>(fun (i40:Int)=>(.seq (.seq .no (.cond .no .no)) (.seq (.blk (.seq (.reg [(5,kh97l b (a.getD i40.toNat default))]) (.cond (.seq .no .no) .no))) (.reg [(1,.bnd)])))) i.2)))) (.seq .no .no))) Try.func94 (fun (_:True)=>kn a fun _=>kn b fun _=>kn a fun _=>kn b fun _=>ai (en94_0 a b uu0) (fun (i0:Nat×Int) (hi0:lJ94_0 a b i0)=>(fun (m0:Nat) (i40:Int) (hh0:lH94_0 a b i0 m0 i40)=>have hI0:=hh0.1; have hl0:=hh0.2.1; have _:=hh0.2.2.1; have _:=hh0.2.2.2; ifd (i40<(a.length:Int)) (fun h2 _=>ai (uu0:ib i40 a) (kc97l b (a.getD i40.toNat default) (fun gv3=>ifd ((F97 b (a.getD i40.toNat default))<0) (fun h4 _=>ai (uu0:ib i40 a) (fi94 a b ((a.getD i40.toNat default),true) (finR (runL_ret hI0 (condT h2 (condT h4 rfl))) rfl))) (fun h4 _=>ai (iok (i40+1) uu0) (bk94_0 a b i0 m0 (i40+1) hl0 (runL_next hI0 (condT h2 (condF h4 rfl))) uu10))))) (fun h2 _=>have hD0_5:lX94_0 a b=Lp.done i40:=runL_done hI0 (condF h2 rfl); fi94 a b ((⟨0,0,0,0⟩:Ue),false) (finD hD0_5 rfl))) (i0.1-1) i0.2 (un94_0 a b i0 hi0))) uu3
theorem neqT28 (x0 y0:Int) (x1 y1:Int) (x2 y2:Int) (x3 y3:Int) (p q:Operand) (w:World):(do eqGuard .neq 28 p q (.agg #[.int .i64 x0,.int .i64 x1,.int .i64 x2,.int .i64 x3]) (.agg #[.int .i64 y0,.int .i64 y1,.int .i64 y2,.int .i64 y3]); binOp .neq 28 (.agg #[.int .i64 x0,.int .i64 x1,.int .i64 x2,.int .i64 x3]) (.agg #[.int .i64 y0,.int .i64 y1,.int .i64 y2,.int .i64 y3])).run Try.prog w=.ok (.bool (!((x0==y0)&&((x1==y1)&&((x2==y2)&&(x3==y3)))))) w:=by
 by_cases h0:x0=y0
 case neg=>simp [go_sem,h0]
 by_cases h1:x1=y1
 case neg=>simp [go_sem,h0,h1]
 by_cases h2:x2=y2
 case neg=>simp [go_sem,h0,h1,h2]
 by_cases h3:x3=y3
 case neg=>simp [go_sem,h0,h1,h2,h3]
 simp [go_sem,h0,h1,h2,h3]
def F95_s0 (a:List Ue) (b:List Ue):Int->Lp Int (Ue×Bool):=fun i40 =>
 bif (decide (i40<(a.length:Int))) then (bif (bif decide ((F97 b (a.getD i40.toNat default))<0) then true else (!(((b.getD (F97 b (a.getD i40.toNat default)).toNat default).Addr==(a.getD i40.toNat default).Addr)&&(((b.getD (F97 b (a.getD i40.toNat default)).toNat default).Len==(a.getD i40.toNat default).Len)&&(((b.getD (F97 b (a.getD i40.toNat default)).toNat default).Cost==(a.getD i40.toNat default).Cost)&&((b.getD (F97 b (a.getD i40.toNat default)).toNat default).Label==(a.getD i40.toNat default).Label)))))) then (.ret ((a.getD i40.toNat default),true)) else (.next (i40+1))) else (.done i40)
def F95 (a:List Ue) (b:List Ue):Ue×Bool :=
 (runL (F95_s0 a b) (((a.length:Int)-0).toNat+1) 0).fin (fun r=>r) (fun i40=>((⟨0,0,0,0⟩:Ue),false))
abbrev lN95_0 (a:List Ue):Nat×Int:=((((a.length:Int)-0).toNat+1),0)
abbrev lI95_0 (a:List Ue) (m39:Nat) (i40:Int):Prop:=Int.toNat ((a.length:Int)-i40)<m39/\(0:Int)<=i40
abbrev lX95_0 (a:List Ue) (b:List Ue):Lp Int (Ue×Bool):=LpX (F95_s0 a b) (lN95_0 a)
abbrev lJ95_0 (a:List Ue) (b:List Ue) (i:Nat×Int):Prop:=LpJ (F95_s0 a b) (lN95_0 a) i (lI95_0 a i.1 i.2)
abbrev lH95_0 (a:List Ue) (b:List Ue) (i:Nat×Int) (m39:Nat) (i40:Int):Prop:=LpH (F95_s0 a b) (lN95_0 a) i m39 i40 (lI95_0 a (m39+1) i40)
abbrev lE95_0 (a:List Ue) (b:List Ue) (i40:Int) (i40_:Int) (K39:Prop):Prop:=((.int .i64 i40:Value)=.int .i64 i40_)/\(Im (.l 4 eHelloEntry a))/\(Im (.l 4 eHelloEntry b))/\(Rf (.int .i64 0))/\(Rf (.int .i64 0))/\(Rf (.int .i64 0))/\(Rf (.int .i64 0))/\K39
theorem un95_0 (a:List Ue) (b:List Ue) (i:Nat×Int) (h:lJ95_0 a b i):lH95_0 a b i (i.1-1) i.2:=⟨hd1 h.1 h.2.1,hd3 h.2.1,hd2 h.2.1,h.2.2⟩
theorem bk95_0 (a:List Ue) (b:List Ue) (i:Nat×Int) (m39:Nat) (i40:Int) (hl:m39<i.1) (e:runL (F95_s0 a b) m39 i40=lX95_0 a b) (h:lI95_0 a m39 i40):∃ j:Nat×Int,lE95_0 a b i40 j.2 (lJ95_0 a b j/\j.1<i.1):=⟨(m39,i40),rfl,Imp.refl _,Imp.refl _,rfl,rfl,rfl,rfl,⟨e,h⟩,hl⟩
theorem en95_0 (a:List Ue) (b:List Ue) (h:(0:Int)<=0):lE95_0 a b 0 0 (lJ95_0 a b (lN95_0 a)):=⟨rfl,Imp.refl _,Imp.refl _,rfl,rfl,rfl,rfl,rfl,Qr _,h⟩
theorem fi95 (a:List Ue) (b:List Ue) (r:Ue×Bool) (hF:r=(F95 a b)):((.int .i64 r.1.Addr:Value)=.int .i64 (F95 a b).1.Addr)/\((.int .i64 r.1.Len:Value)=.int .i64 (F95 a b).1.Len)/\((.int .i64 r.1.Cost:Value)=.int .i64 (F95 a b).1.Cost)/\((.int .i64 r.1.Label:Value)=.int .i64 (F95 a b).1.Label)/\((.bool r.2:Value)=.bool (F95 a b).2)/\True:=by cases hF; exact ⟨rfl,rfl,rfl,rfl,rfl,trivial⟩
def S95 (a:List Ue) (b:List Ue):Spec:=⟨[.r (.c (.l 4 eHelloEntry a)),.r (.c (.l 4 eHelloEntry b))],.tu [.ag [.v (vI (F95 a b).1.Addr),.v (vI (F95 a b).1.Len),.v (vI (F95 a b).1.Cost),.v (vI (F95 a b).1.Label)],.v (.bool (F95 a b).2)],True⟩
abbrev q95_1 (b:List Ue) (a:List Ue) (i40:Int):=(b.getD (F97 b (a.getD i40.toNat default)).toNat default)
abbrev q95_2 (a:List Ue) (i40:Int):=(a.getD i40.toNat default)
theorem ok95 (a:List Ue) (b:List Ue):(S95 a b).ok Try.prog 95 :=
 fnG_ok mixed (fn:=Try.f95) (ct:=.seqk [(0,0),(1,0)] .no (.seq (.seqk [(0,0),(1,0)] .no (.blk (.loop (ι:=Nat×Int) (fun i=>(fun (i40:Int)=>(⟨[(0,some (.h 0 0)),(1,some (.h 1 0)),(4,some (.p 2 0)),(6,some (.v (vI i40)))],[(0,some (.shr none (.l 4 eHelloEntry a))),(1,some (.shr none (.l 4 eHelloEntry b))),(2,some (.box 28 [.v (vI 0),.v (vI 0),.v (vI 0),.v (vI 0)]))],3⟩:St)) i.2) (lJ95_0 a b) (fun i=>i.1) (lN95_0 a) (fun i=>(fun (i40:Int)=>(.seq (.seq .no (.cond .no .no)) (.seq (.blk (.seq (.reg [(5,kh97l b (q95_2 a i40))]) (.seq (.reg [(11,.bin .neq 28 (.agg #[.int .i64 (q95_1 b a i40).Addr,.int .i64 (q95_1 b a i40).Len,.int .i64 (q95_1 b a i40).Cost,.int .i64 (q95_1 b a i40).Label]) (.agg #[.int .i64 (q95_2 a i40).Addr,.int .i64 (q95_2 a i40).Len,.int .i64 (q95_2 a i40).Cost,.int .i64 (q95_2 a i40).Label]) (.bool (!(((q95_1 b a i40).Addr==(q95_2 a i40).Addr)&&(((q95_1 b a i40).Len==(q95_2 a i40).Len)&&(((q95_1 b a i40).Cost==(q95_2 a i40).Cost)&&((q95_1 b a i40).Label==(q95_2 a i40).Label)))))) rfl (neqT28 (q95_1 b a i40).Addr (q95_2 a i40).Addr (q95_1 b a i40).Len (q95_2 a i40).Len (q95_1 b a i40).Cost (q95_2 a i40).Cost (q95_1 b a i40).Label (q95_2 a i40).Label))]) (.cond (.seq .no .no) .no)))) (.reg [(1,.bnd)])))) i.2)))) (.seq .no .no))) Try.func95 (fun (_:True)=>kn a fun _=>kn b fun _=>kn a fun _=>kn b fun _=>ai (en95_0 a b uu0) (fun (i0:Nat×Int) (hi0:lJ95_0 a b i0)=>(fun (m0:Nat) (i40:Int) (hh0:lH95_0 a b i0 m0 i40)=>have hI0:=hh0.1; have hl0:=hh0.2.1; have _:=hh0.2.2.1; have _:=hh0.2.2.2; ifd (i40<(a.length:Int)) (fun h2 _=>ai (uu0:ib i40 a) (kc97l b (q95_2 a i40) (fun gv3=>ai (fun k4:(decide ((F97 b (q95_2 a i40))<0))=false=>have _:=Re k4; (uu0:ib (F97 b (q95_2 a i40)) b)) (ai (fun k5:(decide ((F97 b (q95_2 a i40))<0))=false=>have _:=Re k5; (uu0:ib i40 a)) (ai (fun k6:(decide ((F97 b (q95_2 a i40))<0))=false=>have _:=Re k6; (Eq.refl (.agg #[.int .i64 (q95_1 b a i40).Addr,.int .i64 (q95_1 b a i40).Len,.int .i64 (q95_1 b a i40).Cost,.int .i64 (q95_1 b a i40).Label]:Value))) (ai (fun k7:(decide ((F97 b (q95_2 a i40))<0))=false=>have _:=Re k7; (Eq.refl (.agg #[.int .i64 (q95_2 a i40).Addr,.int .i64 (q95_2 a i40).Len,.int .i64 (q95_2 a i40).Cost,.int .i64 (q95_2 a i40).Label]:Value))) (ifb (bif decide ((F97 b (q95_2 a i40))<0) then true else (!(((q95_1 b a i40).Addr==(q95_2 a i40).Addr)&&(((q95_1 b a i40).Len==(q95_2 a i40).Len)&&(((q95_1 b a i40).Cost==(q95_2 a i40).Cost)&&((q95_1 b a i40).Label==(q95_2 a i40).Label)))))) (fun h8=>ai (uu0:ib i40 a) (fi95 a b ((q95_2 a i40),true) (finR (runL_ret hI0 (condT h2 (condT h8 rfl))) rfl))) (fun h8=>have _:=Re (orF1 h8); have _:=(orF2 h8); ai (iok (i40+1) uu0) (bk95_0 a b i0 m0 (i40+1) hl0 (runL_next hI0 (condT h2 (condF h8 rfl))) uu10))))))))) (fun h2 _=>have hD0_9:lX95_0 a b=Lp.done i40:=runL_done hI0 (condF h2 rfl); fi95 a b ((⟨0,0,0,0⟩:Ue),false) (finD hD0_9 rfl))) (i0.1-1) i0.2 (un95_0 a b i0 hi0))) uu3
theorem kc94 (a:List Ue) (b:List Ue) {K_:Prop} (k_:K_):(True)/\(Imp (.l 4 eHelloEntry a) (.l 4 eHelloEntry a))/\(Imp (.l 4 eHelloEntry b) (.l 4 eHelloEntry b))/\K_:=⟨trivial,Imp.refl _,Imp.refl _,k_⟩
abbrev kh94 (a:List Ue) (b:List Ue):Hint true Try.prog:=.call 94 (S94 a b) (ok94 a b) none
theorem kc95 (a:List Ue) (b:List Ue) {K_:Prop} (k_:K_):(True)/\(Imp (.l 4 eHelloEntry a) (.l 4 eHelloEntry a))/\(Imp (.l 4 eHelloEntry b) (.l 4 eHelloEntry b))/\K_:=⟨trivial,Imp.refl _,Imp.refl _,k_⟩
abbrev kh95 (a:List Ue) (b:List Ue):Hint true Try.prog:=.call 95 (S95 a b) (ok95 a b) none
def F87 (e1:Ud):HelloChange :=
 bif (F94 e1.Told e1.Want).2 then (⟨2,(⟨(F94 e1.Told e1.Want).1.Addr,(F94 e1.Told e1.Want).1.Len,0,0⟩:Ue)⟩:HelloChange) else (bif (F95 e1.Want e1.Told).2 then (⟨1,(F95 e1.Want e1.Told).1⟩:HelloChange) else (bif (!e1.All) then (⟨3,(⟨0,0,0,0⟩:Ue)⟩:HelloChange) else (⟨0,(⟨0,0,0,0⟩:Ue)⟩:HelloChange)))
theorem fi87 (e1:Ud) (r:HelloChange) (hF:r=(F87 e1)):((.int .i64 r.Kind:Value)=.int .i64 (F87 e1).Kind)/\((.int .i64 r.Entry.Addr:Value)=.int .i64 (F87 e1).Entry.Addr)/\((.int .i64 r.Entry.Len:Value)=.int .i64 (F87 e1).Entry.Len)/\((.int .i64 r.Entry.Cost:Value)=.int .i64 (F87 e1).Entry.Cost)/\((.int .i64 r.Entry.Label:Value)=.int .i64 (F87 e1).Entry.Label)/\True:=by cases hF; exact ⟨rfl,rfl,rfl,rfl,rfl,trivial⟩
def S87 (e1:Ud):Spec:=⟨[.r (.g (eHelloEnd e1))],.ag [.v (vI (F87 e1).Kind),.v (vI (F87 e1).Entry.Addr),.v (vI (F87 e1).Entry.Len),.v (vI (F87 e1).Entry.Cost),.v (vI (F87 e1).Entry.Label)],True⟩
theorem ok87 (e1:Ud):(S87 e1).ok Try.prog 87 :=
 fnG_ok mixed (fn:=Try.f87) (ct:=.seq .no (.seq (.reg [(4,kh94 e1.Told e1.Want)]) (.seq (.seq .no (.cond (.seq .no .no) .no)) (.seq (.reg [(4,kh95 e1.Want e1.Told)]) (.seq (.seq .no (.cond (.seq .no .no) .no)) (.seq (.seq .no (.cond (.seq .no .no) .no)) (.seq .no .no))))))) Try.func87 (fun (_:True)=>kc94 e1.Told e1.Want (ifb (F94 e1.Told e1.Want).2 (fun h1=>fi87 e1 (⟨2,(⟨(F94 e1.Told e1.Want).1.Addr,(F94 e1.Told e1.Want).1.Len,0,0⟩:Ue)⟩:HelloChange) (condT h1 rfl)) (fun h1=>kc95 e1.Want e1.Told (ifb (F95 e1.Want e1.Told).2 (fun h2=>fi87 e1 (⟨1,(F95 e1.Want e1.Told).1⟩:HelloChange) (condF h1 (condT h2 rfl))) (fun h2=>ifb (!e1.All) (fun h3=>have _:=(notET h3); fi87 e1 (⟨3,(⟨0,0,0,0⟩:Ue)⟩:HelloChange) (condF h1 (condF h2 (condT h3 rfl)))) (fun h3=>have _:=(notEF h3); fi87 e1 (⟨0,(⟨0,0,0,0⟩:Ue)⟩:HelloChange) (condF h1 (condF h2 (condF h3 rfl))))))))) uu3
def F52 (x9:Int) (n:Int):Int :=
 bif (decide ((n.tmod 2147483647)<0)) then ((IntKind.i64.wrap ((IntKind.i64.wrap ((IntKind.i64.wrap (x9*48271))+(IntKind.i64.wrap ((n.tmod 2147483647)+2147483647))))+1)).tmod 2147483647) else ((IntKind.i64.wrap ((IntKind.i64.wrap ((IntKind.i64.wrap (x9*48271))+(n.tmod 2147483647)))+1)).tmod 2147483647)
def S52 (x9:Int) (n:Int):Spec:=⟨[.r (.c (.v (vI x9))),.r (.c (.v (vI n)))],.v (vI (F52 x9 n)),True⟩
theorem ok52 (x9:Int) (n:Int):(S52 x9 n).ok Try.prog 52 :=
 fnG_ok mixed (fn:=Try.f52) (ct:=.seq .no (.seq .no (.seq (.seq .no (.cond .no .no)) (.seq .no .no)))) Try.func52 (fun (_:True)=>ai (uu0:¬ (2147483647:Int)=0) (ifd ((n.tmod 2147483647)<0) (fun h1 _=>ai (uu0:¬ (2147483647:Int)=0) (fiI ((IntKind.i64.wrap ((IntKind.i64.wrap ((IntKind.i64.wrap (x9*48271))+(IntKind.i64.wrap ((n.tmod 2147483647)+2147483647))))+1)).tmod 2147483647) (F52 x9 n) (condT h1 rfl))) (fun h1 _=>ai (uu0:¬ (2147483647:Int)=0) (fiI ((IntKind.i64.wrap ((IntKind.i64.wrap ((IntKind.i64.wrap (x9*48271))+(n.tmod 2147483647)))+1)).tmod 2147483647) (F52 x9 n) (condF h1 rfl))))) uu3
theorem kc52 (x9:Int) (n:Int) {K_:Prop} (k_:K_):(True)/\(Imp (.v (vI x9)) (.v (vI x9)))/\(Imp (.v (vI n)) (.v (vI n)))/\K_:=⟨trivial,Imp.refl _,Imp.refl _,k_⟩
abbrev kh52 (x9:Int) (n:Int):Hint true Try.prog:=.call 52 (S52 x9 n) (ok52 x9 n) none
def F38_s0 (secret:Int) (w1:HelloWord):(Int×Int)->Lp (Int×Int) Int:=fun (x10,i40) =>
 bif (decide (i40<(([w1.From,w1.To,w1.Key,w1.Boot,w1.Yours,w1.Turn,w1.Num,w1.Heard,w1.Change.Kind,w1.Change.Entry.Addr,w1.Change.Entry.Len,w1.Change.Entry.Cost,w1.Change.Entry.Label]:List Int).length:Int))) then (.next ((F52 x10 (([w1.From,w1.To,w1.Key,w1.Boot,w1.Yours,w1.Turn,w1.Num,w1.Heard,w1.Change.Kind,w1.Change.Entry.Addr,w1.Change.Entry.Len,w1.Change.Entry.Cost,w1.Change.Entry.Label]:List Int).getD i40.toNat default)),(i40+1))) else (.done (x10,i40))
def F38_j0 (secret:Int) (w1:HelloWord):Lp Int Int :=
 (runL (F38_s0 secret w1) (((([w1.From,w1.To,w1.Key,w1.Boot,w1.Yours,w1.Turn,w1.Num,w1.Heard,w1.Change.Kind,w1.Change.Entry.Addr,w1.Change.Entry.Len,w1.Change.Entry.Cost,w1.Change.Entry.Label]:List Int).length:Int)-0).toNat+1) ((F52 0 secret),0)).fin Lp.ret (fun (x10,i40)=>.done x10)
def F38 (secret:Int) (w1:HelloWord):Int :=
 (F38_j0 secret w1).fin (fun r=>r) (fun x9=>(F52 x9 secret))
abbrev lN38_0 (secret:Int) (w1:HelloWord):Nat×(Int×Int):=((((([w1.From,w1.To,w1.Key,w1.Boot,w1.Yours,w1.Turn,w1.Num,w1.Heard,w1.Change.Kind,w1.Change.Entry.Addr,w1.Change.Entry.Len,w1.Change.Entry.Cost,w1.Change.Entry.Label]:List Int).length:Int)-0).toNat+1),((F52 0 secret),0))
abbrev lI38_0 (w1:HelloWord) (m39:Nat) (x10:Int) (i40:Int):Prop:=Int.toNat ((([w1.From,w1.To,w1.Key,w1.Boot,w1.Yours,w1.Turn,w1.Num,w1.Heard,w1.Change.Kind,w1.Change.Entry.Addr,w1.Change.Entry.Len,w1.Change.Entry.Cost,w1.Change.Entry.Label]:List Int).length:Int)-i40)<m39/\(0:Int)<=i40
abbrev lX38_0 (secret:Int) (w1:HelloWord):Lp (Int×Int) Int:=LpX (F38_s0 secret w1) (lN38_0 secret w1)
abbrev lJ38_0 (secret:Int) (w1:HelloWord) (i:Nat×(Int×Int)):Prop:=LpJ (F38_s0 secret w1) (lN38_0 secret w1) i (lI38_0 w1 i.1 i.2.1 i.2.2)
abbrev lH38_0 (secret:Int) (w1:HelloWord) (i:Nat×(Int×Int)) (m39:Nat) (x10:Int) (i40:Int):Prop:=LpH (F38_s0 secret w1) (lN38_0 secret w1) i m39 (x10,i40) (lI38_0 w1 (m39+1) x10 i40)
abbrev lE38_0 (secret:Int) (w1:HelloWord) (x10:Int) (i40:Int) (x10_:Int) (i40_:Int) (K39:Prop):Prop:=(Rf (.int .i64 secret))/\((.int .i64 x10:Value)=.int .i64 x10_)/\((.int .i64 i40:Value)=.int .i64 i40_)/\(Im (.l 1 eInt ([w1.From,w1.To,w1.Key,w1.Boot,w1.Yours,w1.Turn,w1.Num,w1.Heard,w1.Change.Kind,w1.Change.Entry.Addr,w1.Change.Entry.Len,w1.Change.Entry.Cost,w1.Change.Entry.Label]:List Int)))/\K39
theorem un38_0 (secret:Int) (w1:HelloWord) (i:Nat×(Int×Int)) (h:lJ38_0 secret w1 i):lH38_0 secret w1 i (i.1-1) i.2.1 i.2.2:=⟨hd1 h.1 h.2.1,hd3 h.2.1,hd2 h.2.1,h.2.2⟩
theorem bk38_0 (secret:Int) (w1:HelloWord) (i:Nat×(Int×Int)) (m39:Nat) (x10:Int) (i40:Int) (hl:m39<i.1) (e:runL (F38_s0 secret w1) m39 (x10,i40)=lX38_0 secret w1) (h:lI38_0 w1 m39 x10 i40):∃ j:Nat×(Int×Int),lE38_0 secret w1 x10 i40 j.2.1 j.2.2 (lJ38_0 secret w1 j/\j.1<i.1):=⟨(m39,(x10,i40)),rfl,rfl,rfl,Imp.refl _,⟨e,h⟩,hl⟩
theorem en38_0 (secret:Int) (w1:HelloWord) (h:(0:Int)<=0):lE38_0 secret w1 (F52 0 secret) 0 (F52 0 secret) 0 (lJ38_0 secret w1 (lN38_0 secret w1)):=⟨rfl,rfl,rfl,Imp.refl _,rfl,Qr _,h⟩
abbrev jJ38_0 (secret:Int) (w1:HelloWord) (j:Int):Prop:=(F38_j0 secret w1)=Lp.done j
theorem jn38_0 (secret:Int) (w1:HelloWord) (x9:Int) (e:(F38_j0 secret w1)=Lp.done x9):∃ j:Int,((.int .i64 secret:Value)=.int .i64 secret)/\((.int .i64 x9:Value)=.int .i64 j)/\jJ38_0 secret w1 j:=⟨x9,rfl,rfl,e⟩
def S38 (secret:Int) (w1:HelloWord):Spec:=⟨[.r (.c (.v (vI secret))),.r (.g (eHelloWord w1))],.v (vI (F38 secret w1)),True⟩
theorem ok38 (secret:Int) (w1:HelloWord):(S38 secret w1).ok Try.prog 38 :=
 fnG_ok mixed (fn:=Try.f38) (ct:=.seq .no (.seq (.reg [(1,kh52 0 secret)]) (.seq (.reg [(35,.dat (.l 1 eInt ([w1.From,w1.To,w1.Key,w1.Boot,w1.Yours,w1.Turn,w1.Num,w1.Heard,w1.Change.Kind,w1.Change.Entry.Addr,w1.Change.Entry.Len,w1.Change.Entry.Cost,w1.Change.Entry.Label]:List Int)))]) (.cut (ι:=Int) (fun j=>(fun (x9:Int)=>(⟨[(0,some (.v (vI secret))),(5,some (.v (vI x9)))],[],0⟩:St)) j) (jJ38_0 secret w1) (.seqk [(6,0)] .no (.blk (.loop (ι:=Nat×(Int×Int)) (fun i=>(fun (x10:Int) (i40:Int)=>(⟨[(0,some (.v (vI secret))),(5,some (.v (vI x10))),(6,some (.h 0 0)),(7,some (.v (vI i40)))],[(0,some (.own 0 (.l 1 eInt ([w1.From,w1.To,w1.Key,w1.Boot,w1.Yours,w1.Turn,w1.Num,w1.Heard,w1.Change.Kind,w1.Change.Entry.Addr,w1.Change.Entry.Len,w1.Change.Entry.Cost,w1.Change.Entry.Label]:List Int))))],1⟩:St)) i.2.1 i.2.2) (lJ38_0 secret w1) (fun i=>i.1) (lN38_0 secret w1) (fun i=>(fun (x10:Int) (i40:Int)=>(.seq (.seq .no (.cond .no .no)) (.seq (.blk (.reg [(5,kh52 x10 (([w1.From,w1.To,w1.Key,w1.Boot,w1.Yours,w1.Turn,w1.Num,w1.Heard,w1.Change.Kind,w1.Change.Entry.Addr,w1.Change.Entry.Len,w1.Change.Entry.Cost,w1.Change.Entry.Label]:List Int).getD i40.toNat default))])) (.reg [(1,.bnd)])))) i.2.1 i.2.2)))) (fun j=>(fun (x9:Int)=>(.seq (.reg [(2,kh52 x9 secret)]) .no)) j))))) Try.func38 (fun (_:True)=>kc52 0 secret (ai (bokr 1 eInt ([w1.From,w1.To,w1.Key,w1.Boot,w1.Yours,w1.Turn,w1.Num,w1.Heard,w1.Change.Kind,w1.Change.Entry.Addr,w1.Change.Entry.Len,w1.Change.Entry.Cost,w1.Change.Entry.Label]:List Int) fun _=>rfl) (ai (kn ([w1.From,w1.To,w1.Key,w1.Boot,w1.Yours,w1.Turn,w1.Num,w1.Heard,w1.Change.Kind,w1.Change.Entry.Addr,w1.Change.Entry.Len,w1.Change.Entry.Cost,w1.Change.Entry.Label]:List Int) fun _=>ai (en38_0 secret w1 uu0) (fun (i0:Nat×(Int×Int)) (hi0:lJ38_0 secret w1 i0)=>(fun (m0:Nat) (x10:Int) (i40:Int) (hh0:lH38_0 secret w1 i0 m0 x10 i40)=>have hI0:=hh0.1; have hl0:=hh0.2.1; have _:=hh0.2.2.1; have _:=hh0.2.2.2; ifd (i40<(([w1.From,w1.To,w1.Key,w1.Boot,w1.Yours,w1.Turn,w1.Num,w1.Heard,w1.Change.Kind,w1.Change.Entry.Addr,w1.Change.Entry.Len,w1.Change.Entry.Cost,w1.Change.Entry.Label]:List Int).length:Int)) (fun h2 _=>ai (uu0:ib i40 ([w1.From,w1.To,w1.Key,w1.Boot,w1.Yours,w1.Turn,w1.Num,w1.Heard,w1.Change.Kind,w1.Change.Entry.Addr,w1.Change.Entry.Len,w1.Change.Entry.Cost,w1.Change.Entry.Label]:List Int)) (kc52 x10 (([w1.From,w1.To,w1.Key,w1.Boot,w1.Yours,w1.Turn,w1.Num,w1.Heard,w1.Change.Kind,w1.Change.Entry.Addr,w1.Change.Entry.Len,w1.Change.Entry.Cost,w1.Change.Entry.Label]:List Int).getD i40.toNat default) (ai (iok (i40+1) uu0) (bk38_0 secret w1 i0 m0 (F52 x10 (([w1.From,w1.To,w1.Key,w1.Boot,w1.Yours,w1.Turn,w1.Num,w1.Heard,w1.Change.Kind,w1.Change.Entry.Addr,w1.Change.Entry.Len,w1.Change.Entry.Cost,w1.Change.Entry.Label]:List Int).getD i40.toNat default)) (i40+1) hl0 (runL_next hI0 (condT h2 rfl)) uu10)))) (fun h2 _=>have hD0_3:lX38_0 secret w1=Lp.done (x10,i40):=runL_done hI0 (condF h2 rfl); jn38_0 secret w1 x10 (Q5 (finD hD0_3 rfl)) )) (i0.1-1) i0.2.1 i0.2.2 (un38_0 secret w1 i0 hi0))) (fun (j:Int) (hj:jJ38_0 secret w1 j)=>(fun (x9:Int) (hJ0_4:(F38_j0 secret w1)=Lp.done x9)=>kc52 x9 secret (fiI (F52 x9 secret) (F38 secret w1) (finD hJ0_4 rfl))) j hj)))) uu3
def F39_s0 (x9:Int) (numbers:List Int):(Int×Int)->Lp (Int×Int) Int:=fun (x10,v9) =>
 bif (decide (v9<(numbers.length:Int))) then (.next (((IntKind.i64.wrap ((IntKind.i64.wrap ((IntKind.i64.wrap (48271*x10))+((IntKind.i64.wrap (((numbers.getD v9.toNat default).tmod 2147483647)+2147483647)).tmod 2147483647)))+1)).tmod 2147483647),(v9+1))) else (.done (x10,v9))
def F39 (x9:Int) (numbers:List Int):Int :=
 (runL (F39_s0 x9 numbers) (((numbers.length:Int)-0).toNat+1) (x9,0)).fin (fun r=>r) (fun (x10,v9)=>x10)
abbrev lN39_0 (x9:Int) (numbers:List Int):Nat×(Int×Int):=((((numbers.length:Int)-0).toNat+1),(x9,0))
abbrev lI39_0 (numbers:List Int) (m39:Nat) (x10:Int) (v9:Int):Prop:=Int.toNat ((numbers.length:Int)-v9)<m39/\(0:Int)<=v9
abbrev lX39_0 (x9:Int) (numbers:List Int):Lp (Int×Int) Int:=LpX (F39_s0 x9 numbers) (lN39_0 x9 numbers)
abbrev lJ39_0 (x9:Int) (numbers:List Int) (i:Nat×(Int×Int)):Prop:=LpJ (F39_s0 x9 numbers) (lN39_0 x9 numbers) i (lI39_0 numbers i.1 i.2.1 i.2.2)
abbrev lH39_0 (x9:Int) (numbers:List Int) (i:Nat×(Int×Int)) (m39:Nat) (x10:Int) (v9:Int):Prop:=LpH (F39_s0 x9 numbers) (lN39_0 x9 numbers) i m39 (x10,v9) (lI39_0 numbers (m39+1) x10 v9)
abbrev lE39_0 (numbers:List Int) (x10:Int) (v9:Int) (x10_:Int) (v9_:Int) (K39:Prop):Prop:=((.int .i64 x10:Value)=.int .i64 x10_)/\(Rf (.int .i64 (numbers.length:Int)))/\((.int .i64 v9:Value)=.int .i64 v9_)/\(Im (.l 1 eInt numbers))/\K39
theorem un39_0 (x9:Int) (numbers:List Int) (i:Nat×(Int×Int)) (h:lJ39_0 x9 numbers i):lH39_0 x9 numbers i (i.1-1) i.2.1 i.2.2:=⟨hd1 h.1 h.2.1,hd3 h.2.1,hd2 h.2.1,h.2.2⟩
theorem bk39_0 (x9:Int) (numbers:List Int) (i:Nat×(Int×Int)) (m39:Nat) (x10:Int) (v9:Int) (hl:m39<i.1) (e:runL (F39_s0 x9 numbers) m39 (x10,v9)=lX39_0 x9 numbers) (h:lI39_0 numbers m39 x10 v9):∃ j:Nat×(Int×Int),lE39_0 numbers x10 v9 j.2.1 j.2.2 (lJ39_0 x9 numbers j/\j.1<i.1):=⟨(m39,(x10,v9)),rfl,rfl,rfl,Imp.refl _,⟨e,h⟩,hl⟩
theorem en39_0 (x9:Int) (numbers:List Int) (h:(0:Int)<=0):lE39_0 numbers x9 0 x9 0 (lJ39_0 x9 numbers (lN39_0 x9 numbers)):=⟨rfl,rfl,rfl,Imp.refl _,rfl,Qr _,h⟩
def S39 (x9:Int) (numbers:List Int):Spec:=⟨[.r (.c (.v (vI x9))),.r (.c (.l 1 eInt numbers))],.v (vI (F39 x9 numbers)),True⟩
theorem ok39 (x9:Int) (numbers:List Int):(S39 x9 numbers).ok Try.prog 39 :=
 fnG_ok mixed (fn:=Try.f39) (ct:=.seqk [(1,0)] .no (.seq (.seqk [(7,0)] .no (.blk (.loop (ι:=Nat×(Int×Int)) (fun i=>(fun (x10:Int) (v9:Int)=>(⟨[(0,some (.v (vI x10))),(7,some (.h 0 0)),(8,some (.v (vI (numbers.length:Int)))),(9,some (.v (vI v9)))],[(0,some (.shr none (.l 1 eInt numbers)))],1⟩:St)) i.2.1 i.2.2) (lJ39_0 x9 numbers) (fun i=>i.1) (lN39_0 x9 numbers) (fun i=>(fun (x10:Int) (v9:Int)=>(.seq .no (.seq (.cond .no .no) (.seq (.blk (.seq .no .no)) (.reg [(0,.bnd)]))))) i.2.1 i.2.2)))) (.seq .no .no))) Try.func39 (fun (_:True)=>kn numbers fun _=>kn numbers fun _=>ai (en39_0 x9 numbers uu0) (fun (i0:Nat×(Int×Int)) (hi0:lJ39_0 x9 numbers i0)=>(fun (m0:Nat) (x10:Int) (v9:Int) (hh0:lH39_0 x9 numbers i0 m0 x10 v9)=>have hI0:=hh0.1; have hl0:=hh0.2.1; have _:=hh0.2.2.1; have _:=hh0.2.2.2; ifd (v9<(numbers.length:Int)) (fun h2 _=>ai (uu0:ib v9 numbers) (ai (uu0:¬ (2147483647:Int)=0) (ai (uu0:¬ (2147483647:Int)=0) (ai (uu0:¬ (2147483647:Int)=0) (ai (iok (v9+1) uu0) (bk39_0 x9 numbers i0 m0 ((IntKind.i64.wrap ((IntKind.i64.wrap ((IntKind.i64.wrap (48271*x10))+((IntKind.i64.wrap (((numbers.getD v9.toNat default).tmod 2147483647)+2147483647)).tmod 2147483647)))+1)).tmod 2147483647) (v9+1) hl0 (runL_next hI0 (condT h2 rfl)) uu10)))))) (fun h2 _=>have hD0_3:lX39_0 x9 numbers=Lp.done (x10,v9):=runL_done hI0 (condF h2 rfl); fiI x10 (F39 x9 numbers) (finD hD0_3 rfl))) (i0.1-1) i0.2.1 i0.2.2 (un39_0 x9 numbers i0 hi0))) uu3
theorem kc39 (x9:Int) (numbers:List Int) {K_:Prop} (k_:K_):(True)/\(Imp (.v (vI x9)) (.v (vI x9)))/\(Imp (.l 1 eInt numbers) (.l 1 eInt numbers))/\K_:=⟨trivial,Imp.refl _,Imp.refl _,k_⟩
abbrev kh39 (x9:Int) (numbers:List Int):Hint true Try.prog:=.call 39 (S39 x9 numbers) (ok39 x9 numbers) none
def F16 (secret:Int) (w1:HelloWord):Int :=
 (F39 (F39 0 ([secret,w1.From,w1.To,w1.Key,w1.Boot,w1.Yours,w1.Turn,w1.Num,w1.Heard]:List Int)) ([w1.Change.Kind,w1.Change.Entry.Addr,w1.Change.Entry.Len,w1.Change.Entry.Cost,w1.Change.Entry.Label,secret]:List Int))
def S16 (secret:Int) (w1:HelloWord):Spec:=⟨[.r (.c (.v (vI secret))),.r (.g (eHelloWord w1))],.v (vI (F16 secret w1)),True⟩
theorem ok16 (secret:Int) (w1:HelloWord):(S16 secret w1).ok Try.prog 16 :=
 fnG_ok mixed (fn:=Try.f16) (ct:=.seq .no (.seq (.reg [(17,.dat (.l 1 eInt ([secret,w1.From,w1.To,w1.Key,w1.Boot,w1.Yours,w1.Turn,w1.Num,w1.Heard]:List Int))),(18,kh39 0 ([secret,w1.From,w1.To,w1.Key,w1.Boot,w1.Yours,w1.Turn,w1.Num,w1.Heard]:List Int))]) (.seq .no (.seq (.reg [(13,.dat (.l 1 eInt ([w1.Change.Kind,w1.Change.Entry.Addr,w1.Change.Entry.Len,w1.Change.Entry.Cost,w1.Change.Entry.Label,secret]:List Int))),(14,kh39 (F39 0 ([secret,w1.From,w1.To,w1.Key,w1.Boot,w1.Yours,w1.Turn,w1.Num,w1.Heard]:List Int)) ([w1.Change.Kind,w1.Change.Entry.Addr,w1.Change.Entry.Len,w1.Change.Entry.Cost,w1.Change.Entry.Label,secret]:List Int))]) .no)))) Try.func16 (fun (_:True)=>ai (bokr 1 eInt ([secret,w1.From,w1.To,w1.Key,w1.Boot,w1.Yours,w1.Turn,w1.Num,w1.Heard]:List Int) fun _=>rfl) (kc39 0 ([secret,w1.From,w1.To,w1.Key,w1.Boot,w1.Yours,w1.Turn,w1.Num,w1.Heard]:List Int) (ai (bokr 1 eInt ([w1.Change.Kind,w1.Change.Entry.Addr,w1.Change.Entry.Len,w1.Change.Entry.Cost,w1.Change.Entry.Label,secret]:List Int) fun _=>rfl) (kc39 (F39 0 ([secret,w1.From,w1.To,w1.Key,w1.Boot,w1.Yours,w1.Turn,w1.Num,w1.Heard]:List Int)) ([w1.Change.Kind,w1.Change.Entry.Addr,w1.Change.Entry.Len,w1.Change.Entry.Cost,w1.Change.Entry.Label,secret]:List Int) (fiI (F39 (F39 0 ([secret,w1.From,w1.To,w1.Key,w1.Boot,w1.Yours,w1.Turn,w1.Num,w1.Heard]:List Int)) ([w1.Change.Kind,w1.Change.Entry.Addr,w1.Change.Entry.Len,w1.Change.Entry.Cost,w1.Change.Entry.Label,secret]:List Int)) (F16 secret w1) rfl))))) uu3
def F96_s0 (e1:Ud):(Int×List Uf)->Lp (Int×List Uf) Ud:=fun (i40,xs) =>
 bif (decide (i40<(xs.length:Int))) then (.next ((i40+1),(xs.set (i40).toNat (⟨(xs.getD i40.toNat default).Entry,true⟩:Uf)))) else (.done (i40,xs))
def F96 (e1:Ud):Ud :=
 (runL (F96_s0 e1) (((e1.Heard.length:Int)-0).toNat+1) (0,e1.Heard)).fin (fun r=>r) (fun (i40,xs)=>bif (bif decide ((xs.length:Int)>0) then (e1.Keep==0) else false) then (⟨e1.Name,e1.Peer,e1.Keys,e1.Boot,e1.Want,e1.Turn,e1.PeerBoot,e1.PeerTurn,e1.Up,e1.Left,e1.Num,e1.Under,e1.Told,e1.All,e1.Got,e1.Full,xs,6⟩:Ud) else (⟨e1.Name,e1.Peer,e1.Keys,e1.Boot,e1.Want,e1.Turn,e1.PeerBoot,e1.PeerTurn,e1.Up,e1.Left,e1.Num,e1.Under,e1.Told,e1.All,e1.Got,e1.Full,xs,e1.Keep⟩:Ud))
abbrev lN96_0 (e1:Ud):Nat×(Int×List Uf):=((((e1.Heard.length:Int)-0).toNat+1),(0,e1.Heard))
abbrev lI96_0 (e1:Ud) (m39:Nat) (i40:Int) (xs:List Uf):Prop:=Int.toNat ((xs.length:Int)-i40)<m39/\(0:Int)<=i40/\xs.length=e1.Heard.length
abbrev lX96_0 (e1:Ud):Lp (Int×List Uf) Ud:=LpX (F96_s0 e1) (lN96_0 e1)
abbrev lJ96_0 (e1:Ud) (i:Nat×(Int×List Uf)):Prop:=LpJ (F96_s0 e1) (lN96_0 e1) i (lI96_0 e1 i.1 i.2.1 i.2.2)
abbrev lH96_0 (e1:Ud) (i:Nat×(Int×List Uf)) (m39:Nat) (i40:Int) (xs:List Uf):Prop:=LpH (F96_s0 e1) (lN96_0 e1) i m39 (i40,xs) (lI96_0 e1 (m39+1) i40 xs)
abbrev lE96_0 (e1:Ud) (i40:Int) (xs:List Uf) (i40_:Int) (xs_:List Uf) (K39:Prop):Prop:=((.int .i64 i40:Value)=.int .i64 i40_)/\(Rf (.int .i64 e1.Name))/\(Rf (.int .i64 e1.Peer))/\(Rf (.int .i64 e1.Boot))/\(Rf (.int .i64 e1.Turn))/\(Rf (.int .i64 e1.PeerBoot))/\(Rf (.int .i64 e1.PeerTurn))/\(Rf (.bool e1.Up))/\(Rf (.int .i64 e1.Left))/\(Rf (.int .i64 e1.Num))/\(Rf (.int .i64 e1.Under.Kind))/\(Rf (.int .i64 e1.Under.Entry.Addr))/\(Rf (.int .i64 e1.Under.Entry.Len))/\(Rf (.int .i64 e1.Under.Entry.Cost))/\(Rf (.int .i64 e1.Under.Entry.Label))/\(Rf (.bool e1.All))/\(Rf (.int .i64 e1.Got))/\(Rf (.bool e1.Full))/\(Rf (.int .i64 e1.Keep))/\(Im (.l 2 eHelloKey e1.Keys))/\(Im (.l 4 eHelloEntry e1.Want))/\(Im (.l 4 eHelloEntry e1.Told))/\(Imp (.l 5 eHelloRoute xs) (.l 5 eHelloRoute xs_))/\(Rf (.int .i64 0))/\(Rf (.int .i64 0))/\(Rf (.slice none 0 0))/\(Rf (.int .i64 0))/\(Rf (.slice none 0 0))/\(Rf (.int .i64 0))/\(Rf (.int .i64 0))/\(Rf (.int .i64 0))/\(Rf (.bool false))/\(Rf (.int .i64 0))/\(Rf (.int .i64 0))/\(Rf (.int .i64 0))/\(Rf (.int .i64 0))/\(Rf (.int .i64 0))/\(Rf (.int .i64 0))/\(Rf (.int .i64 0))/\(Rf (.slice none 0 0))/\(Rf (.bool false))/\(Rf (.int .i64 0))/\(Rf (.bool false))/\(Rf (.slice none 0 0))/\(Rf (.int .i64 0))/\K39
theorem un96_0 (e1:Ud) (i:Nat×(Int×List Uf)) (h:lJ96_0 e1 i):lH96_0 e1 i (i.1-1) i.2.1 i.2.2:=⟨hd1 h.1 h.2.1,hd3 h.2.1,hd2 h.2.1,h.2.2⟩
theorem bk96_0 (e1:Ud) (i:Nat×(Int×List Uf)) (m39:Nat) (i40:Int) (xs:List Uf) (hl:m39<i.1) (e:runL (F96_s0 e1) m39 (i40,xs)=lX96_0 e1) (h:lI96_0 e1 m39 i40 xs):∃ j:Nat×(Int×List Uf),lE96_0 e1 i40 xs j.2.1 j.2.2 (lJ96_0 e1 j/\j.1<i.1):=⟨(m39,(i40,xs)),rfl,rfl,rfl,rfl,rfl,rfl,rfl,rfl,rfl,rfl,rfl,rfl,rfl,rfl,rfl,rfl,rfl,rfl,rfl,Imp.refl _,Imp.refl _,Imp.refl _,Imp.refl _,rfl,rfl,rfl,rfl,rfl,rfl,rfl,rfl,rfl,rfl,rfl,rfl,rfl,rfl,rfl,rfl,rfl,rfl,rfl,rfl,rfl,rfl,⟨e,h⟩,hl⟩
theorem en96_0 (e1:Ud) (h:(0:Int)<=0/\e1.Heard.length=e1.Heard.length):lE96_0 e1 0 e1.Heard 0 e1.Heard (lJ96_0 e1 (lN96_0 e1)):=⟨rfl,rfl,rfl,rfl,rfl,rfl,rfl,rfl,rfl,rfl,rfl,rfl,rfl,rfl,rfl,rfl,rfl,rfl,rfl,Imp.refl _,Imp.refl _,Imp.refl _,Imp.refl _,rfl,rfl,rfl,rfl,rfl,rfl,rfl,rfl,rfl,rfl,rfl,rfl,rfl,rfl,rfl,rfl,rfl,rfl,rfl,rfl,rfl,rfl,rfl,Qr _,h⟩
theorem fi96 (e1:Ud) (r:Ud) (hF:r=(F96 e1)):((.int .i64 r.Name:Value)=.int .i64 (F96 e1).Name)/\((.int .i64 r.Peer:Value)=.int .i64 (F96 e1).Peer)/\(Imp (.l 2 eHelloKey r.Keys) (.l 2 eHelloKey (F96 e1).Keys))/\((.int .i64 r.Boot:Value)=.int .i64 (F96 e1).Boot)/\(Imp (.l 4 eHelloEntry r.Want) (.l 4 eHelloEntry (F96 e1).Want))/\((.int .i64 r.Turn:Value)=.int .i64 (F96 e1).Turn)/\((.int .i64 r.PeerBoot:Value)=.int .i64 (F96 e1).PeerBoot)/\((.int .i64 r.PeerTurn:Value)=.int .i64 (F96 e1).PeerTurn)/\((.bool r.Up:Value)=.bool (F96 e1).Up)/\((.int .i64 r.Left:Value)=.int .i64 (F96 e1).Left)/\((.int .i64 r.Num:Value)=.int .i64 (F96 e1).Num)/\((.int .i64 r.Under.Kind:Value)=.int .i64 (F96 e1).Under.Kind)/\((.int .i64 r.Under.Entry.Addr:Value)=.int .i64 (F96 e1).Under.Entry.Addr)/\((.int .i64 r.Under.Entry.Len:Value)=.int .i64 (F96 e1).Under.Entry.Len)/\((.int .i64 r.Under.Entry.Cost:Value)=.int .i64 (F96 e1).Under.Entry.Cost)/\((.int .i64 r.Under.Entry.Label:Value)=.int .i64 (F96 e1).Under.Entry.Label)/\(Imp (.l 4 eHelloEntry r.Told) (.l 4 eHelloEntry (F96 e1).Told))/\((.bool r.All:Value)=.bool (F96 e1).All)/\((.int .i64 r.Got:Value)=.int .i64 (F96 e1).Got)/\((.bool r.Full:Value)=.bool (F96 e1).Full)/\(Imp (.l 5 eHelloRoute r.Heard) (.l 5 eHelloRoute (F96 e1).Heard))/\((.int .i64 r.Keep:Value)=.int .i64 (F96 e1).Keep)/\True:=by cases hF; exact ⟨rfl,rfl,Imp.refl _,rfl,Imp.refl _,rfl,rfl,rfl,rfl,rfl,rfl,rfl,rfl,rfl,rfl,rfl,Imp.refl _,rfl,rfl,rfl,Imp.refl _,rfl,trivial⟩
def S96 (e1:Ud):Spec:=⟨[.ot (eHelloEnd e1)],.ag [.v (vI (F96 e1).Name),.v (vI (F96 e1).Peer),.ow (.l 2 eHelloKey (F96 e1).Keys),.v (vI (F96 e1).Boot),.ow (.l 4 eHelloEntry (F96 e1).Want),.v (vI (F96 e1).Turn),.v (vI (F96 e1).PeerBoot),.v (vI (F96 e1).PeerTurn),.v (.bool (F96 e1).Up),.v (vI (F96 e1).Left),.v (vI (F96 e1).Num),.v (vI (F96 e1).Under.Kind),.v (vI (F96 e1).Under.Entry.Addr),.v (vI (F96 e1).Under.Entry.Len),.v (vI (F96 e1).Under.Entry.Cost),.v (vI (F96 e1).Under.Entry.Label),.ow (.l 4 eHelloEntry (F96 e1).Told),.v (.bool (F96 e1).All),.v (vI (F96 e1).Got),.v (.bool (F96 e1).Full),.ow (.l 5 eHelloRoute (F96 e1).Heard),.v (vI (F96 e1).Keep)],True⟩
theorem ok96 (e1:Ud):(S96 e1).ok Try.prog 96 :=
 fnG_ok mixed (fn:=Try.f96) (ct:=.seq .no (.seq (.seqk [(1,2),(1,4),(1,16),(1,20)] .no (.blk (.loop (ι:=Nat×(Int×List Uf)) (fun i=>(fun (i40:Int) (xs:List Uf)=>(⟨[(1,some (.p 0 0)),(2,some (.p 5 0)),(3,some (.v (vI i40)))],[(0,some (.box 54 [.v (vI e1.Name),.v (vI e1.Peer),.h 1 0,.v (vI e1.Boot),.h 2 0,.v (vI e1.Turn),.v (vI e1.PeerBoot),.v (vI e1.PeerTurn),.v (.bool e1.Up),.v (vI e1.Left),.v (vI e1.Num),.v (vI e1.Under.Kind),.v (vI e1.Under.Entry.Addr),.v (vI e1.Under.Entry.Len),.v (vI e1.Under.Entry.Cost),.v (vI e1.Under.Entry.Label),.h 3 0,.v (.bool e1.All),.v (vI e1.Got),.v (.bool e1.Full),.h 4 0,.v (vI e1.Keep)])),(1,some (.own 1 (.l 2 eHelloKey e1.Keys))),(2,some (.own 2 (.l 4 eHelloEntry e1.Want))),(3,some (.own 3 (.l 4 eHelloEntry e1.Told))),(4,some (.own 4 (.l 5 eHelloRoute xs))),(5,some (.box 54 [.v (vI 0),.v (vI 0),.v (.slice none 0 0),.v (vI 0),.v (.slice none 0 0),.v (vI 0),.v (vI 0),.v (vI 0),.v (.bool false),.v (vI 0),.v (vI 0),.v (vI 0),.v (vI 0),.v (vI 0),.v (vI 0),.v (vI 0),.v (.slice none 0 0),.v (.bool false),.v (vI 0),.v (.bool false),.v (.slice none 0 0),.v (vI 0)]))],6⟩:St)) i.2.1 i.2.2) (lJ96_0 e1) (fun i=>i.1) (lN96_0 e1) (fun i=>(fun (i40:Int) (xs:List Uf)=>(.seq (.seq .no (.cond .no .no)) (.seq (.blk (.reg [(5,.dat (.l 5 eHelloRoute (xs.set (i40).toNat (⟨(xs.getD i40.toNat default).Entry,true⟩:Uf))))])) (.reg [(1,.bnd)])))) i.2.1 i.2.2)))) (.seq (.seq .no (.cond .no .no)) (.seq .no .no)))) Try.func96 (fun (_:True)=>kn e1.Keys fun _=>kn e1.Want fun _=>kn e1.Told fun _=>kn e1.Heard fun _=>ai (en96_0 e1 uu23) (fun (i0:Nat×(Int×List Uf)) (hi0:lJ96_0 e1 i0)=>(fun (m0:Nat) (i40:Int) (xs:List Uf) (hh0:lH96_0 e1 i0 m0 i40 xs)=>have hI0:=hh0.1; have hl0:=hh0.2.1; have _:=hh0.2.2.1; have _:=hh0.2.2.2; ifd (i40<(xs.length:Int)) (fun h2 _=>ai (uu1:ib i40 xs) (ai (setr 5 eHelloRoute xs (i40).toNat (⟨(xs.getD i40.toNat default).Entry,true⟩:Uf)) (ai (iok (i40+1) uu1) (bk96_0 e1 i0 m0 (i40+1) (xs.set (i40).toNat (⟨(xs.getD i40.toNat default).Entry,true⟩:Uf)) hl0 (runL_next hI0 (condT h2 rfl)) uu19)))) (fun h2 _=>have hD0_3:lX96_0 e1=Lp.done (i40,xs):=runL_done hI0 (condF h2 rfl); ifb (bif decide ((xs.length:Int)>0) then (e1.Keep==0) else false) (fun h4=>have _:=Qc (andT1 h4); have _:=eq_of_beq (andT2 h4); fi96 e1 (⟨e1.Name,e1.Peer,e1.Keys,e1.Boot,e1.Want,e1.Turn,e1.PeerBoot,e1.PeerTurn,e1.Up,e1.Left,e1.Num,e1.Under,e1.Told,e1.All,e1.Got,e1.Full,xs,6⟩:Ud) (finD hD0_3 (condT h4 rfl))) (fun h4=>fi96 e1 (⟨e1.Name,e1.Peer,e1.Keys,e1.Boot,e1.Want,e1.Turn,e1.PeerBoot,e1.PeerTurn,e1.Up,e1.Left,e1.Num,e1.Under,e1.Told,e1.All,e1.Got,e1.Full,xs,e1.Keep⟩:Ud) (finD hD0_3 (condF h4 rfl))))) (i0.1-1) i0.2.1 i0.2.2 (un96_0 e1 i0 hi0))) uu3
def F89 (e1:Ud):Ud :=
 (F96 ⟨e1.Name,e1.Peer,e1.Keys,e1.Boot,e1.Want,e1.Turn,e1.PeerBoot,e1.PeerTurn,false,e1.Left,0,(⟨0,(⟨0,0,0,0⟩:Ue)⟩:HelloChange),([]:List Ue),false,0,false,e1.Heard,e1.Keep⟩)
theorem fi89 (e1:Ud) (r:Ud) (hF:r=(F89 e1)):((.int .i64 r.Name:Value)=.int .i64 (F89 e1).Name)/\((.int .i64 r.Peer:Value)=.int .i64 (F89 e1).Peer)/\(Imp (.l 2 eHelloKey r.Keys) (.l 2 eHelloKey (F89 e1).Keys))/\((.int .i64 r.Boot:Value)=.int .i64 (F89 e1).Boot)/\(Imp (.l 4 eHelloEntry r.Want) (.l 4 eHelloEntry (F89 e1).Want))/\((.int .i64 r.Turn:Value)=.int .i64 (F89 e1).Turn)/\((.int .i64 r.PeerBoot:Value)=.int .i64 (F89 e1).PeerBoot)/\((.int .i64 r.PeerTurn:Value)=.int .i64 (F89 e1).PeerTurn)/\((.bool r.Up:Value)=.bool (F89 e1).Up)/\((.int .i64 r.Left:Value)=.int .i64 (F89 e1).Left)/\((.int .i64 r.Num:Value)=.int .i64 (F89 e1).Num)/\((.int .i64 r.Under.Kind:Value)=.int .i64 (F89 e1).Under.Kind)/\((.int .i64 r.Under.Entry.Addr:Value)=.int .i64 (F89 e1).Under.Entry.Addr)/\((.int .i64 r.Under.Entry.Len:Value)=.int .i64 (F89 e1).Under.Entry.Len)/\((.int .i64 r.Under.Entry.Cost:Value)=.int .i64 (F89 e1).Under.Entry.Cost)/\((.int .i64 r.Under.Entry.Label:Value)=.int .i64 (F89 e1).Under.Entry.Label)/\(Imp (.l 4 eHelloEntry r.Told) (.l 4 eHelloEntry (F89 e1).Told))/\((.bool r.All:Value)=.bool (F89 e1).All)/\((.int .i64 r.Got:Value)=.int .i64 (F89 e1).Got)/\((.bool r.Full:Value)=.bool (F89 e1).Full)/\(Imp (.l 5 eHelloRoute r.Heard) (.l 5 eHelloRoute (F89 e1).Heard))/\((.int .i64 r.Keep:Value)=.int .i64 (F89 e1).Keep)/\True:=by cases hF; exact ⟨rfl,rfl,Imp.refl _,rfl,Imp.refl _,rfl,rfl,rfl,rfl,rfl,rfl,rfl,rfl,rfl,rfl,rfl,Imp.refl _,rfl,rfl,rfl,Imp.refl _,rfl,trivial⟩
def S89 (e1:Ud):Spec:=⟨[.ot (eHelloEnd e1)],.ag [.v (vI (F89 e1).Name),.v (vI (F89 e1).Peer),.ow (.l 2 eHelloKey (F89 e1).Keys),.v (vI (F89 e1).Boot),.ow (.l 4 eHelloEntry (F89 e1).Want),.v (vI (F89 e1).Turn),.v (vI (F89 e1).PeerBoot),.v (vI (F89 e1).PeerTurn),.v (.bool (F89 e1).Up),.v (vI (F89 e1).Left),.v (vI (F89 e1).Num),.v (vI (F89 e1).Under.Kind),.v (vI (F89 e1).Under.Entry.Addr),.v (vI (F89 e1).Under.Entry.Len),.v (vI (F89 e1).Under.Entry.Cost),.v (vI (F89 e1).Under.Entry.Label),.ow (.l 4 eHelloEntry (F89 e1).Told),.v (.bool (F89 e1).All),.v (vI (F89 e1).Got),.v (.bool (F89 e1).Full),.ow (.l 5 eHelloRoute (F89 e1).Heard),.v (vI (F89 e1).Keep)],True⟩
theorem ok89 (e1:Ud):(S89 e1).ok Try.prog 89 :=
 fnG_ok mixed (fn:=Try.f89) (ct:=.seq .no (.seq .no (.seq .no (.seq .no (.seq (.reg [(0,.dat (.l 4 eHelloEntry ([]:List Ue)))]) (.seq .no (.seq .no (.seq .no (.seq (.reg [(1,.call 96 (S96 (⟨e1.Name,e1.Peer,e1.Keys,e1.Boot,e1.Want,e1.Turn,e1.PeerBoot,e1.PeerTurn,false,e1.Left,0,(⟨0,(⟨0,0,0,0⟩:Ue)⟩:HelloChange),([]:List Ue),false,0,false,e1.Heard,e1.Keep⟩:Ud)) (ok96 (⟨e1.Name,e1.Peer,e1.Keys,e1.Boot,e1.Want,e1.Turn,e1.PeerBoot,e1.PeerTurn,false,e1.Left,0,(⟨0,(⟨0,0,0,0⟩:Ue)⟩:HelloChange),([]:List Ue),false,0,false,e1.Heard,e1.Keep⟩:Ud)) none)]) .no))))))))) Try.func89 (fun (_:True)=>ai (bokr 4 eHelloEntry ([]:List Ue) fun _=>rfl) (ai trivial (ai (Imps.refl (eHelloEnd (⟨e1.Name,e1.Peer,e1.Keys,e1.Boot,e1.Want,e1.Turn,e1.PeerBoot,e1.PeerTurn,false,e1.Left,0,(⟨0,(⟨0,0,0,0⟩:Ue)⟩:HelloChange),([]:List Ue),false,0,false,e1.Heard,e1.Keep⟩:Ud))) (fi89 e1 (F96 ⟨e1.Name,e1.Peer,e1.Keys,e1.Boot,e1.Want,e1.Turn,e1.PeerBoot,e1.PeerTurn,false,e1.Left,0,(⟨0,(⟨0,0,0,0⟩:Ue)⟩:HelloChange),([]:List Ue),false,0,false,e1.Heard,e1.Keep⟩) rfl)))) uu3
def F82_j0 (e1:Ud):Lp Int Ud :=
 bif (decide (e1.Boot<1000)) then (.done (IntKind.i64.wrap (e1.Boot+1))) else (.done e1.Boot)
def F82 (e1:Ud):Ud :=
 (F82_j0 e1).fin (fun r=>r) (fun e2=>(F89 ⟨e1.Name,e1.Peer,e1.Keys,e2,e1.Want,0,e1.PeerBoot,e1.PeerTurn,e1.Up,0,e1.Num,e1.Under,e1.Told,e1.All,e1.Got,e1.Full,e1.Heard,e1.Keep⟩))
abbrev jJ82_0 (e1:Ud) (j:Int):Prop:=(F82_j0 e1)=Lp.done j
theorem jn82_0 (e1:Ud) (e2:Int) (e:(F82_j0 e1)=Lp.done e2):∃ j:Int,((.int .i64 e1.Name:Value)=.int .i64 e1.Name)/\((.int .i64 e1.Peer:Value)=.int .i64 e1.Peer)/\((.int .i64 e2:Value)=.int .i64 j)/\((.int .i64 e1.Turn:Value)=.int .i64 e1.Turn)/\((.int .i64 e1.PeerBoot:Value)=.int .i64 e1.PeerBoot)/\((.int .i64 e1.PeerTurn:Value)=.int .i64 e1.PeerTurn)/\((.bool e1.Up:Value)=.bool e1.Up)/\((.int .i64 e1.Left:Value)=.int .i64 e1.Left)/\((.int .i64 e1.Num:Value)=.int .i64 e1.Num)/\((.int .i64 e1.Under.Kind:Value)=.int .i64 e1.Under.Kind)/\((.int .i64 e1.Under.Entry.Addr:Value)=.int .i64 e1.Under.Entry.Addr)/\((.int .i64 e1.Under.Entry.Len:Value)=.int .i64 e1.Under.Entry.Len)/\((.int .i64 e1.Under.Entry.Cost:Value)=.int .i64 e1.Under.Entry.Cost)/\((.int .i64 e1.Under.Entry.Label:Value)=.int .i64 e1.Under.Entry.Label)/\((.bool e1.All:Value)=.bool e1.All)/\((.int .i64 e1.Got:Value)=.int .i64 e1.Got)/\((.bool e1.Full:Value)=.bool e1.Full)/\((.int .i64 e1.Keep:Value)=.int .i64 e1.Keep)/\(Imp (.l 2 eHelloKey e1.Keys) (.l 2 eHelloKey e1.Keys))/\(Imp (.l 4 eHelloEntry e1.Want) (.l 4 eHelloEntry e1.Want))/\(Imp (.l 4 eHelloEntry e1.Told) (.l 4 eHelloEntry e1.Told))/\(Imp (.l 5 eHelloRoute e1.Heard) (.l 5 eHelloRoute e1.Heard))/\((.int .i64 0:Value)=.int .i64 0)/\((.int .i64 0:Value)=.int .i64 0)/\((.slice none 0 0:Value)=.slice none 0 0)/\((.int .i64 0:Value)=.int .i64 0)/\((.slice none 0 0:Value)=.slice none 0 0)/\((.int .i64 0:Value)=.int .i64 0)/\((.int .i64 0:Value)=.int .i64 0)/\((.int .i64 0:Value)=.int .i64 0)/\((.bool false:Value)=.bool false)/\((.int .i64 0:Value)=.int .i64 0)/\((.int .i64 0:Value)=.int .i64 0)/\((.int .i64 0:Value)=.int .i64 0)/\((.int .i64 0:Value)=.int .i64 0)/\((.int .i64 0:Value)=.int .i64 0)/\((.int .i64 0:Value)=.int .i64 0)/\((.int .i64 0:Value)=.int .i64 0)/\((.slice none 0 0:Value)=.slice none 0 0)/\((.bool false:Value)=.bool false)/\((.int .i64 0:Value)=.int .i64 0)/\((.bool false:Value)=.bool false)/\((.slice none 0 0:Value)=.slice none 0 0)/\((.int .i64 0:Value)=.int .i64 0)/\jJ82_0 e1 j:=⟨e2,rfl,rfl,rfl,rfl,rfl,rfl,rfl,rfl,rfl,rfl,rfl,rfl,rfl,rfl,rfl,rfl,rfl,rfl,Imp.refl _,Imp.refl _,Imp.refl _,Imp.refl _,rfl,rfl,rfl,rfl,rfl,rfl,rfl,rfl,rfl,rfl,rfl,rfl,rfl,rfl,rfl,rfl,rfl,rfl,rfl,rfl,rfl,rfl,e⟩
theorem fi82 (e1:Ud) (r:Ud) (hF:r=(F82 e1)):((.int .i64 r.Name:Value)=.int .i64 (F82 e1).Name)/\((.int .i64 r.Peer:Value)=.int .i64 (F82 e1).Peer)/\(Imp (.l 2 eHelloKey r.Keys) (.l 2 eHelloKey (F82 e1).Keys))/\((.int .i64 r.Boot:Value)=.int .i64 (F82 e1).Boot)/\(Imp (.l 4 eHelloEntry r.Want) (.l 4 eHelloEntry (F82 e1).Want))/\((.int .i64 r.Turn:Value)=.int .i64 (F82 e1).Turn)/\((.int .i64 r.PeerBoot:Value)=.int .i64 (F82 e1).PeerBoot)/\((.int .i64 r.PeerTurn:Value)=.int .i64 (F82 e1).PeerTurn)/\((.bool r.Up:Value)=.bool (F82 e1).Up)/\((.int .i64 r.Left:Value)=.int .i64 (F82 e1).Left)/\((.int .i64 r.Num:Value)=.int .i64 (F82 e1).Num)/\((.int .i64 r.Under.Kind:Value)=.int .i64 (F82 e1).Under.Kind)/\((.int .i64 r.Under.Entry.Addr:Value)=.int .i64 (F82 e1).Under.Entry.Addr)/\((.int .i64 r.Under.Entry.Len:Value)=.int .i64 (F82 e1).Under.Entry.Len)/\((.int .i64 r.Under.Entry.Cost:Value)=.int .i64 (F82 e1).Under.Entry.Cost)/\((.int .i64 r.Under.Entry.Label:Value)=.int .i64 (F82 e1).Under.Entry.Label)/\(Imp (.l 4 eHelloEntry r.Told) (.l 4 eHelloEntry (F82 e1).Told))/\((.bool r.All:Value)=.bool (F82 e1).All)/\((.int .i64 r.Got:Value)=.int .i64 (F82 e1).Got)/\((.bool r.Full:Value)=.bool (F82 e1).Full)/\(Imp (.l 5 eHelloRoute r.Heard) (.l 5 eHelloRoute (F82 e1).Heard))/\((.int .i64 r.Keep:Value)=.int .i64 (F82 e1).Keep)/\True:=by cases hF; exact ⟨rfl,rfl,Imp.refl _,rfl,Imp.refl _,rfl,rfl,rfl,rfl,rfl,rfl,rfl,rfl,rfl,rfl,rfl,Imp.refl _,rfl,rfl,rfl,Imp.refl _,rfl,trivial⟩
def S82 (e1:Ud):Spec:=⟨[.ot (eHelloEnd e1)],.ag [.v (vI (F82 e1).Name),.v (vI (F82 e1).Peer),.ow (.l 2 eHelloKey (F82 e1).Keys),.v (vI (F82 e1).Boot),.ow (.l 4 eHelloEntry (F82 e1).Want),.v (vI (F82 e1).Turn),.v (vI (F82 e1).PeerBoot),.v (vI (F82 e1).PeerTurn),.v (.bool (F82 e1).Up),.v (vI (F82 e1).Left),.v (vI (F82 e1).Num),.v (vI (F82 e1).Under.Kind),.v (vI (F82 e1).Under.Entry.Addr),.v (vI (F82 e1).Under.Entry.Len),.v (vI (F82 e1).Under.Entry.Cost),.v (vI (F82 e1).Under.Entry.Label),.ow (.l 4 eHelloEntry (F82 e1).Told),.v (.bool (F82 e1).All),.v (vI (F82 e1).Got),.v (.bool (F82 e1).Full),.ow (.l 5 eHelloRoute (F82 e1).Heard),.v (vI (F82 e1).Keep)],True⟩
theorem ok82 (e1:Ud):(S82 e1).ok Try.prog 82 :=
 fnG_ok mixed (fn:=Try.f82) (ct:=.seq .no (.cut (ι:=Int) (fun j=>(fun (e2:Int)=>(⟨[(1,some (.p 0 0)),(2,some (.p 5 0))],[(0,some (.box 54 [.v (vI e1.Name),.v (vI e1.Peer),.h 1 0,.v (vI e2),.h 2 0,.v (vI e1.Turn),.v (vI e1.PeerBoot),.v (vI e1.PeerTurn),.v (.bool e1.Up),.v (vI e1.Left),.v (vI e1.Num),.v (vI e1.Under.Kind),.v (vI e1.Under.Entry.Addr),.v (vI e1.Under.Entry.Len),.v (vI e1.Under.Entry.Cost),.v (vI e1.Under.Entry.Label),.h 3 0,.v (.bool e1.All),.v (vI e1.Got),.v (.bool e1.Full),.h 4 0,.v (vI e1.Keep)])),(1,some (.own 1 (.l 2 eHelloKey e1.Keys))),(2,some (.own 2 (.l 4 eHelloEntry e1.Want))),(3,some (.own 3 (.l 4 eHelloEntry e1.Told))),(4,some (.own 4 (.l 5 eHelloRoute e1.Heard))),(5,some (.box 54 [.v (vI 0),.v (vI 0),.v (.slice none 0 0),.v (vI 0),.v (.slice none 0 0),.v (vI 0),.v (vI 0),.v (vI 0),.v (.bool false),.v (vI 0),.v (vI 0),.v (vI 0),.v (vI 0),.v (vI 0),.v (vI 0),.v (vI 0),.v (.slice none 0 0),.v (.bool false),.v (vI 0),.v (.bool false),.v (.slice none 0 0),.v (vI 0)]))],6⟩:St)) j) (jJ82_0 e1) (.seq .no (.cond .no .no)) (fun j=>(fun (e2:Int)=>(.seq .no (.seq .no (.seq (.reg [(1,.call 89 (S89 (⟨e1.Name,e1.Peer,e1.Keys,e2,e1.Want,0,e1.PeerBoot,e1.PeerTurn,e1.Up,0,e1.Num,e1.Under,e1.Told,e1.All,e1.Got,e1.Full,e1.Heard,e1.Keep⟩:Ud)) (ok89 (⟨e1.Name,e1.Peer,e1.Keys,e2,e1.Want,0,e1.PeerBoot,e1.PeerTurn,e1.Up,0,e1.Num,e1.Under,e1.Told,e1.All,e1.Got,e1.Full,e1.Heard,e1.Keep⟩:Ud)) none)]) .no)))) j))) Try.func82 (fun (_:True)=>ai (ifd (e1.Boot<1000) (fun h1 _=>jn82_0 e1 (IntKind.i64.wrap (e1.Boot+1)) (Q5 (condT h1 rfl)) ) (fun h1 _=>jn82_0 e1 e1.Boot (Q5 (condF h1 rfl)) )) (fun (j:Int) (hj:jJ82_0 e1 j)=>(fun (e2:Int) (hJ0_2:(F82_j0 e1)=Lp.done e2)=>ai trivial (ai (Imps.refl (eHelloEnd (⟨e1.Name,e1.Peer,e1.Keys,e2,e1.Want,0,e1.PeerBoot,e1.PeerTurn,e1.Up,0,e1.Num,e1.Under,e1.Told,e1.All,e1.Got,e1.Full,e1.Heard,e1.Keep⟩:Ud))) (fi82 e1 (F89 ⟨e1.Name,e1.Peer,e1.Keys,e2,e1.Want,0,e1.PeerBoot,e1.PeerTurn,e1.Up,0,e1.Num,e1.Under,e1.Told,e1.All,e1.Got,e1.Full,e1.Heard,e1.Keep⟩) (finD hJ0_2 rfl)))) j hj)) uu3
def eqN (x y:Ue):Bool:=(x.Addr==y.Addr)&&((x.Len==y.Len)&&((x.Cost==y.Cost)&&(x.Label==y.Label)))
theorem eqN_iff {x y:Ue}:eqN x y=true↔x=y:=by
 unfold eqN
 obtain ⟨a,b,c,d⟩:=x
 obtain ⟨a',b',c',d'⟩:=y
 simp only [Qh,Tj,Ue.mk.injEq]
theorem same_refl (x:Ue):sameP x x=true:=same_iff.2 ⟨rfl,rfl⟩
theorem at_neg {t:List Ue} {x:Ue} (ht:TblOk t):decide (F97 t x<0)=!(fndE t x):=by
 rw [at_pos ht]
 cases fndE t x with
 | false=>rfl
 | true=>rw [Qd]; exact Qw uu0
theorem at_lacks {t:List Ue} {x:Ue} (ht:TblOk t):(bif decide (F97 t x<0) then true else !(eqN (t.getD (F97 t x).toNat default) x))=!(decide (x∈t)):=by
 rw [at_eq]
 cases h:first (fun k=>sameP (t.getD k default) x) t.length with
 | none =>
  have hn:=first_none.1 h
  have:x ∉ t:=fun hx=>by
   obtain ⟨k,hk,rfl⟩:=mem_getD hx
   have:=hn k hk
   simp only [same_refl] at this
   cases this
  rw [Qw this]; rfl
 | some k =>
  obtain ⟨hk,hs,hl⟩:=first_some.1 h
  have e1:decide (((k:Nat):Int)<0)=false:=Qw uu0
  simp only [e1,Qj,nn]
  congr 1
  rw [T9,eqN_iff,Rs]
  constructor
  ·intro he
   rw [<- he]; exact getD_mem t hk
  ·intro hx
   obtain ⟨j,hj,rfl⟩:=mem_getD hx
   rcases Nat.lt_trichotomy j k with h1 | h1 | h1
   ·have:=hl j h1
    rw [same_refl] at this; cases this
   ·rw [h1]
   ·have:=ht.lt (j-k-1) k uu0
    have e3:k+(j-k-1)+1=j:=by omega
    rw [e3] at this
    rw [less_same this] at hs; cases hs
theorem extra_eq (a b:List Ue) (hb:TblOk b):F94 a b=match first (fun k=>!(fndE b (a.getD k default))) a.length with | some k=>(a.getD k default,true) | none=>((⟨0,0,0,0⟩:Ue),false):=by
 unfold F94
 rw [search (fun k=>!(fndE b (a.getD k default))) (fun k=>(a.getD k default,true)) a.length _ (fun k hk=>by simp only [F94_s0,ltD hk,Qd,nn,at_neg hb]) (by simp [F94_s0])]
 all_goals (cases first (fun k=>!(fndE b (a.getD k default))) a.length <;> rfl)
theorem lacks_eq (a b:List Ue) (hb:TblOk b):F95 a b=match first (fun k=>!(decide (a.getD k default∈b))) a.length with | some k=>(a.getD k default,true) | none=>((⟨0,0,0,0⟩:Ue),false):=by
 unfold F95
 rw [search (fun k=>!(decide (a.getD k default∈b))) (fun k=>(a.getD k default,true)) a.length _ (fun k hk=>by
  have:=at_lacks (x:=a.getD k default) hb
  unfold eqN at this
  simp only [F95_s0,ltD hk,Qd,nn,this]) (by simp [F95_s0])]
 all_goals (cases first (fun k=>!(decide (a.getD k default∈b))) a.length <;> rfl)
def modP (n:Int):Int:=bif decide (n.tmod 2147483647<0) then n.tmod 2147483647+2147483647 else n.tmod 2147483647
theorem tmod_in (n:Int):-2147483647<n.tmod 2147483647/\n.tmod 2147483647<2147483647:=by
 rcases Int.le_total 0 n with h | h
 ·rw [Int.tmod_eq_emod_of_nonneg h]; omega
 ·have e:n=-(-n):=by omega
  rw [e,Int.neg_tmod,Int.tmod_eq_emod_of_nonneg uu0]; omega
theorem modP_in (n:Int):0<=modP n/\modP n<2147483647:=by
 have:=tmod_in n
 unfold modP
 by_cases h:n.tmod 2147483647<0
 ·rw [Qv h]; simp only [Qd]; omega
 ·rw [Qw h]; simp only [Qj]; omega
def mixP (x n:Int):Int:=(x*48271+modP n+1)%2147483647
def InP (x:Int):Prop:=0<=x/\x<2147483647
theorem mixP_in (x n:Int):InP (mixP x n):=by
 unfold InP mixP; omega
theorem mixS {x:Int} (n:Int) (hx:InP x):F52 x n=mixP x n:=by
 have h1:=modP_in n
 have h2:=tmod_in n
 unfold InP at hx
 have key:((IntKind.i64.wrap ((IntKind.i64.wrap ((IntKind.i64.wrap (x*48271))+modP n))+1)).tmod 2147483647)=mixP x n:=by
  rw [wrap_of (n:=x*48271) uu0 uu0,wrap_of (n:=x*48271+modP n) uu0 uu0,wrap_of uu0 uu0,Int.tmod_eq_emod_of_nonneg uu0]
  rfl
 rw [<- key]
 unfold F52 modP
 rw [wrap_of (n:=n.tmod 2147483647+2147483647) uu0 uu0]
 cases decide (n.tmod 2147483647<0) <;> rfl
theorem mixI {x:Int} (n:Int) (hx:InP x):((IntKind.i64.wrap ((IntKind.i64.wrap ((IntKind.i64.wrap (48271*x))+((IntKind.i64.wrap ((n.tmod 2147483647)+2147483647)).tmod 2147483647)))+1)).tmod 2147483647)=mixP x n:=by
 have h1:=modP_in n
 have h2:=tmod_in n
 unfold InP at hx
 have e:((IntKind.i64.wrap ((n.tmod 2147483647)+2147483647)).tmod 2147483647)=modP n:=by
  rw [wrap_of uu0 uu0,Int.tmod_eq_emod_of_nonneg uu0]
  unfold modP
  by_cases h:n.tmod 2147483647<0
  ·rw [Qv h]; simp only [Qd]; omega
  ·rw [Qw h]; simp only [Qj]; omega
 rw [e,wrap_of (n:=48271*x) uu0 uu0,wrap_of (n:=48271*x+modP n) uu0 uu0,wrap_of uu0 uu0,Int.tmod_eq_emod_of_nonneg uu0]
 unfold mixP
 rw [Int.mul_comm]
theorem fold_loop {ρ:Type} (a:List Int) (x0:Int) (h0:InP x0) (step:Int×Int->Lp (Int×Int) ρ)
  (hs:∀ (k:Nat) x,k<a.length->InP x->step (x,(k:Int))=.next (mixP x (a.getD k default),(k:Int)+1)) (he:∀ x,step (x,(a.length:Int))=.done (x,(a.length:Int))) :
  runL step (((a.length:Int)-0).toNat+1) (x0,0)=.done (a.foldl mixP x0,(a.length:Int)):=by
 have h:=runL_rule (step:=step) (fun (k:Nat) (s:Int)=>(s,(k:Int))) a.length (fun k s=>s=(a.take k).foldl mixP x0/\InP s) (fun _=>False)
  (fun k s hk hI=>.inl ⟨_,by rw [hs k s hk hI.2]; rfl,by rw [hI.1,take_next hk,List.foldl_append]; rfl,mixP_in _ _⟩)
  (fun s _=>he s) a.length 0 x0 uu0 ⟨rfl,h0⟩ (Int.toNat ((a.length:Int)-0)+1) uu0
 rcases h with ⟨s,h,hI,_⟩ | ⟨_,_,h⟩
 ·have h':runL step (Int.toNat ((a.length:Int)-0)+1) (x0,0)=_:=h
  rw [h',hI,List.take_length]
 ·exact h.elim
theorem fold_in:∀ (a:List Int) (x:Int),InP x->InP (a.foldl mixP x)
 | [],_,h=>h
 | n :: a,x,_=>fold_in a (mixP x n) (mixP_in x n)
theorem takeIn_eq (x:Int) (a:List Int) (hx:InP x):F39 x a=a.foldl mixP x:=by
 unfold F39
 rw [fold_loop a x hx _ (fun k x hk h=>by simp only [F39_s0,ltD hk,Qd,nn,mixI _ h]) (fun x=>by simp [F39_s0])]
 rfl
def wordL (w:HelloWord):List Int:=[w.From,w.To,w.Key,w.Boot,w.Yours,w.Turn,w.Num,w.Heard,w.Change.Kind,w.Change.Entry.Addr,w.Change.Entry.Len,w.Change.Entry.Cost,w.Change.Entry.Label]
theorem in0:InP 0:=by unfold InP; decide
theorem sumS_eq (secret:Int) (w:HelloWord):F38 secret w=mixP ((wordL w).foldl mixP (mixP 0 secret)) secret:=by
 unfold F38 F38_j0
 rw [mixS secret in0]
 have h:=fold_loop (ρ:=Int) (wordL w) (mixP 0 secret) (mixP_in _ _) (F38_s0 secret w) (fun k x hk h=>by
  have hk':decide ((k:Int)<((wordL w).length:Int))=true:=ltD hk
  unfold wordL at hk' ⊢
  simp only [F38_s0,hk',Qd,nn,mixS _ h]) (fun x=>by
  unfold wordL
  simp [F38_s0])
 unfold wordL at h ⊢
 rw [h]
 exact mixS secret (fold_in _ _ (mixP_in _ _))
theorem sum_eq (secret:Int) (w:HelloWord):F16 secret w=F38 secret w:=by
 rw [sumS_eq]
 unfold F16
 rw [takeIn_eq 0 _ in0,takeIn_eq _ _ (fold_in _ _ in0)]
 rfl
def staleR (r:Uf):Uf:=⟨r.Entry,true⟩
theorem stale_loop {ρ:Type} (a:List Uf) (step:Int×List Uf->Lp (Int×List Uf) ρ)
  (hs:∀ (k:Nat) xs,k<a.length->xs.length=a.length->step ((k:Int),xs)=.next ((k:Int)+1,xs.set k (staleR (xs.getD k default)))) (he:∀ xs,xs.length=a.length->step ((a.length:Int),xs)=.done ((a.length:Int),xs)) :
  runL step (((a.length:Int)-0).toNat+1) (0,a)=.done ((a.length:Int),a.map staleR):=by
 have h:=runL_rule (step:=step) (fun (k:Nat) (s:List Uf)=>((k:Int),s)) a.length (fun k s=>s=(a.take k).map staleR++a.drop k) (fun _=>False)
  (fun k s hk hI=>by
   have hl:s.length=a.length:=by rw [hI]; simp; omega
   have hd:a.drop k=a.getD k default :: a.drop (k+1):=by rw [getD_lt a hk]; exact Tc hk
   have hg:s.getD k default=a.getD k default:=by
    rw [hI,hd,Qt,Rg (by simp; omega)]
    simp [Sb (Nat.le_of_lt hk)]
   refine .inl ⟨_,by rw [hs k s hk hl]; rfl,?_⟩
   rw [hg,hI,hd,List.set_append_right _ _ (by simp; omega),take_next hk,T2,Q0]
   simp [Sb (Nat.le_of_lt hk)])
  (fun s hI=>he s (by rw [hI]; simp)) a.length 0 a uu0 (by simp) (Int.toNat ((a.length:Int)-0)+1) uu0
 rcases h with ⟨s,h,hI⟩ | ⟨_,_,h⟩
 ·have h':runL step (Int.toNat ((a.length:Int)-0)+1) (0,a)=_:=h
  rw [h',hI,List.take_length,List.drop_length,Tm]
 ·exact h.elim
theorem lifeS_loop (e:Ud):runL (F96_s0 e) (((e.Heard.length:Int)-0).toNat+1) (0,e.Heard)=.done ((e.Heard.length:Int),e.Heard.map staleR) :=
 stale_loop e.Heard _ (fun k xs hk hl=>by
  have:decide ((k:Int)<(xs.length:Int))=true:=Qv uu0
  simp only [F96_s0,this,Qd,nn]; rfl) (fun xs hl=>by
  have:decide ((e.Heard.length:Int)<(xs.length:Int))=false:=Qw uu0
  simp only [F96_s0,this,Qj])
theorem stale_facts (e:Ud):(F96 e).Keys=e.Keys/\(F96 e).Want=e.Want/\(F96 e).Told=e.Told/\(F96 e).Heard.length=e.Heard.length:=by
 unfold F96
 rw [lifeS_loop]
 simp only [Lp.fin]
 cases (bif decide (((e.Heard.map staleR).length:Int)>0) then (e.Keep==0) else false) <;> exact ⟨rfl,rfl,rfl,Su _⟩
theorem life_facts (e:Ud):(F82 e).Keys=e.Keys/\(F82 e).Want=e.Want/\(F82 e).Told=[]/\(F82 e).Heard.length=e.Heard.length:=by
 unfold F82 F82_j0 F89
 cases decide (e.Boot<1000) <;> exact stale_facts _
theorem life_small (e:Ud) (h:smallE e):smallE (F82 e):=by
 obtain ⟨h1,h2,h3,h4⟩:=life_facts e
 unfold smallE at h ⊢
 rw [h1,h2,h3,h4]
 exact ⟨h.1,h.2.1,Rk _,h.2.2.2⟩
theorem kc63a (e1:Ud) {K_:Prop} (p0_:smallE e1) (k_:K_):(smallE e1)/\(Imps (eHelloEnd e1) (eHelloEnd e1))/\K_:=⟨p0_,Imps.refl _,k_⟩
abbrev kh63a (e1:Ud):Hint true Try.prog:=.call 63 (S63 e1 e1) (oa63 e1) none
theorem kc82l (e1:Ud) {K_:Prop} (q0_:smallE e1) (k_:(smallE (F82 e1))->K_):(True)/\(Imps (eHelloEnd e1) (eHelloEnd e1))/\K_:=⟨trivial,Imps.refl _,k_ (life_small e1 q0_)⟩
abbrev kh82l (e1:Ud):Hint true Try.prog:=.call 82 (S82 e1) (ok82 e1) none
def F78_j0 (e1:Ud):Lp (Int×Int×Int×Int×Int×Int) (Ud×HelloWord×Bool) :=
 bif (bif e1.Up then (e1.Under.Kind==0) else false) then (bif (decide ((F87 ⟨e1.Name,e1.Peer,e1.Keys,e1.Boot,e1.Want,(IntKind.i64.wrap (e1.Turn+1)),e1.PeerBoot,e1.PeerTurn,e1.Up,e1.Left,e1.Num,e1.Under,e1.Told,e1.All,e1.Got,e1.Full,e1.Heard,e1.Keep⟩).Kind>0)) then (.done ((IntKind.i64.wrap (e1.Num+1)),(F87 ⟨e1.Name,e1.Peer,e1.Keys,e1.Boot,e1.Want,(IntKind.i64.wrap (e1.Turn+1)),e1.PeerBoot,e1.PeerTurn,e1.Up,e1.Left,e1.Num,e1.Under,e1.Told,e1.All,e1.Got,e1.Full,e1.Heard,e1.Keep⟩).Kind,(F87 ⟨e1.Name,e1.Peer,e1.Keys,e1.Boot,e1.Want,(IntKind.i64.wrap (e1.Turn+1)),e1.PeerBoot,e1.PeerTurn,e1.Up,e1.Left,e1.Num,e1.Under,e1.Told,e1.All,e1.Got,e1.Full,e1.Heard,e1.Keep⟩).Entry.Addr,(F87 ⟨e1.Name,e1.Peer,e1.Keys,e1.Boot,e1.Want,(IntKind.i64.wrap (e1.Turn+1)),e1.PeerBoot,e1.PeerTurn,e1.Up,e1.Left,e1.Num,e1.Under,e1.Told,e1.All,e1.Got,e1.Full,e1.Heard,e1.Keep⟩).Entry.Len,(F87 ⟨e1.Name,e1.Peer,e1.Keys,e1.Boot,e1.Want,(IntKind.i64.wrap (e1.Turn+1)),e1.PeerBoot,e1.PeerTurn,e1.Up,e1.Left,e1.Num,e1.Under,e1.Told,e1.All,e1.Got,e1.Full,e1.Heard,e1.Keep⟩).Entry.Cost,(F87 ⟨e1.Name,e1.Peer,e1.Keys,e1.Boot,e1.Want,(IntKind.i64.wrap (e1.Turn+1)),e1.PeerBoot,e1.PeerTurn,e1.Up,e1.Left,e1.Num,e1.Under,e1.Told,e1.All,e1.Got,e1.Full,e1.Heard,e1.Keep⟩).Entry.Label)) else (.done (e1.Num,(F87 ⟨e1.Name,e1.Peer,e1.Keys,e1.Boot,e1.Want,(IntKind.i64.wrap (e1.Turn+1)),e1.PeerBoot,e1.PeerTurn,e1.Up,e1.Left,e1.Num,e1.Under,e1.Told,e1.All,e1.Got,e1.Full,e1.Heard,e1.Keep⟩).Kind,(F87 ⟨e1.Name,e1.Peer,e1.Keys,e1.Boot,e1.Want,(IntKind.i64.wrap (e1.Turn+1)),e1.PeerBoot,e1.PeerTurn,e1.Up,e1.Left,e1.Num,e1.Under,e1.Told,e1.All,e1.Got,e1.Full,e1.Heard,e1.Keep⟩).Entry.Addr,(F87 ⟨e1.Name,e1.Peer,e1.Keys,e1.Boot,e1.Want,(IntKind.i64.wrap (e1.Turn+1)),e1.PeerBoot,e1.PeerTurn,e1.Up,e1.Left,e1.Num,e1.Under,e1.Told,e1.All,e1.Got,e1.Full,e1.Heard,e1.Keep⟩).Entry.Len,(F87 ⟨e1.Name,e1.Peer,e1.Keys,e1.Boot,e1.Want,(IntKind.i64.wrap (e1.Turn+1)),e1.PeerBoot,e1.PeerTurn,e1.Up,e1.Left,e1.Num,e1.Under,e1.Told,e1.All,e1.Got,e1.Full,e1.Heard,e1.Keep⟩).Entry.Cost,(F87 ⟨e1.Name,e1.Peer,e1.Keys,e1.Boot,e1.Want,(IntKind.i64.wrap (e1.Turn+1)),e1.PeerBoot,e1.PeerTurn,e1.Up,e1.Left,e1.Num,e1.Under,e1.Told,e1.All,e1.Got,e1.Full,e1.Heard,e1.Keep⟩).Entry.Label))) else (.done (e1.Num,e1.Under.Kind,e1.Under.Entry.Addr,e1.Under.Entry.Len,e1.Under.Entry.Cost,e1.Under.Entry.Label))
def F78 (e1:Ud):Ud×HelloWord×Bool :=
 bif (!(F76 e1)) then ((⟨0,0,[],0,[],0,0,0,false,0,0,(⟨0,(⟨0,0,0,0⟩:Ue)⟩:HelloChange),[],false,0,false,[],0⟩:Ud),(⟨0,0,0,0,0,0,0,0,(⟨0,(⟨0,0,0,0⟩:Ue)⟩:HelloChange),0⟩:HelloWord),false) else (bif (e1.Boot==1000) then (e1,(⟨0,0,0,0,0,0,0,0,(⟨0,(⟨0,0,0,0⟩:Ue)⟩:HelloChange),0⟩:HelloWord),false) else (bif (e1.Turn==1000000) then ((F82 e1),(⟨0,0,0,0,0,0,0,0,(⟨0,(⟨0,0,0,0⟩:Ue)⟩:HelloChange),0⟩:HelloWord),false) else ((F78_j0 e1).fin (fun r=>r) (fun (x9,x10,x11,x12,x13,x14)=>((⟨e1.Name,e1.Peer,e1.Keys,e1.Boot,e1.Want,(IntKind.i64.wrap (e1.Turn+1)),e1.PeerBoot,e1.PeerTurn,e1.Up,e1.Left,x9,(⟨x10,(⟨x11,x12,x13,x14⟩:Ue)⟩:HelloChange),e1.Told,e1.All,e1.Got,e1.Full,e1.Heard,e1.Keep⟩:Ud),(⟨e1.Name,e1.Peer,(e1.Keys.getD ((e1.Keys.length:Int)-1).toNat default).Id,e1.Boot,e1.PeerBoot,(IntKind.i64.wrap (e1.Turn+1)),x9,e1.Got,(⟨x10,(⟨x11,x12,x13,x14⟩:Ue)⟩:HelloChange),(F38 (e1.Keys.getD ((e1.Keys.length:Int)-1).toNat default).Secret ⟨e1.Name,e1.Peer,(e1.Keys.getD ((e1.Keys.length:Int)-1).toNat default).Id,e1.Boot,e1.PeerBoot,(IntKind.i64.wrap (e1.Turn+1)),x9,e1.Got,(⟨x10,(⟨x11,x12,x13,x14⟩:Ue)⟩:HelloChange),0⟩)⟩:HelloWord),true)))))
abbrev jJ78_0 (e1:Ud) (j:Int×Int×Int×Int×Int×Int):Prop:=(F78_j0 e1)=Lp.done j
theorem jn78_0 (e1:Ud) (x9:Int) (x10:Int) (x11:Int) (x12:Int) (x13:Int) (x14:Int) (e:(F78_j0 e1)=Lp.done (x9,x10,x11,x12,x13,x14)):∃ j:Int×Int×Int×Int×Int×Int,((.int .i64 0:Value)=.int .i64 0)/\((.int .i64 0:Value)=.int .i64 0)/\((.slice none 0 0:Value)=.slice none 0 0)/\((.int .i64 0:Value)=.int .i64 0)/\((.slice none 0 0:Value)=.slice none 0 0)/\((.int .i64 0:Value)=.int .i64 0)/\((.int .i64 0:Value)=.int .i64 0)/\((.int .i64 0:Value)=.int .i64 0)/\((.bool false:Value)=.bool false)/\((.int .i64 0:Value)=.int .i64 0)/\((.int .i64 0:Value)=.int .i64 0)/\((.int .i64 0:Value)=.int .i64 0)/\((.int .i64 0:Value)=.int .i64 0)/\((.int .i64 0:Value)=.int .i64 0)/\((.int .i64 0:Value)=.int .i64 0)/\((.int .i64 0:Value)=.int .i64 0)/\((.slice none 0 0:Value)=.slice none 0 0)/\((.bool false:Value)=.bool false)/\((.int .i64 0:Value)=.int .i64 0)/\((.bool false:Value)=.bool false)/\((.slice none 0 0:Value)=.slice none 0 0)/\((.int .i64 0:Value)=.int .i64 0)/\((.int .i64 0:Value)=.int .i64 0)/\((.int .i64 0:Value)=.int .i64 0)/\((.int .i64 0:Value)=.int .i64 0)/\((.int .i64 0:Value)=.int .i64 0)/\((.int .i64 0:Value)=.int .i64 0)/\((.int .i64 0:Value)=.int .i64 0)/\((.int .i64 0:Value)=.int .i64 0)/\((.int .i64 0:Value)=.int .i64 0)/\((.int .i64 0:Value)=.int .i64 0)/\((.int .i64 0:Value)=.int .i64 0)/\((.int .i64 0:Value)=.int .i64 0)/\((.int .i64 0:Value)=.int .i64 0)/\((.int .i64 0:Value)=.int .i64 0)/\((.int .i64 0:Value)=.int .i64 0)/\((.int .i64 e1.Name:Value)=.int .i64 e1.Name)/\((.int .i64 e1.Peer:Value)=.int .i64 e1.Peer)/\((.int .i64 e1.Boot:Value)=.int .i64 e1.Boot)/\((.int .i64 (IntKind.i64.wrap (e1.Turn+1)):Value)=.int .i64 (IntKind.i64.wrap (e1.Turn+1)))/\((.int .i64 e1.PeerBoot:Value)=.int .i64 e1.PeerBoot)/\((.int .i64 e1.PeerTurn:Value)=.int .i64 e1.PeerTurn)/\((.bool e1.Up:Value)=.bool e1.Up)/\((.int .i64 e1.Left:Value)=.int .i64 e1.Left)/\((.int .i64 x9:Value)=.int .i64 j.1)/\((.int .i64 x10:Value)=.int .i64 j.2.1)/\((.int .i64 x11:Value)=.int .i64 j.2.2.1)/\((.int .i64 x12:Value)=.int .i64 j.2.2.2.1)/\((.int .i64 x13:Value)=.int .i64 j.2.2.2.2.1)/\((.int .i64 x14:Value)=.int .i64 j.2.2.2.2.2)/\((.bool e1.All:Value)=.bool e1.All)/\((.int .i64 e1.Got:Value)=.int .i64 e1.Got)/\((.bool e1.Full:Value)=.bool e1.Full)/\((.int .i64 e1.Keep:Value)=.int .i64 e1.Keep)/\(Imp (.l 2 eHelloKey e1.Keys) (.l 2 eHelloKey e1.Keys))/\(Imp (.l 4 eHelloEntry e1.Want) (.l 4 eHelloEntry e1.Want))/\(Imp (.l 4 eHelloEntry e1.Told) (.l 4 eHelloEntry e1.Told))/\(Imp (.l 5 eHelloRoute e1.Heard) (.l 5 eHelloRoute e1.Heard))/\jJ78_0 e1 j:=⟨(x9,x10,x11,x12,x13,x14),rfl,rfl,rfl,rfl,rfl,rfl,rfl,rfl,rfl,rfl,rfl,rfl,rfl,rfl,rfl,rfl,rfl,rfl,rfl,rfl,rfl,rfl,rfl,rfl,rfl,rfl,rfl,rfl,rfl,rfl,rfl,rfl,rfl,rfl,rfl,rfl,rfl,rfl,rfl,rfl,rfl,rfl,rfl,rfl,rfl,rfl,rfl,rfl,rfl,rfl,rfl,rfl,rfl,rfl,Imp.refl _,Imp.refl _,Imp.refl _,Imp.refl _,e⟩
theorem fi78 (e1:Ud) (r:Ud×HelloWord×Bool) (hF:r=(F78 e1)):((.int .i64 r.1.Name:Value)=.int .i64 (F78 e1).1.Name)/\((.int .i64 r.1.Peer:Value)=.int .i64 (F78 e1).1.Peer)/\(Imp (.l 2 eHelloKey r.1.Keys) (.l 2 eHelloKey (F78 e1).1.Keys))/\((.int .i64 r.1.Boot:Value)=.int .i64 (F78 e1).1.Boot)/\(Imp (.l 4 eHelloEntry r.1.Want) (.l 4 eHelloEntry (F78 e1).1.Want))/\((.int .i64 r.1.Turn:Value)=.int .i64 (F78 e1).1.Turn)/\((.int .i64 r.1.PeerBoot:Value)=.int .i64 (F78 e1).1.PeerBoot)/\((.int .i64 r.1.PeerTurn:Value)=.int .i64 (F78 e1).1.PeerTurn)/\((.bool r.1.Up:Value)=.bool (F78 e1).1.Up)/\((.int .i64 r.1.Left:Value)=.int .i64 (F78 e1).1.Left)/\((.int .i64 r.1.Num:Value)=.int .i64 (F78 e1).1.Num)/\((.int .i64 r.1.Under.Kind:Value)=.int .i64 (F78 e1).1.Under.Kind)/\((.int .i64 r.1.Under.Entry.Addr:Value)=.int .i64 (F78 e1).1.Under.Entry.Addr)/\((.int .i64 r.1.Under.Entry.Len:Value)=.int .i64 (F78 e1).1.Under.Entry.Len)/\((.int .i64 r.1.Under.Entry.Cost:Value)=.int .i64 (F78 e1).1.Under.Entry.Cost)/\((.int .i64 r.1.Under.Entry.Label:Value)=.int .i64 (F78 e1).1.Under.Entry.Label)/\(Imp (.l 4 eHelloEntry r.1.Told) (.l 4 eHelloEntry (F78 e1).1.Told))/\((.bool r.1.All:Value)=.bool (F78 e1).1.All)/\((.int .i64 r.1.Got:Value)=.int .i64 (F78 e1).1.Got)/\((.bool r.1.Full:Value)=.bool (F78 e1).1.Full)/\(Imp (.l 5 eHelloRoute r.1.Heard) (.l 5 eHelloRoute (F78 e1).1.Heard))/\((.int .i64 r.1.Keep:Value)=.int .i64 (F78 e1).1.Keep)/\((.int .i64 r.2.1.From:Value)=.int .i64 (F78 e1).2.1.From)/\((.int .i64 r.2.1.To:Value)=.int .i64 (F78 e1).2.1.To)/\((.int .i64 r.2.1.Key:Value)=.int .i64 (F78 e1).2.1.Key)/\((.int .i64 r.2.1.Boot:Value)=.int .i64 (F78 e1).2.1.Boot)/\((.int .i64 r.2.1.Yours:Value)=.int .i64 (F78 e1).2.1.Yours)/\((.int .i64 r.2.1.Turn:Value)=.int .i64 (F78 e1).2.1.Turn)/\((.int .i64 r.2.1.Num:Value)=.int .i64 (F78 e1).2.1.Num)/\((.int .i64 r.2.1.Heard:Value)=.int .i64 (F78 e1).2.1.Heard)/\((.int .i64 r.2.1.Change.Kind:Value)=.int .i64 (F78 e1).2.1.Change.Kind)/\((.int .i64 r.2.1.Change.Entry.Addr:Value)=.int .i64 (F78 e1).2.1.Change.Entry.Addr)/\((.int .i64 r.2.1.Change.Entry.Len:Value)=.int .i64 (F78 e1).2.1.Change.Entry.Len)/\((.int .i64 r.2.1.Change.Entry.Cost:Value)=.int .i64 (F78 e1).2.1.Change.Entry.Cost)/\((.int .i64 r.2.1.Change.Entry.Label:Value)=.int .i64 (F78 e1).2.1.Change.Entry.Label)/\((.int .i64 r.2.1.Sum:Value)=.int .i64 (F78 e1).2.1.Sum)/\((.bool r.2.2:Value)=.bool (F78 e1).2.2)/\True:=by cases hF; exact ⟨rfl,rfl,Imp.refl _,rfl,Imp.refl _,rfl,rfl,rfl,rfl,rfl,rfl,rfl,rfl,rfl,rfl,rfl,Imp.refl _,rfl,rfl,rfl,Imp.refl _,rfl,rfl,rfl,rfl,rfl,rfl,rfl,rfl,rfl,rfl,rfl,rfl,rfl,rfl,rfl,rfl,trivial⟩
def S78 (e1:Ud):Spec:=⟨[.r (.g (eHelloEnd e1))],.tu [.ag [.v (vI (F78 e1).1.Name),.v (vI (F78 e1).1.Peer),.ow (.l 2 eHelloKey (F78 e1).1.Keys),.v (vI (F78 e1).1.Boot),.ow (.l 4 eHelloEntry (F78 e1).1.Want),.v (vI (F78 e1).1.Turn),.v (vI (F78 e1).1.PeerBoot),.v (vI (F78 e1).1.PeerTurn),.v (.bool (F78 e1).1.Up),.v (vI (F78 e1).1.Left),.v (vI (F78 e1).1.Num),.v (vI (F78 e1).1.Under.Kind),.v (vI (F78 e1).1.Under.Entry.Addr),.v (vI (F78 e1).1.Under.Entry.Len),.v (vI (F78 e1).1.Under.Entry.Cost),.v (vI (F78 e1).1.Under.Entry.Label),.ow (.l 4 eHelloEntry (F78 e1).1.Told),.v (.bool (F78 e1).1.All),.v (vI (F78 e1).1.Got),.v (.bool (F78 e1).1.Full),.ow (.l 5 eHelloRoute (F78 e1).1.Heard),.v (vI (F78 e1).1.Keep)],.ag [.v (vI (F78 e1).2.1.From),.v (vI (F78 e1).2.1.To),.v (vI (F78 e1).2.1.Key),.v (vI (F78 e1).2.1.Boot),.v (vI (F78 e1).2.1.Yours),.v (vI (F78 e1).2.1.Turn),.v (vI (F78 e1).2.1.Num),.v (vI (F78 e1).2.1.Heard),.v (vI (F78 e1).2.1.Change.Kind),.v (vI (F78 e1).2.1.Change.Entry.Addr),.v (vI (F78 e1).2.1.Change.Entry.Len),.v (vI (F78 e1).2.1.Change.Entry.Cost),.v (vI (F78 e1).2.1.Change.Entry.Label),.v (vI (F78 e1).2.1.Sum)],.v (.bool (F78 e1).2.2)],True⟩
abbrev q78_1 (e1:Ud):=(e1.Keys.getD ((e1.Keys.length:Int)-1).toNat default)
abbrev q78_2 (x10:Int) (x11:Int) (x12:Int) (x13:Int) (x14:Int):=(⟨x10,(⟨x11,x12,x13,x14⟩:Ue)⟩:HelloChange)
theorem ok78 (e1:Ud):(S78 e1).ok Try.prog 78 :=
 fnG_ok mixed (fn:=Try.f78) (ct:=.seq .no (.seq (.seq (.reg [(1,kh76l e1)]) (.cond (.seq .no .no) .no)) (.seq (.reg [(1,kh63a e1)]) (.seq (.seq .no (.cond (.seq .no .no) .no)) (.seq (.seq .no (.cond (.seq (.reg [(1,kh82l e1),(2,kh63a (F82 e1))]) .no) .no)) (.seq .no (.cut (ι:=Int×Int×Int×Int×Int×Int) (fun j=>(fun (x9:Int) (x10:Int) (x11:Int) (x12:Int) (x13:Int) (x14:Int)=>(⟨[(2,some (.p 0 0)),(3,some (.p 1 0)),(5,some (.p 2 0))],[(0,some (.box 54 [.v (vI 0),.v (vI 0),.v (.slice none 0 0),.v (vI 0),.v (.slice none 0 0),.v (vI 0),.v (vI 0),.v (vI 0),.v (.bool false),.v (vI 0),.v (vI 0),.v (vI 0),.v (vI 0),.v (vI 0),.v (vI 0),.v (vI 0),.v (.slice none 0 0),.v (.bool false),.v (vI 0),.v (.bool false),.v (.slice none 0 0),.v (vI 0)])),(1,some (.box 32 [.v (vI 0),.v (vI 0),.v (vI 0),.v (vI 0),.v (vI 0),.v (vI 0),.v (vI 0),.v (vI 0),.v (vI 0),.v (vI 0),.v (vI 0),.v (vI 0),.v (vI 0),.v (vI 0)])),(2,some (.box 54 [.v (vI e1.Name),.v (vI e1.Peer),.h 3 0,.v (vI e1.Boot),.h 4 0,.v (vI (IntKind.i64.wrap (e1.Turn+1))),.v (vI e1.PeerBoot),.v (vI e1.PeerTurn),.v (.bool e1.Up),.v (vI e1.Left),.v (vI x9),.v (vI x10),.v (vI x11),.v (vI x12),.v (vI x13),.v (vI x14),.h 5 0,.v (.bool e1.All),.v (vI e1.Got),.v (.bool e1.Full),.h 6 0,.v (vI e1.Keep)])),(3,some (.own 3 (.l 2 eHelloKey e1.Keys))),(4,some (.own 4 (.l 4 eHelloEntry e1.Want))),(5,some (.own 5 (.l 4 eHelloEntry e1.Told))),(6,some (.own 6 (.l 5 eHelloRoute e1.Heard)))],7⟩:St)) j.1 j.2.1 j.2.2.1 j.2.2.2.1 j.2.2.2.2.1 j.2.2.2.2.2) (jJ78_0 e1) (.seq .no (.cond (.seq (.reg [(1,.call 87 (S87 (⟨e1.Name,e1.Peer,e1.Keys,e1.Boot,e1.Want,(IntKind.i64.wrap (e1.Turn+1)),e1.PeerBoot,e1.PeerTurn,e1.Up,e1.Left,e1.Num,e1.Under,e1.Told,e1.All,e1.Got,e1.Full,e1.Heard,e1.Keep⟩:Ud)) (ok87 (⟨e1.Name,e1.Peer,e1.Keys,e1.Boot,e1.Want,(IntKind.i64.wrap (e1.Turn+1)),e1.PeerBoot,e1.PeerTurn,e1.Up,e1.Left,e1.Num,e1.Under,e1.Told,e1.All,e1.Got,e1.Full,e1.Heard,e1.Keep⟩:Ud)) none)]) (.seq .no (.cond .no .no))) .no)) (fun j=>(fun (x9:Int) (x10:Int) (x11:Int) (x12:Int) (x13:Int) (x14:Int)=>(.seq (.reg [(5,.bnd)]) (.seq .no (.seq (.reg [(3,.call 38 (S38 (q78_1 e1).Secret (⟨e1.Name,e1.Peer,(q78_1 e1).Id,e1.Boot,e1.PeerBoot,(IntKind.i64.wrap (e1.Turn+1)),x9,e1.Got,(q78_2 x10 x11 x12 x13 x14),0⟩:HelloWord)) (ok38 (q78_1 e1).Secret (⟨e1.Name,e1.Peer,(q78_1 e1).Id,e1.Boot,e1.PeerBoot,(IntKind.i64.wrap (e1.Turn+1)),x9,e1.Got,(q78_2 x10 x11 x12 x13 x14),0⟩:HelloWord)) none)]) (.seq .no .no))))) j.1 j.2.1 j.2.2.1 j.2.2.2.1 j.2.2.2.2.1 j.2.2.2.2.2)))))))) Try.func78 (fun (_:True)=>kc76l e1 (ifb (!(F76 e1)) (fun h1=>(fun hF:((⟨0,0,[],0,[],0,0,0,false,0,0,(⟨0,(⟨0,0,0,0⟩:Ue)⟩:HelloChange),[],false,0,false,[],0⟩:Ud),(⟨0,0,0,0,0,0,0,0,(⟨0,(⟨0,0,0,0⟩:Ue)⟩:HelloChange),0⟩:HelloWord),false)=(F78 e1)=>ai (Qa (fun r:Ud×HelloWord×Bool=>(.int .i64 r.1.Name:Value)) hF) (ai (Qa (fun r:Ud×HelloWord×Bool=>(.int .i64 r.1.Peer:Value)) hF) (ai ((Imp.nil 2 eHelloKey).trans (Imp.of_eq (Qa (fun r:Ud×HelloWord×Bool=>Dat.l 2 eHelloKey r.1.Keys) hF))) (ai (Qa (fun r:Ud×HelloWord×Bool=>(.int .i64 r.1.Boot:Value)) hF) (ai ((Imp.nil 4 eHelloEntry).trans (Imp.of_eq (Qa (fun r:Ud×HelloWord×Bool=>Dat.l 4 eHelloEntry r.1.Want) hF))) (ai (Qa (fun r:Ud×HelloWord×Bool=>(.int .i64 r.1.Turn:Value)) hF) (ai (Qa (fun r:Ud×HelloWord×Bool=>(.int .i64 r.1.PeerBoot:Value)) hF) (ai (Qa (fun r:Ud×HelloWord×Bool=>(.int .i64 r.1.PeerTurn:Value)) hF) (ai (Qa (fun r:Ud×HelloWord×Bool=>(.bool r.1.Up:Value)) hF) (ai (Qa (fun r:Ud×HelloWord×Bool=>(.int .i64 r.1.Left:Value)) hF) (ai (Qa (fun r:Ud×HelloWord×Bool=>(.int .i64 r.1.Num:Value)) hF) (ai (Qa (fun r:Ud×HelloWord×Bool=>(.int .i64 r.1.Under.Kind:Value)) hF) (ai (Qa (fun r:Ud×HelloWord×Bool=>(.int .i64 r.1.Under.Entry.Addr:Value)) hF) (ai (Qa (fun r:Ud×HelloWord×Bool=>(.int .i64 r.1.Under.Entry.Len:Value)) hF) (ai (Qa (fun r:Ud×HelloWord×Bool=>(.int .i64 r.1.Under.Entry.Cost:Value)) hF) (ai (Qa (fun r:Ud×HelloWord×Bool=>(.int .i64 r.1.Under.Entry.Label:Value)) hF) (ai ((Imp.nil 4 eHelloEntry).trans (Imp.of_eq (Qa (fun r:Ud×HelloWord×Bool=>Dat.l 4 eHelloEntry r.1.Told) hF))) (ai (Qa (fun r:Ud×HelloWord×Bool=>(.bool r.1.All:Value)) hF) (ai (Qa (fun r:Ud×HelloWord×Bool=>(.int .i64 r.1.Got:Value)) hF) (ai (Qa (fun r:Ud×HelloWord×Bool=>(.bool r.1.Full:Value)) hF) (ai ((Imp.nil 5 eHelloRoute).trans (Imp.of_eq (Qa (fun r:Ud×HelloWord×Bool=>Dat.l 5 eHelloRoute r.1.Heard) hF))) (ai (Qa (fun r:Ud×HelloWord×Bool=>(.int .i64 r.1.Keep:Value)) hF) (ai (Qa (fun r:Ud×HelloWord×Bool=>(.int .i64 r.2.1.From:Value)) hF) (ai (Qa (fun r:Ud×HelloWord×Bool=>(.int .i64 r.2.1.To:Value)) hF) (ai (Qa (fun r:Ud×HelloWord×Bool=>(.int .i64 r.2.1.Key:Value)) hF) (ai (Qa (fun r:Ud×HelloWord×Bool=>(.int .i64 r.2.1.Boot:Value)) hF) (ai (Qa (fun r:Ud×HelloWord×Bool=>(.int .i64 r.2.1.Yours:Value)) hF) (ai (Qa (fun r:Ud×HelloWord×Bool=>(.int .i64 r.2.1.Turn:Value)) hF) (ai (Qa (fun r:Ud×HelloWord×Bool=>(.int .i64 r.2.1.Num:Value)) hF) (ai (Qa (fun r:Ud×HelloWord×Bool=>(.int .i64 r.2.1.Heard:Value)) hF) (ai (Qa (fun r:Ud×HelloWord×Bool=>(.int .i64 r.2.1.Change.Kind:Value)) hF) (ai (Qa (fun r:Ud×HelloWord×Bool=>(.int .i64 r.2.1.Change.Entry.Addr:Value)) hF) (ai (Qa (fun r:Ud×HelloWord×Bool=>(.int .i64 r.2.1.Change.Entry.Len:Value)) hF) (ai (Qa (fun r:Ud×HelloWord×Bool=>(.int .i64 r.2.1.Change.Entry.Cost:Value)) hF) (ai (Qa (fun r:Ud×HelloWord×Bool=>(.int .i64 r.2.1.Change.Entry.Label:Value)) hF) (ai (Qa (fun r:Ud×HelloWord×Bool=>(.int .i64 r.2.1.Sum:Value)) hF) (ai (Qa (fun r:Ud×HelloWord×Bool=>(.bool r.2.2:Value)) hF) trivial))))))))))))))))))))))))))))))))))))) (condT h1 rfl)) (fun h1=>have _:1<=e1.Keys.length/\e1.Keys.length<=3/\e1.Want.length<=8/\e1.Told.length<=8/\e1.Heard.length<=16:=endOkS_T e1 (notEF h1); have _:EndFit e1:=endFitS e1 (notEF h1); kc63a e1 uu17 (ife e1.Boot 1000 (fun h2 _=>fi78 e1 (e1,(⟨0,0,0,0,0,0,0,0,(⟨0,(⟨0,0,0,0⟩:Ue)⟩:HelloChange),0⟩:HelloWord),false) (condF h1 (condT h2 rfl))) (fun h2 _=>ife e1.Turn 1000000 (fun h3 _=>kc82l e1 uu17 (fun gv4=>kc63a (F82 e1) uu17 (fi78 e1 ((F82 e1),(⟨0,0,0,0,0,0,0,0,(⟨0,(⟨0,0,0,0⟩:Ue)⟩:HelloChange),0⟩:HelloWord),false) (condF h1 (condF h2 (condT h3 rfl)))))) (fun h3 _=>ai (ifb (bif e1.Up then (e1.Under.Kind==0) else false) (fun h5=>have _:=(andT1 h5); have _:=eq_of_beq (andT2 h5); ai trivial (ai (Imps.refl (eHelloEnd (⟨e1.Name,e1.Peer,e1.Keys,e1.Boot,e1.Want,(IntKind.i64.wrap (e1.Turn+1)),e1.PeerBoot,e1.PeerTurn,e1.Up,e1.Left,e1.Num,e1.Under,e1.Told,e1.All,e1.Got,e1.Full,e1.Heard,e1.Keep⟩:Ud))) (ifd ((F87 ⟨e1.Name,e1.Peer,e1.Keys,e1.Boot,e1.Want,(IntKind.i64.wrap (e1.Turn+1)),e1.PeerBoot,e1.PeerTurn,e1.Up,e1.Left,e1.Num,e1.Under,e1.Told,e1.All,e1.Got,e1.Full,e1.Heard,e1.Keep⟩).Kind>0) (fun h6 _=>jn78_0 e1 (IntKind.i64.wrap (e1.Num+1)) (F87 ⟨e1.Name,e1.Peer,e1.Keys,e1.Boot,e1.Want,(IntKind.i64.wrap (e1.Turn+1)),e1.PeerBoot,e1.PeerTurn,e1.Up,e1.Left,e1.Num,e1.Under,e1.Told,e1.All,e1.Got,e1.Full,e1.Heard,e1.Keep⟩).Kind (F87 ⟨e1.Name,e1.Peer,e1.Keys,e1.Boot,e1.Want,(IntKind.i64.wrap (e1.Turn+1)),e1.PeerBoot,e1.PeerTurn,e1.Up,e1.Left,e1.Num,e1.Under,e1.Told,e1.All,e1.Got,e1.Full,e1.Heard,e1.Keep⟩).Entry.Addr (F87 ⟨e1.Name,e1.Peer,e1.Keys,e1.Boot,e1.Want,(IntKind.i64.wrap (e1.Turn+1)),e1.PeerBoot,e1.PeerTurn,e1.Up,e1.Left,e1.Num,e1.Under,e1.Told,e1.All,e1.Got,e1.Full,e1.Heard,e1.Keep⟩).Entry.Len (F87 ⟨e1.Name,e1.Peer,e1.Keys,e1.Boot,e1.Want,(IntKind.i64.wrap (e1.Turn+1)),e1.PeerBoot,e1.PeerTurn,e1.Up,e1.Left,e1.Num,e1.Under,e1.Told,e1.All,e1.Got,e1.Full,e1.Heard,e1.Keep⟩).Entry.Cost (F87 ⟨e1.Name,e1.Peer,e1.Keys,e1.Boot,e1.Want,(IntKind.i64.wrap (e1.Turn+1)),e1.PeerBoot,e1.PeerTurn,e1.Up,e1.Left,e1.Num,e1.Under,e1.Told,e1.All,e1.Got,e1.Full,e1.Heard,e1.Keep⟩).Entry.Label (Q5 (condT h5 (condT h6 rfl))) ) (fun h6 _=>jn78_0 e1 e1.Num (F87 ⟨e1.Name,e1.Peer,e1.Keys,e1.Boot,e1.Want,(IntKind.i64.wrap (e1.Turn+1)),e1.PeerBoot,e1.PeerTurn,e1.Up,e1.Left,e1.Num,e1.Under,e1.Told,e1.All,e1.Got,e1.Full,e1.Heard,e1.Keep⟩).Kind (F87 ⟨e1.Name,e1.Peer,e1.Keys,e1.Boot,e1.Want,(IntKind.i64.wrap (e1.Turn+1)),e1.PeerBoot,e1.PeerTurn,e1.Up,e1.Left,e1.Num,e1.Under,e1.Told,e1.All,e1.Got,e1.Full,e1.Heard,e1.Keep⟩).Entry.Addr (F87 ⟨e1.Name,e1.Peer,e1.Keys,e1.Boot,e1.Want,(IntKind.i64.wrap (e1.Turn+1)),e1.PeerBoot,e1.PeerTurn,e1.Up,e1.Left,e1.Num,e1.Under,e1.Told,e1.All,e1.Got,e1.Full,e1.Heard,e1.Keep⟩).Entry.Len (F87 ⟨e1.Name,e1.Peer,e1.Keys,e1.Boot,e1.Want,(IntKind.i64.wrap (e1.Turn+1)),e1.PeerBoot,e1.PeerTurn,e1.Up,e1.Left,e1.Num,e1.Under,e1.Told,e1.All,e1.Got,e1.Full,e1.Heard,e1.Keep⟩).Entry.Cost (F87 ⟨e1.Name,e1.Peer,e1.Keys,e1.Boot,e1.Want,(IntKind.i64.wrap (e1.Turn+1)),e1.PeerBoot,e1.PeerTurn,e1.Up,e1.Left,e1.Num,e1.Under,e1.Told,e1.All,e1.Got,e1.Full,e1.Heard,e1.Keep⟩).Entry.Label (Q5 (condT h5 (condF h6 rfl))) )))) (fun h5=>jn78_0 e1 e1.Num e1.Under.Kind e1.Under.Entry.Addr e1.Under.Entry.Len e1.Under.Entry.Cost e1.Under.Entry.Label (Q5 (condF h5 rfl)) )) (fun (j:Int×Int×Int×Int×Int×Int) (hj:jJ78_0 e1 j)=>(fun (x9:Int) (x10:Int) (x11:Int) (x12:Int) (x13:Int) (x14:Int) (hJ0_7:(F78_j0 e1)=Lp.done (x9,x10,x11,x12,x13,x14))=>ai (iok ((e1.Keys.length:Int)-1) uu0) (ai (uu0:ib ((e1.Keys.length:Int)-1) e1.Keys) (ai trivial (ai (Imp.refl (.v (vI (q78_1 e1).Secret))) (ai (Imps.refl (eHelloWord (⟨e1.Name,e1.Peer,(q78_1 e1).Id,e1.Boot,e1.PeerBoot,(IntKind.i64.wrap (e1.Turn+1)),x9,e1.Got,(q78_2 x10 x11 x12 x13 x14),0⟩:HelloWord))) (fi78 e1 ((⟨e1.Name,e1.Peer,e1.Keys,e1.Boot,e1.Want,(IntKind.i64.wrap (e1.Turn+1)),e1.PeerBoot,e1.PeerTurn,e1.Up,e1.Left,x9,(q78_2 x10 x11 x12 x13 x14),e1.Told,e1.All,e1.Got,e1.Full,e1.Heard,e1.Keep⟩:Ud),(⟨e1.Name,e1.Peer,(q78_1 e1).Id,e1.Boot,e1.PeerBoot,(IntKind.i64.wrap (e1.Turn+1)),x9,e1.Got,(q78_2 x10 x11 x12 x13 x14),(F38 (q78_1 e1).Secret ⟨e1.Name,e1.Peer,(q78_1 e1).Id,e1.Boot,e1.PeerBoot,(IntKind.i64.wrap (e1.Turn+1)),x9,e1.Got,(q78_2 x10 x11 x12 x13 x14),0⟩)⟩:HelloWord),true) (condF h1 (condF h2 (condF h3 (finD hJ0_7 rfl)))))))))) j.1 j.2.1 j.2.2.1 j.2.2.2.1 j.2.2.2.2.1 j.2.2.2.2.2 hj))))))) uu3
def F61 (list:List Uf) (k:Int):List Uf :=
 ((list.take k.toNat)++(list.drop (k+1).toNat))
theorem fi61 (list:List Uf) (k:Int) (r:List Uf) (hF:r=(F61 list k)):(Imp (.l 5 eHelloRoute r) (.l 5 eHelloRoute (F61 list k)))/\True:=by cases hF; exact ⟨Imp.refl _,trivial⟩
def S61 (list:List Uf) (k:Int):Spec:=⟨[.r (.c (.l 5 eHelloRoute list)),.r (.c (.v (vI k)))],.ow (.l 5 eHelloRoute (F61 list k)),list.length<=1000/\0<=k/\k<(list.length:Int)⟩
theorem ok61 (list:List Uf) (k:Int):(S61 list k).ok Try.prog 61 :=
 fnG_ok mixed (fn:=Try.f61) (ct:=.seqk [(0,0)] .no (.seq (.reg [(3,kh59a (list.take k.toNat)),(6,.bnd),(8,.dat (.l 5 eHelloRoute ((list.take k.toNat)++(list.drop (k+1).toNat))))]) .no)) Try.func61 (fun (hp:list.length<=1000/\0<=k/\k<(list.length:Int))=>have hpre0:=hp.1; have hpre1:=hp.2.1; have hpre2:=hp.2.2; kn list fun _=>ai (uu1:0<=(0:Int)/\(0:Int)<=k/\k<=(list.length:Int)) (kc59a (list.take k.toNat) uu1 (ai (iok (k+1) uu1) (ai (uu1:0<=(k+1)/\(k+1)<=(list.length:Int)/\(list.length:Int)<=(list.length:Int)) (ai (AppL.mk eHelloRoute (list.take k.toNat) (list.drop (k+1).toNat) (Imp.refl (.l 5 eHelloRoute (list.take k.toNat))) ir (fun y=>⟨rfl,fun e he=>by simp only [eHelloRoute,Qo,Rj,Sz] at he; rcases he with rfl | rfl | rfl | rfl | rfl <;> exact ⟨_,rfl⟩⟩):AppL (.l 5 eHelloRoute (list.take k.toNat)) (.l 5 eHelloRoute (list.drop (k+1).toNat)) 5 (.l 5 eHelloRoute ((list.take k.toNat)++(list.drop (k+1).toNat)))) (ai (uu8:((list.take k.toNat)++(list.drop (k+1).toNat)).length*40<=140737488355328) (fi61 list k ((list.take k.toNat)++(list.drop (k+1).toNat)) rfl))))))) uu3
def F58_s0 (list:List Uf) (e1:Ue):Int->Lp Int Int:=fun k =>
 bif (bif decide (k<(list.length:Int)) then (F30 (list.getD k.toNat default).Entry e1) else false) then (.next (k+1)) else (.done k)
def F58 (list:List Uf) (e1:Ue):Int :=
 (runL (F58_s0 list e1) (((list.length:Int)-0).toNat+1) 0).fin (fun r=>r) (fun k=>k)
abbrev lN58_0 (list:List Uf):Nat×Int:=((((list.length:Int)-0).toNat+1),0)
abbrev lI58_0 (list:List Uf) (m39:Nat) (k:Int):Prop:=Int.toNat ((list.length:Int)-k)<m39/\k<=(list.length:Int)/\(0:Int)<=k
abbrev lX58_0 (list:List Uf) (e1:Ue):Lp Int Int:=LpX (F58_s0 list e1) (lN58_0 list)
abbrev lJ58_0 (list:List Uf) (e1:Ue) (i:Nat×Int):Prop:=LpJ (F58_s0 list e1) (lN58_0 list) i (lI58_0 list i.1 i.2)
abbrev lH58_0 (list:List Uf) (e1:Ue) (i:Nat×Int) (m39:Nat) (k:Int):Prop:=LpH (F58_s0 list e1) (lN58_0 list) i m39 k (lI58_0 list (m39+1) k)
abbrev lE58_0 (list:List Uf) (e1:Ue) (k:Int) (k_:Int) (K39:Prop):Prop:=((.int .i64 k:Value)=.int .i64 k_)/\(Im (.l 5 eHelloRoute list))/\(Rf (.int .i64 e1.Addr))/\(Rf (.int .i64 e1.Len))/\(Rf (.int .i64 e1.Cost))/\(Rf (.int .i64 e1.Label))/\K39
theorem un58_0 (list:List Uf) (e1:Ue) (i:Nat×Int) (h:lJ58_0 list e1 i):lH58_0 list e1 i (i.1-1) i.2:=⟨hd1 h.1 h.2.1,hd3 h.2.1,hd2 h.2.1,h.2.2⟩
theorem bk58_0 (list:List Uf) (e1:Ue) (i:Nat×Int) (m39:Nat) (k:Int) (hl:m39<i.1) (e:runL (F58_s0 list e1) m39 k=lX58_0 list e1) (h:lI58_0 list m39 k):∃ j:Nat×Int,lE58_0 list e1 k j.2 (lJ58_0 list e1 j/\j.1<i.1):=⟨(m39,k),rfl,Imp.refl _,rfl,rfl,rfl,rfl,⟨e,h⟩,hl⟩
theorem en58_0 (list:List Uf) (e1:Ue) (h:0<=(list.length:Int)/\(0:Int)<=0):lE58_0 list e1 0 0 (lJ58_0 list e1 (lN58_0 list)):=⟨rfl,Imp.refl _,rfl,rfl,rfl,rfl,rfl,Qr _,h⟩
def S58 (list:List Uf) (e1:Ue):Spec:=⟨[.r (.c (.l 5 eHelloRoute list)),.r (.g (eHelloEntry e1))],.v (vI (F58 list e1)),True⟩
theorem ok58 (list:List Uf) (e1:Ue):(S58 list e1).ok Try.prog 58 :=
 fnG_ok mixed (fn:=Try.f58) (ct:=.seqk [(0,0)] .no (.seqk [(0,0)] .no (.seq (.blk (.loop (ι:=Nat×Int) (fun i=>(fun (k:Int)=>(⟨[(0,some (.h 0 0)),(3,some (.p 1 0)),(5,some (.v (vI k)))],[(0,some (.shr none (.l 5 eHelloRoute list))),(1,some (.box 28 [.v (vI e1.Addr),.v (vI e1.Len),.v (vI e1.Cost),.v (vI e1.Label)]))],2⟩:St)) i.2) (lJ58_0 list e1) (fun i=>i.1) (lN58_0 list) (fun i=>(fun (k:Int)=>(.seq (.seq (.reg [(11,kh30 (list.getD k.toNat default).Entry e1)]) (.cond .no .no)) (.blk (.reg [(1,.bnd)])))) i.2))) (.seq .no .no)))) Try.func58 (fun (_:True)=>kn list fun _=>kn list fun _=>ai (en58_0 list e1 uu10) (fun (i0:Nat×Int) (hi0:lJ58_0 list e1 i0)=>(fun (m0:Nat) (k:Int) (hh0:lH58_0 list e1 i0 m0 k)=>have hI0:=hh0.1; have hl0:=hh0.2.1; have _:=hh0.2.2.1; have _:=hh0.2.2.2; ai (fun k2:(decide (k<(list.length:Int)))=true=>have _:=Qc k2; (uu0:ib k list)) (kg30 (decide (k<(list.length:Int))) true (list.getD k.toNat default).Entry e1 (ifb (bif decide (k<(list.length:Int)) then (F30 (list.getD k.toNat default).Entry e1) else false) (fun h4=>have _:=Qc (andT1 h4); ai (iok (k+1) uu0) (bk58_0 list e1 i0 m0 (k+1) hl0 (runL_next hI0 (condT h4 rfl)) (by refine ⟨?_,?_,?_⟩ <;> omega))) (fun h4=>have hD0_5:lX58_0 list e1=Lp.done k:=runL_done hI0 (condF h4 rfl); fiI k (F58 list e1) (finD hD0_5 rfl))))) (i0.1-1) i0.2 (un58_0 list e1 i0 hi0))) uu3
def F60_s0 (list:List Uf):Int->Lp Int Int:=fun i40 =>
 bif (decide (i40<(list.length:Int))) then (bif (list.getD i40.toNat default).Stale then (.ret i40) else (.next (i40+1))) else (.done i40)
def F60 (list:List Uf):Int :=
 (runL (F60_s0 list) (((list.length:Int)-0).toNat+1) 0).fin (fun r=>r) (fun i40=>(-1))
abbrev lN60_0 (list:List Uf):Nat×Int:=((((list.length:Int)-0).toNat+1),0)
abbrev lI60_0 (list:List Uf) (m39:Nat) (i40:Int):Prop:=Int.toNat ((list.length:Int)-i40)<m39/\(0:Int)<=i40
abbrev lX60_0 (list:List Uf):Lp Int Int:=LpX (F60_s0 list) (lN60_0 list)
abbrev lJ60_0 (list:List Uf) (i:Nat×Int):Prop:=LpJ (F60_s0 list) (lN60_0 list) i (lI60_0 list i.1 i.2)
abbrev lH60_0 (list:List Uf) (i:Nat×Int) (m39:Nat) (i40:Int):Prop:=LpH (F60_s0 list) (lN60_0 list) i m39 i40 (lI60_0 list (m39+1) i40)
abbrev lE60_0 (list:List Uf) (i40:Int) (i40_:Int) (K39:Prop):Prop:=((.int .i64 i40:Value)=.int .i64 i40_)/\(Im (.l 5 eHelloRoute list))/\K39
theorem un60_0 (list:List Uf) (i:Nat×Int) (h:lJ60_0 list i):lH60_0 list i (i.1-1) i.2:=⟨hd1 h.1 h.2.1,hd3 h.2.1,hd2 h.2.1,h.2.2⟩
theorem bk60_0 (list:List Uf) (i:Nat×Int) (m39:Nat) (i40:Int) (hl:m39<i.1) (e:runL (F60_s0 list) m39 i40=lX60_0 list) (h:lI60_0 list m39 i40):∃ j:Nat×Int,lE60_0 list i40 j.2 (lJ60_0 list j/\j.1<i.1):=⟨(m39,i40),rfl,Imp.refl _,⟨e,h⟩,hl⟩
theorem en60_0 (list:List Uf) (h:(0:Int)<=0):lE60_0 list 0 0 (lJ60_0 list (lN60_0 list)):=⟨rfl,Imp.refl _,rfl,Qr _,h⟩
def S60 (list:List Uf):Spec:=⟨[.r (.c (.l 5 eHelloRoute list))],.v (vI (F60 list)),True⟩
theorem ok60 (list:List Uf):(S60 list).ok Try.prog 60 :=
 fnG_ok mixed (fn:=Try.f60) (ct:=.seqk [(0,0)] .no (.seq (.seqk [(0,0)] .no (.blk (.loop (ι:=Nat×Int) (fun i=>(fun (i40:Int)=>(⟨[(0,some (.h 0 0)),(3,some (.v (vI i40)))],[(0,some (.shr none (.l 5 eHelloRoute list)))],1⟩:St)) i.2) (lJ60_0 list) (fun i=>i.1) (lN60_0 list) (fun i=>(fun (i40:Int)=>(.seq (.seq .no (.cond .no .no)) (.seq (.blk (.seq .no (.cond (.seq .no .no) .no))) (.reg [(1,.bnd)])))) i.2)))) (.seq .no .no))) Try.func60 (fun (_:True)=>kn list fun _=>kn list fun _=>ai (en60_0 list uu0) (fun (i0:Nat×Int) (hi0:lJ60_0 list i0)=>(fun (m0:Nat) (i40:Int) (hh0:lH60_0 list i0 m0 i40)=>have hI0:=hh0.1; have hl0:=hh0.2.1; have _:=hh0.2.2.1; have _:=hh0.2.2.2; ifd (i40<(list.length:Int)) (fun h2 _=>ai (uu0:ib i40 list) (ifb (list.getD i40.toNat default).Stale (fun h3=>fiI i40 (F60 list) (finR (runL_ret hI0 (condT h2 (condT h3 rfl))) rfl)) (fun h3=>ai (iok (i40+1) uu0) (bk60_0 list i0 m0 (i40+1) hl0 (runL_next hI0 (condT h2 (condF h3 rfl))) uu10)))) (fun h2 _=>have hD0_4:lX60_0 list=Lp.done i40:=runL_done hI0 (condF h2 rfl); fiI (-1) (F60 list) (finD hD0_4 rfl))) (i0.1-1) i0.2 (un60_0 list i0 hi0))) uu3
theorem kc60 (list:List Uf) {K_:Prop} (k_:K_):(True)/\(Imp (.l 5 eHelloRoute list) (.l 5 eHelloRoute list))/\K_:=⟨trivial,Imp.refl _,k_⟩
abbrev kh60 (list:List Uf):Hint true Try.prog:=.call 60 (S60 list) (ok60 list) none
def F93 (e1:Ud):Ud :=
 bif (decide ((F60 e1.Heard)<0)) then (⟨e1.Name,e1.Peer,e1.Keys,e1.Boot,e1.Want,e1.Turn,e1.PeerBoot,e1.PeerTurn,e1.Up,e1.Left,e1.Num,e1.Under,e1.Told,e1.All,e1.Got,e1.Full,e1.Heard,0⟩:Ud) else e1
theorem fi93 (e1:Ud) (r:Ud) (hF:r=(F93 e1)):((.int .i64 r.Name:Value)=.int .i64 (F93 e1).Name)/\((.int .i64 r.Peer:Value)=.int .i64 (F93 e1).Peer)/\(Imp (.l 2 eHelloKey r.Keys) (.l 2 eHelloKey (F93 e1).Keys))/\((.int .i64 r.Boot:Value)=.int .i64 (F93 e1).Boot)/\(Imp (.l 4 eHelloEntry r.Want) (.l 4 eHelloEntry (F93 e1).Want))/\((.int .i64 r.Turn:Value)=.int .i64 (F93 e1).Turn)/\((.int .i64 r.PeerBoot:Value)=.int .i64 (F93 e1).PeerBoot)/\((.int .i64 r.PeerTurn:Value)=.int .i64 (F93 e1).PeerTurn)/\((.bool r.Up:Value)=.bool (F93 e1).Up)/\((.int .i64 r.Left:Value)=.int .i64 (F93 e1).Left)/\((.int .i64 r.Num:Value)=.int .i64 (F93 e1).Num)/\((.int .i64 r.Under.Kind:Value)=.int .i64 (F93 e1).Under.Kind)/\((.int .i64 r.Under.Entry.Addr:Value)=.int .i64 (F93 e1).Under.Entry.Addr)/\((.int .i64 r.Under.Entry.Len:Value)=.int .i64 (F93 e1).Under.Entry.Len)/\((.int .i64 r.Under.Entry.Cost:Value)=.int .i64 (F93 e1).Under.Entry.Cost)/\((.int .i64 r.Under.Entry.Label:Value)=.int .i64 (F93 e1).Under.Entry.Label)/\(Imp (.l 4 eHelloEntry r.Told) (.l 4 eHelloEntry (F93 e1).Told))/\((.bool r.All:Value)=.bool (F93 e1).All)/\((.int .i64 r.Got:Value)=.int .i64 (F93 e1).Got)/\((.bool r.Full:Value)=.bool (F93 e1).Full)/\(Imp (.l 5 eHelloRoute r.Heard) (.l 5 eHelloRoute (F93 e1).Heard))/\((.int .i64 r.Keep:Value)=.int .i64 (F93 e1).Keep)/\True:=by cases hF; exact ⟨rfl,rfl,Imp.refl _,rfl,Imp.refl _,rfl,rfl,rfl,rfl,rfl,rfl,rfl,rfl,rfl,rfl,rfl,Imp.refl _,rfl,rfl,rfl,Imp.refl _,rfl,trivial⟩
def S93 (e1:Ud):Spec:=⟨[.ot (eHelloEnd e1)],.ag [.v (vI (F93 e1).Name),.v (vI (F93 e1).Peer),.ow (.l 2 eHelloKey (F93 e1).Keys),.v (vI (F93 e1).Boot),.ow (.l 4 eHelloEntry (F93 e1).Want),.v (vI (F93 e1).Turn),.v (vI (F93 e1).PeerBoot),.v (vI (F93 e1).PeerTurn),.v (.bool (F93 e1).Up),.v (vI (F93 e1).Left),.v (vI (F93 e1).Num),.v (vI (F93 e1).Under.Kind),.v (vI (F93 e1).Under.Entry.Addr),.v (vI (F93 e1).Under.Entry.Len),.v (vI (F93 e1).Under.Entry.Cost),.v (vI (F93 e1).Under.Entry.Label),.ow (.l 4 eHelloEntry (F93 e1).Told),.v (.bool (F93 e1).All),.v (vI (F93 e1).Got),.v (.bool (F93 e1).Full),.ow (.l 5 eHelloRoute (F93 e1).Heard),.v (vI (F93 e1).Keep)],True⟩
theorem ok93 (e1:Ud):(S93 e1).ok Try.prog 93 :=
 fnG_ok mixed (fn:=Try.f93) (ct:=.seq .no (.seq (.seq (.reg [(2,kh60 e1.Heard)]) (.cond .no .no)) (.seq .no .no))) Try.func93 (fun (_:True)=>kc60 e1.Heard (ifd ((F60 e1.Heard)<0) (fun h1 _=>fi93 e1 (⟨e1.Name,e1.Peer,e1.Keys,e1.Boot,e1.Want,e1.Turn,e1.PeerBoot,e1.PeerTurn,e1.Up,e1.Left,e1.Num,e1.Under,e1.Told,e1.All,e1.Got,e1.Full,e1.Heard,0⟩:Ud) (condT h1 rfl)) (fun h1 _=>fi93 e1 e1 (condF h1 rfl)))) uu3
theorem without_eq (list:List Uf) (k:Int):F61 list k=list.take k.toNat++list.drop (k+1).toNat:=rfl
theorem without_len (list:List Uf) (k:Int) (_:list.length<=1000) (h0:0<=k) (h1:k<(list.length:Int)):(F61 list k).length+1=list.length:=by
 rw [without_eq]
 simp only [Rd,Ri,Se]
 omega
def posR (l:List Uf) (e:Ue):Nat:=(first (fun k=>!(F30 (l.getD k default).Entry e)) l.length).getD l.length
theorem posR_le (l:List Uf) (e:Ue):posR l e<=l.length:=by
 unfold posR
 cases h:first (fun k=>!(F30 (l.getD k default).Entry e)) l.length with
 | none=>exact Qk _
 | some k=>have:=(first_some.1 h).1; show k<=_; omega
theorem where_run (l:List Uf) (e:Ue):∀ (m i:Nat),i+m=l.length->(∀ j,j<i->F30 (l.getD j default).Entry e=true)->∀ fuel,m<fuel->runL (F58_s0 l e) fuel (i:Int)=.done ((posR l e:Nat):Int)
 | m,i,_,_,0,hf=>absurd hf (Ga _)
 | 0,i,hi,hb,fuel+1,_=>by
  obtain rfl:i=l.length:=by omega
  have hp:posR l e=l.length:=by
   unfold posR
   rw [first_none.2 fun k hk=>by rw [hb k hk]; rfl]; rfl
  simp only [runL,F58_s0,geD,Qj,hp]
 | m+1,i,hi,hb,fuel+1,hf=>by
  have hlt:i<l.length:=by omega
  cases hl:F30 (l.getD i default).Entry e with
  | true =>
   have ih:=where_run l e m (i+1) uu0 (fun j hj=>by
    rcases Te j i with h | h
    ·exact hb j h
    ·obtain rfl:j=i:=by omega
     exact hl) fuel uu0
   simp only [runL,F58_s0,ltD hlt,Qd,nn,hl]
   exact ih
  | false =>
   have hp:posR l e=i:=by
    unfold posR
    rw [(first_some (k:=i)).2 ⟨hlt,by rw [hl]; rfl,fun j hj=>by rw [hb j hj]; rfl⟩]; rfl
   simp only [runL,F58_s0,ltD hlt,Qd,nn,hl,Qj,hp]
theorem where_eq (l:List Uf) (e:Ue):F58 l e=((posR l e:Nat):Int):=by
 unfold F58
 have h:=where_run l e l.length 0 uu0 (fun j hj=>absurd hj (Ga _)) (Int.toNat ((l.length:Int)-0)+1) uu0
 have h':runL (F58_s0 l e) (Int.toNat ((l.length:Int)-0)+1) 0=.done ((posR l e:Nat):Int):=h
 rw [h']; rfl
theorem where_in (l:List Uf) (e:Ue):0<=F58 l e/\F58 l e<=(l.length:Int):=by
 rw [where_eq]
 have:=posR_le l e
 omega
theorem stale_idx (l:List Uf):F60 l=idxI (fun r=>r.Stale) l:=idx_loop (fun r:Uf=>r.Stale) l (F60_s0 l) (fun i=>rfl)
theorem stale_in (l:List Uf):-1<=F60 l/\F60 l<(l.length:Int):=by
 rw [stale_idx]
 exact ⟨idxI_ge _ _,idxI_lt _ _⟩
theorem stale_none (l:List Uf):decide (F60 l<0)=!anySt l:=by
 rw [stale_idx]
 have h:=any_idx (fun r:Uf=>r.Stale) l
 have h2:=idxI_ge (fun r:Uf=>r.Stale) l
 unfold anySt
 rw [<- h]
 by_cases hq:idxI (fun r:Uf=>r.Stale) l<0
 ·rw [Qv hq,Qw uu0]; rfl
 ·rw [Qw hq,Qv uu0]; rfl
def fndR (l:List Uf) (e:Ue):Bool:=bif (bif decide ((F58 l e)<(l.length:Int)) then (((l.getD (F58 l e).toNat default).Entry).Addr==e.Addr) else false) then (((l.getD (F58 l e).toNat default).Entry).Len==e.Len) else false
def hasAl (l:List Uf) (e:Ue):Bool:=bif fndR l e then false else bif ((l.length:Int)==16) then decide (F60 l<0) else false
theorem hasAl_no {l:List Uf} {e:Ue} (h:hasAl l e=false) (h1:fndR l e=false) (h2:((l.length:Int)==16)=true):decide (F60 l<0)=false:=by
 unfold hasAl at h; rw [h1,h2] at h; exact h
theorem hasAl_1 {l:List Uf} {e:Ue} (h:hasAl l e=true):fndR l e=false:=by
 unfold hasAl at h
 cases hq:fndR l e with
 | true=>rw [hq] at h; cases h
 | false=>rfl
theorem hasAl_2 {l:List Uf} {e:Ue} (h:hasAl l e=true):((l.length:Int)==16)=true:=by
 have h1:=hasAl_1 h
 unfold hasAl at h; rw [h1,Qj] at h
 cases hq:((l.length:Int)==16) with
 | true=>rfl
 | false=>rw [hq] at h; cases h
theorem hasAl_3 {l:List Uf} {e:Ue} (h:hasAl l e=true):decide (F60 l<0)=true:=by
 have h1:=hasAl_1 h; have h2:=hasAl_2 h
 unfold hasAl at h; rw [h1,h2] at h; exact h
def toldAl (l:List Uf) (c:HelloChange):Bool:=bif (c.Kind==1) then hasAl l c.Entry else bif (c.Kind==2) then !(fndR l c.Entry) else false
theorem toldAl_1 {l:List Uf} {c:HelloChange} {b:Bool} (h:toldAl l c=b) (h1:(c.Kind==1)=true):hasAl l c.Entry=b:=by
 unfold toldAl at h; rw [h1] at h; exact h
theorem toldAl_2 {l:List Uf} {c:HelloChange} (h:toldAl l c=false) (h1:(c.Kind==1)=false) (h2:(c.Kind==2)=true):fndR l c.Entry=true:=by
 unfold toldAl at h; rw [h1,h2] at h
 cases hq:fndR l c.Entry with
 | true=>rfl
 | false=>rw [hq] at h; cases h
theorem toldAl_4 {l:List Uf} {c:HelloChange} (h:toldAl l c=true) (h1:(c.Kind==1)=false):(c.Kind==2)=true:=by
 unfold toldAl at h; rw [h1] at h
 cases hq:(c.Kind==2) with
 | true=>rfl
 | false=>rw [hq] at h; cases h
theorem toldAl_3 {l:List Uf} {c:HelloChange} (h:toldAl l c=true) (h1:(c.Kind==1)=false):fndR l c.Entry=false:=by
 have h2:=toldAl_4 h h1
 unfold toldAl at h; rw [h1,h2] at h
 cases hq:fndR l c.Entry with
 | true=>rw [hq] at h; cases h
 | false=>rfl
theorem toldAl_5 {c:HelloChange} (h1:(c.Kind==1)=true):false=(c.Kind==2):=by
 rw [eq_of_beq h1]; rfl
theorem kc58l (list:List Uf) (e1:Ue) {K_:Prop} (k_:(0<=(F58 list e1)/\(F58 list e1)<=(list.length:Int))->K_):(True)/\(Imp (.l 5 eHelloRoute list) (.l 5 eHelloRoute list))/\(Imps (eHelloEntry e1) (eHelloEntry e1))/\K_:=⟨trivial,Imp.refl _,Imps.refl _,k_ (where_in list e1)⟩
abbrev kh58l (list:List Uf) (e1:Ue):Hint true Try.prog:=.call 58 (S58 list e1) (ok58 list e1) none
def F47v (list:List Uf) (e1:Ue):List Uf×Bool :=
 bif (bif (bif decide ((F58 list e1)<(list.length:Int)) then ((list.getD (F58 list e1).toNat default).Entry.Addr==e1.Addr) else false) then ((list.getD (F58 list e1).toNat default).Entry.Len==e1.Len) else false) then ((list.set (F58 list e1).toNat (⟨e1,false⟩:Uf)),true) else ((((list.take (F58 list e1).toNat)++[(⟨e1,false⟩:Uf)])++(list.drop (F58 list e1).toNat)),true)
theorem fi47v (list:List Uf) (e1:Ue) (r:List Uf×Bool) (hF:r=(F47v list e1)):(Imp (.l 5 eHelloRoute r.1) (.l 5 eHelloRoute (F47v list e1).1))/\((.bool r.2:Value)=.bool (F47v list e1).2)/\True:=by cases hF; exact ⟨Imp.refl _,rfl,trivial⟩
def S47v (list:List Uf) (e1:Ue):Spec:=⟨[.r (.c (.l 5 eHelloRoute list)),.r (.g (eHelloEntry e1))],.tu [.ow (.l 5 eHelloRoute (F47v list e1).1),.v (.bool (F47v list e1).2)],list.length<16⟩
theorem ok47v (list:List Uf) (e1:Ue):(S47v list e1).ok Try.prog 47 :=
 fnG_ok mixed (fn:=Try.f47) (ct:=.seqk [(0,0)] .no (.seq (.reg [(2,kh58l list e1)]) (.seq (.seq .no (.cond (.seq (.reg [(1,kh59a list)]) (.seq (.reg [(5,.dat (.l 5 eHelloRoute (list.set (F58 list e1).toNat (⟨e1,false⟩:Uf))))]) (.seq .no .no))) .no)) (.seq (.seq .no (.condF .no)) (.seq (.reg [(3,kh59a (list.take (F58 list e1).toNat)),(7,.dat (.l 5 eHelloRoute ((list.take (F58 list e1).toNat)++[(⟨e1,false⟩:Uf)]))),(11,.dat (.l 5 eHelloRoute (((list.take (F58 list e1).toNat)++[(⟨e1,false⟩:Uf)])++(list.drop (F58 list e1).toNat))))]) .no))))) Try.func47 (fun (hpre0:list.length<16)=>kn list fun _=>kc58l list e1 (fun gv1=>ai (fun k2:(decide ((F58 list e1)<(list.length:Int)))=true=>have _:=Qc k2; (uu1:ib (F58 list e1) list)) (ai (fun k3:(bif decide ((F58 list e1)<(list.length:Int)) then ((list.getD (F58 list e1).toNat default).Entry.Addr==e1.Addr) else false)=true=>have _:=Qc (andT1 k3); have _:=eq_of_beq (andT2 k3); (uu1:ib (F58 list e1) list)) (ifb (bif (bif decide ((F58 list e1)<(list.length:Int)) then ((list.getD (F58 list e1).toNat default).Entry.Addr==e1.Addr) else false) then ((list.getD (F58 list e1).toNat default).Entry.Len==e1.Len) else false) (fun h4=>have _:=Qc (andT1 (andT1 h4)); have _:=eq_of_beq (andT2 (andT1 h4)); have _:=eq_of_beq (andT2 h4); kc59a list uu1 (ai (uu1:ib (F58 list e1) list) (ai (setr 5 eHelloRoute list (F58 list e1).toNat (⟨e1,false⟩:Uf)) (fi47v list e1 ((list.set (F58 list e1).toNat (⟨e1,false⟩:Uf)),true) (condT h4 rfl))))) (fun h4=>have hd5:((list.length:Int)==16)=false:=(by simp only [Tz,ne_eq]; omega); And.intro hd5 (have _:=beqF hd5; ai (uu1:0<=(0:Int)/\(0:Int)<=(F58 list e1)/\(F58 list e1)<=(list.length:Int)) (kc59a (list.take (F58 list e1).toNat) uu1 (ai (appr 5 eHelloRoute (list.take (F58 list e1).toNat) [(⟨e1,false⟩:Uf)] fun _=>rfl) (ai (uu8:((list.take (F58 list e1).toNat)++[(⟨e1,false⟩:Uf)]).length*40<=140737488355328) (ai (uu1:0<=(F58 list e1)/\(F58 list e1)<=(list.length:Int)/\(list.length:Int)<=(list.length:Int)) (ai (AppL.mk eHelloRoute ((list.take (F58 list e1).toNat)++[(⟨e1,false⟩:Uf)]) (list.drop (F58 list e1).toNat) (Imp.refl (.l 5 eHelloRoute ((list.take (F58 list e1).toNat)++[(⟨e1,false⟩:Uf)]))) ir (fun y=>⟨rfl,fun e he=>by simp only [eHelloRoute,Qo,Rj,Sz] at he; rcases he with rfl | rfl | rfl | rfl | rfl <;> exact ⟨_,rfl⟩⟩):AppL (.l 5 eHelloRoute ((list.take (F58 list e1).toNat)++[(⟨e1,false⟩:Uf)])) (.l 5 eHelloRoute (list.drop (F58 list e1).toNat)) 5 (.l 5 eHelloRoute (((list.take (F58 list e1).toNat)++[(⟨e1,false⟩:Uf)])++(list.drop (F58 list e1).toNat)))) (ai (uu8:(((list.take (F58 list e1).toNat)++[(⟨e1,false⟩:Uf)])++(list.drop (F58 list e1).toNat)).length*40<=140737488355328) (fi47v list e1 ((((list.take (F58 list e1).toNat)++[(⟨e1,false⟩:Uf)])++(list.drop (F58 list e1).toNat)),true) (condF h4 rfl)))))))))))))) uu3
theorem kc60l (list:List Uf) {K_:Prop} (k_:(-1<=(F60 list)/\(F60 list)<(list.length:Int))->K_):(True)/\(Imp (.l 5 eHelloRoute list) (.l 5 eHelloRoute list))/\K_:=⟨trivial,Imp.refl _,k_ (stale_in list)⟩
abbrev kh60l (list:List Uf):Hint true Try.prog:=.call 60 (S60 list) (ok60 list) none
theorem kc61l (list:List Uf) (k:Int) {K_:Prop} (p0_:list.length<=1000) (p1_:0<=k) (p2_:k<(list.length:Int)) (q0_:list.length<=1000) (q1_:0<=k) (q2_:k<(list.length:Int)) (k_:((F61 list k).length+1=list.length)->K_):(list.length<=1000/\0<=k/\k<(list.length:Int))/\(Imp (.l 5 eHelloRoute list) (.l 5 eHelloRoute list))/\(Imp (.v (vI k)) (.v (vI k)))/\K_:=⟨⟨p0_,p1_,p2_⟩,Imp.refl _,Imp.refl _,k_ (without_len list k q0_ q1_ q2_)⟩
abbrev kh61l (list:List Uf) (k:Int):Hint true Try.prog:=.call 61 (S61 list k) (ok61 list k) none
theorem kc47v (list:List Uf) (e1:Ue) {K_:Prop} (p0_:list.length<16) (k_:K_):(list.length<16)/\(Imp (.l 5 eHelloRoute list) (.l 5 eHelloRoute list))/\(Imps (eHelloEntry e1) (eHelloEntry e1))/\K_:=⟨p0_,Imp.refl _,Imps.refl _,k_⟩
abbrev kh47v (list:List Uf) (e1:Ue):Hint true Try.prog:=.call 47 (S47v list e1) (ok47v list e1) none
def F47fr (list:List Uf) (e1:Ue):List Uf×Bool :=
 bif (bif (bif decide ((F58 list e1)<(list.length:Int)) then ((list.getD (F58 list e1).toNat default).Entry.Addr==e1.Addr) else false) then ((list.getD (F58 list e1).toNat default).Entry.Len==e1.Len) else false) then ((list.set (F58 list e1).toNat (⟨e1,false⟩:Uf)),true) else (bif ((list.length:Int)==16) then ((F47v (F61 list (F60 list)) e1).1,(F47v (F61 list (F60 list)) e1).2) else ((((list.take (F58 list e1).toNat)++[(⟨e1,false⟩:Uf)])++(list.drop (F58 list e1).toNat)),true))
theorem fi47fr (list:List Uf) (e1:Ue) (r:List Uf×Bool) (hF:r=(F47fr list e1)):(Imp (.l 5 eHelloRoute r.1) (.l 5 eHelloRoute (F47fr list e1).1))/\((.bool r.2:Value)=.bool (F47fr list e1).2)/\True:=by cases hF; exact ⟨Imp.refl _,rfl,trivial⟩
def S47fr (list:List Uf) (e1:Ue):Spec:=⟨[.r (.c (.l 5 eHelloRoute list)),.r (.g (eHelloEntry e1))],.tu [.ow (.l 5 eHelloRoute (F47fr list e1).1),.v (.bool (F47fr list e1).2)],hasAl list e1=false/\list.length<=16⟩
theorem ok47fr (list:List Uf) (e1:Ue):(S47fr list e1).ok Try.prog 47 :=
 fnG_ok mixed (fn:=Try.f47) (ct:=.seqk [(0,0)] .no (.seq (.reg [(2,kh58l list e1)]) (.seq (.seq .no (.cond (.seq (.reg [(1,kh59a list)]) (.seq (.reg [(5,.dat (.l 5 eHelloRoute (list.set (F58 list e1).toNat (⟨e1,false⟩:Uf))))]) (.seq .no .no))) .no)) (.seq (.seq .no (.cond (.seq (.reg [(1,kh60l list)]) (.seq (.seq .no (.condF .no)) (.seq (.reg [(2,kh61l list (F60 list)),(4,kh47v (F61 list (F60 list)) e1)]) .no))) .no)) (.seq (.reg [(3,kh59a (list.take (F58 list e1).toNat)),(7,.dat (.l 5 eHelloRoute ((list.take (F58 list e1).toNat)++[(⟨e1,false⟩:Uf)]))),(11,.dat (.l 5 eHelloRoute (((list.take (F58 list e1).toNat)++[(⟨e1,false⟩:Uf)])++(list.drop (F58 list e1).toNat))))]) .no))))) Try.func47 (fun (hp:hasAl list e1=false/\list.length<=16)=>have hpre0:=hp.1; have hpre1:=hp.2; kn list fun _=>kc58l list e1 (fun gv1=>ai (fun k2:(decide ((F58 list e1)<(list.length:Int)))=true=>have _:=Qc k2; (uu1:ib (F58 list e1) list)) (ai (fun k3:(bif decide ((F58 list e1)<(list.length:Int)) then ((list.getD (F58 list e1).toNat default).Entry.Addr==e1.Addr) else false)=true=>have _:=Qc (andT1 k3); have _:=eq_of_beq (andT2 k3); (uu1:ib (F58 list e1) list)) (ifb (bif (bif decide ((F58 list e1)<(list.length:Int)) then ((list.getD (F58 list e1).toNat default).Entry.Addr==e1.Addr) else false) then ((list.getD (F58 list e1).toNat default).Entry.Len==e1.Len) else false) (fun h4=>have _:=Qc (andT1 (andT1 h4)); have _:=eq_of_beq (andT2 (andT1 h4)); have _:=eq_of_beq (andT2 h4); kc59a list uu1 (ai (uu1:ib (F58 list e1) list) (ai (setr 5 eHelloRoute list (F58 list e1).toNat (⟨e1,false⟩:Uf)) (fi47fr list e1 ((list.set (F58 list e1).toNat (⟨e1,false⟩:Uf)),true) (condT h4 rfl))))) (fun h4=>ife (list.length:Int) 16 (fun h5 _=>kc60l list (fun gv6=>have hd8:(decide ((F60 list)<0))=false:=(by exact hasAl_no (by assumption) (by assumption) (by assumption)); And.intro hd8 (have _:=Re hd8; kc61l list (F60 list) uu1 uu1 uu1 uu1 uu1 uu1 (fun gv7=>kc47v (F61 list (F60 list)) e1 uu1 (fi47fr list e1 ((F47v (F61 list (F60 list)) e1).1,(F47v (F61 list (F60 list)) e1).2) (condF h4 (condT h5 rfl))))))) (fun h5 _=>ai (uu1:0<=(0:Int)/\(0:Int)<=(F58 list e1)/\(F58 list e1)<=(list.length:Int)) (kc59a (list.take (F58 list e1).toNat) uu1 (ai (appr 5 eHelloRoute (list.take (F58 list e1).toNat) [(⟨e1,false⟩:Uf)] fun _=>rfl) (ai (uu8:((list.take (F58 list e1).toNat)++[(⟨e1,false⟩:Uf)]).length*40<=140737488355328) (ai (uu1:0<=(F58 list e1)/\(F58 list e1)<=(list.length:Int)/\(list.length:Int)<=(list.length:Int)) (ai (AppL.mk eHelloRoute ((list.take (F58 list e1).toNat)++[(⟨e1,false⟩:Uf)]) (list.drop (F58 list e1).toNat) (Imp.refl (.l 5 eHelloRoute ((list.take (F58 list e1).toNat)++[(⟨e1,false⟩:Uf)]))) ir (fun y=>⟨rfl,fun e he=>by simp only [eHelloRoute,Qo,Rj,Sz] at he; rcases he with rfl | rfl | rfl | rfl | rfl <;> exact ⟨_,rfl⟩⟩):AppL (.l 5 eHelloRoute ((list.take (F58 list e1).toNat)++[(⟨e1,false⟩:Uf)])) (.l 5 eHelloRoute (list.drop (F58 list e1).toNat)) 5 (.l 5 eHelloRoute (((list.take (F58 list e1).toNat)++[(⟨e1,false⟩:Uf)])++(list.drop (F58 list e1).toNat)))) (ai (uu8:(((list.take (F58 list e1).toNat)++[(⟨e1,false⟩:Uf)])++(list.drop (F58 list e1).toNat)).length*40<=140737488355328) (fi47fr list e1 ((((list.take (F58 list e1).toNat)++[(⟨e1,false⟩:Uf)])++(list.drop (F58 list e1).toNat)),true) (condF h4 (condF h5 rfl))))))))))))))) uu3
def S47al (list:List Uf) (e1:Ue):SpecI:=⟨[(.c (.l 5 eHelloRoute list)),(.g (eHelloEntry e1))],0,.bool false,rfl,hasAl list e1=true⟩
theorem ok47al (list:List Uf) (e1:Ue):(S47al list e1).ok Try.prog 47 :=
 fnI_ok mixed (fn:=Try.f47) (ct:=.seqk [(0,0)] .no (.seq (.reg [(2,kh58l list e1)]) (.seq (.seq .no (.condF .no)) (.seq (.seq .no (.condT (.seq (.reg [(1,kh60l list)]) (.seq (.seq .no (.condT (.seq .no .no))) .no)))) .no)))) Try.func47 (fun (hpre0:hasAl list e1=true)=>kn list fun _=>kc58l list e1 (fun gv1=>ai (fun k2:(decide ((F58 list e1)<(list.length:Int)))=true=>have _:=Qc k2; (uu0:ib (F58 list e1) list)) (ai (fun k3:(bif decide ((F58 list e1)<(list.length:Int)) then ((list.getD (F58 list e1).toNat default).Entry.Addr==e1.Addr) else false)=true=>have _:=Qc (andT1 k3); have _:=eq_of_beq (andT2 k3); (uu0:ib (F58 list e1) list)) (have hd7:(bif (bif decide ((F58 list e1)<(list.length:Int)) then ((list.getD (F58 list e1).toNat default).Entry.Addr==e1.Addr) else false) then ((list.getD (F58 list e1).toNat default).Entry.Len==e1.Len) else false)=false:=(by exact hasAl_1 (by assumption)); And.intro hd7 (have hd6:((list.length:Int)==16)=true:=(by exact hasAl_2 (by assumption)); And.intro hd6 (have _:=eq_of_beq hd6; kc60l list (fun gv4=>have hd5:(decide ((F60 list)<0))=true:=(by exact hasAl_3 (by assumption)); And.intro hd5 (have _:=Qc hd5; (ai (rfl:(0:Nat)=0) (Qa Value.bool (by rfl:false=false))))))))))) uu3
def F91 (e1:Ud):Ud :=
 bif (e1.Under.Kind==3) then (⟨e1.Name,e1.Peer,e1.Keys,e1.Boot,e1.Want,e1.Turn,e1.PeerBoot,e1.PeerTurn,e1.Up,e1.Left,e1.Num,(⟨0,(⟨0,0,0,0⟩:Ue)⟩:HelloChange),(F84 e1.Told e1.Under),true,e1.Got,e1.Full,e1.Heard,e1.Keep⟩:Ud) else (⟨e1.Name,e1.Peer,e1.Keys,e1.Boot,e1.Want,e1.Turn,e1.PeerBoot,e1.PeerTurn,e1.Up,e1.Left,e1.Num,(⟨0,(⟨0,0,0,0⟩:Ue)⟩:HelloChange),(F84 e1.Told e1.Under),e1.All,e1.Got,e1.Full,e1.Heard,e1.Keep⟩:Ud)
theorem fi91 (e1:Ud) (r:Ud) (hF:r=(F91 e1)):((.int .i64 r.Name:Value)=.int .i64 (F91 e1).Name)/\((.int .i64 r.Peer:Value)=.int .i64 (F91 e1).Peer)/\(Imp (.l 2 eHelloKey r.Keys) (.l 2 eHelloKey (F91 e1).Keys))/\((.int .i64 r.Boot:Value)=.int .i64 (F91 e1).Boot)/\(Imp (.l 4 eHelloEntry r.Want) (.l 4 eHelloEntry (F91 e1).Want))/\((.int .i64 r.Turn:Value)=.int .i64 (F91 e1).Turn)/\((.int .i64 r.PeerBoot:Value)=.int .i64 (F91 e1).PeerBoot)/\((.int .i64 r.PeerTurn:Value)=.int .i64 (F91 e1).PeerTurn)/\((.bool r.Up:Value)=.bool (F91 e1).Up)/\((.int .i64 r.Left:Value)=.int .i64 (F91 e1).Left)/\((.int .i64 r.Num:Value)=.int .i64 (F91 e1).Num)/\((.int .i64 r.Under.Kind:Value)=.int .i64 (F91 e1).Under.Kind)/\((.int .i64 r.Under.Entry.Addr:Value)=.int .i64 (F91 e1).Under.Entry.Addr)/\((.int .i64 r.Under.Entry.Len:Value)=.int .i64 (F91 e1).Under.Entry.Len)/\((.int .i64 r.Under.Entry.Cost:Value)=.int .i64 (F91 e1).Under.Entry.Cost)/\((.int .i64 r.Under.Entry.Label:Value)=.int .i64 (F91 e1).Under.Entry.Label)/\(Imp (.l 4 eHelloEntry r.Told) (.l 4 eHelloEntry (F91 e1).Told))/\((.bool r.All:Value)=.bool (F91 e1).All)/\((.int .i64 r.Got:Value)=.int .i64 (F91 e1).Got)/\((.bool r.Full:Value)=.bool (F91 e1).Full)/\(Imp (.l 5 eHelloRoute r.Heard) (.l 5 eHelloRoute (F91 e1).Heard))/\((.int .i64 r.Keep:Value)=.int .i64 (F91 e1).Keep)/\True:=by cases hF; exact ⟨rfl,rfl,Imp.refl _,rfl,Imp.refl _,rfl,rfl,rfl,rfl,rfl,rfl,rfl,rfl,rfl,rfl,rfl,Imp.refl _,rfl,rfl,rfl,Imp.refl _,rfl,trivial⟩
def S91 (e1:Ud):Spec:=⟨[.ot (eHelloEnd e1)],.ag [.v (vI (F91 e1).Name),.v (vI (F91 e1).Peer),.ow (.l 2 eHelloKey (F91 e1).Keys),.v (vI (F91 e1).Boot),.ow (.l 4 eHelloEntry (F91 e1).Want),.v (vI (F91 e1).Turn),.v (vI (F91 e1).PeerBoot),.v (vI (F91 e1).PeerTurn),.v (.bool (F91 e1).Up),.v (vI (F91 e1).Left),.v (vI (F91 e1).Num),.v (vI (F91 e1).Under.Kind),.v (vI (F91 e1).Under.Entry.Addr),.v (vI (F91 e1).Under.Entry.Len),.v (vI (F91 e1).Under.Entry.Cost),.v (vI (F91 e1).Under.Entry.Label),.ow (.l 4 eHelloEntry (F91 e1).Told),.v (.bool (F91 e1).All),.v (vI (F91 e1).Got),.v (.bool (F91 e1).Full),.ow (.l 5 eHelloRoute (F91 e1).Heard),.v (vI (F91 e1).Keep)],smallE e1⟩
theorem ok91 (e1:Ud):(S91 e1).ok Try.prog 91 :=
 fnG_ok mixed (fn:=Try.f91) (ct:=.seq .no (.seq (.reg [(4,kh84 e1.Told e1.Under)]) (.seq (.seq .no (.cond .no .no)) (.seq .no (.seq .no .no))))) Try.func91 (fun (hpre0:smallE e1)=>kc84 e1.Told e1.Under uu18 (ife e1.Under.Kind 3 (fun h1 _=>fi91 e1 (⟨e1.Name,e1.Peer,e1.Keys,e1.Boot,e1.Want,e1.Turn,e1.PeerBoot,e1.PeerTurn,e1.Up,e1.Left,e1.Num,(⟨0,(⟨0,0,0,0⟩:Ue)⟩:HelloChange),(F84 e1.Told e1.Under),true,e1.Got,e1.Full,e1.Heard,e1.Keep⟩:Ud) (condT h1 rfl)) (fun h1 _=>fi91 e1 (⟨e1.Name,e1.Peer,e1.Keys,e1.Boot,e1.Want,e1.Turn,e1.PeerBoot,e1.PeerTurn,e1.Up,e1.Left,e1.Num,(⟨0,(⟨0,0,0,0⟩:Ue)⟩:HelloChange),(F84 e1.Told e1.Under),e1.All,e1.Got,e1.Full,e1.Heard,e1.Keep⟩:Ud) (condF h1 rfl)))) uu3
def F88_s0 (list:List Uf):(List Uf×Int)->Lp (List Uf×Int) (List Uf):=fun (out,i40) =>
 bif (decide (i40<(list.length:Int))) then (bif (!(list.getD i40.toNat default).Stale) then (.next ((out++[(list.getD i40.toNat default)]),(i40+1))) else (.next (out,(i40+1)))) else (.done (out,i40))
def F88 (list:List Uf):List Uf :=
 (runL (F88_s0 list) (((list.length:Int)-0).toNat+1) (([]:List Uf),0)).fin (fun r=>r) (fun (out,i40)=>out)
abbrev lN88_0 (list:List Uf):Nat×(List Uf×Int):=((((list.length:Int)-0).toNat+1),(([]:List Uf),0))
abbrev lI88_0 (list:List Uf) (m39:Nat) (out:List Uf) (i40:Int):Prop:=Int.toNat ((list.length:Int)-i40)<m39/\(out.length:Int)<=i40/\i40<=(list.length:Int)/\(0:Int)<=i40
abbrev lX88_0 (list:List Uf):Lp (List Uf×Int) (List Uf):=LpX (F88_s0 list) (lN88_0 list)
abbrev lJ88_0 (list:List Uf) (i:Nat×(List Uf×Int)):Prop:=LpJ (F88_s0 list) (lN88_0 list) i (lI88_0 list i.1 i.2.1 i.2.2)
abbrev lH88_0 (list:List Uf) (i:Nat×(List Uf×Int)) (m39:Nat) (out:List Uf) (i40:Int):Prop:=LpH (F88_s0 list) (lN88_0 list) i m39 (out,i40) (lI88_0 list (m39+1) out i40)
abbrev lE88_0 (list:List Uf) (out:List Uf) (i40:Int) (out_:List Uf) (i40_:Int) (K39:Prop):Prop:=((.int .i64 i40:Value)=.int .i64 i40_)/\(Im (.l 5 eHelloRoute list))/\(Imp (.l 5 eHelloRoute out) (.l 5 eHelloRoute out_))/\K39
theorem un88_0 (list:List Uf) (i:Nat×(List Uf×Int)) (h:lJ88_0 list i):lH88_0 list i (i.1-1) i.2.1 i.2.2:=⟨hd1 h.1 h.2.1,hd3 h.2.1,hd2 h.2.1,h.2.2⟩
theorem bk88_0 (list:List Uf) (i:Nat×(List Uf×Int)) (m39:Nat) (out:List Uf) (i40:Int) (hl:m39<i.1) (e:runL (F88_s0 list) m39 (out,i40)=lX88_0 list) (h:lI88_0 list m39 out i40):∃ j:Nat×(List Uf×Int),lE88_0 list out i40 j.2.1 j.2.2 (lJ88_0 list j/\j.1<i.1):=⟨(m39,(out,i40)),rfl,Imp.refl _,Imp.refl _,⟨e,h⟩,hl⟩
theorem en88_0 (list:List Uf) (h:(([]:List Uf).length:Int)<=0/\0<=(list.length:Int)/\(0:Int)<=0):lE88_0 list ([]:List Uf) 0 ([]:List Uf) 0 (lJ88_0 list (lN88_0 list)):=⟨rfl,Imp.refl _,Imp.refl _,rfl,Qr _,h⟩
theorem fi88 (list:List Uf) (r:List Uf) (hF:r=(F88 list)):(Imp (.l 5 eHelloRoute r) (.l 5 eHelloRoute (F88 list)))/\True:=by cases hF; exact ⟨Imp.refl _,trivial⟩
def S88 (list:List Uf):Spec:=⟨[.r (.c (.l 5 eHelloRoute list))],.ow (.l 5 eHelloRoute (F88 list)),list.length<=1000000000⟩
theorem ok88 (list:List Uf):(S88 list).ok Try.prog 88 :=
 fnG_ok mixed (fn:=Try.f88) (ct:=.seqk [(0,0)] .no (.seq (.reg [(0,.dat (.l 5 eHelloRoute ([]:List Uf)))]) (.seq (.seqk [(0,0),(3,0)] .no (.blk (.loop (ι:=Nat×(List Uf×Int)) (fun i=>(fun (out:List Uf) (i40:Int)=>(⟨[(0,some (.h 0 0)),(3,some (.h 1 0)),(4,some (.v (vI i40)))],[(0,some (.shr none (.l 5 eHelloRoute list))),(1,some (.own 1 (.l 5 eHelloRoute out)))],2⟩:St)) i.2.1 i.2.2) (lJ88_0 list) (fun i=>i.1) (lN88_0 list) (fun i=>(fun (out:List Uf) (i40:Int)=>(.seq (.seq .no (.cond .no .no)) (.seq (.blk (.seq .no (.cond (.reg [(6,.dat (.l 5 eHelloRoute (out++[(list.getD i40.toNat default)])))]) .no))) (.reg [(1,.bnd)])))) i.2.1 i.2.2)))) (.seq .no .no)))) Try.func88 (fun (hpre0:list.length<=1000000000)=>kn list fun _=>ai (bokr 5 eHelloRoute ([]:List Uf) fun _=>rfl) (kn list fun _=>kn ([]:List Uf) fun _=>ai (en88_0 list uu19) (fun (i0:Nat×(List Uf×Int)) (hi0:lJ88_0 list i0)=>(fun (m0:Nat) (out:List Uf) (i40:Int) (hh0:lH88_0 list i0 m0 out i40)=>have hI0:=hh0.1; have hl0:=hh0.2.1; have _:=hh0.2.2.1; have _:=hh0.2.2.2; ifd (i40<(list.length:Int)) (fun h2 _=>ai (uu1:ib i40 list) (ifb (!(list.getD i40.toNat default).Stale) (fun h3=>have _:=(notET h3); ai (uu1:ib i40 list) (ai (appr 5 eHelloRoute out [(list.getD i40.toNat default)] fun _=>rfl) (ai (uu8:(out++[(list.getD i40.toNat default)]).length*40<=140737488355328) (ai (iok (i40+1) uu1) (bk88_0 list i0 m0 (out++[(list.getD i40.toNat default)]) (i40+1) hl0 (runL_next hI0 (condT h2 (condT h3 rfl))) uu35))))) (fun h3=>have _:=(notEF h3); ai (iok (i40+1) uu1) (bk88_0 list i0 m0 out (i40+1) hl0 (runL_next hI0 (condT h2 (condF h3 rfl))) uu35)))) (fun h2 _=>have hD0_4:lX88_0 list=Lp.done (out,i40):=runL_done hI0 (condF h2 rfl); fi88 list out (finD hD0_4 rfl))) (i0.1-1) i0.2.1 i0.2.2 (un88_0 list i0 hi0)))) uu3
theorem put_len (t:List Ue) (e:Ue):(F40 t e).length<=t.length+1:=by
 rw [put_eq]
 cases h:fndE t e with
 | true=>rw [Qd,List.length_set]; omega
 | false =>
  have:=posE_le t e
  rw [Qj]
  simp only [Rd,Ri,Se,Rc,Td]
  omega
theorem drop_len (t:List Ue) (e:Ue):(F90 t e).length<=t.length:=by
 unfold F90
 have:=at_in t e
 cases h:decide (F97 t e<0) with
 | true=>exact Qk _
 | false =>
  have h:=Re h
  simp only [Qj,Rd,Ri,Se]
  omega
theorem apply_len (t:List Ue) (c:HelloChange):(F84 t c).length<=t.length+1:=by
 unfold F84
 cases (c.Kind==1)
 ·cases (c.Kind==2)
  ·exact Rl _
  ·exact Nat.le_succ_of_le (drop_len _ _)
 ·exact put_len _ _
theorem answered_len (e:Ud):(F91 e).Heard=e.Heard/\(F91 e).Keys=e.Keys/\(F91 e).Want=e.Want/\(F91 e).Told.length<=e.Told.length+1:=by
 unfold F91
 cases (e.Under.Kind==3) <;> exact ⟨rfl,rfl,rfl,apply_len _ _⟩
theorem fresh_loop {ρ:Type} (p:Uf->Bool) (a:List Uf) (step:List Uf×Int->Lp (List Uf×Int) ρ)
  (hs:∀ (k:Nat) xs,k<a.length->step (xs,(k:Int))=.next (xs++(if p (a.getD k default) then [a.getD k default] else []),(k:Int)+1)) (he:∀ xs,step (xs,(a.length:Int))=.done (xs,(a.length:Int))) :
  runL step (((a.length:Int)-0).toNat+1) ([],0)=.done (a.filter p,(a.length:Int)):=by
 have h:=runL_rule (step:=step) (fun (k:Nat) (s:List Uf)=>(s,(k:Int))) a.length (fun k s=>s=(a.take k).filter p) (fun _=>False)
  (fun k s hk hI=>.inl ⟨_,by rw [hs k s hk]; rfl,by rw [hI,filter_take_next p a hk]⟩)
  (fun s _=>he s) a.length 0 [] uu0 rfl (Int.toNat ((a.length:Int)-0)+1) uu0
 rcases h with ⟨s,h,hI⟩ | ⟨_,_,h⟩
 ·have h':runL step (Int.toNat ((a.length:Int)-0)+1) ([],0)=_:=h
  rw [h',hI,List.take_length]
 ·exact h.elim
theorem freshEq (list:List Uf):F88 list=list.filter (fun r=>!r.Stale):=by
 unfold F88
 rw [fresh_loop (fun r=>!r.Stale) list _ (fun k xs hk=>by
  simp only [F88_s0,ltD hk,Qd,nn]
  cases (list.getD k default).Stale <;> simp) (fun xs=>by simp [F88_s0])]
 rfl
theorem fresh_len (list:List Uf) (_:list.length<=1000000000):(F88 list).length<=list.length:=by
 rw [freshEq]; exact List.length_filter_le _ _
def hasV (l:List Uf) (e:Ue):List Uf :=
 bif (bif decide (posR l e<l.length) then sameP (l.getD (posR l e) default).Entry e else false) then l.set (posR l e) ⟨e,false⟩ else l.take (posR l e)++⟨e,false⟩ :: l.drop (posR l e)
theorem hasV_eq (l:List Uf) (e:Ue):F47v l e=(hasV l e,true):=by
 unfold F47v hasV sameP
 rw [where_eq,show Int.toNat ((posR l e:Nat):Int)=posR l e from rfl]
 have hd:decide (((posR l e:Nat):Int)<(l.length:Int))=decide (posR l e<l.length):=Si.2 uu0
 rw [hd]
 have hl:l.take (posR l e)++[(⟨e,false⟩:Uf)]++l.drop (posR l e)=l.take (posR l e)++⟨e,false⟩ :: l.drop (posR l e):=by simp
 rw [hl]
 cases decide (posR l e<l.length) <;> cases ((l.getD (posR l e) default).Entry.Addr==e.Addr) <;> cases ((l.getD (posR l e) default).Entry.Len==e.Len) <;> rfl
theorem hasV_len (l:List Uf) (e:Ue):(hasV l e).length<=l.length+1:=by
 unfold hasV
 have:=posR_le l e
 cases (bif decide (posR l e<l.length) then sameP (l.getD (posR l e) default).Entry e else false)
 ·simp only [Qj,Rd,Ri,Se,Rc]
  omega
 ·rw [Qd,List.length_set]; omega
theorem cond1_eq (l:List Uf) (e:Ue):fndR l e=(bif decide (posR l e<l.length) then sameP (l.getD (posR l e) default).Entry e else false):=by
 unfold fndR
 rw [where_eq,show Int.toNat ((posR l e:Nat):Int)=posR l e from rfl]
 have hd:decide (((posR l e:Nat):Int)<(l.length:Int))=decide (posR l e<l.length):=Si.2 uu0
 rw [hd]
 unfold sameP
 cases decide (posR l e<l.length) <;> cases ((l.getD (posR l e) default).Entry.Addr==e.Addr) <;> rfl
theorem has_frEq (l:List Uf) (e:Ue):F47fr l e =
  bif fndR l e then (hasV l e,true) else bif ((l.length:Int)==16) then (hasV (F61 l (F60 l)) e,true) else (hasV l e,true):=by
 have h1:=hasV_eq l e
 unfold F47v at h1
 unfold F47fr
 rw [hasV_eq]
 change (bif fndR l e then _ else _)=_ at h1
 change (bif fndR l e then _ else _)=_
 cases hq:fndR l e with
 | true=>rw [hq,Qd] at h1; rw [Qd,Qd]; exact h1
 | false =>
  rw [hq,Qj] at h1
  cases ((l.length:Int)==16) with
  | false=>exact h1
  | true=>rfl
def heardL (e:Ud) (w:HelloWord):List Uf:=bif decide (w.Boot>e.PeerBoot) then e.Heard.map staleR else e.Heard
def lisAl (e:Ud) (w:HelloWord):Bool:=toldAl (heardL e w) w.Change
theorem stale_Heard (e:Ud):(F96 e).Heard=e.Heard.map staleR:=by
 unfold F96
 rw [lifeS_loop]
 simp only [Lp.fin]
 cases (bif decide (((e.Heard.map staleR).length:Int)>0) then (e.Keep==0) else false) <;> rfl
theorem heardL_1 {e:Ud} {w:HelloWord} (h:decide (w.Boot>e.PeerBoot)=true):(F89 e).Heard=heardL e w:=by
 unfold heardL F89
 rw [h,stale_Heard]; rfl
theorem heardL_2 {e:Ud} {w:HelloWord} (h:decide (w.Boot>e.PeerBoot)=false):e.Heard=heardL e w:=by
 unfold heardL; rw [h]; rfl
theorem heardL_len {e:Ud} {w:HelloWord} (h:EndFit e):(heardL e w).length<=16:=by
 unfold heardL
 cases decide (w.Boot>e.PeerBoot)
 ·exact h.heard
 ·rw [Qd,Su]; exact h.heard
def LJ (n:Nat) (e:Ud) (w:HelloWord) (k:List HelloKey) (a t:List Ue) (h:List Uf):Prop:=k.length<=3/\a.length<=8/\t.length<=n/\h=heardL e w
theorem anew_facts (e:Ud):(F89 e).Keys=e.Keys/\(F89 e).Want=e.Want/\(F89 e).Told=[]:=by
 unfold F89
 have h:=stale_facts (⟨e.Name,e.Peer,e.Keys,e.Boot,e.Want,e.Turn,e.PeerBoot,e.PeerTurn,false,e.Left,0,⟨0,⟨0,0,0,0⟩⟩,[],false,0,false,e.Heard,e.Keep⟩:Ud)
 exact ⟨h.1,h.2.1,h.2.2.1⟩
theorem lj_1 {e:Ud} {w:HelloWord} (hf:EndFit e) (h:decide (w.Boot>e.PeerBoot)=true):LJ 8 e w (F89 e).Keys (F89 e).Want (F89 e).Told (F89 e).Heard:=by
 obtain ⟨h1,h2,h3⟩:=anew_facts e
 unfold LJ
 rw [h1,h2,h3]
 exact ⟨hf.keys,hf.want.len,Rk _,heardL_1 h⟩
theorem lj_2 {e:Ud} {w:HelloWord} (hf:EndFit e) (h:decide (w.Boot>e.PeerBoot)=false):LJ 8 e w e.Keys e.Want e.Told e.Heard:=⟨hf.keys,hf.want.len,hf.told.len,heardL_2 h⟩
theorem lj_ans {e:Ud} {w:HelloWord} {x:Ud} (h:LJ 8 e w x.Keys x.Want x.Told x.Heard):LJ 9 e w (F91 x).Keys (F91 x).Want (F91 x).Told (F91 x).Heard:=by
 obtain ⟨a1,a2,a3,a4⟩:=answered_len x
 obtain ⟨h1,h2,h3,h4⟩:=h
 exact ⟨a2 ▸ h1,a3 ▸ h2,by omega,a1.trans h4⟩
theorem lj_w {e:Ud} {w:HelloWord} {k a t h} (x:LJ 8 e w k a t h):LJ 9 e w k a t h:=⟨x.1,x.2.1,Nat.le_succ_of_le x.2.2.1,x.2.2.2⟩
theorem lj_small {e:Ud} {w:HelloWord} {x:Ud} (hf:EndFit e) (h:LJ 8 e w x.Keys x.Want x.Told x.Heard):smallE x:=by
 obtain ⟨h1,h2,h3,h4⟩:=h
 have h5:x.Heard.length<=16:=by rw [h4]; exact heardL_len hf
 unfold smallE
 omega
theorem lj_len {e:Ud} {w:HelloWord} {k a t h} (hf:EndFit e) (x:LJ 9 e w k a t h):h.length<=16:=by rw [x.2.2.2]; exact heardL_len hf
theorem lj_al {e:Ud} {w:HelloWord} {k a t h} {b:Bool} (x:LJ 9 e w k a t h) (hb:lisAl e w=b):toldAl h w.Change=b:=by rw [x.2.2.2]; exact hb
theorem kc47fr (list:List Uf) (e1:Ue) {K_:Prop} (p0_:hasAl list e1=false) (p1_:list.length<=16) (k_:K_):(hasAl list e1=false/\list.length<=16)/\(Imp (.l 5 eHelloRoute list) (.l 5 eHelloRoute list))/\(Imps (eHelloEntry e1) (eHelloEntry e1))/\K_:=⟨⟨p0_,p1_⟩,Imp.refl _,Imps.refl _,k_⟩
abbrev kh47fr (list:List Uf) (e1:Ue):Hint true Try.prog:=.call 47 (S47fr list e1) (ok47fr list e1) none
theorem kc88l (list:List Uf) {K_:Prop} (p0_:list.length<=1000000000) (q0_:list.length<=1000000000) (k_:((F88 list).length<=list.length)->K_):(list.length<=1000000000)/\(Imp (.l 5 eHelloRoute list) (.l 5 eHelloRoute list))/\K_:=⟨p0_,Imp.refl _,k_ (fresh_len list q0_)⟩
abbrev kh88l (list:List Uf):Hint true Try.prog:=.call 88 (S88 list) (ok88 list) none
def F92fr (list:List Uf) (c:HelloChange):List Uf×Bool :=
 bif (c.Kind==1) then ((F47fr list c.Entry).1,(F47fr list c.Entry).2) else (bif (c.Kind==2) then ((F61 list (F58 list c.Entry)),true) else ((F88 list),true))
theorem fi92fr (list:List Uf) (c:HelloChange) (r:List Uf×Bool) (hF:r=(F92fr list c)):(Imp (.l 5 eHelloRoute r.1) (.l 5 eHelloRoute (F92fr list c).1))/\((.bool r.2:Value)=.bool (F92fr list c).2)/\True:=by cases hF; exact ⟨Imp.refl _,rfl,trivial⟩
def S92fr (list:List Uf) (c:HelloChange):Spec:=⟨[.r (.c (.l 5 eHelloRoute list)),.r (.g (eHelloChange c))],.tu [.ow (.l 5 eHelloRoute (F92fr list c).1),.v (.bool (F92fr list c).2)],toldAl list c=false/\list.length<=16⟩
theorem ok92fr (list:List Uf) (c:HelloChange):(S92fr list c).ok Try.prog 92 :=
 fnG_ok mixed (fn:=Try.f92) (ct:=.seqk [(0,0)] .no (.seq (.seq .no (.blk (.seq .no (.cond (.seq (.reg [(3,kh47fr list c.Entry)]) .no) (.seq .no (.cond (.seq (.reg [(3,kh58l list c.Entry)]) (.seq (.seq .no (.condT (.seq (.reg [(2,kh61l list (F58 list c.Entry))]) .no))) .no)) .no)))))) (.seq (.reg [(1,kh88l list)]) .no))) Try.func92 (fun (hp:toldAl list c=false/\list.length<=16)=>have hpre0:=hp.1; have hpre1:=hp.2; kn list fun _=>ife c.Kind 1 (fun h1 _=>kc47fr list c.Entry (by first | exact toldAl_1 (by assumption) (by assumption) | omega) (by first | exact toldAl_1 (by assumption) (by assumption) | omega) (fi92fr list c ((F47fr list c.Entry).1,(F47fr list c.Entry).2) (condT h1 rfl))) (fun h1 _=>ife c.Kind 2 (fun h2 _=>kc58l list c.Entry (fun gv3=>ai (fun k4:(decide ((F58 list c.Entry)<(list.length:Int)))=true=>have _:=Qc k4; (uu0:ib (F58 list c.Entry) list)) (ai (fun k5:(bif decide ((F58 list c.Entry)<(list.length:Int)) then ((list.getD (F58 list c.Entry).toNat default).Entry.Addr==c.Entry.Addr) else false)=true=>have _:=Qc (andT1 k5); have _:=eq_of_beq (andT2 k5); (uu0:ib (F58 list c.Entry) list)) (have hd7:(bif (bif decide ((F58 list c.Entry)<(list.length:Int)) then ((list.getD (F58 list c.Entry).toNat default).Entry.Addr==c.Entry.Addr) else false) then ((list.getD (F58 list c.Entry).toNat default).Entry.Len==c.Entry.Len) else false)=true:=(by exact toldAl_2 (by assumption) (by assumption) (by assumption)); And.intro hd7 (have _:=Qc (andT1 (andT1 hd7)); have _:=eq_of_beq (andT2 (andT1 hd7)); have _:=eq_of_beq (andT2 hd7); kc61l list (F58 list c.Entry) uu0 uu0 uu0 uu0 uu0 uu0 (fun gv6=>fi92fr list c ((F61 list (F58 list c.Entry)),true) (condF h1 (condT h2 rfl)))))))) (fun h2 _=>kc88l list uu0 uu0 (fun gv8=>fi92fr list c ((F88 list),true) (condF h1 (condF h2 rfl)))))) uu3
def S92al (list:List Uf) (c:HelloChange):SpecI:=⟨[(.c (.l 5 eHelloRoute list)),(.g (eHelloChange c))],0,.bool (c.Kind==2),rfl,toldAl list c=true⟩
theorem ok92al (list:List Uf) (c:HelloChange):(S92al list c).ok Try.prog 92 :=
 fnI_ok mixed (fn:=Try.f92) (ct:=.seqk [(0,0)] .no (.seq (.seq .no (.blk (.seq .no (.cond (.seq (.reg [(3,.ci 47 (S47al list c.Entry) (ok47al list c.Entry))]) .no) (.seq .no (.condT (.seq (.reg [(3,kh58l list c.Entry)]) (.seq (.seq .no (.condF .no)) (.seq .no .no))))))))) .no)) Try.func92 (fun (hpre0:toldAl list c=true)=>kn list fun _=>ife c.Kind 1 (fun h1 _=>ai (by exact toldAl_1 (by assumption) (by assumption):hasAl list c.Entry=true) (ai (Imp.refl (.l 5 eHelloRoute list)) (ai (Imps.refl (eHelloEntry c.Entry)) (ai (rfl:(0:Nat)=0) (Qa Value.bool (uu36:false=(c.Kind==2))))))) (fun h1 _=>have hd6:(c.Kind==2)=true:=(by exact toldAl_4 (by assumption) (by assumption)); And.intro hd6 (have _:=eq_of_beq hd6; kc58l list c.Entry (fun gv2=>ai (fun k3:(decide ((F58 list c.Entry)<(list.length:Int)))=true=>have _:=Qc k3; (uu0:ib (F58 list c.Entry) list)) (ai (fun k4:(bif decide ((F58 list c.Entry)<(list.length:Int)) then ((list.getD (F58 list c.Entry).toNat default).Entry.Addr==c.Entry.Addr) else false)=true=>have _:=Qc (andT1 k4); have _:=eq_of_beq (andT2 k4); (uu0:ib (F58 list c.Entry) list)) (have hd5:(bif (bif decide ((F58 list c.Entry)<(list.length:Int)) then ((list.getD (F58 list c.Entry).toNat default).Entry.Addr==c.Entry.Addr) else false) then ((list.getD (F58 list c.Entry).toNat default).Entry.Len==c.Entry.Len) else false)=false:=(by exact toldAl_3 (by assumption) (by assumption)); And.intro hd5 (ai (rfl:(0:Nat)=0) (Qa Value.bool (uu36:true=(c.Kind==2)))))))))) uu3
theorem less_iff {x y:Ue}:F30 x y=true↔x.Addr<y.Addr\/(x.Addr=y.Addr/\x.Len<y.Len):=by
 unfold F30
 by_cases h1:x.Addr<y.Addr
 ·simp [h1]
 ·simp only [Qw h1,Qj,h1,false_or]
  by_cases h2:x.Addr=y.Addr
  ·simp [h2]
  ·simp [h2]
theorem less_tri {x y:Ue} (h1:F30 x y=false) (h2:sameP x y=false):F30 y x=true:=by
 rw [less_iff]
 have h1:¬ (x.Addr<y.Addr\/(x.Addr=y.Addr/\x.Len<y.Len)):=fun h=>by rw [less_iff.2 h] at h1; cases h1
 have h2:¬ (x.Addr=y.Addr/\x.Len=y.Len):=fun h=>by rw [same_iff.2 h] at h2; cases h2
 omega
section
variable {α:Type} [Inhabited α] {f:α->Ue}
def Ordd (f:α->Ue) (l:List α):Prop:=(∀ x,x∈l->F29 (f x)=true)/\l.Pairwise (fun x y=>F30 (f x) (f y)=true)
omit [Inhabited α] in
theorem ord_nil:Ordd f []:=⟨fun _ h=>(by cases h),.nil⟩
omit [Inhabited α] in
theorem ord_sub {l l':List α} (h:Ordd f l) (hs:l'.Sublist l):Ordd f l':=⟨fun x hx=>h.1 x (hs.subset hx),h.2.sublist hs⟩
omit [Inhabited α] in
theorem ord_ins {A B:List α} {x:α} (h:Ordd f (A++B)) (hx:F29 (f x)=true) (h1:∀ a,a∈A->F30 (f a) (f x)=true) (h2:∀ b,b∈B->F30 (f x) (f b)=true):Ordd f (A++x :: B):=by
 obtain ⟨ho,hp⟩:=h
 rw [List.pairwise_append] at hp
 refine ⟨fun y hy=>?_,?_⟩
 ·rcases Qu.1 hy with hy | hy
  ·exact ho y (Qq _ hy)
  ·rcases Qo.1 hy with rfl | hy
   ·exact hx
   ·exact ho y (Qp _ hy)
 ·rw [List.pairwise_append,List.pairwise_cons]
  refine ⟨hp.1,⟨h2,hp.2.1⟩,fun a ha b hb=>?_⟩
  rcases Qo.1 hb with rfl | hb
  ·exact h1 a ha
  ·exact hp.2.2 a ha b hb
theorem less_sameL {x y z:Ue} (h:sameP x y=true):F30 x z=F30 y z:=by
 obtain ⟨h1,h2⟩:=same_iff.1 h
 unfold F30
 rw [h1,h2]
omit [Inhabited α] in
theorem ord_set {A B:List α} {x y:α} (h:Ordd f (A++y :: B)) (hx:F29 (f x)=true) (hs:sameP (f y) (f x)=true):Ordd f (A++x :: B):=by
 have hp:=h.2
 rw [List.pairwise_append,List.pairwise_cons] at hp
 refine ord_ins (ord_sub h (by simp)) hx (fun a ha=>?_) (fun b hb=>?_)
 ·rw [<- same_less hs]; exact hp.2.2 a ha y Qi
 ·rw [<- less_sameL hs]; exact hp.2.1.1 b hb
def posG (f:α->Ue) (l:List α) (e:Ue):Nat:=(first (fun k=>!(F30 (f (l.getD k default)) e)) l.length).getD l.length
theorem posG_le (l:List α) (e:Ue):posG f l e<=l.length:=by
 unfold posG
 cases h:first (fun k=>!(F30 (f (l.getD k default)) e)) l.length with
 | none=>exact Qk _
 | some k=>have:=(first_some.1 h).1; show k<=_; omega
theorem posG_below {l:List α} {e:Ue} {k:Nat} (hk:k<posG f l e):F30 (f (l.getD k default)) e=true:=by
 unfold posG at hk
 cases h:first (fun k=>!(F30 (f (l.getD k default)) e)) l.length with
 | none=>rw [h] at hk; have:=first_none.1 h k hk; simpa using this
 | some j=>rw [h] at hk; have:=(first_some.1 h).2.2 k hk; simpa using this
theorem posG_at {l:List α} {e:Ue} (hk:posG f l e<l.length):F30 (f (l.getD (posG f l e) default)) e=false:=by
 unfold posG at hk ⊢
 cases h:first (fun k=>!(F30 (f (l.getD k default)) e)) l.length with
 | none=>rw [h] at hk; exact absurd hk (Nat.lt_irrefl _)
 | some j=>have:=(first_some.1 h).2.1; simpa using this
theorem drop_at {l:List α} {k:Nat} (hk:k<l.length):l.drop k=l.getD k default :: l.drop (k+1):=by rw [getD_lt l hk]; exact Tc hk
theorem split_at {l:List α} {k:Nat} (hk:k<l.length):l=l.take k++l.getD k default :: l.drop (k+1):=by rw [<- drop_at hk,Ro]
omit [Inhabited α] in
theorem set_split {l:List α} {k:Nat} (hk:k<l.length) (x:α):l.set k x=l.take k++x :: l.drop (k+1):=by
 apply T6
 intro i
 rw [List.getElem?_set,List.getElem?_append]
 have ht:(l.take k).length=k:=by rw [Ri]; omega
 rw [ht]
 by_cases h1:k=i
 ·subst h1; simp [hk]
 ·by_cases h2:i<k
  ·rw [if_neg h1,if_pos h2,List.getElem?_take_of_lt h2]
  ·obtain ⟨j,rfl⟩:∃ j,i=k+1+j:=⟨i-k-1,by omega⟩
   rw [if_neg h1,if_neg h2,show k+1+j-k=j+1 by omega,List.getElem?_cons_succ,Rm]
def putG (f:α->Ue) (l:List α) (e:Ue) (x:α):List α :=
 bif (bif decide (posG f l e<l.length) then sameP (f (l.getD (posG f l e) default)) e else false) then l.set (posG f l e) x else l.take (posG f l e)++x :: l.drop (posG f l e)
theorem mem_take {l:List α} {k:Nat} {a:α} (h:a∈l.take k):∃ j,j<k/\j<l.length/\a=l.getD j default:=by
 obtain ⟨j,hj,rfl⟩:=List.getElem_of_mem h
 rw [Ri] at hj
 refine ⟨j,by omega,by omega,?_⟩
 rw [getD_lt l uu0,List.getElem_take]
theorem ord_put {l:List α} {e:Ue} {x:α} (h:Ordd f l) (he:F29 e=true) (hx:f x=e):Ordd f (putG f l e x):=by
 unfold putG
 have hle:=posG_le (f:=f) l e
 cases hc:(bif decide (posG f l e<l.length) then sameP (f (l.getD (posG f l e) default)) e else false) with
 | true =>
  have hlt:posG f l e<l.length:=by
   cases hd:decide (posG f l e<l.length) with
   | true=>exact Qc hd
   | false=>rw [hd] at hc; cases hc
  rw [Qv hlt,Qd] at hc
  rw [Qd,set_split hlt]
  rw [split_at hlt] at h
  exact ord_set h (hx ▸ he) (hx ▸ hc)
 | false =>
  rw [Qj]
  refine ord_ins (by rw [Ro]; exact h) (hx ▸ he) (fun a ha=>?_) (fun b hb=>?_)
  ·obtain ⟨j,h1,h2,rfl⟩:=mem_take ha
   rw [hx]; exact posG_below h1
  ·rw [hx]
   have hlt:posG f l e<l.length:=by
    rcases Te (posG f l e) l.length with h | h
    ·exact h
    ·rw [List.drop_eq_nil_of_le h] at hb; cases hb
   rw [Qv hlt,Qd] at hc
   have h0:=less_tri (posG_at hlt) hc
   rw [drop_at hlt] at hb
   rcases Qo.1 hb with rfl | hb
   ·exact h0
   ·have hp:=h.2
    rw [split_at hlt,List.pairwise_append,List.pairwise_cons] at hp
    exact less_trans h0 (hp.2.1.1 b hb)
theorem putG_mem {l:List α} {e:Ue} {x y:α} (h:y∈putG f l e x):y=x\/y∈l:=by
 unfold putG at h
 revert h
 cases (bif decide (posG f l e<l.length) then sameP (f (l.getD (posG f l e) default)) e else false) with
 | true=>intro h; rcases Tb h with h | h; exact .inr h; exact .inl h
 | false =>
  intro h
  rcases Qu.1 h with h | h
  ·exact .inr (Ts h)
  ·rcases Qo.1 h with h | h
   ·exact .inl h
   ·exact .inr (Tt h)
omit [Inhabited α] in
theorem without_sub (l:List α) (k:Nat):(l.take k++l.drop (k+1)).Sublist l:=by
 have h:(l.take k++l.drop (k+1)).Sublist (l.take k++l.drop k):=List.Sublist.append (List.Sublist.refl _) (by rw [<- Sx]; exact List.drop_sublist _ _)
 rw [Ro] at h; exact h
theorem pw_adj (R:α->α->Prop) (tr:∀ a b c,R a b->R b c->R a c) (l:List α) (h:∀ k,k+1<l.length->R (l.getD k default) (l.getD (k+1) default)):l.Pairwise R:=by
 have hall:∀ d i,i+d+1<l.length->R (l.getD i default) (l.getD (i+d+1) default):=fun d=>by
  induction d with
  | zero=>intro i hi; exact h i hi
  | succ d ih=>intro i hi; exact tr _ _ _ (ih i uu0) (h (i+d+1) hi)
 rw [Rx]
 intro i j hi hj hij
 have:=hall (j-i-1) i uu0
 rw [show i+(j-i-1)+1=j by omega,getD_lt l hi,getD_lt l hj] at this
 exact this
theorem ord_iff (l:List α):Ordd f l↔∀ k,k<l.length->F29 (f (l.getD k default))=true/\(0<k->F30 (f (l.getD (k-1) default)) (f (l.getD k default))=true):=by
 constructor
 ·rintro ⟨h1,h2⟩ k hk
  rw [Rx] at h2
  refine ⟨h1 _ (by rw [getD_lt l hk]; exact Sg hk),fun h0=>?_⟩
  rw [getD_lt l hk,getD_lt l (uu0:k-1<l.length)]
  exact h2 _ _ _ _ uu0
 ·intro h
  refine ⟨fun x hx=>?_,pw_adj (fun x y=>F30 (f x) (f y)=true) (fun a b c=>less_trans) l fun k hk=>(h (k+1) hk).2 (Nat.succ_pos k)⟩
  obtain ⟨k,hk,rfl⟩:=List.getElem_of_mem hx
  have:=(h k hk).1
  rw [getD_lt l hk] at this; exact this
end
abbrev TOk (t:List Ue):Prop:=Ordd (fun x=>x) t
theorem tableOk_iff (t:List Ue):F8 t=true↔t.length<=8/\TOk t:=by
 rw [tableOkS_eq,TOk,ord_iff]
 simp only [Qh,Rs,allB_iff]
 refine and_congr uu0 (forall_congr' fun k=>imp_congr_right fun hk=>?_)
 unfold badE
 cases F29 (t.getD k default) with
 | false=>simp
 | true =>
  simp only [Rw,Qj,true_and]
  by_cases h:0<k
  ·simp [h]
  ·simp [h]
abbrev ROk (l:List Uf):Prop:=Ordd Uf.Entry l
theorem heard_iff (e:Ud):F85 e=true↔e.Heard.length<=16/\(0<=e.Keep/\e.Keep<=6)/\ROk e.Heard/\(e.Left=0->∀ r,r∈e.Heard->r.Stale=true)/\anySt e.Heard=decide (e.Keep>0):=by
 rw [heardS_eq,ROk,ord_iff]
 have hm:(e.Left=0->∀ r,r∈e.Heard->r.Stale=true)↔∀ k,k<e.Heard.length->e.Left=0->(e.Heard.getD k default).Stale=true:=by
  constructor
  ·intro h k hk h0
   exact h h0 _ (by rw [getD_lt _ hk]; exact Sg hk)
  ·intro h h0 r hr
   obtain ⟨k,hk,rfl⟩:=List.getElem_of_mem hr
   have:=h k hk h0
   rw [getD_lt _ hk] at this; exact this
 have hb:(∀ k,k<e.Heard.length->badR e k=false)↔(∀ k,k<e.Heard.length->F29 (e.Heard.getD k default).Entry=true/\(0<k->F30 (e.Heard.getD (k-1) default).Entry (e.Heard.getD k default).Entry=true))/\(∀ k,k<e.Heard.length->e.Left=0->(e.Heard.getD k default).Stale=true):=by
  rw [<- forall_and]
  refine forall_congr' fun k=>?_
  rw [<- imp_and]
  refine imp_congr_right fun hk=>?_
  unfold badR
  cases F29 (e.Heard.getD k default).Entry with
  | false=>simp
  | true =>
   cases F30 (e.Heard.getD (k-1) default).Entry (e.Heard.getD k default).Entry <;> cases (e.Heard.getD k default).Stale <;> by_cases h:0<k <;> by_cases h0:e.Left=0 <;> simp [h,h0]
 rw [hm]
 by_cases h16:(e.Heard.length:Int)>16
 ·rw [Qv h16]
  have:¬ e.Heard.length<=16:=by omega
  simp [this]
 ·rw [Qw h16]
  have h16':e.Heard.length<=16:=by omega
  by_cases hk:0<=e.Keep/\e.Keep<=6
  ·rw [Qv hk]
   simp only [Rw,Qj,Qh,allB_iff,h16',hk,true_and,and_self,Tj]
   rw [hb,and_assoc]
  ·rw [Qw hk]
   simp [hk]
structure EOk (e:Ud):Prop where
 nm:0<=e.Name/\e.Name<=65535
 pr:0<=e.Peer/\e.Peer<=65535
 ne:e.Name≠e.Peer
 keys:F10 e.Keys=true
 boot:1<=e.Boot/\e.Boot<=1000
 want:F8 e.Want=true
 turn:0<=e.Turn/\e.Turn<=1000000
 pb:0<=e.PeerBoot/\e.PeerBoot<=999
 pt:0<=e.PeerTurn/\e.PeerTurn<=1000000
 pp:e.PeerBoot=0↔e.PeerTurn=0
 left:0<=e.Left/\e.Left<=4
 lp:e.Left>0->e.PeerBoot≠0
 up:e.Up=true->e.Left≠0
 num:0<=e.Num/\e.Num<=e.Turn
 got:0<=e.Got/\e.Got<=1000000
 und:F34 e.Under=true
 un:e.Under.Kind>0->e.Num≠0
 told:F8 e.Told=true
 app:F8 (F84 e.Told e.Under)=true
 hd:F85 e=true
theorem endOk_iff (e:Ud):F76 e=true↔EOk e:=by
 have hpp:(((e.PeerBoot==0)==(e.PeerTurn==0))=true)↔(e.PeerBoot=0↔e.PeerTurn=0):=by
  rw [Tj,beqD,beqD,Si]
 unfold F76
 simp only [Rr,Bool.cond_false_left,Q9,Qh,Sk,Sa,Bool.not_eq_false',Rs,Tz,hpp]
 have hl:((decide (e.Left>0)&&e.PeerBoot==0)=false)↔(e.Left>0->e.PeerBoot≠0):=by
  by_cases h1:e.Left>0 <;> by_cases h2:e.PeerBoot=0 <;> simp [h1,h2]
 have hu:((e.Up&&e.Left==0)=false)↔(e.Up=true->e.Left≠0):=by
  cases e.Up <;> by_cases h2:e.Left=0 <;> simp [h2]
 have hn:((decide (e.Under.Kind>0)&&e.Num==0)=false)↔(e.Under.Kind>0->e.Num≠0):=by
  by_cases h1:e.Under.Kind>0 <;> by_cases h2:e.Num=0 <;> simp [h1,h2]
 simp only [hl,hu,hn]
 constructor
 ·rintro ⟨⟨⟨⟨⟨⟨a1,a2⟩,a3⟩,a4⟩,a5⟩,a6⟩,⟨⟨⟨b1,b2⟩,b3⟩,b4⟩,⟨⟨c1,c2⟩,c3⟩,⟨⟨⟨⟨⟨d1,d2⟩,d3⟩,d4⟩,d5⟩,d6⟩,x⟩
  exact ⟨a1,a2,a3,a4,a5,a6,b1,b2,b3,b4,c1,c2,c3,d1,d2,d3,d4,d5,d6,x⟩
 ·rintro ⟨a1,a2,a3,a4,a5,a6,b1,b2,b3,b4,c1,c2,c3,d1,d2,d3,d4,d5,d6,x⟩
  exact ⟨⟨⟨⟨⟨⟨a1,a2⟩,a3⟩,a4⟩,a5⟩,a6⟩,⟨⟨⟨b1,b2⟩,b3⟩,b4⟩,⟨⟨c1,c2⟩,c3⟩,⟨⟨⟨⟨⟨d1,d2⟩,d3⟩,d4⟩,d5⟩,d6⟩,x⟩
theorem endKeep (e:Ud) (h:F76 e=true):0<=e.Keep/\e.Keep<=6/\0<=e.Left/\e.Left<=4:=by
 have h:=(endOk_iff e).1 h
 have:=(heard_iff e).1 h.hd
 exact ⟨this.2.1.1,this.2.1.2,h.left⟩
theorem EndFit.small {e:Ud} (h:EndFit e):smallE e:=by
 have h1:=h.told.len
 have h2:=h.want.len
 have h3:=h.heard
 have h4:=h.keys
 unfold smallE; omega
end Go.Proofs.Ytpeklolpimhioaa
