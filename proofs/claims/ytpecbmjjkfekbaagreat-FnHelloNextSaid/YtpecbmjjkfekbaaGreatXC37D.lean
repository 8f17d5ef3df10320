/- A part of the proof of FnHelloNext. Texts put together: VHT1, PHT1, VHT2, PHE, VHT3, PHT3, PHS4, VHT4, VHT5, PHT5, VHT6, PHT6. -/
import Derived.Test.YtpecbmjjkfekbaaGreatRows
import Derived.Test.YtpecbmjjkfekbaaGreatXC37C
namespace Go.Proofs.YtpecbmjjkfekbaaGreat
open Go.RowKit
set_option maxRecDepth 100000
set_option linter.unusedVariables false
set_option linter.unusedSimpArgs false
theorem kc97l (list:List Uf) (e1:Ue) {K_:Prop} (k_:(0<=(F97 list e1)/\(F97 list e1)<=(list.length:Int))->K_):(True)/\(Imp (.l 5 eHelloRoute list) (.l 5 eHelloRoute list))/\(Imps (eHelloEntry e1) (eHelloEntry e1))/\K_:=⟨trivial,Imp.refl _,Imps.refl _,k_ (where_in list e1)⟩
abbrev kh97l (list:List Uf) (e1:Ue):Hint true Tryz.prog:=.call 97 (S97 list e1) (ok97 list e1) none
def F76v (list:List Uf) (e1:Ue):List Uf×Bool :=
 bif (bif (bif decide ((F97 list e1)<(list.length:Int)) then ((list.getD (F97 list e1).toNat default).Entry.Addr==e1.Addr) else false) then ((list.getD (F97 list e1).toNat default).Entry.Len==e1.Len) else false) then ((list.set (F97 list e1).toNat (⟨e1,false⟩:Uf)),true) else ((((list.take (F97 list e1).toNat)++[(⟨e1,false⟩:Uf)])++(list.drop (F97 list e1).toNat)),true)
theorem fi76v (list:List Uf) (e1:Ue) (r:List Uf×Bool) (hF:r=(F76v list e1)):(Imp (.l 5 eHelloRoute r.1) (.l 5 eHelloRoute (F76v list e1).1))/\((.bool r.2:Value)=.bool (F76v list e1).2)/\True:=by cases hF; exact ⟨Imp.refl _,rfl,trivial⟩
def S76v (list:List Uf) (e1:Ue):Spec:=⟨[.r (.c (.l 5 eHelloRoute list)),.r (.g (eHelloEntry e1))],.tu [.ow (.l 5 eHelloRoute (F76v list e1).1),.v (.bool (F76v list e1).2)],list.length<16⟩
theorem ok76v (list:List Uf) (e1:Ue):(S76v list e1).ok Tryz.prog 76 :=
 fnG_ok mixed (fn:=Tryz.f76) (ct:=.seqk [(0,0)] .no (.seq (.reg [(2,kh97l list e1)]) (.seq (.seq .no (.cond (.seq (.reg [(1,kh70a list)]) (.seq (.reg [(5,.dat (.l 5 eHelloRoute (list.set (F97 list e1).toNat (⟨e1,false⟩:Uf))))]) (.seq .no .no))) .no)) (.seq (.seq .no (.condF .no)) (.seq (.reg [(3,kh70a (list.take (F97 list e1).toNat)),(7,.dat (.l 5 eHelloRoute ((list.take (F97 list e1).toNat)++[(⟨e1,false⟩:Uf)]))),(11,.dat (.l 5 eHelloRoute (((list.take (F97 list e1).toNat)++[(⟨e1,false⟩:Uf)])++(list.drop (F97 list e1).toNat))))]) .no))))) Tryz.func76 (fun (hpre0:list.length<16)=>kn list fun _=>kc97l list e1 (fun gv1=>ai (fun k2:(decide ((F97 list e1)<(list.length:Int)))=true=>have _:=Qb k2; (uu1:ib (F97 list e1) list)) (ai (fun k3:(bif decide ((F97 list e1)<(list.length:Int)) then ((list.getD (F97 list e1).toNat default).Entry.Addr==e1.Addr) else false)=true=>have _:=Qb (andT1 k3); have _:=eq_of_beq (andT2 k3); (uu1:ib (F97 list e1) list)) (ifb (bif (bif decide ((F97 list e1)<(list.length:Int)) then ((list.getD (F97 list e1).toNat default).Entry.Addr==e1.Addr) else false) then ((list.getD (F97 list e1).toNat default).Entry.Len==e1.Len) else false) (fun h4=>have _:=Qb (andT1 (andT1 h4)); have _:=eq_of_beq (andT2 (andT1 h4)); have _:=eq_of_beq (andT2 h4); kc70a list uu1 (ai (uu1:ib (F97 list e1) list) (ai (setr 5 eHelloRoute list (F97 list e1).toNat (⟨e1,false⟩:Uf)) (fi76v list e1 ((list.set (F97 list e1).toNat (⟨e1,false⟩:Uf)),true) (condT h4 rfl))))) (fun h4=>have hd5:((list.length:Int)==16)=false:=(by simp only [Tp,ne_eq]; omega); And.intro hd5 (have _:=beqF hd5; ai (uu1:0<=(0:Int)/\(0:Int)<=(F97 list e1)/\(F97 list e1)<=(list.length:Int)) (kc70a (list.take (F97 list e1).toNat) uu1 (ai (appr 5 eHelloRoute (list.take (F97 list e1).toNat) [(⟨e1,false⟩:Uf)] fun _=>rfl) (ai (uu6:((list.take (F97 list e1).toNat)++[(⟨e1,false⟩:Uf)]).length*40<=140737488355328) (ai (uu1:0<=(F97 list e1)/\(F97 list e1)<=(list.length:Int)/\(list.length:Int)<=(list.length:Int)) (ai (AppL.mk eHelloRoute ((list.take (F97 list e1).toNat)++[(⟨e1,false⟩:Uf)]) (list.drop (F97 list e1).toNat) (Imp.refl (.l 5 eHelloRoute ((list.take (F97 list e1).toNat)++[(⟨e1,false⟩:Uf)]))) ir (fun y=>⟨rfl,fun e he=>by simp only [eHelloRoute,Ql,Rh,Sr] at he; rcases he with rfl | rfl | rfl | rfl | rfl <;> exact ⟨_,rfl⟩⟩):AppL (.l 5 eHelloRoute ((list.take (F97 list e1).toNat)++[(⟨e1,false⟩:Uf)])) (.l 5 eHelloRoute (list.drop (F97 list e1).toNat)) 5 (.l 5 eHelloRoute (((list.take (F97 list e1).toNat)++[(⟨e1,false⟩:Uf)])++(list.drop (F97 list e1).toNat)))) (ai (uu6:(((list.take (F97 list e1).toNat)++[(⟨e1,false⟩:Uf)])++(list.drop (F97 list e1).toNat)).length*40<=140737488355328) (fi76v list e1 ((((list.take (F97 list e1).toNat)++[(⟨e1,false⟩:Uf)])++(list.drop (F97 list e1).toNat)),true) (condF h4 rfl)))))))))))))) uu3
theorem kc98l (list:List Uf) {K_:Prop} (k_:(-1<=(F98 list)/\(F98 list)<(list.length:Int))->K_):(True)/\(Imp (.l 5 eHelloRoute list) (.l 5 eHelloRoute list))/\K_:=⟨trivial,Imp.refl _,k_ (stale_in list)⟩
abbrev kh98l (list:List Uf):Hint true Tryz.prog:=.call 98 (S98 list) (ok98 list) none
theorem kc99l (list:List Uf) (k:Int) {K_:Prop} (p0_:list.length<=1000) (p1_:0<=k) (p2_:k<(list.length:Int)) (q0_:list.length<=1000) (q1_:0<=k) (q2_:k<(list.length:Int)) (k_:((F99 list k).length+1=list.length)->K_):(list.length<=1000/\0<=k/\k<(list.length:Int))/\(Imp (.l 5 eHelloRoute list) (.l 5 eHelloRoute list))/\(Imp (.v (vI k)) (.v (vI k)))/\K_:=⟨⟨p0_,p1_,p2_⟩,Imp.refl _,Imp.refl _,k_ (without_len list k q0_ q1_ q2_)⟩
abbrev kh99l (list:List Uf) (k:Int):Hint true Tryz.prog:=.call 99 (S99 list k) (ok99 list k) none
theorem kc76v (list:List Uf) (e1:Ue) {K_:Prop} (p0_:list.length<16) (k_:K_):(list.length<16)/\(Imp (.l 5 eHelloRoute list) (.l 5 eHelloRoute list))/\(Imps (eHelloEntry e1) (eHelloEntry e1))/\K_:=⟨p0_,Imp.refl _,Imps.refl _,k_⟩
abbrev kh76v (list:List Uf) (e1:Ue):Hint true Tryz.prog:=.call 76 (S76v list e1) (ok76v list e1) none
def F76fr (list:List Uf) (e1:Ue):List Uf×Bool :=
 bif (bif (bif decide ((F97 list e1)<(list.length:Int)) then ((list.getD (F97 list e1).toNat default).Entry.Addr==e1.Addr) else false) then ((list.getD (F97 list e1).toNat default).Entry.Len==e1.Len) else false) then ((list.set (F97 list e1).toNat (⟨e1,false⟩:Uf)),true) else (bif ((list.length:Int)==16) then ((F76v (F99 list (F98 list)) e1).1,(F76v (F99 list (F98 list)) e1).2) else ((((list.take (F97 list e1).toNat)++[(⟨e1,false⟩:Uf)])++(list.drop (F97 list e1).toNat)),true))
theorem fi76fr (list:List Uf) (e1:Ue) (r:List Uf×Bool) (hF:r=(F76fr list e1)):(Imp (.l 5 eHelloRoute r.1) (.l 5 eHelloRoute (F76fr list e1).1))/\((.bool r.2:Value)=.bool (F76fr list e1).2)/\True:=by cases hF; exact ⟨Imp.refl _,rfl,trivial⟩
def S76fr (list:List Uf) (e1:Ue):Spec:=⟨[.r (.c (.l 5 eHelloRoute list)),.r (.g (eHelloEntry e1))],.tu [.ow (.l 5 eHelloRoute (F76fr list e1).1),.v (.bool (F76fr list e1).2)],hasAl list e1=false/\list.length<=16⟩
theorem ok76fr (list:List Uf) (e1:Ue):(S76fr list e1).ok Tryz.prog 76 :=
 fnG_ok mixed (fn:=Tryz.f76) (ct:=.seqk [(0,0)] .no (.seq (.reg [(2,kh97l list e1)]) (.seq (.seq .no (.cond (.seq (.reg [(1,kh70a list)]) (.seq (.reg [(5,.dat (.l 5 eHelloRoute (list.set (F97 list e1).toNat (⟨e1,false⟩:Uf))))]) (.seq .no .no))) .no)) (.seq (.seq .no (.cond (.seq (.reg [(1,kh98l list)]) (.seq (.seq .no (.condF .no)) (.seq (.reg [(2,kh99l list (F98 list)),(4,kh76v (F99 list (F98 list)) e1)]) .no))) .no)) (.seq (.reg [(3,kh70a (list.take (F97 list e1).toNat)),(7,.dat (.l 5 eHelloRoute ((list.take (F97 list e1).toNat)++[(⟨e1,false⟩:Uf)]))),(11,.dat (.l 5 eHelloRoute (((list.take (F97 list e1).toNat)++[(⟨e1,false⟩:Uf)])++(list.drop (F97 list e1).toNat))))]) .no))))) Tryz.func76 (fun (hp:hasAl list e1=false/\list.length<=16)=>have hpre0:=hp.1; have hpre1:=hp.2; kn list fun _=>kc97l list e1 (fun gv1=>ai (fun k2:(decide ((F97 list e1)<(list.length:Int)))=true=>have _:=Qb k2; (uu1:ib (F97 list e1) list)) (ai (fun k3:(bif decide ((F97 list e1)<(list.length:Int)) then ((list.getD (F97 list e1).toNat default).Entry.Addr==e1.Addr) else false)=true=>have _:=Qb (andT1 k3); have _:=eq_of_beq (andT2 k3); (uu1:ib (F97 list e1) list)) (ifb (bif (bif decide ((F97 list e1)<(list.length:Int)) then ((list.getD (F97 list e1).toNat default).Entry.Addr==e1.Addr) else false) then ((list.getD (F97 list e1).toNat default).Entry.Len==e1.Len) else false) (fun h4=>have _:=Qb (andT1 (andT1 h4)); have _:=eq_of_beq (andT2 (andT1 h4)); have _:=eq_of_beq (andT2 h4); kc70a list uu1 (ai (uu1:ib (F97 list e1) list) (ai (setr 5 eHelloRoute list (F97 list e1).toNat (⟨e1,false⟩:Uf)) (fi76fr list e1 ((list.set (F97 list e1).toNat (⟨e1,false⟩:Uf)),true) (condT h4 rfl))))) (fun h4=>ife (list.length:Int) 16 (fun h5 _=>kc98l list (fun gv6=>have hd8:(decide ((F98 list)<0))=false:=(by exact hasAl_no (by assumption) (by assumption) (by assumption)); And.intro hd8 (have _:=Rj hd8; kc99l list (F98 list) uu1 uu1 uu1 uu1 uu1 uu1 (fun gv7=>kc76v (F99 list (F98 list)) e1 uu1 (fi76fr list e1 ((F76v (F99 list (F98 list)) e1).1,(F76v (F99 list (F98 list)) e1).2) (condF h4 (condT h5 rfl))))))) (fun h5 _=>ai (uu1:0<=(0:Int)/\(0:Int)<=(F97 list e1)/\(F97 list e1)<=(list.length:Int)) (kc70a (list.take (F97 list e1).toNat) uu1 (ai (appr 5 eHelloRoute (list.take (F97 list e1).toNat) [(⟨e1,false⟩:Uf)] fun _=>rfl) (ai (uu6:((list.take (F97 list e1).toNat)++[(⟨e1,false⟩:Uf)]).length*40<=140737488355328) (ai (uu1:0<=(F97 list e1)/\(F97 list e1)<=(list.length:Int)/\(list.length:Int)<=(list.length:Int)) (ai (AppL.mk eHelloRoute ((list.take (F97 list e1).toNat)++[(⟨e1,false⟩:Uf)]) (list.drop (F97 list e1).toNat) (Imp.refl (.l 5 eHelloRoute ((list.take (F97 list e1).toNat)++[(⟨e1,false⟩:Uf)]))) ir (fun y=>⟨rfl,fun e he=>by simp only [eHelloRoute,Ql,Rh,Sr] at he; rcases he with rfl | rfl | rfl | rfl | rfl <;> exact ⟨_,rfl⟩⟩):AppL (.l 5 eHelloRoute ((list.take (F97 list e1).toNat)++[(⟨e1,false⟩:Uf)])) (.l 5 eHelloRoute (list.drop (F97 list e1).toNat)) 5 (.l 5 eHelloRoute (((list.take (F97 list e1).toNat)++[(⟨e1,false⟩:Uf)])++(list.drop (F97 list e1).toNat)))) (ai (uu6:(((list.take (F97 list e1).toNat)++[(⟨e1,false⟩:Uf)])++(list.drop (F97 list e1).toNat)).length*40<=140737488355328) (fi76fr list e1 ((((list.take (F97 list e1).toNat)++[(⟨e1,false⟩:Uf)])++(list.drop (F97 list e1).toNat)),true) (condF h4 (condF h5 rfl))))))))))))))) uu3
def S76al (list:List Uf) (e1:Ue):SpecI:=⟨[(.c (.l 5 eHelloRoute list)),(.g (eHelloEntry e1))],0,.bool false,rfl,hasAl list e1=true⟩
theorem ok76al (list:List Uf) (e1:Ue):(S76al list e1).ok Tryz.prog 76 :=
 fnI_ok mixed (fn:=Tryz.f76) (ct:=.seqk [(0,0)] .no (.seq (.reg [(2,kh97l list e1)]) (.seq (.seq .no (.condF .no)) (.seq (.seq .no (.condT (.seq (.reg [(1,kh98l list)]) (.seq (.seq .no (.condT (.seq .no .no))) .no)))) .no)))) Tryz.func76 (fun (hpre0:hasAl list e1=true)=>kn list fun _=>kc97l list e1 (fun gv1=>ai (fun k2:(decide ((F97 list e1)<(list.length:Int)))=true=>have _:=Qb k2; (uu0:ib (F97 list e1) list)) (ai (fun k3:(bif decide ((F97 list e1)<(list.length:Int)) then ((list.getD (F97 list e1).toNat default).Entry.Addr==e1.Addr) else false)=true=>have _:=Qb (andT1 k3); have _:=eq_of_beq (andT2 k3); (uu0:ib (F97 list e1) list)) (have hd7:(bif (bif decide ((F97 list e1)<(list.length:Int)) then ((list.getD (F97 list e1).toNat default).Entry.Addr==e1.Addr) else false) then ((list.getD (F97 list e1).toNat default).Entry.Len==e1.Len) else false)=false:=(by exact hasAl_1 (by assumption)); And.intro hd7 (have hd6:((list.length:Int)==16)=true:=(by exact hasAl_2 (by assumption)); And.intro hd6 (have _:=eq_of_beq hd6; kc98l list (fun gv4=>have hd5:(decide ((F98 list)<0))=true:=(by exact hasAl_3 (by assumption)); And.intro hd5 (have _:=Qb hd5; (ai (rfl:(0:Nat)=0) (Qc Value.bool (by rfl:false=false))))))))))) uu3
def F127 (e1:Ud):Ud :=
 bif (e1.Under.Kind==3) then (⟨e1.Name,e1.Peer,e1.Keys,e1.Boot,e1.Want,e1.Turn,e1.PeerBoot,e1.PeerTurn,e1.Up,e1.Left,e1.Num,(⟨0,(⟨0,0,0,0⟩:Ue)⟩:HelloChange),(F32 e1.Told e1.Under),true,e1.Got,e1.Full,e1.Heard,e1.Keep⟩:Ud) else (⟨e1.Name,e1.Peer,e1.Keys,e1.Boot,e1.Want,e1.Turn,e1.PeerBoot,e1.PeerTurn,e1.Up,e1.Left,e1.Num,(⟨0,(⟨0,0,0,0⟩:Ue)⟩:HelloChange),(F32 e1.Told e1.Under),e1.All,e1.Got,e1.Full,e1.Heard,e1.Keep⟩:Ud)
theorem fi127 (e1:Ud) (r:Ud) (hF:r=(F127 e1)):((.int .i64 r.Name:Value)=.int .i64 (F127 e1).Name)/\((.int .i64 r.Peer:Value)=.int .i64 (F127 e1).Peer)/\(Imp (.l 2 eHelloKey r.Keys) (.l 2 eHelloKey (F127 e1).Keys))/\((.int .i64 r.Boot:Value)=.int .i64 (F127 e1).Boot)/\(Imp (.l 4 eHelloEntry r.Want) (.l 4 eHelloEntry (F127 e1).Want))/\((.int .i64 r.Turn:Value)=.int .i64 (F127 e1).Turn)/\((.int .i64 r.PeerBoot:Value)=.int .i64 (F127 e1).PeerBoot)/\((.int .i64 r.PeerTurn:Value)=.int .i64 (F127 e1).PeerTurn)/\((.bool r.Up:Value)=.bool (F127 e1).Up)/\((.int .i64 r.Left:Value)=.int .i64 (F127 e1).Left)/\((.int .i64 r.Num:Value)=.int .i64 (F127 e1).Num)/\((.int .i64 r.Under.Kind:Value)=.int .i64 (F127 e1).Under.Kind)/\((.int .i64 r.Under.Entry.Addr:Value)=.int .i64 (F127 e1).Under.Entry.Addr)/\((.int .i64 r.Under.Entry.Len:Value)=.int .i64 (F127 e1).Under.Entry.Len)/\((.int .i64 r.Under.Entry.Cost:Value)=.int .i64 (F127 e1).Under.Entry.Cost)/\((.int .i64 r.Under.Entry.Label:Value)=.int .i64 (F127 e1).Under.Entry.Label)/\(Imp (.l 4 eHelloEntry r.Told) (.l 4 eHelloEntry (F127 e1).Told))/\((.bool r.All:Value)=.bool (F127 e1).All)/\((.int .i64 r.Got:Value)=.int .i64 (F127 e1).Got)/\((.bool r.Full:Value)=.bool (F127 e1).Full)/\(Imp (.l 5 eHelloRoute r.Heard) (.l 5 eHelloRoute (F127 e1).Heard))/\((.int .i64 r.Keep:Value)=.int .i64 (F127 e1).Keep)/\True:=by cases hF; exact ⟨rfl,rfl,Imp.refl _,rfl,Imp.refl _,rfl,rfl,rfl,rfl,rfl,rfl,rfl,rfl,rfl,rfl,rfl,Imp.refl _,rfl,rfl,rfl,Imp.refl _,rfl,trivial⟩
def S127 (e1:Ud):Spec:=⟨[.ot (eHelloEnd e1)],.ag [.v (vI (F127 e1).Name),.v (vI (F127 e1).Peer),.ow (.l 2 eHelloKey (F127 e1).Keys),.v (vI (F127 e1).Boot),.ow (.l 4 eHelloEntry (F127 e1).Want),.v (vI (F127 e1).Turn),.v (vI (F127 e1).PeerBoot),.v (vI (F127 e1).PeerTurn),.v (.bool (F127 e1).Up),.v (vI (F127 e1).Left),.v (vI (F127 e1).Num),.v (vI (F127 e1).Under.Kind),.v (vI (F127 e1).Under.Entry.Addr),.v (vI (F127 e1).Under.Entry.Len),.v (vI (F127 e1).Under.Entry.Cost),.v (vI (F127 e1).Under.Entry.Label),.ow (.l 4 eHelloEntry (F127 e1).Told),.v (.bool (F127 e1).All),.v (vI (F127 e1).Got),.v (.bool (F127 e1).Full),.ow (.l 5 eHelloRoute (F127 e1).Heard),.v (vI (F127 e1).Keep)],smallE e1⟩
theorem ok127 (e1:Ud):(S127 e1).ok Tryz.prog 127 :=
 fnG_ok mixed (fn:=Tryz.f127) (ct:=.seq .no (.seq (.reg [(4,kh32 e1.Told e1.Under)]) (.seq (.seq .no (.cond .no .no)) (.seq .no (.seq .no .no))))) Tryz.func127 (fun (hpre0:smallE e1)=>kc32 e1.Told e1.Under uu16 (ife e1.Under.Kind 3 (fun h1 _=>fi127 e1 (⟨e1.Name,e1.Peer,e1.Keys,e1.Boot,e1.Want,e1.Turn,e1.PeerBoot,e1.PeerTurn,e1.Up,e1.Left,e1.Num,(⟨0,(⟨0,0,0,0⟩:Ue)⟩:HelloChange),(F32 e1.Told e1.Under),true,e1.Got,e1.Full,e1.Heard,e1.Keep⟩:Ud) (condT h1 rfl)) (fun h1 _=>fi127 e1 (⟨e1.Name,e1.Peer,e1.Keys,e1.Boot,e1.Want,e1.Turn,e1.PeerBoot,e1.PeerTurn,e1.Up,e1.Left,e1.Num,(⟨0,(⟨0,0,0,0⟩:Ue)⟩:HelloChange),(F32 e1.Told e1.Under),e1.All,e1.Got,e1.Full,e1.Heard,e1.Keep⟩:Ud) (condF h1 rfl)))) uu3
def F126_s0 (list:List Uf):(List Uf×Int)->Lp (List Uf×Int) (List Uf):=fun (out,i40) =>
 bif (decide (i40<(list.length:Int))) then (bif (!(list.getD i40.toNat default).Stale) then (.next ((out++[(list.getD i40.toNat default)]),(i40+1))) else (.next (out,(i40+1)))) else (.done (out,i40))
def F126 (list:List Uf):List Uf :=
 (runL (F126_s0 list) (((list.length:Int)-0).toNat+1) (([]:List Uf),0)).fin (fun r=>r) (fun (out,i40)=>out)
abbrev lN126_0 (list:List Uf):Nat×(List Uf×Int):=((((list.length:Int)-0).toNat+1),(([]:List Uf),0))
abbrev lI126_0 (list:List Uf) (m39:Nat) (out:List Uf) (i40:Int):Prop:=Int.toNat ((list.length:Int)-i40)<m39/\(out.length:Int)<=i40/\i40<=(list.length:Int)/\(0:Int)<=i40
abbrev lX126_0 (list:List Uf):Lp (List Uf×Int) (List Uf):=LpX (F126_s0 list) (lN126_0 list)
abbrev lJ126_0 (list:List Uf) (i:Nat×(List Uf×Int)):Prop:=LpJ (F126_s0 list) (lN126_0 list) i (lI126_0 list i.1 i.2.1 i.2.2)
abbrev lH126_0 (list:List Uf) (i:Nat×(List Uf×Int)) (m39:Nat) (out:List Uf) (i40:Int):Prop:=LpH (F126_s0 list) (lN126_0 list) i m39 (out,i40) (lI126_0 list (m39+1) out i40)
abbrev lE126_0 (list:List Uf) (out:List Uf) (i40:Int) (out_:List Uf) (i40_:Int) (K39:Prop):Prop:=((.int .i64 i40:Value)=.int .i64 i40_)/\(Im (.l 5 eHelloRoute list))/\(Imp (.l 5 eHelloRoute out) (.l 5 eHelloRoute out_))/\K39
theorem un126_0 (list:List Uf) (i:Nat×(List Uf×Int)) (h:lJ126_0 list i):lH126_0 list i (i.1-1) i.2.1 i.2.2:=⟨hd1 h.1 h.2.1,hd3 h.2.1,hd2 h.2.1,h.2.2⟩
theorem bk126_0 (list:List Uf) (i:Nat×(List Uf×Int)) (m39:Nat) (out:List Uf) (i40:Int) (hl:m39<i.1) (e:runL (F126_s0 list) m39 (out,i40)=lX126_0 list) (h:lI126_0 list m39 out i40):∃ j:Nat×(List Uf×Int),lE126_0 list out i40 j.2.1 j.2.2 (lJ126_0 list j/\j.1<i.1):=⟨(m39,(out,i40)),rfl,Imp.refl _,Imp.refl _,⟨e,h⟩,hl⟩
theorem en126_0 (list:List Uf) (h:(([]:List Uf).length:Int)<=0/\0<=(list.length:Int)/\(0:Int)<=0):lE126_0 list ([]:List Uf) 0 ([]:List Uf) 0 (lJ126_0 list (lN126_0 list)):=⟨rfl,Imp.refl _,Imp.refl _,rfl,Qq _,h⟩
theorem fi126 (list:List Uf) (r:List Uf) (hF:r=(F126 list)):(Imp (.l 5 eHelloRoute r) (.l 5 eHelloRoute (F126 list)))/\True:=by cases hF; exact ⟨Imp.refl _,trivial⟩
def S126 (list:List Uf):Spec:=⟨[.r (.c (.l 5 eHelloRoute list))],.ow (.l 5 eHelloRoute (F126 list)),list.length<=1000000000⟩
theorem ok126 (list:List Uf):(S126 list).ok Tryz.prog 126 :=
 fnG_ok mixed (fn:=Tryz.f126) (ct:=.seqk [(0,0)] .no (.seq (.reg [(0,.dat (.l 5 eHelloRoute ([]:List Uf)))]) (.seq (.seqk [(0,0),(3,0)] .no (.blk (.loop (ι:=Nat×(List Uf×Int)) (fun i=>(fun (out:List Uf) (i40:Int)=>(⟨[(0,some (.h 0 0)),(3,some (.h 1 0)),(4,some (.v (vI i40)))],[(0,some (.shr none (.l 5 eHelloRoute list))),(1,some (.own 1 (.l 5 eHelloRoute out)))],2⟩:St)) i.2.1 i.2.2) (lJ126_0 list) (fun i=>i.1) (lN126_0 list) (fun i=>(fun (out:List Uf) (i40:Int)=>(.seq (.seq .no (.cond .no .no)) (.seq (.blk (.seq .no (.cond (.reg [(6,.dat (.l 5 eHelloRoute (out++[(list.getD i40.toNat default)])))]) .no))) (.reg [(1,.bnd)])))) i.2.1 i.2.2)))) (.seq .no .no)))) Tryz.func126 (fun (hpre0:list.length<=1000000000)=>kn list fun _=>ai (bokr 5 eHelloRoute ([]:List Uf) fun _=>rfl) (kn list fun _=>kn ([]:List Uf) fun _=>ai (en126_0 list uu18) (fun (i0:Nat×(List Uf×Int)) (hi0:lJ126_0 list i0)=>(fun (m0:Nat) (out:List Uf) (i40:Int) (hh0:lH126_0 list i0 m0 out i40)=>have hI0:=hh0.1; have hl0:=hh0.2.1; have _:=hh0.2.2.1; have _:=hh0.2.2.2; ifd (i40<(list.length:Int)) (fun h2 _=>ai (uu1:ib i40 list) (ifb (!(list.getD i40.toNat default).Stale) (fun h3=>have _:=(notET h3); ai (uu1:ib i40 list) (ai (appr 5 eHelloRoute out [(list.getD i40.toNat default)] fun _=>rfl) (ai (uu6:(out++[(list.getD i40.toNat default)]).length*40<=140737488355328) (ai (iok (i40+1) uu1) (bk126_0 list i0 m0 (out++[(list.getD i40.toNat default)]) (i40+1) hl0 (runL_next hI0 (condT h2 (condT h3 rfl))) uu28))))) (fun h3=>have _:=(notEF h3); ai (iok (i40+1) uu1) (bk126_0 list i0 m0 out (i40+1) hl0 (runL_next hI0 (condT h2 (condF h3 rfl))) uu28)))) (fun h2 _=>have hD0_4:lX126_0 list=Lp.done (out,i40):=runL_done hI0 (condF h2 rfl); fi126 list out (finD hD0_4 rfl))) (i0.1-1) i0.2.1 i0.2.2 (un126_0 list i0 hi0)))) uu3
theorem put_len (t:List Ue) (e:Ue):(F62 t e).length<=t.length+1:=by
 rw [put_eq]
 cases h:fndE t e with
 | true=>rw [Qd,List.length_set]; omega
 | false =>
  have:=posE_le t e
  rw [Qi]
  simp only [Qr,Q0,Rb,Q2,Tj]
  omega
theorem drop_len (t:List Ue) (e:Ue):(F63 t e).length<=t.length:=by
 unfold F63
 have:=at_in t e
 cases h:decide (F84 t e<0) with
 | true=>exact Qn _
 | false =>
  have h:=Rj h
  simp only [Qi,Qr,Q0,Rb]
  omega
theorem apply_len (t:List Ue) (c:HelloChange):(F32 t c).length<=t.length+1:=by
 unfold F32
 cases (c.Kind==1)
 ·cases (c.Kind==2)
  ·exact Rg _
  ·exact Nat.le_succ_of_le (drop_len _ _)
 ·exact put_len _ _
theorem answered_len (e:Ud):(F127 e).Heard=e.Heard/\(F127 e).Keys=e.Keys/\(F127 e).Want=e.Want/\(F127 e).Told.length<=e.Told.length+1:=by
 unfold F127
 cases (e.Under.Kind==3) <;> exact ⟨rfl,rfl,rfl,apply_len _ _⟩
theorem fresh_loop {ρ:Type} (p:Uf->Bool) (a:List Uf) (step:List Uf×Int->Lp (List Uf×Int) ρ)
  (hs:∀ (k:Nat) xs,k<a.length->step (xs,(k:Int))=.next (xs++(if p (a.getD k default) then [a.getD k default] else []),(k:Int)+1)) (he:∀ xs,step (xs,(a.length:Int))=.done (xs,(a.length:Int))) :
  runL step (((a.length:Int)-0).toNat+1) ([],0)=.done (a.filter p,(a.length:Int)):=by
 have h:=runL_rule (step:=step) (fun (k:Nat) (s:List Uf)=>(s,(k:Int))) a.length (fun k s=>s=(a.take k).filter p) (fun _=>False)
  (fun k s hk hI=>.inl ⟨_,by rw [hs k s hk]; rfl,by rw [hI,filter_take_next p a hk]⟩)
  (fun s _=>he s) a.length 0 [] uu0 rfl (Int.toNat ((a.length:Int)-0)+1) uu0
 rcases h with ⟨s,h,hI⟩ | ⟨_,_,h⟩
 ·have h':runL step (Int.toNat ((a.length:Int)-0)+1) ([],0)=_:=h
  rw [h',hI,List.take_length]
 ·exact h.elim
theorem freshEq (list:List Uf):F126 list=list.filter (fun r=>!r.Stale):=by
 unfold F126
 rw [fresh_loop (fun r=>!r.Stale) list _ (fun k xs hk=>by
  simp only [F126_s0,ltD hk,Qd,nn]
  cases (list.getD k default).Stale <;> simp) (fun xs=>by simp [F126_s0])]
 rfl
theorem fresh_len (list:List Uf) (_:list.length<=1000000000):(F126 list).length<=list.length:=by
 rw [freshEq]; exact List.length_filter_le _ _
def hasV (l:List Uf) (e:Ue):List Uf :=
 bif (bif decide (posR l e<l.length) then sameP (l.getD (posR l e) default).Entry e else false) then l.set (posR l e) ⟨e,false⟩ else l.take (posR l e)++⟨e,false⟩ :: l.drop (posR l e)
theorem hasV_eq (l:List Uf) (e:Ue):F76v l e=(hasV l e,true):=by
 unfold F76v hasV sameP
 rw [where_eq,show Int.toNat ((posR l e:Nat):Int)=posR l e from rfl]
 have hd:decide (((posR l e:Nat):Int)<(l.length:Int))=decide (posR l e<l.length):=Rx.2 uu0
 rw [hd]
 have hl:l.take (posR l e)++[(⟨e,false⟩:Uf)]++l.drop (posR l e)=l.take (posR l e)++⟨e,false⟩ :: l.drop (posR l e):=by simp
 rw [hl]
 cases decide (posR l e<l.length) <;> cases ((l.getD (posR l e) default).Entry.Addr==e.Addr) <;> cases ((l.getD (posR l e) default).Entry.Len==e.Len) <;> rfl
theorem hasV_len (l:List Uf) (e:Ue):(hasV l e).length<=l.length+1:=by
 unfold hasV
 have:=posR_le l e
 cases (bif decide (posR l e<l.length) then sameP (l.getD (posR l e) default).Entry e else false)
 ·simp only [Qi,Qr,Q0,Rb,Q2]
  omega
 ·rw [Qd,List.length_set]; omega
theorem cond1_eq (l:List Uf) (e:Ue):fndR l e=(bif decide (posR l e<l.length) then sameP (l.getD (posR l e) default).Entry e else false):=by
 unfold fndR
 rw [where_eq,show Int.toNat ((posR l e:Nat):Int)=posR l e from rfl]
 have hd:decide (((posR l e:Nat):Int)<(l.length:Int))=decide (posR l e<l.length):=Rx.2 uu0
 rw [hd]
 unfold sameP
 cases decide (posR l e<l.length) <;> cases ((l.getD (posR l e) default).Entry.Addr==e.Addr) <;> rfl
theorem has_frEq (l:List Uf) (e:Ue):F76fr l e =
  bif fndR l e then (hasV l e,true) else bif ((l.length:Int)==16) then (hasV (F99 l (F98 l)) e,true) else (hasV l e,true):=by
 have h1:=hasV_eq l e
 unfold F76v at h1
 unfold F76fr
 rw [hasV_eq]
 change (bif fndR l e then _ else _)=_ at h1
 change (bif fndR l e then _ else _)=_
 cases hq:fndR l e with
 | true=>rw [hq,Qd] at h1; rw [Qd,Qd]; exact h1
 | false =>
  rw [hq,Qi] at h1
  cases ((l.length:Int)==16) with
  | false=>exact h1
  | true=>rfl
def heardL (e:Ud) (w:HelloWord):List Uf:=bif decide (w.Boot>e.PeerBoot) then e.Heard.map staleR else e.Heard
def lisAl (e:Ud) (w:HelloWord):Bool:=toldAl (heardL e w) w.Change
theorem stale_Heard (e:Ud):(F92 e).Heard=e.Heard.map staleR:=by
 unfold F92
 rw [lifeS_loop]
 simp only [Lp.fin]
 cases (bif decide (((e.Heard.map staleR).length:Int)>0) then (e.Keep==0) else false) <;> rfl
theorem heardL_1 {e:Ud} {w:HelloWord} (h:decide (w.Boot>e.PeerBoot)=true):(F71 e).Heard=heardL e w:=by
 unfold heardL F71
 rw [h,stale_Heard]; rfl
theorem heardL_2 {e:Ud} {w:HelloWord} (h:decide (w.Boot>e.PeerBoot)=false):e.Heard=heardL e w:=by
 unfold heardL; rw [h]; rfl
theorem heardL_len {e:Ud} {w:HelloWord} (h:EndFit e):(heardL e w).length<=16:=by
 unfold heardL
 cases decide (w.Boot>e.PeerBoot)
 ·exact h.heard
 ·rw [Qd,Si]; exact h.heard
def LJ (n:Nat) (e:Ud) (w:HelloWord) (k:List HelloKey) (a t:List Ue) (h:List Uf):Prop:=k.length<=3/\a.length<=8/\t.length<=n/\h=heardL e w
theorem anew_facts (e:Ud):(F71 e).Keys=e.Keys/\(F71 e).Want=e.Want/\(F71 e).Told=[]:=by
 unfold F71
 have h:=stale_facts (⟨e.Name,e.Peer,e.Keys,e.Boot,e.Want,e.Turn,e.PeerBoot,e.PeerTurn,false,e.Left,0,⟨0,⟨0,0,0,0⟩⟩,[],false,0,false,e.Heard,e.Keep⟩:Ud)
 exact ⟨h.1,h.2.1,h.2.2.1⟩
theorem lj_1 {e:Ud} {w:HelloWord} (hf:EndFit e) (h:decide (w.Boot>e.PeerBoot)=true):LJ 8 e w (F71 e).Keys (F71 e).Want (F71 e).Told (F71 e).Heard:=by
 obtain ⟨h1,h2,h3⟩:=anew_facts e
 unfold LJ
 rw [h1,h2,h3]
 exact ⟨hf.keys,hf.want.len,Rm _,heardL_1 h⟩
theorem lj_2 {e:Ud} {w:HelloWord} (hf:EndFit e) (h:decide (w.Boot>e.PeerBoot)=false):LJ 8 e w e.Keys e.Want e.Told e.Heard:=⟨hf.keys,hf.want.len,hf.told.len,heardL_2 h⟩
theorem lj_ans {e:Ud} {w:HelloWord} {x:Ud} (h:LJ 8 e w x.Keys x.Want x.Told x.Heard):LJ 9 e w (F127 x).Keys (F127 x).Want (F127 x).Told (F127 x).Heard:=by
 obtain ⟨a1,a2,a3,a4⟩:=answered_len x
 obtain ⟨h1,h2,h3,h4⟩:=h
 exact ⟨a2 ▸ h1,a3 ▸ h2,by omega,a1.trans h4⟩
theorem lj_w {e:Ud} {w:HelloWord} {k a t h} (x:LJ 8 e w k a t h):LJ 9 e w k a t h:=⟨x.1,x.2.1,Nat.le_succ_of_le x.2.2.1,x.2.2.2⟩
theorem lj_small {e:Ud} {w:HelloWord} {x:Ud} (hf:EndFit e) (h:LJ 8 e w x.Keys x.Want x.Told x.Heard):smallE x:=by
 obtain ⟨h1,h2,h3,h4⟩:=h
 have h5:x.Heard.length<=16:=by rw [h4]; exact heardL_len hf
 unfold smallE
 omega
theorem lj_len {e:Ud} {w:HelloWord} {k a t h} (hf:EndFit e) (x:LJ 9 e w k a t h):h.length<=16:=by rw [x.2.2.2]; exact heardL_len hf
theorem lj_al {e:Ud} {w:HelloWord} {k a t h} {b:Bool} (x:LJ 9 e w k a t h) (hb:lisAl e w=b):toldAl h w.Change=b:=by rw [x.2.2.2]; exact hb
theorem kc76fr (list:List Uf) (e1:Ue) {K_:Prop} (p0_:hasAl list e1=false) (p1_:list.length<=16) (k_:K_):(hasAl list e1=false/\list.length<=16)/\(Imp (.l 5 eHelloRoute list) (.l 5 eHelloRoute list))/\(Imps (eHelloEntry e1) (eHelloEntry e1))/\K_:=⟨⟨p0_,p1_⟩,Imp.refl _,Imps.refl _,k_⟩
abbrev kh76fr (list:List Uf) (e1:Ue):Hint true Tryz.prog:=.call 76 (S76fr list e1) (ok76fr list e1) none
theorem kc126l (list:List Uf) {K_:Prop} (p0_:list.length<=1000000000) (q0_:list.length<=1000000000) (k_:((F126 list).length<=list.length)->K_):(list.length<=1000000000)/\(Imp (.l 5 eHelloRoute list) (.l 5 eHelloRoute list))/\K_:=⟨p0_,Imp.refl _,k_ (fresh_len list q0_)⟩
abbrev kh126l (list:List Uf):Hint true Tryz.prog:=.call 126 (S126 list) (ok126 list) none
def F128fr (list:List Uf) (c:HelloChange):List Uf×Bool :=
 bif (c.Kind==1) then ((F76fr list c.Entry).1,(F76fr list c.Entry).2) else (bif (c.Kind==2) then ((F99 list (F97 list c.Entry)),true) else ((F126 list),true))
theorem fi128fr (list:List Uf) (c:HelloChange) (r:List Uf×Bool) (hF:r=(F128fr list c)):(Imp (.l 5 eHelloRoute r.1) (.l 5 eHelloRoute (F128fr list c).1))/\((.bool r.2:Value)=.bool (F128fr list c).2)/\True:=by cases hF; exact ⟨Imp.refl _,rfl,trivial⟩
def S128fr (list:List Uf) (c:HelloChange):Spec:=⟨[.r (.c (.l 5 eHelloRoute list)),.r (.g (eHelloChange c))],.tu [.ow (.l 5 eHelloRoute (F128fr list c).1),.v (.bool (F128fr list c).2)],toldAl list c=false/\list.length<=16⟩
theorem ok128fr (list:List Uf) (c:HelloChange):(S128fr list c).ok Tryz.prog 128 :=
 fnG_ok mixed (fn:=Tryz.f128) (ct:=.seqk [(0,0)] .no (.seq (.seq .no (.blk (.seq .no (.cond (.seq (.reg [(3,kh76fr list c.Entry)]) .no) (.seq .no (.cond (.seq (.reg [(3,kh97l list c.Entry)]) (.seq (.seq .no (.condT (.seq (.reg [(2,kh99l list (F97 list c.Entry))]) .no))) .no)) .no)))))) (.seq (.reg [(1,kh126l list)]) .no))) Tryz.func128 (fun (hp:toldAl list c=false/\list.length<=16)=>have hpre0:=hp.1; have hpre1:=hp.2; kn list fun _=>ife c.Kind 1 (fun h1 _=>kc76fr list c.Entry (by first | exact toldAl_1 (by assumption) (by assumption) | omega) (by first | exact toldAl_1 (by assumption) (by assumption) | omega) (fi128fr list c ((F76fr list c.Entry).1,(F76fr list c.Entry).2) (condT h1 rfl))) (fun h1 _=>ife c.Kind 2 (fun h2 _=>kc97l list c.Entry (fun gv3=>ai (fun k4:(decide ((F97 list c.Entry)<(list.length:Int)))=true=>have _:=Qb k4; (uu0:ib (F97 list c.Entry) list)) (ai (fun k5:(bif decide ((F97 list c.Entry)<(list.length:Int)) then ((list.getD (F97 list c.Entry).toNat default).Entry.Addr==c.Entry.Addr) else false)=true=>have _:=Qb (andT1 k5); have _:=eq_of_beq (andT2 k5); (uu0:ib (F97 list c.Entry) list)) (have hd7:(bif (bif decide ((F97 list c.Entry)<(list.length:Int)) then ((list.getD (F97 list c.Entry).toNat default).Entry.Addr==c.Entry.Addr) else false) then ((list.getD (F97 list c.Entry).toNat default).Entry.Len==c.Entry.Len) else false)=true:=(by exact toldAl_2 (by assumption) (by assumption) (by assumption)); And.intro hd7 (have _:=Qb (andT1 (andT1 hd7)); have _:=eq_of_beq (andT2 (andT1 hd7)); have _:=eq_of_beq (andT2 hd7); kc99l list (F97 list c.Entry) uu0 uu0 uu0 uu0 uu0 uu0 (fun gv6=>fi128fr list c ((F99 list (F97 list c.Entry)),true) (condF h1 (condT h2 rfl)))))))) (fun h2 _=>kc126l list uu0 uu0 (fun gv8=>fi128fr list c ((F126 list),true) (condF h1 (condF h2 rfl)))))) uu3
def S128al (list:List Uf) (c:HelloChange):SpecI:=⟨[(.c (.l 5 eHelloRoute list)),(.g (eHelloChange c))],0,.bool (c.Kind==2),rfl,toldAl list c=true⟩
theorem ok128al (list:List Uf) (c:HelloChange):(S128al list c).ok Tryz.prog 128 :=
 fnI_ok mixed (fn:=Tryz.f128) (ct:=.seqk [(0,0)] .no (.seq (.seq .no (.blk (.seq .no (.cond (.seq (.reg [(3,.ci 76 (S76al list c.Entry) (ok76al list c.Entry))]) .no) (.seq .no (.condT (.seq (.reg [(3,kh97l list c.Entry)]) (.seq (.seq .no (.condF .no)) (.seq .no .no))))))))) .no)) Tryz.func128 (fun (hpre0:toldAl list c=true)=>kn list fun _=>ife c.Kind 1 (fun h1 _=>ai (by exact toldAl_1 (by assumption) (by assumption):hasAl list c.Entry=true) (ai (Imp.refl (.l 5 eHelloRoute list)) (ai (Imps.refl (eHelloEntry c.Entry)) (ai (rfl:(0:Nat)=0) (Qc Value.bool (uu39:false=(c.Kind==2))))))) (fun h1 _=>have hd6:(c.Kind==2)=true:=(by exact toldAl_4 (by assumption) (by assumption)); And.intro hd6 (have _:=eq_of_beq hd6; kc97l list c.Entry (fun gv2=>ai (fun k3:(decide ((F97 list c.Entry)<(list.length:Int)))=true=>have _:=Qb k3; (uu0:ib (F97 list c.Entry) list)) (ai (fun k4:(bif decide ((F97 list c.Entry)<(list.length:Int)) then ((list.getD (F97 list c.Entry).toNat default).Entry.Addr==c.Entry.Addr) else false)=true=>have _:=Qb (andT1 k4); have _:=eq_of_beq (andT2 k4); (uu0:ib (F97 list c.Entry) list)) (have hd5:(bif (bif decide ((F97 list c.Entry)<(list.length:Int)) then ((list.getD (F97 list c.Entry).toNat default).Entry.Addr==c.Entry.Addr) else false) then ((list.getD (F97 list c.Entry).toNat default).Entry.Len==c.Entry.Len) else false)=false:=(by exact toldAl_3 (by assumption) (by assumption)); And.intro hd5 (ai (rfl:(0:Nat)=0) (Qc Value.bool (uu39:true=(c.Kind==2)))))))))) uu3
theorem less_iff {x y:Ue}:F60 x y=true↔x.Addr<y.Addr\/(x.Addr=y.Addr/\x.Len<y.Len):=by
 unfold F60
 by_cases h1:x.Addr<y.Addr
 ·simp [h1]
 ·simp only [Qt h1,Qi,h1,false_or]
  by_cases h2:x.Addr=y.Addr
  ·simp [h2]
  ·simp [h2]
theorem less_tri {x y:Ue} (h1:F60 x y=false) (h2:sameP x y=false):F60 y x=true:=by
 rw [less_iff]
 have h1:¬ (x.Addr<y.Addr\/(x.Addr=y.Addr/\x.Len<y.Len)):=fun h=>by rw [less_iff.2 h] at h1; cases h1
 have h2:¬ (x.Addr=y.Addr/\x.Len=y.Len):=fun h=>by rw [same_iff.2 h] at h2; cases h2
 omega
section
variable {α:Type} [Inhabited α] {f:α->Ue}
def Ordd (f:α->Ue) (l:List α):Prop:=(∀ x,x∈l->F59 (f x)=true)/\l.Pairwise (fun x y=>F60 (f x) (f y)=true)
omit [Inhabited α] in
theorem ord_nil:Ordd f []:=⟨fun _ h=>(by cases h),.nil⟩
omit [Inhabited α] in
theorem ord_sub {l l':List α} (h:Ordd f l) (hs:l'.Sublist l):Ordd f l':=⟨fun x hx=>h.1 x (hs.subset hx),h.2.sublist hs⟩
omit [Inhabited α] in
theorem ord_ins {A B:List α} {x:α} (h:Ordd f (A++B)) (hx:F59 (f x)=true) (h1:∀ a,a∈A->F60 (f a) (f x)=true) (h2:∀ b,b∈B->F60 (f x) (f b)=true):Ordd f (A++x :: B):=by
 obtain ⟨ho,hp⟩:=h
 rw [List.pairwise_append] at hp
 refine ⟨fun y hy=>?_,?_⟩
 ·rcases Qx.1 hy with hy | hy
  ·exact ho y (Qw _ hy)
  ·rcases Ql.1 hy with rfl | hy
   ·exact hx
   ·exact ho y (Qv _ hy)
 ·rw [List.pairwise_append,Sw]
  refine ⟨hp.1,⟨h2,hp.2.1⟩,fun a ha b hb=>?_⟩
  rcases Ql.1 hb with rfl | hb
  ·exact h1 a ha
  ·exact hp.2.2 a ha b hb
theorem less_sameL {x y z:Ue} (h:sameP x y=true):F60 x z=F60 y z:=by
 obtain ⟨h1,h2⟩:=same_iff.1 h
 unfold F60
 rw [h1,h2]
omit [Inhabited α] in
theorem ord_set {A B:List α} {x y:α} (h:Ordd f (A++y :: B)) (hx:F59 (f x)=true) (hs:sameP (f y) (f x)=true):Ordd f (A++x :: B):=by
 have hp:=h.2
 rw [List.pairwise_append,Sw] at hp
 refine ord_ins (ord_sub h (by simp)) hx (fun a ha=>?_) (fun b hb=>?_)
 ·rw [<- same_less hs]; exact hp.2.2 a ha y Qg
 ·rw [<- less_sameL hs]; exact hp.2.1.1 b hb
def posG (f:α->Ue) (l:List α) (e:Ue):Nat:=(first (fun k=>!(F60 (f (l.getD k default)) e)) l.length).getD l.length
theorem posG_le (l:List α) (e:Ue):posG f l e<=l.length:=by
 unfold posG
 cases h:first (fun k=>!(F60 (f (l.getD k default)) e)) l.length with
 | none=>exact Qn _
 | some k=>have:=(first_some.1 h).1; show k<=_; omega
theorem posG_below {l:List α} {e:Ue} {k:Nat} (hk:k<posG f l e):F60 (f (l.getD k default)) e=true:=by
 unfold posG at hk
 cases h:first (fun k=>!(F60 (f (l.getD k default)) e)) l.length with
 | none=>rw [h] at hk; have:=first_none.1 h k hk; simpa using this
 | some j=>rw [h] at hk; have:=(first_some.1 h).2.2 k hk; simpa using this
theorem posG_at {l:List α} {e:Ue} (hk:posG f l e<l.length):F60 (f (l.getD (posG f l e) default)) e=false:=by
 unfold posG at hk ⊢
 cases h:first (fun k=>!(F60 (f (l.getD k default)) e)) l.length with
 | none=>rw [h] at hk; exact absurd hk (Nat.lt_irrefl _)
 | some j=>have:=(first_some.1 h).2.1; simpa using this
theorem drop_at {l:List α} {k:Nat} (hk:k<l.length):l.drop k=l.getD k default :: l.drop (k+1):=by rw [getD_lt l hk]; exact Th hk
theorem split_at {l:List α} {k:Nat} (hk:k<l.length):l=l.take k++l.getD k default :: l.drop (k+1):=by rw [<- drop_at hk,Q1]
omit [Inhabited α] in
theorem set_split {l:List α} {k:Nat} (hk:k<l.length) (x:α):l.set k x=l.take k++x :: l.drop (k+1):=by
 apply List.ext_getElem?
 intro i
 rw [List.getElem?_set,List.getElem?_append]
 have ht:(l.take k).length=k:=by rw [Q0]; omega
 rw [ht]
 by_cases h1:k=i
 ·subst h1; simp [hk]
 ·by_cases h2:i<k
  ·rw [if_neg h1,if_pos h2,List.getElem?_take_of_lt h2]
  ·obtain ⟨j,rfl⟩:∃ j,i=k+1+j:=⟨i-k-1,by omega⟩
   rw [if_neg h1,if_neg h2,show k+1+j-k=j+1 by omega,List.getElem?_cons_succ,Rw]
def putG (f:α->Ue) (l:List α) (e:Ue) (x:α):List α :=
 bif (bif decide (posG f l e<l.length) then sameP (f (l.getD (posG f l e) default)) e else false) then l.set (posG f l e) x else l.take (posG f l e)++x :: l.drop (posG f l e)
theorem mem_take {l:List α} {k:Nat} {a:α} (h:a∈l.take k):∃ j,j<k/\j<l.length/\a=l.getD j default:=by
 obtain ⟨j,hj,rfl⟩:=List.getElem_of_mem h
 rw [Q0] at hj
 refine ⟨j,by omega,by omega,?_⟩
 rw [getD_lt l uu0,List.getElem_take]
theorem ord_put {l:List α} {e:Ue} {x:α} (h:Ordd f l) (he:F59 e=true) (hx:f x=e):Ordd f (putG f l e x):=by
 unfold putG
 have hle:=posG_le (f:=f) l e
 cases hc:(bif decide (posG f l e<l.length) then sameP (f (l.getD (posG f l e) default)) e else false) with
 | true =>
  have hlt:posG f l e<l.length:=by
   cases hd:decide (posG f l e<l.length) with
   | true=>exact Qb hd
   | false=>rw [hd] at hc; cases hc
  rw [Qs hlt,Qd] at hc
  rw [Qd,set_split hlt]
  rw [split_at hlt] at h
  exact ord_set h (hx ▸ he) (hx ▸ hc)
 | false =>
  rw [Qi]
  refine ord_ins (by rw [Q1]; exact h) (hx ▸ he) (fun a ha=>?_) (fun b hb=>?_)
  ·obtain ⟨j,h1,h2,rfl⟩:=mem_take ha
   rw [hx]; exact posG_below h1
  ·rw [hx]
   have hlt:posG f l e<l.length:=by
    rcases Sx (posG f l e) l.length with h | h
    ·exact h
    ·rw [List.drop_eq_nil_of_le h] at hb; cases hb
   rw [Qs hlt,Qd] at hc
   have h0:=less_tri (posG_at hlt) hc
   rw [drop_at hlt] at hb
   rcases Ql.1 hb with rfl | hb
   ·exact h0
   ·have hp:=h.2
    rw [split_at hlt,List.pairwise_append,Sw] at hp
    exact less_trans h0 (hp.2.1.1 b hb)
theorem putG_mem {l:List α} {e:Ue} {x y:α} (h:y∈putG f l e x):y=x\/y∈l:=by
 unfold putG at h
 revert h
 cases (bif decide (posG f l e<l.length) then sameP (f (l.getD (posG f l e) default)) e else false) with
 | true=>intro h; rcases Tg h with h | h; exact .inr h; exact .inl h
 | false =>
  intro h
  rcases Qx.1 h with h | h
  ·exact .inr (T2 h)
  ·rcases Ql.1 h with h | h
   ·exact .inl h
   ·exact .inr (T3 h)
omit [Inhabited α] in
theorem without_sub (l:List α) (k:Nat):(l.take k++l.drop (k+1)).Sublist l:=by
 have h:(l.take k++l.drop (k+1)).Sublist (l.take k++l.drop k):=List.Sublist.append (List.Sublist.refl _) (by rw [<- Ry]; exact List.drop_sublist _ _)
 rw [Q1] at h; exact h
theorem pw_adj (R:α->α->Prop) (tr:∀ a b c,R a b->R b c->R a c) (l:List α) (h:∀ k,k+1<l.length->R (l.getD k default) (l.getD (k+1) default)):l.Pairwise R:=by
 have hall:∀ d i,i+d+1<l.length->R (l.getD i default) (l.getD (i+d+1) default):=fun d=>by
  induction d with
  | zero=>intro i hi; exact h i hi
  | succ d ih=>intro i hi; exact tr _ _ _ (ih i uu0) (h (i+d+1) hi)
 rw [Sa]
 intro i j hi hj hij
 have:=hall (j-i-1) i uu0
 rw [show i+(j-i-1)+1=j by omega,getD_lt l hi,getD_lt l hj] at this
 exact this
theorem ord_iff (l:List α):Ordd f l↔∀ k,k<l.length->F59 (f (l.getD k default))=true/\(0<k->F60 (f (l.getD (k-1) default)) (f (l.getD k default))=true):=by
 constructor
 ·rintro ⟨h1,h2⟩ k hk
  rw [Sa] at h2
  refine ⟨h1 _ (by rw [getD_lt l hk]; exact Sv hk),fun h0=>?_⟩
  rw [getD_lt l hk,getD_lt l (uu0:k-1<l.length)]
  exact h2 _ _ _ _ uu0
 ·intro h
  refine ⟨fun x hx=>?_,pw_adj (fun x y=>F60 (f x) (f y)=true) (fun a b c=>less_trans) l fun k hk=>(h (k+1) hk).2 (Nat.succ_pos k)⟩
  obtain ⟨k,hk,rfl⟩:=List.getElem_of_mem hx
  have:=(h k hk).1
  rw [getD_lt l hk] at this; exact this
end
abbrev TOk (t:List Ue):Prop:=Ordd (fun x=>x) t
theorem tableOk_iff (t:List Ue):F30 t=true↔t.length<=8/\TOk t:=by
 rw [tableOkS_eq,TOk,ord_iff]
 simp only [Qh,Rn,allB_iff]
 refine and_congr uu0 (forall_congr' fun k=>imp_congr_right fun hk=>?_)
 unfold badE
 cases F59 (t.getD k default) with
 | false=>simp
 | true =>
  simp only [Rt,Qi,true_and]
  by_cases h:0<k
  ·simp [h]
  ·simp [h]
abbrev ROk (l:List Uf):Prop:=Ordd Uf.Entry l
theorem heard_iff (e:Ud):F33 e=true↔e.Heard.length<=16/\(0<=e.Keep/\e.Keep<=6)/\ROk e.Heard/\(e.Left=0->∀ r,r∈e.Heard->r.Stale=true)/\anySt e.Heard=decide (e.Keep>0):=by
 rw [heardS_eq,ROk,ord_iff]
 have hm:(e.Left=0->∀ r,r∈e.Heard->r.Stale=true)↔∀ k,k<e.Heard.length->e.Left=0->(e.Heard.getD k default).Stale=true:=by
  constructor
  ·intro h k hk h0
   exact h h0 _ (by rw [getD_lt _ hk]; exact Sv hk)
  ·intro h h0 r hr
   obtain ⟨k,hk,rfl⟩:=List.getElem_of_mem hr
   have:=h k hk h0
   rw [getD_lt _ hk] at this; exact this
 have hb:(∀ k,k<e.Heard.length->badR e k=false)↔(∀ k,k<e.Heard.length->F59 (e.Heard.getD k default).Entry=true/\(0<k->F60 (e.Heard.getD (k-1) default).Entry (e.Heard.getD k default).Entry=true))/\(∀ k,k<e.Heard.length->e.Left=0->(e.Heard.getD k default).Stale=true):=by
  rw [<- forall_and]
  refine forall_congr' fun k=>?_
  rw [<- imp_and]
  refine imp_congr_right fun hk=>?_
  unfold badR
  cases F59 (e.Heard.getD k default).Entry with
  | false=>simp
  | true =>
   cases F60 (e.Heard.getD (k-1) default).Entry (e.Heard.getD k default).Entry <;> cases (e.Heard.getD k default).Stale <;> by_cases h:0<k <;> by_cases h0:e.Left=0 <;> simp [h,h0]
 rw [hm]
 by_cases h16:(e.Heard.length:Int)>16
 ·rw [Qs h16]
  have:¬ e.Heard.length<=16:=by omega
  simp [this]
 ·rw [Qt h16]
  have h16':e.Heard.length<=16:=by omega
  by_cases hk:0<=e.Keep/\e.Keep<=6
  ·rw [Qs hk]
   simp only [Rt,Qi,Qh,allB_iff,h16',hk,true_and,and_self,Ts]
   rw [hb,and_assoc]
  ·rw [Qt hk]
   simp [hk]
structure EOk (e:Ud):Prop where
 nm:0<=e.Name/\e.Name<=65535
 pr:0<=e.Peer/\e.Peer<=65535
 ne:e.Name≠e.Peer
 keys:F29 e.Keys=true
 boot:1<=e.Boot/\e.Boot<=1000
 want:F30 e.Want=true
 turn:0<=e.Turn/\e.Turn<=1000000
 pb:0<=e.PeerBoot/\e.PeerBoot<=999
 pt:0<=e.PeerTurn/\e.PeerTurn<=1000000
 pp:e.PeerBoot=0↔e.PeerTurn=0
 left:0<=e.Left/\e.Left<=4
 lp:e.Left>0->e.PeerBoot≠0
 up:e.Up=true->e.Left≠0
 num:0<=e.Num/\e.Num<=e.Turn
 got:0<=e.Got/\e.Got<=1000000
 und:F31 e.Under=true
 un:e.Under.Kind>0->e.Num≠0
 told:F30 e.Told=true
 app:F30 (F32 e.Told e.Under)=true
 hd:F33 e=true
theorem endOk_iff (e:Ud):F9 e=true↔EOk e:=by
 have hpp:(((e.PeerBoot==0)==(e.PeerTurn==0))=true)↔(e.PeerBoot=0↔e.PeerTurn=0):=by
  rw [Ts,beqD,beqD,Rx]
 unfold F9
 simp only [Rl,Bool.cond_false_left,Rd,Qh,Sc,R9,Bool.not_eq_false',Rn,Tp,hpp]
 have hl:((decide (e.Left>0)&&e.PeerBoot==0)=false)↔(e.Left>0->e.PeerBoot≠0):=by
  by_cases h1:e.Left>0 <;> by_cases h2:e.PeerBoot=0 <;> simp [h1,h2]
 have hu:((e.Up&&e.Left==0)=false)↔(e.Up=true->e.Left≠0):=by
  cases e.Up <;> by_cases h2:e.Left=0 <;> simp [h2]
 have hn:((decide (e.Under.Kind>0)&&e.Num==0)=false)↔(e.Under.Kind>0->e.Num≠0):=by
  by_cases h1:e.Under.Kind>0 <;> by_cases h2:e.Num=0 <;> simp [h1,h2]
 simp only [hl,hu,hn]
 constructor
 ·rintro ⟨⟨⟨⟨⟨⟨a1,a2⟩,a3⟩,a4⟩,a5⟩,a6⟩,⟨⟨⟨b1,b2⟩,b3⟩,b4⟩,⟨⟨c1,c2⟩,c3⟩,⟨⟨⟨⟨⟨d1,d2⟩,d3⟩,d4⟩,d5⟩,d6⟩,x⟩
  exact ⟨a1,a2,a3,a4,a5,a6,b1,b2,b3,b4,c1,c2,c3,d1,d2,d3,d4,d5,d6,x⟩
 ·rintro ⟨a1,a2,a3,a4,a5,a6,b1,b2,b3,b4,c1,c2,c3,d1,d2,d3,d4,d5,d6,x⟩
  exact ⟨⟨⟨⟨⟨⟨a1,a2⟩,a3⟩,a4⟩,a5⟩,a6⟩,⟨⟨⟨b1,b2⟩,b3⟩,b4⟩,⟨⟨c1,c2⟩,c3⟩,⟨⟨⟨⟨⟨d1,d2⟩,d3⟩,d4⟩,d5⟩,d6⟩,x⟩
theorem endKeep (e:Ud) (h:F9 e=true):0<=e.Keep/\e.Keep<=6/\0<=e.Left/\e.Left<=4:=by
 have h:=(endOk_iff e).1 h
 have:=(heard_iff e).1 h.hd
 exact ⟨this.2.1.1,this.2.1.2,h.left⟩
theorem EndFit.small {e:Ud} (h:EndFit e):smallE e:=by
 have h1:=h.told.len
 have h2:=h.want.len
 have h3:=h.heard
 have h4:=h.keys
 unfold smallE; omega
theorem kc71 (e1:Ud) {K_:Prop} (k_:K_):(True)/\(Imps (eHelloEnd e1) (eHelloEnd e1))/\K_:=⟨trivial,Imps.refl _,k_⟩
abbrev kh71 (e1:Ud):Hint true Tryz.prog:=.call 71 (S71 e1) (ok71 e1) none
def F125al_j0 (e1:Ud) (w1:HelloWord):Lp (Int×Int×List HelloKey×Int×List Ue×Int×Int×Int×Bool×Int×Int×Int×Int×Int×Int×Int×List Ue×Bool×Int×Bool×List Uf×Int) Ud :=
 bif (decide (w1.Boot>e1.PeerBoot)) then (.done ((F71 e1).Name,(F71 e1).Peer,(F71 e1).Keys,(F71 e1).Boot,(F71 e1).Want,(F71 e1).Turn,w1.Boot,(F71 e1).PeerTurn,(F71 e1).Up,(F71 e1).Left,(F71 e1).Num,(F71 e1).Under.Kind,(F71 e1).Under.Entry.Addr,(F71 e1).Under.Entry.Len,(F71 e1).Under.Entry.Cost,(F71 e1).Under.Entry.Label,(F71 e1).Told,(F71 e1).All,(F71 e1).Got,(F71 e1).Full,(F71 e1).Heard,(F71 e1).Keep)) else (.done (e1.Name,e1.Peer,e1.Keys,e1.Boot,e1.Want,e1.Turn,e1.PeerBoot,e1.PeerTurn,e1.Up,e1.Left,e1.Num,e1.Under.Kind,e1.Under.Entry.Addr,e1.Under.Entry.Len,e1.Under.Entry.Cost,e1.Under.Entry.Label,e1.Told,e1.All,e1.Got,e1.Full,e1.Heard,e1.Keep))
def F125al_j1 (e1:Ud) (w1:HelloWord) (e2:Int) (e3:Int) (e4:List HelloKey) (e5:Int) (e6:List Ue) (e7:Int) (e8:Int) (e9:Int) (e10:Bool) (e11:Int) (e12:Int) (e13:Int) (e14:Int) (e15:Int) (e16:Int) (e17:Int) (e18:List Ue) (e19:Bool) (e20:Int) (e21:Bool) (e22:List Uf) (e23:Int):Lp (Int×Int×List HelloKey×Int×List Ue×Int×Int×Int×Bool×Int×Int×Int×Int×Int×Int×Int×List Ue×Bool×Int×Bool×List Uf×Int) Ud :=
 bif (bif decide (e13>0) then (w1.Heard==e12) else false) then (.done ((F127 ⟨e2,e3,e4,e5,e6,e7,e8,w1.Turn,(w1.Yours==e5),4,e12,(⟨e13,(⟨e14,e15,e16,e17⟩:Ue)⟩:HelloChange),e18,e19,e20,e21,e22,e23⟩).Name,(F127 ⟨e2,e3,e4,e5,e6,e7,e8,w1.Turn,(w1.Yours==e5),4,e12,(⟨e13,(⟨e14,e15,e16,e17⟩:Ue)⟩:HelloChange),e18,e19,e20,e21,e22,e23⟩).Peer,(F127 ⟨e2,e3,e4,e5,e6,e7,e8,w1.Turn,(w1.Yours==e5),4,e12,(⟨e13,(⟨e14,e15,e16,e17⟩:Ue)⟩:HelloChange),e18,e19,e20,e21,e22,e23⟩).Keys,(F127 ⟨e2,e3,e4,e5,e6,e7,e8,w1.Turn,(w1.Yours==e5),4,e12,(⟨e13,(⟨e14,e15,e16,e17⟩:Ue)⟩:HelloChange),e18,e19,e20,e21,e22,e23⟩).Boot,(F127 ⟨e2,e3,e4,e5,e6,e7,e8,w1.Turn,(w1.Yours==e5),4,e12,(⟨e13,(⟨e14,e15,e16,e17⟩:Ue)⟩:HelloChange),e18,e19,e20,e21,e22,e23⟩).Want,(F127 ⟨e2,e3,e4,e5,e6,e7,e8,w1.Turn,(w1.Yours==e5),4,e12,(⟨e13,(⟨e14,e15,e16,e17⟩:Ue)⟩:HelloChange),e18,e19,e20,e21,e22,e23⟩).Turn,(F127 ⟨e2,e3,e4,e5,e6,e7,e8,w1.Turn,(w1.Yours==e5),4,e12,(⟨e13,(⟨e14,e15,e16,e17⟩:Ue)⟩:HelloChange),e18,e19,e20,e21,e22,e23⟩).PeerBoot,(F127 ⟨e2,e3,e4,e5,e6,e7,e8,w1.Turn,(w1.Yours==e5),4,e12,(⟨e13,(⟨e14,e15,e16,e17⟩:Ue)⟩:HelloChange),e18,e19,e20,e21,e22,e23⟩).PeerTurn,(F127 ⟨e2,e3,e4,e5,e6,e7,e8,w1.Turn,(w1.Yours==e5),4,e12,(⟨e13,(⟨e14,e15,e16,e17⟩:Ue)⟩:HelloChange),e18,e19,e20,e21,e22,e23⟩).Up,(F127 ⟨e2,e3,e4,e5,e6,e7,e8,w1.Turn,(w1.Yours==e5),4,e12,(⟨e13,(⟨e14,e15,e16,e17⟩:Ue)⟩:HelloChange),e18,e19,e20,e21,e22,e23⟩).Left,(F127 ⟨e2,e3,e4,e5,e6,e7,e8,w1.Turn,(w1.Yours==e5),4,e12,(⟨e13,(⟨e14,e15,e16,e17⟩:Ue)⟩:HelloChange),e18,e19,e20,e21,e22,e23⟩).Num,(F127 ⟨e2,e3,e4,e5,e6,e7,e8,w1.Turn,(w1.Yours==e5),4,e12,(⟨e13,(⟨e14,e15,e16,e17⟩:Ue)⟩:HelloChange),e18,e19,e20,e21,e22,e23⟩).Under.Kind,(F127 ⟨e2,e3,e4,e5,e6,e7,e8,w1.Turn,(w1.Yours==e5),4,e12,(⟨e13,(⟨e14,e15,e16,e17⟩:Ue)⟩:HelloChange),e18,e19,e20,e21,e22,e23⟩).Under.Entry.Addr,(F127 ⟨e2,e3,e4,e5,e6,e7,e8,w1.Turn,(w1.Yours==e5),4,e12,(⟨e13,(⟨e14,e15,e16,e17⟩:Ue)⟩:HelloChange),e18,e19,e20,e21,e22,e23⟩).Under.Entry.Len,(F127 ⟨e2,e3,e4,e5,e6,e7,e8,w1.Turn,(w1.Yours==e5),4,e12,(⟨e13,(⟨e14,e15,e16,e17⟩:Ue)⟩:HelloChange),e18,e19,e20,e21,e22,e23⟩).Under.Entry.Cost,(F127 ⟨e2,e3,e4,e5,e6,e7,e8,w1.Turn,(w1.Yours==e5),4,e12,(⟨e13,(⟨e14,e15,e16,e17⟩:Ue)⟩:HelloChange),e18,e19,e20,e21,e22,e23⟩).Under.Entry.Label,(F127 ⟨e2,e3,e4,e5,e6,e7,e8,w1.Turn,(w1.Yours==e5),4,e12,(⟨e13,(⟨e14,e15,e16,e17⟩:Ue)⟩:HelloChange),e18,e19,e20,e21,e22,e23⟩).Told,(F127 ⟨e2,e3,e4,e5,e6,e7,e8,w1.Turn,(w1.Yours==e5),4,e12,(⟨e13,(⟨e14,e15,e16,e17⟩:Ue)⟩:HelloChange),e18,e19,e20,e21,e22,e23⟩).All,(F127 ⟨e2,e3,e4,e5,e6,e7,e8,w1.Turn,(w1.Yours==e5),4,e12,(⟨e13,(⟨e14,e15,e16,e17⟩:Ue)⟩:HelloChange),e18,e19,e20,e21,e22,e23⟩).Got,(F127 ⟨e2,e3,e4,e5,e6,e7,e8,w1.Turn,(w1.Yours==e5),4,e12,(⟨e13,(⟨e14,e15,e16,e17⟩:Ue)⟩:HelloChange),e18,e19,e20,e21,e22,e23⟩).Full,(F127 ⟨e2,e3,e4,e5,e6,e7,e8,w1.Turn,(w1.Yours==e5),4,e12,(⟨e13,(⟨e14,e15,e16,e17⟩:Ue)⟩:HelloChange),e18,e19,e20,e21,e22,e23⟩).Heard,(F127 ⟨e2,e3,e4,e5,e6,e7,e8,w1.Turn,(w1.Yours==e5),4,e12,(⟨e13,(⟨e14,e15,e16,e17⟩:Ue)⟩:HelloChange),e18,e19,e20,e21,e22,e23⟩).Keep)) else (.done (e2,e3,e4,e5,e6,e7,e8,w1.Turn,(w1.Yours==e5),4,e12,e13,e14,e15,e16,e17,e18,e19,e20,e21,e22,e23))
def F125al_j2 (e1:Ud) (w1:HelloWord) (e2:Int) (e3:Int) (e4:List HelloKey) (e5:Int) (e6:List Ue) (e7:Int) (e8:Int) (e9:Int) (e10:Bool) (e11:Int) (e12:Int) (e13:Int) (e14:Int) (e15:Int) (e16:Int) (e17:Int) (e18:List Ue) (e19:Bool) (e20:Int) (e21:Bool) (e22:List Uf) (e23:Int) (e24:Int) (e25:Int) (e26:List HelloKey) (e27:Int) (e28:List Ue) (e29:Int) (e30:Int) (e31:Int) (e32:Bool) (e33:Int) (e34:Int) (e35:Int) (e36:Int) (e37:Int) (e38:Int) (e39:Int) (e40:List Ue) (e41:Bool) (e42:Int) (e43:Bool) (e44:List Uf) (e45:Int):Lp (Int×Bool) Ud :=
 bif (bif decide (w1.Change.Kind>0) then (w1.Num==(IntKind.i64.wrap (e42+1))) else false) then (bif (w1.Change.Kind==2) then (.done (w1.Num,(bif e43 then true else (w1.Change.Kind==3)))) else (.done (e42,e43))) else (.done (e42,e43))
def F125al (e1:Ud) (w1:HelloWord):Ud :=
 (F125al_j0 e1 w1).fin (fun r=>r) (fun (e2,e3,e4,e5,e6,e7,e8,e9,e10,e11,e12,e13,e14,e15,e16,e17,e18,e19,e20,e21,e22,e23)=>bif (!(w1.Yours==e5)) then (⟨e2,e3,e4,e5,e6,e7,e8,w1.Turn,(w1.Yours==e5),4,e12,(⟨e13,(⟨e14,e15,e16,e17⟩:Ue)⟩:HelloChange),e18,e19,e20,e21,e22,e23⟩:Ud) else ((F125al_j1 e1 w1 e2 e3 e4 e5 e6 e7 e8 e9 e10 e11 e12 e13 e14 e15 e16 e17 e18 e19 e20 e21 e22 e23).fin (fun r=>r) (fun (e24,e25,e26,e27,e28,e29,e30,e31,e32,e33,e34,e35,e36,e37,e38,e39,e40,e41,e42,e43,e44,e45)=>(F125al_j2 e1 w1 e2 e3 e4 e5 e6 e7 e8 e9 e10 e11 e12 e13 e14 e15 e16 e17 e18 e19 e20 e21 e22 e23 e24 e25 e26 e27 e28 e29 e30 e31 e32 e33 e34 e35 e36 e37 e38 e39 e40 e41 e42 e43 e44 e45).fin (fun r=>r) (fun (e46,e47)=>(F129 ⟨e24,e25,e26,e27,e28,e29,e30,e31,e32,e33,e34,(⟨e35,(⟨e36,e37,e38,e39⟩:Ue)⟩:HelloChange),e40,e41,e46,e47,e44,e45⟩)))))
abbrev jI125al_0 (e1:Ud) (w1:HelloWord) (e2:Int) (e3:Int) (e4:List HelloKey) (e5:Int) (e6:List Ue) (e7:Int) (e8:Int) (e9:Int) (e10:Bool) (e11:Int) (e12:Int) (e13:Int) (e14:Int) (e15:Int) (e16:Int) (e17:Int) (e18:List Ue) (e19:Bool) (e20:Int) (e21:Bool) (e22:List Uf) (e23:Int):Prop:=LJ 8 e1 w1 e4 e6 e18 e22/\True
abbrev jJ125al_0 (e1:Ud) (w1:HelloWord) (j:Int×Int×List HelloKey×Int×List Ue×Int×Int×Int×Bool×Int×Int×Int×Int×Int×Int×Int×List Ue×Bool×Int×Bool×List Uf×Int):Prop:=(F125al_j0 e1 w1)=Lp.done j/\jI125al_0 e1 w1 j.1 j.2.1 j.2.2.1 j.2.2.2.1 j.2.2.2.2.1 j.2.2.2.2.2.1 j.2.2.2.2.2.2.1 j.2.2.2.2.2.2.2.1 j.2.2.2.2.2.2.2.2.1 j.2.2.2.2.2.2.2.2.2.1 j.2.2.2.2.2.2.2.2.2.2.1 j.2.2.2.2.2.2.2.2.2.2.2.1 j.2.2.2.2.2.2.2.2.2.2.2.2.1 j.2.2.2.2.2.2.2.2.2.2.2.2.2.1 j.2.2.2.2.2.2.2.2.2.2.2.2.2.2.1 j.2.2.2.2.2.2.2.2.2.2.2.2.2.2.2.1 j.2.2.2.2.2.2.2.2.2.2.2.2.2.2.2.2.1 j.2.2.2.2.2.2.2.2.2.2.2.2.2.2.2.2.2.1 j.2.2.2.2.2.2.2.2.2.2.2.2.2.2.2.2.2.2.1 j.2.2.2.2.2.2.2.2.2.2.2.2.2.2.2.2.2.2.2.1 j.2.2.2.2.2.2.2.2.2.2.2.2.2.2.2.2.2.2.2.2.1 j.2.2.2.2.2.2.2.2.2.2.2.2.2.2.2.2.2.2.2.2.2
theorem jn125al_0 (e1:Ud) (w1:HelloWord) (e2:Int) (e3:Int) (e4:List HelloKey) (e5:Int) (e6:List Ue) (e7:Int) (e8:Int) (e9:Int) (e10:Bool) (e11:Int) (e12:Int) (e13:Int) (e14:Int) (e15:Int) (e16:Int) (e17:Int) (e18:List Ue) (e19:Bool) (e20:Int) (e21:Bool) (e22:List Uf) (e23:Int) (e:(F125al_j0 e1 w1)=Lp.done (e2,e3,e4,e5,e6,e7,e8,e9,e10,e11,e12,e13,e14,e15,e16,e17,e18,e19,e20,e21,e22,e23)) (h:jI125al_0 e1 w1 e2 e3 e4 e5 e6 e7 e8 e9 e10 e11 e12 e13 e14 e15 e16 e17 e18 e19 e20 e21 e22 e23):∃ j:Int×Int×List HelloKey×Int×List Ue×Int×Int×Int×Bool×Int×Int×Int×Int×Int×Int×Int×List Ue×Bool×Int×Bool×List Uf×Int,((.int .i64 e2:Value)=.int .i64 j.1)/\((.int .i64 e3:Value)=.int .i64 j.2.1)/\((.int .i64 e5:Value)=.int .i64 j.2.2.2.1)/\((.int .i64 e7:Value)=.int .i64 j.2.2.2.2.2.1)/\((.int .i64 e8:Value)=.int .i64 j.2.2.2.2.2.2.1)/\((.int .i64 e9:Value)=.int .i64 j.2.2.2.2.2.2.2.1)/\((.bool e10:Value)=.bool j.2.2.2.2.2.2.2.2.1)/\((.int .i64 e11:Value)=.int .i64 j.2.2.2.2.2.2.2.2.2.1)/\((.int .i64 e12:Value)=.int .i64 j.2.2.2.2.2.2.2.2.2.2.1)/\((.int .i64 e13:Value)=.int .i64 j.2.2.2.2.2.2.2.2.2.2.2.1)/\((.int .i64 e14:Value)=.int .i64 j.2.2.2.2.2.2.2.2.2.2.2.2.1)/\((.int .i64 e15:Value)=.int .i64 j.2.2.2.2.2.2.2.2.2.2.2.2.2.1)/\((.int .i64 e16:Value)=.int .i64 j.2.2.2.2.2.2.2.2.2.2.2.2.2.2.1)/\((.int .i64 e17:Value)=.int .i64 j.2.2.2.2.2.2.2.2.2.2.2.2.2.2.2.1)/\((.bool e19:Value)=.bool j.2.2.2.2.2.2.2.2.2.2.2.2.2.2.2.2.2.1)/\((.int .i64 e20:Value)=.int .i64 j.2.2.2.2.2.2.2.2.2.2.2.2.2.2.2.2.2.2.1)/\((.bool e21:Value)=.bool j.2.2.2.2.2.2.2.2.2.2.2.2.2.2.2.2.2.2.2.1)/\((.int .i64 e23:Value)=.int .i64 j.2.2.2.2.2.2.2.2.2.2.2.2.2.2.2.2.2.2.2.2.2)/\(Imp (.l 2 eHelloKey e4) (.l 2 eHelloKey j.2.2.1))/\(Imp (.l 4 eHelloEntry e6) (.l 4 eHelloEntry j.2.2.2.2.1))/\(Imp (.l 4 eHelloEntry e18) (.l 4 eHelloEntry j.2.2.2.2.2.2.2.2.2.2.2.2.2.2.2.2.1))/\(Imp (.l 5 eHelloRoute e22) (.l 5 eHelloRoute j.2.2.2.2.2.2.2.2.2.2.2.2.2.2.2.2.2.2.2.2.1))/\((.int .i64 w1.From:Value)=.int .i64 w1.From)/\((.int .i64 w1.To:Value)=.int .i64 w1.To)/\((.int .i64 w1.Key:Value)=.int .i64 w1.Key)/\((.int .i64 w1.Boot:Value)=.int .i64 w1.Boot)/\((.int .i64 w1.Yours:Value)=.int .i64 w1.Yours)/\((.int .i64 w1.Turn:Value)=.int .i64 w1.Turn)/\((.int .i64 w1.Num:Value)=.int .i64 w1.Num)/\((.int .i64 w1.Heard:Value)=.int .i64 w1.Heard)/\((.int .i64 w1.Change.Kind:Value)=.int .i64 w1.Change.Kind)/\((.int .i64 w1.Change.Entry.Addr:Value)=.int .i64 w1.Change.Entry.Addr)/\((.int .i64 w1.Change.Entry.Len:Value)=.int .i64 w1.Change.Entry.Len)/\((.int .i64 w1.Change.Entry.Cost:Value)=.int .i64 w1.Change.Entry.Cost)/\((.int .i64 w1.Change.Entry.Label:Value)=.int .i64 w1.Change.Entry.Label)/\((.int .i64 w1.Sum:Value)=.int .i64 w1.Sum)/\((.int .i64 0:Value)=.int .i64 0)/\((.int .i64 0:Value)=.int .i64 0)/\((.slice none 0 0:Value)=.slice none 0 0)/\((.int .i64 0:Value)=.int .i64 0)/\((.slice none 0 0:Value)=.slice none 0 0)/\((.int .i64 0:Value)=.int .i64 0)/\((.int .i64 0:Value)=.int .i64 0)/\((.int .i64 0:Value)=.int .i64 0)/\((.bool false:Value)=.bool false)/\((.int .i64 0:Value)=.int .i64 0)/\((.int .i64 0:Value)=.int .i64 0)/\((.int .i64 0:Value)=.int .i64 0)/\((.int .i64 0:Value)=.int .i64 0)/\((.int .i64 0:Value)=.int .i64 0)/\((.int .i64 0:Value)=.int .i64 0)/\((.int .i64 0:Value)=.int .i64 0)/\((.slice none 0 0:Value)=.slice none 0 0)/\((.bool false:Value)=.bool false)/\((.int .i64 0:Value)=.int .i64 0)/\((.bool false:Value)=.bool false)/\((.slice none 0 0:Value)=.slice none 0 0)/\((.int .i64 0:Value)=.int .i64 0)/\jJ125al_0 e1 w1 j:=⟨(e2,e3,e4,e5,e6,e7,e8,e9,e10,e11,e12,e13,e14,e15,e16,e17,e18,e19,e20,e21,e22,e23),rfl,rfl,rfl,rfl,rfl,rfl,rfl,rfl,rfl,rfl,rfl,rfl,rfl,rfl,rfl,rfl,rfl,rfl,Imp.refl _,Imp.refl _,Imp.refl _,Imp.refl _,rfl,rfl,rfl,rfl,rfl,rfl,rfl,rfl,rfl,rfl,rfl,rfl,rfl,rfl,rfl,rfl,rfl,rfl,rfl,rfl,rfl,rfl,rfl,rfl,rfl,rfl,rfl,rfl,rfl,rfl,rfl,rfl,rfl,rfl,rfl,rfl,e,h⟩
abbrev jI125al_1 (e1:Ud) (w1:HelloWord) (e2:Int) (e3:Int) (e4:List HelloKey) (e5:Int) (e6:List Ue) (e7:Int) (e8:Int) (e9:Int) (e10:Bool) (e11:Int) (e12:Int) (e13:Int) (e14:Int) (e15:Int) (e16:Int) (e17:Int) (e18:List Ue) (e19:Bool) (e20:Int) (e21:Bool) (e22:List Uf) (e23:Int) (e24:Int) (e25:Int) (e26:List HelloKey) (e27:Int) (e28:List Ue) (e29:Int) (e30:Int) (e31:Int) (e32:Bool) (e33:Int) (e34:Int) (e35:Int) (e36:Int) (e37:Int) (e38:Int) (e39:Int) (e40:List Ue) (e41:Bool) (e42:Int) (e43:Bool) (e44:List Uf) (e45:Int):Prop:=LJ 9 e1 w1 e26 e28 e40 e44/\True
abbrev jJ125al_1 (e1:Ud) (w1:HelloWord) (e2:Int) (e3:Int) (e4:List HelloKey) (e5:Int) (e6:List Ue) (e7:Int) (e8:Int) (e9:Int) (e10:Bool) (e11:Int) (e12:Int) (e13:Int) (e14:Int) (e15:Int) (e16:Int) (e17:Int) (e18:List Ue) (e19:Bool) (e20:Int) (e21:Bool) (e22:List Uf) (e23:Int) (j:Int×Int×List HelloKey×Int×List Ue×Int×Int×Int×Bool×Int×Int×Int×Int×Int×Int×Int×List Ue×Bool×Int×Bool×List Uf×Int):Prop:=(F125al_j1 e1 w1 e2 e3 e4 e5 e6 e7 e8 e9 e10 e11 e12 e13 e14 e15 e16 e17 e18 e19 e20 e21 e22 e23)=Lp.done j/\jI125al_1 e1 w1 e2 e3 e4 e5 e6 e7 e8 e9 e10 e11 e12 e13 e14 e15 e16 e17 e18 e19 e20 e21 e22 e23 j.1 j.2.1 j.2.2.1 j.2.2.2.1 j.2.2.2.2.1 j.2.2.2.2.2.1 j.2.2.2.2.2.2.1 j.2.2.2.2.2.2.2.1 j.2.2.2.2.2.2.2.2.1 j.2.2.2.2.2.2.2.2.2.1 j.2.2.2.2.2.2.2.2.2.2.1 j.2.2.2.2.2.2.2.2.2.2.2.1 j.2.2.2.2.2.2.2.2.2.2.2.2.1 j.2.2.2.2.2.2.2.2.2.2.2.2.2.1 j.2.2.2.2.2.2.2.2.2.2.2.2.2.2.1 j.2.2.2.2.2.2.2.2.2.2.2.2.2.2.2.1 j.2.2.2.2.2.2.2.2.2.2.2.2.2.2.2.2.1 j.2.2.2.2.2.2.2.2.2.2.2.2.2.2.2.2.2.1 j.2.2.2.2.2.2.2.2.2.2.2.2.2.2.2.2.2.2.1 j.2.2.2.2.2.2.2.2.2.2.2.2.2.2.2.2.2.2.2.1 j.2.2.2.2.2.2.2.2.2.2.2.2.2.2.2.2.2.2.2.2.1 j.2.2.2.2.2.2.2.2.2.2.2.2.2.2.2.2.2.2.2.2.2
theorem jn125al_1 (e1:Ud) (w1:HelloWord) (e2:Int) (e3:Int) (e4:List HelloKey) (e5:Int) (e6:List Ue) (e7:Int) (e8:Int) (e9:Int) (e10:Bool) (e11:Int) (e12:Int) (e13:Int) (e14:Int) (e15:Int) (e16:Int) (e17:Int) (e18:List Ue) (e19:Bool) (e20:Int) (e21:Bool) (e22:List Uf) (e23:Int) (e24:Int) (e25:Int) (e26:List HelloKey) (e27:Int) (e28:List Ue) (e29:Int) (e30:Int) (e31:Int) (e32:Bool) (e33:Int) (e34:Int) (e35:Int) (e36:Int) (e37:Int) (e38:Int) (e39:Int) (e40:List Ue) (e41:Bool) (e42:Int) (e43:Bool) (e44:List Uf) (e45:Int) (e:(F125al_j1 e1 w1 e2 e3 e4 e5 e6 e7 e8 e9 e10 e11 e12 e13 e14 e15 e16 e17 e18 e19 e20 e21 e22 e23)=Lp.done (e24,e25,e26,e27,e28,e29,e30,e31,e32,e33,e34,e35,e36,e37,e38,e39,e40,e41,e42,e43,e44,e45)) (h:jI125al_1 e1 w1 e2 e3 e4 e5 e6 e7 e8 e9 e10 e11 e12 e13 e14 e15 e16 e17 e18 e19 e20 e21 e22 e23 e24 e25 e26 e27 e28 e29 e30 e31 e32 e33 e34 e35 e36 e37 e38 e39 e40 e41 e42 e43 e44 e45):∃ j:Int×Int×List HelloKey×Int×List Ue×Int×Int×Int×Bool×Int×Int×Int×Int×Int×Int×Int×List Ue×Bool×Int×Bool×List Uf×Int,((.int .i64 e24:Value)=.int .i64 j.1)/\((.int .i64 e25:Value)=.int .i64 j.2.1)/\((.int .i64 e27:Value)=.int .i64 j.2.2.2.1)/\((.int .i64 e29:Value)=.int .i64 j.2.2.2.2.2.1)/\((.int .i64 e30:Value)=.int .i64 j.2.2.2.2.2.2.1)/\((.int .i64 e31:Value)=.int .i64 j.2.2.2.2.2.2.2.1)/\((.bool e32:Value)=.bool j.2.2.2.2.2.2.2.2.1)/\((.int .i64 e33:Value)=.int .i64 j.2.2.2.2.2.2.2.2.2.1)/\((.int .i64 e34:Value)=.int .i64 j.2.2.2.2.2.2.2.2.2.2.1)/\((.int .i64 e35:Value)=.int .i64 j.2.2.2.2.2.2.2.2.2.2.2.1)/\((.int .i64 e36:Value)=.int .i64 j.2.2.2.2.2.2.2.2.2.2.2.2.1)/\((.int .i64 e37:Value)=.int .i64 j.2.2.2.2.2.2.2.2.2.2.2.2.2.1)/\((.int .i64 e38:Value)=.int .i64 j.2.2.2.2.2.2.2.2.2.2.2.2.2.2.1)/\((.int .i64 e39:Value)=.int .i64 j.2.2.2.2.2.2.2.2.2.2.2.2.2.2.2.1)/\((.bool e41:Value)=.bool j.2.2.2.2.2.2.2.2.2.2.2.2.2.2.2.2.2.1)/\((.int .i64 e42:Value)=.int .i64 j.2.2.2.2.2.2.2.2.2.2.2.2.2.2.2.2.2.2.1)/\((.bool e43:Value)=.bool j.2.2.2.2.2.2.2.2.2.2.2.2.2.2.2.2.2.2.2.1)/\((.int .i64 e45:Value)=.int .i64 j.2.2.2.2.2.2.2.2.2.2.2.2.2.2.2.2.2.2.2.2.2)/\(Imp (.l 2 eHelloKey e26) (.l 2 eHelloKey j.2.2.1))/\(Imp (.l 4 eHelloEntry e28) (.l 4 eHelloEntry j.2.2.2.2.1))/\(Imp (.l 4 eHelloEntry e40) (.l 4 eHelloEntry j.2.2.2.2.2.2.2.2.2.2.2.2.2.2.2.2.1))/\(Imp (.l 5 eHelloRoute e44) (.l 5 eHelloRoute j.2.2.2.2.2.2.2.2.2.2.2.2.2.2.2.2.2.2.2.2.1))/\((.int .i64 w1.From:Value)=.int .i64 w1.From)/\((.int .i64 w1.To:Value)=.int .i64 w1.To)/\((.int .i64 w1.Key:Value)=.int .i64 w1.Key)/\((.int .i64 w1.Boot:Value)=.int .i64 w1.Boot)/\((.int .i64 w1.Yours:Value)=.int .i64 w1.Yours)/\((.int .i64 w1.Turn:Value)=.int .i64 w1.Turn)/\((.int .i64 w1.Num:Value)=.int .i64 w1.Num)/\((.int .i64 w1.Heard:Value)=.int .i64 w1.Heard)/\((.int .i64 w1.Change.Kind:Value)=.int .i64 w1.Change.Kind)/\((.int .i64 w1.Change.Entry.Addr:Value)=.int .i64 w1.Change.Entry.Addr)/\((.int .i64 w1.Change.Entry.Len:Value)=.int .i64 w1.Change.Entry.Len)/\((.int .i64 w1.Change.Entry.Cost:Value)=.int .i64 w1.Change.Entry.Cost)/\((.int .i64 w1.Change.Entry.Label:Value)=.int .i64 w1.Change.Entry.Label)/\((.int .i64 w1.Sum:Value)=.int .i64 w1.Sum)/\((.int .i64 0:Value)=.int .i64 0)/\((.int .i64 0:Value)=.int .i64 0)/\((.slice none 0 0:Value)=.slice none 0 0)/\((.int .i64 0:Value)=.int .i64 0)/\((.slice none 0 0:Value)=.slice none 0 0)/\((.int .i64 0:Value)=.int .i64 0)/\((.int .i64 0:Value)=.int .i64 0)/\((.int .i64 0:Value)=.int .i64 0)/\((.bool false:Value)=.bool false)/\((.int .i64 0:Value)=.int .i64 0)/\((.int .i64 0:Value)=.int .i64 0)/\((.int .i64 0:Value)=.int .i64 0)/\((.int .i64 0:Value)=.int .i64 0)/\((.int .i64 0:Value)=.int .i64 0)/\((.int .i64 0:Value)=.int .i64 0)/\((.int .i64 0:Value)=.int .i64 0)/\((.slice none 0 0:Value)=.slice none 0 0)/\((.bool false:Value)=.bool false)/\((.int .i64 0:Value)=.int .i64 0)/\((.bool false:Value)=.bool false)/\((.slice none 0 0:Value)=.slice none 0 0)/\((.int .i64 0:Value)=.int .i64 0)/\jJ125al_1 e1 w1 e2 e3 e4 e5 e6 e7 e8 e9 e10 e11 e12 e13 e14 e15 e16 e17 e18 e19 e20 e21 e22 e23 j:=⟨(e24,e25,e26,e27,e28,e29,e30,e31,e32,e33,e34,e35,e36,e37,e38,e39,e40,e41,e42,e43,e44,e45),rfl,rfl,rfl,rfl,rfl,rfl,rfl,rfl,rfl,rfl,rfl,rfl,rfl,rfl,rfl,rfl,rfl,rfl,Imp.refl _,Imp.refl _,Imp.refl _,Imp.refl _,rfl,rfl,rfl,rfl,rfl,rfl,rfl,rfl,rfl,rfl,rfl,rfl,rfl,rfl,rfl,rfl,rfl,rfl,rfl,rfl,rfl,rfl,rfl,rfl,rfl,rfl,rfl,rfl,rfl,rfl,rfl,rfl,rfl,rfl,rfl,rfl,e,h⟩
abbrev jJ125al_2 (e1:Ud) (w1:HelloWord) (e2:Int) (e3:Int) (e4:List HelloKey) (e5:Int) (e6:List Ue) (e7:Int) (e8:Int) (e9:Int) (e10:Bool) (e11:Int) (e12:Int) (e13:Int) (e14:Int) (e15:Int) (e16:Int) (e17:Int) (e18:List Ue) (e19:Bool) (e20:Int) (e21:Bool) (e22:List Uf) (e23:Int) (e24:Int) (e25:Int) (e26:List HelloKey) (e27:Int) (e28:List Ue) (e29:Int) (e30:Int) (e31:Int) (e32:Bool) (e33:Int) (e34:Int) (e35:Int) (e36:Int) (e37:Int) (e38:Int) (e39:Int) (e40:List Ue) (e41:Bool) (e42:Int) (e43:Bool) (e44:List Uf) (e45:Int) (j:Int×Bool):Prop:=(F125al_j2 e1 w1 e2 e3 e4 e5 e6 e7 e8 e9 e10 e11 e12 e13 e14 e15 e16 e17 e18 e19 e20 e21 e22 e23 e24 e25 e26 e27 e28 e29 e30 e31 e32 e33 e34 e35 e36 e37 e38 e39 e40 e41 e42 e43 e44 e45)=Lp.done j
theorem jn125al_2 (e1:Ud) (w1:HelloWord) (e2:Int) (e3:Int) (e4:List HelloKey) (e5:Int) (e6:List Ue) (e7:Int) (e8:Int) (e9:Int) (e10:Bool) (e11:Int) (e12:Int) (e13:Int) (e14:Int) (e15:Int) (e16:Int) (e17:Int) (e18:List Ue) (e19:Bool) (e20:Int) (e21:Bool) (e22:List Uf) (e23:Int) (e24:Int) (e25:Int) (e26:List HelloKey) (e27:Int) (e28:List Ue) (e29:Int) (e30:Int) (e31:Int) (e32:Bool) (e33:Int) (e34:Int) (e35:Int) (e36:Int) (e37:Int) (e38:Int) (e39:Int) (e40:List Ue) (e41:Bool) (e42:Int) (e43:Bool) (e44:List Uf) (e45:Int) (e46:Int) (e47:Bool) (e:(F125al_j2 e1 w1 e2 e3 e4 e5 e6 e7 e8 e9 e10 e11 e12 e13 e14 e15 e16 e17 e18 e19 e20 e21 e22 e23 e24 e25 e26 e27 e28 e29 e30 e31 e32 e33 e34 e35 e36 e37 e38 e39 e40 e41 e42 e43 e44 e45)=Lp.done (e46,e47)):∃ j:Int×Bool,((.int .i64 e24:Value)=.int .i64 e24)/\((.int .i64 e25:Value)=.int .i64 e25)/\((.int .i64 e27:Value)=.int .i64 e27)/\((.int .i64 e29:Value)=.int .i64 e29)/\((.int .i64 e30:Value)=.int .i64 e30)/\((.int .i64 e31:Value)=.int .i64 e31)/\((.bool e32:Value)=.bool e32)/\((.int .i64 e33:Value)=.int .i64 e33)/\((.int .i64 e34:Value)=.int .i64 e34)/\((.int .i64 e35:Value)=.int .i64 e35)/\((.int .i64 e36:Value)=.int .i64 e36)/\((.int .i64 e37:Value)=.int .i64 e37)/\((.int .i64 e38:Value)=.int .i64 e38)/\((.int .i64 e39:Value)=.int .i64 e39)/\((.bool e41:Value)=.bool e41)/\((.int .i64 e46:Value)=.int .i64 j.1)/\((.bool e47:Value)=.bool j.2)/\((.int .i64 e45:Value)=.int .i64 e45)/\(Imp (.l 2 eHelloKey e26) (.l 2 eHelloKey e26))/\(Imp (.l 4 eHelloEntry e28) (.l 4 eHelloEntry e28))/\(Imp (.l 4 eHelloEntry e40) (.l 4 eHelloEntry e40))/\(Imp (.l 5 eHelloRoute e44) (.l 5 eHelloRoute e44))/\((.int .i64 0:Value)=.int .i64 0)/\((.int .i64 0:Value)=.int .i64 0)/\((.slice none 0 0:Value)=.slice none 0 0)/\((.int .i64 0:Value)=.int .i64 0)/\((.slice none 0 0:Value)=.slice none 0 0)/\((.int .i64 0:Value)=.int .i64 0)/\((.int .i64 0:Value)=.int .i64 0)/\((.int .i64 0:Value)=.int .i64 0)/\((.bool false:Value)=.bool false)/\((.int .i64 0:Value)=.int .i64 0)/\((.int .i64 0:Value)=.int .i64 0)/\((.int .i64 0:Value)=.int .i64 0)/\((.int .i64 0:Value)=.int .i64 0)/\((.int .i64 0:Value)=.int .i64 0)/\((.int .i64 0:Value)=.int .i64 0)/\((.int .i64 0:Value)=.int .i64 0)/\((.slice none 0 0:Value)=.slice none 0 0)/\((.bool false:Value)=.bool false)/\((.int .i64 0:Value)=.int .i64 0)/\((.bool false:Value)=.bool false)/\((.slice none 0 0:Value)=.slice none 0 0)/\((.int .i64 0:Value)=.int .i64 0)/\jJ125al_2 e1 w1 e2 e3 e4 e5 e6 e7 e8 e9 e10 e11 e12 e13 e14 e15 e16 e17 e18 e19 e20 e21 e22 e23 e24 e25 e26 e27 e28 e29 e30 e31 e32 e33 e34 e35 e36 e37 e38 e39 e40 e41 e42 e43 e44 e45 j:=⟨(e46,e47),rfl,rfl,rfl,rfl,rfl,rfl,rfl,rfl,rfl,rfl,rfl,rfl,rfl,rfl,rfl,rfl,rfl,rfl,Imp.refl _,Imp.refl _,Imp.refl _,Imp.refl _,rfl,rfl,rfl,rfl,rfl,rfl,rfl,rfl,rfl,rfl,rfl,rfl,rfl,rfl,rfl,rfl,rfl,rfl,rfl,rfl,rfl,rfl,e⟩
theorem fi125al (e1:Ud) (w1:HelloWord) (r:Ud) (hF:r=(F125al e1 w1)):((.int .i64 r.Name:Value)=.int .i64 (F125al e1 w1).Name)/\((.int .i64 r.Peer:Value)=.int .i64 (F125al e1 w1).Peer)/\(Imp (.l 2 eHelloKey r.Keys) (.l 2 eHelloKey (F125al e1 w1).Keys))/\((.int .i64 r.Boot:Value)=.int .i64 (F125al e1 w1).Boot)/\(Imp (.l 4 eHelloEntry r.Want) (.l 4 eHelloEntry (F125al e1 w1).Want))/\((.int .i64 r.Turn:Value)=.int .i64 (F125al e1 w1).Turn)/\((.int .i64 r.PeerBoot:Value)=.int .i64 (F125al e1 w1).PeerBoot)/\((.int .i64 r.PeerTurn:Value)=.int .i64 (F125al e1 w1).PeerTurn)/\((.bool r.Up:Value)=.bool (F125al e1 w1).Up)/\((.int .i64 r.Left:Value)=.int .i64 (F125al e1 w1).Left)/\((.int .i64 r.Num:Value)=.int .i64 (F125al e1 w1).Num)/\((.int .i64 r.Under.Kind:Value)=.int .i64 (F125al e1 w1).Under.Kind)/\((.int .i64 r.Under.Entry.Addr:Value)=.int .i64 (F125al e1 w1).Under.Entry.Addr)/\((.int .i64 r.Under.Entry.Len:Value)=.int .i64 (F125al e1 w1).Under.Entry.Len)/\((.int .i64 r.Under.Entry.Cost:Value)=.int .i64 (F125al e1 w1).Under.Entry.Cost)/\((.int .i64 r.Under.Entry.Label:Value)=.int .i64 (F125al e1 w1).Under.Entry.Label)/\(Imp (.l 4 eHelloEntry r.Told) (.l 4 eHelloEntry (F125al e1 w1).Told))/\((.bool r.All:Value)=.bool (F125al e1 w1).All)/\((.int .i64 r.Got:Value)=.int .i64 (F125al e1 w1).Got)/\((.bool r.Full:Value)=.bool (F125al e1 w1).Full)/\(Imp (.l 5 eHelloRoute r.Heard) (.l 5 eHelloRoute (F125al e1 w1).Heard))/\((.int .i64 r.Keep:Value)=.int .i64 (F125al e1 w1).Keep)/\True:=by cases hF; exact ⟨rfl,rfl,Imp.refl _,rfl,Imp.refl _,rfl,rfl,rfl,rfl,rfl,rfl,rfl,rfl,rfl,rfl,rfl,Imp.refl _,rfl,rfl,rfl,Imp.refl _,rfl,trivial⟩
def S125al (e1:Ud) (w1:HelloWord):Spec:=⟨[.ot (eHelloEnd e1),.r (.g (eHelloWord w1))],.ag [.v (vI (F125al e1 w1).Name),.v (vI (F125al e1 w1).Peer),.ow (.l 2 eHelloKey (F125al e1 w1).Keys),.v (vI (F125al e1 w1).Boot),.ow (.l 4 eHelloEntry (F125al e1 w1).Want),.v (vI (F125al e1 w1).Turn),.v (vI (F125al e1 w1).PeerBoot),.v (vI (F125al e1 w1).PeerTurn),.v (.bool (F125al e1 w1).Up),.v (vI (F125al e1 w1).Left),.v (vI (F125al e1 w1).Num),.v (vI (F125al e1 w1).Under.Kind),.v (vI (F125al e1 w1).Under.Entry.Addr),.v (vI (F125al e1 w1).Under.Entry.Len),.v (vI (F125al e1 w1).Under.Entry.Cost),.v (vI (F125al e1 w1).Under.Entry.Label),.ow (.l 4 eHelloEntry (F125al e1 w1).Told),.v (.bool (F125al e1 w1).All),.v (vI (F125al e1 w1).Got),.v (.bool (F125al e1 w1).Full),.ow (.l 5 eHelloRoute (F125al e1 w1).Heard),.v (vI (F125al e1 w1).Keep)],EndFit e1/\lisAl e1 w1=true⟩
theorem ok125al (e1:Ud) (w1:HelloWord):(S125al e1 w1).ok Tryz.prog 125 :=
 fnG_ok mixed (fn:=Tryz.f125) (ct:=.seq .no (.cut (ι:=Int×Int×List HelloKey×Int×List Ue×Int×Int×Int×Bool×Int×Int×Int×Int×Int×Int×Int×List Ue×Bool×Int×Bool×List Uf×Int) (fun j=>(fun (e2:Int) (e3:Int) (e4:List HelloKey) (e5:Int) (e6:List Ue) (e7:Int) (e8:Int) (e9:Int) (e10:Bool) (e11:Int) (e12:Int) (e13:Int) (e14:Int) (e15:Int) (e16:Int) (e17:Int) (e18:List Ue) (e19:Bool) (e20:Int) (e21:Bool) (e22:List Uf) (e23:Int)=>(⟨[(2,some (.p 0 0)),(3,some (.p 5 0)),(4,some (.p 6 0))],[(0,some (.box 31 [.v (vI e2),.v (vI e3),.h 1 0,.v (vI e5),.h 2 0,.v (vI e7),.v (vI e8),.v (vI e9),.v (.bool e10),.v (vI e11),.v (vI e12),.v (vI e13),.v (vI e14),.v (vI e15),.v (vI e16),.v (vI e17),.h 3 0,.v (.bool e19),.v (vI e20),.v (.bool e21),.h 4 0,.v (vI e23)])),(1,some (.own 1 (.l 2 eHelloKey e4))),(2,some (.own 2 (.l 4 eHelloEntry e6))),(3,some (.own 3 (.l 4 eHelloEntry e18))),(4,some (.own 4 (.l 5 eHelloRoute e22))),(5,some (.box 39 [.v (vI w1.From),.v (vI w1.To),.v (vI w1.Key),.v (vI w1.Boot),.v (vI w1.Yours),.v (vI w1.Turn),.v (vI w1.Num),.v (vI w1.Heard),.v (vI w1.Change.Kind),.v (vI w1.Change.Entry.Addr),.v (vI w1.Change.Entry.Len),.v (vI w1.Change.Entry.Cost),.v (vI w1.Change.Entry.Label),.v (vI w1.Sum)])),(6,some (.box 31 [.v (vI 0),.v (vI 0),.v (.slice none 0 0),.v (vI 0),.v (.slice none 0 0),.v (vI 0),.v (vI 0),.v (vI 0),.v (.bool false),.v (vI 0),.v (vI 0),.v (vI 0),.v (vI 0),.v (vI 0),.v (vI 0),.v (vI 0),.v (.slice none 0 0),.v (.bool false),.v (vI 0),.v (.bool false),.v (.slice none 0 0),.v (vI 0)]))],7⟩:St)) j.1 j.2.1 j.2.2.1 j.2.2.2.1 j.2.2.2.2.1 j.2.2.2.2.2.1 j.2.2.2.2.2.2.1 j.2.2.2.2.2.2.2.1 j.2.2.2.2.2.2.2.2.1 j.2.2.2.2.2.2.2.2.2.1 j.2.2.2.2.2.2.2.2.2.2.1 j.2.2.2.2.2.2.2.2.2.2.2.1 j.2.2.2.2.2.2.2.2.2.2.2.2.1 j.2.2.2.2.2.2.2.2.2.2.2.2.2.1 j.2.2.2.2.2.2.2.2.2.2.2.2.2.2.1 j.2.2.2.2.2.2.2.2.2.2.2.2.2.2.2.1 j.2.2.2.2.2.2.2.2.2.2.2.2.2.2.2.2.1 j.2.2.2.2.2.2.2.2.2.2.2.2.2.2.2.2.2.1 j.2.2.2.2.2.2.2.2.2.2.2.2.2.2.2.2.2.2.1 j.2.2.2.2.2.2.2.2.2.2.2.2.2.2.2.2.2.2.2.1 j.2.2.2.2.2.2.2.2.2.2.2.2.2.2.2.2.2.2.2.2.1 j.2.2.2.2.2.2.2.2.2.2.2.2.2.2.2.2.2.2.2.2.2) (jJ125al_0 e1 w1) (.seq .no (.cond (.seq (.reg [(1,kh71 e1)]) .no) .no)) (fun j=>(fun (e2:Int) (e3:Int) (e4:List HelloKey) (e5:Int) (e6:List Ue) (e7:Int) (e8:Int) (e9:Int) (e10:Bool) (e11:Int) (e12:Int) (e13:Int) (e14:Int) (e15:Int) (e16:Int) (e17:Int) (e18:List Ue) (e19:Bool) (e20:Int) (e21:Bool) (e22:List Uf) (e23:Int)=>(.seq .no (.seq .no (.seq .no (.seq (.seq .no (.cond (.seq .no .no) .no)) (.cut (ι:=Int×Int×List HelloKey×Int×List Ue×Int×Int×Int×Bool×Int×Int×Int×Int×Int×Int×Int×List Ue×Bool×Int×Bool×List Uf×Int) (fun j=>(fun (e24:Int) (e25:Int) (e26:List HelloKey) (e27:Int) (e28:List Ue) (e29:Int) (e30:Int) (e31:Int) (e32:Bool) (e33:Int) (e34:Int) (e35:Int) (e36:Int) (e37:Int) (e38:Int) (e39:Int) (e40:List Ue) (e41:Bool) (e42:Int) (e43:Bool) (e44:List Uf) (e45:Int)=>(⟨[(2,some (.p 0 0)),(3,some (.p 5 0)),(4,some (.p 6 0))],[(0,some (.box 31 [.v (vI e24),.v (vI e25),.h 1 0,.v (vI e27),.h 2 0,.v (vI e29),.v (vI e30),.v (vI e31),.v (.bool e32),.v (vI e33),.v (vI e34),.v (vI e35),.v (vI e36),.v (vI e37),.v (vI e38),.v (vI e39),.h 3 0,.v (.bool e41),.v (vI e42),.v (.bool e43),.h 4 0,.v (vI e45)])),(1,some (.own 1 (.l 2 eHelloKey e26))),(2,some (.own 2 (.l 4 eHelloEntry e28))),(3,some (.own 3 (.l 4 eHelloEntry e40))),(4,some (.own 4 (.l 5 eHelloRoute e44))),(5,some (.box 39 [.v (vI w1.From),.v (vI w1.To),.v (vI w1.Key),.v (vI w1.Boot),.v (vI w1.Yours),.v (vI w1.Turn),.v (vI w1.Num),.v (vI w1.Heard),.v (vI w1.Change.Kind),.v (vI w1.Change.Entry.Addr),.v (vI w1.Change.Entry.Len),.v (vI w1.Change.Entry.Cost),.v (vI w1.Change.Entry.Label),.v (vI w1.Sum)])),(6,some (.box 31 [.v (vI 0),.v (vI 0),.v (.slice none 0 0),.v (vI 0),.v (.slice none 0 0),.v (vI 0),.v (vI 0),.v (vI 0),.v (.bool false),.v (vI 0),.v (vI 0),.v (vI 0),.v (vI 0),.v (vI 0),.v (vI 0),.v (vI 0),.v (.slice none 0 0),.v (.bool false),.v (vI 0),.v (.bool false),.v (.slice none 0 0),.v (vI 0)]))],7⟩:St)) j.1 j.2.1 j.2.2.1 j.2.2.2.1 j.2.2.2.2.1 j.2.2.2.2.2.1 j.2.2.2.2.2.2.1 j.2.2.2.2.2.2.2.1 j.2.2.2.2.2.2.2.2.1 j.2.2.2.2.2.2.2.2.2.1 j.2.2.2.2.2.2.2.2.2.2.1 j.2.2.2.2.2.2.2.2.2.2.2.1 j.2.2.2.2.2.2.2.2.2.2.2.2.1 j.2.2.2.2.2.2.2.2.2.2.2.2.2.1 j.2.2.2.2.2.2.2.2.2.2.2.2.2.2.1 j.2.2.2.2.2.2.2.2.2.2.2.2.2.2.2.1 j.2.2.2.2.2.2.2.2.2.2.2.2.2.2.2.2.1 j.2.2.2.2.2.2.2.2.2.2.2.2.2.2.2.2.2.1 j.2.2.2.2.2.2.2.2.2.2.2.2.2.2.2.2.2.2.1 j.2.2.2.2.2.2.2.2.2.2.2.2.2.2.2.2.2.2.2.1 j.2.2.2.2.2.2.2.2.2.2.2.2.2.2.2.2.2.2.2.2.1 j.2.2.2.2.2.2.2.2.2.2.2.2.2.2.2.2.2.2.2.2.2) (jJ125al_1 e1 w1 e2 e3 e4 e5 e6 e7 e8 e9 e10 e11 e12 e13 e14 e15 e16 e17 e18 e19 e20 e21 e22 e23) (.seq .no (.cond (.reg [(1,.call 127 (S127 (⟨e2,e3,e4,e5,e6,e7,e8,w1.Turn,(w1.Yours==e5),4,e12,(⟨e13,(⟨e14,e15,e16,e17⟩:Ue)⟩:HelloChange),e18,e19,e20,e21,e22,e23⟩:Ud)) (ok127 (⟨e2,e3,e4,e5,e6,e7,e8,w1.Turn,(w1.Yours==e5),4,e12,(⟨e13,(⟨e14,e15,e16,e17⟩:Ue)⟩:HelloChange),e18,e19,e20,e21,e22,e23⟩:Ud)) none)]) .no)) (fun j=>(fun (e24:Int) (e25:Int) (e26:List HelloKey) (e27:Int) (e28:List Ue) (e29:Int) (e30:Int) (e31:Int) (e32:Bool) (e33:Int) (e34:Int) (e35:Int) (e36:Int) (e37:Int) (e38:Int) (e39:Int) (e40:List Ue) (e41:Bool) (e42:Int) (e43:Bool) (e44:List Uf) (e45:Int)=>(.cut (ι:=Int×Bool) (fun j=>(fun (e46:Int) (e47:Bool)=>(⟨[(2,some (.p 0 0)),(4,some (.p 5 0))],[(0,some (.box 31 [.v (vI e24),.v (vI e25),.h 1 0,.v (vI e27),.h 2 0,.v (vI e29),.v (vI e30),.v (vI e31),.v (.bool e32),.v (vI e33),.v (vI e34),.v (vI e35),.v (vI e36),.v (vI e37),.v (vI e38),.v (vI e39),.h 3 0,.v (.bool e41),.v (vI e46),.v (.bool e47),.h 4 0,.v (vI e45)])),(1,some (.own 1 (.l 2 eHelloKey e26))),(2,some (.own 2 (.l 4 eHelloEntry e28))),(3,some (.own 3 (.l 4 eHelloEntry e40))),(4,some (.own 4 (.l 5 eHelloRoute e44))),(5,some (.box 31 [.v (vI 0),.v (vI 0),.v (.slice none 0 0),.v (vI 0),.v (.slice none 0 0),.v (vI 0),.v (vI 0),.v (vI 0),.v (.bool false),.v (vI 0),.v (vI 0),.v (vI 0),.v (vI 0),.v (vI 0),.v (vI 0),.v (vI 0),.v (.slice none 0 0),.v (.bool false),.v (vI 0),.v (.bool false),.v (.slice none 0 0),.v (vI 0)]))],6⟩:St)) j.1 j.2) (jJ125al_2 e1 w1 e2 e3 e4 e5 e6 e7 e8 e9 e10 e11 e12 e13 e14 e15 e16 e17 e18 e19 e20 e21 e22 e23 e24 e25 e26 e27 e28 e29 e30 e31 e32 e33 e34 e35 e36 e37 e38 e39 e40 e41 e42 e43 e44 e45) (.seq .no (.cond (.seq (.reg [(4,.ci 128 (S128al e44 w1.Change) (ok128al e44 w1.Change))]) (.seq .no (.cond (.seq .no (.seq .no .no)) .no))) .no)) (fun j=>(fun (e46:Int) (e47:Bool)=>(.seq (.reg [(1,.call 129 (S129 (⟨e24,e25,e26,e27,e28,e29,e30,e31,e32,e33,e34,(⟨e35,(⟨e36,e37,e38,e39⟩:Ue)⟩:HelloChange),e40,e41,e46,e47,e44,e45⟩:Ud)) (ok129 (⟨e24,e25,e26,e27,e28,e29,e30,e31,e32,e33,e34,(⟨e35,(⟨e36,e37,e38,e39⟩:Ue)⟩:HelloChange),e40,e41,e46,e47,e44,e45⟩:Ud)) none)]) .no)) j.1 j.2))) j.1 j.2.1 j.2.2.1 j.2.2.2.1 j.2.2.2.2.1 j.2.2.2.2.2.1 j.2.2.2.2.2.2.1 j.2.2.2.2.2.2.2.1 j.2.2.2.2.2.2.2.2.1 j.2.2.2.2.2.2.2.2.2.1 j.2.2.2.2.2.2.2.2.2.2.1 j.2.2.2.2.2.2.2.2.2.2.2.1 j.2.2.2.2.2.2.2.2.2.2.2.2.1 j.2.2.2.2.2.2.2.2.2.2.2.2.2.1 j.2.2.2.2.2.2.2.2.2.2.2.2.2.2.1 j.2.2.2.2.2.2.2.2.2.2.2.2.2.2.2.1 j.2.2.2.2.2.2.2.2.2.2.2.2.2.2.2.2.1 j.2.2.2.2.2.2.2.2.2.2.2.2.2.2.2.2.2.1 j.2.2.2.2.2.2.2.2.2.2.2.2.2.2.2.2.2.2.1 j.2.2.2.2.2.2.2.2.2.2.2.2.2.2.2.2.2.2.2.1 j.2.2.2.2.2.2.2.2.2.2.2.2.2.2.2.2.2.2.2.2.1 j.2.2.2.2.2.2.2.2.2.2.2.2.2.2.2.2.2.2.2.2.2))))))) j.1 j.2.1 j.2.2.1 j.2.2.2.1 j.2.2.2.2.1 j.2.2.2.2.2.1 j.2.2.2.2.2.2.1 j.2.2.2.2.2.2.2.1 j.2.2.2.2.2.2.2.2.1 j.2.2.2.2.2.2.2.2.2.1 j.2.2.2.2.2.2.2.2.2.2.1 j.2.2.2.2.2.2.2.2.2.2.2.1 j.2.2.2.2.2.2.2.2.2.2.2.2.1 j.2.2.2.2.2.2.2.2.2.2.2.2.2.1 j.2.2.2.2.2.2.2.2.2.2.2.2.2.2.1 j.2.2.2.2.2.2.2.2.2.2.2.2.2.2.2.1 j.2.2.2.2.2.2.2.2.2.2.2.2.2.2.2.2.1 j.2.2.2.2.2.2.2.2.2.2.2.2.2.2.2.2.2.1 j.2.2.2.2.2.2.2.2.2.2.2.2.2.2.2.2.2.2.1 j.2.2.2.2.2.2.2.2.2.2.2.2.2.2.2.2.2.2.2.1 j.2.2.2.2.2.2.2.2.2.2.2.2.2.2.2.2.2.2.2.2.1 j.2.2.2.2.2.2.2.2.2.2.2.2.2.2.2.2.2.2.2.2.2))) Tryz.func125 (fun (hp:EndFit e1/\lisAl e1 w1=true)=>have hpre0:=hp.1; have hpre1:=hp.2; ai (ifd (w1.Boot>e1.PeerBoot) (fun h1 _=>kc71 e1 (jn125al_0 e1 w1 (F71 e1).Name (F71 e1).Peer (F71 e1).Keys (F71 e1).Boot (F71 e1).Want (F71 e1).Turn w1.Boot (F71 e1).PeerTurn (F71 e1).Up (F71 e1).Left (F71 e1).Num (F71 e1).Under.Kind (F71 e1).Under.Entry.Addr (F71 e1).Under.Entry.Len (F71 e1).Under.Entry.Cost (F71 e1).Under.Entry.Label (F71 e1).Told (F71 e1).All (F71 e1).Got (F71 e1).Full (F71 e1).Heard (F71 e1).Keep (Ri (condT h1 rfl)) uu19)) (fun h1 _=>jn125al_0 e1 w1 e1.Name e1.Peer e1.Keys e1.Boot e1.Want e1.Turn e1.PeerBoot e1.PeerTurn e1.Up e1.Left e1.Num e1.Under.Kind e1.Under.Entry.Addr e1.Under.Entry.Len e1.Under.Entry.Cost e1.Under.Entry.Label e1.Told e1.All e1.Got e1.Full e1.Heard e1.Keep (Ri (condF h1 rfl)) uu19)) (fun (j:Int×Int×List HelloKey×Int×List Ue×Int×Int×Int×Bool×Int×Int×Int×Int×Int×Int×Int×List Ue×Bool×Int×Bool×List Uf×Int) (hj:jJ125al_0 e1 w1 j)=>(fun (e2:Int) (e3:Int) (e4:List HelloKey) (e5:Int) (e6:List Ue) (e7:Int) (e8:Int) (e9:Int) (e10:Bool) (e11:Int) (e12:Int) (e13:Int) (e14:Int) (e15:Int) (e16:Int) (e17:Int) (e18:List Ue) (e19:Bool) (e20:Int) (e21:Bool) (e22:List Uf) (e23:Int) (hJ0_2:(F125al_j0 e1 w1)=Lp.done (e2,e3,e4,e5,e6,e7,e8,e9,e10,e11,e12,e13,e14,e15,e16,e17,e18,e19,e20,e21,e22,e23)) (hw:jI125al_0 e1 w1 e2 e3 e4 e5 e6 e7 e8 e9 e10 e11 e12 e13 e14 e15 e16 e17 e18 e19 e20 e21 e22 e23)=>have _:=hw.1; ifb (!(w1.Yours==e5)) (fun h3=>have _:=beqF (notET h3); fi125al e1 w1 (⟨e2,e3,e4,e5,e6,e7,e8,w1.Turn,(w1.Yours==e5),4,e12,(⟨e13,(⟨e14,e15,e16,e17⟩:Ue)⟩:HelloChange),e18,e19,e20,e21,e22,e23⟩:Ud) (finD hJ0_2 (condT h3 rfl))) (fun h3=>have _:=eq_of_beq (notEF h3); ai (ifb (bif decide (e13>0) then (w1.Heard==e12) else false) (fun h4=>have _:=Qb (andT1 h4); have _:=eq_of_beq (andT2 h4); ai (by exact lj_small (by assumption) (by assumption):smallE (⟨e2,e3,e4,e5,e6,e7,e8,w1.Turn,(w1.Yours==e5),4,e12,(⟨e13,(⟨e14,e15,e16,e17⟩:Ue)⟩:HelloChange),e18,e19,e20,e21,e22,e23⟩:Ud)) (ai (Imps.refl (eHelloEnd (⟨e2,e3,e4,e5,e6,e7,e8,w1.Turn,(w1.Yours==e5),4,e12,(⟨e13,(⟨e14,e15,e16,e17⟩:Ue)⟩:HelloChange),e18,e19,e20,e21,e22,e23⟩:Ud))) (have gv5:(F127 ⟨e2,e3,e4,e5,e6,e7,e8,w1.Turn,(w1.Yours==e5),4,e12,(⟨e13,(⟨e14,e15,e16,e17⟩:Ue)⟩:HelloChange),e18,e19,e20,e21,e22,e23⟩).Heard=e22/\(F127 ⟨e2,e3,e4,e5,e6,e7,e8,w1.Turn,(w1.Yours==e5),4,e12,(⟨e13,(⟨e14,e15,e16,e17⟩:Ue)⟩:HelloChange),e18,e19,e20,e21,e22,e23⟩).Keys=e4/\(F127 ⟨e2,e3,e4,e5,e6,e7,e8,w1.Turn,(w1.Yours==e5),4,e12,(⟨e13,(⟨e14,e15,e16,e17⟩:Ue)⟩:HelloChange),e18,e19,e20,e21,e22,e23⟩).Want=e6/\(F127 ⟨e2,e3,e4,e5,e6,e7,e8,w1.Turn,(w1.Yours==e5),4,e12,(⟨e13,(⟨e14,e15,e16,e17⟩:Ue)⟩:HelloChange),e18,e19,e20,e21,e22,e23⟩).Told.length<=e18.length+1:=answered_len (⟨e2,e3,e4,e5,e6,e7,e8,w1.Turn,(w1.Yours==e5),4,e12,(⟨e13,(⟨e14,e15,e16,e17⟩:Ue)⟩:HelloChange),e18,e19,e20,e21,e22,e23⟩:Ud); jn125al_1 e1 w1 e2 e3 e4 e5 e6 e7 e8 e9 e10 e11 e12 e13 e14 e15 e16 e17 e18 e19 e20 e21 e22 e23 (F127 ⟨e2,e3,e4,e5,e6,e7,e8,w1.Turn,(w1.Yours==e5),4,e12,(⟨e13,(⟨e14,e15,e16,e17⟩:Ue)⟩:HelloChange),e18,e19,e20,e21,e22,e23⟩).Name (F127 ⟨e2,e3,e4,e5,e6,e7,e8,w1.Turn,(w1.Yours==e5),4,e12,(⟨e13,(⟨e14,e15,e16,e17⟩:Ue)⟩:HelloChange),e18,e19,e20,e21,e22,e23⟩).Peer (F127 ⟨e2,e3,e4,e5,e6,e7,e8,w1.Turn,(w1.Yours==e5),4,e12,(⟨e13,(⟨e14,e15,e16,e17⟩:Ue)⟩:HelloChange),e18,e19,e20,e21,e22,e23⟩).Keys (F127 ⟨e2,e3,e4,e5,e6,e7,e8,w1.Turn,(w1.Yours==e5),4,e12,(⟨e13,(⟨e14,e15,e16,e17⟩:Ue)⟩:HelloChange),e18,e19,e20,e21,e22,e23⟩).Boot (F127 ⟨e2,e3,e4,e5,e6,e7,e8,w1.Turn,(w1.Yours==e5),4,e12,(⟨e13,(⟨e14,e15,e16,e17⟩:Ue)⟩:HelloChange),e18,e19,e20,e21,e22,e23⟩).Want (F127 ⟨e2,e3,e4,e5,e6,e7,e8,w1.Turn,(w1.Yours==e5),4,e12,(⟨e13,(⟨e14,e15,e16,e17⟩:Ue)⟩:HelloChange),e18,e19,e20,e21,e22,e23⟩).Turn (F127 ⟨e2,e3,e4,e5,e6,e7,e8,w1.Turn,(w1.Yours==e5),4,e12,(⟨e13,(⟨e14,e15,e16,e17⟩:Ue)⟩:HelloChange),e18,e19,e20,e21,e22,e23⟩).PeerBoot (F127 ⟨e2,e3,e4,e5,e6,e7,e8,w1.Turn,(w1.Yours==e5),4,e12,(⟨e13,(⟨e14,e15,e16,e17⟩:Ue)⟩:HelloChange),e18,e19,e20,e21,e22,e23⟩).PeerTurn (F127 ⟨e2,e3,e4,e5,e6,e7,e8,w1.Turn,(w1.Yours==e5),4,e12,(⟨e13,(⟨e14,e15,e16,e17⟩:Ue)⟩:HelloChange),e18,e19,e20,e21,e22,e23⟩).Up (F127 ⟨e2,e3,e4,e5,e6,e7,e8,w1.Turn,(w1.Yours==e5),4,e12,(⟨e13,(⟨e14,e15,e16,e17⟩:Ue)⟩:HelloChange),e18,e19,e20,e21,e22,e23⟩).Left (F127 ⟨e2,e3,e4,e5,e6,e7,e8,w1.Turn,(w1.Yours==e5),4,e12,(⟨e13,(⟨e14,e15,e16,e17⟩:Ue)⟩:HelloChange),e18,e19,e20,e21,e22,e23⟩).Num (F127 ⟨e2,e3,e4,e5,e6,e7,e8,w1.Turn,(w1.Yours==e5),4,e12,(⟨e13,(⟨e14,e15,e16,e17⟩:Ue)⟩:HelloChange),e18,e19,e20,e21,e22,e23⟩).Under.Kind (F127 ⟨e2,e3,e4,e5,e6,e7,e8,w1.Turn,(w1.Yours==e5),4,e12,(⟨e13,(⟨e14,e15,e16,e17⟩:Ue)⟩:HelloChange),e18,e19,e20,e21,e22,e23⟩).Under.Entry.Addr (F127 ⟨e2,e3,e4,e5,e6,e7,e8,w1.Turn,(w1.Yours==e5),4,e12,(⟨e13,(⟨e14,e15,e16,e17⟩:Ue)⟩:HelloChange),e18,e19,e20,e21,e22,e23⟩).Under.Entry.Len (F127 ⟨e2,e3,e4,e5,e6,e7,e8,w1.Turn,(w1.Yours==e5),4,e12,(⟨e13,(⟨e14,e15,e16,e17⟩:Ue)⟩:HelloChange),e18,e19,e20,e21,e22,e23⟩).Under.Entry.Cost (F127 ⟨e2,e3,e4,e5,e6,e7,e8,w1.Turn,(w1.Yours==e5),4,e12,(⟨e13,(⟨e14,e15,e16,e17⟩:Ue)⟩:HelloChange),e18,e19,e20,e21,e22,e23⟩).Under.Entry.Label (F127 ⟨e2,e3,e4,e5,e6,e7,e8,w1.Turn,(w1.Yours==e5),4,e12,(⟨e13,(⟨e14,e15,e16,e17⟩:Ue)⟩:HelloChange),e18,e19,e20,e21,e22,e23⟩).Told (F127 ⟨e2,e3,e4,e5,e6,e7,e8,w1.Turn,(w1.Yours==e5),4,e12,(⟨e13,(⟨e14,e15,e16,e17⟩:Ue)⟩:HelloChange),e18,e19,e20,e21,e22,e23⟩).All (F127 ⟨e2,e3,e4,e5,e6,e7,e8,w1.Turn,(w1.Yours==e5),4,e12,(⟨e13,(⟨e14,e15,e16,e17⟩:Ue)⟩:HelloChange),e18,e19,e20,e21,e22,e23⟩).Got (F127 ⟨e2,e3,e4,e5,e6,e7,e8,w1.Turn,(w1.Yours==e5),4,e12,(⟨e13,(⟨e14,e15,e16,e17⟩:Ue)⟩:HelloChange),e18,e19,e20,e21,e22,e23⟩).Full (F127 ⟨e2,e3,e4,e5,e6,e7,e8,w1.Turn,(w1.Yours==e5),4,e12,(⟨e13,(⟨e14,e15,e16,e17⟩:Ue)⟩:HelloChange),e18,e19,e20,e21,e22,e23⟩).Heard (F127 ⟨e2,e3,e4,e5,e6,e7,e8,w1.Turn,(w1.Yours==e5),4,e12,(⟨e13,(⟨e14,e15,e16,e17⟩:Ue)⟩:HelloChange),e18,e19,e20,e21,e22,e23⟩).Keep (Ri (condT h4 rfl)) uu19))) (fun h4=>jn125al_1 e1 w1 e2 e3 e4 e5 e6 e7 e8 e9 e10 e11 e12 e13 e14 e15 e16 e17 e18 e19 e20 e21 e22 e23 e2 e3 e4 e5 e6 e7 e8 w1.Turn (w1.Yours==e5) 4 e12 e13 e14 e15 e16 e17 e18 e19 e20 e21 e22 e23 (Ri (condF h4 rfl)) uu19)) (fun (j:Int×Int×List HelloKey×Int×List Ue×Int×Int×Int×Bool×Int×Int×Int×Int×Int×Int×Int×List Ue×Bool×Int×Bool×List Uf×Int) (hj:jJ125al_1 e1 w1 e2 e3 e4 e5 e6 e7 e8 e9 e10 e11 e12 e13 e14 e15 e16 e17 e18 e19 e20 e21 e22 e23 j)=>(fun (e24:Int) (e25:Int) (e26:List HelloKey) (e27:Int) (e28:List Ue) (e29:Int) (e30:Int) (e31:Int) (e32:Bool) (e33:Int) (e34:Int) (e35:Int) (e36:Int) (e37:Int) (e38:Int) (e39:Int) (e40:List Ue) (e41:Bool) (e42:Int) (e43:Bool) (e44:List Uf) (e45:Int) (hJ1_6:(F125al_j1 e1 w1 e2 e3 e4 e5 e6 e7 e8 e9 e10 e11 e12 e13 e14 e15 e16 e17 e18 e19 e20 e21 e22 e23)=Lp.done (e24,e25,e26,e27,e28,e29,e30,e31,e32,e33,e34,e35,e36,e37,e38,e39,e40,e41,e42,e43,e44,e45)) (hw:jI125al_1 e1 w1 e2 e3 e4 e5 e6 e7 e8 e9 e10 e11 e12 e13 e14 e15 e16 e17 e18 e19 e20 e21 e22 e23 e24 e25 e26 e27 e28 e29 e30 e31 e32 e33 e34 e35 e36 e37 e38 e39 e40 e41 e42 e43 e44 e45)=>have _:=hw.1; ai (ifb (bif decide (w1.Change.Kind>0) then (w1.Num==(IntKind.i64.wrap (e42+1))) else false) (fun h7=>have _:=Qb (andT1 h7); have _:=eq_of_beq (andT2 h7); ai (uu32:toldAl e44 w1.Change=true) (ai (Imp.refl (.l 5 eHelloRoute e44)) (ai (Imps.refl (eHelloChange w1.Change)) (ifb (w1.Change.Kind==2) (fun h8=>jn125al_2 e1 w1 e2 e3 e4 e5 e6 e7 e8 e9 e10 e11 e12 e13 e14 e15 e16 e17 e18 e19 e20 e21 e22 e23 e24 e25 e26 e27 e28 e29 e30 e31 e32 e33 e34 e35 e36 e37 e38 e39 e40 e41 e42 e43 e44 e45 w1.Num (bif e43 then true else (w1.Change.Kind==3)) (Ri (condT h7 (condT h8 rfl))) ) (fun h8=>jn125al_2 e1 w1 e2 e3 e4 e5 e6 e7 e8 e9 e10 e11 e12 e13 e14 e15 e16 e17 e18 e19 e20 e21 e22 e23 e24 e25 e26 e27 e28 e29 e30 e31 e32 e33 e34 e35 e36 e37 e38 e39 e40 e41 e42 e43 e44 e45 e42 e43 (Ri (condT h7 (condF h8 rfl))) ))))) (fun h7=>jn125al_2 e1 w1 e2 e3 e4 e5 e6 e7 e8 e9 e10 e11 e12 e13 e14 e15 e16 e17 e18 e19 e20 e21 e22 e23 e24 e25 e26 e27 e28 e29 e30 e31 e32 e33 e34 e35 e36 e37 e38 e39 e40 e41 e42 e43 e44 e45 e42 e43 (Ri (condF h7 rfl)) )) (fun (j:Int×Bool) (hj:jJ125al_2 e1 w1 e2 e3 e4 e5 e6 e7 e8 e9 e10 e11 e12 e13 e14 e15 e16 e17 e18 e19 e20 e21 e22 e23 e24 e25 e26 e27 e28 e29 e30 e31 e32 e33 e34 e35 e36 e37 e38 e39 e40 e41 e42 e43 e44 e45 j)=>(fun (e46:Int) (e47:Bool) (hJ2_9:(F125al_j2 e1 w1 e2 e3 e4 e5 e6 e7 e8 e9 e10 e11 e12 e13 e14 e15 e16 e17 e18 e19 e20 e21 e22 e23 e24 e25 e26 e27 e28 e29 e30 e31 e32 e33 e34 e35 e36 e37 e38 e39 e40 e41 e42 e43 e44 e45)=Lp.done (e46,e47))=>ai trivial (ai (Imps.refl (eHelloEnd (⟨e24,e25,e26,e27,e28,e29,e30,e31,e32,e33,e34,(⟨e35,(⟨e36,e37,e38,e39⟩:Ue)⟩:HelloChange),e40,e41,e46,e47,e44,e45⟩:Ud))) (fi125al e1 w1 (F129 ⟨e24,e25,e26,e27,e28,e29,e30,e31,e32,e33,e34,(⟨e35,(⟨e36,e37,e38,e39⟩:Ue)⟩:HelloChange),e40,e41,e46,e47,e44,e45⟩) (finD hJ0_2 (condF h3 (finD hJ1_6 (finD hJ2_9 rfl))))))) j.1 j.2 hj)) j.1 j.2.1 j.2.2.1 j.2.2.2.1 j.2.2.2.2.1 j.2.2.2.2.2.1 j.2.2.2.2.2.2.1 j.2.2.2.2.2.2.2.1 j.2.2.2.2.2.2.2.2.1 j.2.2.2.2.2.2.2.2.2.1 j.2.2.2.2.2.2.2.2.2.2.1 j.2.2.2.2.2.2.2.2.2.2.2.1 j.2.2.2.2.2.2.2.2.2.2.2.2.1 j.2.2.2.2.2.2.2.2.2.2.2.2.2.1 j.2.2.2.2.2.2.2.2.2.2.2.2.2.2.1 j.2.2.2.2.2.2.2.2.2.2.2.2.2.2.2.1 j.2.2.2.2.2.2.2.2.2.2.2.2.2.2.2.2.1 j.2.2.2.2.2.2.2.2.2.2.2.2.2.2.2.2.2.1 j.2.2.2.2.2.2.2.2.2.2.2.2.2.2.2.2.2.2.1 j.2.2.2.2.2.2.2.2.2.2.2.2.2.2.2.2.2.2.2.1 j.2.2.2.2.2.2.2.2.2.2.2.2.2.2.2.2.2.2.2.2.1 j.2.2.2.2.2.2.2.2.2.2.2.2.2.2.2.2.2.2.2.2.2 hj.1 hj.2))) j.1 j.2.1 j.2.2.1 j.2.2.2.1 j.2.2.2.2.1 j.2.2.2.2.2.1 j.2.2.2.2.2.2.1 j.2.2.2.2.2.2.2.1 j.2.2.2.2.2.2.2.2.1 j.2.2.2.2.2.2.2.2.2.1 j.2.2.2.2.2.2.2.2.2.2.1 j.2.2.2.2.2.2.2.2.2.2.2.1 j.2.2.2.2.2.2.2.2.2.2.2.2.1 j.2.2.2.2.2.2.2.2.2.2.2.2.2.1 j.2.2.2.2.2.2.2.2.2.2.2.2.2.2.1 j.2.2.2.2.2.2.2.2.2.2.2.2.2.2.2.1 j.2.2.2.2.2.2.2.2.2.2.2.2.2.2.2.2.1 j.2.2.2.2.2.2.2.2.2.2.2.2.2.2.2.2.2.1 j.2.2.2.2.2.2.2.2.2.2.2.2.2.2.2.2.2.2.1 j.2.2.2.2.2.2.2.2.2.2.2.2.2.2.2.2.2.2.2.1 j.2.2.2.2.2.2.2.2.2.2.2.2.2.2.2.2.2.2.2.2.1 j.2.2.2.2.2.2.2.2.2.2.2.2.2.2.2.2.2.2.2.2.2 hj.1 hj.2)) uu3
theorem kc128fr (list:List Uf) (c:HelloChange) {K_:Prop} (p0_:toldAl list c=false) (p1_:list.length<=16) (k_:K_):(toldAl list c=false/\list.length<=16)/\(Imp (.l 5 eHelloRoute list) (.l 5 eHelloRoute list))/\(Imps (eHelloChange c) (eHelloChange c))/\K_:=⟨⟨p0_,p1_⟩,Imp.refl _,Imps.refl _,k_⟩
abbrev kh128fr (list:List Uf) (c:HelloChange):Hint true Tryz.prog:=.call 128 (S128fr list c) (ok128fr list c) none
def F125fr_j2 (e1:Ud) (w1:HelloWord) (e2:Int) (e3:Int) (e4:List HelloKey) (e5:Int) (e6:List Ue) (e7:Int) (e8:Int) (e9:Int) (e10:Bool) (e11:Int) (e12:Int) (e13:Int) (e14:Int) (e15:Int) (e16:Int) (e17:Int) (e18:List Ue) (e19:Bool) (e20:Int) (e21:Bool) (e22:List Uf) (e23:Int) (e24:Int) (e25:Int) (e26:List HelloKey) (e27:Int) (e28:List Ue) (e29:Int) (e30:Int) (e31:Int) (e32:Bool) (e33:Int) (e34:Int) (e35:Int) (e36:Int) (e37:Int) (e38:Int) (e39:Int) (e40:List Ue) (e41:Bool) (e42:Int) (e43:Bool) (e44:List Uf) (e45:Int):Lp (Int×Bool×List Uf) Ud :=
 bif (bif decide (w1.Change.Kind>0) then (w1.Num==(IntKind.i64.wrap (e42+1))) else false) then (bif (F128fr e44 w1.Change).2 then (.done (w1.Num,(bif e43 then true else (w1.Change.Kind==3)),(F128fr e44 w1.Change).1)) else (.done (e42,e43,e44))) else (.done (e42,e43,e44))
def F125fr (e1:Ud) (w1:HelloWord):Ud :=
 (F125al_j0 e1 w1).fin (fun r=>r) (fun (e2,e3,e4,e5,e6,e7,e8,e9,e10,e11,e12,e13,e14,e15,e16,e17,e18,e19,e20,e21,e22,e23)=>bif (!(w1.Yours==e5)) then (⟨e2,e3,e4,e5,e6,e7,e8,w1.Turn,(w1.Yours==e5),4,e12,(⟨e13,(⟨e14,e15,e16,e17⟩:Ue)⟩:HelloChange),e18,e19,e20,e21,e22,e23⟩:Ud) else ((F125al_j1 e1 w1 e2 e3 e4 e5 e6 e7 e8 e9 e10 e11 e12 e13 e14 e15 e16 e17 e18 e19 e20 e21 e22 e23).fin (fun r=>r) (fun (e24,e25,e26,e27,e28,e29,e30,e31,e32,e33,e34,e35,e36,e37,e38,e39,e40,e41,e42,e43,e44,e45)=>(F125fr_j2 e1 w1 e2 e3 e4 e5 e6 e7 e8 e9 e10 e11 e12 e13 e14 e15 e16 e17 e18 e19 e20 e21 e22 e23 e24 e25 e26 e27 e28 e29 e30 e31 e32 e33 e34 e35 e36 e37 e38 e39 e40 e41 e42 e43 e44 e45).fin (fun r=>r) (fun (e46,e47,e48)=>(F129 ⟨e24,e25,e26,e27,e28,e29,e30,e31,e32,e33,e34,(⟨e35,(⟨e36,e37,e38,e39⟩:Ue)⟩:HelloChange),e40,e41,e46,e47,e48,e45⟩)))))
abbrev jJ125fr_2 (e1:Ud) (w1:HelloWord) (e2:Int) (e3:Int) (e4:List HelloKey) (e5:Int) (e6:List Ue) (e7:Int) (e8:Int) (e9:Int) (e10:Bool) (e11:Int) (e12:Int) (e13:Int) (e14:Int) (e15:Int) (e16:Int) (e17:Int) (e18:List Ue) (e19:Bool) (e20:Int) (e21:Bool) (e22:List Uf) (e23:Int) (e24:Int) (e25:Int) (e26:List HelloKey) (e27:Int) (e28:List Ue) (e29:Int) (e30:Int) (e31:Int) (e32:Bool) (e33:Int) (e34:Int) (e35:Int) (e36:Int) (e37:Int) (e38:Int) (e39:Int) (e40:List Ue) (e41:Bool) (e42:Int) (e43:Bool) (e44:List Uf) (e45:Int) (j:Int×Bool×List Uf):Prop:=(F125fr_j2 e1 w1 e2 e3 e4 e5 e6 e7 e8 e9 e10 e11 e12 e13 e14 e15 e16 e17 e18 e19 e20 e21 e22 e23 e24 e25 e26 e27 e28 e29 e30 e31 e32 e33 e34 e35 e36 e37 e38 e39 e40 e41 e42 e43 e44 e45)=Lp.done j
theorem jn125fr_2 (e1:Ud) (w1:HelloWord) (e2:Int) (e3:Int) (e4:List HelloKey) (e5:Int) (e6:List Ue) (e7:Int) (e8:Int) (e9:Int) (e10:Bool) (e11:Int) (e12:Int) (e13:Int) (e14:Int) (e15:Int) (e16:Int) (e17:Int) (e18:List Ue) (e19:Bool) (e20:Int) (e21:Bool) (e22:List Uf) (e23:Int) (e24:Int) (e25:Int) (e26:List HelloKey) (e27:Int) (e28:List Ue) (e29:Int) (e30:Int) (e31:Int) (e32:Bool) (e33:Int) (e34:Int) (e35:Int) (e36:Int) (e37:Int) (e38:Int) (e39:Int) (e40:List Ue) (e41:Bool) (e42:Int) (e43:Bool) (e44:List Uf) (e45:Int) (e46:Int) (e47:Bool) (e48:List Uf) (e:(F125fr_j2 e1 w1 e2 e3 e4 e5 e6 e7 e8 e9 e10 e11 e12 e13 e14 e15 e16 e17 e18 e19 e20 e21 e22 e23 e24 e25 e26 e27 e28 e29 e30 e31 e32 e33 e34 e35 e36 e37 e38 e39 e40 e41 e42 e43 e44 e45)=Lp.done (e46,e47,e48)):∃ j:Int×Bool×List Uf,((.int .i64 e24:Value)=.int .i64 e24)/\((.int .i64 e25:Value)=.int .i64 e25)/\((.int .i64 e27:Value)=.int .i64 e27)/\((.int .i64 e29:Value)=.int .i64 e29)/\((.int .i64 e30:Value)=.int .i64 e30)/\((.int .i64 e31:Value)=.int .i64 e31)/\((.bool e32:Value)=.bool e32)/\((.int .i64 e33:Value)=.int .i64 e33)/\((.int .i64 e34:Value)=.int .i64 e34)/\((.int .i64 e35:Value)=.int .i64 e35)/\((.int .i64 e36:Value)=.int .i64 e36)/\((.int .i64 e37:Value)=.int .i64 e37)/\((.int .i64 e38:Value)=.int .i64 e38)/\((.int .i64 e39:Value)=.int .i64 e39)/\((.bool e41:Value)=.bool e41)/\((.int .i64 e46:Value)=.int .i64 j.1)/\((.bool e47:Value)=.bool j.2.1)/\((.int .i64 e45:Value)=.int .i64 e45)/\(Imp (.l 2 eHelloKey e26) (.l 2 eHelloKey e26))/\(Imp (.l 4 eHelloEntry e28) (.l 4 eHelloEntry e28))/\(Imp (.l 4 eHelloEntry e40) (.l 4 eHelloEntry e40))/\(Imp (.l 5 eHelloRoute e48) (.l 5 eHelloRoute j.2.2))/\((.int .i64 0:Value)=.int .i64 0)/\((.int .i64 0:Value)=.int .i64 0)/\((.slice none 0 0:Value)=.slice none 0 0)/\((.int .i64 0:Value)=.int .i64 0)/\((.slice none 0 0:Value)=.slice none 0 0)/\((.int .i64 0:Value)=.int .i64 0)/\((.int .i64 0:Value)=.int .i64 0)/\((.int .i64 0:Value)=.int .i64 0)/\((.bool false:Value)=.bool false)/\((.int .i64 0:Value)=.int .i64 0)/\((.int .i64 0:Value)=.int .i64 0)/\((.int .i64 0:Value)=.int .i64 0)/\((.int .i64 0:Value)=.int .i64 0)/\((.int .i64 0:Value)=.int .i64 0)/\((.int .i64 0:Value)=.int .i64 0)/\((.int .i64 0:Value)=.int .i64 0)/\((.slice none 0 0:Value)=.slice none 0 0)/\((.bool false:Value)=.bool false)/\((.int .i64 0:Value)=.int .i64 0)/\((.bool false:Value)=.bool false)/\((.slice none 0 0:Value)=.slice none 0 0)/\((.int .i64 0:Value)=.int .i64 0)/\jJ125fr_2 e1 w1 e2 e3 e4 e5 e6 e7 e8 e9 e10 e11 e12 e13 e14 e15 e16 e17 e18 e19 e20 e21 e22 e23 e24 e25 e26 e27 e28 e29 e30 e31 e32 e33 e34 e35 e36 e37 e38 e39 e40 e41 e42 e43 e44 e45 j:=⟨(e46,e47,e48),rfl,rfl,rfl,rfl,rfl,rfl,rfl,rfl,rfl,rfl,rfl,rfl,rfl,rfl,rfl,rfl,rfl,rfl,Imp.refl _,Imp.refl _,Imp.refl _,Imp.refl _,rfl,rfl,rfl,rfl,rfl,rfl,rfl,rfl,rfl,rfl,rfl,rfl,rfl,rfl,rfl,rfl,rfl,rfl,rfl,rfl,rfl,rfl,e⟩
theorem fi125fr (e1:Ud) (w1:HelloWord) (r:Ud) (hF:r=(F125fr e1 w1)):((.int .i64 r.Name:Value)=.int .i64 (F125fr e1 w1).Name)/\((.int .i64 r.Peer:Value)=.int .i64 (F125fr e1 w1).Peer)/\(Imp (.l 2 eHelloKey r.Keys) (.l 2 eHelloKey (F125fr e1 w1).Keys))/\((.int .i64 r.Boot:Value)=.int .i64 (F125fr e1 w1).Boot)/\(Imp (.l 4 eHelloEntry r.Want) (.l 4 eHelloEntry (F125fr e1 w1).Want))/\((.int .i64 r.Turn:Value)=.int .i64 (F125fr e1 w1).Turn)/\((.int .i64 r.PeerBoot:Value)=.int .i64 (F125fr e1 w1).PeerBoot)/\((.int .i64 r.PeerTurn:Value)=.int .i64 (F125fr e1 w1).PeerTurn)/\((.bool r.Up:Value)=.bool (F125fr e1 w1).Up)/\((.int .i64 r.Left:Value)=.int .i64 (F125fr e1 w1).Left)/\((.int .i64 r.Num:Value)=.int .i64 (F125fr e1 w1).Num)/\((.int .i64 r.Under.Kind:Value)=.int .i64 (F125fr e1 w1).Under.Kind)/\((.int .i64 r.Under.Entry.Addr:Value)=.int .i64 (F125fr e1 w1).Under.Entry.Addr)/\((.int .i64 r.Under.Entry.Len:Value)=.int .i64 (F125fr e1 w1).Under.Entry.Len)/\((.int .i64 r.Under.Entry.Cost:Value)=.int .i64 (F125fr e1 w1).Under.Entry.Cost)/\((.int .i64 r.Under.Entry.Label:Value)=.int .i64 (F125fr e1 w1).Under.Entry.Label)/\(Imp (.l 4 eHelloEntry r.Told) (.l 4 eHelloEntry (F125fr e1 w1).Told))/\((.bool r.All:Value)=.bool (F125fr e1 w1).All)/\((.int .i64 r.Got:Value)=.int .i64 (F125fr e1 w1).Got)/\((.bool r.Full:Value)=.bool (F125fr e1 w1).Full)/\(Imp (.l 5 eHelloRoute r.Heard) (.l 5 eHelloRoute (F125fr e1 w1).Heard))/\((.int .i64 r.Keep:Value)=.int .i64 (F125fr e1 w1).Keep)/\True:=by cases hF; exact ⟨rfl,rfl,Imp.refl _,rfl,Imp.refl _,rfl,rfl,rfl,rfl,rfl,rfl,rfl,rfl,rfl,rfl,rfl,Imp.refl _,rfl,rfl,rfl,Imp.refl _,rfl,trivial⟩
def S125fr (e1:Ud) (w1:HelloWord):Spec:=⟨[.ot (eHelloEnd e1),.r (.g (eHelloWord w1))],.ag [.v (vI (F125fr e1 w1).Name),.v (vI (F125fr e1 w1).Peer),.ow (.l 2 eHelloKey (F125fr e1 w1).Keys),.v (vI (F125fr e1 w1).Boot),.ow (.l 4 eHelloEntry (F125fr e1 w1).Want),.v (vI (F125fr e1 w1).Turn),.v (vI (F125fr e1 w1).PeerBoot),.v (vI (F125fr e1 w1).PeerTurn),.v (.bool (F125fr e1 w1).Up),.v (vI (F125fr e1 w1).Left),.v (vI (F125fr e1 w1).Num),.v (vI (F125fr e1 w1).Under.Kind),.v (vI (F125fr e1 w1).Under.Entry.Addr),.v (vI (F125fr e1 w1).Under.Entry.Len),.v (vI (F125fr e1 w1).Under.Entry.Cost),.v (vI (F125fr e1 w1).Under.Entry.Label),.ow (.l 4 eHelloEntry (F125fr e1 w1).Told),.v (.bool (F125fr e1 w1).All),.v (vI (F125fr e1 w1).Got),.v (.bool (F125fr e1 w1).Full),.ow (.l 5 eHelloRoute (F125fr e1 w1).Heard),.v (vI (F125fr e1 w1).Keep)],EndFit e1/\lisAl e1 w1=false⟩
theorem ok125fr (e1:Ud) (w1:HelloWord):(S125fr e1 w1).ok Tryz.prog 125 :=
 fnG_ok mixed (fn:=Tryz.f125) (ct:=.seq .no (.cut (ι:=Int×Int×List HelloKey×Int×List Ue×Int×Int×Int×Bool×Int×Int×Int×Int×Int×Int×Int×List Ue×Bool×Int×Bool×List Uf×Int) (fun j=>(fun (e2:Int) (e3:Int) (e4:List HelloKey) (e5:Int) (e6:List Ue) (e7:Int) (e8:Int) (e9:Int) (e10:Bool) (e11:Int) (e12:Int) (e13:Int) (e14:Int) (e15:Int) (e16:Int) (e17:Int) (e18:List Ue) (e19:Bool) (e20:Int) (e21:Bool) (e22:List Uf) (e23:Int)=>(⟨[(2,some (.p 0 0)),(3,some (.p 5 0)),(4,some (.p 6 0))],[(0,some (.box 31 [.v (vI e2),.v (vI e3),.h 1 0,.v (vI e5),.h 2 0,.v (vI e7),.v (vI e8),.v (vI e9),.v (.bool e10),.v (vI e11),.v (vI e12),.v (vI e13),.v (vI e14),.v (vI e15),.v (vI e16),.v (vI e17),.h 3 0,.v (.bool e19),.v (vI e20),.v (.bool e21),.h 4 0,.v (vI e23)])),(1,some (.own 1 (.l 2 eHelloKey e4))),(2,some (.own 2 (.l 4 eHelloEntry e6))),(3,some (.own 3 (.l 4 eHelloEntry e18))),(4,some (.own 4 (.l 5 eHelloRoute e22))),(5,some (.box 39 [.v (vI w1.From),.v (vI w1.To),.v (vI w1.Key),.v (vI w1.Boot),.v (vI w1.Yours),.v (vI w1.Turn),.v (vI w1.Num),.v (vI w1.Heard),.v (vI w1.Change.Kind),.v (vI w1.Change.Entry.Addr),.v (vI w1.Change.Entry.Len),.v (vI w1.Change.Entry.Cost),.v (vI w1.Change.Entry.Label),.v (vI w1.Sum)])),(6,some (.box 31 [.v (vI 0),.v (vI 0),.v (.slice none 0 0),.v (vI 0),.v (.slice none 0 0),.v (vI 0),.v (vI 0),.v (vI 0),.v (.bool false),.v (vI 0),.v (vI 0),.v (vI 0),.v (vI 0),.v (vI 0),.v (vI 0),.v (vI 0),.v (.slice none 0 0),.v (.bool false),.v (vI 0),.v (.bool false),.v (.slice none 0 0),.v (vI 0)]))],7⟩:St)) j.1 j.2.1 j.2.2.1 j.2.2.2.1 j.2.2.2.2.1 j.2.2.2.2.2.1 j.2.2.2.2.2.2.1 j.2.2.2.2.2.2.2.1 j.2.2.2.2.2.2.2.2.1 j.2.2.2.2.2.2.2.2.2.1 j.2.2.2.2.2.2.2.2.2.2.1 j.2.2.2.2.2.2.2.2.2.2.2.1 j.2.2.2.2.2.2.2.2.2.2.2.2.1 j.2.2.2.2.2.2.2.2.2.2.2.2.2.1 j.2.2.2.2.2.2.2.2.2.2.2.2.2.2.1 j.2.2.2.2.2.2.2.2.2.2.2.2.2.2.2.1 j.2.2.2.2.2.2.2.2.2.2.2.2.2.2.2.2.1 j.2.2.2.2.2.2.2.2.2.2.2.2.2.2.2.2.2.1 j.2.2.2.2.2.2.2.2.2.2.2.2.2.2.2.2.2.2.1 j.2.2.2.2.2.2.2.2.2.2.2.2.2.2.2.2.2.2.2.1 j.2.2.2.2.2.2.2.2.2.2.2.2.2.2.2.2.2.2.2.2.1 j.2.2.2.2.2.2.2.2.2.2.2.2.2.2.2.2.2.2.2.2.2) (jJ125al_0 e1 w1) (.seq .no (.cond (.seq (.reg [(1,kh71 e1)]) .no) .no)) (fun j=>(fun (e2:Int) (e3:Int) (e4:List HelloKey) (e5:Int) (e6:List Ue) (e7:Int) (e8:Int) (e9:Int) (e10:Bool) (e11:Int) (e12:Int) (e13:Int) (e14:Int) (e15:Int) (e16:Int) (e17:Int) (e18:List Ue) (e19:Bool) (e20:Int) (e21:Bool) (e22:List Uf) (e23:Int)=>(.seq .no (.seq .no (.seq .no (.seq (.seq .no (.cond (.seq .no .no) .no)) (.cut (ι:=Int×Int×List HelloKey×Int×List Ue×Int×Int×Int×Bool×Int×Int×Int×Int×Int×Int×Int×List Ue×Bool×Int×Bool×List Uf×Int) (fun j=>(fun (e24:Int) (e25:Int) (e26:List HelloKey) (e27:Int) (e28:List Ue) (e29:Int) (e30:Int) (e31:Int) (e32:Bool) (e33:Int) (e34:Int) (e35:Int) (e36:Int) (e37:Int) (e38:Int) (e39:Int) (e40:List Ue) (e41:Bool) (e42:Int) (e43:Bool) (e44:List Uf) (e45:Int)=>(⟨[(2,some (.p 0 0)),(3,some (.p 5 0)),(4,some (.p 6 0))],[(0,some (.box 31 [.v (vI e24),.v (vI e25),.h 1 0,.v (vI e27),.h 2 0,.v (vI e29),.v (vI e30),.v (vI e31),.v (.bool e32),.v (vI e33),.v (vI e34),.v (vI e35),.v (vI e36),.v (vI e37),.v (vI e38),.v (vI e39),.h 3 0,.v (.bool e41),.v (vI e42),.v (.bool e43),.h 4 0,.v (vI e45)])),(1,some (.own 1 (.l 2 eHelloKey e26))),(2,some (.own 2 (.l 4 eHelloEntry e28))),(3,some (.own 3 (.l 4 eHelloEntry e40))),(4,some (.own 4 (.l 5 eHelloRoute e44))),(5,some (.box 39 [.v (vI w1.From),.v (vI w1.To),.v (vI w1.Key),.v (vI w1.Boot),.v (vI w1.Yours),.v (vI w1.Turn),.v (vI w1.Num),.v (vI w1.Heard),.v (vI w1.Change.Kind),.v (vI w1.Change.Entry.Addr),.v (vI w1.Change.Entry.Len),.v (vI w1.Change.Entry.Cost),.v (vI w1.Change.Entry.Label),.v (vI w1.Sum)])),(6,some (.box 31 [.v (vI 0),.v (vI 0),.v (.slice none 0 0),.v (vI 0),.v (.slice none 0 0),.v (vI 0),.v (vI 0),.v (vI 0),.v (.bool false),.v (vI 0),.v (vI 0),.v (vI 0),.v (vI 0),.v (vI 0),.v (vI 0),.v (vI 0),.v (.slice none 0 0),.v (.bool false),.v (vI 0),.v (.bool false),.v (.slice none 0 0),.v (vI 0)]))],7⟩:St)) j.1 j.2.1 j.2.2.1 j.2.2.2.1 j.2.2.2.2.1 j.2.2.2.2.2.1 j.2.2.2.2.2.2.1 j.2.2.2.2.2.2.2.1 j.2.2.2.2.2.2.2.2.1 j.2.2.2.2.2.2.2.2.2.1 j.2.2.2.2.2.2.2.2.2.2.1 j.2.2.2.2.2.2.2.2.2.2.2.1 j.2.2.2.2.2.2.2.2.2.2.2.2.1 j.2.2.2.2.2.2.2.2.2.2.2.2.2.1 j.2.2.2.2.2.2.2.2.2.2.2.2.2.2.1 j.2.2.2.2.2.2.2.2.2.2.2.2.2.2.2.1 j.2.2.2.2.2.2.2.2.2.2.2.2.2.2.2.2.1 j.2.2.2.2.2.2.2.2.2.2.2.2.2.2.2.2.2.1 j.2.2.2.2.2.2.2.2.2.2.2.2.2.2.2.2.2.2.1 j.2.2.2.2.2.2.2.2.2.2.2.2.2.2.2.2.2.2.2.1 j.2.2.2.2.2.2.2.2.2.2.2.2.2.2.2.2.2.2.2.2.1 j.2.2.2.2.2.2.2.2.2.2.2.2.2.2.2.2.2.2.2.2.2) (jJ125al_1 e1 w1 e2 e3 e4 e5 e6 e7 e8 e9 e10 e11 e12 e13 e14 e15 e16 e17 e18 e19 e20 e21 e22 e23) (.seq .no (.cond (.reg [(1,.call 127 (S127 (⟨e2,e3,e4,e5,e6,e7,e8,w1.Turn,(w1.Yours==e5),4,e12,(⟨e13,(⟨e14,e15,e16,e17⟩:Ue)⟩:HelloChange),e18,e19,e20,e21,e22,e23⟩:Ud)) (ok127 (⟨e2,e3,e4,e5,e6,e7,e8,w1.Turn,(w1.Yours==e5),4,e12,(⟨e13,(⟨e14,e15,e16,e17⟩:Ue)⟩:HelloChange),e18,e19,e20,e21,e22,e23⟩:Ud)) none)]) .no)) (fun j=>(fun (e24:Int) (e25:Int) (e26:List HelloKey) (e27:Int) (e28:List Ue) (e29:Int) (e30:Int) (e31:Int) (e32:Bool) (e33:Int) (e34:Int) (e35:Int) (e36:Int) (e37:Int) (e38:Int) (e39:Int) (e40:List Ue) (e41:Bool) (e42:Int) (e43:Bool) (e44:List Uf) (e45:Int)=>(.cut (ι:=Int×Bool×List Uf) (fun j=>(fun (e46:Int) (e47:Bool) (e48:List Uf)=>(⟨[(2,some (.p 0 0)),(4,some (.p 5 0))],[(0,some (.box 31 [.v (vI e24),.v (vI e25),.h 1 0,.v (vI e27),.h 2 0,.v (vI e29),.v (vI e30),.v (vI e31),.v (.bool e32),.v (vI e33),.v (vI e34),.v (vI e35),.v (vI e36),.v (vI e37),.v (vI e38),.v (vI e39),.h 3 0,.v (.bool e41),.v (vI e46),.v (.bool e47),.h 4 0,.v (vI e45)])),(1,some (.own 1 (.l 2 eHelloKey e26))),(2,some (.own 2 (.l 4 eHelloEntry e28))),(3,some (.own 3 (.l 4 eHelloEntry e40))),(4,some (.own 4 (.l 5 eHelloRoute e48))),(5,some (.box 31 [.v (vI 0),.v (vI 0),.v (.slice none 0 0),.v (vI 0),.v (.slice none 0 0),.v (vI 0),.v (vI 0),.v (vI 0),.v (.bool false),.v (vI 0),.v (vI 0),.v (vI 0),.v (vI 0),.v (vI 0),.v (vI 0),.v (vI 0),.v (.slice none 0 0),.v (.bool false),.v (vI 0),.v (.bool false),.v (.slice none 0 0),.v (vI 0)]))],6⟩:St)) j.1 j.2.1 j.2.2) (jJ125fr_2 e1 w1 e2 e3 e4 e5 e6 e7 e8 e9 e10 e11 e12 e13 e14 e15 e16 e17 e18 e19 e20 e21 e22 e23 e24 e25 e26 e27 e28 e29 e30 e31 e32 e33 e34 e35 e36 e37 e38 e39 e40 e41 e42 e43 e44 e45) (.seq .no (.cond (.seq (.reg [(4,kh128fr e44 w1.Change)]) (.seq .no (.cond (.seq .no (.seq .no .no)) .no))) .no)) (fun j=>(fun (e46:Int) (e47:Bool) (e48:List Uf)=>(.seq (.reg [(1,.call 129 (S129 (⟨e24,e25,e26,e27,e28,e29,e30,e31,e32,e33,e34,(⟨e35,(⟨e36,e37,e38,e39⟩:Ue)⟩:HelloChange),e40,e41,e46,e47,e48,e45⟩:Ud)) (ok129 (⟨e24,e25,e26,e27,e28,e29,e30,e31,e32,e33,e34,(⟨e35,(⟨e36,e37,e38,e39⟩:Ue)⟩:HelloChange),e40,e41,e46,e47,e48,e45⟩:Ud)) none)]) .no)) j.1 j.2.1 j.2.2))) j.1 j.2.1 j.2.2.1 j.2.2.2.1 j.2.2.2.2.1 j.2.2.2.2.2.1 j.2.2.2.2.2.2.1 j.2.2.2.2.2.2.2.1 j.2.2.2.2.2.2.2.2.1 j.2.2.2.2.2.2.2.2.2.1 j.2.2.2.2.2.2.2.2.2.2.1 j.2.2.2.2.2.2.2.2.2.2.2.1 j.2.2.2.2.2.2.2.2.2.2.2.2.1 j.2.2.2.2.2.2.2.2.2.2.2.2.2.1 j.2.2.2.2.2.2.2.2.2.2.2.2.2.2.1 j.2.2.2.2.2.2.2.2.2.2.2.2.2.2.2.1 j.2.2.2.2.2.2.2.2.2.2.2.2.2.2.2.2.1 j.2.2.2.2.2.2.2.2.2.2.2.2.2.2.2.2.2.1 j.2.2.2.2.2.2.2.2.2.2.2.2.2.2.2.2.2.2.1 j.2.2.2.2.2.2.2.2.2.2.2.2.2.2.2.2.2.2.2.1 j.2.2.2.2.2.2.2.2.2.2.2.2.2.2.2.2.2.2.2.2.1 j.2.2.2.2.2.2.2.2.2.2.2.2.2.2.2.2.2.2.2.2.2))))))) j.1 j.2.1 j.2.2.1 j.2.2.2.1 j.2.2.2.2.1 j.2.2.2.2.2.1 j.2.2.2.2.2.2.1 j.2.2.2.2.2.2.2.1 j.2.2.2.2.2.2.2.2.1 j.2.2.2.2.2.2.2.2.2.1 j.2.2.2.2.2.2.2.2.2.2.1 j.2.2.2.2.2.2.2.2.2.2.2.1 j.2.2.2.2.2.2.2.2.2.2.2.2.1 j.2.2.2.2.2.2.2.2.2.2.2.2.2.1 j.2.2.2.2.2.2.2.2.2.2.2.2.2.2.1 j.2.2.2.2.2.2.2.2.2.2.2.2.2.2.2.1 j.2.2.2.2.2.2.2.2.2.2.2.2.2.2.2.2.1 j.2.2.2.2.2.2.2.2.2.2.2.2.2.2.2.2.2.1 j.2.2.2.2.2.2.2.2.2.2.2.2.2.2.2.2.2.2.1 j.2.2.2.2.2.2.2.2.2.2.2.2.2.2.2.2.2.2.2.1 j.2.2.2.2.2.2.2.2.2.2.2.2.2.2.2.2.2.2.2.2.1 j.2.2.2.2.2.2.2.2.2.2.2.2.2.2.2.2.2.2.2.2.2))) Tryz.func125 (fun (hp:EndFit e1/\lisAl e1 w1=false)=>have hpre0:=hp.1; have hpre1:=hp.2; ai (ifd (w1.Boot>e1.PeerBoot) (fun h1 _=>kc71 e1 (jn125al_0 e1 w1 (F71 e1).Name (F71 e1).Peer (F71 e1).Keys (F71 e1).Boot (F71 e1).Want (F71 e1).Turn w1.Boot (F71 e1).PeerTurn (F71 e1).Up (F71 e1).Left (F71 e1).Num (F71 e1).Under.Kind (F71 e1).Under.Entry.Addr (F71 e1).Under.Entry.Len (F71 e1).Under.Entry.Cost (F71 e1).Under.Entry.Label (F71 e1).Told (F71 e1).All (F71 e1).Got (F71 e1).Full (F71 e1).Heard (F71 e1).Keep (Ri (condT h1 rfl)) uu19)) (fun h1 _=>jn125al_0 e1 w1 e1.Name e1.Peer e1.Keys e1.Boot e1.Want e1.Turn e1.PeerBoot e1.PeerTurn e1.Up e1.Left e1.Num e1.Under.Kind e1.Under.Entry.Addr e1.Under.Entry.Len e1.Under.Entry.Cost e1.Under.Entry.Label e1.Told e1.All e1.Got e1.Full e1.Heard e1.Keep (Ri (condF h1 rfl)) uu19)) (fun (j:Int×Int×List HelloKey×Int×List Ue×Int×Int×Int×Bool×Int×Int×Int×Int×Int×Int×Int×List Ue×Bool×Int×Bool×List Uf×Int) (hj:jJ125al_0 e1 w1 j)=>(fun (e2:Int) (e3:Int) (e4:List HelloKey) (e5:Int) (e6:List Ue) (e7:Int) (e8:Int) (e9:Int) (e10:Bool) (e11:Int) (e12:Int) (e13:Int) (e14:Int) (e15:Int) (e16:Int) (e17:Int) (e18:List Ue) (e19:Bool) (e20:Int) (e21:Bool) (e22:List Uf) (e23:Int) (hJ0_2:(F125al_j0 e1 w1)=Lp.done (e2,e3,e4,e5,e6,e7,e8,e9,e10,e11,e12,e13,e14,e15,e16,e17,e18,e19,e20,e21,e22,e23)) (hw:jI125al_0 e1 w1 e2 e3 e4 e5 e6 e7 e8 e9 e10 e11 e12 e13 e14 e15 e16 e17 e18 e19 e20 e21 e22 e23)=>have _:=hw.1; ifb (!(w1.Yours==e5)) (fun h3=>have _:=beqF (notET h3); fi125fr e1 w1 (⟨e2,e3,e4,e5,e6,e7,e8,w1.Turn,(w1.Yours==e5),4,e12,(⟨e13,(⟨e14,e15,e16,e17⟩:Ue)⟩:HelloChange),e18,e19,e20,e21,e22,e23⟩:Ud) (finD hJ0_2 (condT h3 rfl))) (fun h3=>have _:=eq_of_beq (notEF h3); ai (ifb (bif decide (e13>0) then (w1.Heard==e12) else false) (fun h4=>have _:=Qb (andT1 h4); have _:=eq_of_beq (andT2 h4); ai (by exact lj_small (by assumption) (by assumption):smallE (⟨e2,e3,e4,e5,e6,e7,e8,w1.Turn,(w1.Yours==e5),4,e12,(⟨e13,(⟨e14,e15,e16,e17⟩:Ue)⟩:HelloChange),e18,e19,e20,e21,e22,e23⟩:Ud)) (ai (Imps.refl (eHelloEnd (⟨e2,e3,e4,e5,e6,e7,e8,w1.Turn,(w1.Yours==e5),4,e12,(⟨e13,(⟨e14,e15,e16,e17⟩:Ue)⟩:HelloChange),e18,e19,e20,e21,e22,e23⟩:Ud))) (have gv5:(F127 ⟨e2,e3,e4,e5,e6,e7,e8,w1.Turn,(w1.Yours==e5),4,e12,(⟨e13,(⟨e14,e15,e16,e17⟩:Ue)⟩:HelloChange),e18,e19,e20,e21,e22,e23⟩).Heard=e22/\(F127 ⟨e2,e3,e4,e5,e6,e7,e8,w1.Turn,(w1.Yours==e5),4,e12,(⟨e13,(⟨e14,e15,e16,e17⟩:Ue)⟩:HelloChange),e18,e19,e20,e21,e22,e23⟩).Keys=e4/\(F127 ⟨e2,e3,e4,e5,e6,e7,e8,w1.Turn,(w1.Yours==e5),4,e12,(⟨e13,(⟨e14,e15,e16,e17⟩:Ue)⟩:HelloChange),e18,e19,e20,e21,e22,e23⟩).Want=e6/\(F127 ⟨e2,e3,e4,e5,e6,e7,e8,w1.Turn,(w1.Yours==e5),4,e12,(⟨e13,(⟨e14,e15,e16,e17⟩:Ue)⟩:HelloChange),e18,e19,e20,e21,e22,e23⟩).Told.length<=e18.length+1:=answered_len (⟨e2,e3,e4,e5,e6,e7,e8,w1.Turn,(w1.Yours==e5),4,e12,(⟨e13,(⟨e14,e15,e16,e17⟩:Ue)⟩:HelloChange),e18,e19,e20,e21,e22,e23⟩:Ud); jn125al_1 e1 w1 e2 e3 e4 e5 e6 e7 e8 e9 e10 e11 e12 e13 e14 e15 e16 e17 e18 e19 e20 e21 e22 e23 (F127 ⟨e2,e3,e4,e5,e6,e7,e8,w1.Turn,(w1.Yours==e5),4,e12,(⟨e13,(⟨e14,e15,e16,e17⟩:Ue)⟩:HelloChange),e18,e19,e20,e21,e22,e23⟩).Name (F127 ⟨e2,e3,e4,e5,e6,e7,e8,w1.Turn,(w1.Yours==e5),4,e12,(⟨e13,(⟨e14,e15,e16,e17⟩:Ue)⟩:HelloChange),e18,e19,e20,e21,e22,e23⟩).Peer (F127 ⟨e2,e3,e4,e5,e6,e7,e8,w1.Turn,(w1.Yours==e5),4,e12,(⟨e13,(⟨e14,e15,e16,e17⟩:Ue)⟩:HelloChange),e18,e19,e20,e21,e22,e23⟩).Keys (F127 ⟨e2,e3,e4,e5,e6,e7,e8,w1.Turn,(w1.Yours==e5),4,e12,(⟨e13,(⟨e14,e15,e16,e17⟩:Ue)⟩:HelloChange),e18,e19,e20,e21,e22,e23⟩).Boot (F127 ⟨e2,e3,e4,e5,e6,e7,e8,w1.Turn,(w1.Yours==e5),4,e12,(⟨e13,(⟨e14,e15,e16,e17⟩:Ue)⟩:HelloChange),e18,e19,e20,e21,e22,e23⟩).Want (F127 ⟨e2,e3,e4,e5,e6,e7,e8,w1.Turn,(w1.Yours==e5),4,e12,(⟨e13,(⟨e14,e15,e16,e17⟩:Ue)⟩:HelloChange),e18,e19,e20,e21,e22,e23⟩).Turn (F127 ⟨e2,e3,e4,e5,e6,e7,e8,w1.Turn,(w1.Yours==e5),4,e12,(⟨e13,(⟨e14,e15,e16,e17⟩:Ue)⟩:HelloChange),e18,e19,e20,e21,e22,e23⟩).PeerBoot (F127 ⟨e2,e3,e4,e5,e6,e7,e8,w1.Turn,(w1.Yours==e5),4,e12,(⟨e13,(⟨e14,e15,e16,e17⟩:Ue)⟩:HelloChange),e18,e19,e20,e21,e22,e23⟩).PeerTurn (F127 ⟨e2,e3,e4,e5,e6,e7,e8,w1.Turn,(w1.Yours==e5),4,e12,(⟨e13,(⟨e14,e15,e16,e17⟩:Ue)⟩:HelloChange),e18,e19,e20,e21,e22,e23⟩).Up (F127 ⟨e2,e3,e4,e5,e6,e7,e8,w1.Turn,(w1.Yours==e5),4,e12,(⟨e13,(⟨e14,e15,e16,e17⟩:Ue)⟩:HelloChange),e18,e19,e20,e21,e22,e23⟩).Left (F127 ⟨e2,e3,e4,e5,e6,e7,e8,w1.Turn,(w1.Yours==e5),4,e12,(⟨e13,(⟨e14,e15,e16,e17⟩:Ue)⟩:HelloChange),e18,e19,e20,e21,e22,e23⟩).Num (F127 ⟨e2,e3,e4,e5,e6,e7,e8,w1.Turn,(w1.Yours==e5),4,e12,(⟨e13,(⟨e14,e15,e16,e17⟩:Ue)⟩:HelloChange),e18,e19,e20,e21,e22,e23⟩).Under.Kind (F127 ⟨e2,e3,e4,e5,e6,e7,e8,w1.Turn,(w1.Yours==e5),4,e12,(⟨e13,(⟨e14,e15,e16,e17⟩:Ue)⟩:HelloChange),e18,e19,e20,e21,e22,e23⟩).Under.Entry.Addr (F127 ⟨e2,e3,e4,e5,e6,e7,e8,w1.Turn,(w1.Yours==e5),4,e12,(⟨e13,(⟨e14,e15,e16,e17⟩:Ue)⟩:HelloChange),e18,e19,e20,e21,e22,e23⟩).Under.Entry.Len (F127 ⟨e2,e3,e4,e5,e6,e7,e8,w1.Turn,(w1.Yours==e5),4,e12,(⟨e13,(⟨e14,e15,e16,e17⟩:Ue)⟩:HelloChange),e18,e19,e20,e21,e22,e23⟩).Under.Entry.Cost (F127 ⟨e2,e3,e4,e5,e6,e7,e8,w1.Turn,(w1.Yours==e5),4,e12,(⟨e13,(⟨e14,e15,e16,e17⟩:Ue)⟩:HelloChange),e18,e19,e20,e21,e22,e23⟩).Under.Entry.Label (F127 ⟨e2,e3,e4,e5,e6,e7,e8,w1.Turn,(w1.Yours==e5),4,e12,(⟨e13,(⟨e14,e15,e16,e17⟩:Ue)⟩:HelloChange),e18,e19,e20,e21,e22,e23⟩).Told (F127 ⟨e2,e3,e4,e5,e6,e7,e8,w1.Turn,(w1.Yours==e5),4,e12,(⟨e13,(⟨e14,e15,e16,e17⟩:Ue)⟩:HelloChange),e18,e19,e20,e21,e22,e23⟩).All (F127 ⟨e2,e3,e4,e5,e6,e7,e8,w1.Turn,(w1.Yours==e5),4,e12,(⟨e13,(⟨e14,e15,e16,e17⟩:Ue)⟩:HelloChange),e18,e19,e20,e21,e22,e23⟩).Got (F127 ⟨e2,e3,e4,e5,e6,e7,e8,w1.Turn,(w1.Yours==e5),4,e12,(⟨e13,(⟨e14,e15,e16,e17⟩:Ue)⟩:HelloChange),e18,e19,e20,e21,e22,e23⟩).Full (F127 ⟨e2,e3,e4,e5,e6,e7,e8,w1.Turn,(w1.Yours==e5),4,e12,(⟨e13,(⟨e14,e15,e16,e17⟩:Ue)⟩:HelloChange),e18,e19,e20,e21,e22,e23⟩).Heard (F127 ⟨e2,e3,e4,e5,e6,e7,e8,w1.Turn,(w1.Yours==e5),4,e12,(⟨e13,(⟨e14,e15,e16,e17⟩:Ue)⟩:HelloChange),e18,e19,e20,e21,e22,e23⟩).Keep (Ri (condT h4 rfl)) uu19))) (fun h4=>jn125al_1 e1 w1 e2 e3 e4 e5 e6 e7 e8 e9 e10 e11 e12 e13 e14 e15 e16 e17 e18 e19 e20 e21 e22 e23 e2 e3 e4 e5 e6 e7 e8 w1.Turn (w1.Yours==e5) 4 e12 e13 e14 e15 e16 e17 e18 e19 e20 e21 e22 e23 (Ri (condF h4 rfl)) uu19)) (fun (j:Int×Int×List HelloKey×Int×List Ue×Int×Int×Int×Bool×Int×Int×Int×Int×Int×Int×Int×List Ue×Bool×Int×Bool×List Uf×Int) (hj:jJ125al_1 e1 w1 e2 e3 e4 e5 e6 e7 e8 e9 e10 e11 e12 e13 e14 e15 e16 e17 e18 e19 e20 e21 e22 e23 j)=>(fun (e24:Int) (e25:Int) (e26:List HelloKey) (e27:Int) (e28:List Ue) (e29:Int) (e30:Int) (e31:Int) (e32:Bool) (e33:Int) (e34:Int) (e35:Int) (e36:Int) (e37:Int) (e38:Int) (e39:Int) (e40:List Ue) (e41:Bool) (e42:Int) (e43:Bool) (e44:List Uf) (e45:Int) (hJ1_6:(F125al_j1 e1 w1 e2 e3 e4 e5 e6 e7 e8 e9 e10 e11 e12 e13 e14 e15 e16 e17 e18 e19 e20 e21 e22 e23)=Lp.done (e24,e25,e26,e27,e28,e29,e30,e31,e32,e33,e34,e35,e36,e37,e38,e39,e40,e41,e42,e43,e44,e45)) (hw:jI125al_1 e1 w1 e2 e3 e4 e5 e6 e7 e8 e9 e10 e11 e12 e13 e14 e15 e16 e17 e18 e19 e20 e21 e22 e23 e24 e25 e26 e27 e28 e29 e30 e31 e32 e33 e34 e35 e36 e37 e38 e39 e40 e41 e42 e43 e44 e45)=>have _:=hw.1; ai (ifb (bif decide (w1.Change.Kind>0) then (w1.Num==(IntKind.i64.wrap (e42+1))) else false) (fun h7=>have _:=Qb (andT1 h7); have _:=eq_of_beq (andT2 h7); kc128fr e44 w1.Change uu32 uu32 (ifb (F128fr e44 w1.Change).2 (fun h8=>jn125fr_2 e1 w1 e2 e3 e4 e5 e6 e7 e8 e9 e10 e11 e12 e13 e14 e15 e16 e17 e18 e19 e20 e21 e22 e23 e24 e25 e26 e27 e28 e29 e30 e31 e32 e33 e34 e35 e36 e37 e38 e39 e40 e41 e42 e43 e44 e45 w1.Num (bif e43 then true else (w1.Change.Kind==3)) (F128fr e44 w1.Change).1 (Ri (condT h7 (condT h8 rfl))) ) (fun h8=>jn125fr_2 e1 w1 e2 e3 e4 e5 e6 e7 e8 e9 e10 e11 e12 e13 e14 e15 e16 e17 e18 e19 e20 e21 e22 e23 e24 e25 e26 e27 e28 e29 e30 e31 e32 e33 e34 e35 e36 e37 e38 e39 e40 e41 e42 e43 e44 e45 e42 e43 e44 (Ri (condT h7 (condF h8 rfl))) ))) (fun h7=>jn125fr_2 e1 w1 e2 e3 e4 e5 e6 e7 e8 e9 e10 e11 e12 e13 e14 e15 e16 e17 e18 e19 e20 e21 e22 e23 e24 e25 e26 e27 e28 e29 e30 e31 e32 e33 e34 e35 e36 e37 e38 e39 e40 e41 e42 e43 e44 e45 e42 e43 e44 (Ri (condF h7 rfl)) )) (fun (j:Int×Bool×List Uf) (hj:jJ125fr_2 e1 w1 e2 e3 e4 e5 e6 e7 e8 e9 e10 e11 e12 e13 e14 e15 e16 e17 e18 e19 e20 e21 e22 e23 e24 e25 e26 e27 e28 e29 e30 e31 e32 e33 e34 e35 e36 e37 e38 e39 e40 e41 e42 e43 e44 e45 j)=>(fun (e46:Int) (e47:Bool) (e48:List Uf) (hJ2_9:(F125fr_j2 e1 w1 e2 e3 e4 e5 e6 e7 e8 e9 e10 e11 e12 e13 e14 e15 e16 e17 e18 e19 e20 e21 e22 e23 e24 e25 e26 e27 e28 e29 e30 e31 e32 e33 e34 e35 e36 e37 e38 e39 e40 e41 e42 e43 e44 e45)=Lp.done (e46,e47,e48))=>ai trivial (ai (Imps.refl (eHelloEnd (⟨e24,e25,e26,e27,e28,e29,e30,e31,e32,e33,e34,(⟨e35,(⟨e36,e37,e38,e39⟩:Ue)⟩:HelloChange),e40,e41,e46,e47,e48,e45⟩:Ud))) (fi125fr e1 w1 (F129 ⟨e24,e25,e26,e27,e28,e29,e30,e31,e32,e33,e34,(⟨e35,(⟨e36,e37,e38,e39⟩:Ue)⟩:HelloChange),e40,e41,e46,e47,e48,e45⟩) (finD hJ0_2 (condF h3 (finD hJ1_6 (finD hJ2_9 rfl))))))) j.1 j.2.1 j.2.2 hj)) j.1 j.2.1 j.2.2.1 j.2.2.2.1 j.2.2.2.2.1 j.2.2.2.2.2.1 j.2.2.2.2.2.2.1 j.2.2.2.2.2.2.2.1 j.2.2.2.2.2.2.2.2.1 j.2.2.2.2.2.2.2.2.2.1 j.2.2.2.2.2.2.2.2.2.2.1 j.2.2.2.2.2.2.2.2.2.2.2.1 j.2.2.2.2.2.2.2.2.2.2.2.2.1 j.2.2.2.2.2.2.2.2.2.2.2.2.2.1 j.2.2.2.2.2.2.2.2.2.2.2.2.2.2.1 j.2.2.2.2.2.2.2.2.2.2.2.2.2.2.2.1 j.2.2.2.2.2.2.2.2.2.2.2.2.2.2.2.2.1 j.2.2.2.2.2.2.2.2.2.2.2.2.2.2.2.2.2.1 j.2.2.2.2.2.2.2.2.2.2.2.2.2.2.2.2.2.2.1 j.2.2.2.2.2.2.2.2.2.2.2.2.2.2.2.2.2.2.2.1 j.2.2.2.2.2.2.2.2.2.2.2.2.2.2.2.2.2.2.2.2.1 j.2.2.2.2.2.2.2.2.2.2.2.2.2.2.2.2.2.2.2.2.2 hj.1 hj.2))) j.1 j.2.1 j.2.2.1 j.2.2.2.1 j.2.2.2.2.1 j.2.2.2.2.2.1 j.2.2.2.2.2.2.1 j.2.2.2.2.2.2.2.1 j.2.2.2.2.2.2.2.2.1 j.2.2.2.2.2.2.2.2.2.1 j.2.2.2.2.2.2.2.2.2.2.1 j.2.2.2.2.2.2.2.2.2.2.2.1 j.2.2.2.2.2.2.2.2.2.2.2.2.1 j.2.2.2.2.2.2.2.2.2.2.2.2.2.1 j.2.2.2.2.2.2.2.2.2.2.2.2.2.2.1 j.2.2.2.2.2.2.2.2.2.2.2.2.2.2.2.1 j.2.2.2.2.2.2.2.2.2.2.2.2.2.2.2.2.1 j.2.2.2.2.2.2.2.2.2.2.2.2.2.2.2.2.2.1 j.2.2.2.2.2.2.2.2.2.2.2.2.2.2.2.2.2.2.1 j.2.2.2.2.2.2.2.2.2.2.2.2.2.2.2.2.2.2.2.1 j.2.2.2.2.2.2.2.2.2.2.2.2.2.2.2.2.2.2.2.2.1 j.2.2.2.2.2.2.2.2.2.2.2.2.2.2.2.2.2.2.2.2.2 hj.1 hj.2)) uu3
def F125 (e1:Ud) (w1:HelloWord):Ud:=bif lisAl e1 w1 then F125al e1 w1 else F125fr e1 w1
def S125 (e1:Ud) (w1:HelloWord):Spec:=⟨[.ot (eHelloEnd e1),.r (.g (eHelloWord w1))],.ag [.v (vI (F125 e1 w1).Name),.v (vI (F125 e1 w1).Peer),.ow (.l 2 eHelloKey (F125 e1 w1).Keys),.v (vI (F125 e1 w1).Boot),.ow (.l 4 eHelloEntry (F125 e1 w1).Want),.v (vI (F125 e1 w1).Turn),.v (vI (F125 e1 w1).PeerBoot),.v (vI (F125 e1 w1).PeerTurn),.v (.bool (F125 e1 w1).Up),.v (vI (F125 e1 w1).Left),.v (vI (F125 e1 w1).Num),.v (vI (F125 e1 w1).Under.Kind),.v (vI (F125 e1 w1).Under.Entry.Addr),.v (vI (F125 e1 w1).Under.Entry.Len),.v (vI (F125 e1 w1).Under.Entry.Cost),.v (vI (F125 e1 w1).Under.Entry.Label),.ow (.l 4 eHelloEntry (F125 e1 w1).Told),.v (.bool (F125 e1 w1).All),.v (vI (F125 e1 w1).Got),.v (.bool (F125 e1 w1).Full),.ow (.l 5 eHelloRoute (F125 e1 w1).Heard),.v (vI (F125 e1 w1).Keep)],EndFit e1⟩
theorem ok125 (e1:Ud) (w1:HelloWord):(S125 e1 w1).ok Tryz.prog 125:=by
 intro hp
 unfold S125
 cases hA:lisAl e1 w1 with
 | true =>
  have h:=ok125al e1 w1 (by exact ⟨hp,hA⟩)
  rw [show F125 e1 w1=F125al e1 w1 by unfold F125; rw [hA]; rfl]
  unfold S125al at h
  exact h
 | false =>
  have h:=ok125fr e1 w1 (by exact ⟨hp,hA⟩)
  rw [show F125 e1 w1=F125fr e1 w1 by unfold F125; rw [hA]; rfl]
  unfold S125fr at h
  exact h
def F121_j0 (e1:Ud):Lp (List Uf×Int) Ud :=
 bif (decide (e1.Keep>0)) then (bif ((e1.Keep-1)==0) then (.done ((F126 e1.Heard),(e1.Keep-1))) else (.done (e1.Heard,(e1.Keep-1)))) else (.done (e1.Heard,e1.Keep))
def F121_j1 (e1:Ud) (x9:List Uf) (x10:Int):Lp (Int×Int×List HelloKey×Int×List Ue×Int×Int×Int×Bool×Int×Int×Int×Int×Int×Int×Int×List Ue×Bool×Int×Bool×List Uf×Int) Ud :=
 bif (decide (e1.Left>0)) then (bif ((e1.Left-1)==0) then (.done ((F37 ⟨e1.Name,e1.Peer,e1.Keys,e1.Boot,e1.Want,e1.Turn,e1.PeerBoot,e1.PeerTurn,e1.Up,(e1.Left-1),e1.Num,e1.Under,e1.Told,e1.All,e1.Got,e1.Full,x9,x10⟩).Name,(F37 ⟨e1.Name,e1.Peer,e1.Keys,e1.Boot,e1.Want,e1.Turn,e1.PeerBoot,e1.PeerTurn,e1.Up,(e1.Left-1),e1.Num,e1.Under,e1.Told,e1.All,e1.Got,e1.Full,x9,x10⟩).Peer,(F37 ⟨e1.Name,e1.Peer,e1.Keys,e1.Boot,e1.Want,e1.Turn,e1.PeerBoot,e1.PeerTurn,e1.Up,(e1.Left-1),e1.Num,e1.Under,e1.Told,e1.All,e1.Got,e1.Full,x9,x10⟩).Keys,(F37 ⟨e1.Name,e1.Peer,e1.Keys,e1.Boot,e1.Want,e1.Turn,e1.PeerBoot,e1.PeerTurn,e1.Up,(e1.Left-1),e1.Num,e1.Under,e1.Told,e1.All,e1.Got,e1.Full,x9,x10⟩).Boot,(F37 ⟨e1.Name,e1.Peer,e1.Keys,e1.Boot,e1.Want,e1.Turn,e1.PeerBoot,e1.PeerTurn,e1.Up,(e1.Left-1),e1.Num,e1.Under,e1.Told,e1.All,e1.Got,e1.Full,x9,x10⟩).Want,(F37 ⟨e1.Name,e1.Peer,e1.Keys,e1.Boot,e1.Want,e1.Turn,e1.PeerBoot,e1.PeerTurn,e1.Up,(e1.Left-1),e1.Num,e1.Under,e1.Told,e1.All,e1.Got,e1.Full,x9,x10⟩).Turn,(F37 ⟨e1.Name,e1.Peer,e1.Keys,e1.Boot,e1.Want,e1.Turn,e1.PeerBoot,e1.PeerTurn,e1.Up,(e1.Left-1),e1.Num,e1.Under,e1.Told,e1.All,e1.Got,e1.Full,x9,x10⟩).PeerBoot,(F37 ⟨e1.Name,e1.Peer,e1.Keys,e1.Boot,e1.Want,e1.Turn,e1.PeerBoot,e1.PeerTurn,e1.Up,(e1.Left-1),e1.Num,e1.Under,e1.Told,e1.All,e1.Got,e1.Full,x9,x10⟩).PeerTurn,(F37 ⟨e1.Name,e1.Peer,e1.Keys,e1.Boot,e1.Want,e1.Turn,e1.PeerBoot,e1.PeerTurn,e1.Up,(e1.Left-1),e1.Num,e1.Under,e1.Told,e1.All,e1.Got,e1.Full,x9,x10⟩).Up,(F37 ⟨e1.Name,e1.Peer,e1.Keys,e1.Boot,e1.Want,e1.Turn,e1.PeerBoot,e1.PeerTurn,e1.Up,(e1.Left-1),e1.Num,e1.Under,e1.Told,e1.All,e1.Got,e1.Full,x9,x10⟩).Left,(F37 ⟨e1.Name,e1.Peer,e1.Keys,e1.Boot,e1.Want,e1.Turn,e1.PeerBoot,e1.PeerTurn,e1.Up,(e1.Left-1),e1.Num,e1.Under,e1.Told,e1.All,e1.Got,e1.Full,x9,x10⟩).Num,(F37 ⟨e1.Name,e1.Peer,e1.Keys,e1.Boot,e1.Want,e1.Turn,e1.PeerBoot,e1.PeerTurn,e1.Up,(e1.Left-1),e1.Num,e1.Under,e1.Told,e1.All,e1.Got,e1.Full,x9,x10⟩).Under.Kind,(F37 ⟨e1.Name,e1.Peer,e1.Keys,e1.Boot,e1.Want,e1.Turn,e1.PeerBoot,e1.PeerTurn,e1.Up,(e1.Left-1),e1.Num,e1.Under,e1.Told,e1.All,e1.Got,e1.Full,x9,x10⟩).Under.Entry.Addr,(F37 ⟨e1.Name,e1.Peer,e1.Keys,e1.Boot,e1.Want,e1.Turn,e1.PeerBoot,e1.PeerTurn,e1.Up,(e1.Left-1),e1.Num,e1.Under,e1.Told,e1.All,e1.Got,e1.Full,x9,x10⟩).Under.Entry.Len,(F37 ⟨e1.Name,e1.Peer,e1.Keys,e1.Boot,e1.Want,e1.Turn,e1.PeerBoot,e1.PeerTurn,e1.Up,(e1.Left-1),e1.Num,e1.Under,e1.Told,e1.All,e1.Got,e1.Full,x9,x10⟩).Under.Entry.Cost,(F37 ⟨e1.Name,e1.Peer,e1.Keys,e1.Boot,e1.Want,e1.Turn,e1.PeerBoot,e1.PeerTurn,e1.Up,(e1.Left-1),e1.Num,e1.Under,e1.Told,e1.All,e1.Got,e1.Full,x9,x10⟩).Under.Entry.Label,(F37 ⟨e1.Name,e1.Peer,e1.Keys,e1.Boot,e1.Want,e1.Turn,e1.PeerBoot,e1.PeerTurn,e1.Up,(e1.Left-1),e1.Num,e1.Under,e1.Told,e1.All,e1.Got,e1.Full,x9,x10⟩).Told,(F37 ⟨e1.Name,e1.Peer,e1.Keys,e1.Boot,e1.Want,e1.Turn,e1.PeerBoot,e1.PeerTurn,e1.Up,(e1.Left-1),e1.Num,e1.Under,e1.Told,e1.All,e1.Got,e1.Full,x9,x10⟩).All,(F37 ⟨e1.Name,e1.Peer,e1.Keys,e1.Boot,e1.Want,e1.Turn,e1.PeerBoot,e1.PeerTurn,e1.Up,(e1.Left-1),e1.Num,e1.Under,e1.Told,e1.All,e1.Got,e1.Full,x9,x10⟩).Got,(F37 ⟨e1.Name,e1.Peer,e1.Keys,e1.Boot,e1.Want,e1.Turn,e1.PeerBoot,e1.PeerTurn,e1.Up,(e1.Left-1),e1.Num,e1.Under,e1.Told,e1.All,e1.Got,e1.Full,x9,x10⟩).Full,(F37 ⟨e1.Name,e1.Peer,e1.Keys,e1.Boot,e1.Want,e1.Turn,e1.PeerBoot,e1.PeerTurn,e1.Up,(e1.Left-1),e1.Num,e1.Under,e1.Told,e1.All,e1.Got,e1.Full,x9,x10⟩).Heard,(F37 ⟨e1.Name,e1.Peer,e1.Keys,e1.Boot,e1.Want,e1.Turn,e1.PeerBoot,e1.PeerTurn,e1.Up,(e1.Left-1),e1.Num,e1.Under,e1.Told,e1.All,e1.Got,e1.Full,x9,x10⟩).Keep)) else (.done (e1.Name,e1.Peer,e1.Keys,e1.Boot,e1.Want,e1.Turn,e1.PeerBoot,e1.PeerTurn,e1.Up,(e1.Left-1),e1.Num,e1.Under.Kind,e1.Under.Entry.Addr,e1.Under.Entry.Len,e1.Under.Entry.Cost,e1.Under.Entry.Label,e1.Told,e1.All,e1.Got,e1.Full,x9,x10))) else (.done (e1.Name,e1.Peer,e1.Keys,e1.Boot,e1.Want,e1.Turn,e1.PeerBoot,e1.PeerTurn,e1.Up,e1.Left,e1.Num,e1.Under.Kind,e1.Under.Entry.Addr,e1.Under.Entry.Len,e1.Under.Entry.Cost,e1.Under.Entry.Label,e1.Told,e1.All,e1.Got,e1.Full,x9,x10))
def F121 (e1:Ud):Ud :=
 bif (!(F9 e1)) then (⟨0,0,[],0,[],0,0,0,false,0,0,(⟨0,(⟨0,0,0,0⟩:Ue)⟩:HelloChange),[],false,0,false,[],0⟩:Ud) else ((F121_j0 e1).fin (fun r=>r) (fun (x9,x10)=>(F121_j1 e1 x9 x10).fin (fun r=>r) (fun (x11,x12,x13,x14,x15,x16,x17,x18,x19,x20,x21,x22,x23,x24,x25,x26,x27,x28,x29,x30,x31,x32)=>(⟨x11,x12,x13,x14,x15,x16,x17,x18,x19,x20,x21,(⟨x22,(⟨x23,x24,x25,x26⟩:Ue)⟩:HelloChange),x27,x28,x29,x30,x31,x32⟩:Ud))))
abbrev jI121_0 (e1:Ud) (x9:List Uf) (x10:Int):Prop:=x9.length<=1000000000/\True
abbrev jJ121_0 (e1:Ud) (j:List Uf×Int):Prop:=(F121_j0 e1)=Lp.done j/\jI121_0 e1 j.1 j.2
theorem jn121_0 (e1:Ud) (x9:List Uf) (x10:Int) (e:(F121_j0 e1)=Lp.done (x9,x10)) (h:jI121_0 e1 x9 x10):∃ j:List Uf×Int,((.int .i64 0:Value)=.int .i64 0)/\((.int .i64 0:Value)=.int .i64 0)/\((.slice none 0 0:Value)=.slice none 0 0)/\((.int .i64 0:Value)=.int .i64 0)/\((.slice none 0 0:Value)=.slice none 0 0)/\((.int .i64 0:Value)=.int .i64 0)/\((.int .i64 0:Value)=.int .i64 0)/\((.int .i64 0:Value)=.int .i64 0)/\((.bool false:Value)=.bool false)/\((.int .i64 0:Value)=.int .i64 0)/\((.int .i64 0:Value)=.int .i64 0)/\((.int .i64 0:Value)=.int .i64 0)/\((.int .i64 0:Value)=.int .i64 0)/\((.int .i64 0:Value)=.int .i64 0)/\((.int .i64 0:Value)=.int .i64 0)/\((.int .i64 0:Value)=.int .i64 0)/\((.slice none 0 0:Value)=.slice none 0 0)/\((.bool false:Value)=.bool false)/\((.int .i64 0:Value)=.int .i64 0)/\((.bool false:Value)=.bool false)/\((.slice none 0 0:Value)=.slice none 0 0)/\((.int .i64 0:Value)=.int .i64 0)/\((.int .i64 e1.Name:Value)=.int .i64 e1.Name)/\((.int .i64 e1.Peer:Value)=.int .i64 e1.Peer)/\((.int .i64 e1.Boot:Value)=.int .i64 e1.Boot)/\((.int .i64 e1.Turn:Value)=.int .i64 e1.Turn)/\((.int .i64 e1.PeerBoot:Value)=.int .i64 e1.PeerBoot)/\((.int .i64 e1.PeerTurn:Value)=.int .i64 e1.PeerTurn)/\((.bool e1.Up:Value)=.bool e1.Up)/\((.int .i64 e1.Left:Value)=.int .i64 e1.Left)/\((.int .i64 e1.Num:Value)=.int .i64 e1.Num)/\((.int .i64 e1.Under.Kind:Value)=.int .i64 e1.Under.Kind)/\((.int .i64 e1.Under.Entry.Addr:Value)=.int .i64 e1.Under.Entry.Addr)/\((.int .i64 e1.Under.Entry.Len:Value)=.int .i64 e1.Under.Entry.Len)/\((.int .i64 e1.Under.Entry.Cost:Value)=.int .i64 e1.Under.Entry.Cost)/\((.int .i64 e1.Under.Entry.Label:Value)=.int .i64 e1.Under.Entry.Label)/\((.bool e1.All:Value)=.bool e1.All)/\((.int .i64 e1.Got:Value)=.int .i64 e1.Got)/\((.bool e1.Full:Value)=.bool e1.Full)/\((.int .i64 x10:Value)=.int .i64 j.2)/\(Imp (.l 2 eHelloKey e1.Keys) (.l 2 eHelloKey e1.Keys))/\(Imp (.l 4 eHelloEntry e1.Want) (.l 4 eHelloEntry e1.Want))/\(Imp (.l 4 eHelloEntry e1.Told) (.l 4 eHelloEntry e1.Told))/\(Imp (.l 5 eHelloRoute x9) (.l 5 eHelloRoute j.1))/\jJ121_0 e1 j:=⟨(x9,x10),rfl,rfl,rfl,rfl,rfl,rfl,rfl,rfl,rfl,rfl,rfl,rfl,rfl,rfl,rfl,rfl,rfl,rfl,rfl,rfl,rfl,rfl,rfl,rfl,rfl,rfl,rfl,rfl,rfl,rfl,rfl,rfl,rfl,rfl,rfl,rfl,rfl,rfl,rfl,rfl,Imp.refl _,Imp.refl _,Imp.refl _,Imp.refl _,e,h⟩
abbrev jI121_1 (e1:Ud) (x9:List Uf) (x10:Int) (x11:Int) (x12:Int) (x13:List HelloKey) (x14:Int) (x15:List Ue) (x16:Int) (x17:Int) (x18:Int) (x19:Bool) (x20:Int) (x21:Int) (x22:Int) (x23:Int) (x24:Int) (x25:Int) (x26:Int) (x27:List Ue) (x28:Bool) (x29:Int) (x30:Bool) (x31:List Uf) (x32:Int):Prop:=x13.length<=1000000000/\x15.length<=1000000000/\x27.length<=1000000000/\x31.length<=1000000000
abbrev jJ121_1 (e1:Ud) (x9:List Uf) (x10:Int) (j:Int×Int×List HelloKey×Int×List Ue×Int×Int×Int×Bool×Int×Int×Int×Int×Int×Int×Int×List Ue×Bool×Int×Bool×List Uf×Int):Prop:=(F121_j1 e1 x9 x10)=Lp.done j/\jI121_1 e1 x9 x10 j.1 j.2.1 j.2.2.1 j.2.2.2.1 j.2.2.2.2.1 j.2.2.2.2.2.1 j.2.2.2.2.2.2.1 j.2.2.2.2.2.2.2.1 j.2.2.2.2.2.2.2.2.1 j.2.2.2.2.2.2.2.2.2.1 j.2.2.2.2.2.2.2.2.2.2.1 j.2.2.2.2.2.2.2.2.2.2.2.1 j.2.2.2.2.2.2.2.2.2.2.2.2.1 j.2.2.2.2.2.2.2.2.2.2.2.2.2.1 j.2.2.2.2.2.2.2.2.2.2.2.2.2.2.1 j.2.2.2.2.2.2.2.2.2.2.2.2.2.2.2.1 j.2.2.2.2.2.2.2.2.2.2.2.2.2.2.2.2.1 j.2.2.2.2.2.2.2.2.2.2.2.2.2.2.2.2.2.1 j.2.2.2.2.2.2.2.2.2.2.2.2.2.2.2.2.2.2.1 j.2.2.2.2.2.2.2.2.2.2.2.2.2.2.2.2.2.2.2.1 j.2.2.2.2.2.2.2.2.2.2.2.2.2.2.2.2.2.2.2.2.1 j.2.2.2.2.2.2.2.2.2.2.2.2.2.2.2.2.2.2.2.2.2
theorem jn121_1 (e1:Ud) (x9:List Uf) (x10:Int) (x11:Int) (x12:Int) (x13:List HelloKey) (x14:Int) (x15:List Ue) (x16:Int) (x17:Int) (x18:Int) (x19:Bool) (x20:Int) (x21:Int) (x22:Int) (x23:Int) (x24:Int) (x25:Int) (x26:Int) (x27:List Ue) (x28:Bool) (x29:Int) (x30:Bool) (x31:List Uf) (x32:Int) (e:(F121_j1 e1 x9 x10)=Lp.done (x11,x12,x13,x14,x15,x16,x17,x18,x19,x20,x21,x22,x23,x24,x25,x26,x27,x28,x29,x30,x31,x32)) (h:jI121_1 e1 x9 x10 x11 x12 x13 x14 x15 x16 x17 x18 x19 x20 x21 x22 x23 x24 x25 x26 x27 x28 x29 x30 x31 x32):∃ j:Int×Int×List HelloKey×Int×List Ue×Int×Int×Int×Bool×Int×Int×Int×Int×Int×Int×Int×List Ue×Bool×Int×Bool×List Uf×Int,((.int .i64 0:Value)=.int .i64 0)/\((.int .i64 0:Value)=.int .i64 0)/\((.slice none 0 0:Value)=.slice none 0 0)/\((.int .i64 0:Value)=.int .i64 0)/\((.slice none 0 0:Value)=.slice none 0 0)/\((.int .i64 0:Value)=.int .i64 0)/\((.int .i64 0:Value)=.int .i64 0)/\((.int .i64 0:Value)=.int .i64 0)/\((.bool false:Value)=.bool false)/\((.int .i64 0:Value)=.int .i64 0)/\((.int .i64 0:Value)=.int .i64 0)/\((.int .i64 0:Value)=.int .i64 0)/\((.int .i64 0:Value)=.int .i64 0)/\((.int .i64 0:Value)=.int .i64 0)/\((.int .i64 0:Value)=.int .i64 0)/\((.int .i64 0:Value)=.int .i64 0)/\((.slice none 0 0:Value)=.slice none 0 0)/\((.bool false:Value)=.bool false)/\((.int .i64 0:Value)=.int .i64 0)/\((.bool false:Value)=.bool false)/\((.slice none 0 0:Value)=.slice none 0 0)/\((.int .i64 0:Value)=.int .i64 0)/\((.int .i64 x11:Value)=.int .i64 j.1)/\((.int .i64 x12:Value)=.int .i64 j.2.1)/\((.int .i64 x14:Value)=.int .i64 j.2.2.2.1)/\((.int .i64 x16:Value)=.int .i64 j.2.2.2.2.2.1)/\((.int .i64 x17:Value)=.int .i64 j.2.2.2.2.2.2.1)/\((.int .i64 x18:Value)=.int .i64 j.2.2.2.2.2.2.2.1)/\((.bool x19:Value)=.bool j.2.2.2.2.2.2.2.2.1)/\((.int .i64 x20:Value)=.int .i64 j.2.2.2.2.2.2.2.2.2.1)/\((.int .i64 x21:Value)=.int .i64 j.2.2.2.2.2.2.2.2.2.2.1)/\((.int .i64 x22:Value)=.int .i64 j.2.2.2.2.2.2.2.2.2.2.2.1)/\((.int .i64 x23:Value)=.int .i64 j.2.2.2.2.2.2.2.2.2.2.2.2.1)/\((.int .i64 x24:Value)=.int .i64 j.2.2.2.2.2.2.2.2.2.2.2.2.2.1)/\((.int .i64 x25:Value)=.int .i64 j.2.2.2.2.2.2.2.2.2.2.2.2.2.2.1)/\((.int .i64 x26:Value)=.int .i64 j.2.2.2.2.2.2.2.2.2.2.2.2.2.2.2.1)/\((.bool x28:Value)=.bool j.2.2.2.2.2.2.2.2.2.2.2.2.2.2.2.2.2.1)/\((.int .i64 x29:Value)=.int .i64 j.2.2.2.2.2.2.2.2.2.2.2.2.2.2.2.2.2.2.1)/\((.bool x30:Value)=.bool j.2.2.2.2.2.2.2.2.2.2.2.2.2.2.2.2.2.2.2.1)/\((.int .i64 x32:Value)=.int .i64 j.2.2.2.2.2.2.2.2.2.2.2.2.2.2.2.2.2.2.2.2.2)/\(Imp (.l 2 eHelloKey x13) (.l 2 eHelloKey j.2.2.1))/\(Imp (.l 4 eHelloEntry x15) (.l 4 eHelloEntry j.2.2.2.2.1))/\(Imp (.l 4 eHelloEntry x27) (.l 4 eHelloEntry j.2.2.2.2.2.2.2.2.2.2.2.2.2.2.2.2.1))/\(Imp (.l 5 eHelloRoute x31) (.l 5 eHelloRoute j.2.2.2.2.2.2.2.2.2.2.2.2.2.2.2.2.2.2.2.2.1))/\jJ121_1 e1 x9 x10 j:=⟨(x11,x12,x13,x14,x15,x16,x17,x18,x19,x20,x21,x22,x23,x24,x25,x26,x27,x28,x29,x30,x31,x32),rfl,rfl,rfl,rfl,rfl,rfl,rfl,rfl,rfl,rfl,rfl,rfl,rfl,rfl,rfl,rfl,rfl,rfl,rfl,rfl,rfl,rfl,rfl,rfl,rfl,rfl,rfl,rfl,rfl,rfl,rfl,rfl,rfl,rfl,rfl,rfl,rfl,rfl,rfl,rfl,Imp.refl _,Imp.refl _,Imp.refl _,Imp.refl _,e,h⟩
theorem fi121 (e1:Ud) (r:Ud) (hF:r=(F121 e1)):((.int .i64 r.Name:Value)=.int .i64 (F121 e1).Name)/\((.int .i64 r.Peer:Value)=.int .i64 (F121 e1).Peer)/\(Imp (.l 2 eHelloKey r.Keys) (.l 2 eHelloKey (F121 e1).Keys))/\((.int .i64 r.Boot:Value)=.int .i64 (F121 e1).Boot)/\(Imp (.l 4 eHelloEntry r.Want) (.l 4 eHelloEntry (F121 e1).Want))/\((.int .i64 r.Turn:Value)=.int .i64 (F121 e1).Turn)/\((.int .i64 r.PeerBoot:Value)=.int .i64 (F121 e1).PeerBoot)/\((.int .i64 r.PeerTurn:Value)=.int .i64 (F121 e1).PeerTurn)/\((.bool r.Up:Value)=.bool (F121 e1).Up)/\((.int .i64 r.Left:Value)=.int .i64 (F121 e1).Left)/\((.int .i64 r.Num:Value)=.int .i64 (F121 e1).Num)/\((.int .i64 r.Under.Kind:Value)=.int .i64 (F121 e1).Under.Kind)/\((.int .i64 r.Under.Entry.Addr:Value)=.int .i64 (F121 e1).Under.Entry.Addr)/\((.int .i64 r.Under.Entry.Len:Value)=.int .i64 (F121 e1).Under.Entry.Len)/\((.int .i64 r.Under.Entry.Cost:Value)=.int .i64 (F121 e1).Under.Entry.Cost)/\((.int .i64 r.Under.Entry.Label:Value)=.int .i64 (F121 e1).Under.Entry.Label)/\(Imp (.l 4 eHelloEntry r.Told) (.l 4 eHelloEntry (F121 e1).Told))/\((.bool r.All:Value)=.bool (F121 e1).All)/\((.int .i64 r.Got:Value)=.int .i64 (F121 e1).Got)/\((.bool r.Full:Value)=.bool (F121 e1).Full)/\(Imp (.l 5 eHelloRoute r.Heard) (.l 5 eHelloRoute (F121 e1).Heard))/\((.int .i64 r.Keep:Value)=.int .i64 (F121 e1).Keep)/\True:=by cases hF; exact ⟨rfl,rfl,Imp.refl _,rfl,Imp.refl _,rfl,rfl,rfl,rfl,rfl,rfl,rfl,rfl,rfl,rfl,rfl,Imp.refl _,rfl,rfl,rfl,Imp.refl _,rfl,trivial⟩
def S121 (e1:Ud):Spec:=⟨[.r (.g (eHelloEnd e1))],.ag [.v (vI (F121 e1).Name),.v (vI (F121 e1).Peer),.ow (.l 2 eHelloKey (F121 e1).Keys),.v (vI (F121 e1).Boot),.ow (.l 4 eHelloEntry (F121 e1).Want),.v (vI (F121 e1).Turn),.v (vI (F121 e1).PeerBoot),.v (vI (F121 e1).PeerTurn),.v (.bool (F121 e1).Up),.v (vI (F121 e1).Left),.v (vI (F121 e1).Num),.v (vI (F121 e1).Under.Kind),.v (vI (F121 e1).Under.Entry.Addr),.v (vI (F121 e1).Under.Entry.Len),.v (vI (F121 e1).Under.Entry.Cost),.v (vI (F121 e1).Under.Entry.Label),.ow (.l 4 eHelloEntry (F121 e1).Told),.v (.bool (F121 e1).All),.v (vI (F121 e1).Got),.v (.bool (F121 e1).Full),.ow (.l 5 eHelloRoute (F121 e1).Heard),.v (vI (F121 e1).Keep)],True⟩
abbrev q121_1 (e1:Ud) (x9:List Uf) (x10:Int):=(⟨e1.Name,e1.Peer,e1.Keys,e1.Boot,e1.Want,e1.Turn,e1.PeerBoot,e1.PeerTurn,e1.Up,(e1.Left-1),e1.Num,e1.Under,e1.Told,e1.All,e1.Got,e1.Full,x9,x10⟩:Ud)
abbrev q121_2 (x22:Int) (x23:Int) (x24:Int) (x25:Int) (x26:Int):=(⟨x22,(⟨x23,x24,x25,x26⟩:Ue)⟩:HelloChange)
theorem ok121 (e1:Ud):(S121 e1).ok Tryz.prog 121 :=
 fnG_ok mixed (fn:=Tryz.f121) (ct:=.seq .no (.seq (.seq (.reg [(1,kh9l e1)]) (.cond (.seq .no .no) .no)) (.seq (.reg [(1,kh36a e1)]) (.cut (ι:=List Uf×Int) (fun j=>(fun (x9:List Uf) (x10:Int)=>(⟨[(2,some (.p 0 0)),(3,some (.p 1 0))],[(0,some (.box 31 [.v (vI 0),.v (vI 0),.v (.slice none 0 0),.v (vI 0),.v (.slice none 0 0),.v (vI 0),.v (vI 0),.v (vI 0),.v (.bool false),.v (vI 0),.v (vI 0),.v (vI 0),.v (vI 0),.v (vI 0),.v (vI 0),.v (vI 0),.v (.slice none 0 0),.v (.bool false),.v (vI 0),.v (.bool false),.v (.slice none 0 0),.v (vI 0)])),(1,some (.box 31 [.v (vI e1.Name),.v (vI e1.Peer),.h 2 0,.v (vI e1.Boot),.h 3 0,.v (vI e1.Turn),.v (vI e1.PeerBoot),.v (vI e1.PeerTurn),.v (.bool e1.Up),.v (vI e1.Left),.v (vI e1.Num),.v (vI e1.Under.Kind),.v (vI e1.Under.Entry.Addr),.v (vI e1.Under.Entry.Len),.v (vI e1.Under.Entry.Cost),.v (vI e1.Under.Entry.Label),.h 4 0,.v (.bool e1.All),.v (vI e1.Got),.v (.bool e1.Full),.h 5 0,.v (vI x10)])),(2,some (.own 2 (.l 2 eHelloKey e1.Keys))),(3,some (.own 3 (.l 4 eHelloEntry e1.Want))),(4,some (.own 4 (.l 4 eHelloEntry e1.Told))),(5,some (.own 5 (.l 5 eHelloRoute x9)))],6⟩:St)) j.1 j.2) (jJ121_0 e1) (.seq .no (.cond (.seq (.reg [(2,.bnd)]) (.seq .no (.cond (.reg [(2,kh126l e1.Heard)]) .no))) .no)) (fun j=>(fun (x9:List Uf) (x10:Int)=>(.cut (ι:=Int×Int×List HelloKey×Int×List Ue×Int×Int×Int×Bool×Int×Int×Int×Int×Int×Int×Int×List Ue×Bool×Int×Bool×List Uf×Int) (fun j=>(fun (x11:Int) (x12:Int) (x13:List HelloKey) (x14:Int) (x15:List Ue) (x16:Int) (x17:Int) (x18:Int) (x19:Bool) (x20:Int) (x21:Int) (x22:Int) (x23:Int) (x24:Int) (x25:Int) (x26:Int) (x27:List Ue) (x28:Bool) (x29:Int) (x30:Bool) (x31:List Uf) (x32:Int)=>(⟨[(2,some (.p 0 0)),(3,some (.p 1 0))],[(0,some (.box 31 [.v (vI 0),.v (vI 0),.v (.slice none 0 0),.v (vI 0),.v (.slice none 0 0),.v (vI 0),.v (vI 0),.v (vI 0),.v (.bool false),.v (vI 0),.v (vI 0),.v (vI 0),.v (vI 0),.v (vI 0),.v (vI 0),.v (vI 0),.v (.slice none 0 0),.v (.bool false),.v (vI 0),.v (.bool false),.v (.slice none 0 0),.v (vI 0)])),(1,some (.box 31 [.v (vI x11),.v (vI x12),.h 2 0,.v (vI x14),.h 3 0,.v (vI x16),.v (vI x17),.v (vI x18),.v (.bool x19),.v (vI x20),.v (vI x21),.v (vI x22),.v (vI x23),.v (vI x24),.v (vI x25),.v (vI x26),.h 4 0,.v (.bool x28),.v (vI x29),.v (.bool x30),.h 5 0,.v (vI x32)])),(2,some (.own 2 (.l 2 eHelloKey x13))),(3,some (.own 3 (.l 4 eHelloEntry x15))),(4,some (.own 4 (.l 4 eHelloEntry x27))),(5,some (.own 5 (.l 5 eHelloRoute x31)))],6⟩:St)) j.1 j.2.1 j.2.2.1 j.2.2.2.1 j.2.2.2.2.1 j.2.2.2.2.2.1 j.2.2.2.2.2.2.1 j.2.2.2.2.2.2.2.1 j.2.2.2.2.2.2.2.2.1 j.2.2.2.2.2.2.2.2.2.1 j.2.2.2.2.2.2.2.2.2.2.1 j.2.2.2.2.2.2.2.2.2.2.2.1 j.2.2.2.2.2.2.2.2.2.2.2.2.1 j.2.2.2.2.2.2.2.2.2.2.2.2.2.1 j.2.2.2.2.2.2.2.2.2.2.2.2.2.2.1 j.2.2.2.2.2.2.2.2.2.2.2.2.2.2.2.1 j.2.2.2.2.2.2.2.2.2.2.2.2.2.2.2.2.1 j.2.2.2.2.2.2.2.2.2.2.2.2.2.2.2.2.2.1 j.2.2.2.2.2.2.2.2.2.2.2.2.2.2.2.2.2.2.1 j.2.2.2.2.2.2.2.2.2.2.2.2.2.2.2.2.2.2.2.1 j.2.2.2.2.2.2.2.2.2.2.2.2.2.2.2.2.2.2.2.2.1 j.2.2.2.2.2.2.2.2.2.2.2.2.2.2.2.2.2.2.2.2.2) (jJ121_1 e1 x9 x10) (.seq .no (.cond (.seq (.reg [(2,.bnd)]) (.seq .no (.cond (.reg [(1,.call 37 (S37 (q121_1 e1 x9 x10)) (ok37 (q121_1 e1 x9 x10)) none)]) .no))) .no)) (fun j=>(fun (x11:Int) (x12:Int) (x13:List HelloKey) (x14:Int) (x15:List Ue) (x16:Int) (x17:Int) (x18:Int) (x19:Bool) (x20:Int) (x21:Int) (x22:Int) (x23:Int) (x24:Int) (x25:Int) (x26:Int) (x27:List Ue) (x28:Bool) (x29:Int) (x30:Bool) (x31:List Uf) (x32:Int)=>(.seq (.reg [(1,.call 36 (S36 (⟨x11,x12,x13,x14,x15,x16,x17,x18,x19,x20,x21,(q121_2 x22 x23 x24 x25 x26),x27,x28,x29,x30,x31,x32⟩:Ud) (⟨x11,x12,x13,x14,x15,x16,x17,x18,x19,x20,x21,(q121_2 x22 x23 x24 x25 x26),x27,x28,x29,x30,x31,x32⟩:Ud)) (oa36 (⟨x11,x12,x13,x14,x15,x16,x17,x18,x19,x20,x21,(q121_2 x22 x23 x24 x25 x26),x27,x28,x29,x30,x31,x32⟩:Ud)) none)]) .no)) j.1 j.2.1 j.2.2.1 j.2.2.2.1 j.2.2.2.2.1 j.2.2.2.2.2.1 j.2.2.2.2.2.2.1 j.2.2.2.2.2.2.2.1 j.2.2.2.2.2.2.2.2.1 j.2.2.2.2.2.2.2.2.2.1 j.2.2.2.2.2.2.2.2.2.2.1 j.2.2.2.2.2.2.2.2.2.2.2.1 j.2.2.2.2.2.2.2.2.2.2.2.2.1 j.2.2.2.2.2.2.2.2.2.2.2.2.2.1 j.2.2.2.2.2.2.2.2.2.2.2.2.2.2.1 j.2.2.2.2.2.2.2.2.2.2.2.2.2.2.2.1 j.2.2.2.2.2.2.2.2.2.2.2.2.2.2.2.2.1 j.2.2.2.2.2.2.2.2.2.2.2.2.2.2.2.2.2.1 j.2.2.2.2.2.2.2.2.2.2.2.2.2.2.2.2.2.2.1 j.2.2.2.2.2.2.2.2.2.2.2.2.2.2.2.2.2.2.2.1 j.2.2.2.2.2.2.2.2.2.2.2.2.2.2.2.2.2.2.2.2.1 j.2.2.2.2.2.2.2.2.2.2.2.2.2.2.2.2.2.2.2.2.2))) j.1 j.2))))) Tryz.func121 (fun (_:True)=>kc9l e1 (ifb (!(F9 e1)) (fun h1=>(fun hF:((⟨0,0,[],0,[],0,0,0,false,0,0,(⟨0,(⟨0,0,0,0⟩:Ue)⟩:HelloChange),[],false,0,false,[],0⟩:Ud):Ud)=(F121 e1)=>ai (Qc (fun r:Ud=>(.int .i64 r.Name:Value)) hF) (ai (Qc (fun r:Ud=>(.int .i64 r.Peer:Value)) hF) (ai ((Imp.nil 2 eHelloKey).trans (Imp.of_eq (Qc (fun r:Ud=>Dat.l 2 eHelloKey r.Keys) hF))) (ai (Qc (fun r:Ud=>(.int .i64 r.Boot:Value)) hF) (ai ((Imp.nil 4 eHelloEntry).trans (Imp.of_eq (Qc (fun r:Ud=>Dat.l 4 eHelloEntry r.Want) hF))) (ai (Qc (fun r:Ud=>(.int .i64 r.Turn:Value)) hF) (ai (Qc (fun r:Ud=>(.int .i64 r.PeerBoot:Value)) hF) (ai (Qc (fun r:Ud=>(.int .i64 r.PeerTurn:Value)) hF) (ai (Qc (fun r:Ud=>(.bool r.Up:Value)) hF) (ai (Qc (fun r:Ud=>(.int .i64 r.Left:Value)) hF) (ai (Qc (fun r:Ud=>(.int .i64 r.Num:Value)) hF) (ai (Qc (fun r:Ud=>(.int .i64 r.Under.Kind:Value)) hF) (ai (Qc (fun r:Ud=>(.int .i64 r.Under.Entry.Addr:Value)) hF) (ai (Qc (fun r:Ud=>(.int .i64 r.Under.Entry.Len:Value)) hF) (ai (Qc (fun r:Ud=>(.int .i64 r.Under.Entry.Cost:Value)) hF) (ai (Qc (fun r:Ud=>(.int .i64 r.Under.Entry.Label:Value)) hF) (ai ((Imp.nil 4 eHelloEntry).trans (Imp.of_eq (Qc (fun r:Ud=>Dat.l 4 eHelloEntry r.Told) hF))) (ai (Qc (fun r:Ud=>(.bool r.All:Value)) hF) (ai (Qc (fun r:Ud=>(.int .i64 r.Got:Value)) hF) (ai (Qc (fun r:Ud=>(.bool r.Full:Value)) hF) (ai ((Imp.nil 5 eHelloRoute).trans (Imp.of_eq (Qc (fun r:Ud=>Dat.l 5 eHelloRoute r.Heard) hF))) (ai (Qc (fun r:Ud=>(.int .i64 r.Keep:Value)) hF) trivial)))))))))))))))))))))) (condT h1 rfl)) (fun h1=>have _:1<=e1.Keys.length/\e1.Keys.length<=3/\e1.Want.length<=8/\e1.Told.length<=8/\e1.Heard.length<=16:=endOkS_T e1 (notEF h1); have _:EndFit e1:=endFitS e1 (notEF h1); have _:0<=e1.Keep/\e1.Keep<=6/\0<=e1.Left/\e1.Left<=4:=endKeep e1 (notEF h1); kc36a e1 uu17 (ai (ifd (e1.Keep>0) (fun h2 _=>ai (iok (e1.Keep-1) uu0) (ife (e1.Keep-1) 0 (fun h3 _=>kc126l e1.Heard uu16 uu16 (fun gv4=>jn121_0 e1 (F126 e1.Heard) (e1.Keep-1) (Ri (condT h2 (condT h3 rfl))) uu33)) (fun h3 _=>jn121_0 e1 e1.Heard (e1.Keep-1) (Ri (condT h2 (condF h3 rfl))) uu33))) (fun h2 _=>jn121_0 e1 e1.Heard e1.Keep (Ri (condF h2 rfl)) uu33)) (fun (j:List Uf×Int) (hj:jJ121_0 e1 j)=>(fun (x9:List Uf) (x10:Int) (hJ0_5:(F121_j0 e1)=Lp.done (x9,x10)) (hw:jI121_0 e1 x9 x10)=>have _:=hw.1; ai (ifd (e1.Left>0) (fun h6 _=>ai (iok (e1.Left-1) uu0) (ife (e1.Left-1) 0 (fun h7 _=>ai trivial (ai (Imps.refl (eHelloEnd (q121_1 e1 x9 x10))) (have gv8:smallE (F37 (q121_1 e1 x9 x10)):=life_small (q121_1 e1 x9 x10) (uu17:smallE (q121_1 e1 x9 x10)); jn121_1 e1 x9 x10 (F37 (q121_1 e1 x9 x10)).Name (F37 (q121_1 e1 x9 x10)).Peer (F37 (q121_1 e1 x9 x10)).Keys (F37 (q121_1 e1 x9 x10)).Boot (F37 (q121_1 e1 x9 x10)).Want (F37 (q121_1 e1 x9 x10)).Turn (F37 (q121_1 e1 x9 x10)).PeerBoot (F37 (q121_1 e1 x9 x10)).PeerTurn (F37 (q121_1 e1 x9 x10)).Up (F37 (q121_1 e1 x9 x10)).Left (F37 (q121_1 e1 x9 x10)).Num (F37 (q121_1 e1 x9 x10)).Under.Kind (F37 (q121_1 e1 x9 x10)).Under.Entry.Addr (F37 (q121_1 e1 x9 x10)).Under.Entry.Len (F37 (q121_1 e1 x9 x10)).Under.Entry.Cost (F37 (q121_1 e1 x9 x10)).Under.Entry.Label (F37 (q121_1 e1 x9 x10)).Told (F37 (q121_1 e1 x9 x10)).All (F37 (q121_1 e1 x9 x10)).Got (F37 (q121_1 e1 x9 x10)).Full (F37 (q121_1 e1 x9 x10)).Heard (F37 (q121_1 e1 x9 x10)).Keep (Ri (condT h6 (condT h7 rfl))) uu34))) (fun h7 _=>jn121_1 e1 x9 x10 e1.Name e1.Peer e1.Keys e1.Boot e1.Want e1.Turn e1.PeerBoot e1.PeerTurn e1.Up (e1.Left-1) e1.Num e1.Under.Kind e1.Under.Entry.Addr e1.Under.Entry.Len e1.Under.Entry.Cost e1.Under.Entry.Label e1.Told e1.All e1.Got e1.Full x9 x10 (Ri (condT h6 (condF h7 rfl))) uu34))) (fun h6 _=>jn121_1 e1 x9 x10 e1.Name e1.Peer e1.Keys e1.Boot e1.Want e1.Turn e1.PeerBoot e1.PeerTurn e1.Up e1.Left e1.Num e1.Under.Kind e1.Under.Entry.Addr e1.Under.Entry.Len e1.Under.Entry.Cost e1.Under.Entry.Label e1.Told e1.All e1.Got e1.Full x9 x10 (Ri (condF h6 rfl)) uu34)) (fun (j:Int×Int×List HelloKey×Int×List Ue×Int×Int×Int×Bool×Int×Int×Int×Int×Int×Int×Int×List Ue×Bool×Int×Bool×List Uf×Int) (hj:jJ121_1 e1 x9 x10 j)=>(fun (x11:Int) (x12:Int) (x13:List HelloKey) (x14:Int) (x15:List Ue) (x16:Int) (x17:Int) (x18:Int) (x19:Bool) (x20:Int) (x21:Int) (x22:Int) (x23:Int) (x24:Int) (x25:Int) (x26:Int) (x27:List Ue) (x28:Bool) (x29:Int) (x30:Bool) (x31:List Uf) (x32:Int) (hJ1_9:(F121_j1 e1 x9 x10)=Lp.done (x11,x12,x13,x14,x15,x16,x17,x18,x19,x20,x21,x22,x23,x24,x25,x26,x27,x28,x29,x30,x31,x32)) (hw:jI121_1 e1 x9 x10 x11 x12 x13 x14 x15 x16 x17 x18 x19 x20 x21 x22 x23 x24 x25 x26 x27 x28 x29 x30 x31 x32)=>have _:=hw.1; have _:=hw.2.1; have _:=hw.2.2.1; have _:=hw.2.2.2; ai (uu17:smallE (⟨x11,x12,x13,x14,x15,x16,x17,x18,x19,x20,x21,(q121_2 x22 x23 x24 x25 x26),x27,x28,x29,x30,x31,x32⟩:Ud)) (ai (Imps.refl (eHelloEnd (⟨x11,x12,x13,x14,x15,x16,x17,x18,x19,x20,x21,(q121_2 x22 x23 x24 x25 x26),x27,x28,x29,x30,x31,x32⟩:Ud))) (fi121 e1 (⟨x11,x12,x13,x14,x15,x16,x17,x18,x19,x20,x21,(q121_2 x22 x23 x24 x25 x26),x27,x28,x29,x30,x31,x32⟩:Ud) (condF h1 (finD hJ0_5 (finD hJ1_9 rfl)))))) j.1 j.2.1 j.2.2.1 j.2.2.2.1 j.2.2.2.2.1 j.2.2.2.2.2.1 j.2.2.2.2.2.2.1 j.2.2.2.2.2.2.2.1 j.2.2.2.2.2.2.2.2.1 j.2.2.2.2.2.2.2.2.2.1 j.2.2.2.2.2.2.2.2.2.2.1 j.2.2.2.2.2.2.2.2.2.2.2.1 j.2.2.2.2.2.2.2.2.2.2.2.2.1 j.2.2.2.2.2.2.2.2.2.2.2.2.2.1 j.2.2.2.2.2.2.2.2.2.2.2.2.2.2.1 j.2.2.2.2.2.2.2.2.2.2.2.2.2.2.2.1 j.2.2.2.2.2.2.2.2.2.2.2.2.2.2.2.2.1 j.2.2.2.2.2.2.2.2.2.2.2.2.2.2.2.2.2.1 j.2.2.2.2.2.2.2.2.2.2.2.2.2.2.2.2.2.2.1 j.2.2.2.2.2.2.2.2.2.2.2.2.2.2.2.2.2.2.2.1 j.2.2.2.2.2.2.2.2.2.2.2.2.2.2.2.2.2.2.2.2.1 j.2.2.2.2.2.2.2.2.2.2.2.2.2.2.2.2.2.2.2.2.2 hj.1 hj.2)) j.1 j.2 hj.1 hj.2))))) uu3
theorem kg114 {K_:Prop} (c_ b_:Bool) (w1:HelloWord) (k_:K_):(c_=b_->True)/\(c_=b_->Imps (eHelloWord w1) (eHelloWord w1))/\K_:=⟨fun _=>trivial,fun _=>Imps.refl _,k_⟩
theorem kc38 (secret:Int) (w1:HelloWord) {K_:Prop} (k_:K_):(True)/\(Imp (.v (vI secret)) (.v (vI secret)))/\(Imps (eHelloWord w1) (eHelloWord w1))/\K_:=⟨trivial,Imp.refl _,Imps.refl _,k_⟩
abbrev kh38 (secret:Int) (w1:HelloWord):Hint true Tryz.prog:=.call 38 (S38 secret w1) (ok38 secret w1) none
def F124_s0 (keys:List HelloKey) (w1:HelloWord):Int->Lp Int Bool:=fun i40 =>
 bif (decide (i40<(keys.length:Int))) then (bif ((keys.getD i40.toNat default).Id==w1.Key) then (.ret ((F38 (keys.getD i40.toNat default).Secret w1)==w1.Sum)) else (.next (i40+1))) else (.done i40)
def F124 (keys:List HelloKey) (w1:HelloWord):Bool :=
 bif (bif (!(F29 keys)) then true else (!(F114 w1))) then false else ((runL (F124_s0 keys w1) (((keys.length:Int)-0).toNat+1) 0).fin (fun r=>r) (fun i40=>false))
abbrev lN124_0 (keys:List HelloKey):Nat×Int:=((((keys.length:Int)-0).toNat+1),0)
abbrev lI124_0 (keys:List HelloKey) (m39:Nat) (i40:Int):Prop:=Int.toNat ((keys.length:Int)-i40)<m39/\(0:Int)<=i40
abbrev lX124_0 (keys:List HelloKey) (w1:HelloWord):Lp Int Bool:=LpX (F124_s0 keys w1) (lN124_0 keys)
abbrev lJ124_0 (keys:List HelloKey) (w1:HelloWord) (i:Nat×Int):Prop:=LpJ (F124_s0 keys w1) (lN124_0 keys) i (lI124_0 keys i.1 i.2)
abbrev lH124_0 (keys:List HelloKey) (w1:HelloWord) (i:Nat×Int) (m39:Nat) (i40:Int):Prop:=LpH (F124_s0 keys w1) (lN124_0 keys) i m39 i40 (lI124_0 keys (m39+1) i40)
abbrev lE124_0 (keys:List HelloKey) (w1:HelloWord) (i40:Int) (i40_:Int) (K39:Prop):Prop:=((.int .i64 i40:Value)=.int .i64 i40_)/\(Im (.l 2 eHelloKey keys))/\(Rf (.int .i64 w1.From))/\(Rf (.int .i64 w1.To))/\(Rf (.int .i64 w1.Key))/\(Rf (.int .i64 w1.Boot))/\(Rf (.int .i64 w1.Yours))/\(Rf (.int .i64 w1.Turn))/\(Rf (.int .i64 w1.Num))/\(Rf (.int .i64 w1.Heard))/\(Rf (.int .i64 w1.Change.Kind))/\(Rf (.int .i64 w1.Change.Entry.Addr))/\(Rf (.int .i64 w1.Change.Entry.Len))/\(Rf (.int .i64 w1.Change.Entry.Cost))/\(Rf (.int .i64 w1.Change.Entry.Label))/\(Rf (.int .i64 w1.Sum))/\K39
theorem un124_0 (keys:List HelloKey) (w1:HelloWord) (i:Nat×Int) (h:lJ124_0 keys w1 i):lH124_0 keys w1 i (i.1-1) i.2:=⟨hd1 h.1 h.2.1,hd3 h.2.1,hd2 h.2.1,h.2.2⟩
theorem bk124_0 (keys:List HelloKey) (w1:HelloWord) (i:Nat×Int) (m39:Nat) (i40:Int) (hl:m39<i.1) (e:runL (F124_s0 keys w1) m39 i40=lX124_0 keys w1) (h:lI124_0 keys m39 i40):∃ j:Nat×Int,lE124_0 keys w1 i40 j.2 (lJ124_0 keys w1 j/\j.1<i.1):=⟨(m39,i40),rfl,Imp.refl _,rfl,rfl,rfl,rfl,rfl,rfl,rfl,rfl,rfl,rfl,rfl,rfl,rfl,rfl,⟨e,h⟩,hl⟩
theorem en124_0 (keys:List HelloKey) (w1:HelloWord) (h:(0:Int)<=0):lE124_0 keys w1 0 0 (lJ124_0 keys w1 (lN124_0 keys)):=⟨rfl,Imp.refl _,rfl,rfl,rfl,rfl,rfl,rfl,rfl,rfl,rfl,rfl,rfl,rfl,rfl,rfl,rfl,Qq _,h⟩
def S124 (keys:List HelloKey) (w1:HelloWord):Spec:=⟨[.r (.c (.l 2 eHelloKey keys)),.r (.g (eHelloWord w1))],.v (.bool (F124 keys w1)),True⟩
theorem ok124 (keys:List HelloKey) (w1:HelloWord):(S124 keys w1).ok Tryz.prog 124 :=
 fnG_ok mixed (fn:=Tryz.f124) (ct:=.seqk [(0,0)] .no (.seq (.seq (.reg [(1,kh29l keys),(5,kh114 w1)]) (.cond (.seq .no .no) .no)) (.seq (.seqk [(0,0)] .no (.blk (.loop (ι:=Nat×Int) (fun i=>(fun (i40:Int)=>(⟨[(0,some (.h 0 0)),(3,some (.p 1 0)),(5,some (.v (vI i40)))],[(0,some (.shr none (.l 2 eHelloKey keys))),(1,some (.box 39 [.v (vI w1.From),.v (vI w1.To),.v (vI w1.Key),.v (vI w1.Boot),.v (vI w1.Yours),.v (vI w1.Turn),.v (vI w1.Num),.v (vI w1.Heard),.v (vI w1.Change.Kind),.v (vI w1.Change.Entry.Addr),.v (vI w1.Change.Entry.Len),.v (vI w1.Change.Entry.Cost),.v (vI w1.Change.Entry.Label),.v (vI w1.Sum)]))],2⟩:St)) i.2) (lJ124_0 keys w1) (fun i=>i.1) (lN124_0 keys) (fun i=>(fun (i40:Int)=>(.seq (.seq .no (.cond .no .no)) (.seq (.blk (.seq .no (.cond (.seq (.reg [(6,kh38 (keys.getD i40.toNat default).Secret w1)]) .no) .no))) (.reg [(1,.bnd)])))) i.2)))) (.seq .no .no)))) Tryz.func124 (fun (_:True)=>kn keys fun _=>kc29l keys (kg114 (!(F29 keys)) false w1 (ifb (bif (!(F29 keys)) then true else (!(F114 w1))) (fun h2=>fiB false (F124 keys w1) (condT h2 rfl)) (fun h2=>have _:1<=keys.length/\keys.length<=3:=keysOkS_T keys (notEF (orF1 h2)); kn keys fun _=>ai (en124_0 keys w1 uu0) (fun (i0:Nat×Int) (hi0:lJ124_0 keys w1 i0)=>(fun (m0:Nat) (i40:Int) (hh0:lH124_0 keys w1 i0 m0 i40)=>have hI0:=hh0.1; have hl0:=hh0.2.1; have _:=hh0.2.2.1; have _:=hh0.2.2.2; ifd (i40<(keys.length:Int)) (fun h4 _=>ai (uu0:ib i40 keys) (ife (keys.getD i40.toNat default).Id w1.Key (fun h5 _=>ai (uu0:ib i40 keys) (kc38 (keys.getD i40.toNat default).Secret w1 (fiB ((F38 (keys.getD i40.toNat default).Secret w1)==w1.Sum) (F124 keys w1) (condF h2 (finR (runL_ret hI0 (condT h4 (condT h5 rfl))) rfl))))) (fun h5 _=>ai (iok (i40+1) uu0) (bk124_0 keys w1 i0 m0 (i40+1) hl0 (runL_next hI0 (condT h4 (condF h5 rfl))) uu7)))) (fun h4 _=>have hD0_6:lX124_0 keys w1=Lp.done i40:=runL_done hI0 (condF h4 rfl); fiB false (F124 keys w1) (condF h2 (finD hD0_6 rfl)))) (i0.1-1) i0.2 (un124_0 keys w1 i0 hi0)))))) uu3
def anewN (e:Ud):Ud:=⟨e.Name,e.Peer,e.Keys,e.Boot,e.Want,e.Turn,e.PeerBoot,e.PeerTurn,false,e.Left,0,⟨0,⟨0,0,0,0⟩⟩,[],false,0,false,e.Heard.map staleR,bif (bif decide ((e.Heard.length:Int)>0) then (e.Keep==0) else false) then 6 else e.Keep⟩
theorem stale_N (e:Ud):F92 e=⟨e.Name,e.Peer,e.Keys,e.Boot,e.Want,e.Turn,e.PeerBoot,e.PeerTurn,e.Up,e.Left,e.Num,e.Under,e.Told,e.All,e.Got,e.Full,e.Heard.map staleR,bif (bif decide ((e.Heard.length:Int)>0) then (e.Keep==0) else false) then 6 else e.Keep⟩:=by
 unfold F92
 rw [lifeS_loop]
 simp only [Lp.fin,Si]
 cases (bif decide ((e.Heard.length:Int)>0) then (e.Keep==0) else false) <;> rfl
theorem anew_N (e:Ud):F71 e=anewN e:=by
 unfold F71
 rw [stale_N]; rfl
theorem apply_zero (t:List Ue):F32 t ⟨0,⟨0,0,0,0⟩⟩=t:=by unfold F32; rfl
theorem change0:F31 ⟨0,⟨0,0,0,0⟩⟩=true:=by rfl
theorem table_nil:F30 []=true:=(tableOk_iff _).2 ⟨by decide,ord_nil⟩
theorem any_stale (l:List Uf):anySt (l.map staleR)=decide (0<l.length):=by
 cases l with
 | nil=>rfl
 | cons a l=>unfold anySt; simp [staleR]
theorem any_iff (l:List Uf):anySt l=true↔∃ r,r∈l/\r.Stale=true:=by unfold anySt; rw [Ru]
structure EB (e:Ud):Prop where
 nm:0<=e.Name/\e.Name<=65535
 pr:0<=e.Peer/\e.Peer<=65535
 ne:e.Name≠e.Peer
 keys:F29 e.Keys=true
 boot:1<=e.Boot/\e.Boot<=1000
 want:F30 e.Want=true
 pb:0<=e.PeerBoot/\e.PeerBoot<=999
 pt:0<=e.PeerTurn/\e.PeerTurn<=1000000
 pp:e.PeerBoot=0↔e.PeerTurn=0
 hlen:e.Heard.length<=16
 keep:0<=e.Keep/\e.Keep<=6
 hord:ROk e.Heard
 hany:anySt e.Heard=decide (e.Keep>0)
theorem EOk.eb {e:Ud} (h:EOk e):EB e :=
 have x:=(heard_iff e).1 h.hd
 ⟨h.nm,h.pr,h.ne,h.keys,h.boot,h.want,h.pb,h.pt,h.pp,x.1,x.2.1,x.2.2.1,x.2.2.2.2⟩
theorem ord_map (l:List Uf) (g:Uf->Uf) (hg:∀ r,(g r).Entry=r.Entry) (h:ROk l):ROk (l.map g):=by
 obtain ⟨h1,h2⟩:=h
 refine ⟨fun r hr=>?_,?_⟩
 ·obtain ⟨q,hq,rfl⟩:=Sb.1 hr
  rw [hg]; exact h1 q hq
 ·rw [List.pairwise_map]
  exact h2.imp fun {a b} hab=>by rw [hg,hg]; exact hab
theorem anew_hd {e:Ud} (h:EB e):(anewN e).Heard.length<=16/\(0<=(anewN e).Keep/\(anewN e).Keep<=6)/\ROk (anewN e).Heard/\(∀ r,r∈(anewN e).Heard->r.Stale=true)/\anySt (anewN e).Heard=decide ((anewN e).Keep>0):=by
 have hl:=h.hlen
 have hk:=h.keep
 refine ⟨by show (e.Heard.map staleR).length<=16; rw [Si]; exact hl,?_,ord_map _ _ (fun _=>rfl) h.hord,fun r hr=>?_,?_⟩
 ·show 0<=(bif (bif decide ((e.Heard.length:Int)>0) then (e.Keep==0) else false) then (6:Int) else e.Keep)/\(bif (bif decide ((e.Heard.length:Int)>0) then (e.Keep==0) else false) then (6:Int) else e.Keep)<=6
  cases (bif decide ((e.Heard.length:Int)>0) then (e.Keep==0) else false) with
  | true=>rw [Qd]; omega
  | false=>exact hk
 ·have hr:r∈e.Heard.map staleR:=hr
  obtain ⟨q,_,rfl⟩:=Sb.1 hr
  rfl
 ·show anySt (e.Heard.map staleR)=decide ((bif (bif decide ((e.Heard.length:Int)>0) then (e.Keep==0) else false) then (6:Int) else e.Keep)>0)
  rw [any_stale]
  by_cases h0:0<e.Heard.length
  ·rw [Qs h0,Qs (uu0:(e.Heard.length:Int)>0),Qd]
   by_cases h1:e.Keep=0
   ·rw [h1]; rfl
   ·rw [beqD,Qt h1,Qi,Qs uu0]
  ·rw [Qt h0,Qt (uu0:¬ (e.Heard.length:Int)>0),Qi,Qi,<- h.hany]
   have:e.Heard=[]:=List.length_eq_zero_iff.1 uu0
   rw [this]; rfl
theorem eok_anew {e:Ud} (h:EB e) (ht:0<=e.Turn/\e.Turn<=1000000) (hl:e.Left=0):EOk (anewN e):=by
 obtain ⟨a1,a2,a3,a4,a5⟩:=anew_hd h
 exact ⟨h.nm,h.pr,h.ne,h.keys,h.boot,h.want,ht,h.pb,h.pt,h.pp,(by show 0<=e.Left/\e.Left<=4; omega),(fun hx=>by have:e.Left>0:=hx; omega),(fun hx=>by cases hx),⟨Int.le_refl 0,ht.1⟩,⟨Int.le_refl 0,by show (0:Int)<=1000000; decide⟩,change0,(fun hx=>absurd hx (by show ¬ ((0:Int)>0); decide)),table_nil,uu40,(heard_iff _).2 ⟨a1,a2,a3,fun _=>a4,a5⟩⟩
theorem life_N (e:Ud) (hb:1<=e.Boot/\e.Boot<=1000):F37 e=anewN ⟨e.Name,e.Peer,e.Keys,(bif decide (e.Boot<1000) then e.Boot+1 else e.Boot),e.Want,0,e.PeerBoot,e.PeerTurn,e.Up,0,e.Num,e.Under,e.Told,e.All,e.Got,e.Full,e.Heard,e.Keep⟩:=by
 unfold F37 F37_j0
 rw [wrap_of uu0 uu0]
 cases decide (e.Boot<1000) <;> exact anew_N _
theorem eok_life {e:Ud} (h:EB e):EOk (F37 e):=by
 rw [life_N e h.boot]
 refine eok_anew ⟨h.nm,h.pr,h.ne,h.keys,?_,h.want,h.pb,h.pt,h.pp,h.hlen,h.keep,h.hord,h.hany⟩ ⟨Int.le_refl 0,by show (0:Int)<=1000000; decide⟩ rfl
 have hb:=h.boot
 show 1<=(bif decide (e.Boot<1000) then e.Boot+1 else e.Boot)/\(bif decide (e.Boot<1000) then e.Boot+1 else e.Boot)<=1000
 by_cases h1:e.Boot<1000
 ·rw [Qs h1,Qd]; omega
 ·rw [Qt h1,Qi]; omega
def heardT (e:Ud):List Uf×Int:=bif decide (e.Keep>0) then (bif (e.Keep-1==0) then (F126 e.Heard,e.Keep-1) else (e.Heard,e.Keep-1)) else (e.Heard,e.Keep)
def tickX (e:Ud) (left:Int):Ud:=⟨e.Name,e.Peer,e.Keys,e.Boot,e.Want,e.Turn,e.PeerBoot,e.PeerTurn,e.Up,left,e.Num,e.Under,e.Told,e.All,e.Got,e.Full,(heardT e).1,(heardT e).2⟩
theorem tick_N {e:Ud} (h:F9 e=true):F121 e=bif decide (e.Left>0) then (bif (e.Left-1==0) then F37 (tickX e (e.Left-1)) else tickX e (e.Left-1)) else tickX e e.Left:=by
 unfold F121 F121_j0 F121_j1 tickX heardT
 rw [h]
 cases decide (e.Keep>0) with
 | true =>
  cases (e.Keep-1==0) <;> cases decide (e.Left>0) <;> cases (e.Left-1==0) <;> rfl
 | false=>cases decide (e.Left>0) <;> cases (e.Left-1==0) <;> rfl
theorem fresh_any (l:List Uf):anySt (F126 l)=false:=by
 rw [freshEq]
 cases h:anySt (l.filter fun r=>!r.Stale) with
 | false=>rfl
 | true =>
  obtain ⟨r,hr,hs⟩:=(any_iff _).1 h
  rw [Tk,hs] at hr
  exact absurd hr.2 uu5
theorem heardT_ok {e:Ud} (h:EB e):(heardT e).1.length<=16/\(0<=(heardT e).2/\(heardT e).2<=6)/\ROk (heardT e).1/\(∀ r,r∈(heardT e).1->r∈e.Heard)/\anySt (heardT e).1=decide ((heardT e).2>0):=by
 have hk:=h.keep
 unfold heardT
 by_cases h1:e.Keep>0
 ·rw [Qs h1,Qd]
  by_cases h2:e.Keep-1=0
  ·rw [beqD,Qs h2,Qd]
   have hs:(F126 e.Heard).Sublist e.Heard:=by rw [freshEq]; exact List.filter_sublist
   refine ⟨Qu hs.length_le h.hlen,by show 0<=e.Keep-1/\e.Keep-1<=6; omega,ord_sub h.hord hs,fun r hr=>hs.subset hr,?_⟩
   show anySt (F126 e.Heard)=decide (e.Keep-1>0)
   rw [fresh_any,Qt uu0]
  ·rw [beqD,Qt h2,Qi]
   refine ⟨h.hlen,by show 0<=e.Keep-1/\e.Keep-1<=6; omega,h.hord,fun r hr=>hr,?_⟩
   show anySt e.Heard=decide (e.Keep-1>0)
   rw [h.hany,Rx]; omega
 ·rw [Qt h1,Qi]
  exact ⟨h.hlen,hk,h.hord,fun r hr=>hr,h.hany⟩
theorem tickX_eb {e:Ud} (h:EOk e) (l:Int):EB (tickX e l) :=
 have x:=heardT_ok h.eb
 ⟨h.nm,h.pr,h.ne,h.keys,h.boot,h.want,h.pb,h.pt,h.pp,x.1,x.2.1,x.2.2.1,x.2.2.2.2⟩
theorem tickX_ok {e:Ud} (h:EOk e) (l:Int) (h0:0<=l/\l<=e.Left) (h1:l=0->e.Left=0):EOk (tickX e l):=by
 have x:=heardT_ok h.eb
 have y:=(heard_iff e).1 h.hd
 have hl:=h.left
 refine ⟨h.nm,h.pr,h.ne,h.keys,h.boot,h.want,h.turn,h.pb,h.pt,h.pp,(by show 0<=l/\l<=4; omega),(fun hx=>h.lp (by have:l>0:=hx; omega)),(fun hx=>?_),h.num,h.got,h.und,h.un,h.told,h.app,(heard_iff _).2 ⟨x.1,x.2.1,x.2.2.1,fun hx r hr=>y.2.2.2.1 (h1 hx) r (x.2.2.2.1 r hr),x.2.2.2.2⟩⟩
 have:=h.up hx
 show l≠0
 exact fun h2=>this (h1 h2)
theorem eok_tick {e:Ud} (h:EOk e):EOk (F121 e):=by
 rw [tick_N ((endOk_iff e).2 h)]
 have hl:=h.left
 by_cases h1:e.Left>0
 ·rw [Qs h1,Qd]
  by_cases h2:e.Left-1=0
  ·rw [beqD,Qs h2,Qd]; exact eok_life (tickX_eb h _)
  ·rw [beqD,Qt h2,Qi]; exact tickX_ok h _ uu0 uu0
 ·rw [Qt h1,Qi]; exact tickX_ok h _ uu0 (fun h=>h)
def lis1 (e:Ud) (w:HelloWord):Ud :=
 bif decide (w.Boot>e.PeerBoot) then ⟨e.Name,e.Peer,e.Keys,e.Boot,e.Want,e.Turn,w.Boot,e.PeerTurn,false,e.Left,0,⟨0,⟨0,0,0,0⟩⟩,[],false,0,false,(anewN e).Heard,(anewN e).Keep⟩ else e
def lis2 (y:Ud) (w:HelloWord):Ud:=⟨y.Name,y.Peer,y.Keys,y.Boot,y.Want,y.Turn,y.PeerBoot,w.Turn,(w.Yours==y.Boot),4,y.Num,y.Under,y.Told,y.All,y.Got,y.Full,y.Heard,y.Keep⟩
def lis3 (x:Ud) (w:HelloWord):Ud:=bif (bif decide (x.Under.Kind>0) then (w.Heard==x.Num) else false) then F127 x else x
def toldP (l:List Uf) (c:HelloChange):List Uf×Bool:=bif toldAl l c then (l,(c.Kind==2)) else F128fr l c
def lis4 (x:Ud) (w:HelloWord):Ud :=
 bif (bif decide (w.Change.Kind>0) then (w.Num==(IntKind.i64.wrap (x.Got+1))) else false) then (bif (toldP x.Heard w.Change).2 then ⟨x.Name,x.Peer,x.Keys,x.Boot,x.Want,x.Turn,x.PeerBoot,x.PeerTurn,x.Up,x.Left,x.Num,x.Under,x.Told,x.All,w.Num,(bif x.Full then true else (w.Change.Kind==3)),(toldP x.Heard w.Change).1,x.Keep⟩ else x) else x
theorem lis1_heard (e:Ud) (w:HelloWord):(lis1 e w).Heard=heardL e w:=by
 unfold lis1 heardL
 cases decide (w.Boot>e.PeerBoot) <;> rfl
theorem lis3_heard (x:Ud) (w:HelloWord):(lis3 x w).Heard=x.Heard:=by
 unfold lis3
 cases (bif decide (x.Under.Kind>0) then (w.Heard==x.Num) else false)
 ·rfl
 ·exact (answered_len x).1
theorem listen_j0 (e:Ud) (w:HelloWord):F125al_j0 e w=.done ((lis1 e w).Name,(lis1 e w).Peer,(lis1 e w).Keys,(lis1 e w).Boot,(lis1 e w).Want,(lis1 e w).Turn,(lis1 e w).PeerBoot,(lis1 e w).PeerTurn,(lis1 e w).Up,(lis1 e w).Left,(lis1 e w).Num,(lis1 e w).Under.Kind,(lis1 e w).Under.Entry.Addr,(lis1 e w).Under.Entry.Len,(lis1 e w).Under.Entry.Cost,(lis1 e w).Under.Entry.Label,(lis1 e w).Told,(lis1 e w).All,(lis1 e w).Got,(lis1 e w).Full,(lis1 e w).Heard,(lis1 e w).Keep)/\F125al_j0 e w=.done ((lis1 e w).Name,(lis1 e w).Peer,(lis1 e w).Keys,(lis1 e w).Boot,(lis1 e w).Want,(lis1 e w).Turn,(lis1 e w).PeerBoot,(lis1 e w).PeerTurn,(lis1 e w).Up,(lis1 e w).Left,(lis1 e w).Num,(lis1 e w).Under.Kind,(lis1 e w).Under.Entry.Addr,(lis1 e w).Under.Entry.Len,(lis1 e w).Under.Entry.Cost,(lis1 e w).Under.Entry.Label,(lis1 e w).Told,(lis1 e w).All,(lis1 e w).Got,(lis1 e w).Full,(lis1 e w).Heard,(lis1 e w).Keep):=by
 unfold F125al_j0 lis1
 try unfold F125al_j0
 rw [anew_N]
 cases decide (w.Boot>e.PeerBoot) <;> exact ⟨rfl,rfl⟩
theorem listen_j1 (e:Ud) (w:HelloWord) (y:Ud):F125al_j1 e w y.Name y.Peer y.Keys y.Boot y.Want y.Turn y.PeerBoot y.PeerTurn y.Up y.Left y.Num y.Under.Kind y.Under.Entry.Addr y.Under.Entry.Len y.Under.Entry.Cost y.Under.Entry.Label y.Told y.All y.Got y.Full y.Heard y.Keep=.done ((lis3 (lis2 y w) w).Name,(lis3 (lis2 y w) w).Peer,(lis3 (lis2 y w) w).Keys,(lis3 (lis2 y w) w).Boot,(lis3 (lis2 y w) w).Want,(lis3 (lis2 y w) w).Turn,(lis3 (lis2 y w) w).PeerBoot,(lis3 (lis2 y w) w).PeerTurn,(lis3 (lis2 y w) w).Up,(lis3 (lis2 y w) w).Left,(lis3 (lis2 y w) w).Num,(lis3 (lis2 y w) w).Under.Kind,(lis3 (lis2 y w) w).Under.Entry.Addr,(lis3 (lis2 y w) w).Under.Entry.Len,(lis3 (lis2 y w) w).Under.Entry.Cost,(lis3 (lis2 y w) w).Under.Entry.Label,(lis3 (lis2 y w) w).Told,(lis3 (lis2 y w) w).All,(lis3 (lis2 y w) w).Got,(lis3 (lis2 y w) w).Full,(lis3 (lis2 y w) w).Heard,(lis3 (lis2 y w) w).Keep)/\F125al_j1 e w y.Name y.Peer y.Keys y.Boot y.Want y.Turn y.PeerBoot y.PeerTurn y.Up y.Left y.Num y.Under.Kind y.Under.Entry.Addr y.Under.Entry.Len y.Under.Entry.Cost y.Under.Entry.Label y.Told y.All y.Got y.Full y.Heard y.Keep=.done ((lis3 (lis2 y w) w).Name,(lis3 (lis2 y w) w).Peer,(lis3 (lis2 y w) w).Keys,(lis3 (lis2 y w) w).Boot,(lis3 (lis2 y w) w).Want,(lis3 (lis2 y w) w).Turn,(lis3 (lis2 y w) w).PeerBoot,(lis3 (lis2 y w) w).PeerTurn,(lis3 (lis2 y w) w).Up,(lis3 (lis2 y w) w).Left,(lis3 (lis2 y w) w).Num,(lis3 (lis2 y w) w).Under.Kind,(lis3 (lis2 y w) w).Under.Entry.Addr,(lis3 (lis2 y w) w).Under.Entry.Len,(lis3 (lis2 y w) w).Under.Entry.Cost,(lis3 (lis2 y w) w).Under.Entry.Label,(lis3 (lis2 y w) w).Told,(lis3 (lis2 y w) w).All,(lis3 (lis2 y w) w).Got,(lis3 (lis2 y w) w).Full,(lis3 (lis2 y w) w).Heard,(lis3 (lis2 y w) w).Keep):=by
 unfold F125al_j1 lis3
 try unfold F125al_j1
 show (bif (bif decide (y.Under.Kind>0) then (w.Heard==y.Num) else false) then _ else _)=_/\(bif (bif decide (y.Under.Kind>0) then (w.Heard==y.Num) else false) then _ else _)=_
 have hk:(lis2 y w).Under.Kind=y.Under.Kind:=rfl
 have hn:(lis2 y w).Num=y.Num:=rfl
 rw [hk,hn]
 cases (bif decide (y.Under.Kind>0) then (w.Heard==y.Num) else false) <;> exact ⟨rfl,rfl⟩
theorem listen_N (e:Ud) (w:HelloWord):F125 e w=bif !(w.Yours==(lis1 e w).Boot) then lis2 (lis1 e w) w else F129 (lis4 (lis3 (lis2 (lis1 e w) w) w) w):=by
 have hh:(lis3 (lis2 (lis1 e w) w) w).Heard=heardL e w:=by rw [lis3_heard]; exact lis1_heard e w
 unfold F125
 cases hA:lisAl e w with
 | true =>
  have hp:toldP (lis3 (lis2 (lis1 e w) w) w).Heard w.Change=((lis3 (lis2 (lis1 e w) w) w).Heard,(w.Change.Kind==2)):=by
   unfold toldP; rw [hh]; unfold lisAl at hA; rw [hA]; rfl
  rw [Qd]
  unfold F125al lis4
  rw [hp,(listen_j0 e w).1]
  simp only [Lp.fin]
  cases hq:(w.Yours==(lis1 e w).Boot) with
  | false=>unfold lis2; rw [hq]; rfl
  | true =>
   simp only [Rt,Qi]
   rw [(listen_j1 e w (lis1 e w)).1]
   simp only [Lp.fin]
   generalize lis3 (lis2 (lis1 e w) w) w=z
   unfold F125al_j2
   cases (bif decide (w.Change.Kind>0) then (w.Num==(IntKind.i64.wrap (z.Got+1))) else false) with
   | false=>rfl
   | true=>cases (w.Change.Kind==2) <;> rfl
 | false =>
  have hp:toldP (lis3 (lis2 (lis1 e w) w) w).Heard w.Change=F128fr (lis3 (lis2 (lis1 e w) w) w).Heard w.Change:=by
   unfold toldP; rw [hh]; unfold lisAl at hA; rw [hA]; rfl
  rw [Qi]
  unfold F125fr lis4
  rw [hp,(listen_j0 e w).2]
  simp only [Lp.fin]
  cases hq:(w.Yours==(lis1 e w).Boot) with
  | false=>unfold lis2; rw [hq]; rfl
  | true =>
   simp only [Rt,Qi]
   rw [(listen_j1 e w (lis1 e w)).2]
   simp only [Lp.fin]
   generalize lis3 (lis2 (lis1 e w) w) w=z
   unfold F125fr_j2
   cases (bif decide (w.Change.Kind>0) then (w.Num==(IntKind.i64.wrap (z.Got+1))) else false) with
   | false=>rfl
   | true=>cases (F128fr z.Heard w.Change).2 <;> rfl
theorem ann_N (e:Ud):F127 e=⟨e.Name,e.Peer,e.Keys,e.Boot,e.Want,e.Turn,e.PeerBoot,e.PeerTurn,e.Up,e.Left,e.Num,⟨0,⟨0,0,0,0⟩⟩,F32 e.Told e.Under,(bif e.Under.Kind==3 then true else e.All),e.Got,e.Full,e.Heard,e.Keep⟩:=by
 unfold F127
 cases (e.Under.Kind==3) <;> rfl
theorem kept_N (e:Ud):F129 e=⟨e.Name,e.Peer,e.Keys,e.Boot,e.Want,e.Turn,e.PeerBoot,e.PeerTurn,e.Up,e.Left,e.Num,e.Under,e.Told,e.All,e.Got,e.Full,e.Heard,(bif anySt e.Heard then e.Keep else 0)⟩:=by
 unfold F129
 rw [stale_none]
 cases anySt e.Heard <;> rfl
structure RP (l m:List Uf):Prop where
 len:m.length<=16
 ord:ROk m
 st:anySt m=true->anySt l=true
theorem hasV_put (l:List Uf) (e:Ue):hasV l e=putG Uf.Entry l e ⟨e,false⟩:=rfl
theorem anySt_put {l:List Uf} {e:Ue} (h:anySt (putG Uf.Entry l e ⟨e,false⟩)=true):anySt l=true:=by
 obtain ⟨r,hr,hs⟩:=(any_iff _).1 h
 rcases putG_mem hr with rfl | hr
 ·cases hs
 ·exact (any_iff _).2 ⟨r,hr,hs⟩
theorem anySt_sub {l m:List Uf} (hs:m.Sublist l) (h:anySt m=true):anySt l=true:=by
 obtain ⟨r,hr,hx⟩:=(any_iff _).1 h
 exact (any_iff _).2 ⟨r,hs.subset hr,hx⟩
theorem fnd_put_len {l:List Uf} {e:Ue} (h:fndR l e=true):(hasV l e).length=l.length:=by
 rw [cond1_eq] at h
 unfold hasV
 rw [h,Qd,List.length_set]
theorem has_rp {l:List Uf} {e:Ue} (ho:ROk l) (hl:l.length<=16) (he:F59 e=true) (ha:hasAl l e=false):RP l (F76fr l e).1/\(F76fr l e).2=true:=by
 rw [has_frEq]
 cases h1:fndR l e with
 | true =>
  rw [Qd]
  exact ⟨⟨by rw [fnd_put_len h1]; exact hl,ord_put ho he rfl,anySt_put⟩,rfl⟩
 | false =>
  rw [Qi]
  cases h2:((l.length:Int)==16) with
  | false =>
   have hne:(l.length:Int)≠16:=by simpa using h2
   have:=hasV_len l e
   rw [Qi]
   exact ⟨⟨by show (hasV l e).length<=16; omega,ord_put ho he rfl,anySt_put⟩,rfl⟩
  | true =>
   rw [Qd]
   have h16:(l.length:Int)=16:=eq_of_beq h2
   have h3:=Rj (hasAl_no ha h1 h2)
   have h4:=stale_in l
   have hw:(F99 l (F98 l)).Sublist l:=by
    rw [without_eq,show Int.toNat (F98 l+1)=Int.toNat (F98 l)+1 by omega]
    exact without_sub _ _
   have h5:=without_len l (F98 l) uu0 uu0 h4.2
   have h6:=hasV_len (F99 l (F98 l)) e
   exact ⟨⟨by show (hasV _ e).length<=16; omega,ord_put (ord_sub ho hw) he rfl,fun h=>anySt_sub hw (anySt_put h)⟩,rfl⟩
theorem change_entry {c:HelloChange} (h:F31 c=true) (hk:c.Kind=1):F59 c.Entry=true:=by
 unfold F31 at h
 rw [hk] at h
 exact h
theorem told_rp {l:List Uf} {c:HelloChange} (ho:ROk l) (hl:l.length<=16) (hc:F31 c=true):RP l (toldP l c).1:=by
 unfold toldP
 cases ha:toldAl l c with
 | true=>exact ⟨hl,ho,fun h=>h⟩
 | false =>
  rw [Qi]
  unfold F128fr
  by_cases h1:c.Kind=1
  ·have h1':(c.Kind==1)=true:=by rw [h1]; rfl
   rw [h1',Qd]
   exact (has_rp ho hl (change_entry hc h1) (toldAl_1 ha h1')).1
  ·have h1':(c.Kind==1)=false:=by simpa using h1
   rw [h1',Qi]
   by_cases h2:c.Kind=2
   ·have h2':(c.Kind==2)=true:=by rw [h2]; rfl
    rw [h2',Qd]
    have hw:(F99 l (F97 l c.Entry)).Sublist l:=by
     have h4:=where_in l c.Entry
     rw [without_eq,show Int.toNat (F97 l c.Entry+1)=Int.toNat (F97 l c.Entry)+1 by omega]
     exact without_sub _ _
    exact ⟨Qu hw.length_le hl,ord_sub ho hw,anySt_sub hw⟩
   ·have h2':(c.Kind==2)=false:=by simpa using h2
    rw [h2',Qi]
    have hs:(F126 l).Sublist l:=by rw [freshEq]; exact List.filter_sublist
    exact ⟨Qu hs.length_le hl,ord_sub ho hs,fun h=>by rw [fresh_any] at h; cases h⟩
structure WFit (w:HelloWord):Prop where
 boot:1<=w.Boot/\w.Boot<=999
 turn:1<=w.Turn/\w.Turn<=1000000
 num:0<=w.Num/\w.Num<=w.Turn
 ch:F31 w.Change=true
theorem lis2_ok {e:Ud} {w:HelloWord} (h:EOk e) (hw:WFit w):EOk (lis2 (lis1 e w) w):=by
 have hpb:=h.pb
 have b:=hw.boot
 have t:=hw.turn
 have x:=(heard_iff e).1 h.hd
 have hfour:(0:Int)<=4/\(4:Int)<=4:=by decide
 have hn4:¬ (4:Int)=0:=by decide
 unfold lis1
 by_cases hb:w.Boot>e.PeerBoot
 ·rw [Qs hb,Qd]
  obtain ⟨a1,a2,a3,a4,a5⟩:=anew_hd h.eb
  exact ⟨h.nm,h.pr,h.ne,h.keys,h.boot,h.want,h.turn,(by show 0<=w.Boot/\w.Boot<=999; omega),(by show 0<=w.Turn/\w.Turn<=1000000; omega),(by show w.Boot=0↔w.Turn=0; omega),hfour,(fun _=>by show w.Boot≠0; omega),(fun _=>hn4),⟨Int.le_refl 0,h.turn.1⟩,⟨Int.le_refl 0,by show (0:Int)<=1000000; decide⟩,change0,(fun hx=>absurd hx (by show ¬ ((0:Int)>0); decide)),table_nil,uu40,(heard_iff _).2 ⟨a1,a2,a3,fun hx=>absurd hx hn4,a5⟩⟩
 ·rw [Qt hb,Qi]
  exact ⟨h.nm,h.pr,h.ne,h.keys,h.boot,h.want,h.turn,h.pb,(by show 0<=w.Turn/\w.Turn<=1000000; omega),(by show e.PeerBoot=0↔w.Turn=0; omega),hfour,(fun _=>by show e.PeerBoot≠0; omega),(fun _=>hn4),h.num,h.got,h.und,h.un,h.told,h.app,(heard_iff _).2 ⟨x.1,x.2.1,x.2.2.1,fun hx=>absurd hx hn4,x.2.2.2.2⟩⟩
theorem lis3_ok {x:Ud} (w:HelloWord) (h:EOk x):EOk (lis3 x w):=by
 unfold lis3
 cases (bif decide (x.Under.Kind>0) then (w.Heard==x.Num) else false) with
 | false=>exact h
 | true =>
  rw [Qd,ann_N]
  exact ⟨h.nm,h.pr,h.ne,h.keys,h.boot,h.want,h.turn,h.pb,h.pt,h.pp,h.left,h.lp,h.up,h.num,h.got,change0,(fun hx=>absurd hx (by show ¬ ((0:Int)>0); decide)),h.app,(by show F30 (F32 (F32 x.Told x.Under) ⟨0,⟨0,0,0,0⟩⟩)=true; rw [apply_zero]; exact h.app),h.hd⟩
theorem lis4_ok {x:Ud} {w:HelloWord} (h:EOk x) (hl:x.Left=4) (hw:WFit w):EOk (F129 (lis4 x w)):=by
 have y:=(heard_iff x).1 h.hd
 have hn:=hw.num
 have ht:=hw.turn
 have hk:=y.2.1
 have base:∀ (l:List Uf) (g:Int) (f:Bool),RP x.Heard l->0<=g/\g<=1000000->EOk (F129 ⟨x.Name,x.Peer,x.Keys,x.Boot,x.Want,x.Turn,x.PeerBoot,x.PeerTurn,x.Up,x.Left,x.Num,x.Under,x.Told,x.All,g,f,l,x.Keep⟩):=fun l g f hr hg=>by
  rw [kept_N]
  refine ⟨h.nm,h.pr,h.ne,h.keys,h.boot,h.want,h.turn,h.pb,h.pt,h.pp,h.left,h.lp,h.up,h.num,hg,h.und,h.un,h.told,h.app,(heard_iff _).2 ⟨hr.len,?_,hr.ord,fun hx=>?_,?_⟩⟩
  ·show 0<=(bif anySt l then x.Keep else 0)/\(bif anySt l then x.Keep else 0)<=6
   cases anySt l with
   | true=>exact hk
   | false=>rw [Qi]; omega
  ·have:x.Left=0:=hx
   omega
  ·show anySt l=decide ((bif anySt l then x.Keep else 0)>0)
   cases ha:anySt l with
   | true=>rw [Qd,<- y.2.2.2.2]; exact (hr.st ha).symm
   | false=>rfl
 unfold lis4
 cases (bif decide (w.Change.Kind>0) then (w.Num==(IntKind.i64.wrap (x.Got+1))) else false) with
 | false=>exact base x.Heard x.Got x.Full ⟨y.1,y.2.2.1,fun h=>h⟩ h.got
 | true =>
  rw [Qd]
  cases (toldP x.Heard w.Change).2 with
  | false=>exact base x.Heard x.Got x.Full ⟨y.1,y.2.2.1,fun h=>h⟩ h.got
  | true=>exact base _ _ _ (told_rp y.2.2.1 y.1 hw.ch) uu0
theorem lis3_left (x:Ud) (w:HelloWord):(lis3 x w).Left=x.Left:=by
 unfold lis3
 cases (bif decide (x.Under.Kind>0) then (w.Heard==x.Num) else false) with
 | false=>rfl
 | true=>rw [Qd,ann_N]
theorem eok_listen {e:Ud} {w:HelloWord} (h:EOk e) (hw:WFit w):EOk (F125 e w):=by
 rw [listen_N]
 cases (w.Yours==(lis1 e w).Boot) with
 | false=>exact lis2_ok h hw
 | true=>exact lis4_ok (lis3_ok w (lis2_ok h hw)) (lis3_left _ _) hw
theorem EOk.small {e:Ud} (h:EOk e):smallE e:=by
 have hl:=endOkS_T e ((endOk_iff e).2 h)
 unfold smallE; omega
structure WdOk (w:HelloWord):Prop where
 fr:0<=w.From/\w.From<=65535
 to:0<=w.To/\w.To<=65535
 key:1<=w.Key/\w.Key<=9
 boot:1<=w.Boot/\w.Boot<=999
 yours:0<=w.Yours/\w.Yours<=999
 turn:1<=w.Turn/\w.Turn<=1000000
 num:0<=w.Num/\w.Num<=w.Turn
 heard:0<=w.Heard/\w.Heard<=1000000
 sum:0<=w.Sum/\w.Sum<=2147483646
 ch:F31 w.Change=true
 kn:w.Change.Kind=0\/w.Num>0
theorem wordOk_iff (w:HelloWord):F114 w=true↔WdOk w:=by
 unfold F114
 simp only [Rl,Bool.cond_false_left,Rd,Qh,Sc,R9,Ti,Bool.not_eq_false',Rn,Ts]
 constructor
 ·rintro ⟨⟨⟨⟨⟨a1,a2⟩,a3⟩,a4⟩,a5⟩,⟨⟨⟨b1,b2⟩,b3⟩,b4⟩,c,d⟩
  exact ⟨a1,a2,a3,a4,a5,b1,b2,b3,b4,c,d⟩
 ·rintro ⟨a1,a2,a3,a4,a5,b1,b2,b3,b4,c,d⟩
  exact ⟨⟨⟨⟨⟨a1,a2⟩,a3⟩,a4⟩,a5⟩,⟨⟨⟨b1,b2⟩,b3⟩,b4⟩,c,d⟩
theorem WdOk.fit {w:HelloWord} (h:WdOk w):WFit w:=⟨h.boot,h.turn,h.num,h.ch⟩
theorem right_word {keys:List HelloKey} {w:HelloWord} (h:F124 keys w=true):WdOk w:=by
 rw [<- wordOk_iff]
 cases x:F114 w with
 | true=>rfl
 | false=>unfold F124 at h; rw [x] at h; simp at h
theorem listen_small (e:Ud) (w:HelloWord) (h:F9 e=true) (hr:F124 e.Keys w=true):smallE (F125 e w) :=
 (eok_listen ((endOk_iff e).1 h) (right_word hr).fit).small
theorem nodup_sub {α:Type} [DecidableEq α]:∀ (a b:List α),a.Nodup->(∀ x,x∈a->x∈b)->a.length<=b.length
 | [],_,_,_=>Rm _
 | x :: a,b,hn,h=>by
  rw [Q3] at hn
  have hx:=h x Qg
  have ih:=nodup_sub a (b.erase x) hn.2 fun y hy=>(List.mem_erase_of_ne fun he=>hn.1 (by rw [<- he]; exact hy)).2 (h y (Qj _ hy))
  have hl:=List.length_erase_of_mem hx
  have hp:0<b.length:=List.length_pos_of_mem hx
  rw [Q2]
  omega
theorem put_G (t:List Ue) (e:Ue):F62 t e=putG (fun x=>x) t e e:=by
 rw [put_eq]
 unfold putG fndE
 rw [show posG (fun x=>x) t e=posE t e from rfl]
 simp only [Qp,Tq,Ta]
theorem drop_sub (t:List Ue) (e:Ue):(F63 t e).Sublist t:=by
 unfold F63
 have h:=at_in t e
 cases hd:decide (F84 t e<0) with
 | true=>exact List.Sublist.refl _
 | false =>
  have hd:=Rj hd
  rw [Qi,show Int.toNat (F84 t e+1)=Int.toNat (F84 t e)+1 by omega]
  exact without_sub _ _
theorem table_ord {t:List Ue} (h:F30 t=true):TOk t:=((tableOk_iff t).1 h).2
theorem table_len {t:List Ue} (h:F30 t=true):t.length<=8:=((tableOk_iff t).1 h).1
theorem table_sub {t m:List Ue} (h:F30 t=true) (hs:m.Sublist t):F30 m=true :=
 (tableOk_iff m).2 ⟨Qu hs.length_le (table_len h),ord_sub (table_ord h) hs⟩
def keyE (x:Ue):Int×Int:=(x.Addr,x.Len)
theorem ord_nodup {t:List Ue} (h:TOk t):(t.map keyE).Nodup:=by
 rw [List.Nodup,List.pairwise_map]
 refine h.2.imp fun {a b} hab he=>?_
 have:=less_same hab
 unfold keyE at he
 simp only [Qz] at he
 rw [same_iff.2 he] at this
 cases this
theorem fnd_key {t:List Ue} {x:Ue} (h:fndE t x=true):keyE x∈t.map keyE:=by
 have hl:=fndE_lt h
 unfold fndE at h
 rw [Qs hl,Qd] at h
 obtain ⟨h1,h2⟩:=same_iff.1 h
 refine Sb.2 ⟨t.getD (posE t x) default,by rw [getD_lt t hl]; exact Sv hl,?_⟩
 unfold keyE
 rw [h1,h2]
theorem next_ok {e:Ud} (h:EOk e):F31 (F21 e)=true/\F30 (F32 e.Told (F21 e))=true:=by
 have hf:=endFitS e ((endOk_iff e).2 h)
 unfold F21
 rw [extra_eq _ _ hf.want,lacks_eq _ _ hf.told]
 cases h1:first (fun k=>!(fndE e.Want (e.Told.getD k default))) e.Told.length with
 | some k =>
  have hk:=(first_some.1 h1).1
  have ho:=hf.told.ok k hk
  refine ⟨?_,table_sub h.told (drop_sub _ _)⟩
  have hp:F61 (⟨(e.Told.getD k default).Addr,(e.Told.getD k default).Len,0,0⟩:Ue)=true:=by
   unfold F59 at ho
   have:F61 (e.Told.getD k default)=true:=by
    cases x:F61 (e.Told.getD k default) with
    | true=>rfl
    | false=>rw [x] at ho; cases ho
   exact this
  have:F31 ⟨2,⟨(e.Told.getD k default).Addr,(e.Told.getD k default).Len,0,0⟩⟩=true:=by
   unfold F31
   rw [hp]; rfl
  exact this
 | none =>
  have hx:=first_none.1 h1
  cases h2:first (fun k=>!(decide (e.Want.getD k default∈e.Told))) e.Want.length with
  | some k =>
   have hk:=(first_some.1 h2).1
   have ho:=hf.want.ok k hk
   refine ⟨ho,?_⟩
   show F30 (F62 e.Told (e.Want.getD k default))=true
   rw [put_G,tableOk_iff]
   have hord:TOk (putG (fun x=>x) e.Told (e.Want.getD k default) (e.Want.getD k default)):=ord_put (table_ord h.told) ho rfl
   refine ⟨?_,hord⟩
   have hw:=table_len h.want
   have:=nodup_sub _ (e.Want.map keyE) (ord_nodup hord) fun q hq=>by
    obtain ⟨x,hm,rfl⟩:=Sb.1 hq
    rcases putG_mem hm with rfl | hm
    ·exact Sb.2 ⟨_,by rw [getD_lt _ hk]; exact Sv hk,rfl⟩
    ·obtain ⟨j,hj,rfl⟩:=List.getElem_of_mem hm
     have:=hx j hj
     rw [getD_lt _ hj] at this
     exact fnd_key (by simpa using this)
   rw [Si,Si] at this
   omega
  | none =>
   cases e.All with
   | true=>exact ⟨change0,by show F30 (F32 e.Told ⟨0,⟨0,0,0,0⟩⟩)=true; rw [apply_zero]; exact h.told⟩
   | false=>exact ⟨rfl,h.told⟩
def sayC (e:Ud):HelloChange×Int:=bif (bif e.Up then (e.Under.Kind==0) else false) then (F21 e,bif decide ((F21 e).Kind>0) then e.Num+1 else e.Num) else (e.Under,e.Num)
def sayE (e:Ud):Ud:=⟨e.Name,e.Peer,e.Keys,e.Boot,e.Want,e.Turn+1,e.PeerBoot,e.PeerTurn,e.Up,e.Left,(sayC e).2,(sayC e).1,e.Told,e.All,e.Got,e.Full,e.Heard,e.Keep⟩
def sayK (e:Ud):HelloKey:=e.Keys.getD ((e.Keys.length:Int)-1).toNat default
def sayW (e:Ud):HelloWord:=⟨e.Name,e.Peer,(sayK e).Id,e.Boot,e.PeerBoot,e.Turn+1,(sayC e).2,e.Got,(sayC e).1,F38 (sayK e).Secret ⟨e.Name,e.Peer,(sayK e).Id,e.Boot,e.PeerBoot,e.Turn+1,(sayC e).2,e.Got,(sayC e).1,0⟩⟩
def word0:HelloWord:=⟨0,0,0,0,0,0,0,0,⟨0,⟨0,0,0,0⟩⟩,0⟩
theorem say_N {e:Ud} (h:EOk e):F14 e=bif (e.Boot==1000) then (e,word0,false) else bif (e.Turn==1000000) then (F37 e,word0,false) else (sayE e,sayW e,true):=by
 have ht:=h.turn
 have hn:=h.num
 unfold F14 F14_j0 sayE sayW sayK sayC
 rw [(endOk_iff e).2 h,wrap_of uu0 uu0,wrap_of uu0 uu0]
 have hx:F21 (⟨e.Name,e.Peer,e.Keys,e.Boot,e.Want,e.Turn+1,e.PeerBoot,e.PeerTurn,e.Up,e.Left,e.Num,e.Under,e.Told,e.All,e.Got,e.Full,e.Heard,e.Keep⟩:Ud)=F21 e:=rfl
 rw [hx]
 cases (e.Boot==1000) with
 | true=>rfl
 | false =>
  cases (e.Turn==1000000) with
  | true=>rfl
  | false =>
   cases (bif e.Up then (e.Under.Kind==0) else false) with
   | false=>rfl
   | true=>cases decide ((F21 e).Kind>0) <;> rfl
theorem sayC_ok {e:Ud} (h:EOk e):F31 (sayC e).1=true/\F30 (F32 e.Told (sayC e).1)=true/\e.Num<=(sayC e).2/\(sayC e).2<=e.Num+1/\((sayC e).1.Kind>0->(sayC e).2≠0):=by
 have hn:=h.num
 unfold sayC
 cases (bif e.Up then (e.Under.Kind==0) else false) with
 | false=>exact ⟨h.und,h.app,Int.le_refl _,by show e.Num<=e.Num+1; omega,h.un⟩
 | true =>
  obtain ⟨h1,h2⟩:=next_ok h
  refine ⟨h1,h2,?_,?_,?_⟩
  ·show e.Num<=(bif decide ((F21 e).Kind>0) then e.Num+1 else e.Num)
   cases decide ((F21 e).Kind>0)
   ·exact Int.le_refl _
   ·rw [Qd]; omega
  ·show (bif decide ((F21 e).Kind>0) then e.Num+1 else e.Num)<=e.Num+1
   cases decide ((F21 e).Kind>0)
   ·rw [Qi]; omega
   ·exact Int.le_refl _
  ·intro hk
   have hk:(F21 e).Kind>0:=hk
   show (bif decide ((F21 e).Kind>0) then e.Num+1 else e.Num)≠0
   rw [Qs hk,Qd]; omega
theorem eok_sayE {e:Ud} (h:EOk e) (ht:e.Turn≠1000000):EOk (sayE e):=by
 obtain ⟨c1,c2,c3,c4,c5⟩:=sayC_ok h
 have h1:=h.turn
 have h2:=h.num
 exact ⟨h.nm,h.pr,h.ne,h.keys,h.boot,h.want,(by show 0<=e.Turn+1/\e.Turn+1<=1000000; omega),h.pb,h.pt,h.pp,h.left,h.lp,h.up,(by show 0<=(sayC e).2/\(sayC e).2<=e.Turn+1; omega),h.got,c1,c5,h.told,c2,h.hd⟩
theorem key_ok {keys:List HelloKey} (h:F29 keys=true) {k:Nat} (hk:k<keys.length):(1<=(keys.getD k default).Id/\(keys.getD k default).Id<=9)/\(1<=(keys.getD k default).Secret/\(keys.getD k default).Secret<=2147483646)/\(0<k->(keys.getD (k-1) default).Id<(keys.getD k default).Id):=by
 rw [keysOkS_eq] at h
 simp only [Qh,allB_iff] at h
 have hb:=h.2 k hk
 unfold badKey at hb
 simp only [Rl,Rd,R9,Bool.not_eq_false',Rn,Gc,Se] at hb
 obtain ⟨⟨h1,h2⟩,h3⟩:=hb
 refine ⟨h1,h2,fun h0=>?_⟩
 rcases h3 with h3 | h3
 ·exact absurd h0 h3
 ·omega
theorem sum_in (s:Int) (w:HelloWord):0<=F38 s w/\F38 s w<=2147483646:=by
 rw [sumS_eq]
 have h:=mixP_in ((wordL w).foldl mixP (mixP 0 s)) s
 unfold InP at h
 omega
theorem wd_sayW {e:Ud} (h:EOk e) (hb:e.Boot≠1000) (ht:e.Turn≠1000000):WdOk (sayW e):=by
 obtain ⟨c1,c2,c3,c4,c5⟩:=sayC_ok h
 have h1:=h.turn
 have h2:=h.num
 have h3:=h.boot
 have hk:=keysOkS_T e.Keys h.keys
 have hk:=key_ok h.keys (k:=Int.toNat ((e.Keys.length:Int)-1)) uu0
 refine ⟨h.nm,h.pr,hk.1,(by show 1<=e.Boot/\e.Boot<=999; omega),h.pb,(by show 1<=e.Turn+1/\e.Turn+1<=1000000; omega),(by show 0<=(sayC e).2/\(sayC e).2<=e.Turn+1; omega),h.got,sum_in _ _,c1,?_⟩
 show (sayC e).1.Kind=0\/(sayC e).2>0
 have:=change_kind c1
 by_cases h0:(sayC e).1.Kind>0
 ·have:=c5 h0; right; omega
 ·left; omega
theorem say_ok {e:Ud} (h:EOk e):EOk (F14 e).1/\(F14 e).1.Name=e.Name/\(F14 e).1.Peer=e.Peer/\((F14 e).2.2=true->WdOk (F14 e).2.1):=by
 rw [say_N h]
 by_cases hb:e.Boot=1000
 ·have:(e.Boot==1000)=true:=by rw [hb]; rfl
  rw [this]
  exact ⟨h,rfl,rfl,fun hx=>by cases hx⟩
 ·have:(e.Boot==1000)=false:=by simpa using hb
  rw [this,Qi]
  by_cases ht:e.Turn=1000000
  ·have:(e.Turn==1000000)=true:=by rw [ht]; rfl
   rw [this,Qd,life_N e h.boot]
   exact ⟨by rw [<- life_N e h.boot]; exact eok_life h.eb,rfl,rfl,fun hx=>by cases hx⟩
  ·have:(e.Turn==1000000)=false:=by simpa using ht
   rw [this,Qi]
   exact ⟨eok_sayE h ht,rfl,rfl,fun _=>wd_sayW h hb ht⟩
theorem kc124 (keys:List HelloKey) (w1:HelloWord) {K_:Prop} (k_:K_):(True)/\(Imp (.l 2 eHelloKey keys) (.l 2 eHelloKey keys))/\(Imps (eHelloWord w1) (eHelloWord w1))/\K_:=⟨trivial,Imp.refl _,Imps.refl _,k_⟩
theorem kg124 {K_:Prop} (c_ b_:Bool) (keys:List HelloKey) (w1:HelloWord) (k_:K_):(c_=b_->True)/\(c_=b_->Imp (.l 2 eHelloKey keys) (.l 2 eHelloKey keys))/\(c_=b_->Imps (eHelloWord w1) (eHelloWord w1))/\K_:=⟨fun _=>trivial,fun _=>Imp.refl _,fun _=>Imps.refl _,k_⟩
abbrev kh124 (keys:List HelloKey) (w1:HelloWord):Hint true Tryz.prog:=.call 124 (S124 keys w1) (ok124 keys w1) none
theorem kc125l (e1:Ud) (w1:HelloWord) {K_:Prop} (p0_:EndFit e1) (q0_:F9 e1=true) (q1_:F124 e1.Keys w1=true) (k_:(smallE (F125 e1 w1))->K_):(EndFit e1)/\(Imps (eHelloEnd e1) (eHelloEnd e1))/\(Imps (eHelloWord w1) (eHelloWord w1))/\K_:=⟨p0_,Imps.refl _,Imps.refl _,k_ (listen_small e1 w1 q0_ q1_)⟩
abbrev kh125l (e1:Ud) (w1:HelloWord):Hint true Tryz.prog:=.call 125 (S125 e1 w1) (ok125 e1 w1) none
def F119 (e1:Ud) (w1:HelloWord):Ud :=
 bif (!(F9 e1)) then (⟨0,0,[],0,[],0,0,0,false,0,0,(⟨0,(⟨0,0,0,0⟩:Ue)⟩:HelloChange),[],false,0,false,[],0⟩:Ud) else (bif (bif (bif (bif (e1.Boot==1000) then true else (!(F124 e1.Keys w1))) then true else (w1.From != e1.Peer)) then true else (w1.To != e1.Name)) then e1 else (bif (bif decide (w1.Boot<e1.PeerBoot) then true else (bif (w1.Boot==e1.PeerBoot) then decide (w1.Turn<=e1.PeerTurn) else false)) then e1 else (F125 e1 w1)))
theorem fi119 (e1:Ud) (w1:HelloWord) (r:Ud) (hF:r=(F119 e1 w1)):((.int .i64 r.Name:Value)=.int .i64 (F119 e1 w1).Name)/\((.int .i64 r.Peer:Value)=.int .i64 (F119 e1 w1).Peer)/\(Imp (.l 2 eHelloKey r.Keys) (.l 2 eHelloKey (F119 e1 w1).Keys))/\((.int .i64 r.Boot:Value)=.int .i64 (F119 e1 w1).Boot)/\(Imp (.l 4 eHelloEntry r.Want) (.l 4 eHelloEntry (F119 e1 w1).Want))/\((.int .i64 r.Turn:Value)=.int .i64 (F119 e1 w1).Turn)/\((.int .i64 r.PeerBoot:Value)=.int .i64 (F119 e1 w1).PeerBoot)/\((.int .i64 r.PeerTurn:Value)=.int .i64 (F119 e1 w1).PeerTurn)/\((.bool r.Up:Value)=.bool (F119 e1 w1).Up)/\((.int .i64 r.Left:Value)=.int .i64 (F119 e1 w1).Left)/\((.int .i64 r.Num:Value)=.int .i64 (F119 e1 w1).Num)/\((.int .i64 r.Under.Kind:Value)=.int .i64 (F119 e1 w1).Under.Kind)/\((.int .i64 r.Under.Entry.Addr:Value)=.int .i64 (F119 e1 w1).Under.Entry.Addr)/\((.int .i64 r.Under.Entry.Len:Value)=.int .i64 (F119 e1 w1).Under.Entry.Len)/\((.int .i64 r.Under.Entry.Cost:Value)=.int .i64 (F119 e1 w1).Under.Entry.Cost)/\((.int .i64 r.Under.Entry.Label:Value)=.int .i64 (F119 e1 w1).Under.Entry.Label)/\(Imp (.l 4 eHelloEntry r.Told) (.l 4 eHelloEntry (F119 e1 w1).Told))/\((.bool r.All:Value)=.bool (F119 e1 w1).All)/\((.int .i64 r.Got:Value)=.int .i64 (F119 e1 w1).Got)/\((.bool r.Full:Value)=.bool (F119 e1 w1).Full)/\(Imp (.l 5 eHelloRoute r.Heard) (.l 5 eHelloRoute (F119 e1 w1).Heard))/\((.int .i64 r.Keep:Value)=.int .i64 (F119 e1 w1).Keep)/\True:=by cases hF; exact ⟨rfl,rfl,Imp.refl _,rfl,Imp.refl _,rfl,rfl,rfl,rfl,rfl,rfl,rfl,rfl,rfl,rfl,rfl,Imp.refl _,rfl,rfl,rfl,Imp.refl _,rfl,trivial⟩
def S119 (e1:Ud) (w1:HelloWord):Spec:=⟨[.r (.g (eHelloEnd e1)),.r (.g (eHelloWord w1))],.ag [.v (vI (F119 e1 w1).Name),.v (vI (F119 e1 w1).Peer),.ow (.l 2 eHelloKey (F119 e1 w1).Keys),.v (vI (F119 e1 w1).Boot),.ow (.l 4 eHelloEntry (F119 e1 w1).Want),.v (vI (F119 e1 w1).Turn),.v (vI (F119 e1 w1).PeerBoot),.v (vI (F119 e1 w1).PeerTurn),.v (.bool (F119 e1 w1).Up),.v (vI (F119 e1 w1).Left),.v (vI (F119 e1 w1).Num),.v (vI (F119 e1 w1).Under.Kind),.v (vI (F119 e1 w1).Under.Entry.Addr),.v (vI (F119 e1 w1).Under.Entry.Len),.v (vI (F119 e1 w1).Under.Entry.Cost),.v (vI (F119 e1 w1).Under.Entry.Label),.ow (.l 4 eHelloEntry (F119 e1 w1).Told),.v (.bool (F119 e1 w1).All),.v (vI (F119 e1 w1).Got),.v (.bool (F119 e1 w1).Full),.ow (.l 5 eHelloRoute (F119 e1 w1).Heard),.v (vI (F119 e1 w1).Keep)],True⟩
theorem ok119 (e1:Ud) (w1:HelloWord):(S119 e1 w1).ok Tryz.prog 119 :=
 fnG_ok mixed (fn:=Tryz.f119) (ct:=.seq .no (.seq (.seq (.reg [(1,kh9l e1)]) (.cond (.seq .no .no) .no)) (.seq (.reg [(1,kh36a e1)]) (.seq (.seq (.reg [(7,kh124 e1.Keys w1)]) (.cond (.seq .no .no) .no)) (.seq (.seq .no (.cond (.seq .no .no) .no)) (.seq (.reg [(2,kh125l e1 w1),(3,kh36a (F125 e1 w1))]) .no)))))) Tryz.func119 (fun (_:True)=>kc9l e1 (ifb (!(F9 e1)) (fun h1=>(fun hF:((⟨0,0,[],0,[],0,0,0,false,0,0,(⟨0,(⟨0,0,0,0⟩:Ue)⟩:HelloChange),[],false,0,false,[],0⟩:Ud):Ud)=(F119 e1 w1)=>ai (Qc (fun r:Ud=>(.int .i64 r.Name:Value)) hF) (ai (Qc (fun r:Ud=>(.int .i64 r.Peer:Value)) hF) (ai ((Imp.nil 2 eHelloKey).trans (Imp.of_eq (Qc (fun r:Ud=>Dat.l 2 eHelloKey r.Keys) hF))) (ai (Qc (fun r:Ud=>(.int .i64 r.Boot:Value)) hF) (ai ((Imp.nil 4 eHelloEntry).trans (Imp.of_eq (Qc (fun r:Ud=>Dat.l 4 eHelloEntry r.Want) hF))) (ai (Qc (fun r:Ud=>(.int .i64 r.Turn:Value)) hF) (ai (Qc (fun r:Ud=>(.int .i64 r.PeerBoot:Value)) hF) (ai (Qc (fun r:Ud=>(.int .i64 r.PeerTurn:Value)) hF) (ai (Qc (fun r:Ud=>(.bool r.Up:Value)) hF) (ai (Qc (fun r:Ud=>(.int .i64 r.Left:Value)) hF) (ai (Qc (fun r:Ud=>(.int .i64 r.Num:Value)) hF) (ai (Qc (fun r:Ud=>(.int .i64 r.Under.Kind:Value)) hF) (ai (Qc (fun r:Ud=>(.int .i64 r.Under.Entry.Addr:Value)) hF) (ai (Qc (fun r:Ud=>(.int .i64 r.Under.Entry.Len:Value)) hF) (ai (Qc (fun r:Ud=>(.int .i64 r.Under.Entry.Cost:Value)) hF) (ai (Qc (fun r:Ud=>(.int .i64 r.Under.Entry.Label:Value)) hF) (ai ((Imp.nil 4 eHelloEntry).trans (Imp.of_eq (Qc (fun r:Ud=>Dat.l 4 eHelloEntry r.Told) hF))) (ai (Qc (fun r:Ud=>(.bool r.All:Value)) hF) (ai (Qc (fun r:Ud=>(.int .i64 r.Got:Value)) hF) (ai (Qc (fun r:Ud=>(.bool r.Full:Value)) hF) (ai ((Imp.nil 5 eHelloRoute).trans (Imp.of_eq (Qc (fun r:Ud=>Dat.l 5 eHelloRoute r.Heard) hF))) (ai (Qc (fun r:Ud=>(.int .i64 r.Keep:Value)) hF) trivial)))))))))))))))))))))) (condT h1 rfl)) (fun h1=>have _:1<=e1.Keys.length/\e1.Keys.length<=3/\e1.Want.length<=8/\e1.Told.length<=8/\e1.Heard.length<=16:=endOkS_T e1 (notEF h1); have _:EndFit e1:=endFitS e1 (notEF h1); have _:0<=e1.Keep/\e1.Keep<=6/\0<=e1.Left/\e1.Left<=4:=endKeep e1 (notEF h1); kc36a e1 uu17 (kg124 (e1.Boot==1000) false e1.Keys w1 (ifb (bif (bif (bif (e1.Boot==1000) then true else (!(F124 e1.Keys w1))) then true else (w1.From != e1.Peer)) then true else (w1.To != e1.Name)) (fun h3=>fi119 e1 w1 e1 (condF h1 (condT h3 rfl))) (fun h3=>have _:=beqF (orF1 (orF1 (orF1 h3))); have _:=bneF (orF2 (orF1 h3)); have _:=bneF (orF2 h3); ifb (bif decide (w1.Boot<e1.PeerBoot) then true else (bif (w1.Boot==e1.PeerBoot) then decide (w1.Turn<=e1.PeerTurn) else false)) (fun h4=>fi119 e1 w1 e1 (condF h1 (condF h3 (condT h4 rfl)))) (fun h4=>have _:=Rj (orF1 h4); kc125l e1 w1 uu29 uu9 uu9 (fun gv5=>kc36a (F125 e1 w1) uu17 (fi119 e1 w1 (F125 e1 w1) (condF h1 (condF h3 (condF h4 rfl)))))))))))) uu3
def F120 (w1:Ub) (x9:HelloWord):Ub :=
 bif (decide ((w1.Radio.length:Int)<12)) then (⟨w1.Sides,(w1.Radio++[x9])⟩:Ub) else w1
theorem fi120 (w1:Ub) (x9:HelloWord) (r:Ub) (hF:r=(F120 w1 x9)):(Imp (.l 23 eHelloSide r.Sides) (.l 23 eHelloSide (F120 w1 x9).Sides))/\(Imp (.l 14 eHelloWord r.Radio) (.l 14 eHelloWord (F120 w1 x9).Radio))/\True:=by cases hF; exact ⟨Imp.refl _,Imp.refl _,trivial⟩
def S120 (w1:Ub) (x9:HelloWord):Spec:=⟨[.ot (eHelloWorld w1),.r (.g (eHelloWord x9))],.ag [.ow (.l 23 eHelloSide (F120 w1 x9).Sides),.ow (.l 14 eHelloWord (F120 w1 x9).Radio)],w1.Radio.length<=12⟩
theorem ok120 (w1:Ub) (x9:HelloWord):(S120 w1 x9).ok Tryz.prog 120 :=
 fnG_ok mixed (fn:=Tryz.f120) (ct:=.seq .no (.seq (.seq .no (.cond (.reg [(4,.dat (.l 14 eHelloWord (w1.Radio++[x9])))]) .no)) (.seq .no .no))) Tryz.func120 (fun (hpre0:w1.Radio.length<=12)=>ifd ((w1.Radio.length:Int)<12) (fun h1 _=>ai (appr 14 eHelloWord w1.Radio [x9] fun _=>rfl) (ai (uu6:(w1.Radio++[x9]).length*112<=140737488355328) (fi120 w1 x9 (⟨w1.Sides,(w1.Radio++[x9])⟩:Ub) (condT h1 rfl)))) (fun h1 _=>fi120 w1 x9 w1 (condF h1 rfl))) uu3
def F122 (e1:Ud):Ud :=
 (⟨e1.Name,e1.Peer,e1.Keys,e1.Boot,e1.Want,0,0,0,false,0,0,(⟨0,(⟨0,0,0,0⟩:Ue)⟩:HelloChange),[],false,0,false,[],0⟩:Ud)
theorem fi122 (e1:Ud) (r:Ud) (hF:r=(F122 e1)):((.int .i64 r.Name:Value)=.int .i64 (F122 e1).Name)/\((.int .i64 r.Peer:Value)=.int .i64 (F122 e1).Peer)/\(Imp (.l 2 eHelloKey r.Keys) (.l 2 eHelloKey (F122 e1).Keys))/\((.int .i64 r.Boot:Value)=.int .i64 (F122 e1).Boot)/\(Imp (.l 4 eHelloEntry r.Want) (.l 4 eHelloEntry (F122 e1).Want))/\((.int .i64 r.Turn:Value)=.int .i64 (F122 e1).Turn)/\((.int .i64 r.PeerBoot:Value)=.int .i64 (F122 e1).PeerBoot)/\((.int .i64 r.PeerTurn:Value)=.int .i64 (F122 e1).PeerTurn)/\((.bool r.Up:Value)=.bool (F122 e1).Up)/\((.int .i64 r.Left:Value)=.int .i64 (F122 e1).Left)/\((.int .i64 r.Num:Value)=.int .i64 (F122 e1).Num)/\((.int .i64 r.Under.Kind:Value)=.int .i64 (F122 e1).Under.Kind)/\((.int .i64 r.Under.Entry.Addr:Value)=.int .i64 (F122 e1).Under.Entry.Addr)/\((.int .i64 r.Under.Entry.Len:Value)=.int .i64 (F122 e1).Under.Entry.Len)/\((.int .i64 r.Under.Entry.Cost:Value)=.int .i64 (F122 e1).Under.Entry.Cost)/\((.int .i64 r.Under.Entry.Label:Value)=.int .i64 (F122 e1).Under.Entry.Label)/\(Imp (.l 4 eHelloEntry r.Told) (.l 4 eHelloEntry (F122 e1).Told))/\((.bool r.All:Value)=.bool (F122 e1).All)/\((.int .i64 r.Got:Value)=.int .i64 (F122 e1).Got)/\((.bool r.Full:Value)=.bool (F122 e1).Full)/\(Imp (.l 5 eHelloRoute r.Heard) (.l 5 eHelloRoute (F122 e1).Heard))/\((.int .i64 r.Keep:Value)=.int .i64 (F122 e1).Keep)/\True:=by cases hF; exact ⟨rfl,rfl,Imp.refl _,rfl,Imp.refl _,rfl,rfl,rfl,rfl,rfl,rfl,rfl,rfl,rfl,rfl,rfl,Imp.refl _,rfl,rfl,rfl,Imp.refl _,rfl,trivial⟩
def S122 (e1:Ud):Spec:=⟨[.r (.g (eHelloEnd e1))],.ag [.v (vI (F122 e1).Name),.v (vI (F122 e1).Peer),.ow (.l 2 eHelloKey (F122 e1).Keys),.v (vI (F122 e1).Boot),.ow (.l 4 eHelloEntry (F122 e1).Want),.v (vI (F122 e1).Turn),.v (vI (F122 e1).PeerBoot),.v (vI (F122 e1).PeerTurn),.v (.bool (F122 e1).Up),.v (vI (F122 e1).Left),.v (vI (F122 e1).Num),.v (vI (F122 e1).Under.Kind),.v (vI (F122 e1).Under.Entry.Addr),.v (vI (F122 e1).Under.Entry.Len),.v (vI (F122 e1).Under.Entry.Cost),.v (vI (F122 e1).Under.Entry.Label),.ow (.l 4 eHelloEntry (F122 e1).Told),.v (.bool (F122 e1).All),.v (vI (F122 e1).Got),.v (.bool (F122 e1).Full),.ow (.l 5 eHelloRoute (F122 e1).Heard),.v (vI (F122 e1).Keep)],smallE e1⟩
theorem ok122 (e1:Ud):(S122 e1).ok Tryz.prog 122 :=
 fnG_ok mixed (fn:=Tryz.f122) (ct:=.seq .no (.seq (.reg [(11,.call 36 (S36 (⟨e1.Name,e1.Peer,e1.Keys,e1.Boot,e1.Want,0,0,0,false,0,0,(⟨0,(⟨0,0,0,0⟩:Ue)⟩:HelloChange),[],false,0,false,[],0⟩:Ud) (⟨e1.Name,e1.Peer,e1.Keys,e1.Boot,e1.Want,0,0,0,false,0,0,(⟨0,(⟨0,0,0,0⟩:Ue)⟩:HelloChange),[],false,0,false,[],0⟩:Ud)) (oa36 (⟨e1.Name,e1.Peer,e1.Keys,e1.Boot,e1.Want,0,0,0,false,0,0,(⟨0,(⟨0,0,0,0⟩:Ue)⟩:HelloChange),[],false,0,false,[],0⟩:Ud)) none)]) .no)) Tryz.func122 (fun (hpre0:smallE e1)=>ai (uu17:smallE (⟨e1.Name,e1.Peer,e1.Keys,e1.Boot,e1.Want,0,0,0,false,0,0,(⟨0,(⟨0,0,0,0⟩:Ue)⟩:HelloChange),[],false,0,false,[],0⟩:Ud)) (ai (ai (Imp.refl (.v (vI e1.Name))) (ai (Imp.refl (.v (vI e1.Peer))) (ai (Imp.refl (.l 2 eHelloKey e1.Keys)) (ai (Imp.refl (.v (vI e1.Boot))) (ai (Imp.refl (.l 4 eHelloEntry e1.Want)) (ai (Imp.refl (.v (vI 0))) (ai (Imp.refl (.v (vI 0))) (ai (Imp.refl (.v (vI 0))) (ai (Imp.refl (.v (.bool false))) (ai (Imp.refl (.v (vI 0))) (ai (Imp.refl (.v (vI 0))) (ai (Imp.refl (.v (vI 0))) (ai (Imp.refl (.v (vI 0))) (ai (Imp.refl (.v (vI 0))) (ai (Imp.refl (.v (vI 0))) (ai (Imp.refl (.v (vI 0))) (ai (Imp.nil 4 eHelloEntry) (ai (Imp.refl (.v (.bool false))) (ai (Imp.refl (.v (vI 0))) (ai (Imp.refl (.v (.bool false))) (ai (Imp.nil 5 eHelloRoute) (ai (Imp.refl (.v (vI 0))) trivial)))))))))))))))))))))) (fi122 e1 (⟨e1.Name,e1.Peer,e1.Keys,e1.Boot,e1.Want,0,0,0,false,0,0,(⟨0,(⟨0,0,0,0⟩:Ue)⟩:HelloChange),[],false,0,false,[],0⟩:Ud) rfl))) uu3
def F123_s0 (w1:Ub):(List HelloWord×Int)->Lp (List HelloWord×Int) (List HelloWord):=fun (out,i40) =>
 bif (decide (i40<(w1.Radio.length:Int))) then (bif (bif (F124 (w1.Sides.getD (Int.toNat 0) default).End.Keys (w1.Radio.getD i40.toNat default)) then true else (F124 (w1.Sides.getD (Int.toNat 1) default).End.Keys (w1.Radio.getD i40.toNat default))) then (.next ((out++[(w1.Radio.getD i40.toNat default)]),(i40+1))) else (.next (out,(i40+1)))) else (.done (out,i40))
def F123 (w1:Ub):List HelloWord :=
 (runL (F123_s0 w1) (((w1.Radio.length:Int)-0).toNat+1) (([]:List HelloWord),0)).fin (fun r=>r) (fun (out,i40)=>out)
abbrev lN123_0 (w1:Ub):Nat×(List HelloWord×Int):=((((w1.Radio.length:Int)-0).toNat+1),(([]:List HelloWord),0))
abbrev lI123_0 (w1:Ub) (m39:Nat) (out:List HelloWord) (i40:Int):Prop:=Int.toNat ((w1.Radio.length:Int)-i40)<m39/\(out.length:Int)<=i40/\(0:Int)<=i40
abbrev lX123_0 (w1:Ub):Lp (List HelloWord×Int) (List HelloWord):=LpX (F123_s0 w1) (lN123_0 w1)
abbrev lJ123_0 (w1:Ub) (i:Nat×(List HelloWord×Int)):Prop:=LpJ (F123_s0 w1) (lN123_0 w1) i (lI123_0 w1 i.1 i.2.1 i.2.2)
abbrev lH123_0 (w1:Ub) (i:Nat×(List HelloWord×Int)) (m39:Nat) (out:List HelloWord) (i40:Int):Prop:=LpH (F123_s0 w1) (lN123_0 w1) i m39 (out,i40) (lI123_0 w1 (m39+1) out i40)
abbrev lE123_0 (w1:Ub) (out:List HelloWord) (i40:Int) (out_:List HelloWord) (i40_:Int) (K39:Prop):Prop:=((.int .i64 i40:Value)=.int .i64 i40_)/\(Im (.l 23 eHelloSide w1.Sides))/\(Im (.l 14 eHelloWord w1.Radio))/\(Imp (.l 14 eHelloWord out) (.l 14 eHelloWord out_))/\K39
theorem un123_0 (w1:Ub) (i:Nat×(List HelloWord×Int)) (h:lJ123_0 w1 i):lH123_0 w1 i (i.1-1) i.2.1 i.2.2:=⟨hd1 h.1 h.2.1,hd3 h.2.1,hd2 h.2.1,h.2.2⟩
theorem bk123_0 (w1:Ub) (i:Nat×(List HelloWord×Int)) (m39:Nat) (out:List HelloWord) (i40:Int) (hl:m39<i.1) (e:runL (F123_s0 w1) m39 (out,i40)=lX123_0 w1) (h:lI123_0 w1 m39 out i40):∃ j:Nat×(List HelloWord×Int),lE123_0 w1 out i40 j.2.1 j.2.2 (lJ123_0 w1 j/\j.1<i.1):=⟨(m39,(out,i40)),rfl,Imp.refl _,Imp.refl _,Imp.refl _,⟨e,h⟩,hl⟩
theorem en123_0 (w1:Ub) (h:(([]:List HelloWord).length:Int)<=0/\(0:Int)<=0):lE123_0 w1 ([]:List HelloWord) 0 ([]:List HelloWord) 0 (lJ123_0 w1 (lN123_0 w1)):=⟨rfl,Imp.refl _,Imp.refl _,Imp.refl _,rfl,Qq _,h⟩
theorem fi123 (w1:Ub) (r:List HelloWord) (hF:r=(F123 w1)):(Imp (.l 14 eHelloWord r) (.l 14 eHelloWord (F123 w1)))/\True:=by cases hF; exact ⟨Imp.refl _,trivial⟩
def S123 (w1:Ub):Spec:=⟨[.r (.g (eHelloWorld w1))],.ow (.l 14 eHelloWord (F123 w1)),w1.Sides.length=2/\w1.Radio.length<=12⟩
abbrev q123_1 (w1:Ub) (i40:Int):=(w1.Radio.getD i40.toNat default)
abbrev q123_2 (w1:Ub) (i40:Int):=(F124 (w1.Sides.getD (Int.toNat 0) default).End.Keys (q123_1 w1 i40))
theorem ok123 (w1:Ub):(S123 w1).ok Tryz.prog 123 :=
 fnG_ok mixed (fn:=Tryz.f123) (ct:=.seq .no (.seq (.reg [(0,.dat (.l 14 eHelloWord ([]:List HelloWord)))]) (.seq (.seqk [(1,0),(1,1),(3,0)] .no (.blk (.loop (ι:=Nat×(List HelloWord×Int)) (fun i=>(fun (out:List HelloWord) (i40:Int)=>(⟨[(1,some (.p 0 0)),(3,some (.h 3 0)),(4,some (.v (vI i40)))],[(0,some (.box 97 [.h 1 0,.h 2 0])),(1,some (.shr none (.l 23 eHelloSide w1.Sides))),(2,some (.shr none (.l 14 eHelloWord w1.Radio))),(3,some (.own 3 (.l 14 eHelloWord out)))],4⟩:St)) i.2.1 i.2.2) (lJ123_0 w1) (fun i=>i.1) (lN123_0 w1) (fun i=>(fun (out:List HelloWord) (i40:Int)=>(.seq (.seq .no (.cond .no .no)) (.seq (.blk (.seq (.reg [(11,kh124 (w1.Sides.getD (Int.toNat 0) default).End.Keys (q123_1 w1 i40)),(24,kh124 (w1.Sides.getD (Int.toNat 1) default).End.Keys (q123_1 w1 i40))]) (.cond (.reg [(7,.dat (.l 14 eHelloWord (out++[(q123_1 w1 i40)])))]) .no))) (.reg [(1,.bnd)])))) i.2.1 i.2.2)))) (.seq .no .no)))) Tryz.func123 (fun (hp:w1.Sides.length=2/\w1.Radio.length<=12)=>have hpre0:=hp.1; have hpre1:=hp.2; ai (bokr 14 eHelloWord ([]:List HelloWord) fun _=>rfl) (kn w1.Sides fun _=>kn w1.Radio fun _=>kn ([]:List HelloWord) fun _=>ai (en123_0 w1 uu23) (fun (i0:Nat×(List HelloWord×Int)) (hi0:lJ123_0 w1 i0)=>(fun (m0:Nat) (out:List HelloWord) (i40:Int) (hh0:lH123_0 w1 i0 m0 out i40)=>have hI0:=hh0.1; have hl0:=hh0.2.1; have _:=hh0.2.2.1; have _:=hh0.2.2.2; ifd (i40<(w1.Radio.length:Int)) (fun h2 _=>ai (uu1:ib 0 w1.Sides) (ai (uu1:ib i40 w1.Radio) (kc124 (w1.Sides.getD (Int.toNat 0) default).End.Keys (q123_1 w1 i40) (ai (fun k3:(q123_2 w1 i40)=false=>(uu1:ib 1 w1.Sides)) (ai (fun k4:(q123_2 w1 i40)=false=>(uu1:ib i40 w1.Radio)) (kg124 (q123_2 w1 i40) false (w1.Sides.getD (Int.toNat 1) default).End.Keys (q123_1 w1 i40) (ifb (bif (q123_2 w1 i40) then true else (F124 (w1.Sides.getD (Int.toNat 1) default).End.Keys (q123_1 w1 i40))) (fun h6=>ai (uu1:ib i40 w1.Radio) (ai (appr 14 eHelloWord out [(q123_1 w1 i40)] fun _=>rfl) (ai (uu6:(out++[(q123_1 w1 i40)]).length*112<=140737488355328) (ai (iok (i40+1) uu1) (bk123_0 w1 i0 m0 (out++[(q123_1 w1 i40)]) (i40+1) hl0 (runL_next hI0 (condT h2 (condT h6 rfl))) uu18))))) (fun h6=>ai (iok (i40+1) uu1) (bk123_0 w1 i0 m0 out (i40+1) hl0 (runL_next hI0 (condT h2 (condF h6 rfl))) uu18))))))))) (fun h2 _=>have hD0_7:lX123_0 w1=Lp.done (out,i40):=runL_done hI0 (condF h2 rfl); fi123 w1 out (finD hD0_7 rfl))) (i0.1-1) i0.2.1 i0.2.2 (un123_0 w1 i0 hi0)))) uu3
structure HelloEvent where
 Kind:Int
 At:Int
 Want:List Ue
 Keys:List HelloKey
 Word:HelloWord
 deriving DecidableEq,Inhabited
def eHelloEvent (x:HelloEvent):List Dat:=[.v (vI x.Kind),.v (vI x.At),.l 4 eHelloEntry x.Want,.l 2 eHelloKey x.Keys,.v (vI x.Word.From),.v (vI x.Word.To),.v (vI x.Word.Key),.v (vI x.Word.Boot),.v (vI x.Word.Yours),.v (vI x.Word.Turn),.v (vI x.Word.Num),.v (vI x.Word.Heard),.v (vI x.Word.Change.Kind),.v (vI x.Word.Change.Entry.Addr),.v (vI x.Word.Change.Entry.Len),.v (vI x.Word.Change.Entry.Cost),.v (vI x.Word.Change.Entry.Label),.v (vI x.Word.Sum)]
theorem kc14 (e1:Ud) {K_:Prop} (k_:K_):(True)/\(Imps (eHelloEnd e1) (eHelloEnd e1))/\K_:=⟨trivial,Imps.refl _,k_⟩
abbrev kh14 (e1:Ud):Hint true Tryz.prog:=.call 14 (S14 e1) (ok14 e1) none
theorem kc121 (e1:Ud) {K_:Prop} (k_:K_):(True)/\(Imps (eHelloEnd e1) (eHelloEnd e1))/\K_:=⟨trivial,Imps.refl _,k_⟩
abbrev kh121 (e1:Ud):Hint true Tryz.prog:=.call 121 (S121 e1) (ok121 e1) none
theorem kc122 (e1:Ud) {K_:Prop} (p0_:smallE e1) (k_:K_):(smallE e1)/\(Imps (eHelloEnd e1) (eHelloEnd e1))/\K_:=⟨p0_,Imps.refl _,k_⟩
abbrev kh122 (e1:Ud):Hint true Tryz.prog:=.call 122 (S122 e1) (ok122 e1) none
theorem kc123 (w1:Ub) {K_:Prop} (p0_:w1.Sides.length=2) (p1_:w1.Radio.length<=12) (k_:K_):(w1.Sides.length=2/\w1.Radio.length<=12)/\(Imps (eHelloWorld w1) (eHelloWorld w1))/\K_:=⟨⟨p0_,p1_⟩,Imps.refl _,k_⟩
abbrev kh123 (w1:Ub):Hint true Tryz.prog:=.call 123 (S123 w1) (ok123 w1) none
def F116 (w1:Ub) (e1:HelloEvent):Ub :=
 bif (!(decide (0<=e1.At/\e1.At<=1))) then w1 else (bif (e1.Kind==1) then (bif (w1.Sides.getD (Int.toNat e1.At) default).Up then (bif (F14 (w1.Sides.getD (Int.toNat e1.At) default).End).2.2 then (F120 ⟨(w1.Sides.set e1.At.toNat (⟨(w1.Sides.getD (Int.toNat e1.At) default).Up,(F14 (w1.Sides.getD (Int.toNat e1.At) default).End).1⟩:Uc)),w1.Radio⟩ (F14 (w1.Sides.getD (Int.toNat e1.At) default).End).2.1) else (⟨(w1.Sides.set e1.At.toNat (⟨(w1.Sides.getD (Int.toNat e1.At) default).Up,(F14 (w1.Sides.getD (Int.toNat e1.At) default).End).1⟩:Uc)),w1.Radio⟩:Ub)) else w1) else (bif (e1.Kind==5) then (bif (w1.Sides.getD (Int.toNat e1.At) default).Up then (⟨(w1.Sides.set e1.At.toNat (⟨(w1.Sides.getD (Int.toNat e1.At) default).Up,(F121 (w1.Sides.getD (Int.toNat e1.At) default).End)⟩:Uc)),w1.Radio⟩:Ub) else w1) else (bif (e1.Kind==6) then (⟨(w1.Sides.set e1.At.toNat (⟨false,(F122 (w1.Sides.getD (Int.toNat e1.At) default).End)⟩:Uc)),w1.Radio⟩:Ub) else (bif (e1.Kind==7) then (bif (!(w1.Sides.getD (Int.toNat e1.At) default).Up) then (⟨(w1.Sides.set e1.At.toNat (⟨true,(F37 (w1.Sides.getD (Int.toNat e1.At) default).End)⟩:Uc)),w1.Radio⟩:Ub) else w1) else (bif (e1.Kind==8) then (bif (F30 e1.Want) then (⟨(w1.Sides.set e1.At.toNat (⟨(w1.Sides.getD (Int.toNat e1.At) default).Up,(⟨(w1.Sides.getD (Int.toNat e1.At) default).End.Name,(w1.Sides.getD (Int.toNat e1.At) default).End.Peer,(w1.Sides.getD (Int.toNat e1.At) default).End.Keys,(w1.Sides.getD (Int.toNat e1.At) default).End.Boot,e1.Want,(w1.Sides.getD (Int.toNat e1.At) default).End.Turn,(w1.Sides.getD (Int.toNat e1.At) default).End.PeerBoot,(w1.Sides.getD (Int.toNat e1.At) default).End.PeerTurn,(w1.Sides.getD (Int.toNat e1.At) default).End.Up,(w1.Sides.getD (Int.toNat e1.At) default).End.Left,(w1.Sides.getD (Int.toNat e1.At) default).End.Num,(w1.Sides.getD (Int.toNat e1.At) default).End.Under,(w1.Sides.getD (Int.toNat e1.At) default).End.Told,(w1.Sides.getD (Int.toNat e1.At) default).End.All,(w1.Sides.getD (Int.toNat e1.At) default).End.Got,(w1.Sides.getD (Int.toNat e1.At) default).End.Full,(w1.Sides.getD (Int.toNat e1.At) default).End.Heard,(w1.Sides.getD (Int.toNat e1.At) default).End.Keep⟩:Ud)⟩:Uc)),w1.Radio⟩:Ub) else w1) else (bif (e1.Kind==9) then (bif (F29 e1.Keys) then (⟨(w1.Sides.set e1.At.toNat (⟨(w1.Sides.getD (Int.toNat e1.At) default).Up,(⟨(w1.Sides.getD (Int.toNat e1.At) default).End.Name,(w1.Sides.getD (Int.toNat e1.At) default).End.Peer,e1.Keys,(w1.Sides.getD (Int.toNat e1.At) default).End.Boot,(w1.Sides.getD (Int.toNat e1.At) default).End.Want,(w1.Sides.getD (Int.toNat e1.At) default).End.Turn,(w1.Sides.getD (Int.toNat e1.At) default).End.PeerBoot,(w1.Sides.getD (Int.toNat e1.At) default).End.PeerTurn,(w1.Sides.getD (Int.toNat e1.At) default).End.Up,(w1.Sides.getD (Int.toNat e1.At) default).End.Left,(w1.Sides.getD (Int.toNat e1.At) default).End.Num,(w1.Sides.getD (Int.toNat e1.At) default).End.Under,(w1.Sides.getD (Int.toNat e1.At) default).End.Told,(w1.Sides.getD (Int.toNat e1.At) default).End.All,(w1.Sides.getD (Int.toNat e1.At) default).End.Got,(w1.Sides.getD (Int.toNat e1.At) default).End.Full,(w1.Sides.getD (Int.toNat e1.At) default).End.Heard,(w1.Sides.getD (Int.toNat e1.At) default).End.Keep⟩:Ud)⟩:Uc)),(F123 w1)⟩:Ub) else w1) else w1))))))
theorem fi116 (w1:Ub) (e1:HelloEvent) (r:Ub) (hF:r=(F116 w1 e1)):(Imp (.l 23 eHelloSide r.Sides) (.l 23 eHelloSide (F116 w1 e1).Sides))/\(Imp (.l 14 eHelloWord r.Radio) (.l 14 eHelloWord (F116 w1 e1).Radio))/\True:=by cases hF; exact ⟨Imp.refl _,Imp.refl _,trivial⟩
def S116 (w1:Ub) (e1:HelloEvent):Spec:=⟨[.ot (eHelloWorld w1),.r (.g (eHelloEvent e1))],.ag [.ow (.l 23 eHelloSide (F116 w1 e1).Sides),.ow (.l 14 eHelloWord (F116 w1 e1).Radio)],F106 w1=true/\w1.Sides.length=2/\(∀ k:Nat,EndFit (w1.Sides.getD k default).End)/\w1.Radio.length<=12⟩
abbrev q116_1 (w1:Ub) (e1:HelloEvent):=(w1.Sides.getD (Int.toNat e1.At) default)
abbrev q116_2 (w1:Ub) (e1:HelloEvent):=(⟨(q116_1 w1 e1).Up,(⟨(q116_1 w1 e1).End.Name,(q116_1 w1 e1).End.Peer,(q116_1 w1 e1).End.Keys,(q116_1 w1 e1).End.Boot,e1.Want,(q116_1 w1 e1).End.Turn,(q116_1 w1 e1).End.PeerBoot,(q116_1 w1 e1).End.PeerTurn,(q116_1 w1 e1).End.Up,(q116_1 w1 e1).End.Left,(q116_1 w1 e1).End.Num,(q116_1 w1 e1).End.Under,(q116_1 w1 e1).End.Told,(q116_1 w1 e1).End.All,(q116_1 w1 e1).End.Got,(q116_1 w1 e1).End.Full,(q116_1 w1 e1).End.Heard,(q116_1 w1 e1).End.Keep⟩:Ud)⟩:Uc)
abbrev q116_3 (w1:Ub) (e1:HelloEvent):=(⟨(q116_1 w1 e1).Up,(⟨(q116_1 w1 e1).End.Name,(q116_1 w1 e1).End.Peer,e1.Keys,(q116_1 w1 e1).End.Boot,(q116_1 w1 e1).End.Want,(q116_1 w1 e1).End.Turn,(q116_1 w1 e1).End.PeerBoot,(q116_1 w1 e1).End.PeerTurn,(q116_1 w1 e1).End.Up,(q116_1 w1 e1).End.Left,(q116_1 w1 e1).End.Num,(q116_1 w1 e1).End.Under,(q116_1 w1 e1).End.Told,(q116_1 w1 e1).End.All,(q116_1 w1 e1).End.Got,(q116_1 w1 e1).End.Full,(q116_1 w1 e1).End.Heard,(q116_1 w1 e1).End.Keep⟩:Ud)⟩:Uc)
abbrev q116_4 (w1:Ub) (e1:HelloEvent):=(⟨(w1.Sides.set e1.At.toNat (⟨(q116_1 w1 e1).Up,(F14 (q116_1 w1 e1).End).1⟩:Uc)),w1.Radio⟩:Ub)
abbrev q116_5 (w1:Ub) (e1:HelloEvent):=((w1.Sides.map hz).set e1.At.toNat ((q116_1 w1 e1),true))
theorem ok116 (w1:Ub) (e1:HelloEvent):(S116 w1 e1).ok Tryz.prog 116 :=
 fnG_ok mixed (fn:=Tryz.f116) (ct:=.seq .no (.seq (.seq (.reg [(2,kh28a e1.At 0 1)]) (.cond (.seq .no .no) .no)) (.seq .no (.seq (.seq .no (.blk (.seq .no (.cond (.seq .no (.cond (.seq (.reg [(2,kh14 (q116_1 w1 e1).End)]) (.seq (.reg [(7,.dat (.l 23 eHelloSide (w1.Sides.set e1.At.toNat (⟨(q116_1 w1 e1).Up,(F14 (q116_1 w1 e1).End).1⟩:Uc))))]) (.seq .no (.cond (.seq (.reg [(2,.call 120 (S120 (q116_4 w1 e1) (F14 (q116_1 w1 e1).End).2.1) (ok120 (q116_4 w1 e1) (F14 (q116_1 w1 e1).End).2.1) none)]) .no) .no)))) .no)) (.seq .no (.cond (.seq .no (.cond (.reg [(6,kh121 (q116_1 w1 e1).End),(9,.dat (.l 23 eHelloSide (w1.Sides.set e1.At.toNat (⟨(q116_1 w1 e1).Up,(F121 (q116_1 w1 e1).End)⟩:Uc))))]) .no)) (.seq .no (.cond (.reg [(6,kh122 (q116_1 w1 e1).End),(9,.dat (.l 23 eHelloSide (w1.Sides.set e1.At.toNat (⟨false,(F122 (q116_1 w1 e1).End)⟩:Uc))))]) (.seq .no (.cond (.seq .no (.cond (.tkr 5 (.l 23 (encHs eHelloSide) (q116_5 w1 e1)) [(6,kh37l (q116_1 w1 e1).End),(8,.ix [.v (.bool (q116_1 w1 e1).Up),.v (vI (q116_1 w1 e1).End.Name),.v (vI (q116_1 w1 e1).End.Peer),.any,.v (vI (q116_1 w1 e1).End.Boot),.any,.v (vI (q116_1 w1 e1).End.Turn),.v (vI (q116_1 w1 e1).End.PeerBoot),.v (vI (q116_1 w1 e1).End.PeerTurn),.v (.bool (q116_1 w1 e1).End.Up),.v (vI (q116_1 w1 e1).End.Left),.v (vI (q116_1 w1 e1).End.Num),.v (vI (q116_1 w1 e1).End.Under.Kind),.v (vI (q116_1 w1 e1).End.Under.Entry.Addr),.v (vI (q116_1 w1 e1).End.Under.Entry.Len),.v (vI (q116_1 w1 e1).End.Under.Entry.Cost),.v (vI (q116_1 w1 e1).End.Under.Entry.Label),.any,.v (.bool (q116_1 w1 e1).End.All),.v (vI (q116_1 w1 e1).End.Got),.v (.bool (q116_1 w1 e1).End.Full),.any,.v (vI (q116_1 w1 e1).End.Keep)]),(9,.dat (.l 23 eHelloSide (w1.Sides.set e1.At.toNat (⟨true,(F37 (q116_1 w1 e1).End)⟩:Uc))))]) .no)) (.seq .no (.cond (.seq (.reg [(2,kh30l e1.Want)]) (.cond (.reg [(6,kh64a e1.Want),(10,.dat (.l 23 eHelloSide (w1.Sides.set e1.At.toNat (q116_2 w1 e1))))]) .no)) (.seq .no (.cond (.seq (.reg [(2,kh29l e1.Keys)]) (.cond (.seq (.reg [(1,kh123 w1)]) (.reg [(6,kh69a e1.Keys),(10,.dat (.l 23 eHelloSide (w1.Sides.set e1.At.toNat (q116_3 w1 e1))))])) .no)) .no)))))))))))))) (.seq .no .no))))) Tryz.func116 (fun (hp:F106 w1=true/\w1.Sides.length=2/\(∀ k:Nat,EndFit (w1.Sides.getD k default).End)/\w1.Radio.length<=12)=>have hpre0:=hp.1; have hpre1:=hp.2.1; have hpre2:=hp.2.2.1; have hpre3:=hp.2.2.2; kc28a e1.At 0 1 (ifb (!(decide (0<=e1.At/\e1.At<=1))) (fun h1=>have _:=Rj (notET h1); fi116 w1 e1 w1 (condT h1 rfl)) (fun h1=>have _:=Qb (notEF h1); ai (uu1:ib e1.At w1.Sides) (ife e1.Kind 1 (fun h2 _=>ifb (q116_1 w1 e1).Up (fun h3=>kc14 (q116_1 w1 e1).End (ai (uu1:ib e1.At w1.Sides) (ai (setr 23 eHelloSide w1.Sides e1.At.toNat (⟨(q116_1 w1 e1).Up,(F14 (q116_1 w1 e1).End).1⟩:Uc)) (ifb (F14 (q116_1 w1 e1).End).2.2 (fun h4=>ai (uu10:w1.Radio.length<=12) (ai (Imps.refl (eHelloWorld (q116_4 w1 e1))) (ai (Imps.refl (eHelloWord (F14 (q116_1 w1 e1).End).2.1)) (fi116 w1 e1 (F120 (q116_4 w1 e1) (F14 (q116_1 w1 e1).End).2.1) (condF h1 (condT h2 (condT h3 (condT h4 rfl)))))))) (fun h4=>fi116 w1 e1 (q116_4 w1 e1) (condF h1 (condT h2 (condT h3 (condF h4 rfl))))))))) (fun h3=>fi116 w1 e1 w1 (condF h1 (condT h2 (condF h3 rfl))))) (fun h2 _=>ife e1.Kind 5 (fun h5 _=>ifb (q116_1 w1 e1).Up (fun h6=>kc121 (q116_1 w1 e1).End (ai (uu1:ib e1.At w1.Sides) (ai (setr 23 eHelloSide w1.Sides e1.At.toNat (⟨(q116_1 w1 e1).Up,(F121 (q116_1 w1 e1).End)⟩:Uc)) (fi116 w1 e1 (⟨(w1.Sides.set e1.At.toNat (⟨(q116_1 w1 e1).Up,(F121 (q116_1 w1 e1).End)⟩:Uc)),w1.Radio⟩:Ub) (condF h1 (condF h2 (condT h5 (condT h6 rfl)))))))) (fun h6=>fi116 w1 e1 w1 (condF h1 (condF h2 (condT h5 (condF h6 rfl)))))) (fun h5 _=>ife e1.Kind 6 (fun h7 _=>kc122 (q116_1 w1 e1).End uu41 (ai (uu1:ib e1.At w1.Sides) (ai (setr 23 eHelloSide w1.Sides e1.At.toNat (⟨false,(F122 (q116_1 w1 e1).End)⟩:Uc)) (fi116 w1 e1 (⟨(w1.Sides.set e1.At.toNat (⟨false,(F122 (q116_1 w1 e1).End)⟩:Uc)),w1.Radio⟩:Ub) (condF h1 (condF h2 (condF h5 (condT h7 rfl)))))))) (fun h7 _=>ife e1.Kind 7 (fun h8 _=>ifb (!(q116_1 w1 e1).Up) (fun h9=>have _:=(notET h9); ai (SetOK.takeA eHelloSide w1.Sides (q116_1 w1 e1) rfl rfl:SetOK (.l 23 eHelloSide w1.Sides) e1.At.toNat (eHelloSide (q116_1 w1 e1)) (maskD (eHelloSide (q116_1 w1 e1))) (.l 23 (encHs eHelloSide) (q116_5 w1 e1))) (kc37l (q116_1 w1 e1).End uu41 (fun gv10=>ai (by simp only [lens] at*<;> omega:0<=e1.At/\e1.At<((q116_5 w1 e1).length:Int)) (ai (Imps.of_eq (Qc (encHs eHelloSide) (getD_set_eq (w1.Sides.map hz) e1.At.toNat ((q116_1 w1 e1),true) (by simp only [lens] at*<;> omega)))) (ai (SetOK.fillA eHelloSide w1.Sides (q116_1 w1 e1) (⟨true,(F37 (q116_1 w1 e1).End)⟩:Uc) (Qc (encHs eHelloSide) (getD_set_eq (w1.Sides.map hz) e1.At.toNat ((q116_1 w1 e1),true) (by simp only [lens] at*<;> omega))) (by exact ai ir (ai ir (ai ir (ai ir (ai ir (ai ir (ai ir (ai ir (ai ir (ai ir (ai ir (ai ir (ai ir (ai ir (ai ir (ai ir (ai ir (ai ir (ai ir (ai ir (ai ir (ai ir (ai ir trivial))))))))))))))))))))))):SetOK (.l 23 (encHs eHelloSide) (q116_5 w1 e1)) e1.At.toNat ([.v (.bool (q116_1 w1 e1).Up),.v (vI (q116_1 w1 e1).End.Name),.v (vI (q116_1 w1 e1).End.Peer),.any,.v (vI (q116_1 w1 e1).End.Boot),.any,.v (vI (q116_1 w1 e1).End.Turn),.v (vI (q116_1 w1 e1).End.PeerBoot),.v (vI (q116_1 w1 e1).End.PeerTurn),.v (.bool (q116_1 w1 e1).End.Up),.v (vI (q116_1 w1 e1).End.Left),.v (vI (q116_1 w1 e1).End.Num),.v (vI (q116_1 w1 e1).End.Under.Kind),.v (vI (q116_1 w1 e1).End.Under.Entry.Addr),.v (vI (q116_1 w1 e1).End.Under.Entry.Len),.v (vI (q116_1 w1 e1).End.Under.Entry.Cost),.v (vI (q116_1 w1 e1).End.Under.Entry.Label),.any,.v (.bool (q116_1 w1 e1).End.All),.v (vI (q116_1 w1 e1).End.Got),.v (.bool (q116_1 w1 e1).End.Full),.any,.v (vI (q116_1 w1 e1).End.Keep)]) [.v (.bool true),.v (vI (F37 (q116_1 w1 e1).End).Name),.v (vI (F37 (q116_1 w1 e1).End).Peer),.l 2 eHelloKey (F37 (q116_1 w1 e1).End).Keys,.v (vI (F37 (q116_1 w1 e1).End).Boot),.l 4 eHelloEntry (F37 (q116_1 w1 e1).End).Want,.v (vI (F37 (q116_1 w1 e1).End).Turn),.v (vI (F37 (q116_1 w1 e1).End).PeerBoot),.v (vI (F37 (q116_1 w1 e1).End).PeerTurn),.v (.bool (F37 (q116_1 w1 e1).End).Up),.v (vI (F37 (q116_1 w1 e1).End).Left),.v (vI (F37 (q116_1 w1 e1).End).Num),.v (vI (F37 (q116_1 w1 e1).End).Under.Kind),.v (vI (F37 (q116_1 w1 e1).End).Under.Entry.Addr),.v (vI (F37 (q116_1 w1 e1).End).Under.Entry.Len),.v (vI (F37 (q116_1 w1 e1).End).Under.Entry.Cost),.v (vI (F37 (q116_1 w1 e1).End).Under.Entry.Label),.l 4 eHelloEntry (F37 (q116_1 w1 e1).End).Told,.v (.bool (F37 (q116_1 w1 e1).End).All),.v (vI (F37 (q116_1 w1 e1).End).Got),.v (.bool (F37 (q116_1 w1 e1).End).Full),.l 5 eHelloRoute (F37 (q116_1 w1 e1).End).Heard,.v (vI (F37 (q116_1 w1 e1).End).Keep)] (.l 23 eHelloSide (w1.Sides.set e1.At.toNat (⟨true,(F37 (q116_1 w1 e1).End)⟩:Uc)))) (fi116 w1 e1 (⟨(w1.Sides.set e1.At.toNat (⟨true,(F37 (q116_1 w1 e1).End)⟩:Uc)),w1.Radio⟩:Ub) (condF h1 (condF h2 (condF h5 (condF h7 (condT h8 (condT h9 rfl)))))))))))) (fun h9=>have _:=(notEF h9); fi116 w1 e1 w1 (condF h1 (condF h2 (condF h5 (condF h7 (condT h8 (condF h9 rfl)))))))) (fun h8 _=>ife e1.Kind 8 (fun h11 _=>kc30l e1.Want (ifb (F30 e1.Want) (fun h12=>have _:TblOk e1.Want:=tableOkS_T e1.Want h12; have _:e1.Want.length<=8:=tableOkS_len e1.Want h12; kc64a e1.Want uu16 (ai (uu1:ib e1.At w1.Sides) (ai (setr 23 eHelloSide w1.Sides e1.At.toNat (q116_2 w1 e1)) (fi116 w1 e1 (⟨(w1.Sides.set e1.At.toNat (q116_2 w1 e1)),w1.Radio⟩:Ub) (condF h1 (condF h2 (condF h5 (condF h7 (condF h8 (condT h11 (condT h12 rfl))))))))))) (fun h12=>fi116 w1 e1 w1 (condF h1 (condF h2 (condF h5 (condF h7 (condF h8 (condT h11 (condF h12 rfl)))))))))) (fun h11 _=>ife e1.Kind 9 (fun h13 _=>kc29l e1.Keys (ifb (F29 e1.Keys) (fun h14=>have _:1<=e1.Keys.length/\e1.Keys.length<=3:=keysOkS_T e1.Keys h14; kc123 w1 uu12 uu10 (kc69a e1.Keys uu16 (ai (uu1:ib e1.At w1.Sides) (ai (setr 23 eHelloSide w1.Sides e1.At.toNat (q116_3 w1 e1)) (fi116 w1 e1 (⟨(w1.Sides.set e1.At.toNat (q116_3 w1 e1)),(F123 w1)⟩:Ub) (condF h1 (condF h2 (condF h5 (condF h7 (condF h8 (condF h11 (condT h13 (condT h14 rfl))))))))))))) (fun h14=>fi116 w1 e1 w1 (condF h1 (condF h2 (condF h5 (condF h7 (condF h8 (condF h11 (condT h13 (condF h14 rfl))))))))))) (fun h13 _=>fi116 w1 e1 w1 (condF h1 (condF h2 (condF h5 (condF h7 (condF h8 (condF h11 (condF h13 rfl))))))))))))))))) uu3
theorem kc119 (e1:Ud) (w1:HelloWord) {K_:Prop} (k_:K_):(True)/\(Imps (eHelloEnd e1) (eHelloEnd e1))/\(Imps (eHelloWord w1) (eHelloWord w1))/\K_:=⟨trivial,Imps.refl _,Imps.refl _,k_⟩
abbrev kh119 (e1:Ud) (w1:HelloWord):Hint true Tryz.prog:=.call 119 (S119 e1 w1) (ok119 e1 w1) none
def F115_s0 (w1:Ub) (at':Int):(Int×List Uc)->Lp (Int×List Uc) Ub:=fun (k,xs) =>
 bif (decide (k<2)) then (bif (bif (xs.getD k.toNat default).Up then ((xs.getD k.toNat default).End.Name==(w1.Radio.getD at'.toNat default).To) else false) then (.next ((k+1),(xs.set (k).toNat (⟨(xs.getD k.toNat default).Up,(F119 (xs.getD k.toNat default).End (w1.Radio.getD at'.toNat default))⟩:Uc)))) else (.next ((k+1),xs))) else (.done (k,xs))
def F115 (w1:Ub) (at':Int):Ub :=
 (runL (F115_s0 w1 at') ((Int.toNat (2-0))+1) (0,w1.Sides)).fin (fun r=>r) (fun (k,xs)=>(⟨xs,((([]:List HelloWord)++(w1.Radio.take at'.toNat))++(w1.Radio.drop (at'+1).toNat))⟩:Ub))
abbrev lN115_0 (w1:Ub):Nat×(Int×List Uc):=(((Int.toNat (2-0))+1),(0,w1.Sides))
abbrev lI115_0 (w1:Ub) (m39:Nat) (k:Int) (xs:List Uc):Prop:=Int.toNat (2-k)<m39/\(0:Int)<=k/\xs.length=w1.Sides.length
abbrev lX115_0 (w1:Ub) (at':Int):Lp (Int×List Uc) Ub:=LpX (F115_s0 w1 at') (lN115_0 w1)
abbrev lJ115_0 (w1:Ub) (at':Int) (i:Nat×(Int×List Uc)):Prop:=LpJ (F115_s0 w1 at') (lN115_0 w1) i (lI115_0 w1 i.1 i.2.1 i.2.2)
abbrev lH115_0 (w1:Ub) (at':Int) (i:Nat×(Int×List Uc)) (m39:Nat) (k:Int) (xs:List Uc):Prop:=LpH (F115_s0 w1 at') (lN115_0 w1) i m39 (k,xs) (lI115_0 w1 (m39+1) k xs)
abbrev lE115_0 (w1:Ub) (at':Int) (k:Int) (xs:List Uc) (k_:Int) (xs_:List Uc) (K39:Prop):Prop:=((.int .i64 k:Value)=.int .i64 k_)/\(Imp (.l 23 eHelloSide xs) (.l 23 eHelloSide xs_))/\(Im (.l 14 eHelloWord ((([]:List HelloWord)++(w1.Radio.take at'.toNat))++(w1.Radio.drop (at'+1).toNat))))/\(Rf (.slice none 0 0))/\(Rf (.slice none 0 0))/\(Rf (.int .i64 (w1.Radio.getD at'.toNat default).From))/\(Rf (.int .i64 (w1.Radio.getD at'.toNat default).To))/\(Rf (.int .i64 (w1.Radio.getD at'.toNat default).Key))/\(Rf (.int .i64 (w1.Radio.getD at'.toNat default).Boot))/\(Rf (.int .i64 (w1.Radio.getD at'.toNat default).Yours))/\(Rf (.int .i64 (w1.Radio.getD at'.toNat default).Turn))/\(Rf (.int .i64 (w1.Radio.getD at'.toNat default).Num))/\(Rf (.int .i64 (w1.Radio.getD at'.toNat default).Heard))/\(Rf (.int .i64 (w1.Radio.getD at'.toNat default).Change.Kind))/\(Rf (.int .i64 (w1.Radio.getD at'.toNat default).Change.Entry.Addr))/\(Rf (.int .i64 (w1.Radio.getD at'.toNat default).Change.Entry.Len))/\(Rf (.int .i64 (w1.Radio.getD at'.toNat default).Change.Entry.Cost))/\(Rf (.int .i64 (w1.Radio.getD at'.toNat default).Change.Entry.Label))/\(Rf (.int .i64 (w1.Radio.getD at'.toNat default).Sum))/\K39
theorem un115_0 (w1:Ub) (at':Int) (i:Nat×(Int×List Uc)) (h:lJ115_0 w1 at' i):lH115_0 w1 at' i (i.1-1) i.2.1 i.2.2:=⟨hd1 h.1 h.2.1,hd3 h.2.1,hd2 h.2.1,h.2.2⟩
theorem bk115_0 (w1:Ub) (at':Int) (i:Nat×(Int×List Uc)) (m39:Nat) (k:Int) (xs:List Uc) (hl:m39<i.1) (e:runL (F115_s0 w1 at') m39 (k,xs)=lX115_0 w1 at') (h:lI115_0 w1 m39 k xs):∃ j:Nat×(Int×List Uc),lE115_0 w1 at' k xs j.2.1 j.2.2 (lJ115_0 w1 at' j/\j.1<i.1):=⟨(m39,(k,xs)),rfl,Imp.refl _,Imp.refl _,rfl,rfl,rfl,rfl,rfl,rfl,rfl,rfl,rfl,rfl,rfl,rfl,rfl,rfl,rfl,rfl,⟨e,h⟩,hl⟩
theorem en115_0 (w1:Ub) (at':Int) (h:(0:Int)<=0/\w1.Sides.length=w1.Sides.length):lE115_0 w1 at' 0 w1.Sides 0 w1.Sides (lJ115_0 w1 at' (lN115_0 w1)):=⟨rfl,Imp.refl _,Imp.refl _,rfl,rfl,rfl,rfl,rfl,rfl,rfl,rfl,rfl,rfl,rfl,rfl,rfl,rfl,rfl,rfl,rfl,Qq _,h⟩
theorem fi115 (w1:Ub) (at':Int) (r:Ub) (hF:r=(F115 w1 at')):(Imp (.l 23 eHelloSide r.Sides) (.l 23 eHelloSide (F115 w1 at').Sides))/\(Imp (.l 14 eHelloWord r.Radio) (.l 14 eHelloWord (F115 w1 at').Radio))/\True:=by cases hF; exact ⟨Imp.refl _,Imp.refl _,trivial⟩
def S115 (w1:Ub) (at':Int):Spec:=⟨[.ot (eHelloWorld w1),.r (.c (.v (vI at')))],.ag [.ow (.l 23 eHelloSide (F115 w1 at').Sides),.ow (.l 14 eHelloWord (F115 w1 at').Radio)],F106 w1=true/\w1.Sides.length=2/\(∀ k:Nat,EndFit (w1.Sides.getD k default).End)/\w1.Radio.length<=12/\0<=at'/\at'<(w1.Radio.length:Int)⟩
abbrev q115_1 (w1:Ub) (at':Int):=(([]:List HelloWord)++(w1.Radio.take at'.toNat))
abbrev q115_2 (w1:Ub) (at':Int):=(w1.Radio.getD at'.toNat default)
abbrev q115_3 (w1:Ub) (at':Int):=((q115_1 w1 at')++(w1.Radio.drop (at'+1).toNat))
abbrev q115_4 (xs:List Uc) (k:Int) (w1:Ub) (at':Int):=(⟨(xs.getD k.toNat default).Up,(F119 (xs.getD k.toNat default).End (q115_2 w1 at'))⟩:Uc)
theorem ok115 (w1:Ub) (at':Int):(S115 w1 at').ok Tryz.prog 115 :=
 fnG_ok mixed (fn:=Tryz.f115) (ct:=.seq .no (.seq .no (.seq (.reg [(0,.dat (.l 14 eHelloWord ([]:List HelloWord))),(5,.dat (.l 14 eHelloWord (q115_1 w1 at'))),(9,.bnd),(11,.dat (.l 14 eHelloWord (q115_3 w1 at')))]) (.seq (.seqk [(2,0),(2,1)] .no (.blk (.loop (ι:=Nat×(Int×List Uc)) (fun i=>(fun (k:Int) (xs:List Uc)=>(⟨[(2,some (.p 0 0)),(4,some (.p 3 0)),(5,some (.p 4 0)),(6,some (.v (vI k)))],[(0,some (.box 97 [.h 1 0,.h 2 0])),(1,some (.own 1 (.l 23 eHelloSide xs))),(2,some (.own 2 (.l 14 eHelloWord (q115_3 w1 at')))),(3,some (.box 97 [.v (.slice none 0 0),.v (.slice none 0 0)])),(4,some (.box 39 [.v (vI (q115_2 w1 at').From),.v (vI (q115_2 w1 at').To),.v (vI (q115_2 w1 at').Key),.v (vI (q115_2 w1 at').Boot),.v (vI (q115_2 w1 at').Yours),.v (vI (q115_2 w1 at').Turn),.v (vI (q115_2 w1 at').Num),.v (vI (q115_2 w1 at').Heard),.v (vI (q115_2 w1 at').Change.Kind),.v (vI (q115_2 w1 at').Change.Entry.Addr),.v (vI (q115_2 w1 at').Change.Entry.Len),.v (vI (q115_2 w1 at').Change.Entry.Cost),.v (vI (q115_2 w1 at').Change.Entry.Label),.v (vI (q115_2 w1 at').Sum)]))],5⟩:St)) i.2.1 i.2.2) (lJ115_0 w1 at') (fun i=>i.1) (lN115_0 w1) (fun i=>(fun (k:Int) (xs:List Uc)=>(.seq (.seq .no (.cond .no .no)) (.seq (.blk (.seq .no (.cond (.reg [(10,kh119 (xs.getD k.toNat default).End (q115_2 w1 at')),(13,.dat (.l 23 eHelloSide (xs.set (k).toNat (q115_4 xs k w1 at'))))]) .no))) (.reg [(1,.bnd)])))) i.2.1 i.2.2)))) (.seq .no .no))))) Tryz.func115 (fun (hp:F106 w1=true/\w1.Sides.length=2/\(∀ k:Nat,EndFit (w1.Sides.getD k default).End)/\w1.Radio.length<=12/\0<=at'/\at'<(w1.Radio.length:Int))=>have hpre0:=hp.1; have hpre1:=hp.2.1; have hpre2:=hp.2.2.1; have hpre3:=hp.2.2.2.1; have hpre4:=hp.2.2.2.2.1; have hpre5:=hp.2.2.2.2.2; ai (uu1:ib at' w1.Radio) (ai (bokr 14 eHelloWord ([]:List HelloWord) fun _=>rfl) (ai (uu1:0<=(0:Int)/\(0:Int)<=at'/\at'<=(w1.Radio.length:Int)) (ai (AppL.mk eHelloWord ([]:List HelloWord) (w1.Radio.take at'.toNat) (Imp.refl (.l 14 eHelloWord ([]:List HelloWord))) ir (fun y=>⟨rfl,fun e he=>by simp only [eHelloWord,Ql,Rh,Sr] at he; rcases he with rfl | rfl | rfl | rfl | rfl | rfl | rfl | rfl | rfl | rfl | rfl | rfl | rfl | rfl <;> exact ⟨_,rfl⟩⟩):AppL (.l 14 eHelloWord ([]:List HelloWord)) (.l 14 eHelloWord (w1.Radio.take at'.toNat)) 14 (.l 14 eHelloWord (q115_1 w1 at'))) (ai (uu6:(q115_1 w1 at').length*112<=140737488355328) (ai (iok (at'+1) uu1) (ai (uu1:0<=(at'+1)/\(at'+1)<=(w1.Radio.length:Int)/\(w1.Radio.length:Int)<=(w1.Radio.length:Int)) (ai (AppL.mk eHelloWord (q115_1 w1 at') (w1.Radio.drop (at'+1).toNat) (Imp.refl (.l 14 eHelloWord (q115_1 w1 at'))) ir (fun y=>⟨rfl,fun e he=>by simp only [eHelloWord,Ql,Rh,Sr] at he; rcases he with rfl | rfl | rfl | rfl | rfl | rfl | rfl | rfl | rfl | rfl | rfl | rfl | rfl | rfl <;> exact ⟨_,rfl⟩⟩):AppL (.l 14 eHelloWord (q115_1 w1 at')) (.l 14 eHelloWord (w1.Radio.drop (at'+1).toNat)) 14 (.l 14 eHelloWord (q115_3 w1 at'))) (ai (uu6:(q115_3 w1 at').length*112<=140737488355328) (kn w1.Sides fun _=>kn (q115_3 w1 at') fun _=>ai (en115_0 w1 at' uu23) (fun (i0:Nat×(Int×List Uc)) (hi0:lJ115_0 w1 at' i0)=>(fun (m0:Nat) (k:Int) (xs:List Uc) (hh0:lH115_0 w1 at' i0 m0 k xs)=>have hI0:=hh0.1; have hl0:=hh0.2.1; have _:=hh0.2.2.1; have _:=hh0.2.2.2; ifd (k<2) (fun h2 _=>ai (uu1:ib k xs) (ai (fun k3:(xs.getD k.toNat default).Up=true=>(uu1:ib k xs)) (ifb (bif (xs.getD k.toNat default).Up then ((xs.getD k.toNat default).End.Name==(q115_2 w1 at').To) else false) (fun h4=>have _:=(andT1 h4); have _:=eq_of_beq (andT2 h4); ai (uu1:ib k xs) (kc119 (xs.getD k.toNat default).End (q115_2 w1 at') (ai (uu1:ib k xs) (ai (setr 23 eHelloSide xs (k).toNat (q115_4 xs k w1 at')) (ai (iok (k+1) uu1) (bk115_0 w1 at' i0 m0 (k+1) (xs.set (k).toNat (q115_4 xs k w1 at')) hl0 (runL_next hI0 (condT h2 (condT h4 rfl))) uu18)))))) (fun h4=>ai (iok (k+1) uu1) (bk115_0 w1 at' i0 m0 (k+1) xs hl0 (runL_next hI0 (condT h2 (condF h4 rfl))) uu18))))) (fun h2 _=>have hD0_5:lX115_0 w1 at'=Lp.done (k,xs):=runL_done hI0 (condF h2 rfl); fi115 w1 at' (⟨xs,(q115_3 w1 at')⟩:Ub) (finD hD0_5 rfl))) (i0.1-1) i0.2.1 i0.2.2 (un115_0 w1 at' i0 hi0)))))))))))) uu3
theorem kc120 (w1:Ub) (x9:HelloWord) {K_:Prop} (p0_:w1.Radio.length<=12) (k_:K_):(w1.Radio.length<=12)/\(Imps (eHelloWorld w1) (eHelloWorld w1))/\(Imps (eHelloWord x9) (eHelloWord x9))/\K_:=⟨p0_,Imps.refl _,Imps.refl _,k_⟩
abbrev kh120 (w1:Ub) (x9:HelloWord):Hint true Tryz.prog:=.call 120 (S120 w1 x9) (ok120 w1 x9) none
def F118 (w1:Ub) (x9:HelloWord):Ub :=
 bif (bif (bif (!(F114 x9)) then true else (F124 (w1.Sides.getD (Int.toNat 0) default).End.Keys x9)) then true else (F124 (w1.Sides.getD (Int.toNat 1) default).End.Keys x9)) then w1 else (F120 w1 x9)
theorem fi118 (w1:Ub) (x9:HelloWord) (r:Ub) (hF:r=(F118 w1 x9)):(Imp (.l 23 eHelloSide r.Sides) (.l 23 eHelloSide (F118 w1 x9).Sides))/\(Imp (.l 14 eHelloWord r.Radio) (.l 14 eHelloWord (F118 w1 x9).Radio))/\True:=by cases hF; exact ⟨Imp.refl _,Imp.refl _,trivial⟩
def S118 (w1:Ub) (x9:HelloWord):Spec:=⟨[.ot (eHelloWorld w1),.r (.g (eHelloWord x9))],.ag [.ow (.l 23 eHelloSide (F118 w1 x9).Sides),.ow (.l 14 eHelloWord (F118 w1 x9).Radio)],w1.Sides.length=2/\w1.Radio.length<=12⟩
theorem ok118 (w1:Ub) (x9:HelloWord):(S118 w1 x9).ok Tryz.prog 118 :=
 fnG_ok mixed (fn:=Tryz.f118) (ct:=.seq .no (.seq (.seq (.reg [(1,kh114 x9),(11,kh124 (w1.Sides.getD (Int.toNat 0) default).End.Keys x9),(21,kh124 (w1.Sides.getD (Int.toNat 1) default).End.Keys x9)]) (.cond (.seq .no .no) .no)) (.seq (.reg [(2,kh120 w1 x9)]) .no))) Tryz.func118 (fun (hp:w1.Sides.length=2/\w1.Radio.length<=12)=>have hpre0:=hp.1; have hpre1:=hp.2; kc114 x9 (ai (fun k1:(!(F114 x9))=false=>(uu0:ib 0 w1.Sides)) (kg124 (!(F114 x9)) false (w1.Sides.getD (Int.toNat 0) default).End.Keys x9 (ai (fun k3:(bif (!(F114 x9)) then true else (F124 (w1.Sides.getD (Int.toNat 0) default).End.Keys x9))=false=>(uu0:ib 1 w1.Sides)) (kg124 (bif (!(F114 x9)) then true else (F124 (w1.Sides.getD (Int.toNat 0) default).End.Keys x9)) false (w1.Sides.getD (Int.toNat 1) default).End.Keys x9 (ifb (bif (bif (!(F114 x9)) then true else (F124 (w1.Sides.getD (Int.toNat 0) default).End.Keys x9)) then true else (F124 (w1.Sides.getD (Int.toNat 1) default).End.Keys x9)) (fun h5=>fi118 w1 x9 w1 (condT h5 rfl)) (fun h5=>kc120 w1 x9 uu10 (fi118 w1 x9 (F120 w1 x9) (condF h5 rfl))))))))) uu3
def F107_s0 (w1:Ub):(Int×List Uc)->Lp (Int×List Uc) Ub:=fun (i40,out) =>
 bif (decide (i40<(w1.Sides.length:Int))) then (.next ((i40+1),(out++[(w1.Sides.getD i40.toNat default)]))) else (.done (i40,out))
def F107 (w1:Ub):Ub :=
 (runL (F107_s0 w1) (((w1.Sides.length:Int)-0).toNat+1) (0,([]:List Uc))).fin (fun r=>r) (fun (i40,out)=>(⟨out,(([]:List HelloWord)++w1.Radio)⟩:Ub))
abbrev lN107_0 (w1:Ub):Nat×(Int×List Uc):=((((w1.Sides.length:Int)-0).toNat+1),(0,([]:List Uc)))
abbrev lI107_0 (w1:Ub) (m39:Nat) (i40:Int) (out:List Uc):Prop:=Int.toNat ((w1.Sides.length:Int)-i40)<m39/\(out.length:Int)<=i40/\(0:Int)<=i40
abbrev lX107_0 (w1:Ub):Lp (Int×List Uc) Ub:=LpX (F107_s0 w1) (lN107_0 w1)
abbrev lJ107_0 (w1:Ub) (i:Nat×(Int×List Uc)):Prop:=LpJ (F107_s0 w1) (lN107_0 w1) i (lI107_0 w1 i.1 i.2.1 i.2.2)
abbrev lH107_0 (w1:Ub) (i:Nat×(Int×List Uc)) (m39:Nat) (i40:Int) (out:List Uc):Prop:=LpH (F107_s0 w1) (lN107_0 w1) i m39 (i40,out) (lI107_0 w1 (m39+1) i40 out)
abbrev lE107_0 (w1:Ub) (i40:Int) (out:List Uc) (i40_:Int) (out_:List Uc) (K39:Prop):Prop:=((.int .i64 i40:Value)=.int .i64 i40_)/\(Im (.l 23 eHelloSide w1.Sides))/\(Im (.l 14 eHelloWord w1.Radio))/\(Rf (.slice none 0 0))/\(Rf (.slice none 0 0))/\(Imp (.l 23 eHelloSide out) (.l 23 eHelloSide out_))/\(Im (.l 14 eHelloWord (([]:List HelloWord)++w1.Radio)))/\K39
theorem un107_0 (w1:Ub) (i:Nat×(Int×List Uc)) (h:lJ107_0 w1 i):lH107_0 w1 i (i.1-1) i.2.1 i.2.2:=⟨hd1 h.1 h.2.1,hd3 h.2.1,hd2 h.2.1,h.2.2⟩
theorem bk107_0 (w1:Ub) (i:Nat×(Int×List Uc)) (m39:Nat) (i40:Int) (out:List Uc) (hl:m39<i.1) (e:runL (F107_s0 w1) m39 (i40,out)=lX107_0 w1) (h:lI107_0 w1 m39 i40 out):∃ j:Nat×(Int×List Uc),lE107_0 w1 i40 out j.2.1 j.2.2 (lJ107_0 w1 j/\j.1<i.1):=⟨(m39,(i40,out)),rfl,Imp.refl _,Imp.refl _,rfl,rfl,Imp.refl _,Imp.refl _,⟨e,h⟩,hl⟩
theorem en107_0 (w1:Ub) (h:(([]:List Uc).length:Int)<=0/\(0:Int)<=0):lE107_0 w1 0 ([]:List Uc) 0 ([]:List Uc) (lJ107_0 w1 (lN107_0 w1)):=⟨rfl,Imp.refl _,Imp.refl _,rfl,rfl,Imp.refl _,Imp.refl _,rfl,Qq _,h⟩
theorem fi107 (w1:Ub) (r:Ub) (hF:r=(F107 w1)):(Imp (.l 23 eHelloSide r.Sides) (.l 23 eHelloSide (F107 w1).Sides))/\(Imp (.l 14 eHelloWord r.Radio) (.l 14 eHelloWord (F107 w1).Radio))/\True:=by cases hF; exact ⟨Imp.refl _,Imp.refl _,trivial⟩
def S107 (w1:Ub):Spec:=⟨[.r (.g (eHelloWorld w1))],.ag [.ow (.l 23 eHelloSide (F107 w1).Sides),.ow (.l 14 eHelloWord (F107 w1).Radio)],w1.Sides.length=2/\(∀ k:Nat,EndFit (w1.Sides.getD k default).End)/\w1.Radio.length<=12⟩
theorem ok107 (w1:Ub):(S107 w1).ok Tryz.prog 107 :=
 fnG_ok mixed (fn:=Tryz.f107) (ct:=.seq .no (.seq (.reg [(0,.dat (.l 23 eHelloSide ([]:List Uc))),(1,.dat (.l 14 eHelloWord ([]:List HelloWord))),(4,.dat (.l 14 eHelloWord (([]:List HelloWord)++w1.Radio)))]) (.seq (.seqk [(1,0),(1,1),(3,0),(3,1)] .no (.blk (.loop (ι:=Nat×(Int×List Uc)) (fun i=>(fun (i40:Int) (out:List Uc)=>(⟨[(1,some (.p 0 0)),(2,some (.p 3 0)),(3,some (.p 4 0)),(4,some (.v (vI i40)))],[(0,some (.box 97 [.h 1 0,.h 2 0])),(1,some (.shr none (.l 23 eHelloSide w1.Sides))),(2,some (.shr none (.l 14 eHelloWord w1.Radio))),(3,some (.box 97 [.v (.slice none 0 0),.v (.slice none 0 0)])),(4,some (.box 97 [.h 5 0,.h 6 0])),(5,some (.own 5 (.l 23 eHelloSide out))),(6,some (.own 6 (.l 14 eHelloWord (([]:List HelloWord)++w1.Radio))))],7⟩:St)) i.2.1 i.2.2) (lJ107_0 w1) (fun i=>i.1) (lN107_0 w1) (fun i=>(fun (i40:Int) (out:List Uc)=>(.seq (.seq .no (.cond .no .no)) (.seq (.blk (.reg [(14,kh36a (w1.Sides.getD i40.toNat default).End),(17,.dat (.l 23 eHelloSide (out++[(w1.Sides.getD i40.toNat default)])))])) (.reg [(1,.bnd)])))) i.2.1 i.2.2)))) (.seq .no .no)))) Tryz.func107 (fun (hp:w1.Sides.length=2/\(∀ k:Nat,EndFit (w1.Sides.getD k default).End)/\w1.Radio.length<=12)=>have hpre0:=hp.1; have hpre1:=hp.2.1; have hpre2:=hp.2.2; ai (bokr 23 eHelloSide ([]:List Uc) fun _=>rfl) (ai (bokr 14 eHelloWord ([]:List HelloWord) fun _=>rfl) (ai (AppL.mk eHelloWord ([]:List HelloWord) w1.Radio (Imp.refl (.l 14 eHelloWord ([]:List HelloWord))) ir (fun y=>⟨rfl,fun e he=>by simp only [eHelloWord,Ql,Rh,Sr] at he; rcases he with rfl | rfl | rfl | rfl | rfl | rfl | rfl | rfl | rfl | rfl | rfl | rfl | rfl | rfl <;> exact ⟨_,rfl⟩⟩):AppL (.l 14 eHelloWord ([]:List HelloWord)) (.l 14 eHelloWord w1.Radio) 14 (.l 14 eHelloWord (([]:List HelloWord)++w1.Radio))) (ai (uu6:(([]:List HelloWord)++w1.Radio).length*112<=140737488355328) (kn w1.Sides fun _=>kn w1.Radio fun _=>kn ([]:List Uc) fun _=>kn (([]:List HelloWord)++w1.Radio) fun _=>ai (en107_0 w1 uu23) (fun (i0:Nat×(Int×List Uc)) (hi0:lJ107_0 w1 i0)=>(fun (m0:Nat) (i40:Int) (out:List Uc) (hh0:lH107_0 w1 i0 m0 i40 out)=>have hI0:=hh0.1; have hl0:=hh0.2.1; have _:=hh0.2.2.1; have _:=hh0.2.2.2; ifd (i40<(w1.Sides.length:Int)) (fun h2 _=>ai (uu1:ib i40 w1.Sides) (ai (uu1:ib i40 w1.Sides) (kc36a (w1.Sides.getD i40.toNat default).End (by first | (first | assumption | (have hq:=(by assumption:smallE e1); unfold smallE at hq ⊢; exact ⟨hq.1,hq.2.1,Rm _,Rm _⟩) | exact EndFit.small (by assumption) | exact EndFit.small (EndFit.side (by assumption) _) | (unfold smallE; omega) | (unfold smallE; dsimp only; omega) | (unfold smallE at *; dsimp only; omega) | (unfold smallE; refine ⟨?_,?_,?_,?_⟩ <;> first | assumption | omega | exact Rm _)) | omega | exact hpre1 _ | (intros; exact trivial) | (intros; exact Rm _)) (ai (appr 23 eHelloSide out [(w1.Sides.getD i40.toNat default)] fun _=>rfl) (ai (uu6:(out++[(w1.Sides.getD i40.toNat default)]).length*248<=140737488355328) (ai (iok (i40+1) uu1) (bk107_0 w1 i0 m0 (i40+1) (out++[(w1.Sides.getD i40.toNat default)]) hl0 (runL_next hI0 (condT h2 rfl)) uu18))))))) (fun h2 _=>have hD0_3:lX107_0 w1=Lp.done (i40,out):=runL_done hI0 (condF h2 rfl); fi107 w1 (⟨out,(([]:List HelloWord)++w1.Radio)⟩:Ub) (finD hD0_3 rfl))) (i0.1-1) i0.2.1 i0.2.2 (un107_0 w1 i0 hi0))))))) uu3
structure Rst (e:Ud):Prop where
 turn:e.Turn=0
 pb:e.PeerBoot=0
 up:e.Up=false
 num:e.Num=0
 un:e.Under.Kind=0
 told:e.Told.length=0
 all:e.All=false
 got:e.Got=0
 full:e.Full=false
 heard:e.Heard.length=0
structure SdOk (s:Uc):Prop where
 en:EOk s.End
 rs:s.Up=true\/Rst s.End
theorem sideOk_iff (s:Uc):F113 s=true↔SdOk s:=by
 unfold F113
 simp only [Rl,Bool.cond_false_left,Rd,Qh,Sc,Bool.not_not,Ti,Ts,endOk_iff]
 constructor
 ·rintro ⟨h,hr⟩
  refine ⟨h,hr.imp id ?_⟩
  rintro ⟨⟨⟨⟨⟨⟨⟨⟨⟨a1,a2⟩,a3⟩,a4⟩,a5⟩,a6⟩,a7⟩,a8⟩,a9⟩,a10⟩
  exact ⟨a1,a2,a3,a4,a5,by omega,a7,a8,a9,by omega⟩
 ·rintro ⟨h,hr⟩
  refine ⟨h,hr.imp id ?_⟩
  rintro ⟨a1,a2,a3,a4,a5,a6,a7,a8,a9,a10⟩
  exact ⟨⟨⟨⟨⟨⟨⟨⟨⟨a1,a2⟩,a3⟩,a4⟩,a5⟩,by omega⟩,a7⟩,a8⟩,a9⟩,by omega⟩
structure WldOk (w:Ub):Prop where
 two:w.Sides.length=2
 s0:SdOk (w.Sides.getD 0 default)
 s1:SdOk (w.Sides.getD 1 default)
 n0:(w.Sides.getD 0 default).End.Name=(w.Sides.getD 1 default).End.Peer
 n1:(w.Sides.getD 1 default).End.Name=(w.Sides.getD 0 default).End.Peer
 rad:w.Radio.length<=12
 wd:∀ x,x∈w.Radio->WdOk x
theorem WldOk.side {w:Ub} (h:WldOk w) {k:Nat} (hk:k<2):SdOk (w.Sides.getD k default):=by
 rcases (uu0:k=0\/k=1) with rfl | rfl
 ·exact h.s0
 ·exact h.s1
theorem worldOk_iff (w:Ub):F106 w=true↔WldOk w:=by
 have hz:Int.toNat 0=0:=rfl
 have ho:Int.toNat 1=1:=rfl
 unfold F106
 rw [hz,ho,allB (fun k=>!(F114 (w.Radio.getD k default))) w.Radio.length _ (fun k hk=>by simp only [F106_s0,ltD hk,Qd,nn]) (by simp [F106_s0])]
 simp only [Rl,Bool.cond_false_left,Rd,Qh,Sc,R9,Bool.not_eq_false',sideOk_iff,bne_eq_false_iff_eq,Se,allB_iff,and_true]
 have hw:(∀ k,k<w.Radio.length->F114 (w.Radio.getD k default)=true)↔∀ x,x∈w.Radio->WdOk x:=by
  constructor
  ·intro h x hx
   obtain ⟨k,hk,rfl⟩:=List.getElem_of_mem hx
   have:=h k hk
   rw [getD_lt _ hk,wordOk_iff] at this; exact this
  ·intro h k hk
   rw [wordOk_iff,getD_lt _ hk]; exact h _ (Sv hk)
 simp only [hw]
 constructor
 ·rintro ⟨⟨⟨⟨⟨⟨a,b⟩,c⟩,d⟩,e⟩,f⟩,g⟩
  exact ⟨by omega,b,c,d,e,by omega,g⟩
 ·rintro ⟨a,b,c,d,e,f,g⟩
  exact ⟨⟨⟨⟨⟨⟨by omega,b⟩,c⟩,d⟩,e⟩,by omega⟩,g⟩
theorem worldS_radio (w:Ub) (h:F106 w=true):w.Radio.length<=12:=((worldOk_iff w).1 h).rad
theorem wA {a:List Uc} {b:List HelloWord} (h:F106 ⟨a,b⟩=true):a.length=2:=worldS_two ⟨a,b⟩ h
theorem wB {a:List Uc} {b:List HelloWord} (h:F106 ⟨a,b⟩=true):∀ k:Nat,EndFit (a.getD k default).End:=worldS_fit ⟨a,b⟩ h
theorem wC {a:List Uc} {b:List HelloWord} (h:F106 ⟨a,b⟩=true):b.length<=12:=worldS_radio ⟨a,b⟩ h
theorem getD_set {α:Type} [Inhabited α] {l:List α} {k:Nat} (hk:k<l.length) (x:α) (j:Nat):(l.set k x).getD j default=if k=j then x else l.getD j default:=by
 rw [Qy,Qy,List.getElem?_set]
 by_cases h:k=j
 ·subst h; simp [hk]
 ·simp [h]
theorem wld_set {w:Ub} (h:WldOk w) {k:Nat} (hk:k<2) {s:Uc} (hs:SdOk s) (h1:s.End.Name=(w.Sides.getD k default).End.Name) (h2:s.End.Peer=(w.Sides.getD k default).End.Peer) {r:List HelloWord} (h3:r.length<=12) (h4:∀ x,x∈r->WdOk x):WldOk ⟨w.Sides.set k s,r⟩:=by
 have hl:k<w.Sides.length:=by rw [h.two]; exact hk
 have g0:=getD_set hl s 0
 have g1:=getD_set hl s 1
 rcases (uu0:k=0\/k=1) with rfl | rfl
 ·rw [if_pos rfl] at g0; rw [if_neg uu5] at g1
  refine ⟨by show (w.Sides.set 0 s).length=2; rw [List.length_set]; exact h.two,?_,?_,?_,?_,h3,h4⟩
  ·show SdOk ((w.Sides.set 0 s).getD 0 default); rw [g0]; exact hs
  ·show SdOk ((w.Sides.set 0 s).getD 1 default); rw [g1]; exact h.s1
  ·show ((w.Sides.set 0 s).getD 0 default).End.Name=((w.Sides.set 0 s).getD 1 default).End.Peer; rw [g0,g1,h1]; exact h.n0
  ·show ((w.Sides.set 0 s).getD 1 default).End.Name=((w.Sides.set 0 s).getD 0 default).End.Peer; rw [g0,g1,h2]; exact h.n1
 ·rw [if_neg uu5] at g0; rw [if_pos rfl] at g1
  refine ⟨by show (w.Sides.set 1 s).length=2; rw [List.length_set]; exact h.two,?_,?_,?_,?_,h3,h4⟩
  ·show SdOk ((w.Sides.set 1 s).getD 0 default); rw [g0]; exact h.s0
  ·show SdOk ((w.Sides.set 1 s).getD 1 default); rw [g1]; exact hs
  ·show ((w.Sides.set 1 s).getD 0 default).End.Name=((w.Sides.set 1 s).getD 1 default).End.Peer; rw [g0,g1,h2]; exact h.n0
  ·show ((w.Sides.set 1 s).getD 1 default).End.Name=((w.Sides.set 1 s).getD 0 default).End.Peer; rw [g0,g1,h1]; exact h.n1
theorem wld_radio {w:Ub} (h:WldOk w) {r:List HelloWord} (h3:r.length<=12) (h4:∀ x,x∈r->WdOk x):WldOk ⟨w.Sides,r⟩:=⟨h.two,h.s0,h.s1,h.n0,h.n1,h3,h4⟩
theorem wput_ok {w:Ub} {x:HelloWord} (h:WldOk w) (hx:WdOk x):WldOk (F120 w x):=by
 unfold F120
 by_cases hl:(w.Radio.length:Int)<12
 ·rw [Qs hl,Qd]
  refine wld_radio h (by rw [Qr,List.length_singleton]; omega) fun y hy=>?_
  rcases Qx.1 hy with hy | hy
  ·exact h.wd y hy
  ·rw [Rq.1 hy]; exact hx
 ·rw [Qt hl,Qi]; exact h
theorem kept_nm (e:Ud):(F129 e).Name=e.Name/\(F129 e).Peer=e.Peer:=by rw [kept_N]; exact ⟨rfl,rfl⟩
theorem lis3_nm (e:Ud) (w:HelloWord):(lis3 e w).Name=e.Name/\(lis3 e w).Peer=e.Peer:=by
 unfold lis3
 cases (bif decide (e.Under.Kind>0) then (w.Heard==e.Num) else false)
 ·exact ⟨rfl,rfl⟩
 ·rw [Qd,ann_N]; exact ⟨rfl,rfl⟩
theorem lis4_nm (x:Ud) (w:HelloWord):(lis4 x w).Name=x.Name/\(lis4 x w).Peer=x.Peer:=by
 unfold lis4
 cases (bif decide (w.Change.Kind>0) then (w.Num==(IntKind.i64.wrap (x.Got+1))) else false)
 ·exact ⟨rfl,rfl⟩
 ·rw [Qd]; cases (toldP x.Heard w.Change).2 <;> exact ⟨rfl,rfl⟩
theorem lis1_nm (e:Ud) (w:HelloWord):(lis1 e w).Name=e.Name/\(lis1 e w).Peer=e.Peer:=by
 unfold lis1; cases decide (w.Boot>e.PeerBoot) <;> exact ⟨rfl,rfl⟩
theorem listen_nm (e:Ud) (w:HelloWord):(F125 e w).Name=e.Name/\(F125 e w).Peer=e.Peer:=by
 rw [listen_N]
 have h1:=lis1_nm e w
 cases (w.Yours==(lis1 e w).Boot)
 ·exact h1
 ·rw [Rt,Qi]
  have h2:=kept_nm (lis4 (lis3 (lis2 (lis1 e w) w) w) w)
  have h3:=lis4_nm (lis3 (lis2 (lis1 e w) w) w) w
  have h4:=lis3_nm (lis2 (lis1 e w) w) w
  exact ⟨h2.1.trans (h3.1.trans (h4.1.trans h1.1)),h2.2.trans (h3.2.trans (h4.2.trans h1.2))⟩
theorem hear_ok {e:Ud} (w:HelloWord) (h:EOk e):EOk (F119 e w)/\(F119 e w).Name=e.Name/\(F119 e w).Peer=e.Peer:=by
 unfold F119
 rw [(endOk_iff e).2 h,Rt,Qi]
 cases h1:(bif (bif (bif (e.Boot==1000) then true else (!(F124 e.Keys w))) then true else (w.From != e.Peer)) then true else (w.To != e.Name)) with
 | true=>exact ⟨h,rfl,rfl⟩
 | false =>
  rw [Qi]
  simp only [Rl,R9,Bool.not_eq_false'] at h1
  have hw:=(right_word h1.1.1.2).fit
  generalize (bif decide (w.Boot<e.PeerBoot) then true else (bif (w.Boot==e.PeerBoot) then decide (w.Turn<=e.PeerTurn) else false))=c
  cases c with
  | true=>exact ⟨h,rfl,rfl⟩
  | false=>exact ⟨eok_listen h hw,listen_nm e w⟩
theorem tick_nm {e:Ud} (h:EOk e):(F121 e).Name=e.Name/\(F121 e).Peer=e.Peer:=by
 rw [tick_N ((endOk_iff e).2 h)]
 cases decide (e.Left>0) with
 | false=>exact ⟨rfl,rfl⟩
 | true =>
  rw [Qd]
  cases (e.Left-1==0) with
  | false=>exact ⟨rfl,rfl⟩
  | true=>rw [Qd,life_N (tickX e (e.Left-1)) h.boot]; exact ⟨rfl,rfl⟩
theorem down_ok {e:Ud} (h:EOk e):EOk (F122 e)/\Rst (F122 e):=by
 have z:(0:Int)<=0/\(0:Int)<=1000000:=by decide
 refine ⟨⟨h.nm,h.pr,h.ne,h.keys,h.boot,h.want,z,⟨Int.le_refl 0,by show (0:Int)<=999; decide⟩,z,Iff.rfl,⟨Int.le_refl 0,by show (0:Int)<=4; decide⟩,fun hx=>?_,fun hx=>?_,⟨Int.le_refl 0,Int.le_refl 0⟩,z,change0,fun hx=>?_,table_nil,by show F30 (F32 [] ⟨0,⟨0,0,0,0⟩⟩)=true; rw [apply_zero]; exact table_nil,(heard_iff _).2 ⟨Rm _,⟨Int.le_refl 0,by show (0:Int)<=6; decide⟩,ord_nil,fun _ r hr=>?_,rfl⟩⟩,rfl,rfl,rfl,rfl,rfl,rfl,rfl,rfl,rfl,rfl⟩
 ·have:(0:Int)>0:=hx
  omega
 ·cases hx
 ·have:(0:Int)>0:=hx
  omega
 ·cases hr
theorem eok_want {e:Ud} (h:EOk e) {t:List Ue} (ht:F30 t=true):EOk ⟨e.Name,e.Peer,e.Keys,e.Boot,t,e.Turn,e.PeerBoot,e.PeerTurn,e.Up,e.Left,e.Num,e.Under,e.Told,e.All,e.Got,e.Full,e.Heard,e.Keep⟩ :=
 ⟨h.nm,h.pr,h.ne,h.keys,h.boot,ht,h.turn,h.pb,h.pt,h.pp,h.left,h.lp,h.up,h.num,h.got,h.und,h.un,h.told,h.app,h.hd⟩
theorem eok_keys {e:Ud} (h:EOk e) {t:List HelloKey} (ht:F29 t=true):EOk ⟨e.Name,e.Peer,t,e.Boot,e.Want,e.Turn,e.PeerBoot,e.PeerTurn,e.Up,e.Left,e.Num,e.Under,e.Told,e.All,e.Got,e.Full,e.Heard,e.Keep⟩ :=
 ⟨h.nm,h.pr,h.ne,ht,h.boot,h.want,h.turn,h.pb,h.pt,h.pp,h.left,h.lp,h.up,h.num,h.got,h.und,h.un,h.told,h.app,h.hd⟩
theorem read_sub (w:Ub):(F123 w).Sublist w.Radio:=by
 have h:F123 w=w.Radio.filter (fun x=>bif (F124 ((w.Sides.getD (Int.toNat 0) default).End).Keys x) then true else (F124 ((w.Sides.getD (Int.toNat 1) default).End).Keys x)):=by
  unfold F123
  have h:=runL_rule (step:=F123_s0 w) (fun (k:Nat) (s:List HelloWord)=>(s,(k:Int))) w.Radio.length (fun k s=>s=(w.Radio.take k).filter (fun x=>bif (F124 ((w.Sides.getD (Int.toNat 0) default).End).Keys x) then true else (F124 ((w.Sides.getD (Int.toNat 1) default).End).Keys x))) (fun _=>False)
   (fun k s hk hI=>.inl ⟨bif (bif (F124 ((w.Sides.getD (Int.toNat 0) default).End).Keys (w.Radio.getD k default)) then true else (F124 ((w.Sides.getD (Int.toNat 1) default).End).Keys (w.Radio.getD k default))) then s++[w.Radio.getD k default] else s,by
    simp only [F123_s0,ltD hk,Qd,nn]
    cases (bif (F124 ((w.Sides.getD (Int.toNat 0) default).End).Keys (w.Radio.getD k default)) then true else (F124 ((w.Sides.getD (Int.toNat 1) default).End).Keys (w.Radio.getD k default))) <;> rfl,by
    rw [hI,filter_take_next _ w.Radio hk]
    cases (bif (F124 ((w.Sides.getD (Int.toNat 0) default).End).Keys (w.Radio.getD k default)) then true else (F124 ((w.Sides.getD (Int.toNat 1) default).End).Keys (w.Radio.getD k default))) <;> simp⟩)
   (fun s _=>by simp [F123_s0]) w.Radio.length 0 [] uu0 rfl (Int.toNat ((w.Radio.length:Int)-0)+1) uu0
  rcases h with ⟨s,h,hI⟩ | ⟨_,_,h⟩
  ·have h':runL (F123_s0 w) (Int.toNat ((w.Radio.length:Int)-0)+1) ([],0)=_:=h
   rw [h',hI,List.take_length]; rfl
  ·exact h.elim
 rw [h]; exact List.filter_sublist
theorem side_ok {w:Ub} (e:HelloEvent) (h:WldOk w):WldOk (F116 w e):=by
 unfold F116
 by_cases ha:0<=e.At/\e.At<=1
 ·rw [Qs ha,Rt,Qi]
  have hk:Int.toNat e.At<2:=by omega
  have hs:=h.side hk
  generalize Int.toNat e.At=k at hk hs ⊢
  cases (e.Kind==1) with
  | true =>
   rw [Qd]
   cases hu:(w.Sides.getD k default).Up with
   | false=>exact h
   | true =>
    obtain ⟨s1,s2,s3,s4⟩:=say_ok hs.en
    have hw:WldOk ⟨w.Sides.set k ⟨true,(F14 (w.Sides.getD k default).End).1⟩,w.Radio⟩:=wld_set h hk ⟨s1,.inl rfl⟩ s2 s3 h.rad h.wd
    rw [Qd]
    cases ho:(F14 (w.Sides.getD k default).End).2.2 with
    | false=>exact hw
    | true=>exact wput_ok hw (s4 ho)
  | false =>
  rw [Qi]
  cases (e.Kind==5) with
  | true =>
   rw [Qd]
   cases hu:(w.Sides.getD k default).Up with
   | false=>exact h
   | true=>exact wld_set (s:=⟨true,F121 (w.Sides.getD k default).End⟩) h hk ⟨eok_tick hs.en,.inl rfl⟩ (tick_nm hs.en).1 (tick_nm hs.en).2 h.rad h.wd
  | false =>
  rw [Qi]
  cases (e.Kind==6) with
  | true=>exact wld_set (s:=⟨false,F122 (w.Sides.getD k default).End⟩) h hk ⟨(down_ok hs.en).1,.inr (down_ok hs.en).2⟩ rfl rfl h.rad h.wd
  | false =>
  rw [Qi]
  cases (e.Kind==7) with
  | true =>
   rw [Qd]
   cases hu:(w.Sides.getD k default).Up with
   | true=>exact h
   | false =>
    have hl:=life_N (w.Sides.getD k default).End hs.en.boot
    exact wld_set (s:=⟨true,F37 (w.Sides.getD k default).End⟩) h hk ⟨eok_life hs.en.eb,.inl rfl⟩ (by show (F37 _).Name=_; rw [hl]; rfl) (by show (F37 _).Peer=_; rw [hl]; rfl) h.rad h.wd
  | false =>
  rw [Qi]
  cases (e.Kind==8) with
  | true =>
   rw [Qd]
   cases ht:F30 e.Want with
   | false=>exact h
   | true=>exact wld_set (s:=⟨(w.Sides.getD k default).Up,⟨(w.Sides.getD k default).End.Name,(w.Sides.getD k default).End.Peer,(w.Sides.getD k default).End.Keys,(w.Sides.getD k default).End.Boot,e.Want,(w.Sides.getD k default).End.Turn,(w.Sides.getD k default).End.PeerBoot,(w.Sides.getD k default).End.PeerTurn,(w.Sides.getD k default).End.Up,(w.Sides.getD k default).End.Left,(w.Sides.getD k default).End.Num,(w.Sides.getD k default).End.Under,(w.Sides.getD k default).End.Told,(w.Sides.getD k default).End.All,(w.Sides.getD k default).End.Got,(w.Sides.getD k default).End.Full,(w.Sides.getD k default).End.Heard,(w.Sides.getD k default).End.Keep⟩⟩) h hk ⟨eok_want hs.en ht,hs.rs.imp id fun r=>⟨r.turn,r.pb,r.up,r.num,r.un,r.told,r.all,r.got,r.full,r.heard⟩⟩ rfl rfl h.rad h.wd
  | false =>
  rw [Qi]
  cases (e.Kind==9) with
  | true =>
   rw [Qd]
   cases ht:F29 e.Keys with
   | false=>exact h
   | true=>exact wld_set (s:=⟨(w.Sides.getD k default).Up,⟨(w.Sides.getD k default).End.Name,(w.Sides.getD k default).End.Peer,e.Keys,(w.Sides.getD k default).End.Boot,(w.Sides.getD k default).End.Want,(w.Sides.getD k default).End.Turn,(w.Sides.getD k default).End.PeerBoot,(w.Sides.getD k default).End.PeerTurn,(w.Sides.getD k default).End.Up,(w.Sides.getD k default).End.Left,(w.Sides.getD k default).End.Num,(w.Sides.getD k default).End.Under,(w.Sides.getD k default).End.Told,(w.Sides.getD k default).End.All,(w.Sides.getD k default).End.Got,(w.Sides.getD k default).End.Full,(w.Sides.getD k default).End.Heard,(w.Sides.getD k default).End.Keep⟩⟩) h hk ⟨eok_keys hs.en ht,hs.rs.imp id fun r=>⟨r.turn,r.pb,r.up,r.num,r.un,r.told,r.all,r.got,r.full,r.heard⟩⟩ rfl rfl (Qu (read_sub w).length_le h.rad) fun x hx=>h.wd x ((read_sub w).subset hx)
  | false=>exact h
 ·rw [Qt ha]; exact h
def bringU (x:HelloWord) (k:Nat) (xs:List Uc):List Uc :=
 bif (bif (xs.getD k default).Up then ((xs.getD k default).End.Name==x.To) else false) then xs.set k ⟨(xs.getD k default).Up,F119 (xs.getD k default).End x⟩ else xs
theorem bring_N (w:Ub) (a:Int):F115 w a=⟨bringU (w.Radio.getD a.toNat default) 1 (bringU (w.Radio.getD a.toNat default) 0 w.Sides),w.Radio.take a.toNat++w.Radio.drop (a+1).toNat⟩:=by
 unfold F115
 have st:∀ (k:Nat) (xs:List Uc),k<2->F115_s0 w a ((k:Int),xs)=.next ((k:Int)+1,bringU (w.Radio.getD a.toNat default) k xs):=fun k xs hk=>by
  have hd:decide ((k:Int)<2)=true:=Qs uu0
  simp only [F115_s0,hd,Qd,nn]
  unfold bringU
  cases (bif (xs.getD k default).Up then ((xs.getD k default).End.Name==(w.Radio.getD a.toNat default).To) else false) <;> rfl
 have e0:F115_s0 w a (0,w.Sides)=.next (1,bringU (w.Radio.getD a.toNat default) 0 w.Sides):=st 0 _ uu5
 have e1:∀ xs,F115_s0 w a (1,xs)=.next (2,bringU (w.Radio.getD a.toNat default) 1 xs):=fun xs=>st 1 xs uu5
 have e2:∀ xs,F115_s0 w a (2,xs)=.done (2,xs):=fun xs=>rfl
 have hn:Int.toNat (2-0)+1=3:=rfl
 rw [hn]
 simp only [runL,e0,e1,e2,Lp.fin,Ta]
theorem bringU_ok {w:Ub} (x:HelloWord) {k:Nat} (hk:k<2) (h:WldOk w):WldOk ⟨bringU x k w.Sides,w.Radio⟩:=by
 unfold bringU
 have hs:=h.side hk
 cases hc:(bif (w.Sides.getD k default).Up then ((w.Sides.getD k default).End.Name==x.To) else false) with
 | false=>exact wld_radio h h.rad h.wd
 | true =>
  have hu:(w.Sides.getD k default).Up=true:=by
   cases hu:(w.Sides.getD k default).Up with
   | true=>rfl
   | false=>rw [hu] at hc; cases hc
  obtain ⟨h1,h2,h3⟩:=hear_ok x hs.en
  exact wld_set (s:=⟨(w.Sides.getD k default).Up,F119 (w.Sides.getD k default).End x⟩) h hk ⟨h1,.inl hu⟩ h2 h3 h.rad h.wd
theorem bring_ok' {w:Ub} {a:Int} (h:WldOk w) (h0:0<=a):WldOk (F115 w a):=by
 rw [bring_N]
 have h1:=bringU_ok (w.Radio.getD a.toNat default) (uu5:1<2) (bringU_ok (w.Radio.getD a.toNat default) (uu5:0<2) h)
 have hs:(w.Radio.take a.toNat++w.Radio.drop (a+1).toNat).Sublist w.Radio:=by
  rw [show Int.toNat (a+1)=Int.toNat a+1 by omega]; exact without_sub _ _
 exact wld_radio h1 (Qu hs.length_le h.rad) fun x hx=>h.wd x (hs.subset hx)
theorem bring_ok (w:Ub) (a:Int) (h:F106 w=true) (h0:0<=a):F106 (F115 w a)=true:=(worldOk_iff _).2 (bring_ok' ((worldOk_iff _).1 h) h0)
theorem bring_len (w:Ub) (a:Int) (h0:0<=a) (h1:a<(w.Radio.length:Int)):(F115 w a).Radio.length+1=w.Radio.length:=by
 rw [bring_N]
 simp only [Qr,Q0,Rb]
 omega
theorem sideB_ok (w:Ub) (e:HelloEvent) (h:F106 w=true):F106 (F116 w e)=true:=(worldOk_iff _).2 (side_ok e ((worldOk_iff _).1 h))
theorem two_list {α:Type} [Inhabited α]:∀ (l:List α),l.length=2->[l.getD 0 default,l.getD 1 default]=l
 | [_,_],_=>rfl
theorem copy_N (w:Ub) (h:w.Sides.length=2):F107 w=w:=by
 unfold F107
 have st:∀ (k:Nat) xs,k<2->F107_s0 w ((k:Int),xs)=.next ((k:Int)+1,xs++[w.Sides.getD k default]):=fun k xs hk=>by
  simp only [F107_s0,ltD (uu0:k<w.Sides.length),Qd,nn]
 have e0:∀ xs,F107_s0 w (0,xs)=.next (1,xs++[w.Sides.getD 0 default]):=fun xs=>st 0 xs uu5
 have e1:∀ xs,F107_s0 w (1,xs)=.next (2,xs++[w.Sides.getD 1 default]):=fun xs=>st 1 xs uu5
 have e2:∀ xs,F107_s0 w (2,xs)=.done (2,xs):=fun xs=>by
  have hd:decide ((2:Int)<(w.Sides.length:Int))=false:=Qt uu0
  simp only [F107_s0,hd,Qi]
 have hn:Int.toNat ((w.Sides.length:Int)-0)+1=3:=by omega
 rw [hn]
 simp only [runL,e0,e1,e2,Lp.fin,Ta]
 have hs:[w.Sides.getD 0 default,w.Sides.getD 1 default]=w.Sides:=two_list _ h
 have hs':([]:List Uc)++[w.Sides.getD 0 default]++[w.Sides.getD 1 default]=w.Sides:=hs
 obtain ⟨s,r⟩:=w
 exact Qc (fun s=>Ub.mk s r) hs'
theorem copy_ok (w:Ub) (h:F106 w=true):F106 (F107 w)=true:=by rw [copy_N w (worldS_two w h)]; exact h
theorem forge_ok' {w:Ub} (x:HelloWord) (h:WldOk w):WldOk (F118 w x):=by
 unfold F118
 cases hc:(bif (bif (!(F114 x)) then true else (F124 (((w.Sides.getD (Int.toNat 0) default).End).Keys) x)) then true else (F124 (((w.Sides.getD (Int.toNat 1) default).End).Keys) x)) with
 | true=>exact h
 | false =>
  simp only [Rl,R9,Bool.not_eq_false'] at hc
  exact wput_ok h ((wordOk_iff x).1 hc.1.1)
theorem kc115l (w1:Ub) (at':Int) {K_:Prop} (p0_:F106 w1=true) (p1_:w1.Sides.length=2) (p2_:∀ k:Nat,EndFit (w1.Sides.getD k default).End) (p3_:w1.Radio.length<=12) (p4_:0<=at') (p5_:at'<(w1.Radio.length:Int)) (q0_:F106 w1=true) (q1_:0<=at') (q2_:0<=at') (q3_:at'<(w1.Radio.length:Int)) (k_:(F106 (F115 w1 at')=true)->((F115 w1 at').Radio.length+1=w1.Radio.length)->K_):(F106 w1=true/\w1.Sides.length=2/\(∀ k:Nat,EndFit (w1.Sides.getD k default).End)/\w1.Radio.length<=12/\0<=at'/\at'<(w1.Radio.length:Int))/\(Imps (eHelloWorld w1) (eHelloWorld w1))/\(Imp (.v (vI at')) (.v (vI at')))/\K_:=⟨⟨p0_,p1_,p2_,p3_,p4_,p5_⟩,Imps.refl _,Imp.refl _,k_ (bring_ok w1 at' q0_ q1_) (bring_len w1 at' q2_ q3_)⟩
abbrev kh115l (w1:Ub) (at':Int):Hint true Tryz.prog:=.call 115 (S115 w1 at') (ok115 w1 at') none
def F117 (w1:Ub) (e1:HelloEvent):Ub :=
 bif (!(decide (0<=e1.At/\e1.At<=((w1.Radio.length:Int)-1)))) then w1 else (bif (e1.Kind==2) then (F115 w1 e1.At) else (bif (e1.Kind==3) then (F120 w1 (w1.Radio.getD (Int.toNat e1.At) default)) else (⟨w1.Sides,((([]:List HelloWord)++(w1.Radio.take (Int.toNat e1.At)))++(w1.Radio.drop (e1.At+1).toNat))⟩:Ub)))
theorem fi117 (w1:Ub) (e1:HelloEvent) (r:Ub) (hF:r=(F117 w1 e1)):(Imp (.l 23 eHelloSide r.Sides) (.l 23 eHelloSide (F117 w1 e1).Sides))/\(Imp (.l 14 eHelloWord r.Radio) (.l 14 eHelloWord (F117 w1 e1).Radio))/\True:=by cases hF; exact ⟨Imp.refl _,Imp.refl _,trivial⟩
def S117 (w1:Ub) (e1:HelloEvent):Spec:=⟨[.ot (eHelloWorld w1),.r (.g (eHelloEvent e1))],.ag [.ow (.l 23 eHelloSide (F117 w1 e1).Sides),.ow (.l 14 eHelloWord (F117 w1 e1).Radio)],F106 w1=true/\w1.Sides.length=2/\(∀ k:Nat,EndFit (w1.Sides.getD k default).End)/\w1.Radio.length<=12⟩
abbrev q117_1 (w1:Ub) (e1:HelloEvent):=(([]:List HelloWord)++(w1.Radio.take (Int.toNat e1.At)))
theorem ok117 (w1:Ub) (e1:HelloEvent):(S117 w1 e1).ok Tryz.prog 117 :=
 fnG_ok mixed (fn:=Tryz.f117) (ct:=.seq .no (.seq (.seq (.reg [(5,.bnd),(6,kh28a e1.At 0 ((w1.Radio.length:Int)-1))]) (.cond (.seq .no .no) .no)) (.seq (.seq .no (.blk (.seq .no (.cond (.seq (.reg [(3,kh115l w1 e1.At)]) .no) (.seq .no (.cond (.seq (.reg [(7,kh120 w1 (w1.Radio.getD (Int.toNat e1.At) default))]) .no) .no)))))) (.seq (.reg [(0,.dat (.l 14 eHelloWord ([]:List HelloWord))),(6,.dat (.l 14 eHelloWord (q117_1 w1 e1))),(11,.bnd),(13,.dat (.l 14 eHelloWord ((q117_1 w1 e1)++(w1.Radio.drop (e1.At+1).toNat))))]) (.seq .no .no))))) Tryz.func117 (fun (hp:F106 w1=true/\w1.Sides.length=2/\(∀ k:Nat,EndFit (w1.Sides.getD k default).End)/\w1.Radio.length<=12)=>have hpre0:=hp.1; have hpre1:=hp.2.1; have hpre2:=hp.2.2.1; have hpre3:=hp.2.2.2; ai (iok ((w1.Radio.length:Int)-1) uu1) (kc28a e1.At 0 ((w1.Radio.length:Int)-1) (ifb (!(decide (0<=e1.At/\e1.At<=((w1.Radio.length:Int)-1)))) (fun h1=>have _:=Rj (notET h1); fi117 w1 e1 w1 (condT h1 rfl)) (fun h1=>have _:=Qb (notEF h1); ife e1.Kind 2 (fun h2 _=>kc115l w1 e1.At uu9 uu12 uu21 uu10 uu1 uu1 uu9 uu1 uu1 uu1 (fun gv3 gv4=>fi117 w1 e1 (F115 w1 e1.At) (condF h1 (condT h2 rfl)))) (fun h2 _=>ife e1.Kind 3 (fun h5 _=>ai (uu1:ib e1.At w1.Radio) (kc120 w1 (w1.Radio.getD (Int.toNat e1.At) default) uu10 (fi117 w1 e1 (F120 w1 (w1.Radio.getD (Int.toNat e1.At) default)) (condF h1 (condF h2 (condT h5 rfl)))))) (fun h5 _=>ai (bokr 14 eHelloWord ([]:List HelloWord) fun _=>rfl) (ai (uu1:0<=(0:Int)/\(0:Int)<=e1.At/\e1.At<=(w1.Radio.length:Int)) (ai (AppL.mk eHelloWord ([]:List HelloWord) (w1.Radio.take (Int.toNat e1.At)) (Imp.refl (.l 14 eHelloWord ([]:List HelloWord))) ir (fun y=>⟨rfl,fun e he=>by simp only [eHelloWord,Ql,Rh,Sr] at he; rcases he with rfl | rfl | rfl | rfl | rfl | rfl | rfl | rfl | rfl | rfl | rfl | rfl | rfl | rfl <;> exact ⟨_,rfl⟩⟩):AppL (.l 14 eHelloWord ([]:List HelloWord)) (.l 14 eHelloWord (w1.Radio.take (Int.toNat e1.At))) 14 (.l 14 eHelloWord (q117_1 w1 e1))) (ai (uu6:(q117_1 w1 e1).length*112<=140737488355328) (ai (iok (e1.At+1) uu1) (ai (uu1:0<=(e1.At+1)/\(e1.At+1)<=(w1.Radio.length:Int)/\(w1.Radio.length:Int)<=(w1.Radio.length:Int)) (ai (AppL.mk eHelloWord (q117_1 w1 e1) (w1.Radio.drop (e1.At+1).toNat) (Imp.refl (.l 14 eHelloWord (q117_1 w1 e1))) ir (fun y=>⟨rfl,fun e he=>by simp only [eHelloWord,Ql,Rh,Sr] at he; rcases he with rfl | rfl | rfl | rfl | rfl | rfl | rfl | rfl | rfl | rfl | rfl | rfl | rfl | rfl <;> exact ⟨_,rfl⟩⟩):AppL (.l 14 eHelloWord (q117_1 w1 e1)) (.l 14 eHelloWord (w1.Radio.drop (e1.At+1).toNat)) 14 (.l 14 eHelloWord ((q117_1 w1 e1)++(w1.Radio.drop (e1.At+1).toNat)))) (ai (uu6:((q117_1 w1 e1)++(w1.Radio.drop (e1.At+1).toNat)).length*112<=140737488355328) (fi117 w1 e1 (⟨w1.Sides,((q117_1 w1 e1)++(w1.Radio.drop (e1.At+1).toNat))⟩:Ub) (condF h1 (condF h2 (condF h5 rfl))))))))))))))))) uu3
theorem kc117 (w1:Ub) (e1:HelloEvent) {K_:Prop} (p0_:F106 w1=true) (p1_:w1.Sides.length=2) (p2_:∀ k:Nat,EndFit (w1.Sides.getD k default).End) (p3_:w1.Radio.length<=12) (k_:K_):(F106 w1=true/\w1.Sides.length=2/\(∀ k:Nat,EndFit (w1.Sides.getD k default).End)/\w1.Radio.length<=12)/\(Imps (eHelloWorld w1) (eHelloWorld w1))/\(Imps (eHelloEvent e1) (eHelloEvent e1))/\K_:=⟨⟨p0_,p1_,p2_,p3_⟩,Imps.refl _,Imps.refl _,k_⟩
abbrev kh117 (w1:Ub) (e1:HelloEvent):Hint true Tryz.prog:=.call 117 (S117 w1 e1) (ok117 w1 e1) none
theorem kc118 (w1:Ub) (x9:HelloWord) {K_:Prop} (p0_:w1.Sides.length=2) (p1_:w1.Radio.length<=12) (k_:K_):(w1.Sides.length=2/\w1.Radio.length<=12)/\(Imps (eHelloWorld w1) (eHelloWorld w1))/\(Imps (eHelloWord x9) (eHelloWord x9))/\K_:=⟨⟨p0_,p1_⟩,Imps.refl _,Imps.refl _,k_⟩
abbrev kh118 (w1:Ub) (x9:HelloWord):Hint true Tryz.prog:=.call 118 (S118 w1 x9) (ok118 w1 x9) none
theorem kc116l (w1:Ub) (e1:HelloEvent) {K_:Prop} (p0_:F106 w1=true) (p1_:w1.Sides.length=2) (p2_:∀ k:Nat,EndFit (w1.Sides.getD k default).End) (p3_:w1.Radio.length<=12) (q0_:F106 w1=true) (k_:(F106 (F116 w1 e1)=true)->K_):(F106 w1=true/\w1.Sides.length=2/\(∀ k:Nat,EndFit (w1.Sides.getD k default).End)/\w1.Radio.length<=12)/\(Imps (eHelloWorld w1) (eHelloWorld w1))/\(Imps (eHelloEvent e1) (eHelloEvent e1))/\K_:=⟨⟨p0_,p1_,p2_,p3_⟩,Imps.refl _,Imps.refl _,k_ (sideB_ok w1 e1 q0_)⟩
abbrev kh116l (w1:Ub) (e1:HelloEvent):Hint true Tryz.prog:=.call 116 (S116 w1 e1) (ok116 w1 e1) none
def F109 (w1:Ub) (e1:HelloEvent):Ub :=
 bif (e1.Kind==2) then (bif (e1.Kind==2) then (F117 w1 e1) else (bif (e1.Kind==10) then (F118 w1 e1.Word) else (F116 w1 e1))) else (bif (e1.Kind==3) then (bif (e1.Kind==3) then (F117 w1 e1) else (bif (e1.Kind==10) then (F118 w1 e1.Word) else (F116 w1 e1))) else (bif (e1.Kind==4) then (F117 w1 e1) else (bif (e1.Kind==10) then (F118 w1 e1.Word) else (F116 w1 e1))))
theorem fi109 (w1:Ub) (e1:HelloEvent) (r:Ub) (hF:r=(F109 w1 e1)):(Imp (.l 23 eHelloSide r.Sides) (.l 23 eHelloSide (F109 w1 e1).Sides))/\(Imp (.l 14 eHelloWord r.Radio) (.l 14 eHelloWord (F109 w1 e1).Radio))/\True:=by cases hF; exact ⟨Imp.refl _,Imp.refl _,trivial⟩
def S109 (w1:Ub) (e1:HelloEvent):Spec:=⟨[.ot (eHelloWorld w1),.r (.g (eHelloEvent e1))],.ag [.ow (.l 23 eHelloSide (F109 w1 e1).Sides),.ow (.l 14 eHelloWord (F109 w1 e1).Radio)],F106 w1=true/\w1.Sides.length=2/\(∀ k:Nat,EndFit (w1.Sides.getD k default).End)/\w1.Radio.length<=12⟩
theorem ok109 (w1:Ub) (e1:HelloEvent):(S109 w1 e1).ok Tryz.prog 109 :=
 fnG_ok mixed (fn:=Tryz.f109) (ct:=.seq .no (.seq (.seq .no (.blk (.seq (.seq .no (.cond .no (.seq .no (.cond .no .no)))) (.cond (.seq (.reg [(2,kh117 w1 e1)]) .no) (.seq .no (.cond (.seq (.reg [(3,kh118 w1 e1.Word)]) .no) .no)))))) (.seq (.reg [(2,kh116l w1 e1)]) .no))) Tryz.func109 (fun (hp:F106 w1=true/\w1.Sides.length=2/\(∀ k:Nat,EndFit (w1.Sides.getD k default).End)/\w1.Radio.length<=12)=>have hpre0:=hp.1; have hpre1:=hp.2.1; have hpre2:=hp.2.2.1; have hpre3:=hp.2.2.2; ife e1.Kind 2 (fun h1 _=>ife e1.Kind 2 (fun h2 _=>kc117 w1 e1 uu9 uu12 uu21 uu10 (fi109 w1 e1 (F117 w1 e1) (condT h1 (condT h2 rfl)))) (fun h2 _=>ife e1.Kind 10 (fun h3 _=>kc118 w1 e1.Word uu12 uu10 (fi109 w1 e1 (F118 w1 e1.Word) (condT h1 (condF h2 (condT h3 rfl))))) (fun h3 _=>kc116l w1 e1 uu9 uu12 uu21 uu10 uu9 (fun gv4=>fi109 w1 e1 (F116 w1 e1) (condT h1 (condF h2 (condF h3 rfl))))))) (fun h1 _=>ife e1.Kind 3 (fun h5 _=>ife e1.Kind 3 (fun h6 _=>kc117 w1 e1 uu9 uu12 uu21 uu10 (fi109 w1 e1 (F117 w1 e1) (condF h1 (condT h5 (condT h6 rfl))))) (fun h6 _=>ife e1.Kind 10 (fun h7 _=>kc118 w1 e1.Word uu12 uu10 (fi109 w1 e1 (F118 w1 e1.Word) (condF h1 (condT h5 (condF h6 (condT h7 rfl)))))) (fun h7 _=>kc116l w1 e1 uu9 uu12 uu21 uu10 uu9 (fun gv8=>fi109 w1 e1 (F116 w1 e1) (condF h1 (condT h5 (condF h6 (condF h7 rfl)))))))) (fun h5 _=>ife e1.Kind 4 (fun h9 _=>kc117 w1 e1 uu9 uu12 uu21 uu10 (fi109 w1 e1 (F117 w1 e1) (condF h1 (condF h5 (condT h9 rfl))))) (fun h9 _=>ife e1.Kind 10 (fun h10 _=>kc118 w1 e1.Word uu12 uu10 (fi109 w1 e1 (F118 w1 e1.Word) (condF h1 (condF h5 (condF h9 (condT h10 rfl)))))) (fun h10 _=>kc116l w1 e1 uu9 uu12 uu21 uu10 uu9 (fun gv11=>fi109 w1 e1 (F116 w1 e1) (condF h1 (condF h5 (condF h9 (condF h10 rfl)))))))))) uu3
def F108_s0 (w1:Ub):(List Uc×List HelloWord)->Lp (List Uc×List HelloWord) Ub:=fun (w4,w5) =>
 bif (decide ((w5.length:Int)>0)) then (.next ((F115 ⟨w4,w5⟩ 0).Sides,(F115 ⟨w4,w5⟩ 0).Radio)) else (.done (w4,w5))
def F108_j0 (w1:Ub):Lp (List Uc×List HelloWord) Ub :=
 (runL (F108_s0 w1) (((w1.Radio.length:Int)-0).toNat+1) (w1.Sides,w1.Radio)).fin Lp.ret (fun (w4,w5)=>.done (w4,w5))
def F108_s1 (w1:Ub) (w2:List Uc) (w3:List HelloWord):(List Uc×List HelloWord)->Lp (List Uc×List HelloWord) Ub:=fun (w8,w9) =>
 bif (decide ((w9.length:Int)>0)) then (.next ((F115 ⟨w8,w9⟩ 0).Sides,(F115 ⟨w8,w9⟩ 0).Radio)) else (.done (w8,w9))
def F108_j1 (w1:Ub) (w2:List Uc) (w3:List HelloWord):Lp (List Uc×List HelloWord) Ub :=
 (runL (F108_s1 w1 w2 w3) ((((F116 (F116 ⟨w2,w3⟩ ⟨1,0,[],[],(⟨0,0,0,0,0,0,0,0,(⟨0,(⟨0,0,0,0⟩:Ue)⟩:HelloChange),0⟩:HelloWord)⟩) ⟨1,1,[],[],(⟨0,0,0,0,0,0,0,0,(⟨0,(⟨0,0,0,0⟩:Ue)⟩:HelloChange),0⟩:HelloWord)⟩).Radio.length:Int)-0).toNat+1) ((F116 (F116 ⟨w2,w3⟩ ⟨1,0,[],[],(⟨0,0,0,0,0,0,0,0,(⟨0,(⟨0,0,0,0⟩:Ue)⟩:HelloChange),0⟩:HelloWord)⟩) ⟨1,1,[],[],(⟨0,0,0,0,0,0,0,0,(⟨0,(⟨0,0,0,0⟩:Ue)⟩:HelloChange),0⟩:HelloWord)⟩).Sides,(F116 (F116 ⟨w2,w3⟩ ⟨1,0,[],[],(⟨0,0,0,0,0,0,0,0,(⟨0,(⟨0,0,0,0⟩:Ue)⟩:HelloChange),0⟩:HelloWord)⟩) ⟨1,1,[],[],(⟨0,0,0,0,0,0,0,0,(⟨0,(⟨0,0,0,0⟩:Ue)⟩:HelloChange),0⟩:HelloWord)⟩).Radio)).fin Lp.ret (fun (w8,w9)=>.done (w8,w9))
def F108 (w1:Ub):Ub :=
 (F108_j0 w1).fin (fun r=>r) (fun (w2,w3)=>(F108_j1 w1 w2 w3).fin (fun r=>r) (fun (w6,w7)=>(F116 (F116 ⟨w6,w7⟩ ⟨5,0,[],[],(⟨0,0,0,0,0,0,0,0,(⟨0,(⟨0,0,0,0⟩:Ue)⟩:HelloChange),0⟩:HelloWord)⟩) ⟨5,1,[],[],(⟨0,0,0,0,0,0,0,0,(⟨0,(⟨0,0,0,0⟩:Ue)⟩:HelloChange),0⟩:HelloWord)⟩)))
abbrev lN108_0 (w1:Ub):Nat×(List Uc×List HelloWord):=((((w1.Radio.length:Int)-0).toNat+1),(w1.Sides,w1.Radio))
abbrev lI108_0 (m39:Nat) (w4:List Uc) (w5:List HelloWord):Prop:=Int.toNat ((w5.length:Int)-0)<m39/\F106 (⟨w4,w5⟩:Ub)=true
abbrev lX108_0 (w1:Ub):Lp (List Uc×List HelloWord) Ub:=LpX (F108_s0 w1) (lN108_0 w1)
abbrev lJ108_0 (w1:Ub) (i:Nat×(List Uc×List HelloWord)):Prop:=LpJ (F108_s0 w1) (lN108_0 w1) i (lI108_0 i.1 i.2.1 i.2.2)
abbrev lH108_0 (w1:Ub) (i:Nat×(List Uc×List HelloWord)) (m39:Nat) (w4:List Uc) (w5:List HelloWord):Prop:=LpH (F108_s0 w1) (lN108_0 w1) i m39 (w4,w5) (lI108_0 (m39+1) w4 w5)
abbrev lE108_0 (w4:List Uc) (w5:List HelloWord) (w4_:List Uc) (w5_:List HelloWord) (K39:Prop):Prop:=(Imp (.l 23 eHelloSide w4) (.l 23 eHelloSide w4_))/\(Imp (.l 14 eHelloWord w5) (.l 14 eHelloWord w5_))/\(Rf (.slice none 0 0))/\(Rf (.slice none 0 0))/\K39
theorem un108_0 (w1:Ub) (i:Nat×(List Uc×List HelloWord)) (h:lJ108_0 w1 i):lH108_0 w1 i (i.1-1) i.2.1 i.2.2:=⟨hd1 h.1 h.2.1,hd3 h.2.1,hd2 h.2.1,h.2.2⟩
theorem bk108_0 (w1:Ub) (i:Nat×(List Uc×List HelloWord)) (m39:Nat) (w4:List Uc) (w5:List HelloWord) (hl:m39<i.1) (e:runL (F108_s0 w1) m39 (w4,w5)=lX108_0 w1) (h:lI108_0 m39 w4 w5):∃ j:Nat×(List Uc×List HelloWord),lE108_0 w4 w5 j.2.1 j.2.2 (lJ108_0 w1 j/\j.1<i.1):=⟨(m39,(w4,w5)),Imp.refl _,Imp.refl _,rfl,rfl,⟨e,h⟩,hl⟩
theorem en108_0 (w1:Ub) (h:F106 (⟨w1.Sides,w1.Radio⟩:Ub)=true):lE108_0 w1.Sides w1.Radio w1.Sides w1.Radio (lJ108_0 w1 (lN108_0 w1)):=⟨Imp.refl _,Imp.refl _,rfl,rfl,rfl,Qq _,h⟩
abbrev jI108_0 (w1:Ub) (w2:List Uc) (w3:List HelloWord):Prop:=F106 (⟨w2,w3⟩:Ub)=true/\True
abbrev jJ108_0 (w1:Ub) (j:List Uc×List HelloWord):Prop:=(F108_j0 w1)=Lp.done j/\jI108_0 w1 j.1 j.2
theorem jn108_0 (w1:Ub) (w2:List Uc) (w3:List HelloWord) (e:(F108_j0 w1)=Lp.done (w2,w3)) (h:jI108_0 w1 w2 w3):∃ j:List Uc×List HelloWord,(Imp (.l 23 eHelloSide w2) (.l 23 eHelloSide j.1))/\(Imp (.l 14 eHelloWord w3) (.l 14 eHelloWord j.2))/\((.slice none 0 0:Value)=.slice none 0 0)/\((.slice none 0 0:Value)=.slice none 0 0)/\jJ108_0 w1 j:=⟨(w2,w3),Imp.refl _,Imp.refl _,rfl,rfl,e,h⟩
abbrev lN108_1 (w2:List Uc) (w3:List HelloWord):Nat×(List Uc×List HelloWord):=(((((F116 (F116 ⟨w2,w3⟩ ⟨1,0,[],[],(⟨0,0,0,0,0,0,0,0,(⟨0,(⟨0,0,0,0⟩:Ue)⟩:HelloChange),0⟩:HelloWord)⟩) ⟨1,1,[],[],(⟨0,0,0,0,0,0,0,0,(⟨0,(⟨0,0,0,0⟩:Ue)⟩:HelloChange),0⟩:HelloWord)⟩).Radio.length:Int)-0).toNat+1),((F116 (F116 ⟨w2,w3⟩ ⟨1,0,[],[],(⟨0,0,0,0,0,0,0,0,(⟨0,(⟨0,0,0,0⟩:Ue)⟩:HelloChange),0⟩:HelloWord)⟩) ⟨1,1,[],[],(⟨0,0,0,0,0,0,0,0,(⟨0,(⟨0,0,0,0⟩:Ue)⟩:HelloChange),0⟩:HelloWord)⟩).Sides,(F116 (F116 ⟨w2,w3⟩ ⟨1,0,[],[],(⟨0,0,0,0,0,0,0,0,(⟨0,(⟨0,0,0,0⟩:Ue)⟩:HelloChange),0⟩:HelloWord)⟩) ⟨1,1,[],[],(⟨0,0,0,0,0,0,0,0,(⟨0,(⟨0,0,0,0⟩:Ue)⟩:HelloChange),0⟩:HelloWord)⟩).Radio))
abbrev lI108_1 (m39:Nat) (w8:List Uc) (w9:List HelloWord):Prop:=Int.toNat ((w9.length:Int)-0)<m39/\F106 (⟨w8,w9⟩:Ub)=true
abbrev lX108_1 (w1:Ub) (w2:List Uc) (w3:List HelloWord):Lp (List Uc×List HelloWord) Ub:=LpX (F108_s1 w1 w2 w3) (lN108_1 w2 w3)
abbrev lJ108_1 (w1:Ub) (w2:List Uc) (w3:List HelloWord) (i:Nat×(List Uc×List HelloWord)):Prop:=LpJ (F108_s1 w1 w2 w3) (lN108_1 w2 w3) i (lI108_1 i.1 i.2.1 i.2.2)
abbrev lH108_1 (w1:Ub) (w2:List Uc) (w3:List HelloWord) (i:Nat×(List Uc×List HelloWord)) (m39:Nat) (w8:List Uc) (w9:List HelloWord):Prop:=LpH (F108_s1 w1 w2 w3) (lN108_1 w2 w3) i m39 (w8,w9) (lI108_1 (m39+1) w8 w9)
abbrev lE108_1 (w8:List Uc) (w9:List HelloWord) (w8_:List Uc) (w9_:List HelloWord) (K39:Prop):Prop:=(Imp (.l 23 eHelloSide w8) (.l 23 eHelloSide w8_))/\(Imp (.l 14 eHelloWord w9) (.l 14 eHelloWord w9_))/\(Rf (.slice none 0 0))/\(Rf (.slice none 0 0))/\K39
theorem un108_1 (w1:Ub) (w2:List Uc) (w3:List HelloWord) (i:Nat×(List Uc×List HelloWord)) (h:lJ108_1 w1 w2 w3 i):lH108_1 w1 w2 w3 i (i.1-1) i.2.1 i.2.2:=⟨hd1 h.1 h.2.1,hd3 h.2.1,hd2 h.2.1,h.2.2⟩
theorem bk108_1 (w1:Ub) (w2:List Uc) (w3:List HelloWord) (i:Nat×(List Uc×List HelloWord)) (m39:Nat) (w8:List Uc) (w9:List HelloWord) (hl:m39<i.1) (e:runL (F108_s1 w1 w2 w3) m39 (w8,w9)=lX108_1 w1 w2 w3) (h:lI108_1 m39 w8 w9):∃ j:Nat×(List Uc×List HelloWord),lE108_1 w8 w9 j.2.1 j.2.2 (lJ108_1 w1 w2 w3 j/\j.1<i.1):=⟨(m39,(w8,w9)),Imp.refl _,Imp.refl _,rfl,rfl,⟨e,h⟩,hl⟩
theorem en108_1 (w1:Ub) (w2:List Uc) (w3:List HelloWord) (h:F106 (⟨(F116 (F116 ⟨w2,w3⟩ ⟨1,0,[],[],(⟨0,0,0,0,0,0,0,0,(⟨0,(⟨0,0,0,0⟩:Ue)⟩:HelloChange),0⟩:HelloWord)⟩) ⟨1,1,[],[],(⟨0,0,0,0,0,0,0,0,(⟨0,(⟨0,0,0,0⟩:Ue)⟩:HelloChange),0⟩:HelloWord)⟩).Sides,(F116 (F116 ⟨w2,w3⟩ ⟨1,0,[],[],(⟨0,0,0,0,0,0,0,0,(⟨0,(⟨0,0,0,0⟩:Ue)⟩:HelloChange),0⟩:HelloWord)⟩) ⟨1,1,[],[],(⟨0,0,0,0,0,0,0,0,(⟨0,(⟨0,0,0,0⟩:Ue)⟩:HelloChange),0⟩:HelloWord)⟩).Radio⟩:Ub)=true):lE108_1 (F116 (F116 ⟨w2,w3⟩ ⟨1,0,[],[],(⟨0,0,0,0,0,0,0,0,(⟨0,(⟨0,0,0,0⟩:Ue)⟩:HelloChange),0⟩:HelloWord)⟩) ⟨1,1,[],[],(⟨0,0,0,0,0,0,0,0,(⟨0,(⟨0,0,0,0⟩:Ue)⟩:HelloChange),0⟩:HelloWord)⟩).Sides (F116 (F116 ⟨w2,w3⟩ ⟨1,0,[],[],(⟨0,0,0,0,0,0,0,0,(⟨0,(⟨0,0,0,0⟩:Ue)⟩:HelloChange),0⟩:HelloWord)⟩) ⟨1,1,[],[],(⟨0,0,0,0,0,0,0,0,(⟨0,(⟨0,0,0,0⟩:Ue)⟩:HelloChange),0⟩:HelloWord)⟩).Radio (F116 (F116 ⟨w2,w3⟩ ⟨1,0,[],[],(⟨0,0,0,0,0,0,0,0,(⟨0,(⟨0,0,0,0⟩:Ue)⟩:HelloChange),0⟩:HelloWord)⟩) ⟨1,1,[],[],(⟨0,0,0,0,0,0,0,0,(⟨0,(⟨0,0,0,0⟩:Ue)⟩:HelloChange),0⟩:HelloWord)⟩).Sides (F116 (F116 ⟨w2,w3⟩ ⟨1,0,[],[],(⟨0,0,0,0,0,0,0,0,(⟨0,(⟨0,0,0,0⟩:Ue)⟩:HelloChange),0⟩:HelloWord)⟩) ⟨1,1,[],[],(⟨0,0,0,0,0,0,0,0,(⟨0,(⟨0,0,0,0⟩:Ue)⟩:HelloChange),0⟩:HelloWord)⟩).Radio (lJ108_1 w1 w2 w3 (lN108_1 w2 w3)):=⟨Imp.refl _,Imp.refl _,rfl,rfl,rfl,Qq _,h⟩
abbrev jI108_1 (w1:Ub) (w2:List Uc) (w3:List HelloWord) (w6:List Uc) (w7:List HelloWord):Prop:=F106 (⟨w6,w7⟩:Ub)=true/\True
abbrev jJ108_1 (w1:Ub) (w2:List Uc) (w3:List HelloWord) (j:List Uc×List HelloWord):Prop:=(F108_j1 w1 w2 w3)=Lp.done j/\jI108_1 w1 w2 w3 j.1 j.2
theorem jn108_1 (w1:Ub) (w2:List Uc) (w3:List HelloWord) (w6:List Uc) (w7:List HelloWord) (e:(F108_j1 w1 w2 w3)=Lp.done (w6,w7)) (h:jI108_1 w1 w2 w3 w6 w7):∃ j:List Uc×List HelloWord,(Imp (.l 23 eHelloSide w6) (.l 23 eHelloSide j.1))/\(Imp (.l 14 eHelloWord w7) (.l 14 eHelloWord j.2))/\((.slice none 0 0:Value)=.slice none 0 0)/\((.slice none 0 0:Value)=.slice none 0 0)/\jJ108_1 w1 w2 w3 j:=⟨(w6,w7),Imp.refl _,Imp.refl _,rfl,rfl,e,h⟩
theorem fi108 (w1:Ub) (r:Ub) (hF:r=(F108 w1)):(Imp (.l 23 eHelloSide r.Sides) (.l 23 eHelloSide (F108 w1).Sides))/\(Imp (.l 14 eHelloWord r.Radio) (.l 14 eHelloWord (F108 w1).Radio))/\True:=by cases hF; exact ⟨Imp.refl _,Imp.refl _,trivial⟩
def S108 (w1:Ub):Spec:=⟨[.ot (eHelloWorld w1)],.ag [.ow (.l 23 eHelloSide (F108 w1).Sides),.ow (.l 14 eHelloWord (F108 w1).Radio)],F106 w1=true/\w1.Sides.length=2/\(∀ k:Nat,EndFit (w1.Sides.getD k default).End)/\w1.Radio.length<=12⟩
abbrev q108_1 (w2:List Uc) (w3:List HelloWord):=(F116 ⟨w2,w3⟩ ⟨1,0,[],[],(⟨0,0,0,0,0,0,0,0,(⟨0,(⟨0,0,0,0⟩:Ue)⟩:HelloChange),0⟩:HelloWord)⟩)
abbrev q108_2 (w6:List Uc) (w7:List HelloWord):=(F116 ⟨w6,w7⟩ ⟨5,0,[],[],(⟨0,0,0,0,0,0,0,0,(⟨0,(⟨0,0,0,0⟩:Ue)⟩:HelloChange),0⟩:HelloWord)⟩)
abbrev q108_3 (w2:List Uc) (w3:List HelloWord):=(F116 (q108_1 w2 w3) ⟨1,1,[],[],(⟨0,0,0,0,0,0,0,0,(⟨0,(⟨0,0,0,0⟩:Ue)⟩:HelloChange),0⟩:HelloWord)⟩)
abbrev q108_4 (w6:List Uc) (w7:List HelloWord):=(F116 (q108_2 w6 w7) ⟨5,1,[],[],(⟨0,0,0,0,0,0,0,0,(⟨0,(⟨0,0,0,0⟩:Ue)⟩:HelloChange),0⟩:HelloWord)⟩)
theorem ok108 (w1:Ub):(S108 w1).ok Tryz.prog 108 :=
 fnG_ok mixed (fn:=Tryz.f108) (ct:=.seq .no (.cut (ι:=List Uc×List HelloWord) (fun j=>(fun (w2:List Uc) (w3:List HelloWord)=>(⟨[(1,some (.p 0 0)),(2,some (.p 3 0))],[(0,some (.box 97 [.h 1 0,.h 2 0])),(1,some (.own 1 (.l 23 eHelloSide w2))),(2,some (.own 2 (.l 14 eHelloWord w3))),(3,some (.box 97 [.v (.slice none 0 0),.v (.slice none 0 0)]))],4⟩:St)) j.1 j.2) (jJ108_0 w1) (.blk (.loop (ι:=Nat×(List Uc×List HelloWord)) (fun i=>(fun (w4:List Uc) (w5:List HelloWord)=>(⟨[(1,some (.p 0 0)),(2,some (.p 3 0))],[(0,some (.box 97 [.h 1 0,.h 2 0])),(1,some (.own 1 (.l 23 eHelloSide w4))),(2,some (.own 2 (.l 14 eHelloWord w5))),(3,some (.box 97 [.v (.slice none 0 0),.v (.slice none 0 0)]))],4⟩:St)) i.2.1 i.2.2) (lJ108_0 w1) (fun i=>i.1) (lN108_0 w1) (fun i=>(fun (w4:List Uc) (w5:List HelloWord)=>(.seq (.seq .no (.cond .no .no)) (.blk (.reg [(1,.call 115 (S115 (⟨w4,w5⟩:Ub) 0) (ok115 (⟨w4,w5⟩:Ub) 0) none)])))) i.2.1 i.2.2))) (fun j=>(fun (w2:List Uc) (w3:List HelloWord)=>(.seq (.reg [(2,.call 116 (S116 (⟨w2,w3⟩:Ub) (⟨1,0,[],[],(⟨0,0,0,0,0,0,0,0,(⟨0,(⟨0,0,0,0⟩:Ue)⟩:HelloChange),0⟩:HelloWord)⟩:HelloEvent)) (ok116 (⟨w2,w3⟩:Ub) (⟨1,0,[],[],(⟨0,0,0,0,0,0,0,0,(⟨0,(⟨0,0,0,0⟩:Ue)⟩:HelloChange),0⟩:HelloWord)⟩:HelloEvent)) none)]) (.seqk [(1,0),(1,1)] (.reg [(2,.call 116 (S116 (q108_1 w2 w3) (⟨1,1,[],[],(⟨0,0,0,0,0,0,0,0,(⟨0,(⟨0,0,0,0⟩:Ue)⟩:HelloChange),0⟩:HelloWord)⟩:HelloEvent)) (ok116 (q108_1 w2 w3) (⟨1,1,[],[],(⟨0,0,0,0,0,0,0,0,(⟨0,(⟨0,0,0,0⟩:Ue)⟩:HelloChange),0⟩:HelloWord)⟩:HelloEvent)) none)]) (.cut (ι:=List Uc×List HelloWord) (fun j=>(fun (w6:List Uc) (w7:List HelloWord)=>(⟨[(1,some (.p 0 0)),(2,some (.p 3 0))],[(0,some (.box 97 [.h 1 0,.h 2 0])),(1,some (.own 1 (.l 23 eHelloSide w6))),(2,some (.own 2 (.l 14 eHelloWord w7))),(3,some (.box 97 [.v (.slice none 0 0),.v (.slice none 0 0)]))],4⟩:St)) j.1 j.2) (jJ108_1 w1 w2 w3) (.blk (.loop (ι:=Nat×(List Uc×List HelloWord)) (fun i=>(fun (w8:List Uc) (w9:List HelloWord)=>(⟨[(1,some (.p 0 0)),(2,some (.p 3 0))],[(0,some (.box 97 [.h 1 0,.h 2 0])),(1,some (.own 1 (.l 23 eHelloSide w8))),(2,some (.own 2 (.l 14 eHelloWord w9))),(3,some (.box 97 [.v (.slice none 0 0),.v (.slice none 0 0)]))],4⟩:St)) i.2.1 i.2.2) (lJ108_1 w1 w2 w3) (fun i=>i.1) (lN108_1 w2 w3) (fun i=>(fun (w8:List Uc) (w9:List HelloWord)=>(.seq (.seq .no (.cond .no .no)) (.blk (.reg [(1,.call 115 (S115 (⟨w8,w9⟩:Ub) 0) (ok115 (⟨w8,w9⟩:Ub) 0) none)])))) i.2.1 i.2.2))) (fun j=>(fun (w6:List Uc) (w7:List HelloWord)=>(.seq (.reg [(2,.call 116 (S116 (⟨w6,w7⟩:Ub) (⟨5,0,[],[],(⟨0,0,0,0,0,0,0,0,(⟨0,(⟨0,0,0,0⟩:Ue)⟩:HelloChange),0⟩:HelloWord)⟩:HelloEvent)) (ok116 (⟨w6,w7⟩:Ub) (⟨5,0,[],[],(⟨0,0,0,0,0,0,0,0,(⟨0,(⟨0,0,0,0⟩:Ue)⟩:HelloChange),0⟩:HelloWord)⟩:HelloEvent)) none)]) (.seq (.reg [(2,.call 116 (S116 (q108_2 w6 w7) (⟨5,1,[],[],(⟨0,0,0,0,0,0,0,0,(⟨0,(⟨0,0,0,0⟩:Ue)⟩:HelloChange),0⟩:HelloWord)⟩:HelloEvent)) (ok116 (q108_2 w6 w7) (⟨5,1,[],[],(⟨0,0,0,0,0,0,0,0,(⟨0,(⟨0,0,0,0⟩:Ue)⟩:HelloChange),0⟩:HelloWord)⟩:HelloEvent)) none)]) .no))) j.1 j.2))))) j.1 j.2))) Tryz.func108 (fun (hp:F106 w1=true/\w1.Sides.length=2/\(∀ k:Nat,EndFit (w1.Sides.getD k default).End)/\w1.Radio.length<=12)=>have hpre0:=hp.1; have hpre1:=hp.2.1; have hpre2:=hp.2.2.1; have hpre3:=hp.2.2.2; ai (ai (en108_0 w1 uu0) (fun (i0:Nat×(List Uc×List HelloWord)) (hi0:lJ108_0 w1 i0)=>(fun (m0:Nat) (w4:List Uc) (w5:List HelloWord) (hh0:lH108_0 w1 i0 m0 w4 w5)=>have hI0:=hh0.1; have hl0:=hh0.2.1; have _:=hh0.2.2.1; have _:=hh0.2.2.2; ifd ((w5.length:Int)>0) (fun h2 _=>ai (ai (uu4:F106 (⟨w4,w5⟩:Ub)=true) (ai (uu4:w4.length=2) (ai (uu4:∀ k:Nat,EndFit (w4.getD k default).End) (ai (uu4:w5.length<=12) (ai (uu4:0<=(0:Int)) (uu4:(0:Int)<(w5.length:Int))))))) (ai (Imps.refl (eHelloWorld (⟨w4,w5⟩:Ub))) (ai (Imp.refl (.v (vI 0))) (have gv3:F106 (F115 ⟨w4,w5⟩ 0)=true:=bring_ok (⟨w4,w5⟩:Ub) 0 (uu4:F106 (⟨w4,w5⟩:Ub)=true) (uu4:0<=(0:Int)); have gv4:(F115 ⟨w4,w5⟩ 0).Radio.length+1=w5.length:=bring_len (⟨w4,w5⟩:Ub) 0 (uu4:0<=(0:Int)) (uu4:(0:Int)<(w5.length:Int)); bk108_0 w1 i0 m0 (F115 ⟨w4,w5⟩ 0).Sides (F115 ⟨w4,w5⟩ 0).Radio hl0 (runL_next hI0 (condT h2 rfl)) uu7)))) (fun h2 _=>have hD0_5:lX108_0 w1=Lp.done (w4,w5):=runL_done hI0 (condF h2 rfl); jn108_0 w1 w4 w5 (Ri (finD hD0_5 rfl)) uu42)) (i0.1-1) i0.2.1 i0.2.2 (un108_0 w1 i0 hi0))) (fun (j:List Uc×List HelloWord) (hj:jJ108_0 w1 j)=>(fun (w2:List Uc) (w3:List HelloWord) (hJ0_6:(F108_j0 w1)=Lp.done (w2,w3)) (hw:jI108_0 w1 w2 w3)=>have _:=hw.1; ai (ai (uu4:F106 (⟨w2,w3⟩:Ub)=true) (ai (uu4:w2.length=2) (ai (uu4:∀ k:Nat,EndFit (w2.getD k default).End) (uu4:w3.length<=12)))) (ai (Imps.refl (eHelloWorld (⟨w2,w3⟩:Ub))) (ai (ai (Imp.refl (.v (vI 1))) (ai (Imp.refl (.v (vI 0))) (ai (Imp.nil 4 eHelloEntry) (ai (Imp.nil 2 eHelloKey) (ai (Imp.refl (.v (vI 0))) (ai (Imp.refl (.v (vI 0))) (ai (Imp.refl (.v (vI 0))) (ai (Imp.refl (.v (vI 0))) (ai (Imp.refl (.v (vI 0))) (ai (Imp.refl (.v (vI 0))) (ai (Imp.refl (.v (vI 0))) (ai (Imp.refl (.v (vI 0))) (ai (Imp.refl (.v (vI 0))) (ai (Imp.refl (.v (vI 0))) (ai (Imp.refl (.v (vI 0))) (ai (Imp.refl (.v (vI 0))) (ai (Imp.refl (.v (vI 0))) (ai (Imp.refl (.v (vI 0))) trivial)))))))))))))))))) (have gv7:F106 (q108_1 w2 w3)=true:=sideB_ok (⟨w2,w3⟩:Ub) (⟨1,0,[],[],(⟨0,0,0,0,0,0,0,0,(⟨0,(⟨0,0,0,0⟩:Ue)⟩:HelloChange),0⟩:HelloWord)⟩:HelloEvent) (uu4:F106 (⟨w2,w3⟩:Ub)=true); ai (ai (uu4:F106 (q108_1 w2 w3)=true) (ai (uu4:(q108_1 w2 w3).Sides.length=2) (ai (uu4:∀ k:Nat,EndFit ((q108_1 w2 w3).Sides.getD k default).End) (uu4:(q108_1 w2 w3).Radio.length<=12)))) (ai (Imps.refl (eHelloWorld (q108_1 w2 w3))) (ai (ai (Imp.refl (.v (vI 1))) (ai (Imp.refl (.v (vI 1))) (ai (Imp.nil 4 eHelloEntry) (ai (Imp.nil 2 eHelloKey) (ai (Imp.refl (.v (vI 0))) (ai (Imp.refl (.v (vI 0))) (ai (Imp.refl (.v (vI 0))) (ai (Imp.refl (.v (vI 0))) (ai (Imp.refl (.v (vI 0))) (ai (Imp.refl (.v (vI 0))) (ai (Imp.refl (.v (vI 0))) (ai (Imp.refl (.v (vI 0))) (ai (Imp.refl (.v (vI 0))) (ai (Imp.refl (.v (vI 0))) (ai (Imp.refl (.v (vI 0))) (ai (Imp.refl (.v (vI 0))) (ai (Imp.refl (.v (vI 0))) (ai (Imp.refl (.v (vI 0))) trivial)))))))))))))))))) (have gv8:F106 (q108_3 w2 w3)=true:=sideB_ok (q108_1 w2 w3) (⟨1,1,[],[],(⟨0,0,0,0,0,0,0,0,(⟨0,(⟨0,0,0,0⟩:Ue)⟩:HelloChange),0⟩:HelloWord)⟩:HelloEvent) (uu4:F106 (q108_1 w2 w3)=true); kn (q108_3 w2 w3).Sides fun _=>kn (q108_3 w2 w3).Radio fun _=>ai (ai (en108_1 w1 w2 w3 uu0) (fun (i1:Nat×(List Uc×List HelloWord)) (hi1:lJ108_1 w1 w2 w3 i1)=>(fun (m1:Nat) (w8:List Uc) (w9:List HelloWord) (hh1:lH108_1 w1 w2 w3 i1 m1 w8 w9)=>have hI1:=hh1.1; have hl1:=hh1.2.1; have _:=hh1.2.2.1; have _:=hh1.2.2.2; ifd ((w9.length:Int)>0) (fun h10 _=>ai (ai (uu4:F106 (⟨w8,w9⟩:Ub)=true) (ai (uu4:w8.length=2) (ai (uu4:∀ k:Nat,EndFit (w8.getD k default).End) (ai (uu4:w9.length<=12) (ai (uu4:0<=(0:Int)) (uu4:(0:Int)<(w9.length:Int))))))) (ai (Imps.refl (eHelloWorld (⟨w8,w9⟩:Ub))) (ai (Imp.refl (.v (vI 0))) (have gv11:F106 (F115 ⟨w8,w9⟩ 0)=true:=bring_ok (⟨w8,w9⟩:Ub) 0 (uu4:F106 (⟨w8,w9⟩:Ub)=true) (uu4:0<=(0:Int)); have gv12:(F115 ⟨w8,w9⟩ 0).Radio.length+1=w9.length:=bring_len (⟨w8,w9⟩:Ub) 0 (uu4:0<=(0:Int)) (uu4:(0:Int)<(w9.length:Int)); bk108_1 w1 w2 w3 i1 m1 (F115 ⟨w8,w9⟩ 0).Sides (F115 ⟨w8,w9⟩ 0).Radio hl1 (runL_next hI1 (condT h10 rfl)) uu7)))) (fun h10 _=>have hD1_13:lX108_1 w1 w2 w3=Lp.done (w8,w9):=runL_done hI1 (condF h10 rfl); jn108_1 w1 w2 w3 w8 w9 (Ri (finD hD1_13 rfl)) uu42)) (i1.1-1) i1.2.1 i1.2.2 (un108_1 w1 w2 w3 i1 hi1))) (fun (j:List Uc×List HelloWord) (hj:jJ108_1 w1 w2 w3 j)=>(fun (w6:List Uc) (w7:List HelloWord) (hJ1_14:(F108_j1 w1 w2 w3)=Lp.done (w6,w7)) (hw:jI108_1 w1 w2 w3 w6 w7)=>have _:=hw.1; ai (ai (uu4:F106 (⟨w6,w7⟩:Ub)=true) (ai (uu4:w6.length=2) (ai (uu4:∀ k:Nat,EndFit (w6.getD k default).End) (uu4:w7.length<=12)))) (ai (Imps.refl (eHelloWorld (⟨w6,w7⟩:Ub))) (ai (ai (Imp.refl (.v (vI 5))) (ai (Imp.refl (.v (vI 0))) (ai (Imp.nil 4 eHelloEntry) (ai (Imp.nil 2 eHelloKey) (ai (Imp.refl (.v (vI 0))) (ai (Imp.refl (.v (vI 0))) (ai (Imp.refl (.v (vI 0))) (ai (Imp.refl (.v (vI 0))) (ai (Imp.refl (.v (vI 0))) (ai (Imp.refl (.v (vI 0))) (ai (Imp.refl (.v (vI 0))) (ai (Imp.refl (.v (vI 0))) (ai (Imp.refl (.v (vI 0))) (ai (Imp.refl (.v (vI 0))) (ai (Imp.refl (.v (vI 0))) (ai (Imp.refl (.v (vI 0))) (ai (Imp.refl (.v (vI 0))) (ai (Imp.refl (.v (vI 0))) trivial)))))))))))))))))) (have gv15:F106 (q108_2 w6 w7)=true:=sideB_ok (⟨w6,w7⟩:Ub) (⟨5,0,[],[],(⟨0,0,0,0,0,0,0,0,(⟨0,(⟨0,0,0,0⟩:Ue)⟩:HelloChange),0⟩:HelloWord)⟩:HelloEvent) (uu4:F106 (⟨w6,w7⟩:Ub)=true); ai (ai (uu4:F106 (q108_2 w6 w7)=true) (ai (uu4:(q108_2 w6 w7).Sides.length=2) (ai (uu4:∀ k:Nat,EndFit ((q108_2 w6 w7).Sides.getD k default).End) (uu4:(q108_2 w6 w7).Radio.length<=12)))) (ai (Imps.refl (eHelloWorld (q108_2 w6 w7))) (ai (ai (Imp.refl (.v (vI 5))) (ai (Imp.refl (.v (vI 1))) (ai (Imp.nil 4 eHelloEntry) (ai (Imp.nil 2 eHelloKey) (ai (Imp.refl (.v (vI 0))) (ai (Imp.refl (.v (vI 0))) (ai (Imp.refl (.v (vI 0))) (ai (Imp.refl (.v (vI 0))) (ai (Imp.refl (.v (vI 0))) (ai (Imp.refl (.v (vI 0))) (ai (Imp.refl (.v (vI 0))) (ai (Imp.refl (.v (vI 0))) (ai (Imp.refl (.v (vI 0))) (ai (Imp.refl (.v (vI 0))) (ai (Imp.refl (.v (vI 0))) (ai (Imp.refl (.v (vI 0))) (ai (Imp.refl (.v (vI 0))) (ai (Imp.refl (.v (vI 0))) trivial)))))))))))))))))) (have gv16:F106 (q108_4 w6 w7)=true:=sideB_ok (q108_2 w6 w7) (⟨5,1,[],[],(⟨0,0,0,0,0,0,0,0,(⟨0,(⟨0,0,0,0⟩:Ue)⟩:HelloChange),0⟩:HelloWord)⟩:HelloEvent) (uu4:F106 (q108_2 w6 w7)=true); fi108 w1 (q108_4 w6 w7) (finD hJ0_6 (finD hJ1_14 rfl))))))))) j.1 j.2 hj.1 hj.2)))))))) j.1 j.2 hj.1 hj.2)) uu3
theorem wword_ok {w:Ub} (e:HelloEvent) (h:WldOk w):WldOk (F117 w e):=by
 unfold F117
 by_cases ha:0<=e.At/\e.At<=(w.Radio.length:Int)-1
 ·rw [Qs ha,Rt,Qi]
  cases (e.Kind==2) with
  | true=>exact bring_ok' h ha.1
  | false =>
   rw [Qi]
   have hlt:Int.toNat e.At<w.Radio.length:=by omega
   cases (e.Kind==3) with
   | true=>exact wput_ok h (h.wd _ (by rw [getD_lt _ hlt]; exact Sv hlt))
   | false =>
    rw [Qi,Ta]
    have hs:(w.Radio.take (Int.toNat e.At)++w.Radio.drop (e.At+1).toNat).Sublist w.Radio:=by
     rw [show Int.toNat (e.At+1)=Int.toNat e.At+1 by omega]; exact without_sub _ _
    exact wld_radio h (Qu hs.length_le h.rad) fun x hx=>h.wd x (hs.subset hx)
 ·rw [Qt ha]; exact h
theorem do_ok' {w:Ub} (e:HelloEvent) (h:WldOk w):WldOk (F109 w e):=by
 unfold F109
 have h1:=wword_ok e h
 have h2:=forge_ok' e.Word h
 have h3:=side_ok e h
 cases (e.Kind==2) <;> cases (e.Kind==3) <;> cases (e.Kind==4) <;> cases (e.Kind==10) <;> assumption
theorem do_ok (w:Ub) (e:HelloEvent) (h:F106 w=true):F106 (F109 w e)=true:=(worldOk_iff _).2 (do_ok' e ((worldOk_iff _).1 h))
theorem wld_eta {w:Ub} (h:WldOk w):WldOk ⟨w.Sides,w.Radio⟩:=h
theorem round_ok' {w:Ub} (h:WldOk w):WldOk (F108 w):=by
 unfold F108
 refine fin_inv (I:=fun s:List Uc×List HelloWord=>WldOk ⟨s.1,s.2⟩) (J:=fun r=>WldOk r) ?_ (fun _ h=>h) (fun s h1=>?_)
 ·unfold F108_j0
  refine fin_inv (I:=fun s:List Uc×List HelloWord=>WldOk ⟨s.1,s.2⟩) (J:=fun r=>WldOk r) (K:=Lp.all (fun s:List Uc×List HelloWord=>WldOk ⟨s.1,s.2⟩) (fun r:Ub=>WldOk r)) (runL_inv _ _ (fun s hs=>?_) _ _ h) (fun _ h=>h) (fun s hs=>hs)
  obtain ⟨a,b⟩:=s
  unfold F108_s0
  dsimp only
  cases decide ((b.length:Int)>0) with
  | true=>exact wld_eta (bring_ok' hs (Int.le_refl 0))
  | false=>exact hs
 ·obtain ⟨a,b⟩:=s
  refine fin_inv (I:=fun s:List Uc×List HelloWord=>WldOk ⟨s.1,s.2⟩) (J:=fun r=>WldOk r) ?_ (fun _ h=>h) (fun s h2=>?_)
  ·unfold F108_j1
   refine fin_inv (I:=fun s:List Uc×List HelloWord=>WldOk ⟨s.1,s.2⟩) (J:=fun r=>WldOk r) (K:=Lp.all (fun s:List Uc×List HelloWord=>WldOk ⟨s.1,s.2⟩) (fun r:Ub=>WldOk r)) (runL_inv _ _ (fun s hs=>?_) _ _ (wld_eta (side_ok _ (side_ok _ h1)))) (fun _ h=>h) (fun s hs=>hs)
   obtain ⟨a,b⟩:=s
   unfold F108_s1
   dsimp only
   cases decide ((b.length:Int)>0) with
   | true=>exact wld_eta (bring_ok' hs (Int.le_refl 0))
   | false=>exact hs
  ·obtain ⟨a,b⟩:=s
   exact side_ok _ (side_ok _ h2)
theorem round_ok (w:Ub) (h:F106 w=true):F106 (F108 w)=true:=(worldOk_iff _).2 (round_ok' ((worldOk_iff _).1 h))
end Go.Proofs.YtpecbmjjkfekbaaGreat
