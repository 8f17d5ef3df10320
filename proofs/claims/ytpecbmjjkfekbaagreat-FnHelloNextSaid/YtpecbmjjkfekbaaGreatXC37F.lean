/- The statement of FnHelloNext: for all arguments the law returns true, without further conditions. Texts put together: VHQ0, PHQ0, VHQ, PHQ, C37. -/
import Derived.Test.YtpecbmjjkfekbaaGreatRows
import Derived.Test.YtpecbmjjkfekbaaGreatXC37E
namespace Go.Proofs.YtpecbmjjkfekbaaGreat
open Go.RowKit
set_option maxRecDepth 100000
set_option linter.unusedVariables false
set_option linter.unusedSimpArgs false
theorem kc18l (X_:SV) (b_:List Int) (pp_:Int) {K_:Prop} (p0_:0<=pp_) (p1_:pp_<=200000000) (p2_:b_.length<=2000) (q0_:0<=pp_) (q1_:pp_<=200000000) (k_:(pp_<=(F18 ⟨b_,pp_⟩).2/\(F18 ⟨b_,pp_⟩).2<=pp_+8200)->K_):(0<=pp_/\pp_<=200000000/\b_.length<=2000)/\(sv X_=sv X_)/\(Imp (.l 1 eByte b_) (.l 1 eByte b_))/\(Imps ([.v (vI pp_)]) ([.v (vI pp_)]))/\K_:=⟨⟨p0_,p1_,p2_⟩,rfl,Imp.refl _,Imps.refl _,k_ (anyEnd_q (⟨b_,pp_⟩:l41Rd) q0_ q1_)⟩
abbrev kh18l (X_:SV) (g_:Nat) (b_:List Int) (pp_:Int):Hint true Tryz.prog:=.call 18 (S18 X_ g_ (⟨b_,pp_⟩:l41Rd)) (ok18 X_ g_ (⟨b_,pp_⟩:l41Rd)) none
def F5 (Ua:SV) (code:List Int):Ud :=
 (F18 ⟨(F19 Ua code).1.b,(F19 Ua code).1.p⟩).1
theorem fi5 (Ua:SV) (code:List Int) (r:Ud) (hF:r=(F5 Ua code)):((.int .i64 r.Name:Value)=.int .i64 (F5 Ua code).Name)/\((.int .i64 r.Peer:Value)=.int .i64 (F5 Ua code).Peer)/\(Imp (.l 2 eHelloKey r.Keys) (.l 2 eHelloKey (F5 Ua code).Keys))/\((.int .i64 r.Boot:Value)=.int .i64 (F5 Ua code).Boot)/\(Imp (.l 4 eHelloEntry r.Want) (.l 4 eHelloEntry (F5 Ua code).Want))/\((.int .i64 r.Turn:Value)=.int .i64 (F5 Ua code).Turn)/\((.int .i64 r.PeerBoot:Value)=.int .i64 (F5 Ua code).PeerBoot)/\((.int .i64 r.PeerTurn:Value)=.int .i64 (F5 Ua code).PeerTurn)/\((.bool r.Up:Value)=.bool (F5 Ua code).Up)/\((.int .i64 r.Left:Value)=.int .i64 (F5 Ua code).Left)/\((.int .i64 r.Num:Value)=.int .i64 (F5 Ua code).Num)/\((.int .i64 r.Under.Kind:Value)=.int .i64 (F5 Ua code).Under.Kind)/\((.int .i64 r.Under.Entry.Addr:Value)=.int .i64 (F5 Ua code).Under.Entry.Addr)/\((.int .i64 r.Under.Entry.Len:Value)=.int .i64 (F5 Ua code).Under.Entry.Len)/\((.int .i64 r.Under.Entry.Cost:Value)=.int .i64 (F5 Ua code).Under.Entry.Cost)/\((.int .i64 r.Under.Entry.Label:Value)=.int .i64 (F5 Ua code).Under.Entry.Label)/\(Imp (.l 4 eHelloEntry r.Told) (.l 4 eHelloEntry (F5 Ua code).Told))/\((.bool r.All:Value)=.bool (F5 Ua code).All)/\((.int .i64 r.Got:Value)=.int .i64 (F5 Ua code).Got)/\((.bool r.Full:Value)=.bool (F5 Ua code).Full)/\(Imp (.l 5 eHelloRoute r.Heard) (.l 5 eHelloRoute (F5 Ua code).Heard))/\((.int .i64 r.Keep:Value)=.int .i64 (F5 Ua code).Keep)/\True:=by cases hF; exact ⟨rfl,rfl,Imp.refl _,rfl,Imp.refl _,rfl,rfl,rfl,rfl,rfl,rfl,rfl,rfl,rfl,rfl,rfl,Imp.refl _,rfl,rfl,rfl,Imp.refl _,rfl,trivial⟩
def S5 (Ua:SV) (code:List Int):Spec:=⟨[.vl (sv Ua) (.l 1 eByte code)],.ag [.v (vI (F5 Ua code).Name),.v (vI (F5 Ua code).Peer),.ow (.l 2 eHelloKey (F5 Ua code).Keys),.v (vI (F5 Ua code).Boot),.ow (.l 4 eHelloEntry (F5 Ua code).Want),.v (vI (F5 Ua code).Turn),.v (vI (F5 Ua code).PeerBoot),.v (vI (F5 Ua code).PeerTurn),.v (.bool (F5 Ua code).Up),.v (vI (F5 Ua code).Left),.v (vI (F5 Ua code).Num),.v (vI (F5 Ua code).Under.Kind),.v (vI (F5 Ua code).Under.Entry.Addr),.v (vI (F5 Ua code).Under.Entry.Len),.v (vI (F5 Ua code).Under.Entry.Cost),.v (vI (F5 Ua code).Under.Entry.Label),.ow (.l 4 eHelloEntry (F5 Ua code).Told),.v (.bool (F5 Ua code).All),.v (vI (F5 Ua code).Got),.v (.bool (F5 Ua code).Full),.ow (.l 5 eHelloRoute (F5 Ua code).Heard),.v (vI (F5 Ua code).Keep)],True⟩
theorem ok5 (Ua:SV) (code:List Int):(S5 Ua code).ok Tryz.prog 5 :=
 fnG_ok mixed (fn:=Tryz.f5) (ct:=.seqk [(0,0)] .no (.seq (.rgs 2 [(1,.call 19 (S19 Ua code) (ok19 Ua code) none)] 4 0 1000001 (sv (F19 Ua code).2) (.l 1 eByte (F19 Ua code).1.b) [(0,kh18l (F19 Ua code).2 1000001 (F19 Ua code).1.b (F19 Ua code).1.p)]) .no)) Tryz.func5 (fun (_:True)=>kn code fun _=>ai trivial (ai (Eq.refl (sv Ua)) (ai (Imp.refl (.l 1 eByte code)) (have gv1:(F19 Ua code).1.b.length<=2000/\(F19 Ua code).1.p=0:=open_b Ua code; ai (Eq.refl (sv (F19 Ua code).2)) (ai (gd19 Ua code) (kc18l (F19 Ua code).2 (F19 Ua code).1.b (F19 Ua code).1.p uu0 uu0 uu0 uu0 uu0 (fun gv2=>fi5 Ua code (F18 ⟨(F19 Ua code).1.b,(F19 Ua code).1.p⟩).1 rfl))))))) uu3
theorem kc20 (e1:Ud) {K_:Prop} (p0_:EndFit e1) (k_:K_):(EndFit e1)/\(Imps (eHelloEnd e1) (eHelloEnd e1))/\K_:=⟨p0_,Imps.refl _,k_⟩
abbrev kh20 (e1:Ud):Hint false Tryz.prog:=.call 20 (S20 e1) (ok20 e1) none
def F6 (e1:Ud):HelloChange :=
 bif (!(F8 e1)) then (⟨0,(⟨0,0,0,0⟩:Ue)⟩:HelloChange) else (F20 e1)
theorem fi6 (e1:Ud) (r:HelloChange) (hF:r=(F6 e1)):((.int .i64 r.Kind:Value)=.int .i64 (F6 e1).Kind)/\((.int .i64 r.Entry.Addr:Value)=.int .i64 (F6 e1).Entry.Addr)/\((.int .i64 r.Entry.Len:Value)=.int .i64 (F6 e1).Entry.Len)/\((.int .i64 r.Entry.Cost:Value)=.int .i64 (F6 e1).Entry.Cost)/\((.int .i64 r.Entry.Label:Value)=.int .i64 (F6 e1).Entry.Label)/\True:=by cases hF; exact ⟨rfl,rfl,rfl,rfl,rfl,trivial⟩
def S6 (e1:Ud):Spec:=⟨[.r (.g (eHelloEnd e1))],.ag [.v (vI (F6 e1).Kind),.v (vI (F6 e1).Entry.Addr),.v (vI (F6 e1).Entry.Len),.v (vI (F6 e1).Entry.Cost),.v (vI (F6 e1).Entry.Label)],True⟩
theorem ok6 (e1:Ud):(S6 e1).ok Tryz.prog 6 false :=
 fnG_ok mixed (fn:=Tryz.f6) (ct:=.seq .no (.seq (.seq (.reg [(1,kh8l e1)]) (.cond (.seq .no .no) .no)) (.seq (.reg [(1,kh20 e1)]) .no))) Tryz.func6 (fun (_:True)=>kc8l e1 (ifb (!(F8 e1)) (fun h1=>fi6 e1 (⟨0,(⟨0,0,0,0⟩:Ue)⟩:HelloChange) (condT h1 rfl)) (fun h1=>have _:1<=e1.Keys.length/\e1.Keys.length<=3/\e1.Want.length<=8/\e1.Told.length<=8/\e1.Heard.length<=16:=endOk_T e1 (notEF h1); have _:EndFit e1:=endFitI e1 (notEF h1); kc20 e1 uu29 (fi6 e1 (F20 e1) (condF h1 rfl))))) uu3
theorem kc21 (e1:Ud) {K_:Prop} (k_:K_):(True)/\(Imps (eHelloEnd e1) (eHelloEnd e1))/\K_:=⟨trivial,Imps.refl _,k_⟩
abbrev kh21 (e1:Ud):Hint true Tryz.prog:=.call 21 (S21 e1) (ok21 e1) none
def F7 (e1:Ud):HelloChange :=
 bif (!(F9 e1)) then (⟨0,(⟨0,0,0,0⟩:Ue)⟩:HelloChange) else (F21 e1)
theorem fi7 (e1:Ud) (r:HelloChange) (hF:r=(F7 e1)):((.int .i64 r.Kind:Value)=.int .i64 (F7 e1).Kind)/\((.int .i64 r.Entry.Addr:Value)=.int .i64 (F7 e1).Entry.Addr)/\((.int .i64 r.Entry.Len:Value)=.int .i64 (F7 e1).Entry.Len)/\((.int .i64 r.Entry.Cost:Value)=.int .i64 (F7 e1).Entry.Cost)/\((.int .i64 r.Entry.Label:Value)=.int .i64 (F7 e1).Entry.Label)/\True:=by cases hF; exact ⟨rfl,rfl,rfl,rfl,rfl,trivial⟩
def S7 (e1:Ud):Spec:=⟨[.r (.g (eHelloEnd e1))],.ag [.v (vI (F7 e1).Kind),.v (vI (F7 e1).Entry.Addr),.v (vI (F7 e1).Entry.Len),.v (vI (F7 e1).Entry.Cost),.v (vI (F7 e1).Entry.Label)],True⟩
theorem ok7 (e1:Ud):(S7 e1).ok Tryz.prog 7 :=
 fnG_ok mixed (fn:=Tryz.f7) (ct:=.seq .no (.seq (.seq (.reg [(1,kh9l e1)]) (.cond (.seq .no .no) .no)) (.seq (.reg [(1,kh21 e1)]) .no))) Tryz.func7 (fun (_:True)=>kc9l e1 (ifb (!(F9 e1)) (fun h1=>fi7 e1 (⟨0,(⟨0,0,0,0⟩:Ue)⟩:HelloChange) (condT h1 rfl)) (fun h1=>have _:1<=e1.Keys.length/\e1.Keys.length<=3/\e1.Want.length<=8/\e1.Told.length<=8/\e1.Heard.length<=16:=endOkS_T e1 (notEF h1); have _:EndFit e1:=endFitS e1 (notEF h1); have _:0<=e1.Keep/\e1.Keep<=6/\0<=e1.Left/\e1.Left<=4:=endKeep e1 (notEF h1); kc21 e1 (fi7 e1 (F21 e1) (condF h1 rfl))))) uu3
def F10_j3 (table:List Ue) (c:HelloChange) (out1:List Ue) (put1:Bool) (i40:Int):Lp (List Ue×Bool) (List Ue) :=
 bif (bif (!put1) then (bif decide (c.Entry.Addr<(table.getD i40.toNat default).Addr) then true else (bif (c.Entry.Addr==(table.getD i40.toNat default).Addr) then decide (c.Entry.Len<=(table.getD i40.toNat default).Len) else false)) else false) then (.done ((out1++[c.Entry]),true)) else (.done (out1,put1))
def F10_s0 (table:List Ue) (c:HelloChange):(List Ue×Bool×Int)->Lp (List Ue×Bool×Int) (List Ue):=fun (out1,put1,i40) =>
 bif (decide (i40<(table.length:Int))) then ((F10_j3 table c out1 put1 i40).fin Lp.ret (fun (out2,put2)=>bif (bif ((table.getD i40.toNat default).Addr != c.Entry.Addr) then true else ((table.getD i40.toNat default).Len != c.Entry.Len)) then (.next ((out2++[(table.getD i40.toNat default)]),put2,(i40+1))) else (.next (out2,put2,(i40+1))))) else (.done (out1,put1,i40))
def F10_j0 (table:List Ue) (c:HelloChange):Lp (List Ue×Bool) (List Ue) :=
 (runL (F10_s0 table c) (((table.length:Int)-0).toNat+1) (([]:List Ue),(c.Kind != 1),0)).fin Lp.ret (fun (out1,put1,i40)=>.done (out1,put1))
def F10 (table:List Ue) (c:HelloChange):List Ue :=
 (F10_j0 table c).fin (fun r=>r) (fun (out,put)=>bif (!put) then (out++[c.Entry]) else out)
abbrev jI10_3 (table:List Ue) (c:HelloChange) (out1:List Ue) (put1:Bool) (i40:Int) (out2:List Ue) (put2:Bool):Prop:=(out2.length:Int)<=2*i40+1/\True
abbrev jJ10_3 (table:List Ue) (c:HelloChange) (out1:List Ue) (put1:Bool) (i40:Int) (j:List Ue×Bool):Prop:=(F10_j3 table c out1 put1 i40)=Lp.done j/\jI10_3 table c out1 put1 i40 j.1 j.2
theorem jn10_3 (table:List Ue) (c:HelloChange) (out1:List Ue) (put1:Bool) (i40:Int) (out2:List Ue) (put2:Bool) (e:(F10_j3 table c out1 put1 i40)=Lp.done (out2,put2)) (h:jI10_3 table c out1 put1 i40 out2 put2):∃ j:List Ue×Bool,((.bool put2:Value)=.bool j.2)/\((.int .i64 i40:Value)=.int .i64 i40)/\(Imp (.l 4 eHelloEntry table) (.l 4 eHelloEntry table))/\((.int .i64 c.Kind:Value)=.int .i64 c.Kind)/\((.int .i64 c.Entry.Addr:Value)=.int .i64 c.Entry.Addr)/\((.int .i64 c.Entry.Len:Value)=.int .i64 c.Entry.Len)/\((.int .i64 c.Entry.Cost:Value)=.int .i64 c.Entry.Cost)/\((.int .i64 c.Entry.Label:Value)=.int .i64 c.Entry.Label)/\(Imp (.l 4 eHelloEntry out2) (.l 4 eHelloEntry j.1))/\((.int .i64 (table.getD i40.toNat default).Addr:Value)=.int .i64 (table.getD i40.toNat default).Addr)/\((.int .i64 (table.getD i40.toNat default).Len:Value)=.int .i64 (table.getD i40.toNat default).Len)/\((.int .i64 (table.getD i40.toNat default).Cost:Value)=.int .i64 (table.getD i40.toNat default).Cost)/\((.int .i64 (table.getD i40.toNat default).Label:Value)=.int .i64 (table.getD i40.toNat default).Label)/\jJ10_3 table c out1 put1 i40 j:=⟨(out2,put2),rfl,rfl,Imp.refl _,rfl,rfl,rfl,rfl,rfl,Imp.refl _,rfl,rfl,rfl,rfl,e,h⟩
abbrev lN10_0 (table:List Ue) (c:HelloChange):Nat×(List Ue×Bool×Int):=((((table.length:Int)-0).toNat+1),(([]:List Ue),(c.Kind != 1),0))
abbrev lI10_0 (table:List Ue) (m39:Nat) (out1:List Ue) (put1:Bool) (i40:Int):Prop:=Int.toNat ((table.length:Int)-i40)<m39/\(out1.length:Int)<=2*i40/\i40<=(table.length:Int)/\(0:Int)<=i40
abbrev lX10_0 (table:List Ue) (c:HelloChange):Lp (List Ue×Bool×Int) (List Ue):=LpX (F10_s0 table c) (lN10_0 table c)
abbrev lJ10_0 (table:List Ue) (c:HelloChange) (i:Nat×(List Ue×Bool×Int)):Prop:=LpJ (F10_s0 table c) (lN10_0 table c) i (lI10_0 table i.1 i.2.1 i.2.2.1 i.2.2.2)
abbrev lH10_0 (table:List Ue) (c:HelloChange) (i:Nat×(List Ue×Bool×Int)) (m39:Nat) (out1:List Ue) (put1:Bool) (i40:Int):Prop:=LpH (F10_s0 table c) (lN10_0 table c) i m39 (out1,put1,i40) (lI10_0 table (m39+1) out1 put1 i40)
abbrev lE10_0 (table:List Ue) (c:HelloChange) (out1:List Ue) (put1:Bool) (i40:Int) (out1_:List Ue) (put1_:Bool) (i40_:Int) (K39:Prop):Prop:=((.bool put1:Value)=.bool put1_)/\((.int .i64 i40:Value)=.int .i64 i40_)/\(Im (.l 4 eHelloEntry table))/\(Rf (.int .i64 c.Kind))/\(Rf (.int .i64 c.Entry.Addr))/\(Rf (.int .i64 c.Entry.Len))/\(Rf (.int .i64 c.Entry.Cost))/\(Rf (.int .i64 c.Entry.Label))/\(Imp (.l 4 eHelloEntry out1) (.l 4 eHelloEntry out1_))/\K39
theorem un10_0 (table:List Ue) (c:HelloChange) (i:Nat×(List Ue×Bool×Int)) (h:lJ10_0 table c i):lH10_0 table c i (i.1-1) i.2.1 i.2.2.1 i.2.2.2:=⟨hd1 h.1 h.2.1,hd3 h.2.1,hd2 h.2.1,h.2.2⟩
theorem bk10_0 (table:List Ue) (c:HelloChange) (i:Nat×(List Ue×Bool×Int)) (m39:Nat) (out1:List Ue) (put1:Bool) (i40:Int) (hl:m39<i.1) (e:runL (F10_s0 table c) m39 (out1,put1,i40)=lX10_0 table c) (h:lI10_0 table m39 out1 put1 i40):∃ j:Nat×(List Ue×Bool×Int),lE10_0 table c out1 put1 i40 j.2.1 j.2.2.1 j.2.2.2 (lJ10_0 table c j/\j.1<i.1):=⟨(m39,(out1,put1,i40)),rfl,rfl,Imp.refl _,rfl,rfl,rfl,rfl,rfl,Imp.refl _,⟨e,h⟩,hl⟩
theorem en10_0 (table:List Ue) (c:HelloChange) (h:(([]:List Ue).length:Int)<=2*0/\0<=(table.length:Int)/\(0:Int)<=0):lE10_0 table c ([]:List Ue) (c.Kind != 1) 0 ([]:List Ue) (c.Kind != 1) 0 (lJ10_0 table c (lN10_0 table c)):=⟨rfl,rfl,Imp.refl _,rfl,rfl,rfl,rfl,rfl,Imp.refl _,rfl,Qq _,h⟩
abbrev jI10_0 (table:List Ue) (c:HelloChange) (out:List Ue) (put:Bool):Prop:=(out.length:Int)<=2000000000/\True
abbrev jJ10_0 (table:List Ue) (c:HelloChange) (j:List Ue×Bool):Prop:=(F10_j0 table c)=Lp.done j/\jI10_0 table c j.1 j.2
theorem jn10_0 (table:List Ue) (c:HelloChange) (out:List Ue) (put:Bool) (e:(F10_j0 table c)=Lp.done (out,put)) (h:jI10_0 table c out put):∃ j:List Ue×Bool,((.bool put:Value)=.bool j.2)/\((.int .i64 c.Kind:Value)=.int .i64 c.Kind)/\((.int .i64 c.Entry.Addr:Value)=.int .i64 c.Entry.Addr)/\((.int .i64 c.Entry.Len:Value)=.int .i64 c.Entry.Len)/\((.int .i64 c.Entry.Cost:Value)=.int .i64 c.Entry.Cost)/\((.int .i64 c.Entry.Label:Value)=.int .i64 c.Entry.Label)/\(Imp (.l 4 eHelloEntry out) (.l 4 eHelloEntry j.1))/\jJ10_0 table c j:=⟨(out,put),rfl,rfl,rfl,rfl,rfl,rfl,Imp.refl _,e,h⟩
theorem fi10 (table:List Ue) (c:HelloChange) (r:List Ue) (hF:r=(F10 table c)):(Imp (.l 4 eHelloEntry r) (.l 4 eHelloEntry (F10 table c)))/\True:=by cases hF; exact ⟨Imp.refl _,trivial⟩
def S10 (table:List Ue) (c:HelloChange):Spec:=⟨[.r (.c (.l 4 eHelloEntry table)),.r (.g (eHelloChange c))],.ow (.l 4 eHelloEntry (F10 table c)),table.length<=1000000000⟩
theorem ok10 (table:List Ue) (c:HelloChange):(S10 table c).ok Tryz.prog 10 :=
 fnG_ok mixed (fn:=Tryz.f10) (ct:=.seqk [(0,0)] .no (.seq (.reg [(0,.dat (.l 4 eHelloEntry ([]:List Ue)))]) (.seq .no (.cut (ι:=List Ue×Bool) (fun j=>(fun (out:List Ue) (put:Bool)=>(⟨[(3,some (.p 0 0)),(5,some (.h 1 0)),(6,some (.v (.bool put)))],[(0,some (.box 28 [.v (vI c.Kind),.v (vI c.Entry.Addr),.v (vI c.Entry.Len),.v (vI c.Entry.Cost),.v (vI c.Entry.Label)])),(1,some (.own 1 (.l 4 eHelloEntry out)))],2⟩:St)) j.1 j.2) (jJ10_0 table c) (.seqk [(0,0),(5,0)] .no (.blk (.loop (ι:=Nat×(List Ue×Bool×Int)) (fun i=>(fun (out1:List Ue) (put1:Bool) (i40:Int)=>(⟨[(0,some (.h 0 0)),(3,some (.p 1 0)),(5,some (.h 2 0)),(6,some (.v (.bool put1))),(7,some (.v (vI i40)))],[(0,some (.shr none (.l 4 eHelloEntry table))),(1,some (.box 28 [.v (vI c.Kind),.v (vI c.Entry.Addr),.v (vI c.Entry.Len),.v (vI c.Entry.Cost),.v (vI c.Entry.Label)])),(2,some (.own 2 (.l 4 eHelloEntry out1)))],3⟩:St)) i.2.1 i.2.2.1 i.2.2.2) (lJ10_0 table c) (fun i=>i.1) (lN10_0 table c) (fun i=>(fun (out1:List Ue) (put1:Bool) (i40:Int)=>(.seq (.seq .no (.cond .no .no)) (.seq (.blk (.seq .no (.cut (ι:=List Ue×Bool) (fun j=>(fun (out2:List Ue) (put2:Bool)=>(⟨[(0,some (.h 0 0)),(3,some (.p 1 0)),(5,some (.h 2 0)),(6,some (.v (.bool put2))),(7,some (.v (vI i40))),(8,some (.p 3 0))],[(0,some (.shr none (.l 4 eHelloEntry table))),(1,some (.box 28 [.v (vI c.Kind),.v (vI c.Entry.Addr),.v (vI c.Entry.Len),.v (vI c.Entry.Cost),.v (vI c.Entry.Label)])),(2,some (.own 2 (.l 4 eHelloEntry out2))),(3,some (.box 26 [.v (vI (table.getD i40.toNat default).Addr),.v (vI (table.getD i40.toNat default).Len),.v (vI (table.getD i40.toNat default).Cost),.v (vI (table.getD i40.toNat default).Label)]))],4⟩:St)) j.1 j.2) (jJ10_3 table c out1 put1 i40) (.seq .no (.cond (.seq (.reg [(4,.dat (.l 4 eHelloEntry (out1++[c.Entry])))]) .no) .no)) (fun j=>(fun (out2:List Ue) (put2:Bool)=>(.seq .no (.cond (.reg [(3,.dat (.l 4 eHelloEntry (out2++[(table.getD i40.toNat default)])))]) .no))) j.1 j.2)))) (.reg [(1,.bnd)])))) i.2.1 i.2.2.1 i.2.2.2)))) (fun j=>(fun (out:List Ue) (put:Bool)=>(.seq (.seq .no (.cond (.reg [(4,.dat (.l 4 eHelloEntry (out++[c.Entry])))]) .no)) (.seq .no .no))) j.1 j.2))))) Tryz.func10 (fun (hpre0:table.length<=1000000000)=>kn table fun _=>ai (bokr 4 eHelloEntry ([]:List Ue) fun _=>rfl) (ai (kn table fun _=>kn ([]:List Ue) fun _=>ai (en10_0 table c uu18) (fun (i0:Nat×(List Ue×Bool×Int)) (hi0:lJ10_0 table c i0)=>(fun (m0:Nat) (out1:List Ue) (put1:Bool) (i40:Int) (hh0:lH10_0 table c i0 m0 out1 put1 i40)=>have hI0:=hh0.1; have hl0:=hh0.2.1; have _:=hh0.2.2.1; have _:=hh0.2.2.2; ifd (i40<(table.length:Int)) (fun h2 _=>ai (uu1:ib i40 table) (ai (ifb (bif (!put1) then (bif decide (c.Entry.Addr<(table.getD i40.toNat default).Addr) then true else (bif (c.Entry.Addr==(table.getD i40.toNat default).Addr) then decide (c.Entry.Len<=(table.getD i40.toNat default).Len) else false)) else false) (fun h3=>have _:=(notET (andT1 h3)); ai (appr 4 eHelloEntry out1 [c.Entry] fun _=>rfl) (ai (uu6:(out1++[c.Entry]).length*32<=140737488355328) (jn10_3 table c out1 put1 i40 (out1++[c.Entry]) true (Ri (condT h3 rfl)) uu22))) (fun h3=>jn10_3 table c out1 put1 i40 out1 put1 (Ri (condF h3 rfl)) uu22)) (fun (j:List Ue×Bool) (hj:jJ10_3 table c out1 put1 i40 j)=>(fun (out2:List Ue) (put2:Bool) (hJ3_4:(F10_j3 table c out1 put1 i40)=Lp.done (out2,put2)) (hw:jI10_3 table c out1 put1 i40 out2 put2)=>have _:=hw.1; ifb (bif ((table.getD i40.toNat default).Addr != c.Entry.Addr) then true else ((table.getD i40.toNat default).Len != c.Entry.Len)) (fun h5=>ai (appr 4 eHelloEntry out2 [(table.getD i40.toNat default)] fun _=>rfl) (ai (uu6:(out2++[(table.getD i40.toNat default)]).length*32<=140737488355328) (ai (iok (i40+1) uu1) (bk10_0 table c i0 m0 (out2++[(table.getD i40.toNat default)]) put2 (i40+1) hl0 (runL_next hI0 (condT h2 (finD hJ3_4 (condT h5 rfl)))) uu28)))) (fun h5=>have _:=bneF (orF1 h5); have _:=bneF (orF2 h5); ai (iok (i40+1) uu1) (bk10_0 table c i0 m0 out2 put2 (i40+1) hl0 (runL_next hI0 (condT h2 (finD hJ3_4 (condF h5 rfl)))) uu28))) j.1 j.2 hj.1 hj.2))) (fun h2 _=>have hD0_6:lX10_0 table c=Lp.done (out1,put1,i40):=runL_done hI0 (condF h2 rfl); jn10_0 table c out1 put1 (Ri (finD hD0_6 rfl)) uu22)) (i0.1-1) i0.2.1 i0.2.2.1 i0.2.2.2 (un10_0 table c i0 hi0))) (fun (j:List Ue×Bool) (hj:jJ10_0 table c j)=>(fun (out:List Ue) (put:Bool) (hJ0_7:(F10_j0 table c)=Lp.done (out,put)) (hw:jI10_0 table c out put)=>have _:=hw.1; ifb (!put) (fun h8=>have _:=(notET h8); ai (appr 4 eHelloEntry out [c.Entry] fun _=>rfl) (ai (uu6:(out++[c.Entry]).length*32<=140737488355328) (fi10 table c (out++[c.Entry]) (finD hJ0_7 (condT h8 rfl))))) (fun h8=>have _:=(notEF h8); fi10 table c out (finD hJ0_7 (condF h8 rfl)))) j.1 j.2 hj.1 hj.2))) uu3
def F11_s0 (a:List Ue) (b:List Ue):Int->Lp Int Bool:=fun i40 =>
 bif (decide (i40<(a.length:Int))) then (bif (!(((a.getD i40.toNat default).Addr==(b.getD i40.toNat default).Addr)&&(((a.getD i40.toNat default).Len==(b.getD i40.toNat default).Len)&&(((a.getD i40.toNat default).Cost==(b.getD i40.toNat default).Cost)&&((a.getD i40.toNat default).Label==(b.getD i40.toNat default).Label))))) then (.ret false) else (.next (i40+1))) else (.done i40)
def F11 (a:List Ue) (b:List Ue):Bool :=
 bif ((a.length:Int) != (b.length:Int)) then false else ((runL (F11_s0 a b) (((a.length:Int)-0).toNat+1) 0).fin (fun r=>r) (fun i40=>true))
abbrev lN11_0 (a:List Ue):Nat×Int:=((((a.length:Int)-0).toNat+1),0)
abbrev lI11_0 (a:List Ue) (m39:Nat) (i40:Int):Prop:=Int.toNat ((a.length:Int)-i40)<m39/\(0:Int)<=i40
abbrev lX11_0 (a:List Ue) (b:List Ue):Lp Int Bool:=LpX (F11_s0 a b) (lN11_0 a)
abbrev lJ11_0 (a:List Ue) (b:List Ue) (i:Nat×Int):Prop:=LpJ (F11_s0 a b) (lN11_0 a) i (lI11_0 a i.1 i.2)
abbrev lH11_0 (a:List Ue) (b:List Ue) (i:Nat×Int) (m39:Nat) (i40:Int):Prop:=LpH (F11_s0 a b) (lN11_0 a) i m39 i40 (lI11_0 a (m39+1) i40)
abbrev lE11_0 (a:List Ue) (b:List Ue) (i40:Int) (i40_:Int) (K39:Prop):Prop:=((.int .i64 i40:Value)=.int .i64 i40_)/\(Im (.l 4 eHelloEntry a))/\(Im (.l 4 eHelloEntry b))/\K39
theorem un11_0 (a:List Ue) (b:List Ue) (i:Nat×Int) (h:lJ11_0 a b i):lH11_0 a b i (i.1-1) i.2:=⟨hd1 h.1 h.2.1,hd3 h.2.1,hd2 h.2.1,h.2.2⟩
theorem bk11_0 (a:List Ue) (b:List Ue) (i:Nat×Int) (m39:Nat) (i40:Int) (hl:m39<i.1) (e:runL (F11_s0 a b) m39 i40=lX11_0 a b) (h:lI11_0 a m39 i40):∃ j:Nat×Int,lE11_0 a b i40 j.2 (lJ11_0 a b j/\j.1<i.1):=⟨(m39,i40),rfl,Imp.refl _,Imp.refl _,⟨e,h⟩,hl⟩
theorem en11_0 (a:List Ue) (b:List Ue) (h:(0:Int)<=0):lE11_0 a b 0 0 (lJ11_0 a b (lN11_0 a)):=⟨rfl,Imp.refl _,Imp.refl _,rfl,Qq _,h⟩
def S11 (a:List Ue) (b:List Ue):Spec:=⟨[.r (.c (.l 4 eHelloEntry a)),.r (.c (.l 4 eHelloEntry b))],.v (.bool (F11 a b)),True⟩
abbrev q11_1 (a:List Ue) (i40:Int):=(a.getD i40.toNat default)
abbrev q11_2 (b:List Ue) (i40:Int):=(b.getD i40.toNat default)
theorem ok11 (a:List Ue) (b:List Ue):(S11 a b).ok Tryz.prog 11 :=
 fnG_ok mixed (fn:=Tryz.f11) (ct:=.seqk [(0,0),(1,0)] .no (.seq (.seq .no (.cond (.seq .no .no) .no)) (.seq (.seqk [(0,0),(1,0)] .no (.blk (.loop (ι:=Nat×Int) (fun i=>(fun (i40:Int)=>(⟨[(0,some (.h 0 0)),(1,some (.h 1 0)),(5,some (.v (vI i40)))],[(0,some (.shr none (.l 4 eHelloEntry a))),(1,some (.shr none (.l 4 eHelloEntry b)))],2⟩:St)) i.2) (lJ11_0 a b) (fun i=>i.1) (lN11_0 a) (fun i=>(fun (i40:Int)=>(.seq (.seq .no (.cond .no .no)) (.seq (.blk (.seq (.reg [(8,.bin .neq 26 (.agg #[.int .i64 (q11_1 a i40).Addr,.int .i64 (q11_1 a i40).Len,.int .i64 (q11_1 a i40).Cost,.int .i64 (q11_1 a i40).Label]) (.agg #[.int .i64 (q11_2 b i40).Addr,.int .i64 (q11_2 b i40).Len,.int .i64 (q11_2 b i40).Cost,.int .i64 (q11_2 b i40).Label]) (.bool (!(((q11_1 a i40).Addr==(q11_2 b i40).Addr)&&(((q11_1 a i40).Len==(q11_2 b i40).Len)&&(((q11_1 a i40).Cost==(q11_2 b i40).Cost)&&((q11_1 a i40).Label==(q11_2 b i40).Label)))))) rfl (neqT26 (q11_1 a i40).Addr (q11_2 b i40).Addr (q11_1 a i40).Len (q11_2 b i40).Len (q11_1 a i40).Cost (q11_2 b i40).Cost (q11_1 a i40).Label (q11_2 b i40).Label))]) (.cond (.seq .no .no) .no))) (.reg [(1,.bnd)])))) i.2)))) (.seq .no .no)))) Tryz.func11 (fun (_:True)=>kn a fun _=>kn b fun _=>ifn (a.length:Int) (b.length:Int) (fun h1 _=>fiB false (F11 a b) (condT h1 rfl)) (fun h1 _=>kn a fun _=>kn b fun _=>ai (en11_0 a b uu0) (fun (i0:Nat×Int) (hi0:lJ11_0 a b i0)=>(fun (m0:Nat) (i40:Int) (hh0:lH11_0 a b i0 m0 i40)=>have hI0:=hh0.1; have hl0:=hh0.2.1; have _:=hh0.2.2.1; have _:=hh0.2.2.2; ifd (i40<(a.length:Int)) (fun h3 _=>ai (uu0:ib i40 a) (ai (uu0:ib i40 b) (ai (Eq.refl (.agg #[.int .i64 (q11_1 a i40).Addr,.int .i64 (q11_1 a i40).Len,.int .i64 (q11_1 a i40).Cost,.int .i64 (q11_1 a i40).Label]:Value)) (ai (Eq.refl (.agg #[.int .i64 (q11_2 b i40).Addr,.int .i64 (q11_2 b i40).Len,.int .i64 (q11_2 b i40).Cost,.int .i64 (q11_2 b i40).Label]:Value)) (ifb (!(((q11_1 a i40).Addr==(q11_2 b i40).Addr)&&(((q11_1 a i40).Len==(q11_2 b i40).Len)&&(((q11_1 a i40).Cost==(q11_2 b i40).Cost)&&((q11_1 a i40).Label==(q11_2 b i40).Label))))) (fun h4=>fiB false (F11 a b) (condF h1 (finR (runL_ret hI0 (condT h3 (condT h4 rfl))) rfl))) (fun h4=>ai (iok (i40+1) uu0) (bk11_0 a b i0 m0 (i40+1) hl0 (runL_next hI0 (condT h3 (condF h4 rfl))) uu7))))))) (fun h3 _=>have hD0_5:lX11_0 a b=Lp.done i40:=runL_done hI0 (condF h3 rfl); fiB true (F11 a b) (condF h1 (finD hD0_5 rfl)))) (i0.1-1) i0.2 (un11_0 a b i0 hi0)))) uu3
def midW (e:Ue) (s:List Ue×Bool) (x:Ue):List Ue×Bool :=
 bif (bif (!s.2) then (bif decide (e.Addr<x.Addr) then true else (bif (e.Addr==x.Addr) then decide (e.Len<=x.Len) else false)) else false) then (s.1++[e],true) else s
def stepW (e:Ue) (s:List Ue×Bool) (x:Ue):List Ue×Bool :=
 bif (bif (x.Addr != e.Addr) then true else (x.Len != e.Len)) then ((midW e s x).1++[x],(midW e s x).2) else midW e s x
def otherP (e x:Ue):Bool:=!(sameP x e)
def putP (e:Ue):List Ue->List Ue
 | []=>[e]
 | x :: xs=>bif F60 x e then x :: putP e xs else e :: (x :: xs).filter (otherP e)
theorem putP_cons (e x:Ue) (xs:List Ue):putP e (x :: xs)=bif F60 x e then x :: putP e xs else e :: (x :: xs).filter (otherP e):=rfl
theorem ne_W (e x:Ue):(bif (x.Addr != e.Addr) then true else (x.Len != e.Len))=otherP e x:=by
 unfold otherP sameP
 rw [bne,bne]
 cases (x.Addr==e.Addr) <;> rfl
theorem le_W (e x:Ue):(bif decide (e.Addr<x.Addr) then true else (bif (e.Addr==x.Addr) then decide (e.Len<=x.Len) else false))=!(F60 x e):=by
 unfold F60
 rw [T7]
 simp only [Rl,Rd,Ti,Qh,Rn,Ts,Sc,R9,Gc,Se,Tp,ne_eq]
 omega
theorem fold_T (e:Ue):∀ (t:List Ue) (out:List Ue),t.foldl (stepW e) (out,true)=(out++t.filter (otherP e),true)
 | [],out=>by simp
 | x :: xs,out=>by
  have hs:stepW e (out,true) x=(bif otherP e x then out++[x] else out,true):=by
   unfold stepW midW
   rw [ne_W]
   cases otherP e x <;> rfl
  rw [Gf,hs,fold_T e xs,R4]
  cases otherP e x <;> simp
theorem fold_F (e:Ue):∀ (t:List Ue) (out:List Ue),(bif !(t.foldl (stepW e) (out,false)).2 then (t.foldl (stepW e) (out,false)).1++[e] else (t.foldl (stepW e) (out,false)).1)=out++putP e t
 | [],out=>rfl
 | x :: xs,out=>by
  rw [Gf]
  cases hl:F60 x e with
  | true =>
   have hs:stepW e (out,false) x=(out++[x],false):=by
    unfold stepW midW
    rw [ne_W,le_W,hl]
    have:otherP e x=true:=by unfold otherP; rw [less_same hl]; rfl
    rw [this]; rfl
   rw [hs,fold_F e xs]
   rw [putP_cons]
   rw [hl,Qd,Qp]; rfl
  | false =>
   have hs:stepW e (out,false) x=(bif otherP e x then out++[e]++[x] else out++[e],true):=by
    unfold stepW midW
    rw [ne_W,le_W,hl]
    cases otherP e x <;> rfl
   rw [hs,fold_T]
   rw [putP_cons]
   rw [hl,Qi,R4]
   cases otherP e x <;> simp
theorem wapply_eq (t:List Ue) (c:HelloChange):F10 t c=bif (c.Kind != 1) then t.filter (otherP c.Entry) else putP c.Entry t:=by
 have hr:=runL_rule (step:=F10_s0 t c) (fun (k:Nat) (s:List Ue×Bool)=>(s.1,s.2,(k:Int))) t.length (fun k s=>s=(t.take k).foldl (stepW c.Entry) ([],(c.Kind != 1))) (fun _=>False)
  (fun k s hk hI=>.inl ⟨stepW c.Entry s (t.getD k default),by
   obtain ⟨out,put⟩:=s
   simp only [F10_s0,ltD hk,Qd,nn,F10_j3]
   unfold stepW midW
   dsimp only
   generalize (bif (!put) then (bif decide (c.Entry.Addr<(t.getD k default).Addr) then true else (bif (c.Entry.Addr==(t.getD k default).Addr) then decide (c.Entry.Len<=(t.getD k default).Len) else false)) else false)=b1
   generalize (bif ((t.getD k default).Addr != c.Entry.Addr) then true else ((t.getD k default).Len != c.Entry.Len))=b2
   cases b1 <;> cases b2 <;> rfl,by rw [hI,take_next hk,List.foldl_append]; rfl⟩)
  (fun s _=>by simp [F10_s0])
  t.length 0 ([],(c.Kind != 1)) uu0 rfl (Int.toNat ((t.length:Int)-0)+1) uu0
 rcases hr with ⟨s,hr,hI⟩ | ⟨_,_,hr⟩
 ·have hr':runL (F10_s0 t c) (Int.toNat ((t.length:Int)-0)+1) (([]:List Ue),(c.Kind != 1),0)=_:=hr
  unfold F10 F10_j0
  rw [hr']
  simp only [Lp.fin]
  rw [hI,List.take_length]
  cases (c.Kind != 1) with
  | true=>rw [fold_T]; rfl
  | false=>exact fold_F c.Entry t []
 ·exact hr.elim
theorem putP_len (e:Ue):∀ t:List Ue,(putP e t).length<=t.length+1
 | []=>Qn _
 | x :: xs=>by
  rw [putP_cons]
  have ih:=putP_len e xs
  have hf:=List.length_filter_le (otherP e) (x :: xs)
  cases F60 x e
  ·rw [Qi,Q2]; omega
  ·rw [Qd,Q2,Q2]; omega
theorem wapply_len (table:List Ue) (c:HelloChange):(F10 table c).length<=table.length+1:=by
 rw [wapply_eq]
 cases (c.Kind != 1)
 ·exact putP_len _ _
 ·exact Nat.le_succ_of_le (List.length_filter_le _ _)
theorem kc6 (e1:Ud) {K_:Prop} (k_:K_):(True)/\(Imps (eHelloEnd e1) (eHelloEnd e1))/\K_:=⟨trivial,Imps.refl _,k_⟩
abbrev kh6 (e1:Ud):Hint false Tryz.prog:=.call 6 (S6 e1) (ok6 e1) none
theorem kc7 (e1:Ud) {K_:Prop} (k_:K_):(True)/\(Imps (eHelloEnd e1) (eHelloEnd e1))/\K_:=⟨trivial,Imps.refl _,k_⟩
abbrev kh7f (e1:Ud):Hint false Tryz.prog:=.call 7 (S7 e1) ((ok7 e1).to false) none
theorem neqT28 (x0 y0:Int) (x1 y1:Int) (x2 y2:Int) (x3 y3:Int) (x4 y4:Int) (p q:Operand) (w:World):(do eqGuard .neq 28 p q (.agg #[.int .i64 x0,.int .i64 x1,.int .i64 x2,.int .i64 x3,.int .i64 x4]) (.agg #[.int .i64 y0,.int .i64 y1,.int .i64 y2,.int .i64 y3,.int .i64 y4]); binOp .neq 28 (.agg #[.int .i64 x0,.int .i64 x1,.int .i64 x2,.int .i64 x3,.int .i64 x4]) (.agg #[.int .i64 y0,.int .i64 y1,.int .i64 y2,.int .i64 y3,.int .i64 y4])).run Tryz.prog w=.ok (.bool (!((x0==y0)&&((x1==y1)&&((x2==y2)&&((x3==y3)&&(x4==y4))))))) w:=by
 by_cases h0:x0=y0
 case neg=>simp [go_sem,h0]
 by_cases h1:x1=y1
 case neg=>simp [go_sem,h0,h1]
 by_cases h2:x2=y2
 case neg=>simp [go_sem,h0,h1,h2]
 by_cases h3:x3=y3
 case neg=>simp [go_sem,h0,h1,h2,h3]
 by_cases h4:x4=y4
 case neg=>simp [go_sem,h0,h1,h2,h3,h4]
 simp [go_sem,h0,h1,h2,h3,h4]
theorem kg8l {K_:Prop} (c_ b_:Bool) (e1:Ud) (k_:K_):(c_=b_->True)/\(c_=b_->Imps (eHelloEnd e1) (eHelloEnd e1))/\K_:=⟨fun _=>trivial,fun _=>Imps.refl _,k_⟩
theorem kg9l {K_:Prop} (c_ b_:Bool) (e1:Ud) (k_:K_):(c_=b_->True)/\(c_=b_->Imps (eHelloEnd e1) (eHelloEnd e1))/\K_:=⟨fun _=>trivial,fun _=>Imps.refl _,k_⟩
abbrev kh9lf (e1:Ud):Hint false Tryz.prog:=.call 9 (S9 e1) ((ok9 e1).to false) none
theorem eqlT28 (x0 y0:Int) (x1 y1:Int) (x2 y2:Int) (x3 y3:Int) (x4 y4:Int) (p q:Operand) (w:World):(do eqGuard .eql 28 p q (.agg #[.int .i64 x0,.int .i64 x1,.int .i64 x2,.int .i64 x3,.int .i64 x4]) (.agg #[.int .i64 y0,.int .i64 y1,.int .i64 y2,.int .i64 y3,.int .i64 y4]); binOp .eql 28 (.agg #[.int .i64 x0,.int .i64 x1,.int .i64 x2,.int .i64 x3,.int .i64 x4]) (.agg #[.int .i64 y0,.int .i64 y1,.int .i64 y2,.int .i64 y3,.int .i64 y4])).run Tryz.prog w=.ok (.bool ((x0==y0)&&((x1==y1)&&((x2==y2)&&((x3==y3)&&(x4==y4)))))) w:=by
 by_cases h0:x0=y0
 case neg=>simp [go_sem,h0]
 by_cases h1:x1=y1
 case neg=>simp [go_sem,h0,h1]
 by_cases h2:x2=y2
 case neg=>simp [go_sem,h0,h1,h2]
 by_cases h3:x3=y3
 case neg=>simp [go_sem,h0,h1,h2,h3]
 by_cases h4:x4=y4
 case neg=>simp [go_sem,h0,h1,h2,h3,h4]
 simp [go_sem,h0,h1,h2,h3,h4]
theorem kg11 {K_:Prop} (c_ b_:Bool) (a:List Ue) (b:List Ue) (k_:K_):(c_=b_->True)/\(c_=b_->Imp (.l 4 eHelloEntry a) (.l 4 eHelloEntry a))/\(c_=b_->Imp (.l 4 eHelloEntry b) (.l 4 eHelloEntry b))/\K_:=⟨fun _=>trivial,fun _=>Imp.refl _,fun _=>Imp.refl _,k_⟩
abbrev kh11f (a:List Ue) (b:List Ue):Hint false Tryz.prog:=.call 11 (S11 a b) ((ok11 a b).to false) none
def F3_j3 (Ua:SV) (code:List Int) (n:Int) (c5:Int) (c6:Int) (c7:Int) (c8:Int) (c9:Int) (x11:List Ue) (x12:Bool):Lp (List Ue×Bool) Bool :=
 bif (c5==3) then (.done (x11,true)) else (.done ((F10 x11 ⟨c5,(⟨c6,c7,c8,c9⟩:Ue)⟩),x12))
def F3_s0 (Ua:SV) (code:List Int):(Int×Int×Int×Int×Int×Int×List Ue×Bool)->Lp (Int×Int×Int×Int×Int×Int×List Ue×Bool) Bool:=fun (n,c5,c6,c7,c8,c9,x11,x12) =>
 bif (bif decide (n>0) then decide (c5>0) else false) then ((F3_j3 Ua code n c5 c6 c7 c8 c9 x11 x12).fin Lp.ret (fun (x13,x14)=>.next ((n-1),(F6 ⟨(F5 Ua code).Name,(F5 Ua code).Peer,(F5 Ua code).Keys,(F5 Ua code).Boot,(F5 Ua code).Want,(F5 Ua code).Turn,(F5 Ua code).PeerBoot,(F5 Ua code).PeerTurn,(F5 Ua code).Up,(F5 Ua code).Left,(F5 Ua code).Num,(⟨0,(⟨0,0,0,0⟩:Ue)⟩:HelloChange),x13,x14,(F5 Ua code).Got,(F5 Ua code).Full,(F5 Ua code).Heard,(F5 Ua code).Keep⟩).Kind,(F6 ⟨(F5 Ua code).Name,(F5 Ua code).Peer,(F5 Ua code).Keys,(F5 Ua code).Boot,(F5 Ua code).Want,(F5 Ua code).Turn,(F5 Ua code).PeerBoot,(F5 Ua code).PeerTurn,(F5 Ua code).Up,(F5 Ua code).Left,(F5 Ua code).Num,(⟨0,(⟨0,0,0,0⟩:Ue)⟩:HelloChange),x13,x14,(F5 Ua code).Got,(F5 Ua code).Full,(F5 Ua code).Heard,(F5 Ua code).Keep⟩).Entry.Addr,(F6 ⟨(F5 Ua code).Name,(F5 Ua code).Peer,(F5 Ua code).Keys,(F5 Ua code).Boot,(F5 Ua code).Want,(F5 Ua code).Turn,(F5 Ua code).PeerBoot,(F5 Ua code).PeerTurn,(F5 Ua code).Up,(F5 Ua code).Left,(F5 Ua code).Num,(⟨0,(⟨0,0,0,0⟩:Ue)⟩:HelloChange),x13,x14,(F5 Ua code).Got,(F5 Ua code).Full,(F5 Ua code).Heard,(F5 Ua code).Keep⟩).Entry.Len,(F6 ⟨(F5 Ua code).Name,(F5 Ua code).Peer,(F5 Ua code).Keys,(F5 Ua code).Boot,(F5 Ua code).Want,(F5 Ua code).Turn,(F5 Ua code).PeerBoot,(F5 Ua code).PeerTurn,(F5 Ua code).Up,(F5 Ua code).Left,(F5 Ua code).Num,(⟨0,(⟨0,0,0,0⟩:Ue)⟩:HelloChange),x13,x14,(F5 Ua code).Got,(F5 Ua code).Full,(F5 Ua code).Heard,(F5 Ua code).Keep⟩).Entry.Cost,(F6 ⟨(F5 Ua code).Name,(F5 Ua code).Peer,(F5 Ua code).Keys,(F5 Ua code).Boot,(F5 Ua code).Want,(F5 Ua code).Turn,(F5 Ua code).PeerBoot,(F5 Ua code).PeerTurn,(F5 Ua code).Up,(F5 Ua code).Left,(F5 Ua code).Num,(⟨0,(⟨0,0,0,0⟩:Ue)⟩:HelloChange),x13,x14,(F5 Ua code).Got,(F5 Ua code).Full,(F5 Ua code).Heard,(F5 Ua code).Keep⟩).Entry.Label,x13,x14))) else (.done (n,c5,c6,c7,c8,c9,x11,x12))
def F3_j0 (Ua:SV) (code:List Int):Lp (Int×Int×Int×Int×Int×List Ue×Bool) Bool :=
 (runL (F3_s0 Ua code) (((((F5 Ua code).Told.length:Int)+((F5 Ua code).Want.length:Int))+1).toNat+1) (((((F5 Ua code).Told.length:Int)+((F5 Ua code).Want.length:Int))+1),(F6 ⟨(F5 Ua code).Name,(F5 Ua code).Peer,(F5 Ua code).Keys,(F5 Ua code).Boot,(F5 Ua code).Want,(F5 Ua code).Turn,(F5 Ua code).PeerBoot,(F5 Ua code).PeerTurn,(F5 Ua code).Up,(F5 Ua code).Left,(F5 Ua code).Num,(⟨0,(⟨0,0,0,0⟩:Ue)⟩:HelloChange),(F5 Ua code).Told,(F5 Ua code).All,(F5 Ua code).Got,(F5 Ua code).Full,(F5 Ua code).Heard,(F5 Ua code).Keep⟩).Kind,(F6 ⟨(F5 Ua code).Name,(F5 Ua code).Peer,(F5 Ua code).Keys,(F5 Ua code).Boot,(F5 Ua code).Want,(F5 Ua code).Turn,(F5 Ua code).PeerBoot,(F5 Ua code).PeerTurn,(F5 Ua code).Up,(F5 Ua code).Left,(F5 Ua code).Num,(⟨0,(⟨0,0,0,0⟩:Ue)⟩:HelloChange),(F5 Ua code).Told,(F5 Ua code).All,(F5 Ua code).Got,(F5 Ua code).Full,(F5 Ua code).Heard,(F5 Ua code).Keep⟩).Entry.Addr,(F6 ⟨(F5 Ua code).Name,(F5 Ua code).Peer,(F5 Ua code).Keys,(F5 Ua code).Boot,(F5 Ua code).Want,(F5 Ua code).Turn,(F5 Ua code).PeerBoot,(F5 Ua code).PeerTurn,(F5 Ua code).Up,(F5 Ua code).Left,(F5 Ua code).Num,(⟨0,(⟨0,0,0,0⟩:Ue)⟩:HelloChange),(F5 Ua code).Told,(F5 Ua code).All,(F5 Ua code).Got,(F5 Ua code).Full,(F5 Ua code).Heard,(F5 Ua code).Keep⟩).Entry.Len,(F6 ⟨(F5 Ua code).Name,(F5 Ua code).Peer,(F5 Ua code).Keys,(F5 Ua code).Boot,(F5 Ua code).Want,(F5 Ua code).Turn,(F5 Ua code).PeerBoot,(F5 Ua code).PeerTurn,(F5 Ua code).Up,(F5 Ua code).Left,(F5 Ua code).Num,(⟨0,(⟨0,0,0,0⟩:Ue)⟩:HelloChange),(F5 Ua code).Told,(F5 Ua code).All,(F5 Ua code).Got,(F5 Ua code).Full,(F5 Ua code).Heard,(F5 Ua code).Keep⟩).Entry.Cost,(F6 ⟨(F5 Ua code).Name,(F5 Ua code).Peer,(F5 Ua code).Keys,(F5 Ua code).Boot,(F5 Ua code).Want,(F5 Ua code).Turn,(F5 Ua code).PeerBoot,(F5 Ua code).PeerTurn,(F5 Ua code).Up,(F5 Ua code).Left,(F5 Ua code).Num,(⟨0,(⟨0,0,0,0⟩:Ue)⟩:HelloChange),(F5 Ua code).Told,(F5 Ua code).All,(F5 Ua code).Got,(F5 Ua code).Full,(F5 Ua code).Heard,(F5 Ua code).Keep⟩).Entry.Label,(F5 Ua code).Told,(F5 Ua code).All)).fin Lp.ret (fun (n,c5,c6,c7,c8,c9,x11,x12)=>.done (c5,c6,c7,c8,c9,x11,x12))
def F3 (Ua:SV) (code:List Int):Bool :=
 bif (decide ((code.length:Int)>1048576)) then true else (bif (bif (!(((F6 (F5 Ua code)).Kind==(F7 (F5 Ua code)).Kind)&&(((F6 (F5 Ua code)).Entry.Addr==(F7 (F5 Ua code)).Entry.Addr)&&(((F6 (F5 Ua code)).Entry.Len==(F7 (F5 Ua code)).Entry.Len)&&(((F6 (F5 Ua code)).Entry.Cost==(F7 (F5 Ua code)).Entry.Cost)&&((F6 (F5 Ua code)).Entry.Label==(F7 (F5 Ua code)).Entry.Label)))))) then true else (!((F8 (F5 Ua code))==(F9 (F5 Ua code))))) then false else (bif (!(F9 (F5 Ua code))) then (((F6 (F5 Ua code)).Kind==0)&&(((F6 (F5 Ua code)).Entry.Addr==0)&&(((F6 (F5 Ua code)).Entry.Len==0)&&(((F6 (F5 Ua code)).Entry.Cost==0)&&((F6 (F5 Ua code)).Entry.Label==0))))) else ((F3_j0 Ua code).fin (fun r=>r) (fun (c,c1,c2,c3,c4,x9,x10)=>(bif (bif (c==0) then x10 else false) then (F11 x9 (F5 Ua code).Want) else false)))))
abbrev jI3_3 (Ua:SV) (code:List Int) (n:Int) (c5:Int) (c6:Int) (c7:Int) (c8:Int) (c9:Int) (x11:List Ue) (x12:Bool) (x13:List Ue) (x14:Bool):Prop:=(x13.length:Int)<=(x11.length:Int)+1/\True
abbrev jJ3_3 (Ua:SV) (code:List Int) (n:Int) (c5:Int) (c6:Int) (c7:Int) (c8:Int) (c9:Int) (x11:List Ue) (x12:Bool) (j:List Ue×Bool):Prop:=(F3_j3 Ua code n c5 c6 c7 c8 c9 x11 x12)=Lp.done j/\jI3_3 Ua code n c5 c6 c7 c8 c9 x11 x12 j.1 j.2
theorem jn3_3 (Ua:SV) (code:List Int) (n:Int) (c5:Int) (c6:Int) (c7:Int) (c8:Int) (c9:Int) (x11:List Ue) (x12:Bool) (x13:List Ue) (x14:Bool) (e:(F3_j3 Ua code n c5 c6 c7 c8 c9 x11 x12)=Lp.done (x13,x14)) (h:jI3_3 Ua code n c5 c6 c7 c8 c9 x11 x12 x13 x14):∃ j:List Ue×Bool,((.int .i64 n:Value)=.int .i64 n)/\((.int .i64 c5:Value)=.int .i64 c5)/\((.int .i64 c6:Value)=.int .i64 c6)/\((.int .i64 c7:Value)=.int .i64 c7)/\((.int .i64 c8:Value)=.int .i64 c8)/\((.int .i64 c9:Value)=.int .i64 c9)/\((.int .i64 (F5 Ua code).Name:Value)=.int .i64 (F5 Ua code).Name)/\((.int .i64 (F5 Ua code).Peer:Value)=.int .i64 (F5 Ua code).Peer)/\((.int .i64 (F5 Ua code).Boot:Value)=.int .i64 (F5 Ua code).Boot)/\((.int .i64 (F5 Ua code).Turn:Value)=.int .i64 (F5 Ua code).Turn)/\((.int .i64 (F5 Ua code).PeerBoot:Value)=.int .i64 (F5 Ua code).PeerBoot)/\((.int .i64 (F5 Ua code).PeerTurn:Value)=.int .i64 (F5 Ua code).PeerTurn)/\((.bool (F5 Ua code).Up:Value)=.bool (F5 Ua code).Up)/\((.int .i64 (F5 Ua code).Left:Value)=.int .i64 (F5 Ua code).Left)/\((.int .i64 (F5 Ua code).Num:Value)=.int .i64 (F5 Ua code).Num)/\((.int .i64 0:Value)=.int .i64 0)/\((.int .i64 0:Value)=.int .i64 0)/\((.int .i64 0:Value)=.int .i64 0)/\((.int .i64 0:Value)=.int .i64 0)/\((.int .i64 0:Value)=.int .i64 0)/\((.bool x14:Value)=.bool j.2)/\((.int .i64 (F5 Ua code).Got:Value)=.int .i64 (F5 Ua code).Got)/\((.bool (F5 Ua code).Full:Value)=.bool (F5 Ua code).Full)/\((.int .i64 (F5 Ua code).Keep:Value)=.int .i64 (F5 Ua code).Keep)/\(Imp (.l 2 eHelloKey (F5 Ua code).Keys) (.l 2 eHelloKey (F5 Ua code).Keys))/\(Imp (.l 4 eHelloEntry (F5 Ua code).Want) (.l 4 eHelloEntry (F5 Ua code).Want))/\(Imp (.l 4 eHelloEntry x13) (.l 4 eHelloEntry j.1))/\(Imp (.l 5 eHelloRoute (F5 Ua code).Heard) (.l 5 eHelloRoute (F5 Ua code).Heard))/\jJ3_3 Ua code n c5 c6 c7 c8 c9 x11 x12 j:=⟨(x13,x14),rfl,rfl,rfl,rfl,rfl,rfl,rfl,rfl,rfl,rfl,rfl,rfl,rfl,rfl,rfl,rfl,rfl,rfl,rfl,rfl,rfl,rfl,rfl,rfl,Imp.refl _,Imp.refl _,Imp.refl _,Imp.refl _,e,h⟩
abbrev lN3_0 (Ua:SV) (code:List Int):Nat×(Int×Int×Int×Int×Int×Int×List Ue×Bool):=((((((F5 Ua code).Told.length:Int)+((F5 Ua code).Want.length:Int))+1).toNat+1),(((((F5 Ua code).Told.length:Int)+((F5 Ua code).Want.length:Int))+1),(F6 ⟨(F5 Ua code).Name,(F5 Ua code).Peer,(F5 Ua code).Keys,(F5 Ua code).Boot,(F5 Ua code).Want,(F5 Ua code).Turn,(F5 Ua code).PeerBoot,(F5 Ua code).PeerTurn,(F5 Ua code).Up,(F5 Ua code).Left,(F5 Ua code).Num,(⟨0,(⟨0,0,0,0⟩:Ue)⟩:HelloChange),(F5 Ua code).Told,(F5 Ua code).All,(F5 Ua code).Got,(F5 Ua code).Full,(F5 Ua code).Heard,(F5 Ua code).Keep⟩).Kind,(F6 ⟨(F5 Ua code).Name,(F5 Ua code).Peer,(F5 Ua code).Keys,(F5 Ua code).Boot,(F5 Ua code).Want,(F5 Ua code).Turn,(F5 Ua code).PeerBoot,(F5 Ua code).PeerTurn,(F5 Ua code).Up,(F5 Ua code).Left,(F5 Ua code).Num,(⟨0,(⟨0,0,0,0⟩:Ue)⟩:HelloChange),(F5 Ua code).Told,(F5 Ua code).All,(F5 Ua code).Got,(F5 Ua code).Full,(F5 Ua code).Heard,(F5 Ua code).Keep⟩).Entry.Addr,(F6 ⟨(F5 Ua code).Name,(F5 Ua code).Peer,(F5 Ua code).Keys,(F5 Ua code).Boot,(F5 Ua code).Want,(F5 Ua code).Turn,(F5 Ua code).PeerBoot,(F5 Ua code).PeerTurn,(F5 Ua code).Up,(F5 Ua code).Left,(F5 Ua code).Num,(⟨0,(⟨0,0,0,0⟩:Ue)⟩:HelloChange),(F5 Ua code).Told,(F5 Ua code).All,(F5 Ua code).Got,(F5 Ua code).Full,(F5 Ua code).Heard,(F5 Ua code).Keep⟩).Entry.Len,(F6 ⟨(F5 Ua code).Name,(F5 Ua code).Peer,(F5 Ua code).Keys,(F5 Ua code).Boot,(F5 Ua code).Want,(F5 Ua code).Turn,(F5 Ua code).PeerBoot,(F5 Ua code).PeerTurn,(F5 Ua code).Up,(F5 Ua code).Left,(F5 Ua code).Num,(⟨0,(⟨0,0,0,0⟩:Ue)⟩:HelloChange),(F5 Ua code).Told,(F5 Ua code).All,(F5 Ua code).Got,(F5 Ua code).Full,(F5 Ua code).Heard,(F5 Ua code).Keep⟩).Entry.Cost,(F6 ⟨(F5 Ua code).Name,(F5 Ua code).Peer,(F5 Ua code).Keys,(F5 Ua code).Boot,(F5 Ua code).Want,(F5 Ua code).Turn,(F5 Ua code).PeerBoot,(F5 Ua code).PeerTurn,(F5 Ua code).Up,(F5 Ua code).Left,(F5 Ua code).Num,(⟨0,(⟨0,0,0,0⟩:Ue)⟩:HelloChange),(F5 Ua code).Told,(F5 Ua code).All,(F5 Ua code).Got,(F5 Ua code).Full,(F5 Ua code).Heard,(F5 Ua code).Keep⟩).Entry.Label,(F5 Ua code).Told,(F5 Ua code).All))
abbrev lI3_0 (m39:Nat) (n:Int) (c5:Int) (c6:Int) (c7:Int) (c8:Int) (c9:Int) (x11:List Ue) (x12:Bool):Prop:=Int.toNat n<m39/\0<=n/\(x11.length:Int)+n<=25
abbrev lX3_0 (Ua:SV) (code:List Int):Lp (Int×Int×Int×Int×Int×Int×List Ue×Bool) Bool:=LpX (F3_s0 Ua code) (lN3_0 Ua code)
abbrev lJ3_0 (Ua:SV) (code:List Int) (i:Nat×(Int×Int×Int×Int×Int×Int×List Ue×Bool)):Prop:=LpJ (F3_s0 Ua code) (lN3_0 Ua code) i (lI3_0 i.1 i.2.1 i.2.2.1 i.2.2.2.1 i.2.2.2.2.1 i.2.2.2.2.2.1 i.2.2.2.2.2.2.1 i.2.2.2.2.2.2.2.1 i.2.2.2.2.2.2.2.2)
abbrev lH3_0 (Ua:SV) (code:List Int) (i:Nat×(Int×Int×Int×Int×Int×Int×List Ue×Bool)) (m39:Nat) (n:Int) (c5:Int) (c6:Int) (c7:Int) (c8:Int) (c9:Int) (x11:List Ue) (x12:Bool):Prop:=LpH (F3_s0 Ua code) (lN3_0 Ua code) i m39 (n,c5,c6,c7,c8,c9,x11,x12) (lI3_0 (m39+1) n c5 c6 c7 c8 c9 x11 x12)
abbrev lE3_0 (Ua:SV) (code:List Int) (n:Int) (c5:Int) (c6:Int) (c7:Int) (c8:Int) (c9:Int) (x11:List Ue) (x12:Bool) (n_:Int) (c5_:Int) (c6_:Int) (c7_:Int) (c8_:Int) (c9_:Int) (x11_:List Ue) (x12_:Bool) (K39:Prop):Prop:=((.int .i64 n:Value)=.int .i64 n_)/\((.int .i64 c5:Value)=.int .i64 c5_)/\((.int .i64 c6:Value)=.int .i64 c6_)/\((.int .i64 c7:Value)=.int .i64 c7_)/\((.int .i64 c8:Value)=.int .i64 c8_)/\((.int .i64 c9:Value)=.int .i64 c9_)/\(Rf (.int .i64 (F5 Ua code).Name))/\(Rf (.int .i64 (F5 Ua code).Peer))/\(Rf (.int .i64 (F5 Ua code).Boot))/\(Rf (.int .i64 (F5 Ua code).Turn))/\(Rf (.int .i64 (F5 Ua code).PeerBoot))/\(Rf (.int .i64 (F5 Ua code).PeerTurn))/\(Rf (.bool (F5 Ua code).Up))/\(Rf (.int .i64 (F5 Ua code).Left))/\(Rf (.int .i64 (F5 Ua code).Num))/\(Rf (.int .i64 0))/\(Rf (.int .i64 0))/\(Rf (.int .i64 0))/\(Rf (.int .i64 0))/\(Rf (.int .i64 0))/\((.bool x12:Value)=.bool x12_)/\(Rf (.int .i64 (F5 Ua code).Got))/\(Rf (.bool (F5 Ua code).Full))/\(Rf (.int .i64 (F5 Ua code).Keep))/\(Im (.l 2 eHelloKey (F5 Ua code).Keys))/\(Im (.l 4 eHelloEntry (F5 Ua code).Want))/\(Imp (.l 4 eHelloEntry x11) (.l 4 eHelloEntry x11_))/\(Im (.l 5 eHelloRoute (F5 Ua code).Heard))/\K39
theorem un3_0 (Ua:SV) (code:List Int) (i:Nat×(Int×Int×Int×Int×Int×Int×List Ue×Bool)) (h:lJ3_0 Ua code i):lH3_0 Ua code i (i.1-1) i.2.1 i.2.2.1 i.2.2.2.1 i.2.2.2.2.1 i.2.2.2.2.2.1 i.2.2.2.2.2.2.1 i.2.2.2.2.2.2.2.1 i.2.2.2.2.2.2.2.2:=⟨hd1 h.1 h.2.1,hd3 h.2.1,hd2 h.2.1,h.2.2⟩
theorem bk3_0 (Ua:SV) (code:List Int) (i:Nat×(Int×Int×Int×Int×Int×Int×List Ue×Bool)) (m39:Nat) (n:Int) (c5:Int) (c6:Int) (c7:Int) (c8:Int) (c9:Int) (x11:List Ue) (x12:Bool) (hl:m39<i.1) (e:runL (F3_s0 Ua code) m39 (n,c5,c6,c7,c8,c9,x11,x12)=lX3_0 Ua code) (h:lI3_0 m39 n c5 c6 c7 c8 c9 x11 x12):∃ j:Nat×(Int×Int×Int×Int×Int×Int×List Ue×Bool),lE3_0 Ua code n c5 c6 c7 c8 c9 x11 x12 j.2.1 j.2.2.1 j.2.2.2.1 j.2.2.2.2.1 j.2.2.2.2.2.1 j.2.2.2.2.2.2.1 j.2.2.2.2.2.2.2.1 j.2.2.2.2.2.2.2.2 (lJ3_0 Ua code j/\j.1<i.1):=⟨(m39,(n,c5,c6,c7,c8,c9,x11,x12)),rfl,rfl,rfl,rfl,rfl,rfl,rfl,rfl,rfl,rfl,rfl,rfl,rfl,rfl,rfl,rfl,rfl,rfl,rfl,rfl,rfl,rfl,rfl,rfl,Imp.refl _,Imp.refl _,Imp.refl _,Imp.refl _,⟨e,h⟩,hl⟩
theorem en3_0 (Ua:SV) (code:List Int) (h:0<=((((F5 Ua code).Told.length:Int)+((F5 Ua code).Want.length:Int))+1)/\((F5 Ua code).Told.length:Int)+((((F5 Ua code).Told.length:Int)+((F5 Ua code).Want.length:Int))+1)<=25):lE3_0 Ua code ((((F5 Ua code).Told.length:Int)+((F5 Ua code).Want.length:Int))+1) (F6 ⟨(F5 Ua code).Name,(F5 Ua code).Peer,(F5 Ua code).Keys,(F5 Ua code).Boot,(F5 Ua code).Want,(F5 Ua code).Turn,(F5 Ua code).PeerBoot,(F5 Ua code).PeerTurn,(F5 Ua code).Up,(F5 Ua code).Left,(F5 Ua code).Num,(⟨0,(⟨0,0,0,0⟩:Ue)⟩:HelloChange),(F5 Ua code).Told,(F5 Ua code).All,(F5 Ua code).Got,(F5 Ua code).Full,(F5 Ua code).Heard,(F5 Ua code).Keep⟩).Kind (F6 ⟨(F5 Ua code).Name,(F5 Ua code).Peer,(F5 Ua code).Keys,(F5 Ua code).Boot,(F5 Ua code).Want,(F5 Ua code).Turn,(F5 Ua code).PeerBoot,(F5 Ua code).PeerTurn,(F5 Ua code).Up,(F5 Ua code).Left,(F5 Ua code).Num,(⟨0,(⟨0,0,0,0⟩:Ue)⟩:HelloChange),(F5 Ua code).Told,(F5 Ua code).All,(F5 Ua code).Got,(F5 Ua code).Full,(F5 Ua code).Heard,(F5 Ua code).Keep⟩).Entry.Addr (F6 ⟨(F5 Ua code).Name,(F5 Ua code).Peer,(F5 Ua code).Keys,(F5 Ua code).Boot,(F5 Ua code).Want,(F5 Ua code).Turn,(F5 Ua code).PeerBoot,(F5 Ua code).PeerTurn,(F5 Ua code).Up,(F5 Ua code).Left,(F5 Ua code).Num,(⟨0,(⟨0,0,0,0⟩:Ue)⟩:HelloChange),(F5 Ua code).Told,(F5 Ua code).All,(F5 Ua code).Got,(F5 Ua code).Full,(F5 Ua code).Heard,(F5 Ua code).Keep⟩).Entry.Len (F6 ⟨(F5 Ua code).Name,(F5 Ua code).Peer,(F5 Ua code).Keys,(F5 Ua code).Boot,(F5 Ua code).Want,(F5 Ua code).Turn,(F5 Ua code).PeerBoot,(F5 Ua code).PeerTurn,(F5 Ua code).Up,(F5 Ua code).Left,(F5 Ua code).Num,(⟨0,(⟨0,0,0,0⟩:Ue)⟩:HelloChange),(F5 Ua code).Told,(F5 Ua code).All,(F5 Ua code).Got,(F5 Ua code).Full,(F5 Ua code).Heard,(F5 Ua code).Keep⟩).Entry.Cost (F6 ⟨(F5 Ua code).Name,(F5 Ua code).Peer,(F5 Ua code).Keys,(F5 Ua code).Boot,(F5 Ua code).Want,(F5 Ua code).Turn,(F5 Ua code).PeerBoot,(F5 Ua code).PeerTurn,(F5 Ua code).Up,(F5 Ua code).Left,(F5 Ua code).Num,(⟨0,(⟨0,0,0,0⟩:Ue)⟩:HelloChange),(F5 Ua code).Told,(F5 Ua code).All,(F5 Ua code).Got,(F5 Ua code).Full,(F5 Ua code).Heard,(F5 Ua code).Keep⟩).Entry.Label (F5 Ua code).Told (F5 Ua code).All ((((F5 Ua code).Told.length:Int)+((F5 Ua code).Want.length:Int))+1) (F6 ⟨(F5 Ua code).Name,(F5 Ua code).Peer,(F5 Ua code).Keys,(F5 Ua code).Boot,(F5 Ua code).Want,(F5 Ua code).Turn,(F5 Ua code).PeerBoot,(F5 Ua code).PeerTurn,(F5 Ua code).Up,(F5 Ua code).Left,(F5 Ua code).Num,(⟨0,(⟨0,0,0,0⟩:Ue)⟩:HelloChange),(F5 Ua code).Told,(F5 Ua code).All,(F5 Ua code).Got,(F5 Ua code).Full,(F5 Ua code).Heard,(F5 Ua code).Keep⟩).Kind (F6 ⟨(F5 Ua code).Name,(F5 Ua code).Peer,(F5 Ua code).Keys,(F5 Ua code).Boot,(F5 Ua code).Want,(F5 Ua code).Turn,(F5 Ua code).PeerBoot,(F5 Ua code).PeerTurn,(F5 Ua code).Up,(F5 Ua code).Left,(F5 Ua code).Num,(⟨0,(⟨0,0,0,0⟩:Ue)⟩:HelloChange),(F5 Ua code).Told,(F5 Ua code).All,(F5 Ua code).Got,(F5 Ua code).Full,(F5 Ua code).Heard,(F5 Ua code).Keep⟩).Entry.Addr (F6 ⟨(F5 Ua code).Name,(F5 Ua code).Peer,(F5 Ua code).Keys,(F5 Ua code).Boot,(F5 Ua code).Want,(F5 Ua code).Turn,(F5 Ua code).PeerBoot,(F5 Ua code).PeerTurn,(F5 Ua code).Up,(F5 Ua code).Left,(F5 Ua code).Num,(⟨0,(⟨0,0,0,0⟩:Ue)⟩:HelloChange),(F5 Ua code).Told,(F5 Ua code).All,(F5 Ua code).Got,(F5 Ua code).Full,(F5 Ua code).Heard,(F5 Ua code).Keep⟩).Entry.Len (F6 ⟨(F5 Ua code).Name,(F5 Ua code).Peer,(F5 Ua code).Keys,(F5 Ua code).Boot,(F5 Ua code).Want,(F5 Ua code).Turn,(F5 Ua code).PeerBoot,(F5 Ua code).PeerTurn,(F5 Ua code).Up,(F5 Ua code).Left,(F5 Ua code).Num,(⟨0,(⟨0,0,0,0⟩:Ue)⟩:HelloChange),(F5 Ua code).Told,(F5 Ua code).All,(F5 Ua code).Got,(F5 Ua code).Full,(F5 Ua code).Heard,(F5 Ua code).Keep⟩).Entry.Cost (F6 ⟨(F5 Ua code).Name,(F5 Ua code).Peer,(F5 Ua code).Keys,(F5 Ua code).Boot,(F5 Ua code).Want,(F5 Ua code).Turn,(F5 Ua code).PeerBoot,(F5 Ua code).PeerTurn,(F5 Ua code).Up,(F5 Ua code).Left,(F5 Ua code).Num,(⟨0,(⟨0,0,0,0⟩:Ue)⟩:HelloChange),(F5 Ua code).Told,(F5 Ua code).All,(F5 Ua code).Got,(F5 Ua code).Full,(F5 Ua code).Heard,(F5 Ua code).Keep⟩).Entry.Label (F5 Ua code).Told (F5 Ua code).All (lJ3_0 Ua code (lN3_0 Ua code)):=⟨rfl,rfl,rfl,rfl,rfl,rfl,rfl,rfl,rfl,rfl,rfl,rfl,rfl,rfl,rfl,rfl,rfl,rfl,rfl,rfl,rfl,rfl,rfl,rfl,Imp.refl _,Imp.refl _,Imp.refl _,Imp.refl _,rfl,Qq _,h⟩
abbrev jJ3_0 (Ua:SV) (code:List Int) (j:Int×Int×Int×Int×Int×List Ue×Bool):Prop:=(F3_j0 Ua code)=Lp.done j
theorem jn3_0 (Ua:SV) (code:List Int) (c:Int) (c1:Int) (c2:Int) (c3:Int) (c4:Int) (x9:List Ue) (x10:Bool) (e:(F3_j0 Ua code)=Lp.done (c,c1,c2,c3,c4,x9,x10)):∃ j:Int×Int×Int×Int×Int×List Ue×Bool,((.int .i64 c:Value)=.int .i64 j.1)/\((.int .i64 c1:Value)=.int .i64 j.2.1)/\((.int .i64 c2:Value)=.int .i64 j.2.2.1)/\((.int .i64 c3:Value)=.int .i64 j.2.2.2.1)/\((.int .i64 c4:Value)=.int .i64 j.2.2.2.2.1)/\((.int .i64 (F5 Ua code).Name:Value)=.int .i64 (F5 Ua code).Name)/\((.int .i64 (F5 Ua code).Peer:Value)=.int .i64 (F5 Ua code).Peer)/\((.int .i64 (F5 Ua code).Boot:Value)=.int .i64 (F5 Ua code).Boot)/\((.int .i64 (F5 Ua code).Turn:Value)=.int .i64 (F5 Ua code).Turn)/\((.int .i64 (F5 Ua code).PeerBoot:Value)=.int .i64 (F5 Ua code).PeerBoot)/\((.int .i64 (F5 Ua code).PeerTurn:Value)=.int .i64 (F5 Ua code).PeerTurn)/\((.bool (F5 Ua code).Up:Value)=.bool (F5 Ua code).Up)/\((.int .i64 (F5 Ua code).Left:Value)=.int .i64 (F5 Ua code).Left)/\((.int .i64 (F5 Ua code).Num:Value)=.int .i64 (F5 Ua code).Num)/\((.int .i64 0:Value)=.int .i64 0)/\((.int .i64 0:Value)=.int .i64 0)/\((.int .i64 0:Value)=.int .i64 0)/\((.int .i64 0:Value)=.int .i64 0)/\((.int .i64 0:Value)=.int .i64 0)/\((.bool x10:Value)=.bool j.2.2.2.2.2.2)/\((.int .i64 (F5 Ua code).Got:Value)=.int .i64 (F5 Ua code).Got)/\((.bool (F5 Ua code).Full:Value)=.bool (F5 Ua code).Full)/\((.int .i64 (F5 Ua code).Keep:Value)=.int .i64 (F5 Ua code).Keep)/\(Imp (.l 2 eHelloKey (F5 Ua code).Keys) (.l 2 eHelloKey (F5 Ua code).Keys))/\(Imp (.l 4 eHelloEntry (F5 Ua code).Want) (.l 4 eHelloEntry (F5 Ua code).Want))/\(Imp (.l 4 eHelloEntry x9) (.l 4 eHelloEntry j.2.2.2.2.2.1))/\(Imp (.l 5 eHelloRoute (F5 Ua code).Heard) (.l 5 eHelloRoute (F5 Ua code).Heard))/\jJ3_0 Ua code j:=⟨(c,c1,c2,c3,c4,x9,x10),rfl,rfl,rfl,rfl,rfl,rfl,rfl,rfl,rfl,rfl,rfl,rfl,rfl,rfl,rfl,rfl,rfl,rfl,rfl,rfl,rfl,rfl,rfl,Imp.refl _,Imp.refl _,Imp.refl _,Imp.refl _,e⟩
def S3 (Ua:SV) (code:List Int):Spec:=⟨[.vl (sv Ua) (.l 1 eByte code)],.v (.bool (F3 Ua code)),True⟩
theorem ok3 (Ua:SV) (code:List Int):(S3 Ua code).ok Tryz.prog 3 false :=
 fnG_ok mixed (fn:=Tryz.f3) (ct:=.seqk [(0,0)] .no (.seq (.seq .no (.cond (.seq .no .no) .no)) (.seq (.reg [(1,.call 5 (S5 Ua code) ((ok5 Ua code).to false) none)]) (.seq (.reg [(1,kh6 (F5 Ua code))]) (.seq (.seq (.reg [(2,kh7f (F5 Ua code)),(3,.bin .neq 28 (.agg #[.int .i64 (F6 (F5 Ua code)).Kind,.int .i64 (F6 (F5 Ua code)).Entry.Addr,.int .i64 (F6 (F5 Ua code)).Entry.Len,.int .i64 (F6 (F5 Ua code)).Entry.Cost,.int .i64 (F6 (F5 Ua code)).Entry.Label]) (.agg #[.int .i64 (F7 (F5 Ua code)).Kind,.int .i64 (F7 (F5 Ua code)).Entry.Addr,.int .i64 (F7 (F5 Ua code)).Entry.Len,.int .i64 (F7 (F5 Ua code)).Entry.Cost,.int .i64 (F7 (F5 Ua code)).Entry.Label]) (.bool (!(((F6 (F5 Ua code)).Kind==(F7 (F5 Ua code)).Kind)&&(((F6 (F5 Ua code)).Entry.Addr==(F7 (F5 Ua code)).Entry.Addr)&&(((F6 (F5 Ua code)).Entry.Len==(F7 (F5 Ua code)).Entry.Len)&&(((F6 (F5 Ua code)).Entry.Cost==(F7 (F5 Ua code)).Entry.Cost)&&((F6 (F5 Ua code)).Entry.Label==(F7 (F5 Ua code)).Entry.Label))))))) rfl (neqT28 (F6 (F5 Ua code)).Kind (F7 (F5 Ua code)).Kind (F6 (F5 Ua code)).Entry.Addr (F7 (F5 Ua code)).Entry.Addr (F6 (F5 Ua code)).Entry.Len (F7 (F5 Ua code)).Entry.Len (F6 (F5 Ua code)).Entry.Cost (F7 (F5 Ua code)).Entry.Cost (F6 (F5 Ua code)).Entry.Label (F7 (F5 Ua code)).Entry.Label)),(6,kh8l (F5 Ua code)),(8,kh9lf (F5 Ua code))]) (.cond (.seq .no .no) .no)) (.seq (.seq (.reg [(1,kh9lf (F5 Ua code))]) (.cond (.seq (.reg [(2,.bin .eql 28 (.agg #[.int .i64 (F6 (F5 Ua code)).Kind,.int .i64 (F6 (F5 Ua code)).Entry.Addr,.int .i64 (F6 (F5 Ua code)).Entry.Len,.int .i64 (F6 (F5 Ua code)).Entry.Cost,.int .i64 (F6 (F5 Ua code)).Entry.Label]) (.agg #[.int .i64 0,.int .i64 0,.int .i64 0,.int .i64 0,.int .i64 0]) (.bool (((F6 (F5 Ua code)).Kind==0)&&(((F6 (F5 Ua code)).Entry.Addr==0)&&(((F6 (F5 Ua code)).Entry.Len==0)&&(((F6 (F5 Ua code)).Entry.Cost==0)&&((F6 (F5 Ua code)).Entry.Label==0)))))) rfl (eqlT28 (F6 (F5 Ua code)).Kind 0 (F6 (F5 Ua code)).Entry.Addr 0 (F6 (F5 Ua code)).Entry.Len 0 (F6 (F5 Ua code)).Entry.Cost 0 (F6 (F5 Ua code)).Entry.Label 0))]) .no) .no)) (.seq .no (.seq .no (.seq (.reg [(1,.call 6 (S6 (⟨(F5 Ua code).Name,(F5 Ua code).Peer,(F5 Ua code).Keys,(F5 Ua code).Boot,(F5 Ua code).Want,(F5 Ua code).Turn,(F5 Ua code).PeerBoot,(F5 Ua code).PeerTurn,(F5 Ua code).Up,(F5 Ua code).Left,(F5 Ua code).Num,(⟨0,(⟨0,0,0,0⟩:Ue)⟩:HelloChange),(F5 Ua code).Told,(F5 Ua code).All,(F5 Ua code).Got,(F5 Ua code).Full,(F5 Ua code).Heard,(F5 Ua code).Keep⟩:Ud)) (ok6 (⟨(F5 Ua code).Name,(F5 Ua code).Peer,(F5 Ua code).Keys,(F5 Ua code).Boot,(F5 Ua code).Want,(F5 Ua code).Turn,(F5 Ua code).PeerBoot,(F5 Ua code).PeerTurn,(F5 Ua code).Up,(F5 Ua code).Left,(F5 Ua code).Num,(⟨0,(⟨0,0,0,0⟩:Ue)⟩:HelloChange),(F5 Ua code).Told,(F5 Ua code).All,(F5 Ua code).Got,(F5 Ua code).Full,(F5 Ua code).Heard,(F5 Ua code).Keep⟩:Ud)) none)]) (.cut (ι:=Int×Int×Int×Int×Int×List Ue×Bool) (fun j=>(fun (c:Int) (c1:Int) (c2:Int) (c3:Int) (c4:Int) (x9:List Ue) (x10:Bool)=>(⟨[(4,some (.p 0 0)),(5,some (.p 1 0))],[(0,some (.box 28 [.v (vI c),.v (vI c1),.v (vI c2),.v (vI c3),.v (vI c4)])),(1,some (.box 31 [.v (vI (F5 Ua code).Name),.v (vI (F5 Ua code).Peer),.h 2 0,.v (vI (F5 Ua code).Boot),.h 3 0,.v (vI (F5 Ua code).Turn),.v (vI (F5 Ua code).PeerBoot),.v (vI (F5 Ua code).PeerTurn),.v (.bool (F5 Ua code).Up),.v (vI (F5 Ua code).Left),.v (vI (F5 Ua code).Num),.v (vI 0),.v (vI 0),.v (vI 0),.v (vI 0),.v (vI 0),.h 4 0,.v (.bool x10),.v (vI (F5 Ua code).Got),.v (.bool (F5 Ua code).Full),.h 5 0,.v (vI (F5 Ua code).Keep)])),(2,some (.own 2 (.l 2 eHelloKey (F5 Ua code).Keys))),(3,some (.own 3 (.l 4 eHelloEntry (F5 Ua code).Want))),(4,some (.own 4 (.l 4 eHelloEntry x9))),(5,some (.own 5 (.l 5 eHelloRoute (F5 Ua code).Heard)))],6⟩:St)) j.1 j.2.1 j.2.2.1 j.2.2.2.1 j.2.2.2.2.1 j.2.2.2.2.2.1 j.2.2.2.2.2.2) (jJ3_0 Ua code) (.seqk [(5,2),(5,4),(5,16),(5,20)] (.reg [(6,.bnd),(7,.bnd)]) (.blk (.loop (ι:=Nat×(Int×Int×Int×Int×Int×Int×List Ue×Bool)) (fun i=>(fun (n:Int) (c5:Int) (c6:Int) (c7:Int) (c8:Int) (c9:Int) (x11:List Ue) (x12:Bool)=>(⟨[(4,some (.p 0 0)),(5,some (.p 1 0)),(6,some (.v (vI n)))],[(0,some (.box 28 [.v (vI c5),.v (vI c6),.v (vI c7),.v (vI c8),.v (vI c9)])),(1,some (.box 31 [.v (vI (F5 Ua code).Name),.v (vI (F5 Ua code).Peer),.h 2 0,.v (vI (F5 Ua code).Boot),.h 3 0,.v (vI (F5 Ua code).Turn),.v (vI (F5 Ua code).PeerBoot),.v (vI (F5 Ua code).PeerTurn),.v (.bool (F5 Ua code).Up),.v (vI (F5 Ua code).Left),.v (vI (F5 Ua code).Num),.v (vI 0),.v (vI 0),.v (vI 0),.v (vI 0),.v (vI 0),.h 4 0,.v (.bool x12),.v (vI (F5 Ua code).Got),.v (.bool (F5 Ua code).Full),.h 5 0,.v (vI (F5 Ua code).Keep)])),(2,some (.own 2 (.l 2 eHelloKey (F5 Ua code).Keys))),(3,some (.own 3 (.l 4 eHelloEntry (F5 Ua code).Want))),(4,some (.own 4 (.l 4 eHelloEntry x11))),(5,some (.own 5 (.l 5 eHelloRoute (F5 Ua code).Heard)))],6⟩:St)) i.2.1 i.2.2.1 i.2.2.2.1 i.2.2.2.2.1 i.2.2.2.2.2.1 i.2.2.2.2.2.2.1 i.2.2.2.2.2.2.2.1 i.2.2.2.2.2.2.2.2) (lJ3_0 Ua code) (fun i=>i.1) (lN3_0 Ua code) (fun i=>(fun (n:Int) (c5:Int) (c6:Int) (c7:Int) (c8:Int) (c9:Int) (x11:List Ue) (x12:Bool)=>(.seq (.seq .no (.cond .no .no)) (.seq (.blk (.cut (ι:=List Ue×Bool) (fun j=>(fun (x13:List Ue) (x14:Bool)=>(⟨[(4,some (.p 0 0)),(5,some (.p 1 0)),(6,some (.v (vI n)))],[(0,some (.box 28 [.v (vI c5),.v (vI c6),.v (vI c7),.v (vI c8),.v (vI c9)])),(1,some (.box 31 [.v (vI (F5 Ua code).Name),.v (vI (F5 Ua code).Peer),.h 2 0,.v (vI (F5 Ua code).Boot),.h 3 0,.v (vI (F5 Ua code).Turn),.v (vI (F5 Ua code).PeerBoot),.v (vI (F5 Ua code).PeerTurn),.v (.bool (F5 Ua code).Up),.v (vI (F5 Ua code).Left),.v (vI (F5 Ua code).Num),.v (vI 0),.v (vI 0),.v (vI 0),.v (vI 0),.v (vI 0),.h 4 0,.v (.bool x14),.v (vI (F5 Ua code).Got),.v (.bool (F5 Ua code).Full),.h 5 0,.v (vI (F5 Ua code).Keep)])),(2,some (.own 2 (.l 2 eHelloKey (F5 Ua code).Keys))),(3,some (.own 3 (.l 4 eHelloEntry (F5 Ua code).Want))),(4,some (.own 4 (.l 4 eHelloEntry x13))),(5,some (.own 5 (.l 5 eHelloRoute (F5 Ua code).Heard)))],6⟩:St)) j.1 j.2) (jJ3_3 Ua code n c5 c6 c7 c8 c9 x11 x12) (.seq .no (.cond .no (.reg [(3,.call 10 (S10 x11 (⟨c5,(⟨c6,c7,c8,c9⟩:Ue)⟩:HelloChange)) ((ok10 x11 (⟨c5,(⟨c6,c7,c8,c9⟩:Ue)⟩:HelloChange)).to false) none)]))) (fun j=>(fun (x13:List Ue) (x14:Bool)=>(.reg [(1,.call 6 (S6 (⟨(F5 Ua code).Name,(F5 Ua code).Peer,(F5 Ua code).Keys,(F5 Ua code).Boot,(F5 Ua code).Want,(F5 Ua code).Turn,(F5 Ua code).PeerBoot,(F5 Ua code).PeerTurn,(F5 Ua code).Up,(F5 Ua code).Left,(F5 Ua code).Num,(⟨0,(⟨0,0,0,0⟩:Ue)⟩:HelloChange),x13,x14,(F5 Ua code).Got,(F5 Ua code).Full,(F5 Ua code).Heard,(F5 Ua code).Keep⟩:Ud)) (ok6 (⟨(F5 Ua code).Name,(F5 Ua code).Peer,(F5 Ua code).Keys,(F5 Ua code).Boot,(F5 Ua code).Want,(F5 Ua code).Turn,(F5 Ua code).PeerBoot,(F5 Ua code).PeerTurn,(F5 Ua code).Up,(F5 Ua code).Left,(F5 Ua code).Num,(⟨0,(⟨0,0,0,0⟩:Ue)⟩:HelloChange),x13,x14,(F5 Ua code).Got,(F5 Ua code).Full,(F5 Ua code).Heard,(F5 Ua code).Keep⟩:Ud)) none)])) j.1 j.2))) (.reg [(1,.bnd)])))) i.2.1 i.2.2.1 i.2.2.2.1 i.2.2.2.2.1 i.2.2.2.2.2.1 i.2.2.2.2.2.2.1 i.2.2.2.2.2.2.2.1 i.2.2.2.2.2.2.2.2)))) (fun j=>(fun (c:Int) (c1:Int) (c2:Int) (c3:Int) (c4:Int) (x9:List Ue) (x10:Bool)=>(.seq (.reg [(12,kh11f x9 (F5 Ua code).Want)]) .no)) j.1 j.2.1 j.2.2.1 j.2.2.2.1 j.2.2.2.2.1 j.2.2.2.2.2.1 j.2.2.2.2.2.2))))))))))) Tryz.func3 (fun (_:True)=>kn code fun _=>ifd ((code.length:Int)>1048576) (fun h1 _=>fiB true (F3 Ua code) (condT h1 rfl)) (fun h1 _=>ai trivial (ai (Eq.refl (sv Ua)) (ai (Imp.refl (.l 1 eByte code)) (kc6 (F5 Ua code) (kc7 (F5 Ua code) (ai (Eq.refl (.agg #[.int .i64 (F6 (F5 Ua code)).Kind,.int .i64 (F6 (F5 Ua code)).Entry.Addr,.int .i64 (F6 (F5 Ua code)).Entry.Len,.int .i64 (F6 (F5 Ua code)).Entry.Cost,.int .i64 (F6 (F5 Ua code)).Entry.Label]:Value)) (ai (Eq.refl (.agg #[.int .i64 (F7 (F5 Ua code)).Kind,.int .i64 (F7 (F5 Ua code)).Entry.Addr,.int .i64 (F7 (F5 Ua code)).Entry.Len,.int .i64 (F7 (F5 Ua code)).Entry.Cost,.int .i64 (F7 (F5 Ua code)).Entry.Label]:Value)) (kg8l (!(((F6 (F5 Ua code)).Kind==(F7 (F5 Ua code)).Kind)&&(((F6 (F5 Ua code)).Entry.Addr==(F7 (F5 Ua code)).Entry.Addr)&&(((F6 (F5 Ua code)).Entry.Len==(F7 (F5 Ua code)).Entry.Len)&&(((F6 (F5 Ua code)).Entry.Cost==(F7 (F5 Ua code)).Entry.Cost)&&((F6 (F5 Ua code)).Entry.Label==(F7 (F5 Ua code)).Entry.Label)))))) false (F5 Ua code) (kg9l (!(((F6 (F5 Ua code)).Kind==(F7 (F5 Ua code)).Kind)&&(((F6 (F5 Ua code)).Entry.Addr==(F7 (F5 Ua code)).Entry.Addr)&&(((F6 (F5 Ua code)).Entry.Len==(F7 (F5 Ua code)).Entry.Len)&&(((F6 (F5 Ua code)).Entry.Cost==(F7 (F5 Ua code)).Entry.Cost)&&((F6 (F5 Ua code)).Entry.Label==(F7 (F5 Ua code)).Entry.Label)))))) false (F5 Ua code) (ifb (bif (!(((F6 (F5 Ua code)).Kind==(F7 (F5 Ua code)).Kind)&&(((F6 (F5 Ua code)).Entry.Addr==(F7 (F5 Ua code)).Entry.Addr)&&(((F6 (F5 Ua code)).Entry.Len==(F7 (F5 Ua code)).Entry.Len)&&(((F6 (F5 Ua code)).Entry.Cost==(F7 (F5 Ua code)).Entry.Cost)&&((F6 (F5 Ua code)).Entry.Label==(F7 (F5 Ua code)).Entry.Label)))))) then true else (!((F8 (F5 Ua code))==(F9 (F5 Ua code))))) (fun h4=>fiB false (F3 Ua code) (condF h1 (condT h4 rfl))) (fun h4=>have _:=(orF1 h4); have _:=(orF2 h4); kc9l (F5 Ua code) (ifb (!(F9 (F5 Ua code))) (fun h5=>ai (Eq.refl (.agg #[.int .i64 (F6 (F5 Ua code)).Kind,.int .i64 (F6 (F5 Ua code)).Entry.Addr,.int .i64 (F6 (F5 Ua code)).Entry.Len,.int .i64 (F6 (F5 Ua code)).Entry.Cost,.int .i64 (F6 (F5 Ua code)).Entry.Label]:Value)) (ai (Eq.refl (.agg #[.int .i64 0,.int .i64 0,.int .i64 0,.int .i64 0,.int .i64 0]:Value)) (fiB (((F6 (F5 Ua code)).Kind==0)&&(((F6 (F5 Ua code)).Entry.Addr==0)&&(((F6 (F5 Ua code)).Entry.Len==0)&&(((F6 (F5 Ua code)).Entry.Cost==0)&&((F6 (F5 Ua code)).Entry.Label==0))))) (F3 Ua code) (condF h1 (condF h4 (condT h5 rfl)))))) (fun h5=>have _:1<=(F5 Ua code).Keys.length/\(F5 Ua code).Keys.length<=3/\(F5 Ua code).Want.length<=8/\(F5 Ua code).Told.length<=8/\(F5 Ua code).Heard.length<=16:=endOkS_T (F5 Ua code) (notEF h5); have _:EndFit (F5 Ua code):=endFitS (F5 Ua code) (notEF h5); have _:0<=(F5 Ua code).Keep/\(F5 Ua code).Keep<=6/\0<=(F5 Ua code).Left/\(F5 Ua code).Left<=4:=endKeep (F5 Ua code) (notEF h5); ai trivial (ai (Imps.refl (eHelloEnd (⟨(F5 Ua code).Name,(F5 Ua code).Peer,(F5 Ua code).Keys,(F5 Ua code).Boot,(F5 Ua code).Want,(F5 Ua code).Turn,(F5 Ua code).PeerBoot,(F5 Ua code).PeerTurn,(F5 Ua code).Up,(F5 Ua code).Left,(F5 Ua code).Num,(⟨0,(⟨0,0,0,0⟩:Ue)⟩:HelloChange),(F5 Ua code).Told,(F5 Ua code).All,(F5 Ua code).Got,(F5 Ua code).Full,(F5 Ua code).Heard,(F5 Ua code).Keep⟩:Ud))) (ai (ai (iok (((F5 Ua code).Told.length:Int)+((F5 Ua code).Want.length:Int)) uu0) (ai (iok ((((F5 Ua code).Told.length:Int)+((F5 Ua code).Want.length:Int))+1) uu0) (kn (F5 Ua code).Keys fun _=>kn (F5 Ua code).Want fun _=>kn (F5 Ua code).Told fun _=>kn (F5 Ua code).Heard fun _=>ai (en3_0 Ua code uu7) (fun (i0:Nat×(Int×Int×Int×Int×Int×Int×List Ue×Bool)) (hi0:lJ3_0 Ua code i0)=>(fun (m0:Nat) (n:Int) (c5:Int) (c6:Int) (c7:Int) (c8:Int) (c9:Int) (x11:List Ue) (x12:Bool) (hh0:lH3_0 Ua code i0 m0 n c5 c6 c7 c8 c9 x11 x12)=>have hI0:=hh0.1; have hl0:=hh0.2.1; have _:=hh0.2.2.1; have _:=hh0.2.2.2; ifb (bif decide (n>0) then decide (c5>0) else false) (fun h7=>have _:=Qb (andT1 h7); have _:=Qb (andT2 h7); ai (ife c5 3 (fun h8 _=>jn3_3 Ua code n c5 c6 c7 c8 c9 x11 x12 x11 true (Ri (condT h8 rfl)) uu22) (fun h8 _=>ai (uu0:x11.length<=1000000000) (ai (Imp.refl (.l 4 eHelloEntry x11)) (ai (Imps.refl (eHelloChange (⟨c5,(⟨c6,c7,c8,c9⟩:Ue)⟩:HelloChange))) (have gv9:(F10 x11 ⟨c5,(⟨c6,c7,c8,c9⟩:Ue)⟩).length<=x11.length+1:=wapply_len x11 (⟨c5,(⟨c6,c7,c8,c9⟩:Ue)⟩:HelloChange); jn3_3 Ua code n c5 c6 c7 c8 c9 x11 x12 (F10 x11 ⟨c5,(⟨c6,c7,c8,c9⟩:Ue)⟩) x12 (Ri (condF h8 rfl)) uu22))))) (fun (j:List Ue×Bool) (hj:jJ3_3 Ua code n c5 c6 c7 c8 c9 x11 x12 j)=>(fun (x13:List Ue) (x14:Bool) (hJ3_10:(F3_j3 Ua code n c5 c6 c7 c8 c9 x11 x12)=Lp.done (x13,x14)) (hw:jI3_3 Ua code n c5 c6 c7 c8 c9 x11 x12 x13 x14)=>have _:=hw.1; ai trivial (ai (Imps.refl (eHelloEnd (⟨(F5 Ua code).Name,(F5 Ua code).Peer,(F5 Ua code).Keys,(F5 Ua code).Boot,(F5 Ua code).Want,(F5 Ua code).Turn,(F5 Ua code).PeerBoot,(F5 Ua code).PeerTurn,(F5 Ua code).Up,(F5 Ua code).Left,(F5 Ua code).Num,(⟨0,(⟨0,0,0,0⟩:Ue)⟩:HelloChange),x13,x14,(F5 Ua code).Got,(F5 Ua code).Full,(F5 Ua code).Heard,(F5 Ua code).Keep⟩:Ud))) (ai (iok (n-1) uu0) (bk3_0 Ua code i0 m0 (n-1) (F6 ⟨(F5 Ua code).Name,(F5 Ua code).Peer,(F5 Ua code).Keys,(F5 Ua code).Boot,(F5 Ua code).Want,(F5 Ua code).Turn,(F5 Ua code).PeerBoot,(F5 Ua code).PeerTurn,(F5 Ua code).Up,(F5 Ua code).Left,(F5 Ua code).Num,(⟨0,(⟨0,0,0,0⟩:Ue)⟩:HelloChange),x13,x14,(F5 Ua code).Got,(F5 Ua code).Full,(F5 Ua code).Heard,(F5 Ua code).Keep⟩).Kind (F6 ⟨(F5 Ua code).Name,(F5 Ua code).Peer,(F5 Ua code).Keys,(F5 Ua code).Boot,(F5 Ua code).Want,(F5 Ua code).Turn,(F5 Ua code).PeerBoot,(F5 Ua code).PeerTurn,(F5 Ua code).Up,(F5 Ua code).Left,(F5 Ua code).Num,(⟨0,(⟨0,0,0,0⟩:Ue)⟩:HelloChange),x13,x14,(F5 Ua code).Got,(F5 Ua code).Full,(F5 Ua code).Heard,(F5 Ua code).Keep⟩).Entry.Addr (F6 ⟨(F5 Ua code).Name,(F5 Ua code).Peer,(F5 Ua code).Keys,(F5 Ua code).Boot,(F5 Ua code).Want,(F5 Ua code).Turn,(F5 Ua code).PeerBoot,(F5 Ua code).PeerTurn,(F5 Ua code).Up,(F5 Ua code).Left,(F5 Ua code).Num,(⟨0,(⟨0,0,0,0⟩:Ue)⟩:HelloChange),x13,x14,(F5 Ua code).Got,(F5 Ua code).Full,(F5 Ua code).Heard,(F5 Ua code).Keep⟩).Entry.Len (F6 ⟨(F5 Ua code).Name,(F5 Ua code).Peer,(F5 Ua code).Keys,(F5 Ua code).Boot,(F5 Ua code).Want,(F5 Ua code).Turn,(F5 Ua code).PeerBoot,(F5 Ua code).PeerTurn,(F5 Ua code).Up,(F5 Ua code).Left,(F5 Ua code).Num,(⟨0,(⟨0,0,0,0⟩:Ue)⟩:HelloChange),x13,x14,(F5 Ua code).Got,(F5 Ua code).Full,(F5 Ua code).Heard,(F5 Ua code).Keep⟩).Entry.Cost (F6 ⟨(F5 Ua code).Name,(F5 Ua code).Peer,(F5 Ua code).Keys,(F5 Ua code).Boot,(F5 Ua code).Want,(F5 Ua code).Turn,(F5 Ua code).PeerBoot,(F5 Ua code).PeerTurn,(F5 Ua code).Up,(F5 Ua code).Left,(F5 Ua code).Num,(⟨0,(⟨0,0,0,0⟩:Ue)⟩:HelloChange),x13,x14,(F5 Ua code).Got,(F5 Ua code).Full,(F5 Ua code).Heard,(F5 Ua code).Keep⟩).Entry.Label x13 x14 hl0 (runL_next hI0 (condT h7 (finD hJ3_10 rfl))) uu27)))) j.1 j.2 hj.1 hj.2)) (fun h7=>have hD0_11:lX3_0 Ua code=Lp.done (n,c5,c6,c7,c8,c9,x11,x12):=runL_done hI0 (condF h7 rfl); jn3_0 Ua code c5 c6 c7 c8 c9 x11 x12 (Ri (finD hD0_11 rfl)) )) (i0.1-1) i0.2.1 i0.2.2.1 i0.2.2.2.1 i0.2.2.2.2.1 i0.2.2.2.2.2.1 i0.2.2.2.2.2.2.1 i0.2.2.2.2.2.2.2.1 i0.2.2.2.2.2.2.2.2 (un3_0 Ua code i0 hi0))))) (fun (j:Int×Int×Int×Int×Int×List Ue×Bool) (hj:jJ3_0 Ua code j)=>(fun (c:Int) (c1:Int) (c2:Int) (c3:Int) (c4:Int) (x9:List Ue) (x10:Bool) (hJ0_12:(F3_j0 Ua code)=Lp.done (c,c1,c2,c3,c4,x9,x10))=>kg11 (bif (c==0) then x10 else false) true x9 (F5 Ua code).Want (fiB (bif (bif (c==0) then x10 else false) then (F11 x9 (F5 Ua code).Want) else false) (F3 Ua code) (condF h1 (condF h4 (condF h5 (finD hJ0_12 rfl)))))) j.1 j.2.1 j.2.2.1 j.2.2.2.1 j.2.2.2.2.1 j.2.2.2.2.2.1 j.2.2.2.2.2.2 hj))))))))))))))))) uu3
theorem putP_mem {e y:Ue}:∀ {t:List Ue},y∈putP e t->y=e\/y∈t
 | [],h=>.inl (by simpa [putP] using h)
 | x :: xs,h=>by
  rw [putP_cons] at h
  cases hl:F60 x e with
  | true =>
   rw [hl,Qd] at h
   rcases Ql.1 h with h | h
   ·exact .inr (by rw [h]; exact Qg)
   ·rcases putP_mem h with h | h
    ·exact .inl h
    ·exact .inr (Qj _ h)
  | false =>
   rw [hl,Qi] at h
   rcases Ql.1 h with h | h
   ·exact .inl h
   ·exact .inr (Tk.1 h).1
theorem putP_self (e:Ue):∀ t:List Ue,e∈putP e t
 | []=>Qg
 | x :: xs=>by
  rw [putP_cons]
  cases F60 x e
  ·exact Qg
  ·exact Qj _ (putP_self e xs)
theorem putP_keep {e y:Ue} (hy:sameP y e=false):∀ {t:List Ue},y∈t->y∈putP e t
 | [],h=>by cases h
 | x :: xs,h=>by
  rw [putP_cons]
  cases F60 x e with
  | false =>
   rw [Qi]
   exact Qj _ (Tk.2 ⟨h,by unfold otherP; rw [hy]; rfl⟩)
  | true =>
   rw [Qd]
   rcases Ql.1 h with h | h
   ·rw [h]; exact Qg
   ·exact Qj _ (putP_keep hy h)
theorem same_lessL {x y z:Ue} (h:sameP x y=true):F60 x z=F60 y z:=by
 obtain ⟨h1,h2⟩:=same_iff.1 h
 unfold F60
 rw [h1,h2]
theorem putP_pw {e:Ue}:∀ {t:List Ue},t.Pairwise (fun x y=>F60 x y=true)->(putP e t).Pairwise (fun x y=>F60 x y=true)
 | [],_=>by simp [putP]
 | x :: xs,h=>by
  have h0:=h
  rw [Sw] at h
  rw [putP_cons]
  cases hl:F60 x e with
  | true =>
   rw [Qd,Sw]
   refine ⟨fun y hy=>?_,putP_pw h.2⟩
   rcases putP_mem hy with rfl | hy
   ·exact hl
   ·exact h.1 y hy
  | false =>
   rw [Qi,Sw]
   refine ⟨fun y hy=>?_,h0.sublist List.filter_sublist⟩
   obtain ⟨hy,ho⟩:=Tk.1 hy
   have ho:sameP y e=false:=by unfold otherP at ho; simpa using ho
   rcases Ql.1 hy with rfl | hy
   ·exact less_tri hl ho
   ·have hxy:=h.1 y hy
    cases hs:sameP x e with
    | true=>rw [same_lessL hs] at hxy; exact hxy
    | false=>exact less_trans (less_tri hl hs) hxy
theorem putP_ord {e:Ue} {t:List Ue} (ht:TOk t) (he:F59 e=true):TOk (putP e t) :=
 ⟨fun x hx=>by
  rcases putP_mem hx with rfl | hx
  ·exact he
  ·exact ht.1 x hx,putP_pw ht.2⟩
theorem fnd_iff {t:List Ue} (ht:TblOk t) (x:Ue):fndE t x=true↔∃ y,y∈t/\sameP y x=true:=by
 have h:=at_neg (x:=x) ht
 rw [at_eq] at h
 cases hf:first (fun k=>sameP (t.getD k default) x) t.length with
 | none =>
  rw [hf] at h
  have hn:=first_none.1 hf
  have h:fndE t x=false:=by
   cases hq:fndE t x with
   | false=>rfl
   | true=>rw [hq] at h; exact absurd h uu5
  rw [h]
  refine ⟨fun h=>(by cases h),fun ⟨y,hy,hs⟩=>?_⟩
  obtain ⟨k,hk,rfl⟩:=mem_getD hy
  rw [hn k hk] at hs; cases hs
 | some k =>
  rw [hf] at h
  obtain ⟨h1,h2,_⟩:=first_some.1 hf
  have h:fndE t x=true:=by
   cases hq:fndE t x with
   | true=>rfl
   | false =>
    rw [hq] at h
    have h:decide (((k:Nat):Int)<0)=true:=h
    have:=Qb h
    omega
  rw [h]
  exact ⟨fun _=>⟨_,getD_mem t h1,h2⟩,fun _=>rfl⟩
theorem ord_uniq {t:List Ue} (h:TOk t) {x y:Ue} (hx:x∈t) (hy:y∈t) (hs:sameP x y=true):x=y:=by
 have hp:=h.2
 rw [Sa] at hp
 obtain ⟨i,hi,rfl⟩:=List.getElem_of_mem hx
 obtain ⟨j,hj,rfl⟩:=List.getElem_of_mem hy
 rcases Nat.lt_trichotomy i j with hij | hij | hij
 ·have:=less_same (hp i j hi hj hij)
  rw [hs] at this; cases this
 ·subst hij; rfl
 ·have:=less_same (hp j i hj hi hij)
  obtain ⟨h1,h2⟩:=same_iff.1 hs
  rw [same_iff.2 ⟨h1.symm,h2.symm⟩] at this; cases this
theorem ord_ext:∀ {a b:List Ue},a.Pairwise (fun x y=>F60 x y=true)->b.Pairwise (fun x y=>F60 x y=true)->(∀ x,x∈a↔x∈b)->a=b
 | [],[],_,_,_=>rfl
 | [],y :: ys,_,_,h=>by have:=(h y).2 Qg; cases this
 | x :: xs,[],_,_,h=>by have:=(h x).1 Qg; cases this
 | x :: xs,y :: ys,ha,hb,h=>by
  rw [Sw] at ha hb
  have he:x=y:=by
   rcases Ql.1 ((h x).1 Qg) with h1 | h1
   ·exact h1
   ·rcases Ql.1 ((h y).2 Qg) with h2 | h2
    ·exact h2.symm
    ·have:=less_trans (hb.1 x h1) (ha.1 y h2)
     rw [less_irr] at this; cases this
  subst he
  have ht:xs=ys:=ord_ext ha.2 hb.2 fun z=>by
   constructor
   ·intro hz
    rcases Ql.1 ((h z).1 (Qj _ hz)) with h1 | h1
    ·have:=ha.1 z hz
     rw [h1,less_irr] at this; cases this
    ·exact h1
   ·intro hz
    rcases Ql.1 ((h z).2 (Qj _ hz)) with h1 | h1
    ·have:=hb.1 z hz
     rw [h1,less_irr] at this; cases this
    ·exact h1
  rw [ht]
def owed (want told:List Ue) (all:Bool):Nat :=
 (told.filter (fun z=>!(fndE want z))).length+(want.filter (fun w=>!(decide (w∈told)))).length+(bif all then 0 else 1)
theorem flt_pos {α:Type} {p:α->Bool} {l:List α} {x:α} (h:x∈l) (hp:p x=true):0<(l.filter p).length:=List.length_pos_of_mem (Tk.2 ⟨h,hp⟩)
theorem flt_le {α:Type} {p q:α->Bool}:∀ {l:List α},(∀ x,x∈l->p x=true->q x=true)->(l.filter p).length<=(l.filter q).length
 | [],_=>Qn _
 | x :: xs,h=>by
  have ih:=flt_le (l:=xs) fun y hy=>h y (Qj _ hy)
  have hx:=h x Qg
  rw [R4,R4]
  cases hp:p x with
  | false =>
   cases q x
   ·exact ih
   ·simp only [So,Sn,T9,Q2]; omega
  | true=>rw [hx hp]; simp only [So,Q2]; omega
theorem flt_lt {α:Type} {p q:α->Bool} {x:α} (hq:q x=true) (hp:p x=false):∀ {l:List α},x∈l->(∀ y,y∈l->p y=true->q y=true)->(l.filter p).length+1<=(l.filter q).length
 | [],h,_=>by cases h
 | y :: ys,h,hpq=>by
  have ha:=hpq y Qg
  have hr:∀ z,z∈ys->p z=true->q z=true:=fun z hz=>hpq z (Qj _ hz)
  rw [R4,R4]
  rcases Ql.1 h with h | h
  ·subst h
   have:=flt_le (l:=ys) hr
   rw [hq,hp]
   simp only [So,Sn,T9,Q2]; omega
  ·have ih:=flt_lt hq hp h hr
   cases hy:p y with
   | false =>
    cases q y
    ·exact ih
    ·simp only [So,Sn,T9,Q2]; omega
   | true=>rw [ha hy]; simp only [So,Q2]; omega
theorem flt_none {α:Type} {p:α->Bool} {l:List α} (h:∀ x,x∈l->p x=false):(l.filter p).length=0:=by
 rw [List.length_eq_zero_iff,List.filter_eq_nil_iff]
 intro x hx
 rw [h x hx]; decide
theorem next_case {e:Ud} (h:EOk e):(∃ z,z∈e.Told/\fndE e.Want z=false/\F21 e=⟨2,⟨z.Addr,z.Len,0,0⟩⟩)\/((∀ z,z∈e.Told->fndE e.Want z=true)/\((∃ y,y∈e.Want/\y ∉ e.Told/\F21 e=⟨1,y⟩)\/((∀ w,w∈e.Want->w∈e.Told)/\F21 e=bif e.All then ⟨0,⟨0,0,0,0⟩⟩ else ⟨3,⟨0,0,0,0⟩⟩))):=by
 have hf:=endFitS e ((endOk_iff e).2 h)
 unfold F21
 rw [extra_eq _ _ hf.want,lacks_eq _ _ hf.told]
 cases h1:first (fun k=>!(fndE e.Want (e.Told.getD k default))) e.Told.length with
 | some k =>
  obtain ⟨a1,a2,_⟩:=first_some.1 h1
  exact .inl ⟨_,getD_mem _ a1,by simpa using a2,rfl⟩
 | none =>
  have hx:=first_none.1 h1
  refine .inr ⟨fun z hz=>?_,?_⟩
  ·obtain ⟨k,hk,rfl⟩:=mem_getD hz
   simpa using hx k hk
  ·cases h2:first (fun k=>!(decide (e.Want.getD k default∈e.Told))) e.Want.length with
   | some k =>
    obtain ⟨a1,a2,_⟩:=first_some.1 h2
    exact .inl ⟨_,getD_mem _ a1,by simpa using a2,rfl⟩
   | none =>
    have hy:=first_none.1 h2
    refine .inr ⟨fun w hw=>?_,?_⟩
    ·obtain ⟨k,hk,rfl⟩:=mem_getD hw
     simpa using hy k hk
    ·cases e.All <;> rfl
def xE (e:Ud) (told:List Ue) (all:Bool):Ud:=⟨e.Name,e.Peer,e.Keys,e.Boot,e.Want,e.Turn,e.PeerBoot,e.PeerTurn,e.Up,e.Left,e.Num,(⟨0,(⟨0,0,0,0⟩:Ue)⟩:HelloChange),told,all,e.Got,e.Full,e.Heard,e.Keep⟩
theorem eok_x {e:Ud} (h:EOk e) {told:List Ue} (ht:F30 told=true) (all:Bool):EOk (xE e told all) :=
 ⟨h.nm,h.pr,h.ne,h.keys,h.boot,h.want,h.turn,h.pb,h.pt,h.pp,h.left,h.lp,h.up,h.num,h.got,change0,fun hk=>absurd (show (0:Int)>0 from hk) uu5,ht,by show F30 (F32 told ⟨0,⟨0,0,0,0⟩⟩)=true; rw [apply_zero]; exact ht,h.hd⟩
theorem nextE_eq (e:Ud):F6 e=F7 e:=by
 unfold F6 F7
 rw [endOk_eq]
 cases h:F9 e with
 | false=>rfl
 | true=>rw [next_eq e (endFitS e h)]
theorem next_x {e:Ud} (h:EOk e) {told:List Ue} (ht:F30 told=true) (all:Bool):F6 (xE e told all)=F21 (xE e told all):=by
 rw [nextE_eq]
 unfold F7
 rw [(endOk_iff _).2 (eok_x h ht all)]; rfl
theorem owed_step {e:Ud} (h:EOk e) {told:List Ue} (ht:F30 told=true) {all:Bool} {c:HelloChange} (hc:c=F21 (xE e told all)) (h3:c.Kind≠3) (h0:c.Kind>0) :
  F30 (F10 told c)=true/\owed e.Want (F10 told c) all+1<=owed e.Want told all:=by
 have hx:=eok_x h ht all
 have hw:=tableOkS_T _ h.want
 have ho:=table_ord h.want
 rw [wapply_eq]
 rcases next_case hx with ⟨z,hz,hf,hn⟩ | ⟨ha,hb⟩
 ·have hz:z∈told:=hz
  have hf:fndE e.Want z=false:=hf
  have hcz:c=⟨2,⟨z.Addr,z.Len,0,0⟩⟩:=hc.trans hn
  subst hcz
  have hs:∀ y,otherP (⟨z.Addr,z.Len,0,0⟩:Ue) y=otherP z y:=fun _=>rfl
  show F30 (told.filter (otherP (⟨z.Addr,z.Len,0,0⟩:Ue)))=true/\owed e.Want (told.filter (otherP (⟨z.Addr,z.Len,0,0⟩:Ue))) all+1<=owed e.Want told all
  refine ⟨table_sub ht List.filter_sublist,?_⟩
  have e1:((told.filter (otherP (⟨z.Addr,z.Len,0,0⟩:Ue))).filter (fun z=>!(fndE e.Want z))).length+1<=(told.filter (fun z=>!(fndE e.Want z))).length:=by
   rw [List.filter_filter]
   refine flt_lt (x:=z) (by rw [hf]; rfl) ?_ hz (fun y _ hy=>?_)
   ·rw [hs]; unfold otherP; rw [same_refl]; simp
   ·rw [Qh] at hy; exact hy.1
  have e2:(e.Want.filter (fun w=>!(decide (w∈told.filter (otherP (⟨z.Addr,z.Len,0,0⟩:Ue)))))).length<=(e.Want.filter (fun w=>!(decide (w∈told)))).length:=by
   refine flt_le fun w hwm hy=>?_
   simp only [Sc,Se] at hy ⊢
   intro hm
   refine hy (Tk.2 ⟨hm,?_⟩)
   rw [hs]; unfold otherP
   cases hq:sameP w z with
   | false=>rfl
   | true =>
    have:=(fnd_iff hw z).2 ⟨w,hwm,hq⟩
    rw [hf] at this; cases this
  unfold owed
  omega
 ·rcases hb with ⟨y,hy,hm,hn⟩ | ⟨_,hn⟩
  ·have hy:y∈e.Want:=hy
   have hm:y ∉ told:=hm
   have ha:∀ z,z∈told->fndE e.Want z=true:=ha
   have hcz:c=⟨1,y⟩:=hc.trans hn
   subst hcz
   show F30 (putP y told)=true/\owed e.Want (putP y told) all+1<=owed e.Want told all
   have hall:∀ z,z∈putP y told->fndE e.Want z=true:=fun z hz=>by
    rcases putP_mem hz with rfl | hz
    ·exact (fnd_iff hw _).2 ⟨_,hy,same_refl _⟩
    ·exact ha z hz
   have hord:TOk (putP y told):=putP_ord (table_ord ht) (ho.1 y hy)
   have hlen:=nodup_sub _ (e.Want.map keyE) (ord_nodup hord) fun q hq=>by
    obtain ⟨x,hxm,rfl⟩:=Sb.1 hq
    exact fnd_key (hall x hxm)
   rw [Si,Si] at hlen
   have hw8:=table_len h.want
   refine ⟨(tableOk_iff _).2 ⟨by omega,hord⟩,?_⟩
   have e1:((putP y told).filter (fun z=>!(fndE e.Want z))).length=0:=flt_none fun z hz=>by rw [hall z hz]; rfl
   have e2:(e.Want.filter (fun w=>!(decide (w∈putP y told)))).length+1<=(e.Want.filter (fun w=>!(decide (w∈told)))).length:=by
    refine flt_lt (x:=y) (by simpa using hm) (by simpa using putP_self y told) hy (fun w hwm hq=>?_)
    simp only [Sc,Se] at hq ⊢
    intro hwt
    refine hq (putP_keep ?_ hwt)
    cases hs:sameP w y with
    | false=>rfl
    | true=>exact absurd (ord_uniq ho hwm hy hs ▸ hwt) hm
   unfold owed
   omega
  ·exfalso
   have hcz:=hc.trans hn
   cases ha':(xE e told all).All with
   | true=>rw [ha'] at hcz; rw [hcz] at h0; exact absurd h0 uu5
   | false=>rw [ha'] at hcz; rw [hcz] at h3; exact h3 rfl
theorem owed_all {e:Ud} (h:EOk e) {told:List Ue} (ht:F30 told=true) {all:Bool} {c:HelloChange} (hc:c=F21 (xE e told all)) (h3:c.Kind=3) :
  owed e.Want told true+1<=owed e.Want told all:=by
 have hx:=eok_x h ht all
 cases all with
 | false=>unfold owed; simp only [Qd,Qi]; omega
 | true =>
  exfalso
  rcases next_case hx with ⟨z,_,_,hn⟩ | ⟨_,⟨y,_,_,hn⟩ | ⟨_,hn⟩⟩
  ·rw [hc,hn] at h3; exact absurd h3 (by show (2:Int)≠3; decide)
  ·rw [hc,hn] at h3; exact absurd h3 (by show (1:Int)≠3; decide)
  ·rw [hc,hn] at h3; exact absurd h3 (by show (0:Int)≠3; decide)
theorem told_out {e:Ud} (h:EOk e) {told:List Ue} (ht:F30 told=true) {all:Bool} {c:HelloChange} (hc:c=F21 (xE e told all)) (h0:¬ c.Kind>0\/owed e.Want told all=0) :
  c.Kind=0/\all=true/\told=e.Want:=by
 have hx:=eok_x h ht all
 have hw:=tableOkS_T _ h.want
 rcases next_case hx with ⟨z,hz,hf,hn⟩ | ⟨ha,⟨y,hy,hm,hn⟩ | ⟨hb,hn⟩⟩
 ·exfalso
  rcases h0 with h0 | h0
  ·rw [hc,hn] at h0; exact h0 (by show (2:Int)>0; decide)
  ·have hz:z∈told:=hz
   have:=flt_pos (p:=fun z=>!(fndE e.Want z)) hz (by show (!(fndE e.Want z))=true; rw [show fndE e.Want z=false from hf]; rfl)
   unfold owed at h0; omega
 ·exfalso
  rcases h0 with h0 | h0
  ·rw [hc,hn] at h0; exact h0 (by show (1:Int)>0; decide)
  ·have hy:y∈e.Want:=hy
   have hm:y ∉ told:=hm
   have:=flt_pos (p:=fun w=>!(decide (w∈told))) hy (by simpa using hm)
   unfold owed at h0; omega
 ·have hn:F21 (xE e told all)=bif all then ⟨0,⟨0,0,0,0⟩⟩ else ⟨3,⟨0,0,0,0⟩⟩:=hn
  have hall:all=true:=by
   cases all with
   | true=>rfl
   | false =>
    rcases h0 with h0 | h0
    ·rw [hc,hn] at h0; exact absurd (by show (3:Int)>0; decide) h0
    ·unfold owed at h0; rw [Qi] at h0; omega
  refine ⟨by rw [hc,hn,hall]; rfl,hall,?_⟩
  have ha:∀ z,z∈told->fndE e.Want z=true:=ha
  have hb:∀ w,w∈e.Want->w∈told:=hb
  refine ord_ext (table_ord ht).2 (table_ord h.want).2 fun x=>⟨fun hxm=>?_,hb x⟩
  obtain ⟨y,hy,hs⟩:=(fnd_iff hw x).1 (ha x hxm)
  have:=ord_uniq (table_ord ht) (hb y hy) hxm hs
  rw [<- this]; exact hy
theorem owed_le (want told:List Ue) (all:Bool):owed want told all<=told.length+want.length+1:=by
 have h1:=List.length_filter_le (fun z=>!(fndE want z)) told
 have h2:=List.length_filter_le (fun w=>!(decide (w∈told))) want
 unfold owed
 cases all
 ·rw [Qi]; omega
 ·rw [Qd]; omega
theorem whTable_refl (a:List Ue):F11 a a=true:=by
 unfold F11
 rw [bne_self_eq_false,Qi]
 refine fin_inv (I:=fun i:Int=>0<=i) (J:=fun r:Bool=>r=true) (K:=fun r:Bool=>r=true) (runL_inv _ _ (fun i hi=>?_) _ _ (Int.le_refl 0)) (fun _ h=>h) (fun _ _=>rfl)
 unfold F11_s0
 simp only [beq_self_eq_true,Tw,Rt,Qi]
 cases decide (i<(a.length:Int)) with
 | false=>exact hi
 | true=>show 0<=i+1; omega
abbrev NS:Type:=Int×Int×Int×Int×Int×Int×List Ue×Bool
abbrev NI (e:Ud) (s:NS):Prop:=F30 s.2.2.2.2.2.2.1=true/\0<=s.1/\(owed e.Want s.2.2.2.2.2.2.1 s.2.2.2.2.2.2.2:Int)<=s.1/\(⟨s.2.1,⟨s.2.2.1,s.2.2.2.1,s.2.2.2.2.1,s.2.2.2.2.2.1⟩⟩:HelloChange)=F21 (xE e s.2.2.2.2.2.2.1 s.2.2.2.2.2.2.2)
abbrev ND (e:Ud) (s:NS):Prop:=s.2.1=0/\s.2.2.2.2.2.2.2=true/\s.2.2.2.2.2.2.1=e.Want
abbrev ND0 (e:Ud) (s:Int×Int×Int×Int×Int×List Ue×Bool):Prop:=s.1=0/\s.2.2.2.2.2.2=true/\s.2.2.2.2.2.1=e.Want
theorem plain_3 (Ua:SV) (code:List Int):F3 Ua code=true:=by
 unfold F3
 rw [nextE_eq,endOk_eq]
 simp only [beq_self_eq_true,Tw,Rt,Qi]
 cases decide ((code.length:Int)>1048576) with
 | true=>rfl
 | false =>
  rw [Qi]
  cases hk:F9 (F5 Ua code) with
  | false =>
   have:F7 (F5 Ua code)=⟨0,⟨0,0,0,0⟩⟩:=by unfold F7; rw [hk]; rfl
   rw [this]; rfl
  | true =>
   have h:=(endOk_iff _).1 hk
   rw [Rt,Qi]
   refine fin_inv (I:=ND0 (F5 Ua code)) (J:=fun r:Bool=>r=true) (K:=fun r:Bool=>r=true) ?_ (fun _ h=>h) (fun s hs=>?_)
   ·unfold F3_j0
    have h8:=table_len h.told
    have w8:=table_len h.want
    have ow:=owed_le (F5 Ua code).Want (F5 Ua code).Told (F5 Ua code).All
    have hn:=next_x h h.told (F5 Ua code).All
    unfold xE at hn
    have hI:NI (F5 Ua code) (((((F5 Ua code).Told).length:Int)+(((F5 Ua code).Want).length:Int))+1,(F6 (xE (F5 Ua code) (F5 Ua code).Told (F5 Ua code).All)).Kind,((F6 (xE (F5 Ua code) (F5 Ua code).Told (F5 Ua code).All)).Entry).Addr,((F6 (xE (F5 Ua code) (F5 Ua code).Told (F5 Ua code).All)).Entry).Len,((F6 (xE (F5 Ua code) (F5 Ua code).Told (F5 Ua code).All)).Entry).Cost,((F6 (xE (F5 Ua code) (F5 Ua code).Told (F5 Ua code).All)).Entry).Label,(F5 Ua code).Told,(F5 Ua code).All):=by
     exact ⟨h.told,by dsimp only; omega,by dsimp only; omega,next_x h h.told _⟩
    refine fin_inv (I:=ND (F5 Ua code)) (J:=fun r:Bool=>r=true) (K:=Lp.all (ND0 (F5 Ua code)) (fun r:Bool=>r=true)) (runL_inv3 (NI (F5 Ua code)) (ND (F5 Ua code)) (fun r:Bool=>r=true) (fun s:NS=>Int.toNat s.1) (fun s hs=>?_) _ _ hI (Qq _)) (fun _ h=>h) (fun s hs=>?_)
    ·obtain ⟨n,c5,c6,c7,c8,c9,told,all⟩:=s
     obtain ⟨i1,i2,i3,i4⟩:=hs
     have i1:F30 told=true:=i1
     have i2:0<=n:=i2
     have i3:(owed (F5 Ua code).Want told all:Int)<=n:=i3
     have i4:(⟨c5,⟨c6,c7,c8,c9⟩⟩:HelloChange)=F21 (xE (F5 Ua code) told all):=i4
     unfold F3_s0
     dsimp only
     have out:(¬ c5>0\/owed (F5 Ua code).Want told all=0)->ND (F5 Ua code) (n,c5,c6,c7,c8,c9,told,all):=fun ho=>told_out h i1 i4 ho
     by_cases hn0:n>0
     ·by_cases hc0:c5>0
      ·rw [Qs hn0,Qs hc0,Qd,Qd]
       unfold F3_j3
       by_cases h3:c5=3
       ·have e3:(c5==3)=true:=by simpa using h3
        have:=owed_all h i1 i4 h3
        rw [e3,Qd]
        exact ⟨⟨i1,by show 0<=n-1; omega,by show (owed (F5 Ua code).Want told true:Int)<=n-1; omega,next_x h i1 true⟩,by show Int.toNat (n-1)<Int.toNat n; omega⟩
       ·have e3:(c5==3)=false:=by simpa using h3
        obtain ⟨g1,g2⟩:=owed_step h i1 i4 h3 hc0
        rw [e3,Qi]
        exact ⟨⟨g1,by show 0<=n-1; omega,by show (owed (F5 Ua code).Want (F10 told ⟨c5,⟨c6,c7,c8,c9⟩⟩) all:Int)<=n-1; omega,next_x h g1 all⟩,by show Int.toNat (n-1)<Int.toNat n; omega⟩
      ·rw [Qs hn0,Qt hc0,Qd,Qi]
       exact out (.inl hc0)
     ·rw [Qt hn0,Qi,Qi]
      exact out (.inr uu0)
    ·exact hs
   ·obtain ⟨c,c1,c2,c3,c4,told,all⟩:=s
    obtain ⟨g1,g2,g3⟩:=hs
    have g1:c=0:=g1
    have g2:all=true:=g2
    have g3:told=(F5 Ua code).Want:=g3
    subst g1 g2 g3
    exact whTable_refl _
end Go.Proofs.YtpecbmjjkfekbaaGreat
namespace Go.Proofs.YtpecbmjjkfekbaaGreat
open Go.RowKit Go.ChangeShapes Go.WideShapes Go.ChangeAt
set_option maxRecDepth 100000
set_option linter.unusedVariables false
theorem op_5:OpD Tryz.prog 5 eByte:=OpD.byte Tryz.underlying5
theorem op_22:OpD Tryz.prog 22 (fun xs:List Int=>[.l 1 eByte xs]):=OpD.slice 1 Tryz.underlying22 op_5 (fun _=>rfl) uu3 uu5
theorem own:ownKnob Tryz.prog.godebug=none:=by kernel_rfl
theorem cfA:Tryz.prog.inPlace 3=Rows.fnHelloNextRow.inPlace:=by kernel_rfl
theorem cfB:Tryz.prog.unfollowed 3=Rows.fnHelloNextRow.unfollowed:=by kernel_rfl
theorem cfC:Tryz.prog.recurses 3=Rows.fnHelloNextRow.recurses:=by kernel_rfl
theorem cfD:Tryz.prog.varsNamed 3=Rows.fnHelloNextRow.named:=by kernel_rfl
set_option maxRecDepth 100000 in
theorem lifted_FnHelloNext (os:Os) (started:os.Started) (H:Type) (enc:TypeId×Value->H) :
  ReturnsInHanded {} Tryz.checked os 3 .any (Rows.fnHelloNextSpec.pre6 enc Tryz.prog Tryz.f3 Rows.fnHelloNextRow.domain false) (Rows.fnHelloNextSpec.post enc Tryz.prog Tryz.f3 false true false false):=by
 refine returnsInHanded_of_change (C:=Tryz.checked) own started uu3 Tryz.func3
  (ChangeSpec.witness6 (enc:=enc) (C:=Tryz.checked) false ⟨#[],#[.slice none 0 0],[]⟩ 8 uu3 uu3 uu3 uu3) ?_
 intro W base args ds gs before hval0 hW hcnd _
 have hval:∀ (j:Nat) t v,Tryz.f3.params[j]?=some t->args[j]?=some v->Value.okWide Tryz.prog W .any base t v:=hval0
 have hW':=hW
 obtain ⟨p,q,hA0,hV,rfl,hfz,hnd⟩:=hW
 have hA:DataW.TrodAll enc Tryz.prog W 0 (fun _=>true) true Tryz.f3.params.toList args.toList ds p:=hA0
 rw [Tryz.params3] at hA hval
 obtain ⟨v0,vs0,d0,ds0,p0,q0,hargs,rfl,rfl,h0,r0⟩:=trodAll_cons hA
 obtain ⟨rfl,rfl,rfl⟩:=trodAll_nil r0
 obtain rfl:args=#[v0]:=by cases args; simp_all
 obtain ⟨rfl,rfl⟩:=trodVars_none hV
 obtain ⟨fu0,t0⟩:=h0
 obtain ⟨a0,n0,c0,rfl⟩:=okWide_slice Tryz.underlying22 (hval 0 22 v0 rfl rfl)
 obtain ⟨x0,u0,us0,e0,o0,-⟩:=op_22 H enc W fu0 _ _ t0
 obtain rfl:u0=_:=(List.cons.inj e0).1.symm
 have hG:GP W:=⟨fun b hb=>by simp [GBe] at hb,fun b hb=>by simp [GBi] at hb,fun q hq=>by simp [GBt] at hq⟩
 have hc:=law_call (W:=W) (vs:=[.slice a0 n0 c0]) (ok3 (⟨a0,n0,c0⟩:SV) x0) trivial (x:=.bool (F3 (⟨a0,n0,c0⟩:SV) x0)) hG ⟨_,_,[],[],rfl,⟨⟨rfl,o0⟩,rfl⟩,⟨rfl,rfl⟩,rfl,Q5⟩ rfl rfl
 rw [plain_3 (⟨a0,n0,c0⟩:SV) x0] at hc
 refine hc.mono fun e W' ⟨he,hb⟩=>?_
 subst he
 exact ⟨_,rfl,law_post rfl hW' hb rfl Tryz.underlying4 rfl rfl rfl laid (by decide +kernel)⟩
theorem proved_FnHelloNext:Rows.FnHelloNextSaid :=
 OpenClaim.holds_of_wide 3 Tryz.f3 rfl rfl rfl rfl rfl rfl rfl ⟨rfl,rfl,rfl,rfl,rfl⟩ rfl rfl rfl rfl rfl uu3 Tryz.func3 (by
   show joinedFacts Tryz.prog 3 Tryz.f3 Rows.fnHelloNextSpec Rows.fnHelloNextRow=true
   simp only [joinedFacts,laid,cfMaps,cfKeys,cfLifts,cfHeard,cfEnter,cfMake,cfA,cfB,cfC,cfD,Bool.and_true]
   kernel_rfl)
  (Qb uu3) (by unfold Func.isWrapper; first | (rw [if_pos (by decide +kernel)]; kernel_rfl) | (rw [if_neg (by decide +kernel)]; exact ⟨rfl,rfl⟩))
  (fun os started H enc _=>lifted_FnHelloNext os started H enc)
#print axioms proved_FnHelloNext
end Go.Proofs.YtpecbmjjkfekbaaGreat
