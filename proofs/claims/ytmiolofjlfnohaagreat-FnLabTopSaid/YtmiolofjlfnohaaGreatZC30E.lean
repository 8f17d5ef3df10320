/- A part of the proof of FnLabTop. Texts put together: VG, PG2, VGA, PG3, VS, PS, PDA, VD0, PD0, VD1, PD1, VD2, PD2, VD3, PJ1, PJ2, PJ3. -/
import Derived.Test.YtmiolofjlfnohaaGreatRows
import Derived.Test.YtmiolofjlfnohaaGreatZC30D
namespace Go.Proofs.YtmiolofjlfnohaaGreat
open Go.RowKit
set_option maxRecDepth 100000
set_option linter.unusedVariables false
set_option linter.unusedSimpArgs false
def T47 (R:List LabVia) (list:List LabVia) (v1:LabVia):Spec:=⟨(S47 R list v1).args,(S47 R list v1).res,list.length≤1000000000⟩
theorem oa47 (list:List LabVia) (v1:LabVia):(T47 (putK (fun x:LabVia=>x.To) list v1) list v1).ok Tryz.prog 47:=by
 intro hp; have h:=ok47 list v1 hp; rw [as47 list v1] at h; exact h
def fs100 (p:LabVia→LabVia→Int):FnSpec:=⟨LabVia×LabVia,fun i=>[.g (eLabVia i.1),.g (eLabVia i.2)],fun i=>.int .i64 (p i.1 i.2)⟩
def F64 (x9:List LabVia) (cmp:LabVia→LabVia→Int):List LabVia :=
 sortL cmp x9
def S64 (x9:List LabVia) (cmp:LabVia→LabVia→Int):Spec:=⟨[.ow (.l 3 eLabVia x9) (some (.l 3 eLabVia (F64 x9 cmp))),.fn (fs100 cmp)],.tu [],SortPre cmp x9∧x9.length≤4000000000000000000⟩
theorem ok64 (x9:List LabVia) (cmp:LabVia→LabVia→Int):(S64 x9 cmp).ok Tryz.prog 64 :=
 sort_ok lay64 lay64a lay64z eLabVia (fun x=>⟨rfl,fun d hd=>by simp only [eLabVia,List.mem_cons,List.not_mem_nil,or_false] at hd; rcases hd with rfl | rfl | rfl <;> exact ⟨_,rfl,rfl⟩⟩) cmp x9
def F31 (n:LabNet) (a:Int) (b:Int):Int×LabNet :=
 bif (decide ((linkOf n a b)<0)) then (2,n) else (bif ((guardP (n.Boxes.getD a.toNat default) b).2) then (4,n) else (bif (((labWay n a b (linkOf n a b)).length:Int)==0) then (5,n) else (bif ((layR n (labWay n a b (linkOf n a b))).2.1 != 0) then (3,((layR n (labWay n a b (linkOf n a b))).2.2)) else (0,(⟨((layR n (labWay n a b (linkOf n a b))).2.2).Links,((((layR n (labWay n a b (linkOf n a b))).2.2).Boxes).set (a).toNat (⟨((((layR n (labWay n a b (linkOf n a b))).2.2).Boxes).getD a.toNat default).Rows,(F64 ((((((layR n (labWay n a b (linkOf n a b))).2.2).Boxes).getD a.toNat default).Guards)++[(⟨b,((rowP ((((layR n (labWay n a b (linkOf n a b))).2.2).Boxes).getD a.toNat default) ((layR n (labWay n a b (linkOf n a b))).1)).1).Next,((rowP ((((layR n (labWay n a b (linkOf n a b))).2.2).Boxes).getD a.toNat default) ((layR n (labWay n a b (linkOf n a b))).1)).1).Out⟩:LabVia)]) (fun (x0:LabVia) (x1:LabVia)=>F65 x0 x1))⟩:LabBox))⟩:LabNet)))))
def S31 (R:Int×LabNet) (n:LabNet) (a:Int) (b:Int):Spec:=⟨[.pt 26 (eLabNet n) (eLabNet R.2),.r (.c (.v (vI a))),.r (.c (.v (vI b)))],.v (vI R.1),NetOk n∧n.Boxes.length≤8⟩
theorem ok31 (n:LabNet) (a:Int) (b:Int):(S31 (F31 n a b) n a b).ok Tryz.prog 31 :=
 fnG_ok mixed (fn:=Tryz.f31) (ct:=.seqk [(0,0),(0,1)] (.no) (.seq (.reg [(5,.call 48 (T48 (linkOf n a b) n a b) (oa48 n a b) none)]) (.seq (.seq (.no) (.cond (.seq (.no) (.no)) (.no))) (.seq (.seq (.reg [(8,.call 61 (S61 (guardP (n.Boxes.getD a.toNat default) b) (n.Boxes.getD a.toNat default) b) (oa61 (n.Boxes.getD a.toNat default) b) none)]) (.seq (.no) (.cond (.seq (.no) (.no)) (.no)))) (.seq (.reg [(6,.call 62 (S62 (labWay n a b (linkOf n a b)) n a b (linkOf n a b)) (oa62 n a b (linkOf n a b)) none)]) (.seq (.seq (.no) (.cond (.seq (.no) (.no)) (.no))) (.seq (.reg [(2,.call 34 (T34 (layR n (labWay n a b (linkOf n a b))) n (labWay n a b (linkOf n a b))) (oa34 n (labWay n a b (linkOf n a b))) none)]) (.seq (.seq (.no) (.cond (.seq (.no) (.no)) (.no))) (.seq (.reg [(8,.call 63 (S63 (rowP ((((layR n (labWay n a b (linkOf n a b))).2.2).Boxes).getD a.toNat default) ((layR n (labWay n a b (linkOf n a b))).1)) ((((layR n (labWay n a b (linkOf n a b))).2.2).Boxes).getD a.toNat default) ((layR n (labWay n a b (linkOf n a b))).1)) (oa63 ((((layR n (labWay n a b (linkOf n a b))).2.2).Boxes).getD a.toNat default) ((layR n (labWay n a b (linkOf n a b))).1)) none)]) (.seq (.reg [(7,.take (.l 2 (encH 1 eLabBox) (((((layR n (labWay n a b (linkOf n a b))).2.2).Boxes).map hz).set (a).toNat (((((layR n (labWay n a b (linkOf n a b))).2.2).Boxes).getD a.toNat default),true)))),(15,.dat (.l 3 eLabVia ((((((layR n (labWay n a b (linkOf n a b))).2.2).Boxes).getD a.toNat default).Guards)++[(⟨b,((rowP ((((layR n (labWay n a b (linkOf n a b))).2.2).Boxes).getD a.toNat default) ((layR n (labWay n a b (linkOf n a b))).1)).1).Next,((rowP ((((layR n (labWay n a b (linkOf n a b))).2.2).Boxes).getD a.toNat default) ((layR n (labWay n a b (linkOf n a b))).1)).1).Out⟩:LabVia)])))]) (.seq (.reg [(1,.call 64 (S64 ((((((layR n (labWay n a b (linkOf n a b))).2.2).Boxes).getD a.toNat default).Guards)++[(⟨b,((rowP ((((layR n (labWay n a b (linkOf n a b))).2.2).Boxes).getD a.toNat default) ((layR n (labWay n a b (linkOf n a b))).1)).1).Next,((rowP ((((layR n (labWay n a b (linkOf n a b))).2.2).Boxes).getD a.toNat default) ((layR n (labWay n a b (linkOf n a b))).1)).1).Out⟩:LabVia)]) (fun (x0:LabVia) (x1:LabVia)=>F65 x0 x1)) (ok64 ((((((layR n (labWay n a b (linkOf n a b))).2.2).Boxes).getD a.toNat default).Guards)++[(⟨b,((rowP ((((layR n (labWay n a b (linkOf n a b))).2.2).Boxes).getD a.toNat default) ((layR n (labWay n a b (linkOf n a b))).1)).1).Next,((rowP ((((layR n (labWay n a b (linkOf n a b))).2.2).Boxes).getD a.toNat default) ((layR n (labWay n a b (linkOf n a b))).1)).1).Out⟩:LabVia)]) (fun (x0:LabVia) (x1:LabVia)=>F65 x0 x1)) (some ⟨65,fs100 (fun (x0:LabVia) (x1:LabVia)=>F65 x0 x1),[],rfl,True,fun i=>(ok65 i.1 i.2)⟩))]) (.seq (.reg [(6,.ix [.l 3 eLabRow (((((layR n (labWay n a b (linkOf n a b))).2.2).Boxes).getD a.toNat default).Rows),.any]),(8,.dat (.l 2 eLabBox ((((layR n (labWay n a b (linkOf n a b))).2.2).Boxes).set (a).toNat (⟨((((layR n (labWay n a b (linkOf n a b))).2.2).Boxes).getD a.toNat default).Rows,(F64 ((((((layR n (labWay n a b (linkOf n a b))).2.2).Boxes).getD a.toNat default).Guards)++[(⟨b,((rowP ((((layR n (labWay n a b (linkOf n a b))).2.2).Boxes).getD a.toNat default) ((layR n (labWay n a b (linkOf n a b))).1)).1).Next,((rowP ((((layR n (labWay n a b (linkOf n a b))).2.2).Boxes).getD a.toNat default) ((layR n (labWay n a b (linkOf n a b))).1)).1).Out⟩:LabVia)]) (fun (x0:LabVia) (x1:LabVia)=>F65 x0 x1))⟩:LabBox))))]) (.seq (.no) (.no)))))))))))))) Tryz.func31 (fun (hp:NetOk n∧n.Boxes.length≤8)=>(fun (hpre0:NetOk n) (hpre1:n.Boxes.length≤8)=>fun (_:n.Links.length≤9223372036854775807)=>fun (_:n.Boxes.length≤9223372036854775807)=>ai (((by first | assumption | exact NetOk.frame (by assumption):FrameOk n))) (ai ((Imps.refl (eLabNet n))) (ai ((Imp.refl (.v (vI a)))) (ai ((Imp.refl (.v (vI b)))) ((fun gv1:0≤(linkOf n a b)→0≤a∧a<(n.Boxes.length:Int)∧0≤b∧b<(n.Boxes.length:Int)=>ai (fun h2:(decide ((linkOf n a b)<0))=true=>(fun _:(linkOf n a b)<0=>(fun hF:(2,n)=(F31 n a b)=>ai (congrArg (fun r:Int×LabNet=>(.int .i64 r.1:Value)) hF) (ai (ai (Imp.of_eq (congrArg (fun r:Int×LabNet=>Dat.l 2 eLabLink r.2.Links) hF)) (ai (Imp.of_eq (congrArg (fun r:Int×LabNet=>Dat.l 2 eLabBox r.2.Boxes) hF)) (trivial))) (trivial))) (condT h2 (rfl))) (of_decide_eq_true h2)) (fun h2:(decide ((linkOf n a b)<0))=false=>(fun _:¬ (linkOf n a b)<0=>ai ((by first | omega | (simp only [lens] at*<;> omega):0≤a∧a<(n.Boxes.length:Int))) (ai (trivial) (ai ((Imps.refl (eLabBox (n.Boxes.getD a.toNat default)))) (ai ((Imp.refl (.v (vI b)))) (ai (fun h3:((guardP (n.Boxes.getD a.toNat default) b).2)=true=>(fun hF:(4,n)=(F31 n a b)=>ai (congrArg (fun r:Int×LabNet=>(.int .i64 r.1:Value)) hF) (ai (ai (Imp.of_eq (congrArg (fun r:Int×LabNet=>Dat.l 2 eLabLink r.2.Links) hF)) (ai (Imp.of_eq (congrArg (fun r:Int×LabNet=>Dat.l 2 eLabBox r.2.Boxes) hF)) (trivial))) (trivial))) (condF h2 (condT h3 (rfl)))) (fun h3:((guardP (n.Boxes.getD a.toNat default) b).2)=false=>ai (trivial) (ai ((Imps.refl (eLabNet n))) (ai ((Imp.refl (.v (vI a)))) (ai ((Imp.refl (.v (vI b)))) (ai ((Imp.refl (.v (vI (linkOf n a b))))) (ai (fun h4:(((labWay n a b (linkOf n a b)).length:Int)==0)=true=>(fun _:((labWay n a b (linkOf n a b)).length:Int)=0=>(fun hF:(5,n)=(F31 n a b)=>ai (congrArg (fun r:Int×LabNet=>(.int .i64 r.1:Value)) hF) (ai (ai (Imp.of_eq (congrArg (fun r:Int×LabNet=>Dat.l 2 eLabLink r.2.Links) hF)) (ai (Imp.of_eq (congrArg (fun r:Int×LabNet=>Dat.l 2 eLabBox r.2.Boxes) hF)) (trivial))) (trivial))) (condF h2 (condF h3 (condT h4 (rfl))))) (eq_of_beq h4)) (fun h4:(((labWay n a b (linkOf n a b)).length:Int)==0)=false=>(fun _:¬ ((labWay n a b (linkOf n a b)).length:Int)=0=>ai ((ai ((by assumption:NetOk n)) ((by first | omega | (simp only [lens] at*<;> omega):n.Boxes.length≤8)))) (ai ((Imps.refl (eLabNet n))) (ai ((Imp.refl (.l 1 eInt (labWay n a b (linkOf n a b))))) ((fun gv5:((layR n (labWay n a b (linkOf n a b)))).2.2.Boxes.length=n.Boxes.length=>ai (fun h6:((layR n (labWay n a b (linkOf n a b))).2.1 != 0)=true=>(fun _:¬ (layR n (labWay n a b (linkOf n a b))).2.1=0=>(fun hF:(3,((layR n (labWay n a b (linkOf n a b))).2.2))=(F31 n a b)=>ai (congrArg (fun r:Int×LabNet=>(.int .i64 r.1:Value)) hF) (ai (ai (Imp.of_eq (congrArg (fun r:Int×LabNet=>Dat.l 2 eLabLink r.2.Links) hF)) (ai (Imp.of_eq (congrArg (fun r:Int×LabNet=>Dat.l 2 eLabBox r.2.Boxes) hF)) (trivial))) (trivial))) (condF h2 (condF h3 (condF h4 (condT h6 (rfl)))))) (bneT h6)) (fun h6:((layR n (labWay n a b (linkOf n a b))).2.1 != 0)=false=>(fun _:(layR n (labWay n a b (linkOf n a b))).2.1=0=>ai ((by first | omega | (simp only [lens] at*<;> omega):0≤a∧a<((((layR n (labWay n a b (linkOf n a b))).2.2).Boxes).length:Int))) (ai (trivial) (ai ((Imps.refl (eLabBox ((((layR n (labWay n a b (linkOf n a b))).2.2).Boxes).getD a.toNat default)))) (ai ((Imp.refl (.v (vI ((layR n (labWay n a b (linkOf n a b))).1))))) (ai ((by first | omega | (simp only [lens] at*<;> omega):0≤a∧a<((((layR n (labWay n a b (linkOf n a b))).2.2).Boxes).length:Int))) (ai ((SetOK.take eLabBox (((layR n (labWay n a b (linkOf n a b))).2.2).Boxes) ((((layR n (labWay n a b (linkOf n a b))).2.2).Boxes).getD a.toNat default) 1 (fun _=>rfl) rfl rfl:SetOK (.l 2 eLabBox (((layR n (labWay n a b (linkOf n a b))).2.2).Boxes)) (a).toNat (eLabBox ((((layR n (labWay n a b (linkOf n a b))).2.2).Boxes).getD a.toNat default)) [.l 3 eLabRow (((((layR n (labWay n a b (linkOf n a b))).2.2).Boxes).getD a.toNat default).Rows),.any] (.l 2 (encH 1 eLabBox) (((((layR n (labWay n a b (linkOf n a b))).2.2).Boxes).map hz).set (a).toNat (((((layR n (labWay n a b (linkOf n a b))).2.2).Boxes).getD a.toNat default),true))))) (ai ((AppA.mk eLabVia (((((layR n (labWay n a b (linkOf n a b))).2.2).Boxes).getD a.toNat default).Guards) [(⟨b,((rowP ((((layR n (labWay n a b (linkOf n a b))).2.2).Boxes).getD a.toNat default) ((layR n (labWay n a b (linkOf n a b))).1)).1).Next,((rowP ((((layR n (labWay n a b (linkOf n a b))).2.2).Boxes).getD a.toNat default) ((layR n (labWay n a b (linkOf n a b))).1)).1).Out⟩:LabVia)] (Imp.refl (.l 3 eLabVia (((((layR n (labWay n a b (linkOf n a b))).2.2).Boxes).getD a.toNat default).Guards))) rfl (by exact ai ir (ai ir (ai ir (trivial)))) (fun _=>rfl):AppA (.l 3 eLabVia (((((layR n (labWay n a b (linkOf n a b))).2.2).Boxes).getD a.toNat default).Guards)) 1 3 [.v (vI b),.v (vI (((rowP ((((layR n (labWay n a b (linkOf n a b))).2.2).Boxes).getD a.toNat default) ((layR n (labWay n a b (linkOf n a b))).1)).1).Next)),.v (vI (((rowP ((((layR n (labWay n a b (linkOf n a b))).2.2).Boxes).getD a.toNat default) ((layR n (labWay n a b (linkOf n a b))).1)).1).Out))] (.l 3 eLabVia ((((((layR n (labWay n a b (linkOf n a b))).2.2).Boxes).getD a.toNat default).Guards)++[(⟨b,((rowP ((((layR n (labWay n a b (linkOf n a b))).2.2).Boxes).getD a.toNat default) ((layR n (labWay n a b (linkOf n a b))).1)).1).Next,((rowP ((((layR n (labWay n a b (linkOf n a b))).2.2).Boxes).getD a.toNat default) ((layR n (labWay n a b (linkOf n a b))).1)).1).Out⟩:LabVia)])))) (ai ((by (have hq:=layR_vias (by assumption:NetOk n) (labWay n a b (linkOf n a b)) a.toNat; (try simp only [lens]); omega):(((((((layR n (labWay n a b (linkOf n a b))).2.2).Boxes).getD a.toNat default).Guards)++[(⟨b,((rowP ((((layR n (labWay n a b (linkOf n a b))).2.2).Boxes).getD a.toNat default) ((layR n (labWay n a b (linkOf n a b))).1)).1).Next,((rowP ((((layR n (labWay n a b (linkOf n a b))).2.2).Boxes).getD a.toNat default) ((layR n (labWay n a b (linkOf n a b))).1)).1).Out⟩:LabVia)])).length*24≤140737488355328)) (ai ((ai ((by first | exact guard_vcs (by assumption) (by assumption) (by assumption) (by assumption) (by assumption) | (have hq:=layR_vias (by assumption:NetOk n) (labWay n a b (linkOf n a b)) a.toNat; (try simp only [lens]); omega):SortPre (fun (x0:LabVia) (x1:LabVia)=>F65 x0 x1) ((((((layR n (labWay n a b (linkOf n a b))).2.2).Boxes).getD a.toNat default).Guards)++[(⟨b,((rowP ((((layR n (labWay n a b (linkOf n a b))).2.2).Boxes).getD a.toNat default) ((layR n (labWay n a b (linkOf n a b))).1)).1).Next,((rowP ((((layR n (labWay n a b (linkOf n a b))).2.2).Boxes).getD a.toNat default) ((layR n (labWay n a b (linkOf n a b))).1)).1).Out⟩:LabVia)]))) ((by first | exact guard_vcs (by assumption) (by assumption) (by assumption) (by assumption) (by assumption) | (have hq:=layR_vias (by assumption:NetOk n) (labWay n a b (linkOf n a b)) a.toNat; (try simp only [lens]); omega):((((((layR n (labWay n a b (linkOf n a b))).2.2).Boxes).getD a.toNat default).Guards)++[(⟨b,((rowP ((((layR n (labWay n a b (linkOf n a b))).2.2).Boxes).getD a.toNat default) ((layR n (labWay n a b (linkOf n a b))).1)).1).Next,((rowP ((((layR n (labWay n a b (linkOf n a b))).2.2).Boxes).getD a.toNat default) ((layR n (labWay n a b (linkOf n a b))).1)).1).Out⟩:LabVia)]).length≤4000000000000000000)))) (ai ((Imp.refl (.l 3 eLabVia ((((((layR n (labWay n a b (linkOf n a b))).2.2).Boxes).getD a.toNat default).Guards)++[(⟨b,((rowP ((((layR n (labWay n a b (linkOf n a b))).2.2).Boxes).getD a.toNat default) ((layR n (labWay n a b (linkOf n a b))).1)).1).Next,((rowP ((((layR n (labWay n a b (linkOf n a b))).2.2).Boxes).getD a.toNat default) ((layR n (labWay n a b (linkOf n a b))).1)).1).Out⟩:LabVia)])))) (ai ((Eq.refl (fs100 (fun (x0:LabVia) (x1:LabVia)=>F65 x0 x1)))) (ai (trivial) (ai ((by simp only [lens] at*<;> omega:0≤a∧a<((((((layR n (labWay n a b (linkOf n a b))).2.2).Boxes).map hz).set (a).toNat (((((layR n (labWay n a b (linkOf n a b))).2.2).Boxes).getD a.toNat default),true)).length:Int))) (ai ((Imps.of_eq (congrArg (encH 1 eLabBox) (getD_set_eq ((((layR n (labWay n a b (linkOf n a b))).2.2).Boxes).map hz) (a).toNat (((((layR n (labWay n a b (linkOf n a b))).2.2).Boxes).getD a.toNat default),true) (by simp only [lens] at*<;> omega))))) (ai ((SetOK.fill eLabBox (((layR n (labWay n a b (linkOf n a b))).2.2).Boxes) ((((layR n (labWay n a b (linkOf n a b))).2.2).Boxes).getD a.toNat default) (⟨((((layR n (labWay n a b (linkOf n a b))).2.2).Boxes).getD a.toNat default).Rows,(F64 ((((((layR n (labWay n a b (linkOf n a b))).2.2).Boxes).getD a.toNat default).Guards)++[(⟨b,((rowP ((((layR n (labWay n a b (linkOf n a b))).2.2).Boxes).getD a.toNat default) ((layR n (labWay n a b (linkOf n a b))).1)).1).Next,((rowP ((((layR n (labWay n a b (linkOf n a b))).2.2).Boxes).getD a.toNat default) ((layR n (labWay n a b (linkOf n a b))).1)).1).Out⟩:LabVia)]) (fun (x0:LabVia) (x1:LabVia)=>F65 x0 x1))⟩:LabBox) 1 (congrArg (encH 1 eLabBox) (getD_set_eq ((((layR n (labWay n a b (linkOf n a b))).2.2).Boxes).map hz) (a).toNat (((((layR n (labWay n a b (linkOf n a b))).2.2).Boxes).getD a.toNat default),true) (by simp only [lens] at*<;> omega))) (by exact ai ir (ai ir (trivial))):SetOK (.l 2 (encH 1 eLabBox) (((((layR n (labWay n a b (linkOf n a b))).2.2).Boxes).map hz).set (a).toNat (((((layR n (labWay n a b (linkOf n a b))).2.2).Boxes).getD a.toNat default),true))) (a).toNat ([.l 3 eLabRow (((((layR n (labWay n a b (linkOf n a b))).2.2).Boxes).getD a.toNat default).Rows),.any]) [.l 3 eLabRow (((((layR n (labWay n a b (linkOf n a b))).2.2).Boxes).getD a.toNat default).Rows),.l 3 eLabVia (F64 ((((((layR n (labWay n a b (linkOf n a b))).2.2).Boxes).getD a.toNat default).Guards)++[(⟨b,((rowP ((((layR n (labWay n a b (linkOf n a b))).2.2).Boxes).getD a.toNat default) ((layR n (labWay n a b (linkOf n a b))).1)).1).Next,((rowP ((((layR n (labWay n a b (linkOf n a b))).2.2).Boxes).getD a.toNat default) ((layR n (labWay n a b (linkOf n a b))).1)).1).Out⟩:LabVia)]) (fun (x0:LabVia) (x1:LabVia)=>F65 x0 x1))] (.l 2 eLabBox ((((layR n (labWay n a b (linkOf n a b))).2.2).Boxes).set (a).toNat (⟨((((layR n (labWay n a b (linkOf n a b))).2.2).Boxes).getD a.toNat default).Rows,(F64 ((((((layR n (labWay n a b (linkOf n a b))).2.2).Boxes).getD a.toNat default).Guards)++[(⟨b,((rowP ((((layR n (labWay n a b (linkOf n a b))).2.2).Boxes).getD a.toNat default) ((layR n (labWay n a b (linkOf n a b))).1)).1).Next,((rowP ((((layR n (labWay n a b (linkOf n a b))).2.2).Boxes).getD a.toNat default) ((layR n (labWay n a b (linkOf n a b))).1)).1).Out⟩:LabVia)]) (fun (x0:LabVia) (x1:LabVia)=>F65 x0 x1))⟩:LabBox))))) ((fun hF:(0,(⟨((layR n (labWay n a b (linkOf n a b))).2.2).Links,((((layR n (labWay n a b (linkOf n a b))).2.2).Boxes).set (a).toNat (⟨((((layR n (labWay n a b (linkOf n a b))).2.2).Boxes).getD a.toNat default).Rows,(F64 ((((((layR n (labWay n a b (linkOf n a b))).2.2).Boxes).getD a.toNat default).Guards)++[(⟨b,((rowP ((((layR n (labWay n a b (linkOf n a b))).2.2).Boxes).getD a.toNat default) ((layR n (labWay n a b (linkOf n a b))).1)).1).Next,((rowP ((((layR n (labWay n a b (linkOf n a b))).2.2).Boxes).getD a.toNat default) ((layR n (labWay n a b (linkOf n a b))).1)).1).Out⟩:LabVia)]) (fun (x0:LabVia) (x1:LabVia)=>F65 x0 x1))⟩:LabBox))⟩:LabNet))=(F31 n a b)=>ai (congrArg (fun r:Int×LabNet=>(.int .i64 r.1:Value)) hF) (ai (ai (Imp.of_eq (congrArg (fun r:Int×LabNet=>Dat.l 2 eLabLink r.2.Links) hF)) (ai (Imp.of_eq (congrArg (fun r:Int×LabNet=>Dat.l 2 eLabBox r.2.Boxes) hF)) (trivial))) (trivial))) (condF h2 (condF h3 (condF h4 (condF h6 (rfl))))))))))))))))))))) (bneF h6))) ((by exact layR_len _ _)))))) (beqF h4))))))))))))) (of_decide_eq_false h2))) ((by exact fun h=>linkOf_in4 (by assumption) h))))))) hp.1 hp.2) (by kernel_rfl)
def F17 (n:LabNet) (a:Int) (b:Int):LabNet×Int :=
 bif (!(netB n)) then ((⟨[],[]⟩:LabNet),1) else (bif (decide ((linkOf n a b)<0)) then (n,2) else (bif (decide ((oix (guardIx (n.Boxes.getD a.toNat default) b))≥0)) then (n,4) else (bif (((wayOf n a b (linkOf n a b)).length:Int)==0) then (n,5) else (bif ((labLay n (wayOf n a b (linkOf n a b))).2.2 != 0) then (n,(labLay n (wayOf n a b (linkOf n a b))).2.2) else ((⟨((labLay n (wayOf n a b (linkOf n a b))).1).Links,((((labLay n (wayOf n a b (linkOf n a b))).1).Boxes).set (a).toNat (⟨((((labLay n (wayOf n a b (linkOf n a b))).1).Boxes).getD a.toNat default).Rows,(putK (fun x:LabVia=>x.To) (((((labLay n (wayOf n a b (linkOf n a b))).1).Boxes).getD a.toNat default).Guards) (⟨b,((((((labLay n (wayOf n a b (linkOf n a b))).1).Boxes).getD a.toNat default).Rows).getD (oix (rowIx ((((labLay n (wayOf n a b (linkOf n a b))).1).Boxes).getD a.toNat default) ((labLay n (wayOf n a b (linkOf n a b))).2.1))).toNat default).Next,((((((labLay n (wayOf n a b (linkOf n a b))).1).Boxes).getD a.toNat default).Rows).getD (oix (rowIx ((((labLay n (wayOf n a b (linkOf n a b))).1).Boxes).getD a.toNat default) ((labLay n (wayOf n a b (linkOf n a b))).2.1))).toNat default).Out⟩:LabVia))⟩:LabBox))⟩:LabNet),0)))))
def S17 (R:LabNet×Int) (n:LabNet) (a:Int) (b:Int):Spec:=⟨[.r (.g (eLabNet n)),.r (.c (.v (vI a))),.r (.c (.v (vI b)))],.tu [.ag [.ow (.l 2 eLabLink R.1.Links),.ow (.l 2 eLabBox R.1.Boxes)],.v (vI R.2)],True⟩
theorem ok17 (n:LabNet) (a:Int) (b:Int):(S17 (F17 n a b) n a b).ok Tryz.prog 17 :=
 fnG_ok mixed (fn:=Tryz.f17) (ct:=.seq (.no) (.seq (.seq (.reg [(1,.call 32 (S32 (netB n) n) (oa32 n) none)]) (.cond (.seq (.no) (.no)) (.no))) (.seq (.reg [(1,.call 33 (S33 n n) (oa33 n) none)]) (.seq (.reg [(3,.call 44 (S44 (linkOf n a b) n a b) (oa44 n a b) none)]) (.seq (.seq (.no) (.cond (.seq (.no) (.no)) (.no))) (.seq (.seq (.reg [(6,.call 45 (S45 (oix (guardIx (n.Boxes.getD a.toNat default) b)) (n.Boxes.getD a.toNat default) b) (oa45 (n.Boxes.getD a.toNat default) b) none)]) (.cond (.seq (.no) (.no)) (.no))) (.seq (.reg [(4,.call 25 (S25 (wayOf n a b (linkOf n a b)) n a b (linkOf n a b)) (oa25 n a b (linkOf n a b)) none)]) (.seq (.seq (.no) (.cond (.seq (.no) (.no)) (.no))) (.seq (.reg [(2,.call 13 (S13 (labLay n (wayOf n a b (linkOf n a b))) n (wayOf n a b (linkOf n a b))) (oa13 n (wayOf n a b (linkOf n a b))) none)]) (.seq (.seq (.no) (.cond (.seq (.no) (.no)) (.no))) (.seq (.reg [(12,.call 46 (S46 (oix (rowIx ((((labLay n (wayOf n a b (linkOf n a b))).1).Boxes).getD a.toNat default) ((labLay n (wayOf n a b (linkOf n a b))).2.1))) ((((labLay n (wayOf n a b (linkOf n a b))).1).Boxes).getD a.toNat default) ((labLay n (wayOf n a b (linkOf n a b))).2.1)) (oa46 ((((labLay n (wayOf n a b (linkOf n a b))).1).Boxes).getD a.toNat default) ((labLay n (wayOf n a b (linkOf n a b))).2.1)) none)]) (.seq (.reg [(15,.call 47 (T47 (putK (fun x:LabVia=>x.To) (((((labLay n (wayOf n a b (linkOf n a b))).1).Boxes).getD a.toNat default).Guards) (⟨b,((((((labLay n (wayOf n a b (linkOf n a b))).1).Boxes).getD a.toNat default).Rows).getD (oix (rowIx ((((labLay n (wayOf n a b (linkOf n a b))).1).Boxes).getD a.toNat default) ((labLay n (wayOf n a b (linkOf n a b))).2.1))).toNat default).Next,((((((labLay n (wayOf n a b (linkOf n a b))).1).Boxes).getD a.toNat default).Rows).getD (oix (rowIx ((((labLay n (wayOf n a b (linkOf n a b))).1).Boxes).getD a.toNat default) ((labLay n (wayOf n a b (linkOf n a b))).2.1))).toNat default).Out⟩:LabVia)) (((((labLay n (wayOf n a b (linkOf n a b))).1).Boxes).getD a.toNat default).Guards) (⟨b,((((((labLay n (wayOf n a b (linkOf n a b))).1).Boxes).getD a.toNat default).Rows).getD (oix (rowIx ((((labLay n (wayOf n a b (linkOf n a b))).1).Boxes).getD a.toNat default) ((labLay n (wayOf n a b (linkOf n a b))).2.1))).toNat default).Next,((((((labLay n (wayOf n a b (linkOf n a b))).1).Boxes).getD a.toNat default).Rows).getD (oix (rowIx ((((labLay n (wayOf n a b (linkOf n a b))).1).Boxes).getD a.toNat default) ((labLay n (wayOf n a b (linkOf n a b))).2.1))).toNat default).Out⟩:LabVia)) (oa47 (((((labLay n (wayOf n a b (linkOf n a b))).1).Boxes).getD a.toNat default).Guards) (⟨b,((((((labLay n (wayOf n a b (linkOf n a b))).1).Boxes).getD a.toNat default).Rows).getD (oix (rowIx ((((labLay n (wayOf n a b (linkOf n a b))).1).Boxes).getD a.toNat default) ((labLay n (wayOf n a b (linkOf n a b))).2.1))).toNat default).Next,((((((labLay n (wayOf n a b (linkOf n a b))).1).Boxes).getD a.toNat default).Rows).getD (oix (rowIx ((((labLay n (wayOf n a b (linkOf n a b))).1).Boxes).getD a.toNat default) ((labLay n (wayOf n a b (linkOf n a b))).2.1))).toNat default).Out⟩:LabVia)) none),(18,.dat (.l 2 eLabBox ((((labLay n (wayOf n a b (linkOf n a b))).1).Boxes).set (a).toNat (⟨((((labLay n (wayOf n a b (linkOf n a b))).1).Boxes).getD a.toNat default).Rows,(putK (fun x:LabVia=>x.To) (((((labLay n (wayOf n a b (linkOf n a b))).1).Boxes).getD a.toNat default).Guards) (⟨b,((((((labLay n (wayOf n a b (linkOf n a b))).1).Boxes).getD a.toNat default).Rows).getD (oix (rowIx ((((labLay n (wayOf n a b (linkOf n a b))).1).Boxes).getD a.toNat default) ((labLay n (wayOf n a b (linkOf n a b))).2.1))).toNat default).Next,((((((labLay n (wayOf n a b (linkOf n a b))).1).Boxes).getD a.toNat default).Rows).getD (oix (rowIx ((((labLay n (wayOf n a b (linkOf n a b))).1).Boxes).getD a.toNat default) ((labLay n (wayOf n a b (linkOf n a b))).2.1))).toNat default).Out⟩:LabVia))⟩:LabBox))))]) (.seq (.reg [(1,.call 33 (S33 (⟨((labLay n (wayOf n a b (linkOf n a b))).1).Links,((((labLay n (wayOf n a b (linkOf n a b))).1).Boxes).set (a).toNat (⟨((((labLay n (wayOf n a b (linkOf n a b))).1).Boxes).getD a.toNat default).Rows,(putK (fun x:LabVia=>x.To) (((((labLay n (wayOf n a b (linkOf n a b))).1).Boxes).getD a.toNat default).Guards) (⟨b,((((((labLay n (wayOf n a b (linkOf n a b))).1).Boxes).getD a.toNat default).Rows).getD (oix (rowIx ((((labLay n (wayOf n a b (linkOf n a b))).1).Boxes).getD a.toNat default) ((labLay n (wayOf n a b (linkOf n a b))).2.1))).toNat default).Next,((((((labLay n (wayOf n a b (linkOf n a b))).1).Boxes).getD a.toNat default).Rows).getD (oix (rowIx ((((labLay n (wayOf n a b (linkOf n a b))).1).Boxes).getD a.toNat default) ((labLay n (wayOf n a b (linkOf n a b))).2.1))).toNat default).Out⟩:LabVia))⟩:LabBox))⟩:LabNet) (⟨((labLay n (wayOf n a b (linkOf n a b))).1).Links,((((labLay n (wayOf n a b (linkOf n a b))).1).Boxes).set (a).toNat (⟨((((labLay n (wayOf n a b (linkOf n a b))).1).Boxes).getD a.toNat default).Rows,(putK (fun x:LabVia=>x.To) (((((labLay n (wayOf n a b (linkOf n a b))).1).Boxes).getD a.toNat default).Guards) (⟨b,((((((labLay n (wayOf n a b (linkOf n a b))).1).Boxes).getD a.toNat default).Rows).getD (oix (rowIx ((((labLay n (wayOf n a b (linkOf n a b))).1).Boxes).getD a.toNat default) ((labLay n (wayOf n a b (linkOf n a b))).2.1))).toNat default).Next,((((((labLay n (wayOf n a b (linkOf n a b))).1).Boxes).getD a.toNat default).Rows).getD (oix (rowIx ((((labLay n (wayOf n a b (linkOf n a b))).1).Boxes).getD a.toNat default) ((labLay n (wayOf n a b (linkOf n a b))).2.1))).toNat default).Out⟩:LabVia))⟩:LabBox))⟩:LabNet)) (oa33 (⟨((labLay n (wayOf n a b (linkOf n a b))).1).Links,((((labLay n (wayOf n a b (linkOf n a b))).1).Boxes).set (a).toNat (⟨((((labLay n (wayOf n a b (linkOf n a b))).1).Boxes).getD a.toNat default).Rows,(putK (fun x:LabVia=>x.To) (((((labLay n (wayOf n a b (linkOf n a b))).1).Boxes).getD a.toNat default).Guards) (⟨b,((((((labLay n (wayOf n a b (linkOf n a b))).1).Boxes).getD a.toNat default).Rows).getD (oix (rowIx ((((labLay n (wayOf n a b (linkOf n a b))).1).Boxes).getD a.toNat default) ((labLay n (wayOf n a b (linkOf n a b))).2.1))).toNat default).Next,((((((labLay n (wayOf n a b (linkOf n a b))).1).Boxes).getD a.toNat default).Rows).getD (oix (rowIx ((((labLay n (wayOf n a b (linkOf n a b))).1).Boxes).getD a.toNat default) ((labLay n (wayOf n a b (linkOf n a b))).2.1))).toNat default).Out⟩:LabVia))⟩:LabBox))⟩:LabNet)) none)]) (.no)))))))))))))) Tryz.func17 (fun (_:True)=>ai (trivial) (ai ((Imps.refl (eLabNet n))) (ai (fun h1:(!(netB n))=true=>(fun hF:((⟨[],[]⟩:LabNet),1)=(F17 n a b)=>ai ((Imp.nil 2 eLabLink).trans (Imp.of_eq (congrArg (fun r:LabNet×Int=>Dat.l 2 eLabLink r.1.Links) hF))) (ai ((Imp.nil 2 eLabBox).trans (Imp.of_eq (congrArg (fun r:LabNet×Int=>Dat.l 2 eLabBox r.1.Boxes) hF))) (ai (congrArg (fun r:LabNet×Int=>(.int .i64 r.2:Value)) hF) (trivial)))) (condT h1 (rfl))) (fun h1:(!(netB n))=false=>(fun _:n.Links.length≤14=>(fun _:n.Boxes.length≤8=>(fun _:NetOk n=>ai ((ai ((by first | omega | (intro k; have:=NetOk.rows (by assumption:NetOk n) k; have:=NetOk.vias (by assumption:NetOk n) k; omega) | (rw [labLay_links (by assumption)]; omega) | (have hq:=net_bounds (GuardP.netN (guard_vc2 (by assumption) (by assumption) (by assumption) (by assumption) (by assumption)).1) (guard_vcn (by assumption) (by assumption) (by assumption) (by assumption) (by assumption)); first | exact hq.1 | exact fun k=>(hq.2 k).1 | exact fun k=>(hq.2 k).2):n.Links.length≤1000000000)) (ai ((by first | omega | (intro k; have:=NetOk.rows (by assumption:NetOk n) k; have:=NetOk.vias (by assumption:NetOk n) k; omega) | (rw [labLay_links (by assumption)]; omega) | (have hq:=net_bounds (GuardP.netN (guard_vc2 (by assumption) (by assumption) (by assumption) (by assumption) (by assumption)).1) (guard_vcn (by assumption) (by assumption) (by assumption) (by assumption) (by assumption)); first | exact hq.1 | exact fun k=>(hq.2 k).1 | exact fun k=>(hq.2 k).2):n.Boxes.length≤1000000000)) (ai ((by first | omega | (intro k; have:=NetOk.rows (by assumption:NetOk n) k; have:=NetOk.vias (by assumption:NetOk n) k; omega) | (rw [labLay_links (by assumption)]; omega) | (have hq:=net_bounds (GuardP.netN (guard_vc2 (by assumption) (by assumption) (by assumption) (by assumption) (by assumption)).1) (guard_vcn (by assumption) (by assumption) (by assumption) (by assumption) (by assumption)); first | exact hq.1 | exact fun k=>(hq.2 k).1 | exact fun k=>(hq.2 k).2):∀ k:Nat,(n.Boxes.getD k default).Rows.length≤1000000000)) ((by first | omega | (intro k; have:=NetOk.rows (by assumption:NetOk n) k; have:=NetOk.vias (by assumption:NetOk n) k; omega) | (rw [labLay_links (by assumption)]; omega) | (have hq:=net_bounds (GuardP.netN (guard_vc2 (by assumption) (by assumption) (by assumption) (by assumption) (by assumption)).1) (guard_vcn (by assumption) (by assumption) (by assumption) (by assumption) (by assumption)); first | exact hq.1 | exact fun k=>(hq.2 k).1 | exact fun k=>(hq.2 k).2):∀ k:Nat,(n.Boxes.getD k default).Guards.length≤1000000000)))))) (ai ((Imps.refl (eLabNet n))) (ai (trivial) (ai ((Imps.refl (eLabNet n))) (ai ((Imp.refl (.v (vI a)))) (ai ((Imp.refl (.v (vI b)))) ((fun gv2:0≤(linkOf n a b)→0≤a∧a<(n.Boxes.length:Int)∧0≤b∧b<(n.Boxes.length:Int)=>ai (fun h3:(decide ((linkOf n a b)<0))=true=>(fun _:(linkOf n a b)<0=>(fun hF:(n,2)=(F17 n a b)=>ai (Imp.of_eq (congrArg (fun r:LabNet×Int=>Dat.l 2 eLabLink r.1.Links) hF)) (ai (Imp.of_eq (congrArg (fun r:LabNet×Int=>Dat.l 2 eLabBox r.1.Boxes) hF)) (ai (congrArg (fun r:LabNet×Int=>(.int .i64 r.2:Value)) hF) (trivial)))) (condF h1 (condT h3 (rfl)))) (of_decide_eq_true h3)) (fun h3:(decide ((linkOf n a b)<0))=false=>(fun _:¬ (linkOf n a b)<0=>ai ((by first | omega | (simp only [lens] at*<;> omega):0≤a∧a<(n.Boxes.length:Int))) (ai (trivial) (ai ((Imps.refl (eLabBox (n.Boxes.getD a.toNat default)))) (ai ((Imp.refl (.v (vI b)))) ((fun gv4:(oix (guardIx (n.Boxes.getD a.toNat default) b))<((n.Boxes.getD a.toNat default).Guards.length:Int)=>ai (fun h5:(decide ((oix (guardIx (n.Boxes.getD a.toNat default) b))≥0))=true=>(fun _:(oix (guardIx (n.Boxes.getD a.toNat default) b))≥0=>(fun hF:(n,4)=(F17 n a b)=>ai (Imp.of_eq (congrArg (fun r:LabNet×Int=>Dat.l 2 eLabLink r.1.Links) hF)) (ai (Imp.of_eq (congrArg (fun r:LabNet×Int=>Dat.l 2 eLabBox r.1.Boxes) hF)) (ai (congrArg (fun r:LabNet×Int=>(.int .i64 r.2:Value)) hF) (trivial)))) (condF h1 (condF h3 (condT h5 (rfl))))) (of_decide_eq_true h5)) (fun h5:(decide ((oix (guardIx (n.Boxes.getD a.toNat default) b))≥0))=false=>(fun _:¬ (oix (guardIx (n.Boxes.getD a.toNat default) b))≥0=>ai ((ai ((by first | assumption | exact NetOk.frame (by assumption):FrameOk n)) (ai ((by first | omega | (simp only [lens] at*<;> omega):n.Boxes.length≤8)) (ai ((by first | omega | (simp only [lens] at*<;> omega):0≤a)) (ai ((by first | omega | (simp only [lens] at*<;> omega):a<(n.Boxes.length:Int))) (ai ((by first | omega | (simp only [lens] at*<;> omega):0≤b)) ((by first | omega | (simp only [lens] at*<;> omega):b<(n.Boxes.length:Int))))))))) (ai ((Imps.refl (eLabNet n))) (ai ((Imp.refl (.v (vI a)))) (ai ((Imp.refl (.v (vI b)))) (ai ((Imp.refl (.v (vI (linkOf n a b))))) (ai (fun h6:(((wayOf n a b (linkOf n a b)).length:Int)==0)=true=>(fun _:((wayOf n a b (linkOf n a b)).length:Int)=0=>(fun hF:(n,5)=(F17 n a b)=>ai (Imp.of_eq (congrArg (fun r:LabNet×Int=>Dat.l 2 eLabLink r.1.Links) hF)) (ai (Imp.of_eq (congrArg (fun r:LabNet×Int=>Dat.l 2 eLabBox r.1.Boxes) hF)) (ai (congrArg (fun r:LabNet×Int=>(.int .i64 r.2:Value)) hF) (trivial)))) (condF h1 (condF h3 (condF h5 (condT h6 (rfl)))))) (eq_of_beq h6)) (fun h6:(((wayOf n a b (linkOf n a b)).length:Int)==0)=false=>(fun _:¬ ((wayOf n a b (linkOf n a b)).length:Int)=0=>ai (trivial) (ai ((Imps.refl (eLabNet n))) (ai ((Imp.refl (.l 1 eInt (wayOf n a b (linkOf n a b))))) ((fun gv7:((labLay n (wayOf n a b (linkOf n a b)))).1.Boxes.length=n.Boxes.length=>ai (fun h8:((labLay n (wayOf n a b (linkOf n a b))).2.2 != 0)=true=>(fun _:¬ (labLay n (wayOf n a b (linkOf n a b))).2.2=0=>(fun hF:(n,(labLay n (wayOf n a b (linkOf n a b))).2.2)=(F17 n a b)=>ai (Imp.of_eq (congrArg (fun r:LabNet×Int=>Dat.l 2 eLabLink r.1.Links) hF)) (ai (Imp.of_eq (congrArg (fun r:LabNet×Int=>Dat.l 2 eLabBox r.1.Boxes) hF)) (ai (congrArg (fun r:LabNet×Int=>(.int .i64 r.2:Value)) hF) (trivial)))) (condF h1 (condF h3 (condF h5 (condF h6 (condT h8 (rfl))))))) (bneT h8)) (fun h8:((labLay n (wayOf n a b (linkOf n a b))).2.2 != 0)=false=>(fun _:(labLay n (wayOf n a b (linkOf n a b))).2.2=0=>ai ((by first | omega | (simp only [lens] at*<;> omega):0≤a∧a<((((labLay n (wayOf n a b (linkOf n a b))).1).Boxes).length:Int))) (ai ((by first | omega | (simp only [lens] at*<;> omega):0≤a∧a<((((labLay n (wayOf n a b (linkOf n a b))).1).Boxes).length:Int))) (ai (trivial) (ai ((Imps.refl (eLabBox ((((labLay n (wayOf n a b (linkOf n a b))).1).Boxes).getD a.toNat default)))) (ai ((Imp.refl (.v (vI ((labLay n (wayOf n a b (linkOf n a b))).2.1))))) ((fun gv9:(oix (rowIx ((((labLay n (wayOf n a b (linkOf n a b))).1).Boxes).getD a.toNat default) ((labLay n (wayOf n a b (linkOf n a b))).2.1)))<(((((labLay n (wayOf n a b (linkOf n a b))).1).Boxes).getD a.toNat default).Rows.length:Int)=>(fun gv10:0≤(oix (rowIx ((((labLay n (wayOf n a b (linkOf n a b))).1).Boxes).getD a.toNat default) ((labLay n (wayOf n a b (linkOf n a b))).2.1)))=>ai ((by first | omega | (simp only [lens] at*<;> omega):0≤(oix (rowIx ((((labLay n (wayOf n a b (linkOf n a b))).1).Boxes).getD a.toNat default) ((labLay n (wayOf n a b (linkOf n a b))).2.1)))∧(oix (rowIx ((((labLay n (wayOf n a b (linkOf n a b))).1).Boxes).getD a.toNat default) ((labLay n (wayOf n a b (linkOf n a b))).2.1)))<((((((labLay n (wayOf n a b (linkOf n a b))).1).Boxes).getD a.toNat default).Rows).length:Int))) (ai ((by first | omega | (simp only [lens] at*<;> omega):0≤a∧a<((((labLay n (wayOf n a b (linkOf n a b))).1).Boxes).length:Int))) (ai (((by (have hq:=labLay_vias (by assumption:NetOk n) (wayOf n a b (linkOf n a b)) a.toNat; omega):(((((labLay n (wayOf n a b (linkOf n a b))).1).Boxes).getD a.toNat default).Guards).length≤1000000000))) (ai ((Imp.refl (.l 3 eLabVia (((((labLay n (wayOf n a b (linkOf n a b))).1).Boxes).getD a.toNat default).Guards)))) (ai ((Imps.refl (eLabVia (⟨b,((((((labLay n (wayOf n a b (linkOf n a b))).1).Boxes).getD a.toNat default).Rows).getD (oix (rowIx ((((labLay n (wayOf n a b (linkOf n a b))).1).Boxes).getD a.toNat default) ((labLay n (wayOf n a b (linkOf n a b))).2.1))).toNat default).Next,((((((labLay n (wayOf n a b (linkOf n a b))).1).Boxes).getD a.toNat default).Rows).getD (oix (rowIx ((((labLay n (wayOf n a b (linkOf n a b))).1).Boxes).getD a.toNat default) ((labLay n (wayOf n a b (linkOf n a b))).2.1))).toNat default).Out⟩:LabVia)))) (ai ((by first | omega | (simp only [lens] at*<;> omega):0≤a∧a<((((labLay n (wayOf n a b (linkOf n a b))).1).Boxes).length:Int))) (ai ((SetOK.mk eLabBox (((labLay n (wayOf n a b (linkOf n a b))).1).Boxes) (⟨((((labLay n (wayOf n a b (linkOf n a b))).1).Boxes).getD a.toNat default).Rows,(putK (fun x:LabVia=>x.To) (((((labLay n (wayOf n a b (linkOf n a b))).1).Boxes).getD a.toNat default).Guards) (⟨b,((((((labLay n (wayOf n a b (linkOf n a b))).1).Boxes).getD a.toNat default).Rows).getD (oix (rowIx ((((labLay n (wayOf n a b (linkOf n a b))).1).Boxes).getD a.toNat default) ((labLay n (wayOf n a b (linkOf n a b))).2.1))).toNat default).Next,((((((labLay n (wayOf n a b (linkOf n a b))).1).Boxes).getD a.toNat default).Rows).getD (oix (rowIx ((((labLay n (wayOf n a b (linkOf n a b))).1).Boxes).getD a.toNat default) ((labLay n (wayOf n a b (linkOf n a b))).2.1))).toNat default).Out⟩:LabVia))⟩:LabBox) rfl (by exact ai ir (ai ir (trivial))):SetOK (.l 2 eLabBox (((labLay n (wayOf n a b (linkOf n a b))).1).Boxes)) (a).toNat (eLabBox ((((labLay n (wayOf n a b (linkOf n a b))).1).Boxes).getD a.toNat default)) [.l 3 eLabRow (((((labLay n (wayOf n a b (linkOf n a b))).1).Boxes).getD a.toNat default).Rows),.l 3 eLabVia (putK (fun x:LabVia=>x.To) (((((labLay n (wayOf n a b (linkOf n a b))).1).Boxes).getD a.toNat default).Guards) (⟨b,((((((labLay n (wayOf n a b (linkOf n a b))).1).Boxes).getD a.toNat default).Rows).getD (oix (rowIx ((((labLay n (wayOf n a b (linkOf n a b))).1).Boxes).getD a.toNat default) ((labLay n (wayOf n a b (linkOf n a b))).2.1))).toNat default).Next,((((((labLay n (wayOf n a b (linkOf n a b))).1).Boxes).getD a.toNat default).Rows).getD (oix (rowIx ((((labLay n (wayOf n a b (linkOf n a b))).1).Boxes).getD a.toNat default) ((labLay n (wayOf n a b (linkOf n a b))).2.1))).toNat default).Out⟩:LabVia))] (.l 2 eLabBox ((((labLay n (wayOf n a b (linkOf n a b))).1).Boxes).set (a).toNat (⟨((((labLay n (wayOf n a b (linkOf n a b))).1).Boxes).getD a.toNat default).Rows,(putK (fun x:LabVia=>x.To) (((((labLay n (wayOf n a b (linkOf n a b))).1).Boxes).getD a.toNat default).Guards) (⟨b,((((((labLay n (wayOf n a b (linkOf n a b))).1).Boxes).getD a.toNat default).Rows).getD (oix (rowIx ((((labLay n (wayOf n a b (linkOf n a b))).1).Boxes).getD a.toNat default) ((labLay n (wayOf n a b (linkOf n a b))).2.1))).toNat default).Next,((((((labLay n (wayOf n a b (linkOf n a b))).1).Boxes).getD a.toNat default).Rows).getD (oix (rowIx ((((labLay n (wayOf n a b (linkOf n a b))).1).Boxes).getD a.toNat default) ((labLay n (wayOf n a b (linkOf n a b))).2.1))).toNat default).Out⟩:LabVia))⟩:LabBox))))) (ai ((ai ((by first | omega | (intro k; have:=NetOk.rows (by assumption:NetOk n) k; have:=NetOk.vias (by assumption:NetOk n) k; omega) | (rw [labLay_links (by assumption)]; omega) | (have hq:=net_bounds (GuardP.netN (guard_vc2 (by assumption) (by assumption) (by assumption) (by assumption) (by assumption)).1) (guard_vcn (by assumption) (by assumption) (by assumption) (by assumption) (by assumption)); first | exact hq.1 | exact fun k=>(hq.2 k).1 | exact fun k=>(hq.2 k).2):(((labLay n (wayOf n a b (linkOf n a b))).1).Links).length≤1000000000)) (ai ((by first | omega | (intro k; have:=NetOk.rows (by assumption:NetOk n) k; have:=NetOk.vias (by assumption:NetOk n) k; omega) | (rw [labLay_links (by assumption)]; omega) | (have hq:=net_bounds (GuardP.netN (guard_vc2 (by assumption) (by assumption) (by assumption) (by assumption) (by assumption)).1) (guard_vcn (by assumption) (by assumption) (by assumption) (by assumption) (by assumption)); first | exact hq.1 | exact fun k=>(hq.2 k).1 | exact fun k=>(hq.2 k).2):((((labLay n (wayOf n a b (linkOf n a b))).1).Boxes).set (a).toNat (⟨((((labLay n (wayOf n a b (linkOf n a b))).1).Boxes).getD a.toNat default).Rows,(putK (fun x:LabVia=>x.To) (((((labLay n (wayOf n a b (linkOf n a b))).1).Boxes).getD a.toNat default).Guards) (⟨b,((((((labLay n (wayOf n a b (linkOf n a b))).1).Boxes).getD a.toNat default).Rows).getD (oix (rowIx ((((labLay n (wayOf n a b (linkOf n a b))).1).Boxes).getD a.toNat default) ((labLay n (wayOf n a b (linkOf n a b))).2.1))).toNat default).Next,((((((labLay n (wayOf n a b (linkOf n a b))).1).Boxes).getD a.toNat default).Rows).getD (oix (rowIx ((((labLay n (wayOf n a b (linkOf n a b))).1).Boxes).getD a.toNat default) ((labLay n (wayOf n a b (linkOf n a b))).2.1))).toNat default).Out⟩:LabVia))⟩:LabBox)).length≤1000000000)) (ai ((by first | omega | (intro k; have:=NetOk.rows (by assumption:NetOk n) k; have:=NetOk.vias (by assumption:NetOk n) k; omega) | (rw [labLay_links (by assumption)]; omega) | (have hq:=net_bounds (GuardP.netN (guard_vc2 (by assumption) (by assumption) (by assumption) (by assumption) (by assumption)).1) (guard_vcn (by assumption) (by assumption) (by assumption) (by assumption) (by assumption)); first | exact hq.1 | exact fun k=>(hq.2 k).1 | exact fun k=>(hq.2 k).2):∀ k:Nat,(((((labLay n (wayOf n a b (linkOf n a b))).1).Boxes).set (a).toNat (⟨((((labLay n (wayOf n a b (linkOf n a b))).1).Boxes).getD a.toNat default).Rows,(putK (fun x:LabVia=>x.To) (((((labLay n (wayOf n a b (linkOf n a b))).1).Boxes).getD a.toNat default).Guards) (⟨b,((((((labLay n (wayOf n a b (linkOf n a b))).1).Boxes).getD a.toNat default).Rows).getD (oix (rowIx ((((labLay n (wayOf n a b (linkOf n a b))).1).Boxes).getD a.toNat default) ((labLay n (wayOf n a b (linkOf n a b))).2.1))).toNat default).Next,((((((labLay n (wayOf n a b (linkOf n a b))).1).Boxes).getD a.toNat default).Rows).getD (oix (rowIx ((((labLay n (wayOf n a b (linkOf n a b))).1).Boxes).getD a.toNat default) ((labLay n (wayOf n a b (linkOf n a b))).2.1))).toNat default).Out⟩:LabVia))⟩:LabBox)).getD k default).Rows.length≤1000000000)) ((by first | omega | (intro k; have:=NetOk.rows (by assumption:NetOk n) k; have:=NetOk.vias (by assumption:NetOk n) k; omega) | (rw [labLay_links (by assumption)]; omega) | (have hq:=net_bounds (GuardP.netN (guard_vc2 (by assumption) (by assumption) (by assumption) (by assumption) (by assumption)).1) (guard_vcn (by assumption) (by assumption) (by assumption) (by assumption) (by assumption)); first | exact hq.1 | exact fun k=>(hq.2 k).1 | exact fun k=>(hq.2 k).2):∀ k:Nat,(((((labLay n (wayOf n a b (linkOf n a b))).1).Boxes).set (a).toNat (⟨((((labLay n (wayOf n a b (linkOf n a b))).1).Boxes).getD a.toNat default).Rows,(putK (fun x:LabVia=>x.To) (((((labLay n (wayOf n a b (linkOf n a b))).1).Boxes).getD a.toNat default).Guards) (⟨b,((((((labLay n (wayOf n a b (linkOf n a b))).1).Boxes).getD a.toNat default).Rows).getD (oix (rowIx ((((labLay n (wayOf n a b (linkOf n a b))).1).Boxes).getD a.toNat default) ((labLay n (wayOf n a b (linkOf n a b))).2.1))).toNat default).Next,((((((labLay n (wayOf n a b (linkOf n a b))).1).Boxes).getD a.toNat default).Rows).getD (oix (rowIx ((((labLay n (wayOf n a b (linkOf n a b))).1).Boxes).getD a.toNat default) ((labLay n (wayOf n a b (linkOf n a b))).2.1))).toNat default).Out⟩:LabVia))⟩:LabBox)).getD k default).Guards.length≤1000000000)))))) (ai ((Imps.refl (eLabNet (⟨((labLay n (wayOf n a b (linkOf n a b))).1).Links,((((labLay n (wayOf n a b (linkOf n a b))).1).Boxes).set (a).toNat (⟨((((labLay n (wayOf n a b (linkOf n a b))).1).Boxes).getD a.toNat default).Rows,(putK (fun x:LabVia=>x.To) (((((labLay n (wayOf n a b (linkOf n a b))).1).Boxes).getD a.toNat default).Guards) (⟨b,((((((labLay n (wayOf n a b (linkOf n a b))).1).Boxes).getD a.toNat default).Rows).getD (oix (rowIx ((((labLay n (wayOf n a b (linkOf n a b))).1).Boxes).getD a.toNat default) ((labLay n (wayOf n a b (linkOf n a b))).2.1))).toNat default).Next,((((((labLay n (wayOf n a b (linkOf n a b))).1).Boxes).getD a.toNat default).Rows).getD (oix (rowIx ((((labLay n (wayOf n a b (linkOf n a b))).1).Boxes).getD a.toNat default) ((labLay n (wayOf n a b (linkOf n a b))).2.1))).toNat default).Out⟩:LabVia))⟩:LabBox))⟩:LabNet)))) ((fun hF:((⟨((labLay n (wayOf n a b (linkOf n a b))).1).Links,((((labLay n (wayOf n a b (linkOf n a b))).1).Boxes).set (a).toNat (⟨((((labLay n (wayOf n a b (linkOf n a b))).1).Boxes).getD a.toNat default).Rows,(putK (fun x:LabVia=>x.To) (((((labLay n (wayOf n a b (linkOf n a b))).1).Boxes).getD a.toNat default).Guards) (⟨b,((((((labLay n (wayOf n a b (linkOf n a b))).1).Boxes).getD a.toNat default).Rows).getD (oix (rowIx ((((labLay n (wayOf n a b (linkOf n a b))).1).Boxes).getD a.toNat default) ((labLay n (wayOf n a b (linkOf n a b))).2.1))).toNat default).Next,((((((labLay n (wayOf n a b (linkOf n a b))).1).Boxes).getD a.toNat default).Rows).getD (oix (rowIx ((((labLay n (wayOf n a b (linkOf n a b))).1).Boxes).getD a.toNat default) ((labLay n (wayOf n a b (linkOf n a b))).2.1))).toNat default).Out⟩:LabVia))⟩:LabBox))⟩:LabNet),0)=(F17 n a b)=>ai (Imp.of_eq (congrArg (fun r:LabNet×Int=>Dat.l 2 eLabLink r.1.Links) hF)) (ai (Imp.of_eq (congrArg (fun r:LabNet×Int=>Dat.l 2 eLabBox r.1.Boxes) hF)) (ai (congrArg (fun r:LabNet×Int=>(.int .i64 r.2:Value)) hF) (trivial)))) (condF h1 (condF h3 (condF h5 (condF h6 (condF h8 (rfl)))))))))))))))) ((by exact guard_vcf (by assumption) (by assumption) (by assumption) (by assumption) (by assumption)))) (rowIx_lt ((((labLay n (wayOf n a b (linkOf n a b))).1).Boxes).getD a.toNat default) ((labLay n (wayOf n a b (linkOf n a b))).2.1)))))))) (bneF h8))) ((by exact labLay_len (by assumption) _)))))) (beqF h6)))))))) (of_decide_eq_false h5))) (guardIx_lt (n.Boxes.getD a.toNat default) b)))))) (of_decide_eq_false h3))) ((by exact fun h=>linkOf_in4 (by assumption) h))))))))) (netB_T n (notEF h1))) (netB_8 n (notEF h1))) (netB_14 n (notEF h1)))))) (by kernel_rfl)
theorem as31 (n:LabNet) (a b:Int) (h:NetOk n):F31 n a b=guardR n a b:=by
 unfold F31 guardR
 by_cases hl:linkOf n a b<0
 ·rw [decide_eq_true hl]; rfl
 rw [decide_eq_false hl]
 simp only [cond_false]
 cases hg:guardIx (n.Boxes.getD a.toNat default) b with
 | some k =>
  have:(guardP (n.Boxes.getD a.toNat default) b).2=true:=by unfold guardP; rw [hg]
  rw [this]; rfl
 | none =>
  have hg2:(guardP (n.Boxes.getD a.toNat default) b).2=false:=guardP_none.2 hg
  rw [hg2,beqD]
  simp only [cond_false,Option.isSome_none]
  by_cases hw:(wayP n a b).length=0
  ·have:((labWay n a b (linkOf n a b)).length:Int)=0:=by rw [labWay_way h hl]; omega
   rw [decide_eq_true this,decide_eq_true hw]; rfl
  have hw2:¬ ((labWay n a b (linkOf n a b)).length:Int)=0:=by rw [labWay_way h hl]; omega
  rw [decide_eq_false hw2,decide_eq_false hw]
  simp only [cond_false]
  cases hb:labsB n (wayP n a b) with
  | false =>
   have e:layR n (labWay n a b (linkOf n a b))=(0,3,n):=by rw [labWay_way h hl,layR_way h hl hw,hb]; rfl
   rw [e]; rfl
  | true =>
   have h4:(layR n (labWay n a b (linkOf n a b))).2.1=0:=by rw [labWay_way h hl,layR_way h hl hw,hb]; rfl
   obtain ⟨hP,e,ev⟩:=guard_vc h hl hg2 hw2 h4
   rw [ev]
   have hs:=hP.sort.2
   unfold F64
   rw [e]
   simp only
   rw [hs]
   rfl
def labGuard (n:LabNet) (a b:Int):LabNet×Int:=bif netB n then ((guardR n a b).2,(guardR n a b).1) else (⟨[],[]⟩,1)
theorem as17 (n:LabNet) (a b:Int):F17 n a b=labGuard n a b:=by
 unfold F17 labGuard guardR
 cases hn:netB n
 ·rfl
 have h:=netB_T n hn
 simp only [Bool.not_true,cond_false,cond_true]
 by_cases hl:linkOf n a b<0
 ·rw [decide_eq_true hl]; rfl
 rw [decide_eq_false hl]
 simp only [cond_false]
 cases hg:guardIx (n.Boxes.getD a.toNat default) b with
 | some k =>
  rw [show decide (oix (some k)≥0)=true from decide_eq_true (by simp only [oix]; omega)]; rfl
 | none =>
  rw [show decide (oix (none:Option Nat)≥0)=false from rfl,beqD]
  simp only [cond_false,Option.isSome_none]
  by_cases hw:(wayP n a b).length=0
  ·have:((wayOf n a b (linkOf n a b)).length:Int)=0:=by unfold wayP at hw; omega
   rw [decide_eq_true this,decide_eq_true hw]; rfl
  have hw2:¬ ((wayOf n a b (linkOf n a b)).length:Int)=0:=by unfold wayP at hw; omega
  rw [decide_eq_false hw2,decide_eq_false hw]
  simp only [cond_false]
  cases hb:labsB n (wayP n a b) with
  | false =>
   have e:labLay n (wayOf n a b (linkOf n a b))=(n,0,3):=by
    rw [labLay_way h]
    have e2:layR n (wayOf n a b (linkOf n a b))=_:=layR_way h hl hw
    rw [e2,hb]; rfl
   rw [e]; rfl
  | true =>
   have h4:(labLay n (wayOf n a b (linkOf n a b))).2.2=0:=by
    rw [labLay_way h]
    have e2:layR n (wayOf n a b (linkOf n a b))=_:=layR_way h hl hw
    rw [e2,hb]; rfl
   have hg2:¬ oix (guardIx (n.Boxes.getD a.toNat default) b)≥0:=by rw [hg]; decide
   have e:=guard_vcn h hl hg2 hw2 h4
   rw [h4,labLay_links h,e]
   rfl
theorem labGuard_way {n:LabNet} (h:NetOk n) (a b:Int):labGuard n a b=((guardR n a b).2,(guardR n a b).1):=by
 unfold labGuard; rw [netB_ok.2 h]; rfl
theorem labGuard_net {n:LabNet} (h:NetOk n) (a b:Int):NetOk (labGuard n a b).1:=by
 rw [labGuard_way h]; exact guardR_net h a b
theorem NetOk.bounds {n:LabNet} (h:NetOk n):n.Links.length≤1000000000∧n.Boxes.length≤1000000000∧∀ k:Nat,(n.Boxes.getD k default).Rows.length≤1000000000∧(n.Boxes.getD k default).Guards.length≤1000000000:=by
 have h14:=h.frame.l14
 obtain ⟨h1,h2⟩:=net_bounds h rfl
 exact ⟨by omega,h1,h2⟩
def T31 (R:Int×LabNet) (n:LabNet) (a:Int) (b:Int):Spec:=⟨(S31 R n a b).args,(S31 R n a b).res,NetOk n∧n.Boxes.length≤8⟩
theorem oa31 (n:LabNet) (a:Int) (b:Int):(T31 (guardR n a b) n a b).ok Tryz.prog 31:=by
 intro hp; have h:=ok31 n a b hp; rw [as31 n a b hp.1] at h; exact h
theorem oa17 (n:LabNet) (a:Int) (b:Int):(S17 (labGuard n a b) n a b).ok Tryz.prog 17:=by
 intro hp; have h:=ok17 n a b hp; rw [as17 n a b] at h; exact h
def F9_s0 (n:LabNet):(Int×List LabLink×List LabBox)→Lp (Int×List LabLink×List LabBox) LabNet:=fun (v15,out,out1) =>
 bif (decide (v15<(n.Links.length:Int))) then (.next ((v15+1),((guardR ((guardR (⟨out,out1⟩:LabNet) ((n.Links.getD v15.toNat default).A) ((n.Links.getD v15.toNat default).B)).2) ((n.Links.getD v15.toNat default).B) ((n.Links.getD v15.toNat default).A)).2).Links,((guardR ((guardR (⟨out,out1⟩:LabNet) ((n.Links.getD v15.toNat default).A) ((n.Links.getD v15.toNat default).B)).2) ((n.Links.getD v15.toNat default).B) ((n.Links.getD v15.toNat default).A)).2).Boxes)) else (.done (v15,out,out1))
def F9 (n:LabNet):LabNet :=
 bif (!(netB n)) then (⟨[],[]⟩:LabNet) else ((runL (F9_s0 n) (((n.Links.length:Int)-0).toNat+1) (0,n.Links,n.Boxes)).fin (fun r=>r) (fun (v15,out,out1)=>(⟨out,out1⟩:LabNet)))
def S9 (R:LabNet) (n:LabNet):Spec:=⟨[.r (.g (eLabNet n))],.ag [.ow (.l 2 eLabLink R.Links),.ow (.l 2 eLabBox R.Boxes)],True⟩
theorem ok9 (n:LabNet):(S9 (F9 n) n).ok Tryz.prog 9 :=
 fnG_ok mixed (fn:=Tryz.f9) (ct:=.seq (.no) (.seq (.seq (.reg [(1,.call 7 (S7 (netB n) n) (oa7 n) none)]) (.cond (.seq (.no) (.no)) (.no))) (.seq (.reg [(1,.call 30 (S30 n n) (oa30 n) none)]) (.seq (.seqk [(3,0),(3,1),(13,0)] (.no) (.blk (.loop (ι:=Nat×(Int×List LabLink×List LabBox)) (fun i=>(fun (v15:Int) (out:List LabLink) (out1:List LabBox)=>(⟨[(2,some (.p 0 0)),(3,some (.p 1 0)),(13,some (.h 4 0)),(14,some (.v (vI (n.Links.length:Int)))),(15,some (.v (vI v15)))],[(0,some (.box 26 [.v (.slice none 0 0),.v (.slice none 0 0)])),(1,some (.box 26 [.h 2 0,.h 3 0])),(2,some (.own 2 (.l 2 eLabLink out))),(3,some (.own 3 (.l 2 eLabBox out1))),(4,some (.shr none (.l 2 eLabLink n.Links)))],5⟩:St)) i.2.1 i.2.2.1 i.2.2.2) (fun i=>runL (F9_s0 n) i.1 i.2=(runL (F9_s0 n) (((n.Links.length:Int)-0).toNat+1) (0,n.Links,n.Boxes))∧(fun (v15:Int) (out:List LabLink) (out1:List LabBox)=>(Int.toNat ((n.Links.length:Int)-v15)<i.1∧NetOk (⟨out,out1⟩:LabNet)∧out1.length≤8∧(0:Int)≤v15)) i.2.1 i.2.2.1 i.2.2.2) (fun i=>i.1) ((((n.Links.length:Int)-0).toNat+1),(0,n.Links,n.Boxes)) (fun i=>(fun (v15:Int) (out:List LabLink) (out1:List LabBox)=>(.seq (.no) (.seq (.cond (.no) (.no)) (.seq (.blk (.seq (.no) (.seq (.reg [(4,.call 31 (T31 (guardR (⟨out,out1⟩:LabNet) ((n.Links.getD v15.toNat default).A) ((n.Links.getD v15.toNat default).B)) (⟨out,out1⟩:LabNet) ((n.Links.getD v15.toNat default).A) ((n.Links.getD v15.toNat default).B)) (oa31 (⟨out,out1⟩:LabNet) ((n.Links.getD v15.toNat default).A) ((n.Links.getD v15.toNat default).B)) none)]) (.reg [(4,.call 31 (T31 (guardR ((guardR (⟨out,out1⟩:LabNet) ((n.Links.getD v15.toNat default).A) ((n.Links.getD v15.toNat default).B)).2) ((n.Links.getD v15.toNat default).B) ((n.Links.getD v15.toNat default).A)) ((guardR (⟨out,out1⟩:LabNet) ((n.Links.getD v15.toNat default).A) ((n.Links.getD v15.toNat default).B)).2) ((n.Links.getD v15.toNat default).B) ((n.Links.getD v15.toNat default).A)) (oa31 ((guardR (⟨out,out1⟩:LabNet) ((n.Links.getD v15.toNat default).A) ((n.Links.getD v15.toNat default).B)).2) ((n.Links.getD v15.toNat default).B) ((n.Links.getD v15.toNat default).A)) none)])))) (.reg [(0,.bnd)]))))) i.2.1 i.2.2.1 i.2.2.2)))) (.seq (.no) (.no)))))) Tryz.func9 (fun (_:True)=>ai (trivial) (ai ((Imps.refl (eLabNet n))) (ai (fun h1:(!(netB n))=true=>(fun hF:((⟨[],[]⟩:LabNet):LabNet)=(F9 n)=>ai ((Imp.nil 2 eLabLink).trans (Imp.of_eq (congrArg (fun r:LabNet=>Dat.l 2 eLabLink r.Links) hF))) (ai ((Imp.nil 2 eLabBox).trans (Imp.of_eq (congrArg (fun r:LabNet=>Dat.l 2 eLabBox r.Boxes) hF))) (trivial))) (condT h1 (rfl))) (fun h1:(!(netB n))=false=>(fun _:n.Links.length≤14=>(fun _:n.Boxes.length≤8=>(fun _:NetOk n=>ai ((ai ((by omega:n.Links.length≤1000000000)) (ai ((by omega:n.Boxes.length≤1000000000)) (ai ((by first | (first | assumption | (intro k; have:=NetOk.rows (by assumption:NetOk n) k; have:=NetOk.vias (by assumption:NetOk n) k; omega)) | assumption | (intros; exact Nat.zero_le _):∀ k:Nat,(n.Boxes.getD k default).Rows.length≤1000000000)) ((by first | (first | assumption | (intro k; have:=NetOk.rows (by assumption:NetOk n) k; have:=NetOk.vias (by assumption:NetOk n) k; omega)) | assumption | (intros; exact Nat.zero_le _):∀ k:Nat,(n.Boxes.getD k default).Guards.length≤1000000000)))))) (ai ((Imps.refl (eLabNet n))) (fun (_:n.Links.length≤9223372036854775807)=>fun (_:n.Boxes.length≤9223372036854775807)=>fun (_:n.Links.length≤9223372036854775807)=>ai (ai (rfl) (ai (rfl) (ai (rfl) (ai (rfl) (ai (ir) (ai (ir) (ai (ir) ((ai (rfl:runL (F9_s0 n) (((n.Links.length:Int)-0).toNat+1) (0,n.Links,n.Boxes)=(runL (F9_s0 n) (((n.Links.length:Int)-0).toNat+1) (0,n.Links,n.Boxes))) (ai ((Nat.lt_succ_self _:Int.toNat ((n.Links.length:Int)-0)<(((n.Links.length:Int)-0).toNat+1))) (ai ((by first | omega | (simp only [lens] at*<;> omega) | assumption | exact guardR_net (guardR_net (by assumption) _ _) _ _:NetOk (⟨n.Links,n.Boxes⟩:LabNet))) (ai ((by first | omega | (simp only [lens] at*<;> omega) | assumption | exact guardR_net (guardR_net (by assumption) _ _) _ _:n.Boxes.length≤8)) ((by first | omega | (simp only [lens] at*<;> omega) | assumption | exact guardR_net (guardR_net (by assumption) _ _) _ _:(0:Int)≤0))))))))))))):((.int .i64 (n.Links.length:Int):Value)=.int .i64 (n.Links.length:Int))∧((.int .i64 0:Value)=.int .i64 0)∧((.slice none 0 0:Value)=.slice none 0 0)∧((.slice none 0 0:Value)=.slice none 0 0)∧(Imp (.l 2 eLabLink n.Links) (.l 2 eLabLink n.Links))∧(Imp (.l 2 eLabBox n.Boxes) (.l 2 eLabBox n.Boxes))∧(Imp (.l 2 eLabLink n.Links) (.l 2 eLabLink n.Links))∧(runL (F9_s0 n) (((n.Links.length:Int)-0).toNat+1) (0,n.Links,n.Boxes)=(runL (F9_s0 n) (((n.Links.length:Int)-0).toNat+1) (0,n.Links,n.Boxes))∧Int.toNat ((n.Links.length:Int)-0)<(((n.Links.length:Int)-0).toNat+1)∧NetOk (⟨n.Links,n.Boxes⟩:LabNet)∧n.Boxes.length≤8∧(0:Int)≤0)) (fun (i0:Nat×(Int×List LabLink×List LabBox)) (hi0:runL (F9_s0 n) i0.1 i0.2=(runL (F9_s0 n) (((n.Links.length:Int)-0).toNat+1) (0,n.Links,n.Boxes))∧(fun (v15:Int) (out:List LabLink) (out1:List LabBox)=>(Int.toNat ((n.Links.length:Int)-v15)<i0.1∧NetOk (⟨out,out1⟩:LabNet)∧out1.length≤8∧(0:Int)≤v15)) i0.2.1 i0.2.2.1 i0.2.2.2)=>(fun (m0:Nat) (v15:Int) (out:List LabLink) (out1:List LabBox) (hI0:runL (F9_s0 n) (m0+1) (v15,out,out1)=(runL (F9_s0 n) (((n.Links.length:Int)-0).toNat+1) (0,n.Links,n.Boxes))) (_:Int.toNat ((n.Links.length:Int)-v15)<m0+1) (hl0:m0<i0.1) (_:NetOk (⟨out,out1⟩:LabNet)) (_:out1.length≤8) (_:(0:Int)≤v15)=>ai (fun h3:(decide (v15<(n.Links.length:Int)))=true=>(fun _:v15<(n.Links.length:Int)=>ai ((by omega:0≤v15∧v15<(n.Links.length:Int))) (ai ((ai ((by assumption:NetOk (⟨out,out1⟩:LabNet))) ((by omega:out1.length≤8)))) (ai ((Imps.refl (eLabNet (⟨out,out1⟩:LabNet)))) (ai ((Imp.refl (.v (vI ((n.Links.getD v15.toNat default).A))))) (ai ((Imp.refl (.v (vI ((n.Links.getD v15.toNat default).B))))) ((fun gv4:NetOk ((guardR (⟨out,out1⟩:LabNet) ((n.Links.getD v15.toNat default).A) ((n.Links.getD v15.toNat default).B))).2=>(fun gv5:((guardR (⟨out,out1⟩:LabNet) ((n.Links.getD v15.toNat default).A) ((n.Links.getD v15.toNat default).B))).2.Boxes.length=out1.length=>(fun gv6:((guardR (⟨out,out1⟩:LabNet) ((n.Links.getD v15.toNat default).A) ((n.Links.getD v15.toNat default).B))).2.Links=out=>ai ((ai ((by assumption:NetOk ((guardR (⟨out,out1⟩:LabNet) ((n.Links.getD v15.toNat default).A) ((n.Links.getD v15.toNat default).B)).2))) ((by omega:((guardR (⟨out,out1⟩:LabNet) ((n.Links.getD v15.toNat default).A) ((n.Links.getD v15.toNat default).B)).2).Boxes.length≤8)))) (ai ((Imps.refl (eLabNet ((guardR (⟨out,out1⟩:LabNet) ((n.Links.getD v15.toNat default).A) ((n.Links.getD v15.toNat default).B)).2)))) (ai ((Imp.refl (.v (vI ((n.Links.getD v15.toNat default).B))))) (ai ((Imp.refl (.v (vI ((n.Links.getD v15.toNat default).A))))) ((fun gv7:NetOk ((guardR ((guardR (⟨out,out1⟩:LabNet) ((n.Links.getD v15.toNat default).A) ((n.Links.getD v15.toNat default).B)).2) ((n.Links.getD v15.toNat default).B) ((n.Links.getD v15.toNat default).A))).2=>(fun gv8:((guardR ((guardR (⟨out,out1⟩:LabNet) ((n.Links.getD v15.toNat default).A) ((n.Links.getD v15.toNat default).B)).2) ((n.Links.getD v15.toNat default).B) ((n.Links.getD v15.toNat default).A))).2.Boxes.length=((guardR (⟨out,out1⟩:LabNet) ((n.Links.getD v15.toNat default).A) ((n.Links.getD v15.toNat default).B)).2).Boxes.length=>(fun gv9:((guardR ((guardR (⟨out,out1⟩:LabNet) ((n.Links.getD v15.toNat default).A) ((n.Links.getD v15.toNat default).B)).2) ((n.Links.getD v15.toNat default).B) ((n.Links.getD v15.toNat default).A))).2.Links=((guardR (⟨out,out1⟩:LabNet) ((n.Links.getD v15.toNat default).A) ((n.Links.getD v15.toNat default).B)).2).Links=>ai ((by unfold i64ok; omega:i64ok (v15+1))) (Exists.intro (p:=fun j:Nat×(Int×List LabLink×List LabBox)=>(fun (v15_:Int) (out_:List LabLink) (out1_:List LabBox)=>(((.int .i64 (n.Links.length:Int):Value)=.int .i64 (n.Links.length:Int))∧((.int .i64 (v15+1):Value)=.int .i64 v15_)∧((.slice none 0 0:Value)=.slice none 0 0)∧((.slice none 0 0:Value)=.slice none 0 0)∧(Imp (.l 2 eLabLink (((guardR ((guardR (⟨out,out1⟩:LabNet) ((n.Links.getD v15.toNat default).A) ((n.Links.getD v15.toNat default).B)).2) ((n.Links.getD v15.toNat default).B) ((n.Links.getD v15.toNat default).A)).2).Links)) (.l 2 eLabLink out_))∧(Imp (.l 2 eLabBox (((guardR ((guardR (⟨out,out1⟩:LabNet) ((n.Links.getD v15.toNat default).A) ((n.Links.getD v15.toNat default).B)).2) ((n.Links.getD v15.toNat default).B) ((n.Links.getD v15.toNat default).A)).2).Boxes)) (.l 2 eLabBox out1_))∧(Imp (.l 2 eLabLink n.Links) (.l 2 eLabLink n.Links))∧((runL (F9_s0 n) j.1 j.2=(runL (F9_s0 n) (((n.Links.length:Int)-0).toNat+1) (0,n.Links,n.Boxes))∧Int.toNat ((n.Links.length:Int)-v15_)<j.1∧NetOk (⟨out_,out1_⟩:LabNet)∧out1_.length≤8∧(0:Int)≤v15_)∧j.1<i0.1))) j.2.1 j.2.2.1 j.2.2.2) (m0,((v15+1),((guardR ((guardR (⟨out,out1⟩:LabNet) ((n.Links.getD v15.toNat default).A) ((n.Links.getD v15.toNat default).B)).2) ((n.Links.getD v15.toNat default).B) ((n.Links.getD v15.toNat default).A)).2).Links,((guardR ((guardR (⟨out,out1⟩:LabNet) ((n.Links.getD v15.toNat default).A) ((n.Links.getD v15.toNat default).B)).2) ((n.Links.getD v15.toNat default).B) ((n.Links.getD v15.toNat default).A)).2).Boxes)) (ai (rfl) (ai (rfl) (ai (rfl) (ai (rfl) (ai (ir) (ai (ir) (ai (ir) (ai (ai (runL_next hI0 (condT h3 (rfl))) (ai ((by first | omega | (simp only [lens] at*<;> omega) | assumption | exact guardR_net (guardR_net (by assumption) _ _) _ _:Int.toNat ((n.Links.length:Int)-(v15+1))<m0)) (ai ((by first | omega | (simp only [lens] at*<;> omega) | assumption | exact guardR_net (guardR_net (by assumption) _ _) _ _:NetOk (⟨(((guardR ((guardR (⟨out,out1⟩:LabNet) ((n.Links.getD v15.toNat default).A) ((n.Links.getD v15.toNat default).B)).2) ((n.Links.getD v15.toNat default).B) ((n.Links.getD v15.toNat default).A)).2).Links),(((guardR ((guardR (⟨out,out1⟩:LabNet) ((n.Links.getD v15.toNat default).A) ((n.Links.getD v15.toNat default).B)).2) ((n.Links.getD v15.toNat default).B) ((n.Links.getD v15.toNat default).A)).2).Boxes)⟩:LabNet))) (ai ((by first | omega | (simp only [lens] at*<;> omega) | assumption | exact guardR_net (guardR_net (by assumption) _ _) _ _:(((guardR ((guardR (⟨out,out1⟩:LabNet) ((n.Links.getD v15.toNat default).A) ((n.Links.getD v15.toNat default).B)).2) ((n.Links.getD v15.toNat default).B) ((n.Links.getD v15.toNat default).A)).2).Boxes).length≤8)) ((by first | omega | (simp only [lens] at*<;> omega) | assumption | exact guardR_net (guardR_net (by assumption) _ _) _ _:(0:Int)≤(v15+1))))))) hl0)))))))))) (guardR_links ((guardR (⟨out,out1⟩:LabNet) ((n.Links.getD v15.toNat default).A) ((n.Links.getD v15.toNat default).B)).2) ((n.Links.getD v15.toNat default).B) ((n.Links.getD v15.toNat default).A))) (guardR_len ((guardR (⟨out,out1⟩:LabNet) ((n.Links.getD v15.toNat default).A) ((n.Links.getD v15.toNat default).B)).2) ((n.Links.getD v15.toNat default).B) ((n.Links.getD v15.toNat default).A))) (guardR_net' ((guardR (⟨out,out1⟩:LabNet) ((n.Links.getD v15.toNat default).A) ((n.Links.getD v15.toNat default).B)).2) ((n.Links.getD v15.toNat default).B) ((n.Links.getD v15.toNat default).A) (by assumption:NetOk ((guardR (⟨out,out1⟩:LabNet) ((n.Links.getD v15.toNat default).A) ((n.Links.getD v15.toNat default).B)).2)))))))) (guardR_links (⟨out,out1⟩:LabNet) ((n.Links.getD v15.toNat default).A) ((n.Links.getD v15.toNat default).B))) (guardR_len (⟨out,out1⟩:LabNet) ((n.Links.getD v15.toNat default).A) ((n.Links.getD v15.toNat default).B))) (guardR_net' (⟨out,out1⟩:LabNet) ((n.Links.getD v15.toNat default).A) ((n.Links.getD v15.toNat default).B) (by assumption:NetOk (⟨out,out1⟩:LabNet))))))))) (of_decide_eq_true h3)) (fun h3:(decide (v15<(n.Links.length:Int)))=false=>(fun _:¬ v15<(n.Links.length:Int)=>(fun hD0_10:(runL (F9_s0 n) (((n.Links.length:Int)-0).toNat+1) (0,n.Links,n.Boxes))=Lp.done (v15,out,out1)=>(fun hF:((⟨out,out1⟩:LabNet):LabNet)=(F9 n)=>ai (Imp.of_eq (congrArg (fun r:LabNet=>Dat.l 2 eLabLink r.Links) hF)) (ai (Imp.of_eq (congrArg (fun r:LabNet=>Dat.l 2 eLabBox r.Boxes) hF)) (trivial))) (condF h1 (finD hD0_10 (rfl)))) (runL_done hI0 (condF h3 (rfl)))) (of_decide_eq_false h3))) (i0.1-1) i0.2.1 i0.2.2.1 i0.2.2.2 (hd1 hi0.1 hi0.2.1) (hd2 hi0.2.1) (hd3 hi0.2.1) hi0.2.2.1 hi0.2.2.2.1 hi0.2.2.2.2)))) (netB_T n (notEF h1))) (netB_8 n (notEF h1))) (netB_14 n (notEF h1)))))) (by kernel_rfl)
def F10_s0 (n:LabNet):(Int×List LabLink×List LabBox)→Lp (Int×List LabLink×List LabBox) LabNet:=fun (i40,x11,x12) =>
 bif (decide (i40<(n.Links.length:Int))) then (.next ((i40+1),((labGuard ((labGuard ⟨x11,x12⟩ ((n.Links.getD i40.toNat default).A) ((n.Links.getD i40.toNat default).B)).1) ((n.Links.getD i40.toNat default).B) ((n.Links.getD i40.toNat default).A)).1).Links,((labGuard ((labGuard ⟨x11,x12⟩ ((n.Links.getD i40.toNat default).A) ((n.Links.getD i40.toNat default).B)).1) ((n.Links.getD i40.toNat default).B) ((n.Links.getD i40.toNat default).A)).1).Boxes)) else (.done (i40,x11,x12))
def F10_j0 (n:LabNet):Lp (List LabLink×List LabBox) LabNet :=
 (runL (F10_s0 n) (((n.Links.length:Int)-0).toNat+1) (0,n.Links,n.Boxes)).fin Lp.ret (fun (i40,x11,x12)=>.done (x11,x12))
def F10 (n:LabNet):LabNet :=
 bif (!(netB n)) then (⟨[],[]⟩:LabNet) else ((F10_j0 n).fin (fun r=>r) (fun (x9,x10)=>(⟨x9,x10⟩:LabNet)))
def S10 (R:LabNet) (n:LabNet):Spec:=⟨[.r (.g (eLabNet n))],.ag [.ow (.l 2 eLabLink R.Links),.ow (.l 2 eLabBox R.Boxes)],True⟩
theorem ok10 (n:LabNet):(S10 (F10 n) n).ok Tryz.prog 10 :=
 fnG_ok mixed (fn:=Tryz.f10) (ct:=.seq (.no) (.seq (.seq (.reg [(1,.call 32 (S32 (netB n) n) (oa32 n) none)]) (.cond (.seq (.no) (.no)) (.no))) (.seq (.reg [(1,.call 33 (S33 n n) (oa33 n) none)]) (.cut (ι:=List LabLink×List LabBox) (fun j=>(fun (x9:List LabLink) (x10:List LabBox)=>(⟨[(2,some (.p 0 0)),(3,some (.p 1 0))],[(0,some (.box 26 [.v (.slice none 0 0),.v (.slice none 0 0)])),(1,some (.box 26 [.h 2 0,.h 3 0])),(2,some (.own 2 (.l 2 eLabLink x9))),(3,some (.own 3 (.l 2 eLabBox x10)))],4⟩:St)) j.1 j.2) (fun j=>(fun (x9:List LabLink) (x10:List LabBox)=>((F10_j0 n)=Lp.done j∧NetOk (⟨x9,x10⟩:LabNet))) j.1 j.2) (.seqk [(1,0),(1,1),(3,0),(3,1)] (.no) (.blk (.loop (ι:=Nat×(Int×List LabLink×List LabBox)) (fun i=>(fun (i40:Int) (x11:List LabLink) (x12:List LabBox)=>(⟨[(1,some (.p 0 0)),(2,some (.p 3 0)),(3,some (.p 4 0)),(4,some (.v (vI i40)))],[(0,some (.box 26 [.h 1 0,.h 2 0])),(1,some (.shr none (.l 2 eLabLink n.Links))),(2,some (.shr none (.l 2 eLabBox n.Boxes))),(3,some (.box 26 [.v (.slice none 0 0),.v (.slice none 0 0)])),(4,some (.box 26 [.h 5 0,.h 6 0])),(5,some (.own 5 (.l 2 eLabLink x11))),(6,some (.own 6 (.l 2 eLabBox x12)))],7⟩:St)) i.2.1 i.2.2.1 i.2.2.2) (fun i=>runL (F10_s0 n) i.1 i.2=(runL (F10_s0 n) (((n.Links.length:Int)-0).toNat+1) (0,n.Links,n.Boxes))∧(fun (i40:Int) (x11:List LabLink) (x12:List LabBox)=>(Int.toNat ((n.Links.length:Int)-i40)<i.1∧NetOk (⟨x11,x12⟩:LabNet)∧(0:Int)≤i40)) i.2.1 i.2.2.1 i.2.2.2) (fun i=>i.1) ((((n.Links.length:Int)-0).toNat+1),(0,n.Links,n.Boxes)) (fun i=>(fun (i40:Int) (x11:List LabLink) (x12:List LabBox)=>(.seq (.seq (.no) (.cond (.no) (.no))) (.seq (.blk (.seq (.reg [(13,.call 17 (S17 (labGuard ⟨x11,x12⟩ ((n.Links.getD i40.toNat default).A) ((n.Links.getD i40.toNat default).B)) (⟨x11,x12⟩:LabNet) ((n.Links.getD i40.toNat default).A) ((n.Links.getD i40.toNat default).B)) (oa17 (⟨x11,x12⟩:LabNet) ((n.Links.getD i40.toNat default).A) ((n.Links.getD i40.toNat default).B)) none)]) (.reg [(13,.call 17 (S17 (labGuard ((labGuard ⟨x11,x12⟩ ((n.Links.getD i40.toNat default).A) ((n.Links.getD i40.toNat default).B)).1) ((n.Links.getD i40.toNat default).B) ((n.Links.getD i40.toNat default).A)) ((labGuard ⟨x11,x12⟩ ((n.Links.getD i40.toNat default).A) ((n.Links.getD i40.toNat default).B)).1) ((n.Links.getD i40.toNat default).B) ((n.Links.getD i40.toNat default).A)) (oa17 ((labGuard ⟨x11,x12⟩ ((n.Links.getD i40.toNat default).A) ((n.Links.getD i40.toNat default).B)).1) ((n.Links.getD i40.toNat default).B) ((n.Links.getD i40.toNat default).A)) none)]))) (.reg [(1,.bnd)])))) i.2.1 i.2.2.1 i.2.2.2)))) (fun j=>(fun (x9:List LabLink) (x10:List LabBox)=>(.seq (.reg [(1,.call 33 (S33 (⟨x9,x10⟩:LabNet) (⟨x9,x10⟩:LabNet)) (oa33 (⟨x9,x10⟩:LabNet)) none)]) (.no))) j.1 j.2))))) Tryz.func10 (fun (_:True)=>ai (trivial) (ai ((Imps.refl (eLabNet n))) (ai (fun h1:(!(netB n))=true=>(fun hF:((⟨[],[]⟩:LabNet):LabNet)=(F10 n)=>ai ((Imp.nil 2 eLabLink).trans (Imp.of_eq (congrArg (fun r:LabNet=>Dat.l 2 eLabLink r.Links) hF))) (ai ((Imp.nil 2 eLabBox).trans (Imp.of_eq (congrArg (fun r:LabNet=>Dat.l 2 eLabBox r.Boxes) hF))) (trivial))) (condT h1 (rfl))) (fun h1:(!(netB n))=false=>(fun _:n.Links.length≤14=>(fun _:n.Boxes.length≤8=>(fun _:NetOk n=>ai ((ai ((by first | omega | (intro k; have:=NetOk.rows (by assumption:NetOk n) k; have:=NetOk.vias (by assumption:NetOk n) k; omega) | (have hq:=NetOk.bounds (by assumption:NetOk (⟨x9,x10⟩:LabNet)); first | exact hq.1 | exact hq.2.1 | exact fun k=>(hq.2.2 k).1 | exact fun k=>(hq.2.2 k).2):n.Links.length≤1000000000)) (ai ((by first | omega | (intro k; have:=NetOk.rows (by assumption:NetOk n) k; have:=NetOk.vias (by assumption:NetOk n) k; omega) | (have hq:=NetOk.bounds (by assumption:NetOk (⟨x9,x10⟩:LabNet)); first | exact hq.1 | exact hq.2.1 | exact fun k=>(hq.2.2 k).1 | exact fun k=>(hq.2.2 k).2):n.Boxes.length≤1000000000)) (ai ((by first | omega | (intro k; have:=NetOk.rows (by assumption:NetOk n) k; have:=NetOk.vias (by assumption:NetOk n) k; omega) | (have hq:=NetOk.bounds (by assumption:NetOk (⟨x9,x10⟩:LabNet)); first | exact hq.1 | exact hq.2.1 | exact fun k=>(hq.2.2 k).1 | exact fun k=>(hq.2.2 k).2):∀ k:Nat,(n.Boxes.getD k default).Rows.length≤1000000000)) ((by first | omega | (intro k; have:=NetOk.rows (by assumption:NetOk n) k; have:=NetOk.vias (by assumption:NetOk n) k; omega) | (have hq:=NetOk.bounds (by assumption:NetOk (⟨x9,x10⟩:LabNet)); first | exact hq.1 | exact hq.2.1 | exact fun k=>(hq.2.2 k).1 | exact fun k=>(hq.2.2 k).2):∀ k:Nat,(n.Boxes.getD k default).Guards.length≤1000000000)))))) (ai ((Imps.refl (eLabNet n))) (ai (fun (_:n.Links.length≤9223372036854775807)=>fun (_:n.Boxes.length≤9223372036854775807)=>fun (_:n.Links.length≤9223372036854775807)=>fun (_:n.Boxes.length≤9223372036854775807)=>ai (ai (rfl) (ai (ir) (ai (ir) (ai (rfl) (ai (rfl) (ai (ir) (ai (ir) ((ai (rfl:runL (F10_s0 n) (((n.Links.length:Int)-0).toNat+1) (0,n.Links,n.Boxes)=(runL (F10_s0 n) (((n.Links.length:Int)-0).toNat+1) (0,n.Links,n.Boxes))) (ai ((Nat.lt_succ_self _:Int.toNat ((n.Links.length:Int)-0)<(((n.Links.length:Int)-0).toNat+1))) (ai ((by first | omega | (simp only [lens] at*<;> omega) | assumption | exact labGuard_net (labGuard_net (by assumption) _ _) _ _:NetOk (⟨n.Links,n.Boxes⟩:LabNet))) ((by first | omega | (simp only [lens] at*<;> omega) | assumption | exact labGuard_net (labGuard_net (by assumption) _ _) _ _:(0:Int)≤0)))))))))))):((.int .i64 0:Value)=.int .i64 0)∧(Imp (.l 2 eLabLink n.Links) (.l 2 eLabLink n.Links))∧(Imp (.l 2 eLabBox n.Boxes) (.l 2 eLabBox n.Boxes))∧((.slice none 0 0:Value)=.slice none 0 0)∧((.slice none 0 0:Value)=.slice none 0 0)∧(Imp (.l 2 eLabLink n.Links) (.l 2 eLabLink n.Links))∧(Imp (.l 2 eLabBox n.Boxes) (.l 2 eLabBox n.Boxes))∧(runL (F10_s0 n) (((n.Links.length:Int)-0).toNat+1) (0,n.Links,n.Boxes)=(runL (F10_s0 n) (((n.Links.length:Int)-0).toNat+1) (0,n.Links,n.Boxes))∧Int.toNat ((n.Links.length:Int)-0)<(((n.Links.length:Int)-0).toNat+1)∧NetOk (⟨n.Links,n.Boxes⟩:LabNet)∧(0:Int)≤0)) (fun (i0:Nat×(Int×List LabLink×List LabBox)) (hi0:runL (F10_s0 n) i0.1 i0.2=(runL (F10_s0 n) (((n.Links.length:Int)-0).toNat+1) (0,n.Links,n.Boxes))∧(fun (i40:Int) (x11:List LabLink) (x12:List LabBox)=>(Int.toNat ((n.Links.length:Int)-i40)<i0.1∧NetOk (⟨x11,x12⟩:LabNet)∧(0:Int)≤i40)) i0.2.1 i0.2.2.1 i0.2.2.2)=>(fun (m0:Nat) (i40:Int) (x11:List LabLink) (x12:List LabBox) (hI0:runL (F10_s0 n) (m0+1) (i40,x11,x12)=(runL (F10_s0 n) (((n.Links.length:Int)-0).toNat+1) (0,n.Links,n.Boxes))) (_:Int.toNat ((n.Links.length:Int)-i40)<m0+1) (hl0:m0<i0.1) (_:NetOk (⟨x11,x12⟩:LabNet)) (_:(0:Int)≤i40)=>ai (fun h3:(decide (i40<(n.Links.length:Int)))=true=>(fun _:i40<(n.Links.length:Int)=>ai ((by omega:0≤i40∧i40<(n.Links.length:Int))) (ai ((by omega:0≤i40∧i40<(n.Links.length:Int))) (ai (trivial) (ai ((Imps.refl (eLabNet (⟨x11,x12⟩:LabNet)))) (ai ((Imp.refl (.v (vI ((n.Links.getD i40.toNat default).A))))) (ai ((Imp.refl (.v (vI ((n.Links.getD i40.toNat default).B))))) (ai ((by omega:0≤i40∧i40<(n.Links.length:Int))) (ai ((by omega:0≤i40∧i40<(n.Links.length:Int))) (ai (trivial) (ai ((Imps.refl (eLabNet ((labGuard ⟨x11,x12⟩ ((n.Links.getD i40.toNat default).A) ((n.Links.getD i40.toNat default).B)).1)))) (ai ((Imp.refl (.v (vI ((n.Links.getD i40.toNat default).B))))) (ai ((Imp.refl (.v (vI ((n.Links.getD i40.toNat default).A))))) (ai ((by unfold i64ok; omega:i64ok (i40+1))) (Exists.intro (p:=fun j:Nat×(Int×List LabLink×List LabBox)=>(fun (i40_:Int) (x11_:List LabLink) (x12_:List LabBox)=>(((.int .i64 (i40+1):Value)=.int .i64 i40_)∧(Imp (.l 2 eLabLink n.Links) (.l 2 eLabLink n.Links))∧(Imp (.l 2 eLabBox n.Boxes) (.l 2 eLabBox n.Boxes))∧((.slice none 0 0:Value)=.slice none 0 0)∧((.slice none 0 0:Value)=.slice none 0 0)∧(Imp (.l 2 eLabLink (((labGuard ((labGuard ⟨x11,x12⟩ ((n.Links.getD i40.toNat default).A) ((n.Links.getD i40.toNat default).B)).1) ((n.Links.getD i40.toNat default).B) ((n.Links.getD i40.toNat default).A)).1).Links)) (.l 2 eLabLink x11_))∧(Imp (.l 2 eLabBox (((labGuard ((labGuard ⟨x11,x12⟩ ((n.Links.getD i40.toNat default).A) ((n.Links.getD i40.toNat default).B)).1) ((n.Links.getD i40.toNat default).B) ((n.Links.getD i40.toNat default).A)).1).Boxes)) (.l 2 eLabBox x12_))∧((runL (F10_s0 n) j.1 j.2=(runL (F10_s0 n) (((n.Links.length:Int)-0).toNat+1) (0,n.Links,n.Boxes))∧Int.toNat ((n.Links.length:Int)-i40_)<j.1∧NetOk (⟨x11_,x12_⟩:LabNet)∧(0:Int)≤i40_)∧j.1<i0.1))) j.2.1 j.2.2.1 j.2.2.2) (m0,((i40+1),((labGuard ((labGuard ⟨x11,x12⟩ ((n.Links.getD i40.toNat default).A) ((n.Links.getD i40.toNat default).B)).1) ((n.Links.getD i40.toNat default).B) ((n.Links.getD i40.toNat default).A)).1).Links,((labGuard ((labGuard ⟨x11,x12⟩ ((n.Links.getD i40.toNat default).A) ((n.Links.getD i40.toNat default).B)).1) ((n.Links.getD i40.toNat default).B) ((n.Links.getD i40.toNat default).A)).1).Boxes)) (ai (rfl) (ai (ir) (ai (ir) (ai (rfl) (ai (rfl) (ai (ir) (ai (ir) (ai (ai (runL_next hI0 (condT h3 (rfl))) (ai ((by first | omega | (simp only [lens] at*<;> omega) | assumption | exact labGuard_net (labGuard_net (by assumption) _ _) _ _:Int.toNat ((n.Links.length:Int)-(i40+1))<m0)) (ai ((by first | omega | (simp only [lens] at*<;> omega) | assumption | exact labGuard_net (labGuard_net (by assumption) _ _) _ _:NetOk (⟨(((labGuard ((labGuard ⟨x11,x12⟩ ((n.Links.getD i40.toNat default).A) ((n.Links.getD i40.toNat default).B)).1) ((n.Links.getD i40.toNat default).B) ((n.Links.getD i40.toNat default).A)).1).Links),(((labGuard ((labGuard ⟨x11,x12⟩ ((n.Links.getD i40.toNat default).A) ((n.Links.getD i40.toNat default).B)).1) ((n.Links.getD i40.toNat default).B) ((n.Links.getD i40.toNat default).A)).1).Boxes)⟩:LabNet))) ((by first | omega | (simp only [lens] at*<;> omega) | assumption | exact labGuard_net (labGuard_net (by assumption) _ _) _ _:(0:Int)≤(i40+1)))))) hl0)))))))))))))))))))))) (of_decide_eq_true h3)) (fun h3:(decide (i40<(n.Links.length:Int)))=false=>(fun _:¬ i40<(n.Links.length:Int)=>(fun hD0_4:(runL (F10_s0 n) (((n.Links.length:Int)-0).toNat+1) (0,n.Links,n.Boxes))=Lp.done (i40,x11,x12)=>Exists.intro (p:=fun j:List LabLink×List LabBox=>(fun (x9_:List LabLink) (x10_:List LabBox)=>(((.slice none 0 0:Value)=.slice none 0 0)∧((.slice none 0 0:Value)=.slice none 0 0)∧(Imp (.l 2 eLabLink x11) (.l 2 eLabLink x9_))∧(Imp (.l 2 eLabBox x12) (.l 2 eLabBox x10_))∧(F10_j0 n)=Lp.done j∧NetOk (⟨x9_,x10_⟩:LabNet))) j.1 j.2) ((x11,x12)) (ai (rfl) (ai (rfl) (ai (ir) (ai (ir) (ai (Eq.symm (finD hD0_4 (rfl))) ((by first | omega | (simp only [lens] at*<;> omega) | assumption:NetOk (⟨x11,x12⟩:LabNet))))))))) (runL_done hI0 (condF h3 (rfl)))) (of_decide_eq_false h3))) (i0.1-1) i0.2.1 i0.2.2.1 i0.2.2.2 (hd1 hi0.1 hi0.2.1) (hd2 hi0.2.1) (hd3 hi0.2.1) hi0.2.2.1 hi0.2.2.2)) (fun (j:List LabLink×List LabBox) (hj:(fun (x9:List LabLink) (x10:List LabBox)=>((F10_j0 n)=Lp.done j∧NetOk (⟨x9,x10⟩:LabNet))) j.1 j.2)=>(fun (x9:List LabLink) (x10:List LabBox) (hJ0_5:(F10_j0 n)=Lp.done (x9,x10)) (_:NetOk (⟨x9,x10⟩:LabNet))=>ai ((ai ((by first | omega | (intro k; have:=NetOk.rows (by assumption:NetOk n) k; have:=NetOk.vias (by assumption:NetOk n) k; omega) | (have hq:=NetOk.bounds (by assumption:NetOk (⟨x9,x10⟩:LabNet)); first | exact hq.1 | exact hq.2.1 | exact fun k=>(hq.2.2 k).1 | exact fun k=>(hq.2.2 k).2):x9.length≤1000000000)) (ai ((by first | omega | (intro k; have:=NetOk.rows (by assumption:NetOk n) k; have:=NetOk.vias (by assumption:NetOk n) k; omega) | (have hq:=NetOk.bounds (by assumption:NetOk (⟨x9,x10⟩:LabNet)); first | exact hq.1 | exact hq.2.1 | exact fun k=>(hq.2.2 k).1 | exact fun k=>(hq.2.2 k).2):x10.length≤1000000000)) (ai ((by first | omega | (intro k; have:=NetOk.rows (by assumption:NetOk n) k; have:=NetOk.vias (by assumption:NetOk n) k; omega) | (have hq:=NetOk.bounds (by assumption:NetOk (⟨x9,x10⟩:LabNet)); first | exact hq.1 | exact hq.2.1 | exact fun k=>(hq.2.2 k).1 | exact fun k=>(hq.2.2 k).2):∀ k:Nat,(x10.getD k default).Rows.length≤1000000000)) ((by first | omega | (intro k; have:=NetOk.rows (by assumption:NetOk n) k; have:=NetOk.vias (by assumption:NetOk n) k; omega) | (have hq:=NetOk.bounds (by assumption:NetOk (⟨x9,x10⟩:LabNet)); first | exact hq.1 | exact hq.2.1 | exact fun k=>(hq.2.2 k).1 | exact fun k=>(hq.2.2 k).2):∀ k:Nat,(x10.getD k default).Guards.length≤1000000000)))))) (ai ((Imps.refl (eLabNet (⟨x9,x10⟩:LabNet)))) ((fun hF:((⟨x9,x10⟩:LabNet):LabNet)=(F10 n)=>ai (Imp.of_eq (congrArg (fun r:LabNet=>Dat.l 2 eLabLink r.Links) hF)) (ai (Imp.of_eq (congrArg (fun r:LabNet=>Dat.l 2 eLabBox r.Boxes) hF)) (trivial))) (condF h1 (finD hJ0_5 (rfl)))))) j.1 j.2 hj.1 hj.2)))) (netB_T n (notEF h1))) (netB_8 n (notEF h1))) (netB_14 n (notEF h1)))))) (by kernel_rfl)
def gAll (n:LabNet):Nat→LabNet
 | 0=>n
 | k+1=>(guardR (guardR (gAll n k) (n.Links.getD k default).A (n.Links.getD k default).B).2 (n.Links.getD k default).B (n.Links.getD k default).A).2
theorem gAll_net {n:LabNet} (h:NetOk n):∀ k,NetOk (gAll n k)
 | 0=>h
 | k+1=>guardR_net (guardR_net (gAll_net h k) _ _) _ _
def labGuardAll (n:LabNet):LabNet:=bif netB n then gAll n n.Links.length else ⟨[],[]⟩
theorem as9 (n:LabNet):F9 n=labGuardAll n:=by
 unfold F9 labGuardAll
 cases netB n
 ·rfl
 simp only [Bool.not_true,cond_false,cond_true]
 have h:=runL_rule (step:=F9_s0 n) (fun (k:Nat) (s:LabNet)=>((k:Int),s.Links,s.Boxes)) n.Links.length (fun k s=>s=gAll n k) (fun _=>False)
  (fun k s hk hI=>.inl ⟨gAll n (k+1),by subst hI; simp only [F9_s0,ltD hk,cond_true,nn]; rfl,rfl⟩)
  (fun s _=>by simp [F9_s0]) n.Links.length 0 n (by omega) rfl (n.Links.length+1) (Nat.lt_succ_self _)
 rw [n0]
 rcases h with ⟨s,h,rfl⟩ | ⟨_,_,h⟩
 ·have h:runL (F9_s0 n) (n.Links.length+1) (0,n.Links,n.Boxes)=_:=h
  rw [h]; rfl
 ·exact h.elim
theorem as10 (n:LabNet):F10 n=labGuardAll n:=by
 unfold F10 labGuardAll
 cases hb:netB n
 ·rfl
 have hn:=netB_T n hb
 simp only [Bool.not_true,cond_false,cond_true]
 unfold F10_j0
 have h:=runL_rule (step:=F10_s0 n) (fun (k:Nat) (s:LabNet)=>((k:Int),s.Links,s.Boxes)) n.Links.length (fun k s=>s=gAll n k) (fun _=>False)
  (fun k s hk hI=>.inl ⟨gAll n (k+1),by
   subst hI
   simp only [F10_s0,ltD hk,cond_true,nn]
   rw [labGuard_way (n:=⟨(gAll n k).Links,(gAll n k).Boxes⟩) (gAll_net hn k),labGuard_way (guardR_net (n:=⟨(gAll n k).Links,(gAll n k).Boxes⟩) (gAll_net hn k) _ _)]
   rfl,rfl⟩)
  (fun s _=>by simp [F10_s0]) n.Links.length 0 n (by omega) rfl (n.Links.length+1) (Nat.lt_succ_self _)
 rw [n0]
 rcases h with ⟨s,h,rfl⟩ | ⟨_,_,h⟩
 ·have h:runL (F10_s0 n) (n.Links.length+1) (0,n.Links,n.Boxes)=_:=h
  rw [h]; rfl
 ·exact h.elim
theorem oa9 (n:LabNet):(S9 (labGuardAll n) n).ok Tryz.prog 9:=by
 intro hp; have h:=ok9 n hp; rw [as9 n] at h; exact h
theorem oa10 (n:LabNet):(S10 (labGuardAll n) n).ok Tryz.prog 10:=by
 intro hp; have h:=ok10 n hp; rw [as10 n] at h; exact h
def F74 (n:LabNet) (down:List Int) (a:Int) (b:Int):Bool :=
 (!(decide ((linkOf n a b)∈down)))
def S74 (R:Bool) (n:LabNet) (down:List Int) (a:Int) (b:Int):Spec:=⟨[.r (.g (eLabNet n)),.r (.c (.l 1 eInt down)),.r (.c (.v (vI a))),.r (.c (.v (vI b)))],.v (.bool R),FrameOk n⟩
theorem ok74 (n:LabNet) (down:List Int) (a:Int) (b:Int):(S74 (F74 n down a b) n down a b).ok Tryz.prog 74 :=
 fnG_ok mixed (fn:=Tryz.f74) (ct:=.seqk [(1,0)] (.no) (.seq (.reg [(4,.call 48 (T48 (linkOf n a b) n a b) (oa48 n a b) none),(5,.call 89 (S89 (decide ((linkOf n a b)∈down)) down (linkOf n a b)) (oa89 down (linkOf n a b)) none)]) (.no))) Tryz.func74 (fun (hpre0:FrameOk n)=>fun (_:down.length≤9223372036854775807)=>ai (((by first | assumption | exact NetOk.frame (by assumption):FrameOk n))) (ai ((Imps.refl (eLabNet n))) (ai ((Imp.refl (.v (vI a)))) (ai ((Imp.refl (.v (vI b)))) (ai (trivial) (ai ((Imp.refl (.l 1 eInt down))) (ai ((Imp.refl (.v (vI (linkOf n a b))))) ((fun hF:((!(decide ((linkOf n a b)∈down))):Bool)=(F74 n down a b)=>ai (congrArg (fun r:Bool=>(.bool r:Value)) hF) (trivial)) (rfl))))))))) (by kernel_rfl)
theorem as74 (n:LabNet) (down:List Int) (a:Int) (b:Int):F74 n down a b=(!decide (linkOf n a b∈down)):=by
 rfl
theorem oa74 (n:LabNet) (down:List Int) (a:Int) (b:Int):(S74 (!decide (linkOf n a b∈down)) n down a b).ok Tryz.prog 74:=by
 intro hp; have h:=ok74 n down a b hp; rw [as74 n down a b] at h; exact h
def F37 (n:LabNet) (down:List Int) (p:LabPacket):LabPacket×Int :=
 bif (decide (((p.Stack.length:Int)-1)<0)) then (p,3) else (bif (!((rowP (n.Boxes.getD (Int.toNat p.Box) default) (p.Stack.getD ((p.Stack.length:Int)-1).toNat default)).2)) then (p,4) else (bif (((rowP (n.Boxes.getD (Int.toNat p.Box) default) (p.Stack.getD ((p.Stack.length:Int)-1).toNat default)).1).Next==(-1)) then ((⟨p.Box,(p.Stack.take ((p.Stack.length:Int)-1).toNat)⟩:LabPacket),0) else (bif (!decide (linkOf n p.Box (((rowP (n.Boxes.getD (Int.toNat p.Box) default) (p.Stack.getD ((p.Stack.length:Int)-1).toNat default)).1).Next)∈down)) then ((⟨((rowP (n.Boxes.getD (Int.toNat p.Box) default) (p.Stack.getD ((p.Stack.length:Int)-1).toNat default)).1).Next,(p.Stack.set (((p.Stack.length:Int)-1)).toNat (((rowP (n.Boxes.getD (Int.toNat p.Box) default) (p.Stack.getD ((p.Stack.length:Int)-1).toNat default)).1).Out))⟩:LabPacket),0) else (bif (bif (!((guardP (n.Boxes.getD (Int.toNat p.Box) default) (((rowP (n.Boxes.getD (Int.toNat p.Box) default) (p.Stack.getD ((p.Stack.length:Int)-1).toNat default)).1).Next)).2)) then true else (!(!decide (linkOf n p.Box (((guardP (n.Boxes.getD (Int.toNat p.Box) default) (((rowP (n.Boxes.getD (Int.toNat p.Box) default) (p.Stack.getD ((p.Stack.length:Int)-1).toNat default)).1).Next)).1).Via)∈down)))) then (p,5) else (bif ((p.Stack.length:Int)==8) then (p,7) else ((⟨((guardP (n.Boxes.getD (Int.toNat p.Box) default) (((rowP (n.Boxes.getD (Int.toNat p.Box) default) (p.Stack.getD ((p.Stack.length:Int)-1).toNat default)).1).Next)).1).Via,((p.Stack.set (((p.Stack.length:Int)-1)).toNat (((rowP (n.Boxes.getD (Int.toNat p.Box) default) (p.Stack.getD ((p.Stack.length:Int)-1).toNat default)).1).Out))++[((guardP (n.Boxes.getD (Int.toNat p.Box) default) (((rowP (n.Boxes.getD (Int.toNat p.Box) default) (p.Stack.getD ((p.Stack.length:Int)-1).toNat default)).1).Next)).1).Push])⟩:LabPacket),0))))))
def S37 (n:LabNet) (down:List Int) (p:LabPacket):Spec:=⟨[.r (.g (eLabNet n)),.r (.c (.l 1 eInt down)),.r (.g (eLabPacket p))],.tu [.ag [.v (vI (((F37 n down p).1).Box)),.ow (.l 1 eInt (((F37 n down p).1).Stack))],.v (vI ((F37 n down p).2))],NetOk n∧0≤p.Box∧p.Box<(n.Boxes.length:Int)∧p.Stack.length≤8⟩
abbrev q37_1 (n:LabNet) (p:LabPacket):=((rowP (n.Boxes.getD (Int.toNat p.Box) default) (p.Stack.getD ((p.Stack.length:Int)-1).toNat default)).1)
abbrev q37_2 (n:LabNet) (p:LabPacket):=(n.Boxes.getD (Int.toNat p.Box) default)
abbrev q37_3 (p:LabPacket):=(p.Stack.getD ((p.Stack.length:Int)-1).toNat default)
abbrev q37_4 (n:LabNet) (p:LabPacket):=((guardP (q37_2 n p) ((q37_1 n p).Next)).1)
abbrev q37_5 (n:LabNet) (p:LabPacket):=((guardP (q37_2 n p) ((q37_1 n p).Next)).2)
theorem ok37 (n:LabNet) (down:List Int) (p:LabPacket):(S37 n down p).ok Tryz.prog 37 :=
 fnG_ok mixed (fn:=Tryz.f37) (ct:=.seqk [(1,0)] (.no) (.seq (.reg [(2,.call 36 (S36 p.Stack p.Stack) (oa36 p.Stack) none)]) (.seq (.reg [(3,.bnd)]) (.seq (.seq (.no) (.cond (.seq (.no) (.no)) (.no))) (.seq (.reg [(11,.call 63 (S63 (rowP (q37_2 n p) (q37_3 p)) (q37_2 n p) (q37_3 p)) (oa63 (q37_2 n p) (q37_3 p)) none)]) (.seq (.blk (.seq (.no) (.cond (.seq (.no) (.no)) (.seq (.no) (.cond (.seq (.reg [(5,.own)]) (.no)) (.seq (.reg [(6,.call 74 (S74 (!decide (linkOf n p.Box ((q37_1 n p).Next)∈down)) n down p.Box ((q37_1 n p).Next)) (oa74 n down p.Box ((q37_1 n p).Next)) none)]) (.cond (.seq (.reg [(6,.dat (.l 1 eInt (p.Stack.set (((p.Stack.length:Int)-1)).toNat ((q37_1 n p).Out))))]) (.seq (.no) (.no))) (.no)))))))) (.seq (.reg [(8,.call 61 (S61 (guardP (q37_2 n p) ((q37_1 n p).Next)) (q37_2 n p) ((q37_1 n p).Next)) (oa61 (q37_2 n p) ((q37_1 n p).Next)) none)]) (.seq (.blk (.seq (.reg [(9,.call 74 (S74 (!decide (linkOf n p.Box ((q37_4 n p).Via)∈down)) n down p.Box ((q37_4 n p).Via)) (oa74 n down p.Box ((q37_4 n p).Via)) none)]) (.cond (.seq (.no) (.no)) (.seq (.no) (.cond (.seq (.no) (.no)) (.no)))))) (.seq (.reg [(6,.dat (.l 1 eInt (p.Stack.set (((p.Stack.length:Int)-1)).toNat ((q37_1 n p).Out))))]) (.seq (.reg [(7,.dat (.l 1 eInt ((p.Stack.set (((p.Stack.length:Int)-1)).toNat ((q37_1 n p).Out))++[(q37_4 n p).Push])))]) (.no))))))))))) Tryz.func37 (fun (hp:NetOk n∧0≤p.Box∧p.Box<(n.Boxes.length:Int)∧p.Stack.length≤8)=>(fun (hpre0:NetOk n) (hpre1:0≤p.Box) (hpre2:p.Box<(n.Boxes.length:Int)) (hpre3:p.Stack.length≤8)=>fun (_:down.length≤9223372036854775807)=>ai (((by first | omega | (simp only [lens] at*<;> omega):p.Stack.length≤1000000000))) (ai ((Imp.refl (.l 1 eInt p.Stack))) (ai ((by unfold i64ok; first | omega | (simp only [lens] at*<;> omega):i64ok ((p.Stack.length:Int)-1))) (ai (fun h1:(decide (((p.Stack.length:Int)-1)<0))=true=>(fun _:((p.Stack.length:Int)-1)<0=>(fun hF:(p,3)=(F37 n down p)=>ai (congrArg (fun r:LabPacket×Int=>(.int .i64 r.1.Box:Value)) hF) (ai (Imp.of_eq (congrArg (fun r:LabPacket×Int=>Dat.l 1 eInt r.1.Stack) hF)) (ai (congrArg (fun r:LabPacket×Int=>(.int .i64 r.2:Value)) hF) (trivial)))) (condT h1 (rfl))) (of_decide_eq_true h1)) (fun h1:(decide (((p.Stack.length:Int)-1)<0))=false=>(fun _:¬ ((p.Stack.length:Int)-1)<0=>ai ((by first | omega | (simp only [lens] at*<;> omega):0≤p.Box∧p.Box<(n.Boxes.length:Int))) (ai ((by first | omega | (simp only [lens] at*<;> omega):0≤((p.Stack.length:Int)-1)∧((p.Stack.length:Int)-1)<(p.Stack.length:Int))) (ai (trivial) (ai ((Imps.refl (eLabBox (q37_2 n p)))) (ai ((Imp.refl (.v (vI (q37_3 p))))) (ai (fun h2:(!((rowP (q37_2 n p) (q37_3 p)).2))=true=>(fun _:(rowP (q37_2 n p) (q37_3 p)).2=false=>(fun hF:(p,4)=(F37 n down p)=>ai (congrArg (fun r:LabPacket×Int=>(.int .i64 r.1.Box:Value)) hF) (ai (Imp.of_eq (congrArg (fun r:LabPacket×Int=>Dat.l 1 eInt r.1.Stack) hF)) (ai (congrArg (fun r:LabPacket×Int=>(.int .i64 r.2:Value)) hF) (trivial)))) (condF h1 (condT h2 (rfl)))) ((notET h2))) (fun h2:(!((rowP (q37_2 n p) (q37_3 p)).2))=false=>(fun _:(rowP (q37_2 n p) (q37_3 p)).2=true=>ai (fun h3:((q37_1 n p).Next==(-1))=true=>(fun _:(q37_1 n p).Next=(-1)=>ai ((by first | omega | (simp only [lens] at*<;> omega):0≤(0:Int)∧(0:Int)≤((p.Stack.length:Int)-1)∧((p.Stack.length:Int)-1)≤(p.Stack.length:Int))) ((fun hF:((⟨p.Box,(p.Stack.take ((p.Stack.length:Int)-1).toNat)⟩:LabPacket),0)=(F37 n down p)=>ai (congrArg (fun r:LabPacket×Int=>(.int .i64 r.1.Box:Value)) hF) (ai (Imp.of_eq (congrArg (fun r:LabPacket×Int=>Dat.l 1 eInt r.1.Stack) hF)) (ai (congrArg (fun r:LabPacket×Int=>(.int .i64 r.2:Value)) hF) (trivial)))) (condF h1 (condF h2 (condT h3 (rfl)))))) (eq_of_beq h3)) (fun h3:((q37_1 n p).Next==(-1))=false=>(fun _:¬ (q37_1 n p).Next=(-1)=>ai (((by first | assumption | exact NetOk.frame (by assumption):FrameOk n))) (ai ((Imps.refl (eLabNet n))) (ai ((Imp.refl (.l 1 eInt down))) (ai ((Imp.refl (.v (vI p.Box)))) (ai ((Imp.refl (.v (vI ((q37_1 n p).Next))))) (ai (fun h4:(!decide (linkOf n p.Box ((q37_1 n p).Next)∈down))=true=>ai ((by first | omega | (simp only [lens] at*<;> omega):0≤((p.Stack.length:Int)-1)∧((p.Stack.length:Int)-1)<(p.Stack.length:Int))) (ai ((SetOK.mk eInt p.Stack ((q37_1 n p).Out) rfl (by exact ai ir (trivial)):SetOK (.l 1 eInt p.Stack) (((p.Stack.length:Int)-1)).toNat (eInt (q37_3 p)) [.v (vI ((q37_1 n p).Out))] (.l 1 eInt (p.Stack.set (((p.Stack.length:Int)-1)).toNat ((q37_1 n p).Out))))) ((fun hF:((⟨(q37_1 n p).Next,(p.Stack.set (((p.Stack.length:Int)-1)).toNat ((q37_1 n p).Out))⟩:LabPacket),0)=(F37 n down p)=>ai (congrArg (fun r:LabPacket×Int=>(.int .i64 r.1.Box:Value)) hF) (ai (Imp.of_eq (congrArg (fun r:LabPacket×Int=>Dat.l 1 eInt r.1.Stack) hF)) (ai (congrArg (fun r:LabPacket×Int=>(.int .i64 r.2:Value)) hF) (trivial)))) (condF h1 (condF h2 (condF h3 (condT h4 (rfl)))))))) (fun h4:(!decide (linkOf n p.Box ((q37_1 n p).Next)∈down))=false=>ai ((by first | omega | (simp only [lens] at*<;> omega):0≤p.Box∧p.Box<(n.Boxes.length:Int))) (ai (trivial) (ai ((Imps.refl (eLabBox (q37_2 n p)))) (ai ((Imp.refl (.v (vI ((q37_1 n p).Next))))) (ai ((fun k5:(!(q37_5 n p))=false=>(fun _:(guardP (q37_2 n p) ((q37_1 n p).Next)).2=true=>((by first | assumption | exact NetOk.frame (by assumption):FrameOk n))) ((notEF k5)))) (ai ((fun k6:(!(q37_5 n p))=false=>(fun _:(guardP (q37_2 n p) ((q37_1 n p).Next)).2=true=>(Imps.refl (eLabNet n))) ((notEF k6)))) (ai ((fun k7:(!(q37_5 n p))=false=>(fun _:(guardP (q37_2 n p) ((q37_1 n p).Next)).2=true=>(Imp.refl (.l 1 eInt down))) ((notEF k7)))) (ai ((fun k8:(!(q37_5 n p))=false=>(fun _:(guardP (q37_2 n p) ((q37_1 n p).Next)).2=true=>(Imp.refl (.v (vI p.Box)))) ((notEF k8)))) (ai ((fun k9:(!(q37_5 n p))=false=>(fun _:(guardP (q37_2 n p) ((q37_1 n p).Next)).2=true=>(Imp.refl (.v (vI ((q37_4 n p).Via))))) ((notEF k9)))) (ai (fun h10:(bif (!(q37_5 n p)) then true else (!(!decide (linkOf n p.Box ((q37_4 n p).Via)∈down))))=true=>(fun hF:(p,5)=(F37 n down p)=>ai (congrArg (fun r:LabPacket×Int=>(.int .i64 r.1.Box:Value)) hF) (ai (Imp.of_eq (congrArg (fun r:LabPacket×Int=>Dat.l 1 eInt r.1.Stack) hF)) (ai (congrArg (fun r:LabPacket×Int=>(.int .i64 r.2:Value)) hF) (trivial)))) (condF h1 (condF h2 (condF h3 (condF h4 (condT h10 (rfl))))))) (fun h10:(bif (!(q37_5 n p)) then true else (!(!decide (linkOf n p.Box ((q37_4 n p).Via)∈down))))=false=>(fun _:(guardP (q37_2 n p) ((q37_1 n p).Next)).2=true=>ai (fun h11:((p.Stack.length:Int)==8)=true=>(fun _:(p.Stack.length:Int)=8=>(fun hF:(p,7)=(F37 n down p)=>ai (congrArg (fun r:LabPacket×Int=>(.int .i64 r.1.Box:Value)) hF) (ai (Imp.of_eq (congrArg (fun r:LabPacket×Int=>Dat.l 1 eInt r.1.Stack) hF)) (ai (congrArg (fun r:LabPacket×Int=>(.int .i64 r.2:Value)) hF) (trivial)))) (condF h1 (condF h2 (condF h3 (condF h4 (condF h10 (condT h11 (rfl)))))))) (eq_of_beq h11)) (fun h11:((p.Stack.length:Int)==8)=false=>(fun _:¬ (p.Stack.length:Int)=8=>ai ((by first | omega | (simp only [lens] at*<;> omega):0≤((p.Stack.length:Int)-1)∧((p.Stack.length:Int)-1)<(p.Stack.length:Int))) (ai ((SetOK.mk eInt p.Stack ((q37_1 n p).Out) rfl (by exact ai ir (trivial)):SetOK (.l 1 eInt p.Stack) (((p.Stack.length:Int)-1)).toNat (eInt (q37_3 p)) [.v (vI ((q37_1 n p).Out))] (.l 1 eInt (p.Stack.set (((p.Stack.length:Int)-1)).toNat ((q37_1 n p).Out))))) (ai ((AppA.mk eInt (p.Stack.set (((p.Stack.length:Int)-1)).toNat ((q37_1 n p).Out)) [(q37_4 n p).Push] (Imp.refl (.l 1 eInt (p.Stack.set (((p.Stack.length:Int)-1)).toNat ((q37_1 n p).Out)))) rfl (by exact ai ir (trivial)) (fun _=>rfl):AppA (.l 1 eInt (p.Stack.set (((p.Stack.length:Int)-1)).toNat ((q37_1 n p).Out))) 1 1 [.v (vI ((q37_4 n p).Push))] (.l 1 eInt ((p.Stack.set (((p.Stack.length:Int)-1)).toNat ((q37_1 n p).Out))++[(q37_4 n p).Push])))) (ai ((by (try simp only [lens]); omega:(((p.Stack.set (((p.Stack.length:Int)-1)).toNat ((q37_1 n p).Out))++[(q37_4 n p).Push])).length*8≤140737488355328)) ((fun hF:((⟨(q37_4 n p).Via,((p.Stack.set (((p.Stack.length:Int)-1)).toNat ((q37_1 n p).Out))++[(q37_4 n p).Push])⟩:LabPacket),0)=(F37 n down p)=>ai (congrArg (fun r:LabPacket×Int=>(.int .i64 r.1.Box:Value)) hF) (ai (Imp.of_eq (congrArg (fun r:LabPacket×Int=>Dat.l 1 eInt r.1.Stack) hF)) (ai (congrArg (fun r:LabPacket×Int=>(.int .i64 r.2:Value)) hF) (trivial)))) (condF h1 (condF h2 (condF h3 (condF h4 (condF h10 (condF h11 (rfl)))))))))))) (beqF h11))) ((notEF (orF1 h10)))))))))))))))))))) (beqF h3))) ((notEF h2))))))))) (of_decide_eq_false h1)))))) hp.1 hp.2.1 hp.2.2.1 hp.2.2.2) (by kernel_rfl)
theorem isLabel_mem {n:LabNet} {p:LabPacket} (h:packB n p=true) {x:Int} (hx:x∈p.Stack):isLabel x:=by
 unfold packB at h
 simp only [Bool.and_eq_true,allB_iff] at h
 obtain ⟨k,hk,rfl⟩:=mem_getD hx
 simpa using h.2.2 k hk
theorem packB_of {n:LabNet} {p:LabPacket} (h1:0≤p.Box) (h2:p.Box<(n.Boxes.length:Int)) (h3:p.Stack.length≤8) (h4:∀ x∈p.Stack,isLabel x):packB n p=true:=by
 unfold packB
 simp only [Bool.and_eq_true,allB_iff,decide_eq_true_eq]
 exact ⟨⟨h1,by omega⟩,by omega,fun k hk=>by simpa using h4 _ (getD_mem _ hk)⟩
theorem mem_setL {α:Type} {xs:List α} {i:Nat} {a x:α} (h:x∈xs.set i a):x∈xs∨x=a:=by
 rcases List.mem_or_eq_of_mem_set h with h | h
 ·exact .inl h
 ·exact .inr h
theorem step_pack {n:LabNet} (h:NetOk n) (down:List Int) (p:LabPacket) (hp:packB n p=true):packB n (F37 n down p).1=true:=by
 obtain ⟨h0,h1,h2⟩:=packB_T n p hp
 have hm:=fun x hx=>isLabel_mem hp (x:=x) hx
 unfold F37
 by_cases hs:(p.Stack.length:Int)-1<0
 ·rw [decide_eq_true hs]; exact hp
 ·rw [decide_eq_false hs]
  simp only [cond_false]
  generalize p.Stack.getD ((p.Stack.length:Int)-1).toNat default=top
  cases e:rowIx (n.Boxes.getD (Int.toNat p.Box) default) top with
  | none=>simp only [rowP,e]; exact hp
  | some k =>
   have hk:=(first_some.1 e).1
   have hr:=(h.box (Int.toNat p.Box) (by omega)).row k hk
   have hn:=row_next h h0 (by omega) (k:=(k:Int)) (by omega) (by omega)
   rw [nn] at hn
   simp only [rowP,e,cond_false,Bool.not_true]
   generalize (n.Boxes.getD (Int.toNat p.Box) default).Rows.getD k default=r at *
   cases e4:(r.Next==-1)
   ·simp only [cond_false]
    have hne:¬ r.Next=-1:=beqF e4
    have hout:isLabel r.Out:=by
     rcases hr.2 with h5 | h5
     ·exact absurd h5.1 hne
     ·exact h5.2
    cases decide (linkOf n p.Box r.Next∈down)
    ·exact packB_of (by simp only [Bool.not_false,cond_true]; omega) (by simp only [Bool.not_false,cond_true]; omega) (by simp; omega) fun x hx=>by
      rcases mem_setL hx with hx | rfl
      ·exact hm x hx
      ·exact hout
    ·simp only [Bool.not_true,cond_false]
     cases e5:guardIx (n.Boxes.getD (Int.toNat p.Box) default) r.Next with
     | none=>simp only [guardP,e5]; exact hp
     | some j =>
      have hj:=(first_some.1 e5).1
      have hv:=(h.box (Int.toNat p.Box) (by omega)).via j hj
      simp only [guardP,e5,cond_false,Bool.not_true,Bool.not_not]
      generalize (n.Boxes.getD (Int.toNat p.Box) default).Guards.getD j default=v at *
      cases decide (linkOf n p.Box v.Via∈down)
      ·simp only [cond_false]
       cases e8:((p.Stack.length:Int)==8)
       ·have h9:=beqF e8
        have hin:=linkOf_in h.frame hv.2.1
        refine packB_of hin.2.2.1 hin.2.2.2.1 (by simp; omega) fun x hx=>?_
        rcases List.mem_append.1 hx with hx | hx
        ·rcases mem_setL hx with hx | rfl
         ·exact hm x hx
         ·exact hout
        ·rw [List.mem_singleton.1 hx]; exact hv.2.2.2
       ·exact hp
      ·exact hp
   ·simp only [cond_true]
    exact packB_of h0 (by show p.Box<_; omega) (by simp; omega) fun x hx=>hm x (List.mem_of_mem_take hx)
theorem step_pack' (n:LabNet) (down:List Int) (p:LabPacket) (h:NetOk n) (hp:packB n p=true):packB n (F37 n down p).1=true:=step_pack h down p hp
theorem step_range (n:LabNet) (down:List Int) (p:LabPacket) (h:NetOk n) (hp:packB n p=true):0≤(F37 n down p).1.Box∧(F37 n down p).1.Box≤(n.Boxes.length:Int)-1∧((F37 n down p).1.Stack.length:Int)≤8:=packB_T n _ (step_pack h down p hp)
theorem tmod_ix {a b:Int} (h0:0≤a) (h1:0<b):0≤a.tmod b∧a.tmod b<b:=by
 rw [Int.tmod_eq_emod_of_nonneg h0]
 exact ⟨Int.emod_nonneg _ (by omega),Int.emod_lt_of_pos _ h1⟩
theorem wrap73 {k:Int} (h0:0≤k) (h1:k≤2000000000):0≤IntKind.i64.wrap (IntKind.i64.wrap (k*7)+3):=by
 rw [wrap_of (n:=k*7) (by omega) (by omega),wrap_of (by omega) (by omega)]; omega
theorem tmod_in {a n:Int} (h0:0≤a):0≤a.tmod n∧(1≤n→a.tmod n<n):=by
 refine ⟨?_,fun h=>(tmod_ix h0 (by omega)).2⟩
 rw [Int.tmod_eq_emod_of_nonneg h0]
 by_cases h:n=0
 ·subst h; simpa using h0
 ·exact Int.emod_nonneg _ h
theorem xor_in {a b:Int} (ha:0≤a) (ha2:a<4611686018427387904) (hb:0≤b) (hb2:b<4611686018427387904):0≤bitI .xor .i64 a b:=by
 obtain ⟨m,rfl⟩:=Int.eq_ofNat_of_zero_le ha
 obtain ⟨k,rfl⟩:=Int.eq_ofNat_of_zero_le hb
 have h1:m<2 ^ 62:=by omega
 have h2:k<2 ^ 62:=by omega
 have hx:m ^^^ k<2 ^ 62:=Nat.xor_lt_two_pow h1 h2
 unfold bitI
 have e:(BitVec.ofInt IntKind.i64.bits (m:Int) ^^^ BitVec.ofInt IntKind.i64.bits (k:Int)).toNat=m ^^^ k:=by
  rw [BitVec.toNat_xor,BitVec.toNat_ofInt,BitVec.toNat_ofInt]
  have hb:(2 ^ IntKind.i64.bits:Nat)=18446744073709551616:=by decide
  have e1:((m:Int)%((2 ^ IntKind.i64.bits:Nat):Int)).toNat=m:=by rw [hb]; omega
  have e2:((k:Int)%((2 ^ IntKind.i64.bits:Nat):Int)).toNat=k:=by rw [hb]; omega
  rw [e1,e2]
 simp only [e]
 rw [wrap_of (by omega) (by omega)]
 omega
structure l71Rd where
 b:List Int
 p:Int
 deriving DecidableEq,Inhabited
def F26 (r1:l71Rd) (n:Int):Int×Int :=
 bif (bif decide (n<1) then true else ((r1.b.length:Int)==0)) then (0,(r1.p+1)) else (bif (decide (((r1.p+1)-1)<(r1.b.length:Int))) then (((IntKind.i64.wrap ((r1.b.getD ((r1.p+1)-1).toNat default)%256)).tmod n),(r1.p+1)) else (((bitI .xor .i64 (IntKind.i64.wrap ((IntKind.i64.wrap ((IntKind.i64.wrap ((IntKind.i64.wrap ((IntKind.i64.wrap ((r1.b.getD (((r1.p+1)-1).tmod (r1.b.length:Int)).toNat default)%256))*131))+(IntKind.i64.wrap ((IntKind.i64.wrap ((r1.b.getD ((IntKind.i64.wrap ((IntKind.i64.wrap (((r1.p+1)-1)*7))+3)).tmod (r1.b.length:Int)).toNat default)%256))*1117))))+(IntKind.i64.wrap (((r1.p+1)-1)*29))))+(IntKind.i64.wrap ((IntKind.i64.wrap (((r1.p+1)-1).tdiv (r1.b.length:Int)))*53)))) (IntKind.i64.wrap ((IntKind.i64.wrap ((IntKind.i64.wrap ((IntKind.i64.wrap ((IntKind.i64.wrap ((IntKind.i64.wrap ((r1.b.getD (((r1.p+1)-1).tmod (r1.b.length:Int)).toNat default)%256))*131))+(IntKind.i64.wrap ((IntKind.i64.wrap ((r1.b.getD ((IntKind.i64.wrap ((IntKind.i64.wrap (((r1.p+1)-1)*7))+3)).tmod (r1.b.length:Int)).toNat default)%256))*1117))))+(IntKind.i64.wrap (((r1.p+1)-1)*29))))+(IntKind.i64.wrap ((IntKind.i64.wrap (((r1.p+1)-1).tdiv (r1.b.length:Int)))*53)))).tdiv 64))).tmod n),(r1.p+1)))
def S26 (r1X:SV) (gr1:Nat) (r1:l71Rd) (n:Int):Spec:=⟨[.ptg gr1 84 (sv r1X) (.l 1 eByte r1.b) [.v (vI r1.p)] [.v (vI ((F26 r1 n).2))],.r (.c (.v (vI n)))],.v (vI ((F26 r1 n).1)),0≤r1.p∧r1.p≤1000000000∧r1.b.length≤2000⟩
theorem ok26 (r1X:SV) (gr1:Nat) (r1:l71Rd) (n:Int):(S26 r1X gr1 r1 n).ok Tryz.prog 26 :=
 fnG_ok mixed (fn:=Tryz.f26) (ct:=.seqk [(0,0)] (.no) (.seq (.reg [(5,.bnd)]) (.seq (.seq (.no) (.cond (.seq (.no) (.no)) (.no))) (.seq (.reg [(4,.bnd)]) (.seq (.seq (.no) (.cond (.seq (.no) (.no)) (.no))) (.seq (.no) (.seq (.no) (.seq (.no) (.no))))))))) Tryz.func26 (fun (hp:0≤r1.p∧r1.p≤1000000000∧r1.b.length≤2000)=>(fun (hpre0:0≤r1.p) (hpre1:r1.p≤1000000000) (hpre2:r1.b.length≤2000)=>fun (_:r1.b.length≤9223372036854775807)=>ai ((by unfold i64ok; omega:i64ok (r1.p+1))) (ai (fun h1:(bif decide (n<1) then true else ((r1.b.length:Int)==0))=true=>(fun hF:(0,(r1.p+1))=(F26 r1 n)=>ai (congrArg (fun r:Int×Int=>(.int .i64 r.1:Value)) hF) (ai (ai (Imp.refl (Dat.v (sv r1X))) (ai (Imp.of_eq (congrArg (fun r:Int×Int=>Dat.v (vI r.2)) hF)) (trivial))) (trivial))) (condT h1 (rfl))) (fun h1:(bif decide (n<1) then true else ((r1.b.length:Int)==0))=false=>(fun _:¬ (r1.b.length:Int)=0=>(fun _:¬ n<1=>ai ((by unfold i64ok; omega:i64ok ((r1.p+1)-1))) (ai (fun h2:(decide (((r1.p+1)-1)<(r1.b.length:Int)))=true=>(fun _:((r1.p+1)-1)<(r1.b.length:Int)=>ai ((by first | omega | exact tmod_ix (by omega) (by omega) | exact tmod_ix (wrap73 (by omega) (by omega)) (by omega):0≤((r1.p+1)-1)∧((r1.p+1)-1)<(r1.b.length:Int))) (ai ((by omega:¬ n=0)) ((fun hF:(((IntKind.i64.wrap ((r1.b.getD ((r1.p+1)-1).toNat default)%256)).tmod n),(r1.p+1))=(F26 r1 n)=>ai (congrArg (fun r:Int×Int=>(.int .i64 r.1:Value)) hF) (ai (ai (Imp.refl (Dat.v (sv r1X))) (ai (Imp.of_eq (congrArg (fun r:Int×Int=>Dat.v (vI r.2)) hF)) (trivial))) (trivial))) (condF h1 (condT h2 (rfl)))))) (of_decide_eq_true h2)) (fun h2:(decide (((r1.p+1)-1)<(r1.b.length:Int)))=false=>(fun _:¬ ((r1.p+1)-1)<(r1.b.length:Int)=>ai ((by omega:¬ (r1.b.length:Int)=0)) (ai ((by first | omega | exact tmod_ix (by omega) (by omega) | exact tmod_ix (wrap73 (by omega) (by omega)) (by omega):0≤(((r1.p+1)-1).tmod (r1.b.length:Int))∧(((r1.p+1)-1).tmod (r1.b.length:Int))<(r1.b.length:Int))) (ai ((by omega:¬ (r1.b.length:Int)=0)) (ai ((by first | omega | exact tmod_ix (by omega) (by omega) | exact tmod_ix (wrap73 (by omega) (by omega)) (by omega):0≤((IntKind.i64.wrap ((IntKind.i64.wrap (((r1.p+1)-1)*7))+3)).tmod (r1.b.length:Int))∧((IntKind.i64.wrap ((IntKind.i64.wrap (((r1.p+1)-1)*7))+3)).tmod (r1.b.length:Int))<(r1.b.length:Int))) (ai ((by omega:¬ (r1.b.length:Int)=0)) (ai ((by omega:¬ (64:Int)=0)) (ai ((by omega:¬ n=0)) ((fun hF:(((bitI .xor .i64 (IntKind.i64.wrap ((IntKind.i64.wrap ((IntKind.i64.wrap ((IntKind.i64.wrap ((IntKind.i64.wrap ((r1.b.getD (((r1.p+1)-1).tmod (r1.b.length:Int)).toNat default)%256))*131))+(IntKind.i64.wrap ((IntKind.i64.wrap ((r1.b.getD ((IntKind.i64.wrap ((IntKind.i64.wrap (((r1.p+1)-1)*7))+3)).tmod (r1.b.length:Int)).toNat default)%256))*1117))))+(IntKind.i64.wrap (((r1.p+1)-1)*29))))+(IntKind.i64.wrap ((IntKind.i64.wrap (((r1.p+1)-1).tdiv (r1.b.length:Int)))*53)))) (IntKind.i64.wrap ((IntKind.i64.wrap ((IntKind.i64.wrap ((IntKind.i64.wrap ((IntKind.i64.wrap ((IntKind.i64.wrap ((r1.b.getD (((r1.p+1)-1).tmod (r1.b.length:Int)).toNat default)%256))*131))+(IntKind.i64.wrap ((IntKind.i64.wrap ((r1.b.getD ((IntKind.i64.wrap ((IntKind.i64.wrap (((r1.p+1)-1)*7))+3)).tmod (r1.b.length:Int)).toNat default)%256))*1117))))+(IntKind.i64.wrap (((r1.p+1)-1)*29))))+(IntKind.i64.wrap ((IntKind.i64.wrap (((r1.p+1)-1).tdiv (r1.b.length:Int)))*53)))).tdiv 64))).tmod n),(r1.p+1))=(F26 r1 n)=>ai (congrArg (fun r:Int×Int=>(.int .i64 r.1:Value)) hF) (ai (ai (Imp.refl (Dat.v (sv r1X))) (ai (Imp.of_eq (congrArg (fun r:Int×Int=>Dat.v (vI r.2)) hF)) (trivial))) (trivial))) (condF h1 (condF h2 (rfl))))))))))) (of_decide_eq_false h2)))) (of_decide_eq_false (orF1 h1))) (beqF (orF2 h1))))) hp.1 hp.2.1 hp.2.2) (by kernel_rfl)
def F22 (codeX:SV) (code:List Int):l71Rd×SV :=
 bif (decide ((code.length:Int)>2000)) then ((⟨(code.take (Int.toNat 2000)),0⟩:l71Rd),(cutSV 1 (Int.toNat 0) (code.take (Int.toNat 2000)).length codeX)) else ((⟨code,0⟩:l71Rd),codeX)
def S22 (codeX:SV) (code:List Int):Spec:=⟨[.vl (sv codeX) (.l 1 eByte code)],.pt 84 [.v (sv ((F22 codeX code).2)),.v (vI ((F22 codeX code).1).p)],True⟩
theorem ok22 (codeX:SV) (code:List Int):(S22 codeX code).ok Tryz.prog 22 :=
 fnG_ok mixed (fn:=Tryz.f22) (ct:=.seqk [(0,0)] (.no) (.seq (.seq (.no) (.cond (.reg [(1,.sv)]) (.no))) (.seq (.no) (.no)))) Tryz.func22 (fun (_:True)=>fun (_:code.length≤9223372036854775807)=>ai (fun h1:(decide ((code.length:Int)>2000))=true=>(fun _:(code.length:Int)>2000=>ai ((by first | omega | (simp only [lens] at*<;> omega):0≤(0:Int)∧(0:Int)≤(2000:Int)∧(2000:Int)≤(code.length:Int))) ((fun hF:((⟨(code.take (Int.toNat 2000)),0⟩:l71Rd),(cutSV 1 (Int.toNat 0) (code.take (Int.toNat 2000)).length codeX))=(F22 codeX code)=>ai (ai (Imp.of_eq (congrArg (fun r:l71Rd×SV=>Dat.v (sv r.2)) hF)) (ai (Imp.of_eq (congrArg (fun r:l71Rd×SV=>Dat.v (vI r.1.p)) hF)) (trivial))) (trivial)) (condT h1 (rfl)))) (of_decide_eq_true h1)) (fun h1:(decide ((code.length:Int)>2000))=false=>(fun _:¬ (code.length:Int)>2000=>(fun hF:((⟨code,0⟩:l71Rd),codeX)=(F22 codeX code)=>ai (ai (Imp.of_eq (congrArg (fun r:l71Rd×SV=>Dat.v (sv r.2)) hF)) (ai (Imp.of_eq (congrArg (fun r:l71Rd×SV=>Dat.v (vI r.1.p)) hF)) (trivial))) (trivial)) (condF h1 (rfl))) (of_decide_eq_false h1))) (by kernel_rfl)
def F53_s0 (list:List Int) (n:Int):Int→Lp Int Bool:=fun i40 =>
 bif (decide (i40<(list.length:Int))) then (bif ((list.getD i40.toNat default)==n) then (.ret true) else (.next (i40+1))) else (.done i40)
def F53 (list:List Int) (n:Int):Bool :=
 (runL (F53_s0 list n) (((list.length:Int)-0).toNat+1) 0).fin (fun r=>r) (fun i40=>false)
def S53 (list:List Int) (n:Int):Spec:=⟨[.r (.c (.l 1 eInt list)),.r (.c (.v (vI n)))],.v (.bool (F53 list n)),True⟩
theorem ok53 (list:List Int) (n:Int):(S53 list n).ok Tryz.prog 53 :=
 fnG_ok mixed (fn:=Tryz.f53) (ct:=.seqk [(0,0)] (.no) (.seq (.seqk [(0,0)] (.no) (.blk (.loop (ι:=Nat×Int) (fun i=>(fun (i40:Int)=>(⟨[(0,some (.h 0 0)),(1,some (.v (vI n))),(5,some (.v (vI i40)))],[(0,some (.shr none (.l 1 eInt list)))],1⟩:St)) i.2) (fun i=>runL (F53_s0 list n) i.1 i.2=(runL (F53_s0 list n) (((list.length:Int)-0).toNat+1) 0)∧(fun (i40:Int)=>(Int.toNat ((list.length:Int)-i40)<i.1∧(0:Int)≤i40)) i.2) (fun i=>i.1) ((((list.length:Int)-0).toNat+1),0) (fun i=>(fun (i40:Int)=>(.seq (.seq (.no) (.cond (.no) (.no))) (.seq (.blk (.seq (.no) (.cond (.seq (.no) (.no)) (.no)))) (.reg [(1,.bnd)])))) i.2)))) (.seq (.no) (.no)))) Tryz.func53 (fun (_:True)=>fun (_:list.length≤9223372036854775807)=>fun (_:list.length≤9223372036854775807)=>ai (ai (rfl) (ai (rfl) (ai (ir) ((ai (rfl:runL (F53_s0 list n) (((list.length:Int)-0).toNat+1) 0=(runL (F53_s0 list n) (((list.length:Int)-0).toNat+1) 0)) (ai ((Nat.lt_succ_self _:Int.toNat ((list.length:Int)-0)<(((list.length:Int)-0).toNat+1))) ((by omega:(0:Int)≤0))))))):((.int .i64 n:Value)=.int .i64 n)∧((.int .i64 0:Value)=.int .i64 0)∧(Imp (.l 1 eInt list) (.l 1 eInt list))∧(runL (F53_s0 list n) (((list.length:Int)-0).toNat+1) 0=(runL (F53_s0 list n) (((list.length:Int)-0).toNat+1) 0)∧Int.toNat ((list.length:Int)-0)<(((list.length:Int)-0).toNat+1)∧(0:Int)≤0)) (fun (i0:Nat×Int) (hi0:runL (F53_s0 list n) i0.1 i0.2=(runL (F53_s0 list n) (((list.length:Int)-0).toNat+1) 0)∧(fun (i40:Int)=>(Int.toNat ((list.length:Int)-i40)<i0.1∧(0:Int)≤i40)) i0.2)=>(fun (m0:Nat) (i40:Int) (hI0:runL (F53_s0 list n) (m0+1) i40=(runL (F53_s0 list n) (((list.length:Int)-0).toNat+1) 0)) (_:Int.toNat ((list.length:Int)-i40)<m0+1) (hl0:m0<i0.1) (_:(0:Int)≤i40)=>ai (fun h2:(decide (i40<(list.length:Int)))=true=>(fun _:i40<(list.length:Int)=>ai ((by omega:0≤i40∧i40<(list.length:Int))) (ai (fun h3:((list.getD i40.toNat default)==n)=true=>(fun _:(list.getD i40.toNat default)=n=>(fun hF:(true:Bool)=(F53 list n)=>ai (congrArg (fun r:Bool=>(.bool r:Value)) hF) (trivial)) (finR (runL_ret hI0 (condT h2 (condT h3 (rfl)))) rfl)) (eq_of_beq h3)) (fun h3:((list.getD i40.toNat default)==n)=false=>(fun _:¬ (list.getD i40.toNat default)=n=>ai ((by unfold i64ok; omega:i64ok (i40+1))) (Exists.intro (p:=fun j:Nat×Int=>(fun (i40_:Int)=>(((.int .i64 n:Value)=.int .i64 n)∧((.int .i64 (i40+1):Value)=.int .i64 i40_)∧(Imp (.l 1 eInt list) (.l 1 eInt list))∧((runL (F53_s0 list n) j.1 j.2=(runL (F53_s0 list n) (((list.length:Int)-0).toNat+1) 0)∧Int.toNat ((list.length:Int)-i40_)<j.1∧(0:Int)≤i40_)∧j.1<i0.1))) j.2) (m0,(i40+1)) (ai (rfl) (ai (rfl) (ai (ir) (ai (ai (runL_next hI0 (condT h2 (condF h3 (rfl)))) (ai ((by omega:Int.toNat ((list.length:Int)-(i40+1))<m0)) ((by omega:(0:Int)≤(i40+1))))) hl0)))))) (beqF h3)))) (of_decide_eq_true h2)) (fun h2:(decide (i40<(list.length:Int)))=false=>(fun _:¬ i40<(list.length:Int)=>(fun hD0_4:(runL (F53_s0 list n) (((list.length:Int)-0).toNat+1) 0)=Lp.done i40=>(fun hF:(false:Bool)=(F53 list n)=>ai (congrArg (fun r:Bool=>(.bool r:Value)) hF) (trivial)) (finD hD0_4 (rfl))) (runL_done hI0 (condF h2 (rfl)))) (of_decide_eq_false h2))) (i0.1-1) i0.2 (hd1 hi0.1 hi0.2.1) (hd2 hi0.2.1) (hd3 hi0.2.1) hi0.2.2)) (by kernel_rfl)
def F82_s0 (list:List LabLink) (l:LabLink):Int→Lp Int (List LabLink):=fun k400 =>
 bif (bif decide (k400<(list.length:Int)) then (bif decide ((list.getD k400.toNat default).A<l.A) then true else (bif ((list.getD k400.toNat default).A==l.A) then decide ((list.getD k400.toNat default).B<l.B) else false)) else false) then (.next (k400+1)) else (.done k400)
def F82_j0 (list:List LabLink) (l:LabLink):Lp Int (List LabLink) :=
 (runL (F82_s0 list l) (((list.length:Int)-0).toNat+1) 0).fin Lp.ret (fun k400=>.done k400)
def F82 (list:List LabLink) (l:LabLink):List LabLink :=
 (F82_j0 list l).fin (fun r=>r) (fun k=>bif (bif decide (k<(list.length:Int)) then ((((list.getD k.toNat default).A)==l.A)&&(((list.getD k.toNat default).B)==l.B)) else false) then list else (((([]:List LabLink)++(list.take k.toNat))++[l])++(list.drop k.toNat)))
def S82 (list:List LabLink) (l:LabLink):Spec:=⟨[.ow (.l 2 eLabLink list) none,.r (.g (eLabLink l))],.ow (.l 2 eLabLink (F82 list l)),list.length≤1000000000⟩
theorem ok82 (list:List LabLink) (l:LabLink):(S82 list l).ok Tryz.prog 82 :=
 fnG_ok mixed (fn:=Tryz.f82) (ct:=.seqk [(0,0)] (.no) (.seqk [(0,0)] (.no) (.cut (ι:=Int) (fun j=>(fun (k:Int)=>(⟨[(0,some (.h 0 0)),(3,some (.p 1 0)),(5,some (.v (vI k)))],[(0,some (.own 0 (.l 2 eLabLink list))),(1,some (.box 64 [.v (vI l.A),.v (vI l.B)]))],2⟩:St)) j) (fun j=>(fun (k:Int)=>((F82_j0 list l)=Lp.done j∧0≤k∧k≤(list.length:Int))) j) (.blk (.loop (ι:=Nat×Int) (fun i=>(fun (k400:Int)=>(⟨[(0,some (.h 0 0)),(3,some (.p 1 0)),(5,some (.v (vI k400)))],[(0,some (.own 0 (.l 2 eLabLink list))),(1,some (.box 64 [.v (vI l.A),.v (vI l.B)]))],2⟩:St)) i.2) (fun i=>runL (F82_s0 list l) i.1 i.2=(runL (F82_s0 list l) (((list.length:Int)-0).toNat+1) 0)∧(fun (k400:Int)=>(Int.toNat ((list.length:Int)-k400)<i.1∧k400≤(list.length:Int)∧(0:Int)≤k400)) i.2) (fun i=>i.1) ((((list.length:Int)-0).toNat+1),0) (fun i=>(fun (k400:Int)=>(.seq (.seq (.no) (.cond (.no) (.no))) (.blk (.reg [(1,.bnd)])))) i.2))) (fun j=>(fun (k:Int)=>(.seq (.seq (.reg [(10,.bin .eql 64 (.agg #[.int .i64 ((list.getD k.toNat default).A),.int .i64 ((list.getD k.toNat default).B)]) (.agg #[.int .i64 l.A,.int .i64 l.B]) (.bool ((((list.getD k.toNat default).A)==l.A)&&(((list.getD k.toNat default).B)==l.B))) rfl (eqlT64 ((list.getD k.toNat default).A) l.A ((list.getD k.toNat default).B) l.B))]) (.cond (.seq (.no) (.no)) (.no))) (.seq (.reg [(0,.dat (.l 2 eLabLink ([]:List LabLink))),(4,.dat (.l 2 eLabLink (([]:List LabLink)++(list.take k.toNat)))),(7,.dat (.l 2 eLabLink ((([]:List LabLink)++(list.take k.toNat))++[l]))),(11,.dat (.l 2 eLabLink (((([]:List LabLink)++(list.take k.toNat))++[l])++(list.drop k.toNat))))]) (.no)))) j)))) Tryz.func82 (fun (hpre0:list.length≤1000000000)=>fun (_:list.length≤9223372036854775807)=>fun (_:list.length≤9223372036854775807)=>ai (ai (ai (rfl) (ai (ir) (ai (rfl) (ai (rfl) ((ai (rfl:runL (F82_s0 list l) (((list.length:Int)-0).toNat+1) 0=(runL (F82_s0 list l) (((list.length:Int)-0).toNat+1) 0)) (ai ((Nat.lt_succ_self _:Int.toNat ((list.length:Int)-0)<(((list.length:Int)-0).toNat+1))) (ai ((by first | omega | (simp only [lens] at*<;> omega):0≤(list.length:Int))) ((by first | omega | (simp only [lens] at*<;> omega):(0:Int)≤0))))))))):((.int .i64 0:Value)=.int .i64 0)∧(Imp (.l 2 eLabLink list) (.l 2 eLabLink list))∧((.int .i64 l.A:Value)=.int .i64 l.A)∧((.int .i64 l.B:Value)=.int .i64 l.B)∧(runL (F82_s0 list l) (((list.length:Int)-0).toNat+1) 0=(runL (F82_s0 list l) (((list.length:Int)-0).toNat+1) 0)∧Int.toNat ((list.length:Int)-0)<(((list.length:Int)-0).toNat+1)∧0≤(list.length:Int)∧(0:Int)≤0)) (fun (i0:Nat×Int) (hi0:runL (F82_s0 list l) i0.1 i0.2=(runL (F82_s0 list l) (((list.length:Int)-0).toNat+1) 0)∧(fun (k400:Int)=>(Int.toNat ((list.length:Int)-k400)<i0.1∧k400≤(list.length:Int)∧(0:Int)≤k400)) i0.2)=>(fun (m0:Nat) (k400:Int) (hI0:runL (F82_s0 list l) (m0+1) k400=(runL (F82_s0 list l) (((list.length:Int)-0).toNat+1) 0)) (_:Int.toNat ((list.length:Int)-k400)<m0+1) (hl0:m0<i0.1) (_:k400≤(list.length:Int)) (_:(0:Int)≤k400)=>ai ((fun k2:(decide (k400<(list.length:Int)))=true=>(fun _:k400<(list.length:Int)=>(by first | omega | (simp only [lens] at*<;> omega):0≤k400∧k400<(list.length:Int))) (of_decide_eq_true k2))) (ai ((fun k4:(decide ((list.getD k400.toNat default).A<l.A))=false=>(fun _:¬ (list.getD k400.toNat default).A<l.A=>(fun k3:(decide (k400<(list.length:Int)))=true=>(fun _:k400<(list.length:Int)=>(by first | omega | (simp only [lens] at*<;> omega):0≤k400∧k400<(list.length:Int))) (of_decide_eq_true k3))) (of_decide_eq_false k4))) (ai ((fun k7:((list.getD k400.toNat default).A==l.A)=true=>(fun _:(list.getD k400.toNat default).A=l.A=>(fun k6:(decide ((list.getD k400.toNat default).A<l.A))=false=>(fun _:¬ (list.getD k400.toNat default).A<l.A=>(fun k5:(decide (k400<(list.length:Int)))=true=>(fun _:k400<(list.length:Int)=>(by first | omega | (simp only [lens] at*<;> omega):0≤k400∧k400<(list.length:Int))) (of_decide_eq_true k5))) (of_decide_eq_false k6))) (eq_of_beq k7))) (ai (fun h8:(bif decide (k400<(list.length:Int)) then (bif decide ((list.getD k400.toNat default).A<l.A) then true else (bif ((list.getD k400.toNat default).A==l.A) then decide ((list.getD k400.toNat default).B<l.B) else false)) else false)=true=>(fun _:k400<(list.length:Int)=>ai ((by unfold i64ok; first | omega | (simp only [lens] at*<;> omega):i64ok (k400+1))) (Exists.intro (p:=fun j:Nat×Int=>(fun (k400_:Int)=>(((.int .i64 (k400+1):Value)=.int .i64 k400_)∧(Imp (.l 2 eLabLink list) (.l 2 eLabLink list))∧((.int .i64 l.A:Value)=.int .i64 l.A)∧((.int .i64 l.B:Value)=.int .i64 l.B)∧((runL (F82_s0 list l) j.1 j.2=(runL (F82_s0 list l) (((list.length:Int)-0).toNat+1) 0)∧Int.toNat ((list.length:Int)-k400_)<j.1∧k400_≤(list.length:Int)∧(0:Int)≤k400_)∧j.1<i0.1))) j.2) (m0,(k400+1)) (ai (rfl) (ai (ir) (ai (rfl) (ai (rfl) (ai (ai (runL_next hI0 (condT h8 (rfl))) (ai ((by first | omega | (simp only [lens] at*<;> omega):Int.toNat ((list.length:Int)-(k400+1))<m0)) (ai ((by first | omega | (simp only [lens] at*<;> omega):(k400+1)≤(list.length:Int))) ((by first | omega | (simp only [lens] at*<;> omega):(0:Int)≤(k400+1)))))) hl0))))))) (of_decide_eq_true (andT1 h8))) (fun h8:(bif decide (k400<(list.length:Int)) then (bif decide ((list.getD k400.toNat default).A<l.A) then true else (bif ((list.getD k400.toNat default).A==l.A) then decide ((list.getD k400.toNat default).B<l.B) else false)) else false)=false=>(fun hD0_9:(runL (F82_s0 list l) (((list.length:Int)-0).toNat+1) 0)=Lp.done k400=>Exists.intro (p:=fun j:Int=>(fun (k_:Int)=>(((.int .i64 k400:Value)=.int .i64 k_)∧(Imp (.l 2 eLabLink list) (.l 2 eLabLink list))∧((.int .i64 l.A:Value)=.int .i64 l.A)∧((.int .i64 l.B:Value)=.int .i64 l.B)∧(F82_j0 list l)=Lp.done j∧0≤k_∧k_≤(list.length:Int))) j) (k400) (ai (rfl) (ai (ir) (ai (rfl) (ai (rfl) (ai (Eq.symm (finD hD0_9 (rfl))) (ai ((by first | omega | (simp only [lens] at*<;> omega):0≤k400)) ((by first | omega | (simp only [lens] at*<;> omega):k400≤(list.length:Int)))))))))) (runL_done hI0 (condF h8 (rfl)))))))) (i0.1-1) i0.2 (hd1 hi0.1 hi0.2.1) (hd2 hi0.2.1) (hd3 hi0.2.1) hi0.2.2.1 hi0.2.2.2)) (fun (j:Int) (hj:(fun (k:Int)=>((F82_j0 list l)=Lp.done j∧0≤k∧k≤(list.length:Int))) j)=>(fun (k:Int) (hJ0_10:(F82_j0 list l)=Lp.done k) (_:0≤k) (_:k≤(list.length:Int))=>ai ((fun k11:(decide (k<(list.length:Int)))=true=>(fun _:k<(list.length:Int)=>(by first | omega | (simp only [lens] at*<;> omega):0≤k∧k<(list.length:Int))) (of_decide_eq_true k11))) (ai ((fun k12:(decide (k<(list.length:Int)))=true=>(fun _:k<(list.length:Int)=>(Eq.refl (.agg #[.int .i64 ((list.getD k.toNat default).A),.int .i64 ((list.getD k.toNat default).B)]:Value))) (of_decide_eq_true k12))) (ai ((fun k13:(decide (k<(list.length:Int)))=true=>(fun _:k<(list.length:Int)=>(Eq.refl (.agg #[.int .i64 l.A,.int .i64 l.B]:Value))) (of_decide_eq_true k13))) (ai (fun h14:(bif decide (k<(list.length:Int)) then ((((list.getD k.toNat default).A)==l.A)&&(((list.getD k.toNat default).B)==l.B)) else false)=true=>(fun _:((((list.getD k.toNat default).A)==l.A)&&(((list.getD k.toNat default).B)==l.B))=true=>(fun _:k<(list.length:Int)=>(fun hF:(list:List LabLink)=(F82 list l)=>ai (Imp.of_eq (congrArg (fun r:List LabLink=>Dat.l 2 eLabLink r) hF)) (trivial)) (finD hJ0_10 (condT h14 (rfl)))) (of_decide_eq_true (andT1 h14))) ((andT2 h14))) (fun h14:(bif decide (k<(list.length:Int)) then ((((list.getD k.toNat default).A)==l.A)&&(((list.getD k.toNat default).B)==l.B)) else false)=false=>ai ((BuildOK.mk eLabLink ([]:List LabLink) rfl (by exact trivial) (fun _=>rfl):BuildOK 0 2 [] (.l 2 eLabLink ([]:List LabLink)))) (ai ((by first | omega | (simp only [lens] at*<;> omega):0≤(0:Int)∧(0:Int)≤k∧k≤(list.length:Int))) (ai ((AppL.mk eLabLink ([]:List LabLink) (list.take k.toNat) (Imp.refl (.l 2 eLabLink ([]:List LabLink))) ir (fun y=>⟨rfl,fun e he=>by simp only [eLabLink,List.mem_cons,List.not_mem_nil,or_false] at he; rcases he with rfl | rfl <;> exact ⟨_,rfl⟩⟩):AppL (.l 2 eLabLink ([]:List LabLink)) (.l 2 eLabLink (list.take k.toNat)) 2 (.l 2 eLabLink (([]:List LabLink)++(list.take k.toNat))))) (ai ((by (try simp only [lens]); omega:((([]:List LabLink)++(list.take k.toNat))).length*16≤140737488355328)) (ai ((AppA.mk eLabLink (([]:List LabLink)++(list.take k.toNat)) [l] (Imp.refl (.l 2 eLabLink (([]:List LabLink)++(list.take k.toNat)))) rfl (by exact ai ir (ai ir (trivial))) (fun _=>rfl):AppA (.l 2 eLabLink (([]:List LabLink)++(list.take k.toNat))) 1 2 [.v (vI l.A),.v (vI l.B)] (.l 2 eLabLink ((([]:List LabLink)++(list.take k.toNat))++[l])))) (ai ((by (try simp only [lens]); omega:(((([]:List LabLink)++(list.take k.toNat))++[l])).length*16≤140737488355328)) (ai ((by first | omega | (simp only [lens] at*<;> omega):0≤k∧k≤(list.length:Int)∧(list.length:Int)≤(list.length:Int))) (ai ((AppL.mk eLabLink ((([]:List LabLink)++(list.take k.toNat))++[l]) (list.drop k.toNat) (Imp.refl (.l 2 eLabLink ((([]:List LabLink)++(list.take k.toNat))++[l]))) ir (fun y=>⟨rfl,fun e he=>by simp only [eLabLink,List.mem_cons,List.not_mem_nil,or_false] at he; rcases he with rfl | rfl <;> exact ⟨_,rfl⟩⟩):AppL (.l 2 eLabLink ((([]:List LabLink)++(list.take k.toNat))++[l])) (.l 2 eLabLink (list.drop k.toNat)) 2 (.l 2 eLabLink (((([]:List LabLink)++(list.take k.toNat))++[l])++(list.drop k.toNat))))) (ai ((by (try simp only [lens]); omega:((((([]:List LabLink)++(list.take k.toNat))++[l])++(list.drop k.toNat))).length*16≤140737488355328)) ((fun hF:((((([]:List LabLink)++(list.take k.toNat))++[l])++(list.drop k.toNat)):List LabLink)=(F82 list l)=>ai (Imp.of_eq (congrArg (fun r:List LabLink=>Dat.l 2 eLabLink r) hF)) (trivial)) (finD hJ0_10 (condF h14 (rfl))))))))))))))))) j hj.1 hj.2.1 hj.2.2)) (by kernel_rfl)
theorem pick_x {b1 b2 k q:Int} (h1:0≤b1∧b1<256) (h2:0≤b2∧b2<256) (hk:0≤k∧k≤2000000000) (hq:0≤q∧q≤2000000000) :
  IntKind.i64.wrap (IntKind.i64.wrap (IntKind.i64.wrap (IntKind.i64.wrap (IntKind.i64.wrap b1*131)+IntKind.i64.wrap (IntKind.i64.wrap b2*1117))+IntKind.i64.wrap (k*29))+IntKind.i64.wrap (IntKind.i64.wrap q*53))=b1*131+b2*1117+k*29+q*53:=by
 rw [wrap_of (n:=b1) (by omega) (by omega),wrap_of (n:=b2) (by omega) (by omega),wrap_of (n:=q) (by omega) (by omega),wrap_of (n:=b1*131) (by omega) (by omega),wrap_of (n:=b2*1117) (by omega) (by omega),wrap_of (n:=k*29) (by omega) (by omega),wrap_of (n:=q*53) (by omega) (by omega),
  wrap_of (n:=b1*131+b2*1117) (by omega) (by omega),wrap_of (n:=b1*131+b2*1117+k*29) (by omega) (by omega),wrap_of (by omega) (by omega)]
theorem pick_y {a n:Int} (h0:0≤a) (h1:a<4611686018427387904):0≤(bitI .xor .i64 a (IntKind.i64.wrap (a.tdiv 64))).tmod n∧(1≤n→(bitI .xor .i64 a (IntKind.i64.wrap (a.tdiv 64))).tmod n<n):=by
 have e:a.tdiv 64=a / 64:=Int.tdiv_eq_ediv_of_nonneg h0
 rw [e,wrap_of (by omega) (by omega)]
 exact tmod_in (xor_in h0 h1 (by omega) (by omega))
theorem tdiv_in {k n:Int} (h0:0≤k) (h1:0≤n):0≤k.tdiv n∧k.tdiv n≤k:=by
 rw [Int.tdiv_eq_ediv_of_nonneg h0]
 exact ⟨Int.ediv_nonneg h0 h1,Int.ediv_le_self _ h0⟩
theorem cond_1 (c:Bool) (x:Int):x≤(bif c then x+1 else x)∧(bif c then x+1 else x)≤x+1:=by
 cases c
 ·exact ⟨Int.le_refl _,by simp only [cond_false]; omega⟩
 ·exact ⟨by simp only [cond_true]; omega,Int.le_refl _⟩
theorem pick_p (r1:l71Rd) (n:Int):(F26 r1 n).2=r1.p+1:=by
 unfold F26
 cases (bif decide (n<1) then true else ((r1.b.length:Int)==0))
 ·simp only [cond_false]
  cases decide (((r1.p+1)-1)<(r1.b.length:Int)) <;> rfl
 ·rfl
theorem pick_in (r1:l71Rd) (n:Int) (h0:0≤r1.p) (h1:r1.p≤1000000000):0≤(F26 r1 n).1∧(1≤n→(F26 r1 n).1<n)∧(F26 r1 n).2=r1.p+1:=by
 unfold F26
 cases h2:(bif decide (n<1) then true else ((r1.b.length:Int)==0)) with
 | true=>simp only [cond_true]; exact ⟨by omega,fun h=>by omega,trivial⟩
 | false =>
  simp only [cond_false]
  cases h3:decide (((r1.p+1)-1)<(r1.b.length:Int)) with
  | true =>
   simp only [cond_true]
   have h4:0≤IntKind.i64.wrap (r1.b.getD ((r1.p+1)-1).toNat default%256):=by rw [wrap_of (by omega) (by omega)]; omega
   have:=tmod_in (n:=n) h4
   exact ⟨this.1,this.2,trivial⟩
  | false =>
   simp only [cond_false]
   have hq:=tdiv_in (k:=(r1.p+1)-1) (n:=(r1.b.length:Int)) (by omega) (by omega)
   rw [pick_x (by omega) (by omega) (by omega) (by omega)]
   have:=pick_y (n:=n) (a:=r1.b.getD (((r1.p+1)-1).tmod (r1.b.length:Int)).toNat default%256*131+r1.b.getD ((IntKind.i64.wrap ((IntKind.i64.wrap (((r1.p+1)-1)*7))+3)).tmod (r1.b.length:Int)).toNat default%256*1117+(r1.p+1-1)*29+(r1.p+1-1).tdiv (r1.b.length:Int)*53) (by omega) (by omega)
   exact ⟨this.1,this.2,trivial⟩
theorem open_b (codeX:SV) (code:List Int):(F22 codeX code).1.b.length≤2000∧(F22 codeX code).1.p=0:=by
 unfold F22
 by_cases h:(code.length:Int)>2000
 ·rw [decide_eq_true h,cond_true]; exact ⟨by simp only [List.length_take]; omega,rfl⟩
 ·rw [decide_eq_false h,cond_false]; exact ⟨by simp only; omega,rfl⟩
theorem gd22 (codeX:SV) (code:List Int):GD (sv codeX) (.l 1 eByte code) (sv (F22 codeX code).2) (.l 1 eByte (F22 codeX code).1.b):=by
 unfold F22
 intro S w h
 by_cases hl:(code.length:Int)>2000
 ·rw [decide_eq_true hl,cond_true]
  obtain ⟨a,c,e1,e2,e3,e4⟩:=h
  simp only [sv,Value.slice.injEq] at e1
  obtain ⟨rfl,-,rfl⟩:=e1
  show RdV S w (.l 1 eByte (code.take 2000)) (.slice (if codeX.c=0 then codeX.a else codeX.a.map (·.add (0*1))) (code.take 2000).length (codeX.c-0))
  have hz:(if codeX.c=0 then codeX.a else codeX.a.map (·.add (0*1)))=codeX.a:=by
   by_cases hc:codeX.c=0
   ·rw [if_pos hc]
   ·rw [if_neg hc]
    cases ha:codeX.a with
    | none=>rfl
    | some a =>
     obtain ⟨x,hx⟩:∃ x,code[0]?=some x:=⟨_,List.getElem?_eq_getElem (by omega)⟩
     obtain ⟨f1,_⟩:=e4 0 x hx
     rw [ha] at f1
     rw [f1]
     simp [Addr.add_lit,ab,ao]
  rw [hz,Nat.sub_zero]
  refine ⟨_,_,rfl,by simp only [List.length_take]; omega,by simp only [List.length_take]; omega,fun i y hy=>?_⟩
  rw [List.getElem?_take] at hy
  split at hy
  ·exact e4 i y hy
  ·cases hy
 ·rw [decide_eq_false hl,cond_false]; exact h
theorem tbl7 {k:Int} (h0:0≤k) (h1:k<7):1≤([2,3,4,5,6,8,1]:List Int).getD k.toNat default∧([2,3,4,5,6,8,1]:List Int).getD k.toNat default≤8:=by
 have hd:∀ q,q<7→1≤([2,3,4,5,6,8,1]:List Int).getD q default∧([2,3,4,5,6,8,1]:List Int).getD q default≤8:=by decide
 exact hd _ (by omega)
def lessL (x y:LabLink):Bool:=bif decide (x.A<y.A) then true else (bif (x.A==y.A) then decide (x.B<y.B) else false)
def posL (t:List LabLink) (l:LabLink):Nat:=stopAt (fun k=>lessL (t.getD k default) l) t.length
theorem putLink_at (t:List LabLink) (l:LabLink):F82_j0 t l=.done ((posL t l:Nat):Int):=by
 unfold F82_j0
 have h:=whileL (ρ:=List LabLink) (fun k=>lessL (t.getD k default) l) t.length (F82_s0 t l) (fun k hk=>by
  simp only [F82_s0,nn,lessL]
  have:decide ((k:Int)<(t.length:Int))=decide (k<t.length):=by rw [decide_eq_decide]; omega
  rw [this]
  cases decide (k<t.length) <;> rfl)
 rw [n0]
 rw [h]; rfl
theorem posL_le (t:List LabLink) (l:LabLink):posL t l≤t.length:=stopAt_le _ _
theorem putLink_eq (t:List LabLink) (l:LabLink):F82 t l=bif (bif decide (posL t l<t.length) then decide (t.getD (posL t l) default=l) else false) then t else t.take (posL t l)++[l]++t.drop (posL t l):=by
 unfold F82
 rw [putLink_at]
 simp only [Lp.fin,nn,List.nil_append]
 have e1:decide (((posL t l:Nat):Int)<(t.length:Int))=decide (posL t l<t.length):=by rw [decide_eq_decide]; omega
 have e2:(((t.getD (posL t l) default).A==l.A)&&((t.getD (posL t l) default).B==l.B))=decide (t.getD (posL t l) default=l):=by
  rw [Bool.eq_iff_iff,decide_eq_true_eq]
  obtain ⟨a,b⟩:=l
  generalize t.getD _ default=x
  obtain ⟨c,d⟩:=x
  simp only [Bool.and_eq_true,beq_iff_eq,LabLink.mk.injEq]
 rw [e1,e2]
theorem putLink_len (t:List LabLink) (l:LabLink):(F82 t l).length≤t.length+1:=by
 have:=posL_le t l
 rw [putLink_eq]
 cases (bif decide (posL t l<t.length) then decide (t.getD (posL t l) default=l) else false)
 ·simp only [cond_false,List.length_append,List.length_take,List.length_drop,List.length_singleton]; omega
 ·simp only [cond_true]; omega
def F52_s0 (r1:l71Rd) (boxes:Int):(List LabLink×Int×Int)→Lp (List LabLink×Int×Int) (List LabLink×Int):=fun (out1,a,r3) =>
 bif (decide ((a+1)<boxes)) then (bif (decide ((F26 ⟨r1.b,r3⟩ 12).1>0)) then (.next ((F82 out1 ⟨a,(a+1)⟩),(a+1),(F26 ⟨r1.b,r3⟩ 12).2)) else (.next (out1,(a+1),(F26 ⟨r1.b,r3⟩ 12).2))) else (.done (out1,a,r3))
def F52_j0 (r1:l71Rd) (boxes:Int):Lp (List LabLink×Int) (List LabLink×Int) :=
 (runL (F52_s0 r1 boxes) ((boxes-(0+1)).toNat+1) (([]:List LabLink),0,r1.p)).fin Lp.ret (fun (out1,a,r3)=>.done (out1,r3))
def F52_j1 (r1:l71Rd) (boxes:Int) (out:List LabLink) (r2:Int):Lp (List LabLink) (List LabLink×Int) :=
 bif (bif decide (boxes>2) then decide ((F26 ⟨r1.b,r2⟩ 3).1>0) else false) then (.done (F82 out ⟨0,(boxes-1)⟩)) else (.done out)
def F52_s1 (r1:l71Rd) (boxes:Int) (out:List LabLink) (r2:Int) (out2:List LabLink):(List LabLink×Int×Int)→Lp (List LabLink×Int×Int) (List LabLink×Int):=fun (out3,n,r4) =>
 bif (bif decide (n>0) then decide (boxes>1) else false) then (bif (decide ((out3.length:Int)<14)) then (.next ((F82 out3 ⟨(F26 ⟨r1.b,r4⟩ (boxes-1)).1,((((F26 ⟨r1.b,r4⟩ (boxes-1)).1)+1)+((F26 ⟨r1.b,(F26 ⟨r1.b,r4⟩ (boxes-1)).2⟩ ((boxes-1)-((F26 ⟨r1.b,r4⟩ (boxes-1)).1))).1))⟩),(n-1),(F26 ⟨r1.b,(F26 ⟨r1.b,r4⟩ (boxes-1)).2⟩ ((boxes-1)-((F26 ⟨r1.b,r4⟩ (boxes-1)).1))).2)) else (.next (out3,(n-1),(F26 ⟨r1.b,(F26 ⟨r1.b,r4⟩ (boxes-1)).2⟩ ((boxes-1)-((F26 ⟨r1.b,r4⟩ (boxes-1)).1))).2))) else (.done (out3,n,r4))
def F52 (r1:l71Rd) (boxes:Int):List LabLink×Int :=
 (F52_j0 r1 boxes).fin (fun r=>r) (fun (out,r2)=>(F52_j1 r1 boxes out r2).fin (fun r=>r) (fun out2=>(runL (F52_s1 r1 boxes out r2 out2) (((F26 ⟨r1.b,(bif (decide (boxes>2)) then ((F26 ⟨r1.b,r2⟩ 3).2) else r2)⟩ 5).1).toNat+1) (out2,(F26 ⟨r1.b,(bif (decide (boxes>2)) then ((F26 ⟨r1.b,r2⟩ 3).2) else r2)⟩ 5).1,(F26 ⟨r1.b,(bif (decide (boxes>2)) then ((F26 ⟨r1.b,r2⟩ 3).2) else r2)⟩ 5).2)).fin (fun r=>r) (fun (out3,n,r4)=>(out3,r4))))
def S52 (r1X:SV) (gr1:Nat) (r1:l71Rd) (boxes:Int):Spec:=⟨[.ptg gr1 84 (sv r1X) (.l 1 eByte r1.b) [.v (vI r1.p)] [.v (vI ((F52 r1 boxes).2))],.r (.c (.v (vI boxes)))],.ow (.l 2 eLabLink ((F52 r1 boxes).1)),0≤r1.p∧r1.p≤900000000∧r1.b.length≤2000∧1≤boxes∧boxes≤8⟩
theorem ok52 (r1X:SV) (gr1:Nat) (r1:l71Rd) (boxes:Int):(S52 r1X gr1 r1 boxes).ok Tryz.prog 52 :=
 fnG_ok mixed (fn:=Tryz.f52) (ct:=.seqk [(0,0)] (.no) (.seq (.reg [(0,.dat (.l 2 eLabLink ([]:List LabLink)))]) (.cut (ι:=List LabLink×Int) (fun j=>(fun (out:List LabLink) (r2:Int)=>(⟨[(0,some (.p 0 0)),(1,some (.v (vI boxes))),(5,some (.h 2 0))],[(0,some (.box 84 [.h 1 0,.v (vI r2)])),(1,some (.vl (sv r1X) (.l 1 eByte r1.b))),(2,some (.own 2 (.l 2 eLabLink out)))],3⟩:St)) j.1 j.2) (fun j=>(fun (out:List LabLink) (r2:Int)=>((F52_j0 r1 boxes)=Lp.done j∧0≤r2∧r2≤r1.p+8∧out.length≤8)) j.1 j.2) (.seqk [(0,0),(5,0)] (.no) (.blk (.loop (ι:=Nat×(List LabLink×Int×Int)) (fun i=>(fun (out1:List LabLink) (a:Int) (r3:Int)=>(⟨[(0,some (.p 0 0)),(1,some (.v (vI boxes))),(5,some (.h 2 0)),(6,some (.v (vI a)))],[(0,some (.box 84 [.h 1 0,.v (vI r3)])),(1,some (.vl (sv r1X) (.l 1 eByte r1.b))),(2,some (.own 2 (.l 2 eLabLink out1)))],3⟩:St)) i.2.1 i.2.2.1 i.2.2.2) (fun i=>runL (F52_s0 r1 boxes) i.1 i.2=(runL (F52_s0 r1 boxes) ((boxes-(0+1)).toNat+1) (([]:List LabLink),0,r1.p))∧(fun (out1:List LabLink) (a:Int) (r3:Int)=>(Int.toNat (boxes-(a+1))<i.1∧(0:Int)≤a∧a≤(8:Int)∧0≤r3∧r3≤r1.p+a∧(out1.length:Int)≤a∧(0:Int)≤a)) i.2.1 i.2.2.1 i.2.2.2) (fun i=>i.1) (((boxes-(0+1)).toNat+1),(([]:List LabLink),0,r1.p)) (fun i=>(fun (out1:List LabLink) (a:Int) (r3:Int)=>(.seq (.seq (.reg [(1,.bnd)]) (.cond (.no) (.no))) (.seq (.blk (.seq (.reg [(1,.call 26 (S26 r1X 1 (⟨r1.b,r3⟩:l71Rd) 12) (ok26 r1X 1 (⟨r1.b,r3⟩:l71Rd) 12) none)]) (.cond (.reg [(3,.bnd),(5,.call 82 (S82 out1 (⟨a,(a+1)⟩:LabLink)) (ok82 out1 (⟨a,(a+1)⟩:LabLink)) none)]) (.no)))) (.reg [(1,.bnd)])))) i.2.1 i.2.2.1 i.2.2.2)))) (fun j=>(fun (out:List LabLink) (r2:Int)=>(.cut (ι:=List LabLink) (fun j=>(fun (out2:List LabLink)=>(⟨[(0,some (.p 0 0)),(1,some (.v (vI boxes))),(5,some (.h 2 0))],[(0,some (.box 84 [.h 1 0,.v (vI (bif (decide (boxes>2)) then ((F26 ⟨r1.b,r2⟩ 3).2) else r2))])),(1,some (.vl (sv r1X) (.l 1 eByte r1.b))),(2,some (.own 2 (.l 2 eLabLink out2)))],3⟩:St)) j) (fun j=>(fun (out2:List LabLink)=>((F52_j1 r1 boxes out r2)=Lp.done j∧out2.length≤9)) j) (.seq (.reg [(4,.call 26 (S26 r1X 1 (⟨r1.b,r2⟩:l71Rd) 3) (ok26 r1X 1 (⟨r1.b,r2⟩:l71Rd) 3) none)]) (.cond (.reg [(2,.bnd),(4,.call 82 (S82 out (⟨0,(boxes-1)⟩:LabLink)) (ok82 out (⟨0,(boxes-1)⟩:LabLink)) none)]) (.no))) (fun j=>(fun (out2:List LabLink)=>(.seq (.seqk [(0,0),(5,0)] (.reg [(1,.call 26 (S26 r1X 1 (⟨r1.b,(bif (decide (boxes>2)) then ((F26 ⟨r1.b,r2⟩ 3).2) else r2)⟩:l71Rd) 5) (ok26 r1X 1 (⟨r1.b,(bif (decide (boxes>2)) then ((F26 ⟨r1.b,r2⟩ 3).2) else r2)⟩:l71Rd) 5) none)]) (.blk (.loop (ι:=Nat×(List LabLink×Int×Int)) (fun i=>(fun (out3:List LabLink) (n:Int) (r4:Int)=>(⟨[(0,some (.p 0 0)),(1,some (.v (vI boxes))),(5,some (.h 2 0)),(7,some (.v (vI n)))],[(0,some (.box 84 [.h 1 0,.v (vI r4)])),(1,some (.vl (sv r1X) (.l 1 eByte r1.b))),(2,some (.own 2 (.l 2 eLabLink out3)))],3⟩:St)) i.2.1 i.2.2.1 i.2.2.2) (fun i=>runL (F52_s1 r1 boxes out r2 out2) i.1 i.2=(runL (F52_s1 r1 boxes out r2 out2) (((F26 ⟨r1.b,(bif (decide (boxes>2)) then ((F26 ⟨r1.b,r2⟩ 3).2) else r2)⟩ 5).1).toNat+1) (out2,(F26 ⟨r1.b,(bif (decide (boxes>2)) then ((F26 ⟨r1.b,r2⟩ 3).2) else r2)⟩ 5).1,(F26 ⟨r1.b,(bif (decide (boxes>2)) then ((F26 ⟨r1.b,r2⟩ 3).2) else r2)⟩ 5).2))∧(fun (out3:List LabLink) (n:Int) (r4:Int)=>(Int.toNat n<i.1∧0≤n∧0≤r4∧r4+2*n≤r1.p+30∧out3.length≤14)) i.2.1 i.2.2.1 i.2.2.2) (fun i=>i.1) ((((F26 ⟨r1.b,(bif (decide (boxes>2)) then ((F26 ⟨r1.b,r2⟩ 3).2) else r2)⟩ 5).1).toNat+1),(out2,(F26 ⟨r1.b,(bif (decide (boxes>2)) then ((F26 ⟨r1.b,r2⟩ 3).2) else r2)⟩ 5).1,(F26 ⟨r1.b,(bif (decide (boxes>2)) then ((F26 ⟨r1.b,r2⟩ 3).2) else r2)⟩ 5).2)) (fun i=>(fun (out3:List LabLink) (n:Int) (r4:Int)=>(.seq (.seq (.no) (.cond (.no) (.no))) (.seq (.blk (.seq (.reg [(2,.bnd),(3,.call 26 (S26 r1X 1 (⟨r1.b,r4⟩:l71Rd) (boxes-1)) (ok26 r1X 1 (⟨r1.b,r4⟩:l71Rd) (boxes-1)) none)]) (.seq (.reg [(1,.bnd),(4,.bnd),(6,.bnd),(7,.call 26 (S26 r1X 1 (⟨r1.b,(F26 ⟨r1.b,r4⟩ (boxes-1)).2⟩:l71Rd) ((boxes-1)-((F26 ⟨r1.b,r4⟩ (boxes-1)).1))) (ok26 r1X 1 (⟨r1.b,(F26 ⟨r1.b,r4⟩ (boxes-1)).2⟩:l71Rd) ((boxes-1)-((F26 ⟨r1.b,r4⟩ (boxes-1)).1))) none),(8,.bnd)]) (.seq (.no) (.cond (.reg [(4,.call 82 (S82 out3 (⟨(F26 ⟨r1.b,r4⟩ (boxes-1)).1,((((F26 ⟨r1.b,r4⟩ (boxes-1)).1)+1)+((F26 ⟨r1.b,(F26 ⟨r1.b,r4⟩ (boxes-1)).2⟩ ((boxes-1)-((F26 ⟨r1.b,r4⟩ (boxes-1)).1))).1))⟩:LabLink)) (ok82 out3 (⟨(F26 ⟨r1.b,r4⟩ (boxes-1)).1,((((F26 ⟨r1.b,r4⟩ (boxes-1)).1)+1)+((F26 ⟨r1.b,(F26 ⟨r1.b,r4⟩ (boxes-1)).2⟩ ((boxes-1)-((F26 ⟨r1.b,r4⟩ (boxes-1)).1))).1))⟩:LabLink)) none)]) (.no)))))) (.reg [(1,.bnd)])))) i.2.1 i.2.2.1 i.2.2.2)))) (.seq (.no) (.no)))) j))) j.1 j.2)))) Tryz.func52 (fun (hp:0≤r1.p∧r1.p≤900000000∧r1.b.length≤2000∧1≤boxes∧boxes≤8)=>(fun (hpre0:0≤r1.p) (hpre1:r1.p≤900000000) (hpre2:r1.b.length≤2000) (hpre3:1≤boxes) (hpre4:boxes≤8)=>fun (_:r1.b.length≤9223372036854775807)=>ai ((BuildOK.mk eLabLink ([]:List LabLink) rfl (by exact trivial) (fun _=>rfl):BuildOK 0 2 [] (.l 2 eLabLink ([]:List LabLink)))) (ai (fun (_:r1.b.length≤9223372036854775807)=>fun (_:([]:List LabLink).length≤9223372036854775807)=>ai (ai (rfl) (ai (rfl) (ai (rfl) (ai (rfl) (ai (ir) (ai (ir) ((ai (rfl:runL (F52_s0 r1 boxes) ((boxes-(0+1)).toNat+1) (([]:List LabLink),0,r1.p)=(runL (F52_s0 r1 boxes) ((boxes-(0+1)).toNat+1) (([]:List LabLink),0,r1.p))) (ai ((Nat.lt_succ_self _:Int.toNat (boxes-(0+1))<((boxes-(0+1)).toNat+1))) (ai ((by first | omega | (simp only [lens] at*<;> omega) | (simp only [List.length_nil]; omega):(0:Int)≤0)) (ai ((by first | omega | (simp only [lens] at*<;> omega) | (simp only [List.length_nil]; omega):0≤(8:Int))) (ai ((by first | omega | (simp only [lens] at*<;> omega) | (simp only [List.length_nil]; omega):0≤r1.p)) (ai ((by first | omega | (simp only [lens] at*<;> omega) | (simp only [List.length_nil]; omega):r1.p≤r1.p+0)) (ai ((by first | omega | (simp only [lens] at*<;> omega) | (simp only [List.length_nil]; omega):(([]:List LabLink).length:Int)≤0)) ((by first | omega | (simp only [lens] at*<;> omega) | (simp only [List.length_nil]; omega):(0:Int)≤0))))))))))))))):((.int .i64 boxes:Value)=.int .i64 boxes)∧((.int .i64 0:Value)=.int .i64 0)∧((.int .i64 r1.p:Value)=.int .i64 r1.p)∧((sv r1X:Value)=sv r1X)∧(Imp (.l 1 eByte r1.b) (.l 1 eByte r1.b))∧(Imp (.l 2 eLabLink ([]:List LabLink)) (.l 2 eLabLink ([]:List LabLink)))∧(runL (F52_s0 r1 boxes) ((boxes-(0+1)).toNat+1) (([]:List LabLink),0,r1.p)=(runL (F52_s0 r1 boxes) ((boxes-(0+1)).toNat+1) (([]:List LabLink),0,r1.p))∧Int.toNat (boxes-(0+1))<((boxes-(0+1)).toNat+1)∧(0:Int)≤0∧0≤(8:Int)∧0≤r1.p∧r1.p≤r1.p+0∧(([]:List LabLink).length:Int)≤0∧(0:Int)≤0)) (fun (i0:Nat×(List LabLink×Int×Int)) (hi0:runL (F52_s0 r1 boxes) i0.1 i0.2=(runL (F52_s0 r1 boxes) ((boxes-(0+1)).toNat+1) (([]:List LabLink),0,r1.p))∧(fun (out1:List LabLink) (a:Int) (r3:Int)=>(Int.toNat (boxes-(a+1))<i0.1∧(0:Int)≤a∧a≤(8:Int)∧0≤r3∧r3≤r1.p+a∧(out1.length:Int)≤a∧(0:Int)≤a)) i0.2.1 i0.2.2.1 i0.2.2.2)=>(fun (m0:Nat) (out1:List LabLink) (a:Int) (r3:Int) (hI0:runL (F52_s0 r1 boxes) (m0+1) (out1,a,r3)=(runL (F52_s0 r1 boxes) ((boxes-(0+1)).toNat+1) (([]:List LabLink),0,r1.p))) (_:Int.toNat (boxes-(a+1))<m0+1) (hl0:m0<i0.1) (_:(0:Int)≤a) (_:a≤(8:Int)) (_:0≤r3) (_:r3≤r1.p+a) (_:(out1.length:Int)≤a) (_:(0:Int)≤a)=>ai ((by unfold i64ok; omega:i64ok (a+1))) (ai (fun h2:(decide ((a+1)<boxes))=true=>(fun _:(a+1)<boxes=>ai ((ai ((by omega:0≤r3)) (ai ((by omega:r3≤1000000000)) ((by omega:r1.b.length≤2000))))) (ai ((Eq.refl (sv r1X))) (ai ((Imp.refl (.l 1 eByte r1.b))) (ai ((Imps.refl [.v (vI r3)])) (ai ((Imp.refl (.v (vI 12)))) ((fun gv3:0≤((F26 ⟨r1.b,r3⟩ 12)).1∧(1≤(12:Int)→((F26 ⟨r1.b,r3⟩ 12)).1<(12:Int))∧((F26 ⟨r1.b,r3⟩ 12)).2=r3+1=>ai (fun h4:(decide ((F26 ⟨r1.b,r3⟩ 12).1>0))=true=>(fun _:(F26 ⟨r1.b,r3⟩ 12).1>0=>ai ((by unfold i64ok; omega:i64ok (a+1))) (ai (((by omega:out1.length≤1000000000))) (ai ((Imp.refl (.l 2 eLabLink out1))) (ai ((Imps.refl (eLabLink (⟨a,(a+1)⟩:LabLink)))) ((fun gv5:((F82 out1 ⟨a,(a+1)⟩)).length≤out1.length+1=>ai ((by unfold i64ok; omega:i64ok (a+1))) (Exists.intro (p:=fun j:Nat×(List LabLink×Int×Int)=>(fun (out1_:List LabLink) (a_:Int) (r3_:Int)=>(((.int .i64 boxes:Value)=.int .i64 boxes)∧((.int .i64 (a+1):Value)=.int .i64 a_)∧((.int .i64 ((F26 ⟨r1.b,r3⟩ 12).2):Value)=.int .i64 r3_)∧((sv r1X:Value)=sv r1X)∧(Imp (.l 1 eByte r1.b) (.l 1 eByte r1.b))∧(Imp (.l 2 eLabLink (F82 out1 ⟨a,(a+1)⟩)) (.l 2 eLabLink out1_))∧((runL (F52_s0 r1 boxes) j.1 j.2=(runL (F52_s0 r1 boxes) ((boxes-(0+1)).toNat+1) (([]:List LabLink),0,r1.p))∧Int.toNat (boxes-(a_+1))<j.1∧(0:Int)≤a_∧a_≤(8:Int)∧0≤r3_∧r3_≤r1.p+a_∧(out1_.length:Int)≤a_∧(0:Int)≤a_)∧j.1<i0.1))) j.2.1 j.2.2.1 j.2.2.2) (m0,((F82 out1 ⟨a,(a+1)⟩),(a+1),(F26 ⟨r1.b,r3⟩ 12).2)) (ai (rfl) (ai (rfl) (ai (rfl) (ai (rfl) (ai (ir) (ai (ir) (ai (ai (runL_next hI0 (condT h2 (condT h4 (rfl)))) (ai ((by first | omega | (simp only [lens] at*<;> omega) | (simp only [List.length_nil]; omega):Int.toNat (boxes-((a+1)+1))<m0)) (ai ((by first | omega | (simp only [lens] at*<;> omega) | (simp only [List.length_nil]; omega):(0:Int)≤(a+1))) (ai ((by first | omega | (simp only [lens] at*<;> omega) | (simp only [List.length_nil]; omega):(a+1)≤(8:Int))) (ai ((by first | omega | (simp only [lens] at*<;> omega) | (simp only [List.length_nil]; omega):0≤((F26 ⟨r1.b,r3⟩ 12).2))) (ai ((by first | omega | (simp only [lens] at*<;> omega) | (simp only [List.length_nil]; omega):((F26 ⟨r1.b,r3⟩ 12).2)≤r1.p+(a+1))) (ai ((by first | omega | (simp only [lens] at*<;> omega) | (simp only [List.length_nil]; omega):((F82 out1 ⟨a,(a+1)⟩).length:Int)≤(a+1))) ((by first | omega | (simp only [lens] at*<;> omega) | (simp only [List.length_nil]; omega):(0:Int)≤(a+1)))))))))) hl0))))))))) (putLink_len out1 (⟨a,(a+1)⟩:LabLink))))))) (of_decide_eq_true h4)) (fun h4:(decide ((F26 ⟨r1.b,r3⟩ 12).1>0))=false=>(fun _:¬ (F26 ⟨r1.b,r3⟩ 12).1>0=>ai ((by unfold i64ok; omega:i64ok (a+1))) (Exists.intro (p:=fun j:Nat×(List LabLink×Int×Int)=>(fun (out1_:List LabLink) (a_:Int) (r3_:Int)=>(((.int .i64 boxes:Value)=.int .i64 boxes)∧((.int .i64 (a+1):Value)=.int .i64 a_)∧((.int .i64 ((F26 ⟨r1.b,r3⟩ 12).2):Value)=.int .i64 r3_)∧((sv r1X:Value)=sv r1X)∧(Imp (.l 1 eByte r1.b) (.l 1 eByte r1.b))∧(Imp (.l 2 eLabLink out1) (.l 2 eLabLink out1_))∧((runL (F52_s0 r1 boxes) j.1 j.2=(runL (F52_s0 r1 boxes) ((boxes-(0+1)).toNat+1) (([]:List LabLink),0,r1.p))∧Int.toNat (boxes-(a_+1))<j.1∧(0:Int)≤a_∧a_≤(8:Int)∧0≤r3_∧r3_≤r1.p+a_∧(out1_.length:Int)≤a_∧(0:Int)≤a_)∧j.1<i0.1))) j.2.1 j.2.2.1 j.2.2.2) (m0,(out1,(a+1),(F26 ⟨r1.b,r3⟩ 12).2)) (ai (rfl) (ai (rfl) (ai (rfl) (ai (rfl) (ai (ir) (ai (ir) (ai (ai (runL_next hI0 (condT h2 (condF h4 (rfl)))) (ai ((by first | omega | (simp only [lens] at*<;> omega) | (simp only [List.length_nil]; omega):Int.toNat (boxes-((a+1)+1))<m0)) (ai ((by first | omega | (simp only [lens] at*<;> omega) | (simp only [List.length_nil]; omega):(0:Int)≤(a+1))) (ai ((by first | omega | (simp only [lens] at*<;> omega) | (simp only [List.length_nil]; omega):(a+1)≤(8:Int))) (ai ((by first | omega | (simp only [lens] at*<;> omega) | (simp only [List.length_nil]; omega):0≤((F26 ⟨r1.b,r3⟩ 12).2))) (ai ((by first | omega | (simp only [lens] at*<;> omega) | (simp only [List.length_nil]; omega):((F26 ⟨r1.b,r3⟩ 12).2)≤r1.p+(a+1))) (ai ((by first | omega | (simp only [lens] at*<;> omega) | (simp only [List.length_nil]; omega):(out1.length:Int)≤(a+1))) ((by first | omega | (simp only [lens] at*<;> omega) | (simp only [List.length_nil]; omega):(0:Int)≤(a+1)))))))))) hl0))))))))) (of_decide_eq_false h4))) (pick_in ⟨r1.b,r3⟩ 12 (by omega:0≤r3) (by omega:r3≤1000000000)))))))) (of_decide_eq_true h2)) (fun h2:(decide ((a+1)<boxes))=false=>(fun _:¬ (a+1)<boxes=>(fun hD0_6:(runL (F52_s0 r1 boxes) ((boxes-(0+1)).toNat+1) (([]:List LabLink),0,r1.p))=Lp.done (out1,a,r3)=>Exists.intro (p:=fun j:List LabLink×Int=>(fun (out_:List LabLink) (r2_:Int)=>(((.int .i64 boxes:Value)=.int .i64 boxes)∧((.int .i64 r3:Value)=.int .i64 r2_)∧((sv r1X:Value)=sv r1X)∧(Imp (.l 1 eByte r1.b) (.l 1 eByte r1.b))∧(Imp (.l 2 eLabLink out1) (.l 2 eLabLink out_))∧(F52_j0 r1 boxes)=Lp.done j∧0≤r2_∧r2_≤r1.p+8∧out_.length≤8)) j.1 j.2) ((out1,r3)) (ai (rfl) (ai (rfl) (ai (rfl) (ai (ir) (ai (ir) (ai (Eq.symm (finD hD0_6 (rfl))) (ai ((by first | omega | (simp only [lens] at*<;> omega):0≤r3)) (ai ((by first | omega | (simp only [lens] at*<;> omega):r3≤r1.p+8)) ((by first | omega | (simp only [lens] at*<;> omega):out1.length≤8))))))))))) (runL_done hI0 (condF h2 (rfl)))) (of_decide_eq_false h2)))) (i0.1-1) i0.2.1 i0.2.2.1 i0.2.2.2 (hd1 hi0.1 hi0.2.1) (hd2 hi0.2.1) (hd3 hi0.2.1) hi0.2.2.1 hi0.2.2.2.1 hi0.2.2.2.2.1 hi0.2.2.2.2.2.1 hi0.2.2.2.2.2.2.1 hi0.2.2.2.2.2.2.2)) (fun (j:List LabLink×Int) (hj:(fun (out:List LabLink) (r2:Int)=>((F52_j0 r1 boxes)=Lp.done j∧0≤r2∧r2≤r1.p+8∧out.length≤8)) j.1 j.2)=>(fun (out:List LabLink) (r2:Int) (hJ0_7:(F52_j0 r1 boxes)=Lp.done (out,r2)) (_:0≤r2) (_:r2≤r1.p+8) (_:out.length≤8)=>ai (ai ((fun k9:(decide (boxes>2))=true=>(fun _:boxes>2=>(ai ((by omega:0≤r2)) (ai ((by omega:r2≤1000000000)) ((by omega:r1.b.length≤2000))))) (of_decide_eq_true k9))) (ai ((fun k10:(decide (boxes>2))=true=>(fun _:boxes>2=>(Eq.refl (sv r1X))) (of_decide_eq_true k10))) (ai ((fun k11:(decide (boxes>2))=true=>(fun _:boxes>2=>(Imp.refl (.l 1 eByte r1.b))) (of_decide_eq_true k11))) (ai ((fun k12:(decide (boxes>2))=true=>(fun _:boxes>2=>(Imps.refl [.v (vI r2)])) (of_decide_eq_true k12))) (ai ((fun k13:(decide (boxes>2))=true=>(fun _:boxes>2=>(Imp.refl (.v (vI 3)))) (of_decide_eq_true k13))) ((fun gv8:0≤((F26 ⟨r1.b,r2⟩ 3)).1∧(1≤(3:Int)→((F26 ⟨r1.b,r2⟩ 3)).1<(3:Int))∧((F26 ⟨r1.b,r2⟩ 3)).2=r2+1=>ai (fun h14:(bif decide (boxes>2) then decide ((F26 ⟨r1.b,r2⟩ 3).1>0) else false)=true=>(fun _:(F26 ⟨r1.b,r2⟩ 3).1>0=>(fun _:boxes>2=>ai ((by unfold i64ok; omega:i64ok (boxes-1))) (ai (((by omega:out.length≤1000000000))) (ai ((Imp.refl (.l 2 eLabLink out))) (ai ((Imps.refl (eLabLink (⟨0,(boxes-1)⟩:LabLink)))) ((fun gv15:((F82 out ⟨0,(boxes-1)⟩)).length≤out.length+1=>Exists.intro (p:=fun j:List LabLink=>(fun (out2_:List LabLink)=>(((.int .i64 boxes:Value)=.int .i64 boxes)∧((.int .i64 (bif (decide (boxes>2)) then ((F26 ⟨r1.b,r2⟩ 3).2) else r2):Value)=.int .i64 (bif (decide (boxes>2)) then ((F26 ⟨r1.b,r2⟩ 3).2) else r2))∧((sv r1X:Value)=sv r1X)∧(Imp (.l 1 eByte r1.b) (.l 1 eByte r1.b))∧(Imp (.l 2 eLabLink (F82 out ⟨0,(boxes-1)⟩)) (.l 2 eLabLink out2_))∧(F52_j1 r1 boxes out r2)=Lp.done j∧out2_.length≤9)) j) ((F82 out ⟨0,(boxes-1)⟩)) (ai (rfl) (ai (rfl) (ai (rfl) (ai (ir) (ai (ir) (ai (Eq.symm (condT h14 (rfl))) ((by first | omega | (simp only [lens] at*<;> omega):(F82 out ⟨0,(boxes-1)⟩).length≤9))))))))) (putLink_len out (⟨0,(boxes-1)⟩:LabLink))))))) (of_decide_eq_true (andT1 h14))) (of_decide_eq_true (andT2 h14))) (fun h14:(bif decide (boxes>2) then decide ((F26 ⟨r1.b,r2⟩ 3).1>0) else false)=false=>Exists.intro (p:=fun j:List LabLink=>(fun (out2_:List LabLink)=>(((.int .i64 boxes:Value)=.int .i64 boxes)∧((.int .i64 (bif (decide (boxes>2)) then ((F26 ⟨r1.b,r2⟩ 3).2) else r2):Value)=.int .i64 (bif (decide (boxes>2)) then ((F26 ⟨r1.b,r2⟩ 3).2) else r2))∧((sv r1X:Value)=sv r1X)∧(Imp (.l 1 eByte r1.b) (.l 1 eByte r1.b))∧(Imp (.l 2 eLabLink out) (.l 2 eLabLink out2_))∧(F52_j1 r1 boxes out r2)=Lp.done j∧out2_.length≤9)) j) (out) (ai (rfl) (ai (rfl) (ai (rfl) (ai (ir) (ai (ir) (ai (Eq.symm (condF h14 (rfl))) ((by first | omega | (simp only [lens] at*<;> omega):out.length≤9)))))))))) (pick_in ⟨r1.b,r2⟩ 3 (by omega:0≤r2) (by omega:r2≤1000000000)))))))) (fun (j:List LabLink) (hj:(fun (out2:List LabLink)=>((F52_j1 r1 boxes out r2)=Lp.done j∧out2.length≤9)) j)=>(fun (out2:List LabLink) (hJ1_16:(F52_j1 r1 boxes out r2)=Lp.done out2) (_:out2.length≤9)=>ai ((ai ((by first | omega | (simp only [Bool.cond_eq_ite,pick_p]; split <;> omega):0≤(bif (decide (boxes>2)) then ((F26 ⟨r1.b,r2⟩ 3).2) else r2))) (ai ((by first | omega | (simp only [Bool.cond_eq_ite,pick_p]; split <;> omega):(bif (decide (boxes>2)) then ((F26 ⟨r1.b,r2⟩ 3).2) else r2)≤1000000000)) ((by omega:r1.b.length≤2000))))) (ai ((Eq.refl (sv r1X))) (ai ((Imp.refl (.l 1 eByte r1.b))) (ai ((Imps.refl [.v (vI (bif (decide (boxes>2)) then ((F26 ⟨r1.b,r2⟩ 3).2) else r2))])) (ai ((Imp.refl (.v (vI 5)))) ((fun gv17:0≤((F26 ⟨r1.b,(bif (decide (boxes>2)) then ((F26 ⟨r1.b,r2⟩ 3).2) else r2)⟩ 5)).1∧(1≤(5:Int)→((F26 ⟨r1.b,(bif (decide (boxes>2)) then ((F26 ⟨r1.b,r2⟩ 3).2) else r2)⟩ 5)).1<(5:Int))∧((F26 ⟨r1.b,(bif (decide (boxes>2)) then ((F26 ⟨r1.b,r2⟩ 3).2) else r2)⟩ 5)).2=(bif (decide (boxes>2)) then ((F26 ⟨r1.b,r2⟩ 3).2) else r2)+1=>fun (_:r1.b.length≤9223372036854775807)=>fun (_:out2.length≤9223372036854775807)=>ai (ai (rfl) (ai (rfl) (ai (rfl) (ai (rfl) (ai (ir) (ai (ir) ((ai (rfl:runL (F52_s1 r1 boxes out r2 out2) (((F26 ⟨r1.b,(bif (decide (boxes>2)) then ((F26 ⟨r1.b,r2⟩ 3).2) else r2)⟩ 5).1).toNat+1) (out2,(F26 ⟨r1.b,(bif (decide (boxes>2)) then ((F26 ⟨r1.b,r2⟩ 3).2) else r2)⟩ 5).1,(F26 ⟨r1.b,(bif (decide (boxes>2)) then ((F26 ⟨r1.b,r2⟩ 3).2) else r2)⟩ 5).2)=(runL (F52_s1 r1 boxes out r2 out2) (((F26 ⟨r1.b,(bif (decide (boxes>2)) then ((F26 ⟨r1.b,r2⟩ 3).2) else r2)⟩ 5).1).toNat+1) (out2,(F26 ⟨r1.b,(bif (decide (boxes>2)) then ((F26 ⟨r1.b,r2⟩ 3).2) else r2)⟩ 5).1,(F26 ⟨r1.b,(bif (decide (boxes>2)) then ((F26 ⟨r1.b,r2⟩ 3).2) else r2)⟩ 5).2))) (ai ((Nat.lt_succ_self _:Int.toNat ((F26 ⟨r1.b,(bif (decide (boxes>2)) then ((F26 ⟨r1.b,r2⟩ 3).2) else r2)⟩ 5).1)<(((F26 ⟨r1.b,(bif (decide (boxes>2)) then ((F26 ⟨r1.b,r2⟩ 3).2) else r2)⟩ 5).1).toNat+1))) (ai ((by first | omega | (simp only [lens] at*<;> omega) | (simp only [pick_p] at *; have hq:=cond_1 (decide (boxes>2)) r2; omega):0≤((F26 ⟨r1.b,(bif (decide (boxes>2)) then ((F26 ⟨r1.b,r2⟩ 3).2) else r2)⟩ 5).1))) (ai ((by first | omega | (simp only [lens] at*<;> omega) | (simp only [pick_p] at *; have hq:=cond_1 (decide (boxes>2)) r2; omega):0≤((F26 ⟨r1.b,(bif (decide (boxes>2)) then ((F26 ⟨r1.b,r2⟩ 3).2) else r2)⟩ 5).2))) (ai ((by first | omega | (simp only [lens] at*<;> omega) | (simp only [pick_p] at *; have hq:=cond_1 (decide (boxes>2)) r2; omega):((F26 ⟨r1.b,(bif (decide (boxes>2)) then ((F26 ⟨r1.b,r2⟩ 3).2) else r2)⟩ 5).2)+2*((F26 ⟨r1.b,(bif (decide (boxes>2)) then ((F26 ⟨r1.b,r2⟩ 3).2) else r2)⟩ 5).1)≤r1.p+30)) ((by first | omega | (simp only [lens] at*<;> omega) | (simp only [pick_p] at *; have hq:=cond_1 (decide (boxes>2)) r2; omega):out2.length≤14))))))))))))):((.int .i64 boxes:Value)=.int .i64 boxes)∧((.int .i64 ((F26 ⟨r1.b,(bif (decide (boxes>2)) then ((F26 ⟨r1.b,r2⟩ 3).2) else r2)⟩ 5).1):Value)=.int .i64 ((F26 ⟨r1.b,(bif (decide (boxes>2)) then ((F26 ⟨r1.b,r2⟩ 3).2) else r2)⟩ 5).1))∧((.int .i64 ((F26 ⟨r1.b,(bif (decide (boxes>2)) then ((F26 ⟨r1.b,r2⟩ 3).2) else r2)⟩ 5).2):Value)=.int .i64 ((F26 ⟨r1.b,(bif (decide (boxes>2)) then ((F26 ⟨r1.b,r2⟩ 3).2) else r2)⟩ 5).2))∧((sv r1X:Value)=sv r1X)∧(Imp (.l 1 eByte r1.b) (.l 1 eByte r1.b))∧(Imp (.l 2 eLabLink out2) (.l 2 eLabLink out2))∧(runL (F52_s1 r1 boxes out r2 out2) (((F26 ⟨r1.b,(bif (decide (boxes>2)) then ((F26 ⟨r1.b,r2⟩ 3).2) else r2)⟩ 5).1).toNat+1) (out2,(F26 ⟨r1.b,(bif (decide (boxes>2)) then ((F26 ⟨r1.b,r2⟩ 3).2) else r2)⟩ 5).1,(F26 ⟨r1.b,(bif (decide (boxes>2)) then ((F26 ⟨r1.b,r2⟩ 3).2) else r2)⟩ 5).2)=(runL (F52_s1 r1 boxes out r2 out2) (((F26 ⟨r1.b,(bif (decide (boxes>2)) then ((F26 ⟨r1.b,r2⟩ 3).2) else r2)⟩ 5).1).toNat+1) (out2,(F26 ⟨r1.b,(bif (decide (boxes>2)) then ((F26 ⟨r1.b,r2⟩ 3).2) else r2)⟩ 5).1,(F26 ⟨r1.b,(bif (decide (boxes>2)) then ((F26 ⟨r1.b,r2⟩ 3).2) else r2)⟩ 5).2))∧Int.toNat ((F26 ⟨r1.b,(bif (decide (boxes>2)) then ((F26 ⟨r1.b,r2⟩ 3).2) else r2)⟩ 5).1)<(((F26 ⟨r1.b,(bif (decide (boxes>2)) then ((F26 ⟨r1.b,r2⟩ 3).2) else r2)⟩ 5).1).toNat+1)∧0≤((F26 ⟨r1.b,(bif (decide (boxes>2)) then ((F26 ⟨r1.b,r2⟩ 3).2) else r2)⟩ 5).1)∧0≤((F26 ⟨r1.b,(bif (decide (boxes>2)) then ((F26 ⟨r1.b,r2⟩ 3).2) else r2)⟩ 5).2)∧((F26 ⟨r1.b,(bif (decide (boxes>2)) then ((F26 ⟨r1.b,r2⟩ 3).2) else r2)⟩ 5).2)+2*((F26 ⟨r1.b,(bif (decide (boxes>2)) then ((F26 ⟨r1.b,r2⟩ 3).2) else r2)⟩ 5).1)≤r1.p+30∧out2.length≤14)) (fun (i1:Nat×(List LabLink×Int×Int)) (hi1:runL (F52_s1 r1 boxes out r2 out2) i1.1 i1.2=(runL (F52_s1 r1 boxes out r2 out2) (((F26 ⟨r1.b,(bif (decide (boxes>2)) then ((F26 ⟨r1.b,r2⟩ 3).2) else r2)⟩ 5).1).toNat+1) (out2,(F26 ⟨r1.b,(bif (decide (boxes>2)) then ((F26 ⟨r1.b,r2⟩ 3).2) else r2)⟩ 5).1,(F26 ⟨r1.b,(bif (decide (boxes>2)) then ((F26 ⟨r1.b,r2⟩ 3).2) else r2)⟩ 5).2))∧(fun (out3:List LabLink) (n:Int) (r4:Int)=>(Int.toNat n<i1.1∧0≤n∧0≤r4∧r4+2*n≤r1.p+30∧out3.length≤14)) i1.2.1 i1.2.2.1 i1.2.2.2)=>(fun (m1:Nat) (out3:List LabLink) (n:Int) (r4:Int) (hI1:runL (F52_s1 r1 boxes out r2 out2) (m1+1) (out3,n,r4)=(runL (F52_s1 r1 boxes out r2 out2) (((F26 ⟨r1.b,(bif (decide (boxes>2)) then ((F26 ⟨r1.b,r2⟩ 3).2) else r2)⟩ 5).1).toNat+1) (out2,(F26 ⟨r1.b,(bif (decide (boxes>2)) then ((F26 ⟨r1.b,r2⟩ 3).2) else r2)⟩ 5).1,(F26 ⟨r1.b,(bif (decide (boxes>2)) then ((F26 ⟨r1.b,r2⟩ 3).2) else r2)⟩ 5).2))) (_:Int.toNat n<m1+1) (hl1:m1<i1.1) (_:0≤n) (_:0≤r4) (_:r4+2*n≤r1.p+30) (_:out3.length≤14)=>ai (fun h19:(bif decide (n>0) then decide (boxes>1) else false)=true=>(fun _:boxes>1=>(fun _:n>0=>ai ((by unfold i64ok; omega:i64ok (boxes-1))) (ai ((ai ((by omega:0≤r4)) (ai ((by omega:r4≤1000000000)) ((by omega:r1.b.length≤2000))))) (ai ((Eq.refl (sv r1X))) (ai ((Imp.refl (.l 1 eByte r1.b))) (ai ((Imps.refl [.v (vI r4)])) (ai ((Imp.refl (.v (vI (boxes-1))))) ((fun gv20:0≤((F26 ⟨r1.b,r4⟩ (boxes-1))).1∧(1≤(boxes-1)→((F26 ⟨r1.b,r4⟩ (boxes-1))).1<(boxes-1))∧((F26 ⟨r1.b,r4⟩ (boxes-1))).2=r4+1=>ai ((by unfold i64ok; omega:i64ok (((F26 ⟨r1.b,r4⟩ (boxes-1)).1)+1))) (ai ((by unfold i64ok; omega:i64ok (boxes-1))) (ai ((by unfold i64ok; omega:i64ok ((boxes-1)-((F26 ⟨r1.b,r4⟩ (boxes-1)).1)))) (ai ((ai ((by omega:0≤((F26 ⟨r1.b,r4⟩ (boxes-1)).2))) (ai ((by omega:((F26 ⟨r1.b,r4⟩ (boxes-1)).2)≤1000000000)) ((by omega:r1.b.length≤2000))))) (ai ((Eq.refl (sv r1X))) (ai ((Imp.refl (.l 1 eByte r1.b))) (ai ((Imps.refl [.v (vI ((F26 ⟨r1.b,r4⟩ (boxes-1)).2))])) (ai ((Imp.refl (.v (vI ((boxes-1)-((F26 ⟨r1.b,r4⟩ (boxes-1)).1)))))) ((fun gv21:0≤((F26 ⟨r1.b,(F26 ⟨r1.b,r4⟩ (boxes-1)).2⟩ ((boxes-1)-((F26 ⟨r1.b,r4⟩ (boxes-1)).1)))).1∧(1≤((boxes-1)-((F26 ⟨r1.b,r4⟩ (boxes-1)).1))→((F26 ⟨r1.b,(F26 ⟨r1.b,r4⟩ (boxes-1)).2⟩ ((boxes-1)-((F26 ⟨r1.b,r4⟩ (boxes-1)).1)))).1<((boxes-1)-((F26 ⟨r1.b,r4⟩ (boxes-1)).1)))∧((F26 ⟨r1.b,(F26 ⟨r1.b,r4⟩ (boxes-1)).2⟩ ((boxes-1)-((F26 ⟨r1.b,r4⟩ (boxes-1)).1)))).2=((F26 ⟨r1.b,r4⟩ (boxes-1)).2)+1=>ai ((by unfold i64ok; omega:i64ok ((((F26 ⟨r1.b,r4⟩ (boxes-1)).1)+1)+((F26 ⟨r1.b,(F26 ⟨r1.b,r4⟩ (boxes-1)).2⟩ ((boxes-1)-((F26 ⟨r1.b,r4⟩ (boxes-1)).1))).1)))) (ai (fun h22:(decide ((out3.length:Int)<14))=true=>(fun _:(out3.length:Int)<14=>ai (((by omega:out3.length≤1000000000))) (ai ((Imp.refl (.l 2 eLabLink out3))) (ai ((Imps.refl (eLabLink (⟨(F26 ⟨r1.b,r4⟩ (boxes-1)).1,((((F26 ⟨r1.b,r4⟩ (boxes-1)).1)+1)+((F26 ⟨r1.b,(F26 ⟨r1.b,r4⟩ (boxes-1)).2⟩ ((boxes-1)-((F26 ⟨r1.b,r4⟩ (boxes-1)).1))).1))⟩:LabLink)))) ((fun gv23:((F82 out3 ⟨(F26 ⟨r1.b,r4⟩ (boxes-1)).1,((((F26 ⟨r1.b,r4⟩ (boxes-1)).1)+1)+((F26 ⟨r1.b,(F26 ⟨r1.b,r4⟩ (boxes-1)).2⟩ ((boxes-1)-((F26 ⟨r1.b,r4⟩ (boxes-1)).1))).1))⟩)).length≤out3.length+1=>ai ((by unfold i64ok; omega:i64ok (n-1))) (Exists.intro (p:=fun j:Nat×(List LabLink×Int×Int)=>(fun (out3_:List LabLink) (n_:Int) (r4_:Int)=>(((.int .i64 boxes:Value)=.int .i64 boxes)∧((.int .i64 (n-1):Value)=.int .i64 n_)∧((.int .i64 ((F26 ⟨r1.b,(F26 ⟨r1.b,r4⟩ (boxes-1)).2⟩ ((boxes-1)-((F26 ⟨r1.b,r4⟩ (boxes-1)).1))).2):Value)=.int .i64 r4_)∧((sv r1X:Value)=sv r1X)∧(Imp (.l 1 eByte r1.b) (.l 1 eByte r1.b))∧(Imp (.l 2 eLabLink (F82 out3 ⟨(F26 ⟨r1.b,r4⟩ (boxes-1)).1,((((F26 ⟨r1.b,r4⟩ (boxes-1)).1)+1)+((F26 ⟨r1.b,(F26 ⟨r1.b,r4⟩ (boxes-1)).2⟩ ((boxes-1)-((F26 ⟨r1.b,r4⟩ (boxes-1)).1))).1))⟩)) (.l 2 eLabLink out3_))∧((runL (F52_s1 r1 boxes out r2 out2) j.1 j.2=(runL (F52_s1 r1 boxes out r2 out2) (((F26 ⟨r1.b,(bif (decide (boxes>2)) then ((F26 ⟨r1.b,r2⟩ 3).2) else r2)⟩ 5).1).toNat+1) (out2,(F26 ⟨r1.b,(bif (decide (boxes>2)) then ((F26 ⟨r1.b,r2⟩ 3).2) else r2)⟩ 5).1,(F26 ⟨r1.b,(bif (decide (boxes>2)) then ((F26 ⟨r1.b,r2⟩ 3).2) else r2)⟩ 5).2))∧Int.toNat n_<j.1∧0≤n_∧0≤r4_∧r4_+2*n_≤r1.p+30∧out3_.length≤14)∧j.1<i1.1))) j.2.1 j.2.2.1 j.2.2.2) (m1,((F82 out3 ⟨(F26 ⟨r1.b,r4⟩ (boxes-1)).1,((((F26 ⟨r1.b,r4⟩ (boxes-1)).1)+1)+((F26 ⟨r1.b,(F26 ⟨r1.b,r4⟩ (boxes-1)).2⟩ ((boxes-1)-((F26 ⟨r1.b,r4⟩ (boxes-1)).1))).1))⟩),(n-1),(F26 ⟨r1.b,(F26 ⟨r1.b,r4⟩ (boxes-1)).2⟩ ((boxes-1)-((F26 ⟨r1.b,r4⟩ (boxes-1)).1))).2)) (ai (rfl) (ai (rfl) (ai (rfl) (ai (rfl) (ai (ir) (ai (ir) (ai (ai (runL_next hI1 (condT h19 (condT h22 (rfl)))) (ai ((by first | omega | (simp only [lens] at*<;> omega) | (simp only [pick_p] at *; have hq:=cond_1 (decide (boxes>2)) r2; omega):Int.toNat (n-1)<m1)) (ai ((by first | omega | (simp only [lens] at*<;> omega) | (simp only [pick_p] at *; have hq:=cond_1 (decide (boxes>2)) r2; omega):0≤(n-1))) (ai ((by first | omega | (simp only [lens] at*<;> omega) | (simp only [pick_p] at *; have hq:=cond_1 (decide (boxes>2)) r2; omega):0≤((F26 ⟨r1.b,(F26 ⟨r1.b,r4⟩ (boxes-1)).2⟩ ((boxes-1)-((F26 ⟨r1.b,r4⟩ (boxes-1)).1))).2))) (ai ((by first | omega | (simp only [lens] at*<;> omega) | (simp only [pick_p] at *; have hq:=cond_1 (decide (boxes>2)) r2; omega):((F26 ⟨r1.b,(F26 ⟨r1.b,r4⟩ (boxes-1)).2⟩ ((boxes-1)-((F26 ⟨r1.b,r4⟩ (boxes-1)).1))).2)+2*(n-1)≤r1.p+30)) ((by first | omega | (simp only [lens] at*<;> omega) | (simp only [pick_p] at *; have hq:=cond_1 (decide (boxes>2)) r2; omega):(F82 out3 ⟨(F26 ⟨r1.b,r4⟩ (boxes-1)).1,((((F26 ⟨r1.b,r4⟩ (boxes-1)).1)+1)+((F26 ⟨r1.b,(F26 ⟨r1.b,r4⟩ (boxes-1)).2⟩ ((boxes-1)-((F26 ⟨r1.b,r4⟩ (boxes-1)).1))).1))⟩).length≤14))))))) hl1))))))))) (putLink_len out3 (⟨(F26 ⟨r1.b,r4⟩ (boxes-1)).1,((((F26 ⟨r1.b,r4⟩ (boxes-1)).1)+1)+((F26 ⟨r1.b,(F26 ⟨r1.b,r4⟩ (boxes-1)).2⟩ ((boxes-1)-((F26 ⟨r1.b,r4⟩ (boxes-1)).1))).1))⟩:LabLink)))))) (of_decide_eq_true h22)) (fun h22:(decide ((out3.length:Int)<14))=false=>(fun _:¬ (out3.length:Int)<14=>ai ((by unfold i64ok; omega:i64ok (n-1))) (Exists.intro (p:=fun j:Nat×(List LabLink×Int×Int)=>(fun (out3_:List LabLink) (n_:Int) (r4_:Int)=>(((.int .i64 boxes:Value)=.int .i64 boxes)∧((.int .i64 (n-1):Value)=.int .i64 n_)∧((.int .i64 ((F26 ⟨r1.b,(F26 ⟨r1.b,r4⟩ (boxes-1)).2⟩ ((boxes-1)-((F26 ⟨r1.b,r4⟩ (boxes-1)).1))).2):Value)=.int .i64 r4_)∧((sv r1X:Value)=sv r1X)∧(Imp (.l 1 eByte r1.b) (.l 1 eByte r1.b))∧(Imp (.l 2 eLabLink out3) (.l 2 eLabLink out3_))∧((runL (F52_s1 r1 boxes out r2 out2) j.1 j.2=(runL (F52_s1 r1 boxes out r2 out2) (((F26 ⟨r1.b,(bif (decide (boxes>2)) then ((F26 ⟨r1.b,r2⟩ 3).2) else r2)⟩ 5).1).toNat+1) (out2,(F26 ⟨r1.b,(bif (decide (boxes>2)) then ((F26 ⟨r1.b,r2⟩ 3).2) else r2)⟩ 5).1,(F26 ⟨r1.b,(bif (decide (boxes>2)) then ((F26 ⟨r1.b,r2⟩ 3).2) else r2)⟩ 5).2))∧Int.toNat n_<j.1∧0≤n_∧0≤r4_∧r4_+2*n_≤r1.p+30∧out3_.length≤14)∧j.1<i1.1))) j.2.1 j.2.2.1 j.2.2.2) (m1,(out3,(n-1),(F26 ⟨r1.b,(F26 ⟨r1.b,r4⟩ (boxes-1)).2⟩ ((boxes-1)-((F26 ⟨r1.b,r4⟩ (boxes-1)).1))).2)) (ai (rfl) (ai (rfl) (ai (rfl) (ai (rfl) (ai (ir) (ai (ir) (ai (ai (runL_next hI1 (condT h19 (condF h22 (rfl)))) (ai ((by first | omega | (simp only [lens] at*<;> omega) | (simp only [pick_p] at *; have hq:=cond_1 (decide (boxes>2)) r2; omega):Int.toNat (n-1)<m1)) (ai ((by first | omega | (simp only [lens] at*<;> omega) | (simp only [pick_p] at *; have hq:=cond_1 (decide (boxes>2)) r2; omega):0≤(n-1))) (ai ((by first | omega | (simp only [lens] at*<;> omega) | (simp only [pick_p] at *; have hq:=cond_1 (decide (boxes>2)) r2; omega):0≤((F26 ⟨r1.b,(F26 ⟨r1.b,r4⟩ (boxes-1)).2⟩ ((boxes-1)-((F26 ⟨r1.b,r4⟩ (boxes-1)).1))).2))) (ai ((by first | omega | (simp only [lens] at*<;> omega) | (simp only [pick_p] at *; have hq:=cond_1 (decide (boxes>2)) r2; omega):((F26 ⟨r1.b,(F26 ⟨r1.b,r4⟩ (boxes-1)).2⟩ ((boxes-1)-((F26 ⟨r1.b,r4⟩ (boxes-1)).1))).2)+2*(n-1)≤r1.p+30)) ((by first | omega | (simp only [lens] at*<;> omega) | (simp only [pick_p] at *; have hq:=cond_1 (decide (boxes>2)) r2; omega):out3.length≤14))))))) hl1))))))))) (of_decide_eq_false h22)))) (pick_in ⟨r1.b,(F26 ⟨r1.b,r4⟩ (boxes-1)).2⟩ ((boxes-1)-((F26 ⟨r1.b,r4⟩ (boxes-1)).1)) (by omega:0≤((F26 ⟨r1.b,r4⟩ (boxes-1)).2)) (by omega:((F26 ⟨r1.b,r4⟩ (boxes-1)).2)≤1000000000))))))))))) (pick_in ⟨r1.b,r4⟩ (boxes-1) (by omega:0≤r4) (by omega:r4≤1000000000))))))))) (of_decide_eq_true (andT1 h19))) (of_decide_eq_true (andT2 h19))) (fun h19:(bif decide (n>0) then decide (boxes>1) else false)=false=>(fun hD1_24:(runL (F52_s1 r1 boxes out r2 out2) (((F26 ⟨r1.b,(bif (decide (boxes>2)) then ((F26 ⟨r1.b,r2⟩ 3).2) else r2)⟩ 5).1).toNat+1) (out2,(F26 ⟨r1.b,(bif (decide (boxes>2)) then ((F26 ⟨r1.b,r2⟩ 3).2) else r2)⟩ 5).1,(F26 ⟨r1.b,(bif (decide (boxes>2)) then ((F26 ⟨r1.b,r2⟩ 3).2) else r2)⟩ 5).2))=Lp.done (out3,n,r4)=>(fun hF:(out3,r4)=(F52 r1 boxes)=>ai (Imp.of_eq (congrArg (fun r:List LabLink×Int=>Dat.l 2 eLabLink r.1) hF)) (ai (ai (Imp.refl (Dat.v (sv r1X))) (ai (Imp.of_eq (congrArg (fun r:List LabLink×Int=>Dat.v (vI r.2)) hF)) (trivial))) (trivial))) (finD hJ0_7 (finD hJ1_16 (finD hD1_24 (rfl))))) (runL_done hI1 (condF h19 (rfl))))) (i1.1-1) i1.2.1 i1.2.2.1 i1.2.2.2 (hd1 hi1.1 hi1.2.1) (hd2 hi1.2.1) (hd3 hi1.2.1) hi1.2.2.1 hi1.2.2.2.1 hi1.2.2.2.2.1 hi1.2.2.2.2.2)) (pick_in ⟨r1.b,(bif (decide (boxes>2)) then ((F26 ⟨r1.b,r2⟩ 3).2) else r2)⟩ 5 (by first | omega | (simp only [Bool.cond_eq_ite,pick_p]; split <;> omega):0≤(bif (decide (boxes>2)) then ((F26 ⟨r1.b,r2⟩ 3).2) else r2)) (by first | omega | (simp only [Bool.cond_eq_ite,pick_p]; split <;> omega):(bif (decide (boxes>2)) then ((F26 ⟨r1.b,r2⟩ 3).2) else r2)≤1000000000)))))))) j hj.1 hj.2)) j.1 j.2 hj.1 hj.2.1 hj.2.2.1 hj.2.2.2))) hp.1 hp.2.1 hp.2.2.1 hp.2.2.2.1 hp.2.2.2.2) (by kernel_rfl)
def F24_s1 (r1:l71Rd) (n:LabNet) (at':Int) (out:List Int) (k:Int) (r2:Int):(Int×Int)→Lp (Int×Int) (List Int×Int):=fun (to'1,i40) =>
 bif (bif decide (i40<(n.Boxes.length:Int)) then (bif decide ((linkOf n at' to'1)<0) then true else (F53 out to'1)) else false) then (.next (((IntKind.i64.wrap (to'1+1)).tmod (n.Boxes.length:Int)),(i40+1))) else (.done (to'1,i40))
def F24_j2 (r1:l71Rd) (n:LabNet) (at':Int) (out:List Int) (k:Int) (r2:Int):Lp Int (List Int×Int) :=
 (runL (F24_s1 r1 n at' out k r2) (((n.Boxes.length:Int)-0).toNat+1) ((F26 ⟨r1.b,r2⟩ (n.Boxes.length:Int)).1,0)).fin Lp.ret (fun (to'1,i40)=>.done to'1)
def F24_s0 (r1:l71Rd) (n:LabNet):(Int×List Int×Int×Int)→Lp (Int×List Int×Int×Int) (List Int×Int):=fun (at',out,k,r2) =>
 bif (decide (k>0)) then ((F24_j2 r1 n at' out k r2).fin Lp.ret (fun to'=>bif (bif decide ((linkOf n at' to')<0) then true else (F53 out to')) then (.ret (out,(F26 ⟨r1.b,r2⟩ (n.Boxes.length:Int)).2)) else (.next (to',(out++[to']),(k-1),(F26 ⟨r1.b,r2⟩ (n.Boxes.length:Int)).2)))) else (.done (at',out,k,r2))
def F24 (r1:l71Rd) (n:LabNet):List Int×Int :=
 bif ((n.Boxes.length:Int)==0) then (([]:List Int),r1.p) else ((runL (F24_s0 r1 n) (((2+((F26 ⟨r1.b,(F26 ⟨r1.b,r1.p⟩ (n.Boxes.length:Int)).2⟩ 6).1))-0).toNat+1) ((F26 ⟨r1.b,r1.p⟩ (n.Boxes.length:Int)).1,([(F26 ⟨r1.b,r1.p⟩ (n.Boxes.length:Int)).1]:List Int),(2+((F26 ⟨r1.b,(F26 ⟨r1.b,r1.p⟩ (n.Boxes.length:Int)).2⟩ 6).1)),(F26 ⟨r1.b,(F26 ⟨r1.b,r1.p⟩ (n.Boxes.length:Int)).2⟩ 6).2)).fin (fun r=>r) (fun (at',out,k,r2)=>(out,r2)))
def S24 (r1X:SV) (gr1:Nat) (r1:l71Rd) (n:LabNet):Spec:=⟨[.ptg gr1 84 (sv r1X) (.l 1 eByte r1.b) [.v (vI r1.p)] [.v (vI ((F24 r1 n).2))],.r (.g (eLabNet n))],.ow (.l 1 eInt ((F24 r1 n).1)),0≤r1.p∧r1.p≤900000000∧r1.b.length≤2000∧n.Boxes.length≤1000⟩
theorem ok24 (r1X:SV) (gr1:Nat) (r1:l71Rd) (n:LabNet):(S24 r1X gr1 r1 n).ok Tryz.prog 24 :=
 fnG_ok mixed (fn:=Tryz.f24) (ct:=.seqk [(0,0)] (.no) (.seq (.seq (.no) (.cond (.seq (.reg [(0,.dat (.l 1 eInt ([]:List Int)))]) (.no)) (.no))) (.seq (.reg [(4,.call 26 (S26 r1X 0 (⟨r1.b,r1.p⟩:l71Rd) (n.Boxes.length:Int)) (ok26 r1X 0 (⟨r1.b,r1.p⟩:l71Rd) (n.Boxes.length:Int)) none)]) (.seq (.reg [(1,.dat (.l 1 eInt ([(F26 ⟨r1.b,r1.p⟩ (n.Boxes.length:Int)).1]:List Int)))]) (.seq (.seqk [(0,0),(3,0),(3,1),(6,0)] (.reg [(1,.call 26 (S26 r1X 0 (⟨r1.b,(F26 ⟨r1.b,r1.p⟩ (n.Boxes.length:Int)).2⟩:l71Rd) 6) (ok26 r1X 0 (⟨r1.b,(F26 ⟨r1.b,r1.p⟩ (n.Boxes.length:Int)).2⟩:l71Rd) 6) none),(2,.bnd)]) (.blk (.loop (ι:=Nat×(Int×List Int×Int×Int)) (fun i=>(fun (at':Int) (out:List Int) (k:Int) (r2:Int)=>(⟨[(0,some (.p 0 0)),(3,some (.p 2 0)),(5,some (.v (vI at'))),(6,some (.h 5 0)),(7,some (.v (vI k)))],[(0,some (.box 84 [.h 1 0,.v (vI r2)])),(1,some (.vl (sv r1X) (.l 1 eByte r1.b))),(2,some (.box 26 [.h 3 0,.h 4 0])),(3,some (.shr none (.l 2 eLabLink n.Links))),(4,some (.shr none (.l 2 eLabBox n.Boxes))),(5,some (.own 5 (.l 1 eInt out)))],6⟩:St)) i.2.1 i.2.2.1 i.2.2.2.1 i.2.2.2.2) (fun i=>runL (F24_s0 r1 n) i.1 i.2=(runL (F24_s0 r1 n) (((2+((F26 ⟨r1.b,(F26 ⟨r1.b,r1.p⟩ (n.Boxes.length:Int)).2⟩ 6).1))-0).toNat+1) ((F26 ⟨r1.b,r1.p⟩ (n.Boxes.length:Int)).1,([(F26 ⟨r1.b,r1.p⟩ (n.Boxes.length:Int)).1]:List Int),(2+((F26 ⟨r1.b,(F26 ⟨r1.b,r1.p⟩ (n.Boxes.length:Int)).2⟩ 6).1)),(F26 ⟨r1.b,(F26 ⟨r1.b,r1.p⟩ (n.Boxes.length:Int)).2⟩ 6).2))∧(fun (at':Int) (out:List Int) (k:Int) (r2:Int)=>(Int.toNat (k-0)<i.1∧0≤r2∧r2+k≤r1.p+9∧0≤k∧(out.length:Int)+k≤8)) i.2.1 i.2.2.1 i.2.2.2.1 i.2.2.2.2) (fun i=>i.1) ((((2+((F26 ⟨r1.b,(F26 ⟨r1.b,r1.p⟩ (n.Boxes.length:Int)).2⟩ 6).1))-0).toNat+1),((F26 ⟨r1.b,r1.p⟩ (n.Boxes.length:Int)).1,([(F26 ⟨r1.b,r1.p⟩ (n.Boxes.length:Int)).1]:List Int),(2+((F26 ⟨r1.b,(F26 ⟨r1.b,r1.p⟩ (n.Boxes.length:Int)).2⟩ 6).1)),(F26 ⟨r1.b,(F26 ⟨r1.b,r1.p⟩ (n.Boxes.length:Int)).2⟩ 6).2)) (fun i=>(fun (at':Int) (out:List Int) (k:Int) (r2:Int)=>(.seq (.seq (.no) (.cond (.no) (.no))) (.seq (.blk (.seq (.reg [(4,.call 26 (S26 r1X 1 (⟨r1.b,r2⟩:l71Rd) (n.Boxes.length:Int)) (ok26 r1X 1 (⟨r1.b,r2⟩:l71Rd) (n.Boxes.length:Int)) none)]) (.cut (ι:=Int) (fun j=>(fun (to':Int)=>(⟨[(0,some (.p 0 0)),(3,some (.p 2 0)),(5,some (.v (vI at'))),(6,some (.h 5 0)),(7,some (.v (vI k))),(8,some (.v (vI to')))],[(0,some (.box 84 [.h 1 0,.v (vI ((F26 ⟨r1.b,r2⟩ (n.Boxes.length:Int)).2))])),(1,some (.vl (sv r1X) (.l 1 eByte r1.b))),(2,some (.box 26 [.h 3 0,.h 4 0])),(3,some (.shr none (.l 2 eLabLink n.Links))),(4,some (.shr none (.l 2 eLabBox n.Boxes))),(5,some (.own 5 (.l 1 eInt out)))],6⟩:St)) j) (fun j=>(fun (to':Int)=>((F24_j2 r1 n at' out k r2)=Lp.done j)) j) (.seqk [(3,0),(3,1),(6,0)] (.no) (.blk (.loop (ι:=Nat×(Int×Int)) (fun i=>(fun (to'1:Int) (i40:Int)=>(⟨[(0,some (.p 0 0)),(3,some (.p 2 0)),(5,some (.v (vI at'))),(6,some (.h 5 0)),(7,some (.v (vI k))),(8,some (.v (vI to'1))),(9,some (.v (vI i40)))],[(0,some (.box 84 [.h 1 0,.v (vI ((F26 ⟨r1.b,r2⟩ (n.Boxes.length:Int)).2))])),(1,some (.vl (sv r1X) (.l 1 eByte r1.b))),(2,some (.box 26 [.h 3 0,.h 4 0])),(3,some (.shr none (.l 2 eLabLink n.Links))),(4,some (.shr none (.l 2 eLabBox n.Boxes))),(5,some (.own 5 (.l 1 eInt out)))],6⟩:St)) i.2.1 i.2.2) (fun i=>runL (F24_s1 r1 n at' out k r2) i.1 i.2=(runL (F24_s1 r1 n at' out k r2) (((n.Boxes.length:Int)-0).toNat+1) ((F26 ⟨r1.b,r2⟩ (n.Boxes.length:Int)).1,0))∧(fun (to'1:Int) (i40:Int)=>(Int.toNat ((n.Boxes.length:Int)-i40)<i.1∧(0:Int)≤i40)) i.2.1 i.2.2) (fun i=>i.1) ((((n.Boxes.length:Int)-0).toNat+1),((F26 ⟨r1.b,r2⟩ (n.Boxes.length:Int)).1,0)) (fun i=>(fun (to'1:Int) (i40:Int)=>(.seq (.seq (.reg [(9,.call 44 (S44 (linkOf n at' to'1) n at' to'1) (oa44 n at' to'1) none),(14,.call 53 (S53 out to'1) (ok53 out to'1) none)]) (.cond (.no) (.no))) (.seq (.blk (.no)) (.reg [(1,.bnd)])))) i.2.1 i.2.2)))) (fun j=>(fun (to':Int)=>(.seq (.seq (.reg [(3,.call 44 (S44 (linkOf n at' to') n at' to') (oa44 n at' to') none),(8,.call 53 (S53 out to') (ok53 out to') none)]) (.cond (.seq (.no) (.no)) (.no))) (.seq (.reg [(3,.dat (.l 1 eInt (out++[to'])))]) (.no)))) j)))) (.reg [(1,.bnd)])))) i.2.1 i.2.2.1 i.2.2.2.1 i.2.2.2.2)))) (.seq (.no) (.no))))))) Tryz.func24 (fun (hp:0≤r1.p∧r1.p≤900000000∧r1.b.length≤2000∧n.Boxes.length≤1000)=>(fun (hpre0:0≤r1.p) (hpre1:r1.p≤900000000) (hpre2:r1.b.length≤2000) (hpre3:n.Boxes.length≤1000)=>fun (_:r1.b.length≤9223372036854775807)=>ai (fun h1:((n.Boxes.length:Int)==0)=true=>(fun _:(n.Boxes.length:Int)=0=>ai ((BuildOK.mk eInt ([]:List Int) rfl (by exact trivial) (fun _=>rfl):BuildOK 0 1 [] (.l 1 eInt ([]:List Int)))) ((fun hF:(([]:List Int),r1.p)=(F24 r1 n)=>ai (Imp.of_eq (congrArg (fun r:List Int×Int=>Dat.l 1 eInt r.1) hF)) (ai (ai (Imp.refl (Dat.v (sv r1X))) (ai (Imp.of_eq (congrArg (fun r:List Int×Int=>Dat.v (vI r.2)) hF)) (trivial))) (trivial))) (condT h1 (rfl)))) (eq_of_beq h1)) (fun h1:((n.Boxes.length:Int)==0)=false=>(fun _:¬ (n.Boxes.length:Int)=0=>ai ((ai ((by first | omega | (simp only [lens] at*<;> omega):0≤r1.p)) (ai ((by first | omega | (simp only [lens] at*<;> omega):r1.p≤1000000000)) ((by first | omega | (simp only [lens] at*<;> omega):r1.b.length≤2000))))) (ai ((Eq.refl (sv r1X))) (ai ((Imp.refl (.l 1 eByte r1.b))) (ai ((Imps.refl [.v (vI r1.p)])) (ai ((Imp.refl (.v (vI (n.Boxes.length:Int))))) ((fun gv2:0≤((F26 ⟨r1.b,r1.p⟩ (n.Boxes.length:Int))).1∧(1≤(n.Boxes.length:Int)→((F26 ⟨r1.b,r1.p⟩ (n.Boxes.length:Int))).1<(n.Boxes.length:Int))∧((F26 ⟨r1.b,r1.p⟩ (n.Boxes.length:Int))).2=r1.p+1=>ai ((BuildOK.mk eInt ([(F26 ⟨r1.b,r1.p⟩ (n.Boxes.length:Int)).1]:List Int) rfl (by exact ai ir (trivial)) (fun _=>rfl):BuildOK 1 1 [.v (vI ((F26 ⟨r1.b,r1.p⟩ (n.Boxes.length:Int)).1))] (.l 1 eInt ([(F26 ⟨r1.b,r1.p⟩ (n.Boxes.length:Int)).1]:List Int)))) (ai ((ai ((by first | omega | (simp only [lens] at*<;> omega):0≤((F26 ⟨r1.b,r1.p⟩ (n.Boxes.length:Int)).2))) (ai ((by first | omega | (simp only [lens] at*<;> omega):((F26 ⟨r1.b,r1.p⟩ (n.Boxes.length:Int)).2)≤1000000000)) ((by first | omega | (simp only [lens] at*<;> omega):r1.b.length≤2000))))) (ai ((Eq.refl (sv r1X))) (ai ((Imp.refl (.l 1 eByte r1.b))) (ai ((Imps.refl [.v (vI ((F26 ⟨r1.b,r1.p⟩ (n.Boxes.length:Int)).2))])) (ai ((Imp.refl (.v (vI 6)))) ((fun gv3:0≤((F26 ⟨r1.b,(F26 ⟨r1.b,r1.p⟩ (n.Boxes.length:Int)).2⟩ 6)).1∧(1≤(6:Int)→((F26 ⟨r1.b,(F26 ⟨r1.b,r1.p⟩ (n.Boxes.length:Int)).2⟩ 6)).1<(6:Int))∧((F26 ⟨r1.b,(F26 ⟨r1.b,r1.p⟩ (n.Boxes.length:Int)).2⟩ 6)).2=((F26 ⟨r1.b,r1.p⟩ (n.Boxes.length:Int)).2)+1=>ai ((by unfold i64ok; first | omega | (simp only [lens] at*<;> omega):i64ok (2+((F26 ⟨r1.b,(F26 ⟨r1.b,r1.p⟩ (n.Boxes.length:Int)).2⟩ 6).1)))) (fun (_:r1.b.length≤9223372036854775807)=>fun (_:n.Links.length≤9223372036854775807)=>fun (_:n.Boxes.length≤9223372036854775807)=>fun (_:([(F26 ⟨r1.b,r1.p⟩ (n.Boxes.length:Int)).1]:List Int).length≤9223372036854775807)=>ai (ai (rfl) (ai (rfl) (ai (rfl) (ai (rfl) (ai (ir) (ai (ir) (ai (ir) (ai (ir) ((ai (rfl:runL (F24_s0 r1 n) (((2+((F26 ⟨r1.b,(F26 ⟨r1.b,r1.p⟩ (n.Boxes.length:Int)).2⟩ 6).1))-0).toNat+1) ((F26 ⟨r1.b,r1.p⟩ (n.Boxes.length:Int)).1,([(F26 ⟨r1.b,r1.p⟩ (n.Boxes.length:Int)).1]:List Int),(2+((F26 ⟨r1.b,(F26 ⟨r1.b,r1.p⟩ (n.Boxes.length:Int)).2⟩ 6).1)),(F26 ⟨r1.b,(F26 ⟨r1.b,r1.p⟩ (n.Boxes.length:Int)).2⟩ 6).2)=(runL (F24_s0 r1 n) (((2+((F26 ⟨r1.b,(F26 ⟨r1.b,r1.p⟩ (n.Boxes.length:Int)).2⟩ 6).1))-0).toNat+1) ((F26 ⟨r1.b,r1.p⟩ (n.Boxes.length:Int)).1,([(F26 ⟨r1.b,r1.p⟩ (n.Boxes.length:Int)).1]:List Int),(2+((F26 ⟨r1.b,(F26 ⟨r1.b,r1.p⟩ (n.Boxes.length:Int)).2⟩ 6).1)),(F26 ⟨r1.b,(F26 ⟨r1.b,r1.p⟩ (n.Boxes.length:Int)).2⟩ 6).2))) (ai ((Nat.lt_succ_self _:Int.toNat ((2+((F26 ⟨r1.b,(F26 ⟨r1.b,r1.p⟩ (n.Boxes.length:Int)).2⟩ 6).1))-0)<(((2+((F26 ⟨r1.b,(F26 ⟨r1.b,r1.p⟩ (n.Boxes.length:Int)).2⟩ 6).1))-0).toNat+1))) (ai ((by first | omega | (simp only [lens] at*<;> omega):0≤((F26 ⟨r1.b,(F26 ⟨r1.b,r1.p⟩ (n.Boxes.length:Int)).2⟩ 6).2))) (ai ((by first | omega | (simp only [lens] at*<;> omega):((F26 ⟨r1.b,(F26 ⟨r1.b,r1.p⟩ (n.Boxes.length:Int)).2⟩ 6).2)+(2+((F26 ⟨r1.b,(F26 ⟨r1.b,r1.p⟩ (n.Boxes.length:Int)).2⟩ 6).1))≤r1.p+9)) (ai ((by first | omega | (simp only [lens] at*<;> omega):0≤(2+((F26 ⟨r1.b,(F26 ⟨r1.b,r1.p⟩ (n.Boxes.length:Int)).2⟩ 6).1)))) ((by first | omega | (simp only [lens] at*<;> omega):(([(F26 ⟨r1.b,r1.p⟩ (n.Boxes.length:Int)).1]:List Int).length:Int)+(2+((F26 ⟨r1.b,(F26 ⟨r1.b,r1.p⟩ (n.Boxes.length:Int)).2⟩ 6).1))≤8))))))))))))))):((.int .i64 ((F26 ⟨r1.b,r1.p⟩ (n.Boxes.length:Int)).1):Value)=.int .i64 ((F26 ⟨r1.b,r1.p⟩ (n.Boxes.length:Int)).1))∧((.int .i64 (2+((F26 ⟨r1.b,(F26 ⟨r1.b,r1.p⟩ (n.Boxes.length:Int)).2⟩ 6).1)):Value)=.int .i64 (2+((F26 ⟨r1.b,(F26 ⟨r1.b,r1.p⟩ (n.Boxes.length:Int)).2⟩ 6).1)))∧((.int .i64 ((F26 ⟨r1.b,(F26 ⟨r1.b,r1.p⟩ (n.Boxes.length:Int)).2⟩ 6).2):Value)=.int .i64 ((F26 ⟨r1.b,(F26 ⟨r1.b,r1.p⟩ (n.Boxes.length:Int)).2⟩ 6).2))∧((sv r1X:Value)=sv r1X)∧(Imp (.l 1 eByte r1.b) (.l 1 eByte r1.b))∧(Imp (.l 2 eLabLink n.Links) (.l 2 eLabLink n.Links))∧(Imp (.l 2 eLabBox n.Boxes) (.l 2 eLabBox n.Boxes))∧(Imp (.l 1 eInt ([(F26 ⟨r1.b,r1.p⟩ (n.Boxes.length:Int)).1]:List Int)) (.l 1 eInt ([(F26 ⟨r1.b,r1.p⟩ (n.Boxes.length:Int)).1]:List Int)))∧(runL (F24_s0 r1 n) (((2+((F26 ⟨r1.b,(F26 ⟨r1.b,r1.p⟩ (n.Boxes.length:Int)).2⟩ 6).1))-0).toNat+1) ((F26 ⟨r1.b,r1.p⟩ (n.Boxes.length:Int)).1,([(F26 ⟨r1.b,r1.p⟩ (n.Boxes.length:Int)).1]:List Int),(2+((F26 ⟨r1.b,(F26 ⟨r1.b,r1.p⟩ (n.Boxes.length:Int)).2⟩ 6).1)),(F26 ⟨r1.b,(F26 ⟨r1.b,r1.p⟩ (n.Boxes.length:Int)).2⟩ 6).2)=(runL (F24_s0 r1 n) (((2+((F26 ⟨r1.b,(F26 ⟨r1.b,r1.p⟩ (n.Boxes.length:Int)).2⟩ 6).1))-0).toNat+1) ((F26 ⟨r1.b,r1.p⟩ (n.Boxes.length:Int)).1,([(F26 ⟨r1.b,r1.p⟩ (n.Boxes.length:Int)).1]:List Int),(2+((F26 ⟨r1.b,(F26 ⟨r1.b,r1.p⟩ (n.Boxes.length:Int)).2⟩ 6).1)),(F26 ⟨r1.b,(F26 ⟨r1.b,r1.p⟩ (n.Boxes.length:Int)).2⟩ 6).2))∧Int.toNat ((2+((F26 ⟨r1.b,(F26 ⟨r1.b,r1.p⟩ (n.Boxes.length:Int)).2⟩ 6).1))-0)<(((2+((F26 ⟨r1.b,(F26 ⟨r1.b,r1.p⟩ (n.Boxes.length:Int)).2⟩ 6).1))-0).toNat+1)∧0≤((F26 ⟨r1.b,(F26 ⟨r1.b,r1.p⟩ (n.Boxes.length:Int)).2⟩ 6).2)∧((F26 ⟨r1.b,(F26 ⟨r1.b,r1.p⟩ (n.Boxes.length:Int)).2⟩ 6).2)+(2+((F26 ⟨r1.b,(F26 ⟨r1.b,r1.p⟩ (n.Boxes.length:Int)).2⟩ 6).1))≤r1.p+9∧0≤(2+((F26 ⟨r1.b,(F26 ⟨r1.b,r1.p⟩ (n.Boxes.length:Int)).2⟩ 6).1))∧(([(F26 ⟨r1.b,r1.p⟩ (n.Boxes.length:Int)).1]:List Int).length:Int)+(2+((F26 ⟨r1.b,(F26 ⟨r1.b,r1.p⟩ (n.Boxes.length:Int)).2⟩ 6).1))≤8)) (fun (i0:Nat×(Int×List Int×Int×Int)) (hi0:runL (F24_s0 r1 n) i0.1 i0.2=(runL (F24_s0 r1 n) (((2+((F26 ⟨r1.b,(F26 ⟨r1.b,r1.p⟩ (n.Boxes.length:Int)).2⟩ 6).1))-0).toNat+1) ((F26 ⟨r1.b,r1.p⟩ (n.Boxes.length:Int)).1,([(F26 ⟨r1.b,r1.p⟩ (n.Boxes.length:Int)).1]:List Int),(2+((F26 ⟨r1.b,(F26 ⟨r1.b,r1.p⟩ (n.Boxes.length:Int)).2⟩ 6).1)),(F26 ⟨r1.b,(F26 ⟨r1.b,r1.p⟩ (n.Boxes.length:Int)).2⟩ 6).2))∧(fun (at':Int) (out:List Int) (k:Int) (r2:Int)=>(Int.toNat (k-0)<i0.1∧0≤r2∧r2+k≤r1.p+9∧0≤k∧(out.length:Int)+k≤8)) i0.2.1 i0.2.2.1 i0.2.2.2.1 i0.2.2.2.2)=>(fun (m0:Nat) (at':Int) (out:List Int) (k:Int) (r2:Int) (hI0:runL (F24_s0 r1 n) (m0+1) (at',out,k,r2)=(runL (F24_s0 r1 n) (((2+((F26 ⟨r1.b,(F26 ⟨r1.b,r1.p⟩ (n.Boxes.length:Int)).2⟩ 6).1))-0).toNat+1) ((F26 ⟨r1.b,r1.p⟩ (n.Boxes.length:Int)).1,([(F26 ⟨r1.b,r1.p⟩ (n.Boxes.length:Int)).1]:List Int),(2+((F26 ⟨r1.b,(F26 ⟨r1.b,r1.p⟩ (n.Boxes.length:Int)).2⟩ 6).1)),(F26 ⟨r1.b,(F26 ⟨r1.b,r1.p⟩ (n.Boxes.length:Int)).2⟩ 6).2))) (_:Int.toNat (k-0)<m0+1) (hl0:m0<i0.1) (_:0≤r2) (_:r2+k≤r1.p+9) (_:0≤k) (_:(out.length:Int)+k≤8)=>ai (fun h5:(decide (k>0))=true=>(fun _:k>0=>ai ((ai ((by first | omega | (simp only [lens] at*<;> omega):0≤r2)) (ai ((by first | omega | (simp only [lens] at*<;> omega):r2≤1000000000)) ((by first | omega | (simp only [lens] at*<;> omega):r1.b.length≤2000))))) (ai ((Eq.refl (sv r1X))) (ai ((Imp.refl (.l 1 eByte r1.b))) (ai ((Imps.refl [.v (vI r2)])) (ai ((Imp.refl (.v (vI (n.Boxes.length:Int))))) ((fun gv6:0≤((F26 ⟨r1.b,r2⟩ (n.Boxes.length:Int))).1∧(1≤(n.Boxes.length:Int)→((F26 ⟨r1.b,r2⟩ (n.Boxes.length:Int))).1<(n.Boxes.length:Int))∧((F26 ⟨r1.b,r2⟩ (n.Boxes.length:Int))).2=r2+1=>ai (fun (_:n.Links.length≤9223372036854775807)=>fun (_:n.Boxes.length≤9223372036854775807)=>fun (_:out.length≤9223372036854775807)=>ai (ai (rfl) (ai (rfl) (ai (rfl) (ai (rfl) (ai (rfl) (ai (rfl) (ai (ir) (ai (ir) (ai (ir) (ai (ir) ((ai (rfl:runL (F24_s1 r1 n at' out k r2) (((n.Boxes.length:Int)-0).toNat+1) ((F26 ⟨r1.b,r2⟩ (n.Boxes.length:Int)).1,0)=(runL (F24_s1 r1 n at' out k r2) (((n.Boxes.length:Int)-0).toNat+1) ((F26 ⟨r1.b,r2⟩ (n.Boxes.length:Int)).1,0))) (ai ((Nat.lt_succ_self _:Int.toNat ((n.Boxes.length:Int)-0)<(((n.Boxes.length:Int)-0).toNat+1))) ((by first | omega | (simp only [lens] at*<;> omega):(0:Int)≤0)))))))))))))):((.int .i64 at':Value)=.int .i64 at')∧((.int .i64 k:Value)=.int .i64 k)∧((.int .i64 ((F26 ⟨r1.b,r2⟩ (n.Boxes.length:Int)).1):Value)=.int .i64 ((F26 ⟨r1.b,r2⟩ (n.Boxes.length:Int)).1))∧((.int .i64 0:Value)=.int .i64 0)∧((.int .i64 ((F26 ⟨r1.b,r2⟩ (n.Boxes.length:Int)).2):Value)=.int .i64 ((F26 ⟨r1.b,r2⟩ (n.Boxes.length:Int)).2))∧((sv r1X:Value)=sv r1X)∧(Imp (.l 1 eByte r1.b) (.l 1 eByte r1.b))∧(Imp (.l 2 eLabLink n.Links) (.l 2 eLabLink n.Links))∧(Imp (.l 2 eLabBox n.Boxes) (.l 2 eLabBox n.Boxes))∧(Imp (.l 1 eInt out) (.l 1 eInt out))∧(runL (F24_s1 r1 n at' out k r2) (((n.Boxes.length:Int)-0).toNat+1) ((F26 ⟨r1.b,r2⟩ (n.Boxes.length:Int)).1,0)=(runL (F24_s1 r1 n at' out k r2) (((n.Boxes.length:Int)-0).toNat+1) ((F26 ⟨r1.b,r2⟩ (n.Boxes.length:Int)).1,0))∧Int.toNat ((n.Boxes.length:Int)-0)<(((n.Boxes.length:Int)-0).toNat+1)∧(0:Int)≤0)) (fun (i1:Nat×(Int×Int)) (hi1:runL (F24_s1 r1 n at' out k r2) i1.1 i1.2=(runL (F24_s1 r1 n at' out k r2) (((n.Boxes.length:Int)-0).toNat+1) ((F26 ⟨r1.b,r2⟩ (n.Boxes.length:Int)).1,0))∧(fun (to'1:Int) (i40:Int)=>(Int.toNat ((n.Boxes.length:Int)-i40)<i1.1∧(0:Int)≤i40)) i1.2.1 i1.2.2)=>(fun (m1:Nat) (to'1:Int) (i40:Int) (hI1:runL (F24_s1 r1 n at' out k r2) (m1+1) (to'1,i40)=(runL (F24_s1 r1 n at' out k r2) (((n.Boxes.length:Int)-0).toNat+1) ((F26 ⟨r1.b,r2⟩ (n.Boxes.length:Int)).1,0))) (_:Int.toNat ((n.Boxes.length:Int)-i40)<m1+1) (hl1:m1<i1.1) (_:(0:Int)≤i40)=>ai ((fun k8:(decide (i40<(n.Boxes.length:Int)))=true=>(fun _:i40<(n.Boxes.length:Int)=>trivial) (of_decide_eq_true k8))) (ai ((fun k9:(decide (i40<(n.Boxes.length:Int)))=true=>(fun _:i40<(n.Boxes.length:Int)=>(Imps.refl (eLabNet n))) (of_decide_eq_true k9))) (ai ((fun k10:(decide (i40<(n.Boxes.length:Int)))=true=>(fun _:i40<(n.Boxes.length:Int)=>(Imp.refl (.v (vI at')))) (of_decide_eq_true k10))) (ai ((fun k11:(decide (i40<(n.Boxes.length:Int)))=true=>(fun _:i40<(n.Boxes.length:Int)=>(Imp.refl (.v (vI to'1)))) (of_decide_eq_true k11))) (ai ((fun k13:(decide ((linkOf n at' to'1)<0))=false=>(fun _:¬ (linkOf n at' to'1)<0=>(fun k12:(decide (i40<(n.Boxes.length:Int)))=true=>(fun _:i40<(n.Boxes.length:Int)=>trivial) (of_decide_eq_true k12))) (of_decide_eq_false k13))) (ai ((fun k15:(decide ((linkOf n at' to'1)<0))=false=>(fun _:¬ (linkOf n at' to'1)<0=>(fun k14:(decide (i40<(n.Boxes.length:Int)))=true=>(fun _:i40<(n.Boxes.length:Int)=>(Imp.refl (.l 1 eInt out))) (of_decide_eq_true k14))) (of_decide_eq_false k15))) (ai ((fun k17:(decide ((linkOf n at' to'1)<0))=false=>(fun _:¬ (linkOf n at' to'1)<0=>(fun k16:(decide (i40<(n.Boxes.length:Int)))=true=>(fun _:i40<(n.Boxes.length:Int)=>(Imp.refl (.v (vI to'1)))) (of_decide_eq_true k16))) (of_decide_eq_false k17))) (ai (fun h18:(bif decide (i40<(n.Boxes.length:Int)) then (bif decide ((linkOf n at' to'1)<0) then true else (F53 out to'1)) else false)=true=>(fun _:i40<(n.Boxes.length:Int)=>ai ((by first | omega | (simp only [lens] at*<;> omega):¬ (n.Boxes.length:Int)=0)) (ai ((by unfold i64ok; first | omega | (simp only [lens] at*<;> omega):i64ok (i40+1))) (Exists.intro (p:=fun j:Nat×(Int×Int)=>(fun (to'1_:Int) (i40_:Int)=>(((.int .i64 at':Value)=.int .i64 at')∧((.int .i64 k:Value)=.int .i64 k)∧((.int .i64 ((IntKind.i64.wrap (to'1+1)).tmod (n.Boxes.length:Int)):Value)=.int .i64 to'1_)∧((.int .i64 (i40+1):Value)=.int .i64 i40_)∧((.int .i64 ((F26 ⟨r1.b,r2⟩ (n.Boxes.length:Int)).2):Value)=.int .i64 ((F26 ⟨r1.b,r2⟩ (n.Boxes.length:Int)).2))∧((sv r1X:Value)=sv r1X)∧(Imp (.l 1 eByte r1.b) (.l 1 eByte r1.b))∧(Imp (.l 2 eLabLink n.Links) (.l 2 eLabLink n.Links))∧(Imp (.l 2 eLabBox n.Boxes) (.l 2 eLabBox n.Boxes))∧(Imp (.l 1 eInt out) (.l 1 eInt out))∧((runL (F24_s1 r1 n at' out k r2) j.1 j.2=(runL (F24_s1 r1 n at' out k r2) (((n.Boxes.length:Int)-0).toNat+1) ((F26 ⟨r1.b,r2⟩ (n.Boxes.length:Int)).1,0))∧Int.toNat ((n.Boxes.length:Int)-i40_)<j.1∧(0:Int)≤i40_)∧j.1<i1.1))) j.2.1 j.2.2) (m1,(((IntKind.i64.wrap (to'1+1)).tmod (n.Boxes.length:Int)),(i40+1))) (ai (rfl) (ai (rfl) (ai (rfl) (ai (rfl) (ai (rfl) (ai (rfl) (ai (ir) (ai (ir) (ai (ir) (ai (ir) (ai (ai (runL_next hI1 (condT h18 (rfl))) (ai ((by first | omega | (simp only [lens] at*<;> omega):Int.toNat ((n.Boxes.length:Int)-(i40+1))<m1)) ((by first | omega | (simp only [lens] at*<;> omega):(0:Int)≤(i40+1))))) hl1)))))))))))))) (of_decide_eq_true (andT1 h18))) (fun h18:(bif decide (i40<(n.Boxes.length:Int)) then (bif decide ((linkOf n at' to'1)<0) then true else (F53 out to'1)) else false)=false=>(fun hD1_19:(runL (F24_s1 r1 n at' out k r2) (((n.Boxes.length:Int)-0).toNat+1) ((F26 ⟨r1.b,r2⟩ (n.Boxes.length:Int)).1,0))=Lp.done (to'1,i40)=>Exists.intro (p:=fun j:Int=>(fun (to'_:Int)=>(((.int .i64 at':Value)=.int .i64 at')∧((.int .i64 k:Value)=.int .i64 k)∧((.int .i64 to'1:Value)=.int .i64 to'_)∧((.int .i64 ((F26 ⟨r1.b,r2⟩ (n.Boxes.length:Int)).2):Value)=.int .i64 ((F26 ⟨r1.b,r2⟩ (n.Boxes.length:Int)).2))∧((sv r1X:Value)=sv r1X)∧(Imp (.l 1 eByte r1.b) (.l 1 eByte r1.b))∧(Imp (.l 2 eLabLink n.Links) (.l 2 eLabLink n.Links))∧(Imp (.l 2 eLabBox n.Boxes) (.l 2 eLabBox n.Boxes))∧(Imp (.l 1 eInt out) (.l 1 eInt out))∧(F24_j2 r1 n at' out k r2)=Lp.done j)) j) (to'1) (ai (rfl) (ai (rfl) (ai (rfl) (ai (rfl) (ai (rfl) (ai (ir) (ai (ir) (ai (ir) (ai (ir) (Eq.symm (finD hD1_19 (rfl))))))))))))) (runL_done hI1 (condF h18 (rfl)))))))))))) (i1.1-1) i1.2.1 i1.2.2 (hd1 hi1.1 hi1.2.1) (hd2 hi1.2.1) (hd3 hi1.2.1) hi1.2.2)) (fun (j:Int) (hj:(fun (to':Int)=>((F24_j2 r1 n at' out k r2)=Lp.done j)) j)=>(fun (to':Int) (hJ2_20:(F24_j2 r1 n at' out k r2)=Lp.done to')=>ai (trivial) (ai ((Imps.refl (eLabNet n))) (ai ((Imp.refl (.v (vI at')))) (ai ((Imp.refl (.v (vI to')))) (ai ((fun k21:(decide ((linkOf n at' to')<0))=false=>(fun _:¬ (linkOf n at' to')<0=>trivial) (of_decide_eq_false k21))) (ai ((fun k22:(decide ((linkOf n at' to')<0))=false=>(fun _:¬ (linkOf n at' to')<0=>(Imp.refl (.l 1 eInt out))) (of_decide_eq_false k22))) (ai ((fun k23:(decide ((linkOf n at' to')<0))=false=>(fun _:¬ (linkOf n at' to')<0=>(Imp.refl (.v (vI to')))) (of_decide_eq_false k23))) (ai (fun h24:(bif decide ((linkOf n at' to')<0) then true else (F53 out to'))=true=>(fun hF:(out,(F26 ⟨r1.b,r2⟩ (n.Boxes.length:Int)).2)=(F24 r1 n)=>ai (Imp.of_eq (congrArg (fun r:List Int×Int=>Dat.l 1 eInt r.1) hF)) (ai (ai (Imp.refl (Dat.v (sv r1X))) (ai (Imp.of_eq (congrArg (fun r:List Int×Int=>Dat.v (vI r.2)) hF)) (trivial))) (trivial))) (condF h1 (finR (runL_ret hI0 (condT h5 (finD hJ2_20 (condT h24 (rfl))))) rfl))) (fun h24:(bif decide ((linkOf n at' to')<0) then true else (F53 out to'))=false=>(fun _:¬ (linkOf n at' to')<0=>ai ((AppA.mk eInt out [to'] (Imp.refl (.l 1 eInt out)) rfl (by exact ai ir (trivial)) (fun _=>rfl):AppA (.l 1 eInt out) 1 1 [.v (vI to')] (.l 1 eInt (out++[to'])))) (ai ((by (try simp only [lens]); omega:((out++[to'])).length*8≤140737488355328)) (ai ((by unfold i64ok; first | omega | (simp only [lens] at*<;> omega):i64ok (k-1))) (Exists.intro (p:=fun j:Nat×(Int×List Int×Int×Int)=>(fun (at'_:Int) (out_:List Int) (k_:Int) (r2_:Int)=>(((.int .i64 to':Value)=.int .i64 at'_)∧((.int .i64 (k-1):Value)=.int .i64 k_)∧((.int .i64 ((F26 ⟨r1.b,r2⟩ (n.Boxes.length:Int)).2):Value)=.int .i64 r2_)∧((sv r1X:Value)=sv r1X)∧(Imp (.l 1 eByte r1.b) (.l 1 eByte r1.b))∧(Imp (.l 2 eLabLink n.Links) (.l 2 eLabLink n.Links))∧(Imp (.l 2 eLabBox n.Boxes) (.l 2 eLabBox n.Boxes))∧(Imp (.l 1 eInt (out++[to'])) (.l 1 eInt out_))∧((runL (F24_s0 r1 n) j.1 j.2=(runL (F24_s0 r1 n) (((2+((F26 ⟨r1.b,(F26 ⟨r1.b,r1.p⟩ (n.Boxes.length:Int)).2⟩ 6).1))-0).toNat+1) ((F26 ⟨r1.b,r1.p⟩ (n.Boxes.length:Int)).1,([(F26 ⟨r1.b,r1.p⟩ (n.Boxes.length:Int)).1]:List Int),(2+((F26 ⟨r1.b,(F26 ⟨r1.b,r1.p⟩ (n.Boxes.length:Int)).2⟩ 6).1)),(F26 ⟨r1.b,(F26 ⟨r1.b,r1.p⟩ (n.Boxes.length:Int)).2⟩ 6).2))∧Int.toNat (k_-0)<j.1∧0≤r2_∧r2_+k_≤r1.p+9∧0≤k_∧(out_.length:Int)+k_≤8)∧j.1<i0.1))) j.2.1 j.2.2.1 j.2.2.2.1 j.2.2.2.2) (m0,(to',(out++[to']),(k-1),(F26 ⟨r1.b,r2⟩ (n.Boxes.length:Int)).2)) (ai (rfl) (ai (rfl) (ai (rfl) (ai (rfl) (ai (ir) (ai (ir) (ai (ir) (ai (ir) (ai (ai (runL_next hI0 (condT h5 (finD hJ2_20 (condF h24 (rfl))))) (ai ((by first | omega | (simp only [lens] at*<;> omega):Int.toNat ((k-1)-0)<m0)) (ai ((by first | omega | (simp only [lens] at*<;> omega):0≤((F26 ⟨r1.b,r2⟩ (n.Boxes.length:Int)).2))) (ai ((by first | omega | (simp only [lens] at*<;> omega):((F26 ⟨r1.b,r2⟩ (n.Boxes.length:Int)).2)+(k-1)≤r1.p+9)) (ai ((by first | omega | (simp only [lens] at*<;> omega):0≤(k-1))) ((by first | omega | (simp only [lens] at*<;> omega):((out++[to']).length:Int)+(k-1)≤8))))))) hl0))))))))))))) (of_decide_eq_false (orF1 h24))))))))))) j hj)) (pick_in ⟨r1.b,r2⟩ (n.Boxes.length:Int) (by first | omega | (simp only [lens] at*<;> omega):0≤r2) (by first | omega | (simp only [lens] at*<;> omega):r2≤1000000000)))))))) (of_decide_eq_true h5)) (fun h5:(decide (k>0))=false=>(fun _:¬ k>0=>(fun hD0_25:(runL (F24_s0 r1 n) (((2+((F26 ⟨r1.b,(F26 ⟨r1.b,r1.p⟩ (n.Boxes.length:Int)).2⟩ 6).1))-0).toNat+1) ((F26 ⟨r1.b,r1.p⟩ (n.Boxes.length:Int)).1,([(F26 ⟨r1.b,r1.p⟩ (n.Boxes.length:Int)).1]:List Int),(2+((F26 ⟨r1.b,(F26 ⟨r1.b,r1.p⟩ (n.Boxes.length:Int)).2⟩ 6).1)),(F26 ⟨r1.b,(F26 ⟨r1.b,r1.p⟩ (n.Boxes.length:Int)).2⟩ 6).2))=Lp.done (at',out,k,r2)=>(fun hF:(out,r2)=(F24 r1 n)=>ai (Imp.of_eq (congrArg (fun r:List Int×Int=>Dat.l 1 eInt r.1) hF)) (ai (ai (Imp.refl (Dat.v (sv r1X))) (ai (Imp.of_eq (congrArg (fun r:List Int×Int=>Dat.v (vI r.2)) hF)) (trivial))) (trivial))) (condF h1 (finD hD0_25 (rfl)))) (runL_done hI0 (condF h5 (rfl)))) (of_decide_eq_false h5))) (i0.1-1) i0.2.1 i0.2.2.1 i0.2.2.2.1 i0.2.2.2.2 (hd1 hi0.1 hi0.2.1) (hd2 hi0.2.1) (hd3 hi0.2.1) hi0.2.2.1 hi0.2.2.2.1 hi0.2.2.2.2.1 hi0.2.2.2.2.2))) (pick_in ⟨r1.b,(F26 ⟨r1.b,r1.p⟩ (n.Boxes.length:Int)).2⟩ 6 (by first | omega | (simp only [lens] at*<;> omega):0≤((F26 ⟨r1.b,r1.p⟩ (n.Boxes.length:Int)).2)) (by first | omega | (simp only [lens] at*<;> omega):((F26 ⟨r1.b,r1.p⟩ (n.Boxes.length:Int)).2)≤1000000000))))))))) (pick_in ⟨r1.b,r1.p⟩ (n.Boxes.length:Int) (by first | omega | (simp only [lens] at*<;> omega):0≤r1.p) (by first | omega | (simp only [lens] at*<;> omega):r1.p≤1000000000)))))))) (beqF h1))) hp.1 hp.2.1 hp.2.2.1 hp.2.2.2) (by kernel_rfl)
theorem stopAt_congr {p q:Nat→Bool} {n:Nat} (h:∀ k,k<n→p k=q k):stopAt p n=stopAt q n:=by
 unfold stopAt
 rw [first_congr (p:=fun k=>!(p k)) (q:=fun k=>!(q k)) fun k hk=>by rw [h k hk]]
def LOk (boxes:Int) (l:LabLink):Prop:=0≤l.A∧l.A<l.B∧l.B<boxes
def lkey (l:LabLink):Int:=l.A*16+l.B
structure LinksOk (boxes:Int) (t:List LabLink):Prop where
 ok:∀ l∈t,LOk boxes l
 inc:t.Pairwise (fun a b=>lkey a<lkey b)
theorem LinksOk.nil (boxes:Int):LinksOk boxes []:=⟨fun l hl=>(by cases hl),List.Pairwise.nil⟩
theorem lessL_key {boxes:Int} (hb:boxes≤8) {x l:LabLink} (hx:LOk boxes x) (hl:LOk boxes l):lessL x l=decide (lkey x<lkey l):=by
 unfold LOk at hx hl
 unfold lessL lkey
 rw [Bool.eq_iff_iff]
 simp only [Bool.cond_true_left,Bool.cond_false_right,Bool.or_eq_true,Bool.and_eq_true,decide_eq_true_eq,beq_iff_eq]
 omega
theorem lkey_inj {boxes:Int} (hb:boxes≤8) {x l:LabLink} (hx:LOk boxes x) (hl:LOk boxes l) (h:lkey x=lkey l):x=l:=by
 unfold LOk at hx hl
 unfold lkey at h
 obtain ⟨a,b⟩:=x
 obtain ⟨c,d⟩:=l
 simp only at hx hl h
 have h1:a=c:=by omega
 have h2:b=d:=by omega
 rw [h1,h2]
theorem put_ok {boxes:Int} (hb:boxes≤8) {t:List LabLink} {l:LabLink} (h:LinksOk boxes t) (hl:LOk boxes l):LinksOk boxes (F82 t l):=by
 rw [putLink_eq]
 cases hc:(bif decide (posL t l<t.length) then decide (t.getD (posL t l) default=l) else false) with
 | true=>exact h
 | false =>
  rw [cond_false]
  have hpos:posL t l=stopAt (fun k=>decide (lkey (t.getD k default)<lkey l)) t.length:=stopAt_congr fun k hk=>lessL_key hb (h.ok _ (getD_mem t hk)) hl
  have hput:t.take (posL t l)++[l]++t.drop (posL t l)=putK lkey t l:=by rw [hpos]; rfl
  rw [hput]
  refine ⟨fun x hx=>?_,putK_inc lkey t l h.inc fun a ha he=>?_⟩
  ·rcases putK_mem.1 hx with hx | rfl
   ·exact h.ok x hx
   ·exact hl
  ·have hal:=lkey_inj hb (h.ok a ha) hl he
   subst hal
   obtain ⟨k,hk,rfl⟩:=mem_getD ha
   have hle:=posL_le t (t.getD k default)
   rcases Nat.lt_or_ge k (posL t (t.getD k default)) with h1 | h1
   ·have:=stopAt_lt (p:=fun j=>decide (lkey (t.getD j default)<lkey (t.getD k default))) (n:=t.length) (k:=k) (by rw [← hpos]; exact h1)
    simp at this
   ·have h2:posL t (t.getD k default)<t.length:=by omega
    have h3:=stopAt_at (p:=fun j=>decide (lkey (t.getD j default)<lkey (t.getD k default))) (n:=t.length) (by rw [← hpos]; exact h2)
    rw [← hpos] at h3
    have h3:=of_decide_eq_false h3
    rcases Nat.lt_or_ge (posL t (t.getD k default)) k with h4 | h4
    ·have h5:=List.pairwise_iff_getElem.1 h.inc _ _ h2 hk h4
     rw [← getD_lt t h2,← getD_lt t hk] at h5
     omega
    ·have h5:posL t (t.getD k default)=k:=by omega
     rw [h5,decide_eq_true hk,cond_true,decide_eq_false_iff_not] at hc
     exact hc rfl
theorem links_ok (r1:l71Rd) (boxes:Int) (h0:0≤r1.p) (h1:r1.p≤900000000) (hb0:1≤boxes) (hb:boxes≤8) :
  LinksOk boxes (F52 r1 boxes).1∧(F52 r1 boxes).1.length≤14∧r1.p≤(F52 r1 boxes).2∧(F52 r1 boxes).2≤r1.p+40:=by
 unfold F52
 obtain ⟨out,r2,e0,k1,k2,k3,k4⟩:∃ out r2,F52_j0 r1 boxes=.done (out,r2)∧LinksOk boxes out∧out.length≤8∧r1.p≤r2∧r2≤r1.p+8:=by
  unfold F52_j0
  have h:=runL_rule (step:=F52_s0 r1 boxes) (fun (k:Nat) (s:List LabLink×Int)=>(s.1,(k:Int),s.2)) (boxes-1).toNat (fun k s=>LinksOk boxes s.1∧s.1.length≤k∧s.2=r1.p+k) (fun _=>False)
   (fun k s hk ⟨i1,i2,i3⟩=>by
    have hd:decide ((k:Int)+1<boxes)=true:=decide_eq_true (by omega)
    have hp:(F26 (⟨r1.b,s.2⟩:l71Rd) 12).2=r1.p+((k+1:Nat):Int):=by rw [pick_p]; show s.2+1=_; rw [i3]; omega
    have hl:=putLink_len s.1 (⟨(k:Int),(k:Int)+1⟩:LabLink)
    have ho:=put_ok hb (l:=(⟨(k:Int),(k:Int)+1⟩:LabLink)) i1 (by unfold LOk; simp only; omega)
    simp only [F52_s0,hd,cond_true]
    cases decide ((F26 (⟨r1.b,s.2⟩:l71Rd) 12).1>0) with
    | true=>exact .inl ⟨(F82 s.1 (⟨(k:Int),(k:Int)+1⟩:LabLink),(F26 (⟨r1.b,s.2⟩:l71Rd) 12).2),rfl,ho,by simp only; omega,hp⟩
    | false=>exact .inl ⟨(s.1,(F26 (⟨r1.b,s.2⟩:l71Rd) 12).2),rfl,i1,by simp only; omega,hp⟩)
   (fun s _=>by
    have hd:decide (((boxes-1).toNat:Int)+1<boxes)=false:=decide_eq_false (by omega)
    simp only [F52_s0,hd,cond_false]) (boxes-1).toNat 0 ([],r1.p) (by omega) ⟨LinksOk.nil _,Nat.le_refl _,by simp⟩ ((boxes-1).toNat+1) (by omega)
  have e1:Int.toNat (boxes-(0+1))+1=(boxes-1).toNat+1:=by omega
  rw [e1]
  rcases h with ⟨s,h,i1,i2,i3⟩ | ⟨_,_,h⟩
  ·have h':runL (F52_s0 r1 boxes) ((boxes-1).toNat+1) ([],0,r1.p)=_:=h
   rw [h']
   exact ⟨s.1,s.2,rfl,i1,by omega,by omega,by omega⟩
  ·exact h.elim
 rw [e0]
 simp only [Lp.fin]
 obtain ⟨out2,e1,k5,k6⟩:∃ out2,F52_j1 r1 boxes out r2=.done out2∧LinksOk boxes out2∧out2.length≤9:=by
  unfold F52_j1
  cases hc:(bif decide (boxes>2) then decide ((F26 (⟨r1.b,r2⟩:l71Rd) 3).1>0) else false) with
  | true =>
   have h2:boxes>2:=by
    cases h2:decide (boxes>2) with
    | true=>exact of_decide_eq_true h2
    | false=>rw [h2] at hc; cases hc
   have hl:=putLink_len out (⟨0,boxes-1⟩:LabLink)
   exact ⟨_,rfl,put_ok hb k1 (by unfold LOk; simp only; omega),by omega⟩
  | false=>exact ⟨_,rfl,k1,by omega⟩
 rw [e1]
 simp only [Lp.fin]
 have hc1:=cond_1 (decide (boxes>2)) r2
 have hq:(bif decide (boxes>2) then (F26 (⟨r1.b,r2⟩:l71Rd) 3).2 else r2)=(bif decide (boxes>2) then r2+1 else r2):=by rw [pick_p]
 rw [hq]
 generalize (bif decide (boxes>2) then r2+1 else r2)=q at hc1
 have hn:=pick_in (⟨r1.b,q⟩:l71Rd) 5 (by show 0≤q; omega) (by show q≤_; omega)
 obtain ⟨s',h,i1,_⟩:=runL_meas (step:=F52_s1 r1 boxes out r2 out2) (fun s=>LinksOk boxes s.1∧s.1.length≤14∧0≤s.2.1∧r1.p≤s.2.2∧s.2.2+2*s.2.1≤r1.p+30) (fun s=>Int.toNat s.2.1) (fun _=>True)
  (fun s ⟨i1,i2,i3,i4,i5⟩=>by
   obtain ⟨o3,n,r4⟩:=s
   simp only at i1 i2 i3 i4 i5
   simp only [F52_s1]
   cases hc:(bif decide (n>0) then decide (boxes>1) else false) with
   | false=>exact .inl ⟨rfl,trivial⟩
   | true =>
    simp only [Bool.cond_false_right,Bool.and_eq_true,decide_eq_true_eq] at hc
    refine .inr ?_
    have p1:=pick_in (⟨r1.b,r4⟩:l71Rd) (boxes-1) (by show 0≤r4; omega) (by show r4≤_; omega)
    generalize F26 (⟨r1.b,r4⟩:l71Rd) (boxes-1)=P at p1
    obtain ⟨a,r5⟩:=P
    simp only at p1
    have p2:=pick_in (⟨r1.b,r5⟩:l71Rd) (boxes-1-a) (by show 0≤r5; omega) (by show r5≤_; omega)
    simp only [cond_true]
    generalize F26 (⟨r1.b,r5⟩:l71Rd) (boxes-1-a)=Q at p2
    obtain ⟨b,r6⟩:=Q
    simp only at p2
    cases hd:decide ((o3.length:Int)<14) with
    | true =>
     have hd:=of_decide_eq_true hd
     have hl:=putLink_len o3 (⟨a,a+1+b⟩:LabLink)
     exact ⟨(F82 o3 (⟨a,a+1+b⟩:LabLink),n-1,r6),rfl,⟨put_ok hb i1 (by unfold LOk; simp only; omega),by simp only; omega,by simp only; omega,by simp only; omega,by simp only; omega⟩,by simp only; omega⟩
    | false=>exact ⟨(o3,n-1,r6),rfl,⟨i1,i2,by simp only; omega,by simp only; omega,by simp only; omega⟩,by simp only; omega⟩)
  (Int.toNat (F26 (⟨r1.b,q⟩:l71Rd) 5).1+1) (out2,(F26 (⟨r1.b,q⟩:l71Rd) 5).1,(F26 (⟨r1.b,q⟩:l71Rd) 5).2)
  ⟨k5,by simp only; omega,hn.1,by rw [pick_p]; show _≤q+1; omega,by
   rw [pick_p]
   have:=hn.2.1 (by omega)
   show q+1+2*(F26 (⟨r1.b,q⟩:l71Rd) 5).1≤r1.p+30
   omega⟩ (by simp only; omega)
 rw [h]
 obtain ⟨o3,n',r4'⟩:=s'
 obtain ⟨j1,j2,j3,j4,j5⟩:=i1
 simp only at j1 j2 j3 j4 j5
 exact ⟨j1,j2,j4,by simp only [Lp.fin]; omega⟩
theorem links_b (r1:l71Rd) (boxes:Int) (h0:0≤r1.p) (h1:r1.p≤900000000) (hb0:1≤boxes) (hb:boxes≤8):(F52 r1 boxes).1.length≤14∧r1.p≤(F52 r1 boxes).2∧(F52 r1 boxes).2≤r1.p+40 :=
 (links_ok r1 boxes h0 h1 hb0 hb).2
theorem in_eq (list:List Int) (n:Int):F53 list n=decide (n∈list):=by
 unfold F53
 rw [← mem_idx,← any_idx,search (fun k=>decide (n=list.getD k default)) (fun _=>true) list.length _ (fun k hk=>by simp only [F53_s0,ltD hk,cond_true,nn,beqD,eq_comm]) (by simp [F53_s0])]
 unfold idxI
 all_goals (cases first (fun k=>decide (n=list.getD k default)) list.length <;> simp [oix])
theorem nodup_le:∀ (N:Nat) (l:List Nat),l.Nodup→(∀ x∈l,x<N)→l.length≤N
 | 0,l,_,h=>by
  cases l with
  | nil=>exact Nat.le_refl _
  | cons x l=>exact absurd (h x List.mem_cons_self) (Nat.not_lt_zero _)
 | N+1,l,hn,h=>by
  by_cases hm:N∈l
  ·have h1:=nodup_le N (l.erase N) (hn.erase N) fun x hx=>by
    have:=(hn.mem_erase_iff).1 hx
    have:=h x this.2
    omega
   rw [List.length_erase_of_mem hm] at h1
   omega
  ·have h1:=nodup_le N l hn fun x hx=>by
    have:=h x hx
    have:x≠N:=fun e=>hm (e ▸ hx)
    omega
   omega
structure PathI (n:LabNet) (p:List Int):Prop where
 one:1≤p.length
 rng:∀ x∈p,0≤x∧x<(n.Boxes.length:Int)
 nod:p.Nodup
 lnk:∀ i,i+1<p.length→0≤linkOf n (p.getD i default) (p.getD (i+1) default)
theorem PathI.ok {n:LabNet} {p:List Int} (h:PathI n p) (h2:2≤p.length):PathOk n p:=by
 have hr:∀ i,i<p.length→0≤p.getD i default∧p.getD i default<(n.Boxes.length:Int):=fun i hi=>h.rng _ (getD_mem p hi)
 have hinj:∀ i j,i<p.length→j<p.length→p.getD i default=p.getD j default→i=j:=fun i j hi hj e=>by
  rw [getD_lt p hi,getD_lt p hj] at e
  rcases Nat.lt_trichotomy i j with hij | hij | hij
  ·exact absurd e (List.pairwise_iff_getElem.1 h.nod i j hi hj hij)
  ·exact hij
  ·exact absurd e.symm (List.pairwise_iff_getElem.1 h.nod j i hj hi hij)
 refine ⟨h2,?_,hr,h.lnk,hinj⟩
 have hn:(p.map Int.toNat).Nodup:=by
  refine List.pairwise_iff_getElem.2 fun i j hi hj hij e=>?_
  simp only [List.length_map] at hi hj
  simp only [List.getElem_map] at e
  have a:=hr i hi; have b:=hr j hj
  have:=hinj i j hi hj (by rw [getD_lt p hi,getD_lt p hj] at *; omega)
  omega
 have:=nodup_le n.Boxes.length _ hn fun x hx=>by
  obtain ⟨y,hy,rfl⟩:=List.mem_map.1 hx
  have:=h.rng y hy
  omega
 simpa using this
theorem getD_app {α:Type} [Inhabited α] (xs:List α) (x:α) (k:Nat):(xs++[x]).getD k default=if k<xs.length then xs.getD k default else if k=xs.length then x else default:=by
 rw [List.getD_eq_getElem?_getD]
 split
 ·rename_i h
  rw [List.getElem?_append_left h,List.getD_eq_getElem?_getD]
 ·rename_i h
  rw [List.getElem?_append_right (by omega)]
  split
  ·rename_i h2; rw [h2,Nat.sub_self]; rfl
  ·rename_i h2
   rw [List.getElem?_eq_none (by simp; omega)]; rfl
theorem PathI.snoc {n:LabNet} (hf:FrameOk n) {p:List Int} (h:PathI n p) {x:Int} (hl:0≤linkOf n (p.getD (p.length-1) default) x) (hx:x ∉ p):PathI n (p++[x]):=by
 have h1:=linkOf_in hf hl
 have ho:=h.one
 refine ⟨by simp,fun y hy=>?_,?_,fun i hi=>?_⟩
 ·rcases List.mem_append.1 hy with hy | hy
  ·exact h.rng y hy
  ·simp only [List.mem_singleton] at hy
   subst hy
   exact ⟨h1.2.2.1,h1.2.2.2.1⟩
 ·refine List.nodup_append.2 ⟨h.nod,by simp,fun a ha b hb e=>?_⟩
  simp only [List.mem_singleton] at hb
  subst hb; subst e
  exact hx ha
 ·simp only [List.length_append,List.length_singleton] at hi
  rw [getD_app,getD_app,if_pos (by omega)]
  by_cases hi2:i+1<p.length
  ·rw [if_pos hi2]; exact h.lnk i hi2
  ·rw [if_neg hi2,if_pos (by omega)]
   have e:i=p.length-1:=by omega
   rw [e]; exact hl
theorem path_to (r1:l71Rd) (n:LabNet) (h8:n.Boxes.length≤8) (h1:1≤n.Boxes.length) (at':Int) (out:List Int) (k r2:Int) (h0:0≤r2) (h2:r2≤1000000000):∃ to',F24_j2 r1 n at' out k r2=.done to':=by
 unfold F24_j2
 obtain ⟨s',h,_,_⟩:=runL_meas (step:=F24_s1 r1 n at' out k r2) (fun _=>True) (fun s=>Int.toNat ((n.Boxes.length:Int)-s.2)) (fun _=>True)
  (fun s _=>by
   obtain ⟨t,i⟩:=s
   simp only [F24_s1]
   cases hc:(bif decide (i<(n.Boxes.length:Int)) then (bif decide ((linkOf n at' t)<0) then true else (F53 out t)) else false) with
   | false=>exact .inl ⟨rfl,trivial⟩
   | true =>
    have hi:i<(n.Boxes.length:Int):=by
     cases hi:decide (i<(n.Boxes.length:Int)) with
     | true=>exact of_decide_eq_true hi
     | false=>rw [hi] at hc; cases hc
    exact .inr ⟨_,rfl,trivial,by simp only; omega⟩)
  (Int.toNat ((n.Boxes.length:Int)-0)+1) ((F26 (⟨r1.b,r2⟩:l71Rd) (n.Boxes.length:Int)).1,0) trivial (by simp only; omega)
 rw [h]
 exact ⟨_,rfl⟩
theorem path_ok (r1:l71Rd) (n:LabNet) (hf:FrameOk n) (h0:0≤r1.p) (h1:r1.p≤900000000):PathI n (F24 r1 n).1∧r1.p≤(F24 r1 n).2∧(F24 r1 n).2≤r1.p+10:=by
 have b1:=hf.b1
 have b8:=hf.b8
 unfold F24
 have hb:((n.Boxes.length:Int)==0)=false:=by rw [beqD]; exact decide_eq_false (by omega)
 rw [hb,cond_false]
 have p1:=pick_in (⟨r1.b,r1.p⟩:l71Rd) (n.Boxes.length:Int) h0 (by show r1.p≤_; omega)
 generalize F26 (⟨r1.b,r1.p⟩:l71Rd) (n.Boxes.length:Int)=A at p1 ⊢
 obtain ⟨a,q1⟩:=A
 simp only at p1 ⊢
 have p2:=pick_in (⟨r1.b,q1⟩:l71Rd) 6 (by show 0≤q1; omega) (by show q1≤_; omega)
 generalize F26 (⟨r1.b,q1⟩:l71Rd) 6=B at p2 ⊢
 obtain ⟨k,q2⟩:=B
 simp only at p2 ⊢
 have hk:=p2.2.1 (by omega)
 have hstart:PathI n [a]:=⟨Nat.le_refl _,fun x hx=>by
  simp only [List.mem_singleton] at hx
  subst hx; exact ⟨p1.1,p1.2.1 (by omega)⟩,by simp,fun i hi=>by simp at hi⟩
 have key:∀ (m:Nat) (at':Int) (out:List Int) (k r2:Int),PathI n out→out.getD (out.length-1) default=at'→0≤k→q2≤r2→r2+k≤r1.p+9→Int.toNat k<m →
   ∀ F:List Int×Int,(runL (F24_s0 r1 n) m (at',out,k,r2)).fin (fun r=>r) (fun (at',out,k,r2)=>(out,r2))=F→PathI n F.1∧r1.p≤F.2∧F.2≤r1.p+10:=by
  intro m
  induction m with
  | zero=>intro at' out k r2 _ _ _ _ _ h; exact absurd h (Nat.not_lt_zero _)
  | succ m ih =>
   intro at' out k r2 hp hl hk0 hr1 hr2 hm F hF
   simp only [runL,F24_s0] at hF
   by_cases hk:k>0
   ·rw [decide_eq_true hk,cond_true] at hF
    obtain ⟨t,ht⟩:=path_to r1 n b8 b1 at' out k r2 (by omega) (by omega)
    rw [ht] at hF
    simp only [Lp.fin,pick_p] at hF
    cases hc:(bif decide ((linkOf n at' t)<0) then true else (F53 out t)) with
    | true =>
     rw [hc] at hF
     simp only [cond_true,Lp.fin] at hF
     subst hF
     exact ⟨hp,by simp only; omega,by simp only; omega⟩
    | false =>
     rw [hc] at hF
     simp only [cond_false] at hF
     have hlk:¬ linkOf n at' t<0:=fun h=>by rw [decide_eq_true h] at hc; cases hc
     have hin:t ∉ out:=fun h=>by
      rw [decide_eq_false hlk,cond_false,in_eq,decide_eq_true h] at hc; cases hc
     exact ih t (out++[t]) (k-1) (r2+1) (hp.snoc hf (by rw [hl]; omega) hin) (by rw [getD_app]; simp) (by omega) (by omega) (by omega) (by omega) F hF
   ·rw [decide_eq_false hk,cond_false] at hF
    simp only [Lp.fin] at hF
    subst hF
    exact ⟨hp,by simp only; omega,by simp only; omega⟩
 exact key (Int.toNat (2+k-0)+1) a [a] (2+k) q2 hstart rfl (by omega) (by omega) (by omega) (by omega) _ rfl
theorem PathI.len {n:LabNet} (hf:FrameOk n) {p:List Int} (h:PathI n p):p.length≤8:=by
 by_cases h2:2≤p.length
 ·have:=(h.ok h2).most
  have:=hf.b8
  omega
 ·omega
theorem path_to2 (r1:l71Rd) (n:LabNet) (h8:n.Boxes.length≤1000) (h1:1≤n.Boxes.length) (at':Int) (out:List Int) (k r2:Int) (h0:0≤r2) (h2:r2≤1000000000):∃ to',F24_j2 r1 n at' out k r2=.done to'∧0≤to'∧to'<(n.Boxes.length:Int):=by
 unfold F24_j2
 have p1:=pick_in (⟨r1.b,r2⟩:l71Rd) (n.Boxes.length:Int) h0 h2
 obtain ⟨s',h,i1,_⟩:=runL_meas (step:=F24_s1 r1 n at' out k r2) (fun s=>0≤s.1∧s.1<(n.Boxes.length:Int)) (fun s=>Int.toNat ((n.Boxes.length:Int)-s.2)) (fun _=>True)
  (fun s ⟨i1,i2⟩=>by
   obtain ⟨t,i⟩:=s
   simp only at i1 i2
   simp only [F24_s1]
   cases hc:(bif decide (i<(n.Boxes.length:Int)) then (bif decide ((linkOf n at' t)<0) then true else (F53 out t)) else false) with
   | false=>exact .inl ⟨rfl,trivial⟩
   | true =>
    have hi:i<(n.Boxes.length:Int):=by
     cases hi:decide (i<(n.Boxes.length:Int)) with
     | true=>exact of_decide_eq_true hi
     | false=>rw [hi] at hc; cases hc
    have e:IntKind.i64.wrap (t+1)=t+1:=wrap_of (by omega) (by omega)
    have ht:=tmod_in (a:=t+1) (n:=(n.Boxes.length:Int)) (by omega)
    refine .inr ⟨(_,_),rfl,⟨?_,?_⟩,by simp only; omega⟩
    ·simp only [e]; exact ht.1
    ·simp only [e]; exact ht.2 (by omega))
  (Int.toNat ((n.Boxes.length:Int)-0)+1) ((F26 (⟨r1.b,r2⟩:l71Rd) (n.Boxes.length:Int)).1,0) ⟨p1.1,p1.2.1 (by omega)⟩ (by simp only; omega)
 rw [h]
 exact ⟨_,rfl,i1⟩
theorem path_q (r1:l71Rd) (n:LabNet) (h0:0≤r1.p) (h1:r1.p≤900000000) (h8:n.Boxes.length≤1000):r1.p≤(F24 r1 n).2∧(F24 r1 n).2≤r1.p+10∧(F24 r1 n).1.length≤8 ∧
  (1≤n.Boxes.length→1≤(F24 r1 n).1.length∧0≤(F24 r1 n).1.getD (((F24 r1 n).1.length:Int)-1).toNat default∧(F24 r1 n).1.getD (((F24 r1 n).1.length:Int)-1).toNat default<(n.Boxes.length:Int)):=by
 unfold F24
 by_cases b1:1≤n.Boxes.length
 rotate_left
 ·have hb:((n.Boxes.length:Int)==0)=true:=by rw [beqD]; exact decide_eq_true (by omega)
  rw [hb,cond_true]
  exact ⟨by simp only; omega,by simp only; omega,by simp,fun h=>absurd h b1⟩
 have hb:((n.Boxes.length:Int)==0)=false:=by rw [beqD]; exact decide_eq_false (by omega)
 rw [hb,cond_false]
 have p1:=pick_in (⟨r1.b,r1.p⟩:l71Rd) (n.Boxes.length:Int) h0 (by show r1.p≤_; omega)
 generalize F26 (⟨r1.b,r1.p⟩:l71Rd) (n.Boxes.length:Int)=A at p1 ⊢
 obtain ⟨a,q1⟩:=A
 simp only at p1 ⊢
 have p2:=pick_in (⟨r1.b,q1⟩:l71Rd) 6 (by show 0≤q1; omega) (by show q1≤_; omega)
 generalize F26 (⟨r1.b,q1⟩:l71Rd) 6=B at p2 ⊢
 obtain ⟨k,q2⟩:=B
 simp only at p2 ⊢
 have hk:=p2.2.1 (by omega)
 have key:∀ (m:Nat) (at':Int) (out:List Int) (k r2:Int),1≤out.length→(out.length:Int)+k≤8→out.getD (out.length-1) default=at'→0≤at'→at'<(n.Boxes.length:Int)→0≤k→q2≤r2→r2+k≤r1.p+9→Int.toNat k<m →
   ∀ F:List Int×Int,(runL (F24_s0 r1 n) m (at',out,k,r2)).fin (fun r=>r) (fun (at',out,k,r2)=>(out,r2))=F→r1.p≤F.2∧F.2≤r1.p+10∧F.1.length≤8∧1≤F.1.length∧0≤F.1.getD (F.1.length-1) default∧F.1.getD (F.1.length-1) default<(n.Boxes.length:Int):=by
  intro m
  induction m with
  | zero=>intro at' out k r2 _ _ _ _ _ _ _ _ h; exact absurd h (Nat.not_lt_zero _)
  | succ m ih =>
   intro at' out k r2 ho hok hl ha0 ha1 hk0 hr1 hr2 hm F hF
   simp only [runL,F24_s0] at hF
   by_cases hk:k>0
   ·rw [decide_eq_true hk,cond_true] at hF
    obtain ⟨t,ht,t0,t1⟩:=path_to2 r1 n h8 b1 at' out k r2 (by omega) (by omega)
    rw [ht] at hF
    simp only [Lp.fin,pick_p] at hF
    cases hc:(bif decide ((linkOf n at' t)<0) then true else (F53 out t)) with
    | true =>
     rw [hc] at hF
     simp only [cond_true,Lp.fin] at hF
     subst hF
     simp only [hl]
     omega
    | false =>
     rw [hc] at hF
     simp only [cond_false] at hF
     exact ih t (out++[t]) (k-1) (r2+1) (by simp) (by simp only [List.length_append,List.length_cons,List.length_nil]; omega) (by rw [getD_app]; simp) t0 t1 (by omega) (by omega) (by omega) (by omega) F hF
   ·rw [decide_eq_false hk,cond_false] at hF
    simp only [Lp.fin] at hF
    subst hF
    simp only [hl]
    omega
 have:=key (Int.toNat (2+k-0)+1) a [a] (2+k) q2 (by simp) (by simp only [List.length_cons,List.length_nil]; omega) rfl p1.1 (p1.2.1 (by omega)) (by omega) (by omega) (by omega) (by omega) _ rfl
 obtain ⟨c1,c2,c3,c4,c5,c6⟩:=this
 refine ⟨c1,c2,c3,fun _=>⟨c4,?_,?_⟩⟩
 ·rw [show ∀ x:Nat,Int.toNat ((x:Int)-1)=x-1 from fun x=>by omega]; exact c5
 ·rw [show ∀ x:Nat,Int.toNat ((x:Int)-1)=x-1 from fun x=>by omega]; exact c6
theorem path_p (r1:l71Rd) (n:LabNet) (h0:0≤r1.p) (h1:r1.p≤900000000) (hf:FrameOk n):r1.p≤(F24 r1 n).2∧(F24 r1 n).2≤r1.p+10∧1≤(F24 r1 n).1.length∧(F24 r1 n).1.length≤8 ∧
  0≤(F24 r1 n).1.getD (((F24 r1 n).1.length:Int)-1).toNat default∧(F24 r1 n).1.getD (((F24 r1 n).1.length:Int)-1).toNat default<(n.Boxes.length:Int):=by
 have h8:=hf.b8
 obtain ⟨a,b,c,d⟩:=path_q r1 n h0 h1 (by omega)
 obtain ⟨d1,d2,d3⟩:=d hf.b1
 exact ⟨a,b,d1,c,d2,d3⟩
def F51 (boxes:Int) (links:List LabLink):LabNet×Bool :=
 bif (!(decide (1≤boxes∧boxes≤8))) then ((⟨[],[]⟩:LabNet),false) else (bif (!(F66 ⟨links,(List.replicate boxes.toNat ((⟨[],[]⟩:LabBox):LabBox))⟩)) then ((⟨[],[]⟩:LabNet),false) else ((⟨links,(List.replicate boxes.toNat ((⟨[],[]⟩:LabBox):LabBox))⟩:LabNet),true))
def S51 (boxes:Int) (links:List LabLink):Spec:=⟨[.r (.c (.v (vI boxes))),.r (.c (.l 2 eLabLink links))],.tu [.ag [.ow (.l 2 eLabLink (((F51 boxes links).1).Links)),.ow (.l 2 eLabBox (((F51 boxes links).1).Boxes))],.v (.bool ((F51 boxes links).2))],links.length≤1000000000⟩
theorem ok51 (boxes:Int) (links:List LabLink):(S51 boxes links).ok Tryz.prog 51 :=
 fnG_ok mixed (fn:=Tryz.f51) (ct:=.seqk [(1,0)] (.no) (.seq (.seq (.reg [(1,.call 75 (S75 (decide (1≤boxes∧boxes≤8)) boxes 1 8) (oa75 boxes 1 8) none)]) (.cond (.seq (.no) (.no)) (.no))) (.seq (.reg [(2,.dat (.l 2 eLabBox (List.replicate boxes.toNat ((⟨[],[]⟩:LabBox):LabBox))))]) (.seq (.seq (.reg [(1,.call 66 (S66 (⟨links,(List.replicate boxes.toNat ((⟨[],[]⟩:LabBox):LabBox))⟩:LabNet)) (ok66 (⟨links,(List.replicate boxes.toNat ((⟨[],[]⟩:LabBox):LabBox))⟩:LabNet)) none)]) (.cond (.seq (.no) (.no)) (.no))) (.seq (.reg [(1,.call 33 (S33 (⟨links,(List.replicate boxes.toNat ((⟨[],[]⟩:LabBox):LabBox))⟩:LabNet) (⟨links,(List.replicate boxes.toNat ((⟨[],[]⟩:LabBox):LabBox))⟩:LabNet)) (oa33 (⟨links,(List.replicate boxes.toNat ((⟨[],[]⟩:LabBox):LabBox))⟩:LabNet)) none)]) (.no)))))) Tryz.func51 (fun (hpre0:links.length≤1000000000)=>fun (_:links.length≤9223372036854775807)=>ai (trivial) (ai ((Imp.refl (.v (vI boxes)))) (ai ((Imp.refl (.v (vI 1)))) (ai ((Imp.refl (.v (vI 8)))) (ai (fun h1:(!(decide (1≤boxes∧boxes≤8)))=true=>(fun _:¬ (1≤boxes∧boxes≤8)=>(fun hF:((⟨[],[]⟩:LabNet),false)=(F51 boxes links)=>ai ((Imp.nil 2 eLabLink).trans (Imp.of_eq (congrArg (fun r:LabNet×Bool=>Dat.l 2 eLabLink r.1.Links) hF))) (ai ((Imp.nil 2 eLabBox).trans (Imp.of_eq (congrArg (fun r:LabNet×Bool=>Dat.l 2 eLabBox r.1.Boxes) hF))) (ai (congrArg (fun r:LabNet×Bool=>(.bool r.2:Value)) hF) (trivial)))) (condT h1 (rfl))) (of_decide_eq_false (notET h1))) (fun h1:(!(decide (1≤boxes∧boxes≤8)))=false=>(fun _:1≤boxes∧boxes≤8=>ai ((by first | omega | (simp only [lens] at*<;> omega):0≤boxes∧boxes≤boxes∧(48:Int)*boxes≤281474976710656)) (ai ((MakeOK.mk eLabBox ((⟨[],[]⟩:LabBox):LabBox) (by exact ai (Imp.nil _ _) (ai (Imp.nil _ _) (trivial))):MakeOK 2 [.v (.slice none 0 0),.v (.slice none 0 0)] boxes.toNat (.l 2 eLabBox (List.replicate boxes.toNat ((⟨[],[]⟩:LabBox):LabBox))))) (ai (trivial) (ai ((Imps.refl (eLabNet (⟨links,(List.replicate boxes.toNat ((⟨[],[]⟩:LabBox):LabBox))⟩:LabNet)))) (ai (fun h2:(!(F66 ⟨links,(List.replicate boxes.toNat ((⟨[],[]⟩:LabBox):LabBox))⟩))=true=>(fun hF:((⟨[],[]⟩:LabNet),false)=(F51 boxes links)=>ai ((Imp.nil 2 eLabLink).trans (Imp.of_eq (congrArg (fun r:LabNet×Bool=>Dat.l 2 eLabLink r.1.Links) hF))) (ai ((Imp.nil 2 eLabBox).trans (Imp.of_eq (congrArg (fun r:LabNet×Bool=>Dat.l 2 eLabBox r.1.Boxes) hF))) (ai (congrArg (fun r:LabNet×Bool=>(.bool r.2:Value)) hF) (trivial)))) (condF h1 (condT h2 (rfl)))) (fun h2:(!(F66 ⟨links,(List.replicate boxes.toNat ((⟨[],[]⟩:LabBox):LabBox))⟩))=false=>ai ((ai ((by first | omega | ((try simp only [lens]); omega) | (intro k; (try dsimp only); rw [getD_rep _ (⟨[],[]⟩:LabBox) rfl]; exact Nat.zero_le _):links.length≤1000000000)) (ai ((by first | omega | ((try simp only [lens]); omega) | (intro k; (try dsimp only); rw [getD_rep _ (⟨[],[]⟩:LabBox) rfl]; exact Nat.zero_le _):(List.replicate boxes.toNat ((⟨[],[]⟩:LabBox):LabBox)).length≤1000000000)) (ai ((by first | omega | ((try simp only [lens]); omega) | (intro k; (try dsimp only); rw [getD_rep _ (⟨[],[]⟩:LabBox) rfl]; exact Nat.zero_le _):∀ k:Nat,((List.replicate boxes.toNat ((⟨[],[]⟩:LabBox):LabBox)).getD k default).Rows.length≤1000000000)) ((by first | omega | ((try simp only [lens]); omega) | (intro k; (try dsimp only); rw [getD_rep _ (⟨[],[]⟩:LabBox) rfl]; exact Nat.zero_le _):∀ k:Nat,((List.replicate boxes.toNat ((⟨[],[]⟩:LabBox):LabBox)).getD k default).Guards.length≤1000000000)))))) (ai ((Imps.refl (eLabNet (⟨links,(List.replicate boxes.toNat ((⟨[],[]⟩:LabBox):LabBox))⟩:LabNet)))) ((fun hF:((⟨links,(List.replicate boxes.toNat ((⟨[],[]⟩:LabBox):LabBox))⟩:LabNet),true)=(F51 boxes links)=>ai (Imp.of_eq (congrArg (fun r:LabNet×Bool=>Dat.l 2 eLabLink r.1.Links) hF)) (ai (Imp.of_eq (congrArg (fun r:LabNet×Bool=>Dat.l 2 eLabBox r.1.Boxes) hF)) (ai (congrArg (fun r:LabNet×Bool=>(.bool r.2:Value)) hF) (trivial)))) (condF h1 (condF h2 (rfl))))))))))) (of_decide_eq_true (notEF h1)))))))) (by kernel_rfl)
def F23 (r1:l71Rd):LabNet×Int :=
 (((F51 (([2,3,4,5,6,8,1]:List Int).getD ((F26 ⟨r1.b,r1.p⟩ 7).1).toNat default) ((F52 ⟨r1.b,(F26 ⟨r1.b,r1.p⟩ 7).2⟩ (([2,3,4,5,6,8,1]:List Int).getD ((F26 ⟨r1.b,r1.p⟩ 7).1).toNat default)).1)).1),(F52 ⟨r1.b,(F26 ⟨r1.b,r1.p⟩ 7).2⟩ (([2,3,4,5,6,8,1]:List Int).getD ((F26 ⟨r1.b,r1.p⟩ 7).1).toNat default)).2)
def S23 (r1X:SV) (gr1:Nat) (r1:l71Rd):Spec:=⟨[.ptg gr1 84 (sv r1X) (.l 1 eByte r1.b) [.v (vI r1.p)] [.v (vI ((F23 r1).2))]],.ag [.ow (.l 2 eLabLink (((F23 r1).1).Links)),.ow (.l 2 eLabBox (((F23 r1).1).Boxes))],0≤r1.p∧r1.p≤800000000∧r1.b.length≤2000⟩
theorem ok23 (r1X:SV) (gr1:Nat) (r1:l71Rd):(S23 r1X gr1 r1).ok Tryz.prog 23 :=
 fnG_ok mixed (fn:=Tryz.f23) (ct:=.seqk [(0,0)] (.no) (.seq (.reg [(0,.dat (.l 1 eInt ([2,3,4,5,6,8,1]:List Int))),(2,.call 26 (S26 r1X 0 (⟨r1.b,r1.p⟩:l71Rd) 7) (ok26 r1X 0 (⟨r1.b,r1.p⟩:l71Rd) 7) none)]) (.seq (.reg [(3,.call 52 (S52 r1X 0 (⟨r1.b,(F26 ⟨r1.b,r1.p⟩ 7).2⟩:l71Rd) (([2,3,4,5,6,8,1]:List Int).getD ((F26 ⟨r1.b,r1.p⟩ 7).1).toNat default)) (ok52 r1X 0 (⟨r1.b,(F26 ⟨r1.b,r1.p⟩ 7).2⟩:l71Rd) (([2,3,4,5,6,8,1]:List Int).getD ((F26 ⟨r1.b,r1.p⟩ 7).1).toNat default)) none),(4,.call 51 (S51 (([2,3,4,5,6,8,1]:List Int).getD ((F26 ⟨r1.b,r1.p⟩ 7).1).toNat default) ((F52 ⟨r1.b,(F26 ⟨r1.b,r1.p⟩ 7).2⟩ (([2,3,4,5,6,8,1]:List Int).getD ((F26 ⟨r1.b,r1.p⟩ 7).1).toNat default)).1)) (ok51 (([2,3,4,5,6,8,1]:List Int).getD ((F26 ⟨r1.b,r1.p⟩ 7).1).toNat default) ((F52 ⟨r1.b,(F26 ⟨r1.b,r1.p⟩ 7).2⟩ (([2,3,4,5,6,8,1]:List Int).getD ((F26 ⟨r1.b,r1.p⟩ 7).1).toNat default)).1)) none)]) (.seq (.no) (.no))))) Tryz.func23 (fun (hp:0≤r1.p∧r1.p≤800000000∧r1.b.length≤2000)=>(fun (hpre0:0≤r1.p) (hpre1:r1.p≤800000000) (hpre2:r1.b.length≤2000)=>fun (_:r1.b.length≤9223372036854775807)=>ai ((BuildOK.mk eInt ([2,3,4,5,6,8,1]:List Int) rfl (by exact ai ir (ai ir (ai ir (ai ir (ai ir (ai ir (ai ir (trivial)))))))) (fun _=>rfl):BuildOK 7 1 [.v (vI 2),.v (vI 3),.v (vI 4),.v (vI 5),.v (vI 6),.v (vI 8),.v (vI 1)] (.l 1 eInt ([2,3,4,5,6,8,1]:List Int)))) (ai ((ai ((by omega:0≤r1.p)) (ai ((by omega:r1.p≤1000000000)) ((by omega:r1.b.length≤2000))))) (ai ((Eq.refl (sv r1X))) (ai ((Imp.refl (.l 1 eByte r1.b))) (ai ((Imps.refl [.v (vI r1.p)])) (ai ((Imp.refl (.v (vI 7)))) ((fun gv1:0≤((F26 ⟨r1.b,r1.p⟩ 7)).1∧(1≤(7:Int)→((F26 ⟨r1.b,r1.p⟩ 7)).1<(7:Int))∧((F26 ⟨r1.b,r1.p⟩ 7)).2=r1.p+1=>ai ((by first | omega | (simp only [List.length_cons,List.length_nil]; omega):0≤(F26 ⟨r1.b,r1.p⟩ 7).1∧(F26 ⟨r1.b,r1.p⟩ 7).1<(([2,3,4,5,6,8,1]:List Int).length:Int))) (ai ((ai ((by first | omega | exact (tbl7 (by omega) (by omega)).1 | exact (tbl7 (by omega) (by omega)).2:0≤((F26 ⟨r1.b,r1.p⟩ 7).2))) (ai ((by first | omega | exact (tbl7 (by omega) (by omega)).1 | exact (tbl7 (by omega) (by omega)).2:((F26 ⟨r1.b,r1.p⟩ 7).2)≤900000000)) (ai ((by first | omega | exact (tbl7 (by omega) (by omega)).1 | exact (tbl7 (by omega) (by omega)).2:r1.b.length≤2000)) (ai ((by first | omega | exact (tbl7 (by omega) (by omega)).1 | exact (tbl7 (by omega) (by omega)).2:1≤(([2,3,4,5,6,8,1]:List Int).getD ((F26 ⟨r1.b,r1.p⟩ 7).1).toNat default))) ((by first | omega | exact (tbl7 (by omega) (by omega)).1 | exact (tbl7 (by omega) (by omega)).2:(([2,3,4,5,6,8,1]:List Int).getD ((F26 ⟨r1.b,r1.p⟩ 7).1).toNat default)≤8))))))) (ai ((Eq.refl (sv r1X))) (ai ((Imp.refl (.l 1 eByte r1.b))) (ai ((Imps.refl [.v (vI ((F26 ⟨r1.b,r1.p⟩ 7).2))])) (ai ((Imp.refl (.v (vI (([2,3,4,5,6,8,1]:List Int).getD ((F26 ⟨r1.b,r1.p⟩ 7).1).toNat default))))) ((fun gv2:((F52 ⟨r1.b,(F26 ⟨r1.b,r1.p⟩ 7).2⟩ (([2,3,4,5,6,8,1]:List Int).getD ((F26 ⟨r1.b,r1.p⟩ 7).1).toNat default))).1.length≤14∧((F26 ⟨r1.b,r1.p⟩ 7).2)≤((F52 ⟨r1.b,(F26 ⟨r1.b,r1.p⟩ 7).2⟩ (([2,3,4,5,6,8,1]:List Int).getD ((F26 ⟨r1.b,r1.p⟩ 7).1).toNat default))).2∧((F52 ⟨r1.b,(F26 ⟨r1.b,r1.p⟩ 7).2⟩ (([2,3,4,5,6,8,1]:List Int).getD ((F26 ⟨r1.b,r1.p⟩ 7).1).toNat default))).2≤((F26 ⟨r1.b,r1.p⟩ 7).2)+40=>ai (((by omega:((F52 ⟨r1.b,(F26 ⟨r1.b,r1.p⟩ 7).2⟩ (([2,3,4,5,6,8,1]:List Int).getD ((F26 ⟨r1.b,r1.p⟩ 7).1).toNat default)).1).length≤1000000000))) (ai ((Imp.refl (.v (vI (([2,3,4,5,6,8,1]:List Int).getD ((F26 ⟨r1.b,r1.p⟩ 7).1).toNat default))))) (ai ((Imp.refl (.l 2 eLabLink ((F52 ⟨r1.b,(F26 ⟨r1.b,r1.p⟩ 7).2⟩ (([2,3,4,5,6,8,1]:List Int).getD ((F26 ⟨r1.b,r1.p⟩ 7).1).toNat default)).1)))) ((fun hF:(((F51 (([2,3,4,5,6,8,1]:List Int).getD ((F26 ⟨r1.b,r1.p⟩ 7).1).toNat default) ((F52 ⟨r1.b,(F26 ⟨r1.b,r1.p⟩ 7).2⟩ (([2,3,4,5,6,8,1]:List Int).getD ((F26 ⟨r1.b,r1.p⟩ 7).1).toNat default)).1)).1),(F52 ⟨r1.b,(F26 ⟨r1.b,r1.p⟩ 7).2⟩ (([2,3,4,5,6,8,1]:List Int).getD ((F26 ⟨r1.b,r1.p⟩ 7).1).toNat default)).2)=(F23 r1)=>ai (Imp.of_eq (congrArg (fun r:LabNet×Int=>Dat.l 2 eLabLink r.1.Links) hF)) (ai (Imp.of_eq (congrArg (fun r:LabNet×Int=>Dat.l 2 eLabBox r.1.Boxes) hF)) (ai (ai (Imp.refl (Dat.v (sv r1X))) (ai (Imp.of_eq (congrArg (fun r:LabNet×Int=>Dat.v (vI r.2)) hF)) (trivial))) (trivial)))) (rfl))))) (links_b (⟨r1.b,(F26 ⟨r1.b,r1.p⟩ 7).2⟩:l71Rd) (([2,3,4,5,6,8,1]:List Int).getD ((F26 ⟨r1.b,r1.p⟩ 7).1).toNat default) (by first | omega | exact (tbl7 (by omega) (by omega)).1 | exact (tbl7 (by omega) (by omega)).2:0≤((F26 ⟨r1.b,r1.p⟩ 7).2)) (by first | omega | exact (tbl7 (by omega) (by omega)).1 | exact (tbl7 (by omega) (by omega)).2:((F26 ⟨r1.b,r1.p⟩ 7).2)≤900000000) (by first | omega | exact (tbl7 (by omega) (by omega)).1 | exact (tbl7 (by omega) (by omega)).2:1≤(([2,3,4,5,6,8,1]:List Int).getD ((F26 ⟨r1.b,r1.p⟩ 7).1).toNat default)) (by first | omega | exact (tbl7 (by omega) (by omega)).1 | exact (tbl7 (by omega) (by omega)).2:(([2,3,4,5,6,8,1]:List Int).getD ((F26 ⟨r1.b,r1.p⟩ 7).1).toNat default)≤8))))))))) (pick_in ⟨r1.b,r1.p⟩ 7 (by omega:0≤r1.p) (by omega:r1.p≤1000000000))))))))) hp.1 hp.2.1 hp.2.2) (by kernel_rfl)
theorem frame_links {boxes:Int} {t:List LabLink} (h:LinksOk boxes t) (hl:t.length≤14) (h1:1≤boxes) (h8:boxes≤8):FrameOk ⟨t,List.replicate boxes.toNat (⟨[],[]⟩:LabBox)⟩:=by
 refine ⟨by simp only [List.length_replicate]; omega,by simp only [List.length_replicate]; omega,hl,fun k hk=>?_,fun k hk=>?_⟩
 ·have:=h.ok _ (getD_mem t hk)
  unfold LOk at this
  simp only [List.length_replicate]
  omega
 ·have a:=h.ok _ (getD_mem t (show k<t.length from Nat.lt_of_succ_lt hk))
  have b:=h.ok _ (getD_mem t hk)
  have c:=pair_inc h.inc k hk
  unfold LOk at a b
  unfold lkey at c
  simp only
  omega
theorem bare_net {boxes:Int} {t:List LabLink} (h:LinksOk boxes t) (hl:t.length≤14) (h1:1≤boxes) (h8:boxes≤8):NetOk ⟨t,List.replicate boxes.toNat (⟨[],[]⟩:LabBox)⟩:=by
 refine ⟨frame_links h hl h1 h8,fun i hi=>?_⟩
 have e:(List.replicate boxes.toNat (⟨[],[]⟩:LabBox)).getD i default=⟨[],[]⟩:=getD_rep _ _ rfl i
 refine ⟨fun k hk=>?_,fun k hk=>?_,fun k hk=>?_,fun k hk=>?_⟩ <;>
  ·simp only at hk
   rw [e] at hk
   exact absurd hk (by simp)
theorem bare_ok (r1:l71Rd) (h0:0≤r1.p) (h1:r1.p≤800000000):NetOk (F23 r1).1∧(∀ i:Nat,(F23 r1).1.Boxes.getD i default=(⟨[],[]⟩:LabBox))∧r1.p≤(F23 r1).2∧(F23 r1).2≤r1.p+50:=by
 unfold F23
 have p1:=pick_in (⟨r1.b,r1.p⟩:l71Rd) 7 h0 (by show r1.p≤_; omega)
 generalize F26 (⟨r1.b,r1.p⟩:l71Rd) 7=A at p1 ⊢
 obtain ⟨a,q1⟩:=A
 simp only at p1 ⊢
 have hb:=tbl7 p1.1 (p1.2.1 (by omega))
 generalize ([2,3,4,5,6,8,1]:List Int).getD a.toNat default=boxes at hb ⊢
 obtain ⟨l1,l2,l3,l4⟩:=links_ok (⟨r1.b,q1⟩:l71Rd) boxes (by show 0≤q1; omega) (by show q1≤_; omega) hb.1 hb.2
 generalize F52 (⟨r1.b,q1⟩:l71Rd) boxes=L at l1 l2 l3 l4 ⊢
 obtain ⟨t,q2⟩:=L
 simp only at l1 l2 l3 l4 ⊢
 have hn:=bare_net l1 l2 hb.1 hb.2
 have hf:F66 (⟨t,List.replicate boxes.toNat (⟨[],[]⟩:LabBox)⟩:LabNet)=true:=frame_ok.2 hn.frame
 unfold F51
 rw [decide_eq_true hb,hf]
 simp only [Bool.not_true,cond_false]
 exact ⟨hn,fun i=>getD_rep _ _ rfl i,by omega,by omega⟩
theorem bare_n (r1:l71Rd) (h0:0≤r1.p) (h1:r1.p≤800000000):NetOk (F23 r1).1:=(bare_ok r1 h0 h1).1
theorem bare_b (r1:l71Rd) (h0:0≤r1.p) (h1:r1.p≤800000000):1≤(F23 r1).1.Boxes.length∧(F23 r1).1.Boxes.length≤8∧r1.p≤(F23 r1).2∧(F23 r1).2≤r1.p+50:=by
 obtain ⟨a,_,b,c⟩:=bare_ok r1 h0 h1
 exact ⟨a.frame.b1,a.frame.b8,b,c⟩
def F6 (codeX:SV) (code:List Int):LabNet×List Int×List Int :=
 (((F23 ⟨(F22 codeX code).1.b,(F22 codeX code).1.p⟩).1),(F24 ⟨(F22 codeX code).1.b,(F23 ⟨(F22 codeX code).1.b,(F22 codeX code).1.p⟩).2⟩ ((F23 ⟨(F22 codeX code).1.b,(F22 codeX code).1.p⟩).1)).1,(wayOf ((F23 ⟨(F22 codeX code).1.b,(F22 codeX code).1.p⟩).1) (((F24 ⟨(F22 codeX code).1.b,(F23 ⟨(F22 codeX code).1.b,(F22 codeX code).1.p⟩).2⟩ ((F23 ⟨(F22 codeX code).1.b,(F22 codeX code).1.p⟩).1)).1).getD ((((F24 ⟨(F22 codeX code).1.b,(F23 ⟨(F22 codeX code).1.b,(F22 codeX code).1.p⟩).2⟩ ((F23 ⟨(F22 codeX code).1.b,(F22 codeX code).1.p⟩).1)).1).length:Int)-1).toNat default) ((F26 ⟨(F22 codeX code).1.b,(F24 ⟨(F22 codeX code).1.b,(F23 ⟨(F22 codeX code).1.b,(F22 codeX code).1.p⟩).2⟩ ((F23 ⟨(F22 codeX code).1.b,(F22 codeX code).1.p⟩).1)).2⟩ ((((F23 ⟨(F22 codeX code).1.b,(F22 codeX code).1.p⟩).1).Boxes).length:Int)).1) (-1)))
def S6 (codeX:SV) (code:List Int):Spec:=⟨[.vl (sv codeX) (.l 1 eByte code)],.tu [.ag [.ow (.l 2 eLabLink (((F6 codeX code).1).Links)),.ow (.l 2 eLabBox (((F6 codeX code).1).Boxes))],.ow (.l 1 eInt ((F6 codeX code).2.1)),.ow (.l 1 eInt ((F6 codeX code).2.2))],True⟩
theorem ok6 (codeX:SV) (code:List Int):(S6 codeX code).ok Tryz.prog 6 :=
 fnG_ok mixed (fn:=Tryz.f6) (ct:=.seqk [(0,0)] (.no) (.seqg 10 0 1000001 (sv ((F22 codeX code).2)) (.l 1 eByte ((F22 codeX code).1.b)) (.reg [(1,.call 22 (S22 codeX code) (ok22 codeX code) none)]) (.seq (.reg [(1,.call 23 (S23 ((F22 codeX code).2) 1000001 (⟨(F22 codeX code).1.b,(F22 codeX code).1.p⟩:l71Rd)) (ok23 ((F22 codeX code).2) 1000001 (⟨(F22 codeX code).1.b,(F22 codeX code).1.p⟩:l71Rd)) none)]) (.seq (.reg [(2,.call 24 (S24 ((F22 codeX code).2) 1000001 (⟨(F22 codeX code).1.b,(F23 ⟨(F22 codeX code).1.b,(F22 codeX code).1.p⟩).2⟩:l71Rd) ((F23 ⟨(F22 codeX code).1.b,(F22 codeX code).1.p⟩).1)) (ok24 ((F22 codeX code).2) 1000001 (⟨(F22 codeX code).1.b,(F23 ⟨(F22 codeX code).1.b,(F22 codeX code).1.p⟩).2⟩:l71Rd) ((F23 ⟨(F22 codeX code).1.b,(F22 codeX code).1.p⟩).1)) none)]) (.seq (.reg [(4,.bnd),(11,.call 26 (S26 ((F22 codeX code).2) 1000001 (⟨(F22 codeX code).1.b,(F24 ⟨(F22 codeX code).1.b,(F23 ⟨(F22 codeX code).1.b,(F22 codeX code).1.p⟩).2⟩ ((F23 ⟨(F22 codeX code).1.b,(F22 codeX code).1.p⟩).1)).2⟩:l71Rd) ((((F23 ⟨(F22 codeX code).1.b,(F22 codeX code).1.p⟩).1).Boxes).length:Int)) (ok26 ((F22 codeX code).2) 1000001 (⟨(F22 codeX code).1.b,(F24 ⟨(F22 codeX code).1.b,(F23 ⟨(F22 codeX code).1.b,(F22 codeX code).1.p⟩).2⟩ ((F23 ⟨(F22 codeX code).1.b,(F22 codeX code).1.p⟩).1)).2⟩:l71Rd) ((((F23 ⟨(F22 codeX code).1.b,(F22 codeX code).1.p⟩).1).Boxes).length:Int)) none),(12,.call 25 (S25 (wayOf ((F23 ⟨(F22 codeX code).1.b,(F22 codeX code).1.p⟩).1) (((F24 ⟨(F22 codeX code).1.b,(F23 ⟨(F22 codeX code).1.b,(F22 codeX code).1.p⟩).2⟩ ((F23 ⟨(F22 codeX code).1.b,(F22 codeX code).1.p⟩).1)).1).getD ((((F24 ⟨(F22 codeX code).1.b,(F23 ⟨(F22 codeX code).1.b,(F22 codeX code).1.p⟩).2⟩ ((F23 ⟨(F22 codeX code).1.b,(F22 codeX code).1.p⟩).1)).1).length:Int)-1).toNat default) ((F26 ⟨(F22 codeX code).1.b,(F24 ⟨(F22 codeX code).1.b,(F23 ⟨(F22 codeX code).1.b,(F22 codeX code).1.p⟩).2⟩ ((F23 ⟨(F22 codeX code).1.b,(F22 codeX code).1.p⟩).1)).2⟩ ((((F23 ⟨(F22 codeX code).1.b,(F22 codeX code).1.p⟩).1).Boxes).length:Int)).1) (-1)) ((F23 ⟨(F22 codeX code).1.b,(F22 codeX code).1.p⟩).1) (((F24 ⟨(F22 codeX code).1.b,(F23 ⟨(F22 codeX code).1.b,(F22 codeX code).1.p⟩).2⟩ ((F23 ⟨(F22 codeX code).1.b,(F22 codeX code).1.p⟩).1)).1).getD ((((F24 ⟨(F22 codeX code).1.b,(F23 ⟨(F22 codeX code).1.b,(F22 codeX code).1.p⟩).2⟩ ((F23 ⟨(F22 codeX code).1.b,(F22 codeX code).1.p⟩).1)).1).length:Int)-1).toNat default) ((F26 ⟨(F22 codeX code).1.b,(F24 ⟨(F22 codeX code).1.b,(F23 ⟨(F22 codeX code).1.b,(F22 codeX code).1.p⟩).2⟩ ((F23 ⟨(F22 codeX code).1.b,(F22 codeX code).1.p⟩).1)).2⟩ ((((F23 ⟨(F22 codeX code).1.b,(F22 codeX code).1.p⟩).1).Boxes).length:Int)).1) (-1)) (oa25 ((F23 ⟨(F22 codeX code).1.b,(F22 codeX code).1.p⟩).1) (((F24 ⟨(F22 codeX code).1.b,(F23 ⟨(F22 codeX code).1.b,(F22 codeX code).1.p⟩).2⟩ ((F23 ⟨(F22 codeX code).1.b,(F22 codeX code).1.p⟩).1)).1).getD ((((F24 ⟨(F22 codeX code).1.b,(F23 ⟨(F22 codeX code).1.b,(F22 codeX code).1.p⟩).2⟩ ((F23 ⟨(F22 codeX code).1.b,(F22 codeX code).1.p⟩).1)).1).length:Int)-1).toNat default) ((F26 ⟨(F22 codeX code).1.b,(F24 ⟨(F22 codeX code).1.b,(F23 ⟨(F22 codeX code).1.b,(F22 codeX code).1.p⟩).2⟩ ((F23 ⟨(F22 codeX code).1.b,(F22 codeX code).1.p⟩).1)).2⟩ ((((F23 ⟨(F22 codeX code).1.b,(F22 codeX code).1.p⟩).1).Boxes).length:Int)).1) (-1)) none)]) (.seq (.no) (.no))))))) Tryz.func6 (fun (_:True)=>fun (_:code.length≤9223372036854775807)=>ai (trivial) (ai ((Eq.refl (sv codeX))) (ai ((Imp.refl (.l 1 eByte code))) ((fun gv1:((F22 codeX code)).1.b.length≤2000∧((F22 codeX code)).1.p=0=>ai (Eq.refl (sv ((F22 codeX code).2))) (ai (gd22 codeX code) (ai ((ai ((by omega:0≤((F22 codeX code).1.p))) (ai ((by omega:((F22 codeX code).1.p)≤800000000)) ((by omega:((F22 codeX code).1.b).length≤2000))))) (ai ((Eq.refl (sv ((F22 codeX code).2)))) (ai ((Imp.refl (.l 1 eByte ((F22 codeX code).1.b)))) (ai ((Imps.refl [.v (vI ((F22 codeX code).1.p))])) ((fun gv2:NetOk ((F23 ⟨(F22 codeX code).1.b,(F22 codeX code).1.p⟩)).1=>(fun gv3:1≤((F23 ⟨(F22 codeX code).1.b,(F22 codeX code).1.p⟩)).1.Boxes.length∧((F23 ⟨(F22 codeX code).1.b,(F22 codeX code).1.p⟩)).1.Boxes.length≤8∧((F22 codeX code).1.p)≤((F23 ⟨(F22 codeX code).1.b,(F22 codeX code).1.p⟩)).2∧((F23 ⟨(F22 codeX code).1.b,(F22 codeX code).1.p⟩)).2≤((F22 codeX code).1.p)+50=>ai ((ai ((by omega:0≤((F23 ⟨(F22 codeX code).1.b,(F22 codeX code).1.p⟩).2))) (ai ((by omega:((F23 ⟨(F22 codeX code).1.b,(F22 codeX code).1.p⟩).2)≤900000000)) (ai ((by omega:((F22 codeX code).1.b).length≤2000)) ((by omega:((F23 ⟨(F22 codeX code).1.b,(F22 codeX code).1.p⟩).1).Boxes.length≤1000)))))) (ai ((Eq.refl (sv ((F22 codeX code).2)))) (ai ((Imp.refl (.l 1 eByte ((F22 codeX code).1.b)))) (ai ((Imps.refl [.v (vI ((F23 ⟨(F22 codeX code).1.b,(F22 codeX code).1.p⟩).2))])) (ai ((Imps.refl (eLabNet ((F23 ⟨(F22 codeX code).1.b,(F22 codeX code).1.p⟩).1)))) ((fun gv4:((F23 ⟨(F22 codeX code).1.b,(F22 codeX code).1.p⟩).2)≤((F24 ⟨(F22 codeX code).1.b,(F23 ⟨(F22 codeX code).1.b,(F22 codeX code).1.p⟩).2⟩ ((F23 ⟨(F22 codeX code).1.b,(F22 codeX code).1.p⟩).1))).2∧((F24 ⟨(F22 codeX code).1.b,(F23 ⟨(F22 codeX code).1.b,(F22 codeX code).1.p⟩).2⟩ ((F23 ⟨(F22 codeX code).1.b,(F22 codeX code).1.p⟩).1))).2≤((F23 ⟨(F22 codeX code).1.b,(F22 codeX code).1.p⟩).2)+10∧((F24 ⟨(F22 codeX code).1.b,(F23 ⟨(F22 codeX code).1.b,(F22 codeX code).1.p⟩).2⟩ ((F23 ⟨(F22 codeX code).1.b,(F22 codeX code).1.p⟩).1))).1.length≤8∧(1≤((F23 ⟨(F22 codeX code).1.b,(F22 codeX code).1.p⟩).1).Boxes.length→1≤((F24 ⟨(F22 codeX code).1.b,(F23 ⟨(F22 codeX code).1.b,(F22 codeX code).1.p⟩).2⟩ ((F23 ⟨(F22 codeX code).1.b,(F22 codeX code).1.p⟩).1))).1.length∧0≤((F24 ⟨(F22 codeX code).1.b,(F23 ⟨(F22 codeX code).1.b,(F22 codeX code).1.p⟩).2⟩ ((F23 ⟨(F22 codeX code).1.b,(F22 codeX code).1.p⟩).1))).1.getD ((((F24 ⟨(F22 codeX code).1.b,(F23 ⟨(F22 codeX code).1.b,(F22 codeX code).1.p⟩).2⟩ ((F23 ⟨(F22 codeX code).1.b,(F22 codeX code).1.p⟩).1))).1.length:Int)-1).toNat default∧((F24 ⟨(F22 codeX code).1.b,(F23 ⟨(F22 codeX code).1.b,(F22 codeX code).1.p⟩).2⟩ ((F23 ⟨(F22 codeX code).1.b,(F22 codeX code).1.p⟩).1))).1.getD ((((F24 ⟨(F22 codeX code).1.b,(F23 ⟨(F22 codeX code).1.b,(F22 codeX code).1.p⟩).2⟩ ((F23 ⟨(F22 codeX code).1.b,(F22 codeX code).1.p⟩).1))).1.length:Int)-1).toNat default<(((F23 ⟨(F22 codeX code).1.b,(F22 codeX code).1.p⟩).1).Boxes.length:Int))=>ai ((by unfold i64ok; omega:i64ok ((((F24 ⟨(F22 codeX code).1.b,(F23 ⟨(F22 codeX code).1.b,(F22 codeX code).1.p⟩).2⟩ ((F23 ⟨(F22 codeX code).1.b,(F22 codeX code).1.p⟩).1)).1).length:Int)-1))) (ai ((by omega:0≤((((F24 ⟨(F22 codeX code).1.b,(F23 ⟨(F22 codeX code).1.b,(F22 codeX code).1.p⟩).2⟩ ((F23 ⟨(F22 codeX code).1.b,(F22 codeX code).1.p⟩).1)).1).length:Int)-1)∧((((F24 ⟨(F22 codeX code).1.b,(F23 ⟨(F22 codeX code).1.b,(F22 codeX code).1.p⟩).2⟩ ((F23 ⟨(F22 codeX code).1.b,(F22 codeX code).1.p⟩).1)).1).length:Int)-1)<(((F24 ⟨(F22 codeX code).1.b,(F23 ⟨(F22 codeX code).1.b,(F22 codeX code).1.p⟩).2⟩ ((F23 ⟨(F22 codeX code).1.b,(F22 codeX code).1.p⟩).1)).1).length:Int))) (ai ((ai ((by omega:0≤((F24 ⟨(F22 codeX code).1.b,(F23 ⟨(F22 codeX code).1.b,(F22 codeX code).1.p⟩).2⟩ ((F23 ⟨(F22 codeX code).1.b,(F22 codeX code).1.p⟩).1)).2))) (ai ((by omega:((F24 ⟨(F22 codeX code).1.b,(F23 ⟨(F22 codeX code).1.b,(F22 codeX code).1.p⟩).2⟩ ((F23 ⟨(F22 codeX code).1.b,(F22 codeX code).1.p⟩).1)).2)≤1000000000)) ((by omega:((F22 codeX code).1.b).length≤2000))))) (ai ((Eq.refl (sv ((F22 codeX code).2)))) (ai ((Imp.refl (.l 1 eByte ((F22 codeX code).1.b)))) (ai ((Imps.refl [.v (vI ((F24 ⟨(F22 codeX code).1.b,(F23 ⟨(F22 codeX code).1.b,(F22 codeX code).1.p⟩).2⟩ ((F23 ⟨(F22 codeX code).1.b,(F22 codeX code).1.p⟩).1)).2))])) (ai ((Imp.refl (.v (vI ((((F23 ⟨(F22 codeX code).1.b,(F22 codeX code).1.p⟩).1).Boxes).length:Int))))) ((fun gv5:0≤((F26 ⟨(F22 codeX code).1.b,(F24 ⟨(F22 codeX code).1.b,(F23 ⟨(F22 codeX code).1.b,(F22 codeX code).1.p⟩).2⟩ ((F23 ⟨(F22 codeX code).1.b,(F22 codeX code).1.p⟩).1)).2⟩ ((((F23 ⟨(F22 codeX code).1.b,(F22 codeX code).1.p⟩).1).Boxes).length:Int))).1∧(1≤((((F23 ⟨(F22 codeX code).1.b,(F22 codeX code).1.p⟩).1).Boxes).length:Int)→((F26 ⟨(F22 codeX code).1.b,(F24 ⟨(F22 codeX code).1.b,(F23 ⟨(F22 codeX code).1.b,(F22 codeX code).1.p⟩).2⟩ ((F23 ⟨(F22 codeX code).1.b,(F22 codeX code).1.p⟩).1)).2⟩ ((((F23 ⟨(F22 codeX code).1.b,(F22 codeX code).1.p⟩).1).Boxes).length:Int))).1<((((F23 ⟨(F22 codeX code).1.b,(F22 codeX code).1.p⟩).1).Boxes).length:Int))∧((F26 ⟨(F22 codeX code).1.b,(F24 ⟨(F22 codeX code).1.b,(F23 ⟨(F22 codeX code).1.b,(F22 codeX code).1.p⟩).2⟩ ((F23 ⟨(F22 codeX code).1.b,(F22 codeX code).1.p⟩).1)).2⟩ ((((F23 ⟨(F22 codeX code).1.b,(F22 codeX code).1.p⟩).1).Boxes).length:Int))).2=((F24 ⟨(F22 codeX code).1.b,(F23 ⟨(F22 codeX code).1.b,(F22 codeX code).1.p⟩).2⟩ ((F23 ⟨(F22 codeX code).1.b,(F22 codeX code).1.p⟩).1)).2)+1=>ai ((ai ((by first | assumption | exact NetOk.frame (by assumption):FrameOk ((F23 ⟨(F22 codeX code).1.b,(F22 codeX code).1.p⟩).1))) (ai ((by omega:((F23 ⟨(F22 codeX code).1.b,(F22 codeX code).1.p⟩).1).Boxes.length≤8)) (ai ((by omega:0≤(((F24 ⟨(F22 codeX code).1.b,(F23 ⟨(F22 codeX code).1.b,(F22 codeX code).1.p⟩).2⟩ ((F23 ⟨(F22 codeX code).1.b,(F22 codeX code).1.p⟩).1)).1).getD ((((F24 ⟨(F22 codeX code).1.b,(F23 ⟨(F22 codeX code).1.b,(F22 codeX code).1.p⟩).2⟩ ((F23 ⟨(F22 codeX code).1.b,(F22 codeX code).1.p⟩).1)).1).length:Int)-1).toNat default))) (ai ((by omega:(((F24 ⟨(F22 codeX code).1.b,(F23 ⟨(F22 codeX code).1.b,(F22 codeX code).1.p⟩).2⟩ ((F23 ⟨(F22 codeX code).1.b,(F22 codeX code).1.p⟩).1)).1).getD ((((F24 ⟨(F22 codeX code).1.b,(F23 ⟨(F22 codeX code).1.b,(F22 codeX code).1.p⟩).2⟩ ((F23 ⟨(F22 codeX code).1.b,(F22 codeX code).1.p⟩).1)).1).length:Int)-1).toNat default)<(((F23 ⟨(F22 codeX code).1.b,(F22 codeX code).1.p⟩).1).Boxes.length:Int))) (ai ((by omega:0≤((F26 ⟨(F22 codeX code).1.b,(F24 ⟨(F22 codeX code).1.b,(F23 ⟨(F22 codeX code).1.b,(F22 codeX code).1.p⟩).2⟩ ((F23 ⟨(F22 codeX code).1.b,(F22 codeX code).1.p⟩).1)).2⟩ ((((F23 ⟨(F22 codeX code).1.b,(F22 codeX code).1.p⟩).1).Boxes).length:Int)).1))) ((by omega:((F26 ⟨(F22 codeX code).1.b,(F24 ⟨(F22 codeX code).1.b,(F23 ⟨(F22 codeX code).1.b,(F22 codeX code).1.p⟩).2⟩ ((F23 ⟨(F22 codeX code).1.b,(F22 codeX code).1.p⟩).1)).2⟩ ((((F23 ⟨(F22 codeX code).1.b,(F22 codeX code).1.p⟩).1).Boxes).length:Int)).1)<(((F23 ⟨(F22 codeX code).1.b,(F22 codeX code).1.p⟩).1).Boxes.length:Int))))))))) (ai ((Imps.refl (eLabNet ((F23 ⟨(F22 codeX code).1.b,(F22 codeX code).1.p⟩).1)))) (ai ((Imp.refl (.v (vI (((F24 ⟨(F22 codeX code).1.b,(F23 ⟨(F22 codeX code).1.b,(F22 codeX code).1.p⟩).2⟩ ((F23 ⟨(F22 codeX code).1.b,(F22 codeX code).1.p⟩).1)).1).getD ((((F24 ⟨(F22 codeX code).1.b,(F23 ⟨(F22 codeX code).1.b,(F22 codeX code).1.p⟩).2⟩ ((F23 ⟨(F22 codeX code).1.b,(F22 codeX code).1.p⟩).1)).1).length:Int)-1).toNat default))))) (ai ((Imp.refl (.v (vI ((F26 ⟨(F22 codeX code).1.b,(F24 ⟨(F22 codeX code).1.b,(F23 ⟨(F22 codeX code).1.b,(F22 codeX code).1.p⟩).2⟩ ((F23 ⟨(F22 codeX code).1.b,(F22 codeX code).1.p⟩).1)).2⟩ ((((F23 ⟨(F22 codeX code).1.b,(F22 codeX code).1.p⟩).1).Boxes).length:Int)).1))))) (ai ((Imp.refl (.v (vI (-1))))) ((fun hF:(((F23 ⟨(F22 codeX code).1.b,(F22 codeX code).1.p⟩).1),(F24 ⟨(F22 codeX code).1.b,(F23 ⟨(F22 codeX code).1.b,(F22 codeX code).1.p⟩).2⟩ ((F23 ⟨(F22 codeX code).1.b,(F22 codeX code).1.p⟩).1)).1,(wayOf ((F23 ⟨(F22 codeX code).1.b,(F22 codeX code).1.p⟩).1) (((F24 ⟨(F22 codeX code).1.b,(F23 ⟨(F22 codeX code).1.b,(F22 codeX code).1.p⟩).2⟩ ((F23 ⟨(F22 codeX code).1.b,(F22 codeX code).1.p⟩).1)).1).getD ((((F24 ⟨(F22 codeX code).1.b,(F23 ⟨(F22 codeX code).1.b,(F22 codeX code).1.p⟩).2⟩ ((F23 ⟨(F22 codeX code).1.b,(F22 codeX code).1.p⟩).1)).1).length:Int)-1).toNat default) ((F26 ⟨(F22 codeX code).1.b,(F24 ⟨(F22 codeX code).1.b,(F23 ⟨(F22 codeX code).1.b,(F22 codeX code).1.p⟩).2⟩ ((F23 ⟨(F22 codeX code).1.b,(F22 codeX code).1.p⟩).1)).2⟩ ((((F23 ⟨(F22 codeX code).1.b,(F22 codeX code).1.p⟩).1).Boxes).length:Int)).1) (-1)))=(F6 codeX code)=>ai (Imp.of_eq (congrArg (fun r:LabNet×List Int×List Int=>Dat.l 2 eLabLink r.1.Links) hF)) (ai (Imp.of_eq (congrArg (fun r:LabNet×List Int×List Int=>Dat.l 2 eLabBox r.1.Boxes) hF)) (ai (Imp.of_eq (congrArg (fun r:LabNet×List Int×List Int=>Dat.l 1 eInt r.2.1) hF)) (ai (Imp.of_eq (congrArg (fun r:LabNet×List Int×List Int=>Dat.l 1 eInt r.2.2) hF)) (trivial))))) (rfl))))))) (pick_in ⟨(F22 codeX code).1.b,(F24 ⟨(F22 codeX code).1.b,(F23 ⟨(F22 codeX code).1.b,(F22 codeX code).1.p⟩).2⟩ ((F23 ⟨(F22 codeX code).1.b,(F22 codeX code).1.p⟩).1)).2⟩ ((((F23 ⟨(F22 codeX code).1.b,(F22 codeX code).1.p⟩).1).Boxes).length:Int) (by omega:0≤((F24 ⟨(F22 codeX code).1.b,(F23 ⟨(F22 codeX code).1.b,(F22 codeX code).1.p⟩).2⟩ ((F23 ⟨(F22 codeX code).1.b,(F22 codeX code).1.p⟩).1)).2)) (by omega:((F24 ⟨(F22 codeX code).1.b,(F23 ⟨(F22 codeX code).1.b,(F22 codeX code).1.p⟩).2⟩ ((F23 ⟨(F22 codeX code).1.b,(F22 codeX code).1.p⟩).1)).2)≤1000000000)))))))))) (path_q (⟨(F22 codeX code).1.b,(F23 ⟨(F22 codeX code).1.b,(F22 codeX code).1.p⟩).2⟩:l71Rd) ((F23 ⟨(F22 codeX code).1.b,(F22 codeX code).1.p⟩).1) (by omega:0≤((F23 ⟨(F22 codeX code).1.b,(F22 codeX code).1.p⟩).2)) (by omega:((F23 ⟨(F22 codeX code).1.b,(F22 codeX code).1.p⟩).2)≤900000000) (by omega:((F23 ⟨(F22 codeX code).1.b,(F22 codeX code).1.p⟩).1).Boxes.length≤1000)))))))) (bare_b (⟨(F22 codeX code).1.b,(F22 codeX code).1.p⟩:l71Rd) (by omega:0≤((F22 codeX code).1.p)) (by omega:((F22 codeX code).1.p)≤800000000))) (bare_n (⟨(F22 codeX code).1.b,(F22 codeX code).1.p⟩:l71Rd) (by omega:0≤((F22 codeX code).1.p)) (by omega:((F22 codeX code).1.p)≤800000000))))))))) (open_b codeX code))))) (by kernel_rfl)
def bx (n:LabNet) (i:Int):LabBox:=n.Boxes.getD i.toNat default
theorem bx_ok {n:LabNet} (h:NetOk n) {i:Int} (h0:0≤i) (h1:i<(n.Boxes.length:Int)):BoxP n i (bx n i):=by
 have hb:=boxP_ok.1 (h.box i.toNat (by omega))
 rwa [show ((Int.toNat i:Nat):Int)=i from by omega] at hb
theorem rowP_mem {n:LabNet} (h:NetOk n) {i:Int} (h0:0≤i) (h1:i<(n.Boxes.length:Int)) {r:LabRow} (hr:r∈(bx n i).Rows):rowP (bx n i) r.In=(r,true):=by
 obtain ⟨⟨_,hpw⟩,_⟩:=bx_ok h h0 h1
 obtain ⟨j,hj,ej⟩:=mem_getD hr
 unfold rowP rowIx
 cases e:first (fun k=>decide (((bx n i).Rows.getD k default).In=r.In)) (bx n i).Rows.length with
 | none =>
  have:=first_none.1 e j hj
  rw [ej] at this
  exact absurd rfl (of_decide_eq_false this)
 | some k =>
  obtain ⟨g1,g2,_⟩:=first_some.1 e
  have:(bx n i).Rows.getD k default=r:=pairK_uniq hpw (getD_mem _ g1) hr (of_decide_eq_true g2)
  simp only [this]
theorem guardP_mem {n:LabNet} (h:NetOk n) {i:Int} (h0:0≤i) (h1:i<(n.Boxes.length:Int)) {v:LabVia} (hr:v∈(bx n i).Guards):guardP (bx n i) v.To=(v,true):=by
 obtain ⟨_,_,hpw⟩:=bx_ok h h0 h1
 obtain ⟨j,hj,ej⟩:=mem_getD hr
 unfold guardP guardIx
 cases e:first (fun k=>decide (((bx n i).Guards.getD k default).To=v.To)) (bx n i).Guards.length with
 | none =>
  have:=first_none.1 e j hj
  rw [ej] at this
  exact absurd rfl (of_decide_eq_false this)
 | some k =>
  obtain ⟨g1,g2,_⟩:=first_some.1 e
  have:(bx n i).Guards.getD k default=v:=pairK_uniq hpw (getD_mem _ g1) hr (of_decide_eq_true g2)
  simp only [this]
theorem guardIx_none_iff {b:LabBox} {x:Int}:guardIx b x=none↔∀ v∈b.Guards,v.To≠x:=by
 unfold guardIx
 rw [first_none]
 constructor
 ·intro h v hv
  obtain ⟨k,hk,rfl⟩:=mem_getD hv
  exact of_decide_eq_false (h k hk)
 ·exact fun h k hk=>decide_eq_false (h _ (getD_mem _ hk))
structure Tun (n:LabNet) (p ls:List Int):Prop where
 one:1≤p.length
 len:ls.length=p.length
 rng:∀ i,i<p.length→0≤p.getD i default∧p.getD i default<(n.Boxes.length:Int)
 row:∀ i,i<p.length→rowAt p ls i∈(bx n (p.getD i default)).Rows
structure Sub (n n':LabNet):Prop where
 links:n'.Links=n.Links
 len:n'.Boxes.length=n.Boxes.length
 rows:∀ (i:Int) (r:LabRow),r∈(bx n i).Rows→r∈(bx n' i).Rows
 gds:∀ (i:Int) (v:LabVia),v∈(bx n i).Guards→v∈(bx n' i).Guards
theorem Sub.refl (n:LabNet):Sub n n:=⟨rfl,rfl,fun _ _ h=>h,fun _ _ h=>h⟩
theorem Sub.trans {a b c:LabNet} (h:Sub a b) (k:Sub b c):Sub a c:=⟨k.links.trans h.links,k.len.trans h.len,fun i r hr=>k.rows i r (h.rows i r hr),fun i v hv=>k.gds i v (h.gds i v hv)⟩
theorem Tun.mono {n n':LabNet} {p ls:List Int} (h:Tun n p ls) (hs:Sub n n'):Tun n' p ls :=
 ⟨h.one,h.len,fun i hi=>by rw [hs.len]; exact h.rng i hi,fun i hi=>hs.rows _ _ (h.row i hi)⟩
theorem linkOf_sub {n n':LabNet} (h:n'.Links=n.Links) (a b:Int):linkOf n' a b=linkOf n a b:=by
 unfold linkOf isLink
 rw [h]
theorem Sub.link {n n':LabNet} (h:Sub n n') (a b:Int):linkOf n' a b=linkOf n a b:=linkOf_sub h.links a b
theorem adj_sub {n n':LabNet} (hs:Sub n n') (w i j:Int):adj n' w i j↔adj n w i j:=by unfold adj; rw [hs.link]
theorem far_sub {n n':LabNet} (hs:Sub n n') (hf:FrameOk n) (hf':FrameOk n') {b:Int} (h0:0≤b) (h1:b<(n.Boxes.length:Int)) (w:Int):F54 n' b w=F54 n b w:=by
 have d1:=far_isDist n b w hf h0 h1
 have d2:=far_isDist n' b w hf' h0 (by rw [hs.len]; exact h1)
 refine IsDist.unique (n:=n) (b:=b) (w:=w) ?_ d1
 obtain ⟨a1,a2,a3,a4,a5,a6⟩:=d2
 rw [hs.len] at a1 a3 a4 a5 a6
 exact ⟨a1,a2,a3,fun k hk hp=>by
  obtain ⟨j,g1,g2,g3⟩:=a4 k hk hp
  exact ⟨j,g1,(adj_sub hs _ _ _).1 g2,g3⟩,a5,fun j k hj hk ha hq=>a6 j k hj hk ((adj_sub hs _ _ _).2 ha) hq⟩
theorem nextOf_sub {n n':LabNet} (hs:Sub n n') (f:List Int) (a w:Int):nextOf n' f a w=nextOf n f a w:=by
 unfold nextOf nextB
 simp only [hs.link]
theorem wayGo_sub {n n':LabNet} (hs:Sub n n') (f:List Int) (w:Int):∀ (m:Nat) (x:Int),wayGo n' f w m x=wayGo n f w m x
 | 0,_=>rfl
 | m+1,x=>by simp only [wayGo,nextOf_sub hs,wayGo_sub hs f w m]
theorem wayOf_sub {n n':LabNet} (hs:Sub n n') (hf:FrameOk n) (hf':FrameOk n') {b:Int} (h0:0≤b) (h1:b<(n.Boxes.length:Int)) (a w:Int):wayOf n' a b w=wayOf n a b w:=by
 unfold wayOf
 rw [far_sub hs hf hf' h0 h1]
 simp only [wayGo_sub hs]
theorem wayP_sub {n n':LabNet} (hs:Sub n n') (hf:FrameOk n) (hf':FrameOk n') {a b:Int} (hl:0≤linkOf n a b):wayP n' a b=wayP n a b:=by
 have:=linkOf_in hf hl
 unfold wayP
 rw [hs.link]
 exact wayOf_sub hs hf hf' this.2.2.1 this.2.2.2.1 a _
theorem layTo_skip {n:LabNet} {path:List Int} (labels:List Int) {k:Nat}:∀ m,(∀ i,i<m→Int.toNat (path.getD i default)≠k)→(layTo n path labels m).getD k default=n.Boxes.getD k default
 | 0,_=>rfl
 | m+1,h=>by
  rw [layTo,getD_set,if_neg (fun e=>h m (Nat.lt_succ_self _) e.1)]
  exact layTo_skip labels m fun i hi=>h i (by omega)
def laidP (n:LabNet) (path:List Int):LabNet:=⟨n.Links,layTo n path (labsOf n path) path.length⟩
theorem laid_box {n:LabNet} {path:List Int} (h:LayP n path (labsOf n path)) (i:Int):(∀ r∈(bx n i).Rows,r∈(bx (laidP n path) i).Rows)∧(bx (laidP n path) i).Rows.length≤(bx n i).Rows.length+1∧(bx (laidP n path) i).Guards=(bx n i).Guards:=by
 unfold bx laidP
 simp only
 by_cases hx:∃ j,j<path.length∧Int.toNat (path.getD j default)=Int.toNat i
 ·obtain ⟨j,hj,e⟩:=hx
  have hd:=layTo_done h.pth (labsOf n path) path.length j hj (Nat.le_refl _)
  rw [e] at hd
  rw [hd]
  exact ⟨fun r hr=>putK_mem.2 (.inl hr),by simp only [putK_len]; omega,rfl⟩
 ·rw [layTo_skip (labsOf n path) path.length fun j hj e=>hx ⟨j,hj,e⟩]
  exact ⟨fun r hr=>hr,by omega,rfl⟩
theorem laid_sub {n:LabNet} {path:List Int} (h:LayP n path (labsOf n path)):Sub n (laidP n path) :=
 ⟨rfl,layTo_len _ _ _ _,fun i r hr=>(laid_box h i).1 r hr,fun i v hv=>by rw [(laid_box h i).2.2]; exact hv⟩
theorem laid_tun {n:LabNet} {path:List Int} (h:LayP n path (labsOf n path)):Tun (laidP n path) path (labsOf n path):=by
 refine ⟨by have:=h.pth.two; omega,h.len,fun i hi=>by rw [(laid_sub h).len]; exact h.pth.rng i hi,fun i hi=>?_⟩
 unfold bx laidP
 simp only
 rw [layTo_done h.pth (labsOf n path) path.length i hi (Nat.le_refl _)]
 exact putK_mem.2 (.inr rfl)
theorem free_of_len {b:LabBox} (h:b.Rows.length≤59):freeOf b≠0:=by
 unfold freeOf
 cases e:first (fun k=>(rowIx b ((k:Int)+1)).isNone) 60 with
 | some k=>simp only; omega
 | none =>
  exfalso
  have hk:∀ k:Nat,k<60→∃ j,rowIx b ((k:Int)+1)=some j∧j<b.Rows.length∧(b.Rows.getD j default).In=(k:Int)+1:=fun k hk=>by
   have h1:=first_none.1 e k hk
   cases h2:rowIx b ((k:Int)+1) with
   | none=>rw [h2] at h1; cases h1
   | some j =>
    have h3:=first_some.1 h2
    exact ⟨j,rfl,h3.1,of_decide_eq_true h3.2.1⟩
  have hn:((List.range 60).map fun (k:Nat)=>(rowIx b ((k:Int)+1)).getD 0).Nodup:=by
   refine List.pairwise_iff_getElem.2 fun i j hi hj hij he=>?_
   simp only [List.length_map,List.length_range] at hi hj
   simp only [List.getElem_map,List.getElem_range] at he
   obtain ⟨x,x1,x2,x3⟩:=hk i hi
   obtain ⟨y,y1,y2,y3⟩:=hk j hj
   rw [x1,y1] at he
   simp only [Option.getD_some] at he
   subst he
   omega
  have:=nodup_le b.Rows.length _ hn fun x hx=>by
   obtain ⟨k,hk1,rfl⟩:=List.mem_map.1 hx
   obtain ⟨j,j1,j2,_⟩:=hk k (List.mem_range.1 hk1)
   rw [j1]; exact j2
  simp only [List.length_map,List.length_range] at this
  omega
theorem labs_of_len {n:LabNet} (h:∀ i:Int,(bx n i).Rows.length≤59) (path:List Int):labsB n path=true:=by
 unfold labsB
 refine List.all_eq_true.2 fun x hx=>?_
 obtain ⟨y,_,rfl⟩:=List.mem_map.1 hx
 have:=free_of_len (h y)
 unfold bx at this
 unfold freeOn
 simpa using this
theorem layR_of {n:LabNet} (hn:NetOk n) (h:∀ i:Int,(bx n i).Rows.length≤59) {path:List Int} (hp:PathOk n path):LayP n path (labsOf n path)∧layR n path=((labsOf n path).getD 0 default,0,laidP n path):=by
 have hb:=labs_of_len h path
 have hq:=pathB_ok.2 hp
 refine ⟨layP_of hn hq hb,?_⟩
 unfold layR
 rw [hq,hb]; rfl
theorem way_last {n:LabNet} (hf:FrameOk n) {a b:Int} (hl:0≤linkOf n a b) (hne:(wayP n a b).length≠0):(wayP n a b).getD ((wayP n a b).length-1) default=b:=by
 obtain ⟨a0,a1,b0,b1,hab⟩:=linkOf_in hf hl
 have hD:=far_isDist n b (linkOf n a b) hf b0 b1
 unfold wayP at hne ⊢
 unfold wayOf at hne ⊢
 by_cases hneg:(F54 n b (linkOf n a b)).getD a.toNat default<0
 ·rw [decide_eq_true hneg] at hne; exact absurd rfl hne
 rw [decide_eq_false hneg]
 simp only [cond_false]
 generalize hm:Int.toNat ((F54 n b (linkOf n a b)).getD a.toNat default)=m at *
 have hlen:(a :: wayGo n (F54 n b (linkOf n a b)) (linkOf n a b) m a).length=m+1:=by rw [List.length_cons,wayGo_len]
 obtain ⟨g1,g2,g3,_⟩:=wayGo_at hD hf.b8 m a a0 a1 (by omega) m (Nat.le_refl _)
 rw [hlen,Nat.add_sub_cancel]
 have:=hD.zero ((a :: wayGo n (F54 n b (linkOf n a b)) (linkOf n a b) m a).getD m default).toNat (by omega) (by omega)
 omega
def Gd (n:LabNet) (a b:Int):Prop :=
 ((wayP n a b).length=0→guardIx (bx n a) b=none)∧((wayP n a b).length≠0→∃ gl,Tun n (wayP n a b) gl∧(⟨b,(wayP n a b).getD 1 default,gl.getD 1 default⟩:LabVia)∈(bx n a).Guards)
theorem Gd.mono {n n':LabNet} (hs:Sub n n') (hf:FrameOk n) (hf':FrameOk n') {a b:Int} (hl:0≤linkOf n a b) (h:Gd n a b) (hg:guardIx (bx n a) b=none→guardIx (bx n' a) b=none):Gd n' a b:=by
 have e:=wayP_sub hs hf hf' hl
 refine ⟨fun hw=>?_,fun hw=>?_⟩
 ·rw [e] at hw; exact hg (h.1 hw)
 ·rw [e] at hw
  obtain ⟨gl,g1,g2⟩:=h.2 hw
  rw [e]
  exact ⟨gl,g1.mono hs,hs.gds _ _ g2⟩
theorem guard_step {n:LabNet} (hn:NetOk n) {a b:Int} (hl:0≤linkOf n a b) (hg:guardIx (bx n a) b=none) (hr:∀ i:Int,(bx n i).Rows.length≤59) :
  NetOk (guardR n a b).2∧Sub n (guardR n a b).2∧(∀ i:Int,(bx (guardR n a b).2 i).Rows.length≤(bx n i).Rows.length+1)∧(∀ i x:Int,0≤i→(i≠a∨x≠b)→guardIx (bx n i) x=none→guardIx (bx (guardR n a b).2 i) x=none)∧Gd (guardR n a b).2 a b:=by
 have hN:=guardR_net hn a b
 obtain ⟨a0,a1,_⟩:=linkOf_in hn.frame hl
 by_cases hw:(wayP n a b).length=0
 ·have e:(guardR n a b).2=n:=by
   unfold guardR
   have hg':guardIx (n.Boxes.getD a.toNat default) b=none:=hg
   rw [decide_eq_false (by omega:¬ linkOf n a b<0),hg',decide_eq_true hw]; rfl
  rw [e]
  exact ⟨hn,Sub.refl n,fun i=>by omega,fun i x _ _ h=>h,fun _=>hg,fun h=>absurd hw h⟩
 ·have hp:=(way_path hn.frame hl hw).1
  obtain ⟨hL,_⟩:=layR_of hn hr hp
  have e:(guardR n a b).2=guardN n a b:=by
   unfold guardR
   have hg':guardIx (n.Boxes.getD a.toNat default) b=none:=hg
   rw [decide_eq_false (by omega:¬ linkOf n a b<0),hg',decide_eq_false hw,labs_of_len hr]; rfl
  rw [e] at hN ⊢
  have hlen:(laidN n a b).Boxes.length=n.Boxes.length:=layTo_len _ _ _ _
  have hbx:∀ i:Int,(bx (guardN n a b) i).Rows=(bx (laidP n (wayP n a b)) i).Rows∧(bx (guardN n a b) i).Guards=if Int.toNat a=Int.toNat i then putK (fun x:LabVia=>x.To) (bx n i).Guards (guardV n a b) else (bx n i).Guards:=fun i=>by
   have hgs:=(laid_box hL i).2.2
   unfold bx guardN at *
   simp only [getD_set]
   by_cases hi:Int.toNat a=Int.toNat i
   ·rw [if_pos ⟨hi,by rw [hlen,← hi]; omega⟩,if_pos hi]
    refine ⟨by rw [hi]; rfl,?_⟩
    show putK _ ((laidN n a b).Boxes.getD a.toNat default).Guards _=_
    rw [hi]
    have:((laidN n a b).Boxes.getD i.toNat default).Guards=(n.Boxes.getD i.toNat default).Guards:=hgs
    rw [this]
   ·rw [if_neg (fun h=>hi h.1),if_neg hi]
    exact ⟨rfl,hgs⟩
  have hs:Sub n (guardN n a b):=⟨rfl,by simp only [guardN,List.length_set]; exact hlen,fun i r h=>by rw [(hbx i).1]; exact (laid_box hL i).1 r h,fun i v h=>by
   rw [(hbx i).2]
   split
   ·exact putK_mem.2 (.inl h)
   ·exact h⟩
  refine ⟨hN,hs,fun i=>by rw [(hbx i).1]; exact (laid_box hL i).2.1,fun i x hi0 hix h=>?_,fun h=>?_,fun _=>?_⟩
  ·rw [guardIx_none_iff] at h ⊢
   rw [(hbx i).2]
   split
   ·rename_i hi
    intro v hv
    rcases putK_mem.1 hv with hv | rfl
    ·exact h v hv
    ·have:i=a:=by omega
     rcases hix with h1 | h1
     ·exact absurd this h1
     ·exact fun e=>h1 e.symm
   ·exact h
  ·rw [wayP_sub hs hn.frame hN.frame hl] at h; exact absurd h hw
  ·rw [wayP_sub hs hn.frame hN.frame hl]
   refine ⟨labsOf n (wayP n a b),?_,?_⟩
   ·have ht:=laid_tun hL
    exact ⟨ht.one,ht.len,fun i hi=>by rw [hs.len]; exact hp.rng i hi,fun i hi=>by rw [(hbx _).1]; exact ht.row i hi⟩
   ·rw [(hbx a).2,if_pos rfl]
    exact putK_mem.2 (.inr rfl)
structure GI (n x:LabNet) (k:Nat):Prop where
 net:NetOk x
 sub:Sub n x
 rows:∀ i:Int,(bx x i).Rows.length≤(bx n i).Rows.length+2*k
 done:∀ j,j<k→Gd x (n.Links.getD j default).A (n.Links.getD j default).B∧Gd x (n.Links.getD j default).B (n.Links.getD j default).A
 todo:∀ j,k≤j→j<n.Links.length→guardIx (bx x (n.Links.getD j default).A) (n.Links.getD j default).B=none∧guardIx (bx x (n.Links.getD j default).B) (n.Links.getD j default).A=none
theorem link_at {n:LabNet} (hf:FrameOk n) {j:Nat} (hj:j<n.Links.length):linkOf n (n.Links.getD j default).A (n.Links.getD j default).B=j∧linkOf n (n.Links.getD j default).B (n.Links.getD j default).A=j:=by
 have h:linkOf n (n.Links.getD j default).A (n.Links.getD j default).B=j:=linkOf_of hf hj (by simp [isLink])
 exact ⟨h,by rw [linkOf_comm]; exact h⟩
theorem gAll_GI {n:LabNet} (hn:NetOk n) (hg:∀ i:Int,(bx n i).Guards=[]) (hr:∀ i:Int,(bx n i).Rows.length≤3):∀ k,k≤n.Links.length→GI n (gAll n k) k
 | 0,_=>⟨hn,Sub.refl n,fun i=>Nat.le_refl _,fun j hj=>absurd hj (Nat.not_lt_zero _),fun j _ _=>by
  constructor <;> (rw [guardIx_none_iff]; intro v hv; simp only [gAll] at hv; rw [hg] at hv; cases hv)⟩
 | k+1,hk=>by
  have G:=gAll_GI hn hg hr k (by omega)
  have hl14:=hn.frame.l14
  have hab:=hn.frame.ab k (by omega)
  have hlk:=link_at hn.frame (j:=k) (by omega)
  have htodo:=G.todo k (Nat.le_refl _) (by omega)
  simp only [gAll]
  generalize hA:(n.Links.getD k default).A=A at *
  generalize hB:(n.Links.getD k default).B=B at *
  have hrow1:∀ i:Int,(bx (gAll n k) i).Rows.length≤31:=fun i=>by have:=G.rows i; have:=hr i; omega
  obtain ⟨s1,s2,s3,s4,s5⟩:=guard_step G.net (a:=A) (b:=B) (by rw [G.sub.link,hlk.1]; omega) htodo.1 (fun i=>by have:=hrow1 i; omega)
  generalize (guardR (gAll n k) A B).2=y at *
  have hsub1:=G.sub.trans s2
  obtain ⟨t1,t2,t3,t4,t5⟩:=guard_step s1 (a:=B) (b:=A) (by rw [hsub1.link,hlk.2]; omega) (s4 B A (by omega) (.inl (by omega)) htodo.2) (fun i=>by have:=hrow1 i; have:=s3 i; omega)
  generalize (guardR y B A).2=z at *
  have hsub2:=hsub1.trans t2
  have hxz:=s2.trans t2
  have hoth:∀ i x:Int,0≤i→(i≠A∨x≠B)→(i≠B∨x≠A)→guardIx (bx (gAll n k) i) x=none→guardIx (bx z i) x=none:=fun i x h0 h1 h2 h=>t4 i x h0 h2 (s4 i x h0 h1 h)
  have hdiff:∀ j,j<n.Links.length→j≠k→((n.Links.getD j default).A≠A∨(n.Links.getD j default).B≠B)∧((n.Links.getD j default).A≠B∨(n.Links.getD j default).B≠A):=fun j hj hjk=>by
   have hj1:=link_at hn.frame hj
   have hj2:=hn.frame.ab j hj
   constructor
   ·by_cases e:(n.Links.getD j default).A=A
    ·refine .inr fun e2=>hjk ?_
     rw [e,e2,hlk.1] at hj1
     omega
    ·exact .inl e
   ·omega
  refine ⟨t1,hsub2,fun i=>by have:=G.rows i; have:=s3 i; have:=t3 i; omega,fun j hj=>?_,fun j hj1 hj2=>?_⟩
  ·by_cases hjk:j=k
   ·subst hjk
    rw [hA,hB]
    exact ⟨s5.mono t2 s1.frame t1.frame (by rw [hsub1.link,hlk.1]; omega) (fun h=>t4 A B (by omega) (.inl (by omega)) h),t5⟩
   ·have hd:=hdiff j (by omega) hjk
    have hj2:=hn.frame.ab j (by omega)
    have hj1:=link_at hn.frame (j:=j) (by omega)
    obtain ⟨d1,d2⟩:=G.done j (by omega)
    exact ⟨d1.mono hxz G.net.frame t1.frame (by rw [G.sub.link,hj1.1]; omega) (hoth _ _ (by omega) hd.1 hd.2),d2.mono hxz G.net.frame t1.frame (by rw [G.sub.link,hj1.2]; omega) (hoth _ _ (by omega) (by omega) (by omega))⟩
  ·have hd:=hdiff j hj2 (by omega)
   have hj3:=hn.frame.ab j hj2
   obtain ⟨d1,d2⟩:=G.todo j (by omega) hj2
   exact ⟨hoth _ _ (by omega) hd.1 hd.2 d1,hoth _ _ (by omega) (by omega) (by omega) d2⟩
theorem gAll_all {n:LabNet} (hn:NetOk n) (hg:∀ i:Int,(bx n i).Guards=[]) (hr:∀ i:Int,(bx n i).Rows.length≤3) :
  NetOk (gAll n n.Links.length)∧Sub n (gAll n n.Links.length)∧(∀ i:Int,(bx (gAll n n.Links.length) i).Rows.length≤31)∧∀ a b:Int,0≤linkOf n a b→Gd (gAll n n.Links.length) a b:=by
 have G:=gAll_GI hn hg hr n.Links.length (Nat.le_refl _)
 have hl14:=hn.frame.l14
 refine ⟨G.net,G.sub,fun i=>by have:=G.rows i; have:=hr i; omega,fun a b hl=>?_⟩
 obtain ⟨h1,h2⟩:=linkOf_some hl
 obtain ⟨d1,d2⟩:=G.done _ h1
 unfold isLink at h2
 simp only [Bool.or_eq_true,Bool.and_eq_true,decide_eq_true_eq,beq_iff_eq] at h2
 rcases h2 with ⟨e1,e2⟩ | ⟨e1,e2⟩
 ·rw [e1,e2] at d1; exact d1
 ·rw [e1,e2] at d2; exact d2
theorem st_end (n:LabNet) (dn:List Int) (u:Int):F37 n dn (⟨u,[]⟩:LabPacket)=((⟨u,[]⟩:LabPacket),3):=by
 unfold F37
 rfl
theorem st_row {n:LabNet} {u l:Int} {r:LabRow} (hr:rowP (bx n u) l=(r,true)) (dn S:List Int):F37 n dn (⟨u,S++[l]⟩:LabPacket) =
  bif (r.Next==(-1)) then ((⟨u,S⟩:LabPacket),0) else (bif (!decide (linkOf n u r.Next∈dn)) then ((⟨r.Next,S++[r.Out]⟩:LabPacket),0) else
   (bif (bif (!(guardP (bx n u) r.Next).2) then true else (!(!decide (linkOf n u (guardP (bx n u) r.Next).1.Via∈dn)))) then ((⟨u,S++[l]⟩:LabPacket),5) else
    (bif (((S++[l]).length:Int)==8) then ((⟨u,S++[l]⟩:LabPacket),7) else ((⟨(guardP (bx n u) r.Next).1.Via,(S++[r.Out])++[(guardP (bx n u) r.Next).1.Push]⟩:LabPacket),0)))):=by
 unfold F37
 have e1:((S++[l]).length:Int)-1=(S.length:Int):=by simp
 have e2:(S++[l]).getD S.length default=l:=by rw [getD_app,if_neg (Nat.lt_irrefl _),if_pos rfl]
 have e3:(S++[l]).take S.length=S:=by simp
 have e4:∀ x,(S++[l]).set S.length x=S++[x]:=fun x=>by rw [List.set_append_right _ _ (Nat.le_refl _),Nat.sub_self]; rfl
 have e5:decide ((S.length:Int)<0)=false:=decide_eq_false (by omega)
 unfold bx at hr ⊢
 simp only [e1,nn,e2,e3,e4,e5,hr,cond_false,Bool.not_true]
def Run (n:LabNet) (dn:List Int):Nat→LabPacket→LabPacket→Prop
 | 0,p,q=>p=q
 | m+1,p,q=>∃ x,F37 n dn p=(x,0)∧Run n dn m x q
theorem Run.trans {n:LabNet} {dn:List Int}:∀ {m k:Nat} {p q r:LabPacket},Run n dn m p q→Run n dn k q r→Run n dn (m+k) p r
 | 0,k,p,q,r,h1,h2=>by
  have h1:p=q:=h1
  subst h1
  rw [Nat.zero_add]; exact h2
 | m+1,k,p,q,r,⟨x,h0,h1⟩,h2=>by
  rw [show m+1+k=(m+k)+1 by omega]
  exact ⟨x,h0,h1.trans h2⟩
theorem Run.one {n:LabNet} {dn:List Int} {p x:LabPacket} (h:F37 n dn p=(x,0)):Run n dn 1 p x:=⟨x,h,rfl⟩
theorem rowAt_go {p ls:List Int} {i:Nat} (h:i+1<p.length):rowAt p ls i=⟨ls.getD i default,p.getD (i+1) default,ls.getD (i+1) default⟩:=by
 unfold rowAt
 rw [decide_eq_true (by omega:(i:Int)+1<(p.length:Int))]; rfl
theorem rowAt_end {p ls:List Int} {i:Nat} (h:p.length≤i+1):rowAt p ls i=⟨ls.getD i default,-1,0⟩:=by
 unfold rowAt
 rw [decide_eq_false (by omega:¬ (i:Int)+1<(p.length:Int))]; rfl
theorem Tun.at {n:LabNet} (hn:NetOk n) {p ls:List Int} (T:Tun n p ls) {i:Nat} (hi:i<p.length):rowP (bx n (p.getD i default)) (ls.getD i default)=(rowAt p ls i,true):=by
 have h:=T.rng i hi
 exact rowP_mem hn h.1 h.2 (T.row i hi)
theorem Tun.lbl {n:LabNet} (hn:NetOk n) {p ls:List Int} (T:Tun n p ls) {i:Nat} (hi:i<p.length):isLabel (ls.getD i default):=by
 have h:=T.rng i hi
 exact ((bx_ok hn h.1 h.2).1.1 _ (T.row i hi)).1
theorem walk_part {n:LabNet} (hn:NetOk n) {p ls:List Int} (T:Tun n p ls) (dn S:List Int):∀ (d a:Nat),a+d<p.length→(∀ i,a≤i→i<a+d→linkOf n (p.getD i default) (p.getD (i+1) default) ∉ dn) →
  Run n dn d (⟨p.getD a default,S++[ls.getD a default]⟩:LabPacket) (⟨p.getD (a+d) default,S++[ls.getD (a+d) default]⟩:LabPacket)
 | 0,a,_,_=>rfl
 | d+1,a,ha,hup=>by
  have h1:=T.rng (a+1) (by omega)
  have hs:=st_row (T.at hn (i:=a) (by omega)) dn S
  rw [rowAt_go (by omega)] at hs
  have hx:(p.getD (a+1) default==(-1))=false:=by rw [beqD]; exact decide_eq_false (by omega)
  simp only [hx,cond_false,decide_eq_false (hup a (Nat.le_refl _) (by omega)),Bool.not_false,cond_true] at hs
  refine ⟨_,hs,?_⟩
  have:=walk_part hn T dn S d (a+1) (by omega) fun i hi1 hi2=>hup i (by omega) (by omega)
  rwa [show a+1+d=a+(d+1) by omega] at this
theorem walk_pop {n:LabNet} (hn:NetOk n) {p ls:List Int} (T:Tun n p ls) (dn S:List Int):Run n dn 1 (⟨p.getD (p.length-1) default,S++[ls.getD (p.length-1) default]⟩:LabPacket) (⟨p.getD (p.length-1) default,S⟩:LabPacket):=by
 have h1:=T.one
 have hs:=st_row (T.at hn (i:=p.length-1) (by omega)) dn S
 rw [rowAt_end (by omega)] at hs
 exact Run.one hs
theorem walk_round {n:LabNet} (hn:NetOk n) {p ls:List Int} (T:Tun n p ls) (S:List Int) (hS:S.length≤6) {j:Nat} (hj:j+1<p.length) (hl:0≤linkOf n (p.getD j default) (p.getD (j+1) default)) (hG:Gd n (p.getD j default) (p.getD (j+1) default)) (hw:(wayP n (p.getD j default) (p.getD (j+1) default)).length≠0) :
  Run n [linkOf n (p.getD j default) (p.getD (j+1) default)] (wayP n (p.getD j default) (p.getD (j+1) default)).length (⟨p.getD j default,S++[ls.getD j default]⟩:LabPacket) (⟨p.getD (j+1) default,S++[ls.getD (j+1) default]⟩:LabPacket):=by
 obtain ⟨gl,G1,G2⟩:=hG.2 hw
 obtain ⟨hp,w0,w1,w2⟩:=way_path hn.frame hl hw
 have wl:=way_last hn.frame hl hw
 have hrj:=T.rng j (by omega)
 have hrj1:=T.rng (j+1) hj
 have hs:=st_row (T.at hn (i:=j) (by omega)) [linkOf n (p.getD j default) (p.getD (j+1) default)] S
 rw [rowAt_go hj] at hs
 generalize hu:p.getD j default=u at *
 generalize hv:p.getD (j+1) default=v at *
 generalize hW:wayP n u v=W at *
 have hgp:=guardP_mem hn hrj.1 hrj.2 G2
 have h2:=hp.two
 have hx:(v==(-1))=false:=by rw [beqD]; exact decide_eq_false (by omega)
 have hvia:=w2 0 (by omega)
 rw [w0] at hvia
 have hv2:linkOf n u (W.getD 1 default) ∉ [linkOf n u v]:=by simpa using hvia.2
 have hlen:(((S++[ls.getD j default]).length:Int)==8)=false:=by rw [beqD]; exact decide_eq_false (by simp; omega)
 simp only at hgp
 simp only [hx,cond_false,List.mem_singleton,decide_true,Bool.not_true,hgp] at hs
 rw [decide_eq_false (by simpa using hv2:¬ linkOf n u (W.getD 1 default)=linkOf n u v),hlen] at hs
 simp only [Bool.not_false,Bool.not_true,cond_false] at hs
 have hpart:=walk_part hn G1 [linkOf n u v] (S++[ls.getD (j+1) default]) (W.length-2) 1 (by omega) fun i hi1 hi2=>by
  have:=w2 i (by omega)
  simpa using this.2
 have hpop:=walk_pop hn G1 [linkOf n u v] (S++[ls.getD (j+1) default])
 rw [show 1+(W.length-2)=W.length-1 by omega] at hpart
 have h3:=(Run.one hs).trans (hpart.trans hpop)
 rw [wl] at h3
 rwa [show 1+(W.length-2+1)=W.length by omega] at h3
theorem link_once {n:LabNet} (hf:FrameOk n) {p:List Int} (hp:PathOk n p) {i j:Nat} (hi:i+1<p.length) (hj:j+1<p.length) (h:linkOf n (p.getD i default) (p.getD (i+1) default)=linkOf n (p.getD j default) (p.getD (j+1) default)):i=j:=by
 obtain ⟨a1,a2⟩:=linkOf_some (hp.lnk i hi)
 obtain ⟨b1,b2⟩:=linkOf_some (hp.lnk j hj)
 rw [h] at a2
 unfold isLink at a2 b2
 simp only [Bool.or_eq_true,Bool.and_eq_true,decide_eq_true_eq] at a2 b2
 have inj:=hp.inj
 have c1:p.getD i default=p.getD j default→i=j:=inj i j (by omega) (by omega)
 have c2:p.getD i default=p.getD (j+1) default→i=j+1:=inj i (j+1) (by omega) hj
 have c3:p.getD (i+1) default=p.getD j default→i+1=j:=inj (i+1) j hi (by omega)
 rcases a2 with ⟨x1,x2⟩ | ⟨x1,x2⟩ <;> rcases b2 with ⟨y1,y2⟩ | ⟨y1,y2⟩
 ·exact c1 (x1.symm.trans y1)
 ·have:=c2 (x1.symm.trans y1); have:=c3 (x2.symm.trans y2); omega
 ·have:=c2 (x2.symm.trans y2); have:=c3 (x1.symm.trans y1); omega
 ·exact c1 (x2.symm.trans y2)
def extra (n:LabNet) (p:List Int) (d:Int):Int:=match first (fun i=>decide (linkOf n (p.getD i default) (p.getD (i+1) default)=d)) (p.length-1) with
 | some i=>((labWay n (p.getD i default) (p.getD (i+1) default) d).length:Int)-1
 | none=>0
theorem tun_go {n:LabNet} (hn:NetOk n) (hG:∀ a b:Int,0≤linkOf n a b→Gd n a b) {p ls:List Int} (T:Tun n p ls) (hp:PathOk n p) (d:Int) (S:List Int) (hS:S.length≤6) :
  (0≤extra n p d→∃ m:Nat,(m:Int)=(p.length:Int)+extra n p d∧m≤16∧Run n [d] m (⟨p.getD 0 default,S++[ls.getD 0 default]⟩:LabPacket) (⟨p.getD (p.length-1) default,S⟩:LabPacket)) ∧
  (extra n p d<0→∃ (m:Nat) (q:LabPacket),m≤8∧Run n [d] m (⟨p.getD 0 default,S++[ls.getD 0 default]⟩:LabPacket) q∧F37 n [d] q=(q,5)∧∃ j,j+1<p.length∧m=j∧q.Box=p.getD j default∧linkOf n (p.getD j default) (p.getD (j+1) default)=d):=by
 have h2:=hp.two
 have hm:=hp.most
 have h8:=hn.frame.b8
 unfold extra
 cases hf:first (fun i=>decide (linkOf n (p.getD i default) (p.getD (i+1) default)=d)) (p.length-1) with
 | none =>
  have hno:=first_none.1 hf
  refine ⟨fun _=>⟨p.length,by simp only; omega,by omega,?_⟩,fun h=>absurd h (by simp)⟩
  have h1:=walk_part hn T [d] S (p.length-1) 0 (by omega) fun i _ hi=>by
   have:=of_decide_eq_false (hno i (by omega))
   simpa using this
  rw [Nat.zero_add] at h1
  have h3:=h1.trans (walk_pop hn T [d] S)
  rwa [show p.length-1+1=p.length by omega] at h3
 | some j =>
  obtain ⟨hj,hjd,hjl⟩:=first_some.1 hf
  have hjd:=of_decide_eq_true hjd
  have hl:=hp.lnk j (by omega)
  have hup:∀ i,i+1<p.length→i≠j→linkOf n (p.getD i default) (p.getD (i+1) default) ∉ [d]:=fun i hi hij hmem=>by
   simp only [List.mem_singleton] at hmem
   exact hij (link_once hn.frame hp hi (by omega) (hmem.trans hjd.symm))
  have hway:labWay n (p.getD j default) (p.getD (j+1) default) d=wayP n (p.getD j default) (p.getD (j+1) default):=by
   rw [← hjd]; exact labWay_way hn (by omega)
  simp only [hway]
  have h1:=walk_part hn T [d] S j 0 (by omega) fun i _ hi=>hup i (by omega) (by omega)
  rw [Nat.zero_add] at h1
  have hGj:=hG _ _ hl
  by_cases hw:(wayP n (p.getD j default) (p.getD (j+1) default)).length=0
  ·refine ⟨fun h=>absurd h (by omega),fun _=>⟨j,_,by omega,h1,?_,j,by omega,rfl,rfl,hjd⟩⟩
   have hs:=st_row (T.at hn (i:=j) (by omega)) [d] S
   rw [rowAt_go (by omega)] at hs
   have hrj1:=T.rng (j+1) (by omega)
   have hx:(p.getD (j+1) default==(-1))=false:=by rw [beqD]; exact decide_eq_false (by omega)
   have hgn:=guardP_none.2 (hGj.1 hw)
   simp only [hx,cond_false,hjd,List.mem_singleton,decide_true,Bool.not_true,hgn,Bool.not_false,cond_true] at hs
   exact hs
  ·refine ⟨fun _=>⟨j+((wayP n (p.getD j default) (p.getD (j+1) default)).length+(p.length-1-(j+1)+1)),by omega,?_,?_⟩,fun h=>absurd h (by omega)⟩
   ·have:=(way_path hn.frame hl hw).1.most; omega
   ·have hrd:=walk_round hn T S hS (j:=j) (by omega) hl hGj hw
    rw [hjd] at hrd
    have h3:=walk_part hn T [d] S (p.length-1-(j+1)) (j+1) (by omega) fun i hi1 hi2=>hup i (by omega) (by omega)
    rw [show j+1+(p.length-1-(j+1))=p.length-1 by omega] at h3
    exact h1.trans (hrd.trans (h3.trans (walk_pop hn T [d] S)))
theorem wayOf_pathI {n:LabNet} (hf:FrameOk n) {a b w:Int} (a0:0≤a) (a1:a<(n.Boxes.length:Int)) (b0:0≤b) (b1:b<(n.Boxes.length:Int)) (hne:(wayOf n a b w).length≠0) :
  PathI n (wayOf n a b w)∧(wayOf n a b w).getD 0 default=a∧(wayOf n a b w).getD ((wayOf n a b w).length-1) default=b:=by
 have hD:=far_isDist n b w hf b0 b1
 unfold wayOf at hne ⊢
 by_cases hneg:(F54 n b w).getD a.toNat default<0
 ·rw [decide_eq_true hneg] at hne; exact absurd rfl hne
 rw [decide_eq_false hneg]
 simp only [cond_false]
 generalize hm:Int.toNat ((F54 n b w).getD a.toNat default)=m at *
 have hat:=wayGo_at hD hf.b8 m a a0 a1 (by omega)
 have hlen:(a :: wayGo n (F54 n b w) w m a).length=m+1:=by rw [List.length_cons,wayGo_len]
 generalize hW:a :: wayGo n (F54 n b w) w m a=W at *
 refine ⟨⟨by omega,fun x hx=>?_,?_,fun i hi=>?_⟩,by rw [← hW]; rfl,?_⟩
 ·obtain ⟨k,hk,rfl⟩:=mem_getD hx
  have:=hat k (by omega)
  exact ⟨this.1,this.2.1⟩
 ·refine List.pairwise_iff_getElem.2 fun i j hi hj hij e=>?_
  have h1:=(hat i (by omega)).2.2.1
  have h2:=(hat j (by omega)).2.2.1
  rw [getD_lt W hi,e,← getD_lt W hj] at h1
  omega
 ·exact ((hat i (by omega)).2.2.2 (by omega)).1
 ·obtain ⟨g1,g2,g3,_⟩:=hat m (Nat.le_refl _)
  rw [hlen,Nat.add_sub_cancel]
  have:=hD.zero (W.getD m default).toNat (by omega) (by omega)
  omega
structure Two (n:LabNet) (a b:List Int):Prop where
 net:NetOk n
 bare:∀ i:Int,(bx n i).Rows=[]∧(bx n i).Guards=[]
 pa:PathI n a
 pb:b.length≠0→PathI n b∧b.getD 0 default=a.getD (a.length-1) default
 lb:b.length≤8
theorem two_ok (codeX:SV) (code:List Int):Two (F6 codeX code).1 (F6 codeX code).2.1 (F6 codeX code).2.2:=by
 unfold F6
 obtain ⟨h1,h2⟩:=open_b codeX code
 generalize F22 codeX code=O at *
 obtain ⟨⟨b,p⟩,X⟩:=O
 simp only at h1 h2 ⊢
 obtain ⟨n1,n2,n3,n4⟩:=bare_ok (⟨b,p⟩:l71Rd) (by show 0≤p; omega) (by show p≤_; omega)
 generalize F23 (⟨b,p⟩:l71Rd)=N at *
 obtain ⟨n,p2⟩:=N
 simp only at n1 n2 n3 n4 ⊢
 obtain ⟨k1,k2,k3⟩:=path_ok (⟨b,p2⟩:l71Rd) n n1.frame (by show 0≤p2; omega) (by show p2≤_; omega)
 obtain ⟨_,_,k4,_,k5,k6⟩:=path_p (⟨b,p2⟩:l71Rd) n (by show 0≤p2; omega) (by show p2≤_; omega) n1.frame
 generalize F24 (⟨b,p2⟩:l71Rd) n=A at *
 obtain ⟨a,p3⟩:=A
 simp only at k1 k2 k3 k4 k5 k6 ⊢
 have hb1:=n1.frame.b1
 have hx:=pick_in (⟨b,p3⟩:l71Rd) (n.Boxes.length:Int) (by show 0≤p3; omega) (by show p3≤_; omega)
 generalize F26 (⟨b,p3⟩:l71Rd) (n.Boxes.length:Int)=Q at *
 obtain ⟨x,p4⟩:=Q
 simp only at hx ⊢
 have e1:Int.toNat ((a.length:Int)-1)=a.length-1:=by omega
 rw [e1] at k5 k6 ⊢
 refine ⟨n1,fun i=>?_,k1,fun hne=>?_,?_⟩
 ·have:=n2 i.toNat
  unfold bx
  rw [this]; exact ⟨rfl,rfl⟩
 ·obtain ⟨w1,w2,_⟩:=wayOf_pathI n1.frame k5 k6 hx.1 (hx.2.1 (by omega)) hne
  exact ⟨w1,w2⟩
 ·have:=wayOf_len n1.frame (-1) k5 k6 hx.1 (hx.2.1 (by omega))
  have:=n1.frame.b8
  omega
theorem two_b (codeX:SV) (code:List Int):(F6 codeX code).2.1.length≤8∧(F6 codeX code).2.2.length≤8:=by
 have h:=two_ok codeX code
 exact ⟨h.pa.len h.net.frame,h.lb⟩
theorem tp_a {A B:List Int} (h:1≤A.length):1≤(([A,B]:List (List Int)).getD (Int.toNat 0) default).length:=h
theorem tp_b {A B:List Int} (h:1≤B.length):1≤(([A,B]:List (List Int)).getD ((([A,B]:List (List Int)).length:Int)-1).toNat default).length:=h
theorem tp_all {A B:List Int} (h1:A.length≤1000000000) (h2:B.length≤1000000000):∀ k:Nat,(([A,B]:List (List Int)).getD k default).length≤1000000000
 | 0=>h1
 | 1=>h2
 | k+2=>Nat.zero_le _
theorem tp_1 {A:List Int} (h:1≤A.length):1≤(([A]:List (List Int)).getD (Int.toNat 0) default).length:=h
theorem tp_2 {A:List Int} (h:1≤A.length):1≤(([A]:List (List Int)).getD ((([A]:List (List Int)).length:Int)-1).toNat default).length:=h
theorem tp_3 {A:List Int} (h1:A.length≤1000000000):∀ k:Nat,(([A]:List (List Int)).getD k default).length≤1000000000
 | 0=>h1
 | k+1=>Nat.zero_le _
end Go.Proofs.YtmiolofjlfnohaaGreat
