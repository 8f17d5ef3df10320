/- The card's statement of FnConfParse: for all arguments the law returns true, without further conditions. Texts put together: VDM4, PDM4, VDM5, PDM5, VDM6, PDM6, PCM1, PTKC, VDM7, PCM2, VQ0, PPRC, PQ0, VDC4, PDC4, PQM, VQ1, VQ2, PQ2, VQ3, PQ3, PQ1, VQ4, PQ4, C64. -/
import Derived.Test.YtabmhncnckahfaaGreatDoorRows
import Derived.Test.YtabmhncnckahfaaGreatDoorCards
import Derived.Test.YtabmhncnckahfaaGreatDoorTie
import Derived.Deep.DeepHandedRow
import Derived.Deep.DeepLaidRun
import Derived.JoinedCond
import Derived.Lib.LaidU8
import Derived.Test.YtabmhncnckahfaaGreatDoorZC64E
namespace Go.Proofs.YtabmhncnckahfaaGreatDoor
open Go.RowKit
set_option maxRecDepth 100000
set_option linter.unusedVariables false
set_option linter.unusedSimpArgs false
theorem kc80a (list:List Za) {K_:Prop} (p0_:list.length<=1000000000) (k_:K_):(list.length<=1000000000)/\(Imp (.l 1 eStr list) (.l 1 eStr list))/\K_:=⟨p0_,Imp.refl _,k_⟩
abbrev kh80a (list:List Za):Hint true Tryz.prog:=.call 80 (S80 list list) (oa80 list) none
theorem kc51l (X_:SV) (b_:List Int) (pp_:Int) {K_:Prop} (p0_:0<=pp_) (p1_:pp_<=800000000) (p2_:b_.length<=2000) (q0_:0<=pp_) (q1_:pp_<=800000000) (k_:(CQ (F51 ⟨b_,pp_⟩).1/\0<=(F51 ⟨b_,pp_⟩).2/\(F51 ⟨b_,pp_⟩).2<=pp_+400)->K_):(0<=pp_/\pp_<=800000000/\b_.length<=2000)/\(sv X_=sv X_)/\(Imp (.l 1 eByte b_) (.l 1 eByte b_))/\(Imps ([.v (vI pp_)]) ([.v (vI pp_)]))/\K_:=⟨⟨p0_,p1_,p2_⟩,rfl,Imp.refl _,Imps.refl _,k_ (conf_q (⟨b_,pp_⟩:l51Rd) q0_ q1_)⟩
abbrev kh51l (X_:SV) (g_:Nat) (b_:List Int) (pp_:Int):Hint true Tryz.prog:=.call 51 (S51 X_ g_ (⟨b_,pp_⟩:l51Rd)) (ok51 X_ g_ (⟨b_,pp_⟩:l51Rd)) none
def F50_j3 (r1:l51Rd) (out1:List Za) (n:Int) (r3:Int):Lp (List Za) (List Za×Int) :=
 bif (decide ((F99 out1 (F14 (F86 ⟨r1.b,r3⟩).1))>=0)) then (.done (F68 out1 (F99 out1 (F14 (F86 ⟨r1.b,r3⟩).1)))) else (.done out1)
def F50_s0 (r1:l51Rd):(List Za×Int×Int)->Lp (List Za×Int×Int) (List Za×Int):=fun (out1,n,r3) =>
 bif (decide (n>0)) then ((F50_j3 r1 out1 n r3).fin Lp.ret (fun out2=>bif (decide ((out2.length:Int)<16)) then (.next ((F79 out2 (F86 ⟨r1.b,r3⟩).1),(n-1),(F86 ⟨r1.b,r3⟩).2)) else (.next (out2,(n-1),(F86 ⟨r1.b,r3⟩).2)))) else (.done (out1,n,r3))
def F50_j0 (r1:l51Rd):Lp (List Za×Int) (List Za×Int) :=
 (runL (F50_s0 r1) ((Int.toNat ((F48 ⟨r1.b,(F51 ⟨r1.b,r1.p⟩).2⟩ 4).1-0))+1) ((F51 ⟨r1.b,r1.p⟩).1,(F48 ⟨r1.b,(F51 ⟨r1.b,r1.p⟩).2⟩ 4).1,(F48 ⟨r1.b,(F51 ⟨r1.b,r1.p⟩).2⟩ 4).2)).fin Lp.ret (fun (out1,n,r3)=>.done (out1,r3))
def F50 (r1:l51Rd):List Za×Int :=
 (F50_j0 r1).fin (fun r=>r) (fun (out,r2)=>bif (bif ((F48 ⟨r1.b,r2⟩ 3).1==0) then decide ((out.length:Int)>0) else false) then ((F68 out (F48 ⟨r1.b,(F48 ⟨r1.b,r2⟩ 3).2⟩ (out.length:Int)).1),(F48 ⟨r1.b,(F48 ⟨r1.b,r2⟩ 3).2⟩ (out.length:Int)).2) else (out,(F48 ⟨r1.b,r2⟩ 3).2))
abbrev jI50_3 (r1X:SV) (r1:l51Rd) (out1:List Za) (n:Int) (r3:Int) (out2:List Za):Prop:=LQ out2/\True
abbrev jJ50_3 (r1X:SV) (r1:l51Rd) (out1:List Za) (n:Int) (r3:Int) (j:List Za):Prop:=(F50_j3 r1 out1 n r3)=Lp.done j/\jI50_3 r1X r1 out1 n r3 j
theorem jn50_3 (r1X:SV) (r1:l51Rd) (out1:List Za) (n:Int) (r3:Int) (out2:List Za) (e:(F50_j3 r1 out1 n r3)=Lp.done out2) (h:jI50_3 r1X r1 out1 n r3 out2):∃ j:List Za,((.int .i64 n:Value)=.int .i64 n)/\((.string (F86 ⟨r1.b,r3⟩).1:Value)=.string (F86 ⟨r1.b,r3⟩).1)/\((.int .i64 (F86 ⟨r1.b,r3⟩).2:Value)=.int .i64 (F86 ⟨r1.b,r3⟩).2)/\((sv r1X:Value)=sv r1X)/\(Imp (.l 1 eByte r1.b) (.l 1 eByte r1.b))/\(Imp (.l 1 eStr out2) (.l 1 eStr j))/\jJ50_3 r1X r1 out1 n r3 j:=⟨out2,rfl,rfl,rfl,rfl,Imp.refl _,Imp.refl _,e,h⟩
abbrev lN50_0 (r1:l51Rd):Nat×(List Za×Int×Int):=(((Int.toNat ((F48 ⟨r1.b,(F51 ⟨r1.b,r1.p⟩).2⟩ 4).1-0))+1),((F51 ⟨r1.b,r1.p⟩).1,(F48 ⟨r1.b,(F51 ⟨r1.b,r1.p⟩).2⟩ 4).1,(F48 ⟨r1.b,(F51 ⟨r1.b,r1.p⟩).2⟩ 4).2))
abbrev lI50_0 (r1:l51Rd) (m39:Nat) (out1:List Za) (n:Int) (r3:Int):Prop:=Int.toNat (n-0)<m39/\LQ out1/\0<=r3/\r3+9*n<=r1.p+430/\n<=3/\(0:Int)<=n
abbrev lX50_0 (r1:l51Rd):Lp (List Za×Int×Int) (List Za×Int):=LpX (F50_s0 r1) (lN50_0 r1)
abbrev lJ50_0 (r1:l51Rd) (i:Nat×(List Za×Int×Int)):Prop:=LpJ (F50_s0 r1) (lN50_0 r1) i (lI50_0 r1 i.1 i.2.1 i.2.2.1 i.2.2.2)
abbrev lH50_0 (r1:l51Rd) (i:Nat×(List Za×Int×Int)) (m39:Nat) (out1:List Za) (n:Int) (r3:Int):Prop:=LpH (F50_s0 r1) (lN50_0 r1) i m39 (out1,n,r3) (lI50_0 r1 (m39+1) out1 n r3)
abbrev lE50_0 (r1X:SV) (r1:l51Rd) (out1:List Za) (n:Int) (r3:Int) (out1_:List Za) (n_:Int) (r3_:Int) (K39:Prop):Prop:=((.int .i64 n:Value)=.int .i64 n_)/\((.int .i64 r3:Value)=.int .i64 r3_)/\(Rf (sv r1X))/\(Im (.l 1 eByte r1.b))/\(Imp (.l 1 eStr out1) (.l 1 eStr out1_))/\K39
theorem un50_0 (r1:l51Rd) (i:Nat×(List Za×Int×Int)) (h:lJ50_0 r1 i):lH50_0 r1 i (i.1-1) i.2.1 i.2.2.1 i.2.2.2:=⟨hd1 h.1 h.2.1,hd3 h.2.1,hd2 h.2.1,h.2.2⟩
theorem bk50_0 (r1X:SV) (r1:l51Rd) (i:Nat×(List Za×Int×Int)) (m39:Nat) (out1:List Za) (n:Int) (r3:Int) (hl:m39<i.1) (e:runL (F50_s0 r1) m39 (out1,n,r3)=lX50_0 r1) (h:lI50_0 r1 m39 out1 n r3):∃ j:Nat×(List Za×Int×Int),lE50_0 r1X r1 out1 n r3 j.2.1 j.2.2.1 j.2.2.2 (lJ50_0 r1 j/\j.1<i.1):=⟨(m39,(out1,n,r3)),rfl,rfl,rfl,Imp.refl _,Imp.refl _,⟨e,h⟩,hl⟩
theorem en50_0 (r1X:SV) (r1:l51Rd) (h:LQ (F51 ⟨r1.b,r1.p⟩).1/\0<=(F48 ⟨r1.b,(F51 ⟨r1.b,r1.p⟩).2⟩ 4).2/\(F48 ⟨r1.b,(F51 ⟨r1.b,r1.p⟩).2⟩ 4).2+9*(F48 ⟨r1.b,(F51 ⟨r1.b,r1.p⟩).2⟩ 4).1<=r1.p+430/\(F48 ⟨r1.b,(F51 ⟨r1.b,r1.p⟩).2⟩ 4).1<=3/\(0:Int)<=(F48 ⟨r1.b,(F51 ⟨r1.b,r1.p⟩).2⟩ 4).1):lE50_0 r1X r1 (F51 ⟨r1.b,r1.p⟩).1 (F48 ⟨r1.b,(F51 ⟨r1.b,r1.p⟩).2⟩ 4).1 (F48 ⟨r1.b,(F51 ⟨r1.b,r1.p⟩).2⟩ 4).2 (F51 ⟨r1.b,r1.p⟩).1 (F48 ⟨r1.b,(F51 ⟨r1.b,r1.p⟩).2⟩ 4).1 (F48 ⟨r1.b,(F51 ⟨r1.b,r1.p⟩).2⟩ 4).2 (lJ50_0 r1 (lN50_0 r1)):=⟨rfl,rfl,rfl,Imp.refl _,Imp.refl _,rfl,Qr _,h⟩
abbrev jI50_0 (r1X:SV) (r1:l51Rd) (out:List Za) (r2:Int):Prop:=LQ out/\0<=r2/\r2<=r1.p+440
abbrev jJ50_0 (r1X:SV) (r1:l51Rd) (j:List Za×Int):Prop:=(F50_j0 r1)=Lp.done j/\jI50_0 r1X r1 j.1 j.2
theorem jn50_0 (r1X:SV) (r1:l51Rd) (out:List Za) (r2:Int) (e:(F50_j0 r1)=Lp.done (out,r2)) (h:jI50_0 r1X r1 out r2):∃ j:List Za×Int,((.int .i64 r2:Value)=.int .i64 j.2)/\((sv r1X:Value)=sv r1X)/\(Imp (.l 1 eByte r1.b) (.l 1 eByte r1.b))/\(Imp (.l 1 eStr out) (.l 1 eStr j.1))/\jJ50_0 r1X r1 j:=⟨(out,r2),rfl,rfl,Imp.refl _,Imp.refl _,e,h⟩
def S50 (r1X:SV) (gr1:Nat) (r1:l51Rd):Spec:=⟨[.ptg gr1 86 (sv r1X) (.l 1 eByte r1.b) [.v (vI r1.p)] [.v (vI (F50 r1).2)]],.ow (.l 1 eStr (F50 r1).1),0<=r1.p/\r1.p<=800000000/\r1.b.length<=2000⟩
theorem ok50 (r1X:SV) (gr1:Nat) (r1:l51Rd):(S50 r1X gr1 r1).ok Tryz.prog 50 :=
 fnG_ok mixed (fn:=Tryz.f50) (ct:=.seqk [(0,0)] .no (.seq (.reg [(1,kh51l r1X 0 r1.b r1.p)]) (.cut (ι:=List Za×Int) (fun j=>(fun (out:List Za) (r2:Int)=>(⟨[(0,some (.p 0 0)),(3,some (.h 2 0))],[(0,some (.box 86 [.h 1 0,.v (vI r2)])),(1,some (.vl (sv r1X) (.l 1 eByte r1.b))),(2,some (.own 2 (.l 1 eStr out)))],3⟩:St)) j.1 j.2) (jJ50_0 r1X r1) (.seqk [(0,0),(3,0)] (.reg [(1,kh48l r1X 0 r1.b (F51 ⟨r1.b,r1.p⟩).2 4)]) (.blk (.loop (ι:=Nat×(List Za×Int×Int)) (fun i=>(fun (out1:List Za) (n:Int) (r3:Int)=>(⟨[(0,some (.p 0 0)),(3,some (.h 2 0)),(4,some (.v (vI n)))],[(0,some (.box 86 [.h 1 0,.v (vI r3)])),(1,some (.vl (sv r1X) (.l 1 eByte r1.b))),(2,some (.own 2 (.l 1 eStr out1)))],3⟩:St)) i.2.1 i.2.2.1 i.2.2.2) (lJ50_0 r1) (fun i=>i.1) (lN50_0 r1) (fun i=>(fun (out1:List Za) (n:Int) (r3:Int)=>(.seq (.seq .no (.cond .no .no)) (.seq (.blk (.seq (.reg [(1,kh86l r1X 1 r1.b r3)]) (.seq (.reg [(2,.call 14 (S14 (F86 ⟨r1.b,r3⟩).1) (ok14 (F86 ⟨r1.b,r3⟩).1) none),(3,.call 99 (S99 out1 (F14 (F86 ⟨r1.b,r3⟩).1)) (ok99 out1 (F14 (F86 ⟨r1.b,r3⟩).1)) none)]) (.cut (ι:=List Za) (fun j=>(fun (out2:List Za)=>(⟨[(0,some (.p 0 0)),(3,some (.h 2 0)),(4,some (.v (vI n))),(5,some (.v (.string (F86 ⟨r1.b,r3⟩).1)))],[(0,some (.box 86 [.h 1 0,.v (vI (F86 ⟨r1.b,r3⟩).2)])),(1,some (.vl (sv r1X) (.l 1 eByte r1.b))),(2,some (.own 2 (.l 1 eStr out2)))],3⟩:St)) j) (jJ50_3 r1X r1 out1 n r3) (.seq .no (.cond (.reg [(2,.call 68 (S68 out1 (F99 out1 (F14 (F86 ⟨r1.b,r3⟩).1))) (ok68 out1 (F99 out1 (F14 (F86 ⟨r1.b,r3⟩).1))) none)]) .no)) (fun j=>(fun (out2:List Za)=>(.seq .no (.cond (.reg [(2,.call 79 (S79 out2 (F86 ⟨r1.b,r3⟩).1) (ok79 out2 (F86 ⟨r1.b,r3⟩).1) none)]) .no))) j))))) (.reg [(1,.bnd)])))) i.2.1 i.2.2.1 i.2.2.2)))) (fun j=>(fun (out:List Za) (r2:Int)=>(.seq (.seq (.reg [(1,kh48l r1X 1 r1.b r2 3)]) (.cond (.reg [(4,kh48l r1X 1 r1.b (F48 ⟨r1.b,r2⟩ 3).2 (out.length:Int)),(5,.call 68 (S68 out (F48 ⟨r1.b,(F48 ⟨r1.b,r2⟩ 3).2⟩ (out.length:Int)).1) (ok68 out (F48 ⟨r1.b,(F48 ⟨r1.b,r2⟩ 3).2⟩ (out.length:Int)).1) none)]) .no)) (.seq .no .no))) j.1 j.2)))) Tryz.func50 (fun (hp:0<=r1.p/\r1.p<=800000000/\r1.b.length<=2000)=>have hpre0:=hp.1; have hpre1:=hp.2.1; have hpre2:=hp.2.2; kn r1.b fun _=>kc51l r1X r1.b r1.p uu0 uu0 uu0 uu0 uu0 (fun gv1=>ai (kc48l r1X r1.b (F51 ⟨r1.b,r1.p⟩).2 4 uu0 uu0 uu0 uu0 uu0 (fun gv2=>have gv3:(F48 ⟨r1.b,(F51 ⟨r1.b,r1.p⟩).2⟩ 4).1<(4:Int):=uu22; kn r1.b fun _=>kn (F51 ⟨r1.b,r1.p⟩).1 fun _=>ai (en50_0 r1X r1 (by refine ⟨?_,?_,?_,?_,?_⟩ <;> first | omega | (simp only [lens,ib] at*<;> omega) | omega | assumption | exact without_lq (by assumption) (by omega) (by omega) | exact without_lq (by assumption) (by omega) (key_lt _ _) | exact put_lq (by assumption) (by omega) (by omega) | exact cq_lq (Ge (by assumption)) | exact Ge (by assumption))) (fun (i0:Nat×(List Za×Int×Int)) (hi0:lJ50_0 r1 i0)=>(fun (m0:Nat) (out1:List Za) (n:Int) (r3:Int) (hh0:lH50_0 r1 i0 m0 out1 n r3)=>have hI0:=hh0.1; have hl0:=hh0.2.1; have _:=hh0.2.2.1; have _:=hh0.2.2.2.1; have _:=hh0.2.2.2.2.1; have _:=hh0.2.2.2.2.2.1; have _:=hh0.2.2.2.2.2.2.1; have _:=hh0.2.2.2.2.2.2.2; ifd (n>0) (fun h5 _=>kc86l r1X r1.b r3 uu0 uu0 uu0 uu0 uu0 (fun gv6=>ai (uu0:(F86 ⟨r1.b,r3⟩).1.size<=1048576) (ai (Imp.refl (.v (.string (F86 ⟨r1.b,r3⟩).1))) (ai (uu36:∀ k:Nat,(out1.getD k default).size<=1048576) (ai (Imp.refl (.l 1 eStr out1)) (ai (Imp.refl (.v (.string (F14 (F86 ⟨r1.b,r3⟩).1)))) (ai (ifd ((F99 out1 (F14 (F86 ⟨r1.b,r3⟩).1))>=0) (fun h7 _=>ai (ai (uu0:0<=(F99 out1 (F14 (F86 ⟨r1.b,r3⟩).1))) (ai (by exact key_lt _ _:(F99 out1 (F14 (F86 ⟨r1.b,r3⟩).1))<(out1.length:Int)) (by (have h9:=lq_len (by assumption:LQ out1); omega):out1.length<=1048576))) (ai (Imp.refl (.l 1 eStr out1)) (ai (Imp.refl (.v (vI (F99 out1 (F14 (F86 ⟨r1.b,r3⟩).1))))) (have gv8:(F68 out1 (F99 out1 (F14 (F86 ⟨r1.b,r3⟩).1))).length+1=out1.length:=without_len out1 (F99 out1 (F14 (F86 ⟨r1.b,r3⟩).1)) (uu0:0<=(F99 out1 (F14 (F86 ⟨r1.b,r3⟩).1))) (by exact key_lt _ _:(F99 out1 (F14 (F86 ⟨r1.b,r3⟩).1))<(out1.length:Int)) (by (have h9:=lq_len (by assumption:LQ out1); omega):out1.length<=1048576); have gv9:∀ q:Nat,((F68 out1 (F99 out1 (F14 (F86 ⟨r1.b,r3⟩).1))).getD q default).size<=1048576:=without_sz out1 (F99 out1 (F14 (F86 ⟨r1.b,r3⟩).1)) (uu36:∀ q:Nat,(out1.getD q default).size<=1048576); jn50_3 r1X r1 out1 n r3 (F68 out1 (F99 out1 (F14 (F86 ⟨r1.b,r3⟩).1))) (S5 (condT h7 rfl)) (by refine ⟨?_,?_⟩ <;> first | exact trivial | omega | (simp only [lens,ib] at*<;> omega) | omega | assumption | exact without_lq (by assumption) (by omega) (by omega) | exact without_lq (by assumption) (by omega) (key_lt _ _) | exact put_lq (by assumption) (by omega) (by omega) | exact cq_lq (Ge (by assumption)) | exact Ge (by assumption)))))) (fun h7 _=>jn50_3 r1X r1 out1 n r3 out1 (S5 (condF h7 rfl)) (by refine ⟨?_,?_⟩ <;> (simp only [lens,ib] at*<;> omega)))) (fun (j:List Za) (hj:jJ50_3 r1X r1 out1 n r3 j)=>(fun (out2:List Za) (hJ3_10:(F50_j3 r1 out1 n r3)=Lp.done out2) (hw:jI50_3 r1X r1 out1 n r3 out2)=>have _:=hw.1; ifd ((out2.length:Int)<16) (fun h11 _=>ai (ai (uu0:out2.length<=1048576) (uu36:∀ k:Nat,(out2.getD k default).size<=1048576)) (ai (Imp.refl (.l 1 eStr out2)) (ai (Imp.refl (.v (.string (F86 ⟨r1.b,r3⟩).1))) (have gv12:(F79 out2 (F86 ⟨r1.b,r3⟩).1).length=out2.length+1:=put_len out2 (F86 ⟨r1.b,r3⟩).1; have gv13:∀ k:Nat,((F79 out2 (F86 ⟨r1.b,r3⟩).1).getD k default).size<=1048576:=put_sz out2 (F86 ⟨r1.b,r3⟩).1 (uu36:∀ k:Nat,(out2.getD k default).size<=1048576) (uu0:(F86 ⟨r1.b,r3⟩).1.size<=1048576); ai (iok (n-1) uu0) (bk50_0 r1X r1 i0 m0 (F79 out2 (F86 ⟨r1.b,r3⟩).1) (n-1) (F86 ⟨r1.b,r3⟩).2 hl0 (runL_next hI0 (condT h5 (finD hJ3_10 (condT h11 rfl)))) (by refine ⟨?_,?_,?_,?_,?_,?_⟩ <;> first | omega | (simp only [lens,ib] at*<;> omega) | omega | assumption | exact without_lq (by assumption) (by omega) (by omega) | exact without_lq (by assumption) (by omega) (key_lt _ _) | exact put_lq (by assumption) (by omega) (by omega) | exact cq_lq (Ge (by assumption)) | exact Ge (by assumption))))))) (fun h11 _=>ai (iok (n-1) uu0) (bk50_0 r1X r1 i0 m0 out2 (n-1) (F86 ⟨r1.b,r3⟩).2 hl0 (runL_next hI0 (condT h5 (finD hJ3_10 (condF h11 rfl)))) (by refine ⟨?_,?_,?_,?_,?_,?_⟩ <;> omega)))) j hj.1 hj.2)))))))) (fun h5 _=>have hD0_14:lX50_0 r1=Lp.done (out1,n,r3):=runL_done hI0 (condF h5 rfl); jn50_0 r1X r1 out1 r3 (S5 (finD hD0_14 rfl)) uu34)) (i0.1-1) i0.2.1 i0.2.2.1 i0.2.2.2 (un50_0 r1 i0 hi0)))) (fun (j:List Za×Int) (hj:jJ50_0 r1X r1 j)=>(fun (out:List Za) (r2:Int) (hJ0_15:(F50_j0 r1)=Lp.done (out,r2)) (hw:jI50_0 r1X r1 out r2)=>have _:=hw.1; have _:=hw.2.1; have _:=hw.2.2; kc48l r1X r1.b r2 3 uu0 uu0 uu0 uu0 uu0 (fun gv16=>have gv17:(F48 ⟨r1.b,r2⟩ 3).1<(3:Int):=uu22; ifb (bif ((F48 ⟨r1.b,r2⟩ 3).1==0) then decide ((out.length:Int)>0) else false) (fun h18=>have _:=eq_of_beq (andT1 h18); have _:=Qd (andT2 h18); kc48l r1X r1.b (F48 ⟨r1.b,r2⟩ 3).2 (out.length:Int) uu0 uu0 uu0 uu0 uu0 (fun gv19=>have gv20:(F48 ⟨r1.b,(F48 ⟨r1.b,r2⟩ 3).2⟩ (out.length:Int)).1<(out.length:Int):=uu22; ai (ai (uu0:0<=(F48 ⟨r1.b,(F48 ⟨r1.b,r2⟩ 3).2⟩ (out.length:Int)).1) (ai (uu0:(F48 ⟨r1.b,(F48 ⟨r1.b,r2⟩ 3).2⟩ (out.length:Int)).1<(out.length:Int)) (by (have h9:=lq_len (by assumption:LQ out); omega):out.length<=1048576))) (ai (Imp.refl (.l 1 eStr out)) (ai (Imp.refl (.v (vI (F48 ⟨r1.b,(F48 ⟨r1.b,r2⟩ 3).2⟩ (out.length:Int)).1))) (have gv21:(F68 out (F48 ⟨r1.b,(F48 ⟨r1.b,r2⟩ 3).2⟩ (out.length:Int)).1).length+1=out.length:=without_len out (F48 ⟨r1.b,(F48 ⟨r1.b,r2⟩ 3).2⟩ (out.length:Int)).1 (uu0:0<=(F48 ⟨r1.b,(F48 ⟨r1.b,r2⟩ 3).2⟩ (out.length:Int)).1) (uu0:(F48 ⟨r1.b,(F48 ⟨r1.b,r2⟩ 3).2⟩ (out.length:Int)).1<(out.length:Int)) (by (have h9:=lq_len (by assumption:LQ out); omega):out.length<=1048576); have gv22:∀ q:Nat,((F68 out (F48 ⟨r1.b,(F48 ⟨r1.b,r2⟩ 3).2⟩ (out.length:Int)).1).getD q default).size<=1048576:=without_sz out (F48 ⟨r1.b,(F48 ⟨r1.b,r2⟩ 3).2⟩ (out.length:Int)).1 (uu36:∀ q:Nat,(out.getD q default).size<=1048576); (fun hF:((F68 out (F48 ⟨r1.b,(F48 ⟨r1.b,r2⟩ 3).2⟩ (out.length:Int)).1),(F48 ⟨r1.b,(F48 ⟨r1.b,r2⟩ 3).2⟩ (out.length:Int)).2)=(F50 r1)=>ai (Imp.of_eq (Qh (fun r:List Za×Int=>Dat.l 1 eStr r.1) hF)) (ai (ai (Imp.refl (Dat.v (sv r1X))) (ai (Imp.of_eq (Qh (fun r:List Za×Int=>Dat.v (vI r.2)) hF)) trivial)) trivial)) (finD hJ0_15 (condT h18 rfl))))))) (fun h18=>(fun hF:(out,(F48 ⟨r1.b,r2⟩ 3).2)=(F50 r1)=>ai (Imp.of_eq (Qh (fun r:List Za×Int=>Dat.l 1 eStr r.1) hF)) (ai (ai (Imp.refl (Dat.v (sv r1X))) (ai (Imp.of_eq (Qh (fun r:List Za×Int=>Dat.v (vI r.2)) hF)) trivial)) trivial)) (finD hJ0_15 (condF h18 rfl))))) j.1 j.2 hj.1 hj.2))) uu3
theorem lq_without_key {xs:List Za} (h:LQ xs) (key:Za):LQ (bif decide (F99 xs key>=0) then F68 xs (F99 xs key) else xs):=by
 by_cases hk:F99 xs key>=0
 ·rw [Qs hk]; exact without_lq h hk (key_lt _ _)
 ·rw [Qq hk]; exact h
theorem down_loop {ρ:Type} (c:Int) (step:List Za×Int×Int->Lp (List Za×Int×Int) ρ) (B:Int)
  (h1:∀ out n r,n>0->LQ out->0<=r->r<=B->∃ out' r',step (out,n,r)=.next (out',n-1,r')/\LQ out'/\r<=r'/\r'<=r+c)
  (h2:∀ out r,step (out,0,r)=.done (out,0,r)):∀ (N:Nat) (xs:List Za) (r:Int),LQ xs->0<=r->0<=c->r+c*N<=B->∀ M,N<M->∃ ys r',runL step M (xs,(N:Int),r)=.done (ys,0,r')/\LQ ys/\r<=r'/\r'<=r+c*N
 | _,_,_,_,_,_,_,0,hM=>absurd hM (R5 _)
 | 0,xs,r,h,h0,hc,hB,M+1,hM=>⟨xs,r,runL_d _ (h2 xs r),h,by omega,by simp⟩
 | N+1,xs,r,h,h0,hc,hB,M+1,hM=>by
  have e:c*((N+1:Nat):Int)=c*(N:Int)+c:=by rw [Int.natCast_succ,Int.mul_add,Int.mul_one]
  have hcN:0<=c*(N:Int):=Int.mul_nonneg hc uu0
  obtain ⟨out',r',e1,q1,q2,q3⟩:=h1 xs ((N+1:Nat):Int) r uu0 h h0 uu0
  obtain ⟨ys,r'',e2,k1,k2,k3⟩:=down_loop c step B h1 h2 N out' r' q1 uu0 hc uu0 M uu0
  refine ⟨ys,r'',?_,k1,by omega,by omega⟩
  rw [show ((N+1:Nat):Int)-1=(N:Int) by omega] at e1
  rw [runL_n _ e1]
  exact e2
theorem pick_nat (r1:l51Rd) (n:Int) (h0:0<=r1.p) (h1:r1.p<=1000000000) (hn:1<=n):∃ N:Nat,(F48 r1 n).1=(N:Int)/\(N:Int)<n:=by
 obtain ⟨k1,k2,k3⟩:=pick_in r1 n h0 h1
 exact ⟨((F48 r1 n).1).toNat,(Int.toNat_of_nonneg k1).symm,by have:=k2 hn; omega⟩
theorem neat_j3 (r1:l51Rd) (out:List Za) (n r2:Int) (h:LQ out):∃ out1,F50_j3 r1 out n r2=Lp.done out1/\LQ out1:=by
 have hq:=lq_without_key h (F14 ((F86 (⟨r1.b,r2⟩:l51Rd)).1))
 unfold F50_j3
 cases hc:decide (F99 out (F14 ((F86 (⟨r1.b,r2⟩:l51Rd)).1))>=0)
 ·rw [hc] at hq; exact ⟨_,rfl,hq⟩
 ·rw [hc] at hq; exact ⟨_,rfl,hq⟩
theorem neat_step (r1:l51Rd) (out:List Za) (n r2:Int) (hn:n>0) (h:LQ out):∃ out' r',F50_s0 r1 (out,n,r2)=.next (out',n-1,r')/\LQ out'/\r2<=r'/\r'<=r2+9:=by
 simp only [F50_s0]
 rw [Qs hn,Qc]
 obtain ⟨out1,e1,q1⟩:=neat_j3 r1 out n r2 h
 rw [e1]
 simp only [Lp.fin]
 obtain ⟨z1,z2,z3⟩:=dline_all (⟨r1.b,r2⟩:l51Rd)
 by_cases hl:(out1.length:Int)<16
 ·rw [Qs hl,Qc]
  exact ⟨_,_,rfl,put_lq q1 uu0 z1,z2,z3⟩
 ·rw [Qq hl,Qb]
  exact ⟨_,_,rfl,q1,z2,z3⟩
theorem neat_q (r1:l51Rd) (h0:0<=r1.p) (h1:r1.p<=800000000):LQ (F50 r1).1/\0<=(F50 r1).2/\(F50 r1).2<=r1.p+450:=by
 obtain ⟨c1,c2,c3⟩:=conf_q (⟨r1.b,r1.p⟩:l51Rd) h0 h1
 have c3:(F51 (⟨r1.b,r1.p⟩:l51Rd)).2<=r1.p+400:=c3
 obtain ⟨N,e0,hN⟩:=pick_nat (⟨r1.b,(F51 (⟨r1.b,r1.p⟩:l51Rd)).2⟩:l51Rd) 4 c2 (by show (F51 (⟨r1.b,r1.p⟩:l51Rd)).2<=_; omega) uu1
 have hj:∃ out r2,F50_j0 r1=Lp.done (out,r2)/\LQ out/\0<=r2/\r2<=r1.p+430:=by
  unfold F50_j0
  rw [e0]
  obtain ⟨ys,r',e1,q1,q2,q3⟩:=down_loop 9 (F50_s0 r1) 900000000 (fun out n r hn hq _ _=>neat_step r1 out n r hn hq) (fun out r=>by simp only [F50_s0]; rfl) N (F51 (⟨r1.b,r1.p⟩:l51Rd)).1 (F48 (⟨r1.b,(F51 (⟨r1.b,r1.p⟩:l51Rd)).2⟩:l51Rd) 4).2 (cq_lq c1) uu19 uu1 uu19 (Int.toNat ((N:Int)-0)+1) uu0
  rw [e1]
  simp only [pick_p] at q2 q3
  exact ⟨_,_,rfl,q1,by omega,by omega⟩
 obtain ⟨out,r2,e1,q1,q2,q3⟩:=hj
 unfold F50
 rw [e1]
 simp only [Lp.fin]
 cases hc:(bif ((F48 (⟨r1.b,r2⟩:l51Rd) 3).1==0) then decide ((out.length:Int)>0) else false) with
 | false =>
  rw [Qb]
  refine ⟨q1,?_,?_⟩ <;> (simp only [pick_p]; omega)
 | true =>
  have hl:(out.length:Int)>0:=by
   cases hp:((F48 (⟨r1.b,r2⟩:l51Rd) 3).1==0) with
   | true=>rw [hp,Qc] at hc; exact Qd hc
   | false=>rw [hp] at hc; cases hc
  obtain ⟨k1,k2,k3⟩:=pick_in (⟨r1.b,(F48 (⟨r1.b,r2⟩:l51Rd) 3).2⟩:l51Rd) (out.length:Int) uu19 uu19
  rw [Qc]
  refine ⟨without_lq q1 k1 (k2 uu0),?_,?_⟩ <;> (simp only [pick_p]; omega)
abbrev w117_:Za:=⟨#[102,114,111,98,32,49]⟩
abbrev Wf:List Za:=[Zx,Yj,Yk,Yl,Ym,Yn,Yo,Yp,Yq,Yr,Ys,Yt,Zp,Yu,Yv,Yw,Yx]
def F49_s0 (r1:l51Rd) (lines:List Za):(List Za×Int×Int)->Lp (List Za×Int×Int) (List Za×Int):=fun (out,i40,r2) =>
 bif (decide (i40<(16+(F48 ⟨r1.b,r2⟩ 2).1))) then (.next ((F79 out ((Yi++(Wf.getD (Int.toNat i40) default))++Yy)),(i40+1),(F48 ⟨r1.b,r2⟩ 2).2)) else (.done (out,i40,(F48 ⟨r1.b,r2⟩ 2).2))
abbrev Wg:List Za:=[Zd,Yb,Zo,Zj]
def F49 (r1:l51Rd) (lines:List Za):List Za×Int :=
 bif (bif ((lines.length:Int)==0) then true else ((F48 ⟨r1.b,r1.p⟩ 5).1==0)) then ((runL (F49_s0 r1 lines) ((Int.toNat (17-0))+1) (lines,0,(bif (!((lines.length:Int)==0)) then (F48 ⟨r1.b,r1.p⟩ 5).2 else r1.p))).fin (fun r=>r) (fun (out,i40,r2)=>(out,r2))) else (bif ((F48 ⟨r1.b,(F48 ⟨r1.b,(bif (!((lines.length:Int)==0)) then (F48 ⟨r1.b,r1.p⟩ 5).2 else r1.p)⟩ (lines.length:Int)).2⟩ 4).1==0) then ((lines.set (F48 ⟨r1.b,(bif (!((lines.length:Int)==0)) then (F48 ⟨r1.b,r1.p⟩ 5).2 else r1.p)⟩ (lines.length:Int)).1.toNat ((lines.getD (F48 ⟨r1.b,(bif (!((lines.length:Int)==0)) then (F48 ⟨r1.b,r1.p⟩ 5).2 else r1.p)⟩ (lines.length:Int)).1.toNat default)++(F67 ⟨r1.b,(F48 ⟨r1.b,(F48 ⟨r1.b,(bif (!((lines.length:Int)==0)) then (F48 ⟨r1.b,r1.p⟩ 5).2 else r1.p)⟩ (lines.length:Int)).2⟩ 4).2⟩ Wg).1)),(F67 ⟨r1.b,(F48 ⟨r1.b,(F48 ⟨r1.b,(bif (!((lines.length:Int)==0)) then (F48 ⟨r1.b,r1.p⟩ 5).2 else r1.p)⟩ (lines.length:Int)).2⟩ 4).2⟩ Wg).2) else (bif ((F48 ⟨r1.b,(F48 ⟨r1.b,(bif (!((lines.length:Int)==0)) then (F48 ⟨r1.b,r1.p⟩ 5).2 else r1.p)⟩ (lines.length:Int)).2⟩ 4).1==1) then ((lines++[(lines.getD (F48 ⟨r1.b,(bif (!((lines.length:Int)==0)) then (F48 ⟨r1.b,r1.p⟩ 5).2 else r1.p)⟩ (lines.length:Int)).1.toNat default)]),(F48 ⟨r1.b,(F48 ⟨r1.b,(bif (!((lines.length:Int)==0)) then (F48 ⟨r1.b,r1.p⟩ 5).2 else r1.p)⟩ (lines.length:Int)).2⟩ 4).2) else (bif ((F48 ⟨r1.b,(F48 ⟨r1.b,(bif (!((lines.length:Int)==0)) then (F48 ⟨r1.b,r1.p⟩ 5).2 else r1.p)⟩ (lines.length:Int)).2⟩ 4).1==2) then ((lines.set (F48 ⟨r1.b,(bif (!((lines.length:Int)==0)) then (F48 ⟨r1.b,r1.p⟩ 5).2 else r1.p)⟩ (lines.length:Int)).1.toNat (F67 ⟨r1.b,(F48 ⟨r1.b,(F48 ⟨r1.b,(bif (!((lines.length:Int)==0)) then (F48 ⟨r1.b,r1.p⟩ 5).2 else r1.p)⟩ (lines.length:Int)).2⟩ 4).2⟩ ([Zf,Zq,Y7,Yc,Y8,Y9,Xa,Xb,Xc,Xd,Xe,Xf,Xg,Xh,Xi,Xj,Xk,Xl,Xm,Xn,Xo,Xp,(⟨#[102,114,111,98,32,49]⟩:Za)]:List Za)).1),(F67 ⟨r1.b,(F48 ⟨r1.b,(F48 ⟨r1.b,(bif (!((lines.length:Int)==0)) then (F48 ⟨r1.b,r1.p⟩ 5).2 else r1.p)⟩ (lines.length:Int)).2⟩ 4).2⟩ ([Zf,Zq,Y7,Yc,Y8,Y9,Xa,Xb,Xc,Xd,Xe,Xf,Xg,Xh,Xi,Xj,Xk,Xl,Xm,Xn,Xo,Xp,(⟨#[102,114,111,98,32,49]⟩:Za)]:List Za)).2) else ((F79 (F68 lines (F48 ⟨r1.b,(bif (!((lines.length:Int)==0)) then (F48 ⟨r1.b,r1.p⟩ 5).2 else r1.p)⟩ (lines.length:Int)).1) (F86 ⟨r1.b,(F48 ⟨r1.b,(F48 ⟨r1.b,(bif (!((lines.length:Int)==0)) then (F48 ⟨r1.b,r1.p⟩ 5).2 else r1.p)⟩ (lines.length:Int)).2⟩ 4).2⟩).1),(F86 ⟨r1.b,(F48 ⟨r1.b,(F48 ⟨r1.b,(bif (!((lines.length:Int)==0)) then (F48 ⟨r1.b,r1.p⟩ 5).2 else r1.p)⟩ (lines.length:Int)).2⟩ 4).2⟩).2))))
abbrev lN49_0 (r1:l51Rd) (lines:List Za):Nat×(List Za×Int×Int):=(((Int.toNat (17-0))+1),(lines,0,(bif (!((lines.length:Int)==0)) then (F48 ⟨r1.b,r1.p⟩ 5).2 else r1.p)))
abbrev lI49_0 (r1:l51Rd) (m39:Nat) (out:List Za) (i40:Int) (r2:Int):Prop:=Int.toNat (17-i40)<m39/\(out.length:Int)<=17+i40/\(∀ q:Nat,(out.getD q default).size<=1000)/\i40<=(17:Int)/\(0:Int)<=r2/\r2<=r1.p+2+i40/\(0:Int)<=i40
abbrev lX49_0 (r1:l51Rd) (lines:List Za):Lp (List Za×Int×Int) (List Za×Int):=LpX (F49_s0 r1 lines) (lN49_0 r1 lines)
abbrev lJ49_0 (r1:l51Rd) (lines:List Za) (i:Nat×(List Za×Int×Int)):Prop:=LpJ (F49_s0 r1 lines) (lN49_0 r1 lines) i (lI49_0 r1 i.1 i.2.1 i.2.2.1 i.2.2.2)
abbrev lH49_0 (r1:l51Rd) (lines:List Za) (i:Nat×(List Za×Int×Int)) (m39:Nat) (out:List Za) (i40:Int) (r2:Int):Prop:=LpH (F49_s0 r1 lines) (lN49_0 r1 lines) i m39 (out,i40,r2) (lI49_0 r1 (m39+1) out i40 r2)
abbrev lE49_0 (r1X:SV) (r1:l51Rd) (out:List Za) (i40:Int) (r2:Int) (out_:List Za) (i40_:Int) (r2_:Int) (K39:Prop):Prop:=((.int .i64 i40:Value)=.int .i64 i40_)/\((.int .i64 r2:Value)=.int .i64 r2_)/\(Rf (sv r1X))/\(Im (.l 1 eByte r1.b))/\(Imp (.l 1 eStr out) (.l 1 eStr out_))/\K39
theorem un49_0 (r1:l51Rd) (lines:List Za) (i:Nat×(List Za×Int×Int)) (h:lJ49_0 r1 lines i):lH49_0 r1 lines i (i.1-1) i.2.1 i.2.2.1 i.2.2.2:=⟨hd1 h.1 h.2.1,hd3 h.2.1,hd2 h.2.1,h.2.2⟩
theorem bk49_0 (r1X:SV) (r1:l51Rd) (lines:List Za) (i:Nat×(List Za×Int×Int)) (m39:Nat) (out:List Za) (i40:Int) (r2:Int) (hl:m39<i.1) (e:runL (F49_s0 r1 lines) m39 (out,i40,r2)=lX49_0 r1 lines) (h:lI49_0 r1 m39 out i40 r2):∃ j:Nat×(List Za×Int×Int),lE49_0 r1X r1 out i40 r2 j.2.1 j.2.2.1 j.2.2.2 (lJ49_0 r1 lines j/\j.1<i.1):=⟨(m39,(out,i40,r2)),rfl,rfl,rfl,Imp.refl _,Imp.refl _,⟨e,h⟩,hl⟩
theorem en49_0 (r1X:SV) (r1:l51Rd) (lines:List Za) (h:(lines.length:Int)<=17+0/\(∀ q:Nat,(lines.getD q default).size<=1000)/\0<=(17:Int)/\(0:Int)<=(bif (!((lines.length:Int)==0)) then (F48 ⟨r1.b,r1.p⟩ 5).2 else r1.p)/\(bif (!((lines.length:Int)==0)) then (F48 ⟨r1.b,r1.p⟩ 5).2 else r1.p)<=r1.p+2+0/\(0:Int)<=0):lE49_0 r1X r1 lines 0 (bif (!((lines.length:Int)==0)) then (F48 ⟨r1.b,r1.p⟩ 5).2 else r1.p) lines 0 (bif (!((lines.length:Int)==0)) then (F48 ⟨r1.b,r1.p⟩ 5).2 else r1.p) (lJ49_0 r1 lines (lN49_0 r1 lines)):=⟨rfl,rfl,rfl,Imp.refl _,Imp.refl _,rfl,Qr _,h⟩
def S49 (r1X:SV) (gr1:Nat) (r1:l51Rd) (lines:List Za):Spec:=⟨[.ptg gr1 86 (sv r1X) (.l 1 eByte r1.b) [.v (vI r1.p)] [.v (vI (F49 r1 lines).2)],.r (.c (.l 1 eStr lines))],.ow (.l 1 eStr (F49 r1 lines).1),0<=r1.p/\r1.p<=800000000/\r1.b.length<=2000/\LQ lines⟩
abbrev Wk:List Za:=[Zf,Zq,Y7,Yc,Y8,Y9,Xa,Xb,Xc,Xd,Xe,Xf,Xg,Xh,Xi,Xj,Xk,Xl,Xm,Xn,Xo,Xp,w117_]
set_option maxHeartbeats 4000000 in
theorem ok49 (r1X:SV) (gr1:Nat) (r1:l51Rd) (lines:List Za):(S49 r1X gr1 r1 lines).ok Tryz.prog 49 :=
 fnG_ok mixed (fn:=Tryz.f49) (ct:=.seqk [(0,0),(1,0)] .no (.seq (.reg [(1,kh80a lines)]) (.seq (.seq (.reg [(5,kh48l r1X 0 r1.b r1.p 5)]) (.cond (.seq (.seqk [(0,0),(5,0)] .no (.blk (.loop (ι:=Nat×(List Za×Int×Int)) (fun i=>(fun (out:List Za) (i40:Int) (r2:Int)=>(⟨[(0,some (.p 0 0)),(5,some (.h 2 0)),(6,some (.v (vI i40)))],[(0,some (.box 86 [.h 1 0,.v (vI r2)])),(1,some (.vl (sv r1X) (.l 1 eByte r1.b))),(2,some (.own 2 (.l 1 eStr out)))],3⟩:St)) i.2.1 i.2.2.1 i.2.2.2) (lJ49_0 r1 lines) (fun i=>i.1) (lN49_0 r1 lines) (fun i=>(fun (out:List Za) (i40:Int) (r2:Int)=>(.seq (.seq (.reg [(2,kh48l r1X 1 r1.b r2 2),(3,.bnd)]) (.cond .no .no)) (.seq (.blk (.reg [(1,.dat (.l 1 eStr Wf)),(7,kh79 out ((Yi++(Wf.getD (Int.toNat i40) default))++Yy))])) (.reg [(1,.bnd)])))) i.2.1 i.2.2.1 i.2.2.2)))) (.seq .no .no)) .no)) (.seq (.reg [(3,kh48l r1X 0 r1.b (bif (!((lines.length:Int)==0)) then (F48 ⟨r1.b,r1.p⟩ 5).2 else r1.p) (lines.length:Int))]) (.seq (.seq (.reg [(1,kh48l r1X 0 r1.b (F48 ⟨r1.b,(bif (!((lines.length:Int)==0)) then (F48 ⟨r1.b,r1.p⟩ 5).2 else r1.p)⟩ (lines.length:Int)).2 4)]) (.blk (.seq .no (.cond (.reg [(7,.dat (.l 1 eStr Wg)),(8,kh67l r1X 0 r1.b (F48 ⟨r1.b,(F48 ⟨r1.b,(bif (!((lines.length:Int)==0)) then (F48 ⟨r1.b,r1.p⟩ 5).2 else r1.p)⟩ (lines.length:Int)).2⟩ 4).2 Wg),(11,.dat (.l 1 eStr (lines.set (F48 ⟨r1.b,(bif (!((lines.length:Int)==0)) then (F48 ⟨r1.b,r1.p⟩ 5).2 else r1.p)⟩ (lines.length:Int)).1.toNat ((lines.getD (F48 ⟨r1.b,(bif (!((lines.length:Int)==0)) then (F48 ⟨r1.b,r1.p⟩ 5).2 else r1.p)⟩ (lines.length:Int)).1.toNat default)++(F67 ⟨r1.b,(F48 ⟨r1.b,(F48 ⟨r1.b,(bif (!((lines.length:Int)==0)) then (F48 ⟨r1.b,r1.p⟩ 5).2 else r1.p)⟩ (lines.length:Int)).2⟩ 4).2⟩ Wg).1))))]) (.seq .no (.cond (.reg [(6,.dat (.l 1 eStr (lines++[(lines.getD (F48 ⟨r1.b,(bif (!((lines.length:Int)==0)) then (F48 ⟨r1.b,r1.p⟩ 5).2 else r1.p)⟩ (lines.length:Int)).1.toNat default)])))]) (.seq .no (.cond (.reg [(3,.dat (.l 1 eStr Wk)),(4,kh67l r1X 0 r1.b (F48 ⟨r1.b,(F48 ⟨r1.b,(bif (!((lines.length:Int)==0)) then (F48 ⟨r1.b,r1.p⟩ 5).2 else r1.p)⟩ (lines.length:Int)).2⟩ 4).2 Wk),(6,.dat (.l 1 eStr (lines.set (F48 ⟨r1.b,(bif (!((lines.length:Int)==0)) then (F48 ⟨r1.b,r1.p⟩ 5).2 else r1.p)⟩ (lines.length:Int)).1.toNat (F67 ⟨r1.b,(F48 ⟨r1.b,(F48 ⟨r1.b,(bif (!((lines.length:Int)==0)) then (F48 ⟨r1.b,r1.p⟩ 5).2 else r1.p)⟩ (lines.length:Int)).2⟩ 4).2⟩ Wk).1)))]) (.reg [(2,.call 68 (S68 lines (F48 ⟨r1.b,(bif (!((lines.length:Int)==0)) then (F48 ⟨r1.b,r1.p⟩ 5).2 else r1.p)⟩ (lines.length:Int)).1) (ok68 lines (F48 ⟨r1.b,(bif (!((lines.length:Int)==0)) then (F48 ⟨r1.b,r1.p⟩ 5).2 else r1.p)⟩ (lines.length:Int)).1) none),(4,kh86l r1X 0 r1.b (F48 ⟨r1.b,(F48 ⟨r1.b,(bif (!((lines.length:Int)==0)) then (F48 ⟨r1.b,r1.p⟩ 5).2 else r1.p)⟩ (lines.length:Int)).2⟩ 4).2),(5,.call 79 (S79 (F68 lines (F48 ⟨r1.b,(bif (!((lines.length:Int)==0)) then (F48 ⟨r1.b,r1.p⟩ 5).2 else r1.p)⟩ (lines.length:Int)).1) (F86 ⟨r1.b,(F48 ⟨r1.b,(F48 ⟨r1.b,(bif (!((lines.length:Int)==0)) then (F48 ⟨r1.b,r1.p⟩ 5).2 else r1.p)⟩ (lines.length:Int)).2⟩ 4).2⟩).1) (ok79 (F68 lines (F48 ⟨r1.b,(bif (!((lines.length:Int)==0)) then (F48 ⟨r1.b,r1.p⟩ 5).2 else r1.p)⟩ (lines.length:Int)).1) (F86 ⟨r1.b,(F48 ⟨r1.b,(F48 ⟨r1.b,(bif (!((lines.length:Int)==0)) then (F48 ⟨r1.b,r1.p⟩ 5).2 else r1.p)⟩ (lines.length:Int)).2⟩ 4).2⟩).1) none)]))))))))) (.seq .no .no)))))) Tryz.func49 (fun (hp:0<=r1.p/\r1.p<=800000000/\r1.b.length<=2000/\LQ lines)=>have hpre0:=hp.1; have hpre1:=hp.2.1; have hpre2:=hp.2.2.1; have hpre3:=hp.2.2.2; kn r1.b fun _=>kn lines fun _=>kc80a lines uu51 (ai (fun k3:((lines.length:Int)==0)=false=>have _:=beqF k3; (ai (uu0:0<=r1.p) (ai (uu0:r1.p<=1000000000) (uu0:r1.b.length<=2000)))) (ai (fun k4:((lines.length:Int)==0)=false=>have _:=beqF k4; (Eq.refl (sv r1X))) (ai (fun k5:((lines.length:Int)==0)=false=>have _:=beqF k5; (Imp.refl (.l 1 eByte r1.b))) (ai (fun k6:((lines.length:Int)==0)=false=>have _:=beqF k6; (Imps.refl [.v (vI r1.p)])) (ai (fun k7:((lines.length:Int)==0)=false=>have _:=beqF k7; (Imp.refl (.v (vI 5)))) (have gv1:0<=(F48 ⟨r1.b,r1.p⟩ 5).1/\(1<=(5:Int)->(F48 ⟨r1.b,r1.p⟩ 5).1<(5:Int))/\(F48 ⟨r1.b,r1.p⟩ 5).2=r1.p+1:=pick_in (⟨r1.b,r1.p⟩:l51Rd) 5 (uu0:0<=r1.p) (uu0:r1.p<=1000000000); ifb (bif ((lines.length:Int)==0) then true else ((F48 ⟨r1.b,r1.p⟩ 5).1==0)) (fun h8=>kn r1.b fun _=>kn lines fun _=>ai (en49_0 r1X r1 lines (by refine ⟨?_,?_,?_,?_,?_,?_⟩ <;> first | omega | (simp only [lens,ib] at*<;> omega) | exact put_szN (by assumption) (szLe (app_le (app_le (lit_le _) (getD_sz (n:=2) (by decide) _)) (lit_le _)) (by decide)) | exact (lq_ls (by assumption)).2 | (have h9:=lq_len (by assumption:LQ lines); omega) | (simp only [put_len] at *; omega) | (have h0:0<=(bif (!((lines.length:Int)==0)) then (F48 ⟨r1.b,r1.p⟩ 5).2 else r1.p)/\(bif (!((lines.length:Int)==0)) then (F48 ⟨r1.b,r1.p⟩ 5).2 else r1.p)<=r1.p+1:=(by (cases ((lines.length:Int)==0) <;> simp only [Sc,Tb,Qc,Qb] <;> omega)); omega))) (fun (i0:Nat×(List Za×Int×Int)) (hi0:lJ49_0 r1 lines i0)=>(fun (m0:Nat) (out:List Za) (i40:Int) (r2:Int) (hh0:lH49_0 r1 lines i0 m0 out i40 r2)=>have hI0:=hh0.1; have hl0:=hh0.2.1; have _:=hh0.2.2.1; have _:=hh0.2.2.2.1; have _:=hh0.2.2.2.2.1; have _:=hh0.2.2.2.2.2.1; have _:=hh0.2.2.2.2.2.2.1; have _:=hh0.2.2.2.2.2.2.2.1; have _:=hh0.2.2.2.2.2.2.2.2; kc48l r1X r1.b r2 2 uu0 uu0 uu0 uu0 uu0 (fun gv10=>have gv11:(F48 ⟨r1.b,r2⟩ 2).1<(2:Int):=uu22; ai (iok (16+(F48 ⟨r1.b,r2⟩ 2).1) uu0) (ifd (i40<(16+(F48 ⟨r1.b,r2⟩ 2).1)) (fun h12 _=>ai (bokr 1 eStr Wf fun _=>rfl) (ai (uu31:ib i40 Wf) (ai (by exact sumLe (lit_le _) (getD_sz (n:=2) (by decide) _) (by decide):((Yi.size+(Wf.getD (Int.toNat i40) default).size:Nat):Int)<=9223372036854775807) (ai (by exact sumLe (app_le (lit_le _) (getD_sz (n:=2) (by decide) _)) (lit_le _) (by decide):(((Yi++(Wf.getD (Int.toNat i40) default)).size+Yy.size:Nat):Int)<=9223372036854775807) (kc79 out ((Yi++(Wf.getD (Int.toNat i40) default))++Yy) uu0 uu81 uu81 (by exact szLe (app_le (app_le (lit_le _) (getD_sz (n:=2) (by decide) _)) (lit_le _)) (by decide)) (fun gv13 gv14=>ai (iok (i40+1) uu0) (bk49_0 r1X r1 lines i0 m0 (F79 out ((Yi++(Wf.getD (Int.toNat i40) default))++Yy)) (i40+1) (F48 ⟨r1.b,r2⟩ 2).2 hl0 (runL_next hI0 (condT h12 rfl)) (by refine ⟨?_,?_,?_,?_,?_,?_,?_⟩ <;> first | omega | (simp only [lens,ib] at*<;> omega) | exact put_szN (by assumption) (szLe (app_le (app_le (lit_le _) (getD_sz (n:=2) (by decide) _)) (lit_le _)) (by decide)) | exact (lq_ls (by assumption)).2 | (have h9:=lq_len (by assumption:LQ lines); omega) | (simp only [put_len] at *; omega) | (have h0:0<=(bif (!((lines.length:Int)==0)) then (F48 ⟨r1.b,r1.p⟩ 5).2 else r1.p)/\(bif (!((lines.length:Int)==0)) then (F48 ⟨r1.b,r1.p⟩ 5).2 else r1.p)<=r1.p+1:=(by (cases ((lines.length:Int)==0) <;> simp only [Sc,Tb,Qc,Qb] <;> omega)); omega))))))))) (fun h12 _=>have hD0_15:lX49_0 r1 lines=Lp.done (out,i40,(F48 ⟨r1.b,r2⟩ 2).2):=runL_done hI0 (condF h12 rfl); (fun hF:(out,(F48 ⟨r1.b,r2⟩ 2).2)=(F49 r1 lines)=>ai (Imp.of_eq (Qh (fun r:List Za×Int=>Dat.l 1 eStr r.1) hF)) (ai (ai (Imp.refl (Dat.v (sv r1X))) (ai (Imp.of_eq (Qh (fun r:List Za×Int=>Dat.v (vI r.2)) hF)) trivial)) trivial)) (condT h8 (finD hD0_15 rfl)))))) (i0.1-1) i0.2.1 i0.2.2.1 i0.2.2.2 (un49_0 r1 lines i0 hi0))) (fun h8=>have _:=beqF (orF1 h8); have _:=beqF (orF2 h8); kc48l r1X r1.b (bif (!((lines.length:Int)==0)) then (F48 ⟨r1.b,r1.p⟩ 5).2 else r1.p) (lines.length:Int) uu13 uu13 uu0 uu13 uu13 (fun gv16=>have gv17:(F48 ⟨r1.b,(bif (!((lines.length:Int)==0)) then (F48 ⟨r1.b,r1.p⟩ 5).2 else r1.p)⟩ (lines.length:Int)).1<(lines.length:Int):=uu82; kc48l r1X r1.b (F48 ⟨r1.b,(bif (!((lines.length:Int)==0)) then (F48 ⟨r1.b,r1.p⟩ 5).2 else r1.p)⟩ (lines.length:Int)).2 4 uu13 uu13 uu0 uu13 uu13 (fun gv18=>have gv19:(F48 ⟨r1.b,(F48 ⟨r1.b,(bif (!((lines.length:Int)==0)) then (F48 ⟨r1.b,r1.p⟩ 5).2 else r1.p)⟩ (lines.length:Int)).2⟩ 4).1<(4:Int):=uu82; ife (F48 ⟨r1.b,(F48 ⟨r1.b,(bif (!((lines.length:Int)==0)) then (F48 ⟨r1.b,r1.p⟩ 5).2 else r1.p)⟩ (lines.length:Int)).2⟩ 4).1 0 (fun h20 _=>ai (uu0:ib (F48 ⟨r1.b,(bif (!((lines.length:Int)==0)) then (F48 ⟨r1.b,r1.p⟩ 5).2 else r1.p)⟩ (lines.length:Int)).1 lines) (ai (bokr 1 eStr Wg fun _=>rfl) (kc67l r1X r1.b (F48 ⟨r1.b,(F48 ⟨r1.b,(bif (!((lines.length:Int)==0)) then (F48 ⟨r1.b,r1.p⟩ 5).2 else r1.p)⟩ (lines.length:Int)).2⟩ 4).2 Wg uu13 uu13 uu0 uu1 uu1 uu13 uu13 uu1 (fun gv21=>ai (by exact sumLe ((by assumption:LQ lines).2 _) (of_le (n:=80) _ _ (by decide)) (by decide):(((lines.getD (F48 ⟨r1.b,(bif (!((lines.length:Int)==0)) then (F48 ⟨r1.b,r1.p⟩ 5).2 else r1.p)⟩ (lines.length:Int)).1.toNat default).size+(F67 ⟨r1.b,(F48 ⟨r1.b,(F48 ⟨r1.b,(bif (!((lines.length:Int)==0)) then (F48 ⟨r1.b,r1.p⟩ 5).2 else r1.p)⟩ (lines.length:Int)).2⟩ 4).2⟩ Wg).1.size:Nat):Int)<=9223372036854775807) (ai (uu0:ib (F48 ⟨r1.b,(bif (!((lines.length:Int)==0)) then (F48 ⟨r1.b,r1.p⟩ 5).2 else r1.p)⟩ (lines.length:Int)).1 lines) (ai (setr 1 eStr lines (F48 ⟨r1.b,(bif (!((lines.length:Int)==0)) then (F48 ⟨r1.b,r1.p⟩ 5).2 else r1.p)⟩ (lines.length:Int)).1.toNat ((lines.getD (F48 ⟨r1.b,(bif (!((lines.length:Int)==0)) then (F48 ⟨r1.b,r1.p⟩ 5).2 else r1.p)⟩ (lines.length:Int)).1.toNat default)++(F67 ⟨r1.b,(F48 ⟨r1.b,(F48 ⟨r1.b,(bif (!((lines.length:Int)==0)) then (F48 ⟨r1.b,r1.p⟩ 5).2 else r1.p)⟩ (lines.length:Int)).2⟩ 4).2⟩ Wg).1)) ((fun hF:((lines.set (F48 ⟨r1.b,(bif (!((lines.length:Int)==0)) then (F48 ⟨r1.b,r1.p⟩ 5).2 else r1.p)⟩ (lines.length:Int)).1.toNat ((lines.getD (F48 ⟨r1.b,(bif (!((lines.length:Int)==0)) then (F48 ⟨r1.b,r1.p⟩ 5).2 else r1.p)⟩ (lines.length:Int)).1.toNat default)++(F67 ⟨r1.b,(F48 ⟨r1.b,(F48 ⟨r1.b,(bif (!((lines.length:Int)==0)) then (F48 ⟨r1.b,r1.p⟩ 5).2 else r1.p)⟩ (lines.length:Int)).2⟩ 4).2⟩ Wg).1)),(F67 ⟨r1.b,(F48 ⟨r1.b,(F48 ⟨r1.b,(bif (!((lines.length:Int)==0)) then (F48 ⟨r1.b,r1.p⟩ 5).2 else r1.p)⟩ (lines.length:Int)).2⟩ 4).2⟩ Wg).2)=(F49 r1 lines)=>ai (Imp.of_eq (Qh (fun r:List Za×Int=>Dat.l 1 eStr r.1) hF)) (ai (ai (Imp.refl (Dat.v (sv r1X))) (ai (Imp.of_eq (Qh (fun r:List Za×Int=>Dat.v (vI r.2)) hF)) trivial)) trivial)) (condF h8 (condT h20 rfl))))))))) (fun h20 _=>ife (F48 ⟨r1.b,(F48 ⟨r1.b,(bif (!((lines.length:Int)==0)) then (F48 ⟨r1.b,r1.p⟩ 5).2 else r1.p)⟩ (lines.length:Int)).2⟩ 4).1 1 (fun h22 _=>ai (uu0:ib (F48 ⟨r1.b,(bif (!((lines.length:Int)==0)) then (F48 ⟨r1.b,r1.p⟩ 5).2 else r1.p)⟩ (lines.length:Int)).1 lines) (ai (appr 1 eStr lines [(lines.getD (F48 ⟨r1.b,(bif (!((lines.length:Int)==0)) then (F48 ⟨r1.b,r1.p⟩ 5).2 else r1.p)⟩ (lines.length:Int)).1.toNat default)] fun _=>rfl) (ai (by have h9:=lq_len hpre3; (try simp only [lens]); omega:(lines++[(lines.getD (F48 ⟨r1.b,(bif (!((lines.length:Int)==0)) then (F48 ⟨r1.b,r1.p⟩ 5).2 else r1.p)⟩ (lines.length:Int)).1.toNat default)]).length*16<=140737488355328) ((fun hF:((lines++[(lines.getD (F48 ⟨r1.b,(bif (!((lines.length:Int)==0)) then (F48 ⟨r1.b,r1.p⟩ 5).2 else r1.p)⟩ (lines.length:Int)).1.toNat default)]),(F48 ⟨r1.b,(F48 ⟨r1.b,(bif (!((lines.length:Int)==0)) then (F48 ⟨r1.b,r1.p⟩ 5).2 else r1.p)⟩ (lines.length:Int)).2⟩ 4).2)=(F49 r1 lines)=>ai (Imp.of_eq (Qh (fun r:List Za×Int=>Dat.l 1 eStr r.1) hF)) (ai (ai (Imp.refl (Dat.v (sv r1X))) (ai (Imp.of_eq (Qh (fun r:List Za×Int=>Dat.v (vI r.2)) hF)) trivial)) trivial)) (condF h8 (condF h20 (condT h22 rfl))))))) (fun h22 _=>ife (F48 ⟨r1.b,(F48 ⟨r1.b,(bif (!((lines.length:Int)==0)) then (F48 ⟨r1.b,r1.p⟩ 5).2 else r1.p)⟩ (lines.length:Int)).2⟩ 4).1 2 (fun h23 _=>ai (bokr 1 eStr Wk fun _=>rfl) (kc67l r1X r1.b (F48 ⟨r1.b,(F48 ⟨r1.b,(bif (!((lines.length:Int)==0)) then (F48 ⟨r1.b,r1.p⟩ 5).2 else r1.p)⟩ (lines.length:Int)).2⟩ 4).2 Wk uu13 uu13 uu0 uu1 uu1 uu13 uu13 uu1 (fun gv24=>ai (uu0:ib (F48 ⟨r1.b,(bif (!((lines.length:Int)==0)) then (F48 ⟨r1.b,r1.p⟩ 5).2 else r1.p)⟩ (lines.length:Int)).1 lines) (ai (setr 1 eStr lines (F48 ⟨r1.b,(bif (!((lines.length:Int)==0)) then (F48 ⟨r1.b,r1.p⟩ 5).2 else r1.p)⟩ (lines.length:Int)).1.toNat (F67 ⟨r1.b,(F48 ⟨r1.b,(F48 ⟨r1.b,(bif (!((lines.length:Int)==0)) then (F48 ⟨r1.b,r1.p⟩ 5).2 else r1.p)⟩ (lines.length:Int)).2⟩ 4).2⟩ Wk).1) ((fun hF:((lines.set (F48 ⟨r1.b,(bif (!((lines.length:Int)==0)) then (F48 ⟨r1.b,r1.p⟩ 5).2 else r1.p)⟩ (lines.length:Int)).1.toNat (F67 ⟨r1.b,(F48 ⟨r1.b,(F48 ⟨r1.b,(bif (!((lines.length:Int)==0)) then (F48 ⟨r1.b,r1.p⟩ 5).2 else r1.p)⟩ (lines.length:Int)).2⟩ 4).2⟩ Wk).1),(F67 ⟨r1.b,(F48 ⟨r1.b,(F48 ⟨r1.b,(bif (!((lines.length:Int)==0)) then (F48 ⟨r1.b,r1.p⟩ 5).2 else r1.p)⟩ (lines.length:Int)).2⟩ 4).2⟩ Wk).2)=(F49 r1 lines)=>ai (Imp.of_eq (Qh (fun r:List Za×Int=>Dat.l 1 eStr r.1) hF)) (ai (ai (Imp.refl (Dat.v (sv r1X))) (ai (Imp.of_eq (Qh (fun r:List Za×Int=>Dat.v (vI r.2)) hF)) trivial)) trivial)) (condF h8 (condF h20 (condF h22 (condT h23 rfl))))))))) (fun h23 _=>ai (ai (uu0:0<=(F48 ⟨r1.b,(bif (!((lines.length:Int)==0)) then (F48 ⟨r1.b,r1.p⟩ 5).2 else r1.p)⟩ (lines.length:Int)).1) (ai (uu0:(F48 ⟨r1.b,(bif (!((lines.length:Int)==0)) then (F48 ⟨r1.b,r1.p⟩ 5).2 else r1.p)⟩ (lines.length:Int)).1<(lines.length:Int)) (uu51:lines.length<=1048576))) (ai (Imp.refl (.l 1 eStr lines)) (ai (Imp.refl (.v (vI (F48 ⟨r1.b,(bif (!((lines.length:Int)==0)) then (F48 ⟨r1.b,r1.p⟩ 5).2 else r1.p)⟩ (lines.length:Int)).1))) (have gv25:(F68 lines (F48 ⟨r1.b,(bif (!((lines.length:Int)==0)) then (F48 ⟨r1.b,r1.p⟩ 5).2 else r1.p)⟩ (lines.length:Int)).1).length+1=lines.length:=without_len lines (F48 ⟨r1.b,(bif (!((lines.length:Int)==0)) then (F48 ⟨r1.b,r1.p⟩ 5).2 else r1.p)⟩ (lines.length:Int)).1 (uu0:0<=(F48 ⟨r1.b,(bif (!((lines.length:Int)==0)) then (F48 ⟨r1.b,r1.p⟩ 5).2 else r1.p)⟩ (lines.length:Int)).1) (uu0:(F48 ⟨r1.b,(bif (!((lines.length:Int)==0)) then (F48 ⟨r1.b,r1.p⟩ 5).2 else r1.p)⟩ (lines.length:Int)).1<(lines.length:Int)) (uu51:lines.length<=1048576); have gv26:∀ q:Nat,((F68 lines (F48 ⟨r1.b,(bif (!((lines.length:Int)==0)) then (F48 ⟨r1.b,r1.p⟩ 5).2 else r1.p)⟩ (lines.length:Int)).1).getD q default).size<=1048576:=without_sz lines (F48 ⟨r1.b,(bif (!((lines.length:Int)==0)) then (F48 ⟨r1.b,r1.p⟩ 5).2 else r1.p)⟩ (lines.length:Int)).1 (uu36:∀ q:Nat,(lines.getD q default).size<=1048576); kc86l r1X r1.b (F48 ⟨r1.b,(F48 ⟨r1.b,(bif (!((lines.length:Int)==0)) then (F48 ⟨r1.b,r1.p⟩ 5).2 else r1.p)⟩ (lines.length:Int)).2⟩ 4).2 uu13 uu13 uu0 uu13 uu13 (fun gv27=>ai (ai (uu51:(F68 lines (F48 ⟨r1.b,(bif (!((lines.length:Int)==0)) then (F48 ⟨r1.b,r1.p⟩ 5).2 else r1.p)⟩ (lines.length:Int)).1).length<=1048576) (uu0:∀ k:Nat,((F68 lines (F48 ⟨r1.b,(bif (!((lines.length:Int)==0)) then (F48 ⟨r1.b,r1.p⟩ 5).2 else r1.p)⟩ (lines.length:Int)).1).getD k default).size<=1048576)) (ai (Imp.refl (.l 1 eStr (F68 lines (F48 ⟨r1.b,(bif (!((lines.length:Int)==0)) then (F48 ⟨r1.b,r1.p⟩ 5).2 else r1.p)⟩ (lines.length:Int)).1))) (ai (Imp.refl (.v (.string (F86 ⟨r1.b,(F48 ⟨r1.b,(F48 ⟨r1.b,(bif (!((lines.length:Int)==0)) then (F48 ⟨r1.b,r1.p⟩ 5).2 else r1.p)⟩ (lines.length:Int)).2⟩ 4).2⟩).1))) (have gv28:(F79 (F68 lines (F48 ⟨r1.b,(bif (!((lines.length:Int)==0)) then (F48 ⟨r1.b,r1.p⟩ 5).2 else r1.p)⟩ (lines.length:Int)).1) (F86 ⟨r1.b,(F48 ⟨r1.b,(F48 ⟨r1.b,(bif (!((lines.length:Int)==0)) then (F48 ⟨r1.b,r1.p⟩ 5).2 else r1.p)⟩ (lines.length:Int)).2⟩ 4).2⟩).1).length=(F68 lines (F48 ⟨r1.b,(bif (!((lines.length:Int)==0)) then (F48 ⟨r1.b,r1.p⟩ 5).2 else r1.p)⟩ (lines.length:Int)).1).length+1:=put_len (F68 lines (F48 ⟨r1.b,(bif (!((lines.length:Int)==0)) then (F48 ⟨r1.b,r1.p⟩ 5).2 else r1.p)⟩ (lines.length:Int)).1) (F86 ⟨r1.b,(F48 ⟨r1.b,(F48 ⟨r1.b,(bif (!((lines.length:Int)==0)) then (F48 ⟨r1.b,r1.p⟩ 5).2 else r1.p)⟩ (lines.length:Int)).2⟩ 4).2⟩).1; have gv29:∀ k:Nat,((F79 (F68 lines (F48 ⟨r1.b,(bif (!((lines.length:Int)==0)) then (F48 ⟨r1.b,r1.p⟩ 5).2 else r1.p)⟩ (lines.length:Int)).1) (F86 ⟨r1.b,(F48 ⟨r1.b,(F48 ⟨r1.b,(bif (!((lines.length:Int)==0)) then (F48 ⟨r1.b,r1.p⟩ 5).2 else r1.p)⟩ (lines.length:Int)).2⟩ 4).2⟩).1).getD k default).size<=1048576:=put_sz (F68 lines (F48 ⟨r1.b,(bif (!((lines.length:Int)==0)) then (F48 ⟨r1.b,r1.p⟩ 5).2 else r1.p)⟩ (lines.length:Int)).1) (F86 ⟨r1.b,(F48 ⟨r1.b,(F48 ⟨r1.b,(bif (!((lines.length:Int)==0)) then (F48 ⟨r1.b,r1.p⟩ 5).2 else r1.p)⟩ (lines.length:Int)).2⟩ 4).2⟩).1 (uu0:∀ k:Nat,((F68 lines (F48 ⟨r1.b,(bif (!((lines.length:Int)==0)) then (F48 ⟨r1.b,r1.p⟩ 5).2 else r1.p)⟩ (lines.length:Int)).1).getD k default).size<=1048576) (uu0:(F86 ⟨r1.b,(F48 ⟨r1.b,(F48 ⟨r1.b,(bif (!((lines.length:Int)==0)) then (F48 ⟨r1.b,r1.p⟩ 5).2 else r1.p)⟩ (lines.length:Int)).2⟩ 4).2⟩).1.size<=1048576); (fun hF:((F79 (F68 lines (F48 ⟨r1.b,(bif (!((lines.length:Int)==0)) then (F48 ⟨r1.b,r1.p⟩ 5).2 else r1.p)⟩ (lines.length:Int)).1) (F86 ⟨r1.b,(F48 ⟨r1.b,(F48 ⟨r1.b,(bif (!((lines.length:Int)==0)) then (F48 ⟨r1.b,r1.p⟩ 5).2 else r1.p)⟩ (lines.length:Int)).2⟩ 4).2⟩).1),(F86 ⟨r1.b,(F48 ⟨r1.b,(F48 ⟨r1.b,(bif (!((lines.length:Int)==0)) then (F48 ⟨r1.b,r1.p⟩ 5).2 else r1.p)⟩ (lines.length:Int)).2⟩ 4).2⟩).2)=(F49 r1 lines)=>ai (Imp.of_eq (Qh (fun r:List Za×Int=>Dat.l 1 eStr r.1) hF)) (ai (ai (Imp.refl (Dat.v (sv r1X))) (ai (Imp.of_eq (Qh (fun r:List Za×Int=>Dat.v (vI r.2)) hF)) trivial)) trivial)) (condF h8 (condF h20 (condF h22 (condF h23 rfl)))))))))))))))))))))))) uu3
theorem set_szN {xs:List Za} {n k:Nat} {v:Za} (h:∀ q:Nat,(xs.getD q default).size<=n) (hv:v.size<=n):∀ q:Nat,((xs.set k v).getD q default).size<=n:=getD_sz fun x hx=>by
 rcases Gk hx with hx | rfl
 ·exact mem_sz h hx
 ·exact hv
theorem app_szN {xs:List Za} {n:Nat} {v:Za} (h:∀ q:Nat,(xs.getD q default).size<=n) (hv:v.size<=n):∀ q:Nat,((xs++[v]).getD q default).size<=n:=getD_sz fun x hx=>by
 rcases Q4.1 hx with hx | hx
 ·exact mem_sz h hx
 ·rw [Qy.1 hx]; exact hv
theorem spoil_loop (r1:l51Rd) (lines:List Za):∀ (m i:Nat) (out:List Za) (r:Int),i+m=17->out.length<=17+i->(∀ q:Nat,(out.getD q default).size<=1000)->0<=r->r+m<=900000000->∀ M,m<M ->
  ∃ ys i' r',runL (F49_s0 r1 lines) M (out,(i:Int),r)=.done (ys,i',r')/\ys.length<=34/\(∀ q:Nat,(ys.getD q default).size<=1000)/\r<=r'/\r'<=r+m+1
 | _,_,_,_,_,_,_,_,_,0,hM=>absurd hM (R5 _)
 | m,i,out,r,hi,hl,hz,h0,hB,M+1,hM=>by
  obtain ⟨k1,k2,k3⟩:=pick_in (⟨r1.b,r⟩:l51Rd) 2 h0 (by show r<=_; omega)
  have k2:=k2 uu1
  by_cases hc:(i:Int)<(16+((F48 (⟨r1.b,r⟩:l51Rd) 2).1))
  ·obtain ⟨m,rfl⟩:∃ m',m=m'+1:=⟨m-1,by omega⟩
   have e:F49_s0 r1 lines (out,(i:Int),r)=.next (F79 out ((Yi++(Wf.getD (Int.toNat (i:Int)) default))++Yy),((i+1:Nat):Int),(F48 (⟨r1.b,r⟩:l51Rd) 2).2):=by
    simp only [F49_s0]
    rw [Qs hc]; rfl
   obtain ⟨ys,i',r',e1,q1,q2,q3,q4⟩:=spoil_loop r1 lines m (i+1) (F79 out ((Yi++(Wf.getD (Int.toNat (i:Int)) default))++Yy)) (F48 (⟨r1.b,r⟩:l51Rd) 2).2 uu0 (by rw [put_len]; omega) (put_szN hz (szLe (app_le (app_le (lit_le _) (getD_sz (n:=2) uu1 _)) (lit_le _)) uu1)) uu19 uu19 M uu0
   simp only [pick_p] at q3 q4
   refine ⟨ys,i',r',?_,q1,q2,by omega,by omega⟩
   rw [runL_n _ e]
   exact e1
  ·have e:F49_s0 r1 lines (out,(i:Int),r)=.done (out,(i:Int),(F48 (⟨r1.b,r⟩:l51Rd) 2).2):=by
    simp only [F49_s0]
    rw [Qq hc]; rfl
   refine ⟨out,i,_,runL_d _ e,by omega,hz,?_,?_⟩ <;> (simp only [pick_p]; omega)
theorem spoil_q (r1:l51Rd) (lines:List Za) (h0:0<=r1.p) (h1:r1.p<=800000000) (h:LQ lines):LS (F49 r1 lines).1/\0<=(F49 r1 lines).2/\(F49 r1 lines).2<=r1.p+60:=by
 have h9:∀ q:Nat,(lines.getD q default).size<=1000:=(lq_ls h).2
 have hl:=h.1
 unfold F49
 have hp:r1.p<=(bif (!((lines.length:Int)==0)) then ((F48 (⟨r1.b,r1.p⟩:l51Rd) 5).2) else r1.p)/\(bif (!((lines.length:Int)==0)) then ((F48 (⟨r1.b,r1.p⟩:l51Rd) 5).2) else r1.p)<=r1.p+1:=by
  cases ((lines.length:Int)==0)
  ·simp only [Tb,Qc,pick_p]; omega
  ·simp only [Sc,Qb]; omega
 generalize (bif (!((lines.length:Int)==0)) then ((F48 (⟨r1.b,r1.p⟩:l51Rd) 5).2) else r1.p)=p0 at hp ⊢
 cases hc:(bif ((lines.length:Int)==0) then true else ((F48 (⟨r1.b,r1.p⟩:l51Rd) 5).1==0)) with
 | true =>
  rw [Qc]
  obtain ⟨ys,i',r',e1,q1,q2,q3,q4⟩:=spoil_loop r1 lines 17 0 lines p0 uu0 uu0 h9 uu0 uu0 (Int.toNat (17-0)+1) uu1
  rw [show (lines,(0:Int),p0)=(lines,((0:Nat):Int),p0) from rfl,e1]
  refine ⟨⟨by show ys.length<=40; omega,q2⟩,?_,?_⟩ <;> (simp only [Lp.fin,pick_p]; omega)
 | false =>
  have hne:¬ (lines.length:Int)=0:=fun e=>by
   rw [show ((lines.length:Int)==0)=true from Sb.2 e,Qc] at hc; cases hc
  rw [Qb]
  obtain ⟨k1,k2,k3⟩:=pick_in (⟨r1.b,p0⟩:l51Rd) (lines.length:Int) (by show 0<=p0; omega) (by show p0<=_; omega)
  have k2:=k2 uu0
  obtain ⟨z1,z2,z3⟩:=dline_all (⟨r1.b,(F48 (⟨r1.b,(F48 (⟨r1.b,p0⟩:l51Rd) (lines.length:Int)).2⟩:l51Rd) 4).2⟩:l51Rd)
  simp only [pick_p] at z2 z3
  have hw:=without_len lines _ k1 k2 uu0
  apply cond_P (P:=fun z:List Za×Int=>LS z.1/\0<=z.2/\z.2<=r1.p+60)
  ·refine ⟨⟨by rw [List.length_set]; omega,set_szN h9 (szLe (app_le (h.2 _) (of_le (n:=80) _ _ uu1)) uu1)⟩,?_,?_⟩ <;> (simp only [of_p,pick_p]; omega)
  apply cond_P (P:=fun z:List Za×Int=>LS z.1/\0<=z.2/\z.2<=r1.p+60)
  ·refine ⟨⟨by rw [Qu]; simp only [Qx,Rs]; omega,app_szN h9 (h9 _)⟩,?_,?_⟩ <;> (simp only [pick_p]; omega)
  apply cond_P (P:=fun z:List Za×Int=>LS z.1/\0<=z.2/\z.2<=r1.p+60)
  ·refine ⟨⟨by rw [List.length_set]; omega,set_szN h9 (szLe (of_le (n:=80) _ _ uu1) uu1)⟩,?_,?_⟩ <;> (simp only [of_p,pick_p]; omega)
  ·refine ⟨⟨by rw [put_len]; omega,put_szN (without_szN _ h9) (Q0 z1 uu1)⟩,?_,?_⟩ <;> (simp only [pick_p] at z2 z3 ⊢; omega)
theorem kc49l (X_:SV) (b_:List Int) (pp_:Int) (lines:List Za) {K_:Prop} (p0_:0<=pp_) (p1_:pp_<=800000000) (p2_:b_.length<=2000) (p3_:LQ lines) (q0_:0<=pp_) (q1_:pp_<=800000000) (q2_:LQ lines) (k_:(LS (F49 ⟨b_,pp_⟩ lines).1/\0<=(F49 ⟨b_,pp_⟩ lines).2/\(F49 ⟨b_,pp_⟩ lines).2<=pp_+60)->K_):(0<=pp_/\pp_<=800000000/\b_.length<=2000/\LQ lines)/\(sv X_=sv X_)/\(Imp (.l 1 eByte b_) (.l 1 eByte b_))/\(Imps ([.v (vI pp_)]) ([.v (vI pp_)]))/\(Imp (.l 1 eStr lines) (.l 1 eStr lines))/\K_:=⟨⟨p0_,p1_,p2_,p3_⟩,rfl,Imp.refl _,Imps.refl _,Imp.refl _,k_ (spoil_q (⟨b_,pp_⟩:l51Rd) lines q0_ q1_ q2_)⟩
abbrev kh49l (X_:SV) (g_:Nat) (b_:List Int) (pp_:Int) (lines:List Za):Hint true Tryz.prog:=.call 49 (S49 X_ g_ (⟨b_,pp_⟩:l51Rd) lines) (ok49 X_ g_ (⟨b_,pp_⟩:l51Rd) lines) none


theorem anyF_none {p:Nat->Bool}:∀ (m i:Nat),anyF p i m=false->∀ k,i<=k->k<i+m->p k=false
 | 0,i,_,k,h1,h2=>by omega
 | m+1,i,h,k,h1,h2=>by
  rw [anyF,Tn] at h
  rcases Nat.eq_or_lt_of_le h1 with rfl | hlt
  ·exact h.1
  ·exact anyF_none m (i+1) h.2 k hlt uu0
theorem neat_keys (lines:List Za) (h:F58 lines=0):(lines.map F14).Nodup:=by
 have hk:=(nt_facts lines h).2
 unfold F58 at h
 cases h16:decide ((lines.length:Int)>16) with
 | true=>rw [h16,Qc] at h; exact absurd h uu1
 | false =>
 rw [h16,Qb] at h
 have h0:=fun (f:Int->Int) (g:Int->Int) (y:Int) (hg:∀ i,g i=y)=>anyL lines (fun l=>!F47 l) (2:Int) (F58_s0 lines) (fun i hi=>by
  simp only [F58_s0,ltD hi,Qc,nn,getD_map _ _ _ hi,key_empty]
  rfl) uu45 f g y hg
 have hany:(lines.any fun l=>!F47 l)=false:=by
  rw [Sw]
  intro hc
  obtain ⟨x,hx,hp⟩:=Ry.1 hc
  rw [hk x hx] at hp
  cases hp
 rw [h0 (fun r=>r) _ _ (fun _=>rfl),hany,Qb] at h
 have h3:(runL (F58_s2 lines) ((Int.toNat ((lines.length:Int)-0))+1) 0).fin (fun r=>r) (fun i42=>0)=0:=by
  rcases Nat.eq_zero_or_pos lines.length with hz | hz
  ·have:lines=[]:=R3 hz
   subst this; rfl
  ·have h1:=fun (y:Int)=>any_loop (F58_s1 lines) lines.length (fun k=>(!(Op.bytesLess (lines.getD (k-1) default).toList (lines.getD k default).toList))) (3:Int) (fun r=>r) y (fun k hk=>by
    simp only [F58_s1,ltD hk,Qc,nn]
    rw [show Int.toNat ((k:Int)-1)=k-1 by omega]; rfl) (by simp only [F58_s1,geD,Qb]) (lines.length-1) 1 uu0 (Int.toNat ((lines.length:Int)-1)+1) uu0
   have h2:=h1 ((runL (F58_s2 lines) ((Int.toNat ((lines.length:Int)-0))+1) 0).fin (fun r=>r) (fun i42=>0))
   have h3:=h2.symm.trans h
   cases ha:anyF (fun k=>(!(Op.bytesLess (lines.getD (k-1) default).toList (lines.getD k default).toList))) 1 (lines.length-1) with
   | true=>rw [ha,Qc] at h3; exact absurd h3 uu1
   | false=>rw [ha,Qb] at h3; exact h3
 have h4:=any_loop (F58_s2 lines) lines.length (fun k=>decide ((lines.map F14).getD k default∈(lines.map F14).take k)) (4:Int) (fun r=>r) (0:Int) (fun i hi=>by
  simp only [F58_s2,ltD hi,Qc,nn,specHas_mem]; rfl) (by simp only [F58_s2,geD,Qb]) lines.length 0 uu0 (Int.toNat ((lines.length:Int)-0)+1) uu0
 have h5:=h4.symm.trans h3
 cases hb:anyF (fun k=>decide ((lines.map F14).getD k default∈(lines.map F14).take k)) 0 lines.length with
 | true=>rw [hb,Qc] at h5; exact absurd h5 uu1
 | false =>
  refine Tv.2 fun i j hi hj hij e=>?_
  have hj':j<lines.length:=by simpa using hj
  have:=Qv (anyF_none _ _ hb j (Re _) uu0)
  refine this ?_
  rw [Qe,Qj hj,Sa,<- e]
  exact List.mem_take_iff_getElem.2 ⟨i,by omega,rfl⟩
def F12_s0 (a:List Za) (b:List Za):Int->Lp Int Bool:=fun i40 =>
 bif (decide (i40<(a.length:Int))) then (bif (!((a.getD (Int.toNat i40) default).toList==(b.getD (Int.toNat i40) default).toList)) then (.ret false) else (.next (i40+1))) else (.done i40)
def F12 (a:List Za) (b:List Za):Bool :=
 bif ((a.length:Int) != (b.length:Int)) then false else ((runL (F12_s0 a b) ((Int.toNat ((a.length:Int)-0))+1) 0).fin (fun r=>r) (fun i40=>true))
abbrev lN12_0 (a:List Za):Nat×Int:=(((Int.toNat ((a.length:Int)-0))+1),0)
abbrev lI12_0 (a:List Za) (m39:Nat) (i40:Int):Prop:=Int.toNat ((a.length:Int)-i40)<m39/\(0:Int)<=i40
abbrev lX12_0 (a:List Za) (b:List Za):Lp Int Bool:=LpX (F12_s0 a b) (lN12_0 a)
abbrev lJ12_0 (a:List Za) (b:List Za) (i:Nat×Int):Prop:=LpJ (F12_s0 a b) (lN12_0 a) i (lI12_0 a i.1 i.2)
abbrev lH12_0 (a:List Za) (b:List Za) (i:Nat×Int) (m39:Nat) (i40:Int):Prop:=LpH (F12_s0 a b) (lN12_0 a) i m39 i40 (lI12_0 a (m39+1) i40)
abbrev lE12_0 (a:List Za) (b:List Za) (i40:Int) (i40_:Int) (K39:Prop):Prop:=((.int .i64 i40:Value)=.int .i64 i40_)/\(Im (.l 1 eStr a))/\(Im (.l 1 eStr b))/\K39
theorem un12_0 (a:List Za) (b:List Za) (i:Nat×Int) (h:lJ12_0 a b i):lH12_0 a b i (i.1-1) i.2:=⟨hd1 h.1 h.2.1,hd3 h.2.1,hd2 h.2.1,h.2.2⟩
theorem bk12_0 (a:List Za) (b:List Za) (i:Nat×Int) (m39:Nat) (i40:Int) (hl:m39<i.1) (e:runL (F12_s0 a b) m39 i40=lX12_0 a b) (h:lI12_0 a m39 i40):∃ j:Nat×Int,lE12_0 a b i40 j.2 (lJ12_0 a b j/\j.1<i.1):=⟨(m39,i40),rfl,Imp.refl _,Imp.refl _,⟨e,h⟩,hl⟩
theorem en12_0 (a:List Za) (b:List Za) (h:(0:Int)<=0):lE12_0 a b 0 0 (lJ12_0 a b (lN12_0 a)):=⟨rfl,Imp.refl _,Imp.refl _,rfl,Qr _,h⟩
def S12 (R:Bool) (a:List Za) (b:List Za):Spec:=⟨[.r (.c (.l 1 eStr a)),.r (.c (.l 1 eStr b))],.v (.bool R),True⟩
theorem ok12 (a:List Za) (b:List Za):(S12 (F12 a b) a b).ok Tryz.prog 12 :=
 fnG_ok mixed (fn:=Tryz.f12) (ct:=.seqk [(0,0),(1,0)] .no (.seq (.seq .no (.cond (.seq .no .no) .no)) (.seq (.seqk [(0,0),(1,0)] .no (.blk (.loop (ι:=Nat×Int) (fun i=>(fun (i40:Int)=>(⟨[(0,some (.h 0 0)),(1,some (.h 1 0)),(5,some (.v (vI i40)))],[(0,some (.shr none (.l 1 eStr a))),(1,some (.shr none (.l 1 eStr b)))],2⟩:St)) i.2) (lJ12_0 a b) (fun i=>i.1) (lN12_0 a) (fun i=>(fun (i40:Int)=>(.seq (.seq .no (.cond .no .no)) (.seq (.blk (.seq .no (.cond (.seq .no .no) .no))) (.reg [(1,.bnd)])))) i.2)))) (.seq .no .no)))) Tryz.func12 (fun (_:True)=>kn a fun _=>kn b fun _=>ifn (a.length:Int) (b.length:Int) (fun h1 _=>fiB false (F12 a b) (condT h1 rfl)) (fun h1 _=>kn a fun _=>kn b fun _=>ai (en12_0 a b uu0) (fun (i0:Nat×Int) (hi0:lJ12_0 a b i0)=>(fun (m0:Nat) (i40:Int) (hh0:lH12_0 a b i0 m0 i40)=>have hI0:=hh0.1; have hl0:=hh0.2.1; have _:=hh0.2.2.1; have _:=hh0.2.2.2; ifd (i40<(a.length:Int)) (fun h3 _=>ai (uu0:ib i40 a) (ai (uu0:ib i40 b) (ifb (!((a.getD (Int.toNat i40) default).toList==(b.getD (Int.toNat i40) default).toList)) (fun h4=>fiB false (F12 a b) (condF h1 (finR (runL_ret hI0 (condT h3 (condT h4 rfl))) rfl))) (fun h4=>ai (iok (i40+1) uu0) (bk12_0 a b i0 m0 (i40+1) hl0 (runL_next hI0 (condT h3 (condF h4 rfl))) uu6))))) (fun h3 _=>have hD0_5:lX12_0 a b=Lp.done i40:=runL_done hI0 (condF h3 rfl); fiB true (F12 a b) (condF h1 (finD hD0_5 rfl)))) (i0.1-1) i0.2 (un12_0 a b i0 hi0)))) uu3
theorem as12 (a:List Za) (b:List Za):F12 a b=(decide (a=b)):=by
 exact eq_loop (fun x y=>decide (x=y)) (fun _ _=>rfl) a b (F12_s0 a b) (fun i=>by simp only [F12_s0,neI,neB,neS])
theorem oa12 (a:List Za) (b:List Za):(S12 (decide (a=b)) a b).ok Tryz.prog 12:=by
 intro hp; have h:=ok12 a b hp; rw [as12 a b] at h; exact h
abbrev kh19f (lines:List Za):Hint false Tryz.prog:=.call 19 (S19 lines) ((ok19 lines).to false) none
theorem kg19 {K_:Prop} (c_ b_:Bool) (lines:List Za) (p_:c_=b_->lines.length<=1048576/\(∀ k:Nat,(lines.getD k default).size<=1048576)) (k_:K_):(c_=b_->lines.length<=1048576/\(∀ k:Nat,(lines.getD k default).size<=1048576))/\(c_=b_->Imp (.l 1 eStr lines) (.l 1 eStr lines))/\K_:=⟨p_,fun _=>Imp.refl _,k_⟩
theorem kg12a {K_:Prop} (c_ b_:Bool) (a:List Za) (b:List Za) (k_:K_):(c_=b_->True)/\(c_=b_->Imp (.l 1 eStr a) (.l 1 eStr a))/\(c_=b_->Imp (.l 1 eStr b) (.l 1 eStr b))/\K_:=⟨fun _=>trivial,fun _=>Imp.refl _,fun _=>Imp.refl _,k_⟩
abbrev kh12af (a:List Za) (b:List Za):Hint false Tryz.prog:=.call 12 (S12 (decide (a=b)) a b) ((oa12 a b).to false) none
theorem check_neat0 (lines:List Za) (h:F19 lines=0):F58 lines=0:=by
 unfold F19 at h
 cases hn:(F58 lines != 0) with
 | true=>rw [hn,Qc] at h; rw [h] at hn; exact absurd hn uu1
 | false=>simpa using hn
def F16_s0 (lines:List Za):(Za×Int)->Lp (Za×Int) Za:=fun (text,v11) =>
 bif (decide (v11<(lines.length:Int))) then (.next ((text++((lines.getD v11.toNat default)++Zn)),(v11+1))) else (.done (text,v11))
def F16 (lines:List Za):Za :=
 bif ((F18 lines) != 0) then Zf else ((runL (F16_s0 lines) (((lines.length:Int)-0).toNat+1) (Zf,0)).fin (fun r=>r) (fun (text,v11)=>text))
abbrev lN16_0 (lines:List Za):Nat×(Za×Int):=((((lines.length:Int)-0).toNat+1),(Zf,0))
abbrev lI16_0 (lines:List Za) (m39:Nat) (text:Za) (v11:Int):Prop:=Int.toNat ((lines.length:Int)-v11)<m39/\(text.size:Int)<=v11*1048577/\(0:Int)<=v11
abbrev lX16_0 (lines:List Za):Lp (Za×Int) Za:=LpX (F16_s0 lines) (lN16_0 lines)
abbrev lJ16_0 (lines:List Za) (i:Nat×(Za×Int)):Prop:=LpJ (F16_s0 lines) (lN16_0 lines) i (lI16_0 lines i.1 i.2.1 i.2.2)
abbrev lH16_0 (lines:List Za) (i:Nat×(Za×Int)) (m39:Nat) (text:Za) (v11:Int):Prop:=LpH (F16_s0 lines) (lN16_0 lines) i m39 (text,v11) (lI16_0 lines (m39+1) text v11)
abbrev lE16_0 (lines:List Za) (text:Za) (v11:Int) (text_:Za) (v11_:Int) (K39:Prop):Prop:=((.string text:Value)=.string text_)/\(Rf (.int .i64 (lines.length:Int)))/\((.int .i64 v11:Value)=.int .i64 v11_)/\(Im (.l 1 eStr lines))/\K39
theorem un16_0 (lines:List Za) (i:Nat×(Za×Int)) (h:lJ16_0 lines i):lH16_0 lines i (i.1-1) i.2.1 i.2.2:=⟨hd1 h.1 h.2.1,hd3 h.2.1,hd2 h.2.1,h.2.2⟩
theorem bk16_0 (lines:List Za) (i:Nat×(Za×Int)) (m39:Nat) (text:Za) (v11:Int) (hl:m39<i.1) (e:runL (F16_s0 lines) m39 (text,v11)=lX16_0 lines) (h:lI16_0 lines m39 text v11):∃ j:Nat×(Za×Int),lE16_0 lines text v11 j.2.1 j.2.2 (lJ16_0 lines j/\j.1<i.1):=⟨(m39,(text,v11)),rfl,rfl,rfl,Imp.refl _,⟨e,h⟩,hl⟩
theorem en16_0 (lines:List Za) (h:(Zf.size:Int)<=0*1048577/\(0:Int)<=0):lE16_0 lines Zf 0 Zf 0 (lJ16_0 lines (lN16_0 lines)):=⟨rfl,rfl,rfl,Imp.refl _,rfl,Qr _,h⟩
def S16 (lines:List Za):Spec:=⟨[.r (.c (.l 1 eStr lines))],.v (.string (F16 lines)),lines.length<=1048576/\(∀ k:Nat,(lines.getD k default).size<=1048576)⟩
theorem ok16 (lines:List Za):(S16 lines).ok Tryz.prog 16 false :=
 fnG_ok mixed (fn:=Tryz.f16) (ct:=.seqk [(0,0)] .no (.seq (.seq (.reg [(1,kh18 lines)]) (.cond (.seq .no .no) .no)) (.seq .no (.seq (.seqk [(9,0)] .no (.blk (.loop (ι:=Nat×(Za×Int)) (fun i=>(fun (text:Za) (v11:Int)=>(⟨[(3,some (.v (.string text))),(9,some (.h 0 0)),(10,some (.v (vI (lines.length:Int)))),(11,some (.v (vI v11)))],[(0,some (.shr none (.l 1 eStr lines)))],1⟩:St)) i.2.1 i.2.2) (lJ16_0 lines) (fun i=>i.1) (lN16_0 lines) (fun i=>(fun (text:Za) (v11:Int)=>(.seq .no (.seq (.cond .no .no) (.seq (.blk (.seq .no .no)) (.reg [(0,.bnd)]))))) i.2.1 i.2.2)))) (.seq .no .no))))) Tryz.func16 (fun (hp:lines.length<=1048576/\(∀ k:Nat,(lines.getD k default).size<=1048576))=>have hpre0:=hp.1; have hpre1:=hp.2; kn lines fun _=>kc18 lines uu2 uu37 (ifn (F18 lines) 0 (fun h1 _=>fiS Zf (F16 lines) (condT h1 rfl)) (fun h1 _=>kn lines fun _=>ai (en16_0 lines (by refine ⟨?_,?_⟩ <;> first | omega | (simp only [lens,ib] at*<;> omega) | ((try simp only [size_app,sz1,sz0] at *); omega) | (have hz:=(by assumption:∀ k:Nat,(lines.getD k default).size<=1048576) v11.toNat; (try simp only [size_app,sz1,sz0] at *); omega))) (fun (i0:Nat×(Za×Int)) (hi0:lJ16_0 lines i0)=>(fun (m0:Nat) (text:Za) (v11:Int) (hh0:lH16_0 lines i0 m0 text v11)=>have hI0:=hh0.1; have hl0:=hh0.2.1; have _:=hh0.2.2.1; have _:=hh0.2.2.2; ifd (v11<(lines.length:Int)) (fun h3 _=>ai (uu2:ib v11 lines) (ai (uu83:(((lines.getD v11.toNat default).size+Zn.size:Nat):Int)<=9223372036854775807) (ai (uu83:((text.size+((lines.getD v11.toNat default)++Zn).size:Nat):Int)<=9223372036854775807) (ai (iok (v11+1) uu2) (bk16_0 lines i0 m0 (text++((lines.getD v11.toNat default)++Zn)) (v11+1) hl0 (runL_next hI0 (condT h3 rfl)) (by refine ⟨?_,?_,?_⟩ <;> first | omega | (simp only [lens,ib] at*<;> omega) | ((try simp only [size_app,sz1,sz0] at *); omega) | (have hz:=(by assumption:∀ k:Nat,(lines.getD k default).size<=1048576) v11.toNat; (try simp only [size_app,sz1,sz0] at *); omega))))))) (fun h3 _=>have hD0_4:lX16_0 lines=Lp.done (text,v11):=runL_done hI0 (condF h3 rfl); fiS text (F16 lines) (condF h1 (finD hD0_4 rfl)))) (i0.1-1) i0.2.1 i0.2.2 (un16_0 lines i0 hi0))))) uu3
def F17_s0 (lines:List Za):(Za×Int)->Lp (Za×Int) Za:=fun (out,i40) =>
 bif (decide (i40<(lines.length:Int))) then (.next (((out++(lines.getD i40.toNat default))++Zn),(i40+1))) else (.done (out,i40))
def F17 (lines:List Za):Za :=
 bif ((F19 lines) != 0) then Zf else ((runL (F17_s0 lines) (((lines.length:Int)-0).toNat+1) (Zf,0)).fin (fun r=>r) (fun (out,i40)=>out))
abbrev lN17_0 (lines:List Za):Nat×(Za×Int):=((((lines.length:Int)-0).toNat+1),(Zf,0))
abbrev lI17_0 (lines:List Za) (m39:Nat) (out:Za) (i40:Int):Prop:=Int.toNat ((lines.length:Int)-i40)<m39/\(out.size:Int)<=i40*1048577/\(0:Int)<=i40
abbrev lX17_0 (lines:List Za):Lp (Za×Int) Za:=LpX (F17_s0 lines) (lN17_0 lines)
abbrev lJ17_0 (lines:List Za) (i:Nat×(Za×Int)):Prop:=LpJ (F17_s0 lines) (lN17_0 lines) i (lI17_0 lines i.1 i.2.1 i.2.2)
abbrev lH17_0 (lines:List Za) (i:Nat×(Za×Int)) (m39:Nat) (out:Za) (i40:Int):Prop:=LpH (F17_s0 lines) (lN17_0 lines) i m39 (out,i40) (lI17_0 lines (m39+1) out i40)
abbrev lE17_0 (lines:List Za) (out:Za) (i40:Int) (out_:Za) (i40_:Int) (K39:Prop):Prop:=((.string out:Value)=.string out_)/\((.int .i64 i40:Value)=.int .i64 i40_)/\(Im (.l 1 eStr lines))/\K39
theorem un17_0 (lines:List Za) (i:Nat×(Za×Int)) (h:lJ17_0 lines i):lH17_0 lines i (i.1-1) i.2.1 i.2.2:=⟨hd1 h.1 h.2.1,hd3 h.2.1,hd2 h.2.1,h.2.2⟩
theorem bk17_0 (lines:List Za) (i:Nat×(Za×Int)) (m39:Nat) (out:Za) (i40:Int) (hl:m39<i.1) (e:runL (F17_s0 lines) m39 (out,i40)=lX17_0 lines) (h:lI17_0 lines m39 out i40):∃ j:Nat×(Za×Int),lE17_0 lines out i40 j.2.1 j.2.2 (lJ17_0 lines j/\j.1<i.1):=⟨(m39,(out,i40)),rfl,rfl,Imp.refl _,⟨e,h⟩,hl⟩
theorem en17_0 (lines:List Za) (h:(Zf.size:Int)<=0*1048577/\(0:Int)<=0):lE17_0 lines Zf 0 Zf 0 (lJ17_0 lines (lN17_0 lines)):=⟨rfl,rfl,Imp.refl _,rfl,Qr _,h⟩
def S17 (lines:List Za):Spec:=⟨[.r (.c (.l 1 eStr lines))],.v (.string (F17 lines)),lines.length<=1048576/\(∀ k:Nat,(lines.getD k default).size<=1048576)⟩
theorem ok17 (lines:List Za):(S17 lines).ok Tryz.prog 17 :=
 fnG_ok mixed (fn:=Tryz.f17) (ct:=.seqk [(0,0)] .no (.seq (.seq (.reg [(1,kh19 lines)]) (.cond (.seq .no .no) .no)) (.seq .no (.seq (.seqk [(0,0)] .no (.blk (.loop (ι:=Nat×(Za×Int)) (fun i=>(fun (out:Za) (i40:Int)=>(⟨[(0,some (.h 0 0)),(3,some (.v (.string out))),(4,some (.v (vI i40)))],[(0,some (.shr none (.l 1 eStr lines)))],1⟩:St)) i.2.1 i.2.2) (lJ17_0 lines) (fun i=>i.1) (lN17_0 lines) (fun i=>(fun (out:Za) (i40:Int)=>(.seq (.seq .no (.cond .no .no)) (.seq (.blk .no) (.reg [(1,.bnd)])))) i.2.1 i.2.2)))) (.seq .no .no))))) Tryz.func17 (fun (hp:lines.length<=1048576/\(∀ k:Nat,(lines.getD k default).size<=1048576))=>have hpre0:=hp.1; have hpre1:=hp.2; kn lines fun _=>kc19 lines uu2 uu37 (ifn (F19 lines) 0 (fun h1 _=>fiS Zf (F17 lines) (condT h1 rfl)) (fun h1 _=>kn lines fun _=>ai (en17_0 lines (by refine ⟨?_,?_⟩ <;> first | omega | (simp only [lens,ib] at*<;> omega) | ((try simp only [size_app,sz1,sz0] at *); omega) | (have hz:=(by assumption:∀ k:Nat,(lines.getD k default).size<=1048576) i40.toNat; (try simp only [size_app,sz1,sz0] at *); omega))) (fun (i0:Nat×(Za×Int)) (hi0:lJ17_0 lines i0)=>(fun (m0:Nat) (out:Za) (i40:Int) (hh0:lH17_0 lines i0 m0 out i40)=>have hI0:=hh0.1; have hl0:=hh0.2.1; have _:=hh0.2.2.1; have _:=hh0.2.2.2; ifd (i40<(lines.length:Int)) (fun h3 _=>ai (uu2:ib i40 lines) (ai (uu84:((out.size+(lines.getD i40.toNat default).size:Nat):Int)<=9223372036854775807) (ai (uu84:(((out++(lines.getD i40.toNat default)).size+Zn.size:Nat):Int)<=9223372036854775807) (ai (iok (i40+1) uu2) (bk17_0 lines i0 m0 ((out++(lines.getD i40.toNat default))++Zn) (i40+1) hl0 (runL_next hI0 (condT h3 rfl)) (by refine ⟨?_,?_,?_⟩ <;> first | omega | (simp only [lens,ib] at*<;> omega) | ((try simp only [size_app,sz1,sz0] at *); omega) | (have hz:=(by assumption:∀ k:Nat,(lines.getD k default).size<=1048576) i40.toNat; (try simp only [size_app,sz1,sz0] at *); omega))))))) (fun h3 _=>have hD0_4:lX17_0 lines=Lp.done (out,i40):=runL_done hI0 (condF h3 rfl); fiS out (F17 lines) (condF h1 (finD hD0_4 rfl)))) (i0.1-1) i0.2.1 i0.2.2 (un17_0 lines i0 hi0))))) uu3
theorem print_same (lines:List Za):F16 lines=F17 lines:=by
 unfold F16 F17
 rw [check_same]
 have h:F16_s0 lines=F17_s0 lines:=by
  funext s
  obtain ⟨a,b⟩:=s
  simp only [F16_s0,F17_s0,ByteArray.append_assoc]
 rw [h]
theorem splitL_neQ (c:UInt8) (l:List UInt8):splitL c l≠[]:=by
 cases l with
 | nil=>rw [splitL]; exact fun h=>by cases h
 | cons b l =>
  rw [splitL]
  split
  ·exact fun h=>by cases h
  ·split <;> exact fun h=>by cases h
def blk (c:Za):Bool:=(F11 c).2&&((F11 c).1.length==0)
def LN (r:List Za):List Za:=(r.filter fun c=>!(blk c)).map fun c=>(F9 c).1
def OKr (r:List Za):Prop:=∀ c∈r,blk c=false->(F9 c).2=true
theorem LN_t {c:Za} {r:List Za} (h:blk c=true):LN (c :: r)=LN r:=by unfold LN; rw [Ru uu23]
theorem LN_f {c:Za} {r:List Za} (h:blk c=false):LN (c :: r)=(F9 c).1 :: LN r:=by unfold LN; rw [R6 uu23]; rfl
theorem key_anyF {acc:List Za} {l:Za}:acc.any (fun x=>F14 x==F14 l)=false↔F14 l ∉ acc.map F14:=by
 rw [List.any_eq_false,Sr]
 constructor
 ·rintro h ⟨x,hx,e⟩
  exact h x hx (by rw [e]; simp)
 ·intro h x hx hc
  exact h ⟨x,hx,eq_of_beq hc⟩
theorem readA_of:∀ (r:List Za) (i:Nat) (acc:List Za),OKr r->((acc++LN r).map F14).Nodup->(acc++LN r).length<=16->readF appF i acc r=(acc++LN r,⟨0,0⟩)
 | [],i,acc,_,_,_=>by rw [readF]; simp [LN]
 | c :: r,i,acc,h,hk,hl=>by
  rw [readF]
  show (bif blk c then _ else _)=_
  cases hb:blk c with
  | true =>
   rw [LN_t hb] at hk hl ⊢
   rw [Qc]
   exact readA_of r (i+1) acc (fun x hx=>h x (Qg _ hx)) hk hl
  | false =>
   rw [LN_f hb] at hk hl ⊢
   have e:acc++(F9 c).1 :: LN r=(acc++[(F9 c).1])++LN r:=by simp
   have h1:=h c Qi hb
   have h2:acc.any (fun l=>F14 l==F14 (F9 c).1)=false:=by
    rw [key_anyF]
    intro hm
    rw [T4,Rc] at hk
    have:=(Rk.1 hk).2.2 _ hm _ Qi
    exact this rfl
   have h3:(acc.length==16)=false:=by
    rw [Qu,Qx] at hl
    exact Qw.2 uu0
   rw [Qb,h1,Sc,Qb,h2,Qb,h3,Qb,e]
   rw [e] at hk hl
   exact readA_of r (i+1) (acc++[(F9 c).1]) (fun x hx=>h x (Qg _ hx)) hk hl
theorem readA_to:∀ (r:List Za) (i:Nat) (acc:List Za),(acc.map F14).Nodup->acc.length<=16->(readF appF i acc r).2.Code=0->OKr r/\((acc++LN r).map F14).Nodup/\(acc++LN r).length<=16
 | [],i,acc,hk,hl,_=>⟨(fun c hc=>by cases hc),by simpa [LN] using hk,by simpa [LN] using hl⟩
 | c :: r,i,acc,hk,hl,h=>by
  rw [readF] at h
  have h:(bif blk c then readF appF (i+1) acc r else bif !(F9 c).2 then ([],⟨((i+1:Nat):Int),2⟩) else bif acc.any (fun l=>F14 l==F14 (F9 c).1) then ([],⟨((i+1:Nat):Int),4⟩) else bif acc.length==16 then ([],⟨((i+1:Nat):Int),1⟩) else readF appF (i+1) (appF acc (F9 c).1) r).2.Code=0:=h
  cases hb:blk c with
  | true =>
   rw [hb,Qc] at h
   rw [LN_t hb]
   obtain ⟨k1,k2,k3⟩:=readA_to r (i+1) acc hk hl h
   refine ⟨fun x hx hbx=>?_,k2,k3⟩
   rcases Qt.1 hx with rfl | hx
   ·rw [hb] at hbx; cases hbx
   ·exact k1 x hx hbx
  | false =>
   rw [hb,Qb] at h
   cases h1:(F9 c).2 with
   | false=>rw [h1] at h; exact absurd (show (2:Int)=0 from h) uu1
   | true =>
   rw [h1,Sc,Qb] at h
   cases h2:acc.any (fun l=>F14 l==F14 (F9 c).1) with
   | true=>rw [h2] at h; exact absurd (show (4:Int)=0 from h) uu1
   | false =>
   rw [h2,Qb] at h
   cases h3:(acc.length==16) with
   | true=>rw [h3] at h; exact absurd (show (1:Int)=0 from h) uu1
   | false =>
   rw [h3,Qb] at h
   have e:acc++(F9 c).1 :: LN r=(acc++[(F9 c).1])++LN r:=by simp
   rw [LN_f hb,e]
   have hn:=key_anyF.1 h2
   obtain ⟨k1,k2,k3⟩:=readA_to r (i+1) (acc++[(F9 c).1]) (by
    rw [T4]
    refine Rk.2 ⟨hk,by simp,fun x hx y hy e=>?_⟩
    rw [Rc,Hd,Qy] at hy
    exact hn (hy ▸ e ▸ hx)) (by
    have:=Qw.1 h3
    rw [Qu,Sd]; omega) h
   refine ⟨fun x hx hbx=>?_,k2,k3⟩
   rcases Qt.1 hx with rfl | hx
   ·exact h1
   ·exact k1 x hx hbx
theorem read_of (r:List Za) (h:OKr r) (hk:((LN r).map F14).Nodup) (hl:(LN r).length<=16):(F71 r).2=⟨0,0⟩/\SortedB (F71 r).1/\∀ z,z∈(F71 r).1↔z∈LN r:=by
 have ha:=readA_of r 0 [] h (by simpa using hk) (by simpa using hl)
 obtain ⟨k1,k2,k3,k4⟩:=readF_same r 0 [] [] List.Pairwise.nil (fun z=>Iff.rfl) List.Pairwise.nil rfl
 have k1:(readF appF 0 [] r).2=(readF F79 0 [] r).2:=k1
 have k3:∀ z,z∈(readF appF 0 [] r).1↔z∈(readF F79 0 [] r).1:=k3
 rw [specRead_eq]
 rw [ha] at k1 k3
 exact ⟨k1.symm,k2,fun z=>by rw [<- k3 z]; simp⟩
theorem read_to (r:List Za) (h:(F71 r).2.Code=0):OKr r/\((LN r).map F14).Nodup/\(LN r).length<=16:=by
 obtain ⟨k1,_⟩:=readF_same r 0 [] [] List.Pairwise.nil (fun z=>Iff.rfl) List.Pairwise.nil rfl
 have k1:(readF appF 0 [] r).2=(readF F79 0 [] r).2:=k1
 rw [specRead_eq,<- k1] at h
 obtain ⟨a,b,c⟩:=readA_to r 0 [] uu14 (Re _) h
 exact ⟨a,by simpa using b,by simpa using c⟩
theorem parse_of (text:Za) (L:List Za) (h1:text.size<=4000) (h2:(F70 text).length<=80) (h:OKr (F70 text)) (hk:((LN (F70 text)).map F14).Nodup) (hl:(LN (F70 text)).length<=16)
  (hs:SortedB L) (hm:∀ z,z∈L↔z∈LN (F70 text)) (hc:F19 L=0):F22 text=(L,⟨0,0⟩):=by
 obtain ⟨r1,r2,r3⟩:=read_of _ h hk hl
 have e:(F71 (F70 text)).1=L:=sorted_ext r2 hs fun z=>by rw [r3 z,hm z]
 unfold F22
 rw [Qq (show ¬ (text.size:Int)>4000 by omega),Qb,Qq (show ¬ ((F70 text).length:Int)>80 by omega),Qb,r1,e,hc]
 rfl
theorem parse_to (text:Za) (h:(F22 text).2.Code=0):text.size<=4000/\(F70 text).length<=80/\OKr (F70 text)/\((LN (F70 text)).map F14).Nodup/\(LN (F70 text)).length<=16 /\
  SortedB (F22 text).1/\(∀ z,z∈(F22 text).1↔z∈LN (F70 text))/\F19 (F22 text).1=0:=by
 unfold F22 at h ⊢
 by_cases h1:(text.size:Int)>4000
 ·rw [Qs h1] at h; exact absurd (show (10:Int)=0 from h) uu1
 rw [Qq h1,Qb] at h ⊢
 by_cases h2:((F70 text).length:Int)>80
 ·rw [Qs h2] at h; exact absurd (show (10:Int)=0 from h) uu1
 rw [Qq h2,Qb] at h ⊢
 cases h3:((F71 (F70 text)).2.Code != 0) with
 | true =>
  rw [h3] at h
  rw [G1] at h3
  exact absurd h h3
 | false =>
 have h3':(F71 (F70 text)).2.Code=0:=by simpa using h3
 rw [h3,Qb] at h
 rw [Qb]
 cases h4:(F19 (F71 (F70 text)).1 != 0) with
 | true =>
  rw [h4] at h
  rw [G1] at h4
  exact absurd h h4
 | false =>
 have h4':F19 (F71 (F70 text)).1=0:=by simpa using h4
 obtain ⟨a,b,c⟩:=read_to _ h3'
 obtain ⟨r1,r2,r3⟩:=read_of _ a b c
 exact ⟨by omega,by omega,a,b,c,r2,r3,h4'⟩
theorem parse_bad (text:Za) (h:(F22 text).2.Code≠0):(F22 text).1=[]:=by
 unfold F22 at h ⊢
 cases h1:decide ((text.size:Int)>4000) with
 | true=>rfl
 | false =>
 rw [h1,Qb] at h
 rw [Qb]
 cases h2:decide (((F70 text).length:Int)>80) with
 | true=>rfl
 | false =>
 rw [h2,Qb] at h
 rw [Qb]
 cases h3:((F71 (F70 text)).2.Code != 0) with
 | true=>rfl
 | false =>
 rw [h3,Qb] at h
 rw [Qb]
 cases h4:(F19 (F71 (F70 text)).1 != 0) with
 | true=>rfl
 | false=>rw [h4] at h; exact absurd rfl h
theorem kept_no10 (l:Za) (hk:F47 l=true):(10:UInt8) ∉ l.data.toList:=fun hm=>by
 have hp:=keptP l hk
 have hw:=(kept_bytes l hk).2
 unfold wordsOf at hw
 cases h:(l.data.toList.all okB&&fitW (wordsL l.data.toList)) with
 | false=>rw [h,Qb] at hw; cases Qh Prod.snd hw
 | true =>
  rw [Qo,Rh] at h
  have:=h.1 10 hm
  revert this; decide
theorem split_flat:∀ xs:List (List UInt8),(∀ x∈xs,(10:UInt8) ∉ x)->splitL 10 (xs.flatMap fun x=>x++[10])=xs++[[]]
 | [],_=>rfl
 | x :: xs,h=>by
  rw [Tf,Q1,Tw,splitL_app _ (h x Qi),split_flat xs fun y hy=>h y (Qg _ hy)]; rfl
theorem print_data (lines:List Za) (h:F19 lines=0):(F17 lines).data.toList=(lines.map (·.data.toList)).flatMap fun x=>x++[10]:=by
 unfold F17
 rw [h]
 have hf:=fold_loop0 lines (fun (s:Za) x=>(s++x)++Zn) (fun s i=>(s,i)) (F17_s0 lines) (fun i s hi=>by
  simp only [F17_s0,ltD hi,Qc,nn]; rfl) (fun s=>by simp only [F17_s0,geD,Qb]) (fun r=>r) (fun (x:Za×Int)=>x.1) Zf
 refine (Qh (fun x:Za=>x.data.toList) hf).trans ?_
 have key:∀ (xs:List Za) (s:Za),(xs.foldl (fun (s:Za) x=>(s++x)++Zn) s).data.toList=s.data.toList++(xs.map (·.data.toList)).flatMap fun x=>x++[10]:=by
  intro xs
  induction xs with
  | nil=>intro s; simp
  | cons x xs ih=>intro s; rw [Sy,ih]; simp
 exact key lines _
theorem pieces_app (text:Za) (xs:List Za) (h:splitL 10 text.data.toList=xs.map (·.data.toList)++[[]]):F70 text=xs:=by
 rw [pieces_eq]
 have e:splitS text Zn=xs++[Zf]:=by
  rw [splitS_mk,h,T4,Gp]
  have:(mkB ∘ fun x:Za=>x.data.toList)=id:=funext mkB_self
  rw [this,Hl]; rfl
 rw [e,Qu,Sd,Nat.add_sub_cancel]
 have:(xs++[Zf]).getD xs.length default=Zf:=by
  rw [Qe,Rq (Qn _),Gz]; rfl
 rw [this,beq_self_eq_true,Qc]
 simp
theorem kept_blk (l:Za) (hk:F47 l=true):blk l=false:=by
 have hp:=keptP l hk
 have:=(form_two_le _ hp.form).1
 unfold blk
 have e:((F11 l).1.length==0)=false:=Qw.2 uu0
 rw [e,Sj]
theorem LN_kept:∀ lines:List Za,(∀ l∈lines,F47 l=true)->LN lines=lines
 | [],_=>rfl
 | l :: lines,h=>by
  rw [LN_f (kept_blk l (h l Qi)),((kept_iff l).1 (h l Qi)).2,LN_kept lines fun x hx=>h x (Qg _ hx)]
theorem flat_len:∀ xs:List Za,(∀ x∈xs,x.size<=200)->((xs.map (·.data.toList)).flatMap fun x=>x++[(10:UInt8)]).length<=201*xs.length
 | [],_=>by simp
 | x :: xs,h=>by
  have h1:=flat_len xs fun y hy=>h y (Qg _ hy)
  have h2:x.data.toList.length<=200:=by rw [Q5]; exact h x Qi
  rw [Rc,Tf,Qu,Qu,Sd,Qx]
  omega
theorem print_parse (lines:List Za) (h:F19 lines=0):F22 (F17 lines)=(lines,⟨0,0⟩):=by
 have na:=check_neat0 lines h
 obtain ⟨hl,hk⟩:=nt_facts lines na
 have hd:=print_data lines h
 have hp:F70 (F17 lines)=lines:=by
  refine pieces_app _ _ ?_
  rw [hd,split_flat]
  intro x hx
  obtain ⟨l,hl,rfl⟩:=Sr.1 hx
  exact kept_no10 l (hk l hl)
 have hsz:(F17 lines).size<=4000:=by
  have:=flat_len lines (neat_200 lines na)
  rw [<- hd,Q5] at this
  have e:(F17 lines).data.size=(F17 lines).size:=rfl
  omega
 have hL:=LN_kept lines hk
 refine parse_of _ lines hsz (by rw [hp]; omega) (by rw [hp]; exact fun c hc _=>((kept_iff c).1 (hk c hc)).1) (by rw [hp,hL]; exact neat_keys lines na) (by rw [hp,hL]; exact hl) (neat_sorted lines na) (fun z=>by rw [hp,hL]) h
abbrev w125_:Za:=⟨#[9]⟩
abbrev w126_:Za:=⟨#[127]⟩
abbrev w127_:Za:=⟨#[45]⟩
abbrev w133_:Za:=⟨#[104,111,115,116,32,65]⟩
abbrev w138_:Za:=⟨#[32,35,32]⟩
def F32 (r1:l51Rd):Za×Int :=
 bif ((F48 ⟨r1.b,(F86 ⟨r1.b,r1.p⟩).2⟩ 8).1==0) then (((Yz++(F86 ⟨r1.b,r1.p⟩).1)++Zd),(F48 ⟨r1.b,(F86 ⟨r1.b,r1.p⟩).2⟩ 8).2) else (bif ((F48 ⟨r1.b,(F86 ⟨r1.b,r1.p⟩).2⟩ 8).1==1) then ((((F86 ⟨r1.b,r1.p⟩).1++(⟨#[32,35,32]⟩:Za))++(F86 ⟨r1.b,r1.p⟩).1),(F48 ⟨r1.b,(F86 ⟨r1.b,r1.p⟩).2⟩ 8).2) else (bif ((F48 ⟨r1.b,(F86 ⟨r1.b,r1.p⟩).2⟩ 8).1==2) then ((Zj++(F86 ⟨r1.b,r1.p⟩).1),(F48 ⟨r1.b,(F86 ⟨r1.b,r1.p⟩).2⟩ 8).2) else (bif ((F48 ⟨r1.b,(F86 ⟨r1.b,r1.p⟩).2⟩ 8).1==3) then (((((F86 ⟨r1.b,r1.p⟩).1.extract (0:Int).toNat (F48 ⟨r1.b,(F48 ⟨r1.b,(F86 ⟨r1.b,r1.p⟩).2⟩ 8).2⟩ (IntKind.i64.wrap (((F86 ⟨r1.b,r1.p⟩).1.size:Int)+1))).1.toNat)++(F67 ⟨r1.b,(F48 ⟨r1.b,(F48 ⟨r1.b,(F86 ⟨r1.b,r1.p⟩).2⟩ 8).2⟩ (IntKind.i64.wrap (((F86 ⟨r1.b,r1.p⟩).1.size:Int)+1))).2⟩ ([Zd,Yz,Zo,Zj,(⟨#[9]⟩:Za),(⟨#[127]⟩:Za),(⟨#[45]⟩:Za)]:List Za)).1)++((F86 ⟨r1.b,r1.p⟩).1.extract (F48 ⟨r1.b,(F48 ⟨r1.b,(F86 ⟨r1.b,r1.p⟩).2⟩ 8).2⟩ (IntKind.i64.wrap (((F86 ⟨r1.b,r1.p⟩).1.size:Int)+1))).1.toNat ((F86 ⟨r1.b,r1.p⟩).1.size:Int).toNat)),(F67 ⟨r1.b,(F48 ⟨r1.b,(F48 ⟨r1.b,(F86 ⟨r1.b,r1.p⟩).2⟩ 8).2⟩ (IntKind.i64.wrap (((F86 ⟨r1.b,r1.p⟩).1.size:Int)+1))).2⟩ ([Zd,Yz,Zo,Zj,(⟨#[9]⟩:Za),(⟨#[127]⟩:Za),(⟨#[45]⟩:Za)]:List Za)).2) else (bif ((F48 ⟨r1.b,(F86 ⟨r1.b,r1.p⟩).2⟩ 8).1==4) then ((F67 ⟨r1.b,(F48 ⟨r1.b,(F86 ⟨r1.b,r1.p⟩).2⟩ 8).2⟩ ([Zf,Zd,Xq,Xr,Xs,Xt,Xu,(⟨#[104,111,115,116,32,65]⟩:Za),Xv,Yc,Xw,Xx,Xy]:List Za)).1,(F67 ⟨r1.b,(F48 ⟨r1.b,(F86 ⟨r1.b,r1.p⟩).2⟩ 8).2⟩ ([Zf,Zd,Xq,Xr,Xs,Xt,Xu,(⟨#[104,111,115,116,32,65]⟩:Za),Xv,Yc,Xw,Xx,Xy]:List Za)).2) else ((F86 ⟨r1.b,r1.p⟩).1,(F48 ⟨r1.b,(F86 ⟨r1.b,r1.p⟩).2⟩ 8).2)))))
def S32 (r1X:SV) (gr1:Nat) (r1:l51Rd):Spec:=⟨[.ptg gr1 86 (sv r1X) (.l 1 eByte r1.b) [.v (vI r1.p)] [.v (vI (F32 r1).2)]],.v (.string (F32 r1).1),0<=r1.p/\r1.p<=900000000/\r1.b.length<=2000⟩
abbrev Wl:List Za:=[Zd,Yz,Zo,Zj,w125_,w126_,w127_]
abbrev Wr:List Za:=[Zf,Zd,Xq,Xr,Xs,Xt,Xu,w133_,Xv,Yc,Xw,Xx,Xy]
set_option maxHeartbeats 4000000 in
theorem ok32 (r1X:SV) (gr1:Nat) (r1:l51Rd):(S32 r1X gr1 r1).ok Tryz.prog 32 :=
 fnG_ok mixed (fn:=Tryz.f32) (ct:=.seqk [(0,0)] .no (.seq (.reg [(1,kh86l r1X 0 r1.b r1.p)]) (.seq (.seq (.reg [(1,kh48l r1X 0 r1.b (F86 ⟨r1.b,r1.p⟩).2 8)]) (.blk (.seq .no (.cond (.seq .no .no) (.seq .no (.cond (.seq .no .no) (.seq .no (.cond (.seq .no .no) (.seq .no (.cond (.seq (.reg [(4,kh48l r1X 0 r1.b (F48 ⟨r1.b,(F86 ⟨r1.b,r1.p⟩).2⟩ 8).2 (IntKind.i64.wrap (((F86 ⟨r1.b,r1.p⟩).1.size:Int)+1)))]) (.seq (.reg [(4,.dat (.l 1 eStr Wl)),(5,kh67l r1X 0 r1.b (F48 ⟨r1.b,(F48 ⟨r1.b,(F86 ⟨r1.b,r1.p⟩).2⟩ 8).2⟩ (IntKind.i64.wrap (((F86 ⟨r1.b,r1.p⟩).1.size:Int)+1))).2 Wl)]) .no)) (.seq .no (.cond (.seq (.reg [(1,.dat (.l 1 eStr Wr)),(2,kh67l r1X 0 r1.b (F48 ⟨r1.b,(F86 ⟨r1.b,r1.p⟩).2⟩ 8).2 Wr)]) .no) .no)))))))))))) (.seq .no .no)))) Tryz.func32 (fun (hp:0<=r1.p/\r1.p<=900000000/\r1.b.length<=2000)=>have hpre0:=hp.1; have hpre1:=hp.2.1; have hpre2:=hp.2.2; kn r1.b fun _=>kc86l r1X r1.b r1.p uu2 uu2 uu2 uu2 uu2 (fun gv1=>kc48l r1X r1.b (F86 ⟨r1.b,r1.p⟩).2 8 uu2 uu2 uu2 uu2 uu2 (fun gv2=>ife (F48 ⟨r1.b,(F86 ⟨r1.b,r1.p⟩).2⟩ 8).1 0 (fun h3 _=>ai (uu28:((Yz.size+(F86 ⟨r1.b,r1.p⟩).1.size:Nat):Int)<=9223372036854775807) (ai (uu28:(((Yz++(F86 ⟨r1.b,r1.p⟩).1).size+Zd.size:Nat):Int)<=9223372036854775807) ((fun hF:(((Yz++(F86 ⟨r1.b,r1.p⟩).1)++Zd),(F48 ⟨r1.b,(F86 ⟨r1.b,r1.p⟩).2⟩ 8).2)=(F32 r1)=>ai (Qh (fun r:Za×Int=>(.string r.1:Value)) hF) (ai (ai (Imp.refl (Dat.v (sv r1X))) (ai (Imp.of_eq (Qh (fun r:Za×Int=>Dat.v (vI r.2)) hF)) trivial)) trivial)) (condT h3 rfl)))) (fun h3 _=>ife (F48 ⟨r1.b,(F86 ⟨r1.b,r1.p⟩).2⟩ 8).1 1 (fun h4 _=>ai (uu28:(((F86 ⟨r1.b,r1.p⟩).1.size+w138_.size:Nat):Int)<=9223372036854775807) (ai (uu28:((((F86 ⟨r1.b,r1.p⟩).1++w138_).size+(F86 ⟨r1.b,r1.p⟩).1.size:Nat):Int)<=9223372036854775807) ((fun hF:((((F86 ⟨r1.b,r1.p⟩).1++w138_)++(F86 ⟨r1.b,r1.p⟩).1),(F48 ⟨r1.b,(F86 ⟨r1.b,r1.p⟩).2⟩ 8).2)=(F32 r1)=>ai (Qh (fun r:Za×Int=>(.string r.1:Value)) hF) (ai (ai (Imp.refl (Dat.v (sv r1X))) (ai (Imp.of_eq (Qh (fun r:Za×Int=>Dat.v (vI r.2)) hF)) trivial)) trivial)) (condF h3 (condT h4 rfl))))) (fun h4 _=>ife (F48 ⟨r1.b,(F86 ⟨r1.b,r1.p⟩).2⟩ 8).1 2 (fun h5 _=>ai (uu28:((Zj.size+(F86 ⟨r1.b,r1.p⟩).1.size:Nat):Int)<=9223372036854775807) ((fun hF:((Zj++(F86 ⟨r1.b,r1.p⟩).1),(F48 ⟨r1.b,(F86 ⟨r1.b,r1.p⟩).2⟩ 8).2)=(F32 r1)=>ai (Qh (fun r:Za×Int=>(.string r.1:Value)) hF) (ai (ai (Imp.refl (Dat.v (sv r1X))) (ai (Imp.of_eq (Qh (fun r:Za×Int=>Dat.v (vI r.2)) hF)) trivial)) trivial)) (condF h3 (condF h4 (condT h5 rfl))))) (fun h5 _=>ife (F48 ⟨r1.b,(F86 ⟨r1.b,r1.p⟩).2⟩ 8).1 3 (fun h6 _=>kc48l r1X r1.b (F48 ⟨r1.b,(F86 ⟨r1.b,r1.p⟩).2⟩ 8).2 (IntKind.i64.wrap (((F86 ⟨r1.b,r1.p⟩).1.size:Int)+1)) uu2 uu2 uu2 uu2 uu2 (fun gv7=>ai (uu85:0<=(0:Int)/\(0:Int)<=(F48 ⟨r1.b,(F48 ⟨r1.b,(F86 ⟨r1.b,r1.p⟩).2⟩ 8).2⟩ (IntKind.i64.wrap (((F86 ⟨r1.b,r1.p⟩).1.size:Int)+1))).1/\(F48 ⟨r1.b,(F48 ⟨r1.b,(F86 ⟨r1.b,r1.p⟩).2⟩ 8).2⟩ (IntKind.i64.wrap (((F86 ⟨r1.b,r1.p⟩).1.size:Int)+1))).1<=((F86 ⟨r1.b,r1.p⟩).1.size:Int)) (ai (bokr 1 eStr Wl fun _=>rfl) (kc67l r1X r1.b (F48 ⟨r1.b,(F48 ⟨r1.b,(F86 ⟨r1.b,r1.p⟩).2⟩ 8).2⟩ (IntKind.i64.wrap (((F86 ⟨r1.b,r1.p⟩).1.size:Int)+1))).2 Wl uu7 uu7 uu7 uu7 uu7 uu7 uu7 uu7 (fun gv8=>ai (uu28:((((F86 ⟨r1.b,r1.p⟩).1.extract (0:Int).toNat (F48 ⟨r1.b,(F48 ⟨r1.b,(F86 ⟨r1.b,r1.p⟩).2⟩ 8).2⟩ (IntKind.i64.wrap (((F86 ⟨r1.b,r1.p⟩).1.size:Int)+1))).1.toNat).size+(F67 ⟨r1.b,(F48 ⟨r1.b,(F48 ⟨r1.b,(F86 ⟨r1.b,r1.p⟩).2⟩ 8).2⟩ (IntKind.i64.wrap (((F86 ⟨r1.b,r1.p⟩).1.size:Int)+1))).2⟩ Wl).1.size:Nat):Int)<=9223372036854775807) (ai (uu85:0<=(F48 ⟨r1.b,(F48 ⟨r1.b,(F86 ⟨r1.b,r1.p⟩).2⟩ 8).2⟩ (IntKind.i64.wrap (((F86 ⟨r1.b,r1.p⟩).1.size:Int)+1))).1/\(F48 ⟨r1.b,(F48 ⟨r1.b,(F86 ⟨r1.b,r1.p⟩).2⟩ 8).2⟩ (IntKind.i64.wrap (((F86 ⟨r1.b,r1.p⟩).1.size:Int)+1))).1<=((F86 ⟨r1.b,r1.p⟩).1.size:Int)/\((F86 ⟨r1.b,r1.p⟩).1.size:Int)<=((F86 ⟨r1.b,r1.p⟩).1.size:Int)) (ai (uu28:(((((F86 ⟨r1.b,r1.p⟩).1.extract (0:Int).toNat (F48 ⟨r1.b,(F48 ⟨r1.b,(F86 ⟨r1.b,r1.p⟩).2⟩ 8).2⟩ (IntKind.i64.wrap (((F86 ⟨r1.b,r1.p⟩).1.size:Int)+1))).1.toNat)++(F67 ⟨r1.b,(F48 ⟨r1.b,(F48 ⟨r1.b,(F86 ⟨r1.b,r1.p⟩).2⟩ 8).2⟩ (IntKind.i64.wrap (((F86 ⟨r1.b,r1.p⟩).1.size:Int)+1))).2⟩ Wl).1).size+((F86 ⟨r1.b,r1.p⟩).1.extract (F48 ⟨r1.b,(F48 ⟨r1.b,(F86 ⟨r1.b,r1.p⟩).2⟩ 8).2⟩ (IntKind.i64.wrap (((F86 ⟨r1.b,r1.p⟩).1.size:Int)+1))).1.toNat ((F86 ⟨r1.b,r1.p⟩).1.size:Int).toNat).size:Nat):Int)<=9223372036854775807) ((fun hF:(((((F86 ⟨r1.b,r1.p⟩).1.extract (0:Int).toNat (F48 ⟨r1.b,(F48 ⟨r1.b,(F86 ⟨r1.b,r1.p⟩).2⟩ 8).2⟩ (IntKind.i64.wrap (((F86 ⟨r1.b,r1.p⟩).1.size:Int)+1))).1.toNat)++(F67 ⟨r1.b,(F48 ⟨r1.b,(F48 ⟨r1.b,(F86 ⟨r1.b,r1.p⟩).2⟩ 8).2⟩ (IntKind.i64.wrap (((F86 ⟨r1.b,r1.p⟩).1.size:Int)+1))).2⟩ Wl).1)++((F86 ⟨r1.b,r1.p⟩).1.extract (F48 ⟨r1.b,(F48 ⟨r1.b,(F86 ⟨r1.b,r1.p⟩).2⟩ 8).2⟩ (IntKind.i64.wrap (((F86 ⟨r1.b,r1.p⟩).1.size:Int)+1))).1.toNat ((F86 ⟨r1.b,r1.p⟩).1.size:Int).toNat)),(F67 ⟨r1.b,(F48 ⟨r1.b,(F48 ⟨r1.b,(F86 ⟨r1.b,r1.p⟩).2⟩ 8).2⟩ (IntKind.i64.wrap (((F86 ⟨r1.b,r1.p⟩).1.size:Int)+1))).2⟩ Wl).2)=(F32 r1)=>ai (Qh (fun r:Za×Int=>(.string r.1:Value)) hF) (ai (ai (Imp.refl (Dat.v (sv r1X))) (ai (Imp.of_eq (Qh (fun r:Za×Int=>Dat.v (vI r.2)) hF)) trivial)) trivial)) (condF h3 (condF h4 (condF h5 (condT h6 rfl)))))))))))) (fun h6 _=>ife (F48 ⟨r1.b,(F86 ⟨r1.b,r1.p⟩).2⟩ 8).1 4 (fun h9 _=>ai (bokr 1 eStr Wr fun _=>rfl) (kc67l r1X r1.b (F48 ⟨r1.b,(F86 ⟨r1.b,r1.p⟩).2⟩ 8).2 Wr uu7 uu7 uu7 uu7 uu7 uu7 uu7 uu7 (fun gv10=>(fun hF:((F67 ⟨r1.b,(F48 ⟨r1.b,(F86 ⟨r1.b,r1.p⟩).2⟩ 8).2⟩ Wr).1,(F67 ⟨r1.b,(F48 ⟨r1.b,(F86 ⟨r1.b,r1.p⟩).2⟩ 8).2⟩ Wr).2)=(F32 r1)=>ai (Qh (fun r:Za×Int=>(.string r.1:Value)) hF) (ai (ai (Imp.refl (Dat.v (sv r1X))) (ai (Imp.of_eq (Qh (fun r:Za×Int=>Dat.v (vI r.2)) hF)) trivial)) trivial)) (condF h3 (condF h4 (condF h5 (condF h6 (condT h9 rfl)))))))) (fun h9 _=>(fun hF:((F86 ⟨r1.b,r1.p⟩).1,(F48 ⟨r1.b,(F86 ⟨r1.b,r1.p⟩).2⟩ 8).2)=(F32 r1)=>ai (Qh (fun r:Za×Int=>(.string r.1:Value)) hF) (ai (ai (Imp.refl (Dat.v (sv r1X))) (ai (Imp.of_eq (Qh (fun r:Za×Int=>Dat.v (vI r.2)) hF)) trivial)) trivial)) (condF h3 (condF h4 (condF h5 (condF h6 (condF h9 rfl))))))))))))) uu3
def RawQ (z:Za×Int):Prop:=z.1.size<=3000
set_option maxHeartbeats 4000000 in
theorem raw_all (r1:l51Rd):RawQ (F32 r1):=by
 have hs:∀ r:l51Rd,(F86 r).1.size<=900:=fun r=>(dline_all r).1
 unfold F32
 repeat' with_reducible apply cond_P (P:=RawQ)
 all_goals
  apply szLe
  ·repeat (first | with_reducible apply app_le | with_reducible apply condS_le | with_reducible exact hs _ | with_reducible exact of_le (n:=80) _ _ uu1 | with_reducible exact ext_le (hs _) _ _ | with_reducible exact lit_le _)
  ·decide
theorem raw_q (r1:l51Rd) (h0:0<=r1.p) (h1:r1.p<=900000000):(F32 r1).1.size<=3000:=raw_all r1
set_option maxHeartbeats 4000000 in
theorem raw_p (r1:l51Rd):r1.p<=(F32 r1).2/\(F32 r1).2<=r1.p+12:=by
 have h:=(dline_all (⟨r1.b,r1.p⟩:l51Rd)).2
 have h:r1.p<=(F86 (⟨r1.b,r1.p⟩:l51Rd)).2/\(F86 (⟨r1.b,r1.p⟩:l51Rd)).2<=r1.p+9:=h
 unfold F32
 repeat' with_reducible apply cond_P (P:=fun z:Za×Int=>r1.p<=z.2/\z.2<=r1.p+12)
 all_goals (simp only [of_p,pick_p]; omega)
theorem raw_pq (r1:l51Rd) (h0:0<=r1.p) (h1:r1.p<=900000000):r1.p<=(F32 r1).2/\(F32 r1).2<=r1.p+12:=raw_p r1
def MQ (s1:Za) (n1:Int) (out:Za):Prop:=out.size+s1.size*n1.toNat<=6000
theorem many_arith (s k:Nat):(s+s)*(k / 2)<=s*k/\(k%2=1->(s+s)*(k / 2)+s=s*k):=by
 have h:(s+s)*(k / 2)=s*(2*(k / 2)):=by rw [<- Nat.two_mul,Gq 2 s,Nat.mul_assoc]
 constructor
 ·rw [h]; exact Nat.mul_le_mul_left s uu0
 ·intro hk
  have e:s*k=s*(2*(k / 2)+1):=Qh (s*·) uu0
  rw [e,h,Nat.mul_succ]
theorem many_div (n1:Int) (h:n1>0):(n1.tdiv 2).toNat=n1.toNat / 2:=by
 obtain ⟨k,rfl⟩:=T3 (show 0<=n1 by omega)
 rfl
theorem many_0 (s:Za) (n:Int) (hs:(s.size:Int)=1) (hn:n<=5000):MQ s n Zf:=by
 unfold MQ
 rw [show s.size=1 by omega,Nat.one_mul]
 show 0+_<=_
 omega
theorem many_1 {s1:Za} {n1:Int} {out:Za} (h:MQ s1 n1 out) (hn:n1>0) (ho:n1.tmod 2=1):MQ (s1++s1) (n1.tdiv 2) (out++s1):=by
 unfold MQ at h ⊢
 rw [many_div n1 hn,Q9,Q9]
 have hk:n1.toNat%2=1:=by
  obtain ⟨k,rfl⟩:=T3 (show 0<=n1 by omega)
  have ho:((k%2:Nat):Int)=1:=ho
  show k%2=1
  omega
 have:=(many_arith s1.size n1.toNat).2 hk
 omega
theorem many_2 {s1:Za} {n1:Int} {out:Za} (h:MQ s1 n1 out) (hn:n1>0):MQ (s1++s1) (n1.tdiv 2) out:=by
 unfold MQ at h ⊢
 rw [many_div n1 hn,Q9]
 have:=(many_arith s1.size n1.toNat).1
 omega
theorem many_s {s1:Za} {n1:Int} {out:Za} (h:MQ s1 n1 out) (hn:n1>0):out.size+s1.size<=6000:=by
 unfold MQ at h
 have:=Nat.mul_le_mul_left s1.size (show 1<=n1.toNat by omega)
 omega
theorem many_o {s1:Za} {n1:Int} {out:Za} (h:MQ s1 n1 out):out.size<=6000:=by
 unfold MQ at h; omega
theorem many_tdiv (n1:Int) (h:n1>0):0<=n1.tdiv 2/\2*n1.tdiv 2<=n1:=by
 obtain ⟨k,rfl⟩:=T3 (show 0<=n1 by omega)
 have e:((k:Int)).tdiv 2=((k / 2:Nat):Int):=rfl
 rw [e]
 omega
theorem many_mu {n1:Int} {m0:Nat} (h:n1>0) (hm:Int.toNat (n1-0)<m0+1):Int.toNat (n1.tdiv 2-0)<m0:=by
 have:=many_tdiv n1 h
 omega
theorem turn_0 (s:Za):(Zf.size:Int)+(s.size:Int)<=(s.size:Int):=Int.le_of_eq (Int.zero_add _)
def F23_s0 (s:Za):(Za×Int×Int)->Lp (Za×Int×Int) Za:=fun (out,end',i40) =>
 bif (decide (i40>0)) then (bif (((s.data.getD (i40-1).toNat 0).toNat:Int)==10) then (bif (decide (i40<end')) then (.next (((out++(s.extract i40.toNat end'.toNat))++Zn),(i40-1),(i40-1))) else (.next (out,(i40-1),(i40-1)))) else (.next (out,end',(i40-1)))) else (.done (out,end',i40))
def F23 (s:Za):Za :=
 (runL (F23_s0 s) (((s.size:Int)-0).toNat+1) (Zf,(s.size:Int),(s.size:Int))).fin (fun r=>r) (fun (out,end',i40)=>(out++(s.extract (0:Int).toNat end'.toNat)))
abbrev lN23_0 (s:Za):Nat×(Za×Int×Int):=((((s.size:Int)-0).toNat+1),(Zf,(s.size:Int),(s.size:Int)))
abbrev lI23_0 (s:Za) (m39:Nat) (out:Za) (end':Int) (i40:Int):Prop:=Int.toNat (i40-0)<m39/\0<=i40/\i40<=end'/\end'<=(s.size:Int)/\(out.size:Int)+end'<=(s.size:Int)
abbrev lX23_0 (s:Za):Lp (Za×Int×Int) Za:=LpX (F23_s0 s) (lN23_0 s)
abbrev lJ23_0 (s:Za) (i:Nat×(Za×Int×Int)):Prop:=LpJ (F23_s0 s) (lN23_0 s) i (lI23_0 s i.1 i.2.1 i.2.2.1 i.2.2.2)
abbrev lH23_0 (s:Za) (i:Nat×(Za×Int×Int)) (m39:Nat) (out:Za) (end':Int) (i40:Int):Prop:=LpH (F23_s0 s) (lN23_0 s) i m39 (out,end',i40) (lI23_0 s (m39+1) out end' i40)
abbrev lE23_0 (s:Za) (out:Za) (end':Int) (i40:Int) (out_:Za) (end'_:Int) (i40_:Int) (K39:Prop):Prop:=(Rf (.string s))/\((.string out:Value)=.string out_)/\((.int .i64 end':Value)=.int .i64 end'_)/\((.int .i64 i40:Value)=.int .i64 i40_)/\K39
theorem un23_0 (s:Za) (i:Nat×(Za×Int×Int)) (h:lJ23_0 s i):lH23_0 s i (i.1-1) i.2.1 i.2.2.1 i.2.2.2:=⟨hd1 h.1 h.2.1,hd3 h.2.1,hd2 h.2.1,h.2.2⟩
theorem bk23_0 (s:Za) (i:Nat×(Za×Int×Int)) (m39:Nat) (out:Za) (end':Int) (i40:Int) (hl:m39<i.1) (e:runL (F23_s0 s) m39 (out,end',i40)=lX23_0 s) (h:lI23_0 s m39 out end' i40):∃ j:Nat×(Za×Int×Int),lE23_0 s out end' i40 j.2.1 j.2.2.1 j.2.2.2 (lJ23_0 s j/\j.1<i.1):=⟨(m39,(out,end',i40)),rfl,rfl,rfl,rfl,⟨e,h⟩,hl⟩
theorem en23_0 (s:Za) (h:0<=(s.size:Int)/\(s.size:Int)<=(s.size:Int)/\(s.size:Int)<=(s.size:Int)/\(Zf.size:Int)+(s.size:Int)<=(s.size:Int)):lE23_0 s Zf (s.size:Int) (s.size:Int) Zf (s.size:Int) (s.size:Int) (lJ23_0 s (lN23_0 s)):=⟨rfl,rfl,rfl,rfl,rfl,Qr _,h⟩
def S23 (s:Za):Spec:=⟨[.r (.c (.v (.string s)))],.v (.string (F23 s)),s.size<=1048576⟩
theorem ok23 (s:Za):(S23 s).ok Tryz.prog 23 :=
 fnG_ok mixed (fn:=Tryz.f23) (ct:=.seq .no (.seq .no (.seq .no (.seq (.seq .no (.blk (.loop (ι:=Nat×(Za×Int×Int)) (fun i=>(fun (out:Za) (end':Int) (i40:Int)=>(⟨[(0,some (.v (.string s))),(3,some (.v (.string out))),(4,some (.v (vI end'))),(5,some (.v (vI i40)))],[],0⟩:St)) i.2.1 i.2.2.1 i.2.2.2) (lJ23_0 s) (fun i=>i.1) (lN23_0 s) (fun i=>(fun (out:Za) (end':Int) (i40:Int)=>(.seq (.seq .no (.cond .no .no)) (.seq (.blk (.seq (.reg [(2,.bnd)]) (.cond (.seq (.seq .no (.cond .no .no)) (.reg [(1,.bnd)])) .no))) (.reg [(1,.bnd)])))) i.2.1 i.2.2.1 i.2.2.2)))) (.seq .no .no))))) Tryz.func23 (fun (hpre0:s.size<=1048576)=>ai (en23_0 s (by refine ⟨?_,?_,?_,?_⟩ <;> first | omega | (simp only [lens,ib] at*<;> omega) | (simp only [Q9,T8,sz1] at *; omega) | exact turn_0 _)) (fun (i0:Nat×(Za×Int×Int)) (hi0:lJ23_0 s i0)=>(fun (m0:Nat) (out:Za) (end':Int) (i40:Int) (hh0:lH23_0 s i0 m0 out end' i40)=>have hI0:=hh0.1; have hl0:=hh0.2.1; have _:=hh0.2.2.1; have _:=hh0.2.2.2; ifd (i40>0) (fun h2 _=>ai (iok (i40-1) uu2) (ai (uu2:0<=(i40-1)/\(i40-1)<(s.size:Int)) (ife ((s.data.getD (i40-1).toNat 0).toNat:Int) 10 (fun h3 _=>ifd (i40<end') (fun h4 _=>ai (uu2:0<=i40/\i40<=end'/\end'<=(s.size:Int)) (ai (uu58:((out.size+(s.extract i40.toNat end'.toNat).size:Nat):Int)<=9223372036854775807) (ai (uu58:(((out++(s.extract i40.toNat end'.toNat)).size+Zn.size:Nat):Int)<=9223372036854775807) (ai (iok (i40-1) uu2) (ai (iok (i40-1) uu2) (bk23_0 s i0 m0 ((out++(s.extract i40.toNat end'.toNat))++Zn) (i40-1) (i40-1) hl0 (runL_next hI0 (condT h2 (condT h3 (condT h4 rfl)))) uu59)))))) (fun h4 _=>ai (iok (i40-1) uu2) (ai (iok (i40-1) uu2) (bk23_0 s i0 m0 out (i40-1) (i40-1) hl0 (runL_next hI0 (condT h2 (condT h3 (condF h4 rfl)))) uu59)))) (fun h3 _=>ai (iok (i40-1) uu2) (bk23_0 s i0 m0 out end' (i40-1) hl0 (runL_next hI0 (condT h2 (condF h3 rfl))) uu59))))) (fun h2 _=>have hD0_5:lX23_0 s=Lp.done (out,end',i40):=runL_done hI0 (condF h2 rfl); ai (uu2:0<=(0:Int)/\(0:Int)<=end'/\end'<=(s.size:Int)) (ai (uu58:((out.size+(s.extract (0:Int).toNat end'.toNat).size:Nat):Int)<=9223372036854775807) (fiS (out++(s.extract (0:Int).toNat end'.toNat)) (F23 s) (finD hD0_5 rfl))))) (i0.1-1) i0.2.1 i0.2.2.1 i0.2.2.2 (un23_0 s i0 hi0))) uu3
def F69_s0 (s:Za) (n:Int):(Za×Int×Za)->Lp (Za×Int×Za) Za:=fun (s1,n1,out) =>
 bif (decide (n1>0)) then (bif ((n1.tmod 2)==1) then (.next ((s1++s1),(n1.tdiv 2),(out++s1))) else (.next ((s1++s1),(n1.tdiv 2),out))) else (.done (s1,n1,out))
def F69 (s:Za) (n:Int):Za :=
 (runL (F69_s0 s n) ((n-0).toNat+1) (s,n,Zf)).fin (fun r=>r) (fun (s1,n1,out)=>out)
abbrev lN69_0 (s:Za) (n:Int):Nat×(Za×Int×Za):=(((n-0).toNat+1),(s,n,Zf))
abbrev lI69_0 (m39:Nat) (s1:Za) (n1:Int) (out:Za):Prop:=Int.toNat (n1-0)<m39/\MQ s1 n1 out/\n1<=5000
abbrev lX69_0 (s:Za) (n:Int):Lp (Za×Int×Za) Za:=LpX (F69_s0 s n) (lN69_0 s n)
abbrev lJ69_0 (s:Za) (n:Int) (i:Nat×(Za×Int×Za)):Prop:=LpJ (F69_s0 s n) (lN69_0 s n) i (lI69_0 i.1 i.2.1 i.2.2.1 i.2.2.2)
abbrev lH69_0 (s:Za) (n:Int) (i:Nat×(Za×Int×Za)) (m39:Nat) (s1:Za) (n1:Int) (out:Za):Prop:=LpH (F69_s0 s n) (lN69_0 s n) i m39 (s1,n1,out) (lI69_0 (m39+1) s1 n1 out)
abbrev lE69_0 (s1:Za) (n1:Int) (out:Za) (s1_:Za) (n1_:Int) (out_:Za) (K39:Prop):Prop:=((.string s1:Value)=.string s1_)/\((.int .i64 n1:Value)=.int .i64 n1_)/\((.string out:Value)=.string out_)/\K39
theorem un69_0 (s:Za) (n:Int) (i:Nat×(Za×Int×Za)) (h:lJ69_0 s n i):lH69_0 s n i (i.1-1) i.2.1 i.2.2.1 i.2.2.2:=⟨hd1 h.1 h.2.1,hd3 h.2.1,hd2 h.2.1,h.2.2⟩
theorem bk69_0 (s:Za) (n:Int) (i:Nat×(Za×Int×Za)) (m39:Nat) (s1:Za) (n1:Int) (out:Za) (hl:m39<i.1) (e:runL (F69_s0 s n) m39 (s1,n1,out)=lX69_0 s n) (h:lI69_0 m39 s1 n1 out):∃ j:Nat×(Za×Int×Za),lE69_0 s1 n1 out j.2.1 j.2.2.1 j.2.2.2 (lJ69_0 s n j/\j.1<i.1):=⟨(m39,(s1,n1,out)),rfl,rfl,rfl,⟨e,h⟩,hl⟩
theorem en69_0 (s:Za) (n:Int) (h:MQ s n Zf/\n<=5000):lE69_0 s n Zf s n Zf (lJ69_0 s n (lN69_0 s n)):=⟨rfl,rfl,rfl,rfl,Qr _,h⟩
def S69 (s:Za) (n:Int):Spec:=⟨[.r (.c (.v (.string s))),.r (.c (.v (vI n)))],.v (.string (F69 s n)),(s.size:Int)=1/\n<=5000⟩
theorem ok69 (s:Za) (n:Int):(S69 s n).ok Tryz.prog 69 :=
 fnG_ok mixed (fn:=Tryz.f69) (ct:=.seq .no (.seq .no (.seq (.blk (.loop (ι:=Nat×(Za×Int×Za)) (fun i=>(fun (s1:Za) (n1:Int) (out:Za)=>(⟨[(0,some (.v (.string s1))),(1,some (.v (vI n1))),(5,some (.v (.string out)))],[],0⟩:St)) i.2.1 i.2.2.1 i.2.2.2) (lJ69_0 s n) (fun i=>i.1) (lN69_0 s n) (fun i=>(fun (s1:Za) (n1:Int) (out:Za)=>(.seq (.seq .no (.cond .no .no)) (.blk (.seq (.seq .no (.cond .no .no)) (.seq .no (.reg [(1,.bnd)])))))) i.2.1 i.2.2.1 i.2.2.2))) (.seq .no .no)))) Tryz.func69 (fun (hp:(s.size:Int)=1/\n<=5000)=>have hpre0:=hp.1; have hpre1:=hp.2; ai (en69_0 s n (by refine ⟨?_,?_⟩ <;> first | omega | (simp only [lens,ib] at*<;> omega) | (have hq:=many_tdiv n1 (by assumption); omega) | exact many_mu (by assumption) (by assumption) | exact many_0 _ _ (by assumption) (by assumption) | exact many_1 (by assumption) (by assumption) (by assumption) | exact many_2 (by assumption) (by assumption))) (fun (i0:Nat×(Za×Int×Za)) (hi0:lJ69_0 s n i0)=>(fun (m0:Nat) (s1:Za) (n1:Int) (out:Za) (hh0:lH69_0 s n i0 m0 s1 n1 out)=>have hI0:=hh0.1; have hl0:=hh0.2.1; have _:=hh0.2.2.1; have _:=hh0.2.2.2.1; have _:=hh0.2.2.2.2; ifd (n1>0) (fun h2 _=>ai (uu2:¬ (2:Int)=0) (ife (n1.tmod 2) 1 (fun h3 _=>ai (uu60:((out.size+s1.size:Nat):Int)<=9223372036854775807) (ai (uu60:((s1.size+s1.size:Nat):Int)<=9223372036854775807) (ai (uu2:¬ (2:Int)=0) (ai (iok (n1.tdiv 2) (by have hq:=many_tdiv n1 (by assumption); omega)) (bk69_0 s n i0 m0 (s1++s1) (n1.tdiv 2) (out++s1) hl0 (runL_next hI0 (condT h2 (condT h3 rfl))) uu86))))) (fun h3 _=>ai (uu60:((s1.size+s1.size:Nat):Int)<=9223372036854775807) (ai (uu2:¬ (2:Int)=0) (ai (iok (n1.tdiv 2) (by have hq:=many_tdiv n1 (by assumption); omega)) (bk69_0 s n i0 m0 (s1++s1) (n1.tdiv 2) out hl0 (runL_next hI0 (condT h2 (condF h3 rfl))) uu86)))))) (fun h2 _=>have hD0_4:lX69_0 s n=Lp.done (s1,n1,out):=runL_done hI0 (condF h2 rfl); fiS out (F69 s n) (finD hD0_4 rfl))) (i0.1-1) i0.2.1 i0.2.2.1 i0.2.2.2 (un69_0 s n i0 hi0))) uu3
theorem kc50l (X_:SV) (b_:List Int) (pp_:Int) {K_:Prop} (p0_:0<=pp_) (p1_:pp_<=800000000) (p2_:b_.length<=2000) (q0_:0<=pp_) (q1_:pp_<=800000000) (k_:(LQ (F50 ⟨b_,pp_⟩).1/\0<=(F50 ⟨b_,pp_⟩).2/\(F50 ⟨b_,pp_⟩).2<=pp_+450)->K_):(0<=pp_/\pp_<=800000000/\b_.length<=2000)/\(sv X_=sv X_)/\(Imp (.l 1 eByte b_) (.l 1 eByte b_))/\(Imps ([.v (vI pp_)]) ([.v (vI pp_)]))/\K_:=⟨⟨p0_,p1_,p2_⟩,rfl,Imp.refl _,Imps.refl _,k_ (neat_q (⟨b_,pp_⟩:l51Rd) q0_ q1_)⟩
abbrev kh50l (X_:SV) (g_:Nat) (b_:List Int) (pp_:Int):Hint true Tryz.prog:=.call 50 (S50 X_ g_ (⟨b_,pp_⟩:l51Rd)) (ok50 X_ g_ (⟨b_,pp_⟩:l51Rd)) none
def F15 (Ua:SV) (code:List Int):List Za :=
 bif ((F48 ⟨(F33 Ua code).1.b,(F33 Ua code).1.p⟩ 5).1==0) then (F49 ⟨(F33 Ua code).1.b,(F50 ⟨(F33 Ua code).1.b,(F48 ⟨(F33 Ua code).1.b,(F33 Ua code).1.p⟩ 5).2⟩).2⟩ (F50 ⟨(F33 Ua code).1.b,(F48 ⟨(F33 Ua code).1.b,(F33 Ua code).1.p⟩ 5).2⟩).1).1 else (F51 ⟨(F33 Ua code).1.b,(F48 ⟨(F33 Ua code).1.b,(F33 Ua code).1.p⟩ 5).2⟩).1
theorem fi15 (Ua:SV) (code:List Int) (r:List Za) (hF:r=(F15 Ua code)):(Imp (.l 1 eStr r) (.l 1 eStr (F15 Ua code)))/\True:=by cases hF; exact ⟨Imp.refl _,trivial⟩
def S15 (Ua:SV) (code:List Int):Spec:=⟨[.vl (sv Ua) (.l 1 eByte code)],.ow (.l 1 eStr (F15 Ua code)),True⟩
theorem ok15 (Ua:SV) (code:List Int):(S15 Ua code).ok Tryz.prog 15 :=
 fnG_ok mixed (fn:=Tryz.f15) (ct:=.seqk [(0,0)] .no (.seqg 5 0 1000001 (sv (F33 Ua code).2) (.l 1 eByte (F33 Ua code).1.b) (.reg [(1,.call 33 (S33 Ua code) (ok33 Ua code) none)]) (.seq (.seq (.reg [(1,kh48l (F33 Ua code).2 1000001 (F33 Ua code).1.b (F33 Ua code).1.p 5)]) (.cond (.seq (.reg [(2,kh50l (F33 Ua code).2 1000001 (F33 Ua code).1.b (F48 ⟨(F33 Ua code).1.b,(F33 Ua code).1.p⟩ 5).2),(3,kh49l (F33 Ua code).2 1000001 (F33 Ua code).1.b (F50 ⟨(F33 Ua code).1.b,(F48 ⟨(F33 Ua code).1.b,(F33 Ua code).1.p⟩ 5).2⟩).2 (F50 ⟨(F33 Ua code).1.b,(F48 ⟨(F33 Ua code).1.b,(F33 Ua code).1.p⟩ 5).2⟩).1)]) .no) .no)) (.seq (.reg [(1,kh51l (F33 Ua code).2 1000001 (F33 Ua code).1.b (F48 ⟨(F33 Ua code).1.b,(F33 Ua code).1.p⟩ 5).2)]) .no)))) Tryz.func15 (fun (_:True)=>kn code fun _=>ai trivial (ai (Eq.refl (sv Ua)) (ai (Imp.refl (.l 1 eByte code)) (have gv1:(F33 Ua code).1.b.length<=2000/\(F33 Ua code).1.p=0:=open_b Ua code; ai (Eq.refl (sv (F33 Ua code).2)) (ai (gd33 Ua code) (kc48l (F33 Ua code).2 (F33 Ua code).1.b (F33 Ua code).1.p 5 uu0 uu0 uu0 uu0 uu0 (fun gv2=>have gv3:(F48 ⟨(F33 Ua code).1.b,(F33 Ua code).1.p⟩ 5).1<(5:Int):=uu22; ife (F48 ⟨(F33 Ua code).1.b,(F33 Ua code).1.p⟩ 5).1 0 (fun h4 _=>kc50l (F33 Ua code).2 (F33 Ua code).1.b (F48 ⟨(F33 Ua code).1.b,(F33 Ua code).1.p⟩ 5).2 uu18 uu18 uu18 uu18 uu18 (fun gv5=>kc49l (F33 Ua code).2 (F33 Ua code).1.b (F50 ⟨(F33 Ua code).1.b,(F48 ⟨(F33 Ua code).1.b,(F33 Ua code).1.p⟩ 5).2⟩).2 (F50 ⟨(F33 Ua code).1.b,(F48 ⟨(F33 Ua code).1.b,(F33 Ua code).1.p⟩ 5).2⟩).1 uu18 uu18 uu18 uu18 uu18 uu18 uu18 (fun gv6=>fi15 Ua code (F49 ⟨(F33 Ua code).1.b,(F50 ⟨(F33 Ua code).1.b,(F48 ⟨(F33 Ua code).1.b,(F33 Ua code).1.p⟩ 5).2⟩).2⟩ (F50 ⟨(F33 Ua code).1.b,(F48 ⟨(F33 Ua code).1.b,(F33 Ua code).1.p⟩ 5).2⟩).1).1 (condT h4 rfl)))) (fun h4 _=>kc51l (F33 Ua code).2 (F33 Ua code).1.b (F48 ⟨(F33 Ua code).1.b,(F33 Ua code).1.p⟩ 5).2 uu18 uu18 uu18 uu18 uu18 (fun gv7=>fi15 Ua code (F51 ⟨(F33 Ua code).1.b,(F48 ⟨(F33 Ua code).1.b,(F33 Ua code).1.p⟩ 5).2⟩).1 (condF h4 rfl)))))))))) uu3
theorem many_loop (s:Za) (n:Int):∀ (fuel:Nat) (s1:Za) (n1:Int) (out:Za),MQ s1 n1 out->n1.toNat<fuel->((runL (F69_s0 s n) fuel (s1,n1,out)).fin (fun r=>r) (fun (s1,n1,out)=>out)).size<=6000
 | 0,_,_,_,_,hf=>absurd hf (R5 _)
 | fuel+1,s1,n1,out,h,hf=>by
  by_cases hn:n1>0
  ·have ht:=many_tdiv n1 hn
   cases ho:(n1.tmod 2==1) with
   | true =>
    have st:F69_s0 s n (s1,n1,out)=.next (s1++s1,n1.tdiv 2,out++s1):=by simp only [F69_s0,Qs hn,Qc,ho]
    rw [runL_n _ st]
    exact many_loop s n fuel _ _ _ (many_1 h hn (eq_of_beq ho)) uu0
   | false =>
    have st:F69_s0 s n (s1,n1,out)=.next (s1++s1,n1.tdiv 2,out):=by simp only [F69_s0,Qs hn,Qc,ho,Qb]
    rw [runL_n _ st]
    exact many_loop s n fuel _ _ _ (many_2 h hn) uu0
  ·have st:F69_s0 s n (s1,n1,out)=.done (s1,n1,out):=by simp only [F69_s0,Qq hn,Qb]
   rw [runL_d _ st]
   exact many_o h
theorem many_q (s:Za) (n:Int) (hs:(s.size:Int)=1) (hn:n<=5000):(F69 s n).size<=6000:=by
 unfold F69
 exact many_loop s n _ _ _ _ (many_0 s n hs hn) uu0
theorem list4 (s:Za) (h:s.size<=3000):∀ x∈([Zn,Y0,Y3,s++Zn]:List Za),x.size<=4000:=by
 intro x hx
 simp only [Qt,Rl,Gy] at hx
 rcases hx with rfl | rfl | rfl | rfl
 ·decide
 ·decide
 ·decide
 ·rw [Q9]
  show s.size+1<=4000
  omega
theorem szL:Zn.size=1:=rfl
theorem lq_get {xs:List Za} (h:LQ xs) (k:Nat):(xs.getD k default).size<=900:=h.2 k
theorem pr_0 {lines:List Za} (h:LQ lines):(Zf.size:Int)+9000*(lines.length:Int)<=160000:=by
 have:=h.1
 show ((0:Nat):Int)+_<=_
 omega
theorem drawPrint_q (Ua:SV) (code:List Int):LS (F15 Ua code):=by
 obtain ⟨b0,p0⟩:=open_b Ua code
 have hn:∀ p:Int,0<=p->p<=100->LQ (F50 (⟨(F33 Ua code).1.b,p⟩:l51Rd)).1/\0<=(F50 (⟨(F33 Ua code).1.b,p⟩:l51Rd)).2/\(F50 (⟨(F33 Ua code).1.b,p⟩:l51Rd)).2<=p+450:=fun p h1 h2=>neat_q (⟨(F33 Ua code).1.b,p⟩:l51Rd) h1 (by show p<=_; omega)
 have hc:∀ p:Int,0<=p->p<=100->CQ (F51 (⟨(F33 Ua code).1.b,p⟩:l51Rd)).1:=fun p h1 h2=>(conf_q (⟨(F33 Ua code).1.b,p⟩:l51Rd) h1 (by show p<=_; omega)).1
 unfold F15
 apply cond_P (P:=LS)
 ·obtain ⟨a,b,c⟩:=hn (F33 Ua code).1.p uu0 uu0
  refine (spoil_q _ _ ?_ ?_ ?_).1 <;> first | (simp only [pick_p]; omega) | skip
  all_goals first | exact (hn _ uu19 uu19).1 | (obtain ⟨a,b,c⟩:=hn ((F48 (⟨(F33 Ua code).1.b,(F33 Ua code).1.p⟩:l51Rd) 5).2) uu19 uu19; simp only [pick_p] at *; omega)
 ·exact lq_ls (cq_lq (hc _ uu19 uu19))
theorem kc32l (X_:SV) (b_:List Int) (pp_:Int) {K_:Prop} (p0_:0<=pp_) (p1_:pp_<=900000000) (p2_:b_.length<=2000) (q0_:0<=pp_) (q1_:pp_<=900000000) (q2_:0<=pp_) (q3_:pp_<=900000000) (k_:((F32 ⟨b_,pp_⟩).1.size<=3000)->(pp_<=(F32 ⟨b_,pp_⟩).2/\(F32 ⟨b_,pp_⟩).2<=pp_+12)->K_):(0<=pp_/\pp_<=900000000/\b_.length<=2000)/\(sv X_=sv X_)/\(Imp (.l 1 eByte b_) (.l 1 eByte b_))/\(Imps ([.v (vI pp_)]) ([.v (vI pp_)]))/\K_:=⟨⟨p0_,p1_,p2_⟩,rfl,Imp.refl _,Imps.refl _,k_ (raw_q (⟨b_,pp_⟩:l51Rd) q0_ q1_) (raw_pq (⟨b_,pp_⟩:l51Rd) q2_ q3_)⟩
abbrev kh32l (X_:SV) (g_:Nat) (b_:List Int) (pp_:Int):Hint true Tryz.prog:=.call 32 (S32 X_ g_ (⟨b_,pp_⟩:l51Rd)) (ok32 X_ g_ (⟨b_,pp_⟩:l51Rd)) none
abbrev w139_:Za:=⟨#[32,35,32,115,111]⟩
def F21_j0 (Ua:SV) (code:List Int):Lp (List Za×Int) Za :=
 bif ((F48 ⟨(F33 Ua code).1.b,(F51 ⟨(F33 Ua code).1.b,(F33 Ua code).1.p⟩).2⟩ 4).1==0) then (.done ((F50 ⟨(F33 Ua code).1.b,(F48 ⟨(F33 Ua code).1.b,(F51 ⟨(F33 Ua code).1.b,(F33 Ua code).1.p⟩).2⟩ 4).2⟩).1,(F50 ⟨(F33 Ua code).1.b,(F48 ⟨(F33 Ua code).1.b,(F51 ⟨(F33 Ua code).1.b,(F33 Ua code).1.p⟩).2⟩ 4).2⟩).2)) else (.done ((F51 ⟨(F33 Ua code).1.b,(F33 Ua code).1.p⟩).1,(F48 ⟨(F33 Ua code).1.b,(F51 ⟨(F33 Ua code).1.b,(F33 Ua code).1.p⟩).2⟩ 4).2))
def F21_j4 (Ua:SV) (code:List Int) (lines:List Za) (r1:Int) (lines1:List Za) (out1:Za) (r3:Int):Lp (Za×Int) Za :=
 bif ((F48 ⟨(F33 Ua code).1.b,(F48 ⟨(F33 Ua code).1.b,r3⟩ (lines1.length:Int)).2⟩ 6).1==0) then (.done (((out1++(lines1.getD (F48 ⟨(F33 Ua code).1.b,r3⟩ (lines1.length:Int)).1.toNat default))++(F67 ⟨(F33 Ua code).1.b,(F48 ⟨(F33 Ua code).1.b,(F48 ⟨(F33 Ua code).1.b,r3⟩ (lines1.length:Int)).2⟩ 6).2⟩ ([Zd,(⟨#[32,35,32,115,111]⟩:Za),Zj,Yb]:List Za)).1),(F67 ⟨(F33 Ua code).1.b,(F48 ⟨(F33 Ua code).1.b,(F48 ⟨(F33 Ua code).1.b,r3⟩ (lines1.length:Int)).2⟩ 6).2⟩ ([Zd,(⟨#[32,35,32,115,111]⟩:Za),Zj,Yb]:List Za)).2)) else (.done ((out1++(lines1.getD (F48 ⟨(F33 Ua code).1.b,r3⟩ (lines1.length:Int)).1.toNat default)),(F48 ⟨(F33 Ua code).1.b,(F48 ⟨(F33 Ua code).1.b,r3⟩ (lines1.length:Int)).2⟩ 6).2))
def F21_s0 (Ua:SV) (code:List Int) (lines:List Za) (r1:Int):(List Za×Za×Int)->Lp (List Za×Za×Int) Za:=fun (lines1,out1,r3) =>
 bif (decide ((lines1.length:Int)>0)) then ((F21_j4 Ua code lines r1 lines1 out1 r3).fin Lp.ret (fun (out2,r4)=>bif ((F48 ⟨(F33 Ua code).1.b,r4⟩ 7).1==0) then (.next ((F68 lines1 (F48 ⟨(F33 Ua code).1.b,r3⟩ (lines1.length:Int)).1),((out2++Zn)++(F67 ⟨(F33 Ua code).1.b,(F32 ⟨(F33 Ua code).1.b,(F48 ⟨(F33 Ua code).1.b,r4⟩ 7).2⟩).2⟩ ([Zn,Y0,Y3,((F32 ⟨(F33 Ua code).1.b,(F48 ⟨(F33 Ua code).1.b,r4⟩ 7).2⟩).1++Zn)]:List Za)).1),(F67 ⟨(F33 Ua code).1.b,(F32 ⟨(F33 Ua code).1.b,(F48 ⟨(F33 Ua code).1.b,r4⟩ 7).2⟩).2⟩ ([Zn,Y0,Y3,((F32 ⟨(F33 Ua code).1.b,(F48 ⟨(F33 Ua code).1.b,r4⟩ 7).2⟩).1++Zn)]:List Za)).2)) else (.next ((F68 lines1 (F48 ⟨(F33 Ua code).1.b,r3⟩ (lines1.length:Int)).1),(out2++Zn),(F48 ⟨(F33 Ua code).1.b,r4⟩ 7).2)))) else (.done (lines1,out1,r3))
def F21_j1 (Ua:SV) (code:List Int) (lines:List Za) (r1:Int):Lp (Za×Int) Za :=
 (runL (F21_s0 Ua code lines r1) (((lines.length:Int)-0).toNat+1) (lines,Zf,r1)).fin Lp.ret (fun (lines1,out1,r3)=>.done (out1,r3))
def F21 (Ua:SV) (code:List Int):Za :=
 (F21_j0 Ua code).fin (fun r=>r) (fun (lines,r1)=>(F21_j1 Ua code lines r1).fin (fun r=>r) (fun (out,r2)=>bif ((F48 ⟨(F33 Ua code).1.b,r2⟩ 30).1==0) then (out++(F69 Zn (70+(F48 ⟨(F33 Ua code).1.b,(F48 ⟨(F33 Ua code).1.b,r2⟩ 30).2⟩ 20).1))) else (bif ((F48 ⟨(F33 Ua code).1.b,r2⟩ 30).1==1) then (out++(F69 Zd ((4000-(out.size:Int))+(F48 ⟨(F33 Ua code).1.b,(F48 ⟨(F33 Ua code).1.b,r2⟩ 30).2⟩ 2).1))) else (bif ((F48 ⟨(F33 Ua code).1.b,r2⟩ 30).1==2) then (bif (decide ((out.size:Int)>0)) then (out.extract (0:Int).toNat ((out.size:Int)-1).toNat) else out) else out))))
abbrev jI21_0 (Ua:SV) (code:List Int) (lines:List Za) (r1:Int):Prop:=LQ lines/\0<=r1/\r1<=1000
abbrev jJ21_0 (Ua:SV) (code:List Int) (j:List Za×Int):Prop:=(F21_j0 Ua code)=Lp.done j/\jI21_0 Ua code j.1 j.2
theorem jn21_0 (Ua:SV) (code:List Int) (lines:List Za) (r1:Int) (e:(F21_j0 Ua code)=Lp.done (lines,r1)) (h:jI21_0 Ua code lines r1):∃ j:List Za×Int,((.int .i64 r1:Value)=.int .i64 j.2)/\((sv (F33 Ua code).2:Value)=sv (F33 Ua code).2)/\(Imp (.l 1 eByte (F33 Ua code).1.b) (.l 1 eByte (F33 Ua code).1.b))/\(Imp (.l 1 eStr lines) (.l 1 eStr j.1))/\jJ21_0 Ua code j:=⟨(lines,r1),rfl,rfl,Imp.refl _,Imp.refl _,e,h⟩
abbrev jI21_4 (Ua:SV) (code:List Int) (lines:List Za) (r1:Int) (lines1:List Za) (out1:Za) (r3:Int) (out2:Za) (r4:Int):Prop:=(out2.size:Int)<=(out1.size:Int)+4900/\r3<=r4/\r4<=r3+3/\(0<=(F48 ⟨(F33 Ua code).1.b,r3⟩ (lines1.length:Int)).1/\(F48 ⟨(F33 Ua code).1.b,r3⟩ (lines1.length:Int)).1<(lines1.length:Int))
abbrev jJ21_4 (Ua:SV) (code:List Int) (lines:List Za) (r1:Int) (lines1:List Za) (out1:Za) (r3:Int) (j:Za×Int):Prop:=(F21_j4 Ua code lines r1 lines1 out1 r3)=Lp.done j/\jI21_4 Ua code lines r1 lines1 out1 r3 j.1 j.2
theorem jn21_4 (Ua:SV) (code:List Int) (lines:List Za) (r1:Int) (lines1:List Za) (out1:Za) (r3:Int) (out2:Za) (r4:Int) (e:(F21_j4 Ua code lines r1 lines1 out1 r3)=Lp.done (out2,r4)) (h:jI21_4 Ua code lines r1 lines1 out1 r3 out2 r4):∃ j:Za×Int,((.string out2:Value)=.string j.1)/\((.int .i64 (F48 ⟨(F33 Ua code).1.b,r3⟩ (lines1.length:Int)).1:Value)=.int .i64 (F48 ⟨(F33 Ua code).1.b,r3⟩ (lines1.length:Int)).1)/\((.int .i64 r4:Value)=.int .i64 j.2)/\((sv (F33 Ua code).2:Value)=sv (F33 Ua code).2)/\(Imp (.l 1 eByte (F33 Ua code).1.b) (.l 1 eByte (F33 Ua code).1.b))/\(Imp (.l 1 eStr lines1) (.l 1 eStr lines1))/\jJ21_4 Ua code lines r1 lines1 out1 r3 j:=⟨(out2,r4),rfl,rfl,rfl,rfl,Imp.refl _,Imp.refl _,e,h⟩
abbrev lN21_0 (lines:List Za) (r1:Int):Nat×(List Za×Za×Int):=((((lines.length:Int)-0).toNat+1),(lines,Zf,r1))
abbrev lI21_0 (m39:Nat) (lines1:List Za) (out1:Za) (r3:Int):Prop:=Int.toNat ((lines1.length:Int)-0)<m39/\LQ lines1/\(out1.size:Int)+9000*(lines1.length:Int)<=160000/\0<=r3/\r3+30*(lines1.length:Int)<=1600
abbrev lX21_0 (Ua:SV) (code:List Int) (lines:List Za) (r1:Int):Lp (List Za×Za×Int) Za:=LpX (F21_s0 Ua code lines r1) (lN21_0 lines r1)
abbrev lJ21_0 (Ua:SV) (code:List Int) (lines:List Za) (r1:Int) (i:Nat×(List Za×Za×Int)):Prop:=LpJ (F21_s0 Ua code lines r1) (lN21_0 lines r1) i (lI21_0 i.1 i.2.1 i.2.2.1 i.2.2.2)
abbrev lH21_0 (Ua:SV) (code:List Int) (lines:List Za) (r1:Int) (i:Nat×(List Za×Za×Int)) (m39:Nat) (lines1:List Za) (out1:Za) (r3:Int):Prop:=LpH (F21_s0 Ua code lines r1) (lN21_0 lines r1) i m39 (lines1,out1,r3) (lI21_0 (m39+1) lines1 out1 r3)
abbrev lE21_0 (Ua:SV) (code:List Int) (lines1:List Za) (out1:Za) (r3:Int) (lines1_:List Za) (out1_:Za) (r3_:Int) (K39:Prop):Prop:=((.string out1:Value)=.string out1_)/\((.int .i64 r3:Value)=.int .i64 r3_)/\(Rf (sv (F33 Ua code).2))/\(Im (.l 1 eByte (F33 Ua code).1.b))/\(Imp (.l 1 eStr lines1) (.l 1 eStr lines1_))/\K39
theorem un21_0 (Ua:SV) (code:List Int) (lines:List Za) (r1:Int) (i:Nat×(List Za×Za×Int)) (h:lJ21_0 Ua code lines r1 i):lH21_0 Ua code lines r1 i (i.1-1) i.2.1 i.2.2.1 i.2.2.2:=⟨hd1 h.1 h.2.1,hd3 h.2.1,hd2 h.2.1,h.2.2⟩
theorem bk21_0 (Ua:SV) (code:List Int) (lines:List Za) (r1:Int) (i:Nat×(List Za×Za×Int)) (m39:Nat) (lines1:List Za) (out1:Za) (r3:Int) (hl:m39<i.1) (e:runL (F21_s0 Ua code lines r1) m39 (lines1,out1,r3)=lX21_0 Ua code lines r1) (h:lI21_0 m39 lines1 out1 r3):∃ j:Nat×(List Za×Za×Int),lE21_0 Ua code lines1 out1 r3 j.2.1 j.2.2.1 j.2.2.2 (lJ21_0 Ua code lines r1 j/\j.1<i.1):=⟨(m39,(lines1,out1,r3)),rfl,rfl,rfl,Imp.refl _,Imp.refl _,⟨e,h⟩,hl⟩
theorem en21_0 (Ua:SV) (code:List Int) (lines:List Za) (r1:Int) (h:LQ lines/\(Zf.size:Int)+9000*(lines.length:Int)<=160000/\0<=r1/\r1+30*(lines.length:Int)<=1600):lE21_0 Ua code lines Zf r1 lines Zf r1 (lJ21_0 Ua code lines r1 (lN21_0 lines r1)):=⟨rfl,rfl,rfl,Imp.refl _,Imp.refl _,rfl,Qr _,h⟩
abbrev jI21_1 (Ua:SV) (code:List Int) (lines:List Za) (r1:Int) (out:Za) (r2:Int):Prop:=out.size<=160000/\0<=r2/\r2<=2000
abbrev jJ21_1 (Ua:SV) (code:List Int) (lines:List Za) (r1:Int) (j:Za×Int):Prop:=(F21_j1 Ua code lines r1)=Lp.done j/\jI21_1 Ua code lines r1 j.1 j.2
theorem jn21_1 (Ua:SV) (code:List Int) (lines:List Za) (r1:Int) (out:Za) (r2:Int) (e:(F21_j1 Ua code lines r1)=Lp.done (out,r2)) (h:jI21_1 Ua code lines r1 out r2):∃ j:Za×Int,((.string out:Value)=.string j.1)/\((.int .i64 r2:Value)=.int .i64 j.2)/\((sv (F33 Ua code).2:Value)=sv (F33 Ua code).2)/\(Imp (.l 1 eByte (F33 Ua code).1.b) (.l 1 eByte (F33 Ua code).1.b))/\jJ21_1 Ua code lines r1 j:=⟨(out,r2),rfl,rfl,rfl,Imp.refl _,e,h⟩
def S21 (Ua:SV) (code:List Int):Spec:=⟨[.vl (sv Ua) (.l 1 eByte code)],.v (.string (F21 Ua code)),True⟩
abbrev Wo:List Za:=[Zd,w139_,Zj,Yb]
theorem ok21 (Ua:SV) (code:List Int):(S21 Ua code).ok Tryz.prog 21 :=
 fnG_ok mixed (fn:=Tryz.f21) (ct:=.seqk [(0,0)] .no (.seqg 8 0 1000004 (sv (F33 Ua code).2) (.l 1 eByte (F33 Ua code).1.b) (.reg [(1,.call 33 (S33 Ua code) (ok33 Ua code) none)]) (.seq (.reg [(1,kh51l (F33 Ua code).2 1000004 (F33 Ua code).1.b (F33 Ua code).1.p)]) (.cut (ι:=List Za×Int) (fun j=>(fun (lines:List Za) (r1:Int)=>(⟨[(3,some (.p 0 0)),(4,some (.h 2 0))],[(0,some (.box 86 [.h 1 0,.v (vI r1)])),(1,some (.vl (sv (F33 Ua code).2) (.l 1 eByte (F33 Ua code).1.b))),(2,some (.own 2 (.l 1 eStr lines)))],3⟩:St)) j.1 j.2) (jJ21_0 Ua code) (.seq (.reg [(1,kh48l (F33 Ua code).2 1000004 (F33 Ua code).1.b (F51 ⟨(F33 Ua code).1.b,(F33 Ua code).1.p⟩).2 4)]) (.cond (.reg [(1,kh50l (F33 Ua code).2 1000004 (F33 Ua code).1.b (F48 ⟨(F33 Ua code).1.b,(F51 ⟨(F33 Ua code).1.b,(F33 Ua code).1.p⟩).2⟩ 4).2)]) .no)) (fun j=>(fun (lines:List Za) (r1:Int)=>(.seqk [(3,0),(4,0)] .no (.cut (ι:=Za×Int) (fun j=>(fun (out:Za) (r2:Int)=>(⟨[(3,some (.p 0 0)),(5,some (.v (.string out)))],[(0,some (.box 86 [.h 1 0,.v (vI r2)])),(1,some (.vl (sv (F33 Ua code).2) (.l 1 eByte (F33 Ua code).1.b)))],2⟩:St)) j.1 j.2) (jJ21_1 Ua code lines r1) (.blk (.loop (ι:=Nat×(List Za×Za×Int)) (fun i=>(fun (lines1:List Za) (out1:Za) (r3:Int)=>(⟨[(3,some (.p 0 0)),(4,some (.h 2 0)),(5,some (.v (.string out1)))],[(0,some (.box 86 [.h 1 0,.v (vI r3)])),(1,some (.vl (sv (F33 Ua code).2) (.l 1 eByte (F33 Ua code).1.b))),(2,some (.own 2 (.l 1 eStr lines1)))],3⟩:St)) i.2.1 i.2.2.1 i.2.2.2) (lJ21_0 Ua code lines r1) (fun i=>i.1) (lN21_0 lines r1) (fun i=>(fun (lines1:List Za) (out1:Za) (r3:Int)=>(.seq (.seq .no (.cond .no .no)) (.blk (.seq (.reg [(3,kh48l (F33 Ua code).2 1 (F33 Ua code).1.b r3 (lines1.length:Int))]) (.seq .no (.cut (ι:=Za×Int) (fun j=>(fun (out2:Za) (r4:Int)=>(⟨[(3,some (.p 0 0)),(4,some (.h 2 0)),(5,some (.v (.string out2))),(6,some (.v (vI (F48 ⟨(F33 Ua code).1.b,r3⟩ (lines1.length:Int)).1)))],[(0,some (.box 86 [.h 1 0,.v (vI r4)])),(1,some (.vl (sv (F33 Ua code).2) (.l 1 eByte (F33 Ua code).1.b))),(2,some (.own 2 (.l 1 eStr lines1)))],3⟩:St)) j.1 j.2) (jJ21_4 Ua code lines r1 lines1 out1 r3) (.seq (.reg [(1,kh48l (F33 Ua code).2 1 (F33 Ua code).1.b (F48 ⟨(F33 Ua code).1.b,r3⟩ (lines1.length:Int)).2 6)]) (.cond (.reg [(2,.dat (.l 1 eStr Wo)),(3,kh67l (F33 Ua code).2 1 (F33 Ua code).1.b (F48 ⟨(F33 Ua code).1.b,(F48 ⟨(F33 Ua code).1.b,r3⟩ (lines1.length:Int)).2⟩ 6).2 Wo)]) .no)) (fun j=>(fun (out2:Za) (r4:Int)=>(.seq .no (.seq (.reg [(2,.call 68 (S68 lines1 (F48 ⟨(F33 Ua code).1.b,r3⟩ (lines1.length:Int)).1) (ok68 lines1 (F48 ⟨(F33 Ua code).1.b,r3⟩ (lines1.length:Int)).1) none)]) (.seq (.reg [(1,kh48l (F33 Ua code).2 1 (F33 Ua code).1.b r4 7)]) (.cond (.reg [(3,kh32l (F33 Ua code).2 1 (F33 Ua code).1.b (F48 ⟨(F33 Ua code).1.b,r4⟩ 7).2),(5,.dat (.l 1 eStr ([Zn,Y0,Y3,((F32 ⟨(F33 Ua code).1.b,(F48 ⟨(F33 Ua code).1.b,r4⟩ 7).2⟩).1++Zn)]:List Za))),(6,kh67l (F33 Ua code).2 1 (F33 Ua code).1.b (F32 ⟨(F33 Ua code).1.b,(F48 ⟨(F33 Ua code).1.b,r4⟩ 7).2⟩).2 ([Zn,Y0,Y3,((F32 ⟨(F33 Ua code).1.b,(F48 ⟨(F33 Ua code).1.b,r4⟩ 7).2⟩).1++Zn)]:List Za))]) .no))))) j.1 j.2))))))) i.2.1 i.2.2.1 i.2.2.2))) (fun j=>(fun (out:Za) (r2:Int)=>(.seq (.seq (.reg [(1,kh48l (F33 Ua code).2 1 (F33 Ua code).1.b r2 30)]) (.blk (.seq .no (.cond (.seq (.reg [(2,kh48l (F33 Ua code).2 1 (F33 Ua code).1.b (F48 ⟨(F33 Ua code).1.b,r2⟩ 30).2 20),(3,.bnd),(4,.call 69 (S69 Zn (70+(F48 ⟨(F33 Ua code).1.b,(F48 ⟨(F33 Ua code).1.b,r2⟩ 30).2⟩ 20).1)) (ok69 Zn (70+(F48 ⟨(F33 Ua code).1.b,(F48 ⟨(F33 Ua code).1.b,r2⟩ 30).2⟩ 20).1)) none)]) .no) (.seq .no (.cond (.seq (.reg [(3,.bnd),(5,kh48l (F33 Ua code).2 1 (F33 Ua code).1.b (F48 ⟨(F33 Ua code).1.b,r2⟩ 30).2 2),(6,.bnd),(7,.call 69 (S69 Zd ((4000-(out.size:Int))+(F48 ⟨(F33 Ua code).1.b,(F48 ⟨(F33 Ua code).1.b,r2⟩ 30).2⟩ 2).1)) (ok69 Zd ((4000-(out.size:Int))+(F48 ⟨(F33 Ua code).1.b,(F48 ⟨(F33 Ua code).1.b,r2⟩ 30).2⟩ 2).1)) none)]) .no) (.seq .no (.cond (.seq .no (.cond (.seq (.reg [(3,.bnd)]) .no) .no)) .no)))))))) (.seq .no .no))) j.1 j.2)))) j.1 j.2))))) Tryz.func21 (fun (_:True)=>kn code fun _=>ai trivial (ai (Eq.refl (sv Ua)) (ai (Imp.refl (.l 1 eByte code)) (have gv1:(F33 Ua code).1.b.length<=2000/\(F33 Ua code).1.p=0:=open_b Ua code; ai (Eq.refl (sv (F33 Ua code).2)) (ai (gd33 Ua code) (kc51l (F33 Ua code).2 (F33 Ua code).1.b (F33 Ua code).1.p uu2 uu2 uu2 uu2 uu2 (fun gv2=>ai (kc48l (F33 Ua code).2 (F33 Ua code).1.b (F51 ⟨(F33 Ua code).1.b,(F33 Ua code).1.p⟩).2 4 uu4 uu4 uu4 uu4 uu4 (fun gv3=>have gv4:(F48 ⟨(F33 Ua code).1.b,(F51 ⟨(F33 Ua code).1.b,(F33 Ua code).1.p⟩).2⟩ 4).1<(4:Int):=uu29; ife (F48 ⟨(F33 Ua code).1.b,(F51 ⟨(F33 Ua code).1.b,(F33 Ua code).1.p⟩).2⟩ 4).1 0 (fun h5 _=>kc50l (F33 Ua code).2 (F33 Ua code).1.b (F48 ⟨(F33 Ua code).1.b,(F51 ⟨(F33 Ua code).1.b,(F33 Ua code).1.p⟩).2⟩ 4).2 uu2 uu2 uu2 uu2 uu2 (fun gv6=>jn21_0 Ua code (F50 ⟨(F33 Ua code).1.b,(F48 ⟨(F33 Ua code).1.b,(F51 ⟨(F33 Ua code).1.b,(F33 Ua code).1.p⟩).2⟩ 4).2⟩).1 (F50 ⟨(F33 Ua code).1.b,(F48 ⟨(F33 Ua code).1.b,(F51 ⟨(F33 Ua code).1.b,(F33 Ua code).1.p⟩).2⟩ 4).2⟩).2 (S5 (condT h5 rfl)) uu61)) (fun h5 _=>jn21_0 Ua code (F51 ⟨(F33 Ua code).1.b,(F33 Ua code).1.p⟩).1 (F48 ⟨(F33 Ua code).1.b,(F51 ⟨(F33 Ua code).1.b,(F33 Ua code).1.p⟩).2⟩ 4).2 (S5 (condF h5 rfl)) uu61))) (fun (j:List Za×Int) (hj:jJ21_0 Ua code j)=>(fun (lines:List Za) (r1:Int) (hJ0_7:(F21_j0 Ua code)=Lp.done (lines,r1)) (hw:jI21_0 Ua code lines r1)=>have _:=hw.1; have _:=hw.2.1; have _:=hw.2.2; kn (F33 Ua code).1.b fun _=>kn lines fun _=>ai (ai (en21_0 Ua code lines r1 uu62) (fun (i0:Nat×(List Za×Za×Int)) (hi0:lJ21_0 Ua code lines r1 i0)=>(fun (m0:Nat) (lines1:List Za) (out1:Za) (r3:Int) (hh0:lH21_0 Ua code lines r1 i0 m0 lines1 out1 r3)=>have hI0:=hh0.1; have hl0:=hh0.2.1; have _:=hh0.2.2.1; have _:=hh0.2.2.2.1; have _:=hh0.2.2.2.2.1; have _:=hh0.2.2.2.2.2.1; have _:=hh0.2.2.2.2.2.2; ifd ((lines1.length:Int)>0) (fun h9 _=>kc48l (F33 Ua code).2 (F33 Ua code).1.b r3 (lines1.length:Int) uu4 uu4 uu4 uu4 uu4 (fun gv10=>have gv11:(F48 ⟨(F33 Ua code).1.b,r3⟩ (lines1.length:Int)).1<(lines1.length:Int):=uu29; ai (uu2:ib (F48 ⟨(F33 Ua code).1.b,r3⟩ (lines1.length:Int)).1 lines1) (ai (uu30:((out1.size+(lines1.getD (F48 ⟨(F33 Ua code).1.b,r3⟩ (lines1.length:Int)).1.toNat default).size:Nat):Int)<=9223372036854775807) (ai (kc48l (F33 Ua code).2 (F33 Ua code).1.b (F48 ⟨(F33 Ua code).1.b,r3⟩ (lines1.length:Int)).2 6 uu4 uu4 uu4 uu4 uu4 (fun gv12=>have gv13:(F48 ⟨(F33 Ua code).1.b,(F48 ⟨(F33 Ua code).1.b,r3⟩ (lines1.length:Int)).2⟩ 6).1<(6:Int):=uu29; ife (F48 ⟨(F33 Ua code).1.b,(F48 ⟨(F33 Ua code).1.b,r3⟩ (lines1.length:Int)).2⟩ 6).1 0 (fun h14 _=>ai (bokr 1 eStr Wo fun _=>rfl) (kc67l (F33 Ua code).2 (F33 Ua code).1.b (F48 ⟨(F33 Ua code).1.b,(F48 ⟨(F33 Ua code).1.b,r3⟩ (lines1.length:Int)).2⟩ 6).2 Wo uu4 uu4 uu4 uu4 uu4 uu4 uu4 uu4 (fun gv15=>ai (uu30:(((out1++(lines1.getD (F48 ⟨(F33 Ua code).1.b,r3⟩ (lines1.length:Int)).1.toNat default)).size+(F67 ⟨(F33 Ua code).1.b,(F48 ⟨(F33 Ua code).1.b,(F48 ⟨(F33 Ua code).1.b,r3⟩ (lines1.length:Int)).2⟩ 6).2⟩ Wo).1.size:Nat):Int)<=9223372036854775807) (jn21_4 Ua code lines r1 lines1 out1 r3 ((out1++(lines1.getD (F48 ⟨(F33 Ua code).1.b,r3⟩ (lines1.length:Int)).1.toNat default))++(F67 ⟨(F33 Ua code).1.b,(F48 ⟨(F33 Ua code).1.b,(F48 ⟨(F33 Ua code).1.b,r3⟩ (lines1.length:Int)).2⟩ 6).2⟩ Wo).1) (F67 ⟨(F33 Ua code).1.b,(F48 ⟨(F33 Ua code).1.b,(F48 ⟨(F33 Ua code).1.b,r3⟩ (lines1.length:Int)).2⟩ 6).2⟩ Wo).2 (S5 (condT h14 rfl)) uu62)))) (fun h14 _=>jn21_4 Ua code lines r1 lines1 out1 r3 (out1++(lines1.getD (F48 ⟨(F33 Ua code).1.b,r3⟩ (lines1.length:Int)).1.toNat default)) (F48 ⟨(F33 Ua code).1.b,(F48 ⟨(F33 Ua code).1.b,r3⟩ (lines1.length:Int)).2⟩ 6).2 (S5 (condF h14 rfl)) uu62))) (fun (j:Za×Int) (hj:jJ21_4 Ua code lines r1 lines1 out1 r3 j)=>(fun (out2:Za) (r4:Int) (hJ4_16:(F21_j4 Ua code lines r1 lines1 out1 r3)=Lp.done (out2,r4)) (hw:jI21_4 Ua code lines r1 lines1 out1 r3 out2 r4)=>have _:=hw.1; have _:=hw.2.1; have _:=hw.2.2.1; have _:=hw.2.2.2; ai (uu30:((out2.size+Zn.size:Nat):Int)<=9223372036854775807) (ai (ai (uu4:0<=(F48 ⟨(F33 Ua code).1.b,r3⟩ (lines1.length:Int)).1) (ai (uu4:(F48 ⟨(F33 Ua code).1.b,r3⟩ (lines1.length:Int)).1<(lines1.length:Int)) (uu4:lines1.length<=1048576))) (ai (Imp.refl (.l 1 eStr lines1)) (ai (Imp.refl (.v (vI (F48 ⟨(F33 Ua code).1.b,r3⟩ (lines1.length:Int)).1))) (have gv17:(F68 lines1 (F48 ⟨(F33 Ua code).1.b,r3⟩ (lines1.length:Int)).1).length+1=lines1.length:=without_len lines1 (F48 ⟨(F33 Ua code).1.b,r3⟩ (lines1.length:Int)).1 (uu4:0<=(F48 ⟨(F33 Ua code).1.b,r3⟩ (lines1.length:Int)).1) (uu4:(F48 ⟨(F33 Ua code).1.b,r3⟩ (lines1.length:Int)).1<(lines1.length:Int)) (uu4:lines1.length<=1048576); have gv18:∀ q:Nat,((F68 lines1 (F48 ⟨(F33 Ua code).1.b,r3⟩ (lines1.length:Int)).1).getD q default).size<=1048576:=without_sz lines1 (F48 ⟨(F33 Ua code).1.b,r3⟩ (lines1.length:Int)).1 (uu4:∀ q:Nat,(lines1.getD q default).size<=1048576); kc48l (F33 Ua code).2 (F33 Ua code).1.b r4 7 uu4 uu4 uu4 uu4 uu4 (fun gv19=>have gv20:(F48 ⟨(F33 Ua code).1.b,r4⟩ 7).1<(7:Int):=uu29; ife (F48 ⟨(F33 Ua code).1.b,r4⟩ 7).1 0 (fun h21 _=>kc32l (F33 Ua code).2 (F33 Ua code).1.b (F48 ⟨(F33 Ua code).1.b,r4⟩ 7).2 uu4 uu4 uu4 uu4 uu4 uu4 uu4 (fun gv22 gv23=>ai (uu30:(((F32 ⟨(F33 Ua code).1.b,(F48 ⟨(F33 Ua code).1.b,r4⟩ 7).2⟩).1.size+Zn.size:Nat):Int)<=9223372036854775807) (ai (bokr 1 eStr ([Zn,Y0,Y3,((F32 ⟨(F33 Ua code).1.b,(F48 ⟨(F33 Ua code).1.b,r4⟩ 7).2⟩).1++Zn)]:List Za) fun _=>rfl) (kc67l (F33 Ua code).2 (F33 Ua code).1.b (F32 ⟨(F33 Ua code).1.b,(F48 ⟨(F33 Ua code).1.b,r4⟩ 7).2⟩).2 ([Zn,Y0,Y3,((F32 ⟨(F33 Ua code).1.b,(F48 ⟨(F33 Ua code).1.b,r4⟩ 7).2⟩).1++Zn)]:List Za) uu4 uu4 uu4 uu4 uu4 uu4 uu4 uu4 (fun gv24=>ai (uu30:(((out2++Zn).size+(F67 ⟨(F33 Ua code).1.b,(F32 ⟨(F33 Ua code).1.b,(F48 ⟨(F33 Ua code).1.b,r4⟩ 7).2⟩).2⟩ ([Zn,Y0,Y3,((F32 ⟨(F33 Ua code).1.b,(F48 ⟨(F33 Ua code).1.b,r4⟩ 7).2⟩).1++Zn)]:List Za)).1.size:Nat):Int)<=9223372036854775807) (bk21_0 Ua code lines r1 i0 m0 (F68 lines1 (F48 ⟨(F33 Ua code).1.b,r3⟩ (lines1.length:Int)).1) ((out2++Zn)++(F67 ⟨(F33 Ua code).1.b,(F32 ⟨(F33 Ua code).1.b,(F48 ⟨(F33 Ua code).1.b,r4⟩ 7).2⟩).2⟩ ([Zn,Y0,Y3,((F32 ⟨(F33 Ua code).1.b,(F48 ⟨(F33 Ua code).1.b,r4⟩ 7).2⟩).1++Zn)]:List Za)).1) (F67 ⟨(F33 Ua code).1.b,(F32 ⟨(F33 Ua code).1.b,(F48 ⟨(F33 Ua code).1.b,r4⟩ 7).2⟩).2⟩ ([Zn,Y0,Y3,((F32 ⟨(F33 Ua code).1.b,(F48 ⟨(F33 Ua code).1.b,r4⟩ 7).2⟩).1++Zn)]:List Za)).2 hl0 (runL_next hI0 (condT h9 (finD hJ4_16 (condT h21 rfl)))) uu87)))))) (fun h21 _=>bk21_0 Ua code lines r1 i0 m0 (F68 lines1 (F48 ⟨(F33 Ua code).1.b,r3⟩ (lines1.length:Int)).1) (out2++Zn) (F48 ⟨(F33 Ua code).1.b,r4⟩ 7).2 hl0 (runL_next hI0 (condT h9 (finD hJ4_16 (condF h21 rfl)))) uu87))))))) j.1 j.2 hj.1 hj.2))))) (fun h9 _=>have hD0_25:lX21_0 Ua code lines r1=Lp.done (lines1,out1,r3):=runL_done hI0 (condF h9 rfl); jn21_1 Ua code lines r1 out1 r3 (S5 (finD hD0_25 rfl)) uu61)) (i0.1-1) i0.2.1 i0.2.2.1 i0.2.2.2 (un21_0 Ua code lines r1 i0 hi0))) (fun (j:Za×Int) (hj:jJ21_1 Ua code lines r1 j)=>(fun (out:Za) (r2:Int) (hJ1_26:(F21_j1 Ua code lines r1)=Lp.done (out,r2)) (hw:jI21_1 Ua code lines r1 out r2)=>have _:=hw.1; have _:=hw.2.1; have _:=hw.2.2; kc48l (F33 Ua code).2 (F33 Ua code).1.b r2 30 uu4 uu4 uu4 uu4 uu4 (fun gv27=>have gv28:(F48 ⟨(F33 Ua code).1.b,r2⟩ 30).1<(30:Int):=uu29; ife (F48 ⟨(F33 Ua code).1.b,r2⟩ 30).1 0 (fun h29 _=>kc48l (F33 Ua code).2 (F33 Ua code).1.b (F48 ⟨(F33 Ua code).1.b,r2⟩ 30).2 20 uu4 uu4 uu4 uu4 uu4 (fun gv30=>have gv31:(F48 ⟨(F33 Ua code).1.b,(F48 ⟨(F33 Ua code).1.b,r2⟩ 30).2⟩ 20).1<(20:Int):=uu29; ai (iok (70+(F48 ⟨(F33 Ua code).1.b,(F48 ⟨(F33 Ua code).1.b,r2⟩ 30).2⟩ 20).1) uu2) (ai (ai (uu4:(Zn.size:Int)=1) (uu4:(70+(F48 ⟨(F33 Ua code).1.b,(F48 ⟨(F33 Ua code).1.b,r2⟩ 30).2⟩ 20).1)<=5000)) (ai (Imp.refl (.v (.string Zn))) (ai (Imp.refl (.v (vI (70+(F48 ⟨(F33 Ua code).1.b,(F48 ⟨(F33 Ua code).1.b,r2⟩ 30).2⟩ 20).1)))) (have gv32:(F69 Zn (70+(F48 ⟨(F33 Ua code).1.b,(F48 ⟨(F33 Ua code).1.b,r2⟩ 30).2⟩ 20).1)).size<=6000:=many_q Zn (70+(F48 ⟨(F33 Ua code).1.b,(F48 ⟨(F33 Ua code).1.b,r2⟩ 30).2⟩ 20).1) (uu4:(Zn.size:Int)=1) (uu4:(70+(F48 ⟨(F33 Ua code).1.b,(F48 ⟨(F33 Ua code).1.b,r2⟩ 30).2⟩ 20).1)<=5000); ai (uu30:((out.size+(F69 Zn (70+(F48 ⟨(F33 Ua code).1.b,(F48 ⟨(F33 Ua code).1.b,r2⟩ 30).2⟩ 20).1)).size:Nat):Int)<=9223372036854775807) (fiS (out++(F69 Zn (70+(F48 ⟨(F33 Ua code).1.b,(F48 ⟨(F33 Ua code).1.b,r2⟩ 30).2⟩ 20).1))) (F21 Ua code) (finD hJ0_7 (finD hJ1_26 (condT h29 rfl)))))))))) (fun h29 _=>ife (F48 ⟨(F33 Ua code).1.b,r2⟩ 30).1 1 (fun h33 _=>ai (iok (4000-(out.size:Int)) uu2) (kc48l (F33 Ua code).2 (F33 Ua code).1.b (F48 ⟨(F33 Ua code).1.b,r2⟩ 30).2 2 uu4 uu4 uu4 uu4 uu4 (fun gv34=>have gv35:(F48 ⟨(F33 Ua code).1.b,(F48 ⟨(F33 Ua code).1.b,r2⟩ 30).2⟩ 2).1<(2:Int):=uu29; ai (iok ((4000-(out.size:Int))+(F48 ⟨(F33 Ua code).1.b,(F48 ⟨(F33 Ua code).1.b,r2⟩ 30).2⟩ 2).1) uu2) (ai (ai (uu4:(Zd.size:Int)=1) (uu4:((4000-(out.size:Int))+(F48 ⟨(F33 Ua code).1.b,(F48 ⟨(F33 Ua code).1.b,r2⟩ 30).2⟩ 2).1)<=5000)) (ai (Imp.refl (.v (.string Zd))) (ai (Imp.refl (.v (vI ((4000-(out.size:Int))+(F48 ⟨(F33 Ua code).1.b,(F48 ⟨(F33 Ua code).1.b,r2⟩ 30).2⟩ 2).1)))) (have gv36:(F69 Zd ((4000-(out.size:Int))+(F48 ⟨(F33 Ua code).1.b,(F48 ⟨(F33 Ua code).1.b,r2⟩ 30).2⟩ 2).1)).size<=6000:=many_q Zd ((4000-(out.size:Int))+(F48 ⟨(F33 Ua code).1.b,(F48 ⟨(F33 Ua code).1.b,r2⟩ 30).2⟩ 2).1) (uu4:(Zd.size:Int)=1) (uu4:((4000-(out.size:Int))+(F48 ⟨(F33 Ua code).1.b,(F48 ⟨(F33 Ua code).1.b,r2⟩ 30).2⟩ 2).1)<=5000); ai (uu30:((out.size+(F69 Zd ((4000-(out.size:Int))+(F48 ⟨(F33 Ua code).1.b,(F48 ⟨(F33 Ua code).1.b,r2⟩ 30).2⟩ 2).1)).size:Nat):Int)<=9223372036854775807) (fiS (out++(F69 Zd ((4000-(out.size:Int))+(F48 ⟨(F33 Ua code).1.b,(F48 ⟨(F33 Ua code).1.b,r2⟩ 30).2⟩ 2).1))) (F21 Ua code) (finD hJ0_7 (finD hJ1_26 (condF h29 (condT h33 rfl)))))))))))) (fun h33 _=>ife (F48 ⟨(F33 Ua code).1.b,r2⟩ 30).1 2 (fun h37 _=>ifd ((out.size:Int)>0) (fun h38 _=>ai (iok ((out.size:Int)-1) uu2) (ai (uu2:0<=(0:Int)/\(0:Int)<=((out.size:Int)-1)/\((out.size:Int)-1)<=(out.size:Int)) (fiS (out.extract (0:Int).toNat ((out.size:Int)-1).toNat) (F21 Ua code) (finD hJ0_7 (finD hJ1_26 (condF h29 (condF h33 (condT h37 (condT h38 rfl))))))))) (fun h38 _=>fiS out (F21 Ua code) (finD hJ0_7 (finD hJ1_26 (condF h29 (condF h33 (condT h37 (condF h38 rfl)))))))) (fun h37 _=>fiS out (F21 Ua code) (finD hJ0_7 (finD hJ1_26 (condF h29 (condF h33 (condF h37 rfl)))))))))) j.1 j.2 hj.1 hj.2)) j.1 j.2 hj.1 hj.2)))))))) uu3
theorem dparse_j4 (Ua:SV) (code:List Int) (lines:List Za) (r1:Int) (lines1:List Za) (out1:Za) (r3:Int) (hq:LQ lines1):∃ o r4,F21_j4 Ua code lines r1 lines1 out1 r3=Lp.done (o,r4)/\o.size<=out1.size+980/\r3<=r4/\r4<=r3+3:=by
 unfold F21_j4
 have hg:=lq_get hq (F48 (⟨(F33 Ua code).1.b,r3⟩:l51Rd) (lines1.length:Int)).1.toNat
 cases ((F48 (⟨(F33 Ua code).1.b,(F48 (⟨(F33 Ua code).1.b,r3⟩:l51Rd) (lines1.length:Int)).2⟩:l51Rd) 6).1==0)
 ·refine ⟨_,_,rfl,?_,?_,?_⟩
  ·rw [Q9]; omega
  ·simp only [pick_p]; omega
  ·simp only [pick_p]; omega
 ·refine ⟨_,_,rfl,?_,?_,?_⟩
  ·rw [Q9,Q9]
   refine Q0 (Ss (of_le (n:=80) _ _ uu1) _) ?_
   omega
  ·simp only [pick_p,of_p]; omega
  ·simp only [pick_p,of_p]; omega
theorem dparse_step (Ua:SV) (code:List Int) (lines:List Za) (r1:Int) (lines1:List Za) (out1:Za) (r3:Int) (hl:0<lines1.length) (hq:LQ lines1) :
  ∃ out' r',F21_s0 Ua code lines r1 (lines1,out1,r3)=Lp.next (F68 lines1 (F48 (⟨(F33 Ua code).1.b,r3⟩:l51Rd) (lines1.length:Int)).1,out',r')/\out'.size<=out1.size+9000/\r3<=r'/\r'<=r3+30:=by
 obtain ⟨o,r4,e,h1,h2,h3⟩:=dparse_j4 Ua code lines r1 lines1 out1 r3 hq
 simp only [F21_s0]
 rw [Qs (show (lines1.length:Int)>0 by omega),Qc,e]
 simp only [Lp.fin]
 cases ((F48 (⟨(F33 Ua code).1.b,r4⟩:l51Rd) 7).1==0)
 ·refine ⟨_,_,rfl,?_,?_,?_⟩
  ·rw [Q9,szL]; omega
  ·simp only [pick_p]; omega
  ·simp only [pick_p]; omega
 ·have hr:=raw_p (⟨(F33 Ua code).1.b,(F48 (⟨(F33 Ua code).1.b,r4⟩:l51Rd) 7).2⟩:l51Rd)
  simp only [pick_p] at hr
  refine ⟨_,_,rfl,?_,?_,?_⟩
  ·rw [Q9,Q9,szL]
   refine Q0 (Ss (of_le (n:=4000) _ _ (list4 _ (raw_all _))) _) ?_
   omega
  ·simp only [pick_p,of_p] at *; omega
  ·simp only [pick_p,of_p] at *; omega
theorem dparse_loop (Ua:SV) (code:List Int) (lines:List Za) (r1:Int):∀ (n:Nat) (fuel:Nat) (lines1:List Za) (out1:Za) (r3:Int),n<fuel->lines1.length=n->LQ lines1->(out1.size:Int)+9000*(n:Int)<=160000->0<=r3->r3+30*(n:Int)<=1600 ->
  ∃ xs out r2,runL (F21_s0 Ua code lines r1) fuel (lines1,out1,r3)=Lp.done (xs,out,r2)/\out.size<=160000/\0<=r2/\r2<=1600:=by
 intro n
 induction n with
 | zero =>
  intro fuel lines1 out1 r3 hf hn _ ho h0 h1
  obtain ⟨fuel,rfl⟩:∃ k,fuel=k+1:=⟨fuel-1,by omega⟩
  have st:F21_s0 Ua code lines r1 (lines1,out1,r3)=Lp.done (lines1,out1,r3):=by
   simp only [F21_s0]
   rw [Qq (show ¬ (lines1.length:Int)>0 by omega),Qb]
  exact ⟨_,_,_,runL_d _ st,by omega,by omega,by omega⟩
 | succ n ih =>
  intro fuel lines1 out1 r3 hf hn hq ho h0 h1
  obtain ⟨fuel,rfl⟩:∃ k,fuel=k+1:=⟨fuel-1,by omega⟩
  obtain ⟨out',r',e,q1,q2,q3⟩:=dparse_step Ua code lines r1 lines1 out1 r3 uu0 hq
  rw [runL_n _ e]
  have hk:=pick_in (⟨(F33 Ua code).1.b,r3⟩:l51Rd) (lines1.length:Int) h0 (by show r3<=_; omega)
  have hk2:=hk.2.1 uu0
  have hlen:=without_len lines1 (F48 (⟨(F33 Ua code).1.b,r3⟩:l51Rd) (lines1.length:Int)).1 hk.1 hk2 (by have:=hq.1; omega)
  exact ih fuel _ out' r' uu0 uu0 (without_lq hq hk.1 hk2) uu0 uu0 uu0
theorem dparse_j0 (Ua:SV) (code:List Int):∃ lines r1,F21_j0 Ua code=Lp.done (lines,r1)/\LQ lines/\0<=r1/\r1<=1000:=by
 obtain ⟨b0,p0⟩:=open_b Ua code
 unfold F21_j0
 generalize (F33 Ua code).1.b=B at *
 generalize (F33 Ua code).1.p=P at *
 obtain ⟨c1,c2,c3⟩:=conf_q (⟨B,P⟩:l51Rd) (by show 0<=P; omega) (by show P<=_; omega)
 have c3:(F51 (⟨B,P⟩:l51Rd)).2<=P+400:=c3
 generalize hC:F51 (⟨B,P⟩:l51Rd)=C at *
 cases ((F48 (⟨B,C.2⟩:l51Rd) 4).1==0)
 ·exact ⟨_,_,rfl,cq_lq c1,by simp only [pick_p]; omega,by simp only [pick_p]; omega⟩
 ·have hp:(F48 (⟨B,C.2⟩:l51Rd) 4).2=C.2+1:=pick_p _ _
  obtain ⟨d1,d2,d3⟩:=neat_q (⟨B,(F48 (⟨B,C.2⟩:l51Rd) 4).2⟩:l51Rd) (by show 0<=(F48 (⟨B,C.2⟩:l51Rd) 4).2; omega) (by show (F48 (⟨B,C.2⟩:l51Rd) 4).2<=_; omega)
  have d3:(F50 (⟨B,(F48 (⟨B,C.2⟩:l51Rd) 4).2⟩:l51Rd)).2<=(F48 (⟨B,C.2⟩:l51Rd) 4).2+450:=d3
  exact ⟨_,_,rfl,d1,d2,by omega⟩
theorem drawParse_q (Ua:SV) (code:List Int):(F21 Ua code).size<=170000:=by
 obtain ⟨lines,r1,e0,q0,q1,q2⟩:=dparse_j0 Ua code
 have hl:=q0.1
 obtain ⟨xs,out,r2,e1,h1,p1,p2⟩:=dparse_loop Ua code lines r1 lines.length (Int.toNat ((lines.length:Int)-0)+1) lines Zf r1 uu0 rfl q0 (by show ((0:Nat):Int)+_<=_; omega) q1 uu0
 have ej:F21_j1 Ua code lines r1=Lp.done (out,r2):=by
  unfold F21_j1
  rw [e1]; rfl
 unfold F21
 rw [e0]
 simp only [Lp.fin]
 rw [ej]
 simp only [Lp.fin]
 have hk:∀ n:Int,1<=n->(F48 (⟨(F33 Ua code).1.b,(F48 (⟨(F33 Ua code).1.b,r2⟩:l51Rd) 30).2⟩:l51Rd) n).1<n:=fun n hn=>by
  refine (pick_in (⟨(F33 Ua code).1.b,(F48 (⟨(F33 Ua code).1.b,r2⟩:l51Rd) 30).2⟩:l51Rd) n ?_ ?_).2.1 hn <;> (simp only [pick_p]; omega)
 have hk20:=hk 20 uu1
 have hk2:=hk 2 uu1
 have hm:∀ (s:Za) (n:Int),(s.size:Int)=1->n<=5000->(out++F69 s n).size<=170000:=fun s n a b=>by
  have:=many_q s n a b
  rw [Q9]; omega
 repeat' apply cond_P (P:=fun z:Za=>z.size<=170000)
 all_goals first
  | omega
  | (rw [T8]; omega)
  | (refine hm _ _ rfl ?_; omega)
theorem splitL_snoc (c:UInt8) {B:List UInt8} (hB:c ∉ B):∀ A:List UInt8,splitL c (A++c :: B)=splitL c A++[B]
 | []=>by
  rw [R0]
  have:=splitL_app B (c:=c) (a:=[]) Rl
  rw [R0] at this
  rw [this,splitL_none hB]; rfl
 | b :: A=>by
  rw [Sv,splitL,splitL,splitL_snoc c hB A]
  by_cases hb:b=c
  ·rw [if_pos hb,if_pos hb]; rfl
  ·rw [if_neg hb,if_neg hb]
   cases hs:splitL c A with
   | nil=>exact absurd hs (splitL_neQ c A)
   | cons w ws=>rfl
theorem split_len (c:UInt8):∀ (l q0:List UInt8) (rest:List (List UInt8)),splitL c l=q0 :: rest->l.length=q0.length+(rest.flatMap fun x=>x++[10]).length
 | [],q0,rest,h=>by rw [splitL] at h; cases h; rfl
 | b :: l,q0,rest,h=>by
  rw [splitL] at h
  cases hs:splitL c l with
  | nil=>exact absurd hs (splitL_neQ c l)
  | cons w ws =>
   have ih:=split_len c l w ws hs
   rw [hs] at h
   by_cases hb:b=c
   ·rw [if_pos hb] at h
    cases h
    rw [Tf,Qu,Qu,Qx,ih]
    simp only [Rs,Sd]; omega
   ·rw [if_neg hb] at h
    cases h
    rw [Qx,Qx,ih]; omega
def neE (x:List UInt8):Bool:=!x.isEmpty
def turnP:List (List UInt8)->List UInt8
 | []=>[]
 | q0 :: rest=>((rest.reverse.filter neE).flatMap fun x=>x++[10])++q0
theorem turnP_snoc {Q:List (List UInt8)} (hQ:Q≠[]) (B:List UInt8):turnP (Q++[B])=(bif neE B then B++[10] else [])++turnP Q:=by
 cases Q with
 | nil=>exact absurd rfl hQ
 | cons q0 rest =>
  rw [Sv,turnP,turnP,List.reverse_append,List.reverse_singleton,Tw]
  cases h:neE B with
  | true=>rw [R6 h,Tf,Qc]; simp only [Q1]
  | false=>rw [Ru uu23,Qb]; rfl
theorem ext_data (s:Za) (i j:Nat):(s.extract i j).data.toList=(s.data.toList.take j).drop i:=by
 rw [T9,Gt]
 simp only [Te,List.drop_take]
theorem turn_loop (s:Za):∀ (i e:Nat) (out:Za),i<=e->e<=s.data.toList.length->(10:UInt8) ∉ (s.data.toList.take e).drop i->∀ fuel,i<fuel ->
  ((runL (F23_s0 s) fuel (out,(e:Int),(i:Int))).fin (fun r=>r) (fun (out,end',i40)=>(out++(s.extract (0:Int).toNat end'.toNat)))).data.toList=out.data.toList++turnP (splitL 10 (s.data.toList.take e))
 | _,_,_,_,_,_,0,hf=>absurd hf (R5 _)
 | 0,e,out,_,_,hn,fuel+1,_=>by
  have st:F23_s0 s (out,(e:Int),((0:Nat):Int))=.done (out,(e:Int),((0:Nat):Int)):=rfl
  rw [runL_d _ st]
  rw [Ro] at hn
  rw [splitL_none hn]
  show (out++s.extract 0 (e:Int).toNat).data.toList=_
  rw [Rr,Ti,Tr,ext_data]; rfl
 | i+1,e,out,hi,he,hn,fuel+1,hf=>by
  have hlt:i<s.data.toList.length:=by omega
  have hci:s.data.getD (((i+1:Nat):Int)-1).toNat 0=s.data.toList[i]:=by
   rw [show Int.toNat (((i+1:Nat):Int)-1)=i by omega,Sq,<- Th,Qj hlt]; rfl
  have hd1:(s.data.toList.take e).drop i=s.data.toList[i] :: (s.data.toList.take e).drop (i+1):=by
   rw [Rd (by rw [Rm]; omega),List.getElem_take]
  by_cases hc:s.data.toList[i]=10
  ·have hsp:s.data.toList.take e=s.data.toList.take i++10 :: (s.data.toList.take e).drop (i+1):=by
    have:=Rx i (s.data.toList.take e)
    rw [hd1,hc,Gv,Tj uu0] at this
    exact this.symm
   rw [hsp,splitL_snoc 10 hn,turnP_snoc (splitL_neQ _ _)]
   have hnn:(10:UInt8) ∉ (s.data.toList.take i).drop i:=by rw [Q3 (by rw [Rm]; omega)]; exact Rl
   by_cases hie:i+1<e
   ·have st:F23_s0 s (out,(e:Int),((i+1:Nat):Int))=.next ((out++s.extract (i+1) e)++Zn,(i:Int),(i:Int)):=by
     simp only [F23_s0]
     rw [Qs (show ((i+1:Nat):Int)>0 by omega),Qc,hci,hc,Qs (show ((i+1:Nat):Int)<(e:Int) by omega),show ((i+1:Nat):Int)-1=(i:Int) by omega]
     rfl
    rw [runL_n _ st,turn_loop s i i _ (Qn _) uu0 hnn fuel uu0]
    have hne:neE ((s.data.toList.take e).drop (i+1))=true:=by
     unfold neE
     have:((s.data.toList.take e).drop (i+1)).length≠0:=by rw [Tl,Rm]; omega
     cases h:(s.data.toList.take e).drop (i+1) with
     | nil=>rw [h] at this; exact absurd rfl this
     | cons x xs=>rfl
    rw [hne,Qc,Ti,Tr,Ti,Tr,ext_data]
    simp only [Q1]
   ·have hee:e=i+1:=by omega
    subst hee
    have st:F23_s0 s (out,((i+1:Nat):Int),((i+1:Nat):Int))=.next (out,(i:Int),(i:Int)):=by
     simp only [F23_s0]
     rw [Qs (show ((i+1:Nat):Int)>0 by omega),Qc,hci,hc,Qq (show ¬ ((i+1:Nat):Int)<((i+1:Nat):Int) by omega),show ((i+1:Nat):Int)-1=(i:Int) by omega]
     rfl
    rw [runL_n _ st,turn_loop s i i out (Qn _) uu0 hnn fuel uu0]
    have hne:(s.data.toList.take (i+1)).drop (i+1)=[]:=Q3 (by rw [Rm]; omega)
    rw [hne]; rfl
  ·have hb:(((s.data.getD (((i+1:Nat):Int)-1).toNat 0).toNat:Int)==10)=false:=by
    rw [hci,Qw]
    intro h
    exact hc (UInt8.toNat_inj.1 (by show s.data.toList[i].toNat=10; omega))
   have st:F23_s0 s (out,(e:Int),((i+1:Nat):Int))=.next (out,(e:Int),(i:Int)):=by
    simp only [F23_s0]
    rw [Qs (show ((i+1:Nat):Int)>0 by omega),Qc,hb,show ((i+1:Nat):Int)-1=(i:Int) by omega]
    rfl
   rw [runL_n _ st]
   exact turn_loop s i e out uu0 he (by
    rw [hd1]
    intro hm
    rcases Qt.1 hm with h | h
    ·exact hc h.symm
    ·exact hn h) fuel uu0
theorem turn_eq (s:Za):(F23 s).data.toList=turnP (splitL 10 s.data.toList):=by
 unfold F23
 have hl:s.data.toList.length=s.size:=Q5
 have h:=turn_loop s s.size s.size Zf (Qn _) uu0 (by rw [Q3 (by rw [Rm]; omega)]; exact Rl) (Int.toNat ((s.size:Int)-0)+1) uu0
 rw [Sp uu0] at h
 exact h
theorem split_flat2 {q:List UInt8} (hq:(10:UInt8) ∉ q):∀ xs:List (List UInt8),(∀ x∈xs,(10:UInt8) ∉ x)->splitL 10 ((xs.flatMap fun x=>x++[10])++q)=xs++[q]
 | [],_=>splitL_none hq
 | x :: xs,h=>by
  rw [Tf,Q1,Q1,Tw,splitL_app _ (h x Qi),split_flat2 hq xs fun y hy=>h y (Qg _ hy)]; rfl
def dropE (Q:List (List UInt8)):List (List UInt8):=bif (Q.getD (Q.length-1) []).isEmpty then Q.take (Q.length-1) else Q
theorem pieces_L (text:Za):F70 text=(dropE (splitL 10 text.data.toList)).map mkB:=by
 rw [pieces_eq,splitS_mk]
 unfold dropE
 rw [Sg,isE]
 have e:(((splitL 10 text.data.toList).map mkB).getD ((splitL 10 text.data.toList).length-1) default).data.toList=(splitL 10 text.data.toList).getD ((splitL 10 text.data.toList).length-1) []:=by
  have hne:=splitL_neQ 10 text.data.toList
  have hp:0<(splitL 10 text.data.toList).length:=List.length_pos_iff.2 hne
  rw [Qe,Tp,Qj uu0,Qe,Qj uu0]; rfl
 rw [e]
 cases ((splitL 10 text.data.toList).getD ((splitL 10 text.data.toList).length-1) []).isEmpty
 ·rfl
 ·rw [Qc,Qc,List.map_take]
def FB (r:List Za):List Za:=r.filter fun c=>!(blk c)
theorem blk_e:blk (mkB [])=true:=by kernel_rfl
theorem dropE_cases (Q:List (List UInt8)) (hQ:Q≠[]):(dropE Q=Q/\Q.getD (Q.length-1) []≠[])\/Q=dropE Q++[[]]:=by
 unfold dropE
 cases h:(Q.getD (Q.length-1) []).isEmpty with
 | false=>exact .inl ⟨rfl,fun e=>by rw [e] at h; cases h⟩
 | true =>
  refine .inr ?_
  rw [Qc]
  have hp:0<Q.length:=List.length_pos_iff.2 hQ
  have h0:=List.isEmpty_iff.1 h
  rw [Qe,Qj uu0] at h0
  have h0:Q[Q.length-1]'uu0=[]:=h0
  have:=Rx (Q.length-1) Q
  rw [Rd uu0,h0,Q3 uu0] at this
  exact this.symm
theorem FB_drop (Q:List (List UInt8)) (hQ:Q≠[]):FB ((dropE Q).map mkB)=FB (Q.map mkB):=by
 rcases dropE_cases Q hQ with ⟨h,_⟩ | h
 ·rw [h]
 ·conv=>rhs; rw [h]
  unfold FB
  rw [T4,Tk,Rc,Hd,Ru (by rw [blk_e]; decide)]
  simp
theorem FB_ne (Q:List (List UInt8)):FB ((Q.filter neE).map mkB)=FB (Q.map mkB):=by
 induction Q with
 | nil=>rfl
 | cons q Q ih =>
  cases h:neE q with
  | true =>
   rw [R6 h,Rc,Rc]
   unfold FB at ih ⊢
   rw [Gx,Gx,ih]
  | false =>
   have hq:q=[]:=by unfold neE at h; cases q with
    | nil=>rfl
    | cons x xs=>cases h
   rw [Ru uu23,ih,hq,Rc]
   unfold FB
   rw [Ru (by rw [blk_e]; decide)]
theorem turn_pieces (s:Za):(FB (F70 (F23 s))).Perm (FB (F70 s))/\(F70 (F23 s)).length<=(F70 s).length/\(F23 s).size<=s.size:=by
 have ht:=turn_eq s
 have hne:=splitL_neQ 10 s.data.toList
 have hno:=splitL_no 10 s.data.toList
 rw [pieces_L,pieces_L,ht]
 cases hs:splitL 10 s.data.toList with
 | nil=>exact absurd hs hne
 | cons q0 rest =>
  have hlen:=split_len 10 s.data.toList q0 rest hs
  rw [hs] at hno ht
  have hrn:∀ x∈rest.reverse.filter neE,(10:UInt8) ∉ x:=fun x hx=>hno x (Qg _ (List.mem_reverse.1 (Sz.1 hx).1))
  have hsp:splitL 10 (turnP (q0 :: rest))=rest.reverse.filter neE++[q0]:=split_flat2 (hno q0 Qi) _ hrn
  rw [hsp]
  refine ⟨?_,?_,?_⟩
  ·rw [FB_drop _ uu14,FB_drop _ uu14]
   have e1:FB ((rest.reverse.filter neE++[q0]).map mkB)=FB ((rest.reverse++[q0]).map mkB):=by
    have h1:=FB_ne rest.reverse
    unfold FB at h1 ⊢
    rw [T4,T4,Tk,Tk,h1]
   rw [e1]
   refine List.Perm.filter _ (List.Perm.map _ ?_)
   rw [<- List.reverse_cons]
   exact List.reverse_perm _
  ·rw [Sg,Sg]
   have hf:(rest.reverse.filter neE).length<=rest.length:=by
    have:=List.length_filter_le neE rest.reverse
    rw [List.length_reverse] at this; exact this
   rcases dropE_cases (q0 :: rest) uu14 with ⟨h1,h2⟩ | h1
   ·rw [h1,Qx]
    rcases dropE_cases (rest.reverse.filter neE++[q0]) uu14 with ⟨k1,_⟩ | k1
    ·rw [k1,Qu,Sd]; omega
    ·have:=Qh List.length k1
     rw [Qu,Qu] at this
     simp only [Sd] at this
     omega
   ·have hl1:=Qh List.length h1
    rw [Qx,Qu,Sd] at hl1
    cases hr:rest with
    | nil =>
     rw [hr] at h1 hl1
     have h0:dropE [q0]=[]:=R3 (by simpa using hl1)
     rw [h0] at h1
     have hq0:q0=[]:=by simpa using h1
     rw [hq0]; exact Qn _
    | cons x xs =>
     have hlast:∃ R,rest=R++[[]]:=by
      rw [hr] at h1
      cases hd:dropE (q0 :: x :: xs) with
      | nil=>rw [hd] at h1; simp at h1
      | cons y ys =>
       rw [hd,Sv] at h1
       rw [hr]
       exact ⟨ys,(List.cons.inj h1).2⟩
     obtain ⟨R,hR⟩:=hlast
     have hfl:(rest.reverse.filter neE).length<=R.length:=by
      rw [hR,List.reverse_append,List.reverse_singleton,Tw,Ru uu1]
      have:=List.length_filter_le neE R.reverse
      rw [List.length_reverse] at this; exact this
     have hRl:rest.length=R.length+1:=by rw [hR,Qu,Sd]
     rw [<- hr]
     have hle:(dropE (rest.reverse.filter neE++[q0])).length<=(rest.reverse.filter neE).length+1:=by
      rcases dropE_cases (rest.reverse.filter neE++[q0]) uu14 with ⟨k1,_⟩ | k1
      ·rw [k1,Qu,Sd]; exact Qn _
      ·have:=Qh List.length k1
       rw [Qu,Qu] at this
       simp only [Sd] at this
       omega
     omega
  ·have hl:s.data.toList.length=s.size:=Q5
   have hl2:(F23 s).data.toList.length=(F23 s).size:=Q5
   rw [<- hl,<- hl2,ht,hlen,turnP,Qu]
   have key:∀ xs:List (List UInt8),((xs.filter neE).flatMap fun x=>x++[(10:UInt8)]).length<=(xs.flatMap fun x=>x++[(10:UInt8)]).length:=by
    intro xs
    induction xs with
    | nil=>exact Qn _
    | cons x xs ih =>
     cases h:neE x with
     | true=>rw [R6 h,Tf,Tf]; simp only [Qu]; omega
     | false=>rw [Ru uu23,Tf]; simp only [Qu]; omega
   have h1:=key rest.reverse
   have h2:(rest.reverse.flatMap fun x=>x++[(10:UInt8)]).length=(rest.flatMap fun x=>x++[(10:UInt8)]).length:=(List.Perm.flatMap_right _ (List.reverse_perm rest)).length_eq
   omega
theorem parse_turn (s:Za) (h:(F22 s).2.Code=0):F22 (F23 s)=((F22 s).1,⟨0,0⟩):=by
 obtain ⟨k1,k2,k3,k4,k5,k6,k7,k8⟩:=parse_to s h
 obtain ⟨t1,t2,t3⟩:=turn_pieces s
 have hL:(LN (F70 (F23 s))).Perm (LN (F70 s)):=t1.map _
 refine parse_of _ _ uu0 uu0 (fun c hc hb=>?_) ((hL.map _).nodup_iff.2 k4) (by rw [hL.length_eq]; exact k5) k6 (fun z=>by rw [k7 z,hL.mem_iff]) k8
 have hm:c∈FB (F70 (F23 s)):=Sz.2 ⟨hc,by rw [hb]; rfl⟩
 have:=(Sz.1 (t1.subset hm)).1
 exact k3 c this hb
theorem turn_szP (Ua:SV) (code:List Int):(F23 (F21 Ua code)).size<=1048576:=Q0 (turn_pieces _).2.2 (Q0 (drawParse_q _ _) uu1)
theorem print_szI (lines:List Za):(F16 lines).size<=1048576:=by
 rw [print_same]
 by_cases h:F19 lines=0
 ·have na:=check_neat0 lines h
  have hl:=(nt_facts lines na).1
  have:=flat_len lines (neat_200 lines na)
  rw [<- print_data lines h,Q5] at this
  have e:(F17 lines).data.size=(F17 lines).size:=rfl
  omega
 ·unfold F17
  rw [show (F19 lines != 0)=true from G1.2 h,Qc]
  exact Re _
theorem parseI_sz (text:Za):∀ k:Nat,((F20 text).1.getD k default).size<=1048576:=by
 rw [show F20 text=F22 text from parse_same text]
 by_cases h:(F22 text).2.Code=0
 ·have na:=check_neat0 _ (parse_to text h).2.2.2.2.2.2.2
  exact fun k=>Q0 (getD_sz (neat_200 _ na) k) uu1
 ·rw [parse_bad _ h]; exact sz_nil
theorem kc16 (lines:List Za) {K_:Prop} (p0_:lines.length<=1048576) (p1_:∀ k:Nat,(lines.getD k default).size<=1048576) (k_:K_):(lines.length<=1048576/\(∀ k:Nat,(lines.getD k default).size<=1048576))/\(Imp (.l 1 eStr lines) (.l 1 eStr lines))/\K_:=⟨⟨p0_,p1_⟩,Imp.refl _,k_⟩
abbrev kh16 (lines:List Za):Hint false Tryz.prog:=.call 16 (S16 lines) (ok16 lines) none
theorem kc17 (lines:List Za) {K_:Prop} (p0_:lines.length<=1048576) (p1_:∀ k:Nat,(lines.getD k default).size<=1048576) (k_:K_):(lines.length<=1048576/\(∀ k:Nat,(lines.getD k default).size<=1048576))/\(Imp (.l 1 eStr lines) (.l 1 eStr lines))/\K_:=⟨⟨p0_,p1_⟩,Imp.refl _,k_⟩
abbrev kh17f (lines:List Za):Hint false Tryz.prog:=.call 17 (S17 lines) ((ok17 lines).to false) none
theorem kg18 {K_:Prop} (c_ b_:Bool) (lines:List Za) (p_:c_=b_->lines.length<=1048576/\(∀ k:Nat,(lines.getD k default).size<=1048576)) (k_:K_):(c_=b_->lines.length<=1048576/\(∀ k:Nat,(lines.getD k default).size<=1048576))/\(c_=b_->Imp (.l 1 eStr lines) (.l 1 eStr lines))/\K_:=⟨p_,fun _=>Imp.refl _,k_⟩
theorem kc20 (text:Za) {K_:Prop} (p0_:text.size<=1048576) (k_:K_):(text.size<=1048576)/\(Imp (.v (.string text)) (.v (.string text)))/\K_:=⟨p0_,Imp.refl _,k_⟩
abbrev kh20 (text:Za):Hint false Tryz.prog:=.call 20 (S20 text) (ok20 text) none
theorem neqT36 (x0 y0:Int) (x1 y1:Int) (p q:Operand) (w:World):(do eqGuard .neq 36 p q (.agg #[.int .i64 x0,.int .i64 x1]) (.agg #[.int .i64 y0,.int .i64 y1]); binOp .neq 36 (.agg #[.int .i64 x0,.int .i64 x1]) (.agg #[.int .i64 y0,.int .i64 y1])).run Tryz.prog w=.ok (.bool (!((x0==y0)&&(x1==y1)))) w:=by
 by_cases h0:x0=y0
 case neg=>simp [go_sem,h0]
 by_cases h1:x1=y1
 case neg=>simp [go_sem,h0,h1]
 simp [go_sem,h0,h1]
theorem kc22 (text:Za) {K_:Prop} (p0_:text.size<=1048576) (k_:K_):(text.size<=1048576)/\(Imp (.v (.string text)) (.v (.string text)))/\K_:=⟨p0_,Imp.refl _,k_⟩
abbrev kh22f (text:Za):Hint false Tryz.prog:=.call 22 (S22 text) ((ok22 text).to false) none
theorem kc23 (s:Za) {K_:Prop} (p0_:s.size<=1048576) (k_:K_):(s.size<=1048576)/\(Imp (.v (.string s)) (.v (.string s)))/\K_:=⟨p0_,Imp.refl _,k_⟩
abbrev kh23f (s:Za):Hint false Tryz.prog:=.call 23 (S23 s) ((ok23 s).to false) none
def F4 (Ua:SV) (moreX:SV) (code:List Int) (more:List Int):Bool :=
 bif (bif decide ((code.length:Int)>1048576) then true else decide ((more.length:Int)>1048576)) then true else (bif (bif (!((F16 (F15 Ua code)).toList==(F17 (F15 Ua code)).toList)) then true else ((F18 (F15 Ua code)) != (F19 (F15 Ua code)))) then false else (bif ((F19 (F15 Ua code))==0) then (bif (bif (!(((F20 (F16 (F15 Ua code))).2.Line==0)&&((F20 (F16 (F15 Ua code))).2.Code==0))) then true else (!(decide ((F20 (F16 (F15 Ua code))).1=(F15 Ua code))))) then false else (bif (bif (!(((F20 (F21 moreX more)).2.Line==(F22 (F21 moreX more)).2.Line)&&((F20 (F21 moreX more)).2.Code==(F22 (F21 moreX more)).2.Code))) then true else (!(decide ((F20 (F21 moreX more)).1=(F22 (F21 moreX more)).1)))) then false else (bif ((F20 (F21 moreX more)).2.Code != 0) then (((F20 (F21 moreX more)).1.length:Int)==0) else (bif (bif ((F18 (F20 (F21 moreX more)).1)==0) then ((F20 (F23 (F21 moreX more))).2.Code==0) else false) then (decide ((F20 (F23 (F21 moreX more))).1=(F20 (F21 moreX more)).1)) else false)))) else (bif (bif (!(((F20 (F21 moreX more)).2.Line==(F22 (F21 moreX more)).2.Line)&&((F20 (F21 moreX more)).2.Code==(F22 (F21 moreX more)).2.Code))) then true else (!(decide ((F20 (F21 moreX more)).1=(F22 (F21 moreX more)).1)))) then false else (bif ((F20 (F21 moreX more)).2.Code != 0) then (((F20 (F21 moreX more)).1.length:Int)==0) else (bif (bif ((F18 (F20 (F21 moreX more)).1)==0) then ((F20 (F23 (F21 moreX more))).2.Code==0) else false) then (decide ((F20 (F23 (F21 moreX more))).1=(F20 (F21 moreX more)).1)) else false)))))
def S4 (Ua:SV) (moreX:SV) (code:List Int) (more:List Int):Spec:=⟨[.vl (sv Ua) (.l 1 eByte code),.vl (sv moreX) (.l 1 eByte more)],.v (.bool (F4 Ua moreX code more)),True⟩
abbrev q4_1 (Ua:SV) (code:List Int):=(F20 (F16 (F15 Ua code)))
abbrev q4_2 (moreX:SV) (more:List Int):=(F20 (F23 (F21 moreX more)))
theorem ok4 (Ua:SV) (moreX:SV) (code:List Int) (more:List Int):(S4 Ua moreX code more).ok Tryz.prog 4 false :=
 fnG_ok mixed (fn:=Tryz.f4) (ct:=.seqk [(0,0),(1,0)] .no (.seq (.seq .no (.cond (.seq .no .no) .no)) (.seq (.reg [(1,.call 15 (S15 Ua code) ((ok15 Ua code).to false) none)]) (.seq (.reg [(1,kh16 (F15 Ua code))]) (.seq (.seq (.reg [(2,kh17f (F15 Ua code)),(6,kh18 (F15 Ua code)),(8,kh19f (F15 Ua code))]) (.cond (.seq .no .no) .no)) (.seq (.seq (.reg [(1,kh19f (F15 Ua code))]) (.cond (.seq (.reg [(1,kh20 (F16 (F15 Ua code)))]) (.seq (.reg [(2,.bin .neq 36 (.agg #[.int .i64 (q4_1 Ua code).2.Line,.int .i64 (q4_1 Ua code).2.Code]) (.agg #[.int .i64 0,.int .i64 0]) (.bool (!(((q4_1 Ua code).2.Line==0)&&((q4_1 Ua code).2.Code==0)))) rfl (neqT36 (q4_1 Ua code).2.Line 0 (q4_1 Ua code).2.Code 0)),(6,kh12af (q4_1 Ua code).1 (F15 Ua code))]) (.cond (.seq .no .no) .no))) .no)) (.seq (.reg [(1,.call 21 (S21 moreX more) ((ok21 moreX more).to false) none)]) (.seq (.reg [(1,kh20 (F21 moreX more))]) (.seq (.reg [(1,kh22f (F21 moreX more))]) (.seq (.seq (.reg [(2,.bin .neq 36 (.agg #[.int .i64 (F20 (F21 moreX more)).2.Line,.int .i64 (F20 (F21 moreX more)).2.Code]) (.agg #[.int .i64 (F22 (F21 moreX more)).2.Line,.int .i64 (F22 (F21 moreX more)).2.Code]) (.bool (!(((F20 (F21 moreX more)).2.Line==(F22 (F21 moreX more)).2.Line)&&((F20 (F21 moreX more)).2.Code==(F22 (F21 moreX more)).2.Code)))) rfl (neqT36 (F20 (F21 moreX more)).2.Line (F22 (F21 moreX more)).2.Line (F20 (F21 moreX more)).2.Code (F22 (F21 moreX more)).2.Code)),(6,kh12af (F20 (F21 moreX more)).1 (F22 (F21 moreX more)).1)]) (.cond (.seq .no .no) .no)) (.seq (.seq .no (.cond (.seq .no .no) .no)) (.seq (.reg [(1,kh23f (F21 moreX more)),(2,kh20 (F23 (F21 moreX more)))]) (.seq (.reg [(1,kh18 (F20 (F21 moreX more)).1),(11,kh12af (q4_2 moreX more).1 (F20 (F21 moreX more)).1)]) .no))))))))))))) Tryz.func4 (fun (_:True)=>kn code fun _=>kn more fun _=>ifb (bif decide ((code.length:Int)>1048576) then true else decide ((more.length:Int)>1048576)) (fun h1=>fiB true (F4 Ua moreX code more) (condT h1 rfl)) (fun h1=>have _:=Qv (orF1 h1); have _:=Qv (orF2 h1); ai trivial (ai (Eq.refl (sv Ua)) (ai (Imp.refl (.l 1 eByte code)) (have gv2:(F15 Ua code).length<=40:=(by exact (drawPrint_q _ _).1); have gv3:∀ k:Nat,((F15 Ua code).getD k default).size<=1048576:=(by exact ls_sz (drawPrint_q _ _)); kc16 (F15 Ua code) uu0 uu35 (have gv4:(F16 (F15 Ua code)).size<=1048576:=(by exact print_szI _); kc17 (F15 Ua code) uu0 uu35 (kg18 (!((F16 (F15 Ua code)).toList==(F17 (F15 Ua code)).toList)) false (F15 Ua code) (fun k5=>⟨uu0,uu35⟩) (kg19 (!((F16 (F15 Ua code)).toList==(F17 (F15 Ua code)).toList)) false (F15 Ua code) (fun k6=>⟨uu0,uu35⟩) (ifb (bif (!((F16 (F15 Ua code)).toList==(F17 (F15 Ua code)).toList)) then true else ((F18 (F15 Ua code)) != (F19 (F15 Ua code)))) (fun h7=>fiB false (F4 Ua moreX code more) (condF h1 (condT h7 rfl))) (fun h7=>have _:=(orF1 h7); have _:=bneF (orF2 h7); kc19 (F15 Ua code) uu0 uu35 (ife (F19 (F15 Ua code)) 0 (fun h8 _=>kc20 (F16 (F15 Ua code)) uu0 (have gv9:(q4_1 Ua code).1.length<=16:=uu40; have gv10:∀ k:Nat,((q4_1 Ua code).1.getD k default).size<=1048576:=uu41; ai (Eq.refl (.agg #[.int .i64 (q4_1 Ua code).2.Line,.int .i64 (q4_1 Ua code).2.Code]:Value)) (ai (Eq.refl (.agg #[.int .i64 0,.int .i64 0]:Value)) (kg12a (!(((q4_1 Ua code).2.Line==0)&&((q4_1 Ua code).2.Code==0))) false (q4_1 Ua code).1 (F15 Ua code) (ifb (bif (!(((q4_1 Ua code).2.Line==0)&&((q4_1 Ua code).2.Code==0))) then true else (!(decide ((q4_1 Ua code).1=(F15 Ua code))))) (fun h12=>fiB false (F4 Ua moreX code more) (condF h1 (condF h7 (condT h8 (condT h12 rfl))))) (fun h12=>have _:=(orF1 h12); have _:=Qd (notEF (orF2 h12)); ai trivial (ai (Eq.refl (sv moreX)) (ai (Imp.refl (.l 1 eByte more)) (have gv13:(F21 moreX more).size<=170000:=(by exact drawParse_q _ _); kc20 (F21 moreX more) uu0 (have gv14:(F20 (F21 moreX more)).1.length<=16:=uu40; have gv15:∀ k:Nat,((F20 (F21 moreX more)).1.getD k default).size<=1048576:=uu41; kc22 (F21 moreX more) uu0 (ai (Eq.refl (.agg #[.int .i64 (F20 (F21 moreX more)).2.Line,.int .i64 (F20 (F21 moreX more)).2.Code]:Value)) (ai (Eq.refl (.agg #[.int .i64 (F22 (F21 moreX more)).2.Line,.int .i64 (F22 (F21 moreX more)).2.Code]:Value)) (kg12a (!(((F20 (F21 moreX more)).2.Line==(F22 (F21 moreX more)).2.Line)&&((F20 (F21 moreX more)).2.Code==(F22 (F21 moreX more)).2.Code))) false (F20 (F21 moreX more)).1 (F22 (F21 moreX more)).1 (ifb (bif (!(((F20 (F21 moreX more)).2.Line==(F22 (F21 moreX more)).2.Line)&&((F20 (F21 moreX more)).2.Code==(F22 (F21 moreX more)).2.Code))) then true else (!(decide ((F20 (F21 moreX more)).1=(F22 (F21 moreX more)).1)))) (fun h17=>fiB false (F4 Ua moreX code more) (condF h1 (condF h7 (condT h8 (condF h12 (condT h17 rfl)))))) (fun h17=>have _:=(orF1 h17); have _:=Qd (notEF (orF2 h17)); ifn (F20 (F21 moreX more)).2.Code 0 (fun h18 _=>fiB (((F20 (F21 moreX more)).1.length:Int)==0) (F4 Ua moreX code more) (condF h1 (condF h7 (condT h8 (condF h12 (condF h17 (condT h18 rfl))))))) (fun h18 _=>kc23 (F21 moreX more) uu0 (have gv19:(F23 (F21 moreX more)).size<=1048576:=(by exact turn_szP _ _); kc20 (F23 (F21 moreX more)) uu0 (have gv20:(q4_2 moreX more).1.length<=16:=uu40; have gv21:∀ k:Nat,((q4_2 moreX more).1.getD k default).size<=1048576:=uu41; kc18 (F20 (F21 moreX more)).1 uu0 (by first | assumption | exact gv3 | exact gv10 | exact gv15 | exact gv21 | (intros; exact trivial) | (intros; exact Re _)) (kg12a (bif ((F18 (F20 (F21 moreX more)).1)==0) then ((q4_2 moreX more).2.Code==0) else false) true (q4_2 moreX more).1 (F20 (F21 moreX more)).1 (fiB (bif (bif ((F18 (F20 (F21 moreX more)).1)==0) then ((q4_2 moreX more).2.Code==0) else false) then (decide ((q4_2 moreX more).1=(F20 (F21 moreX more)).1)) else false) (F4 Ua moreX code more) (condF h1 (condF h7 (condT h8 (condF h12 (condF h17 (condF h18 rfl)))))))))))))))))))))))))) (fun h8 _=>ai trivial (ai (Eq.refl (sv moreX)) (ai (Imp.refl (.l 1 eByte more)) (have gv23:(F21 moreX more).size<=170000:=(by exact drawParse_q _ _); kc20 (F21 moreX more) uu0 (have gv24:(F20 (F21 moreX more)).1.length<=16:=uu40; have gv25:∀ k:Nat,((F20 (F21 moreX more)).1.getD k default).size<=1048576:=uu41; kc22 (F21 moreX more) uu0 (ai (Eq.refl (.agg #[.int .i64 (F20 (F21 moreX more)).2.Line,.int .i64 (F20 (F21 moreX more)).2.Code]:Value)) (ai (Eq.refl (.agg #[.int .i64 (F22 (F21 moreX more)).2.Line,.int .i64 (F22 (F21 moreX more)).2.Code]:Value)) (kg12a (!(((F20 (F21 moreX more)).2.Line==(F22 (F21 moreX more)).2.Line)&&((F20 (F21 moreX more)).2.Code==(F22 (F21 moreX more)).2.Code))) false (F20 (F21 moreX more)).1 (F22 (F21 moreX more)).1 (ifb (bif (!(((F20 (F21 moreX more)).2.Line==(F22 (F21 moreX more)).2.Line)&&((F20 (F21 moreX more)).2.Code==(F22 (F21 moreX more)).2.Code))) then true else (!(decide ((F20 (F21 moreX more)).1=(F22 (F21 moreX more)).1)))) (fun h27=>fiB false (F4 Ua moreX code more) (condF h1 (condF h7 (condF h8 (condT h27 rfl))))) (fun h27=>have _:=(orF1 h27); have _:=Qd (notEF (orF2 h27)); ifn (F20 (F21 moreX more)).2.Code 0 (fun h28 _=>fiB (((F20 (F21 moreX more)).1.length:Int)==0) (F4 Ua moreX code more) (condF h1 (condF h7 (condF h8 (condF h27 (condT h28 rfl)))))) (fun h28 _=>kc23 (F21 moreX more) uu0 (have gv29:(F23 (F21 moreX more)).size<=1048576:=(by exact turn_szP _ _); kc20 (F23 (F21 moreX more)) uu0 (have gv30:(q4_2 moreX more).1.length<=16:=uu40; have gv31:∀ k:Nat,((q4_2 moreX more).1.getD k default).size<=1048576:=uu41; kc18 (F20 (F21 moreX more)).1 uu0 (by first | assumption | exact gv3 | exact gv10 | exact gv15 | exact gv21 | exact gv25 | exact gv31 | (intros; exact trivial) | (intros; exact Re _)) (kg12a (bif ((F18 (F20 (F21 moreX more)).1)==0) then ((q4_2 moreX more).2.Code==0) else false) true (q4_2 moreX more).1 (F20 (F21 moreX more)).1 (fiB (bif (bif ((F18 (F20 (F21 moreX more)).1)==0) then ((q4_2 moreX more).2.Code==0) else false) then (decide ((q4_2 moreX more).1=(F20 (F21 moreX more)).1)) else false) (F4 Ua moreX code more) (condF h1 (condF h7 (condF h8 (condF h27 (condF h28 rfl))))))))))))))))))))))))))))))) uu3
theorem plain_4 (Ua moreX:SV) (code more:List Int):F4 Ua moreX code more=true:=by
 unfold F4
 cases (bif decide ((code.length:Int)>1048576) then true else decide ((more.length:Int)>1048576)) with
 | true=>rfl
 | false =>
 rw [Qb]
 generalize F15 Ua code=L
 generalize F21 moreX more=s
 have hP:∀ t:Za,F20 t=F22 t:=fun t=>parse_same t
 simp only [hP,print_same,check_same,beq_self_eq_true,Sc,Qb,bne_self_eq_false,Hj,decide_true]
 have key:(bif ((F22 s).2.Code != 0) then (((F22 s).1.length:Int)==0) else (bif (bif (F19 (F22 s).1==0) then ((F22 (F23 s)).2.Code==0) else false) then (decide ((F22 (F23 s)).1=(F22 s).1)) else false))=true:=by
  by_cases h:(F22 s).2.Code=0
  ·rw [show ((F22 s).2.Code != 0)=false from by rw [h]; rfl,Qb,parse_turn s h,(parse_to s h).2.2.2.2.2.2.2]
   simp
  ·rw [show ((F22 s).2.Code != 0)=true from G1.2 h,Qc,parse_bad s h]
   rfl
 rw [key]
 cases hc:(F19 L==0) with
 | false=>rfl
 | true =>
  rw [Qc,print_parse L (eq_of_beq hc)]
  simp
end Go.Proofs.YtabmhncnckahfaaGreatDoor
namespace Go.Proofs.YtabmhncnckahfaaGreatDoor
open Go Go.RowKit Go.ChangeShapes Go.WideShapes Go.ChangeAt
set_option maxRecDepth 100000
set_option linter.unusedVariables false
theorem op_5:OpD Tryz.prog 5 eByte:=OpD.byte Tryz.underlying5
theorem op_22:OpD Tryz.prog 22 (fun xs:List Int=>[.l 1 eByte xs]):=OpD.slice 1 Tryz.underlying22 op_5 (fun _=>rfl) uu3 uu1
theorem own:ownKnob Tryz.prog.godebug=none:=by kernel_rfl
theorem cfA:Tryz.prog.inPlace 4=Rows.fnConfParseRow.inPlace:=by kernel_rfl
theorem cfB:Tryz.prog.unfollowed 4=Rows.fnConfParseRow.unfollowed:=by kernel_rfl
theorem cfC:Tryz.prog.recurses 4=Rows.fnConfParseRow.recurses:=by kernel_rfl
theorem cfD:Tryz.prog.varsNamed 4=Rows.fnConfParseRow.named:=by kernel_rfl
set_option maxRecDepth 100000 in
def putC (cs:Array Value):Obj->Obj
 | .cells _ t fz=>.cells cs t fz
 | o=>o
noncomputable def laidWorld (os:Os):World :=
 let w:=World.holding Tryz.prog os ⟨#[.cells #[.string ⟨#[118,97,108,117,101,32,111,117,116,32,111,102,32,114,97,110,103,101]⟩] 193,.cells #[.string ⟨#[105,110,118,97,108,105,100,32,115,121,110,116,97,120]⟩] 193],#[],[]⟩
 { w with heap:=(((((((w.heap.modify ((Tryz.prog.globalNamed "math/bits.deBruijn32tab").getD 0) (putC #[(.int .u8 0),(.int .u8 1),(.int .u8 28),(.int .u8 2),(.int .u8 29),(.int .u8 14),(.int .u8 24),(.int .u8 3),(.int .u8 30),(.int .u8 22),(.int .u8 20),(.int .u8 15),(.int .u8 25),(.int .u8 17),(.int .u8 4),(.int .u8 8),(.int .u8 31),(.int .u8 27),(.int .u8 13),(.int .u8 23),(.int .u8 21),(.int .u8 19),(.int .u8 16),(.int .u8 7),(.int .u8 26),(.int .u8 12),(.int .u8 18),(.int .u8 6),(.int .u8 11),(.int .u8 5),(.int .u8 10),(.int .u8 9)])).modify ((Tryz.prog.globalNamed "math/bits.deBruijn64tab").getD 0) (putC #[(.int .u8 0),(.int .u8 1),(.int .u8 56),(.int .u8 2),(.int .u8 57),(.int .u8 49),(.int .u8 28),(.int .u8 3),(.int .u8 61),(.int .u8 58),(.int .u8 42),(.int .u8 50),(.int .u8 38),(.int .u8 29),(.int .u8 17),(.int .u8 4),(.int .u8 62),(.int .u8 47),(.int .u8 59),(.int .u8 36),(.int .u8 45),(.int .u8 43),(.int .u8 51),(.int .u8 22),(.int .u8 53),(.int .u8 39),(.int .u8 33),(.int .u8 30),(.int .u8 24),(.int .u8 18),(.int .u8 12),(.int .u8 5),(.int .u8 63),(.int .u8 55),(.int .u8 48),(.int .u8 27),(.int .u8 60),(.int .u8 41),(.int .u8 37),(.int .u8 16),(.int .u8 46),(.int .u8 35),(.int .u8 44),(.int .u8 21),(.int .u8 52),(.int .u8 32),(.int .u8 23),(.int .u8 11),(.int .u8 54),(.int .u8 26),(.int .u8 40),(.int .u8 15),(.int .u8 34),(.int .u8 20),(.int .u8 31),(.int .u8 10),(.int .u8 25),(.int .u8 14),(.int .u8 19),(.int .u8 9),(.int .u8 13),(.int .u8 8),(.int .u8 7),(.int .u8 6)])).modify ((Tryz.prog.globalNamed "internal/strconv.uint64pow10").getD 0) (putC #[(.int .u64 1),(.int .u64 10),(.int .u64 100),(.int .u64 1000),(.int .u64 10000),(.int .u64 100000),(.int .u64 1000000),(.int .u64 10000000),(.int .u64 100000000),(.int .u64 1000000000),(.int .u64 10000000000),(.int .u64 100000000000),(.int .u64 1000000000000),(.int .u64 10000000000000),(.int .u64 100000000000000),(.int .u64 1000000000000000),(.int .u64 10000000000000000),(.int .u64 100000000000000000),(.int .u64 1000000000000000000),(.int .u64 10000000000000000000)])).modify ((Tryz.prog.globalNamed "unicode/utf8.acceptRanges").getD 0) (putC #[(.int .u8 128),(.int .u8 191),(.int .u8 160),(.int .u8 191),(.int .u8 128),(.int .u8 159),(.int .u8 144),(.int .u8 191),(.int .u8 128),(.int .u8 143),(.int .u8 0),(.int .u8 0),(.int .u8 0),(.int .u8 0),(.int .u8 0),(.int .u8 0),(.int .u8 0),(.int .u8 0),(.int .u8 0),(.int .u8 0),(.int .u8 0),(.int .u8 0),(.int .u8 0),(.int .u8 0),(.int .u8 0),(.int .u8 0),(.int .u8 0),(.int .u8 0),(.int .u8 0),(.int .u8 0),(.int .u8 0),(.int .u8 0)])).modify ((Tryz.prog.globalNamed "strconv.ErrRange").getD 0) (putC #[.iface 191 (.pointer (some ⟨Tryz.prog.low+0,0,none⟩))])).modify ((Tryz.prog.globalNamed "strconv.ErrSyntax").getD 0) (putC #[.iface 191 (.pointer (some ⟨Tryz.prog.low+1,0,none⟩))])).modify ((Tryz.prog.globalNamed "unicode/utf8.first").getD 0) (putC ((Go.Pinned.utf8FirstZ.map fun n=>Value.int .u8 (n:Nat)).toArray))) }
theorem laid_met (os:Os):laidMet Tryz.prog Rows.fnConfParseRow.laid ((laidWorld os).forCall (fun _ _=>0) ⟨#[],#[.slice none 0 0,.slice none 0 0],[]⟩).memory :=
 laidMet_of_run3 8 uu3 uu3 uu3
theorem reads (os:Os) {H:Type} (enc:TypeId×Value->H):∃ places,DataW.whole enc Tryz.prog ((laidWorld os).forCall (fun _ _=>0) ⟨#[],#[.slice none 0 0,.slice none 0 0],[]⟩).memory Tryz.f4.params.toList Rows.fnConfParseSpec.vars false #[.slice none 0 0,.slice none 0 0].toList 8=some ([.nil,.nil],[],places) :=
 ⟨[],by kernel_rfl⟩
theorem err_laid {W:World} {l:List (String×DataW Unit)} (h:laidMet Tryz.prog l W) {n tn:String} {d:DataW Unit} (hm:(n,.iface tn d)∈l) {g:Nat} (hg:Tryz.prog.globalNamed n=some g) (ht:(Tryz.prog.globals[g]?).map (·.type)=some 94) :
  ∃ e,W.cell? ⟨g,0,none⟩=some e/\(e=.nilIface\/∃ te pe,e=.iface te pe):=by
 obtain ⟨g',t',cs,fuel,p,h1,h2,h3,h4⟩:=Lib.laidMet.reads h hm
 obtain rfl:=So (hg.symm.trans h1)
 obtain rfl:=So (ht.symm.trans h2)
 have hc:∀ i,W.cell? ⟨g,i,none⟩=cs[i]?:=fun i=>by
  unfold World.var? at h3
  rw [hg] at h3
  simp only [Option.bind_some] at h3
  split at h3
  ·rename_i c _ _ hh
   simp only [Qa] at h3
   subst h3
   simp [World.cell?,hh]
  ·cases h3
 cases fuel with
 | zero=>simp [DataW.trod] at h4
 | succ fuel =>
  simp only [DataW.trod,Tryz.underlying94] at h4
  split at h4 <;> first
   | (cases h4; done)
   | (rename_i hcs; refine ⟨_,(hc 0).trans (by rw [<- Th,hcs]; rfl),?_⟩; first | exact .inl rfl | exact .inr ⟨_,_,rfl⟩)
   | (simp at h4; done)
   | (exfalso; simp_all; done)
theorem lifted (os:Os) (started:os.Started) (H:Type) (enc:TypeId×Value->H) (F:Stop.Interp) :
  ReturnsInHanded {} Tryz.checked os 4 .any ((OpenSpec.ofChange Rows.fnConfParseSpec).preRow enc Tryz.prog Tryz.f4 Rows.fnConfParseRow.domain false Rows.fnConfParseRow.laid) (((OpenSpec.ofChange Rows.fnConfParseSpec).at F).post enc Tryz.prog Tryz.f4 false true false false):=by
 obtain ⟨places,hx⟩:=reads os enc
 refine returnsInHanded_of_row (C:=Tryz.checked) (s:=OpenSpec.ofChange Rows.fnConfParseSpec) own started uu3 Tryz.func4
  (witness_row_at (enc:=enc) (C:=Tryz.checked) false (laidWorld os) #[.slice none 0 0,.slice none 0 0] rfl uu3 uu3 uu3
   (OpenSpec.preRow_of_cond 8 hx uu3 (fun k hk=>by cases hk) uu3 (laid_met os))) ?_
 intro W base args ds gs before hval0 hW hcnd _ _ hL hsh _
 have hL':laidMet Tryz.prog Rows.fnConfParseRow.laid W:=by
  have h0:=hL
  unfold laidMetH at h0
  rw [show (Rows.fnConfParseRow.laid.filter fun x=>x.2.handleName?.isSome)=[] from by kernel_rfl] at h0
  exact h0
 have hval:∀ (j:Nat) t v,Tryz.f4.params[j]?=some t->args[j]?=some v->Value.okWide Tryz.prog W .any base t v:=hval0
 have hW':=hW
 obtain ⟨p,q,hA0,hV,rfl,hfz,hnd⟩:=hW
 have hA:DataW.TrodAll enc Tryz.prog W 0 (fun _=>true) true Tryz.f4.params.toList args.toList ds p:=hA0
 rw [Tryz.params4] at hA hval
 obtain ⟨v0,vs0,d0,ds0,p0,q0,hargs,rfl,rfl,h0,r0⟩:=trodAll_cons hA
 obtain ⟨v1,vs1,d1,ds1,p1,q1,rfl,rfl,rfl,h1,r1⟩:=trodAll_cons r0
 obtain ⟨rfl,rfl,rfl⟩:=trodAll_nil r1
 obtain rfl:args=#[v0,v1]:=by cases args; simp_all
 obtain ⟨rfl,rfl⟩:=trodVars_none hV
 obtain ⟨fu0,t0⟩:=h0
 obtain ⟨a0,n0,c0,rfl⟩:=okWide_slice Tryz.underlying22 (hval 0 22 v0 rfl rfl)
 obtain ⟨x0,u0,us0,e0,o0,-⟩:=op_22 H enc W fu0 _ _ t0
 obtain rfl:u0=_:=(List.cons.inj e0).1.symm
 obtain ⟨fu1,t1⟩:=h1
 obtain ⟨a1,n1,c1,rfl⟩:=okWide_slice Tryz.underlying22 (hval 1 22 v1 rfl rfl)
 obtain ⟨x1,u1,us1,e1,o1,-⟩:=op_22 H enc W fu1 _ _ t1
 obtain rfl:u1=_:=(List.cons.inj e1).1.symm
 have hG:GP W:=⟨fun b hb=>by
  simp only [GBe,R0,Sv,Qt,Rl,Gy] at hb
  rcases hb with rfl | rfl
  ·exact err_laid hL' (n:= "strconv.ErrSyntax") (by unfold Rows.fnConfParseRow; exact Qg _ (Qg _ (Qg _ (Qg _ (Qg _ (Qi)))))) (show Tryz.prog.globalNamed "strconv.ErrSyntax"=some ((Tryz.prog.globalNamed "strconv.ErrSyntax").getD 0) from by kernel_rfl) uu3
  ·exact err_laid hL' (n:= "strconv.ErrRange") (by unfold Rows.fnConfParseRow; exact Qg _ (Qg _ (Qg _ (Qg _ (Qi))))) (show Tryz.prog.globalNamed "strconv.ErrRange"=some ((Tryz.prog.globalNamed "strconv.ErrRange").getD 0) from by kernel_rfl) uu3,fun b hb=>by simp only [GBi,R0,Qt,Rl,Gy] at hb; subst hb; exact layCutM.s1_3 W hsh,fun q hq=>by
  simp only [GBt,R0,Qt,Rl,Gy] at hq
  subst hq
  obtain ⟨g',t',cs,fuel,p,h1,h2,h3,h4⟩:=Lib.laidMet.reads hL' (n:= "internal/strconv.uint64pow10") (by unfold Rows.fnConfParseRow; exact Qg _ (Qg _ (Qi)))
  obtain rfl:=So ((show Tryz.prog.globalNamed "internal/strconv.uint64pow10"=some ((Tryz.prog.globalNamed "internal/strconv.uint64pow10").getD 0) from by kernel_rfl).symm.trans h1)
  obtain rfl:=So ((show (Tryz.prog.globals[(Tryz.prog.globalNamed "internal/strconv.uint64pow10").getD 0]?).map (·.type)=some 195 from by kernel_rfl).symm.trans h2)
  have hc:=Lib.cells_of_tab (k:=.u64) (zs:=Lib.pow10Tab) Tryz.underlying195 Tryz.underlying151 uu3 uu3 h4
  unfold World.var? at h3
  rw [(show Tryz.prog.globalNamed "internal/strconv.uint64pow10"=some ((Tryz.prog.globalNamed "internal/strconv.uint64pow10").getD 0) from by kernel_rfl)] at h3
  simp only [Option.bind_some] at h3
  split at h3
  ·rename_i c T fz hh
   simp only [Qa] at h3
   subst h3
   exact ⟨T,fz,hh.trans (by congr 1; congr 1; exact Gc (by simpa using hc))⟩
  ·cases h3⟩
 have hc:=law_call (W:=W) (vs:=[.slice a0 n0 c0,.slice a1 n1 c1]) (ok4 (⟨a0,n0,c0⟩:SV) (⟨a1,n1,c1⟩:SV) x0 x1) trivial (x:=.bool (F4 (⟨a0,n0,c0⟩:SV) (⟨a1,n1,c1⟩:SV) x0 x1)) hG ⟨_,_,[],[],rfl,⟨⟨rfl,o0⟩,rfl⟩,⟨_,_,[],[],rfl,⟨⟨rfl,o1⟩,rfl⟩,⟨rfl,rfl⟩,rfl,Q6⟩,rfl,Q6⟩ rfl rfl
 rw [plain_4 (⟨a0,n0,c0⟩:SV) (⟨a1,n1,c1⟩:SV) x0 x1] at hc
 refine hc.mono fun e W' ⟨he,hb⟩=>?_
 subst he
 exact ⟨_,rfl,law_post rfl hW' hb rfl Tryz.underlying4 rfl rfl rfl laid (by decide +kernel)⟩
theorem said_FnConfParse:Rows.FnConfParseSaid :=
 OpenClaim.holds_of_cond 4 Tryz.f4 rfl rfl rfl rfl rfl rfl rfl ⟨rfl,rfl,rfl,rfl,rfl⟩ rfl rfl rfl rfl rfl uu3 Tryz.func4 (by
   show joinedFacts Tryz.prog 4 Tryz.f4 (OpenSpec.ofChange Rows.fnConfParseSpec).bare Rows.fnConfParseRow=true
   simp only [joinedFacts,laid,cfMaps,cfKeys,cfLifts,cfHeard,cfEnter,cfMake,cfA,cfB,cfC,cfD,Td]
   kernel_rfl)
  (Qd uu3) (by unfold Func.isWrapper; first | (rw [if_pos (by decide +kernel)]; kernel_rfl) | (rw [if_neg (by decide +kernel)]; exact ⟨rfl,rfl⟩))
  (fun os started H enc _ F=>by rw [OpenClaim.pre_eq_preRow]; exact lifted os started H enc F)
theorem plainArgs (f:FuncId) (fn:Func) (hf:Tryz.pinned.checked.prog.funcNamed "loop.example/tern/laws.FnConfParse"=some f) (hfn:Tryz.pinned.checked.prog.funcs[f]?=some fn) :
  true=Tryz.pinned.checked.prog.looks []/\∀ (j:Nat) t,fn.params[j]?=some t->Tryz.pinned.checked.prog.wantsStandIn t=false:=by
 obtain rfl:f=4:=So ((show Tryz.prog.funcNamed "loop.example/tern/laws.FnConfParse"=some 4 by kernel_rfl).symm.trans hf) |>.symm
 obtain rfl:fn=Tryz.f4:=(So (Tryz.func4.symm.trans hfn)).symm
 refine ⟨by kernel_rfl,fun j t ht=>?_⟩
 rw [Tryz.params4] at ht
 have hm:=Array.mem_of_getElem? ht
 simp only [List.mem_toArray,Qt,Rl,Gy] at hm
 rcases hm with rfl | rfl
 ·exact (show Tryz.prog.wantsStandIn 22=false by kernel_rfl)
 ·exact (show Tryz.prog.wantsStandIn 22=false by kernel_rfl)
theorem card_wf:Rows.fnConfParseRow.wfByText (OpenSpec.ofChange Rows.fnConfParseSpec)=true:=by kernel_rfl
theorem card_main:Tryz.prog.mainIs=some (Rows.fnConfParseCard.stood.harness.1,Rows.fnConfParseCard.stood.harness.2.toList):=by kernel_rfl
theorem card_goes:false=Rows.fnConfParseRow.goesBy Tryz.prog:=by kernel_rfl
theorem proved_FnConfParse:Rows.FnConfParseCardSaid :=
 Claim7.holds_tied_plain_at .later [] _ _ _ _ said_FnConfParse (fun _ h=>by cases h) card_wf (fun _ h=>by cases h) fnConfParse_row_tie rfl ⟨rfl,rfl⟩ card_main rfl plainArgs card_goes
#print axioms proved_FnConfParse
end Go.Proofs.YtabmhncnckahfaaGreatDoor
