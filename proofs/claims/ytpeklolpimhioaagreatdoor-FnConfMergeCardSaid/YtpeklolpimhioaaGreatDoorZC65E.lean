/- The card's statement of FnConfMerge: for all arguments the law returns true, without further conditions. Texts put together: VDM2, PDM2, VDM3, PDM3, VDM4, PDM4, VDM5, PDM5, VDMG, PDMG, PMG2, PMG3, VMG, VMGK, PMG0, VMGS, PTKM, PMG4, PMG5, VMGF, PMGF, C65. -/
import Derived.Test.YtpeklolpimhioaaGreatDoorRows
import Derived.Test.YtpeklolpimhioaaGreatDoorCards
import Derived.Test.YtpeklolpimhioaaGreatDoorTie
import Derived.Deep.DeepHandedRow
import Derived.Deep.DeepLaidRun
import Derived.JoinedCond
import Derived.Lib.LaidU8
import Derived.Test.YtpeklolpimhioaaGreatDoorZC65D
namespace Go.Proofs.YtpeklolpimhioaaGreatDoor
open Go.RowKit
set_option maxRecDepth 100000
set_option linter.unusedVariables false
set_option linter.unusedSimpArgs false
theorem kc27l (lines:List Za) (k:Int) {K_:Prop} (p0_:0<=k) (p1_:k<(lines.length:Int)) (p2_:lines.length<=1048576) (q0_:0<=k) (q1_:k<(lines.length:Int)) (q2_:lines.length<=1048576) (q3_:∀ q:Nat,(lines.getD q default).size<=1048576) (k_:((F27 lines k).length+1=lines.length)->(∀ q:Nat,((F27 lines k).getD q default).size<=1048576)->K_):(0<=k/\k<(lines.length:Int)/\lines.length<=1048576)/\(Imp (.l 1 eStr lines) (.l 1 eStr lines))/\(Imp (.v (vI k)) (.v (vI k)))/\K_:=⟨⟨p0_,p1_,p2_⟩,Imp.refl _,Imp.refl _,k_ (without_len lines k q0_ q1_ q2_) (without_sz lines k q3_)⟩
abbrev kh27l (lines:List Za) (k:Int):Hint true Tryz.prog:=.call 27 (S27 lines k) (ok27 lines k) none
theorem kc22 (lines:List Za) (line:Za) {K_:Prop} (p0_:lines.length<=1048576) (p1_:∀ k:Nat,(lines.getD k default).size<=1048576) (q0_:∀ k:Nat,(lines.getD k default).size<=1048576) (q1_:line.size<=1048576) (k_:((F22 lines line).length=lines.length+1)->(∀ k:Nat,((F22 lines line).getD k default).size<=1048576)->K_):(lines.length<=1048576/\(∀ k:Nat,(lines.getD k default).size<=1048576))/\(Imp (.l 1 eStr lines) (.l 1 eStr lines))/\(Imp (.v (.string line)) (.v (.string line)))/\K_:=⟨⟨p0_,p1_⟩,Imp.refl _,Imp.refl _,k_ (put_len lines line) (put_sz lines line q0_ q1_)⟩
abbrev kh22 (lines:List Za) (line:Za):Hint true Tryz.prog:=.call 22 (S22 lines line) (ok22 lines line) none
theorem kc64 (lines:List Za) {K_:Prop} (p0_:lines.length<=1048576) (p1_:∀ k:Nat,(lines.getD k default).size<=1048576) (k_:K_):(lines.length<=1048576/\(∀ k:Nat,(lines.getD k default).size<=1048576))/\(Imp (.l 1 eStr lines) (.l 1 eStr lines))/\K_:=⟨⟨p0_,p1_⟩,Imp.refl _,k_⟩
abbrev kh64 (lines:List Za):Hint true Tryz.prog:=.call 64 (S64 lines) (ok64 lines) none
def F39 (lines:List Za) (line:Za):List Za :=
 bif (decide ((F25 lines (F26 line))>=0)) then (bif ((F64 (F22 (F27 lines (F25 lines (F26 line))) line))==0) then (F22 (F27 lines (F25 lines (F26 line))) line) else lines) else (bif ((F64 (F22 lines line))==0) then (F22 lines line) else lines)
theorem fi39 (lines:List Za) (line:Za) (r:List Za) (hF:r=(F39 lines line)):(Imp (.l 1 eStr r) (.l 1 eStr (F39 lines line)))/\True:=by cases hF; exact ⟨Imp.refl _,trivial⟩
def S39 (lines:List Za) (line:Za):Spec:=⟨[.ow (.l 1 eStr lines) none,.r (.c (.v (.string line)))],.ow (.l 1 eStr (F39 lines line)),CQ lines/\line.size<=900⟩
theorem ok39 (lines:List Za) (line:Za):(S39 lines line).ok Tryz.prog 39 :=
 fnG_ok mixed (fn:=Tryz.f39) (ct:=.seq .no (.seq .no (.seq (.reg [(2,kh26 line),(3,kh25 lines (F26 line))]) (.seqa 5 0 (.seq .no (.cond (.reg [(2,kh27l lines (F25 lines (F26 line)))]) .no)) (.seq (.reg [(2,kh22 lines line)]) (.seq (.seq (.reg [(1,kh64 (F22 lines line))]) (.cond (.seq .no .no) .no)) (.seq .no .no))) (.seq (.reg [(2,kh22 (F27 lines (F25 lines (F26 line))) line)]) (.seq (.seq (.reg [(1,kh64 (F22 (F27 lines (F25 lines (F26 line))) line))]) (.cond (.seq .no .no) .no)) (.seq .no .no))))))) Tryz.func39 (fun (hp:CQ lines/\line.size<=900)=>have hpre0:=hp.1; have hpre1:=hp.2; kc26 line uu11 (kc25 lines (F26 line) uu11 (ifd ((F25 lines (F26 line))>=0) (fun h1 _=>kc27l lines (F25 lines (F26 line)) uu11 uu11 uu11 uu11 uu11 uu11 uu11 (fun gv2 gv3=>kc22 (F27 lines (F25 lines (F26 line))) line uu11 uu11 uu11 uu11 (fun gv4 gv5=>kc64 (F22 (F27 lines (F25 lines (F26 line))) line) uu11 uu11 (ife (F64 (F22 (F27 lines (F25 lines (F26 line))) line)) 0 (fun h6 _=>fi39 lines line (F22 (F27 lines (F25 lines (F26 line))) line) (condT h1 (condT h6 rfl))) (fun h6 _=>fi39 lines line lines (condT h1 (condF h6 rfl))))))) (fun h1 _=>kc22 lines line uu11 uu11 uu11 uu11 (fun gv7 gv8=>kc64 (F22 lines line) uu11 uu11 (ife (F64 (F22 lines line)) 0 (fun h9 _=>fi39 lines line (F22 lines line) (condF h1 (condT h9 rfl))) (fun h9 _=>fi39 lines line lines (condF h1 (condF h9 rfl))))))))) uu2
theorem try_cq (lines:List Za) (line:Za) (h:CQ lines) (hz:line.size<=900):CQ (F39 lines line):=by
 have key:∀ xs:List Za,(∀ q:Nat,(xs.getD q default).size<=900)->CQ (bif (F64 xs==0) then xs else lines):=fun xs hx=>by
  cases hc:(F64 xs==0) with
  | true=>exact ⟨eq_of_beq hc,hx⟩
  | false=>exact h
 unfold F39
 cases decide (F25 lines (F26 line)>=0)
 ·exact key _ (put_szN h.2 hz)
 ·exact key _ (put_szN (without_szN _ h.2) hz)
abbrev Xn:List Za:=[Zm]
theorem cq_base:CQ Xn:=⟨by kernel_rfl,getD_sz uu1⟩
theorem kc39l (lines:List Za) (line:Za) {K_:Prop} (p0_:CQ lines) (p1_:line.size<=900) (q0_:CQ lines) (q1_:line.size<=900) (k_:(CQ (F39 lines line))->K_):(CQ lines/\line.size<=900)/\(Imp (.l 1 eStr lines) (.l 1 eStr lines))/\(Imp (.v (.string line)) (.v (.string line)))/\K_:=⟨⟨p0_,p1_⟩,Imp.refl _,Imp.refl _,k_ (try_cq lines line q0_ q1_)⟩
abbrev kh39l (lines:List Za) (line:Za):Hint true Tryz.prog:=.call 39 (S39 lines line) (ok39 lines line) none
theorem kc24l (X_:SV) (b_:List Int) (pp_:Int) {K_:Prop} (p0_:0<=pp_) (p1_:pp_<=900000000) (p2_:b_.length<=2000) (q0_:0<=pp_) (q1_:pp_<=900000000) (k_:((F24 ⟨b_,pp_⟩).1.size<=900/\pp_<=(F24 ⟨b_,pp_⟩).2/\(F24 ⟨b_,pp_⟩).2<=pp_+9)->K_):(0<=pp_/\pp_<=900000000/\b_.length<=2000)/\(sv X_=sv X_)/\(Imp (.l 1 eByte b_) (.l 1 eByte b_))/\(Imps ([.v (vI pp_)]) ([.v (vI pp_)]))/\K_:=⟨⟨p0_,p1_,p2_⟩,rfl,Imp.refl _,Imps.refl _,k_ (dline_q (⟨b_,pp_⟩:l51Rd) q0_ q1_)⟩
abbrev kh24l (X_:SV) (g_:Nat) (b_:List Int) (pp_:Int):Hint true Tryz.prog:=.call 24 (S24 X_ g_ (⟨b_,pp_⟩:l51Rd)) (ok24 X_ g_ (⟨b_,pp_⟩:l51Rd)) none
abbrev w72_:Za:=⟨#[112,111,114,116,32,48,32,49,48,46,48,47,56]⟩
abbrev w74_:Za:=⟨#[117,115,101,114,32,98,111,98,32]⟩
abbrev w75_:Za:=⟨#[110,97,116,32,49,48,46,48,47,57,32,50,48,48,46,49,32,52,48,32,52,51]⟩
def F23_j0 (r1:l51Rd):Lp (List Za) (List Za×Int) :=
 bif (decide ((F11 ⟨r1.b,r1.p⟩ 3).1>0)) then (.done (F39 Xn ⟨#[112,111,114,116,32,48,32,49,48,46,48,47,56]⟩)) else (.done Xn)
abbrev Xx:List Za:=[Yy,Zt,Zu,Zf]
def F23_j1 (r1:l51Rd) (out:List Za):Lp (List Za×Int) (List Za×Int) :=
 bif (decide ((F11 ⟨r1.b,(F11 ⟨r1.b,r1.p⟩ 3).2⟩ 3).1>0)) then (.done ((F39 out ((⟨#[117,115,101,114,32,98,111,98,32]⟩:Za)++(F29 ⟨r1.b,(F11 ⟨r1.b,(F11 ⟨r1.b,r1.p⟩ 3).2⟩ 3).2⟩ Xx).1)),(F29 ⟨r1.b,(F11 ⟨r1.b,(F11 ⟨r1.b,r1.p⟩ 3).2⟩ 3).2⟩ Xx).2)) else (.done (out,(F11 ⟨r1.b,(F11 ⟨r1.b,r1.p⟩ 3).2⟩ 3).2))
def F23_j2 (r1:l51Rd) (out:List Za) (out1:List Za) (r2:Int):Lp (List Za) (List Za×Int) :=
 bif ((F11 ⟨r1.b,r2⟩ 3).1==0) then (.done (F39 out1 ⟨#[110,97,116,32,49,48,46,48,47,57,32,50,48,48,46,49,32,52,48,32,52,51]⟩)) else (.done out1)
def F23_j3 (r1:l51Rd) (out:List Za) (out1:List Za) (r2:Int) (out2:List Za):Lp Int (List Za×Int) :=
 bif ((F11 ⟨r1.b,(F11 ⟨r1.b,(F11 ⟨r1.b,r2⟩ 3).2⟩ 7).2⟩ 9).1==0) then (.done 40) else (.done (F11 ⟨r1.b,(F11 ⟨r1.b,r2⟩ 3).2⟩ 7).1)
def F23_s0 (r1:l51Rd) (out:List Za) (out1:List Za) (r2:Int) (out2:List Za) (n:Int):(List Za×Int×Int)->Lp (List Za×Int×Int) (List Za×Int):=fun (out3,n1,r3) =>
 bif (decide (n1>0)) then (.next ((F39 out3 (F24 ⟨r1.b,r3⟩).1),(n1-1),(F24 ⟨r1.b,r3⟩).2)) else (.done (out3,n1,r3))
def F23 (r1:l51Rd):List Za×Int :=
 (F23_j0 r1).fin (fun r=>r) (fun out=>(F23_j1 r1 out).fin (fun r=>r) (fun (out1,r2)=>(F23_j2 r1 out out1 r2).fin (fun r=>r) (fun out2=>(F23_j3 r1 out out1 r2 out2).fin (fun r=>r) (fun n=>(runL (F23_s0 r1 out out1 r2 out2 n) ((Int.toNat (n-0))+1) (out2,n,(F11 ⟨r1.b,(F11 ⟨r1.b,(F11 ⟨r1.b,r2⟩ 3).2⟩ 7).2⟩ 9).2)).fin (fun r=>r) (fun (out3,n1,r3)=>(out3,r3))))))
abbrev jI23_0 (r1X:SV) (r1:l51Rd) (out:List Za):Prop:=CQ out/\(F11 ⟨r1.b,r1.p⟩ 3).2=r1.p+1
abbrev jJ23_0 (r1X:SV) (r1:l51Rd) (j:List Za):Prop:=(F23_j0 r1)=Lp.done j/\jI23_0 r1X r1 j
theorem jn23_0 (r1X:SV) (r1:l51Rd) (out:List Za) (e:(F23_j0 r1)=Lp.done out) (h:jI23_0 r1X r1 out):∃ j:List Za,((.int .i64 (F11 ⟨r1.b,r1.p⟩ 3).2:Value)=.int .i64 (F11 ⟨r1.b,r1.p⟩ 3).2)/\((sv r1X:Value)=sv r1X)/\(Imp (.l 1 eByte r1.b) (.l 1 eByte r1.b))/\(Imp (.l 1 eStr out) (.l 1 eStr j))/\jJ23_0 r1X r1 j:=⟨out,rfl,rfl,Imp.refl _,Imp.refl _,e,h⟩
abbrev jI23_1 (r1X:SV) (r1:l51Rd) (out:List Za) (out1:List Za) (r2:Int):Prop:=CQ out1/\0<=r2/\r2<=r1.p+3
abbrev jJ23_1 (r1X:SV) (r1:l51Rd) (out:List Za) (j:List Za×Int):Prop:=(F23_j1 r1 out)=Lp.done j/\jI23_1 r1X r1 out j.1 j.2
theorem jn23_1 (r1X:SV) (r1:l51Rd) (out:List Za) (out1:List Za) (r2:Int) (e:(F23_j1 r1 out)=Lp.done (out1,r2)) (h:jI23_1 r1X r1 out out1 r2):∃ j:List Za×Int,((.int .i64 r2:Value)=.int .i64 j.2)/\((sv r1X:Value)=sv r1X)/\(Imp (.l 1 eByte r1.b) (.l 1 eByte r1.b))/\(Imp (.l 1 eStr out1) (.l 1 eStr j.1))/\jJ23_1 r1X r1 out j:=⟨(out1,r2),rfl,rfl,Imp.refl _,Imp.refl _,e,h⟩
abbrev jI23_2 (r1X:SV) (r1:l51Rd) (out:List Za) (out1:List Za) (r2:Int) (out2:List Za):Prop:=CQ out2/\(F11 ⟨r1.b,r2⟩ 3).2=r2+1
abbrev jJ23_2 (r1X:SV) (r1:l51Rd) (out:List Za) (out1:List Za) (r2:Int) (j:List Za):Prop:=(F23_j2 r1 out out1 r2)=Lp.done j/\jI23_2 r1X r1 out out1 r2 j
theorem jn23_2 (r1X:SV) (r1:l51Rd) (out:List Za) (out1:List Za) (r2:Int) (out2:List Za) (e:(F23_j2 r1 out out1 r2)=Lp.done out2) (h:jI23_2 r1X r1 out out1 r2 out2):∃ j:List Za,((.int .i64 (F11 ⟨r1.b,r2⟩ 3).2:Value)=.int .i64 (F11 ⟨r1.b,r2⟩ 3).2)/\((sv r1X:Value)=sv r1X)/\(Imp (.l 1 eByte r1.b) (.l 1 eByte r1.b))/\(Imp (.l 1 eStr out2) (.l 1 eStr j))/\jJ23_2 r1X r1 out out1 r2 j:=⟨out2,rfl,rfl,Imp.refl _,Imp.refl _,e,h⟩
abbrev jI23_3 (r1X:SV) (r1:l51Rd) (out:List Za) (out1:List Za) (r2:Int) (out2:List Za) (n:Int):Prop:=0<=n/\n<=40/\(F11 ⟨r1.b,(F11 ⟨r1.b,(F11 ⟨r1.b,r2⟩ 3).2⟩ 7).2⟩ 9).2=r2+3
abbrev jJ23_3 (r1X:SV) (r1:l51Rd) (out:List Za) (out1:List Za) (r2:Int) (out2:List Za) (j:Int):Prop:=(F23_j3 r1 out out1 r2 out2)=Lp.done j/\jI23_3 r1X r1 out out1 r2 out2 j
theorem jn23_3 (r1X:SV) (r1:l51Rd) (out:List Za) (out1:List Za) (r2:Int) (out2:List Za) (n:Int) (e:(F23_j3 r1 out out1 r2 out2)=Lp.done n) (h:jI23_3 r1X r1 out out1 r2 out2 n):∃ j:Int,((.int .i64 n:Value)=.int .i64 j)/\((.int .i64 (F11 ⟨r1.b,(F11 ⟨r1.b,(F11 ⟨r1.b,r2⟩ 3).2⟩ 7).2⟩ 9).2:Value)=.int .i64 (F11 ⟨r1.b,(F11 ⟨r1.b,(F11 ⟨r1.b,r2⟩ 3).2⟩ 7).2⟩ 9).2)/\((sv r1X:Value)=sv r1X)/\(Imp (.l 1 eByte r1.b) (.l 1 eByte r1.b))/\(Imp (.l 1 eStr out2) (.l 1 eStr out2))/\jJ23_3 r1X r1 out out1 r2 out2 j:=⟨n,rfl,rfl,rfl,Imp.refl _,Imp.refl _,e,h⟩
abbrev lN23_0 (r1:l51Rd) (r2:Int) (out2:List Za) (n:Int):Nat×(List Za×Int×Int):=(((Int.toNat (n-0))+1),(out2,n,(F11 ⟨r1.b,(F11 ⟨r1.b,(F11 ⟨r1.b,r2⟩ 3).2⟩ 7).2⟩ 9).2))
abbrev lI23_0 (r1:l51Rd) (m39:Nat) (out3:List Za) (n1:Int) (r3:Int):Prop:=Int.toNat (n1-0)<m39/\CQ out3/\0<=r3/\r3+9*n1<=r1.p+380/\n1<=40
abbrev lX23_0 (r1:l51Rd) (out:List Za) (out1:List Za) (r2:Int) (out2:List Za) (n:Int):Lp (List Za×Int×Int) (List Za×Int):=LpX (F23_s0 r1 out out1 r2 out2 n) (lN23_0 r1 r2 out2 n)
abbrev lJ23_0 (r1:l51Rd) (out:List Za) (out1:List Za) (r2:Int) (out2:List Za) (n:Int) (i:Nat×(List Za×Int×Int)):Prop:=LpJ (F23_s0 r1 out out1 r2 out2 n) (lN23_0 r1 r2 out2 n) i (lI23_0 r1 i.1 i.2.1 i.2.2.1 i.2.2.2)
abbrev lH23_0 (r1:l51Rd) (out:List Za) (out1:List Za) (r2:Int) (out2:List Za) (n:Int) (i:Nat×(List Za×Int×Int)) (m39:Nat) (out3:List Za) (n1:Int) (r3:Int):Prop:=LpH (F23_s0 r1 out out1 r2 out2 n) (lN23_0 r1 r2 out2 n) i m39 (out3,n1,r3) (lI23_0 r1 (m39+1) out3 n1 r3)
abbrev lE23_0 (r1X:SV) (r1:l51Rd) (out3:List Za) (n1:Int) (r3:Int) (out3_:List Za) (n1_:Int) (r3_:Int) (K39:Prop):Prop:=((.int .i64 n1:Value)=.int .i64 n1_)/\((.int .i64 r3:Value)=.int .i64 r3_)/\(Rf (sv r1X))/\(Im (.l 1 eByte r1.b))/\(Imp (.l 1 eStr out3) (.l 1 eStr out3_))/\K39
theorem un23_0 (r1:l51Rd) (out:List Za) (out1:List Za) (r2:Int) (out2:List Za) (n:Int) (i:Nat×(List Za×Int×Int)) (h:lJ23_0 r1 out out1 r2 out2 n i):lH23_0 r1 out out1 r2 out2 n i (i.1-1) i.2.1 i.2.2.1 i.2.2.2:=⟨hd1 h.1 h.2.1,hd3 h.2.1,hd2 h.2.1,h.2.2⟩
theorem bk23_0 (r1X:SV) (r1:l51Rd) (out:List Za) (out1:List Za) (r2:Int) (out2:List Za) (n:Int) (i:Nat×(List Za×Int×Int)) (m39:Nat) (out3:List Za) (n1:Int) (r3:Int) (hl:m39<i.1) (e:runL (F23_s0 r1 out out1 r2 out2 n) m39 (out3,n1,r3)=lX23_0 r1 out out1 r2 out2 n) (h:lI23_0 r1 m39 out3 n1 r3):∃ j:Nat×(List Za×Int×Int),lE23_0 r1X r1 out3 n1 r3 j.2.1 j.2.2.1 j.2.2.2 (lJ23_0 r1 out out1 r2 out2 n j/\j.1<i.1):=⟨(m39,(out3,n1,r3)),rfl,rfl,rfl,Imp.refl _,Imp.refl _,⟨e,h⟩,hl⟩
theorem en23_0 (r1X:SV) (r1:l51Rd) (out:List Za) (out1:List Za) (r2:Int) (out2:List Za) (n:Int) (h:CQ out2/\0<=(F11 ⟨r1.b,(F11 ⟨r1.b,(F11 ⟨r1.b,r2⟩ 3).2⟩ 7).2⟩ 9).2/\(F11 ⟨r1.b,(F11 ⟨r1.b,(F11 ⟨r1.b,r2⟩ 3).2⟩ 7).2⟩ 9).2+9*n<=r1.p+380/\n<=40):lE23_0 r1X r1 out2 n (F11 ⟨r1.b,(F11 ⟨r1.b,(F11 ⟨r1.b,r2⟩ 3).2⟩ 7).2⟩ 9).2 out2 n (F11 ⟨r1.b,(F11 ⟨r1.b,(F11 ⟨r1.b,r2⟩ 3).2⟩ 7).2⟩ 9).2 (lJ23_0 r1 out out1 r2 out2 n (lN23_0 r1 r2 out2 n)):=⟨rfl,rfl,rfl,Imp.refl _,Imp.refl _,rfl,Qt _,h⟩
def S23 (r1X:SV) (gr1:Nat) (r1:l51Rd):Spec:=⟨[.ptg gr1 49 (sv r1X) (.l 1 eByte r1.b) [.v (vI r1.p)] [.v (vI (F23 r1).2)]],.ow (.l 1 eStr (F23 r1).1),0<=r1.p/\r1.p<=800000000/\r1.b.length<=2000⟩
theorem ok23 (r1X:SV) (gr1:Nat) (r1:l51Rd):(S23 r1X gr1 r1).ok Tryz.prog 23 :=
 fnG_ok mixed (fn:=Tryz.f23) (ct:=.seqk [(0,0)] .no (.seq (.reg [(0,.dat (.l 1 eStr Xn))]) (.cut (ι:=List Za) (fun j=>(fun (out:List Za)=>(⟨[(0,some (.p 0 0)),(3,some (.h 2 0))],[(0,some (.box 49 [.h 1 0,.v (vI (F11 ⟨r1.b,r1.p⟩ 3).2)])),(1,some (.vl (sv r1X) (.l 1 eByte r1.b))),(2,some (.own 2 (.l 1 eStr out)))],3⟩:St)) j) (jJ23_0 r1X r1) (.seq (.reg [(1,kh11l r1X 0 r1.b r1.p 3)]) (.cond (.reg [(1,kh39l Xn w72_)]) .no)) (fun j=>(fun (out:List Za)=>(.cut (ι:=List Za×Int) (fun j=>(fun (out1:List Za) (r2:Int)=>(⟨[(0,some (.p 0 0)),(3,some (.h 2 0))],[(0,some (.box 49 [.h 1 0,.v (vI r2)])),(1,some (.vl (sv r1X) (.l 1 eByte r1.b))),(2,some (.own 2 (.l 1 eStr out1)))],3⟩:St)) j.1 j.2) (jJ23_1 r1X r1 out) (.seq (.reg [(1,kh11l r1X 1 r1.b (F11 ⟨r1.b,r1.p⟩ 3).2 3)]) (.cond (.reg [(2,.dat (.l 1 eStr Xx)),(3,kh29l r1X 1 r1.b (F11 ⟨r1.b,(F11 ⟨r1.b,r1.p⟩ 3).2⟩ 3).2 Xx),(5,.call 39 (S39 out (w74_++(F29 ⟨r1.b,(F11 ⟨r1.b,(F11 ⟨r1.b,r1.p⟩ 3).2⟩ 3).2⟩ Xx).1)) (ok39 out (w74_++(F29 ⟨r1.b,(F11 ⟨r1.b,(F11 ⟨r1.b,r1.p⟩ 3).2⟩ 3).2⟩ Xx).1)) none)]) .no)) (fun j=>(fun (out1:List Za) (r2:Int)=>(.cut (ι:=List Za) (fun j=>(fun (out2:List Za)=>(⟨[(0,some (.p 0 0)),(3,some (.h 2 0))],[(0,some (.box 49 [.h 1 0,.v (vI (F11 ⟨r1.b,r2⟩ 3).2)])),(1,some (.vl (sv r1X) (.l 1 eByte r1.b))),(2,some (.own 2 (.l 1 eStr out2)))],3⟩:St)) j) (jJ23_2 r1X r1 out out1 r2) (.seq (.reg [(1,kh11l r1X 1 r1.b r2 3)]) (.cond (.reg [(1,kh39l out1 w75_)]) .no)) (fun j=>(fun (out2:List Za)=>(.seq (.reg [(1,kh11l r1X 1 r1.b (F11 ⟨r1.b,r2⟩ 3).2 7)]) (.cut (ι:=Int) (fun j=>(fun (n:Int)=>(⟨[(0,some (.p 0 0)),(3,some (.h 2 0)),(4,some (.v (vI n)))],[(0,some (.box 49 [.h 1 0,.v (vI (F11 ⟨r1.b,(F11 ⟨r1.b,(F11 ⟨r1.b,r2⟩ 3).2⟩ 7).2⟩ 9).2)])),(1,some (.vl (sv r1X) (.l 1 eByte r1.b))),(2,some (.own 2 (.l 1 eStr out2)))],3⟩:St)) j) (jJ23_3 r1X r1 out out1 r2 out2) (.seq (.reg [(1,kh11l r1X 1 r1.b (F11 ⟨r1.b,(F11 ⟨r1.b,r2⟩ 3).2⟩ 7).2 9)]) (.cond .no .no)) (fun j=>(fun (n:Int)=>(.seq (.blk (.loop (ι:=Nat×(List Za×Int×Int)) (fun i=>(fun (out3:List Za) (n1:Int) (r3:Int)=>(⟨[(0,some (.p 0 0)),(3,some (.h 2 0)),(4,some (.v (vI n1)))],[(0,some (.box 49 [.h 1 0,.v (vI r3)])),(1,some (.vl (sv r1X) (.l 1 eByte r1.b))),(2,some (.own 2 (.l 1 eStr out3)))],3⟩:St)) i.2.1 i.2.2.1 i.2.2.2) (lJ23_0 r1 out out1 r2 out2 n) (fun i=>i.1) (lN23_0 r1 r2 out2 n) (fun i=>(fun (out3:List Za) (n1:Int) (r3:Int)=>(.seq (.seq .no (.cond .no .no)) (.seq (.blk (.reg [(2,kh24l r1X 1 r1.b r3),(3,.call 39 (S39 out3 (F24 ⟨r1.b,r3⟩).1) (ok39 out3 (F24 ⟨r1.b,r3⟩).1) none)])) (.reg [(1,.bnd)])))) i.2.1 i.2.2.1 i.2.2.2))) (.seq .no .no))) j)))) j))) j.1 j.2))) j)))) Tryz.func23 (fun (hp:0<=r1.p/\r1.p<=800000000/\r1.b.length<=2000)=>have hpre0:=hp.1; have hpre1:=hp.2.1; have hpre2:=hp.2.2; kn r1.b fun _=>ai (bokr 1 eStr Xn fun _=>rfl) (ai (kc11l r1X r1.b r1.p 3 uu0 uu0 uu0 uu0 uu0 (fun gv1=>have gv2:(F11 ⟨r1.b,r1.p⟩ 3).1<(3:Int):=uu19; ifd ((F11 ⟨r1.b,r1.p⟩ 3).1>0) (fun h3 _=>kc39l Xn w72_ (by exact cq_base) uu43 (by exact cq_base) uu43 (fun gv4=>jn23_0 r1X r1 (F39 Xn w72_) (Tk (condT h3 rfl)) uu7)) (fun h3 _=>jn23_0 r1X r1 Xn (Tk (condF h3 rfl)) (by refine ⟨?_,?_⟩ <;> first | omega | (simp only [lens,ib] at*<;> omega) | assumption | exact cq_base | omega)))) (fun (j:List Za) (hj:jJ23_0 r1X r1 j)=>(fun (out:List Za) (hJ0_5:(F23_j0 r1)=Lp.done out) (hw:jI23_0 r1X r1 out)=>have _:=hw.1; have _:=hw.2; ai (kc11l r1X r1.b (F11 ⟨r1.b,r1.p⟩ 3).2 3 uu0 uu0 uu0 uu0 uu0 (fun gv6=>have gv7:(F11 ⟨r1.b,(F11 ⟨r1.b,r1.p⟩ 3).2⟩ 3).1<(3:Int):=uu19; ifd ((F11 ⟨r1.b,(F11 ⟨r1.b,r1.p⟩ 3).2⟩ 3).1>0) (fun h8 _=>ai (bokr 1 eStr Xx fun _=>rfl) (kc29l r1X r1.b (F11 ⟨r1.b,(F11 ⟨r1.b,r1.p⟩ 3).2⟩ 3).2 Xx uu0 uu0 uu0 uu1 uu1 uu0 uu0 uu1 (fun gv9=>ai (by (apply sumLe; (· repeat (first | (exact (by assumption:tail.size<=100)) | apply app_le | exact of_le (n:=80) _ _ (by decide) | exact prefix_le _ | exact addr_le _ | exact lit_le _)); (· repeat (first | (exact (by assumption:tail.size<=100)) | apply app_le | exact of_le (n:=80) _ _ (by decide) | exact prefix_le _ | exact addr_le _ | exact lit_le _)); decide):((w74_.size+(F29 ⟨r1.b,(F11 ⟨r1.b,(F11 ⟨r1.b,r1.p⟩ 3).2⟩ 3).2⟩ Xx).1.size:Nat):Int)<=9223372036854775807) (ai (ai (uu17:CQ out) (uu68:(w74_++(F29 ⟨r1.b,(F11 ⟨r1.b,(F11 ⟨r1.b,r1.p⟩ 3).2⟩ 3).2⟩ Xx).1).size<=900)) (ai (Imp.refl (.l 1 eStr out)) (ai (Imp.refl (.v (.string (w74_++(F29 ⟨r1.b,(F11 ⟨r1.b,(F11 ⟨r1.b,r1.p⟩ 3).2⟩ 3).2⟩ Xx).1)))) (have gv10:CQ (F39 out (w74_++(F29 ⟨r1.b,(F11 ⟨r1.b,(F11 ⟨r1.b,r1.p⟩ 3).2⟩ 3).2⟩ Xx).1)):=try_cq out (w74_++(F29 ⟨r1.b,(F11 ⟨r1.b,(F11 ⟨r1.b,r1.p⟩ 3).2⟩ 3).2⟩ Xx).1) (uu17:CQ out) (uu68:(w74_++(F29 ⟨r1.b,(F11 ⟨r1.b,(F11 ⟨r1.b,r1.p⟩ 3).2⟩ 3).2⟩ Xx).1).size<=900); jn23_1 r1X r1 out (F39 out (w74_++(F29 ⟨r1.b,(F11 ⟨r1.b,(F11 ⟨r1.b,r1.p⟩ 3).2⟩ 3).2⟩ Xx).1)) (F29 ⟨r1.b,(F11 ⟨r1.b,(F11 ⟨r1.b,r1.p⟩ 3).2⟩ 3).2⟩ Xx).2 (Tk (condT h8 rfl)) uu27))))))) (fun h8 _=>jn23_1 r1X r1 out out (F11 ⟨r1.b,(F11 ⟨r1.b,r1.p⟩ 3).2⟩ 3).2 (Tk (condF h8 rfl)) uu27))) (fun (j:List Za×Int) (hj:jJ23_1 r1X r1 out j)=>(fun (out1:List Za) (r2:Int) (hJ1_11:(F23_j1 r1 out)=Lp.done (out1,r2)) (hw:jI23_1 r1X r1 out out1 r2)=>have _:=hw.1; have _:=hw.2.1; have _:=hw.2.2; ai (kc11l r1X r1.b r2 3 uu0 uu0 uu0 uu0 uu0 (fun gv12=>have gv13:(F11 ⟨r1.b,r2⟩ 3).1<(3:Int):=uu19; ife (F11 ⟨r1.b,r2⟩ 3).1 0 (fun h14 _=>kc39l out1 w75_ uu17 uu43 uu17 uu43 (fun gv15=>jn23_2 r1X r1 out out1 r2 (F39 out1 w75_) (Tk (condT h14 rfl)) uu7)) (fun h14 _=>jn23_2 r1X r1 out out1 r2 out1 (Tk (condF h14 rfl)) uu7))) (fun (j:List Za) (hj:jJ23_2 r1X r1 out out1 r2 j)=>(fun (out2:List Za) (hJ2_16:(F23_j2 r1 out out1 r2)=Lp.done out2) (hw:jI23_2 r1X r1 out out1 r2 out2)=>have _:=hw.1; have _:=hw.2; kc11l r1X r1.b (F11 ⟨r1.b,r2⟩ 3).2 7 uu0 uu0 uu0 uu0 uu0 (fun gv17=>have gv18:(F11 ⟨r1.b,(F11 ⟨r1.b,r2⟩ 3).2⟩ 7).1<(7:Int):=uu19; ai (kc11l r1X r1.b (F11 ⟨r1.b,(F11 ⟨r1.b,r2⟩ 3).2⟩ 7).2 9 uu0 uu0 uu0 uu0 uu0 (fun gv19=>have gv20:(F11 ⟨r1.b,(F11 ⟨r1.b,(F11 ⟨r1.b,r2⟩ 3).2⟩ 7).2⟩ 9).1<(9:Int):=uu19; ife (F11 ⟨r1.b,(F11 ⟨r1.b,(F11 ⟨r1.b,r2⟩ 3).2⟩ 7).2⟩ 9).1 0 (fun h21 _=>jn23_3 r1X r1 out out1 r2 out2 40 (Tk (condT h21 rfl)) uu27) (fun h21 _=>jn23_3 r1X r1 out out1 r2 out2 (F11 ⟨r1.b,(F11 ⟨r1.b,r2⟩ 3).2⟩ 7).1 (Tk (condF h21 rfl)) uu27))) (fun (j:Int) (hj:jJ23_3 r1X r1 out out1 r2 out2 j)=>(fun (n:Int) (hJ3_22:(F23_j3 r1 out out1 r2 out2)=Lp.done n) (hw:jI23_3 r1X r1 out out1 r2 out2 n)=>have _:=hw.1; have _:=hw.2.1; have _:=hw.2.2; ai (en23_0 r1X r1 out out1 r2 out2 n uu42) (fun (i0:Nat×(List Za×Int×Int)) (hi0:lJ23_0 r1 out out1 r2 out2 n i0)=>(fun (m0:Nat) (out3:List Za) (n1:Int) (r3:Int) (hh0:lH23_0 r1 out out1 r2 out2 n i0 m0 out3 n1 r3)=>have hI0:=hh0.1; have hl0:=hh0.2.1; have _:=hh0.2.2.1; have _:=hh0.2.2.2.1; have _:=hh0.2.2.2.2.1; have _:=hh0.2.2.2.2.2.1; have _:=hh0.2.2.2.2.2.2; ifd (n1>0) (fun h24 _=>kc24l r1X r1.b r3 uu0 uu0 uu0 uu0 uu0 (fun gv25=>ai (ai (uu17:CQ out3) (uu0:(F24 ⟨r1.b,r3⟩).1.size<=900)) (ai (Imp.refl (.l 1 eStr out3)) (ai (Imp.refl (.v (.string (F24 ⟨r1.b,r3⟩).1))) (have gv26:CQ (F39 out3 (F24 ⟨r1.b,r3⟩).1):=try_cq out3 (F24 ⟨r1.b,r3⟩).1 (uu17:CQ out3) (uu0:(F24 ⟨r1.b,r3⟩).1.size<=900); ai (iok (n1-1) uu0) (bk23_0 r1X r1 out out1 r2 out2 n i0 m0 (F39 out3 (F24 ⟨r1.b,r3⟩).1) (n1-1) (F24 ⟨r1.b,r3⟩).2 hl0 (runL_next hI0 (condT h24 rfl)) uu28)))))) (fun h24 _=>have hD0_27:lX23_0 r1 out out1 r2 out2 n=Lp.done (out3,n1,r3):=runL_done hI0 (condF h24 rfl); (fun hF:(out3,r3)=(F23 r1)=>ai (Imp.of_eq (Qg (fun r:List Za×Int=>Dat.l 1 eStr r.1) hF)) (ai (ai (Imp.refl (Dat.v (sv r1X))) (ai (Imp.of_eq (Qg (fun r:List Za×Int=>Dat.v (vI r.2)) hF)) trivial)) trivial)) (finD hJ0_5 (finD hJ1_11 (finD hJ2_16 (finD hJ3_22 (finD hD0_27 rfl))))))) (i0.1-1) i0.2.1 i0.2.2.1 i0.2.2.2 (un23_0 r1 out out1 r2 out2 n i0 hi0))) j hj.1 hj.2))) j hj.1 hj.2)) j.1 j.2 hj.1 hj.2)) j hj.1 hj.2))) uu2
theorem conf_loop (r1:l51Rd) (out out1:List Za) (r2:Int) (out2:List Za) (n:Int) (N:Nat) (xs:List Za) (r:Int) (h:CQ xs):∃ ys r',runL (F23_s0 r1 out out1 r2 out2 n) (Int.toNat ((N:Int)-0)+1) (xs,(N:Int),r)=.done (ys,0,r')/\CQ ys/\r<=r'/\r'<=r+9*N:=by
 have h:=runL_rule (step:=F23_s0 r1 out out1 r2 out2 n) (fun (k:Nat) (s:List Za×Int)=>(s.1,((N:Int)-(k:Int)),s.2)) N (fun k s=>CQ s.1/\r<=s.2/\s.2<=r+9*k) (fun _=>False)
  (fun k s hk hs=>.inl ⟨(F39 s.1 (F24 (⟨r1.b,s.2⟩:l51Rd)).1,(F24 (⟨r1.b,s.2⟩:l51Rd)).2),by
   simp only [F23_s0]
   rw [Qs (show (N:Int)-(k:Int)>0 by omega),Qc,show (N:Int)-((k+1:Nat):Int)=(N:Int)-(k:Int)-1 by omega],by
   obtain ⟨h1,h2,h3⟩:=dline_all (⟨r1.b,s.2⟩:l51Rd)
   have h2:s.2<=(F24 (⟨r1.b,s.2⟩:l51Rd)).2:=h2
   have h3:(F24 (⟨r1.b,s.2⟩:l51Rd)).2<=s.2+9:=h3
   exact ⟨try_cq _ _ hs.1 h1,by have:=hs.2.1; show r<=(F24 (⟨r1.b,s.2⟩:l51Rd)).2; omega,by have:=hs.2.2; show (F24 (⟨r1.b,s.2⟩:l51Rd)).2<=r+9*((k+1:Nat):Int); omega⟩⟩)
  (fun s hs=>by
   simp only [F23_s0]
   rw [Qq uu0,Qh]) N 0 (xs,r) uu0 ⟨h,by show r<=r; omega,by show r<=r+9*((0:Nat):Int); omega⟩ (Int.toNat ((N:Int)-0)+1) uu0
 rcases h with ⟨s',e1,h1,h2,h3⟩ | ⟨_,_,hr⟩
 ·refine ⟨s'.1,s'.2,?_,h1,h2,h3⟩
  rw [show (N:Int)-((0:Nat):Int)=(N:Int) by omega,show (N:Int)-(N:Int)=0 by omega] at e1
  exact e1
 ·exact hr.elim
theorem conf_j0 (r1:l51Rd):∃ out,F23_j0 r1=Lp.done out/\CQ out:=by
 unfold F23_j0
 cases decide ((F11 (⟨r1.b,r1.p⟩:l51Rd) 3).1>0)
 ·exact ⟨_,rfl,cq_base⟩
 ·exact ⟨_,rfl,try_cq _ _ cq_base (szLe (lit_le _) uu1)⟩
theorem conf_j1 (r1:l51Rd) (out:List Za) (h:CQ out):∃ out1 r2,F23_j1 r1 out=Lp.done (out1,r2)/\CQ out1/\r1.p<=r2/\r2<=r1.p+3:=by
 unfold F23_j1
 cases decide ((F11 (⟨r1.b,(F11 (⟨r1.b,r1.p⟩:l51Rd) 3).2⟩:l51Rd) 3).1>0)
 ·refine ⟨_,_,rfl,h,?_,?_⟩ <;> (simp only [pick_p]; omega)
 ·refine ⟨_,_,rfl,try_cq _ _ h (szLe (app_le (lit_le _) (of_le (n:=80) _ _ uu1)) uu1),?_,?_⟩ <;> (simp only [of_p,pick_p]; omega)
theorem conf_j2 (r1:l51Rd) (out out1:List Za) (r2:Int) (h:CQ out1):∃ out2,F23_j2 r1 out out1 r2=Lp.done out2/\CQ out2:=by
 unfold F23_j2
 cases ((F11 (⟨r1.b,r2⟩:l51Rd) 3).1==0)
 ·exact ⟨_,rfl,h⟩
 ·exact ⟨_,rfl,try_cq _ _ h (szLe (lit_le _) uu1)⟩
theorem conf_j3 (r1:l51Rd) (out out1:List Za) (r2:Int) (out2:List Za) (h0:0<=r2) (h1:r2<=900000000):∃ N:Nat,F23_j3 r1 out out1 r2 out2=Lp.done (N:Int)/\N<=40:=by
 unfold F23_j3
 cases ((F11 (⟨r1.b,(F11 (⟨r1.b,(F11 (⟨r1.b,r2⟩:l51Rd) 3).2⟩:l51Rd) 7).2⟩:l51Rd) 9).1==0)
 ·obtain ⟨k1,k2,k3⟩:=pick_in (⟨r1.b,(F11 (⟨r1.b,r2⟩:l51Rd) 3).2⟩:l51Rd) 7 uu20 uu20
  have k2:=k2 uu1
  refine ⟨((F11 (⟨r1.b,(F11 (⟨r1.b,r2⟩:l51Rd) 3).2⟩:l51Rd) 7).1).toNat,?_,by omega⟩
  rw [Int.toNat_of_nonneg k1]; rfl
 ·exact ⟨40,rfl,Qp _⟩
theorem conf_q (r1:l51Rd) (h0:0<=r1.p) (h1:r1.p<=800000000):CQ (F23 r1).1/\0<=(F23 r1).2/\(F23 r1).2<=r1.p+400:=by
 obtain ⟨out,e0,c0⟩:=conf_j0 r1
 obtain ⟨out1,r2,e1,c1,p1,p2⟩:=conf_j1 r1 out c0
 obtain ⟨out2,e2,c2⟩:=conf_j2 r1 out out1 r2 c1
 obtain ⟨N,e3,hN⟩:=conf_j3 r1 out out1 r2 out2 uu0 uu0
 obtain ⟨ys,r',e4,c4,p3,p4⟩:=conf_loop r1 out out1 r2 out2 (N:Int) N out2 (F11 (⟨r1.b,(F11 (⟨r1.b,(F11 (⟨r1.b,r2⟩:l51Rd) 3).2⟩:l51Rd) 7).2⟩:l51Rd) 9).2 c2
 unfold F23
 rw [e0]
 simp only [Lp.fin]
 rw [e1]
 simp only [Lp.fin]
 rw [e2]
 simp only [Lp.fin]
 rw [e3]
 simp only [Lp.fin]
 rw [e4]
 simp only [pick_p] at p3 p4
 refine ⟨c4,?_,?_⟩
 ·show 0<=r'; omega
 ·show r'<=r1.p+400; omega
theorem kc28a (list:List Za) {K_:Prop} (p0_:list.length<=1000000000) (k_:K_):(list.length<=1000000000)/\(Imp (.l 1 eStr list) (.l 1 eStr list))/\K_:=⟨p0_,Imp.refl _,k_⟩
abbrev kh28a (list:List Za):Hint true Tryz.prog:=.call 28 (S28 list list) (oa28 list) none
def F10_j2 (r1:l51Rd) (lines:List Za) (out:List Za) (n:Int) (r2:Int):Lp (List Za) (List Za×Int) :=
 bif (decide ((F25 out (F26 (F24 ⟨r1.b,(F11 ⟨r1.b,r2⟩ 3).2⟩).1))>=0)) then (.done (F27 out (F25 out (F26 (F24 ⟨r1.b,(F11 ⟨r1.b,r2⟩ 3).2⟩).1)))) else (.done out)
def F10_s0 (r1:l51Rd) (lines:List Za):(List Za×Int×Int)->Lp (List Za×Int×Int) (List Za×Int):=fun (out,n,r2) =>
 bif (decide (n>0)) then (bif (bif ((F11 ⟨r1.b,r2⟩ 3).1==0) then decide ((out.length:Int)>0) else false) then (.next ((F27 out (F11 ⟨r1.b,(F11 ⟨r1.b,r2⟩ 3).2⟩ (out.length:Int)).1),(n-1),(F11 ⟨r1.b,(F11 ⟨r1.b,r2⟩ 3).2⟩ (out.length:Int)).2)) else ((F10_j2 r1 lines out n r2).fin Lp.ret (fun out1=>bif (decide ((out1.length:Int)<16)) then (.next ((F22 out1 (F24 ⟨r1.b,(F11 ⟨r1.b,r2⟩ 3).2⟩).1),(n-1),(F24 ⟨r1.b,(F11 ⟨r1.b,r2⟩ 3).2⟩).2)) else (.next (out1,(n-1),(F24 ⟨r1.b,(F11 ⟨r1.b,r2⟩ 3).2⟩).2))))) else (.done (out,n,r2))
def F10 (r1:l51Rd) (lines:List Za):List Za×Int :=
 (runL (F10_s0 r1 lines) ((Int.toNat ((F11 ⟨r1.b,r1.p⟩ 4).1-0))+1) (lines,(F11 ⟨r1.b,r1.p⟩ 4).1,(F11 ⟨r1.b,r1.p⟩ 4).2)).fin (fun r=>r) (fun (out,n,r2)=>(out,r2))
abbrev jI10_2 (r1X:SV) (r1:l51Rd) (lines:List Za) (out:List Za) (n:Int) (r2:Int) (out1:List Za):Prop:=LQ out1/\True
abbrev jJ10_2 (r1X:SV) (r1:l51Rd) (lines:List Za) (out:List Za) (n:Int) (r2:Int) (j:List Za):Prop:=(F10_j2 r1 lines out n r2)=Lp.done j/\jI10_2 r1X r1 lines out n r2 j
theorem jn10_2 (r1X:SV) (r1:l51Rd) (lines:List Za) (out:List Za) (n:Int) (r2:Int) (out1:List Za) (e:(F10_j2 r1 lines out n r2)=Lp.done out1) (h:jI10_2 r1X r1 lines out n r2 out1):∃ j:List Za,((.int .i64 n:Value)=.int .i64 n)/\((.string (F24 ⟨r1.b,(F11 ⟨r1.b,r2⟩ 3).2⟩).1:Value)=.string (F24 ⟨r1.b,(F11 ⟨r1.b,r2⟩ 3).2⟩).1)/\((.int .i64 (F24 ⟨r1.b,(F11 ⟨r1.b,r2⟩ 3).2⟩).2:Value)=.int .i64 (F24 ⟨r1.b,(F11 ⟨r1.b,r2⟩ 3).2⟩).2)/\((sv r1X:Value)=sv r1X)/\(Imp (.l 1 eByte r1.b) (.l 1 eByte r1.b))/\(Imp (.l 1 eStr out1) (.l 1 eStr j))/\jJ10_2 r1X r1 lines out n r2 j:=⟨out1,rfl,rfl,rfl,rfl,Imp.refl _,Imp.refl _,e,h⟩
abbrev lN10_0 (r1:l51Rd) (lines:List Za):Nat×(List Za×Int×Int):=(((Int.toNat ((F11 ⟨r1.b,r1.p⟩ 4).1-0))+1),(lines,(F11 ⟨r1.b,r1.p⟩ 4).1,(F11 ⟨r1.b,r1.p⟩ 4).2))
abbrev lI10_0 (r1:l51Rd) (m39:Nat) (out:List Za) (n:Int) (r2:Int):Prop:=Int.toNat (n-0)<m39/\LQ out/\0<=r2/\r2+11*n<=r1.p+50/\n<=3
abbrev lX10_0 (r1:l51Rd) (lines:List Za):Lp (List Za×Int×Int) (List Za×Int):=LpX (F10_s0 r1 lines) (lN10_0 r1 lines)
abbrev lJ10_0 (r1:l51Rd) (lines:List Za) (i:Nat×(List Za×Int×Int)):Prop:=LpJ (F10_s0 r1 lines) (lN10_0 r1 lines) i (lI10_0 r1 i.1 i.2.1 i.2.2.1 i.2.2.2)
abbrev lH10_0 (r1:l51Rd) (lines:List Za) (i:Nat×(List Za×Int×Int)) (m39:Nat) (out:List Za) (n:Int) (r2:Int):Prop:=LpH (F10_s0 r1 lines) (lN10_0 r1 lines) i m39 (out,n,r2) (lI10_0 r1 (m39+1) out n r2)
abbrev lE10_0 (r1X:SV) (r1:l51Rd) (out:List Za) (n:Int) (r2:Int) (out_:List Za) (n_:Int) (r2_:Int) (K39:Prop):Prop:=((.int .i64 n:Value)=.int .i64 n_)/\((.int .i64 r2:Value)=.int .i64 r2_)/\(Rf (sv r1X))/\(Im (.l 1 eByte r1.b))/\(Imp (.l 1 eStr out) (.l 1 eStr out_))/\K39
theorem un10_0 (r1:l51Rd) (lines:List Za) (i:Nat×(List Za×Int×Int)) (h:lJ10_0 r1 lines i):lH10_0 r1 lines i (i.1-1) i.2.1 i.2.2.1 i.2.2.2:=⟨hd1 h.1 h.2.1,hd3 h.2.1,hd2 h.2.1,h.2.2⟩
theorem bk10_0 (r1X:SV) (r1:l51Rd) (lines:List Za) (i:Nat×(List Za×Int×Int)) (m39:Nat) (out:List Za) (n:Int) (r2:Int) (hl:m39<i.1) (e:runL (F10_s0 r1 lines) m39 (out,n,r2)=lX10_0 r1 lines) (h:lI10_0 r1 m39 out n r2):∃ j:Nat×(List Za×Int×Int),lE10_0 r1X r1 out n r2 j.2.1 j.2.2.1 j.2.2.2 (lJ10_0 r1 lines j/\j.1<i.1):=⟨(m39,(out,n,r2)),rfl,rfl,rfl,Imp.refl _,Imp.refl _,⟨e,h⟩,hl⟩
theorem en10_0 (r1X:SV) (r1:l51Rd) (lines:List Za) (h:LQ lines/\0<=(F11 ⟨r1.b,r1.p⟩ 4).2/\(F11 ⟨r1.b,r1.p⟩ 4).2+11*(F11 ⟨r1.b,r1.p⟩ 4).1<=r1.p+50/\(F11 ⟨r1.b,r1.p⟩ 4).1<=3):lE10_0 r1X r1 lines (F11 ⟨r1.b,r1.p⟩ 4).1 (F11 ⟨r1.b,r1.p⟩ 4).2 lines (F11 ⟨r1.b,r1.p⟩ 4).1 (F11 ⟨r1.b,r1.p⟩ 4).2 (lJ10_0 r1 lines (lN10_0 r1 lines)):=⟨rfl,rfl,rfl,Imp.refl _,Imp.refl _,rfl,Qt _,h⟩
def S10 (r1X:SV) (gr1:Nat) (r1:l51Rd) (lines:List Za):Spec:=⟨[.ptg gr1 49 (sv r1X) (.l 1 eByte r1.b) [.v (vI r1.p)] [.v (vI (F10 r1 lines).2)],.r (.c (.l 1 eStr lines))],.ow (.l 1 eStr (F10 r1 lines).1),0<=r1.p/\r1.p<=800000000/\r1.b.length<=2000/\LQ lines⟩
theorem ok10 (r1X:SV) (gr1:Nat) (r1:l51Rd) (lines:List Za):(S10 r1X gr1 r1 lines).ok Tryz.prog 10 :=
 fnG_ok mixed (fn:=Tryz.f10) (ct:=.seqk [(0,0),(1,0)] .no (.seq (.reg [(1,kh28a lines)]) (.seq (.seqk [(0,0),(5,0)] (.reg [(1,kh11l r1X 0 r1.b r1.p 4)]) (.blk (.loop (ι:=Nat×(List Za×Int×Int)) (fun i=>(fun (out:List Za) (n:Int) (r2:Int)=>(⟨[(0,some (.p 0 0)),(5,some (.h 2 0)),(6,some (.v (vI n)))],[(0,some (.box 49 [.h 1 0,.v (vI r2)])),(1,some (.vl (sv r1X) (.l 1 eByte r1.b))),(2,some (.own 2 (.l 1 eStr out)))],3⟩:St)) i.2.1 i.2.2.1 i.2.2.2) (lJ10_0 r1 lines) (fun i=>i.1) (lN10_0 r1 lines) (fun i=>(fun (out:List Za) (n:Int) (r2:Int)=>(.seq (.seq .no (.cond .no .no)) (.seq (.blk (.seq (.seq (.reg [(1,kh11l r1X 1 r1.b r2 3)]) (.cond (.seq (.reg [(4,kh11l r1X 1 r1.b (F11 ⟨r1.b,r2⟩ 3).2 (out.length:Int)),(5,.call 27 (S27 out (F11 ⟨r1.b,(F11 ⟨r1.b,r2⟩ 3).2⟩ (out.length:Int)).1) (ok27 out (F11 ⟨r1.b,(F11 ⟨r1.b,r2⟩ 3).2⟩ (out.length:Int)).1) none)]) .no) .no)) (.seq (.reg [(1,kh24l r1X 1 r1.b (F11 ⟨r1.b,r2⟩ 3).2)]) (.seq (.reg [(2,.call 26 (S26 (F24 ⟨r1.b,(F11 ⟨r1.b,r2⟩ 3).2⟩).1) (ok26 (F24 ⟨r1.b,(F11 ⟨r1.b,r2⟩ 3).2⟩).1) none),(3,.call 25 (S25 out (F26 (F24 ⟨r1.b,(F11 ⟨r1.b,r2⟩ 3).2⟩).1)) (ok25 out (F26 (F24 ⟨r1.b,(F11 ⟨r1.b,r2⟩ 3).2⟩).1)) none)]) (.cut (ι:=List Za) (fun j=>(fun (out1:List Za)=>(⟨[(0,some (.p 0 0)),(5,some (.h 2 0)),(6,some (.v (vI n))),(7,some (.v (.string (F24 ⟨r1.b,(F11 ⟨r1.b,r2⟩ 3).2⟩).1)))],[(0,some (.box 49 [.h 1 0,.v (vI (F24 ⟨r1.b,(F11 ⟨r1.b,r2⟩ 3).2⟩).2)])),(1,some (.vl (sv r1X) (.l 1 eByte r1.b))),(2,some (.own 2 (.l 1 eStr out1)))],3⟩:St)) j) (jJ10_2 r1X r1 lines out n r2) (.seq .no (.cond (.reg [(2,.call 27 (S27 out (F25 out (F26 (F24 ⟨r1.b,(F11 ⟨r1.b,r2⟩ 3).2⟩).1))) (ok27 out (F25 out (F26 (F24 ⟨r1.b,(F11 ⟨r1.b,r2⟩ 3).2⟩).1))) none)]) .no)) (fun j=>(fun (out1:List Za)=>(.seq .no (.cond (.reg [(2,.call 22 (S22 out1 (F24 ⟨r1.b,(F11 ⟨r1.b,r2⟩ 3).2⟩).1) (ok22 out1 (F24 ⟨r1.b,(F11 ⟨r1.b,r2⟩ 3).2⟩).1) none)]) .no))) j)))))) (.reg [(1,.bnd)])))) i.2.1 i.2.2.1 i.2.2.2)))) (.seq .no .no)))) Tryz.func10 (fun (hp:0<=r1.p/\r1.p<=800000000/\r1.b.length<=2000/\LQ lines)=>have hpre0:=hp.1; have hpre1:=hp.2.1; have hpre2:=hp.2.2.1; have hpre3:=hp.2.2.2; kn r1.b fun _=>kn lines fun _=>kc28a lines uu37 (kc11l r1X r1.b r1.p 4 uu0 uu0 uu0 uu0 uu0 (fun gv1=>have gv2:(F11 ⟨r1.b,r1.p⟩ 4).1<(4:Int):=uu19; kn r1.b fun _=>kn lines fun _=>ai (en10_0 r1X r1 lines uu42) (fun (i0:Nat×(List Za×Int×Int)) (hi0:lJ10_0 r1 lines i0)=>(fun (m0:Nat) (out:List Za) (n:Int) (r2:Int) (hh0:lH10_0 r1 lines i0 m0 out n r2)=>have hI0:=hh0.1; have hl0:=hh0.2.1; have _:=hh0.2.2.1; have _:=hh0.2.2.2.1; have _:=hh0.2.2.2.2.1; have _:=hh0.2.2.2.2.2.1; have _:=hh0.2.2.2.2.2.2; ifd (n>0) (fun h4 _=>kc11l r1X r1.b r2 3 uu0 uu0 uu0 uu0 uu0 (fun gv5=>have gv6:(F11 ⟨r1.b,r2⟩ 3).1<(3:Int):=uu19; ifb (bif ((F11 ⟨r1.b,r2⟩ 3).1==0) then decide ((out.length:Int)>0) else false) (fun h7=>have _:=eq_of_beq (andT1 h7); have _:=Qb (andT2 h7); kc11l r1X r1.b (F11 ⟨r1.b,r2⟩ 3).2 (out.length:Int) uu0 uu0 uu0 uu0 uu0 (fun gv8=>have gv9:(F11 ⟨r1.b,(F11 ⟨r1.b,r2⟩ 3).2⟩ (out.length:Int)).1<(out.length:Int):=uu19; ai (ai (uu0:0<=(F11 ⟨r1.b,(F11 ⟨r1.b,r2⟩ 3).2⟩ (out.length:Int)).1) (ai (uu0:(F11 ⟨r1.b,(F11 ⟨r1.b,r2⟩ 3).2⟩ (out.length:Int)).1<(out.length:Int)) (uu29:out.length<=1048576))) (ai (Imp.refl (.l 1 eStr out)) (ai (Imp.refl (.v (vI (F11 ⟨r1.b,(F11 ⟨r1.b,r2⟩ 3).2⟩ (out.length:Int)).1))) (have gv10:(F27 out (F11 ⟨r1.b,(F11 ⟨r1.b,r2⟩ 3).2⟩ (out.length:Int)).1).length+1=out.length:=without_len out (F11 ⟨r1.b,(F11 ⟨r1.b,r2⟩ 3).2⟩ (out.length:Int)).1 (uu0:0<=(F11 ⟨r1.b,(F11 ⟨r1.b,r2⟩ 3).2⟩ (out.length:Int)).1) (uu0:(F11 ⟨r1.b,(F11 ⟨r1.b,r2⟩ 3).2⟩ (out.length:Int)).1<(out.length:Int)) (uu29:out.length<=1048576); have gv11:∀ q:Nat,((F27 out (F11 ⟨r1.b,(F11 ⟨r1.b,r2⟩ 3).2⟩ (out.length:Int)).1).getD q default).size<=1048576:=without_sz out (F11 ⟨r1.b,(F11 ⟨r1.b,r2⟩ 3).2⟩ (out.length:Int)).1 (uu22:∀ q:Nat,(out.getD q default).size<=1048576); ai (iok (n-1) uu0) (bk10_0 r1X r1 lines i0 m0 (F27 out (F11 ⟨r1.b,(F11 ⟨r1.b,r2⟩ 3).2⟩ (out.length:Int)).1) (n-1) (F11 ⟨r1.b,(F11 ⟨r1.b,r2⟩ 3).2⟩ (out.length:Int)).2 hl0 (runL_next hI0 (condT h4 (condT h7 rfl))) uu56)))))) (fun h7=>kc24l r1X r1.b (F11 ⟨r1.b,r2⟩ 3).2 uu0 uu0 uu0 uu0 uu0 (fun gv12=>ai (uu0:(F24 ⟨r1.b,(F11 ⟨r1.b,r2⟩ 3).2⟩).1.size<=1048576) (ai (Imp.refl (.v (.string (F24 ⟨r1.b,(F11 ⟨r1.b,r2⟩ 3).2⟩).1))) (ai (uu22:∀ k:Nat,(out.getD k default).size<=1048576) (ai (Imp.refl (.l 1 eStr out)) (ai (Imp.refl (.v (.string (F26 (F24 ⟨r1.b,(F11 ⟨r1.b,r2⟩ 3).2⟩).1)))) (ai (ifd ((F25 out (F26 (F24 ⟨r1.b,(F11 ⟨r1.b,r2⟩ 3).2⟩).1))>=0) (fun h13 _=>ai (ai (uu0:0<=(F25 out (F26 (F24 ⟨r1.b,(F11 ⟨r1.b,r2⟩ 3).2⟩).1))) (ai (uu36:(F25 out (F26 (F24 ⟨r1.b,(F11 ⟨r1.b,r2⟩ 3).2⟩).1))<(out.length:Int)) (uu29:out.length<=1048576))) (ai (Imp.refl (.l 1 eStr out)) (ai (Imp.refl (.v (vI (F25 out (F26 (F24 ⟨r1.b,(F11 ⟨r1.b,r2⟩ 3).2⟩).1))))) (have gv14:(F27 out (F25 out (F26 (F24 ⟨r1.b,(F11 ⟨r1.b,r2⟩ 3).2⟩).1))).length+1=out.length:=without_len out (F25 out (F26 (F24 ⟨r1.b,(F11 ⟨r1.b,r2⟩ 3).2⟩).1)) (uu0:0<=(F25 out (F26 (F24 ⟨r1.b,(F11 ⟨r1.b,r2⟩ 3).2⟩).1))) (uu36:(F25 out (F26 (F24 ⟨r1.b,(F11 ⟨r1.b,r2⟩ 3).2⟩).1))<(out.length:Int)) (uu29:out.length<=1048576); have gv15:∀ q:Nat,((F27 out (F25 out (F26 (F24 ⟨r1.b,(F11 ⟨r1.b,r2⟩ 3).2⟩).1))).getD q default).size<=1048576:=without_sz out (F25 out (F26 (F24 ⟨r1.b,(F11 ⟨r1.b,r2⟩ 3).2⟩).1)) (uu22:∀ q:Nat,(out.getD q default).size<=1048576); jn10_2 r1X r1 lines out n r2 (F27 out (F25 out (F26 (F24 ⟨r1.b,(F11 ⟨r1.b,r2⟩ 3).2⟩).1))) (Tk (condT h13 rfl)) uu69)))) (fun h13 _=>jn10_2 r1X r1 lines out n r2 out (Tk (condF h13 rfl)) uu51)) (fun (j:List Za) (hj:jJ10_2 r1X r1 lines out n r2 j)=>(fun (out1:List Za) (hJ2_16:(F10_j2 r1 lines out n r2)=Lp.done out1) (hw:jI10_2 r1X r1 lines out n r2 out1)=>have _:=hw.1; ifd ((out1.length:Int)<16) (fun h17 _=>ai (ai (uu0:out1.length<=1048576) (uu22:∀ k:Nat,(out1.getD k default).size<=1048576)) (ai (Imp.refl (.l 1 eStr out1)) (ai (Imp.refl (.v (.string (F24 ⟨r1.b,(F11 ⟨r1.b,r2⟩ 3).2⟩).1))) (have gv18:(F22 out1 (F24 ⟨r1.b,(F11 ⟨r1.b,r2⟩ 3).2⟩).1).length=out1.length+1:=put_len out1 (F24 ⟨r1.b,(F11 ⟨r1.b,r2⟩ 3).2⟩).1; have gv19:∀ k:Nat,((F22 out1 (F24 ⟨r1.b,(F11 ⟨r1.b,r2⟩ 3).2⟩).1).getD k default).size<=1048576:=put_sz out1 (F24 ⟨r1.b,(F11 ⟨r1.b,r2⟩ 3).2⟩).1 (uu22:∀ k:Nat,(out1.getD k default).size<=1048576) (uu0:(F24 ⟨r1.b,(F11 ⟨r1.b,r2⟩ 3).2⟩).1.size<=1048576); ai (iok (n-1) uu0) (bk10_0 r1X r1 lines i0 m0 (F22 out1 (F24 ⟨r1.b,(F11 ⟨r1.b,r2⟩ 3).2⟩).1) (n-1) (F24 ⟨r1.b,(F11 ⟨r1.b,r2⟩ 3).2⟩).2 hl0 (runL_next hI0 (condT h4 (condF h7 (finD hJ2_16 (condT h17 rfl))))) uu56))))) (fun h17 _=>ai (iok (n-1) uu0) (bk10_0 r1X r1 lines i0 m0 out1 (n-1) (F24 ⟨r1.b,(F11 ⟨r1.b,r2⟩ 3).2⟩).2 hl0 (runL_next hI0 (condT h4 (condF h7 (finD hJ2_16 (condF h17 rfl))))) uu28))) j hj.1 hj.2)))))))))) (fun h4 _=>have hD0_20:lX10_0 r1 lines=Lp.done (out,n,r2):=runL_done hI0 (condF h4 rfl); (fun hF:(out,r2)=(F10 r1 lines)=>ai (Imp.of_eq (Qg (fun r:List Za×Int=>Dat.l 1 eStr r.1) hF)) (ai (ai (Imp.refl (Dat.v (sv r1X))) (ai (Imp.of_eq (Qg (fun r:List Za×Int=>Dat.v (vI r.2)) hF)) trivial)) trivial)) (finD hD0_20 rfl))) (i0.1-1) i0.2.1 i0.2.2.1 i0.2.2.2 (un10_0 r1 lines i0 hi0))))) uu2
theorem kc23l (X_:SV) (b_:List Int) (pp_:Int) {K_:Prop} (p0_:0<=pp_) (p1_:pp_<=800000000) (p2_:b_.length<=2000) (q0_:0<=pp_) (q1_:pp_<=800000000) (k_:(CQ (F23 ⟨b_,pp_⟩).1/\0<=(F23 ⟨b_,pp_⟩).2/\(F23 ⟨b_,pp_⟩).2<=pp_+400)->K_):(0<=pp_/\pp_<=800000000/\b_.length<=2000)/\(sv X_=sv X_)/\(Imp (.l 1 eByte b_) (.l 1 eByte b_))/\(Imps ([.v (vI pp_)]) ([.v (vI pp_)]))/\K_:=⟨⟨p0_,p1_,p2_⟩,rfl,Imp.refl _,Imps.refl _,k_ (conf_q (⟨b_,pp_⟩:l51Rd) q0_ q1_)⟩
abbrev kh23l (X_:SV) (g_:Nat) (b_:List Int) (pp_:Int):Hint true Tryz.prog:=.call 23 (S23 X_ g_ (⟨b_,pp_⟩:l51Rd)) (ok23 X_ g_ (⟨b_,pp_⟩:l51Rd)) none
def F9_j3 (r1:l51Rd) (out1:List Za) (n:Int) (r3:Int):Lp (List Za) (List Za×Int) :=
 bif (decide ((F25 out1 (F26 (F24 ⟨r1.b,r3⟩).1))>=0)) then (.done (F27 out1 (F25 out1 (F26 (F24 ⟨r1.b,r3⟩).1)))) else (.done out1)
def F9_s0 (r1:l51Rd):(List Za×Int×Int)->Lp (List Za×Int×Int) (List Za×Int):=fun (out1,n,r3) =>
 bif (decide (n>0)) then ((F9_j3 r1 out1 n r3).fin Lp.ret (fun out2=>bif (decide ((out2.length:Int)<16)) then (.next ((F22 out2 (F24 ⟨r1.b,r3⟩).1),(n-1),(F24 ⟨r1.b,r3⟩).2)) else (.next (out2,(n-1),(F24 ⟨r1.b,r3⟩).2)))) else (.done (out1,n,r3))
def F9_j0 (r1:l51Rd):Lp (List Za×Int) (List Za×Int) :=
 (runL (F9_s0 r1) ((Int.toNat ((F11 ⟨r1.b,(F23 ⟨r1.b,r1.p⟩).2⟩ 4).1-0))+1) ((F23 ⟨r1.b,r1.p⟩).1,(F11 ⟨r1.b,(F23 ⟨r1.b,r1.p⟩).2⟩ 4).1,(F11 ⟨r1.b,(F23 ⟨r1.b,r1.p⟩).2⟩ 4).2)).fin Lp.ret (fun (out1,n,r3)=>.done (out1,r3))
def F9 (r1:l51Rd):List Za×Int :=
 (F9_j0 r1).fin (fun r=>r) (fun (out,r2)=>bif (bif ((F11 ⟨r1.b,r2⟩ 3).1==0) then decide ((out.length:Int)>0) else false) then ((F27 out (F11 ⟨r1.b,(F11 ⟨r1.b,r2⟩ 3).2⟩ (out.length:Int)).1),(F11 ⟨r1.b,(F11 ⟨r1.b,r2⟩ 3).2⟩ (out.length:Int)).2) else (out,(F11 ⟨r1.b,r2⟩ 3).2))
abbrev jI9_3 (r1X:SV) (r1:l51Rd) (out1:List Za) (n:Int) (r3:Int) (out2:List Za):Prop:=LQ out2/\True
abbrev jJ9_3 (r1X:SV) (r1:l51Rd) (out1:List Za) (n:Int) (r3:Int) (j:List Za):Prop:=(F9_j3 r1 out1 n r3)=Lp.done j/\jI9_3 r1X r1 out1 n r3 j
theorem jn9_3 (r1X:SV) (r1:l51Rd) (out1:List Za) (n:Int) (r3:Int) (out2:List Za) (e:(F9_j3 r1 out1 n r3)=Lp.done out2) (h:jI9_3 r1X r1 out1 n r3 out2):∃ j:List Za,((.int .i64 n:Value)=.int .i64 n)/\((.string (F24 ⟨r1.b,r3⟩).1:Value)=.string (F24 ⟨r1.b,r3⟩).1)/\((.int .i64 (F24 ⟨r1.b,r3⟩).2:Value)=.int .i64 (F24 ⟨r1.b,r3⟩).2)/\((sv r1X:Value)=sv r1X)/\(Imp (.l 1 eByte r1.b) (.l 1 eByte r1.b))/\(Imp (.l 1 eStr out2) (.l 1 eStr j))/\jJ9_3 r1X r1 out1 n r3 j:=⟨out2,rfl,rfl,rfl,rfl,Imp.refl _,Imp.refl _,e,h⟩
abbrev lN9_0 (r1:l51Rd):Nat×(List Za×Int×Int):=(((Int.toNat ((F11 ⟨r1.b,(F23 ⟨r1.b,r1.p⟩).2⟩ 4).1-0))+1),((F23 ⟨r1.b,r1.p⟩).1,(F11 ⟨r1.b,(F23 ⟨r1.b,r1.p⟩).2⟩ 4).1,(F11 ⟨r1.b,(F23 ⟨r1.b,r1.p⟩).2⟩ 4).2))
abbrev lI9_0 (r1:l51Rd) (m39:Nat) (out1:List Za) (n:Int) (r3:Int):Prop:=Int.toNat (n-0)<m39/\LQ out1/\0<=r3/\r3+9*n<=r1.p+430/\n<=3/\(0:Int)<=n
abbrev lX9_0 (r1:l51Rd):Lp (List Za×Int×Int) (List Za×Int):=LpX (F9_s0 r1) (lN9_0 r1)
abbrev lJ9_0 (r1:l51Rd) (i:Nat×(List Za×Int×Int)):Prop:=LpJ (F9_s0 r1) (lN9_0 r1) i (lI9_0 r1 i.1 i.2.1 i.2.2.1 i.2.2.2)
abbrev lH9_0 (r1:l51Rd) (i:Nat×(List Za×Int×Int)) (m39:Nat) (out1:List Za) (n:Int) (r3:Int):Prop:=LpH (F9_s0 r1) (lN9_0 r1) i m39 (out1,n,r3) (lI9_0 r1 (m39+1) out1 n r3)
abbrev lE9_0 (r1X:SV) (r1:l51Rd) (out1:List Za) (n:Int) (r3:Int) (out1_:List Za) (n_:Int) (r3_:Int) (K39:Prop):Prop:=((.int .i64 n:Value)=.int .i64 n_)/\((.int .i64 r3:Value)=.int .i64 r3_)/\(Rf (sv r1X))/\(Im (.l 1 eByte r1.b))/\(Imp (.l 1 eStr out1) (.l 1 eStr out1_))/\K39
theorem un9_0 (r1:l51Rd) (i:Nat×(List Za×Int×Int)) (h:lJ9_0 r1 i):lH9_0 r1 i (i.1-1) i.2.1 i.2.2.1 i.2.2.2:=⟨hd1 h.1 h.2.1,hd3 h.2.1,hd2 h.2.1,h.2.2⟩
theorem bk9_0 (r1X:SV) (r1:l51Rd) (i:Nat×(List Za×Int×Int)) (m39:Nat) (out1:List Za) (n:Int) (r3:Int) (hl:m39<i.1) (e:runL (F9_s0 r1) m39 (out1,n,r3)=lX9_0 r1) (h:lI9_0 r1 m39 out1 n r3):∃ j:Nat×(List Za×Int×Int),lE9_0 r1X r1 out1 n r3 j.2.1 j.2.2.1 j.2.2.2 (lJ9_0 r1 j/\j.1<i.1):=⟨(m39,(out1,n,r3)),rfl,rfl,rfl,Imp.refl _,Imp.refl _,⟨e,h⟩,hl⟩
theorem en9_0 (r1X:SV) (r1:l51Rd) (h:LQ (F23 ⟨r1.b,r1.p⟩).1/\0<=(F11 ⟨r1.b,(F23 ⟨r1.b,r1.p⟩).2⟩ 4).2/\(F11 ⟨r1.b,(F23 ⟨r1.b,r1.p⟩).2⟩ 4).2+9*(F11 ⟨r1.b,(F23 ⟨r1.b,r1.p⟩).2⟩ 4).1<=r1.p+430/\(F11 ⟨r1.b,(F23 ⟨r1.b,r1.p⟩).2⟩ 4).1<=3/\(0:Int)<=(F11 ⟨r1.b,(F23 ⟨r1.b,r1.p⟩).2⟩ 4).1):lE9_0 r1X r1 (F23 ⟨r1.b,r1.p⟩).1 (F11 ⟨r1.b,(F23 ⟨r1.b,r1.p⟩).2⟩ 4).1 (F11 ⟨r1.b,(F23 ⟨r1.b,r1.p⟩).2⟩ 4).2 (F23 ⟨r1.b,r1.p⟩).1 (F11 ⟨r1.b,(F23 ⟨r1.b,r1.p⟩).2⟩ 4).1 (F11 ⟨r1.b,(F23 ⟨r1.b,r1.p⟩).2⟩ 4).2 (lJ9_0 r1 (lN9_0 r1)):=⟨rfl,rfl,rfl,Imp.refl _,Imp.refl _,rfl,Qt _,h⟩
abbrev jI9_0 (r1X:SV) (r1:l51Rd) (out:List Za) (r2:Int):Prop:=LQ out/\0<=r2/\r2<=r1.p+440
abbrev jJ9_0 (r1X:SV) (r1:l51Rd) (j:List Za×Int):Prop:=(F9_j0 r1)=Lp.done j/\jI9_0 r1X r1 j.1 j.2
theorem jn9_0 (r1X:SV) (r1:l51Rd) (out:List Za) (r2:Int) (e:(F9_j0 r1)=Lp.done (out,r2)) (h:jI9_0 r1X r1 out r2):∃ j:List Za×Int,((.int .i64 r2:Value)=.int .i64 j.2)/\((sv r1X:Value)=sv r1X)/\(Imp (.l 1 eByte r1.b) (.l 1 eByte r1.b))/\(Imp (.l 1 eStr out) (.l 1 eStr j.1))/\jJ9_0 r1X r1 j:=⟨(out,r2),rfl,rfl,Imp.refl _,Imp.refl _,e,h⟩
def S9 (r1X:SV) (gr1:Nat) (r1:l51Rd):Spec:=⟨[.ptg gr1 49 (sv r1X) (.l 1 eByte r1.b) [.v (vI r1.p)] [.v (vI (F9 r1).2)]],.ow (.l 1 eStr (F9 r1).1),0<=r1.p/\r1.p<=800000000/\r1.b.length<=2000⟩
theorem ok9 (r1X:SV) (gr1:Nat) (r1:l51Rd):(S9 r1X gr1 r1).ok Tryz.prog 9 :=
 fnG_ok mixed (fn:=Tryz.f9) (ct:=.seqk [(0,0)] .no (.seq (.reg [(1,kh23l r1X 0 r1.b r1.p)]) (.cut (ι:=List Za×Int) (fun j=>(fun (out:List Za) (r2:Int)=>(⟨[(0,some (.p 0 0)),(3,some (.h 2 0))],[(0,some (.box 49 [.h 1 0,.v (vI r2)])),(1,some (.vl (sv r1X) (.l 1 eByte r1.b))),(2,some (.own 2 (.l 1 eStr out)))],3⟩:St)) j.1 j.2) (jJ9_0 r1X r1) (.seqk [(0,0),(3,0)] (.reg [(1,kh11l r1X 0 r1.b (F23 ⟨r1.b,r1.p⟩).2 4)]) (.blk (.loop (ι:=Nat×(List Za×Int×Int)) (fun i=>(fun (out1:List Za) (n:Int) (r3:Int)=>(⟨[(0,some (.p 0 0)),(3,some (.h 2 0)),(4,some (.v (vI n)))],[(0,some (.box 49 [.h 1 0,.v (vI r3)])),(1,some (.vl (sv r1X) (.l 1 eByte r1.b))),(2,some (.own 2 (.l 1 eStr out1)))],3⟩:St)) i.2.1 i.2.2.1 i.2.2.2) (lJ9_0 r1) (fun i=>i.1) (lN9_0 r1) (fun i=>(fun (out1:List Za) (n:Int) (r3:Int)=>(.seq (.seq .no (.cond .no .no)) (.seq (.blk (.seq (.reg [(1,kh24l r1X 1 r1.b r3)]) (.seq (.reg [(2,.call 26 (S26 (F24 ⟨r1.b,r3⟩).1) (ok26 (F24 ⟨r1.b,r3⟩).1) none),(3,.call 25 (S25 out1 (F26 (F24 ⟨r1.b,r3⟩).1)) (ok25 out1 (F26 (F24 ⟨r1.b,r3⟩).1)) none)]) (.cut (ι:=List Za) (fun j=>(fun (out2:List Za)=>(⟨[(0,some (.p 0 0)),(3,some (.h 2 0)),(4,some (.v (vI n))),(5,some (.v (.string (F24 ⟨r1.b,r3⟩).1)))],[(0,some (.box 49 [.h 1 0,.v (vI (F24 ⟨r1.b,r3⟩).2)])),(1,some (.vl (sv r1X) (.l 1 eByte r1.b))),(2,some (.own 2 (.l 1 eStr out2)))],3⟩:St)) j) (jJ9_3 r1X r1 out1 n r3) (.seq .no (.cond (.reg [(2,.call 27 (S27 out1 (F25 out1 (F26 (F24 ⟨r1.b,r3⟩).1))) (ok27 out1 (F25 out1 (F26 (F24 ⟨r1.b,r3⟩).1))) none)]) .no)) (fun j=>(fun (out2:List Za)=>(.seq .no (.cond (.reg [(2,.call 22 (S22 out2 (F24 ⟨r1.b,r3⟩).1) (ok22 out2 (F24 ⟨r1.b,r3⟩).1) none)]) .no))) j))))) (.reg [(1,.bnd)])))) i.2.1 i.2.2.1 i.2.2.2)))) (fun j=>(fun (out:List Za) (r2:Int)=>(.seq (.seq (.reg [(1,kh11l r1X 1 r1.b r2 3)]) (.cond (.reg [(4,kh11l r1X 1 r1.b (F11 ⟨r1.b,r2⟩ 3).2 (out.length:Int)),(5,.call 27 (S27 out (F11 ⟨r1.b,(F11 ⟨r1.b,r2⟩ 3).2⟩ (out.length:Int)).1) (ok27 out (F11 ⟨r1.b,(F11 ⟨r1.b,r2⟩ 3).2⟩ (out.length:Int)).1) none)]) .no)) (.seq .no .no))) j.1 j.2)))) Tryz.func9 (fun (hp:0<=r1.p/\r1.p<=800000000/\r1.b.length<=2000)=>have hpre0:=hp.1; have hpre1:=hp.2.1; have hpre2:=hp.2.2; kn r1.b fun _=>kc23l r1X r1.b r1.p uu0 uu0 uu0 uu0 uu0 (fun gv1=>ai (kc11l r1X r1.b (F23 ⟨r1.b,r1.p⟩).2 4 uu0 uu0 uu0 uu0 uu0 (fun gv2=>have gv3:(F11 ⟨r1.b,(F23 ⟨r1.b,r1.p⟩).2⟩ 4).1<(4:Int):=uu19; kn r1.b fun _=>kn (F23 ⟨r1.b,r1.p⟩).1 fun _=>ai (en9_0 r1X r1 uu56) (fun (i0:Nat×(List Za×Int×Int)) (hi0:lJ9_0 r1 i0)=>(fun (m0:Nat) (out1:List Za) (n:Int) (r3:Int) (hh0:lH9_0 r1 i0 m0 out1 n r3)=>have hI0:=hh0.1; have hl0:=hh0.2.1; have _:=hh0.2.2.1; have _:=hh0.2.2.2.1; have _:=hh0.2.2.2.2.1; have _:=hh0.2.2.2.2.2.1; have _:=hh0.2.2.2.2.2.2.1; have _:=hh0.2.2.2.2.2.2.2; ifd (n>0) (fun h5 _=>kc24l r1X r1.b r3 uu0 uu0 uu0 uu0 uu0 (fun gv6=>ai (uu0:(F24 ⟨r1.b,r3⟩).1.size<=1048576) (ai (Imp.refl (.v (.string (F24 ⟨r1.b,r3⟩).1))) (ai (uu22:∀ k:Nat,(out1.getD k default).size<=1048576) (ai (Imp.refl (.l 1 eStr out1)) (ai (Imp.refl (.v (.string (F26 (F24 ⟨r1.b,r3⟩).1)))) (ai (ifd ((F25 out1 (F26 (F24 ⟨r1.b,r3⟩).1))>=0) (fun h7 _=>ai (ai (uu0:0<=(F25 out1 (F26 (F24 ⟨r1.b,r3⟩).1))) (ai (uu36:(F25 out1 (F26 (F24 ⟨r1.b,r3⟩).1))<(out1.length:Int)) (by (have h9:=lq_len (by assumption:LQ out1); omega):out1.length<=1048576))) (ai (Imp.refl (.l 1 eStr out1)) (ai (Imp.refl (.v (vI (F25 out1 (F26 (F24 ⟨r1.b,r3⟩).1))))) (have gv8:(F27 out1 (F25 out1 (F26 (F24 ⟨r1.b,r3⟩).1))).length+1=out1.length:=without_len out1 (F25 out1 (F26 (F24 ⟨r1.b,r3⟩).1)) (uu0:0<=(F25 out1 (F26 (F24 ⟨r1.b,r3⟩).1))) (uu36:(F25 out1 (F26 (F24 ⟨r1.b,r3⟩).1))<(out1.length:Int)) (by (have h9:=lq_len (by assumption:LQ out1); omega):out1.length<=1048576); have gv9:∀ q:Nat,((F27 out1 (F25 out1 (F26 (F24 ⟨r1.b,r3⟩).1))).getD q default).size<=1048576:=without_sz out1 (F25 out1 (F26 (F24 ⟨r1.b,r3⟩).1)) (uu22:∀ q:Nat,(out1.getD q default).size<=1048576); jn9_3 r1X r1 out1 n r3 (F27 out1 (F25 out1 (F26 (F24 ⟨r1.b,r3⟩).1))) (Tk (condT h7 rfl)) uu69)))) (fun h7 _=>jn9_3 r1X r1 out1 n r3 out1 (Tk (condF h7 rfl)) uu51)) (fun (j:List Za) (hj:jJ9_3 r1X r1 out1 n r3 j)=>(fun (out2:List Za) (hJ3_10:(F9_j3 r1 out1 n r3)=Lp.done out2) (hw:jI9_3 r1X r1 out1 n r3 out2)=>have _:=hw.1; ifd ((out2.length:Int)<16) (fun h11 _=>ai (ai (uu0:out2.length<=1048576) (uu22:∀ k:Nat,(out2.getD k default).size<=1048576)) (ai (Imp.refl (.l 1 eStr out2)) (ai (Imp.refl (.v (.string (F24 ⟨r1.b,r3⟩).1))) (have gv12:(F22 out2 (F24 ⟨r1.b,r3⟩).1).length=out2.length+1:=put_len out2 (F24 ⟨r1.b,r3⟩).1; have gv13:∀ k:Nat,((F22 out2 (F24 ⟨r1.b,r3⟩).1).getD k default).size<=1048576:=put_sz out2 (F24 ⟨r1.b,r3⟩).1 (uu22:∀ k:Nat,(out2.getD k default).size<=1048576) (uu0:(F24 ⟨r1.b,r3⟩).1.size<=1048576); ai (iok (n-1) uu0) (bk9_0 r1X r1 i0 m0 (F22 out2 (F24 ⟨r1.b,r3⟩).1) (n-1) (F24 ⟨r1.b,r3⟩).2 hl0 (runL_next hI0 (condT h5 (finD hJ3_10 (condT h11 rfl)))) (by refine ⟨?_,?_,?_,?_,?_,?_⟩ <;> first | omega | (simp only [lens,ib] at*<;> omega) | omega | assumption | exact without_lq (by assumption) (by omega) (by omega) | exact without_lq (by assumption) (by omega) (key_lt _ _) | exact put_lq (by assumption) (by omega) (by omega) | exact cq_lq (Gs (by assumption)) | exact Gs (by assumption))))))) (fun h11 _=>ai (iok (n-1) uu0) (bk9_0 r1X r1 i0 m0 out2 (n-1) (F24 ⟨r1.b,r3⟩).2 hl0 (runL_next hI0 (condT h5 (finD hJ3_10 (condF h11 rfl)))) (by refine ⟨?_,?_,?_,?_,?_,?_⟩ <;> omega)))) j hj.1 hj.2)))))))) (fun h5 _=>have hD0_14:lX9_0 r1=Lp.done (out1,n,r3):=runL_done hI0 (condF h5 rfl); jn9_0 r1X r1 out1 r3 (Tk (finD hD0_14 rfl)) uu27)) (i0.1-1) i0.2.1 i0.2.2.1 i0.2.2.2 (un9_0 r1 i0 hi0)))) (fun (j:List Za×Int) (hj:jJ9_0 r1X r1 j)=>(fun (out:List Za) (r2:Int) (hJ0_15:(F9_j0 r1)=Lp.done (out,r2)) (hw:jI9_0 r1X r1 out r2)=>have _:=hw.1; have _:=hw.2.1; have _:=hw.2.2; kc11l r1X r1.b r2 3 uu0 uu0 uu0 uu0 uu0 (fun gv16=>have gv17:(F11 ⟨r1.b,r2⟩ 3).1<(3:Int):=uu19; ifb (bif ((F11 ⟨r1.b,r2⟩ 3).1==0) then decide ((out.length:Int)>0) else false) (fun h18=>have _:=eq_of_beq (andT1 h18); have _:=Qb (andT2 h18); kc11l r1X r1.b (F11 ⟨r1.b,r2⟩ 3).2 (out.length:Int) uu0 uu0 uu0 uu0 uu0 (fun gv19=>have gv20:(F11 ⟨r1.b,(F11 ⟨r1.b,r2⟩ 3).2⟩ (out.length:Int)).1<(out.length:Int):=uu19; ai (ai (uu0:0<=(F11 ⟨r1.b,(F11 ⟨r1.b,r2⟩ 3).2⟩ (out.length:Int)).1) (ai (uu0:(F11 ⟨r1.b,(F11 ⟨r1.b,r2⟩ 3).2⟩ (out.length:Int)).1<(out.length:Int)) (uu29:out.length<=1048576))) (ai (Imp.refl (.l 1 eStr out)) (ai (Imp.refl (.v (vI (F11 ⟨r1.b,(F11 ⟨r1.b,r2⟩ 3).2⟩ (out.length:Int)).1))) (have gv21:(F27 out (F11 ⟨r1.b,(F11 ⟨r1.b,r2⟩ 3).2⟩ (out.length:Int)).1).length+1=out.length:=without_len out (F11 ⟨r1.b,(F11 ⟨r1.b,r2⟩ 3).2⟩ (out.length:Int)).1 (uu0:0<=(F11 ⟨r1.b,(F11 ⟨r1.b,r2⟩ 3).2⟩ (out.length:Int)).1) (uu0:(F11 ⟨r1.b,(F11 ⟨r1.b,r2⟩ 3).2⟩ (out.length:Int)).1<(out.length:Int)) (uu29:out.length<=1048576); have gv22:∀ q:Nat,((F27 out (F11 ⟨r1.b,(F11 ⟨r1.b,r2⟩ 3).2⟩ (out.length:Int)).1).getD q default).size<=1048576:=without_sz out (F11 ⟨r1.b,(F11 ⟨r1.b,r2⟩ 3).2⟩ (out.length:Int)).1 (uu22:∀ q:Nat,(out.getD q default).size<=1048576); (fun hF:((F27 out (F11 ⟨r1.b,(F11 ⟨r1.b,r2⟩ 3).2⟩ (out.length:Int)).1),(F11 ⟨r1.b,(F11 ⟨r1.b,r2⟩ 3).2⟩ (out.length:Int)).2)=(F9 r1)=>ai (Imp.of_eq (Qg (fun r:List Za×Int=>Dat.l 1 eStr r.1) hF)) (ai (ai (Imp.refl (Dat.v (sv r1X))) (ai (Imp.of_eq (Qg (fun r:List Za×Int=>Dat.v (vI r.2)) hF)) trivial)) trivial)) (finD hJ0_15 (condT h18 rfl))))))) (fun h18=>(fun hF:(out,(F11 ⟨r1.b,r2⟩ 3).2)=(F9 r1)=>ai (Imp.of_eq (Qg (fun r:List Za×Int=>Dat.l 1 eStr r.1) hF)) (ai (ai (Imp.refl (Dat.v (sv r1X))) (ai (Imp.of_eq (Qg (fun r:List Za×Int=>Dat.v (vI r.2)) hF)) trivial)) trivial)) (finD hJ0_15 (condF h18 rfl))))) j.1 j.2 hj.1 hj.2))) uu2
theorem lq_without_key {xs:List Za} (h:LQ xs) (key:Za):LQ (bif decide (F25 xs key>=0) then F27 xs (F25 xs key) else xs):=by
 by_cases hk:F25 xs key>=0
 ·rw [Qs hk]; exact without_lq h hk (key_lt _ _)
 ·rw [Qq hk]; exact h
theorem near_j2 (r1:l51Rd) (lines out:List Za) (n r2:Int) (h:LQ out):∃ out1,F10_j2 r1 lines out n r2=Lp.done out1/\LQ out1:=by
 have hq:=lq_without_key h (F26 ((F24 (⟨r1.b,(F11 (⟨r1.b,r2⟩:l51Rd) 3).2⟩:l51Rd)).1))
 unfold F10_j2
 cases hc:decide (F25 out (F26 ((F24 (⟨r1.b,(F11 (⟨r1.b,r2⟩:l51Rd) 3).2⟩:l51Rd)).1))>=0)
 ·rw [hc] at hq; exact ⟨_,rfl,hq⟩
 ·rw [hc] at hq; exact ⟨_,rfl,hq⟩
theorem near_step (r1:l51Rd) (lines out:List Za) (n r2:Int) (hn:n>0) (h:LQ out) (h0:0<=r2) (h1:r2<=900000000):∃ out' r',F10_s0 r1 lines (out,n,r2)=.next (out',n-1,r')/\LQ out'/\r2<=r'/\r'<=r2+11:=by
 simp only [F10_s0]
 rw [Qs hn,Qc]
 cases hc:(bif ((F11 (⟨r1.b,r2⟩:l51Rd) 3).1==0) then decide ((out.length:Int)>0) else false) with
 | true =>
  have hl:(out.length:Int)>0:=by
   cases hp:((F11 (⟨r1.b,r2⟩:l51Rd) 3).1==0) with
   | true=>rw [hp,Qc] at hc; exact Qb hc
   | false=>rw [hp] at hc; cases hc
  obtain ⟨k1,k2,k3⟩:=pick_in (⟨r1.b,(F11 (⟨r1.b,r2⟩:l51Rd) 3).2⟩:l51Rd) (out.length:Int) uu20 uu20
  rw [Qc]
  refine ⟨_,_,rfl,without_lq h k1 (k2 uu0),?_,?_⟩ <;> (simp only [pick_p]; omega)
 | false =>
  rw [Qh]
  obtain ⟨out1,e1,q1⟩:=near_j2 r1 lines out n r2 h
  rw [e1]
  simp only [Lp.fin]
  obtain ⟨z1,z2,z3⟩:=dline_all (⟨r1.b,(F11 (⟨r1.b,r2⟩:l51Rd) 3).2⟩:l51Rd)
  simp only [pick_p] at z2 z3
  by_cases hl:(out1.length:Int)<16
  ·rw [Qs hl,Qc]
   refine ⟨_,_,rfl,put_lq q1 uu0 z1,?_,?_⟩ <;> (simp only [pick_p] at z2 z3 ⊢; omega)
  ·rw [Qq hl,Qh]
   refine ⟨_,_,rfl,q1,?_,?_⟩ <;> (simp only [pick_p] at z2 z3 ⊢; omega)
theorem down_loop {ρ:Type} (c:Int) (step:List Za×Int×Int->Lp (List Za×Int×Int) ρ) (B:Int)
  (h1:∀ out n r,n>0->LQ out->0<=r->r<=B->∃ out' r',step (out,n,r)=.next (out',n-1,r')/\LQ out'/\r<=r'/\r'<=r+c)
  (h2:∀ out r,step (out,0,r)=.done (out,0,r)):∀ (N:Nat) (xs:List Za) (r:Int),LQ xs->0<=r->0<=c->r+c*N<=B->∀ M,N<M->∃ ys r',runL step M (xs,(N:Int),r)=.done (ys,0,r')/\LQ ys/\r<=r'/\r'<=r+c*N
 | _,_,_,_,_,_,_,0,hM=>absurd hM (Sd _)
 | 0,xs,r,h,h0,hc,hB,M+1,hM=>⟨xs,r,runL_d _ (h2 xs r),h,by omega,by simp⟩
 | N+1,xs,r,h,h0,hc,hB,M+1,hM=>by
  have e:c*((N+1:Nat):Int)=c*(N:Int)+c:=by rw [Int.natCast_succ,Int.mul_add,Int.mul_one]
  have hcN:0<=c*(N:Int):=Int.mul_nonneg hc uu0
  obtain ⟨out',r',e1,q1,q2,q3⟩:=h1 xs ((N+1:Nat):Int) r uu0 h h0 uu0
  obtain ⟨ys,r'',e2,k1,k2,k3⟩:=down_loop c step B h1 h2 N out' r' q1 uu0 hc uu0 M uu0
  refine ⟨ys,r'',?_,k1,by omega,by omega⟩
  rw [show ((N+1:Nat):Int)-1=(N:Int) by omega] at e1
  rw [runL_n _ e1]
  exact e2
theorem pick_nat (r1:l51Rd) (n:Int) (h0:0<=r1.p) (h1:r1.p<=1000000000) (hn:1<=n):∃ N:Nat,(F11 r1 n).1=(N:Int)/\(N:Int)<n:=by
 obtain ⟨k1,k2,k3⟩:=pick_in r1 n h0 h1
 exact ⟨((F11 r1 n).1).toNat,(Int.toNat_of_nonneg k1).symm,by have:=k2 hn; omega⟩
theorem near_q (r1:l51Rd) (lines:List Za) (h0:0<=r1.p) (h1:r1.p<=800000000) (h:LQ lines):LQ (F10 r1 lines).1/\0<=(F10 r1 lines).2/\(F10 r1 lines).2<=r1.p+60:=by
 obtain ⟨N,e0,hN⟩:=pick_nat (⟨r1.b,r1.p⟩:l51Rd) 4 h0 (by show r1.p<=_; omega) uu1
 unfold F10
 rw [e0]
 obtain ⟨ys,r',e1,q1,q2,q3⟩:=down_loop 11 (F10_s0 r1 lines) 900000000 (fun out n r hn hq a b=>near_step r1 lines out n r hn hq a b) (fun out r=>by simp only [F10_s0]; rfl) N lines (F11 (⟨r1.b,r1.p⟩:l51Rd) 4).2 h uu20 uu1 uu20 (Int.toNat ((N:Int)-0)+1) uu0
 rw [e1]
 simp only [pick_p] at q2 q3
 exact ⟨q1,by show 0<=r'; omega,by show r'<=r1.p+60; omega⟩
theorem neat_j3 (r1:l51Rd) (out:List Za) (n r2:Int) (h:LQ out):∃ out1,F9_j3 r1 out n r2=Lp.done out1/\LQ out1:=by
 have hq:=lq_without_key h (F26 ((F24 (⟨r1.b,r2⟩:l51Rd)).1))
 unfold F9_j3
 cases hc:decide (F25 out (F26 ((F24 (⟨r1.b,r2⟩:l51Rd)).1))>=0)
 ·rw [hc] at hq; exact ⟨_,rfl,hq⟩
 ·rw [hc] at hq; exact ⟨_,rfl,hq⟩
theorem neat_step (r1:l51Rd) (out:List Za) (n r2:Int) (hn:n>0) (h:LQ out):∃ out' r',F9_s0 r1 (out,n,r2)=.next (out',n-1,r')/\LQ out'/\r2<=r'/\r'<=r2+9:=by
 simp only [F9_s0]
 rw [Qs hn,Qc]
 obtain ⟨out1,e1,q1⟩:=neat_j3 r1 out n r2 h
 rw [e1]
 simp only [Lp.fin]
 obtain ⟨z1,z2,z3⟩:=dline_all (⟨r1.b,r2⟩:l51Rd)
 by_cases hl:(out1.length:Int)<16
 ·rw [Qs hl,Qc]
  exact ⟨_,_,rfl,put_lq q1 uu0 z1,z2,z3⟩
 ·rw [Qq hl,Qh]
  exact ⟨_,_,rfl,q1,z2,z3⟩
theorem neat_q (r1:l51Rd) (h0:0<=r1.p) (h1:r1.p<=800000000):LQ (F9 r1).1/\0<=(F9 r1).2/\(F9 r1).2<=r1.p+450:=by
 obtain ⟨c1,c2,c3⟩:=conf_q (⟨r1.b,r1.p⟩:l51Rd) h0 h1
 have c3:(F23 (⟨r1.b,r1.p⟩:l51Rd)).2<=r1.p+400:=c3
 obtain ⟨N,e0,hN⟩:=pick_nat (⟨r1.b,(F23 (⟨r1.b,r1.p⟩:l51Rd)).2⟩:l51Rd) 4 c2 (by show (F23 (⟨r1.b,r1.p⟩:l51Rd)).2<=_; omega) uu1
 have hj:∃ out r2,F9_j0 r1=Lp.done (out,r2)/\LQ out/\0<=r2/\r2<=r1.p+430:=by
  unfold F9_j0
  rw [e0]
  obtain ⟨ys,r',e1,q1,q2,q3⟩:=down_loop 9 (F9_s0 r1) 900000000 (fun out n r hn hq _ _=>neat_step r1 out n r hn hq) (fun out r=>by simp only [F9_s0]; rfl) N (F23 (⟨r1.b,r1.p⟩:l51Rd)).1 (F11 (⟨r1.b,(F23 (⟨r1.b,r1.p⟩:l51Rd)).2⟩:l51Rd) 4).2 (cq_lq c1) uu20 uu1 uu20 (Int.toNat ((N:Int)-0)+1) uu0
  rw [e1]
  simp only [pick_p] at q2 q3
  exact ⟨_,_,rfl,q1,by omega,by omega⟩
 obtain ⟨out,r2,e1,q1,q2,q3⟩:=hj
 unfold F9
 rw [e1]
 simp only [Lp.fin]
 cases hc:(bif ((F11 (⟨r1.b,r2⟩:l51Rd) 3).1==0) then decide ((out.length:Int)>0) else false) with
 | false =>
  rw [Qh]
  refine ⟨q1,?_,?_⟩ <;> (simp only [pick_p]; omega)
 | true =>
  have hl:(out.length:Int)>0:=by
   cases hp:((F11 (⟨r1.b,r2⟩:l51Rd) 3).1==0) with
   | true=>rw [hp,Qc] at hc; exact Qb hc
   | false=>rw [hp] at hc; cases hc
  obtain ⟨k1,k2,k3⟩:=pick_in (⟨r1.b,(F11 (⟨r1.b,r2⟩:l51Rd) 3).2⟩:l51Rd) (out.length:Int) uu20 uu20
  rw [Qc]
  refine ⟨without_lq q1 k1 (k2 uu0),?_,?_⟩ <;> (simp only [pick_p]; omega)
abbrev w93_:Za:=⟨#[32,120]⟩
abbrev w114_:Za:=⟨#[102,114,111,98,32,49]⟩
abbrev X2:List Za:=[Zx,Yg,Yh,Yi,Yj,Yk,Yl,Ym,Yn,Yo,Yp,Yq,Zl,Yr,Ys,Yt,Yu]
def F12_s0 (r1:l51Rd) (lines:List Za):(List Za×Int×Int)->Lp (List Za×Int×Int) (List Za×Int):=fun (out,i40,r2) =>
 bif (decide (i40<(16+(F11 ⟨r1.b,r2⟩ 2).1))) then (.next ((F22 out ((Yf++(X2.getD (Int.toNat i40) default))++Yv)),(i40+1),(F11 ⟨r1.b,r2⟩ 2).2)) else (.done (out,i40,(F11 ⟨r1.b,r2⟩ 2).2))
def F12 (r1:l51Rd) (lines:List Za):List Za×Int :=
 bif (bif ((lines.length:Int)==0) then true else ((F11 ⟨r1.b,r1.p⟩ 5).1==0)) then ((runL (F12_s0 r1 lines) ((Int.toNat (17-0))+1) (lines,0,(bif (!((lines.length:Int)==0)) then (F11 ⟨r1.b,r1.p⟩ 5).2 else r1.p))).fin (fun r=>r) (fun (out,i40,r2)=>(out,r2))) else (bif ((F11 ⟨r1.b,(F11 ⟨r1.b,(bif (!((lines.length:Int)==0)) then (F11 ⟨r1.b,r1.p⟩ 5).2 else r1.p)⟩ (lines.length:Int)).2⟩ 4).1==0) then ((lines.set (F11 ⟨r1.b,(bif (!((lines.length:Int)==0)) then (F11 ⟨r1.b,r1.p⟩ 5).2 else r1.p)⟩ (lines.length:Int)).1.toNat ((lines.getD (F11 ⟨r1.b,(bif (!((lines.length:Int)==0)) then (F11 ⟨r1.b,r1.p⟩ 5).2 else r1.p)⟩ (lines.length:Int)).1.toNat default)++(F29 ⟨r1.b,(F11 ⟨r1.b,(F11 ⟨r1.b,(bif (!((lines.length:Int)==0)) then (F11 ⟨r1.b,r1.p⟩ 5).2 else r1.p)⟩ (lines.length:Int)).2⟩ 4).2⟩ ([Zb,(⟨#[32,120]⟩:Za),Zo,Zd]:List Za)).1)),(F29 ⟨r1.b,(F11 ⟨r1.b,(F11 ⟨r1.b,(bif (!((lines.length:Int)==0)) then (F11 ⟨r1.b,r1.p⟩ 5).2 else r1.p)⟩ (lines.length:Int)).2⟩ 4).2⟩ ([Zb,(⟨#[32,120]⟩:Za),Zo,Zd]:List Za)).2) else (bif ((F11 ⟨r1.b,(F11 ⟨r1.b,(bif (!((lines.length:Int)==0)) then (F11 ⟨r1.b,r1.p⟩ 5).2 else r1.p)⟩ (lines.length:Int)).2⟩ 4).1==1) then ((lines++[(lines.getD (F11 ⟨r1.b,(bif (!((lines.length:Int)==0)) then (F11 ⟨r1.b,r1.p⟩ 5).2 else r1.p)⟩ (lines.length:Int)).1.toNat default)]),(F11 ⟨r1.b,(F11 ⟨r1.b,(bif (!((lines.length:Int)==0)) then (F11 ⟨r1.b,r1.p⟩ 5).2 else r1.p)⟩ (lines.length:Int)).2⟩ 4).2) else (bif ((F11 ⟨r1.b,(F11 ⟨r1.b,(bif (!((lines.length:Int)==0)) then (F11 ⟨r1.b,r1.p⟩ 5).2 else r1.p)⟩ (lines.length:Int)).2⟩ 4).1==2) then ((lines.set (F11 ⟨r1.b,(bif (!((lines.length:Int)==0)) then (F11 ⟨r1.b,r1.p⟩ 5).2 else r1.p)⟩ (lines.length:Int)).1.toNat (F29 ⟨r1.b,(F11 ⟨r1.b,(F11 ⟨r1.b,(bif (!((lines.length:Int)==0)) then (F11 ⟨r1.b,r1.p⟩ 5).2 else r1.p)⟩ (lines.length:Int)).2⟩ 4).2⟩ ([Zc,Zn,Yz,Y0,Y3,Y4,Y5,Y6,Y7,Y8,Y9,Xa,Xb,Xc,Xd,Xe,Xf,Xg,Xh,Xi,Xj,Xk,(⟨#[102,114,111,98,32,49]⟩:Za)]:List Za)).1),(F29 ⟨r1.b,(F11 ⟨r1.b,(F11 ⟨r1.b,(bif (!((lines.length:Int)==0)) then (F11 ⟨r1.b,r1.p⟩ 5).2 else r1.p)⟩ (lines.length:Int)).2⟩ 4).2⟩ ([Zc,Zn,Yz,Y0,Y3,Y4,Y5,Y6,Y7,Y8,Y9,Xa,Xb,Xc,Xd,Xe,Xf,Xg,Xh,Xi,Xj,Xk,(⟨#[102,114,111,98,32,49]⟩:Za)]:List Za)).2) else ((F22 (F27 lines (F11 ⟨r1.b,(bif (!((lines.length:Int)==0)) then (F11 ⟨r1.b,r1.p⟩ 5).2 else r1.p)⟩ (lines.length:Int)).1) (F24 ⟨r1.b,(F11 ⟨r1.b,(F11 ⟨r1.b,(bif (!((lines.length:Int)==0)) then (F11 ⟨r1.b,r1.p⟩ 5).2 else r1.p)⟩ (lines.length:Int)).2⟩ 4).2⟩).1),(F24 ⟨r1.b,(F11 ⟨r1.b,(F11 ⟨r1.b,(bif (!((lines.length:Int)==0)) then (F11 ⟨r1.b,r1.p⟩ 5).2 else r1.p)⟩ (lines.length:Int)).2⟩ 4).2⟩).2))))
abbrev lN12_0 (r1:l51Rd) (lines:List Za):Nat×(List Za×Int×Int):=(((Int.toNat (17-0))+1),(lines,0,(bif (!((lines.length:Int)==0)) then (F11 ⟨r1.b,r1.p⟩ 5).2 else r1.p)))
abbrev lI12_0 (r1:l51Rd) (m39:Nat) (out:List Za) (i40:Int) (r2:Int):Prop:=Int.toNat (17-i40)<m39/\(out.length:Int)<=17+i40/\(∀ q:Nat,(out.getD q default).size<=1000)/\i40<=(17:Int)/\(0:Int)<=r2/\r2<=r1.p+2+i40/\(0:Int)<=i40
abbrev lX12_0 (r1:l51Rd) (lines:List Za):Lp (List Za×Int×Int) (List Za×Int):=LpX (F12_s0 r1 lines) (lN12_0 r1 lines)
abbrev lJ12_0 (r1:l51Rd) (lines:List Za) (i:Nat×(List Za×Int×Int)):Prop:=LpJ (F12_s0 r1 lines) (lN12_0 r1 lines) i (lI12_0 r1 i.1 i.2.1 i.2.2.1 i.2.2.2)
abbrev lH12_0 (r1:l51Rd) (lines:List Za) (i:Nat×(List Za×Int×Int)) (m39:Nat) (out:List Za) (i40:Int) (r2:Int):Prop:=LpH (F12_s0 r1 lines) (lN12_0 r1 lines) i m39 (out,i40,r2) (lI12_0 r1 (m39+1) out i40 r2)
abbrev lE12_0 (r1X:SV) (r1:l51Rd) (out:List Za) (i40:Int) (r2:Int) (out_:List Za) (i40_:Int) (r2_:Int) (K39:Prop):Prop:=((.int .i64 i40:Value)=.int .i64 i40_)/\((.int .i64 r2:Value)=.int .i64 r2_)/\(Rf (sv r1X))/\(Im (.l 1 eByte r1.b))/\(Imp (.l 1 eStr out) (.l 1 eStr out_))/\K39
theorem un12_0 (r1:l51Rd) (lines:List Za) (i:Nat×(List Za×Int×Int)) (h:lJ12_0 r1 lines i):lH12_0 r1 lines i (i.1-1) i.2.1 i.2.2.1 i.2.2.2:=⟨hd1 h.1 h.2.1,hd3 h.2.1,hd2 h.2.1,h.2.2⟩
theorem bk12_0 (r1X:SV) (r1:l51Rd) (lines:List Za) (i:Nat×(List Za×Int×Int)) (m39:Nat) (out:List Za) (i40:Int) (r2:Int) (hl:m39<i.1) (e:runL (F12_s0 r1 lines) m39 (out,i40,r2)=lX12_0 r1 lines) (h:lI12_0 r1 m39 out i40 r2):∃ j:Nat×(List Za×Int×Int),lE12_0 r1X r1 out i40 r2 j.2.1 j.2.2.1 j.2.2.2 (lJ12_0 r1 lines j/\j.1<i.1):=⟨(m39,(out,i40,r2)),rfl,rfl,rfl,Imp.refl _,Imp.refl _,⟨e,h⟩,hl⟩
theorem en12_0 (r1X:SV) (r1:l51Rd) (lines:List Za) (h:(lines.length:Int)<=17+0/\(∀ q:Nat,(lines.getD q default).size<=1000)/\0<=(17:Int)/\(0:Int)<=(bif (!((lines.length:Int)==0)) then (F11 ⟨r1.b,r1.p⟩ 5).2 else r1.p)/\(bif (!((lines.length:Int)==0)) then (F11 ⟨r1.b,r1.p⟩ 5).2 else r1.p)<=r1.p+2+0/\(0:Int)<=0):lE12_0 r1X r1 lines 0 (bif (!((lines.length:Int)==0)) then (F11 ⟨r1.b,r1.p⟩ 5).2 else r1.p) lines 0 (bif (!((lines.length:Int)==0)) then (F11 ⟨r1.b,r1.p⟩ 5).2 else r1.p) (lJ12_0 r1 lines (lN12_0 r1 lines)):=⟨rfl,rfl,rfl,Imp.refl _,Imp.refl _,rfl,Qt _,h⟩
def S12 (r1X:SV) (gr1:Nat) (r1:l51Rd) (lines:List Za):Spec:=⟨[.ptg gr1 49 (sv r1X) (.l 1 eByte r1.b) [.v (vI r1.p)] [.v (vI (F12 r1 lines).2)],.r (.c (.l 1 eStr lines))],.ow (.l 1 eStr (F12 r1 lines).1),0<=r1.p/\r1.p<=800000000/\r1.b.length<=2000/\LQ lines⟩
abbrev X5:List Za:=[Zb,w93_,Zo,Zd]
abbrev X6:List Za:=[Zc,Zn,Yz,Y0,Y3,Y4,Y5,Y6,Y7,Y8,Y9,Xa,Xb,Xc,Xd,Xe,Xf,Xg,Xh,Xi,Xj,Xk,w114_]
set_option maxHeartbeats 4000000 in
theorem ok12 (r1X:SV) (gr1:Nat) (r1:l51Rd) (lines:List Za):(S12 r1X gr1 r1 lines).ok Tryz.prog 12 :=
 fnG_ok mixed (fn:=Tryz.f12) (ct:=.seqk [(0,0),(1,0)] .no (.seq (.reg [(1,kh28a lines)]) (.seq (.seq (.reg [(5,kh11l r1X 0 r1.b r1.p 5)]) (.cond (.seq (.seqk [(0,0),(5,0)] .no (.blk (.loop (ι:=Nat×(List Za×Int×Int)) (fun i=>(fun (out:List Za) (i40:Int) (r2:Int)=>(⟨[(0,some (.p 0 0)),(5,some (.h 2 0)),(6,some (.v (vI i40)))],[(0,some (.box 49 [.h 1 0,.v (vI r2)])),(1,some (.vl (sv r1X) (.l 1 eByte r1.b))),(2,some (.own 2 (.l 1 eStr out)))],3⟩:St)) i.2.1 i.2.2.1 i.2.2.2) (lJ12_0 r1 lines) (fun i=>i.1) (lN12_0 r1 lines) (fun i=>(fun (out:List Za) (i40:Int) (r2:Int)=>(.seq (.seq (.reg [(2,kh11l r1X 1 r1.b r2 2),(3,.bnd)]) (.cond .no .no)) (.seq (.blk (.reg [(1,.dat (.l 1 eStr X2)),(7,kh22 out ((Yf++(X2.getD (Int.toNat i40) default))++Yv))])) (.reg [(1,.bnd)])))) i.2.1 i.2.2.1 i.2.2.2)))) (.seq .no .no)) .no)) (.seq (.reg [(3,kh11l r1X 0 r1.b (bif (!((lines.length:Int)==0)) then (F11 ⟨r1.b,r1.p⟩ 5).2 else r1.p) (lines.length:Int))]) (.seq (.seq (.reg [(1,kh11l r1X 0 r1.b (F11 ⟨r1.b,(bif (!((lines.length:Int)==0)) then (F11 ⟨r1.b,r1.p⟩ 5).2 else r1.p)⟩ (lines.length:Int)).2 4)]) (.blk (.seq .no (.cond (.reg [(7,.dat (.l 1 eStr X5)),(8,kh29l r1X 0 r1.b (F11 ⟨r1.b,(F11 ⟨r1.b,(bif (!((lines.length:Int)==0)) then (F11 ⟨r1.b,r1.p⟩ 5).2 else r1.p)⟩ (lines.length:Int)).2⟩ 4).2 X5),(11,.dat (.l 1 eStr (lines.set (F11 ⟨r1.b,(bif (!((lines.length:Int)==0)) then (F11 ⟨r1.b,r1.p⟩ 5).2 else r1.p)⟩ (lines.length:Int)).1.toNat ((lines.getD (F11 ⟨r1.b,(bif (!((lines.length:Int)==0)) then (F11 ⟨r1.b,r1.p⟩ 5).2 else r1.p)⟩ (lines.length:Int)).1.toNat default)++(F29 ⟨r1.b,(F11 ⟨r1.b,(F11 ⟨r1.b,(bif (!((lines.length:Int)==0)) then (F11 ⟨r1.b,r1.p⟩ 5).2 else r1.p)⟩ (lines.length:Int)).2⟩ 4).2⟩ X5).1))))]) (.seq .no (.cond (.reg [(6,.dat (.l 1 eStr (lines++[(lines.getD (F11 ⟨r1.b,(bif (!((lines.length:Int)==0)) then (F11 ⟨r1.b,r1.p⟩ 5).2 else r1.p)⟩ (lines.length:Int)).1.toNat default)])))]) (.seq .no (.cond (.reg [(3,.dat (.l 1 eStr X6)),(4,kh29l r1X 0 r1.b (F11 ⟨r1.b,(F11 ⟨r1.b,(bif (!((lines.length:Int)==0)) then (F11 ⟨r1.b,r1.p⟩ 5).2 else r1.p)⟩ (lines.length:Int)).2⟩ 4).2 X6),(6,.dat (.l 1 eStr (lines.set (F11 ⟨r1.b,(bif (!((lines.length:Int)==0)) then (F11 ⟨r1.b,r1.p⟩ 5).2 else r1.p)⟩ (lines.length:Int)).1.toNat (F29 ⟨r1.b,(F11 ⟨r1.b,(F11 ⟨r1.b,(bif (!((lines.length:Int)==0)) then (F11 ⟨r1.b,r1.p⟩ 5).2 else r1.p)⟩ (lines.length:Int)).2⟩ 4).2⟩ X6).1)))]) (.reg [(2,.call 27 (S27 lines (F11 ⟨r1.b,(bif (!((lines.length:Int)==0)) then (F11 ⟨r1.b,r1.p⟩ 5).2 else r1.p)⟩ (lines.length:Int)).1) (ok27 lines (F11 ⟨r1.b,(bif (!((lines.length:Int)==0)) then (F11 ⟨r1.b,r1.p⟩ 5).2 else r1.p)⟩ (lines.length:Int)).1) none),(4,kh24l r1X 0 r1.b (F11 ⟨r1.b,(F11 ⟨r1.b,(bif (!((lines.length:Int)==0)) then (F11 ⟨r1.b,r1.p⟩ 5).2 else r1.p)⟩ (lines.length:Int)).2⟩ 4).2),(5,.call 22 (S22 (F27 lines (F11 ⟨r1.b,(bif (!((lines.length:Int)==0)) then (F11 ⟨r1.b,r1.p⟩ 5).2 else r1.p)⟩ (lines.length:Int)).1) (F24 ⟨r1.b,(F11 ⟨r1.b,(F11 ⟨r1.b,(bif (!((lines.length:Int)==0)) then (F11 ⟨r1.b,r1.p⟩ 5).2 else r1.p)⟩ (lines.length:Int)).2⟩ 4).2⟩).1) (ok22 (F27 lines (F11 ⟨r1.b,(bif (!((lines.length:Int)==0)) then (F11 ⟨r1.b,r1.p⟩ 5).2 else r1.p)⟩ (lines.length:Int)).1) (F24 ⟨r1.b,(F11 ⟨r1.b,(F11 ⟨r1.b,(bif (!((lines.length:Int)==0)) then (F11 ⟨r1.b,r1.p⟩ 5).2 else r1.p)⟩ (lines.length:Int)).2⟩ 4).2⟩).1) none)]))))))))) (.seq .no .no)))))) Tryz.func12 (fun (hp:0<=r1.p/\r1.p<=800000000/\r1.b.length<=2000/\LQ lines)=>have hpre0:=hp.1; have hpre1:=hp.2.1; have hpre2:=hp.2.2.1; have hpre3:=hp.2.2.2; kn r1.b fun _=>kn lines fun _=>kc28a lines uu37 (ai (fun k3:((lines.length:Int)==0)=false=>have _:=beqF k3; (ai (uu0:0<=r1.p) (ai (uu0:r1.p<=1000000000) (uu0:r1.b.length<=2000)))) (ai (fun k4:((lines.length:Int)==0)=false=>have _:=beqF k4; (Eq.refl (sv r1X))) (ai (fun k5:((lines.length:Int)==0)=false=>have _:=beqF k5; (Imp.refl (.l 1 eByte r1.b))) (ai (fun k6:((lines.length:Int)==0)=false=>have _:=beqF k6; (Imps.refl [.v (vI r1.p)])) (ai (fun k7:((lines.length:Int)==0)=false=>have _:=beqF k7; (Imp.refl (.v (vI 5)))) (have gv1:0<=(F11 ⟨r1.b,r1.p⟩ 5).1/\(1<=(5:Int)->(F11 ⟨r1.b,r1.p⟩ 5).1<(5:Int))/\(F11 ⟨r1.b,r1.p⟩ 5).2=r1.p+1:=pick_in (⟨r1.b,r1.p⟩:l51Rd) 5 (uu0:0<=r1.p) (uu0:r1.p<=1000000000); ifb (bif ((lines.length:Int)==0) then true else ((F11 ⟨r1.b,r1.p⟩ 5).1==0)) (fun h8=>kn r1.b fun _=>kn lines fun _=>ai (en12_0 r1X r1 lines (by refine ⟨?_,?_,?_,?_,?_,?_⟩ <;> first | omega | (simp only [lens,ib] at*<;> omega) | exact put_szN (by assumption) (szLe (app_le (app_le (lit_le _) (getD_sz (n:=2) (by decide) _)) (lit_le _)) (by decide)) | exact (lq_ls (by assumption)).2 | (have h9:=lq_len (by assumption:LQ lines); omega) | (simp only [put_len] at *; omega) | (have h0:0<=(bif (!((lines.length:Int)==0)) then (F11 ⟨r1.b,r1.p⟩ 5).2 else r1.p)/\(bif (!((lines.length:Int)==0)) then (F11 ⟨r1.b,r1.p⟩ 5).2 else r1.p)<=r1.p+1:=(by (cases ((lines.length:Int)==0) <;> simp only [Sa,Sx,Qc,Qh] <;> omega)); omega))) (fun (i0:Nat×(List Za×Int×Int)) (hi0:lJ12_0 r1 lines i0)=>(fun (m0:Nat) (out:List Za) (i40:Int) (r2:Int) (hh0:lH12_0 r1 lines i0 m0 out i40 r2)=>have hI0:=hh0.1; have hl0:=hh0.2.1; have _:=hh0.2.2.1; have _:=hh0.2.2.2.1; have _:=hh0.2.2.2.2.1; have _:=hh0.2.2.2.2.2.1; have _:=hh0.2.2.2.2.2.2.1; have _:=hh0.2.2.2.2.2.2.2.1; have _:=hh0.2.2.2.2.2.2.2.2; kc11l r1X r1.b r2 2 uu0 uu0 uu0 uu0 uu0 (fun gv10=>have gv11:(F11 ⟨r1.b,r2⟩ 2).1<(2:Int):=uu19; ai (iok (16+(F11 ⟨r1.b,r2⟩ 2).1) uu0) (ifd (i40<(16+(F11 ⟨r1.b,r2⟩ 2).1)) (fun h12 _=>ai (bokr 1 eStr X2 fun _=>rfl) (ai (uu24:ib i40 X2) (ai (by exact sumLe (lit_le _) (getD_sz (n:=2) (by decide) _) (by decide):((Yf.size+(X2.getD (Int.toNat i40) default).size:Nat):Int)<=9223372036854775807) (ai (by exact sumLe (app_le (lit_le _) (getD_sz (n:=2) (by decide) _)) (lit_le _) (by decide):(((Yf++(X2.getD (Int.toNat i40) default)).size+Yv.size:Nat):Int)<=9223372036854775807) (kc22 out ((Yf++(X2.getD (Int.toNat i40) default))++Yv) uu0 uu70 uu70 (by exact szLe (app_le (app_le (lit_le _) (getD_sz (n:=2) (by decide) _)) (lit_le _)) (by decide)) (fun gv13 gv14=>ai (iok (i40+1) uu0) (bk12_0 r1X r1 lines i0 m0 (F22 out ((Yf++(X2.getD (Int.toNat i40) default))++Yv)) (i40+1) (F11 ⟨r1.b,r2⟩ 2).2 hl0 (runL_next hI0 (condT h12 rfl)) (by refine ⟨?_,?_,?_,?_,?_,?_,?_⟩ <;> first | omega | (simp only [lens,ib] at*<;> omega) | exact put_szN (by assumption) (szLe (app_le (app_le (lit_le _) (getD_sz (n:=2) (by decide) _)) (lit_le _)) (by decide)) | exact (lq_ls (by assumption)).2 | (have h9:=lq_len (by assumption:LQ lines); omega) | (simp only [put_len] at *; omega) | (have h0:0<=(bif (!((lines.length:Int)==0)) then (F11 ⟨r1.b,r1.p⟩ 5).2 else r1.p)/\(bif (!((lines.length:Int)==0)) then (F11 ⟨r1.b,r1.p⟩ 5).2 else r1.p)<=r1.p+1:=(by (cases ((lines.length:Int)==0) <;> simp only [Sa,Sx,Qc,Qh] <;> omega)); omega))))))))) (fun h12 _=>have hD0_15:lX12_0 r1 lines=Lp.done (out,i40,(F11 ⟨r1.b,r2⟩ 2).2):=runL_done hI0 (condF h12 rfl); (fun hF:(out,(F11 ⟨r1.b,r2⟩ 2).2)=(F12 r1 lines)=>ai (Imp.of_eq (Qg (fun r:List Za×Int=>Dat.l 1 eStr r.1) hF)) (ai (ai (Imp.refl (Dat.v (sv r1X))) (ai (Imp.of_eq (Qg (fun r:List Za×Int=>Dat.v (vI r.2)) hF)) trivial)) trivial)) (condT h8 (finD hD0_15 rfl)))))) (i0.1-1) i0.2.1 i0.2.2.1 i0.2.2.2 (un12_0 r1 lines i0 hi0))) (fun h8=>have _:=beqF (orF1 h8); have _:=beqF (orF2 h8); kc11l r1X r1.b (bif (!((lines.length:Int)==0)) then (F11 ⟨r1.b,r1.p⟩ 5).2 else r1.p) (lines.length:Int) uu12 uu12 uu0 uu12 uu12 (fun gv16=>have gv17:(F11 ⟨r1.b,(bif (!((lines.length:Int)==0)) then (F11 ⟨r1.b,r1.p⟩ 5).2 else r1.p)⟩ (lines.length:Int)).1<(lines.length:Int):=uu71; kc11l r1X r1.b (F11 ⟨r1.b,(bif (!((lines.length:Int)==0)) then (F11 ⟨r1.b,r1.p⟩ 5).2 else r1.p)⟩ (lines.length:Int)).2 4 uu12 uu12 uu0 uu12 uu12 (fun gv18=>have gv19:(F11 ⟨r1.b,(F11 ⟨r1.b,(bif (!((lines.length:Int)==0)) then (F11 ⟨r1.b,r1.p⟩ 5).2 else r1.p)⟩ (lines.length:Int)).2⟩ 4).1<(4:Int):=uu71; ife (F11 ⟨r1.b,(F11 ⟨r1.b,(bif (!((lines.length:Int)==0)) then (F11 ⟨r1.b,r1.p⟩ 5).2 else r1.p)⟩ (lines.length:Int)).2⟩ 4).1 0 (fun h20 _=>ai (uu0:ib (F11 ⟨r1.b,(bif (!((lines.length:Int)==0)) then (F11 ⟨r1.b,r1.p⟩ 5).2 else r1.p)⟩ (lines.length:Int)).1 lines) (ai (bokr 1 eStr X5 fun _=>rfl) (kc29l r1X r1.b (F11 ⟨r1.b,(F11 ⟨r1.b,(bif (!((lines.length:Int)==0)) then (F11 ⟨r1.b,r1.p⟩ 5).2 else r1.p)⟩ (lines.length:Int)).2⟩ 4).2 X5 uu12 uu12 uu0 uu1 uu1 uu12 uu12 uu1 (fun gv21=>ai (by exact sumLe ((by assumption:LQ lines).2 _) (of_le (n:=80) _ _ (by decide)) (by decide):(((lines.getD (F11 ⟨r1.b,(bif (!((lines.length:Int)==0)) then (F11 ⟨r1.b,r1.p⟩ 5).2 else r1.p)⟩ (lines.length:Int)).1.toNat default).size+(F29 ⟨r1.b,(F11 ⟨r1.b,(F11 ⟨r1.b,(bif (!((lines.length:Int)==0)) then (F11 ⟨r1.b,r1.p⟩ 5).2 else r1.p)⟩ (lines.length:Int)).2⟩ 4).2⟩ X5).1.size:Nat):Int)<=9223372036854775807) (ai (uu0:ib (F11 ⟨r1.b,(bif (!((lines.length:Int)==0)) then (F11 ⟨r1.b,r1.p⟩ 5).2 else r1.p)⟩ (lines.length:Int)).1 lines) (ai (setr 1 eStr lines (F11 ⟨r1.b,(bif (!((lines.length:Int)==0)) then (F11 ⟨r1.b,r1.p⟩ 5).2 else r1.p)⟩ (lines.length:Int)).1.toNat ((lines.getD (F11 ⟨r1.b,(bif (!((lines.length:Int)==0)) then (F11 ⟨r1.b,r1.p⟩ 5).2 else r1.p)⟩ (lines.length:Int)).1.toNat default)++(F29 ⟨r1.b,(F11 ⟨r1.b,(F11 ⟨r1.b,(bif (!((lines.length:Int)==0)) then (F11 ⟨r1.b,r1.p⟩ 5).2 else r1.p)⟩ (lines.length:Int)).2⟩ 4).2⟩ X5).1)) ((fun hF:((lines.set (F11 ⟨r1.b,(bif (!((lines.length:Int)==0)) then (F11 ⟨r1.b,r1.p⟩ 5).2 else r1.p)⟩ (lines.length:Int)).1.toNat ((lines.getD (F11 ⟨r1.b,(bif (!((lines.length:Int)==0)) then (F11 ⟨r1.b,r1.p⟩ 5).2 else r1.p)⟩ (lines.length:Int)).1.toNat default)++(F29 ⟨r1.b,(F11 ⟨r1.b,(F11 ⟨r1.b,(bif (!((lines.length:Int)==0)) then (F11 ⟨r1.b,r1.p⟩ 5).2 else r1.p)⟩ (lines.length:Int)).2⟩ 4).2⟩ X5).1)),(F29 ⟨r1.b,(F11 ⟨r1.b,(F11 ⟨r1.b,(bif (!((lines.length:Int)==0)) then (F11 ⟨r1.b,r1.p⟩ 5).2 else r1.p)⟩ (lines.length:Int)).2⟩ 4).2⟩ X5).2)=(F12 r1 lines)=>ai (Imp.of_eq (Qg (fun r:List Za×Int=>Dat.l 1 eStr r.1) hF)) (ai (ai (Imp.refl (Dat.v (sv r1X))) (ai (Imp.of_eq (Qg (fun r:List Za×Int=>Dat.v (vI r.2)) hF)) trivial)) trivial)) (condF h8 (condT h20 rfl))))))))) (fun h20 _=>ife (F11 ⟨r1.b,(F11 ⟨r1.b,(bif (!((lines.length:Int)==0)) then (F11 ⟨r1.b,r1.p⟩ 5).2 else r1.p)⟩ (lines.length:Int)).2⟩ 4).1 1 (fun h22 _=>ai (uu0:ib (F11 ⟨r1.b,(bif (!((lines.length:Int)==0)) then (F11 ⟨r1.b,r1.p⟩ 5).2 else r1.p)⟩ (lines.length:Int)).1 lines) (ai (appr 1 eStr lines [(lines.getD (F11 ⟨r1.b,(bif (!((lines.length:Int)==0)) then (F11 ⟨r1.b,r1.p⟩ 5).2 else r1.p)⟩ (lines.length:Int)).1.toNat default)] fun _=>rfl) (ai (by have h9:=lq_len hpre3; (try simp only [lens]); omega:(lines++[(lines.getD (F11 ⟨r1.b,(bif (!((lines.length:Int)==0)) then (F11 ⟨r1.b,r1.p⟩ 5).2 else r1.p)⟩ (lines.length:Int)).1.toNat default)]).length*16<=140737488355328) ((fun hF:((lines++[(lines.getD (F11 ⟨r1.b,(bif (!((lines.length:Int)==0)) then (F11 ⟨r1.b,r1.p⟩ 5).2 else r1.p)⟩ (lines.length:Int)).1.toNat default)]),(F11 ⟨r1.b,(F11 ⟨r1.b,(bif (!((lines.length:Int)==0)) then (F11 ⟨r1.b,r1.p⟩ 5).2 else r1.p)⟩ (lines.length:Int)).2⟩ 4).2)=(F12 r1 lines)=>ai (Imp.of_eq (Qg (fun r:List Za×Int=>Dat.l 1 eStr r.1) hF)) (ai (ai (Imp.refl (Dat.v (sv r1X))) (ai (Imp.of_eq (Qg (fun r:List Za×Int=>Dat.v (vI r.2)) hF)) trivial)) trivial)) (condF h8 (condF h20 (condT h22 rfl))))))) (fun h22 _=>ife (F11 ⟨r1.b,(F11 ⟨r1.b,(bif (!((lines.length:Int)==0)) then (F11 ⟨r1.b,r1.p⟩ 5).2 else r1.p)⟩ (lines.length:Int)).2⟩ 4).1 2 (fun h23 _=>ai (bokr 1 eStr X6 fun _=>rfl) (kc29l r1X r1.b (F11 ⟨r1.b,(F11 ⟨r1.b,(bif (!((lines.length:Int)==0)) then (F11 ⟨r1.b,r1.p⟩ 5).2 else r1.p)⟩ (lines.length:Int)).2⟩ 4).2 X6 uu12 uu12 uu0 uu1 uu1 uu12 uu12 uu1 (fun gv24=>ai (uu0:ib (F11 ⟨r1.b,(bif (!((lines.length:Int)==0)) then (F11 ⟨r1.b,r1.p⟩ 5).2 else r1.p)⟩ (lines.length:Int)).1 lines) (ai (setr 1 eStr lines (F11 ⟨r1.b,(bif (!((lines.length:Int)==0)) then (F11 ⟨r1.b,r1.p⟩ 5).2 else r1.p)⟩ (lines.length:Int)).1.toNat (F29 ⟨r1.b,(F11 ⟨r1.b,(F11 ⟨r1.b,(bif (!((lines.length:Int)==0)) then (F11 ⟨r1.b,r1.p⟩ 5).2 else r1.p)⟩ (lines.length:Int)).2⟩ 4).2⟩ X6).1) ((fun hF:((lines.set (F11 ⟨r1.b,(bif (!((lines.length:Int)==0)) then (F11 ⟨r1.b,r1.p⟩ 5).2 else r1.p)⟩ (lines.length:Int)).1.toNat (F29 ⟨r1.b,(F11 ⟨r1.b,(F11 ⟨r1.b,(bif (!((lines.length:Int)==0)) then (F11 ⟨r1.b,r1.p⟩ 5).2 else r1.p)⟩ (lines.length:Int)).2⟩ 4).2⟩ X6).1),(F29 ⟨r1.b,(F11 ⟨r1.b,(F11 ⟨r1.b,(bif (!((lines.length:Int)==0)) then (F11 ⟨r1.b,r1.p⟩ 5).2 else r1.p)⟩ (lines.length:Int)).2⟩ 4).2⟩ X6).2)=(F12 r1 lines)=>ai (Imp.of_eq (Qg (fun r:List Za×Int=>Dat.l 1 eStr r.1) hF)) (ai (ai (Imp.refl (Dat.v (sv r1X))) (ai (Imp.of_eq (Qg (fun r:List Za×Int=>Dat.v (vI r.2)) hF)) trivial)) trivial)) (condF h8 (condF h20 (condF h22 (condT h23 rfl))))))))) (fun h23 _=>ai (ai (uu0:0<=(F11 ⟨r1.b,(bif (!((lines.length:Int)==0)) then (F11 ⟨r1.b,r1.p⟩ 5).2 else r1.p)⟩ (lines.length:Int)).1) (ai (uu0:(F11 ⟨r1.b,(bif (!((lines.length:Int)==0)) then (F11 ⟨r1.b,r1.p⟩ 5).2 else r1.p)⟩ (lines.length:Int)).1<(lines.length:Int)) (uu37:lines.length<=1048576))) (ai (Imp.refl (.l 1 eStr lines)) (ai (Imp.refl (.v (vI (F11 ⟨r1.b,(bif (!((lines.length:Int)==0)) then (F11 ⟨r1.b,r1.p⟩ 5).2 else r1.p)⟩ (lines.length:Int)).1))) (have gv25:(F27 lines (F11 ⟨r1.b,(bif (!((lines.length:Int)==0)) then (F11 ⟨r1.b,r1.p⟩ 5).2 else r1.p)⟩ (lines.length:Int)).1).length+1=lines.length:=without_len lines (F11 ⟨r1.b,(bif (!((lines.length:Int)==0)) then (F11 ⟨r1.b,r1.p⟩ 5).2 else r1.p)⟩ (lines.length:Int)).1 (uu0:0<=(F11 ⟨r1.b,(bif (!((lines.length:Int)==0)) then (F11 ⟨r1.b,r1.p⟩ 5).2 else r1.p)⟩ (lines.length:Int)).1) (uu0:(F11 ⟨r1.b,(bif (!((lines.length:Int)==0)) then (F11 ⟨r1.b,r1.p⟩ 5).2 else r1.p)⟩ (lines.length:Int)).1<(lines.length:Int)) (uu37:lines.length<=1048576); have gv26:∀ q:Nat,((F27 lines (F11 ⟨r1.b,(bif (!((lines.length:Int)==0)) then (F11 ⟨r1.b,r1.p⟩ 5).2 else r1.p)⟩ (lines.length:Int)).1).getD q default).size<=1048576:=without_sz lines (F11 ⟨r1.b,(bif (!((lines.length:Int)==0)) then (F11 ⟨r1.b,r1.p⟩ 5).2 else r1.p)⟩ (lines.length:Int)).1 (uu22:∀ q:Nat,(lines.getD q default).size<=1048576); kc24l r1X r1.b (F11 ⟨r1.b,(F11 ⟨r1.b,(bif (!((lines.length:Int)==0)) then (F11 ⟨r1.b,r1.p⟩ 5).2 else r1.p)⟩ (lines.length:Int)).2⟩ 4).2 uu12 uu12 uu0 uu12 uu12 (fun gv27=>ai (ai (uu37:(F27 lines (F11 ⟨r1.b,(bif (!((lines.length:Int)==0)) then (F11 ⟨r1.b,r1.p⟩ 5).2 else r1.p)⟩ (lines.length:Int)).1).length<=1048576) (uu0:∀ k:Nat,((F27 lines (F11 ⟨r1.b,(bif (!((lines.length:Int)==0)) then (F11 ⟨r1.b,r1.p⟩ 5).2 else r1.p)⟩ (lines.length:Int)).1).getD k default).size<=1048576)) (ai (Imp.refl (.l 1 eStr (F27 lines (F11 ⟨r1.b,(bif (!((lines.length:Int)==0)) then (F11 ⟨r1.b,r1.p⟩ 5).2 else r1.p)⟩ (lines.length:Int)).1))) (ai (Imp.refl (.v (.string (F24 ⟨r1.b,(F11 ⟨r1.b,(F11 ⟨r1.b,(bif (!((lines.length:Int)==0)) then (F11 ⟨r1.b,r1.p⟩ 5).2 else r1.p)⟩ (lines.length:Int)).2⟩ 4).2⟩).1))) (have gv28:(F22 (F27 lines (F11 ⟨r1.b,(bif (!((lines.length:Int)==0)) then (F11 ⟨r1.b,r1.p⟩ 5).2 else r1.p)⟩ (lines.length:Int)).1) (F24 ⟨r1.b,(F11 ⟨r1.b,(F11 ⟨r1.b,(bif (!((lines.length:Int)==0)) then (F11 ⟨r1.b,r1.p⟩ 5).2 else r1.p)⟩ (lines.length:Int)).2⟩ 4).2⟩).1).length=(F27 lines (F11 ⟨r1.b,(bif (!((lines.length:Int)==0)) then (F11 ⟨r1.b,r1.p⟩ 5).2 else r1.p)⟩ (lines.length:Int)).1).length+1:=put_len (F27 lines (F11 ⟨r1.b,(bif (!((lines.length:Int)==0)) then (F11 ⟨r1.b,r1.p⟩ 5).2 else r1.p)⟩ (lines.length:Int)).1) (F24 ⟨r1.b,(F11 ⟨r1.b,(F11 ⟨r1.b,(bif (!((lines.length:Int)==0)) then (F11 ⟨r1.b,r1.p⟩ 5).2 else r1.p)⟩ (lines.length:Int)).2⟩ 4).2⟩).1; have gv29:∀ k:Nat,((F22 (F27 lines (F11 ⟨r1.b,(bif (!((lines.length:Int)==0)) then (F11 ⟨r1.b,r1.p⟩ 5).2 else r1.p)⟩ (lines.length:Int)).1) (F24 ⟨r1.b,(F11 ⟨r1.b,(F11 ⟨r1.b,(bif (!((lines.length:Int)==0)) then (F11 ⟨r1.b,r1.p⟩ 5).2 else r1.p)⟩ (lines.length:Int)).2⟩ 4).2⟩).1).getD k default).size<=1048576:=put_sz (F27 lines (F11 ⟨r1.b,(bif (!((lines.length:Int)==0)) then (F11 ⟨r1.b,r1.p⟩ 5).2 else r1.p)⟩ (lines.length:Int)).1) (F24 ⟨r1.b,(F11 ⟨r1.b,(F11 ⟨r1.b,(bif (!((lines.length:Int)==0)) then (F11 ⟨r1.b,r1.p⟩ 5).2 else r1.p)⟩ (lines.length:Int)).2⟩ 4).2⟩).1 (uu0:∀ k:Nat,((F27 lines (F11 ⟨r1.b,(bif (!((lines.length:Int)==0)) then (F11 ⟨r1.b,r1.p⟩ 5).2 else r1.p)⟩ (lines.length:Int)).1).getD k default).size<=1048576) (uu0:(F24 ⟨r1.b,(F11 ⟨r1.b,(F11 ⟨r1.b,(bif (!((lines.length:Int)==0)) then (F11 ⟨r1.b,r1.p⟩ 5).2 else r1.p)⟩ (lines.length:Int)).2⟩ 4).2⟩).1.size<=1048576); (fun hF:((F22 (F27 lines (F11 ⟨r1.b,(bif (!((lines.length:Int)==0)) then (F11 ⟨r1.b,r1.p⟩ 5).2 else r1.p)⟩ (lines.length:Int)).1) (F24 ⟨r1.b,(F11 ⟨r1.b,(F11 ⟨r1.b,(bif (!((lines.length:Int)==0)) then (F11 ⟨r1.b,r1.p⟩ 5).2 else r1.p)⟩ (lines.length:Int)).2⟩ 4).2⟩).1),(F24 ⟨r1.b,(F11 ⟨r1.b,(F11 ⟨r1.b,(bif (!((lines.length:Int)==0)) then (F11 ⟨r1.b,r1.p⟩ 5).2 else r1.p)⟩ (lines.length:Int)).2⟩ 4).2⟩).2)=(F12 r1 lines)=>ai (Imp.of_eq (Qg (fun r:List Za×Int=>Dat.l 1 eStr r.1) hF)) (ai (ai (Imp.refl (Dat.v (sv r1X))) (ai (Imp.of_eq (Qg (fun r:List Za×Int=>Dat.v (vI r.2)) hF)) trivial)) trivial)) (condF h8 (condF h20 (condF h22 (condF h23 rfl)))))))))))))))))))))))) uu2
theorem set_szN {xs:List Za} {n k:Nat} {v:Za} (h:∀ q:Nat,(xs.getD q default).size<=n) (hv:v.size<=n):∀ q:Nat,((xs.set k v).getD q default).size<=n:=getD_sz fun x hx=>by
 rcases T4 hx with hx | rfl
 ·exact mem_sz h hx
 ·exact hv
theorem app_szN {xs:List Za} {n:Nat} {v:Za} (h:∀ q:Nat,(xs.getD q default).size<=n) (hv:v.size<=n):∀ q:Nat,((xs++[v]).getD q default).size<=n:=getD_sz fun x hx=>by
 rcases Q1.1 hx with hx | hx
 ·exact mem_sz h hx
 ·rw [Qu.1 hx]; exact hv
theorem spoil_loop (r1:l51Rd) (lines:List Za):∀ (m i:Nat) (out:List Za) (r:Int),i+m=17->out.length<=17+i->(∀ q:Nat,(out.getD q default).size<=1000)->0<=r->r+m<=900000000->∀ M,m<M ->
  ∃ ys i' r',runL (F12_s0 r1 lines) M (out,(i:Int),r)=.done (ys,i',r')/\ys.length<=34/\(∀ q:Nat,(ys.getD q default).size<=1000)/\r<=r'/\r'<=r+m+1
 | _,_,_,_,_,_,_,_,_,0,hM=>absurd hM (Sd _)
 | m,i,out,r,hi,hl,hz,h0,hB,M+1,hM=>by
  obtain ⟨k1,k2,k3⟩:=pick_in (⟨r1.b,r⟩:l51Rd) 2 h0 (by show r<=_; omega)
  have k2:=k2 uu1
  by_cases hc:(i:Int)<(16+((F11 (⟨r1.b,r⟩:l51Rd) 2).1))
  ·obtain ⟨m,rfl⟩:∃ m',m=m'+1:=⟨m-1,by omega⟩
   have e:F12_s0 r1 lines (out,(i:Int),r)=.next (F22 out ((Yf++(X2.getD (Int.toNat (i:Int)) default))++Yv),((i+1:Nat):Int),(F11 (⟨r1.b,r⟩:l51Rd) 2).2):=by
    simp only [F12_s0]
    rw [Qs hc]; rfl
   obtain ⟨ys,i',r',e1,q1,q2,q3,q4⟩:=spoil_loop r1 lines m (i+1) (F22 out ((Yf++(X2.getD (Int.toNat (i:Int)) default))++Yv)) (F11 (⟨r1.b,r⟩:l51Rd) 2).2 uu0 (by rw [put_len]; omega) (put_szN hz (szLe (app_le (app_le (lit_le _) (getD_sz (n:=2) uu1 _)) (lit_le _)) uu1)) uu20 uu20 M uu0
   simp only [pick_p] at q3 q4
   refine ⟨ys,i',r',?_,q1,q2,by omega,by omega⟩
   rw [runL_n _ e]
   exact e1
  ·have e:F12_s0 r1 lines (out,(i:Int),r)=.done (out,(i:Int),(F11 (⟨r1.b,r⟩:l51Rd) 2).2):=by
    simp only [F12_s0]
    rw [Qq hc]; rfl
   refine ⟨out,i,_,runL_d _ e,by omega,hz,?_,?_⟩ <;> (simp only [pick_p]; omega)
theorem spoil_q (r1:l51Rd) (lines:List Za) (h0:0<=r1.p) (h1:r1.p<=800000000) (h:LQ lines):LS (F12 r1 lines).1/\0<=(F12 r1 lines).2/\(F12 r1 lines).2<=r1.p+60:=by
 have h9:∀ q:Nat,(lines.getD q default).size<=1000:=(lq_ls h).2
 have hl:=h.1
 unfold F12
 have hp:r1.p<=(bif (!((lines.length:Int)==0)) then ((F11 (⟨r1.b,r1.p⟩:l51Rd) 5).2) else r1.p)/\(bif (!((lines.length:Int)==0)) then ((F11 (⟨r1.b,r1.p⟩:l51Rd) 5).2) else r1.p)<=r1.p+1:=by
  cases ((lines.length:Int)==0)
  ·simp only [Sx,Qc,pick_p]; omega
  ·simp only [Sa,Qh]; omega
 generalize (bif (!((lines.length:Int)==0)) then ((F11 (⟨r1.b,r1.p⟩:l51Rd) 5).2) else r1.p)=p0 at hp ⊢
 cases hc:(bif ((lines.length:Int)==0) then true else ((F11 (⟨r1.b,r1.p⟩:l51Rd) 5).1==0)) with
 | true =>
  rw [Qc]
  obtain ⟨ys,i',r',e1,q1,q2,q3,q4⟩:=spoil_loop r1 lines 17 0 lines p0 uu0 uu0 h9 uu0 uu0 (Int.toNat (17-0)+1) uu1
  rw [show (lines,(0:Int),p0)=(lines,((0:Nat):Int),p0) from rfl,e1]
  refine ⟨⟨by show ys.length<=40; omega,q2⟩,?_,?_⟩ <;> (simp only [Lp.fin,pick_p]; omega)
 | false =>
  have hne:¬ (lines.length:Int)=0:=fun e=>by
   rw [show ((lines.length:Int)==0)=true from Sp.2 e,Qc] at hc; cases hc
  rw [Qh]
  obtain ⟨k1,k2,k3⟩:=pick_in (⟨r1.b,p0⟩:l51Rd) (lines.length:Int) (by show 0<=p0; omega) (by show p0<=_; omega)
  have k2:=k2 uu0
  obtain ⟨z1,z2,z3⟩:=dline_all (⟨r1.b,(F11 (⟨r1.b,(F11 (⟨r1.b,p0⟩:l51Rd) (lines.length:Int)).2⟩:l51Rd) 4).2⟩:l51Rd)
  simp only [pick_p] at z2 z3
  have hw:=without_len lines _ k1 k2 uu0
  apply cond_P (P:=fun z:List Za×Int=>LS z.1/\0<=z.2/\z.2<=r1.p+60)
  ·refine ⟨⟨by rw [List.length_set]; omega,set_szN h9 (szLe (app_le (h.2 _) (of_le (n:=80) _ _ uu1)) uu1)⟩,?_,?_⟩ <;> (simp only [of_p,pick_p]; omega)
  apply cond_P (P:=fun z:List Za×Int=>LS z.1/\0<=z.2/\z.2<=r1.p+60)
  ·refine ⟨⟨by rw [Q6]; simp only [Q4,Rw]; omega,app_szN h9 (h9 _)⟩,?_,?_⟩ <;> (simp only [pick_p]; omega)
  apply cond_P (P:=fun z:List Za×Int=>LS z.1/\0<=z.2/\z.2<=r1.p+60)
  ·refine ⟨⟨by rw [List.length_set]; omega,set_szN h9 (szLe (of_le (n:=80) _ _ uu1) uu1)⟩,?_,?_⟩ <;> (simp only [of_p,pick_p]; omega)
  ·refine ⟨⟨by rw [put_len]; omega,put_szN (without_szN _ h9) (Q0 z1 uu1)⟩,?_,?_⟩ <;> (simp only [pick_p] at z2 z3 ⊢; omega)
theorem kc9l (X_:SV) (b_:List Int) (pp_:Int) {K_:Prop} (p0_:0<=pp_) (p1_:pp_<=800000000) (p2_:b_.length<=2000) (q0_:0<=pp_) (q1_:pp_<=800000000) (k_:(LQ (F9 ⟨b_,pp_⟩).1/\0<=(F9 ⟨b_,pp_⟩).2/\(F9 ⟨b_,pp_⟩).2<=pp_+450)->K_):(0<=pp_/\pp_<=800000000/\b_.length<=2000)/\(sv X_=sv X_)/\(Imp (.l 1 eByte b_) (.l 1 eByte b_))/\(Imps ([.v (vI pp_)]) ([.v (vI pp_)]))/\K_:=⟨⟨p0_,p1_,p2_⟩,rfl,Imp.refl _,Imps.refl _,k_ (neat_q (⟨b_,pp_⟩:l51Rd) q0_ q1_)⟩
abbrev kh9l (X_:SV) (g_:Nat) (b_:List Int) (pp_:Int):Hint true Tryz.prog:=.call 9 (S9 X_ g_ (⟨b_,pp_⟩:l51Rd)) (ok9 X_ g_ (⟨b_,pp_⟩:l51Rd)) none
theorem kc10l (X_:SV) (b_:List Int) (pp_:Int) (lines:List Za) {K_:Prop} (p0_:0<=pp_) (p1_:pp_<=800000000) (p2_:b_.length<=2000) (p3_:LQ lines) (q0_:0<=pp_) (q1_:pp_<=800000000) (q2_:LQ lines) (k_:(LQ (F10 ⟨b_,pp_⟩ lines).1/\0<=(F10 ⟨b_,pp_⟩ lines).2/\(F10 ⟨b_,pp_⟩ lines).2<=pp_+60)->K_):(0<=pp_/\pp_<=800000000/\b_.length<=2000/\LQ lines)/\(sv X_=sv X_)/\(Imp (.l 1 eByte b_) (.l 1 eByte b_))/\(Imps ([.v (vI pp_)]) ([.v (vI pp_)]))/\(Imp (.l 1 eStr lines) (.l 1 eStr lines))/\K_:=⟨⟨p0_,p1_,p2_,p3_⟩,rfl,Imp.refl _,Imps.refl _,Imp.refl _,k_ (near_q (⟨b_,pp_⟩:l51Rd) lines q0_ q1_ q2_)⟩
abbrev kh10l (X_:SV) (g_:Nat) (b_:List Int) (pp_:Int) (lines:List Za):Hint true Tryz.prog:=.call 10 (S10 X_ g_ (⟨b_,pp_⟩:l51Rd) lines) (ok10 X_ g_ (⟨b_,pp_⟩:l51Rd) lines) none
theorem kc12l (X_:SV) (b_:List Int) (pp_:Int) (lines:List Za) {K_:Prop} (p0_:0<=pp_) (p1_:pp_<=800000000) (p2_:b_.length<=2000) (p3_:LQ lines) (q0_:0<=pp_) (q1_:pp_<=800000000) (q2_:LQ lines) (k_:(LS (F12 ⟨b_,pp_⟩ lines).1/\0<=(F12 ⟨b_,pp_⟩ lines).2/\(F12 ⟨b_,pp_⟩ lines).2<=pp_+60)->K_):(0<=pp_/\pp_<=800000000/\b_.length<=2000/\LQ lines)/\(sv X_=sv X_)/\(Imp (.l 1 eByte b_) (.l 1 eByte b_))/\(Imps ([.v (vI pp_)]) ([.v (vI pp_)]))/\(Imp (.l 1 eStr lines) (.l 1 eStr lines))/\K_:=⟨⟨p0_,p1_,p2_,p3_⟩,rfl,Imp.refl _,Imps.refl _,Imp.refl _,k_ (spoil_q (⟨b_,pp_⟩:l51Rd) lines q0_ q1_ q2_)⟩
abbrev kh12l (X_:SV) (g_:Nat) (b_:List Int) (pp_:Int) (lines:List Za):Hint true Tryz.prog:=.call 12 (S12 X_ g_ (⟨b_,pp_⟩:l51Rd) lines) (ok12 X_ g_ (⟨b_,pp_⟩:l51Rd) lines) none
def F4_s0 (Ua:SV) (code:List Int):(List Za×List Za×Int×Int)->Lp (List Za×List Za×Int×Int) (List Za×List Za×List Za):=fun (b,c,i40,r1) =>
 bif (decide (i40<10)) then (.next ((F10 ⟨(F8 Ua code).1.b,r1⟩ b).1,(F10 ⟨(F8 Ua code).1.b,(F10 ⟨(F8 Ua code).1.b,r1⟩ b).2⟩ c).1,(i40+1),(F10 ⟨(F8 Ua code).1.b,(F10 ⟨(F8 Ua code).1.b,r1⟩ b).2⟩ c).2)) else (.done (b,c,i40,r1))
def F4 (Ua:SV) (code:List Int):List Za×List Za×List Za :=
 bif ((F11 ⟨(F8 Ua code).1.b,(F10 ⟨(F8 Ua code).1.b,(F10 ⟨(F8 Ua code).1.b,(F9 ⟨(F8 Ua code).1.b,(F8 Ua code).1.p⟩).2⟩ (F9 ⟨(F8 Ua code).1.b,(F8 Ua code).1.p⟩).1).2⟩ (F9 ⟨(F8 Ua code).1.b,(F8 Ua code).1.p⟩).1).2⟩ 20).1==0) then ((F9 ⟨(F8 Ua code).1.b,(F8 Ua code).1.p⟩).1,(F12 ⟨(F8 Ua code).1.b,(F11 ⟨(F8 Ua code).1.b,(F10 ⟨(F8 Ua code).1.b,(F10 ⟨(F8 Ua code).1.b,(F9 ⟨(F8 Ua code).1.b,(F8 Ua code).1.p⟩).2⟩ (F9 ⟨(F8 Ua code).1.b,(F8 Ua code).1.p⟩).1).2⟩ (F9 ⟨(F8 Ua code).1.b,(F8 Ua code).1.p⟩).1).2⟩ 20).2⟩ (F10 ⟨(F8 Ua code).1.b,(F9 ⟨(F8 Ua code).1.b,(F8 Ua code).1.p⟩).2⟩ (F9 ⟨(F8 Ua code).1.b,(F8 Ua code).1.p⟩).1).1).1,(F10 ⟨(F8 Ua code).1.b,(F10 ⟨(F8 Ua code).1.b,(F9 ⟨(F8 Ua code).1.b,(F8 Ua code).1.p⟩).2⟩ (F9 ⟨(F8 Ua code).1.b,(F8 Ua code).1.p⟩).1).2⟩ (F9 ⟨(F8 Ua code).1.b,(F8 Ua code).1.p⟩).1).1) else (bif ((F11 ⟨(F8 Ua code).1.b,(F10 ⟨(F8 Ua code).1.b,(F10 ⟨(F8 Ua code).1.b,(F9 ⟨(F8 Ua code).1.b,(F8 Ua code).1.p⟩).2⟩ (F9 ⟨(F8 Ua code).1.b,(F8 Ua code).1.p⟩).1).2⟩ (F9 ⟨(F8 Ua code).1.b,(F8 Ua code).1.p⟩).1).2⟩ 20).1==1) then ((runL (F4_s0 Ua code) ((Int.toNat (10-(0+1)))+1) ((F10 ⟨(F8 Ua code).1.b,(F11 ⟨(F8 Ua code).1.b,(F10 ⟨(F8 Ua code).1.b,(F10 ⟨(F8 Ua code).1.b,(F9 ⟨(F8 Ua code).1.b,(F8 Ua code).1.p⟩).2⟩ (F9 ⟨(F8 Ua code).1.b,(F8 Ua code).1.p⟩).1).2⟩ (F9 ⟨(F8 Ua code).1.b,(F8 Ua code).1.p⟩).1).2⟩ 20).2⟩ Xn).1,(F10 ⟨(F8 Ua code).1.b,(F10 ⟨(F8 Ua code).1.b,(F11 ⟨(F8 Ua code).1.b,(F10 ⟨(F8 Ua code).1.b,(F10 ⟨(F8 Ua code).1.b,(F9 ⟨(F8 Ua code).1.b,(F8 Ua code).1.p⟩).2⟩ (F9 ⟨(F8 Ua code).1.b,(F8 Ua code).1.p⟩).1).2⟩ (F9 ⟨(F8 Ua code).1.b,(F8 Ua code).1.p⟩).1).2⟩ 20).2⟩ Xn).2⟩ Xn).1,(0+1),(F10 ⟨(F8 Ua code).1.b,(F10 ⟨(F8 Ua code).1.b,(F11 ⟨(F8 Ua code).1.b,(F10 ⟨(F8 Ua code).1.b,(F10 ⟨(F8 Ua code).1.b,(F9 ⟨(F8 Ua code).1.b,(F8 Ua code).1.p⟩).2⟩ (F9 ⟨(F8 Ua code).1.b,(F8 Ua code).1.p⟩).1).2⟩ (F9 ⟨(F8 Ua code).1.b,(F8 Ua code).1.p⟩).1).2⟩ 20).2⟩ Xn).2⟩ Xn).2)).fin (fun r=>r) (fun (b,c,i40,r1)=>(Xn,b,c))) else ((F9 ⟨(F8 Ua code).1.b,(F8 Ua code).1.p⟩).1,(F10 ⟨(F8 Ua code).1.b,(F9 ⟨(F8 Ua code).1.b,(F8 Ua code).1.p⟩).2⟩ (F9 ⟨(F8 Ua code).1.b,(F8 Ua code).1.p⟩).1).1,(F10 ⟨(F8 Ua code).1.b,(F10 ⟨(F8 Ua code).1.b,(F9 ⟨(F8 Ua code).1.b,(F8 Ua code).1.p⟩).2⟩ (F9 ⟨(F8 Ua code).1.b,(F8 Ua code).1.p⟩).1).2⟩ (F9 ⟨(F8 Ua code).1.b,(F8 Ua code).1.p⟩).1).1))
abbrev lN4_0 (Ua:SV) (code:List Int):Nat×(List Za×List Za×Int×Int):=(((Int.toNat (10-(0+1)))+1),((F10 ⟨(F8 Ua code).1.b,(F11 ⟨(F8 Ua code).1.b,(F10 ⟨(F8 Ua code).1.b,(F10 ⟨(F8 Ua code).1.b,(F9 ⟨(F8 Ua code).1.b,(F8 Ua code).1.p⟩).2⟩ (F9 ⟨(F8 Ua code).1.b,(F8 Ua code).1.p⟩).1).2⟩ (F9 ⟨(F8 Ua code).1.b,(F8 Ua code).1.p⟩).1).2⟩ 20).2⟩ Xn).1,(F10 ⟨(F8 Ua code).1.b,(F10 ⟨(F8 Ua code).1.b,(F11 ⟨(F8 Ua code).1.b,(F10 ⟨(F8 Ua code).1.b,(F10 ⟨(F8 Ua code).1.b,(F9 ⟨(F8 Ua code).1.b,(F8 Ua code).1.p⟩).2⟩ (F9 ⟨(F8 Ua code).1.b,(F8 Ua code).1.p⟩).1).2⟩ (F9 ⟨(F8 Ua code).1.b,(F8 Ua code).1.p⟩).1).2⟩ 20).2⟩ Xn).2⟩ Xn).1,(0+1),(F10 ⟨(F8 Ua code).1.b,(F10 ⟨(F8 Ua code).1.b,(F11 ⟨(F8 Ua code).1.b,(F10 ⟨(F8 Ua code).1.b,(F10 ⟨(F8 Ua code).1.b,(F9 ⟨(F8 Ua code).1.b,(F8 Ua code).1.p⟩).2⟩ (F9 ⟨(F8 Ua code).1.b,(F8 Ua code).1.p⟩).1).2⟩ (F9 ⟨(F8 Ua code).1.b,(F8 Ua code).1.p⟩).1).2⟩ 20).2⟩ Xn).2⟩ Xn).2))
abbrev lI4_0 (m39:Nat) (b:List Za) (c:List Za) (i40:Int) (r1:Int):Prop:=Int.toNat (10-i40)<m39/\(0:Int)<=i40/\LQ b/\LQ c/\0<=r1/\r1<=700+200*i40/\i40<=(10:Int)
abbrev lX4_0 (Ua:SV) (code:List Int):Lp (List Za×List Za×Int×Int) (List Za×List Za×List Za):=LpX (F4_s0 Ua code) (lN4_0 Ua code)
abbrev lJ4_0 (Ua:SV) (code:List Int) (i:Nat×(List Za×List Za×Int×Int)):Prop:=LpJ (F4_s0 Ua code) (lN4_0 Ua code) i (lI4_0 i.1 i.2.1 i.2.2.1 i.2.2.2.1 i.2.2.2.2)
abbrev lH4_0 (Ua:SV) (code:List Int) (i:Nat×(List Za×List Za×Int×Int)) (m39:Nat) (b:List Za) (c:List Za) (i40:Int) (r1:Int):Prop:=LpH (F4_s0 Ua code) (lN4_0 Ua code) i m39 (b,c,i40,r1) (lI4_0 (m39+1) b c i40 r1)
abbrev lE4_0 (Ua:SV) (code:List Int) (b:List Za) (c:List Za) (i40:Int) (r1:Int) (b_:List Za) (c_:List Za) (i40_:Int) (r1_:Int) (K39:Prop):Prop:=((.int .i64 i40:Value)=.int .i64 i40_)/\((.int .i64 r1:Value)=.int .i64 r1_)/\(Rf (sv (F8 Ua code).2))/\(Im (.l 1 eByte (F8 Ua code).1.b))/\(Im (.l 1 eStr Xn))/\(Imp (.l 1 eStr b) (.l 1 eStr b_))/\(Imp (.l 1 eStr c) (.l 1 eStr c_))/\K39
theorem un4_0 (Ua:SV) (code:List Int) (i:Nat×(List Za×List Za×Int×Int)) (h:lJ4_0 Ua code i):lH4_0 Ua code i (i.1-1) i.2.1 i.2.2.1 i.2.2.2.1 i.2.2.2.2:=⟨hd1 h.1 h.2.1,hd3 h.2.1,hd2 h.2.1,h.2.2⟩
theorem bk4_0 (Ua:SV) (code:List Int) (i:Nat×(List Za×List Za×Int×Int)) (m39:Nat) (b:List Za) (c:List Za) (i40:Int) (r1:Int) (hl:m39<i.1) (e:runL (F4_s0 Ua code) m39 (b,c,i40,r1)=lX4_0 Ua code) (h:lI4_0 m39 b c i40 r1):∃ j:Nat×(List Za×List Za×Int×Int),lE4_0 Ua code b c i40 r1 j.2.1 j.2.2.1 j.2.2.2.1 j.2.2.2.2 (lJ4_0 Ua code j/\j.1<i.1):=⟨(m39,(b,c,i40,r1)),rfl,rfl,rfl,Imp.refl _,Imp.refl _,Imp.refl _,Imp.refl _,⟨e,h⟩,hl⟩
theorem en4_0 (Ua:SV) (code:List Int) (h:(0:Int)<=(0+1)/\LQ (F10 ⟨(F8 Ua code).1.b,(F11 ⟨(F8 Ua code).1.b,(F10 ⟨(F8 Ua code).1.b,(F10 ⟨(F8 Ua code).1.b,(F9 ⟨(F8 Ua code).1.b,(F8 Ua code).1.p⟩).2⟩ (F9 ⟨(F8 Ua code).1.b,(F8 Ua code).1.p⟩).1).2⟩ (F9 ⟨(F8 Ua code).1.b,(F8 Ua code).1.p⟩).1).2⟩ 20).2⟩ Xn).1/\LQ (F10 ⟨(F8 Ua code).1.b,(F10 ⟨(F8 Ua code).1.b,(F11 ⟨(F8 Ua code).1.b,(F10 ⟨(F8 Ua code).1.b,(F10 ⟨(F8 Ua code).1.b,(F9 ⟨(F8 Ua code).1.b,(F8 Ua code).1.p⟩).2⟩ (F9 ⟨(F8 Ua code).1.b,(F8 Ua code).1.p⟩).1).2⟩ (F9 ⟨(F8 Ua code).1.b,(F8 Ua code).1.p⟩).1).2⟩ 20).2⟩ Xn).2⟩ Xn).1/\0<=(F10 ⟨(F8 Ua code).1.b,(F10 ⟨(F8 Ua code).1.b,(F11 ⟨(F8 Ua code).1.b,(F10 ⟨(F8 Ua code).1.b,(F10 ⟨(F8 Ua code).1.b,(F9 ⟨(F8 Ua code).1.b,(F8 Ua code).1.p⟩).2⟩ (F9 ⟨(F8 Ua code).1.b,(F8 Ua code).1.p⟩).1).2⟩ (F9 ⟨(F8 Ua code).1.b,(F8 Ua code).1.p⟩).1).2⟩ 20).2⟩ Xn).2⟩ Xn).2/\(F10 ⟨(F8 Ua code).1.b,(F10 ⟨(F8 Ua code).1.b,(F11 ⟨(F8 Ua code).1.b,(F10 ⟨(F8 Ua code).1.b,(F10 ⟨(F8 Ua code).1.b,(F9 ⟨(F8 Ua code).1.b,(F8 Ua code).1.p⟩).2⟩ (F9 ⟨(F8 Ua code).1.b,(F8 Ua code).1.p⟩).1).2⟩ (F9 ⟨(F8 Ua code).1.b,(F8 Ua code).1.p⟩).1).2⟩ 20).2⟩ Xn).2⟩ Xn).2<=700+200*(0+1)/\(0+1)<=(10:Int)):lE4_0 Ua code (F10 ⟨(F8 Ua code).1.b,(F11 ⟨(F8 Ua code).1.b,(F10 ⟨(F8 Ua code).1.b,(F10 ⟨(F8 Ua code).1.b,(F9 ⟨(F8 Ua code).1.b,(F8 Ua code).1.p⟩).2⟩ (F9 ⟨(F8 Ua code).1.b,(F8 Ua code).1.p⟩).1).2⟩ (F9 ⟨(F8 Ua code).1.b,(F8 Ua code).1.p⟩).1).2⟩ 20).2⟩ Xn).1 (F10 ⟨(F8 Ua code).1.b,(F10 ⟨(F8 Ua code).1.b,(F11 ⟨(F8 Ua code).1.b,(F10 ⟨(F8 Ua code).1.b,(F10 ⟨(F8 Ua code).1.b,(F9 ⟨(F8 Ua code).1.b,(F8 Ua code).1.p⟩).2⟩ (F9 ⟨(F8 Ua code).1.b,(F8 Ua code).1.p⟩).1).2⟩ (F9 ⟨(F8 Ua code).1.b,(F8 Ua code).1.p⟩).1).2⟩ 20).2⟩ Xn).2⟩ Xn).1 (0+1) (F10 ⟨(F8 Ua code).1.b,(F10 ⟨(F8 Ua code).1.b,(F11 ⟨(F8 Ua code).1.b,(F10 ⟨(F8 Ua code).1.b,(F10 ⟨(F8 Ua code).1.b,(F9 ⟨(F8 Ua code).1.b,(F8 Ua code).1.p⟩).2⟩ (F9 ⟨(F8 Ua code).1.b,(F8 Ua code).1.p⟩).1).2⟩ (F9 ⟨(F8 Ua code).1.b,(F8 Ua code).1.p⟩).1).2⟩ 20).2⟩ Xn).2⟩ Xn).2 (F10 ⟨(F8 Ua code).1.b,(F11 ⟨(F8 Ua code).1.b,(F10 ⟨(F8 Ua code).1.b,(F10 ⟨(F8 Ua code).1.b,(F9 ⟨(F8 Ua code).1.b,(F8 Ua code).1.p⟩).2⟩ (F9 ⟨(F8 Ua code).1.b,(F8 Ua code).1.p⟩).1).2⟩ (F9 ⟨(F8 Ua code).1.b,(F8 Ua code).1.p⟩).1).2⟩ 20).2⟩ Xn).1 (F10 ⟨(F8 Ua code).1.b,(F10 ⟨(F8 Ua code).1.b,(F11 ⟨(F8 Ua code).1.b,(F10 ⟨(F8 Ua code).1.b,(F10 ⟨(F8 Ua code).1.b,(F9 ⟨(F8 Ua code).1.b,(F8 Ua code).1.p⟩).2⟩ (F9 ⟨(F8 Ua code).1.b,(F8 Ua code).1.p⟩).1).2⟩ (F9 ⟨(F8 Ua code).1.b,(F8 Ua code).1.p⟩).1).2⟩ 20).2⟩ Xn).2⟩ Xn).1 (0+1) (F10 ⟨(F8 Ua code).1.b,(F10 ⟨(F8 Ua code).1.b,(F11 ⟨(F8 Ua code).1.b,(F10 ⟨(F8 Ua code).1.b,(F10 ⟨(F8 Ua code).1.b,(F9 ⟨(F8 Ua code).1.b,(F8 Ua code).1.p⟩).2⟩ (F9 ⟨(F8 Ua code).1.b,(F8 Ua code).1.p⟩).1).2⟩ (F9 ⟨(F8 Ua code).1.b,(F8 Ua code).1.p⟩).1).2⟩ 20).2⟩ Xn).2⟩ Xn).2 (lJ4_0 Ua code (lN4_0 Ua code)):=⟨rfl,rfl,rfl,Imp.refl _,Imp.refl _,Imp.refl _,Imp.refl _,rfl,Qt _,h⟩
theorem fi4 (Ua:SV) (code:List Int) (r:List Za×List Za×List Za) (hF:r=(F4 Ua code)):(Imp (.l 1 eStr r.1) (.l 1 eStr (F4 Ua code).1))/\(Imp (.l 1 eStr r.2.1) (.l 1 eStr (F4 Ua code).2.1))/\(Imp (.l 1 eStr r.2.2) (.l 1 eStr (F4 Ua code).2.2))/\True:=by cases hF; exact ⟨Imp.refl _,Imp.refl _,Imp.refl _,trivial⟩
def S4 (Ua:SV) (code:List Int):Spec:=⟨[.vl (sv Ua) (.l 1 eByte code)],.tu [.ow (.l 1 eStr (F4 Ua code).1),.ow (.l 1 eStr (F4 Ua code).2.1),.ow (.l 1 eStr (F4 Ua code).2.2)],True⟩
theorem ok4 (Ua:SV) (code:List Int):(S4 Ua code).ok Tryz.prog 4 :=
 fnG_ok mixed (fn:=Tryz.f4) (ct:=.seqk [(0,0)] .no (.seqg 11 0 1000001 (sv (F8 Ua code).2) (.l 1 eByte (F8 Ua code).1.b) (.reg [(1,.call 8 (S8 Ua code) (ok8 Ua code) none)]) (.seq (.reg [(1,kh9l (F8 Ua code).2 1000001 (F8 Ua code).1.b (F8 Ua code).1.p)]) (.seq (.reg [(2,kh10l (F8 Ua code).2 1000001 (F8 Ua code).1.b (F9 ⟨(F8 Ua code).1.b,(F8 Ua code).1.p⟩).2 (F9 ⟨(F8 Ua code).1.b,(F8 Ua code).1.p⟩).1)]) (.seq (.reg [(2,kh10l (F8 Ua code).2 1000001 (F8 Ua code).1.b (F10 ⟨(F8 Ua code).1.b,(F9 ⟨(F8 Ua code).1.b,(F8 Ua code).1.p⟩).2⟩ (F9 ⟨(F8 Ua code).1.b,(F8 Ua code).1.p⟩).1).2 (F9 ⟨(F8 Ua code).1.b,(F8 Ua code).1.p⟩).1)]) (.seq (.seq (.reg [(1,kh11l (F8 Ua code).2 1000001 (F8 Ua code).1.b (F10 ⟨(F8 Ua code).1.b,(F10 ⟨(F8 Ua code).1.b,(F9 ⟨(F8 Ua code).1.b,(F8 Ua code).1.p⟩).2⟩ (F9 ⟨(F8 Ua code).1.b,(F8 Ua code).1.p⟩).1).2⟩ (F9 ⟨(F8 Ua code).1.b,(F8 Ua code).1.p⟩).1).2 20)]) (.blk (.seq .no (.cond (.reg [(2,kh12l (F8 Ua code).2 1000001 (F8 Ua code).1.b (F11 ⟨(F8 Ua code).1.b,(F10 ⟨(F8 Ua code).1.b,(F10 ⟨(F8 Ua code).1.b,(F9 ⟨(F8 Ua code).1.b,(F8 Ua code).1.p⟩).2⟩ (F9 ⟨(F8 Ua code).1.b,(F8 Ua code).1.p⟩).1).2⟩ (F9 ⟨(F8 Ua code).1.b,(F8 Ua code).1.p⟩).1).2⟩ 20).2 (F10 ⟨(F8 Ua code).1.b,(F9 ⟨(F8 Ua code).1.b,(F8 Ua code).1.p⟩).2⟩ (F9 ⟨(F8 Ua code).1.b,(F8 Ua code).1.p⟩).1).1)]) (.seq .no (.cond (.seq (.reg [(0,.dat (.l 1 eStr Xn))]) (.seq .no (.seq .no (.seqk [(5,0),(7,0),(8,0)] .no (.blk (.peel (.seq (.seq .no (.condT .no)) (.seq (.blk (.seq (.reg [(2,kh10l (F8 Ua code).2 1000001 (F8 Ua code).1.b (F11 ⟨(F8 Ua code).1.b,(F10 ⟨(F8 Ua code).1.b,(F10 ⟨(F8 Ua code).1.b,(F9 ⟨(F8 Ua code).1.b,(F8 Ua code).1.p⟩).2⟩ (F9 ⟨(F8 Ua code).1.b,(F8 Ua code).1.p⟩).1).2⟩ (F9 ⟨(F8 Ua code).1.b,(F8 Ua code).1.p⟩).1).2⟩ 20).2 Xn)]) (.reg [(2,kh10l (F8 Ua code).2 1000001 (F8 Ua code).1.b (F10 ⟨(F8 Ua code).1.b,(F11 ⟨(F8 Ua code).1.b,(F10 ⟨(F8 Ua code).1.b,(F10 ⟨(F8 Ua code).1.b,(F9 ⟨(F8 Ua code).1.b,(F8 Ua code).1.p⟩).2⟩ (F9 ⟨(F8 Ua code).1.b,(F8 Ua code).1.p⟩).1).2⟩ (F9 ⟨(F8 Ua code).1.b,(F8 Ua code).1.p⟩).1).2⟩ 20).2⟩ Xn).2 Xn)]))) (.reg [(1,.bnd)]))) (ι:=Nat×(List Za×List Za×Int×Int)) (fun i=>(fun (b:List Za) (c:List Za) (i40:Int) (r1:Int)=>(⟨[(5,some (.p 0 0)),(6,some (.h 2 0)),(7,some (.h 3 0)),(8,some (.h 4 0)),(9,some (.v (vI i40)))],[(0,some (.box 49 [.h 1 0,.v (vI r1)])),(1,some (.vl (sv (F8 Ua code).2) (.l 1 eByte (F8 Ua code).1.b))),(2,some (.own 2 (.l 1 eStr Xn))),(3,some (.own 3 (.l 1 eStr b))),(4,some (.own 4 (.l 1 eStr c)))],5⟩:St)) i.2.1 i.2.2.1 i.2.2.2.1 i.2.2.2.2) (lJ4_0 Ua code) (fun i=>i.1) (lN4_0 Ua code) (fun i=>(fun (b:List Za) (c:List Za) (i40:Int) (r1:Int)=>(.seq (.seq .no (.cond .no .no)) (.seq (.blk (.seq (.reg [(2,kh10l (F8 Ua code).2 1 (F8 Ua code).1.b r1 b)]) (.reg [(2,kh10l (F8 Ua code).2 1 (F8 Ua code).1.b (F10 ⟨(F8 Ua code).1.b,r1⟩ b).2 c)]))) (.reg [(1,.bnd)])))) i.2.1 i.2.2.1 i.2.2.2.1 i.2.2.2.2))))))) .no)))))) (.seq .no .no))))))) Tryz.func4 (fun (_:True)=>kn code fun _=>ai trivial (ai (Eq.refl (sv Ua)) (ai (Imp.refl (.l 1 eByte code)) (have gv1:(F8 Ua code).1.b.length<=2000/\(F8 Ua code).1.p=0:=open_b Ua code; ai (Eq.refl (sv (F8 Ua code).2)) (ai (gd8 Ua code) (kc9l (F8 Ua code).2 (F8 Ua code).1.b (F8 Ua code).1.p uu5 uu5 uu5 uu5 uu5 (fun gv2=>kc10l (F8 Ua code).2 (F8 Ua code).1.b (F9 ⟨(F8 Ua code).1.b,(F8 Ua code).1.p⟩).2 (F9 ⟨(F8 Ua code).1.b,(F8 Ua code).1.p⟩).1 uu5 uu5 uu5 uu5 uu5 uu5 uu5 (fun gv3=>kc10l (F8 Ua code).2 (F8 Ua code).1.b (F10 ⟨(F8 Ua code).1.b,(F9 ⟨(F8 Ua code).1.b,(F8 Ua code).1.p⟩).2⟩ (F9 ⟨(F8 Ua code).1.b,(F8 Ua code).1.p⟩).1).2 (F9 ⟨(F8 Ua code).1.b,(F8 Ua code).1.p⟩).1 uu5 uu5 uu5 uu5 uu5 uu5 uu5 (fun gv4=>kc11l (F8 Ua code).2 (F8 Ua code).1.b (F10 ⟨(F8 Ua code).1.b,(F10 ⟨(F8 Ua code).1.b,(F9 ⟨(F8 Ua code).1.b,(F8 Ua code).1.p⟩).2⟩ (F9 ⟨(F8 Ua code).1.b,(F8 Ua code).1.p⟩).1).2⟩ (F9 ⟨(F8 Ua code).1.b,(F8 Ua code).1.p⟩).1).2 20 uu0 uu0 uu0 uu0 uu0 (fun gv5=>have gv6:(F11 ⟨(F8 Ua code).1.b,(F10 ⟨(F8 Ua code).1.b,(F10 ⟨(F8 Ua code).1.b,(F9 ⟨(F8 Ua code).1.b,(F8 Ua code).1.p⟩).2⟩ (F9 ⟨(F8 Ua code).1.b,(F8 Ua code).1.p⟩).1).2⟩ (F9 ⟨(F8 Ua code).1.b,(F8 Ua code).1.p⟩).1).2⟩ 20).1<(20:Int):=uu19; ife (F11 ⟨(F8 Ua code).1.b,(F10 ⟨(F8 Ua code).1.b,(F10 ⟨(F8 Ua code).1.b,(F9 ⟨(F8 Ua code).1.b,(F8 Ua code).1.p⟩).2⟩ (F9 ⟨(F8 Ua code).1.b,(F8 Ua code).1.p⟩).1).2⟩ (F9 ⟨(F8 Ua code).1.b,(F8 Ua code).1.p⟩).1).2⟩ 20).1 0 (fun h7 _=>kc12l (F8 Ua code).2 (F8 Ua code).1.b (F11 ⟨(F8 Ua code).1.b,(F10 ⟨(F8 Ua code).1.b,(F10 ⟨(F8 Ua code).1.b,(F9 ⟨(F8 Ua code).1.b,(F8 Ua code).1.p⟩).2⟩ (F9 ⟨(F8 Ua code).1.b,(F8 Ua code).1.p⟩).1).2⟩ (F9 ⟨(F8 Ua code).1.b,(F8 Ua code).1.p⟩).1).2⟩ 20).2 (F10 ⟨(F8 Ua code).1.b,(F9 ⟨(F8 Ua code).1.b,(F8 Ua code).1.p⟩).2⟩ (F9 ⟨(F8 Ua code).1.b,(F8 Ua code).1.p⟩).1).1 uu5 uu5 uu5 uu5 uu5 uu5 uu5 (fun gv8=>fi4 Ua code ((F9 ⟨(F8 Ua code).1.b,(F8 Ua code).1.p⟩).1,(F12 ⟨(F8 Ua code).1.b,(F11 ⟨(F8 Ua code).1.b,(F10 ⟨(F8 Ua code).1.b,(F10 ⟨(F8 Ua code).1.b,(F9 ⟨(F8 Ua code).1.b,(F8 Ua code).1.p⟩).2⟩ (F9 ⟨(F8 Ua code).1.b,(F8 Ua code).1.p⟩).1).2⟩ (F9 ⟨(F8 Ua code).1.b,(F8 Ua code).1.p⟩).1).2⟩ 20).2⟩ (F10 ⟨(F8 Ua code).1.b,(F9 ⟨(F8 Ua code).1.b,(F8 Ua code).1.p⟩).2⟩ (F9 ⟨(F8 Ua code).1.b,(F8 Ua code).1.p⟩).1).1).1,(F10 ⟨(F8 Ua code).1.b,(F10 ⟨(F8 Ua code).1.b,(F9 ⟨(F8 Ua code).1.b,(F8 Ua code).1.p⟩).2⟩ (F9 ⟨(F8 Ua code).1.b,(F8 Ua code).1.p⟩).1).2⟩ (F9 ⟨(F8 Ua code).1.b,(F8 Ua code).1.p⟩).1).1) (condT h7 rfl))) (fun h7 _=>ife (F11 ⟨(F8 Ua code).1.b,(F10 ⟨(F8 Ua code).1.b,(F10 ⟨(F8 Ua code).1.b,(F9 ⟨(F8 Ua code).1.b,(F8 Ua code).1.p⟩).2⟩ (F9 ⟨(F8 Ua code).1.b,(F8 Ua code).1.p⟩).1).2⟩ (F9 ⟨(F8 Ua code).1.b,(F8 Ua code).1.p⟩).1).2⟩ 20).1 1 (fun h9 _=>ai (bokr 1 eStr Xn fun _=>rfl) (kn (F8 Ua code).1.b fun _=>kn Xn fun _=>kn Xn fun _=>ai (ai (rfl:decide ((0:Int)<(10:Int))=true) (kc10l (F8 Ua code).2 (F8 Ua code).1.b (F11 ⟨(F8 Ua code).1.b,(F10 ⟨(F8 Ua code).1.b,(F10 ⟨(F8 Ua code).1.b,(F9 ⟨(F8 Ua code).1.b,(F8 Ua code).1.p⟩).2⟩ (F9 ⟨(F8 Ua code).1.b,(F8 Ua code).1.p⟩).1).2⟩ (F9 ⟨(F8 Ua code).1.b,(F8 Ua code).1.p⟩).1).2⟩ 20).2 Xn uu5 uu5 uu5 uu5 uu5 uu5 uu5 (fun gv10=>kc10l (F8 Ua code).2 (F8 Ua code).1.b (F10 ⟨(F8 Ua code).1.b,(F11 ⟨(F8 Ua code).1.b,(F10 ⟨(F8 Ua code).1.b,(F10 ⟨(F8 Ua code).1.b,(F9 ⟨(F8 Ua code).1.b,(F8 Ua code).1.p⟩).2⟩ (F9 ⟨(F8 Ua code).1.b,(F8 Ua code).1.p⟩).1).2⟩ (F9 ⟨(F8 Ua code).1.b,(F8 Ua code).1.p⟩).1).2⟩ 20).2⟩ Xn).2 Xn uu5 uu5 uu5 uu5 uu5 uu5 uu5 (fun gv11=>ai (iok (0+1) uu0) (en4_0 Ua code (by refine ⟨?_,?_,?_,?_,?_,?_⟩ <;> first | omega | (simp only [lens,ib] at*<;> omega) | assumption | exact Gs (by assumption) | exact cq_lq cq_base)))))) (fun (i0:Nat×(List Za×List Za×Int×Int)) (hi0:lJ4_0 Ua code i0)=>(fun (m0:Nat) (b:List Za) (c:List Za) (i40:Int) (r1:Int) (hh0:lH4_0 Ua code i0 m0 b c i40 r1)=>have hI0:=hh0.1; have hl0:=hh0.2.1; have _:=hh0.2.2.1; have _:=hh0.2.2.2.1; have _:=hh0.2.2.2.2.1; have _:=hh0.2.2.2.2.2.1; have _:=hh0.2.2.2.2.2.2.1; have _:=hh0.2.2.2.2.2.2.2.1; have _:=hh0.2.2.2.2.2.2.2.2; ifd (i40<10) (fun h13 _=>kc10l (F8 Ua code).2 (F8 Ua code).1.b r1 b uu5 uu5 uu5 uu5 uu5 uu5 uu5 (fun gv14=>kc10l (F8 Ua code).2 (F8 Ua code).1.b (F10 ⟨(F8 Ua code).1.b,r1⟩ b).2 c uu5 uu5 uu5 uu5 uu5 uu5 uu5 (fun gv15=>ai (iok (i40+1) uu0) (bk4_0 Ua code i0 m0 (F10 ⟨(F8 Ua code).1.b,r1⟩ b).1 (F10 ⟨(F8 Ua code).1.b,(F10 ⟨(F8 Ua code).1.b,r1⟩ b).2⟩ c).1 (i40+1) (F10 ⟨(F8 Ua code).1.b,(F10 ⟨(F8 Ua code).1.b,r1⟩ b).2⟩ c).2 hl0 (runL_next hI0 (condT h13 rfl)) (by refine ⟨?_,?_,?_,?_,?_,?_,?_⟩ <;> first | omega | (simp only [lens,ib] at*<;> omega) | assumption | exact Gs (by assumption) | exact cq_lq cq_base))))) (fun h13 _=>have hD0_16:lX4_0 Ua code=Lp.done (b,c,i40,r1):=runL_done hI0 (condF h13 rfl); fi4 Ua code (Xn,b,c) (condF h7 (condT h9 (finD hD0_16 rfl))))) (i0.1-1) i0.2.1 i0.2.2.1 i0.2.2.2.1 i0.2.2.2.2 (un4_0 Ua code i0 hi0)))) (fun h9 _=>fi4 Ua code ((F9 ⟨(F8 Ua code).1.b,(F8 Ua code).1.p⟩).1,(F10 ⟨(F8 Ua code).1.b,(F9 ⟨(F8 Ua code).1.b,(F8 Ua code).1.p⟩).2⟩ (F9 ⟨(F8 Ua code).1.b,(F8 Ua code).1.p⟩).1).1,(F10 ⟨(F8 Ua code).1.b,(F10 ⟨(F8 Ua code).1.b,(F9 ⟨(F8 Ua code).1.b,(F8 Ua code).1.p⟩).2⟩ (F9 ⟨(F8 Ua code).1.b,(F8 Ua code).1.p⟩).1).2⟩ (F9 ⟨(F8 Ua code).1.b,(F8 Ua code).1.p⟩).1).1) (condF h7 (condF h9 rfl)))))))))))))) uu2
theorem lq_ann:LQ Xn:=cq_lq cq_base
theorem drawMerge_q (Ua:SV) (code:List Int):LQ (F4 Ua code).1/\LS (F4 Ua code).2.1/\LS (F4 Ua code).2.2:=by
 obtain ⟨b0,p0⟩:=open_b Ua code
 unfold F4
 generalize hO:F8 Ua code=O at *
 obtain ⟨n1,n2,n3⟩:=neat_q (⟨O.1.b,O.1.p⟩:l51Rd) (by show 0<=O.1.p; omega) (by show O.1.p<=_; omega)
 generalize hA:F9 (⟨O.1.b,O.1.p⟩:l51Rd)=A at *
 have n3:A.2<=O.1.p+450:=n3
 obtain ⟨d1,d2,d3⟩:=near_q (⟨O.1.b,A.2⟩:l51Rd) A.1 n2 (by show A.2<=_; omega) n1
 generalize hB:F10 (⟨O.1.b,A.2⟩:l51Rd) A.1=B at *
 have d3:B.2<=A.2+60:=d3
 obtain ⟨e1,e2,e3⟩:=near_q (⟨O.1.b,B.2⟩:l51Rd) A.1 d2 (by show B.2<=_; omega) n1
 generalize hC:F10 (⟨O.1.b,B.2⟩:l51Rd) A.1=C at *
 have e3:C.2<=B.2+60:=e3
 have hp:(F11 (⟨O.1.b,C.2⟩:l51Rd) 20).2=C.2+1:=by simp only [pick_p]
 generalize hR:F11 (⟨O.1.b,C.2⟩:l51Rd) 20=R at *
 have hr2:R.2=C.2+1:=hp
 refine cond_P (P:=fun z:List Za×List Za×List Za=>LQ z.1/\LS z.2.1/\LS z.2.2) ?_ ?_
 ·exact ⟨n1,(spoil_q (⟨O.1.b,R.2⟩:l51Rd) B.1 (by show 0<=R.2; omega) (by show R.2<=_; omega) d1).1,lq_ls e1⟩
 ·refine cond_P (P:=fun z:List Za×List Za×List Za=>LQ z.1/\LS z.2.1/\LS z.2.2) ?_ ⟨n1,lq_ls d1,lq_ls e1⟩
  obtain ⟨f1,f2,f3⟩:=near_q (⟨O.1.b,R.2⟩:l51Rd) [Zm] (by show 0<=R.2; omega) (by show R.2<=_; omega) lq_ann
  have f3:_<=R.2+60:=f3
  generalize F10 (⟨O.1.b,R.2⟩:l51Rd) [Zm]=F at *
  obtain ⟨g1,g2,g3⟩:=near_q (⟨O.1.b,F.2⟩:l51Rd) [Zm] f2 (by show F.2<=_; omega) lq_ann
  have g3:_<=F.2+60:=g3
  generalize F10 (⟨O.1.b,F.2⟩:l51Rd) [Zm]=G at *
  have key:=runL_inv (step:=F4_s0 Ua code) (fun s:List Za×List Za×Int×Int=>LQ s.1/\LQ s.2.1/\0<=s.2.2.1/\s.2.2.1<=10/\0<=s.2.2.2/\s.2.2.2<=700+200*s.2.2.1) (fun _=>False) (fun s hs=>by
   obtain ⟨b,c,i,r⟩:=s
   obtain ⟨h1,h2,h3,h4,h5,h6⟩:=hs
   simp only at h1 h2 h3 h4 h5 h6
   unfold F4_s0
   simp only
   by_cases hi:i<10
   ·rw [Qs hi,Qc,hO]
    obtain ⟨k1,k2,k3⟩:=near_q (⟨O.1.b,r⟩:l51Rd) b h5 (by show r<=_; omega) h1
    have k3:_<=r+60:=k3
    generalize F10 (⟨O.1.b,r⟩:l51Rd) b=K at *
    obtain ⟨l1,l2,l3⟩:=near_q (⟨O.1.b,K.2⟩:l51Rd) c k2 (by show K.2<=_; omega) h2
    have l3:_<=K.2+60:=l3
    refine ⟨k1,l1,?_,?_,l2,?_⟩
    ·show 0<=i+1; omega
    ·show i+1<=10; omega
    ·exact Int.le_trans l3 (show K.2+60<=700+200*(i+1) by omega)
   ·rw [Qq hi,Qh]
    exact ⟨h1,h2,h3,h4,h5,h6⟩) ((Int.toNat (10-(0+1)))+1) (F.1,G.1,(0+1),G.2) ⟨f1,g1,(show (0:Int)<=0+1 by omega),(show (0:Int)+1<=10 by omega),g2,by show G.2<=700+200*(0+1); omega⟩
  cases hx:runL (F4_s0 Ua code) ((Int.toNat (10-(0+1)))+1) (F.1,G.1,(0+1),G.2) with
  | next s=>rw [hx] at key; exact ⟨lq_ann,lq_ls key.1,lq_ls key.2.1⟩
  | done s=>rw [hx] at key; exact ⟨lq_ann,lq_ls key.1,lq_ls key.2.1⟩
  | ret r=>rw [hx] at key; exact key.elim
theorem drawMerge_l (Ua:SV) (code:List Int):(F4 Ua code).1.length<=17/\(F4 Ua code).2.1.length<=40/\(F4 Ua code).2.2.length<=40:=by
 obtain ⟨h1,h2,h3⟩:=drawMerge_q Ua code
 exact ⟨h1.1,h2.1,h3.1⟩
theorem drawMerge_s (Ua:SV) (code:List Int):(∀ k:Nat,((F4 Ua code).1.getD k default).size<=1048576)/\(∀ k:Nat,((F4 Ua code).2.1.getD k default).size<=1048576)/\(∀ k:Nat,((F4 Ua code).2.2.getD k default).size<=1048576):=by
 obtain ⟨h1,h2,h3⟩:=drawMerge_q Ua code
 exact ⟨lq_sz h1,ls_sz h2,ls_sz h3⟩
theorem sortS_of_perm {xs ys:List Za} (h:xs.Perm ys):sortS xs=sortS ys:=by
 unfold sortS
 refine Qg (List.map fun l:List UInt8=>(⟨l.toArray⟩:Za)) ?_
 have ht:∀ a b:List UInt8,(decide (a<=b) || decide (b<=a))=true:=fun a b=>by
  rcases List.le_total a b with h | h <;> simp [h]
 have htr:∀ a b c:List UInt8,decide (a<=b)=true->decide (b<=c)=true->decide (a<=c)=true:=fun a b c h1 h2=>by
  simp only [Rc] at *
  exact List.le_trans h1 h2
 refine List.Perm.eq_of_pairwise (le:=fun a b=>decide (a<=b)=true) (fun a b _ _ h1 h2=>?_) (List.pairwise_mergeSort htr ht _) (List.pairwise_mergeSort htr ht _) ?_
 ·simp only [Rc] at h1 h2
  exact List.le_antisymm h1 h2
 ·exact (List.mergeSort_perm _ _).trans ((h.map _).trans (List.mergeSort_perm _ _).symm)
def atM (m:ML Za) (k:Za):Za:=(getM m k).getD Zc
def mgLine (b m t:ML Za) (k:Za):Za:=bif atM m k==atM b k then atM t k else atM m k
def mgBad (b m t:ML Za) (k:Za):Bool:=bif atM m k==atM b k then false else bif atM t k==atM b k then false else !(atM t k==atM m k)
def mgLines (b m t:ML Za) (ks:List Za):List Za:=(ks.map (mgLine b m t)).filter fun l=>!(l==Zc)
def MgJ {α:Type} (b m t:ML Za) (keys:List Za) (left:ML α) (out:List Za):Prop :=
 ∃ dn,(dn++left.map (·.1)).Perm keys/\(∀ k∈dn,mgBad b m t k=false)/\out=mgLines b m t dn
theorem mgJ_0 {α:Type} (b m t:ML Za) (all:ML α):MgJ b m t (all.map (·.1)) all []:=⟨[],List.Perm.refl _,(fun _ h=>by cases h),rfl⟩
theorem mgJ_step {α:Type} {b m t:ML Za} {keys:List Za} {left left':ML α} {p:Za×α} {out:List Za} (h:MgJ b m t keys left out) (hp:left.Perm (p :: left')) (hb:mgBad b m t p.1=false) :
  MgJ b m t keys left' (bif mgLine b m t p.1==Zc then out else out++[mgLine b m t p.1]):=by
 obtain ⟨dn,h1,h2,rfl⟩:=h
 refine ⟨dn++[p.1],?_,fun k hk=>?_,?_⟩
 ·refine List.Perm.trans ?_ h1
  rw [Q3]
  refine List.Perm.append_left dn ?_
  exact (hp.map fun q:Za×α=>q.1).symm
 ·rcases Q1.1 hk with h | h
  ·exact h2 k h
  ·rw [Qu.1 h]; exact hb
 ·unfold mgLines
  rw [Td,G3,Rb,Hd]
  cases hl:(mgLine b m t p.1==Zc) with
  | true=>rw [Gb (by simp [hl]),Qc,List.filter_nil,Si]
  | false=>rw [G5 (by simp [hl]),Qh,List.filter_nil]
theorem mgJ_bad {α:Type} {b m t:ML Za} {keys:List Za} {left left':ML α} {p:Za×α} {out:List Za} (h:MgJ b m t keys left out) (hp:left.Perm (p :: left')) (hb:mgBad b m t p.1=true):keys.any (mgBad b m t)=true:=by
 obtain ⟨dn,h1,_,_⟩:=h
 refine Rs.2 ⟨p.1,h1.subset (Qv _ ?_),hb⟩
 exact R7.2 ⟨p,hp.symm.subset Ql,rfl⟩
theorem mgJ_end {α:Type} {b m t:ML Za} {keys:List Za} {out:List Za} (h:MgJ b m t keys ([]:ML α) out):keys.any (mgBad b m t)=false/\sortS out=sortS (mgLines b m t keys):=by
 obtain ⟨dn,h1,h2,rfl⟩:=h
 rw [Hd,Si] at h1
 refine ⟨List.any_eq_false.2 fun k hk=>?_,sortS_of_perm ?_⟩
 ·rw [h2 k (h1.symm.subset hk)]; decide
 ·unfold mgLines
  exact List.Perm.filter _ (h1.map _)
theorem beqTL (a b:Za):(a.toList==b.toList)=(a==b):=by
 rw [beq_ba]
 by_cases h:a=b
 ·subst h; rw [Qs rfl,beq_self_eq_true]
 ·rw [Qq h,Qx.2 h]
theorem mgJ_len {α:Type} {b m t:ML Za} {keys:List Za} {left:ML α} {out:List Za} (h:MgJ b m t keys left out):out.length<=keys.length:=by
 obtain ⟨dn,h1,_,rfl⟩:=h
 have h2:=h1.length_eq
 have h3:=List.length_filter_le (fun l:Za=>!(l==Zc)) (dn.map (mgLine b m t))
 unfold mgLines
 rw [Q6] at h2
 rw [Sc] at h3
 omega
def MgS (b m t:ML Za) (left left':ML Bool) (l:Za):Prop:=∃ p:Za×Bool,left.Perm (p :: left')/\mgBad b m t p.1=false/\l=mgLine b m t p.1
theorem mgS_1 {b m t:ML Za} {left left':ML Bool} {p:Za×Bool} {more:Bool} (hp:more=true->left.Perm (p :: left')) (hm:more=true) (h1:(((getM m p.1).getD Zc).toList==((getM b p.1).getD Zc).toList)=true):MgS b m t left (bif more then left' else left) ((getM t p.1).getD Zc):=by
 rw [beqTL] at h1
 refine ⟨p,by rw [hm,Qc]; exact hp hm,?_,?_⟩
 ·unfold mgBad atM; rw [h1]; rfl
 ·unfold mgLine atM; rw [h1]; rfl
theorem mgS_2 {b m t:ML Za} {left left':ML Bool} {p:Za×Bool} {more:Bool} (hp:more=true->left.Perm (p :: left')) (hm:more=true) (h1:(((getM m p.1).getD Zc).toList==((getM b p.1).getD Zc).toList)=false)
  (h2:(bif (!(((getM t p.1).getD Zc).toList==((getM b p.1).getD Zc).toList)) then (!(((getM t p.1).getD Zc).toList==((getM m p.1).getD Zc).toList)) else false)=false):MgS b m t left (bif more then left' else left) ((getM m p.1).getD Zc):=by
 rw [beqTL] at h1
 rw [beqTL,beqTL] at h2
 refine ⟨p,by rw [hm,Qc]; exact hp hm,?_,?_⟩
 ·unfold mgBad atM
  rw [h1,Qh]
  revert h2
  cases ((getM t p.1).getD Zc==(getM b p.1).getD Zc) <;> intro h2
  ·exact h2
  ·rfl
 ·unfold mgLine atM; rw [h1]; rfl
theorem mgJ_goT {b m t:ML Za} {keys:List Za} {left left':ML Bool} {out:List Za} {l:Za} (h:MgJ b m t keys left out) (hs:MgS b m t left left' l) (hl:(!(l.toList==Zc.toList))=true):MgJ b m t keys left' (out++[l]):=by
 obtain ⟨p,hp,hb,rfl⟩:=hs
 have h1:=mgJ_step h hp hb
 rw [beqTL] at hl
 cases hq:(mgLine b m t p.1==Zc) with
 | true=>rw [hq] at hl; cases hl
 | false=>rw [hq,Qh] at h1; exact h1
theorem mgJ_goF {b m t:ML Za} {keys:List Za} {left left':ML Bool} {out:List Za} {l:Za} (h:MgJ b m t keys left out) (hs:MgS b m t left left' l) (hl:(!(l.toList==Zc.toList))=false):MgJ b m t keys left' out:=by
 obtain ⟨p,hp,hb,rfl⟩:=hs
 have h1:=mgJ_step h hp hb
 rw [beqTL] at hl
 cases hq:(mgLine b m t p.1==Zc) with
 | false=>rw [hq] at hl; cases hl
 | true=>rw [hq,Qc] at h1; exact h1
theorem mgS_lt {b m t:ML Za} {left left':ML Bool} {l:Za} (hs:MgS b m t left left' l):left'.length<left.length:=by
 obtain ⟨p,hp,_⟩:=hs
 rw [hp.length_eq]
 exact Qt _
theorem mgJ_done {b m t:ML Za} {keys:List Za} {left:ML Bool} {out:List Za} {more:Bool} (h:MgJ b m t keys left out) (hb:more=false->left=[]) (hm:more=false):(bif keys.any (mgBad b m t) then .ret ([],2) else .done (sortS (mgLines b m t keys)):Lp (List Za) (List Za×Int))=Lp.done (sortS out):=by
 rw [hb hm] at h
 obtain ⟨e1,e2⟩:=mgJ_end h
 rw [e1,e2]
 rfl
theorem mgJ_ret {b m t:ML Za} {keys:List Za} {left left':ML Bool} {p:Za×Bool} {out:List Za} {more:Bool} (h:MgJ b m t keys left out) (hp:more=true->left.Perm (p :: left')) (hm:more=true)
  (h1:(((getM m p.1).getD Zc).toList==((getM b p.1).getD Zc).toList)=false) (h2:(bif (!(((getM t p.1).getD Zc).toList==((getM b p.1).getD Zc).toList)) then (!(((getM t p.1).getD Zc).toList==((getM m p.1).getD Zc).toList)) else false)=true):(bif keys.any (mgBad b m t) then .ret ([],2) else .done (sortS (mgLines b m t keys)):Lp (List Za) (List Za×Int))=Lp.ret ([],2):=by
 rw [mgJ_bad h (hp hm) (by
  unfold mgBad atM
  rw [beqTL] at h1
  rw [beqTL,beqTL] at h2
  rw [h1,Qh]
  revert h2
  cases ((getM t p.1).getD Zc==(getM b p.1).getD Zc) <;> intro h2
  ·exact h2
  ·cases h2)]
 rfl
theorem putM_le {α:Type} (m:ML α) (s:Za) (x:α):(putM m s x).length<=m.length+1:=by
 have h:=Qg List.length (putM_keys m s x)
 rw [Sc] at h
 rw [h]
 unfold insK
 split
 ·rw [Sc]; omega
 ·rw [Q6,Sc]; exact Qp _
theorem getD_app2 {a b:List Za} {n:Nat} (ha:∀ k:Nat,(a.getD k default).size<=n) (hb:∀ k:Nat,(b.getD k default).size<=n) (k:Nat):((a++b).getD k default).size<=n:=by
 have h1:=ha k
 have h2:=hb (k-a.length)
 rw [Qd] at *
 rw [List.getElem?_append]
 split
 ·exact h1
 ·exact h2
theorem getD_sz3 {a b c:List Za} {n:Nat} (ha:∀ k:Nat,(a.getD k default).size<=n) (hb:∀ k:Nat,(b.getD k default).size<=n) (hc:∀ k:Nat,(c.getD k default).size<=n) (k:Nat):(((a++b)++c).getD k default).size<=n:=getD_app2 (getD_app2 ha hb) hc k
def F14_s0 (lines:List Za):(Int×ML Za)->Lp (Int×ML Za) (ML Za):=fun (v9,ms) =>
 bif (decide (v9<(lines.length:Int))) then (.next ((v9+1),(putM ms (F16 (lines.getD (Int.toNat v9) default)) (lines.getD (Int.toNat v9) default)))) else (.done (v9,ms))
def F14 (lines:List Za):ML Za :=
 (runL (F14_s0 lines) ((Int.toNat ((lines.length:Int)-0))+1) (0,([]:ML Za))).fin (fun r=>r) (fun (v9,ms)=>ms)
abbrev lN14_0 (lines:List Za):Nat×(Int×ML Za):=(((Int.toNat ((lines.length:Int)-0))+1),(0,([]:ML Za)))
abbrev lI14_0 (lines:List Za) (m39:Nat) (v9:Int) (ms:ML Za):Prop:=Int.toNat ((lines.length:Int)-v9)<m39/\(0:Int)<=v9
abbrev lX14_0 (lines:List Za):Lp (Int×ML Za) (ML Za):=LpX (F14_s0 lines) (lN14_0 lines)
abbrev lJ14_0 (lines:List Za) (i:Nat×(Int×ML Za)):Prop:=LpJ (F14_s0 lines) (lN14_0 lines) i (lI14_0 lines i.1 i.2.1 i.2.2)
abbrev lH14_0 (lines:List Za) (i:Nat×(Int×ML Za)) (m39:Nat) (v9:Int) (ms:ML Za):Prop:=LpH (F14_s0 lines) (lN14_0 lines) i m39 (v9,ms) (lI14_0 lines (m39+1) v9 ms)
abbrev lE14_0 (lines:List Za) (v9:Int) (ms:ML Za) (v9_:Int) (ms_:ML Za) (K39:Prop):Prop:=(Rf (.int .i64 (lines.length:Int)))/\((.int .i64 v9:Value)=.int .i64 v9_)/\(Imp (.x (MX Value.string ms)) (.x (MX Value.string ms_)))/\(Im (.l 1 eStr lines))/\K39
theorem un14_0 (lines:List Za) (i:Nat×(Int×ML Za)) (h:lJ14_0 lines i):lH14_0 lines i (i.1-1) i.2.1 i.2.2:=⟨hd1 h.1 h.2.1,hd3 h.2.1,hd2 h.2.1,h.2.2⟩
theorem bk14_0 (lines:List Za) (i:Nat×(Int×ML Za)) (m39:Nat) (v9:Int) (ms:ML Za) (hl:m39<i.1) (e:runL (F14_s0 lines) m39 (v9,ms)=lX14_0 lines) (h:lI14_0 lines m39 v9 ms):∃ j:Nat×(Int×ML Za),lE14_0 lines v9 ms j.2.1 j.2.2 (lJ14_0 lines j/\j.1<i.1):=⟨(m39,(v9,ms)),rfl,rfl,Imp.refl _,Imp.refl _,⟨e,h⟩,hl⟩
theorem en14_0 (lines:List Za) (h:(0:Int)<=0):lE14_0 lines 0 ([]:ML Za) 0 ([]:ML Za) (lJ14_0 lines (lN14_0 lines)):=⟨rfl,rfl,Imp.refl _,Imp.refl _,rfl,Qt _,h⟩
theorem fi14 (lines:List Za) (r:ML Za) (hF:r=(F14 lines)):(Imp (.x (MX Value.string r)) (.x (MX Value.string (F14 lines))))/\True:=by cases hF; exact ⟨Imp.refl _,trivial⟩
def S14 (lines:List Za):Spec:=⟨[.r (.c (.l 1 eStr lines))],.ow (.x (MX Value.string (F14 lines))),lines.length<=1048576/\(∀ k:Nat,(lines.getD k default).size<=1048576)⟩
theorem ok14 (lines:List Za):(S14 lines).ok Tryz.prog 14 false :=
 fnG_ok mixed (fn:=Tryz.f14) (ct:=.seqk [(0,0)] .no (.seq (.reg [(0,.mpm Value.string)]) (.seq (.seqk [(7,0)] .no (.blk (.loop (ι:=Nat×(Int×ML Za)) (fun i=>(fun (v9:Int) (ms:ML Za)=>(⟨[(3,some (.h 0 0)),(7,some (.h 1 0)),(8,some (.v (vI (lines.length:Int)))),(9,some (.v (vI v9)))],[(0,some (.own 0 (.x (MX Value.string ms)))),(1,some (.shr none (.l 1 eStr lines)))],2⟩:St)) i.2.1 i.2.2) (lJ14_0 lines) (fun i=>i.1) (lN14_0 lines) (fun i=>(fun (v9:Int) (ms:ML Za)=>(.seq .no (.seq (.cond .no .no) (.seq (.blk (.seq .no (.reg [(2,kh16 (lines.getD (Int.toNat v9) default)),(4,.mpu Value.string ms (lines.getD (Int.toNat v9) default))]))) (.reg [(0,.bnd)]))))) i.2.1 i.2.2)))) (.seq .no .no)))) Tryz.func14 (fun (hp:lines.length<=1048576/\(∀ k:Nat,(lines.getD k default).size<=1048576))=>have hpre0:=hp.1; have hpre1:=hp.2; kn lines fun _=>kn lines fun _=>ai (en14_0 lines uu0) (fun (i0:Nat×(Int×ML Za)) (hi0:lJ14_0 lines i0)=>(fun (m0:Nat) (v9:Int) (ms:ML Za) (hh0:lH14_0 lines i0 m0 v9 ms)=>have hI0:=hh0.1; have hl0:=hh0.2.1; have _:=hh0.2.2.1; have _:=hh0.2.2.2; ifd (v9<(lines.length:Int)) (fun h2 _=>ai (uu0:ib v9 lines) (kc16 (lines.getD (Int.toNat v9) default) uu64 (ai (Eq.refl (MX Value.string ms)) (ai (Eq.refl (Value.string (lines.getD (Int.toNat v9) default))) (ai (iok (v9+1) uu0) (bk14_0 lines i0 m0 (v9+1) (putM ms (F16 (lines.getD (Int.toNat v9) default)) (lines.getD (Int.toNat v9) default)) hl0 (runL_next hI0 (condT h2 rfl)) uu7)))))) (fun h2 _=>have hD0_3:lX14_0 lines=Lp.done (v9,ms):=runL_done hI0 (condF h2 rfl); fi14 lines ms (finD hD0_3 rfl))) (i0.1-1) i0.2.1 i0.2.2 (un14_0 lines i0 hi0))) uu2
def F15 (list:List Za):List Za :=
 ((List.replicate (Int.toNat 0) (Zc:Za))++list)
theorem fi15 (list:List Za) (r:List Za) (hF:r=(F15 list)):(Imp (.l 1 eStr r) (.l 1 eStr (F15 list)))/\True:=by cases hF; exact ⟨Imp.refl _,trivial⟩
def S15 (R:List Za) (list:List Za):Spec:=⟨[.r (.c (.l 1 eStr list))],.ow (.l 1 eStr R),list.length<=1000000000⟩
theorem ok15 (list:List Za):(S15 (F15 list) list).ok Tryz.prog 15 :=
 fnG_ok mixed (fn:=Tryz.f15) (ct:=.seqk [(0,0)] .no (.seq (.reg [(2,.dat (.l 1 eStr (List.replicate (Int.toNat 0) (Zc:Za)))),(4,.dat (.l 1 eStr ((List.replicate (Int.toNat 0) (Zc:Za))++list)))]) .no)) Tryz.func15 (fun (hpre0:list.length<=1000000000)=>kn list fun _=>ai (uu3:0<=(0:Int)/\(0:Int)<=(list.length:Int)/\(16:Int)*(list.length:Int)<=281474976710656) (ai (MakeOK.mk eStr (Zc:Za) (by exact ai ir trivial):MakeOK 1 [.v (.string Zc)] (Int.toNat 0) (.l 1 eStr (List.replicate (Int.toNat 0) (Zc:Za)))) (ai (AppL.mk eStr (List.replicate (Int.toNat 0) (Zc:Za)) list (Imp.refl (.l 1 eStr (List.replicate (Int.toNat 0) (Zc:Za)))) ir (fun y=>⟨rfl,fun e he=>by simp only [eStr,Qr,Rd,Tu] at he; rcases he with rfl <;> exact ⟨_,rfl⟩⟩):AppL (.l 1 eStr (List.replicate (Int.toNat 0) (Zc:Za))) (.l 1 eStr list) 1 (.l 1 eStr ((List.replicate (Int.toNat 0) (Zc:Za))++list))) (ai (uu16:((List.replicate (Int.toNat 0) (Zc:Za))++list).length*16<=140737488355328) (fi15 list ((List.replicate (Int.toNat 0) (Zc:Za))++list) rfl))))) uu2
theorem as15 (list:List Za):F15 list=(list):=by
 simp [F15]
theorem oa15 (list:List Za):(S15 (list) list).ok Tryz.prog 15:=by
 intro hp; have h:=ok15 list hp; rw [as15 list] at h; exact h
def F17 (x9:List Za):List Za :=
 sortS x9
def S17 (x9:List Za):Spec:=⟨[.ow (.l 1 eStr x9) (some (.l 1 eStr (F17 x9)))],.tu [],x9.length<=4000000000000000000⟩
theorem ok17 (x9:List Za):(S17 x9).ok Tryz.prog 17 :=
 sortS_ok laySortS x9
theorem kc13 (lines:List Za) {K_:Prop} (p0_:lines.length<=1048576) (p1_:∀ k:Nat,(lines.getD k default).size<=1048576) (k_:K_):(lines.length<=1048576/\(∀ k:Nat,(lines.getD k default).size<=1048576))/\(Imp (.l 1 eStr lines) (.l 1 eStr lines))/\K_:=⟨⟨p0_,p1_⟩,Imp.refl _,k_⟩
abbrev kh13 (lines:List Za):Hint false Tryz.prog:=.call 13 (S13 lines) (ok13 lines) none
theorem kg13 {K_:Prop} (c_ b_:Bool) (lines:List Za) (p_:c_=b_->lines.length<=1048576/\(∀ k:Nat,(lines.getD k default).size<=1048576)) (k_:K_):(c_=b_->lines.length<=1048576/\(∀ k:Nat,(lines.getD k default).size<=1048576))/\(c_=b_->Imp (.l 1 eStr lines) (.l 1 eStr lines))/\K_:=⟨p_,fun _=>Imp.refl _,k_⟩
theorem kc14 (lines:List Za) {K_:Prop} (p0_:lines.length<=1048576) (p1_:∀ k:Nat,(lines.getD k default).size<=1048576) (k_:K_):(lines.length<=1048576/\(∀ k:Nat,(lines.getD k default).size<=1048576))/\(Imp (.l 1 eStr lines) (.l 1 eStr lines))/\K_:=⟨⟨p0_,p1_⟩,Imp.refl _,k_⟩
abbrev kh14 (lines:List Za):Hint false Tryz.prog:=.call 14 (S14 lines) (ok14 lines) none
theorem kc15a (list:List Za) {K_:Prop} (p0_:list.length<=1000000000) (k_:K_):(list.length<=1000000000)/\(Imp (.l 1 eStr list) (.l 1 eStr list))/\K_:=⟨p0_,Imp.refl _,k_⟩
abbrev kh15af (list:List Za):Hint false Tryz.prog:=.call 15 (S15 list list) ((oa15 list).to false) none
theorem kc17 (x9:List Za) {K_:Prop} (p0_:x9.length<=4000000000000000000) (k_:K_):(x9.length<=4000000000000000000)/\(Imp (.l 1 eStr x9) (.l 1 eStr x9))/\K_:=⟨p0_,Imp.refl _,k_⟩
abbrev kh17f (x9:List Za):Hint false Tryz.prog:=.call 17 (S17 x9) ((ok17 x9).to false) none
def F5_s0 (base:List Za) (mine:List Za) (theirs:List Za):(Int×ML Bool)->Lp (Int×ML Bool) (List Za×Int):=fun (v44,ms) =>
 bif (decide (v44<(((base++mine)++theirs).length:Int))) then (.next ((v44+1),(putM ms (F16 (((base++mine)++theirs).getD (Int.toNat v44) default)) true))) else (.done (v44,ms))
def F5_j0 (base:List Za) (mine:List Za) (theirs:List Za):Lp (ML Bool) (List Za×Int) :=
 (runL (F5_s0 base mine theirs) ((Int.toNat ((((base++mine)++theirs).length:Int)-0))+1) (0,([]:ML Bool))).fin Lp.ret (fun (v44,ms)=>.done ms)
def F5_j1 (base:List Za) (mine:List Za) (theirs:List Za) (keys:ML Bool):Lp (List Za) (List Za×Int) :=
 bif (keys.map (·.1)).any (mgBad (F14 base) (F14 mine) (F14 theirs)) then .ret ([],2) else .done (sortS (mgLines (F14 base) (F14 mine) (F14 theirs) (keys.map (·.1))))
def F5 (base:List Za) (mine:List Za) (theirs:List Za):List Za×Int :=
 bif (bif (bif (!(F13 base)) then true else (!(F13 mine))) then true else (!(F13 theirs))) then (([]:List Za),1) else ((F5_j0 base mine theirs).fin (fun r=>r) (fun keys=>(F5_j1 base mine theirs keys).fin (fun r=>r) (fun so=>bif (decide ((so.length:Int)>16)) then (([]:List Za),3) else (so,0))))
abbrev lN5_0 (base:List Za) (mine:List Za) (theirs:List Za):Nat×(Int×ML Bool):=(((Int.toNat ((((base++mine)++theirs).length:Int)-0))+1),(0,([]:ML Bool)))
abbrev lI5_0 (base:List Za) (mine:List Za) (theirs:List Za) (m39:Nat) (v44:Int) (ms:ML Bool):Prop:=Int.toNat ((((base++mine)++theirs).length:Int)-v44)<m39/\(ms.length:Int)<=v44/\v44<=(((base++mine)++theirs).length:Int)/\(0:Int)<=v44
abbrev lX5_0 (base:List Za) (mine:List Za) (theirs:List Za):Lp (Int×ML Bool) (List Za×Int):=LpX (F5_s0 base mine theirs) (lN5_0 base mine theirs)
abbrev lJ5_0 (base:List Za) (mine:List Za) (theirs:List Za) (i:Nat×(Int×ML Bool)):Prop:=LpJ (F5_s0 base mine theirs) (lN5_0 base mine theirs) i (lI5_0 base mine theirs i.1 i.2.1 i.2.2)
abbrev lH5_0 (base:List Za) (mine:List Za) (theirs:List Za) (i:Nat×(Int×ML Bool)) (m39:Nat) (v44:Int) (ms:ML Bool):Prop:=LpH (F5_s0 base mine theirs) (lN5_0 base mine theirs) i m39 (v44,ms) (lI5_0 base mine theirs (m39+1) v44 ms)
abbrev lE5_0 (base:List Za) (mine:List Za) (theirs:List Za) (v44:Int) (ms:ML Bool) (v44_:Int) (ms_:ML Bool) (K39:Prop):Prop:=(Rf (.int .i64 (((base++mine)++theirs).length:Int)))/\((.int .i64 v44:Value)=.int .i64 v44_)/\(Im (.x (MX Value.string (F14 base))))/\(Im (.x (MX Value.string (F14 mine))))/\(Im (.x (MX Value.string (F14 theirs))))/\(Imp (.x (MX Value.bool ms)) (.x (MX Value.bool ms_)))/\(Im (.l 1 eStr ((base++mine)++theirs)))/\K39
theorem un5_0 (base:List Za) (mine:List Za) (theirs:List Za) (i:Nat×(Int×ML Bool)) (h:lJ5_0 base mine theirs i):lH5_0 base mine theirs i (i.1-1) i.2.1 i.2.2:=⟨hd1 h.1 h.2.1,hd3 h.2.1,hd2 h.2.1,h.2.2⟩
theorem bk5_0 (base:List Za) (mine:List Za) (theirs:List Za) (i:Nat×(Int×ML Bool)) (m39:Nat) (v44:Int) (ms:ML Bool) (hl:m39<i.1) (e:runL (F5_s0 base mine theirs) m39 (v44,ms)=lX5_0 base mine theirs) (h:lI5_0 base mine theirs m39 v44 ms):∃ j:Nat×(Int×ML Bool),lE5_0 base mine theirs v44 ms j.2.1 j.2.2 (lJ5_0 base mine theirs j/\j.1<i.1):=⟨(m39,(v44,ms)),rfl,rfl,Imp.refl _,Imp.refl _,Imp.refl _,Imp.refl _,Imp.refl _,⟨e,h⟩,hl⟩
theorem en5_0 (base:List Za) (mine:List Za) (theirs:List Za) (h:(([]:ML Bool).length:Int)<=0/\0<=(((base++mine)++theirs).length:Int)/\(0:Int)<=0):lE5_0 base mine theirs 0 ([]:ML Bool) 0 ([]:ML Bool) (lJ5_0 base mine theirs (lN5_0 base mine theirs)):=⟨rfl,rfl,Imp.refl _,Imp.refl _,Imp.refl _,Imp.refl _,Imp.refl _,rfl,Qt _,h⟩
abbrev jI5_0 (base:List Za) (mine:List Za) (theirs:List Za) (keys:ML Bool):Prop:=(keys.length:Int)<=3145728/\True
abbrev jJ5_0 (base:List Za) (mine:List Za) (theirs:List Za) (j:ML Bool):Prop:=(F5_j0 base mine theirs)=Lp.done j/\jI5_0 base mine theirs j
theorem jn5_0 (base:List Za) (mine:List Za) (theirs:List Za) (keys:ML Bool) (e:(F5_j0 base mine theirs)=Lp.done keys) (h:jI5_0 base mine theirs keys):∃ j:ML Bool,(Imp (.x (MX Value.string (F14 base))) (.x (MX Value.string (F14 base))))/\(Imp (.x (MX Value.string (F14 mine))) (.x (MX Value.string (F14 mine))))/\(Imp (.x (MX Value.string (F14 theirs))) (.x (MX Value.string (F14 theirs))))/\(Imp (.x (MX Value.bool keys)) (.x (MX Value.bool j)))/\jJ5_0 base mine theirs j:=⟨keys,Imp.refl _,Imp.refl _,Imp.refl _,Imp.refl _,e,h⟩
abbrev jI5_1 (base:List Za) (mine:List Za) (theirs:List Za) (keys:ML Bool) (out:List Za):Prop:=out.length<=3145728/\True
abbrev jJ5_1 (base:List Za) (mine:List Za) (theirs:List Za) (keys:ML Bool) (j:List Za):Prop:=(F5_j1 base mine theirs keys)=Lp.done (F17 j)/\jI5_1 base mine theirs keys j
theorem jn5_1 (base:List Za) (mine:List Za) (theirs:List Za) (keys:ML Bool) (out:List Za) (e:(F5_j1 base mine theirs keys)=Lp.done (F17 out)) (h:jI5_1 base mine theirs keys out):∃ j:List Za,(Imp (.l 1 eStr out) (.l 1 eStr j))/\jJ5_1 base mine theirs keys j:=⟨out,Imp.refl _,e,h⟩
theorem fi5 (base:List Za) (mine:List Za) (theirs:List Za) (r:List Za×Int) (hF:r=(F5 base mine theirs)):(Imp (.l 1 eStr r.1) (.l 1 eStr (F5 base mine theirs).1))/\((.int .i64 r.2:Value)=.int .i64 (F5 base mine theirs).2)/\True:=by cases hF; exact ⟨Imp.refl _,rfl,trivial⟩
def S5 (base:List Za) (mine:List Za) (theirs:List Za):Spec:=⟨[.r (.c (.l 1 eStr base)),.r (.c (.l 1 eStr mine)),.r (.c (.l 1 eStr theirs))],.tu [.ow (.l 1 eStr (F5 base mine theirs).1),.v (vI (F5 base mine theirs).2)],base.length<=1048576/\mine.length<=1048576/\theirs.length<=1048576/\(∀ k:Nat,(base.getD k default).size<=1048576)/\(∀ k:Nat,(mine.getD k default).size<=1048576)/\(∀ k:Nat,(theirs.getD k default).size<=1048576)⟩
theorem ok5 (base:List Za) (mine:List Za) (theirs:List Za):(S5 base mine theirs).ok Tryz.prog 5 false :=
 fnG_ok mixed (fn:=Tryz.f5) (ct:=.seqk [(0,0),(1,0),(2,0)] .no (.seq (.seq (.reg [(1,kh13 base),(5,kh13 mine),(10,kh13 theirs)]) (.cond (.seq .no .no) .no)) (.seq (.reg [(1,kh14 base),(3,kh14 mine),(5,kh14 theirs)]) (.seq (.reg [(0,.mpm Value.bool)]) (.cut (ι:=ML Bool) (fun j=>(fun (keys:ML Bool)=>(⟨[(8,some (.h 0 0)),(9,some (.h 1 0)),(10,some (.h 2 0)),(11,some (.h 3 0))],[(0,some (.own 0 (.x (MX Value.string (F14 base))))),(1,some (.own 1 (.x (MX Value.string (F14 mine))))),(2,some (.own 2 (.x (MX Value.string (F14 theirs))))),(3,some (.own 3 (.x (MX Value.bool keys))))],4⟩:St)) j) (jJ5_0 base mine theirs) (.seqk [(42,0)] (.reg [(1,kh15af base),(3,.dat (.l 1 eStr (base++mine))),(5,.dat (.l 1 eStr ((base++mine)++theirs)))]) (.blk (.loop (ι:=Nat×(Int×ML Bool)) (fun i=>(fun (v44:Int) (ms:ML Bool)=>(⟨[(8,some (.h 0 0)),(9,some (.h 1 0)),(10,some (.h 2 0)),(11,some (.h 3 0)),(42,some (.h 4 0)),(43,some (.v (vI (((base++mine)++theirs).length:Int)))),(44,some (.v (vI v44)))],[(0,some (.own 0 (.x (MX Value.string (F14 base))))),(1,some (.own 1 (.x (MX Value.string (F14 mine))))),(2,some (.own 2 (.x (MX Value.string (F14 theirs))))),(3,some (.own 3 (.x (MX Value.bool ms)))),(4,some (.own 4 (.l 1 eStr ((base++mine)++theirs))))],5⟩:St)) i.2.1 i.2.2) (lJ5_0 base mine theirs) (fun i=>i.1) (lN5_0 base mine theirs) (fun i=>(fun (v44:Int) (ms:ML Bool)=>(.seq .no (.seq (.cond .no .no) (.seq (.blk (.seq .no (.reg [(2,kh16 (((base++mine)++theirs).getD (Int.toNat v44) default)),(3,.mpu Value.bool ms true)]))) (.reg [(0,.bnd)]))))) i.2.1 i.2.2)))) (fun j=>(fun (keys:ML Bool)=>(.seq (.reg [(0,.dat (.l 1 eStr ([]:List Za)))]) (.cut (ι:=List Za) (fun j=>(fun (out:List Za)=>(⟨[(14,some (.h 0 0))],[(0,some (.own 0 (.l 1 eStr out)))],1⟩:St)) j) (jJ5_1 base mine theirs keys) (.seqk [(14,0)] (.reg [(1,.rng Value.bool keys)]) (.blk (.loop (ι:=List Za×ML Bool) (fun i=>(fun (out1:List Za) (left':ML Bool)=>(⟨[(8,some (.h 0 0)),(9,some (.h 1 0)),(10,some (.h 2 0)),(14,some (.h 3 0)),(54,some (.h 4 0))],[(0,some (.own 0 (.x (MX Value.string (F14 base))))),(1,some (.own 1 (.x (MX Value.string (F14 mine))))),(2,some (.own 2 (.x (MX Value.string (F14 theirs))))),(3,some (.own 3 (.l 1 eStr out1))),(4,some (.own 4 (.x (IX Value.bool keys left' none))))],5⟩:St)) i.1 i.2) (fun i=>(fun (out1:List Za) (left':ML Bool)=>(MgJ (F14 base) (F14 mine) (F14 theirs) (keys.map (·.1)) left' out1)) i.1 i.2) (fun i=>(fun (out1:List Za) (left':ML Bool)=>left'.length) i.1 i.2) (([]:List Za),keys) (fun i=>(fun (out1:List Za) (left':ML Bool)=>(.nx Value.bool keys left' none false (fun (more:Bool) (ent:Za×Bool) (left'1:ML Bool)=>(.seq (.cond .no .no) (.blk (.seq (.reg [(0,.ent Value.bool keys (bif more then left'1 else left') ent.1 ent.2)]) (.seq (.reg [(2,.mpl Value.string (F14 mine) Zc)]) (.cut (ι:=Za×ML Bool) (fun j=>(fun (l:Za) (left'2:ML Bool)=>(⟨[(8,some (.h 0 0)),(9,some (.h 1 0)),(10,some (.h 2 0)),(14,some (.h 3 0)),(16,some (.v (.string l))),(54,some (.h 4 0))],[(0,some (.own 0 (.x (MX Value.string (F14 base))))),(1,some (.own 1 (.x (MX Value.string (F14 mine))))),(2,some (.own 2 (.x (MX Value.string (F14 theirs))))),(3,some (.own 3 (.l 1 eStr out1))),(4,some (.own 4 (.x (IX Value.bool keys left'2 none))))],5⟩:St)) j.1 j.2) (fun j=>(fun (l:Za) (left'2:ML Bool)=>(MgS (F14 base) (F14 mine) (F14 theirs) left' left'2 l)) j.1 j.2) (.blk (.seq (.reg [(2,.mpl Value.string (F14 mine) Zc),(5,.mpl Value.string (F14 base) Zc)]) (.cond (.reg [(2,.mpl Value.string (F14 theirs) Zc)]) (.seq (.reg [(2,.mpl Value.string (F14 theirs) Zc),(5,.mpl Value.string (F14 base) Zc),(10,.mpl Value.string (F14 theirs) Zc),(13,.mpl Value.string (F14 mine) Zc)]) (.cond (.seq .no .no) .no))))) (fun j=>(fun (l:Za) (left'2:ML Bool)=>(.seq .no (.cond (.reg [(3,.dat (.l 1 eStr (out1++[l])))]) .no))) j.1 j.2))))))))) i.1 i.2)))) (fun j=>(fun (out:List Za)=>(.seq (.reg [(1,kh17f out)]) (.seq (.seq .no (.cond (.seq .no .no) .no)) (.seq .no .no)))) j)))) j)))))) Tryz.func5 (fun (hp:base.length<=1048576/\mine.length<=1048576/\theirs.length<=1048576/\(∀ k:Nat,(base.getD k default).size<=1048576)/\(∀ k:Nat,(mine.getD k default).size<=1048576)/\(∀ k:Nat,(theirs.getD k default).size<=1048576))=>have hpre0:=hp.1; have hpre1:=hp.2.1; have hpre2:=hp.2.2.1; have hpre3:=hp.2.2.2.1; have hpre4:=hp.2.2.2.2.1; have hpre5:=hp.2.2.2.2.2; kn base fun _=>kn mine fun _=>kn theirs fun _=>kc13 base uu3 uu30 (kg13 (!(F13 base)) false mine (fun k1=>⟨uu3,uu30⟩) (kg13 (bif (!(F13 base)) then true else (!(F13 mine))) false theirs (fun k2=>⟨uu3,uu30⟩) (ifb (bif (bif (!(F13 base)) then true else (!(F13 mine))) then true else (!(F13 theirs))) (fun h3=>(fun hF:(([]:List Za),1)=(F5 base mine theirs)=>ai ((Imp.nil 1 eStr).trans (Imp.of_eq (Qg (fun r:List Za×Int=>Dat.l 1 eStr r.1) hF))) (ai (Qg (fun r:List Za×Int=>(.int .i64 r.2:Value)) hF) trivial)) (condT h3 rfl)) (fun h3=>kc14 base uu3 uu30 (kc14 mine uu3 uu30 (kc14 theirs uu3 uu30 (ai (kc15a base uu3 (ai (AppL.mk eStr base mine (Imp.refl (.l 1 eStr base)) ir (fun y=>⟨rfl,fun e he=>by simp only [eStr,Qr,Rd,Tu] at he; rcases he with rfl <;> exact ⟨_,rfl⟩⟩):AppL (.l 1 eStr base) (.l 1 eStr mine) 1 (.l 1 eStr (base++mine))) (ai (uu57:(base++mine).length*16<=140737488355328) (ai (AppL.mk eStr (base++mine) theirs (Imp.refl (.l 1 eStr (base++mine))) ir (fun y=>⟨rfl,fun e he=>by simp only [eStr,Qr,Rd,Tu] at he; rcases he with rfl <;> exact ⟨_,rfl⟩⟩):AppL (.l 1 eStr (base++mine)) (.l 1 eStr theirs) 1 (.l 1 eStr ((base++mine)++theirs))) (ai (uu57:((base++mine)++theirs).length*16<=140737488355328) (kn ((base++mine)++theirs) fun _=>ai (en5_0 base mine theirs (by refine ⟨?_,?_,?_⟩ <;> first | omega | (simp only [lens,ib] at*<;> omega) | exact Int.natCast_nonneg _ | (have h9:=putM_le ms (F16 (((base++mine)++theirs).getD (Int.toNat v44) default)) true; omega))) (fun (i0:Nat×(Int×ML Bool)) (hi0:lJ5_0 base mine theirs i0)=>(fun (m0:Nat) (v44:Int) (ms:ML Bool) (hh0:lH5_0 base mine theirs i0 m0 v44 ms)=>have hI0:=hh0.1; have hl0:=hh0.2.1; have _:=hh0.2.2.1; have _:=hh0.2.2.2; ifd (v44<(((base++mine)++theirs).length:Int)) (fun h5 _=>ai (uu3:ib v44 ((base++mine)++theirs)) (kc16 (((base++mine)++theirs).getD (Int.toNat v44) default) (by first | exact getD_sz3 hpre3 hpre4 hpre5 _) (ai (Eq.refl (MX Value.bool ms)) (ai (Eq.refl (Value.bool true)) (ai (iok (v44+1) uu3) (bk5_0 base mine theirs i0 m0 (v44+1) (putM ms (F16 (((base++mine)++theirs).getD (Int.toNat v44) default)) true) hl0 (runL_next hI0 (condT h5 rfl)) (by refine ⟨?_,?_,?_,?_⟩ <;> first | omega | (simp only [lens,ib] at*<;> omega) | exact Int.natCast_nonneg _ | (have h9:=putM_le ms (F16 (((base++mine)++theirs).getD (Int.toNat v44) default)) true; omega)))))))) (fun h5 _=>have hD0_6:lX5_0 base mine theirs=Lp.done (v44,ms):=runL_done hI0 (condF h5 rfl); jn5_0 base mine theirs ms (Tk (finD hD0_6 rfl)) uu72)) (i0.1-1) i0.2.1 i0.2.2 (un5_0 base mine theirs i0 hi0)))))))) (fun (j:ML Bool) (hj:jJ5_0 base mine theirs j)=>(fun (keys:ML Bool) (hJ0_7:(F5_j0 base mine theirs)=Lp.done keys) (hw:jI5_0 base mine theirs keys)=>have _:=hw.1; ai (bokr 1 eStr ([]:List Za) fun _=>rfl) (ai (ai (Eq.refl (MX Value.bool keys)) (kn ([]:List Za) fun _=>ai (ai (ir:Imp (.x (MX Value.string (F14 base))) (.x (MX Value.string (F14 base)))) (ai (ir:Imp (.x (MX Value.string (F14 mine))) (.x (MX Value.string (F14 mine)))) (ai (ir:Imp (.x (MX Value.string (F14 theirs))) (.x (MX Value.string (F14 theirs)))) (ai (ir:Imp (.l 1 eStr ([]:List Za)) (.l 1 eStr ([]:List Za))) (ai (ir:Imp (.x (IX Value.bool keys keys none)) (.x (IX Value.bool keys keys none))) (uu38:MgJ (F14 base) (F14 mine) (F14 theirs) (keys.map (·.1)) keys ([]:List Za))))))) (fun (i1:List Za×ML Bool) (hi1:(fun (out1:List Za) (left':ML Bool)=>(MgJ (F14 base) (F14 mine) (F14 theirs) (keys.map (·.1)) left' out1)) i1.1 i1.2)=>(fun (out1:List Za) (left':ML Bool) (hm1:left'.length<=(fun (out1:List Za) (left':ML Bool)=>left'.length) i1.1 i1.2) (hv1_0:MgJ (F14 base) (F14 mine) (F14 theirs) (keys.map (·.1)) left' out1)=>ai (Eq.refl (IX Value.bool keys left' none)) (ai (rfl:true=true) (fun (more:Bool) (ent:Za×Bool) (left'1:ML Bool) (hb16:more=false->left'=[]) (hp16:more=true->List.Perm left' (ent :: left'1))=>ifb more (fun h8=>ai (ix_cur h8:IX Value.bool keys (bif more then left'1 else left') (bif more then some ent else none)=IX Value.bool keys (bif more then left'1 else left') (some (ent.1,ent.2))) (ai (Eq.refl (MX Value.string (F14 mine))) (ai (Eq.refl (Value.string Zc)) (ai (ai (Eq.refl (MX Value.string (F14 mine))) (ai (Eq.refl (Value.string Zc)) (ai (Eq.refl (MX Value.string (F14 base))) (ai (Eq.refl (Value.string Zc)) (ifb (((getM (F14 mine) ent.1).getD Zc).toList==((getM (F14 base) ent.1).getD Zc).toList) (fun h9=>ai (Eq.refl (MX Value.string (F14 theirs))) (ai (Eq.refl (Value.string Zc)) (Exists.intro (p:=fun j:Za×ML Bool=>((.string ((getM (F14 theirs) ent.1).getD Zc):Value)=.string j.1)/\(Imp (.x (MX Value.string (F14 base))) (.x (MX Value.string (F14 base))))/\(Imp (.x (MX Value.string (F14 mine))) (.x (MX Value.string (F14 mine))))/\(Imp (.x (MX Value.string (F14 theirs))) (.x (MX Value.string (F14 theirs))))/\(Imp (.l 1 eStr out1) (.l 1 eStr out1))/\(Imp (.x (IX Value.bool keys (bif more then left'1 else left') (bif more then some ent else none))) (.x (IX Value.bool keys j.2 none)))/\(fun (l:Za) (left'2:ML Bool)=>(MgS (F14 base) (F14 mine) (F14 theirs) left' left'2 l)) j.1 j.2) (((getM (F14 theirs) ent.1).getD Zc),(bif more then left'1 else left')) (ai (rfl) (ai ir (ai ir (ai ir (ai ir (ai (ix_drop Value.bool keys (bif more then left'1 else left') (bif more then some ent else none)) (uu73:MgS (F14 base) (F14 mine) (F14 theirs) left' (bif more then left'1 else left') ((getM (F14 theirs) ent.1).getD Zc))))))))))) (fun h9=>ai (Eq.refl (MX Value.string (F14 theirs))) (ai (Eq.refl (Value.string Zc)) (ai (Eq.refl (MX Value.string (F14 base))) (ai (Eq.refl (Value.string Zc)) (ai (fun k10:(!(((getM (F14 theirs) ent.1).getD Zc).toList==((getM (F14 base) ent.1).getD Zc).toList))=true=>(Eq.refl (MX Value.string (F14 theirs)))) (ai (fun k11:(!(((getM (F14 theirs) ent.1).getD Zc).toList==((getM (F14 base) ent.1).getD Zc).toList))=true=>(Eq.refl (Value.string Zc))) (ai (fun k12:(!(((getM (F14 theirs) ent.1).getD Zc).toList==((getM (F14 base) ent.1).getD Zc).toList))=true=>(Eq.refl (MX Value.string (F14 mine)))) (ai (fun k13:(!(((getM (F14 theirs) ent.1).getD Zc).toList==((getM (F14 base) ent.1).getD Zc).toList))=true=>(Eq.refl (Value.string Zc))) (ifb (bif (!(((getM (F14 theirs) ent.1).getD Zc).toList==((getM (F14 base) ent.1).getD Zc).toList)) then (!(((getM (F14 theirs) ent.1).getD Zc).toList==((getM (F14 mine) ent.1).getD Zc).toList)) else false) (fun h14=>have _:(!(((getM (F14 theirs) ent.1).getD Zc).toList==((getM (F14 base) ent.1).getD Zc).toList))=true:=(andT1 h14); have _:(!(((getM (F14 theirs) ent.1).getD Zc).toList==((getM (F14 mine) ent.1).getD Zc).toList))=true:=(andT2 h14); (fun hF:(([]:List Za),2)=(F5 base mine theirs)=>ai ((Imp.nil 1 eStr).trans (Imp.of_eq (Qg (fun r:List Za×Int=>Dat.l 1 eStr r.1) hF))) (ai (Qg (fun r:List Za×Int=>(.int .i64 r.2:Value)) hF) trivial)) (condF h3 (finD hJ0_7 (finR (by exact mgJ_ret (by assumption) (by assumption) (by assumption) (by assumption) (by assumption):(F5_j1 base mine theirs keys)=Lp.ret (([]:List Za),2)) rfl)))) (fun h14=>Exists.intro (p:=fun j:Za×ML Bool=>((.string ((getM (F14 mine) ent.1).getD Zc):Value)=.string j.1)/\(Imp (.x (MX Value.string (F14 base))) (.x (MX Value.string (F14 base))))/\(Imp (.x (MX Value.string (F14 mine))) (.x (MX Value.string (F14 mine))))/\(Imp (.x (MX Value.string (F14 theirs))) (.x (MX Value.string (F14 theirs))))/\(Imp (.l 1 eStr out1) (.l 1 eStr out1))/\(Imp (.x (IX Value.bool keys (bif more then left'1 else left') (bif more then some ent else none))) (.x (IX Value.bool keys j.2 none)))/\(fun (l:Za) (left'2:ML Bool)=>(MgS (F14 base) (F14 mine) (F14 theirs) left' left'2 l)) j.1 j.2) (((getM (F14 mine) ent.1).getD Zc),(bif more then left'1 else left')) (ai (rfl) (ai ir (ai ir (ai ir (ai ir (ai (ix_drop Value.bool keys (bif more then left'1 else left') (bif more then some ent else none)) (uu73:MgS (F14 base) (F14 mine) (F14 theirs) left' (bif more then left'1 else left') ((getM (F14 mine) ent.1).getD Zc))))))))))))))))))))))) (fun (j:Za×ML Bool) (hj:(fun (l:Za) (left'2:ML Bool)=>(MgS (F14 base) (F14 mine) (F14 theirs) left' left'2 l)) j.1 j.2)=>(fun (l:Za) (left'2:ML Bool) (hw4:MgS (F14 base) (F14 mine) (F14 theirs) left' left'2 l)=>ifb (!(l.toList==Zc.toList)) (fun h15=>ai (appr 1 eStr out1 [l] fun _=>rfl) (ai (uu57:(out1++[l]).length*16<=140737488355328) (Exists.intro (p:=fun j:List Za×ML Bool=>(Imp (.x (MX Value.string (F14 base))) (.x (MX Value.string (F14 base))))/\(Imp (.x (MX Value.string (F14 mine))) (.x (MX Value.string (F14 mine))))/\(Imp (.x (MX Value.string (F14 theirs))) (.x (MX Value.string (F14 theirs))))/\(Imp (.l 1 eStr (out1++[l])) (.l 1 eStr j.1))/\(Imp (.x (IX Value.bool keys left'2 none)) (.x (IX Value.bool keys j.2 none)))/\(((fun (out1:List Za) (left':ML Bool)=>(MgJ (F14 base) (F14 mine) (F14 theirs) (keys.map (·.1)) left' out1)) j.1 j.2)/\(fun (out1:List Za) (left':ML Bool)=>left'.length) j.1 j.2<(fun (out1:List Za) (left':ML Bool)=>left'.length) i1.1 i1.2)) ((out1++[l]),left'2) (ai ir (ai ir (ai ir (ai ir (ai ir (ai (uu38:MgJ (F14 base) (F14 mine) (F14 theirs) (keys.map (·.1)) left'2 (out1++[l])) (Rm (uu38:left'2.length<left'.length) hm1)))))))))) (fun h15=>Exists.intro (p:=fun j:List Za×ML Bool=>(Imp (.x (MX Value.string (F14 base))) (.x (MX Value.string (F14 base))))/\(Imp (.x (MX Value.string (F14 mine))) (.x (MX Value.string (F14 mine))))/\(Imp (.x (MX Value.string (F14 theirs))) (.x (MX Value.string (F14 theirs))))/\(Imp (.l 1 eStr out1) (.l 1 eStr j.1))/\(Imp (.x (IX Value.bool keys left'2 none)) (.x (IX Value.bool keys j.2 none)))/\(((fun (out1:List Za) (left':ML Bool)=>(MgJ (F14 base) (F14 mine) (F14 theirs) (keys.map (·.1)) left' out1)) j.1 j.2)/\(fun (out1:List Za) (left':ML Bool)=>left'.length) j.1 j.2<(fun (out1:List Za) (left':ML Bool)=>left'.length) i1.1 i1.2)) (out1,left'2) (ai ir (ai ir (ai ir (ai ir (ai ir (ai (uu38:MgJ (F14 base) (F14 mine) (F14 theirs) (keys.map (·.1)) left'2 out1) (Rm (uu38:left'2.length<left'.length) hm1))))))))) j.1 j.2 hj))))) (fun h8=>jn5_1 base mine theirs keys out1 (by exact mgJ_done (by assumption) (by assumption) (by assumption):(F5_j1 base mine theirs keys)=Lp.done (F17 out1)) uu72)))) i1.1 i1.2 (Qp _) hi1))) (fun (j:List Za) (hj:jJ5_1 base mine theirs keys j)=>(fun (out:List Za) (hJ1_17:(F5_j1 base mine theirs keys)=Lp.done (F17 out)) (hw:jI5_1 base mine theirs keys out)=>have _:=hw.1; kc17 out uu3 (ifd (((F17 out).length:Int)>16) (fun h18 _=>(fun hF:(([]:List Za),3)=(F5 base mine theirs)=>ai ((Imp.nil 1 eStr).trans (Imp.of_eq (Qg (fun r:List Za×Int=>Dat.l 1 eStr r.1) hF))) (ai (Qg (fun r:List Za×Int=>(.int .i64 r.2:Value)) hF) trivial)) (condF h3 (finD hJ0_7 (finD hJ1_17 (condT h18 rfl))))) (fun h18 _=>fi5 base mine theirs ((F17 out),0) (condF h3 (finD hJ0_7 (finD hJ1_17 (condF h18 rfl))))))) j hj.1 hj.2))) j hj.1 hj.2))))))))) uu2
def F19_s0 (keys:List Za) (lines:List Za):(List Za×Int)->Lp (List Za×Int) (List Za):=fun (out,i40) =>
 bif (decide (i40<(lines.length:Int))) then (bif (!(F38 out (F26 (lines.getD i40.toNat default)))) then (.next ((out++[(F26 (lines.getD i40.toNat default))]),(i40+1))) else (.next (out,(i40+1)))) else (.done (out,i40))
def F19 (keys:List Za) (lines:List Za):List Za :=
 (runL (F19_s0 keys lines) (((lines.length:Int)-0).toNat+1) ((([]:List Za)++keys),0)).fin (fun r=>r) (fun (out,i40)=>out)
abbrev lN19_0 (keys:List Za) (lines:List Za):Nat×(List Za×Int):=((((lines.length:Int)-0).toNat+1),((([]:List Za)++keys),0))
abbrev lI19_0 (keys:List Za) (lines:List Za) (m39:Nat) (out:List Za) (i40:Int):Prop:=Int.toNat ((lines.length:Int)-i40)<m39/\(out.length:Int)<=(keys.length:Int)+i40/\(0:Int)<=i40
abbrev lX19_0 (keys:List Za) (lines:List Za):Lp (List Za×Int) (List Za):=LpX (F19_s0 keys lines) (lN19_0 keys lines)
abbrev lJ19_0 (keys:List Za) (lines:List Za) (i:Nat×(List Za×Int)):Prop:=LpJ (F19_s0 keys lines) (lN19_0 keys lines) i (lI19_0 keys lines i.1 i.2.1 i.2.2)
abbrev lH19_0 (keys:List Za) (lines:List Za) (i:Nat×(List Za×Int)) (m39:Nat) (out:List Za) (i40:Int):Prop:=LpH (F19_s0 keys lines) (lN19_0 keys lines) i m39 (out,i40) (lI19_0 keys lines (m39+1) out i40)
abbrev lE19_0 (lines:List Za) (out:List Za) (i40:Int) (out_:List Za) (i40_:Int) (K39:Prop):Prop:=((.int .i64 i40:Value)=.int .i64 i40_)/\(Im (.l 1 eStr lines))/\(Imp (.l 1 eStr out) (.l 1 eStr out_))/\K39
theorem un19_0 (keys:List Za) (lines:List Za) (i:Nat×(List Za×Int)) (h:lJ19_0 keys lines i):lH19_0 keys lines i (i.1-1) i.2.1 i.2.2:=⟨hd1 h.1 h.2.1,hd3 h.2.1,hd2 h.2.1,h.2.2⟩
theorem bk19_0 (keys:List Za) (lines:List Za) (i:Nat×(List Za×Int)) (m39:Nat) (out:List Za) (i40:Int) (hl:m39<i.1) (e:runL (F19_s0 keys lines) m39 (out,i40)=lX19_0 keys lines) (h:lI19_0 keys lines m39 out i40):∃ j:Nat×(List Za×Int),lE19_0 lines out i40 j.2.1 j.2.2 (lJ19_0 keys lines j/\j.1<i.1):=⟨(m39,(out,i40)),rfl,Imp.refl _,Imp.refl _,⟨e,h⟩,hl⟩
theorem en19_0 (keys:List Za) (lines:List Za) (h:((([]:List Za)++keys).length:Int)<=(keys.length:Int)+0/\(0:Int)<=0):lE19_0 lines (([]:List Za)++keys) 0 (([]:List Za)++keys) 0 (lJ19_0 keys lines (lN19_0 keys lines)):=⟨rfl,Imp.refl _,Imp.refl _,rfl,Qt _,h⟩
theorem fi19 (keys:List Za) (lines:List Za) (r:List Za) (hF:r=(F19 keys lines)):(Imp (.l 1 eStr r) (.l 1 eStr (F19 keys lines)))/\True:=by cases hF; exact ⟨Imp.refl _,trivial⟩
def S19 (keys:List Za) (lines:List Za):Spec:=⟨[.r (.c (.l 1 eStr keys)),.r (.c (.l 1 eStr lines))],.ow (.l 1 eStr (F19 keys lines)),keys.length<=1000/\lines.length<=1000/\(∀ k:Nat,(lines.getD k default).size<=1048576)⟩
theorem ok19 (keys:List Za) (lines:List Za):(S19 keys lines).ok Tryz.prog 19 :=
 fnG_ok mixed (fn:=Tryz.f19) (ct:=.seqk [(0,0),(1,0)] .no (.seq (.reg [(0,.dat (.l 1 eStr ([]:List Za))),(2,.dat (.l 1 eStr (([]:List Za)++keys)))]) (.seq (.seqk [(1,0),(5,0)] .no (.blk (.loop (ι:=Nat×(List Za×Int)) (fun i=>(fun (out:List Za) (i40:Int)=>(⟨[(1,some (.h 0 0)),(5,some (.h 1 0)),(6,some (.v (vI i40)))],[(0,some (.shr none (.l 1 eStr lines))),(1,some (.own 1 (.l 1 eStr out)))],2⟩:St)) i.2.1 i.2.2) (lJ19_0 keys lines) (fun i=>i.1) (lN19_0 keys lines) (fun i=>(fun (out:List Za) (i40:Int)=>(.seq (.seq .no (.cond .no .no)) (.seq (.blk (.seq (.reg [(5,kh26 (lines.getD i40.toNat default)),(6,kh38 out (F26 (lines.getD i40.toNat default)))]) (.cond (.reg [(5,kh26 (lines.getD i40.toNat default)),(7,.dat (.l 1 eStr (out++[(F26 (lines.getD i40.toNat default))])))]) .no))) (.reg [(1,.bnd)])))) i.2.1 i.2.2)))) (.seq .no .no)))) Tryz.func19 (fun (hp:keys.length<=1000/\lines.length<=1000/\(∀ k:Nat,(lines.getD k default).size<=1048576))=>have hpre0:=hp.1; have hpre1:=hp.2.1; have hpre2:=hp.2.2; kn keys fun _=>kn lines fun _=>ai (bokr 1 eStr ([]:List Za) fun _=>rfl) (ai (AppL.mk eStr ([]:List Za) keys (Imp.refl (.l 1 eStr ([]:List Za))) ir (fun y=>⟨rfl,fun e he=>by simp only [eStr,Qr,Rd,Tu] at he; rcases he with rfl <;> exact ⟨_,rfl⟩⟩):AppL (.l 1 eStr ([]:List Za)) (.l 1 eStr keys) 1 (.l 1 eStr (([]:List Za)++keys))) (ai (uu16:(([]:List Za)++keys).length*16<=140737488355328) (kn lines fun _=>kn (([]:List Za)++keys) fun _=>ai (en19_0 keys lines (by refine ⟨?_,?_⟩ <;> first | omega | (simp only [lens,ib] at*<;> omega) | omega | (simp only [Gz,Gk,Sb,Qn,Tp,Gl,Rc,Tt,Sp,Qx,Q6,Q4,Rw] at *; omega))) (fun (i0:Nat×(List Za×Int)) (hi0:lJ19_0 keys lines i0)=>(fun (m0:Nat) (out:List Za) (i40:Int) (hh0:lH19_0 keys lines i0 m0 out i40)=>have hI0:=hh0.1; have hl0:=hh0.2.1; have _:=hh0.2.2.1; have _:=hh0.2.2.2; ifd (i40<(lines.length:Int)) (fun h2 _=>ai (uu3:ib i40 lines) (kc26 (lines.getD i40.toNat default) uu74 (kc38 out (F26 (lines.getD i40.toNat default)) (ifb (!(F38 out (F26 (lines.getD i40.toNat default)))) (fun h3=>ai (uu3:ib i40 lines) (kc26 (lines.getD i40.toNat default) uu74 (ai (appr 1 eStr out [(F26 (lines.getD i40.toNat default))] fun _=>rfl) (ai (uu16:(out++[(F26 (lines.getD i40.toNat default))]).length*16<=140737488355328) (ai (iok (i40+1) uu3) (bk19_0 keys lines i0 m0 (out++[(F26 (lines.getD i40.toNat default))]) (i40+1) hl0 (runL_next hI0 (condT h2 (condT h3 rfl))) uu54)))))) (fun h3=>ai (iok (i40+1) uu3) (bk19_0 keys lines i0 m0 out (i40+1) hl0 (runL_next hI0 (condT h2 (condF h3 rfl))) uu54)))))) (fun h2 _=>have hD0_4:lX19_0 keys lines=Lp.done (out,i40):=runL_done hI0 (condF h2 rfl); fi19 keys lines out (finD hD0_4 rfl))) (i0.1-1) i0.2.1 i0.2.2 (un19_0 keys lines i0 hi0)))))) uu2
def F20 (b:Za) (m:Za) (t:Za):Za×Bool :=
 bif (m.toList==b.toList) then (t,true) else (bif (bif (t.toList==b.toList) then true else (t.toList==m.toList)) then (m,true) else (Zc,false))
theorem fi20 (b:Za) (m:Za) (t:Za) (r:Za×Bool) (hF:r=(F20 b m t)):((.string r.1:Value)=.string (F20 b m t).1)/\((.bool r.2:Value)=.bool (F20 b m t).2)/\True:=by cases hF; exact ⟨rfl,rfl,trivial⟩
def S20 (b:Za) (m:Za) (t:Za):Spec:=⟨[.r (.c (.v (.string b))),.r (.c (.v (.string m))),.r (.c (.v (.string t)))],.tu [.v (.string (F20 b m t).1),.v (.bool (F20 b m t).2)],True⟩
theorem ok20 (b:Za) (m:Za) (t:Za):(S20 b m t).ok Tryz.prog 20 :=
 fnG_ok mixed (fn:=Tryz.f20) (ct:=.seq .no (.seq (.blk (.seq .no (.cond (.seq .no .no) (.seq .no (.cond (.seq .no .no) .no))))) (.seq .no .no))) Tryz.func20 (fun (_:True)=>ifb (m.toList==b.toList) (fun h1=>fi20 b m t (t,true) (condT h1 rfl)) (fun h1=>ifb (bif (t.toList==b.toList) then true else (t.toList==m.toList)) (fun h2=>fi20 b m t (m,true) (condF h1 (condT h2 rfl))) (fun h2=>have _:=(orF1 h2); have _:=(orF2 h2); fi20 b m t (Zc,false) (condF h1 (condF h2 rfl))))) uu2
theorem keys_len (keys lines:List Za):(F19 keys lines).length<=keys.length+lines.length:=by
 unfold F19
 have h:=runL_rule (step:=F19_s0 keys lines) (fun (k:Nat) (s:List Za)=>(s,(k:Int))) lines.length (fun k s=>s.length<=keys.length+k) (fun _=>False)
  (fun k s hk hs=>.inl (by
   simp only [F19_s0,ltD hk,Qc,nn]
   cases F38 s (F26 (lines.getD k default))
   ·exact ⟨_,rfl,by rw [Q6,List.length_singleton]; omega⟩
   ·exact ⟨_,rfl,by omega⟩))
  (fun s hs=>by simp only [F19_s0,geD,Qh]) lines.length 0 (([]:List Za)++keys) uu0 uu18 (Int.toNat ((lines.length:Int)-0)+1) uu0
 rcases h with ⟨s',e1,h1⟩ | ⟨_,_,hr⟩
 ·rw [show ((([]:List Za)++keys,(0:Int)))=((([]:List Za)++keys),((0:Nat):Int)) from rfl,e1]
  exact h1
 ·exact hr.elim
theorem neat3_len {a b c:List Za} (h:(bif (bif (F18 a != 0) then true else (F18 b != 0)) then true else (F18 c != 0))=false):a.length<=16/\b.length<=16/\c.length<=16:=by
 cases h1:(F18 a != 0) with
 | true=>rw [h1] at h; cases h
 | false =>
  rw [h1,Qh] at h
  cases h2:(F18 b != 0) with
  | true=>rw [h2] at h; cases h
  | false =>
   rw [h2,Qh] at h
   exact ⟨neat_len a (by simpa using h1),neat_len b (by simpa using h2),neat_len c (by simpa using h)⟩
theorem one_sz {b m t:Za} {n:Nat} (hm:m.size<=n) (ht:t.size<=n):(F20 b m t).1.size<=n:=by
 unfold F20
 cases (m.toList==b.toList)
 ·cases (bif (t.toList==b.toList) then true else (t.toList==m.toList))
  ·exact Rj _
  ·exact hm
 ·exact ht
theorem kg18 {K_:Prop} (c_ b_:Bool) (lines:List Za) (p_:c_=b_->(∀ k:Nat,(lines.getD k default).size<=1048576)) (k_:K_):(c_=b_->(∀ k:Nat,(lines.getD k default).size<=1048576))/\(c_=b_->Imp (.l 1 eStr lines) (.l 1 eStr lines))/\K_:=⟨p_,fun _=>Imp.refl _,k_⟩
theorem kc19l (keys:List Za) (lines:List Za) {K_:Prop} (p0_:keys.length<=1000) (p1_:lines.length<=1000) (p2_:∀ k:Nat,(lines.getD k default).size<=1048576) (k_:((F19 keys lines).length<=keys.length+lines.length)->K_):(keys.length<=1000/\lines.length<=1000/\(∀ k:Nat,(lines.getD k default).size<=1048576))/\(Imp (.l 1 eStr keys) (.l 1 eStr keys))/\(Imp (.l 1 eStr lines) (.l 1 eStr lines))/\K_:=⟨⟨p0_,p1_,p2_⟩,Imp.refl _,Imp.refl _,k_ (keys_len keys lines)⟩
abbrev kh19l (keys:List Za) (lines:List Za):Hint true Tryz.prog:=.call 19 (S19 keys lines) (ok19 keys lines) none
theorem kc21 (lines:List Za) (key:Za) {K_:Prop} (p0_:∀ k:Nat,(lines.getD k default).size<=1048576) (k_:K_):(∀ k:Nat,(lines.getD k default).size<=1048576)/\(Imp (.l 1 eStr lines) (.l 1 eStr lines))/\(Imp (.v (.string key)) (.v (.string key)))/\K_:=⟨p0_,Imp.refl _,Imp.refl _,k_⟩
abbrev kh21 (lines:List Za) (key:Za):Hint true Tryz.prog:=.call 21 (S21 lines key) (ok21 lines key) none
theorem kc20 (b:Za) (m:Za) (t:Za) {K_:Prop} (k_:K_):(True)/\(Imp (.v (.string b)) (.v (.string b)))/\(Imp (.v (.string m)) (.v (.string m)))/\(Imp (.v (.string t)) (.v (.string t)))/\K_:=⟨trivial,Imp.refl _,Imp.refl _,Imp.refl _,k_⟩
abbrev kh20 (b:Za) (m:Za) (t:Za):Hint true Tryz.prog:=.call 20 (S20 b m t) (ok20 b m t) none
def F6_s0 (base:List Za) (mine:List Za) (theirs:List Za):(List Za×Int)->Lp (List Za×Int) (List Za×Int):=fun (out,i40) =>
 bif (decide (i40<((F19 (F19 (F19 ([]:List Za) base) mine) theirs).length:Int))) then (bif (!(F20 (F21 base ((F19 (F19 (F19 ([]:List Za) base) mine) theirs).getD i40.toNat default)) (F21 mine ((F19 (F19 (F19 ([]:List Za) base) mine) theirs).getD i40.toNat default)) (F21 theirs ((F19 (F19 (F19 ([]:List Za) base) mine) theirs).getD i40.toNat default))).2) then (.ret (([]:List Za),2)) else (bif (!((F20 (F21 base ((F19 (F19 (F19 ([]:List Za) base) mine) theirs).getD i40.toNat default)) (F21 mine ((F19 (F19 (F19 ([]:List Za) base) mine) theirs).getD i40.toNat default)) (F21 theirs ((F19 (F19 (F19 ([]:List Za) base) mine) theirs).getD i40.toNat default))).1.toList==Zc.toList)) then (.next ((F22 out (F20 (F21 base ((F19 (F19 (F19 ([]:List Za) base) mine) theirs).getD i40.toNat default)) (F21 mine ((F19 (F19 (F19 ([]:List Za) base) mine) theirs).getD i40.toNat default)) (F21 theirs ((F19 (F19 (F19 ([]:List Za) base) mine) theirs).getD i40.toNat default))).1),(i40+1))) else (.next (out,(i40+1))))) else (.done (out,i40))
def F6 (base:List Za) (mine:List Za) (theirs:List Za):List Za×Int :=
 bif (bif (bif ((F18 base) != 0) then true else ((F18 mine) != 0)) then true else ((F18 theirs) != 0)) then (([]:List Za),1) else ((runL (F6_s0 base mine theirs) ((((F19 (F19 (F19 ([]:List Za) base) mine) theirs).length:Int)-0).toNat+1) (([]:List Za),0)).fin (fun r=>r) (fun (out,i40)=>bif (decide ((out.length:Int)>16)) then (([]:List Za),3) else (out,0)))
abbrev lN6_0 (base:List Za) (mine:List Za) (theirs:List Za):Nat×(List Za×Int):=(((((F19 (F19 (F19 ([]:List Za) base) mine) theirs).length:Int)-0).toNat+1),(([]:List Za),0))
abbrev lI6_0 (base:List Za) (mine:List Za) (theirs:List Za) (m39:Nat) (out:List Za) (i40:Int):Prop:=Int.toNat (((F19 (F19 (F19 ([]:List Za) base) mine) theirs).length:Int)-i40)<m39/\(out.length:Int)<=i40/\(∀ k:Nat,(out.getD k default).size<=1048576)/\(0:Int)<=i40
abbrev lX6_0 (base:List Za) (mine:List Za) (theirs:List Za):Lp (List Za×Int) (List Za×Int):=LpX (F6_s0 base mine theirs) (lN6_0 base mine theirs)
abbrev lJ6_0 (base:List Za) (mine:List Za) (theirs:List Za) (i:Nat×(List Za×Int)):Prop:=LpJ (F6_s0 base mine theirs) (lN6_0 base mine theirs) i (lI6_0 base mine theirs i.1 i.2.1 i.2.2)
abbrev lH6_0 (base:List Za) (mine:List Za) (theirs:List Za) (i:Nat×(List Za×Int)) (m39:Nat) (out:List Za) (i40:Int):Prop:=LpH (F6_s0 base mine theirs) (lN6_0 base mine theirs) i m39 (out,i40) (lI6_0 base mine theirs (m39+1) out i40)
abbrev lE6_0 (base:List Za) (mine:List Za) (theirs:List Za) (out:List Za) (i40:Int) (out_:List Za) (i40_:Int) (K39:Prop):Prop:=((.int .i64 i40:Value)=.int .i64 i40_)/\(Im (.l 1 eStr base))/\(Im (.l 1 eStr mine))/\(Im (.l 1 eStr theirs))/\(Im (.l 1 eStr (F19 (F19 (F19 ([]:List Za) base) mine) theirs)))/\(Imp (.l 1 eStr out) (.l 1 eStr out_))/\K39
theorem un6_0 (base:List Za) (mine:List Za) (theirs:List Za) (i:Nat×(List Za×Int)) (h:lJ6_0 base mine theirs i):lH6_0 base mine theirs i (i.1-1) i.2.1 i.2.2:=⟨hd1 h.1 h.2.1,hd3 h.2.1,hd2 h.2.1,h.2.2⟩
theorem bk6_0 (base:List Za) (mine:List Za) (theirs:List Za) (i:Nat×(List Za×Int)) (m39:Nat) (out:List Za) (i40:Int) (hl:m39<i.1) (e:runL (F6_s0 base mine theirs) m39 (out,i40)=lX6_0 base mine theirs) (h:lI6_0 base mine theirs m39 out i40):∃ j:Nat×(List Za×Int),lE6_0 base mine theirs out i40 j.2.1 j.2.2 (lJ6_0 base mine theirs j/\j.1<i.1):=⟨(m39,(out,i40)),rfl,Imp.refl _,Imp.refl _,Imp.refl _,Imp.refl _,Imp.refl _,⟨e,h⟩,hl⟩
theorem en6_0 (base:List Za) (mine:List Za) (theirs:List Za) (h:(([]:List Za).length:Int)<=0/\(∀ k:Nat,(([]:List Za).getD k default).size<=1048576)/\(0:Int)<=0):lE6_0 base mine theirs ([]:List Za) 0 ([]:List Za) 0 (lJ6_0 base mine theirs (lN6_0 base mine theirs)):=⟨rfl,Imp.refl _,Imp.refl _,Imp.refl _,Imp.refl _,Imp.refl _,rfl,Qt _,h⟩
theorem fi6 (base:List Za) (mine:List Za) (theirs:List Za) (r:List Za×Int) (hF:r=(F6 base mine theirs)):(Imp (.l 1 eStr r.1) (.l 1 eStr (F6 base mine theirs).1))/\((.int .i64 r.2:Value)=.int .i64 (F6 base mine theirs).2)/\True:=by cases hF; exact ⟨Imp.refl _,rfl,trivial⟩
def S6 (base:List Za) (mine:List Za) (theirs:List Za):Spec:=⟨[.r (.c (.l 1 eStr base)),.r (.c (.l 1 eStr mine)),.r (.c (.l 1 eStr theirs))],.tu [.ow (.l 1 eStr (F6 base mine theirs).1),.v (vI (F6 base mine theirs).2)],base.length<=1048576/\mine.length<=1048576/\theirs.length<=1048576/\(∀ k:Nat,(base.getD k default).size<=1048576)/\(∀ k:Nat,(mine.getD k default).size<=1048576)/\(∀ k:Nat,(theirs.getD k default).size<=1048576)⟩
theorem ok6 (base:List Za) (mine:List Za) (theirs:List Za):(S6 base mine theirs).ok Tryz.prog 6 :=
 fnG_ok mixed (fn:=Tryz.f6) (ct:=.seqk [(0,0),(1,0),(2,0)] .no (.seq (.seq (.reg [(1,kh18 base),(5,kh18 mine),(10,kh18 theirs)]) (.cond (.seq (.reg [(0,.dat (.l 1 eStr ([]:List Za)))]) .no) .no)) (.seq (.reg [(0,.dat (.l 1 eStr ([]:List Za))),(2,kh19l ([]:List Za) base),(4,kh19l (F19 ([]:List Za) base) mine),(6,kh19l (F19 (F19 ([]:List Za) base) mine) theirs)]) (.seq (.reg [(0,.dat (.l 1 eStr ([]:List Za)))]) (.seq (.seqk [(0,0),(1,0),(2,0),(8,0),(9,0)] .no (.blk (.loop (ι:=Nat×(List Za×Int)) (fun i=>(fun (out:List Za) (i40:Int)=>(⟨[(0,some (.h 0 0)),(1,some (.h 1 0)),(2,some (.h 2 0)),(8,some (.h 3 0)),(9,some (.h 4 0)),(10,some (.v (vI i40)))],[(0,some (.shr none (.l 1 eStr base))),(1,some (.shr none (.l 1 eStr mine))),(2,some (.shr none (.l 1 eStr theirs))),(3,some (.own 3 (.l 1 eStr (F19 (F19 (F19 ([]:List Za) base) mine) theirs)))),(4,some (.own 4 (.l 1 eStr out)))],5⟩:St)) i.2.1 i.2.2) (lJ6_0 base mine theirs) (fun i=>i.1) (lN6_0 base mine theirs) (fun i=>(fun (out:List Za) (i40:Int)=>(.seq (.seq .no (.cond .no .no)) (.seq (.blk (.seq (.reg [(5,kh21 base ((F19 (F19 (F19 ([]:List Za) base) mine) theirs).getD i40.toNat default)),(11,kh21 mine ((F19 (F19 (F19 ([]:List Za) base) mine) theirs).getD i40.toNat default)),(17,kh21 theirs ((F19 (F19 (F19 ([]:List Za) base) mine) theirs).getD i40.toNat default)),(18,kh20 (F21 base ((F19 (F19 (F19 ([]:List Za) base) mine) theirs).getD i40.toNat default)) (F21 mine ((F19 (F19 (F19 ([]:List Za) base) mine) theirs).getD i40.toNat default)) (F21 theirs ((F19 (F19 (F19 ([]:List Za) base) mine) theirs).getD i40.toNat default)))]) (.seq (.seq .no (.cond (.seq (.reg [(0,.dat (.l 1 eStr ([]:List Za)))]) .no) .no)) (.seq .no (.cond (.reg [(2,kh22 out (F20 (F21 base ((F19 (F19 (F19 ([]:List Za) base) mine) theirs).getD i40.toNat default)) (F21 mine ((F19 (F19 (F19 ([]:List Za) base) mine) theirs).getD i40.toNat default)) (F21 theirs ((F19 (F19 (F19 ([]:List Za) base) mine) theirs).getD i40.toNat default))).1)]) .no))))) (.reg [(1,.bnd)])))) i.2.1 i.2.2)))) (.seq (.seq .no (.cond (.seq (.reg [(0,.dat (.l 1 eStr ([]:List Za)))]) .no) .no)) (.seq .no .no))))))) Tryz.func6 (fun (hp:base.length<=1048576/\mine.length<=1048576/\theirs.length<=1048576/\(∀ k:Nat,(base.getD k default).size<=1048576)/\(∀ k:Nat,(mine.getD k default).size<=1048576)/\(∀ k:Nat,(theirs.getD k default).size<=1048576))=>have hpre0:=hp.1; have hpre1:=hp.2.1; have hpre2:=hp.2.2.1; have hpre3:=hp.2.2.2.1; have hpre4:=hp.2.2.2.2.1; have hpre5:=hp.2.2.2.2.2; kn base fun _=>kn mine fun _=>kn theirs fun _=>kc18 base uu13 (kg18 ((F18 base) != 0) false mine (fun k1=>have _:=bneF k1; uu13) (kg18 (bif ((F18 base) != 0) then true else ((F18 mine) != 0)) false theirs (fun k2=>have _:=bneF (orF1 k2); have _:=bneF (orF2 k2); uu13) (ifb (bif (bif ((F18 base) != 0) then true else ((F18 mine) != 0)) then true else ((F18 theirs) != 0)) (fun h3=>ai (bokr 1 eStr ([]:List Za) fun _=>rfl) (fi6 base mine theirs (([]:List Za),1) (condT h3 rfl))) (fun h3=>have _:=bneF (orF1 (orF1 h3)); have _:=bneF (orF2 (orF1 h3)); have _:=bneF (orF2 h3); ai (bokr 1 eStr ([]:List Za) fun _=>rfl) (kc19l ([]:List Za) base uu13 uu13 uu13 (fun gv4=>kc19l (F19 ([]:List Za) base) mine uu13 uu13 uu13 (fun gv5=>kc19l (F19 (F19 ([]:List Za) base) mine) theirs uu13 uu13 uu13 (fun gv6=>ai (bokr 1 eStr ([]:List Za) fun _=>rfl) (kn base fun _=>kn mine fun _=>kn theirs fun _=>kn (F19 (F19 (F19 ([]:List Za) base) mine) theirs) fun _=>kn ([]:List Za) fun _=>ai (en6_0 base mine theirs (by refine ⟨?_,?_,?_⟩ <;> first | omega | (simp only [lens,ib] at*<;> omega) | exact sz_nil | assumption | exact put_szN (by assumption) (one_sz (of_sz _ _ (by assumption)) (of_sz _ _ (by assumption))) | (simp only [put_len] at *; omega))) (fun (i0:Nat×(List Za×Int)) (hi0:lJ6_0 base mine theirs i0)=>(fun (m0:Nat) (out:List Za) (i40:Int) (hh0:lH6_0 base mine theirs i0 m0 out i40)=>have hI0:=hh0.1; have hl0:=hh0.2.1; have _:=hh0.2.2.1; have _:=hh0.2.2.2.1; have _:=hh0.2.2.2.2.1; have _:=hh0.2.2.2.2.2; ifd (i40<((F19 (F19 (F19 ([]:List Za) base) mine) theirs).length:Int)) (fun h8 _=>ai (uu0:ib i40 (F19 (F19 (F19 ([]:List Za) base) mine) theirs)) (kc21 base ((F19 (F19 (F19 ([]:List Za) base) mine) theirs).getD i40.toNat default) uu13 (ai (uu0:ib i40 (F19 (F19 (F19 ([]:List Za) base) mine) theirs)) (kc21 mine ((F19 (F19 (F19 ([]:List Za) base) mine) theirs).getD i40.toNat default) uu13 (ai (uu0:ib i40 (F19 (F19 (F19 ([]:List Za) base) mine) theirs)) (kc21 theirs ((F19 (F19 (F19 ([]:List Za) base) mine) theirs).getD i40.toNat default) uu13 (kc20 (F21 base ((F19 (F19 (F19 ([]:List Za) base) mine) theirs).getD i40.toNat default)) (F21 mine ((F19 (F19 (F19 ([]:List Za) base) mine) theirs).getD i40.toNat default)) (F21 theirs ((F19 (F19 (F19 ([]:List Za) base) mine) theirs).getD i40.toNat default)) (ifb (!(F20 (F21 base ((F19 (F19 (F19 ([]:List Za) base) mine) theirs).getD i40.toNat default)) (F21 mine ((F19 (F19 (F19 ([]:List Za) base) mine) theirs).getD i40.toNat default)) (F21 theirs ((F19 (F19 (F19 ([]:List Za) base) mine) theirs).getD i40.toNat default))).2) (fun h9=>have _:=(notET h9); ai (bokr 1 eStr ([]:List Za) fun _=>rfl) (fi6 base mine theirs (([]:List Za),2) (condF h3 (finR (runL_ret hI0 (condT h8 (condT h9 rfl))) rfl)))) (fun h9=>have _:=(notEF h9); ifb (!((F20 (F21 base ((F19 (F19 (F19 ([]:List Za) base) mine) theirs).getD i40.toNat default)) (F21 mine ((F19 (F19 (F19 ([]:List Za) base) mine) theirs).getD i40.toNat default)) (F21 theirs ((F19 (F19 (F19 ([]:List Za) base) mine) theirs).getD i40.toNat default))).1.toList==Zc.toList)) (fun h10=>kc22 out (F20 (F21 base ((F19 (F19 (F19 ([]:List Za) base) mine) theirs).getD i40.toNat default)) (F21 mine ((F19 (F19 (F19 ([]:List Za) base) mine) theirs).getD i40.toNat default)) (F21 theirs ((F19 (F19 (F19 ([]:List Za) base) mine) theirs).getD i40.toNat default))).1 uu13 uu13 uu13 uu13 (fun gv11 gv12=>ai (iok (i40+1) uu0) (bk6_0 base mine theirs i0 m0 (F22 out (F20 (F21 base ((F19 (F19 (F19 ([]:List Za) base) mine) theirs).getD i40.toNat default)) (F21 mine ((F19 (F19 (F19 ([]:List Za) base) mine) theirs).getD i40.toNat default)) (F21 theirs ((F19 (F19 (F19 ([]:List Za) base) mine) theirs).getD i40.toNat default))).1) (i40+1) hl0 (runL_next hI0 (condT h8 (condF h9 (condT h10 rfl)))) uu75))) (fun h10=>ai (iok (i40+1) uu0) (bk6_0 base mine theirs i0 m0 out (i40+1) hl0 (runL_next hI0 (condT h8 (condF h9 (condF h10 rfl)))) uu75))))))))))) (fun h8 _=>have hD0_13:lX6_0 base mine theirs=Lp.done (out,i40):=runL_done hI0 (condF h8 rfl); ifd ((out.length:Int)>16) (fun h14 _=>ai (bokr 1 eStr ([]:List Za) fun _=>rfl) (fi6 base mine theirs (([]:List Za),3) (condF h3 (finD hD0_13 (condT h14 rfl))))) (fun h14 _=>fi6 base mine theirs (out,0) (condF h3 (finD hD0_13 (condF h14 rfl)))))) (i0.1-1) i0.2.1 i0.2.2 (un6_0 base mine theirs i0 hi0)))))))))))) uu2
theorem anyF_none {p:Nat->Bool}:∀ (m i:Nat),anyF p i m=false->∀ k,i<=k->k<i+m->p k=false
 | 0,i,_,k,h1,h2=>by omega
 | m+1,i,h,k,h1,h2=>by
  rw [anyF,Tp] at h
  rcases Nat.eq_or_lt_of_le h1 with rfl | hlt
  ·exact h.1
  ·exact anyF_none m (i+1) h.2 k hlt uu0
theorem neat_keys (lines:List Za) (h:F18 lines=0):(lines.map F26).Nodup:=by
 have hk:=(nt_facts lines h).2
 unfold F18 at h
 cases h16:decide ((lines.length:Int)>16) with
 | true=>rw [h16,Qc] at h; exact absurd h uu1
 | false =>
 rw [h16,Qh] at h
 have h0:=fun (f:Int->Int) (g:Int->Int) (y:Int) (hg:∀ i,g i=y)=>anyL lines (fun l=>!F42 l) (2:Int) (F18_s0 lines) (fun i hi=>by
  simp only [F18_s0,ltD hi,Qc,nn,getD_map _ _ _ hi,key_empty]
  rfl) uu35 f g y hg
 have hany:(lines.any fun l=>!F42 l)=false:=by
  rw [R9]
  intro hc
  obtain ⟨x,hx,hp⟩:=Rs.1 hc
  rw [hk x hx] at hp
  cases hp
 rw [h0 (fun r=>r) _ _ (fun _=>rfl),hany,Qh] at h
 have h3:(runL (F18_s2 lines) ((Int.toNat ((lines.length:Int)-0))+1) 0).fin (fun r=>r) (fun i42=>0)=0:=by
  rcases Nat.eq_zero_or_pos lines.length with hz | hz
  ·have:lines=[]:=Rq hz
   subst this; rfl
  ·have h1:=fun (y:Int)=>any_loop (F18_s1 lines) lines.length (fun k=>(!(Op.bytesLess (lines.getD (k-1) default).toList (lines.getD k default).toList))) (3:Int) (fun r=>r) y (fun k hk=>by
    simp only [F18_s1,ltD hk,Qc,nn]
    rw [show Int.toNat ((k:Int)-1)=k-1 by omega]; rfl) uu53 (lines.length-1) 1 uu0 (Int.toNat ((lines.length:Int)-1)+1) uu0
   have h2:=h1 ((runL (F18_s2 lines) ((Int.toNat ((lines.length:Int)-0))+1) 0).fin (fun r=>r) (fun i42=>0))
   have h3:=h2.symm.trans h
   cases ha:anyF (fun k=>(!(Op.bytesLess (lines.getD (k-1) default).toList (lines.getD k default).toList))) 1 (lines.length-1) with
   | true=>rw [ha,Qc] at h3; exact absurd h3 uu1
   | false=>rw [ha,Qh] at h3; exact h3
 have h4:=any_loop (F18_s2 lines) lines.length (fun k=>decide ((lines.map F26).getD k default∈(lines.map F26).take k)) (4:Int) (fun r=>r) (0:Int) (fun i hi=>by
  simp only [F18_s2,ltD hi,Qc,nn,specHas_mem]; rfl) uu50 lines.length 0 uu0 (Int.toNat ((lines.length:Int)-0)+1) uu0
 have h5:=h4.symm.trans h3
 cases hb:anyF (fun k=>decide ((lines.map F26).getD k default∈(lines.map F26).take k)) 0 lines.length with
 | true=>rw [hb,Qc] at h5; exact absurd h5 uu1
 | false =>
  refine Sr.2 fun i j hi hj hij e=>?_
  have hj':j<lines.length:=by simpa using hj
  have:=Qw (anyF_none _ _ hb j (Rj _) uu0)
  refine this ?_
  rw [Qd,Qe hj,Rv,<- e]
  exact List.mem_take_iff_getElem.2 ⟨i,by omega,rfl⟩
theorem map_inj {α β:Type} {f:α->β}:∀ {xs:List α},(xs.map f).Nodup->∀ x∈xs,∀ y∈xs,f x=f y->x=y
 | [],_,x,hx,_,_,_=>by cases hx
 | a :: xs,h,x,hx,y,hy,e=>by
  rw [Rb,Qy] at h
  rcases Qr.1 hx with rfl | hx
  ·rcases Qr.1 hy with rfl | hy
   ·rfl
   ·exact absurd (R7.2 ⟨y,hy,e.symm⟩) h.1
  ·rcases Qr.1 hy with hy | hy
   ·exact absurd (R7.2 ⟨x,hx,e.trans (Qg f hy)⟩) h.1
   ·exact map_inj h.2 x hx y hy e
theorem foldE_loop {α σ ρ τ ω:Type} [Inhabited α] (xs:List α) (bad:α->Bool) (rv:ρ) (upd:σ->α->σ) (emb:σ->Int->ω) (step:ω->Lp ω ρ)
  (h1:∀ (i:Nat) (s:σ),i<xs.length->step (emb s (i:Int))=bif bad (xs.getD i default) then .ret rv else .next (emb (upd s (xs.getD i default)) ((i+1:Nat):Int))) (h2:∀ s:σ,step (emb s (xs.length:Int))=.done (emb s (xs.length:Int)))
  (f:ρ->τ) (g:ω->τ):∀ (m i:Nat) (s:σ),i+m=xs.length->∀ fuel,m<fuel->(runL step fuel (emb s (i:Int))).fin f g=bif (xs.drop i).any bad then f rv else g (emb ((xs.drop i).foldl upd s) (xs.length:Int))
 | m,i,_,_,0,hf=>absurd hf (Sd _)
 | 0,i,s,h,fuel+1,hf=>by
  obtain rfl:i=xs.length:=by omega
  rw [runL_d _ (h2 s),Q8 (Qp _)]; rfl
 | m+1,i,s,h,fuel+1,hf=>by
  have hd:xs.drop i=xs.getD i default :: xs.drop (i+1):=by
   rw [Rk (show i<xs.length by omega),Qd,Qe (show i<xs.length by omega)]; rfl
  have h1':=h1 i s uu0
  rw [hd,Gi,So]
  cases hb:bad (xs.getD i default) with
  | true=>rw [hb,Qc] at h1'; rw [runL_r _ h1']; rfl
  | false=>rw [hb,Qh] at h1'; rw [runL_n _ h1',foldE_loop xs bad rv upd emb step h1 h2 f g m (i+1) _ uu0 fuel uu0,Ha]
theorem foldE_loop0 {α σ ρ τ ω:Type} [Inhabited α] (xs:List α) (bad:α->Bool) (rv:ρ) (upd:σ->α->σ) (emb:σ->Int->ω) (step:ω->Lp ω ρ)
  (h1:∀ (i:Nat) (s:σ),i<xs.length->step (emb s (i:Int))=bif bad (xs.getD i default) then .ret rv else .next (emb (upd s (xs.getD i default)) ((i+1:Nat):Int))) (h2:∀ s:σ,step (emb s (xs.length:Int))=.done (emb s (xs.length:Int)))
  (f:ρ->τ) (g:ω->τ) (s:σ):(runL step (((xs.length:Int)-0).toNat+1) (emb s 0)).fin f g=bif xs.any bad then f rv else g (emb (xs.foldl upd s) (xs.length:Int)):=by
 have:=foldE_loop xs bad rv upd emb step h1 h2 f g xs.length 0 s uu0 (Int.toNat ((xs.length:Int)-0)+1) uu0
 rw [R8] at this
 exact this
theorem byKey_eq (lines:List Za):F14 lines=lines.foldl (fun (m:ML Za) l=>putM m (F26 l) l) []:=by
 unfold F14
 exact fold_loop0 lines (fun (m:ML Za) l=>putM m (F26 l) l) (fun m i=>(i,m)) (F14_s0 lines) (fun i s hi=>by
  simp only [F14_s0,ltD hi,Qc,nn,key_same]; rfl) (fun s=>by simp only [F14_s0,geD,Qh]) (fun r=>r) (fun (x:Int×ML Za)=>x.2) []
def mgKeys (a b c:List Za):List Za:=((((a++b)++c).map F26).foldl insK [])
theorem implKeys (a b c:List Za):∃ ms:ML Bool,F5_j0 a b c=Lp.done ms/\ms.map (·.1)=mgKeys a b c:=by
 refine ⟨((a++b)++c).foldl (fun (m:ML Bool) l=>putM m (F26 l) true) [],?_,?_⟩
 ·exact fold_loop0 ((a++b)++c) (fun (m:ML Bool) l=>putM m (F26 l) true) (fun m i=>(i,m)) (F5_s0 a b c) (fun i s hi=>by
   simp only [F5_s0,ltD hi,Qc,nn,key_same]; rfl) (fun s=>by simp only [F5_s0,geD,Qh]) Lp.ret (fun (x:Int×ML Bool)=>Lp.done x.2) ([]:ML Bool)
 ·exact foldM_keys F26 (fun _=>true) _ []
theorem specKeys1 (keys lines:List Za):F19 keys lines=(lines.map F26).foldl insK keys:=by
 unfold F19
 rw [List.foldl_map]
 exact fold_loop0 lines (fun (s:List Za) l=>insK s (F26 l)) (fun s i=>(s,i)) (F19_s0 keys lines) (fun i s hi=>by
  simp only [F19_s0,ltD hi,Qc,nn,specHas_mem]
  unfold insK
  by_cases hm:F26 (lines.getD i default)∈s
  ·rw [Qs hm,if_pos hm]; rfl
  ·rw [Qq hm,if_neg hm]; rfl) (fun s=>by simp only [F19_s0,geD,Qh]) (fun r=>r) (fun (x:List Za×Int)=>x.1) ([]++keys)
theorem specKeys (a b c:List Za):F19 (F19 (F19 [] a) b) c=mgKeys a b c:=by
 rw [specKeys1,specKeys1,specKeys1]
 unfold mgKeys
 rw [Td,Td,List.foldl_append,List.foldl_append]
theorem getM_putM {α:Type}:∀ (m:ML α) (s k:Za) (x:α),getM (putM m s x) k=if s=k then some x else getM m k
 | [],s,k,x=>rfl
 | p :: m,s,k,x=>by
  rw [putM]
  by_cases h:p.1=s
  ·rw [if_pos h,getM,getM,h]
   by_cases h2:s=k
   ·rw [if_pos h2,if_pos h2]
   ·rw [if_neg h2,if_neg h2,if_neg h2]
  ·rw [if_neg h,getM,getM,getM_putM m s k x]
   by_cases h2:p.1=k
   ·rw [if_pos h2,if_pos h2,if_neg (fun e=>h (h2.trans e.symm))]
   ·rw [if_neg h2,if_neg h2]
theorem getM_fold (f:Za->Za) (k:Za):∀ (ls:List Za) (m:ML Za),(ls.map f).Nodup->getM (ls.foldl (fun m l=>putM m (f l) l) m) k=(ls.find? fun l=>decide (f l=k)).or (getM m k)
 | [],m,_=>rfl
 | l :: ls,m,h=>by
  rw [Rb,Qy] at h
  rw [So,getM_fold f k ls _ h.2,getM_putM,List.find?_cons]
  by_cases hk:f l=k
  ·rw [if_pos hk,Qs hk]
   have hn:ls.find? (fun l=>decide (f l=k))=none:=List.find?_eq_none.2 fun x hx hd=>by
    rw [Rc] at hd
    exact h.1 (hk ▸ hd ▸ R7.2 ⟨x,hx,rfl⟩)
   rw [hn]; rfl
  ·rw [if_neg hk,Qq hk]
theorem idx_find (p:Za->Bool) (xs:List Za) (z:Za):(bif decide (idxI p xs<0) then z else xs.getD (idxI p xs).toNat default)=(xs.find? p).getD z:=by
 by_cases h:idxI p xs<0
 ·rw [Qs h,Qc]
  have h1:=first_none.1 (oix_neg.1 h)
  rw [List.find?_eq_none.2 fun x hx=>?_]
  ·rfl
  ·obtain ⟨i,hi,rfl⟩:=List.mem_iff_getElem.1 hx
   have:=h1 i hi
   rw [Qd,Qe hi] at this
   simpa using this
 ·rw [Qq h,Qh]
  have h1:=first_some.1 (oix_some h)
  have hlt:(idxI p xs).toNat<xs.length:=h1.1
  have hp:p (xs.getD (idxI p xs).toNat default)=true:=h1.2.1
  have hn:∀ j,j<(idxI p xs).toNat->p (xs.getD j default)=false:=h1.2.2
  have hs:xs.find? p=some (xs.getD (idxI p xs).toNat default):=by
   rw [List.find?_eq_some_iff_getElem]
   rw [Qd,Qe hlt] at hp ⊢
   refine ⟨hp,(idxI p xs).toNat,hlt,rfl,fun j hj=>?_⟩
   have:=hn j hj
   rw [Qd,Qe (Nat.lt_trans hj hlt)] at this
   simpa using this
  rw [hs]; rfl
theorem of_at (lines:List Za) (k:Za) (h:F18 lines=0):atM (F14 lines) k=F21 lines k:=by
 unfold atM
 rw [byKey_eq,getM_fold _ _ _ _ (neat_keys lines h)]
 unfold F21
 rw [key_idx,idx_find]
 have e:(fun l:Za=>(F26 l).toList==k.toList)=fun l=>decide (F26 l=k):=funext fun l=>beq_ba _ _
 rw [e]
 cases lines.find? (fun l=>decide (F26 l=k)) <;> rfl
theorem one_mg (B M T:ML Za) (k:Za):(!(F20 (atM B k) (atM M k) (atM T k)).2)=mgBad B M T k/\(mgBad B M T k=false->(F20 (atM B k) (atM M k) (atM T k)).1=mgLine B M T k):=by
 unfold F20 mgBad mgLine
 rw [beqTL,beqTL,beqTL]
 cases (atM M k==atM B k) <;> cases (atM T k==atM B k) <;> cases (atM T k==atM M k) <;> first | exact ⟨rfl,fun _=>rfl⟩ | exact ⟨rfl,fun h=>by cases h⟩
def LeB (xs:List Za):Prop:=xs.Pairwise fun a b=>ltB b a=false
theorem le_trB {a b c:Za} (h1:ltB b a=false) (h2:ltB c b=false):ltB c a=false:=by
 rw [R9,ne_eq,ltB_iff] at *
 exact List.not_lt.2 (List.le_trans (List.not_lt.1 h1) (List.not_lt.1 h2))
theorem le_anti {a b:Za} (h1:ltB b a=false) (h2:ltB a b=false):a=b:=by
 rcases ltB_tri a b with h | h | h
 ·rw [h2] at h; cases h
 ·exact h
 ·rw [h1] at h; cases h
theorem sortS_le (xs:List Za):LeB (sortS xs):=by
 unfold sortS LeB
 rw [List.pairwise_map]
 refine (List.pairwise_mergeSort (le:=fun x y:List UInt8=>decide (x<=y)) ?_ ?_ _).imp ?_
 ·intro a b c h1 h2
  simp only [Rc] at *
  exact List.le_trans h1 h2
 ·intro a b
  simp only [Sb,Rc]
  exact List.le_total a b
 ·intro a b h1
  rw [R9,ne_eq,ltB_iff]
  simp only [Rc] at h1
  exact List.not_lt.2 h1
theorem put_perm (lines:List Za) (line:Za):(F22 lines line).Perm (line :: lines):=by
 obtain ⟨k,_,e,_,_⟩:=put_eq lines line
 rw [e]
 refine List.perm_middle.trans ?_
 rw [Rz]
theorem put_le {lines:List Za} (line:Za) (h:LeB lines):LeB (F22 lines line):=by
 obtain ⟨k,hk,e,h1,h2⟩:=put_eq lines line
 rw [e]
 unfold LeB at *
 have h3:(lines.take k++lines.drop k).Pairwise fun a b=>ltB b a=false:=by rw [Rz]; exact h
 rw [List.pairwise_append] at h3
 have ht:∀ x∈lines.take k,ltB x line=true:=fun x hx=>by
  obtain ⟨i,hi,rfl⟩:=List.mem_iff_getElem.1 hx
  have hik:i<k:=by rw [R4] at hi; omega
  have hil:i<lines.length:=by omega
  have:=h1 i hik
  rw [Qd,Qe hil] at this
  simpa using this
 have hd:∀ x∈lines.drop k,ltB x line=false:=fun x hx=>by
  have hlt:k<lines.length:=by
   rcases T6 k lines.length with h | h
   ·exact h
   ·rw [Q8 h] at hx; cases hx
  have h0:=h2 hlt
  have hc:lines.drop k=lines.getD k default :: lines.drop (k+1):=by
   rw [Rk hlt,Qd,Qe hlt]; rfl
  have hp:=h3.2.1
  rw [hc] at hx hp
  rcases Qr.1 hx with rfl | hm
  ·exact h0
  ·exact le_trB h0 ((T1.1 hp).1 x hm)
 rw [List.pairwise_append]
 refine ⟨h3.1,T1.2 ⟨hd,h3.2.1⟩,fun a ha b hb=>?_⟩
 rcases Qr.1 hb with rfl | hm
 ·exact ltB_asymm (ht a ha)
 ·exact h3.2.2 a ha b hm
theorem puts_sort (ls:List Za):ls.foldl F22 []=sortS ls:=by
 have key:∀ (ls out:List Za),LeB out->(ls.foldl F22 out).Perm (ls++out)/\LeB (ls.foldl F22 out):=by
  intro ls
  induction ls with
  | nil=>exact fun out h=>⟨List.Perm.refl _,h⟩
  | cons l ls ih =>
   intro out h
   obtain ⟨h1,h2⟩:=ih (F22 out l) (put_le l h)
   exact ⟨h1.trans (((put_perm out l).append_left ls).trans List.perm_middle),h2⟩
 obtain ⟨h1,h2⟩:=key ls [] List.Pairwise.nil
 rw [Si] at h1
 exact List.Perm.eq_of_pairwise (le:=fun a b=>ltB b a=false) (fun a b _ _ k1 k2=>le_anti k1 k2) h2 (sortS_le ls) (h1.trans (sortS_perm ls).symm)
theorem merge_same (a b c:List Za):F5 a b c=F6 a b c:=by
 unfold F5 F6
 have e:∀ x:List Za,(!F13 x)=(F18 x != 0):=fun x=>by unfold F13; rw [neat_same]; rfl
 rw [e,e,e]
 cases hn:(bif (bif F18 a != 0 then true else F18 b != 0) then true else F18 c != 0) with
 | true=>rfl
 | false =>
 rw [Qh,Qh]
 obtain ⟨na,nb,nc⟩:F18 a=0/\F18 b=0/\F18 c=0:=by
  cases h1:(F18 a != 0) with
  | true=>rw [h1] at hn; cases hn
  | false =>
   rw [h1,Qh] at hn
   cases h2:(F18 b != 0) with
   | true=>rw [h2] at hn; cases hn
   | false =>
    rw [h2,Qh] at hn
    exact ⟨by simpa using h1,by simpa using h2,by simpa using hn⟩
 obtain ⟨ms,e1,e2⟩:=implKeys a b c
 rw [e1,Lp.fin]
 unfold F5_j1
 rw [e2]
 have hs:=foldE_loop0 (mgKeys a b c) (mgBad (F14 a) (F14 b) (F14 c)) (([]:List Za),(2:Int))
  (fun (s:List Za) k=>bif mgLine (F14 a) (F14 b) (F14 c) k==Zc then s else F22 s (mgLine (F14 a) (F14 b) (F14 c) k)) (fun s i=>(s,i)) (F6_s0 a b c) (fun i s hi=>by
   simp only [F6_s0,specKeys,ltD hi,Qc,nn]
   obtain ⟨o1,o2⟩:=one_mg (F14 a) (F14 b) (F14 c) ((mgKeys a b c).getD i default)
   rw [of_at a _ na,of_at b _ nb,of_at c _ nc] at o1 o2
   rw [o1]
   cases hb:mgBad (F14 a) (F14 b) (F14 c) ((mgKeys a b c).getD i default) with
   | true=>rfl
   | false =>
    rw [Qh,Qh,o2 hb,beqTL]
    cases (mgLine (F14 a) (F14 b) (F14 c) ((mgKeys a b c).getD i default)==Zc) <;> rfl) (fun s=>by simp only [F6_s0,specKeys,geD,Qh])
  (fun r=>r) (fun (x:List Za×Int)=>bif decide ((x.1.length:Int)>16) then (([]:List Za),(3:Int)) else (x.1,0)) ([]:List Za)
 rw [specKeys]
 refine Eq.trans ?_ hs.symm
 have hf:(mgKeys a b c).foldl (fun (s:List Za) k=>bif mgLine (F14 a) (F14 b) (F14 c) k==Zc then s else F22 s (mgLine (F14 a) (F14 b) (F14 c) k)) []=sortS (mgLines (F14 a) (F14 b) (F14 c) (mgKeys a b c)):=by
  rw [<- puts_sort]
  unfold mgLines
  rw [List.foldl_filter,List.foldl_map]
  refine Qg (fun f=>List.foldl f [] (mgKeys a b c)) (funext fun s=>funext fun k=>?_)
  cases (mgLine (F14 a) (F14 b) (F14 c) k==Zc) <;> rfl
 rw [hf]
 cases (mgKeys a b c).any (mgBad (F14 a) (F14 b) (F14 c)) <;> rfl
theorem fin_RM {σ ρ τ:Type} (step:σ->Lp σ ρ) (R:τ->Prop) (f:ρ->τ) (g:σ->τ) (hr:∀ s r,step s=.ret r->R (f r)) (hg:∀ s,R (g s)):∀ (M:Nat) (s:σ),R ((runL step M s).fin f g)
 | 0,s=>hg s
 | M+1,s=>by
  cases h:step s with
  | next s'=>rw [runL_n _ h]; exact fin_RM step R f g hr hg M s'
  | done s'=>rw [runL_d _ h]; exact hg s'
  | ret r=>rw [runL_r _ h]; exact hr s r h
theorem merge_lenS (a b c:List Za):(F6 a b c).1.length<=16:=by
 unfold F6
 cases (bif (bif F18 a != 0 then true else F18 b != 0) then true else F18 c != 0) with
 | true=>exact Rj _
 | false =>
  rw [Qh]
  refine fin_RM _ (fun x:List Za×Int=>x.1.length<=16) _ _ (fun s r h=>?_) (fun s=>?_) _ _
  ·obtain ⟨out,i⟩:=s
   simp only [F6_s0] at h
   revert h
   cases decide (i<_)
   ·intro h; cases h
   ·rw [Qc]
    cases (!(F20 _ _ _).2)
    ·rw [Qh]
     cases (!((F20 _ _ _).1.toList==_))
     ·intro h; cases h
     ·intro h; cases h
    ·intro h
     have:=Lp.ret.inj h
     rw [<- this]; exact Rj _
  ·obtain ⟨out,i⟩:=s
   show (bif decide ((out.length:Int)>16) then (([]:List Za),(3:Int)) else (out,0)).1.length<=16
   cases h:decide ((out.length:Int)>16) with
   | true=>exact Rj _
   | false =>
    have:=Qw h
    show out.length<=16
    omega
theorem merge_len (a b c:List Za):(F5 a b c).1.length<=16:=by
 rw [merge_same]; exact merge_lenS a b c
theorem anyF_nonB {p:Nat->Bool}:∀ (m i:Nat),(∀ k,i<=k->k<i+m->p k=false)->anyF p i m=false
 | 0,_,_=>rfl
 | m+1,i,h=>by rw [anyF,h i (Qp _) uu0,anyF_nonB m (i+1) fun k h1 h2=>h k uu0 uu0]; rfl
theorem neat_mk (lines:List Za) (hl:lines.length<=16) (hk:∀ l∈lines,F42 l=true) (hs:SortedB lines) (hn:(lines.map F26).Nodup):F18 lines=0:=by
 rcases Nat.eq_zero_or_pos lines.length with hz | hz
 ·have:lines=[]:=Rq hz
  subst this; rfl
 unfold F18
 rw [Qq (show ¬ (lines.length:Int)>16 by omega),Qh]
 have hany:(lines.any fun l=>!F42 l)=false:=by
  rw [R9]
  intro hc
  obtain ⟨x,hx,hp⟩:=Rs.1 hc
  rw [hk x hx] at hp
  cases hp
 have h0:=fun (f:Int->Int) (g:Int->Int) (y:Int) (hg:∀ i,g i=y)=>anyL lines (fun l=>!F42 l) (2:Int) (F18_s0 lines) (fun i hi=>by
  simp only [F18_s0,ltD hi,Qc,nn,getD_map _ _ _ hi,key_empty]
  rfl) uu35 f g y hg
 rw [h0 (fun r=>r) _ _ (fun _=>rfl),hany,Qh]
 have h1:=fun (y:Int)=>any_loop (F18_s1 lines) lines.length (fun k=>!ltB (lines.getD (k-1) default) (lines.getD k default)) (3:Int) (fun r=>r) y (fun k hk=>by
  simp only [F18_s1,ltD hk,Qc,nn]
  rw [show Int.toNat ((k:Int)-1)=k-1 by omega]; rfl) uu53 (lines.length-1) 1 uu0 (Int.toNat ((lines.length:Int)-1)+1) uu0
 have h2:=h1 ((runL (F18_s2 lines) (((lines.length:Int)-0).toNat+1) 0).fin (fun r=>r) (fun i42=>0))
 refine Eq.trans h2 ?_
 rw [anyF_nonB _ _ fun k k1 k2=>by
  have ha:k-1<lines.length:=by omega
  have hb:k<lines.length:=by omega
  rw [Qd,Qd,Qe ha,Qe hb,Rv,Rv]
  rw [Sr.1 hs (k-1) k ha hb uu0]
  rfl,Qh]
 have h4:=any_loop (F18_s2 lines) lines.length (fun k=>decide ((lines.map F26).getD k default∈(lines.map F26).take k)) (4:Int) (fun r=>r) (0:Int) (fun i hi=>by
  simp only [F18_s2,ltD hi,Qc,nn,specHas_mem]; rfl) uu50 lines.length 0 uu0 (Int.toNat ((lines.length:Int)-0)+1) uu0
 refine Eq.trans h4 ?_
 rw [anyF_nonB _ _ fun k k1 k2=>by
  refine Qq fun hm=>?_
  have hk':k<(lines.map F26).length:=by rw [Sc]; omega
  obtain ⟨j,hj,e⟩:=List.mem_take_iff_getElem.1 hm
  rw [Qd,Qe hk',Rv] at e
  have hj':j<(lines.map F26).length:=by omega
  exact Sr.1 hn j k hj' hk' uu0 e,Qh]
theorem insK_mem {x:Za}:∀ (keys ks:List Za),x∈keys.foldl insK ks↔x∈ks\/x∈keys
 | [],ks=>by simp
 | s :: r,ks=>by
  rw [So,insK_mem r,Qr]
  unfold insK
  split
  ·rename_i h
   constructor
   ·rintro (h1 | h1)
    ·exact .inl h1
    ·exact .inr (.inr h1)
   ·rintro (h1 | rfl | h1)
    ·exact .inl h1
    ·exact .inl h
    ·exact .inr h1
  ·rw [Q1,Qu,or_assoc]
theorem insK_nodup:∀ (keys ks:List Za),ks.Nodup->(keys.foldl insK ks).Nodup
 | [],ks,h=>h
 | s :: r,ks,h=>by
  rw [So]
  refine insK_nodup r _ ?_
  unfold insK
  split
  ·exact h
  ·rename_i hn
   exact Ri.2 ⟨h,Qy.2 ⟨Rd,Q2⟩,fun a ha b hb e=>by
    rw [Qu.1 hb] at e; exact hn (e ▸ ha)⟩
theorem mgKeys_nodup (a b c:List Za):(mgKeys a b c).Nodup:=insK_nodup _ _ Q2
theorem mgKeys_mem {a b c:List Za} {k:Za}:k∈mgKeys a b c↔(∃ l∈a,F26 l=k)\/(∃ l∈b,F26 l=k)\/∃ l∈c,F26 l=k:=by
 unfold mgKeys
 rw [insK_mem,Td,Td,Q1,Q1,R7,R7,R7]
 simp only [Rd,false_or,or_assoc]
theorem mgKeys_swap (a b c:List Za):(mgKeys a b c).Perm (mgKeys a c b):=(List.perm_ext_iff_of_nodup (mgKeys_nodup _ _ _) (mgKeys_nodup _ _ _)).2 fun k=>by
 rw [mgKeys_mem,mgKeys_mem]
 constructor <;> (rintro (h | h | h) <;> simp [h])
theorem at_find (lines:List Za) (k:Za) (h:F18 lines=0):atM (F14 lines) k=(lines.find? fun l=>decide (F26 l=k)).getD Zc:=by
 unfold atM
 rw [byKey_eq,getM_fold _ _ _ _ (neat_keys lines h)]
 cases lines.find? (fun l=>decide (F26 l=k)) <;> rfl
theorem at_mem {lines:List Za} {l:Za} (h:F18 lines=0) (hl:l∈lines):atM (F14 lines) (F26 l)=l:=by
 rw [at_find _ _ h]
 cases hf:lines.find? (fun x=>decide (F26 x=F26 l)) with
 | none =>
  have:=List.find?_eq_none.1 hf l hl
  simp at this
 | some x =>
  have h1:=List.find?_some hf
  have h2:=List.mem_of_find?_eq_some hf
  exact map_inj (neat_keys lines h) x h2 l hl (Qb h1)
theorem at_or {lines:List Za} (k:Za) (h:F18 lines=0):atM (F14 lines) k=Zc\/(atM (F14 lines) k∈lines/\F26 (atM (F14 lines) k)=k):=by
 rw [at_find _ _ h]
 cases hf:lines.find? (fun x=>decide (F26 x=k)) with
 | none=>exact .inl rfl
 | some x =>
  have h1:=List.find?_some hf
  exact .inr ⟨List.mem_of_find?_eq_some hf,Qb h1⟩
theorem line_ne {lines:List Za} {l:Za} (h:F18 lines=0) (hl:l∈lines):l≠Zc:=fun e=>by
 have hk:=(nt_facts lines h).2 l hl
 rw [e] at hk
 have h2:=key_empty Zc
 rw [hk] at h2
 exact absurd hk (by decide +kernel)
def liK (f:Za->Za) (K:List Za):List Za:=(K.map f).filter fun l=>!(l==Zc)
theorem liK_mem {f:Za->Za} {K:List Za} {x:Za}:x∈liK f K↔x≠Zc/\∃ k∈K,f k=x:=by
 unfold liK
 rw [Hc,R7,Tf,Qx]
 exact And.comm
theorem liK_keys {f:Za->Za}:∀ {K:List Za},K.Nodup->(∀ k∈K,f k=Zc\/F26 (f k)=k)->((liK f K).map F26).Nodup
 | [],_,_=>Q2
 | k :: K,hn,hf=>by
  obtain ⟨n1,n2⟩:=Qy.1 hn
  have ih:=liK_keys n2 fun k' hk'=>hf k' (Qj _ hk')
  have e:liK f (k :: K)=bif f k==Zc then liK f K else f k :: liK f K:=by
   unfold liK
   rw [Rb,Gx]
   cases (f k==Zc) <;> rfl
  rw [e]
  cases hq:(f k==Zc) with
  | true=>exact ih
  | false =>
   rw [Qh,Rb,Qy]
   refine ⟨fun hm=>?_,ih⟩
   have hk:F26 (f k)=k:=(hf k Ql).resolve_left (Qx.1 hq)
   obtain ⟨x,hx,ex⟩:=R7.1 hm
   obtain ⟨hx0,k',hk',rfl⟩:=liK_mem.1 hx
   have h2:=(hf k' (Qj _ hk')).resolve_left hx0
   rw [h2,hk] at ex
   exact n1 (ex ▸ hk')
theorem nodup_of_map {xs:List Za} {f:Za->Za} (h:(xs.map f).Nodup):xs.Nodup:=(List.pairwise_map.1 h).imp fun hne e=>hne (Qg f e)
theorem recover {X K:List Za} (h:F18 X=0) (hn:K.Nodup) (hK:∀ l∈X,F26 l∈K):sortS (liK (atM (F14 X)) K)=X:=by
 have hd:(liK (atM (F14 X)) K).Nodup:=nodup_of_map (liK_keys hn fun k _=>(at_or k h).imp id fun h=>h.2)
 refine sorted_ext (sortS_sorted _ hd) (neat_sorted X h) fun z=>?_
 rw [sortS_mem,liK_mem]
 constructor
 ·rintro ⟨h1,k,_,rfl⟩
  exact ((at_or k h).resolve_left h1).1
 ·intro hz
  exact ⟨line_ne h hz,_,hK z hz,at_mem h hz⟩
def mgOut (bad:Bool) (L:List Za):List Za×Int:=bif bad then ([],2) else bif decide ((L.length:Int)>16) then ([],3) else (L,0)
theorem mgOut_bad (L L':List Za):mgOut true L=mgOut true L':=by
 unfold mgOut; rw [Qc,Qc]
theorem merge_form {a b c:List Za} (na:F18 a=0) (nb:F18 b=0) (nc:F18 c=0):F5 a b c=bif (mgKeys a b c).any (mgBad (F14 a) (F14 b) (F14 c)) then (([]:List Za),(2:Int)) else bif decide (((sortS (mgLines (F14 a) (F14 b) (F14 c) (mgKeys a b c))).length:Int)>16) then ([],3) else (sortS (mgLines (F14 a) (F14 b) (F14 c) (mgKeys a b c)),0):=by
 unfold F5
 have e:∀ x:List Za,(!F13 x)=(F18 x != 0):=fun x=>by unfold F13; rw [neat_same]; rfl
 rw [e,e,e,na,nb,nc]
 obtain ⟨ms,e1,e2⟩:=implKeys a b c
 rw [e1]
 show (F5_j1 a b c ms).fin _ _=_
 unfold F5_j1
 rw [e2]
 cases (mgKeys a b c).any (mgBad (F14 a) (F14 b) (F14 c)) <;> rfl
theorem merge_not {a b c:List Za} (h:¬ (F18 a=0/\F18 b=0/\F18 c=0)):F5 a b c=([],1):=by
 unfold F5
 have e:∀ x:List Za,(!F13 x)=(F18 x != 0):=fun x=>by unfold F13; rw [neat_same]; rfl
 rw [e,e,e]
 have:(bif (bif F18 a != 0 then true else F18 b != 0) then true else F18 c != 0)=true:=by
  cases h1:(F18 a != 0) with
  | true=>rfl
  | false =>
   cases h2:(F18 b != 0) with
   | true=>rfl
   | false =>
    show (F18 c != 0)=true
    rw [G6]
    intro h3
    exact h ⟨by simpa using h1,by simpa using h2,h3⟩
 rw [this]; rfl
theorem bad_swap (B M T:ML Za) (k:Za):mgBad B M T k=mgBad B T M k:=by
 unfold mgBad
 have e:(atM T k==atM M k)=(atM M k==atM T k):=by
  by_cases h:atM T k=atM M k
  ·rw [h]
  ·rw [Qx.2 h,Qx.2 (Ne.symm h)]
 rw [e]
 cases (atM M k==atM B k) <;> cases (atM T k==atM B k) <;> rfl
theorem line_swap {B M T:ML Za} {k:Za} (h:mgBad B M T k=false):mgLine B M T k=mgLine B T M k:=by
 unfold mgBad at h
 unfold mgLine
 cases h1:(atM M k==atM B k) with
 | true =>
  cases h2:(atM T k==atM B k) with
  | true=>rw [Qc,Qc,eq_of_beq h1,eq_of_beq h2]
  | false=>rfl
 | false =>
  cases h2:(atM T k==atM B k) with
  | true=>rfl
  | false =>
   rw [h1,h2] at h
   cases h3:(atM T k==atM M k) with
   | true=>rw [Qh,Qh,eq_of_beq h3]
   | false=>rw [h3] at h; cases h
theorem merge_swap (a b c:List Za):F5 a b c=F5 a c b:=by
 by_cases h:F18 a=0/\F18 b=0/\F18 c=0
 ·obtain ⟨na,nb,nc⟩:=h
  have hp:=mgKeys_swap a b c
  have e1:F5 a b c=mgOut ((mgKeys a b c).any (mgBad (F14 a) (F14 b) (F14 c))) (sortS (mgLines (F14 a) (F14 b) (F14 c) (mgKeys a b c))):=merge_form na nb nc
  have e2:F5 a c b=mgOut ((mgKeys a c b).any (mgBad (F14 a) (F14 c) (F14 b))) (sortS (mgLines (F14 a) (F14 c) (F14 b) (mgKeys a c b))):=merge_form na nc nb
  rw [e1,e2]
  generalize F14 a=A,F14 b=B,F14 c=C
  generalize mgKeys a b c=K,mgKeys a c b=K' at hp
  have ha:K.any (mgBad A B C)=K'.any (mgBad A C B):=by
   rw [show mgBad A B C=mgBad A C B from funext fun k=>bad_swap _ _ _ k,G2,Rs,Rs]
   exact ⟨fun ⟨x,h1,h2⟩=>⟨x,hp.subset h1,h2⟩,fun ⟨x,h1,h2⟩=>⟨x,hp.symm.subset h1,h2⟩⟩
  rw [ha]
  cases hb:K'.any (mgBad A C B) with
  | true=>exact mgOut_bad _ _
  | false =>
   refine Qg (mgOut false) (sortS_of_perm ?_)
   unfold mgLines
   have hm:K.map (mgLine A B C)=K.map (mgLine A C B):=Tv fun k hk=>by
    refine line_swap ?_
    rw [bad_swap]
    cases hq:mgBad A C B k with
    | false=>rfl
    | true =>
     have:K'.any (mgBad A C B)=true:=Rs.2 ⟨k,hp.subset hk,hq⟩
     rw [hb] at this; cases this
   rw [hm]
   exact List.Perm.filter _ (hp.map _)
 ·rw [merge_not h,merge_not fun ⟨h1,h2,h3⟩=>h ⟨h1,h3,h2⟩]
theorem merge_one {a b c X:List Za} (na:F18 a=0) (nb:F18 b=0) (nc:F18 c=0) (nX:F18 X=0) (hX:∀ l∈X,F26 l∈mgKeys a b c)
  (hb:∀ k,mgBad (F14 a) (F14 b) (F14 c) k=false) (hl:∀ k,mgLine (F14 a) (F14 b) (F14 c) k=atM (F14 X) k):F5 a b c=(X,0):=by
 rw [merge_form na nb nc]
 have h1:(mgKeys a b c).any (mgBad (F14 a) (F14 b) (F14 c))=false:=List.any_eq_false.2 fun k _=>by rw [hb k]; decide
 have h2:sortS (mgLines (F14 a) (F14 b) (F14 c) (mgKeys a b c))=X:=by
  have:mgLines (F14 a) (F14 b) (F14 c) (mgKeys a b c)=liK (atM (F14 X)) (mgKeys a b c):=by
   unfold mgLines liK
   rw [show mgLine (F14 a) (F14 b) (F14 c)=atM (F14 X) from funext hl]
  rw [this]
  exact recover nX (mgKeys_nodup _ _ _) hX
 have h3:=neat_len X nX
 rw [h1,Qh,h2,Qq (show ¬ (X.length:Int)>16 by omega)]
 rfl
theorem merge_bmb {a b:List Za} (na:F18 a=0) (nb:F18 b=0):F5 a b a=(b,0):=by
 refine merge_one na nb na nb (fun l hl=>mgKeys_mem.2 (.inr (.inl ⟨l,hl,rfl⟩))) (fun k=>?_) (fun k=>?_)
 ·unfold mgBad
  rw [beq_self_eq_true]
  cases (atM (F14 b) k==atM (F14 a) k) <;> rfl
 ·unfold mgLine
  cases h:(atM (F14 b) k==atM (F14 a) k) with
  | true=>exact (eq_of_beq h).symm
  | false=>rfl
theorem merge_bmm {a b:List Za} (na:F18 a=0) (nb:F18 b=0):F5 a b b=(b,0):=by
 refine merge_one na nb nb nb (fun l hl=>mgKeys_mem.2 (.inr (.inl ⟨l,hl,rfl⟩))) (fun k=>?_) (fun k=>?_)
 ·unfold mgBad
  rw [beq_self_eq_true]
  cases (atM (F14 b) k==atM (F14 a) k) <;> rfl
 ·unfold mgLine
  cases (atM (F14 b) k==atM (F14 a) k) <;> rfl
theorem merge_neat {a b c:List Za} (na:F18 a=0) (nb:F18 b=0) (nc:F18 c=0) (h:(F5 a b c).2=0):F18 (F5 a b c).1=0:=by
 rw [merge_form na nb nc] at h ⊢
 cases h1:(mgKeys a b c).any (mgBad (F14 a) (F14 b) (F14 c)) with
 | true=>rw [h1] at h; cases h
 | false =>
 rw [h1,Qh] at h
 rw [Qh]
 cases h2:decide (((sortS (mgLines (F14 a) (F14 b) (F14 c) (mgKeys a b c))).length:Int)>16) with
 | true=>rw [h2] at h; cases h
 | false =>
 have h2:=Qw h2
 rw [Qh]
 show F18 (sortS (liK (mgLine (F14 a) (F14 b) (F14 c)) (mgKeys a b c)))=0
 have hor:∀ k,mgLine (F14 a) (F14 b) (F14 c) k=Zc\/(F42 (mgLine (F14 a) (F14 b) (F14 c) k)=true/\F26 (mgLine (F14 a) (F14 b) (F14 c) k)=k):=fun k=>by
  unfold mgLine
  cases (atM (F14 b) k==atM (F14 a) k) with
  | true=>exact (at_or k nc).imp id fun h=>⟨(nt_facts c nc).2 _ h.1,h.2⟩
  | false=>exact (at_or k nb).imp id fun h=>⟨(nt_facts b nb).2 _ h.1,h.2⟩
 have hk:=liK_keys (mgKeys_nodup a b c) fun k _=>(hor k).imp id fun h=>h.2
 refine neat_mk _ ?_ (fun l hl=>?_) (sortS_sorted _ (nodup_of_map hk)) (((sortS_perm _).map _).nodup_iff.2 hk)
 ·have h2:¬ ((sortS (liK (mgLine (F14 a) (F14 b) (F14 c)) (mgKeys a b c))).length:Int)>16:=h2
  omega
 ·obtain ⟨h3,k,_,rfl⟩:=liK_mem.1 (sortS_mem.1 hl)
  exact ((hor k).resolve_left h3).1
theorem neat_sz {X:List Za} (h:F18 X=0):∀ k:Nat,(X.getD k default).size<=1048576:=getD_sz fun x hx=>Q0 (neat_200 X h x hx) uu1
theorem merge_code2 {a b c:List Za} (na:F18 a=0) (nb:F18 b=0) (nc:F18 c=0):((F5 a b c).2=0)\/F5 a b c=([],2)\/F5 a b c=([],3):=by
 rw [merge_form na nb nc]
 cases (mgKeys a b c).any (mgBad (F14 a) (F14 b) (F14 c)) with
 | true=>exact .inr (.inl rfl)
 | false =>
  cases decide (((sortS (mgLines (F14 a) (F14 b) (F14 c) (mgKeys a b c))).length:Int)>16) with
  | true=>exact .inr (.inr rfl)
  | false=>exact .inl rfl
theorem merge_sz (a b c:List Za):∀ k:Nat,((F5 a b c).1.getD k default).size<=1048576:=by
 by_cases h:F18 a=0/\F18 b=0/\F18 c=0
 ·obtain ⟨na,nb,nc⟩:=h
  rcases merge_code2 na nb nc with h | h | h
  ·exact neat_sz (merge_neat na nb nc h)
  ·rw [h]; exact fun k=>Rj _
  ·rw [h]; exact fun k=>Rj _
 ·rw [merge_not h]; exact fun k=>Rj _
def F7_s0 (a:List Za) (b:List Za):Int->Lp Int Bool:=fun i40 =>
 bif (decide (i40<(a.length:Int))) then (bif (!((a.getD i40.toNat default).toList==(b.getD i40.toNat default).toList)) then (.ret false) else (.next (i40+1))) else (.done i40)
def F7 (a:List Za) (b:List Za):Bool :=
 bif ((a.length:Int) != (b.length:Int)) then false else ((runL (F7_s0 a b) (((a.length:Int)-0).toNat+1) 0).fin (fun r=>r) (fun i40=>true))
abbrev lN7_0 (a:List Za):Nat×Int:=((((a.length:Int)-0).toNat+1),0)
abbrev lI7_0 (a:List Za) (m39:Nat) (i40:Int):Prop:=Int.toNat ((a.length:Int)-i40)<m39/\(0:Int)<=i40
abbrev lX7_0 (a:List Za) (b:List Za):Lp Int Bool:=LpX (F7_s0 a b) (lN7_0 a)
abbrev lJ7_0 (a:List Za) (b:List Za) (i:Nat×Int):Prop:=LpJ (F7_s0 a b) (lN7_0 a) i (lI7_0 a i.1 i.2)
abbrev lH7_0 (a:List Za) (b:List Za) (i:Nat×Int) (m39:Nat) (i40:Int):Prop:=LpH (F7_s0 a b) (lN7_0 a) i m39 i40 (lI7_0 a (m39+1) i40)
abbrev lE7_0 (a:List Za) (b:List Za) (i40:Int) (i40_:Int) (K39:Prop):Prop:=((.int .i64 i40:Value)=.int .i64 i40_)/\(Im (.l 1 eStr a))/\(Im (.l 1 eStr b))/\K39
theorem un7_0 (a:List Za) (b:List Za) (i:Nat×Int) (h:lJ7_0 a b i):lH7_0 a b i (i.1-1) i.2:=⟨hd1 h.1 h.2.1,hd3 h.2.1,hd2 h.2.1,h.2.2⟩
theorem bk7_0 (a:List Za) (b:List Za) (i:Nat×Int) (m39:Nat) (i40:Int) (hl:m39<i.1) (e:runL (F7_s0 a b) m39 i40=lX7_0 a b) (h:lI7_0 a m39 i40):∃ j:Nat×Int,lE7_0 a b i40 j.2 (lJ7_0 a b j/\j.1<i.1):=⟨(m39,i40),rfl,Imp.refl _,Imp.refl _,⟨e,h⟩,hl⟩
theorem en7_0 (a:List Za) (b:List Za) (h:(0:Int)<=0):lE7_0 a b 0 0 (lJ7_0 a b (lN7_0 a)):=⟨rfl,Imp.refl _,Imp.refl _,rfl,Qt _,h⟩
def S7 (R:Bool) (a:List Za) (b:List Za):Spec:=⟨[.r (.c (.l 1 eStr a)),.r (.c (.l 1 eStr b))],.v (.bool R),True⟩
theorem ok7 (a:List Za) (b:List Za):(S7 (F7 a b) a b).ok Tryz.prog 7 :=
 fnG_ok mixed (fn:=Tryz.f7) (ct:=.seqk [(0,0),(1,0)] .no (.seq (.seq .no (.cond (.seq .no .no) .no)) (.seq (.seqk [(0,0),(1,0)] .no (.blk (.loop (ι:=Nat×Int) (fun i=>(fun (i40:Int)=>(⟨[(0,some (.h 0 0)),(1,some (.h 1 0)),(5,some (.v (vI i40)))],[(0,some (.shr none (.l 1 eStr a))),(1,some (.shr none (.l 1 eStr b)))],2⟩:St)) i.2) (lJ7_0 a b) (fun i=>i.1) (lN7_0 a) (fun i=>(fun (i40:Int)=>(.seq (.seq .no (.cond .no .no)) (.seq (.blk (.seq .no (.cond (.seq .no .no) .no))) (.reg [(1,.bnd)])))) i.2)))) (.seq .no .no)))) Tryz.func7 (fun (_:True)=>kn a fun _=>kn b fun _=>ifn (a.length:Int) (b.length:Int) (fun h1 _=>fiB false (F7 a b) (condT h1 rfl)) (fun h1 _=>kn a fun _=>kn b fun _=>ai (en7_0 a b uu0) (fun (i0:Nat×Int) (hi0:lJ7_0 a b i0)=>(fun (m0:Nat) (i40:Int) (hh0:lH7_0 a b i0 m0 i40)=>have hI0:=hh0.1; have hl0:=hh0.2.1; have _:=hh0.2.2.1; have _:=hh0.2.2.2; ifd (i40<(a.length:Int)) (fun h3 _=>ai (uu0:ib i40 a) (ai (uu0:ib i40 b) (ifb (!((a.getD i40.toNat default).toList==(b.getD i40.toNat default).toList)) (fun h4=>fiB false (F7 a b) (condF h1 (finR (runL_ret hI0 (condT h3 (condT h4 rfl))) rfl))) (fun h4=>ai (iok (i40+1) uu0) (bk7_0 a b i0 m0 (i40+1) hl0 (runL_next hI0 (condT h3 (condF h4 rfl))) uu7))))) (fun h3 _=>have hD0_5:lX7_0 a b=Lp.done i40:=runL_done hI0 (condF h3 rfl); fiB true (F7 a b) (condF h1 (finD hD0_5 rfl)))) (i0.1-1) i0.2 (un7_0 a b i0 hi0)))) uu2
theorem as7 (a:List Za) (b:List Za):F7 a b=(decide (a=b)):=by
 exact eq_loop (fun x y=>decide (x=y)) (fun _ _=>rfl) a b (F7_s0 a b) (fun i=>by simp only [F7_s0,neI,neB,neS])
theorem oa7 (a:List Za) (b:List Za):(S7 (decide (a=b)) a b).ok Tryz.prog 7:=by
 intro hp; have h:=ok7 a b hp; rw [as7 a b] at h; exact h
theorem kc5 (base:List Za) (mine:List Za) (theirs:List Za) {K_:Prop} (p0_:base.length<=1048576) (p1_:mine.length<=1048576) (p2_:theirs.length<=1048576) (p3_:∀ k:Nat,(base.getD k default).size<=1048576) (p4_:∀ k:Nat,(mine.getD k default).size<=1048576) (p5_:∀ k:Nat,(theirs.getD k default).size<=1048576) (k_:K_):(base.length<=1048576/\mine.length<=1048576/\theirs.length<=1048576/\(∀ k:Nat,(base.getD k default).size<=1048576)/\(∀ k:Nat,(mine.getD k default).size<=1048576)/\(∀ k:Nat,(theirs.getD k default).size<=1048576))/\(Imp (.l 1 eStr base) (.l 1 eStr base))/\(Imp (.l 1 eStr mine) (.l 1 eStr mine))/\(Imp (.l 1 eStr theirs) (.l 1 eStr theirs))/\K_:=⟨⟨p0_,p1_,p2_,p3_,p4_,p5_⟩,Imp.refl _,Imp.refl _,Imp.refl _,k_⟩
abbrev kh5 (base:List Za) (mine:List Za) (theirs:List Za):Hint false Tryz.prog:=.call 5 (S5 base mine theirs) (ok5 base mine theirs) none
theorem kc6 (base:List Za) (mine:List Za) (theirs:List Za) {K_:Prop} (p0_:base.length<=1048576) (p1_:mine.length<=1048576) (p2_:theirs.length<=1048576) (p3_:∀ k:Nat,(base.getD k default).size<=1048576) (p4_:∀ k:Nat,(mine.getD k default).size<=1048576) (p5_:∀ k:Nat,(theirs.getD k default).size<=1048576) (k_:K_):(base.length<=1048576/\mine.length<=1048576/\theirs.length<=1048576/\(∀ k:Nat,(base.getD k default).size<=1048576)/\(∀ k:Nat,(mine.getD k default).size<=1048576)/\(∀ k:Nat,(theirs.getD k default).size<=1048576))/\(Imp (.l 1 eStr base) (.l 1 eStr base))/\(Imp (.l 1 eStr mine) (.l 1 eStr mine))/\(Imp (.l 1 eStr theirs) (.l 1 eStr theirs))/\K_:=⟨⟨p0_,p1_,p2_,p3_,p4_,p5_⟩,Imp.refl _,Imp.refl _,Imp.refl _,k_⟩
abbrev kh6f (base:List Za) (mine:List Za) (theirs:List Za):Hint false Tryz.prog:=.call 6 (S6 base mine theirs) ((ok6 base mine theirs).to false) none
theorem kg7a {K_:Prop} (c_ b_:Bool) (a:List Za) (b:List Za) (k_:K_):(c_=b_->True)/\(c_=b_->Imp (.l 1 eStr a) (.l 1 eStr a))/\(c_=b_->Imp (.l 1 eStr b) (.l 1 eStr b))/\K_:=⟨fun _=>trivial,fun _=>Imp.refl _,fun _=>Imp.refl _,k_⟩
abbrev kh7af (a:List Za) (b:List Za):Hint false Tryz.prog:=.call 7 (S7 (decide (a=b)) a b) ((oa7 a b).to false) none
def F3 (Ua:SV) (code:List Int):Bool :=
 bif (decide ((code.length:Int)>1048576)) then true else (bif (bif (bif (bif ((F5 (F4 Ua code).1 (F4 Ua code).2.1 (F4 Ua code).2.2).2 != (F6 (F4 Ua code).1 (F4 Ua code).2.1 (F4 Ua code).2.2).2) then true else (!(decide ((F5 (F4 Ua code).1 (F4 Ua code).2.1 (F4 Ua code).2.2).1=(F6 (F4 Ua code).1 (F4 Ua code).2.1 (F4 Ua code).2.2).1)))) then true else ((F5 (F4 Ua code).1 (F4 Ua code).2.1 (F4 Ua code).2.2).2 != (F5 (F4 Ua code).1 (F4 Ua code).2.2 (F4 Ua code).2.1).2)) then true else (!(decide ((F5 (F4 Ua code).1 (F4 Ua code).2.1 (F4 Ua code).2.2).1=(F5 (F4 Ua code).1 (F4 Ua code).2.2 (F4 Ua code).2.1).1)))) then false else (bif ((F5 (F4 Ua code).1 (F4 Ua code).2.1 (F4 Ua code).2.2).2==1) then (((F5 (F4 Ua code).1 (F4 Ua code).2.1 (F4 Ua code).2.2).1.length:Int)==0) else (bif (bif (bif (bif (bif (bif ((F5 (F4 Ua code).1 (F4 Ua code).2.1 (F4 Ua code).1).2 != 0) then true else ((F5 (F4 Ua code).1 (F4 Ua code).1 (F4 Ua code).2.2).2 != 0)) then true else ((F5 (F4 Ua code).1 (F4 Ua code).2.1 (F4 Ua code).2.1).2 != 0)) then true else (!(decide ((F5 (F4 Ua code).1 (F4 Ua code).2.1 (F4 Ua code).1).1=(F4 Ua code).2.1)))) then true else (!(decide ((F5 (F4 Ua code).1 (F4 Ua code).1 (F4 Ua code).2.2).1=(F4 Ua code).2.2)))) then true else (!(decide ((F5 (F4 Ua code).1 (F4 Ua code).2.1 (F4 Ua code).2.1).1=(F4 Ua code).2.1)))) then false else (bif ((F5 (F4 Ua code).1 (F4 Ua code).2.1 (F4 Ua code).2.2).2 != 0) then (bif (((F5 (F4 Ua code).1 (F4 Ua code).2.1 (F4 Ua code).2.2).1.length:Int)==0) then (bif ((F5 (F4 Ua code).1 (F4 Ua code).2.1 (F4 Ua code).2.2).2==2) then true else ((F5 (F4 Ua code).1 (F4 Ua code).2.1 (F4 Ua code).2.2).2==3)) else false) else (bif ((F5 (F4 Ua code).2.2 (F5 (F4 Ua code).1 (F4 Ua code).2.1 (F4 Ua code).2.2).1 (F4 Ua code).2.2).2==0) then (decide ((F5 (F4 Ua code).2.2 (F5 (F4 Ua code).1 (F4 Ua code).2.1 (F4 Ua code).2.2).1 (F4 Ua code).2.2).1=(F5 (F4 Ua code).1 (F4 Ua code).2.1 (F4 Ua code).2.2).1)) else false)))))
def S3 (Ua:SV) (code:List Int):Spec:=⟨[.vl (sv Ua) (.l 1 eByte code)],.v (.bool (F3 Ua code)),True⟩
theorem ok3 (Ua:SV) (code:List Int):(S3 Ua code).ok Tryz.prog 3 false :=
 fnG_ok mixed (fn:=Tryz.f3) (ct:=.seqk [(0,0)] .no (.seq (.seq .no (.cond (.seq .no .no) .no)) (.seq (.reg [(1,.call 4 (S4 Ua code) ((ok4 Ua code).to false) none)]) (.seq (.reg [(3,kh5 (F4 Ua code).1 (F4 Ua code).2.1 (F4 Ua code).2.2)]) (.seq (.reg [(3,kh6f (F4 Ua code).1 (F4 Ua code).2.1 (F4 Ua code).2.2)]) (.seq (.reg [(3,kh5 (F4 Ua code).1 (F4 Ua code).2.2 (F4 Ua code).2.1)]) (.seq (.seq (.reg [(6,kh7af (F5 (F4 Ua code).1 (F4 Ua code).2.1 (F4 Ua code).2.2).1 (F6 (F4 Ua code).1 (F4 Ua code).2.1 (F4 Ua code).2.2).1),(17,kh7af (F5 (F4 Ua code).1 (F4 Ua code).2.1 (F4 Ua code).2.2).1 (F5 (F4 Ua code).1 (F4 Ua code).2.2 (F4 Ua code).2.1).1)]) (.cond (.seq .no .no) .no)) (.seq (.seq .no (.cond (.seq .no .no) .no)) (.seq (.reg [(3,kh5 (F4 Ua code).1 (F4 Ua code).2.1 (F4 Ua code).1)]) (.seq (.reg [(3,kh5 (F4 Ua code).1 (F4 Ua code).1 (F4 Ua code).2.2)]) (.seq (.reg [(3,kh5 (F4 Ua code).1 (F4 Ua code).2.1 (F4 Ua code).2.1)]) (.seq (.seq (.reg [(13,kh7af (F5 (F4 Ua code).1 (F4 Ua code).2.1 (F4 Ua code).1).1 (F4 Ua code).2.1),(19,kh7af (F5 (F4 Ua code).1 (F4 Ua code).1 (F4 Ua code).2.2).1 (F4 Ua code).2.2),(25,kh7af (F5 (F4 Ua code).1 (F4 Ua code).2.1 (F4 Ua code).2.1).1 (F4 Ua code).2.1)]) (.cond (.seq .no .no) .no)) (.seq (.seq .no (.cond (.seq .no .no) .no)) (.seq (.reg [(3,kh5 (F4 Ua code).2.2 (F5 (F4 Ua code).1 (F4 Ua code).2.1 (F4 Ua code).2.2).1 (F4 Ua code).2.2)]) (.seq (.reg [(5,kh7af (F5 (F4 Ua code).2.2 (F5 (F4 Ua code).1 (F4 Ua code).2.1 (F4 Ua code).2.2).1 (F4 Ua code).2.2).1 (F5 (F4 Ua code).1 (F4 Ua code).2.1 (F4 Ua code).2.2).1)]) .no))))))))))))))) Tryz.func3 (fun (_:True)=>kn code fun _=>ifd ((code.length:Int)>1048576) (fun h1 _=>fiB true (F3 Ua code) (condT h1 rfl)) (fun h1 _=>ai trivial (ai (Eq.refl (sv Ua)) (ai (Imp.refl (.l 1 eByte code)) (have gv2:(F4 Ua code).1.length<=17/\(F4 Ua code).2.1.length<=40/\(F4 Ua code).2.2.length<=40:=(by exact drawMerge_l _ _); have gv3:∀ k:Nat,((F4 Ua code).1.getD k default).size<=1048576:=(by exact (drawMerge_s _ _).1); have gv4:∀ k:Nat,((F4 Ua code).2.1.getD k default).size<=1048576:=(by exact (drawMerge_s _ _).2.1); have gv5:∀ k:Nat,((F4 Ua code).2.2.getD k default).size<=1048576:=(by exact (drawMerge_s _ _).2.2); kc5 (F4 Ua code).1 (F4 Ua code).2.1 (F4 Ua code).2.2 uu6 uu6 uu6 uu6 uu6 uu6 (have gv6:(F5 (F4 Ua code).1 (F4 Ua code).2.1 (F4 Ua code).2.2).1.length<=16:=uu31; have gv7:∀ k:Nat,((F5 (F4 Ua code).1 (F4 Ua code).2.1 (F4 Ua code).2.2).1.getD k default).size<=1048576:=uu32; kc6 (F4 Ua code).1 (F4 Ua code).2.1 (F4 Ua code).2.2 uu6 uu6 uu6 uu6 uu6 uu6 (kc5 (F4 Ua code).1 (F4 Ua code).2.2 (F4 Ua code).2.1 uu6 uu6 uu6 uu6 uu6 uu6 (have gv8:(F5 (F4 Ua code).1 (F4 Ua code).2.2 (F4 Ua code).2.1).1.length<=16:=uu31; have gv9:∀ k:Nat,((F5 (F4 Ua code).1 (F4 Ua code).2.2 (F4 Ua code).2.1).1.getD k default).size<=1048576:=uu32; kg7a ((F5 (F4 Ua code).1 (F4 Ua code).2.1 (F4 Ua code).2.2).2 != (F6 (F4 Ua code).1 (F4 Ua code).2.1 (F4 Ua code).2.2).2) false (F5 (F4 Ua code).1 (F4 Ua code).2.1 (F4 Ua code).2.2).1 (F6 (F4 Ua code).1 (F4 Ua code).2.1 (F4 Ua code).2.2).1 (kg7a (bif (bif ((F5 (F4 Ua code).1 (F4 Ua code).2.1 (F4 Ua code).2.2).2 != (F6 (F4 Ua code).1 (F4 Ua code).2.1 (F4 Ua code).2.2).2) then true else (!(decide ((F5 (F4 Ua code).1 (F4 Ua code).2.1 (F4 Ua code).2.2).1=(F6 (F4 Ua code).1 (F4 Ua code).2.1 (F4 Ua code).2.2).1)))) then true else ((F5 (F4 Ua code).1 (F4 Ua code).2.1 (F4 Ua code).2.2).2 != (F5 (F4 Ua code).1 (F4 Ua code).2.2 (F4 Ua code).2.1).2)) false (F5 (F4 Ua code).1 (F4 Ua code).2.1 (F4 Ua code).2.2).1 (F5 (F4 Ua code).1 (F4 Ua code).2.2 (F4 Ua code).2.1).1 (ifb (bif (bif (bif ((F5 (F4 Ua code).1 (F4 Ua code).2.1 (F4 Ua code).2.2).2 != (F6 (F4 Ua code).1 (F4 Ua code).2.1 (F4 Ua code).2.2).2) then true else (!(decide ((F5 (F4 Ua code).1 (F4 Ua code).2.1 (F4 Ua code).2.2).1=(F6 (F4 Ua code).1 (F4 Ua code).2.1 (F4 Ua code).2.2).1)))) then true else ((F5 (F4 Ua code).1 (F4 Ua code).2.1 (F4 Ua code).2.2).2 != (F5 (F4 Ua code).1 (F4 Ua code).2.2 (F4 Ua code).2.1).2)) then true else (!(decide ((F5 (F4 Ua code).1 (F4 Ua code).2.1 (F4 Ua code).2.2).1=(F5 (F4 Ua code).1 (F4 Ua code).2.2 (F4 Ua code).2.1).1)))) (fun h12=>fiB false (F3 Ua code) (condF h1 (condT h12 rfl))) (fun h12=>have _:=bneF (orF1 (orF1 (orF1 h12))); have _:=Qb (notEF (orF2 (orF1 (orF1 h12)))); have _:=bneF (orF2 (orF1 h12)); have _:=Qb (notEF (orF2 h12)); ife (F5 (F4 Ua code).1 (F4 Ua code).2.1 (F4 Ua code).2.2).2 1 (fun h13 _=>fiB (((F5 (F4 Ua code).1 (F4 Ua code).2.1 (F4 Ua code).2.2).1.length:Int)==0) (F3 Ua code) (condF h1 (condF h12 (condT h13 rfl)))) (fun h13 _=>kc5 (F4 Ua code).1 (F4 Ua code).2.1 (F4 Ua code).1 uu6 uu6 uu6 uu6 uu6 uu6 (have gv14:(F5 (F4 Ua code).1 (F4 Ua code).2.1 (F4 Ua code).1).1.length<=16:=uu31; have gv15:∀ k:Nat,((F5 (F4 Ua code).1 (F4 Ua code).2.1 (F4 Ua code).1).1.getD k default).size<=1048576:=uu32; kc5 (F4 Ua code).1 (F4 Ua code).1 (F4 Ua code).2.2 uu6 uu6 uu6 uu6 uu6 uu6 (have gv16:(F5 (F4 Ua code).1 (F4 Ua code).1 (F4 Ua code).2.2).1.length<=16:=uu31; have gv17:∀ k:Nat,((F5 (F4 Ua code).1 (F4 Ua code).1 (F4 Ua code).2.2).1.getD k default).size<=1048576:=uu32; kc5 (F4 Ua code).1 (F4 Ua code).2.1 (F4 Ua code).2.1 uu6 uu6 uu6 uu6 uu6 uu6 (have gv18:(F5 (F4 Ua code).1 (F4 Ua code).2.1 (F4 Ua code).2.1).1.length<=16:=uu31; have gv19:∀ k:Nat,((F5 (F4 Ua code).1 (F4 Ua code).2.1 (F4 Ua code).2.1).1.getD k default).size<=1048576:=uu32; kg7a (bif (bif ((F5 (F4 Ua code).1 (F4 Ua code).2.1 (F4 Ua code).1).2 != 0) then true else ((F5 (F4 Ua code).1 (F4 Ua code).1 (F4 Ua code).2.2).2 != 0)) then true else ((F5 (F4 Ua code).1 (F4 Ua code).2.1 (F4 Ua code).2.1).2 != 0)) false (F5 (F4 Ua code).1 (F4 Ua code).2.1 (F4 Ua code).1).1 (F4 Ua code).2.1 (kg7a (bif (bif (bif ((F5 (F4 Ua code).1 (F4 Ua code).2.1 (F4 Ua code).1).2 != 0) then true else ((F5 (F4 Ua code).1 (F4 Ua code).1 (F4 Ua code).2.2).2 != 0)) then true else ((F5 (F4 Ua code).1 (F4 Ua code).2.1 (F4 Ua code).2.1).2 != 0)) then true else (!(decide ((F5 (F4 Ua code).1 (F4 Ua code).2.1 (F4 Ua code).1).1=(F4 Ua code).2.1)))) false (F5 (F4 Ua code).1 (F4 Ua code).1 (F4 Ua code).2.2).1 (F4 Ua code).2.2 (kg7a (bif (bif (bif (bif ((F5 (F4 Ua code).1 (F4 Ua code).2.1 (F4 Ua code).1).2 != 0) then true else ((F5 (F4 Ua code).1 (F4 Ua code).1 (F4 Ua code).2.2).2 != 0)) then true else ((F5 (F4 Ua code).1 (F4 Ua code).2.1 (F4 Ua code).2.1).2 != 0)) then true else (!(decide ((F5 (F4 Ua code).1 (F4 Ua code).2.1 (F4 Ua code).1).1=(F4 Ua code).2.1)))) then true else (!(decide ((F5 (F4 Ua code).1 (F4 Ua code).1 (F4 Ua code).2.2).1=(F4 Ua code).2.2)))) false (F5 (F4 Ua code).1 (F4 Ua code).2.1 (F4 Ua code).2.1).1 (F4 Ua code).2.1 (ifb (bif (bif (bif (bif (bif ((F5 (F4 Ua code).1 (F4 Ua code).2.1 (F4 Ua code).1).2 != 0) then true else ((F5 (F4 Ua code).1 (F4 Ua code).1 (F4 Ua code).2.2).2 != 0)) then true else ((F5 (F4 Ua code).1 (F4 Ua code).2.1 (F4 Ua code).2.1).2 != 0)) then true else (!(decide ((F5 (F4 Ua code).1 (F4 Ua code).2.1 (F4 Ua code).1).1=(F4 Ua code).2.1)))) then true else (!(decide ((F5 (F4 Ua code).1 (F4 Ua code).1 (F4 Ua code).2.2).1=(F4 Ua code).2.2)))) then true else (!(decide ((F5 (F4 Ua code).1 (F4 Ua code).2.1 (F4 Ua code).2.1).1=(F4 Ua code).2.1)))) (fun h23=>fiB false (F3 Ua code) (condF h1 (condF h12 (condF h13 (condT h23 rfl))))) (fun h23=>have _:=bneF (orF1 (orF1 (orF1 (orF1 (orF1 h23))))); have _:=bneF (orF2 (orF1 (orF1 (orF1 (orF1 h23))))); have _:=bneF (orF2 (orF1 (orF1 (orF1 h23)))); have _:=Qb (notEF (orF2 (orF1 (orF1 h23)))); have _:=Qb (notEF (orF2 (orF1 h23))); have _:=Qb (notEF (orF2 h23)); ifn (F5 (F4 Ua code).1 (F4 Ua code).2.1 (F4 Ua code).2.2).2 0 (fun h24 _=>fiB (bif (((F5 (F4 Ua code).1 (F4 Ua code).2.1 (F4 Ua code).2.2).1.length:Int)==0) then (bif ((F5 (F4 Ua code).1 (F4 Ua code).2.1 (F4 Ua code).2.2).2==2) then true else ((F5 (F4 Ua code).1 (F4 Ua code).2.1 (F4 Ua code).2.2).2==3)) else false) (F3 Ua code) (condF h1 (condF h12 (condF h13 (condF h23 (condT h24 rfl)))))) (fun h24 _=>kc5 (F4 Ua code).2.2 (F5 (F4 Ua code).1 (F4 Ua code).2.1 (F4 Ua code).2.2).1 (F4 Ua code).2.2 uu6 uu6 uu6 uu6 uu6 uu6 (have gv25:(F5 (F4 Ua code).2.2 (F5 (F4 Ua code).1 (F4 Ua code).2.1 (F4 Ua code).2.2).1 (F4 Ua code).2.2).1.length<=16:=uu31; have gv26:∀ k:Nat,((F5 (F4 Ua code).2.2 (F5 (F4 Ua code).1 (F4 Ua code).2.1 (F4 Ua code).2.2).1 (F4 Ua code).2.2).1.getD k default).size<=1048576:=uu32; kg7a ((F5 (F4 Ua code).2.2 (F5 (F4 Ua code).1 (F4 Ua code).2.1 (F4 Ua code).2.2).1 (F4 Ua code).2.2).2==0) true (F5 (F4 Ua code).2.2 (F5 (F4 Ua code).1 (F4 Ua code).2.1 (F4 Ua code).2.2).1 (F4 Ua code).2.2).1 (F5 (F4 Ua code).1 (F4 Ua code).2.1 (F4 Ua code).2.2).1 (fiB (bif ((F5 (F4 Ua code).2.2 (F5 (F4 Ua code).1 (F4 Ua code).2.1 (F4 Ua code).2.2).1 (F4 Ua code).2.2).2==0) then (decide ((F5 (F4 Ua code).2.2 (F5 (F4 Ua code).1 (F4 Ua code).2.1 (F4 Ua code).2.2).1 (F4 Ua code).2.2).1=(F5 (F4 Ua code).1 (F4 Ua code).2.1 (F4 Ua code).2.2).1)) else false) (F3 Ua code) (condF h1 (condF h12 (condF h13 (condF h23 (condF h24 rfl))))))))))))))))))))))))))) uu2
theorem merge_law (a b c:List Za):(bif (bif (bif (bif ((F5 a b c).2 != (F6 a b c).2) then true else (!(decide (((F5 a b c).1)=((F6 a b c).1))))) then true else ((F5 a b c).2 != (F5 a c b).2)) then true else (!(decide (((F5 a b c).1)=((F5 a c b).1))))) then false else (bif ((F5 a b c).2==1) then ((((F5 a b c).1).length:Int)==0) else
  (bif (bif (bif (bif (bif (bif ((F5 a b a).2 != 0) then true else ((F5 a a c).2 != 0)) then true else ((F5 a b b).2 != 0)) then true else (!(decide (((F5 a b a).1)=b)))) then true else (!(decide (((F5 a a c).1)=c)))) then true else (!(decide (((F5 a b b).1)=b)))) then false else
  (bif ((F5 a b c).2 != 0) then (bif ((((F5 a b c).1).length:Int)==0) then (bif ((F5 a b c).2==2) then true else ((F5 a b c).2==3)) else false) else (bif ((F5 c ((F5 a b c).1) c).2==0) then (decide (((F5 c ((F5 a b c).1) c).1)=((F5 a b c).1))) else false)))))=true:=by
 rw [<- merge_swap a b c,<- merge_same a b c]
 simp only [bne_self_eq_false,decide_true,Sa,Qh]
 by_cases h:F18 a=0/\F18 b=0/\F18 c=0
 ·obtain ⟨na,nb,nc⟩:=h
  rw [merge_bmb na nb,merge_bmm na nb,merge_swap a a c,merge_bmb na nc]
  simp only [bne_self_eq_false,decide_true,Sa,Qh]
  rcases merge_code2 na nb nc with h | h | h
  ·have hn:=merge_neat na nb nc h
   rw [h,merge_bmb nc hn]
   simp
  ·rw [h]; rfl
  ·rw [h]; rfl
 ·rw [merge_not h]; rfl
theorem plain_3 (Ua:SV) (code:List Int):F3 Ua code=true:=by
 unfold F3
 cases decide ((code.length:Int)>1048576) with
 | true=>rfl
 | false=>exact merge_law _ _ _
end Go.Proofs.YtpeklolpimhioaaGreatDoor
namespace Go.Proofs.YtpeklolpimhioaaGreatDoor
open Go Go.RowKit Go.ChangeShapes Go.WideShapes Go.ChangeAt
set_option maxRecDepth 100000
set_option linter.unusedVariables false
theorem op_5:OpD Tryz.prog 5 eByte:=OpD.byte Tryz.underlying5
theorem op_22:OpD Tryz.prog 22 (fun xs:List Int=>[.l 1 eByte xs]):=OpD.slice 1 Tryz.underlying22 op_5 (fun _=>rfl) uu2 uu1
theorem own:ownKnob Tryz.prog.godebug=none:=by kernel_rfl
theorem cfA:Tryz.prog.inPlace 3=Rows.fnConfMergeRow.inPlace:=by kernel_rfl
theorem cfB:Tryz.prog.unfollowed 3=Rows.fnConfMergeRow.unfollowed:=by kernel_rfl
theorem cfC:Tryz.prog.recurses 3=Rows.fnConfMergeRow.recurses:=by kernel_rfl
theorem cfD:Tryz.prog.varsNamed 3=Rows.fnConfMergeRow.named:=by kernel_rfl
set_option maxRecDepth 100000 in
def putC (cs:Array Value):Obj->Obj
 | .cells _ t fz=>.cells cs t fz
 | o=>o
noncomputable def laidWorld (os:Os):World :=
 let w:=World.holding Tryz.prog os ⟨#[.cells #[.string ⟨#[118,97,108,117,101,32,111,117,116,32,111,102,32,114,97,110,103,101]⟩] 169,.cells #[.string ⟨#[105,110,118,97,108,105,100,32,115,121,110,116,97,120]⟩] 169],#[],[]⟩
 { w with heap:=(((((((w.heap.modify ((Tryz.prog.globalNamed "math/bits.deBruijn32tab").getD 0) (putC #[(.int .u8 0),(.int .u8 1),(.int .u8 28),(.int .u8 2),(.int .u8 29),(.int .u8 14),(.int .u8 24),(.int .u8 3),(.int .u8 30),(.int .u8 22),(.int .u8 20),(.int .u8 15),(.int .u8 25),(.int .u8 17),(.int .u8 4),(.int .u8 8),(.int .u8 31),(.int .u8 27),(.int .u8 13),(.int .u8 23),(.int .u8 21),(.int .u8 19),(.int .u8 16),(.int .u8 7),(.int .u8 26),(.int .u8 12),(.int .u8 18),(.int .u8 6),(.int .u8 11),(.int .u8 5),(.int .u8 10),(.int .u8 9)])).modify ((Tryz.prog.globalNamed "math/bits.deBruijn64tab").getD 0) (putC #[(.int .u8 0),(.int .u8 1),(.int .u8 56),(.int .u8 2),(.int .u8 57),(.int .u8 49),(.int .u8 28),(.int .u8 3),(.int .u8 61),(.int .u8 58),(.int .u8 42),(.int .u8 50),(.int .u8 38),(.int .u8 29),(.int .u8 17),(.int .u8 4),(.int .u8 62),(.int .u8 47),(.int .u8 59),(.int .u8 36),(.int .u8 45),(.int .u8 43),(.int .u8 51),(.int .u8 22),(.int .u8 53),(.int .u8 39),(.int .u8 33),(.int .u8 30),(.int .u8 24),(.int .u8 18),(.int .u8 12),(.int .u8 5),(.int .u8 63),(.int .u8 55),(.int .u8 48),(.int .u8 27),(.int .u8 60),(.int .u8 41),(.int .u8 37),(.int .u8 16),(.int .u8 46),(.int .u8 35),(.int .u8 44),(.int .u8 21),(.int .u8 52),(.int .u8 32),(.int .u8 23),(.int .u8 11),(.int .u8 54),(.int .u8 26),(.int .u8 40),(.int .u8 15),(.int .u8 34),(.int .u8 20),(.int .u8 31),(.int .u8 10),(.int .u8 25),(.int .u8 14),(.int .u8 19),(.int .u8 9),(.int .u8 13),(.int .u8 8),(.int .u8 7),(.int .u8 6)])).modify ((Tryz.prog.globalNamed "internal/strconv.uint64pow10").getD 0) (putC #[(.int .u64 1),(.int .u64 10),(.int .u64 100),(.int .u64 1000),(.int .u64 10000),(.int .u64 100000),(.int .u64 1000000),(.int .u64 10000000),(.int .u64 100000000),(.int .u64 1000000000),(.int .u64 10000000000),(.int .u64 100000000000),(.int .u64 1000000000000),(.int .u64 10000000000000),(.int .u64 100000000000000),(.int .u64 1000000000000000),(.int .u64 10000000000000000),(.int .u64 100000000000000000),(.int .u64 1000000000000000000),(.int .u64 10000000000000000000)])).modify ((Tryz.prog.globalNamed "unicode/utf8.acceptRanges").getD 0) (putC #[(.int .u8 128),(.int .u8 191),(.int .u8 160),(.int .u8 191),(.int .u8 128),(.int .u8 159),(.int .u8 144),(.int .u8 191),(.int .u8 128),(.int .u8 143),(.int .u8 0),(.int .u8 0),(.int .u8 0),(.int .u8 0),(.int .u8 0),(.int .u8 0),(.int .u8 0),(.int .u8 0),(.int .u8 0),(.int .u8 0),(.int .u8 0),(.int .u8 0),(.int .u8 0),(.int .u8 0),(.int .u8 0),(.int .u8 0),(.int .u8 0),(.int .u8 0),(.int .u8 0),(.int .u8 0),(.int .u8 0),(.int .u8 0)])).modify ((Tryz.prog.globalNamed "strconv.ErrRange").getD 0) (putC #[.iface 167 (.pointer (some ⟨Tryz.prog.low+0,0,none⟩))])).modify ((Tryz.prog.globalNamed "strconv.ErrSyntax").getD 0) (putC #[.iface 167 (.pointer (some ⟨Tryz.prog.low+1,0,none⟩))])).modify ((Tryz.prog.globalNamed "unicode/utf8.first").getD 0) (putC ((Go.Pinned.utf8FirstZ.map fun n=>Value.int .u8 (n:Nat)).toArray))) }
theorem laid_met (os:Os):laidMet Tryz.prog Rows.fnConfMergeRow.laid ((laidWorld os).forCall (fun _ _=>0) ⟨#[],#[.slice none 0 0],[]⟩).memory :=
 laidMet_of_run3 8 uu2 uu2 uu2
theorem reads (os:Os) {H:Type} (enc:TypeId×Value->H):∃ places,DataW.whole enc Tryz.prog ((laidWorld os).forCall (fun _ _=>0) ⟨#[],#[.slice none 0 0],[]⟩).memory Tryz.f3.params.toList Rows.fnConfMergeSpec.vars false #[.slice none 0 0].toList 8=some ([.nil],[],places) :=
 ⟨[],by kernel_rfl⟩
theorem err_laid {W:World} {l:List (String×DataW Unit)} (h:laidMet Tryz.prog l W) {n tn:String} {d:DataW Unit} (hm:(n,.iface tn d)∈l) {g:Nat} (hg:Tryz.prog.globalNamed n=some g) (ht:(Tryz.prog.globals[g]?).map (·.type)=some 77) :
  ∃ e,W.cell? ⟨g,0,none⟩=some e/\(e=.nilIface\/∃ te pe,e=.iface te pe):=by
 obtain ⟨g',t',cs,fuel,p,h1,h2,h3,h4⟩:=Lib.laidMet.reads h hm
 obtain rfl:=Sm (hg.symm.trans h1)
 obtain rfl:=Sm (ht.symm.trans h2)
 have hc:∀ i,W.cell? ⟨g,i,none⟩=cs[i]?:=fun i=>by
  unfold World.var? at h3
  rw [hg] at h3
  simp only [Option.bind_some] at h3
  split at h3
  ·rename_i c _ _ hh
   simp only [Qa] at h3
   subst h3
   simp [World.cell?,hh]
  ·cases h3
 cases fuel with
 | zero=>simp [DataW.trod] at h4
 | succ fuel =>
  simp only [DataW.trod,Tryz.underlying77] at h4
  split at h4 <;> first
   | (cases h4; done)
   | (rename_i hcs; refine ⟨_,(hc 0).trans (by rw [<- Tl,hcs]; rfl),?_⟩; first | exact .inl rfl | exact .inr ⟨_,_,rfl⟩)
   | (simp at h4; done)
   | (exfalso; simp_all; done)
theorem lifted (os:Os) (started:os.Started) (H:Type) (enc:TypeId×Value->H) (F:Stop.Interp) :
  ReturnsInHanded {} Tryz.checked os 3 .any ((OpenSpec.ofChange Rows.fnConfMergeSpec).preRow enc Tryz.prog Tryz.f3 Rows.fnConfMergeRow.domain false Rows.fnConfMergeRow.laid) (((OpenSpec.ofChange Rows.fnConfMergeSpec).at F).post enc Tryz.prog Tryz.f3 false true false false):=by
 obtain ⟨places,hx⟩:=reads os enc
 refine returnsInHanded_of_row (C:=Tryz.checked) (s:=OpenSpec.ofChange Rows.fnConfMergeSpec) own started uu2 Tryz.func3
  (witness_row_at (enc:=enc) (C:=Tryz.checked) false (laidWorld os) #[.slice none 0 0] rfl uu2 uu2 uu2
   (OpenSpec.preRow_of_cond 8 hx uu2 (fun k hk=>by cases hk) uu2 (laid_met os))) ?_
 intro W base args ds gs before hval0 hW hcnd _ _ hL hsh _
 have hL':laidMet Tryz.prog Rows.fnConfMergeRow.laid W:=by
  have h0:=hL
  unfold laidMetH at h0
  rw [show (Rows.fnConfMergeRow.laid.filter fun x=>x.2.handleName?.isSome)=[] from by kernel_rfl] at h0
  exact h0
 have hval:∀ (j:Nat) t v,Tryz.f3.params[j]?=some t->args[j]?=some v->Value.okWide Tryz.prog W .any base t v:=hval0
 have hW':=hW
 obtain ⟨p,q,hA0,hV,rfl,hfz,hnd⟩:=hW
 have hA:DataW.TrodAll enc Tryz.prog W 0 (fun _=>true) true Tryz.f3.params.toList args.toList ds p:=hA0
 rw [Tryz.params3] at hA hval
 obtain ⟨v0,vs0,d0,ds0,p0,q0,hargs,rfl,rfl,h0,r0⟩:=trodAll_cons hA
 obtain ⟨rfl,rfl,rfl⟩:=trodAll_nil r0
 obtain rfl:args=#[v0]:=by cases args; simp_all
 obtain ⟨rfl,rfl⟩:=trodVars_none hV
 obtain ⟨fu0,t0⟩:=h0
 obtain ⟨a0,n0,c0,rfl⟩:=okWide_slice Tryz.underlying22 (hval 0 22 v0 rfl rfl)
 obtain ⟨x0,u0,us0,e0,o0,-⟩:=op_22 H enc W fu0 _ _ t0
 obtain rfl:u0=_:=(List.cons.inj e0).1.symm
 have hG:GP W:=⟨fun b hb=>by
  simp only [GBe,Sh,Te,Qr,Rd,Tu] at hb
  rcases hb with rfl | rfl
  ·exact err_laid hL' (n:= "strconv.ErrSyntax") (by unfold Rows.fnConfMergeRow; exact Qj _ (Qj _ (Qj _ (Qj _ (Qj _ (Ql)))))) (show Tryz.prog.globalNamed "strconv.ErrSyntax"=some ((Tryz.prog.globalNamed "strconv.ErrSyntax").getD 0) from by kernel_rfl) uu2
  ·exact err_laid hL' (n:= "strconv.ErrRange") (by unfold Rows.fnConfMergeRow; exact Qj _ (Qj _ (Qj _ (Qj _ (Ql))))) (show Tryz.prog.globalNamed "strconv.ErrRange"=some ((Tryz.prog.globalNamed "strconv.ErrRange").getD 0) from by kernel_rfl) uu2,fun b hb=>by simp only [GBi,Sh,Qr,Rd,Tu] at hb; subst hb; exact layCutM.s1_3 W hsh,fun q hq=>by
  simp only [GBt,Sh,Qr,Rd,Tu] at hq
  subst hq
  obtain ⟨g',t',cs,fuel,p,h1,h2,h3,h4⟩:=Lib.laidMet.reads hL' (n:= "internal/strconv.uint64pow10") (by unfold Rows.fnConfMergeRow; exact Qj _ (Qj _ (Ql)))
  obtain rfl:=Sm ((show Tryz.prog.globalNamed "internal/strconv.uint64pow10"=some ((Tryz.prog.globalNamed "internal/strconv.uint64pow10").getD 0) from by kernel_rfl).symm.trans h1)
  obtain rfl:=Sm ((show (Tryz.prog.globals[(Tryz.prog.globalNamed "internal/strconv.uint64pow10").getD 0]?).map (·.type)=some 171 from by kernel_rfl).symm.trans h2)
  have hc:=Lib.cells_of_tab (k:=.u64) (zs:=Lib.pow10Tab) Tryz.underlying171 Tryz.underlying93 uu2 uu2 h4
  unfold World.var? at h3
  rw [(show Tryz.prog.globalNamed "internal/strconv.uint64pow10"=some ((Tryz.prog.globalNamed "internal/strconv.uint64pow10").getD 0) from by kernel_rfl)] at h3
  simp only [Option.bind_some] at h3
  split at h3
  ·rename_i c T fz hh
   simp only [Qa] at h3
   subst h3
   exact ⟨T,fz,hh.trans (by congr 1; congr 1; exact Ty (by simpa using hc))⟩
  ·cases h3⟩
 have hc:=law_call (W:=W) (vs:=[.slice a0 n0 c0]) (ok3 (⟨a0,n0,c0⟩:SV) x0) trivial (x:=.bool (F3 (⟨a0,n0,c0⟩:SV) x0)) hG ⟨_,_,[],[],rfl,⟨⟨rfl,o0⟩,rfl⟩,⟨rfl,rfl⟩,rfl,Q2⟩ rfl rfl
 rw [plain_3 (⟨a0,n0,c0⟩:SV) x0] at hc
 refine hc.mono fun e W' ⟨he,hb⟩=>?_
 subst he
 exact ⟨_,rfl,law_post rfl hW' hb rfl Tryz.underlying4 rfl rfl rfl laid (by decide +kernel)⟩
theorem said_FnConfMerge:Rows.FnConfMergeSaid :=
 OpenClaim.holds_of_cond 3 Tryz.f3 rfl rfl rfl rfl rfl rfl rfl ⟨rfl,rfl,rfl,rfl,rfl⟩ rfl rfl rfl rfl rfl uu2 Tryz.func3 (by
   show joinedFacts Tryz.prog 3 Tryz.f3 (OpenSpec.ofChange Rows.fnConfMergeSpec).bare Rows.fnConfMergeRow=true
   simp only [joinedFacts,laid,cfMaps,cfKeys,cfLifts,cfHeard,cfEnter,cfMake,cfA,cfB,cfC,cfD,Sz]
   kernel_rfl)
  (Qb uu2) (by unfold Func.isWrapper; first | (rw [if_pos (by decide +kernel)]; kernel_rfl) | (rw [if_neg (by decide +kernel)]; exact ⟨rfl,rfl⟩))
  (fun os started H enc _ F=>by rw [OpenClaim.pre_eq_preRow]; exact lifted os started H enc F)
theorem plainArgs (f:FuncId) (fn:Func) (hf:Tryz.pinned.checked.prog.funcNamed "loop.example/tern/laws.FnConfMerge"=some f) (hfn:Tryz.pinned.checked.prog.funcs[f]?=some fn) :
  true=Tryz.pinned.checked.prog.looks []/\∀ (j:Nat) t,fn.params[j]?=some t->Tryz.pinned.checked.prog.wantsStandIn t=false:=by
 obtain rfl:f=3:=Sm ((show Tryz.prog.funcNamed "loop.example/tern/laws.FnConfMerge"=some 3 by kernel_rfl).symm.trans hf) |>.symm
 obtain rfl:fn=Tryz.f3:=(Sm (Tryz.func3.symm.trans hfn)).symm
 refine ⟨by kernel_rfl,fun j t ht=>?_⟩
 rw [Tryz.params3] at ht
 have hm:=Array.mem_of_getElem? ht
 simp only [List.mem_toArray,Qr,Rd,Tu] at hm
 first | (obtain rfl:=hm; exact (show Tryz.prog.wantsStandIn 22=false by kernel_rfl))
theorem card_wf:Rows.fnConfMergeRow.wfByText (OpenSpec.ofChange Rows.fnConfMergeSpec)=true:=by kernel_rfl
theorem card_main:Tryz.prog.mainIs=some (Rows.fnConfMergeCard.stood.harness.1,Rows.fnConfMergeCard.stood.harness.2.toList):=by kernel_rfl
theorem card_goes:false=Rows.fnConfMergeRow.goesBy Tryz.prog:=by kernel_rfl
theorem proved_FnConfMerge:Rows.FnConfMergeCardSaid :=
 Claim7.holds_tied_plain_at .later [] _ _ _ _ said_FnConfMerge (fun _ h=>by cases h) card_wf (fun _ h=>by cases h) fnConfMerge_row_tie rfl ⟨rfl,rfl⟩ card_main rfl plainArgs card_goes
#print axioms proved_FnConfMerge
end Go.Proofs.YtpeklolpimhioaaGreatDoor
