/- A part of the proof of FnExactTernRules. Texts put together: PA5, PA6, PA7, PA8, PJ1, VFF, PFF, PCL0, VCL, PCL, PK0, VK, PK1, VK2, PK2, PLP, VN0, PN0, VN, PN1N, PCK0, VCKA, PCKB. -/
import Derived.Test.YtcgfkhokhiggkaaGreatDoorRows
import Derived.Test.YtcgfkhokhiggkaaGreatDoorZC56C
namespace Go.Proofs.YtcgfkhokhiggkaaGreatDoor
open Go.RowKit
set_option maxRecDepth 100000
set_option linter.unusedVariables false
set_option linter.unusedSimpArgs false
theorem Tk (s:ByteArray) (st:Int→Lp Int Bool) (p:UInt8→Bool) (y:Bool)
  (h1:∀ (i:Nat),i<s.size→∀ b,s.data.toList.getD i 0=b→st (i:Int)=bif p b then .next ((i+1:Nat):Int) else .ret false)
  (h2:st (s.size:Int)=.done (s.size:Int)):∀ (m i:Nat),i+m=s.size→∀ fuel,m<fuel→(runL st fuel (i:Int)).fin (fun r=>r) (fun _=>y)=bif (s.data.toList.drop i).all p then y else false
 | m,i,_,0,hf=>absurd hf (Nat.not_lt_zero _)
 | 0,i,h,fuel+1,hf=>by
  have hl:s.data.toList.length=s.size:=Array.length_toList
  obtain rfl:i=s.size:=by omega
  rw [Ky _ h2,List.drop_of_length_le (by omega)]
  rfl
 | m+1,i,h,fuel+1,hf=>by
  have hl:s.data.toList.length=s.size:=Array.length_toList
  have hb:s.data.toList.drop i=s.data.toList.getD i 0 :: s.data.toList.drop (i+1):=by
   rw [List.drop_eq_getElem_cons (by omega),List.getD_eq_getElem?_getD,List.getElem?_eq_getElem (by omega)]; rfl
  have hst:=h1 i (by omega) _ rfl
  rw [hb,List.all_cons]
  generalize s.data.toList.getD i 0=b at hst ⊢
  cases hd:p b with
  | false =>
   rw [hd,cond_false] at hst
   rw [Zp _ hst]; rfl
  | true =>
   rw [hd,cond_true] at hst
   rw [Ye _ hst,Tk s st p y h1 h2 m (i+1) (by omega) fuel (by omega),Bool.true_and]
def Qej (b:UInt8):Bool:=decide (b.toNat=45) || decide (97≤b.toNat∧b.toNat≤122) || decide (48≤b.toNat∧b.toNat≤57)
def Qua (l:List UInt8):Bool:=decide (1≤l.length∧l.length≤8)&&l.all Qej
theorem bne45 (b:UInt8):((b.toNat:Int) != 45)=!decide (b.toNat=45):=by
 cases h:decide (b.toNat=45) with
 | true =>
  have:=of_decide_eq_true h
  rw [this]; rfl
 | false =>
  have:=of_decide_eq_false h
  rw [Bool.not_false,bne_iff_ne]; omega
theorem Qlw (b:UInt8) (lo hi:Nat):(bif decide ((b.toNat:Int)<(lo:Int)) then true else decide ((b.toNat:Int)>(hi:Int)))=!decide (lo≤b.toNat∧b.toNat≤hi):=by
 by_cases h1:(b.toNat:Int)<(lo:Int)
 ·rw [decide_eq_true h1,cond_true,decide_eq_false (by omega)]; rfl
 ·rw [decide_eq_false h1,cond_false]
  by_cases h2:(b.toNat:Int)>(hi:Int)
  ·rw [decide_eq_true h2,decide_eq_false (by omega)]; rfl
  ·rw [decide_eq_false h2,decide_eq_true (by omega)]; rfl
theorem Qqx (b:UInt8) (lo hi:Nat):decide ((lo:Int)≤(b.toNat:Int)∧(b.toNat:Int)≤(hi:Int))=decide (lo≤b.toNat∧b.toNat≤hi):=by
 congr 1
 exact propext ⟨fun h=>by omega,fun h=>by omega⟩
theorem Qmk (s:ByteArray):F257 s=Qua s.data.toList:=by
 have hl:s.data.toList.length=s.size:=Array.length_toList
 have h:=Tk s (Vh s) Qej (decide (1≤(s.size:Int)∧(s.size:Int)≤8)) (fun i hi b hb=>by
  have a1:=Qlw b 97 122
  have a2:=Qlw b 48 57
  have c1:((97:Nat):Int)=97:=rfl
  have c2:((122:Nat):Int)=122:=rfl
  have c3:((48:Nat):Int)=48:=rfl
  have c4:((57:Nat):Int)=57:=rfl
  rw [c1,c2] at a1
  rw [c3,c4] at a2
  simp only [Vh,decide_eq_true (show (i:Int)<(s.size:Int) by omega),cond_true,Int.toNat_natCast,Zx,hb,bne45,a1,a2,Qej]
  cases decide (b.toNat=45) <;> cases decide (97≤b.toNat∧b.toNat≤122) <;> cases decide (48≤b.toNat∧b.toNat≤57) <;> rfl)
  (by simp only [Vh,decide_eq_false (show ¬ (s.size:Int)<(s.size:Int) by omega),cond_false]) s.size 0 (by omega) (Int.toNat ((s.size:Int)-0)+1) (by omega)
 unfold F257
 refine h.trans ?_
 rw [List.drop_zero,Qua]
 have e:decide ((1:Int)≤(s.size:Int)∧(s.size:Int)≤8)=decide (1≤s.data.toList.length∧s.data.toList.length≤8):=by
  congr 1
  exact propext ⟨fun h=>by omega,fun h=>by omega⟩
 rw [e]
 cases s.data.toList.all Qej <;> cases decide (1≤s.data.toList.length∧s.data.toList.length≤8) <;> rfl
theorem Qkn (s:ByteArray):F250 s=Qua s.data.toList:=by
 have hl:s.data.toList.length=s.size:=Array.length_toList
 have h:=Tk s (Vu s) Qej true (fun i hi b hb=>by
  have a1:=Qqx b 97 122
  have a2:=Qqx b 48 57
  have c1:((97:Nat):Int)=97:=rfl
  have c2:((122:Nat):Int)=122:=rfl
  have c3:((48:Nat):Int)=48:=rfl
  have c4:((57:Nat):Int)=57:=rfl
  rw [c1,c2] at a1
  rw [c3,c4] at a2
  simp only [Vu,decide_eq_true (show (i:Int)<(s.size:Int) by omega),cond_true,Int.toNat_natCast,Zx,hb,bne45,Qak,a1,a2,Qej]
  cases decide (b.toNat=45) <;> cases decide (97≤b.toNat∧b.toNat≤122) <;> cases decide (48≤b.toNat∧b.toNat≤57) <;> rfl)
  (by simp only [Vu,decide_eq_false (show ¬ (s.size:Int)<(s.size:Int) by omega),cond_false]) s.size 0 (by omega) (Int.toNat ((s.size:Int)-0)+1) (by omega)
 unfold F250
 rw [List.drop_zero] at h
 have e:decide ((1:Int)≤(s.size:Int)∧(s.size:Int)≤8)=decide (1≤s.data.toList.length∧s.data.toList.length≤8):=by
  congr 1
  exact propext ⟨fun h=>by omega,fun h=>by omega⟩
 rw [e,Qua]
 cases decide (1≤s.data.toList.length∧s.data.toList.length≤8) with
 | false=>rfl
 | true =>
  refine h.trans ?_
  cases s.data.toList.all Qej <;> rfl
theorem Kc (s:ByteArray):F257 s=F250 s:=(Qmk s).trans (Qkn s).symm
def anyF (c:Nat→Bool):Nat→Nat→Bool
 | _,0=>false
 | i,m+1=>c i || anyF c (i+1) m
theorem Yn {ρ τ:Type} (st:Int→Lp Int ρ) (n:Nat) (c:Nat→Bool) (bad:ρ) (f:ρ→τ) (y:τ) (h1:∀ i,i<n→st (i:Int)=bif c i then .ret bad else .next ((i+1:Nat):Int)) (h2:st (n:Int)=.done (n:Int)) :
  ∀ (m i:Nat),i+m=n→∀ fuel,m<fuel→(runL st fuel (i:Int)).fin f (fun _=>y)=bif anyF c i m then f bad else y
 | m,i,_,0,hf=>absurd hf (Nat.not_lt_zero _)
 | 0,i,h,fuel+1,hf=>by
  obtain rfl:i=n:=by omega
  rw [Ky _ h2]; rfl
 | m+1,i,h,fuel+1,hf=>by
  have hst:=h1 i (by omega)
  rw [anyF]
  cases hd:c i with
  | true =>
   rw [hd,cond_true] at hst
   rw [Zp _ hst]; rfl
  | false =>
   rw [hd,cond_false] at hst
   rw [Ye _ hst,Yn st n c bad f y h1 h2 m (i+1) (by omega) fuel (by omega),Bool.false_or]
theorem Lr (ws:List ByteArray) (x:ByteArray):F272 ws x=ws.any fun e=>x.toList==e.toList:=by
 unfold F272
 rw [← Qas]
 congr 1
 exact congrArg (·≥0) (Jn (fun e:ByteArray=>x.toList==e.toList) ws (Hq ws x) (fun i=>rfl))
theorem Qgm (ws:List ByteArray) (p:ByteArray→Bool):∀ (m i:Nat),i+m=ws.length→anyF (fun k=>p (ws.getD k default)) i m=(ws.drop i).any p
 | 0,i,h=>by rw [List.drop_of_length_le (by omega)]; rfl
 | m+1,i,h=>by
  rw [List.drop_eq_getElem_cons (by omega),List.any_cons,anyF,Qgm ws p m (i+1) (by omega),List.getD_eq_getElem?_getD,List.getElem?_eq_getElem (by omega)]
  rfl
theorem Qbq (ws:List ByteArray) (x:ByteArray):F96 ws x=ws.any fun e=>e.toList==x.toList:=by
 have h:=Yn (Bs ws x) ws.length (fun k=>(ws.getD k default).toList==x.toList) true (fun r=>r) false (fun i hi=>by
  simp only [Bs,decide_eq_true (show (i:Int)<(ws.length:Int) by omega),cond_true,Int.toNat_natCast]
  rfl) (by simp only [Bs,decide_eq_false (show ¬ (ws.length:Int)<(ws.length:Int) by omega),cond_false]) ws.length 0 (by omega) (Int.toNat ((ws.length:Int)-0)+1) (by omega)
 unfold F96
 refine h.trans ?_
 rw [Qgm ws (fun e=>e.toList==x.toList) ws.length 0 (by omega),List.drop_zero]
 cases (ws.any fun e=>e.toList==x.toList) <;> rfl
theorem Qxw (ws:List ByteArray) (x:ByteArray):F272 ws x=F96 ws x:=by
 rw [Lr,Qbq]
 congr 1
 funext e
 rw [Bool.eq_iff_iff,beq_iff_eq,beq_iff_eq]
 exact eq_comm
def Bu (ws:List ByteArray) (k:Nat):Bool:=bif (!(F96 F268 (ws.getD k default))) then true else (bif decide ((k:Int)>0) then (!(Op.bytesLess (ws.getD ((k:Int)-1).toNat default).toList (ws.getD k default).toList)) else false)
def Qah (s:ByteArray):Bool:=bif (bif (s.toList==(⟨#[97,108,108]⟩:ByteArray).toList) then true else (s.toList==(⟨#[110,111,110,101]⟩:ByteArray).toList)) then true else !anyF (Bu (Qx s ⟨#[44]⟩)) 0 (Qx s ⟨#[44]⟩).length
theorem Qet (s:ByteArray):(F270 s).2=Qah s:=by
 have e90:∀ t u:ByteArray,F120 t u=Qx t u:=fun _ _=>rfl
 have h:=Yn (Jz s) (Qx s ⟨#[44]⟩).length (Bu (Qx s ⟨#[44]⟩)) (([]:List ByteArray),false) (fun r=>r) ((Qx s ⟨#[44]⟩),true) (fun i hi=>by
  have hh:=Qxw F268 ((Qx s ⟨#[44]⟩).getD i default)
  unfold F268 at hh
  simp only [Jz,e90,decide_eq_true (show (i:Int)<((Qx s ⟨#[44]⟩).length:Int) by omega),cond_true,Int.toNat_natCast,hh]
  rfl) (by simp only [Jz,e90,decide_eq_false (show ¬ ((Qx s ⟨#[44]⟩).length:Int)<((Qx s ⟨#[44]⟩).length:Int) by omega),cond_false]) (Qx s ⟨#[44]⟩).length 0 (by omega) (Int.toNat (((Qx s ⟨#[44]⟩).length:Int)-0)+1) (by omega)
 unfold F270 Qah
 cases (bif (s.toList==(⟨#[97,108,108]⟩:ByteArray).toList) then true else (s.toList==(⟨#[110,111,110,101]⟩:ByteArray).toList)) with
 | true=>rfl
 | false =>
  rw [cond_false,cond_false]
  refine (congrArg (fun r:List ByteArray×Bool=>r.2) h).trans ?_
  cases anyF (Bu (Qx s ⟨#[44]⟩)) 0 (Qx s ⟨#[44]⟩).length <;> rfl
theorem Qer (s:ByteArray):F251 s=Qah s:=by
 have hc:F116 s 44=Qx s ⟨#[44]⟩:=Qex s 44
 have h:=Yn (Vx s) (Qx s ⟨#[44]⟩).length (Bu (Qx s ⟨#[44]⟩)) false (fun r=>r) true (fun i hi=>by
  simp only [Vx,hc,decide_eq_true (show (i:Int)<((Qx s ⟨#[44]⟩).length:Int) by omega),cond_true,Int.toNat_natCast]
  rfl) (by simp only [Vx,hc,decide_eq_false (show ¬ ((Qx s ⟨#[44]⟩).length:Int)<((Qx s ⟨#[44]⟩).length:Int) by omega),cond_false]) (Qx s ⟨#[44]⟩).length 0 (by omega) (Int.toNat (((Qx s ⟨#[44]⟩).length:Int)-0)+1) (by omega)
 unfold F251 Qah
 rw [hc]
 cases (bif (s.toList==(⟨#[97,108,108]⟩:ByteArray).toList) then true else (s.toList==(⟨#[110,111,110,101]⟩:ByteArray).toList)) with
 | true=>rfl
 | false =>
  rw [cond_false,cond_false]
  refine h.trans ?_
  cases anyF (Bu (Qx s ⟨#[44]⟩)) 0 (Qx s ⟨#[44]⟩).length <;> rfl
theorem Qmi (s:ByteArray):(F270 s).2=F251 s:=(Qet s).trans (Qer s).symm
theorem Tj (s:ByteArray):F44 s=num6 s.data.toList:=by
 have hl:s.data.toList.length=s.size:=Array.length_toList
 have e209:F85 s=decN s:=rfl
 unfold F44
 by_cases h:s.size≤6
 ·rw [decide_eq_false (show ¬ (s.size:Int)>6 by omega),cond_false,e209,Rv s h]
 ·rw [decide_eq_true (show (s.size:Int)>6 by omega),cond_true]
  unfold num6
  rw [decide_eq_false (show ¬ s.data.toList.length≤6 by omega),Bool.and_false]; rfl
theorem Wm (s:ByteArray):F44 s=F79 s:=(Tj s).trans (Jj s).symm
theorem Yt (s:ByteArray):F261 s=decide (F78 s≥0):=by
 unfold F261
 rw [Ry]
theorem Yb (s:ByteArray):F259 s=F252 s:=Qoa s
theorem Uz (s:ByteArray):F258 s=F251 s:=Qmi s
theorem Qcl (list:List ByteArray) (sep:ByteArray):∀ (m i:Nat) (out:ByteArray),i+m=list.length→1≤i→∀ fuel,m<fuel →
  ((runL (Zs list sep) fuel (out,(i:Int))).fin (fun r=>r) (fun (out,i40)=>out)).data.toList=out.data.toList++Lib.joinTail sep.data.toList ((list.drop i).map (·.data.toList))
 | m,i,out,_,_,0,hf=>absurd hf (Nat.not_lt_zero _)
 | 0,i,out,h,h1,fuel+1,hf=>by
  have hst:Zs list sep (out,(i:Int))=.done (out,(i:Int)):=by
   simp only [Zs,decide_eq_false (show ¬ (i:Int)<(list.length:Int) by omega),cond_false]
  rw [Ky _ hst,List.drop_of_length_le (by omega)]
  simp [Lib.joinTail,Lp.fin]
 | m+1,i,out,h,h1,fuel+1,hf=>by
  have hst:Zs list sep (out,(i:Int))=.next ((out++sep)++list.getD i default,((i+1:Nat):Int)):=by
   simp only [Zs,decide_eq_true (show (i:Int)<(list.length:Int) by omega),decide_eq_true (show (i:Int)>0 by omega),cond_true,Int.toNat_natCast]
   rfl
  rw [Ye _ hst,Qcl list sep m (i+1) _ (by omega) (by omega) fuel (by omega)]
  rw [List.drop_eq_getElem_cons (show i<list.length by omega),List.map_cons,List.getD_eq_getElem?_getD,List.getElem?_eq_getElem (show i<list.length by omega)]
  simp [Lib.joinTail,ByteArray.data_append,Array.toList_append,List.append_assoc]
theorem Qac (list:List ByteArray) (sep:ByteArray):F236 list sep=Yv list sep:=by
 refine Ww ?_
 show _=Lib.join (list.map (·.data.toList)) sep.data.toList
 unfold F236
 cases list with
 | nil=>rfl
 | cons a t =>
  have hst:Zs (a :: t) sep ((⟨#[]⟩:ByteArray),0)=.next ((⟨#[]⟩:ByteArray)++a,((1:Nat):Int)):=by
   simp only [Zs,decide_eq_true (show (0:Int)<((a :: t).length:Int) by simp only [List.length_cons]; omega),decide_eq_false (show ¬ (0:Int)>0 by omega),cond_true,cond_false]
   rfl
  rw [Ye _ hst,Qcl (a :: t) sep t.length 1 _ (by simp only [List.length_cons]; omega) (by omega) _ (by simp only [List.length_cons]; omega)]
  rw [ByteArray.data_append,Array.toList_append,List.drop_succ_cons,List.drop_zero]
  exact (Lib.join_cons _ _ _).symm
theorem kc44 (word:ByteArray) {K_:Prop} (p0_:word.size≤1048576) (k_:K_):(word.size≤1048576)∧(Imp (.v (.string word)) (.v (.string word)))∧K_:=⟨p0_,Imp.refl _,k_⟩
abbrev kh44 (word:ByteArray):Hint false Tryz.prog:=.call 44 (S44 word) (ok44 word) none
def F269 (word:ByteArray) (p1:Int) (p2:Int):Bool :=
 (decide (p1≤(F44 word)∧(F44 word)≤p2))
def S269 (word:ByteArray) (p1:Int) (p2:Int):Spec:=⟨[.r (.c (.v (.string word))),.rp ([.v (vI p1)]),.rp ([.v (vI p2)])],.v (.bool (F269 word p1 p2)),word.size≤1048576⟩
theorem ok269 (word:ByteArray) (p1:Int) (p2:Int):(S269 word p1 p2).ok Tryz.prog 269 false :=
 Qg mixed (fn:=Tryz.f269) (ct:=.seq .no (.seq (.reg [(1,kh44 word),(4,Qec (F44 word) p1 p2)]) .no)) Tryz.func269 (fun (hpre0:word.size≤1048576)=>kc44 word (by omega) (Qly (F44 word) p1 p2 (fiB (decide (p1≤(F44 word)∧(F44 word)≤p2)) (F269 word p1 p2) rfl))) (by kernel_rfl)
def F256 (low:Int) (high:Int):Unit :=
 ()
def S256 (low:Int) (high:Int):Spec:=⟨[.r (.c (.v (vI low))),.r (.c (.v (vI high)))],.cl 269 [.pt 3 [.v (vI low)],.pt 3 [.v (vI high)]],True⟩
theorem ok256 (low:Int) (high:Int):(S256 low high).ok Tryz.prog 256 :=
 Qg mixed (fn:=Tryz.f256) (ct:=.seq .no (.seq .no .no)) Tryz.func256 (fun (_:True)=>(fun hF:(():Unit)=(F256 low high)=>ai (Imps.refl [.v (vI low)]) (ai (Imps.refl [.v (vI high)]) trivial)) rfl) (by kernel_rfl)
def F271 (word:ByteArray) (p1:List ByteArray):Bool :=
 (F272 p1 word)
def S271 (word:ByteArray) (p1:List ByteArray):Spec:=⟨[.r (.c (.v (.string word))),.rp ([.l 1 eStr p1])],.v (.bool (F271 word p1)),word.size≤1048576⟩
theorem ok271 (word:ByteArray) (p1:List ByteArray):(S271 word p1).ok Tryz.prog 271 :=
 Qg mixed (fn:=Tryz.f271) (ct:=.seq .no (.seq (.reg [(2,kh272 p1 word)]) .no)) Tryz.func271 (fun (hpre0:word.size≤1048576)=>kc272 p1 word (fiB (F272 p1 word) (F271 word p1) rfl)) (by kernel_rfl)
def F260 (words:List ByteArray):Unit :=
 ()
def S260 (words:List ByteArray):Spec:=⟨[.ow (.l 1 eStr words) none],.cl 271 [.pt 22 [.l 1 eStr words]],True⟩
theorem ok260 (words:List ByteArray):(S260 words).ok Tryz.prog 260 :=
 Qg mixed (fn:=Tryz.f260) (ct:=.seq .no (.seq .no .no)) Tryz.func260 (fun (_:True)=>(fun hF:(():Unit)=(F260 words)=>ai (Imps.refl [.l 1 eStr words]) trivial) rfl) (by kernel_rfl)
structure Qq where
 word:ByteArray
 key:Int
 checks:SV
 deriving Inhabited
def Ud (x:Qq):List Dat:=[.v (.string x.word),.v (vI x.key),.v (sv x.checks)]
def F263 (f:Qq) (p1:ByteArray):Bool :=
 (!(f.word.toList==p1.toList))
def S263 (f:Qq) (p1:ByteArray):Spec:=⟨[.r (.g (Ud f)),.rp ([.v (.string p1)])],.v (.bool (F263 f p1)),True⟩
theorem ok263 (f:Qq) (p1:ByteArray):(S263 f p1).ok Tryz.prog 263 :=
 Qg mixed (fn:=Tryz.f263) (ct:=.seq .no (.seq .no .no)) Tryz.func263 (fun (_:True)=>(fun hF:((!(f.word.toList==p1.toList)):Bool)=(F263 f p1)=>ai (congrArg (fun r:Bool=>(.bool r:Value)) hF) trivial) rfl) (by kernel_rfl)
def Yp (Q:Qq→Prop) (p:Qq→Bool):Uv:=⟨Qq,fun i=>[.g (pxH (Ud i) (Q i))],fun i=>.bool (p i)⟩
def Yy (s:List Qq) (f:Qq→Bool):Int→Lp Int Int:=fun v8 =>
 bif (decide (v8<(s.length:Int))) then (bif (f (s.getD v8.toNat default)) then (.ret v8) else (.next (v8+1))) else (.done v8)
def F273 (s:List Qq) (f:Qq→Bool):Int :=
 (runL (Yy s f) (((s.length:Int)-0).toNat+1) 0).fin (fun r=>r) (fun v8=>(-1))
def S273 (R:Int) (s:List Qq) (f:Qq→Bool) (Qf:Qq→Prop):Spec:=⟨[.r (.c (.l 3 Ud s)),.fn (Yp Qf f)],.v (vI R),(∀ k:Nat,k<s.length→Qf (s.getD k default))⟩
theorem ok273 (s:List Qq) (f:Qq→Bool) (Qf:Qq→Prop):(S273 (F273 s f) s f Qf).ok Tryz.prog 273 false :=
 Qg mixed (fn:=Tryz.f273) (ct:=.seqk [(0,0)] .no (.seq (.seqk [(0,0)] .no (.blk (.loop (ι:=Nat×Int) (fun i=>(fun (v8:Int)=>(⟨[(0,some (.h 0 0)),(1,some (.h 1 0)),(7,some (.v (vI (s.length:Int)))),(8,some (.v (vI v8)))],[(0,some (.shr none (.l 3 Ud s))),(1,some (.fn (Yp Qf f)))],2⟩:St)) i.2) (fun i=>runL (Yy s f) i.1 i.2=(runL (Yy s f) (((s.length:Int)-0).toNat+1) 0)∧(fun (v8:Int)=>(Int.toNat ((s.length:Int)-v8)<i.1∧(0:Int)≤v8)) i.2) (fun i=>i.1) ((((s.length:Int)-0).toNat+1),0) (fun i=>(fun (v8:Int)=>(.seq .no (.seq (.cond .no .no) (.seq (.blk (.seq .no (.seq (.reg [(5,.fnv (Yp Qf f) (s.getD v8.toNat default))]) (.cond (.seq .no .no) .no)))) (.reg [(0,.bnd)]))))) i.2)))) (.seq .no .no))) Tryz.func273 (fun (hpre0:∀ k:Nat,k<s.length→Qf (s.getD k default))=>kn s fun _=>kn s fun _=>ai (ai rfl (ai rfl (ai ir (ai rfl (ai (rfl:runL (Yy s f) (((s.length:Int)-0).toNat+1) 0=(runL (Yy s f) (((s.length:Int)-0).toNat+1) 0)) (ai (Nat.lt_succ_self _:Int.toNat ((s.length:Int)-0)<(((s.length:Int)-0).toNat+1)) (by omega:(0:Int)≤0)))))):((.int .i64 (s.length:Int):Value)=.int .i64 (s.length:Int))∧((.int .i64 0:Value)=.int .i64 0)∧(Imp (.l 3 Ud s) (.l 3 Ud s))∧(Yp Qf f=Yp Qf f)∧(runL (Yy s f) (((s.length:Int)-0).toNat+1) 0=(runL (Yy s f) (((s.length:Int)-0).toNat+1) 0)∧Int.toNat ((s.length:Int)-0)<(((s.length:Int)-0).toNat+1)∧(0:Int)≤0)) (fun (i0:Nat×Int) (hi0:runL (Yy s f) i0.1 i0.2=(runL (Yy s f) (((s.length:Int)-0).toNat+1) 0)∧(fun (v8:Int)=>(Int.toNat ((s.length:Int)-v8)<i0.1∧(0:Int)≤v8)) i0.2)=>(fun (m0:Nat) (v8:Int) (hI0:runL (Yy s f) (m0+1) v8=(runL (Yy s f) (((s.length:Int)-0).toNat+1) 0)) (_:Int.toNat ((s.length:Int)-v8)<m0+1) (hl0:m0<i0.1) (_:(0:Int)≤v8)=>ifd (v8<(s.length:Int)) (fun h2 _=>ai (by omega:ib v8 s) (ai (Eq.refl (Yp Qf f)) (ai (Imps.pxH (ds:=Ud (s.getD v8.toNat default)) (hpre0 v8.toNat (by omega))) (ifb (f (s.getD v8.toNat default)) (fun h3=>(fun hF:(v8:Int)=(F273 s f)=>ai (congrArg (fun r:Int=>(.int .i64 r:Value)) hF) trivial) (finR (Qp hI0 (condT h2 (condT h3 rfl))) rfl)) (fun h3=>ai (iok (v8+1) (by omega)) (Exists.intro (p:=fun j:Nat×Int=>(fun (v8_:Int)=>(((.int .i64 (s.length:Int):Value)=.int .i64 (s.length:Int))∧((.int .i64 (v8+1):Value)=.int .i64 v8_)∧(Imp (.l 3 Ud s) (.l 3 Ud s))∧(Yp Qf f=Yp Qf f)∧((runL (Yy s f) j.1 j.2=(runL (Yy s f) (((s.length:Int)-0).toNat+1) 0)∧Int.toNat ((s.length:Int)-v8_)<j.1∧(0:Int)≤v8_)∧j.1<i0.1))) j.2) (m0,(v8+1)) (ai rfl (ai rfl (ai ir (ai rfl (ai (ai (Qc hI0 (condT h2 (condF h3 rfl))) (ai (by omega:Int.toNat ((s.length:Int)-(v8+1))<m0) (by omega:(0:Int)≤(v8+1)))) hl0))))))))))) (fun h2 _=>(fun hD0_4:(runL (Yy s f) (((s.length:Int)-0).toNat+1) 0)=Lp.done v8=>(fun hF:((-1):Int)=(F273 s f)=>ai (congrArg (fun r:Int=>(.int .i64 r:Value)) hF) trivial) (finD hD0_4 rfl)) (Qi hI0 (condF h2 rfl)))) (i0.1-1) i0.2 (hd1 hi0.1 hi0.2.1) (hd2 hi0.2.1) (hd3 hi0.2.1) hi0.2.2)) (by kernel_rfl)
theorem as273 (s:List Qq) (f:Qq→Bool):F273 s f=(idxI f s):=by
 exact Jn f s (Yy s f) (fun i=>rfl)
theorem oa273 (s:List Qq) (f:Qq→Bool) (Qf:Qq→Prop):(S273 (idxI f s) s f Qf).ok Tryz.prog 273 false:=by
 intro hp; have h:=ok273 s f Qf hp; rw [as273 s f] at h; exact h
theorem g273_0 (s:List Qq) (f:Qq→Bool):(idxI f s)<(s.length:Int):=by
 exact Hi f s
theorem g273_1 (s:List Qq) (f:Qq→Bool):-1≤(idxI f s):=by
 (show -1≤idxI f s; unfold idxI; cases first (fun k=>f (s.getD k default)) s.length <;> simp only [oix] <;> omega)
def Yl (s:List Qq) (del:Qq→Bool):(Int×Int×List Qq)→Lp (Int×Int×List Qq) (List Qq):=fun (i41,j1,xs) =>
 bif (decide (j1<(xs.length:Int))) then (bif (!(del (xs.getD j1.toNat default))) then (.next ((i41+1),(j1+1),(xs.set (i41).toNat (xs.getD j1.toNat default)))) else (.next (i41,(j1+1),xs))) else (.done (i41,j1,xs))
def Pk (s:List Qq) (del:Qq→Bool):Lp (List Qq×Int) (List Qq) :=
 (runL (Yl s del) (((s.length:Int)-((idxI del s)+1)).toNat+1) ((idxI del s),((idxI del s)+1),s)).fin Lp.ret (fun (i41,j1,xs)=>.done (xs,i41))
def F262 (s:List Qq) (del:Qq→Bool):List Qq :=
 bif ((idxI del s)==(-1)) then s else ((Pk s del).fin (fun r=>r) (fun (s1,i40)=>((s1.take i40.toNat++List.replicate (s1.drop i40.toNat).length ((⟨(⟨#[]⟩:ByteArray),0,(⟨none,0,0⟩:SV)⟩:Qq):Qq)++s1.drop (i40.toNat+(s1.drop i40.toNat).length)).take i40.toNat)))
def S262 (R:List Qq) (s:List Qq) (del:Qq→Bool) (Qdel:Qq→Prop):Spec:=⟨[.ow (.l 3 Ud s) none,.fn (Yp Qdel del)],.ow (.l 3 Ud R),s.length≤1000000000∧(∀ k:Nat,k<s.length→Qdel (s.getD k default))⟩
abbrev Xu (xs:List Qq) (i41:Int) (j1:Int):=(xs.set (i41).toNat (xs.getD j1.toNat default))
theorem ok262 (s:List Qq) (del:Qq→Bool) (Qdel:Qq→Prop):(S262 (F262 s del) s del Qdel).ok Tryz.prog 262 false :=
 Qg mixed (fn:=Tryz.f262) (ct:=.seqk [(0,0)] .no (.seq (.reg [(2,.call 273 (S273 (idxI del s) s del Qdel) (oa273 s del Qdel) none)]) (.seq (.seq .no (.cond (.seq .no .no) .no)) (.cut (ι:=List Qq×Int) (fun j=>(fun (s1:List Qq) (i40:Int)=>(⟨[(0,some (.h 0 0)),(5,some (.v (vI i40)))],[(0,some (.own 0 (.l 3 Ud s1)))],1⟩:St)) j.1 j.2) (fun j=>(fun (s1:List Qq) (i40:Int)=>((Pk s del)=Lp.done j∧(0≤i40∧i40≤(s1.length:Int)))) j.1 j.2) (.seqk [(0,0)] (.reg [(1,.bnd)]) (.blk (.loop (ι:=Nat×(Int×Int×List Qq)) (fun i=>(fun (i41:Int) (j1:Int) (xs:List Qq)=>(⟨[(0,some (.h 0 0)),(1,some (.h 1 0)),(5,some (.v (vI i41))),(6,some (.v (vI j1)))],[(0,some (.own 0 (.l 3 Ud xs))),(1,some (.fn (Yp Qdel del)))],2⟩:St)) i.2.1 i.2.2.1 i.2.2.2) (fun i=>runL (Yl s del) i.1 i.2=(runL (Yl s del) (((s.length:Int)-((idxI del s)+1)).toNat+1) ((idxI del s),((idxI del s)+1),s))∧(fun (i41:Int) (j1:Int) (xs:List Qq)=>(Int.toNat ((xs.length:Int)-j1)<i.1∧(0≤i41∧i41<j1)∧j1≤(xs.length:Int)∧xs.length≤1000000000∧(∀ k:Nat,j1≤(k:Int)→k<xs.length→Qdel (xs.getD k default))∧xs.length=s.length)) i.2.1 i.2.2.1 i.2.2.2) (fun i=>i.1) ((((s.length:Int)-((idxI del s)+1)).toNat+1),((idxI del s),((idxI del s)+1),s)) (fun i=>(fun (i41:Int) (j1:Int) (xs:List Qq)=>(.seq (.seq .no (.cond .no .no)) (.seq (.blk (.seq .no (.seq (.reg [(2,.fnv (Yp Qdel del) (xs.getD j1.toNat default))]) (.cond (.seq (.reg [(4,.dat (.l 3 Ud (Xu xs i41 j1)))]) (.reg [(1,.bnd)])) .no)))) (.reg [(1,.bnd)])))) i.2.1 i.2.2.1 i.2.2.2)))) (fun j=>(fun (s1:List Qq) (i40:Int)=>(.seq (.reg [(2,.part),(3,.dat (.l 3 Ud (s1.take i40.toNat++List.replicate (s1.drop i40.toNat).length ((⟨w13_,0,(⟨none,0,0⟩:SV)⟩:Qq):Qq)++s1.drop (i40.toNat+(s1.drop i40.toNat).length))))]) (.seq (.reg [(2,.own)]) .no))) j.1 j.2))))) Tryz.func262 (fun (hp:s.length≤1000000000∧(∀ k:Nat,k<s.length→Qdel (s.getD k default)))=>have hpre0:=hp.1; have hpre1:=hp.2; kn s fun _=>ai (by assumption:∀ k:Nat,k<s.length→Qdel (s.getD k default)) (ai (Imp.refl (.l 3 Ud s)) (ai (Eq.refl (Yp Qdel del)) (have gv1:(idxI del s)<(s.length:Int):=g273_0 s del; have gv2:-1≤(idxI del s):=g273_1 s del; ife (idxI del s) (-1) (fun h3 _=>(fun hF:(s:List Qq)=(F262 s del)=>ai (Imp.of_eq (congrArg (fun r:List Qq=>Dat.l 3 Ud r) hF)) trivial) (condT h3 rfl)) (fun h3 _=>ai (ai (iok ((idxI del s)+1) (by omega)) (kn s fun _=>ai (ai rfl (ai rfl (ai ir (ai rfl (ai (rfl:runL (Yl s del) (((s.length:Int)-((idxI del s)+1)).toNat+1) ((idxI del s),((idxI del s)+1),s)=(runL (Yl s del) (((s.length:Int)-((idxI del s)+1)).toNat+1) ((idxI del s),((idxI del s)+1),s))) (ai (Nat.lt_succ_self _:Int.toNat ((s.length:Int)-((idxI del s)+1))<(((s.length:Int)-((idxI del s)+1)).toNat+1)) (ai (by omega:0≤(idxI del s)∧(idxI del s)<((idxI del s)+1)) (ai (by omega:((idxI del s)+1)≤(s.length:Int)) (ai (by omega:s.length≤1000000000) (ai (by (intro k hk hk2; exact (by assumption:∀ k:Nat,k<s.length→Qdel (s.getD k default)) k hk2):∀ k:Nat,((idxI del s)+1)≤(k:Int)→k<s.length→Qdel (s.getD k default)) (by omega:s.length=s.length)))))))))):((.int .i64 (idxI del s):Value)=.int .i64 (idxI del s))∧((.int .i64 ((idxI del s)+1):Value)=.int .i64 ((idxI del s)+1))∧(Imp (.l 3 Ud s) (.l 3 Ud s))∧(Yp Qdel del=Yp Qdel del)∧(runL (Yl s del) (((s.length:Int)-((idxI del s)+1)).toNat+1) ((idxI del s),((idxI del s)+1),s)=(runL (Yl s del) (((s.length:Int)-((idxI del s)+1)).toNat+1) ((idxI del s),((idxI del s)+1),s))∧Int.toNat ((s.length:Int)-((idxI del s)+1))<(((s.length:Int)-((idxI del s)+1)).toNat+1)∧(0≤(idxI del s)∧(idxI del s)<((idxI del s)+1))∧((idxI del s)+1)≤(s.length:Int)∧s.length≤1000000000∧(∀ k:Nat,((idxI del s)+1)≤(k:Int)→k<s.length→Qdel (s.getD k default))∧s.length=s.length)) (fun (i0:Nat×(Int×Int×List Qq)) (hi0:runL (Yl s del) i0.1 i0.2=(runL (Yl s del) (((s.length:Int)-((idxI del s)+1)).toNat+1) ((idxI del s),((idxI del s)+1),s))∧(fun (i41:Int) (j1:Int) (xs:List Qq)=>(Int.toNat ((xs.length:Int)-j1)<i0.1∧(0≤i41∧i41<j1)∧j1≤(xs.length:Int)∧xs.length≤1000000000∧(∀ k:Nat,j1≤(k:Int)→k<xs.length→Qdel (xs.getD k default))∧xs.length=s.length)) i0.2.1 i0.2.2.1 i0.2.2.2)=>(fun (m0:Nat) (i41:Int) (j1:Int) (xs:List Qq) (hI0:runL (Yl s del) (m0+1) (i41,j1,xs)=(runL (Yl s del) (((s.length:Int)-((idxI del s)+1)).toNat+1) ((idxI del s),((idxI del s)+1),s))) (_:Int.toNat ((xs.length:Int)-j1)<m0+1) (hl0:m0<i0.1) (_:0≤i41∧i41<j1) (_:j1≤(xs.length:Int)) (_:xs.length≤1000000000) (_:∀ k:Nat,j1≤(k:Int)→k<xs.length→Qdel (xs.getD k default)) (_:xs.length=s.length)=>ifd (j1<(xs.length:Int)) (fun h5 _=>ai (by omega:ib j1 xs) (ai (Eq.refl (Yp Qdel del)) (ai (Imps.pxH (ds:=Ud (xs.getD j1.toNat default)) ((by assumption:∀ k:Nat,j1≤(k:Int)→k<xs.length→Qdel (xs.getD k default)) j1.toNat (by omega) (by omega))) (ifb (!(del (xs.getD j1.toNat default))) (fun h6=>have _:=(Kd h6); ai (by omega:ib i41 xs) (ai (setr 3 Ud xs (i41).toNat (xs.getD j1.toNat default)) (ai (iok (i41+1) (by omega)) (ai (iok (j1+1) (by omega)) (Exists.intro (p:=fun j:Nat×(Int×Int×List Qq)=>(fun (i41_:Int) (j1_:Int) (xs_:List Qq)=>(((.int .i64 (i41+1):Value)=.int .i64 i41_)∧((.int .i64 (j1+1):Value)=.int .i64 j1_)∧(Imp (.l 3 Ud (Xu xs i41 j1)) (.l 3 Ud xs_))∧(Yp Qdel del=Yp Qdel del)∧((runL (Yl s del) j.1 j.2=(runL (Yl s del) (((s.length:Int)-((idxI del s)+1)).toNat+1) ((idxI del s),((idxI del s)+1),s))∧Int.toNat ((xs_.length:Int)-j1_)<j.1∧(0≤i41_∧i41_<j1_)∧j1_≤(xs_.length:Int)∧xs_.length≤1000000000∧(∀ k:Nat,j1_≤(k:Int)→k<xs_.length→Qdel (xs_.getD k default))∧xs_.length=s.length)∧j.1<i0.1))) j.2.1 j.2.2.1 j.2.2.2) (m0,((i41+1),(j1+1),(Xu xs i41 j1))) (ai rfl (ai rfl (ai ir (ai rfl (ai (ai (Qc hI0 (condT h5 (condT h6 rfl))) (ai (by (simp only [lens,ib] at*<;> omega):Int.toNat (((Xu xs i41 j1).length:Int)-(j1+1))<m0) (ai (by omega:0≤(i41+1)∧(i41+1)<(j1+1)) (ai (by (simp only [lens,ib] at*<;> omega):(j1+1)≤((Xu xs i41 j1).length:Int)) (ai (by (simp only [lens,ib] at*<;> omega):(Xu xs i41 j1).length≤1000000000) (ai (by (intro k hk hk2; (rw [Qs _ _ _ _ (by omega)]; exact (by assumption:∀ k:Nat,j1≤(k:Int)→k<xs.length→Qdel (xs.getD k default)) k (by omega) (by simpa using hk2))):∀ k:Nat,(j1+1)≤(k:Int)→k<(Xu xs i41 j1).length→Qdel ((Xu xs i41 j1).getD k default)) (by (simp only [lens,ib] at*<;> omega):(Xu xs i41 j1).length=s.length))))))) hl0)))))))))) (fun h6=>have _:=(Uq h6); ai (iok (j1+1) (by omega)) (Exists.intro (p:=fun j:Nat×(Int×Int×List Qq)=>(fun (i41_:Int) (j1_:Int) (xs_:List Qq)=>(((.int .i64 i41:Value)=.int .i64 i41_)∧((.int .i64 (j1+1):Value)=.int .i64 j1_)∧(Imp (.l 3 Ud xs) (.l 3 Ud xs_))∧(Yp Qdel del=Yp Qdel del)∧((runL (Yl s del) j.1 j.2=(runL (Yl s del) (((s.length:Int)-((idxI del s)+1)).toNat+1) ((idxI del s),((idxI del s)+1),s))∧Int.toNat ((xs_.length:Int)-j1_)<j.1∧(0≤i41_∧i41_<j1_)∧j1_≤(xs_.length:Int)∧xs_.length≤1000000000∧(∀ k:Nat,j1_≤(k:Int)→k<xs_.length→Qdel (xs_.getD k default))∧xs_.length=s.length)∧j.1<i0.1))) j.2.1 j.2.2.1 j.2.2.2) (m0,(i41,(j1+1),xs)) (ai rfl (ai rfl (ai ir (ai rfl (ai (ai (Qc hI0 (condT h5 (condF h6 rfl))) (ai (by omega:Int.toNat ((xs.length:Int)-(j1+1))<m0) (ai (by omega:0≤i41∧i41<(j1+1)) (ai (by omega:(j1+1)≤(xs.length:Int)) (ai (by omega:xs.length≤1000000000) (ai (by (intro k hk hk2; exact (by assumption:∀ k:Nat,j1≤(k:Int)→k<xs.length→Qdel (xs.getD k default)) k (by omega) hk2):∀ k:Nat,(j1+1)≤(k:Int)→k<xs.length→Qdel (xs.getD k default)) (by omega:xs.length=s.length))))))) hl0))))))))))) (fun h5 _=>(fun hD0_7:(runL (Yl s del) (((s.length:Int)-((idxI del s)+1)).toNat+1) ((idxI del s),((idxI del s)+1),s))=Lp.done (i41,j1,xs)=>Exists.intro (p:=fun j:List Qq×Int=>(fun (s1_:List Qq) (i40_:Int)=>(((.int .i64 i41:Value)=.int .i64 i40_)∧(Imp (.l 3 Ud xs) (.l 3 Ud s1_))∧(Pk s del)=Lp.done j∧(0≤i40_∧i40_≤(s1_.length:Int)))) j.1 j.2) (xs,i41) (ai rfl (ai ir (ai (Eq.symm (finD hD0_7 rfl)) (by omega:0≤i41∧i41≤(xs.length:Int)))))) (Qi hI0 (condF h5 rfl)))) (i0.1-1) i0.2.1 i0.2.2.1 i0.2.2.2 (hd1 hi0.1 hi0.2.1) (hd2 hi0.2.1) (hd3 hi0.2.1) hi0.2.2.1 hi0.2.2.2.1 hi0.2.2.2.2.1 hi0.2.2.2.2.2.1 hi0.2.2.2.2.2.2))) (fun (j:List Qq×Int) (hj:(fun (s1:List Qq) (i40:Int)=>((Pk s del)=Lp.done j∧(0≤i40∧i40≤(s1.length:Int)))) j.1 j.2)=>(fun (s1:List Qq) (i40:Int) (hJ0_8:(Pk s del)=Lp.done (s1,i40)) (_:0≤i40∧i40≤(s1.length:Int))=>ai (by omega:0≤i40∧i40≤(s1.length:Int)∧(s1.length:Int)≤(s1.length:Int)) (ai (ClearOK.mk Ud s1 ((⟨w13_,0,(⟨none,0,0⟩:SV)⟩:Qq):Qq) rfl (fun y e he=>by simp only [Ud,List.mem_cons,List.not_mem_nil,or_false] at he; rcases he with rfl | rfl | rfl <;> exact ⟨_,rfl⟩):ClearOK (.l 3 Ud s1) i40.toNat (s1.drop i40.toNat).length 3 [.string w13_,.int .i64 0,.slice none 0 0] (.l 3 Ud (s1.take i40.toNat++List.replicate (s1.drop i40.toNat).length ((⟨w13_,0,(⟨none,0,0⟩:SV)⟩:Qq):Qq)++s1.drop (i40.toNat+(s1.drop i40.toNat).length)))) (ai (by (simp only [lens,ib] at*<;> omega):0≤(0:Int)∧(0:Int)≤i40∧i40≤((s1.take i40.toNat++List.replicate (s1.drop i40.toNat).length ((⟨w13_,0,(⟨none,0,0⟩:SV)⟩:Qq):Qq)++s1.drop (i40.toNat+(s1.drop i40.toNat).length)).length:Int)) ((fun hF:(((s1.take i40.toNat++List.replicate (s1.drop i40.toNat).length ((⟨w13_,0,(⟨none,0,0⟩:SV)⟩:Qq):Qq)++s1.drop (i40.toNat+(s1.drop i40.toNat).length)).take i40.toNat):List Qq)=(F262 s del)=>ai (Imp.of_eq (congrArg (fun r:List Qq=>Dat.l 3 Ud r) hF)) trivial) (condF h3 (finD hJ0_8 rfl)))))) j.1 j.2 hj.1 hj.2)))))) (by kernel_rfl)
theorem as262 (s:List Qq) (del:Qq→Bool):F262 s del=(s.filter (fun x=>!(del x))):=by
 exact Qdx del s _ (Yl s del) (fun i j xs=>rfl)
theorem oa262 (s:List Qq) (del:Qq→Bool) (Qdel:Qq→Prop):(S262 (s.filter (fun x=>!(del x))) s del Qdel).ok Tryz.prog 262 false:=by
 intro hp; have h:=ok262 s del Qdel hp; rw [as262 s del] at h; exact h
def Zg (p:ByteArray→Bool):Uv:=⟨ByteArray,fun i=>[.c (.x (BX i 1048576))],fun i=>.bool (p i)⟩
def Wu (p:ByteArray→Bool):List Dat:=[.x (FnX Tryz.prog (Zg p))]
structure form where
 word:ByteArray
 key:Int
 checks:List (ByteArray→Bool)
 deriving Inhabited
def Hz (x:form):List Dat:=[.v (.string x.word),.v (vI x.key),.l 1 Wu x.checks]
theorem Ez (low:Int) (high:Int) {K_:Prop} (k_:K_):(True)∧(Imp (.v (vI low)) (.v (vI low)))∧(Imp (.v (vI high)) (.v (vI high)))∧K_:=⟨trivial,Imp.refl _,Imp.refl _,k_⟩
theorem kc260 (words:List ByteArray) {K_:Prop} (k_:K_):(True)∧(Imp (.l 1 eStr words) (.l 1 eStr words))∧K_:=⟨trivial,Imp.refl _,k_⟩
abbrev Bp (low:Int) (high:Int):Hint false Tryz.prog:=.call 256 (S256 low high) ((ok256 low high).to false) none
abbrev Ucz (words:List ByteArray):Hint false Tryz.prog:=.call 260 (S260 words) ((ok260 words).to false) none
def Kq (x:Nat→SV):List Qq:=[⟨(⟨#[104,111,115,116]⟩:ByteArray),1,x 0⟩,⟨(⟨#[117,115,101,114]⟩:ByteArray),2,x 1⟩,⟨(⟨#[112,111,114,116]⟩:ByteArray),2,x 2⟩,⟨(⟨#[112,111,114,116]⟩:ByteArray),2,x 3⟩,⟨(⟨#[114,117,108,101]⟩:ByteArray),3,x 4⟩,⟨(⟨#[114,111,117,116,101]⟩:ByteArray),3,x 5⟩,⟨(⟨#[112,101,101,114]⟩:ByteArray),2,x 6⟩,⟨(⟨#[110,97,116]⟩:ByteArray),1,x 7⟩,⟨(⟨#[100,111,111,114]⟩:ByteArray),3,x 8⟩]
def all238:List form:=[⟨(⟨#[104,111,115,116]⟩:ByteArray),1,[(fun x0=>F257 x0)]⟩,⟨(⟨#[117,115,101,114]⟩:ByteArray),2,[(fun x0=>F257 x0),(fun x0=>F258 x0)]⟩,⟨(⟨#[112,111,114,116]⟩:ByteArray),2,[(fun x0=>F269 x0 0 7),(fun x0=>F259 x0)]⟩,⟨(⟨#[112,111,114,116]⟩:ByteArray),2,[(fun x0=>F269 x0 0 7),(fun x0=>F259 x0),(fun x0=>F271 x0 ([(⟨#[105,110]⟩:ByteArray)]:List ByteArray)),(fun x0=>F257 x0)]⟩,⟨(⟨#[114,117,108,101]⟩:ByteArray),3,[(fun x0=>F257 x0),(fun x0=>F269 x0 0 99),(fun x0=>F271 x0 ([(⟨#[112,101,114,109,105,116]⟩:ByteArray),(⟨#[100,101,110,121]⟩:ByteArray)]:List ByteArray)),(fun x0=>F259 x0),(fun x0=>F259 x0),(fun x0=>F269 x0 0 7)]⟩,⟨(⟨#[114,111,117,116,101]⟩:ByteArray),3,[(fun x0=>F259 x0),(fun x0=>F261 x0)]⟩,⟨(⟨#[112,101,101,114]⟩:ByteArray),2,[(fun x0=>F261 x0),(fun x0=>F269 x0 1 9),(fun x0=>F269 x0 1 999999)]⟩,⟨(⟨#[110,97,116]⟩:ByteArray),1,[(fun x0=>F259 x0),(fun x0=>F261 x0),(fun x0=>F269 x0 1 65535),(fun x0=>F269 x0 1 65535)]⟩,⟨(⟨#[100,111,111,114]⟩:ByteArray),3,[(fun x0=>F269 x0 1 7),(fun x0=>F269 x0 1 65535),(fun x0=>F261 x0),(fun x0=>F269 x0 1 65535)]⟩]
def Xs (x:Nat→SV):List (Value×Dat):=[(sv (x 0),.l 1 Wu [(fun x0=>F257 x0)]),(sv (x 1),.l 1 Wu [(fun x0=>F257 x0),(fun x0=>F258 x0)]),(sv (x 2),.l 1 Wu [(fun x0=>F269 x0 0 7),(fun x0=>F259 x0)]),(sv (x 3),.l 1 Wu [(fun x0=>F269 x0 0 7),(fun x0=>F259 x0),(fun x0=>F271 x0 ([(⟨#[105,110]⟩:ByteArray)]:List ByteArray)),(fun x0=>F257 x0)]),(sv (x 4),.l 1 Wu [(fun x0=>F257 x0),(fun x0=>F269 x0 0 99),(fun x0=>F271 x0 ([(⟨#[112,101,114,109,105,116]⟩:ByteArray),(⟨#[100,101,110,121]⟩:ByteArray)]:List ByteArray)),(fun x0=>F259 x0),(fun x0=>F259 x0),(fun x0=>F269 x0 0 7)]),(sv (x 5),.l 1 Wu [(fun x0=>F259 x0),(fun x0=>F261 x0)]),(sv (x 6),.l 1 Wu [(fun x0=>F261 x0),(fun x0=>F269 x0 1 9),(fun x0=>F269 x0 1 999999)]),(sv (x 7),.l 1 Wu [(fun x0=>F259 x0),(fun x0=>F261 x0),(fun x0=>F269 x0 1 65535),(fun x0=>F269 x0 1 65535)]),(sv (x 8),.l 1 Wu [(fun x0=>F269 x0 1 7),(fun x0=>F269 x0 1 65535),(fun x0=>F261 x0),(fun x0=>F269 x0 1 65535)])]
def Qrj:FnH Tryz.prog:=⟨true,257,Zg (fun x0=>F257 x0),[],rfl,True,fun i=>Qfs (ok257 i)⟩
theorem Qso:Uc Tryz.prog 257=true:=by kernel_rfl
def fh258:FnH Tryz.prog:=⟨true,258,Zg (fun x0=>F258 x0),[],rfl,True,fun i=>Qfs (ok258 i)⟩
theorem ca258:Uc Tryz.prog 258=true:=by kernel_rfl
def Qfe:FnH Tryz.prog:=⟨false,259,Zg (fun x0=>F259 x0),[],rfl,True,fun i=>Qfs (ok259 i)⟩
theorem Qgr:Uc Tryz.prog 259=true:=by kernel_rfl
def Qqw:FnH Tryz.prog:=⟨false,261,Zg (fun x0=>F261 x0),[],rfl,True,fun i=>Qfs (ok261 i)⟩
theorem Qqn:Uc Tryz.prog 261=true:=by kernel_rfl
def Gk (a b:Int):FnH Tryz.prog:=⟨false,269,Zg (fun x0=>F269 x0 a b),[.rp [.v (vI a)],.rp [.v (vI b)]],rfl,True,fun i=>Qfs (ok269 i a b)⟩
theorem Gh:Uc Tryz.prog 269=true:=by kernel_rfl
def fh271 (l:List ByteArray):FnH Tryz.prog:=⟨true,271,Zg (fun x0=>F271 x0 l),[.rp [.l 1 eStr l]],rfl,True,fun i=>Qfs (ok271 i l)⟩
theorem ca271:Uc Tryz.prog 271=true:=by kernel_rfl
theorem Ujk (word:ByteArray):Qog Tryz.prog 45 (fun _:Unit=>(⟨[(1,some (.p 0 0)),(5,some (.h 1 0)),(8,some (.h 2 0))],[(0,some (.box 9 [.v (.string word)])),(1,some (.arr 9 [.v (.string (⟨#[104,111,115,116]⟩:ByteArray)),.v (vI 1),.h 2 0,.v (.string (⟨#[117,115,101,114]⟩:ByteArray)),.v (vI 2),.h 3 0,.v (.string (⟨#[112,111,114,116]⟩:ByteArray)),.v (vI 2),.h 4 0,.v (.string (⟨#[112,111,114,116]⟩:ByteArray)),.v (vI 2),.h 7 0,.v (.string (⟨#[114,117,108,101]⟩:ByteArray)),.v (vI 3),.h 12 0,.v (.string (⟨#[114,111,117,116,101]⟩:ByteArray)),.v (vI 3),.h 19 0,.v (.string (⟨#[112,101,101,114]⟩:ByteArray)),.v (vI 2),.h 20 0,.v (.string (⟨#[110,97,116]⟩:ByteArray)),.v (vI 1),.h 25 0,.v (.string (⟨#[100,111,111,114]⟩:ByteArray)),.v (vI 3),.h 28 0])),(2,some (.arr 1 [.cl 257 []])),(3,some (.arr 2 [.cl 257 [],.cl 258 []])),(4,some (.arr 2 [.cl 269 [.p 5 0,.p 6 0],.cl 259 []])),(5,some (.box 3 [.v (vI 0)])),(6,some (.box 3 [.v (vI 7)])),(7,some (.arr 4 [.cl 269 [.p 8 0,.p 9 0],.cl 259 [],.cl 271 [.p 10 0],.cl 257 []])),(8,some (.box 3 [.v (vI 0)])),(9,some (.box 3 [.v (vI 7)])),(10,some (.box 22 [.h 11 0])),(11,some (.own 11 (.l 1 eStr ([(⟨#[105,110]⟩:ByteArray)]:List ByteArray)))),(12,some (.arr 6 [.cl 257 [],.cl 269 [.p 13 0,.p 14 0],.cl 271 [.p 15 0],.cl 259 [],.cl 259 [],.cl 269 [.p 17 0,.p 18 0]])),(13,some (.box 3 [.v (vI 0)])),(14,some (.box 3 [.v (vI 99)])),(15,some (.box 22 [.h 16 0])),(16,some (.own 16 (.l 1 eStr ([(⟨#[112,101,114,109,105,116]⟩:ByteArray),(⟨#[100,101,110,121]⟩:ByteArray)]:List ByteArray)))),(17,some (.box 3 [.v (vI 0)])),(18,some (.box 3 [.v (vI 7)])),(19,some (.arr 2 [.cl 259 [],.cl 261 []])),(20,some (.arr 3 [.cl 261 [],.cl 269 [.p 21 0,.p 22 0],.cl 269 [.p 23 0,.p 24 0]])),(21,some (.box 3 [.v (vI 1)])),(22,some (.box 3 [.v (vI 9)])),(23,some (.box 3 [.v (vI 1)])),(24,some (.box 3 [.v (vI 999999)])),(25,some (.arr 4 [.cl 259 [],.cl 261 [],.cl 269 [.p 26 0,.p 27 0],.cl 269 [.p 26 0,.p 27 0]])),(26,some (.box 3 [.v (vI 1)])),(27,some (.box 3 [.v (vI 65535)])),(28,some (.arr 4 [.cl 269 [.p 29 0,.p 30 0],.cl 269 [.p 26 0,.p 27 0],.cl 261 [],.cl 269 [.p 26 0,.p 27 0]])),(29,some (.box 3 [.v (vI 1)])),(30,some (.box 3 [.v (vI 7)]))],31⟩:St)) (fun _=>True) (fun x:Nat→SV=>(⟨[(1,some (.p 0 0)),(5,some (.h 1 0)),(8,some (.h 2 0))],[(0,some (.box 9 [.v (.string word)])),(1,some (.own 1 (.l 3 Ud (Kq x)))),(2,some (.own 2 (.x (LX (Xs x)))))],31⟩:St)) (fun _=>True):=by
 intro ψ IN w0 w a i _ H
 obtain ⟨β,φ,dom,V⟩:=H
 have R:=V.rel
 have hall:Qoc (fsG (⟨[(1,some (.p 0 0)),(5,some (.h 1 0)),(8,some (.h 2 0))],[(0,some (.box 9 [.v (.string word)])),(1,some (.arr 9 [.v (.string (⟨#[104,111,115,116]⟩:ByteArray)),.v (vI 1),.h 2 0,.v (.string (⟨#[117,115,101,114]⟩:ByteArray)),.v (vI 2),.h 3 0,.v (.string (⟨#[112,111,114,116]⟩:ByteArray)),.v (vI 2),.h 4 0,.v (.string (⟨#[112,111,114,116]⟩:ByteArray)),.v (vI 2),.h 7 0,.v (.string (⟨#[114,117,108,101]⟩:ByteArray)),.v (vI 3),.h 12 0,.v (.string (⟨#[114,111,117,116,101]⟩:ByteArray)),.v (vI 3),.h 19 0,.v (.string (⟨#[112,101,101,114]⟩:ByteArray)),.v (vI 2),.h 20 0,.v (.string (⟨#[110,97,116]⟩:ByteArray)),.v (vI 1),.h 25 0,.v (.string (⟨#[100,111,111,114]⟩:ByteArray)),.v (vI 3),.h 28 0])),(2,some (.arr 1 [.cl 257 []])),(3,some (.arr 2 [.cl 257 [],.cl 258 []])),(4,some (.arr 2 [.cl 269 [.p 5 0,.p 6 0],.cl 259 []])),(5,some (.box 3 [.v (vI 0)])),(6,some (.box 3 [.v (vI 7)])),(7,some (.arr 4 [.cl 269 [.p 8 0,.p 9 0],.cl 259 [],.cl 271 [.p 10 0],.cl 257 []])),(8,some (.box 3 [.v (vI 0)])),(9,some (.box 3 [.v (vI 7)])),(10,some (.box 22 [.h 11 0])),(11,some (.own 11 (.l 1 eStr ([(⟨#[105,110]⟩:ByteArray)]:List ByteArray)))),(12,some (.arr 6 [.cl 257 [],.cl 269 [.p 13 0,.p 14 0],.cl 271 [.p 15 0],.cl 259 [],.cl 259 [],.cl 269 [.p 17 0,.p 18 0]])),(13,some (.box 3 [.v (vI 0)])),(14,some (.box 3 [.v (vI 99)])),(15,some (.box 22 [.h 16 0])),(16,some (.own 16 (.l 1 eStr ([(⟨#[112,101,114,109,105,116]⟩:ByteArray),(⟨#[100,101,110,121]⟩:ByteArray)]:List ByteArray)))),(17,some (.box 3 [.v (vI 0)])),(18,some (.box 3 [.v (vI 7)])),(19,some (.arr 2 [.cl 259 [],.cl 261 []])),(20,some (.arr 3 [.cl 261 [],.cl 269 [.p 21 0,.p 22 0],.cl 269 [.p 23 0,.p 24 0]])),(21,some (.box 3 [.v (vI 1)])),(22,some (.box 3 [.v (vI 9)])),(23,some (.box 3 [.v (vI 1)])),(24,some (.box 3 [.v (vI 999999)])),(25,some (.arr 4 [.cl 259 [],.cl 261 [],.cl 269 [.p 26 0,.p 27 0],.cl 269 [.p 26 0,.p 27 0]])),(26,some (.box 3 [.v (vI 1)])),(27,some (.box 3 [.v (vI 65535)])),(28,some (.arr 4 [.cl 269 [.p 29 0,.p 30 0],.cl 269 [.p 26 0,.p 27 0],.cl 261 [],.cl 269 [.p 26 0,.p 27 0]])),(29,some (.box 3 [.v (vI 1)])),(30,some (.box 3 [.v (vI 7)]))],31⟩:St).fs) [2,3,4,5,6,7,8,9,10,11,12,13,14,15,16,17,18,19,20,21,22,23,24,25,26,27,28,29,30]=true:=rfl
 have hS:∀ id∈[2,3,4,5,6,7,8,9,10,11,12,13,14,15,16,17,18,19,20,21,22,23,24,25,26,27,28,29,30],∀ b∈φ id,b∈[2,3,4,5,6,7,8,9,10,11,12,13,14,15,16,17,18,19,20,21,22,23,24,25,26,27,28,29,30].flatMap φ:=fun id hid b hb=>List.mem_flatMap.2 ⟨id,hid,hb⟩
 have hlt:=R.flat_lt (Qgx hall)
 have e2:=Xz R (show fsG _ 2=_ from rfl)
 have e3:=Xz R (show fsG _ 3=_ from rfl)
 have e4:=Xz R (show fsG _ 4=_ from rfl)
 have e7:=Xz R (show fsG _ 7=_ from rfl)
 have e12:=Xz R (show fsG _ 12=_ from rfl)
 have e19:=Xz R (show fsG _ 19=_ from rfl)
 have e20:=Xz R (show fsG _ 20=_ from rfl)
 have e25:=Xz R (show fsG _ 25=_ from rfl)
 have e28:=Xz R (show fsG _ 28=_ from rfl)
 have he:([.v (.string (⟨#[104,111,115,116]⟩:ByteArray)),.v (vI 1),.v (sv (toSV (β 2 0))),.v (.string (⟨#[117,115,101,114]⟩:ByteArray)),.v (vI 2),.v (sv (toSV (β 3 0))),.v (.string (⟨#[112,111,114,116]⟩:ByteArray)),.v (vI 2),.v (sv (toSV (β 4 0))),.v (.string (⟨#[112,111,114,116]⟩:ByteArray)),.v (vI 2),.v (sv (toSV (β 7 0))),.v (.string (⟨#[114,117,108,101]⟩:ByteArray)),.v (vI 3),.v (sv (toSV (β 12 0))),.v (.string (⟨#[114,111,117,116,101]⟩:ByteArray)),.v (vI 3),.v (sv (toSV (β 19 0))),.v (.string (⟨#[112,101,101,114]⟩:ByteArray)),.v (vI 2),.v (sv (toSV (β 20 0))),.v (.string (⟨#[110,97,116]⟩:ByteArray)),.v (vI 1),.v (sv (toSV (β 25 0))),.v (.string (⟨#[100,111,111,114]⟩:ByteArray)),.v (vI 3),.v (sv (toSV (β 28 0)))]:List Dat)=[.v (.string (⟨#[104,111,115,116]⟩:ByteArray)),.v (vI 1),.v (β 2 0),.v (.string (⟨#[117,115,101,114]⟩:ByteArray)),.v (vI 2),.v (β 3 0),.v (.string (⟨#[112,111,114,116]⟩:ByteArray)),.v (vI 2),.v (β 4 0),.v (.string (⟨#[112,111,114,116]⟩:ByteArray)),.v (vI 2),.v (β 7 0),.v (.string (⟨#[114,117,108,101]⟩:ByteArray)),.v (vI 3),.v (β 12 0),.v (.string (⟨#[114,111,117,116,101]⟩:ByteArray)),.v (vI 3),.v (β 19 0),.v (.string (⟨#[112,101,101,114]⟩:ByteArray)),.v (vI 2),.v (β 20 0),.v (.string (⟨#[110,97,116]⟩:ByteArray)),.v (vI 1),.v (β 25 0),.v (.string (⟨#[100,111,111,114]⟩:ByteArray)),.v (vI 3),.v (β 28 0)]:=by rw [← e2,← e3,← e4,← e7,← e12,← e19,← e20,← e25,← e28]
 refine ⟨fun k=>toSV (β (([2,3,4,7,12,19,20,25,28]:List Nat).getD k 0) 0),trivial,pack3 (bx:=[.string word]) (rest:=[2,3,4,5,6,7,8,9,10,11,12,13,14,15,16,17,18,19,20,21,22,23,24,25,26,27,28,29,30]) V rfl ⟨_,rfl,rfl⟩ hall (by decide) (R.ok 2 _ rfl).1 (Uky R (show fsG _ 1=_ from rfl) rfl (by decide) (fun _=>rfl) he) (fun hnd _=>⟨⟨R.all1 2 0,?_⟩,hnd,hlt⟩)⟩
 exact ⟨RdV.at_sv e2 (Jd R (F:=Zg) (show fsG _ 2=_ from rfl) rfl (by decide) (fun _=>rfl) (hS 2 (by decide)) ⟨_,_,rfl,Zb Qrj rfl trivial hlt Qso rfl,rfl⟩),
  RdV.at_sv e3 (Jd R (F:=Zg) (show fsG _ 3=_ from rfl) rfl (by decide) (fun _=>rfl) (hS 3 (by decide)) ⟨_,_,rfl,Zb Qrj rfl trivial hlt Qso rfl,⟨_,_,rfl,Zb fh258 rfl trivial hlt ca258 rfl,rfl⟩⟩),
  RdV.at_sv e4 (Jd R (F:=Zg) (show fsG _ 4=_ from rfl) rfl (by decide) (fun _=>rfl) (hS 4 (by decide)) ⟨_,_,rfl,Jq R (Gk 0 7) (show fsG _ 5=_ from rfl) (show fsG _ 6=_ from rfl) rfl trivial (hS 5 (by decide)) (hS 6 (by decide)) hlt Gh rfl rfl rfl,⟨_,_,rfl,Zb Qfe rfl trivial hlt Qgr rfl,rfl⟩⟩),
  RdV.at_sv e7 (Jd R (F:=Zg) (show fsG _ 7=_ from rfl) rfl (by decide) (fun _=>rfl) (hS 7 (by decide)) ⟨_,_,rfl,Jq R (Gk 0 7) (show fsG _ 8=_ from rfl) (show fsG _ 9=_ from rfl) rfl trivial (hS 8 (by decide)) (hS 9 (by decide)) hlt Gh rfl rfl rfl,⟨_,_,rfl,Zb Qfe rfl trivial hlt Qgr rfl,⟨_,_,rfl,Ucj R (fh271 ([(⟨#[105,110]⟩:ByteArray)]:List ByteArray)) (show fsG _ 10=_ from rfl) (show fsG _ 11=_ from rfl) rfl trivial (hS 10 (by decide)) (hS 11 (by decide)) hlt ca271 rfl,⟨_,_,rfl,Zb Qrj rfl trivial hlt Qso rfl,rfl⟩⟩⟩⟩),
  RdV.at_sv e12 (Jd R (F:=Zg) (show fsG _ 12=_ from rfl) rfl (by decide) (fun _=>rfl) (hS 12 (by decide)) ⟨_,_,rfl,Zb Qrj rfl trivial hlt Qso rfl,⟨_,_,rfl,Jq R (Gk 0 99) (show fsG _ 13=_ from rfl) (show fsG _ 14=_ from rfl) rfl trivial (hS 13 (by decide)) (hS 14 (by decide)) hlt Gh rfl rfl rfl,⟨_,_,rfl,Ucj R (fh271 ([(⟨#[112,101,114,109,105,116]⟩:ByteArray),(⟨#[100,101,110,121]⟩:ByteArray)]:List ByteArray)) (show fsG _ 15=_ from rfl) (show fsG _ 16=_ from rfl) rfl trivial (hS 15 (by decide)) (hS 16 (by decide)) hlt ca271 rfl,⟨_,_,rfl,Zb Qfe rfl trivial hlt Qgr rfl,⟨_,_,rfl,Zb Qfe rfl trivial hlt Qgr rfl,⟨_,_,rfl,Jq R (Gk 0 7) (show fsG _ 17=_ from rfl) (show fsG _ 18=_ from rfl) rfl trivial (hS 17 (by decide)) (hS 18 (by decide)) hlt Gh rfl rfl rfl,rfl⟩⟩⟩⟩⟩⟩),
  RdV.at_sv e19 (Jd R (F:=Zg) (show fsG _ 19=_ from rfl) rfl (by decide) (fun _=>rfl) (hS 19 (by decide)) ⟨_,_,rfl,Zb Qfe rfl trivial hlt Qgr rfl,⟨_,_,rfl,Zb Qqw rfl trivial hlt Qqn rfl,rfl⟩⟩),
  RdV.at_sv e20 (Jd R (F:=Zg) (show fsG _ 20=_ from rfl) rfl (by decide) (fun _=>rfl) (hS 20 (by decide)) ⟨_,_,rfl,Zb Qqw rfl trivial hlt Qqn rfl,⟨_,_,rfl,Jq R (Gk 1 9) (show fsG _ 21=_ from rfl) (show fsG _ 22=_ from rfl) rfl trivial (hS 21 (by decide)) (hS 22 (by decide)) hlt Gh rfl rfl rfl,⟨_,_,rfl,Jq R (Gk 1 999999) (show fsG _ 23=_ from rfl) (show fsG _ 24=_ from rfl) rfl trivial (hS 23 (by decide)) (hS 24 (by decide)) hlt Gh rfl rfl rfl,rfl⟩⟩⟩),
  RdV.at_sv e25 (Jd R (F:=Zg) (show fsG _ 25=_ from rfl) rfl (by decide) (fun _=>rfl) (hS 25 (by decide)) ⟨_,_,rfl,Zb Qfe rfl trivial hlt Qgr rfl,⟨_,_,rfl,Zb Qqw rfl trivial hlt Qqn rfl,⟨_,_,rfl,Jq R (Gk 1 65535) (show fsG _ 26=_ from rfl) (show fsG _ 27=_ from rfl) rfl trivial (hS 26 (by decide)) (hS 27 (by decide)) hlt Gh rfl rfl rfl,⟨_,_,rfl,Jq R (Gk 1 65535) (show fsG _ 26=_ from rfl) (show fsG _ 27=_ from rfl) rfl trivial (hS 26 (by decide)) (hS 27 (by decide)) hlt Gh rfl rfl rfl,rfl⟩⟩⟩⟩),
  RdV.at_sv e28 (Jd R (F:=Zg) (show fsG _ 28=_ from rfl) rfl (by decide) (fun _=>rfl) (hS 28 (by decide)) ⟨_,_,rfl,Jq R (Gk 1 7) (show fsG _ 29=_ from rfl) (show fsG _ 30=_ from rfl) rfl trivial (hS 29 (by decide)) (hS 30 (by decide)) hlt Gh rfl rfl rfl,⟨_,_,rfl,Jq R (Gk 1 65535) (show fsG _ 26=_ from rfl) (show fsG _ 27=_ from rfl) rfl trivial (hS 26 (by decide)) (hS 27 (by decide)) hlt Gh rfl rfl rfl,⟨_,_,rfl,Zb Qqw rfl trivial hlt Qqn rfl,⟨_,_,rfl,Jq R (Gk 1 65535) (show fsG _ 26=_ from rfl) (show fsG _ 27=_ from rfl) rfl trivial (hS 26 (by decide)) (hS 27 (by decide)) hlt Gh rfl rfl rfl,rfl⟩⟩⟩⟩),trivial⟩
theorem Uha (word:ByteArray) (x:Nat→SV):Qog Tryz.prog 45 (fun _:Unit=>(⟨[(2,some (.h 0 0)),(8,some (.h 1 0))],[(0,some (.own 0 (.l 3 Ud ((Kq x).filter (fun x=>!((fun (x0:Qq)=>F263 x0 word) x)))))),(1,some (.own 1 (.x (LX (Xs x)))))],2⟩:St)) (fun _=>True) (fun _:Unit=>(⟨[(2,some (.h 0 0))],[(0,some (.own 0 (.b (.l 3 Hz (all238.filter (fun z=>z.word.toList==word.toList))))))],2⟩:St)) (fun _=>True):=by
 intro ψ IN w0 w a i _ H
 refine ⟨(),trivial,pack1 rfl rfl rfl (fun v y f g h1 h2=>?_) H⟩
 have hx:RdAll (fun b=>b∈f++g) w (Xs x):=h2.1.2.mono fun b hb=>⟨List.mem_append_right _ hb,rfl⟩
 have hall:Rel2 (fun (y:Qq) (z:form)=>y.word=z.word∧∀ cs,RdVs (fun b=>b∈f++g) w (Ud y) cs→RdVs (fun b=>b∈f++g) w (Hz z) cs) (Kq x) all238:=⟨⟨rfl,row3 hx.1⟩,⟨rfl,row3 hx.2.1⟩,⟨rfl,row3 hx.2.2.1⟩,⟨rfl,row3 hx.2.2.2.1⟩,⟨rfl,row3 hx.2.2.2.2.1⟩,⟨rfl,row3 hx.2.2.2.2.2.1⟩,⟨rfl,row3 hx.2.2.2.2.2.2.1⟩,⟨rfl,row3 hx.2.2.2.2.2.2.2.1⟩,⟨rfl,row3 hx.2.2.2.2.2.2.2.2.1⟩,trivial⟩
 refine Qxi h1 (fun b hb=>List.mem_append_left _ hb) (Rel2.mono (fun a c h=>h.2) (Rel2.filter (fun y z h=>?_) hall))
 simp only [F263,h.1,Bool.not_not]
def F238 (word:ByteArray):List form :=
 (all238.filter (fun z=>z.word.toList==word.toList))
def S238 (word:ByteArray):Spec:=⟨[.r (.c (.v (.string word)))],.ow (.b (.l 3 Hz (F238 word))),True⟩
theorem ok238 (word:ByteArray):(S238 word).ok Tryz.prog 238 false :=
 Qg mixed (fn:=Tryz.f238) (ct:=.seq .no (.seq (.reg [(0,Bp 1 65535),(1,Bp 1 7)]) (.hnd (ι:=Unit) (κ:=(Nat→SV)) (fun _=>(⟨[(1,some (.p 0 0)),(5,some (.h 1 0)),(8,some (.h 2 0))],[(0,some (.box 9 [.v (.string word)])),(1,some (.arr 9 [.v (.string w4_),.v (vI 1),.h 2 0,.v (.string w10_),.v (vI 2),.h 3 0,.v (.string w7_),.v (vI 2),.h 4 0,.v (.string w7_),.v (vI 2),.h 7 0,.v (.string w9_),.v (vI 3),.h 12 0,.v (.string w8_),.v (vI 3),.h 19 0,.v (.string w6_),.v (vI 2),.h 20 0,.v (.string w5_),.v (vI 1),.h 25 0,.v (.string w3_),.v (vI 3),.h 28 0])),(2,some (.arr 1 [.cl 257 []])),(3,some (.arr 2 [.cl 257 [],.cl 258 []])),(4,some (.arr 2 [.cl 269 [.p 5 0,.p 6 0],.cl 259 []])),(5,some (.box 3 [.v (vI 0)])),(6,some (.box 3 [.v (vI 7)])),(7,some (.arr 4 [.cl 269 [.p 8 0,.p 9 0],.cl 259 [],.cl 271 [.p 10 0],.cl 257 []])),(8,some (.box 3 [.v (vI 0)])),(9,some (.box 3 [.v (vI 7)])),(10,some (.box 22 [.h 11 0])),(11,some (.own 11 (.l 1 eStr ([w18_]:List ByteArray)))),(12,some (.arr 6 [.cl 257 [],.cl 269 [.p 13 0,.p 14 0],.cl 271 [.p 15 0],.cl 259 [],.cl 259 [],.cl 269 [.p 17 0,.p 18 0]])),(13,some (.box 3 [.v (vI 0)])),(14,some (.box 3 [.v (vI 99)])),(15,some (.box 22 [.h 16 0])),(16,some (.own 16 (.l 1 eStr ([w19_,w20_]:List ByteArray)))),(17,some (.box 3 [.v (vI 0)])),(18,some (.box 3 [.v (vI 7)])),(19,some (.arr 2 [.cl 259 [],.cl 261 []])),(20,some (.arr 3 [.cl 261 [],.cl 269 [.p 21 0,.p 22 0],.cl 269 [.p 23 0,.p 24 0]])),(21,some (.box 3 [.v (vI 1)])),(22,some (.box 3 [.v (vI 9)])),(23,some (.box 3 [.v (vI 1)])),(24,some (.box 3 [.v (vI 999999)])),(25,some (.arr 4 [.cl 259 [],.cl 261 [],.cl 269 [.p 26 0,.p 27 0],.cl 269 [.p 26 0,.p 27 0]])),(26,some (.box 3 [.v (vI 1)])),(27,some (.box 3 [.v (vI 65535)])),(28,some (.arr 4 [.cl 269 [.p 29 0,.p 30 0],.cl 269 [.p 26 0,.p 27 0],.cl 261 [],.cl 269 [.p 26 0,.p 27 0]])),(29,some (.box 3 [.v (vI 1)])),(30,some (.box 3 [.v (vI 7)]))],31⟩:St)) (fun _=>True) (fun (x:Nat→SV)=>(⟨[(1,some (.p 0 0)),(5,some (.h 1 0)),(8,some (.h 2 0))],[(0,some (.box 9 [.v (.string word)])),(1,some (.own 1 (.l 3 Ud (Kq x)))),(2,some (.own 2 (.x (LX (Xs x)))))],31⟩:St)) (fun _=>True) (.reg [(4,Bp 0 7),(7,Bp 0 7),(8,.dat (.l 1 eStr ([w18_]:List ByteArray))),(9,Ucz ([w18_]:List ByteArray)),(12,Bp 0 99),(13,.dat (.l 1 eStr ([w19_,w20_]:List ByteArray))),(14,Ucz ([w19_,w20_]:List ByteArray)),(15,Bp 0 7),(20,Bp 1 9),(21,Bp 1 999999)]) (fun (x:Nat→SV)=>.hnd (ι:=Unit) (κ:=Unit) (fun _=>(⟨[(2,some (.h 0 0)),(8,some (.h 1 0))],[(0,some (.own 0 (.l 3 Ud ((Kq x).filter (fun x=>!((fun (x0:Qq)=>F263 x0 word) x)))))),(1,some (.own 1 (.x (LX (Xs x)))))],2⟩:St)) (fun _=>True) (fun (_:Unit)=>(⟨[(2,some (.h 0 0))],[(0,some (.own 0 (.b (.l 3 Hz (all238.filter (fun z=>z.word.toList==word.toList))))))],2⟩:St)) (fun _=>True) (.reg [(2,.call 262 (S262 ((Kq x).filter (fun x=>!((fun (x0:Qq)=>F263 x0 word) x))) (Kq x) (fun (x0:Qq)=>F263 x0 word) (fun (x0:Qq)=>True)) (oa262 (Kq x) (fun (x0:Qq)=>F263 x0 word) (fun (x0:Qq)=>True)) (some ⟨true,263,Yp (fun (x0:Qq)=>True) (fun (x0:Qq)=>F263 x0 word),[.rp ([.v (.string word)])],rfl,True,fun i=>Qzo (ok263 i word)⟩))]) (fun (_:Unit)=>.no))))) Tryz.func238 (fun (_:True)=>Ez 1 65535 (Ez 1 7 (ai (Ez 0 7 (Ez 0 7 (ai (bokr 1 eStr ([w18_]:List ByteArray) fun _=>rfl) (kc260 ([w18_]:List ByteArray) (Ez 0 99 (ai (bokr 1 eStr ([w19_,w20_]:List ByteArray) fun _=>rfl) (kc260 ([w19_,w20_]:List ByteArray) (Ez 0 7 (Ez 1 9 (Ez 1 999999 (Exists.intro (p:=fun (_:Unit)=>((.string word:Value)=.string word)∧((.string w4_:Value)=.string w4_)∧((.int .i64 1:Value)=.int .i64 1)∧((.string w10_:Value)=.string w10_)∧((.int .i64 2:Value)=.int .i64 2)∧((.string w7_:Value)=.string w7_)∧((.int .i64 2:Value)=.int .i64 2)∧((.string w7_:Value)=.string w7_)∧((.int .i64 2:Value)=.int .i64 2)∧((.string w9_:Value)=.string w9_)∧((.int .i64 3:Value)=.int .i64 3)∧((.string w8_:Value)=.string w8_)∧((.int .i64 3:Value)=.int .i64 3)∧((.string w6_:Value)=.string w6_)∧((.int .i64 2:Value)=.int .i64 2)∧((.string w5_:Value)=.string w5_)∧((.int .i64 1:Value)=.int .i64 1)∧((.string w3_:Value)=.string w3_)∧((.int .i64 3:Value)=.int .i64 3)∧((.int .i64 0:Value)=.int .i64 0)∧((.int .i64 7:Value)=.int .i64 7)∧((.int .i64 0:Value)=.int .i64 0)∧((.int .i64 7:Value)=.int .i64 7)∧(Imp (.l 1 eStr ([w18_]:List ByteArray)) (.l 1 eStr ([w18_]:List ByteArray)))∧((.int .i64 0:Value)=.int .i64 0)∧((.int .i64 99:Value)=.int .i64 99)∧(Imp (.l 1 eStr ([w19_,w20_]:List ByteArray)) (.l 1 eStr ([w19_,w20_]:List ByteArray)))∧((.int .i64 0:Value)=.int .i64 0)∧((.int .i64 7:Value)=.int .i64 7)∧((.int .i64 1:Value)=.int .i64 1)∧((.int .i64 9:Value)=.int .i64 9)∧((.int .i64 1:Value)=.int .i64 1)∧((.int .i64 999999:Value)=.int .i64 999999)∧((.int .i64 1:Value)=.int .i64 1)∧((.int .i64 65535:Value)=.int .i64 65535)∧((.int .i64 1:Value)=.int .i64 1)∧((.int .i64 7:Value)=.int .i64 7)∧True) () (ai rfl (ai rfl (ai rfl (ai rfl (ai rfl (ai rfl (ai rfl (ai rfl (ai rfl (ai rfl (ai rfl (ai rfl (ai rfl (ai rfl (ai rfl (ai rfl (ai rfl (ai rfl (ai rfl (ai rfl (ai rfl (ai rfl (ai rfl (ai ir (ai rfl (ai rfl (ai ir (ai rfl (ai rfl (ai rfl (ai rfl (ai rfl (ai rfl (ai rfl (ai rfl (ai rfl (ai rfl trivial)))))))))))))))))))))))))))))))))))))))))))))))) (ai (Ujk word) (fun (x:Nat→SV) (_:True)=>ai (ai (ai (by exact (by decide:(9:Nat)≤1000000000):(Kq x).length≤1000000000) (by (intros; exact trivial):∀ k:Nat,k<(Kq x).length→(fun (x0:Qq)=>True) ((Kq x).getD k default))) (ai (Imp.refl (.l 3 Ud (Kq x))) (ai (Eq.refl (Yp (fun (x0:Qq)=>True) (fun (x0:Qq)=>F263 x0 word))) (ai trivial (ai (Imps.refl [.v (.string word)]) (Exists.intro (p:=fun (_:Unit)=>(Imp (.l 3 Ud ((Kq x).filter (fun x=>!((fun (x0:Qq)=>F263 x0 word) x)))) (.l 3 Ud ((Kq x).filter (fun x=>!((fun (x0:Qq)=>F263 x0 word) x)))))∧(Imp (.x (LX (Xs x))) (.x (LX (Xs x))))∧True) () (ai ir (ai ir trivial)))))))) (ai (Uha word x) (fun (_:Unit) (_:True)=>(fun hF:((all238.filter (fun z=>z.word.toList==word.toList)):List form)=(F238 word)=>ai (Imp.of_eq (congrArg (fun r:List form=>Dat.b (Dat.l 3 Hz r)) hF)) trivial) rfl))))))) (by kernel_rfl)
theorem g238_0 (word:ByteArray):∀ k:Nat,((F238 word).getD k default).checks.length≤6:=by
 have hall:∀ z∈all238,z.checks.length≤6:=by
  intro z hz
  simp only [all238,List.mem_cons,List.not_mem_nil,or_false] at hz
  rcases hz with rfl | rfl | rfl | rfl | rfl | rfl | rfl | rfl | rfl <;> decide
 intro k
 rw [List.getD_eq_getElem?_getD]
 cases h:(F238 word)[k]? with
 | none=>exact Nat.zero_le 6
 | some z=>exact hall z (List.mem_filter.1 (List.mem_of_getElem? h)).1
def Vd (f:form) (words:List ByteArray):Int→Lp Int Bool:=fun v17 =>
 bif (decide (v17<(f.checks.length:Int))) then (bif (!((f.checks.getD v17.toNat default) (words.getD (v17+1).toNat default))) then (.ret false) else (.next (v17+1))) else (.done v17)
def F239 (f:form) (words:List ByteArray):Bool :=
 bif ((words.length:Int) != ((f.checks.length:Int)+1)) then false else ((runL (Vd f words) (((f.checks.length:Int)-0).toNat+1) 0).fin (fun r=>r) (fun v17=>true))
abbrev Ru (f:form):Nat×Int:=((((f.checks.length:Int)-0).toNat+1),0)
abbrev Qhv (f:form) (m39:Nat) (v17:Int):Prop:=Int.toNat ((f.checks.length:Int)-v17)<m39∧(0:Int)≤v17
abbrev Qsz (f:form) (words:List ByteArray):Lp Int Bool:=LpX (Vd f words) (Ru f)
abbrev Pv (f:form) (words:List ByteArray) (i:Nat×Int):Prop:=LpJ (Vd f words) (Ru f) i (Qhv f i.1 i.2)
abbrev Qtv (f:form) (words:List ByteArray) (i:Nat×Int) (m39:Nat) (v17:Int):Prop:=LpH (Vd f words) (Ru f) i m39 v17 (Qhv f (m39+1) v17)
abbrev Qvr (f:form) (words:List ByteArray) (v17:Int) (v17_:Int) (K39:Prop):Prop:=(Rf (.int .i64 (f.checks.length:Int)))∧((.int .i64 v17:Value)=.int .i64 v17_)∧(Im (.l 1 eStr words))∧(Im (.l 1 Wu f.checks))∧K39
theorem Ukg (f:form) (words:List ByteArray) (i:Nat×Int) (h:Pv f words i):Qtv f words i (i.1-1) i.2:=⟨hd1 h.1 h.2.1,hd3 h.2.1,hd2 h.2.1,h.2.2⟩
theorem Ugi (f:form) (words:List ByteArray) (i:Nat×Int) (m39:Nat) (v17:Int) (hl:m39<i.1) (e:runL (Vd f words) m39 v17=Qsz f words) (h:Qhv f m39 v17):∃ j:Nat×Int,Qvr f words v17 j.2 (Pv f words j∧j.1<i.1):=⟨(m39,v17),rfl,rfl,Imp.refl _,Imp.refl _,⟨e,h⟩,hl⟩
theorem Ugc (f:form) (words:List ByteArray) (h:(0:Int)≤0):Qvr f words 0 0 (Pv f words (Ru f)):=⟨rfl,rfl,Imp.refl _,Imp.refl _,rfl,Nat.lt_succ_self _,h⟩
def S239 (f:form) (words:List ByteArray):Spec:=⟨[.r (.g (Hz f)),.r (.c (.l 1 eStr words))],.v (.bool (F239 f words)),f.checks.length≤6∧(∀ k:Nat,(words.getD k default).size≤1048576)⟩
theorem ok239 (f:form) (words:List ByteArray):(S239 f words).ok Tryz.prog 239 false :=
 Qg mixed (fn:=Tryz.f239) (ct:=.seqk [(1,0)] .no (.seq (.seq (.reg [(5,.bnd)]) (.cond (.seq .no .no) .no)) (.seq (.seqk [(1,0),(15,0)] .no (.blk (.loop (ι:=Nat×Int) (fun i=>(fun (v17:Int)=>(⟨[(1,some (.h 0 0)),(15,some (.h 1 0)),(16,some (.v (vI (f.checks.length:Int)))),(17,some (.v (vI v17)))],[(0,some (.shr none (.l 1 eStr words))),(1,some (.shr none (.l 1 Wu f.checks)))],2⟩:St)) i.2) (Pv f words) (fun i=>i.1) (Ru f) (fun i=>(fun (v17:Int)=>(.seq .no (.seq (.cond .no .no) (.seq (.blk (.seq .no (.seq (.reg [(3,.bnd),(6,.fnv (Zg (f.checks.getD v17.toNat default)) (words.getD (v17+1).toNat default))]) (.cond (.seq .no .no) .no)))) (.reg [(0,.bnd)]))))) i.2)))) (.seq .no .no)))) Tryz.func239 (fun (hp:f.checks.length≤6∧(∀ k:Nat,(words.getD k default).size≤1048576))=>have hpre0:=hp.1; have hpre1:=hp.2; kn words fun _=>ai (iok ((f.checks.length:Int)+1) (by omega)) (ifn (words.length:Int) ((f.checks.length:Int)+1) (fun h1 _=>fiB false (F239 f words) (condT h1 rfl)) (fun h1 _=>kn words fun _=>kn f.checks fun _=>ai (Ugc f words (by omega)) (fun (i0:Nat×Int) (hi0:Pv f words i0)=>(fun (m0:Nat) (v17:Int) (hh0:Qtv f words i0 m0 v17)=>have hI0:=hh0.1; have hl0:=hh0.2.1; have _:=hh0.2.2.1; have _:=hh0.2.2.2; ifd (v17<(f.checks.length:Int)) (fun h3 _=>ai (by omega:ib v17 f.checks) (ai (iok (v17+1) (by omega)) (ai (by omega:ib (v17+1) words) (ai (Eq.refl (FnX Tryz.prog (Zg (f.checks.getD v17.toNat default)))) (ai (Imp.bx (by exact hpre1 _:(words.getD (v17+1).toNat default).size≤1048576)) (ifb (!((f.checks.getD v17.toNat default) (words.getD (v17+1).toNat default))) (fun h4=>have _:=(Kd h4); fiB false (F239 f words) (condF h1 (finR (Qp hI0 (condT h3 (condT h4 rfl))) rfl))) (fun h4=>have _:=(Uq h4); ai (iok (v17+1) (by omega)) (Ugi f words i0 m0 (v17+1) hl0 (Qc hI0 (condT h3 (condF h4 rfl))) (by refine ⟨?_,?_⟩ <;> omega))))))))) (fun h3 _=>have hD0_5:Qsz f words=Lp.done v17:=Qi hI0 (condF h3 rfl); fiB true (F239 f words) (condF h1 (finD hD0_5 rfl)))) (i0.1-1) i0.2 (Ukg f words i0 hi0))))) (by kernel_rfl)
theorem kc238 (word:ByteArray) {K_:Prop} (k_:(∀ k:Nat,((F238 word).getD k default).checks.length≤6)→K_):(True)∧(Imp (.v (.string word)) (.v (.string word)))∧K_:=⟨trivial,Imp.refl _,k_ (g238_0 word)⟩
abbrev kh238 (word:ByteArray):Hint false Tryz.prog:=.call 238 (S238 word) (ok238 word) none
theorem kc239 (f:form) (words:List ByteArray) {K_:Prop} (p0_:f.checks.length≤6) (p1_:∀ k:Nat,(words.getD k default).size≤1048576) (k_:K_):(f.checks.length≤6∧(∀ k:Nat,(words.getD k default).size≤1048576))∧(Imps (Hz f) (Hz f))∧(Imp (.l 1 eStr words) (.l 1 eStr words))∧K_:=⟨⟨p0_,p1_⟩,Imps.refl _,Imp.refl _,k_⟩
abbrev kh239 (f:form) (words:List ByteArray):Hint false Tryz.prog:=.call 239 (S239 f words) (ok239 f words) none
def Vb (words:List ByteArray):Int→Lp Int (form×Bool):=fun v15 =>
 bif (decide (v15<((F238 (words.getD (Int.toNat 0) default)).length:Int))) then (bif (F239 ((F238 (words.getD (Int.toNat 0) default)).getD v15.toNat default) words) then (.ret (((F238 (words.getD (Int.toNat 0) default)).getD v15.toNat default),true)) else (.next (v15+1))) else (.done v15)
def F219 (words:List ByteArray):form×Bool :=
 bif ((words.length:Int)==0) then ((⟨(⟨#[]⟩:ByteArray),0,[]⟩:form),false) else ((runL (Vb words) ((((F238 (words.getD (Int.toNat 0) default)).length:Int)-0).toNat+1) 0).fin (fun r=>r) (fun v15=>((⟨(⟨#[]⟩:ByteArray),0,[]⟩:form),false)))
abbrev Pa (words:List ByteArray):Nat×Int:=(((((F238 (words.getD (Int.toNat 0) default)).length:Int)-0).toNat+1),0)
abbrev Qjn (words:List ByteArray) (m39:Nat) (v15:Int):Prop:=Int.toNat (((F238 (words.getD (Int.toNat 0) default)).length:Int)-v15)<m39∧(0:Int)≤v15
abbrev Qwa (words:List ByteArray):Lp Int (form×Bool):=LpX (Vb words) (Pa words)
abbrev Mx (words:List ByteArray) (i:Nat×Int):Prop:=LpJ (Vb words) (Pa words) i (Qjn words i.1 i.2)
abbrev Qqs (words:List ByteArray) (i:Nat×Int) (m39:Nat) (v15:Int):Prop:=LpH (Vb words) (Pa words) i m39 v15 (Qjn words (m39+1) v15)
abbrev Quf (words:List ByteArray) (v15:Int) (v15_:Int) (K39:Prop):Prop:=(Rf (.int .i64 ((F238 (words.getD (Int.toNat 0) default)).length:Int)))∧((.int .i64 v15:Value)=.int .i64 v15_)∧(Im (.l 1 eStr words))∧(Rf (.string w13_))∧(Rf (.int .i64 0))∧(Rf (.slice none 0 0))∧(Im (.b (.l 3 Hz (F238 (words.getD (Int.toNat 0) default)))))∧K39
theorem Uiw (words:List ByteArray) (i:Nat×Int) (h:Mx words i):Qqs words i (i.1-1) i.2:=⟨hd1 h.1 h.2.1,hd3 h.2.1,hd2 h.2.1,h.2.2⟩
theorem Uiz (words:List ByteArray) (i:Nat×Int) (m39:Nat) (v15:Int) (hl:m39<i.1) (e:runL (Vb words) m39 v15=Qwa words) (h:Qjn words m39 v15):∃ j:Nat×Int,Quf words v15 j.2 (Mx words j∧j.1<i.1):=⟨(m39,v15),rfl,rfl,Imp.refl _,rfl,rfl,rfl,Imp.refl _,⟨e,h⟩,hl⟩
theorem Ujx (words:List ByteArray) (h:(0:Int)≤0):Quf words 0 0 (Mx words (Pa words)):=⟨rfl,rfl,Imp.refl _,rfl,rfl,rfl,Imp.refl _,rfl,Nat.lt_succ_self _,h⟩
def S219 (words:List ByteArray):Spec:=⟨[.r (.c (.l 1 eStr words))],.tu [.ag [.v (.string (F219 words).1.word),.v (vI (F219 words).1.key),.ow .any],.v (.bool (F219 words).2)],(∀ k:Nat,(words.getD k default).size≤1048576)⟩
theorem ok219 (words:List ByteArray):(S219 words).ok Tryz.prog 219 false :=
 Qg mixed (fn:=Tryz.f219) (ct:=.seqk [(0,0)] .no (.seq (.seq .no (.cond (.seq .no .no) .no)) (.seq (.seqk [(0,0),(13,0)] (.reg [(3,kh238 (words.getD (Int.toNat 0) default))]) (.blk (.loop (ι:=Nat×Int) (fun i=>(fun (v15:Int)=>(⟨[(0,some (.h 0 0)),(2,some (.p 1 0)),(13,some (.h 2 0)),(14,some (.v (vI ((F238 (words.getD (Int.toNat 0) default)).length:Int)))),(15,some (.v (vI v15)))],[(0,some (.shr none (.l 1 eStr words))),(1,some (.box 205 [.v (.string w13_),.v (vI 0),.v (.slice none 0 0)])),(2,some (.own 2 (.b (.l 3 Hz (F238 (words.getD (Int.toNat 0) default))))))],3⟩:St)) i.2) (Mx words) (fun i=>i.1) (Pa words) (fun i=>(fun (v15:Int)=>(.seq .no (.seq (.cond .no .no) (.seq (.blk (.seq .no (.seq (.reg [(2,kh239 ((F238 (words.getD (Int.toNat 0) default)).getD v15.toNat default) words)]) (.cond (.seq .no .no) .no)))) (.reg [(0,.bnd)]))))) i.2)))) (.seq .no .no)))) Tryz.func219 (fun (hpre0:∀ k:Nat,(words.getD k default).size≤1048576)=>kn words fun _=>ife (words.length:Int) 0 (fun h1 _=>(fun hF:((⟨w13_,0,[]⟩:form),false)=(F219 words)=>ai (congrArg (fun r:form×Bool=>(.string r.1.word:Value)) hF) (ai (congrArg (fun r:form×Bool=>(.int .i64 r.1.key:Value)) hF) (ai (congrArg (fun r:form×Bool=>(.bool r.2:Value)) hF) trivial))) (condT h1 rfl)) (fun h1 _=>ai (by omega:ib 0 words) (kc238 (words.getD (Int.toNat 0) default) (fun gv2=>kn words fun _=>kn (F238 (words.getD (Int.toNat 0) default)) fun _=>ai (Ujx words (by omega)) (fun (i0:Nat×Int) (hi0:Mx words i0)=>(fun (m0:Nat) (v15:Int) (hh0:Qqs words i0 m0 v15)=>have hI0:=hh0.1; have hl0:=hh0.2.1; have _:=hh0.2.2.1; have _:=hh0.2.2.2; ifd (v15<((F238 (words.getD (Int.toNat 0) default)).length:Int)) (fun h4 _=>ai (by omega:ib v15 (F238 (words.getD (Int.toNat 0) default))) (kc239 ((F238 (words.getD (Int.toNat 0) default)).getD v15.toNat default) words (by exact gv2 _) (by assumption) (ifb (F239 ((F238 (words.getD (Int.toNat 0) default)).getD v15.toNat default) words) (fun h5=>(fun hF:(((F238 (words.getD (Int.toNat 0) default)).getD v15.toNat default),true)=(F219 words)=>ai (congrArg (fun r:form×Bool=>(.string r.1.word:Value)) hF) (ai (congrArg (fun r:form×Bool=>(.int .i64 r.1.key:Value)) hF) (ai (congrArg (fun r:form×Bool=>(.bool r.2:Value)) hF) trivial))) (condF h1 (finR (Qp hI0 (condT h4 (condT h5 rfl))) rfl))) (fun h5=>ai (iok (v15+1) (by omega)) (Uiz words i0 m0 (v15+1) hl0 (Qc hI0 (condT h4 (condF h5 rfl))) (by refine ⟨?_,?_⟩ <;> omega)))))) (fun h4 _=>have hD0_6:Qwa words=Lp.done v15:=Qi hI0 (condF h4 rfl); (fun hF:((⟨w13_,0,[]⟩:form),false)=(F219 words)=>ai (congrArg (fun r:form×Bool=>(.string r.1.word:Value)) hF) (ai (congrArg (fun r:form×Bool=>(.int .i64 r.1.key:Value)) hF) (ai (congrArg (fun r:form×Bool=>(.bool r.2:Value)) hF) trivial))) (condF h1 (finD hD0_6 rfl)))) (i0.1-1) i0.2 (Uiw words i0 hi0)))))) (by kernel_rfl)
theorem Qgg {α ρ τ:Type} [Inhabited α] (xs:List α) (p:α→Bool) (g:α→ρ) (st:Int→Lp Int ρ) (f:ρ→τ) (k:Int→τ) (y:τ) (hk:∀ i,k i=y)
  (h1:∀ i:Nat,i<xs.length→st (i:Int)=bif p (xs.getD i default) then .ret (g (xs.getD i default)) else .next ((i+1:Nat):Int)) (h2:st (xs.length:Int)=.done (xs.length:Int)) :
  ∀ (m i:Nat),i+m=xs.length→∀ fuel,m<fuel→(runL st fuel (i:Int)).fin f k=match (xs.drop i).find? p with | some a=>f (g a) | none=>y
 | m,i,_,0,hf=>absurd hf (Nat.not_lt_zero _)
 | 0,i,h,fuel+1,hf=>by
  have e:i=xs.length:=by omega
  subst e
  rw [Ky _ h2,List.drop_of_length_le (Nat.le_refl _)]
  exact hk _
 | m+1,i,h,fuel+1,hf=>by
  have hst:=h1 i (by omega)
  have hd:xs.drop i=xs.getD i default :: xs.drop (i+1):=by
   rw [List.drop_eq_getElem_cons (show i<xs.length by omega),List.getD_eq_getElem?_getD,List.getElem?_eq_getElem (show i<xs.length by omega)]; rfl
  rw [hd,List.find?_cons]
  cases hp:p (xs.getD i default) with
  | true=>rw [hp,cond_true] at hst; rw [Zp _ hst]; rfl
  | false =>
   rw [hp,cond_false] at hst
   rw [Ye _ hst,Qgg xs p g st f k y hk h1 h2 m (i+1) (by omega) fuel (by omega)]
def chk:List (ByteArray→Bool)→Nat→List ByteArray→Bool
 | [],_,_=>true
 | c :: cs,i,w=>c (w.getD i default)&&chk cs (i+1) w
theorem Qmo (cs:List (ByteArray→Bool)) (w:List ByteArray):∀ (m i:Nat),i+m=cs.length→anyF (fun k=>!(cs.getD k default) (w.getD (k+1) default)) i m=!chk (cs.drop i) (i+1) w
 | 0,i,h=>by rw [List.drop_of_length_le (by omega)]; rfl
 | m+1,i,h=>by
  have hd:cs.drop i=cs.getD i default :: cs.drop (i+1):=by
   rw [List.drop_eq_getElem_cons (show i<cs.length by omega),List.getD_eq_getElem?_getD,List.getElem?_eq_getElem (show i<cs.length by omega)]; rfl
  rw [hd]
  simp only [anyF,chk,Bool.not_and]
  rw [Qmo cs w m (i+1) (by omega)]
theorem Jc (f:form) (w:List ByteArray):F239 f w=(decide (w.length=f.checks.length+1)&&chk f.checks 1 w):=by
 unfold F239
 by_cases h:w.length=f.checks.length+1
 ·have h1:((w.length:Int) != ((f.checks.length:Int)+1))=false:=by
   rw [bne_eq_false_iff_eq]; omega
  rw [h1,cond_false,decide_eq_true h,Bool.true_and]
  have:=Yn (Vd f w) f.checks.length (fun k=>!(f.checks.getD k default) (w.getD (k+1) default)) false (fun r=>r) true (fun i hi=>by
   simp only [Vd,decide_eq_true (show (i:Int)<(f.checks.length:Int) by omega),cond_true,Int.toNat_natCast]
   rw [show ((i:Int)+1).toNat=i+1 by omega]
   cases (!(f.checks.getD i default) (w.getD (i+1) default)) <;> rfl) (by
   simp only [Vd,decide_eq_false (show ¬ (f.checks.length:Int)<(f.checks.length:Int) by omega),cond_false])
  have h2:=this f.checks.length 0 (by omega) (Int.toNat ((f.checks.length:Int)-0)+1) (by omega)
  rw [Qmo f.checks w f.checks.length 0 (by omega),List.drop_zero] at h2
  refine h2.trans ?_
  cases chk f.checks (0+1) w <;> rfl
 ·have h1:((w.length:Int) != ((f.checks.length:Int)+1))=true:=by
   rw [bne_iff_ne]; omega
  rw [h1,cond_true,decide_eq_false h,Bool.false_and]
theorem Ea (w:List ByteArray) (hw:w.length≠0):F219 w=match (F238 (w.getD 0 default)).find? (fun f=>F239 f w) with | some f=>(f,true) | none=>((⟨(⟨#[]⟩:ByteArray),0,[]⟩:form),false):=by
 unfold F219
 have h1:((w.length:Int)==0)=false:=by rw [beq_eq_false_iff_ne]; omega
 rw [h1,cond_false]
 have h0:w.getD (Int.toNat 0) default=w.getD 0 default:=rfl
 simp only [h0]
 generalize hx:F238 (w.getD 0 default)=xs
 have:=Qgg xs (fun f=>F239 f w) (fun f=>(f,true)) (Vb w) (fun r=>r) (fun _=>((⟨(⟨#[]⟩:ByteArray),0,[]⟩:form),false)) _ (fun _=>rfl) (fun i hi=>by
  simp only [Vb,h0,hx,decide_eq_true (show (i:Int)<(xs.length:Int) by omega),cond_true,Int.toNat_natCast]
  cases F239 (xs.getD i default) w <;> rfl) (by
  simp only [Vb,h0,hx,decide_eq_false (show ¬ (xs.length:Int)<(xs.length:Int) by omega),cond_false]) xs.length 0 (by omega) (Int.toNat ((xs.length:Int)-0)+1) (by omega)
 rw [List.drop_zero] at this
 refine Eq.trans this ?_
 cases xs.find? (fun f=>F239 f w) <;> rfl
theorem Kk (l:List UInt8) (x:ByteArray) (h:x.data.toList=l):F238 x=all238.filter (fun z=>z.word.data.toList==l):=by
 unfold F238
 congr 1
 funext z
 rw [Qy,Qy,h]
def keyN (l:List UInt8):Int :=
 if l=[104,111,115,116] then 1 else if l=[117,115,101,114] then 2 else if l=[112,111,114,116] then 2 else if l=[114,117,108,101] then 3 else if l=[114,111,117,116,101] then 3 else if l=[112,101,101,114] then 2 else if l=[110,97,116] then 1 else 3
theorem Wn (x a:ByteArray):F271 x [a]=(x.toList==a.toList):=by
 unfold F271
 rw [Lr,List.any_cons,List.any_nil,Bool.or_false]
theorem Zy (x a b:ByteArray):F271 x [a,b]=bif (x.toList==a.toList) then true else (x.toList==b.toList):=by
 unfold F271
 rw [Lr,List.any_cons,List.any_cons,List.any_nil,Bool.or_false]
 cases (x.toList==a.toList) <;> rfl
theorem Wq (x:ByteArray) (lo hi:Int):F269 x lo hi=decide (lo≤F79 x∧F79 x≤hi):=by
 unfold F269
 rw [Wm]
theorem Wi (w:List ByteArray) (n:Nat):((w.length:Int)==(n:Int))=decide (w.length=n):=by
 by_cases h:w.length=n
 ·rw [decide_eq_true h,beq_iff_eq]; omega
 ·rw [decide_eq_false h,beq_eq_false_iff_ne]; omega
theorem Jy (w:List ByteArray) (f:form) (hw:w.length≠0) (h:F238 (w.getD 0 default)=[f]):(F219 w).2=F239 f w∧((F219 w).2=true→(F219 w).1.key=f.key):=by
 rw [Ea w hw,h,List.find?_cons,List.find?_nil]
 cases F239 f w <;> exact ⟨rfl,fun h=>by first | rfl | cases h⟩
theorem Ufl (w:List ByteArray) (f g:form) (hw:w.length≠0) (h:F238 (w.getD 0 default)=[f,g]) (hk:f.key=g.key):(F219 w).2=(F239 f w || F239 g w)∧((F219 w).2=true→(F219 w).1.key=f.key):=by
 rw [Ea w hw,h,List.find?_cons,List.find?_cons,List.find?_nil]
 cases F239 f w <;> cases F239 g w <;> exact ⟨rfl,fun h=>by first | rfl | exact hk.symm | cases h⟩
theorem Qxh (w:List ByteArray) (hw:w.length≠0) (h:F238 (w.getD 0 default)=[]):(F219 w).2=false:=by
 rw [Ea w hw,h]; rfl
theorem blit (x:ByteArray) (a:Array UInt8):(x.toList==(⟨a⟩:ByteArray).toList)=(x.data.toList==a.toList):=by rw [Qy,Qy]
theorem hd00:(([104,111,115,116]:List UInt8)==([104,111,115,116]:List UInt8))=true:=by decide
theorem hd10:(([117,115,101,114]:List UInt8)==([104,111,115,116]:List UInt8))=false:=by decide
theorem hd11:(([117,115,101,114]:List UInt8)==([117,115,101,114]:List UInt8))=true:=by decide
theorem hd20:(([112,111,114,116]:List UInt8)==([104,111,115,116]:List UInt8))=false:=by decide
theorem hd21:(([112,111,114,116]:List UInt8)==([117,115,101,114]:List UInt8))=false:=by decide
theorem hd22:(([112,111,114,116]:List UInt8)==([112,111,114,116]:List UInt8))=true:=by decide
theorem hd30:(([114,117,108,101]:List UInt8)==([104,111,115,116]:List UInt8))=false:=by decide
theorem hd31:(([114,117,108,101]:List UInt8)==([117,115,101,114]:List UInt8))=false:=by decide
theorem hd32:(([114,117,108,101]:List UInt8)==([112,111,114,116]:List UInt8))=false:=by decide
theorem hd33:(([114,117,108,101]:List UInt8)==([114,117,108,101]:List UInt8))=true:=by decide
theorem hd40:(([114,111,117,116,101]:List UInt8)==([104,111,115,116]:List UInt8))=false:=by decide
theorem hd41:(([114,111,117,116,101]:List UInt8)==([117,115,101,114]:List UInt8))=false:=by decide
theorem hd42:(([114,111,117,116,101]:List UInt8)==([112,111,114,116]:List UInt8))=false:=by decide
theorem hd43:(([114,111,117,116,101]:List UInt8)==([114,117,108,101]:List UInt8))=false:=by decide
theorem hd44:(([114,111,117,116,101]:List UInt8)==([114,111,117,116,101]:List UInt8))=true:=by decide
theorem hd50:(([112,101,101,114]:List UInt8)==([104,111,115,116]:List UInt8))=false:=by decide
theorem hd51:(([112,101,101,114]:List UInt8)==([117,115,101,114]:List UInt8))=false:=by decide
theorem hd52:(([112,101,101,114]:List UInt8)==([112,111,114,116]:List UInt8))=false:=by decide
theorem hd53:(([112,101,101,114]:List UInt8)==([114,117,108,101]:List UInt8))=false:=by decide
theorem hd54:(([112,101,101,114]:List UInt8)==([114,111,117,116,101]:List UInt8))=false:=by decide
theorem hd55:(([112,101,101,114]:List UInt8)==([112,101,101,114]:List UInt8))=true:=by decide
theorem hd60:(([110,97,116]:List UInt8)==([104,111,115,116]:List UInt8))=false:=by decide
theorem hd61:(([110,97,116]:List UInt8)==([117,115,101,114]:List UInt8))=false:=by decide
theorem hd62:(([110,97,116]:List UInt8)==([112,111,114,116]:List UInt8))=false:=by decide
theorem hd63:(([110,97,116]:List UInt8)==([114,117,108,101]:List UInt8))=false:=by decide
theorem hd64:(([110,97,116]:List UInt8)==([114,111,117,116,101]:List UInt8))=false:=by decide
theorem hd65:(([110,97,116]:List UInt8)==([112,101,101,114]:List UInt8))=false:=by decide
theorem hd66:(([110,97,116]:List UInt8)==([110,97,116]:List UInt8))=true:=by decide
theorem hd70:(([100,111,111,114]:List UInt8)==([104,111,115,116]:List UInt8))=false:=by decide
theorem hd71:(([100,111,111,114]:List UInt8)==([117,115,101,114]:List UInt8))=false:=by decide
theorem hd72:(([100,111,111,114]:List UInt8)==([112,111,114,116]:List UInt8))=false:=by decide
theorem hd73:(([100,111,111,114]:List UInt8)==([114,117,108,101]:List UInt8))=false:=by decide
theorem hd74:(([100,111,111,114]:List UInt8)==([114,111,117,116,101]:List UInt8))=false:=by decide
theorem hd75:(([100,111,111,114]:List UInt8)==([112,101,101,114]:List UInt8))=false:=by decide
theorem hd76:(([100,111,111,114]:List UInt8)==([110,97,116]:List UInt8))=false:=by decide
theorem hd77:(([100,111,111,114]:List UInt8)==([100,111,111,114]:List UInt8))=true:=by decide
theorem cb1 (a b:Bool):(bif a then b else false)=(a&&b):=by cases a <;> rfl
theorem cb2 (a b:Bool):(bif a then true else b)=(a || b):=by cases a <;> rfl
theorem Qfi (w:List ByteArray):(F219 w).2=F235 w∧((F219 w).2=true→(F219 w).1.key=keyN (w.getD 0 default).data.toList):=by
 by_cases hw:w.length=0
 ·obtain rfl:=List.eq_nil_of_length_eq_zero hw
  exact ⟨rfl,fun h=>by cases h⟩
 have h0:((w.length:Int)==0)=false:=by rw [beq_eq_false_iff_ne]; omega
 have t0:∀ k:Nat,w.getD (k:Int).toNat default=w.getD k default:=fun _=>rfl
 have e0:w.getD (Int.toNat 0) default=w.getD 0 default:=rfl
 have e1:w.getD (Int.toNat 1) default=w.getD 1 default:=rfl
 have e2:w.getD (Int.toNat 2) default=w.getD 2 default:=rfl
 have e3:w.getD (Int.toNat 3) default=w.getD 3 default:=rfl
 have e4:w.getD (Int.toNat 4) default=w.getD 4 default:=rfl
 have e5:w.getD (Int.toNat 5) default=w.getD 5 default:=rfl
 have e6:w.getD (Int.toNat 6) default=w.getD 6 default:=rfl
 have n2:=Wi w 2
 have n3:=Wi w 3
 have n4:=Wi w 4
 have n5:=Wi w 5
 have n7:=Wi w 7
 simp only [Int.cast_ofNat_Int] at n2 n3 n4 n5 n7
 have hb:∀ l:List UInt8,(w.getD 0 default).data.toList=l→(w.getD 0 default).toList=l:=fun l h=>by rw [Qy,h]
 have hlit:∀ l:List UInt8,(⟨l.toArray⟩:ByteArray).toList=l:=fun l=>by rw [Qy]
 unfold F235
 simp only [h0,cond_false,e0,e1,e2,e3,e4,e5,e6,n2,n3,n4,n5,n7]
 rcases Classical.em ((w.getD 0 default).data.toList=[104,111,115,116]) with h | hn0
 ·have hF:=(Kk _ _ h).trans (show _=[all238.getD 0 default] from rfl)
  have f0:F239 (all238.getD 0 default) w=(decide (w.length=2)&&(F257 (w.getD 1 default)&&true)):=Jc _ _
  obtain ⟨k1,k2⟩:=Jy w _ hw hF
  refine ⟨?_,fun hh=>(k2 hh).trans (by rw [h]; rfl)⟩
  rw [k1,f0]
  simp only [blit,h,hd00,cond_true,cond_false,Kc,Uz,Yb,Yt,Wq,Wn,Zy,cb1,cb2,Bool.and_true,Bool.and_assoc]
 rcases Classical.em ((w.getD 0 default).data.toList=[117,115,101,114]) with h | hn1
 ·have hF:=(Kk _ _ h).trans (show _=[all238.getD 1 default] from rfl)
  have f0:F239 (all238.getD 1 default) w=(decide (w.length=3)&&(F257 (w.getD 1 default)&&(F258 (w.getD 2 default)&&true))):=Jc _ _
  obtain ⟨k1,k2⟩:=Jy w _ hw hF
  refine ⟨?_,fun hh=>(k2 hh).trans (by rw [h]; rfl)⟩
  rw [k1,f0]
  simp only [blit,h,hd10,hd11,cond_true,cond_false,Kc,Uz,Yb,Yt,Wq,Wn,Zy,cb1,cb2,Bool.and_true,Bool.and_assoc]
 rcases Classical.em ((w.getD 0 default).data.toList=[112,111,114,116]) with h | hn2
 ·have hF:=(Kk _ _ h).trans (show _=[all238.getD 2 default,all238.getD 3 default] from rfl)
  have f0:F239 (all238.getD 2 default) w=(decide (w.length=3)&&(F269 (w.getD 1 default) 0 7&&(F259 (w.getD 2 default)&&true))):=Jc _ _
  have f1:F239 (all238.getD 3 default) w=(decide (w.length=5)&&(F269 (w.getD 1 default) 0 7&&(F259 (w.getD 2 default)&&(F271 (w.getD 3 default) [(⟨#[105,110]⟩:ByteArray)]&&(F257 (w.getD 4 default)&&true))))):=Jc _ _
  obtain ⟨k1,k2⟩:=Ufl w _ _ hw hF rfl
  refine ⟨?_,fun hh=>(k2 hh).trans (by rw [h]; rfl)⟩
  rw [k1,f0,f1]
  simp only [blit,h,hd20,hd21,hd22,cond_true,cond_false,Kc,Uz,Yb,Yt,Wq,Wn,Zy,cb1,cb2,Bool.and_true,Bool.and_assoc]
  generalize decide (w.length=3)=a,decide (w.length=5)=b,decide (0≤F79 (w.getD 1 default)∧F79 (w.getD 1 default)≤7)=c,F252 (w.getD 2 default)=d,((w.getD 3 default).data.toList==[105,110])=e,F250 (w.getD 4 default)=g
  cases a <;> cases b <;> cases c <;> cases d <;> cases e <;> cases g <;> rfl
 rcases Classical.em ((w.getD 0 default).data.toList=[114,117,108,101]) with h | hn3
 ·have hF:=(Kk _ _ h).trans (show _=[all238.getD 4 default] from rfl)
  have f0:F239 (all238.getD 4 default) w=(decide (w.length=7)&&(F257 (w.getD 1 default)&&(F269 (w.getD 2 default) 0 99&&(F271 (w.getD 3 default) [(⟨#[112,101,114,109,105,116]⟩:ByteArray),(⟨#[100,101,110,121]⟩:ByteArray)]&&(F259 (w.getD 4 default)&&(F259 (w.getD 5 default)&&(F269 (w.getD 6 default) 0 7&&true))))))):=Jc _ _
  obtain ⟨k1,k2⟩:=Jy w _ hw hF
  refine ⟨?_,fun hh=>(k2 hh).trans (by rw [h]; rfl)⟩
  rw [k1,f0]
  simp only [blit,h,hd30,hd31,hd32,hd33,cond_true,cond_false,Kc,Uz,Yb,Yt,Wq,Wn,Zy,cb1,cb2,Bool.and_true,Bool.and_assoc]
 rcases Classical.em ((w.getD 0 default).data.toList=[114,111,117,116,101]) with h | hn4
 ·have hF:=(Kk _ _ h).trans (show _=[all238.getD 5 default] from rfl)
  have f0:F239 (all238.getD 5 default) w=(decide (w.length=3)&&(F259 (w.getD 1 default)&&(F261 (w.getD 2 default)&&true))):=Jc _ _
  obtain ⟨k1,k2⟩:=Jy w _ hw hF
  refine ⟨?_,fun hh=>(k2 hh).trans (by rw [h]; rfl)⟩
  rw [k1,f0]
  simp only [blit,h,hd40,hd41,hd42,hd43,hd44,cond_true,cond_false,Kc,Uz,Yb,Yt,Wq,Wn,Zy,cb1,cb2,Bool.and_true,Bool.and_assoc]
 rcases Classical.em ((w.getD 0 default).data.toList=[112,101,101,114]) with h | hn5
 ·have hF:=(Kk _ _ h).trans (show _=[all238.getD 6 default] from rfl)
  have f0:F239 (all238.getD 6 default) w=(decide (w.length=4)&&(F261 (w.getD 1 default)&&(F269 (w.getD 2 default) 1 9&&(F269 (w.getD 3 default) 1 999999&&true)))):=Jc _ _
  obtain ⟨k1,k2⟩:=Jy w _ hw hF
  refine ⟨?_,fun hh=>(k2 hh).trans (by rw [h]; rfl)⟩
  rw [k1,f0]
  simp only [blit,h,hd50,hd51,hd52,hd53,hd54,hd55,cond_true,cond_false,Kc,Uz,Yb,Yt,Wq,Wn,Zy,cb1,cb2,Bool.and_true,Bool.and_assoc]
 rcases Classical.em ((w.getD 0 default).data.toList=[110,97,116]) with h | hn6
 ·have hF:=(Kk _ _ h).trans (show _=[all238.getD 7 default] from rfl)
  have f0:F239 (all238.getD 7 default) w=(decide (w.length=5)&&(F259 (w.getD 1 default)&&(F261 (w.getD 2 default)&&(F269 (w.getD 3 default) 1 65535&&(F269 (w.getD 4 default) 1 65535&&true))))):=Jc _ _
  obtain ⟨k1,k2⟩:=Jy w _ hw hF
  refine ⟨?_,fun hh=>(k2 hh).trans (by rw [h]; rfl)⟩
  rw [k1,f0]
  simp only [blit,h,hd60,hd61,hd62,hd63,hd64,hd65,hd66,cond_true,cond_false,Kc,Uz,Yb,Yt,Wq,Wn,Zy,cb1,cb2,Bool.and_true,Bool.and_assoc]
 rcases Classical.em ((w.getD 0 default).data.toList=[100,111,111,114]) with h | hn7
 ·have hF:=(Kk _ _ h).trans (show _=[all238.getD 8 default] from rfl)
  have f0:F239 (all238.getD 8 default) w=(decide (w.length=5)&&(F269 (w.getD 1 default) 1 7&&(F269 (w.getD 2 default) 1 65535&&(F261 (w.getD 3 default)&&(F269 (w.getD 4 default) 1 65535&&true))))):=Jc _ _
  obtain ⟨k1,k2⟩:=Jy w _ hw hF
  refine ⟨?_,fun hh=>(k2 hh).trans (by rw [h]; rfl)⟩
  rw [k1,f0]
  simp only [blit,h,hd70,hd71,hd72,hd73,hd74,hd75,hd76,hd77,cond_true,cond_false,Kc,Uz,Yb,Yt,Wq,Wn,Zy,cb1,cb2,Bool.and_true,Bool.and_assoc]
 have hF:F238 (w.getD 0 default)=[]:=by
  rw [Kk _ _ rfl,List.filter_eq_nil_iff]
  intro z hz
  simp only [all238,List.mem_cons,List.not_mem_nil,or_false] at hz
  rcases hz with rfl | rfl | rfl | rfl | rfl | rfl | rfl | rfl | rfl
  ·exact fun e=>hn0 (eq_of_beq e).symm
  ·exact fun e=>hn1 (eq_of_beq e).symm
  ·exact fun e=>hn2 (eq_of_beq e).symm
  ·exact fun e=>hn2 (eq_of_beq e).symm
  ·exact fun e=>hn3 (eq_of_beq e).symm
  ·exact fun e=>hn4 (eq_of_beq e).symm
  ·exact fun e=>hn5 (eq_of_beq e).symm
  ·exact fun e=>hn6 (eq_of_beq e).symm
  ·exact fun e=>hn7 (eq_of_beq e).symm
 rw [Qxh w hw hF]
 refine ⟨?_,fun h=>by cases h⟩
 simp only [blit,beq_eq_false_iff_ne.2 hn0,beq_eq_false_iff_ne.2 hn1,beq_eq_false_iff_ne.2 hn2,beq_eq_false_iff_ne.2 hn3,beq_eq_false_iff_ne.2 hn4,beq_eq_false_iff_ne.2 hn5,beq_eq_false_iff_ne.2 hn6,beq_eq_false_iff_ne.2 hn7,cond_false]
theorem Qny (l:List UInt8) (k:Nat):((Vn l).1.getD k default).size≤24:=by
 unfold Vn fitW
 rw [List.getD_eq_getElem?_getD]
 cases h:((l.all okB)&&(decide ((Uh l).length≤8)&&(Uh l).all fun w=>decide (w.length≤24))) with
 | false=>rw [cond_false]; exact Nat.zero_le _
 | true =>
  rw [cond_true]
  simp only [Bool.and_eq_true] at h
  have h2:=List.all_eq_true.1 h.2.2
  show ((((Uh l).map mkB)[k]?).getD default).size≤24
  rw [List.getElem?_map]
  cases hk:(Uh l)[k]? with
  | none=>exact Nat.zero_le _
  | some w=>exact of_decide_eq_true (h2 w (List.mem_of_getElem? hk))
theorem Qna (line:ByteArray) (k:Nat):((F237 line).1.getD k default).size≤24:=by
 rw [Lc]; exact Qny _ k
theorem Qlu (line:ByteArray):∀ k:Nat,((F237 line).1.getD k default).size≤1048576:=fun k=>Nat.le_trans (Qna line k) (by decide)
theorem Hw (line:ByteArray):(F97 line).1.length≤8:=by rw [← Lb]; exact Qfk line
theorem Qb (line:ByteArray):∀ k:Nat,((F97 line).1.getD k default).size≤1048576:=by rw [← Lb]; exact Qlu line
theorem Rm (sep:List UInt8) (m:Nat):∀ xs:List (List UInt8),(∀ x∈xs,x.length≤m)→(Lib.joinTail sep xs).length≤xs.length*(m+sep.length)
 | [],_=>by simp [Lib.joinTail]
 | x :: xs,h=>by
  have h1:=Rm sep m xs fun y hy=>h y (List.mem_cons_of_mem _ hy)
  have h2:=h x List.mem_cons_self
  have e:Lib.joinTail sep (x :: xs)=(sep++x)++Lib.joinTail sep xs:=rfl
  rw [e]
  simp only [List.length_append,List.length_cons,Nat.succ_mul]
  omega
theorem Uhi (ws:List ByteArray) (sep:ByteArray) (m:Nat) (h:∀ k:Nat,(ws.getD k default).size≤m):(Yv ws sep).size≤ws.length*(m+sep.size):=by
 have hx:∀ x∈ws.map (·.data.toList),x.length≤m:=by
  intro x hx
  obtain ⟨w,hw,rfl⟩:=List.mem_map.1 hx
  obtain ⟨k,hk⟩:=List.mem_iff_getElem?.1 hw
  have:=h k
  rw [List.getD_eq_getElem?_getD,hk] at this
  exact this
 have e:(Yv ws sep).size=(Lib.join (ws.map (·.data.toList)) sep.data.toList).length:=by simp [Yv,ByteArray.size]
 have es:sep.data.toList.length=sep.size:=rfl
 rw [e]
 cases ws with
 | nil=>simp [Lib.join]
 | cons a t =>
  rw [List.map_cons,Lib.join_cons,List.length_append,List.length_cons,Nat.succ_mul]
  have h1:=Rm sep.data.toList m (t.map (·.data.toList)) fun y hy=>hx y (by rw [List.map_cons]; exact List.mem_cons_of_mem _ hy)
  have h2:=hx a.data.toList (by rw [List.map_cons]; exact List.mem_cons_self)
  rw [List.length_map,es] at h1
  omega
theorem Ld (ws:List ByteArray) (sep:ByteArray) (h:∀ k:Nat,(ws.getD k default).size≤1048576) (hl:ws.length≤8) (hs:sep.size≤1):(Yv ws sep).size≤140737488355328:=by
 have h1:=Uhi ws sep 1048576 h
 have h2:=Nat.mul_le_mul hl (show 1048576+sep.size≤1048577 by omega)
 omega
def F220 (elems:List ByteArray) (sep:ByteArray):ByteArray :=
 Yv elems sep
def S220 (elems:List ByteArray) (sep:ByteArray):Spec:=⟨[.r (.c (.l 1 eStr elems)),.r (.c (.v (.string sep)))],.v (.string (F220 elems sep)),elems.length≤140737488355328∧(Yv elems sep).size≤140737488355328⟩
theorem ok220 (elems:List ByteArray) (sep:ByteArray):(S220 elems sep).ok Tryz.prog 220 false :=
 Ukj Ulb Qzt elems sep
theorem kc237 (line:ByteArray) {K_:Prop} (p0_:line.size≤1048576) (k_:((F237 line).1.length≤8)→(∀ k:Nat,((F237 line).1.getD k default).size≤1048576)→K_):(line.size≤1048576)∧(Imp (.v (.string line)) (.v (.string line)))∧K_:=⟨p0_,Imp.refl _,k_ (Qfk line) (Qlu line)⟩
abbrev kh237 (line:ByteArray):Hint false Tryz.prog:=.call 237 (S237 line) (ok237 line) none
theorem kc219 (words:List ByteArray) {K_:Prop} (p0_:∀ k:Nat,(words.getD k default).size≤1048576) (k_:K_):(∀ k:Nat,(words.getD k default).size≤1048576)∧(Imp (.l 1 eStr words) (.l 1 eStr words))∧K_:=⟨p0_,Imp.refl _,k_⟩
abbrev kh219 (words:List ByteArray):Hint false Tryz.prog:=.call 219 (S219 words) (ok219 words) none
theorem kc220 (elems:List ByteArray) (sep:ByteArray) {K_:Prop} (p0_:elems.length≤140737488355328) (p1_:(Yv elems sep).size≤140737488355328) (k_:K_):(elems.length≤140737488355328∧(Yv elems sep).size≤140737488355328)∧(Imp (.l 1 eStr elems) (.l 1 eStr elems))∧(Imp (.v (.string sep)) (.v (.string sep)))∧K_:=⟨⟨p0_,p1_⟩,Imp.refl _,Imp.refl _,k_⟩
abbrev kh220 (elems:List ByteArray) (sep:ByteArray):Hint false Tryz.prog:=.call 220 (S220 elems sep) (ok220 elems sep) none
def F218 (line:ByteArray):ByteArray×Bool :=
 bif (!(F237 line).2) then ((⟨#[]⟩:ByteArray),false) else (bif (!(F219 (F237 line).1).2) then ((⟨#[]⟩:ByteArray),false) else ((F220 (F237 line).1 ⟨#[32]⟩),true))
theorem Ubz (line:ByteArray) (r:ByteArray×Bool) (hF:r=(F218 line)):((.string r.1:Value)=.string (F218 line).1)∧((.bool r.2:Value)=.bool (F218 line).2)∧True:=by cases hF; exact ⟨rfl,rfl,trivial⟩
def S218 (line:ByteArray):Spec:=⟨[.r (.c (.v (.string line)))],.tu [.v (.string (F218 line).1),.v (.bool (F218 line).2)],line.size≤1048576⟩
theorem ok218 (line:ByteArray):(S218 line).ok Tryz.prog 218 false :=
 Qg mixed (fn:=Tryz.f218) (ct:=.seq .no (.seq (.reg [(1,kh237 line)]) (.seq (.seq .no (.cond (.seq .no .no) .no)) (.seq (.seq (.reg [(1,kh219 (F237 line).1)]) (.seq .no (.cond (.seq .no .no) .no))) (.seq (.reg [(1,kh220 (F237 line).1 w15_)]) .no))))) Tryz.func218 (fun (hpre0:line.size≤1048576)=>kc237 line (by omega) (fun gv1 gv2=>ifb (!(F237 line).2) (fun h3=>have _:=(Kd h3); Ubz line (w13_,false) (condT h3 rfl)) (fun h3=>have _:=(Uq h3); kc219 (F237 line).1 (by first | assumption | exact gv2 | (intros; exact trivial) | (intros; exact Nat.zero_le _)) (ifb (!(F219 (F237 line).1).2) (fun h4=>have _:=(Kd h4); Ubz line (w13_,false) (condF h3 (condT h4 rfl))) (fun h4=>have _:=(Uq h4); kc220 (F237 line).1 w15_ (by first | omega | exact Ld _ _ (by assumption) (by omega) (by decide)) (by first | omega | exact Ld _ _ (by assumption) (by omega) (by decide)) (Ubz line ((F220 (F237 line).1 w15_),true) (condF h3 (condF h4 rfl)))))))) (by kernel_rfl)
theorem kc97 (line:ByteArray) {K_:Prop} (p0_:line.size≤1048576) (k_:((F97 line).1.length≤8)→(∀ k:Nat,((F97 line).1.getD k default).size≤1048576)→K_):(line.size≤1048576)∧(Imp (.v (.string line)) (.v (.string line)))∧K_:=⟨p0_,Imp.refl _,k_ (Hw line) (Qb line)⟩
abbrev kh97 (line:ByteArray):Hint true Tryz.prog:=.call 97 (S97 line) (ok97 line) none
theorem kg235 {K_:Prop} (c_ b_:Bool) (w1:List ByteArray) (p_:c_=b_→(∀ k:Nat,(w1.getD k default).size≤1048576)) (k_:K_):(c_=b_→(∀ k:Nat,(w1.getD k default).size≤1048576))∧(c_=b_→Imp (.l 1 eStr w1) (.l 1 eStr w1))∧K_:=⟨p_,fun _=>Imp.refl _,k_⟩
abbrev kh235 (w1:List ByteArray):Hint true Tryz.prog:=.call 235 (S235 w1) (ok235 w1) none
theorem kc236 (list:List ByteArray) (with':ByteArray) {K_:Prop} (p0_:list.length≤8) (p1_:∀ k:Nat,(list.getD k default).size≤1048576) (p2_:with'.size≤1) (k_:K_):(list.length≤8∧(∀ k:Nat,(list.getD k default).size≤1048576)∧with'.size≤1)∧(Imp (.l 1 eStr list) (.l 1 eStr list))∧(Imp (.v (.string with')) (.v (.string with')))∧K_:=⟨⟨p0_,p1_,p2_⟩,Imp.refl _,Imp.refl _,k_⟩
abbrev kh236 (list:List ByteArray) (with':ByteArray):Hint true Tryz.prog:=.call 236 (S236 list with') (ok236 list with') none
def F216 (line:ByteArray):ByteArray×Bool :=
 bif (bif (!(F97 line).2) then true else (!(F235 (F97 line).1))) then ((⟨#[]⟩:ByteArray),false) else ((F236 (F97 line).1 ⟨#[32]⟩),true)
theorem fi216 (line:ByteArray) (r:ByteArray×Bool) (hF:r=(F216 line)):((.string r.1:Value)=.string (F216 line).1)∧((.bool r.2:Value)=.bool (F216 line).2)∧True:=by cases hF; exact ⟨rfl,rfl,trivial⟩
def S216 (line:ByteArray):Spec:=⟨[.r (.c (.v (.string line)))],.tu [.v (.string (F216 line).1),.v (.bool (F216 line).2)],line.size≤1048576⟩
theorem ok216 (line:ByteArray):(S216 line).ok Tryz.prog 216 :=
 Qg mixed (fn:=Tryz.f216) (ct:=.seq .no (.seq (.reg [(1,kh97 line)]) (.seq (.seq (.reg [(4,kh235 (F97 line).1)]) (.cond (.seq .no .no) .no)) (.seq (.reg [(1,kh236 (F97 line).1 w15_)]) .no)))) Tryz.func216 (fun (hpre0:line.size≤1048576)=>kc97 line (by omega) (fun gv1 gv2=>kg235 (!(F97 line).2) false (F97 line).1 (fun k3=>have _:=(Uq k3); (by first | assumption | exact gv2 | (intros; exact trivial) | (intros; exact Nat.zero_le _))) (ifb (bif (!(F97 line).2) then true else (!(F235 (F97 line).1))) (fun h4=>fi216 line (w13_,false) (condT h4 rfl)) (fun h4=>have _:=(Uq (orF1 h4)); kc236 (F97 line).1 w15_ (by first | assumption | omega | decide) (by first | assumption | omega | decide) (by first | assumption | omega | decide) (fi216 line ((F236 (F97 line).1 w15_),true) (condF h4 rfl)))))) (by kernel_rfl)
theorem Qwt (line:ByteArray):F218 line=F216 line:=by
 unfold F218 F216
 rw [Lb,(Qfi _).1,Qac]
 cases (F97 line).2 <;> cases F235 (F97 line).1 <;> rfl
def Qgn (w:List ByteArray):Prop:=(w.getD 0 default).data.toList=[104,111,115,116]∧w.length=2∧F250 (w.getD 1 default)=true
def Wz (w:List ByteArray):Prop:=(w.getD 0 default).data.toList=[117,115,101,114]∧w.length=3∧F250 (w.getD 1 default)=true∧F251 (w.getD 2 default)=true
def Vm (w:List ByteArray):Prop:=(w.getD 0 default).data.toList=[112,111,114,116]∧(w.length=3∨w.length=5∧(w.getD 3 default).data.toList=[105,110]∧F250 (w.getD 4 default)=true)∧0≤F79 (w.getD 1 default)∧F79 (w.getD 1 default)≤7∧F252 (w.getD 2 default)=true
def Yi (w:List ByteArray):Prop:=(w.getD 0 default).data.toList=[114,117,108,101]∧w.length=7∧F250 (w.getD 1 default)=true∧0≤F79 (w.getD 2 default)∧F79 (w.getD 2 default)≤99∧((w.getD 3 default).data.toList=[112,101,114,109,105,116]∨(w.getD 3 default).data.toList=[100,101,110,121])∧F252 (w.getD 4 default)=true∧F252 (w.getD 5 default)=true∧0≤F79 (w.getD 6 default)∧F79 (w.getD 6 default)≤7
def Xa (w:List ByteArray):Prop:=(w.getD 0 default).data.toList=[114,111,117,116,101]∧w.length=3∧F252 (w.getD 1 default)=true∧F78 (w.getD 2 default)≥0
def Rt (w:List ByteArray):Prop:=(w.getD 0 default).data.toList=[112,101,101,114]∧w.length=4∧F78 (w.getD 1 default)≥0∧1≤F79 (w.getD 2 default)∧F79 (w.getD 2 default)≤9∧1≤F79 (w.getD 3 default)∧F79 (w.getD 3 default)≤999999
def natP (w:List ByteArray):Prop:=(w.getD 0 default).data.toList=[110,97,116]∧w.length=5∧F252 (w.getD 1 default)=true∧F78 (w.getD 2 default)≥0∧1≤F79 (w.getD 3 default)∧F79 (w.getD 3 default)≤65535∧1≤F79 (w.getD 4 default)∧F79 (w.getD 4 default)≤65535
def Wr (w:List ByteArray):Prop:=(w.getD 0 default).data.toList=[100,111,111,114]∧w.length=5∧1≤F79 (w.getD 1 default)∧F79 (w.getD 1 default)≤7∧1≤F79 (w.getD 2 default)∧F79 (w.getD 2 default)≤65535∧F78 (w.getD 3 default)≥0∧1≤F79 (w.getD 4 default)∧F79 (w.getD 4 default)≤65535
def Jb (w:List ByteArray):Prop:=Qgn w∨Wz w∨Vm w∨Yi w∨Xa w∨Rt w∨natP w∨Wr w
theorem Qmz (w:List ByteArray) (hF:F235 w=true):Jb w:=by
 have hw:w.length≠0:=fun h=>by
  obtain rfl:=List.eq_nil_of_length_eq_zero h
  exact Bool.false_ne_true hF
 have h0:((w.length:Int)==0)=false:=by rw [beq_eq_false_iff_ne]; omega
 have e0:w.getD (Int.toNat 0) default=w.getD 0 default:=rfl
 have e1:w.getD (Int.toNat 1) default=w.getD 1 default:=rfl
 have e2:w.getD (Int.toNat 2) default=w.getD 2 default:=rfl
 have e3:w.getD (Int.toNat 3) default=w.getD 3 default:=rfl
 have e4:w.getD (Int.toNat 4) default=w.getD 4 default:=rfl
 have e5:w.getD (Int.toNat 5) default=w.getD 5 default:=rfl
 have e6:w.getD (Int.toNat 6) default=w.getD 6 default:=rfl
 have n2:=Wi w 2
 have n3:=Wi w 3
 have n4:=Wi w 4
 have n5:=Wi w 5
 have n7:=Wi w 7
 simp only [Int.cast_ofNat_Int] at n2 n3 n4 n5 n7
 unfold F235 at hF
 simp only [h0,cond_false,e0,e1,e2,e3,e4,e5,e6,n2,n3,n4,n5,n7] at hF
 rcases Classical.em ((w.getD 0 default).data.toList=[104,111,115,116]) with h | hn0
 ·simp only [blit,h,hd00,cond_true,cond_false,cb1,cb2,Bool.and_eq_true,Bool.or_eq_true,decide_eq_true_eq,beq_iff_eq,and_assoc] at hF
  exact Or.inl ⟨h,hF⟩
 rcases Classical.em ((w.getD 0 default).data.toList=[117,115,101,114]) with h | hn1
 ·simp only [blit,h,hd10,hd11,cond_true,cond_false,cb1,cb2,Bool.and_eq_true,Bool.or_eq_true,decide_eq_true_eq,beq_iff_eq,and_assoc] at hF
  exact Or.inr (Or.inl ⟨h,hF⟩)
 rcases Classical.em ((w.getD 0 default).data.toList=[112,111,114,116]) with h | hn2
 ·simp only [blit,h,hd20,hd21,hd22,cond_true,cond_false,cb1,cb2,Bool.and_eq_true,Bool.or_eq_true,decide_eq_true_eq,beq_iff_eq,and_assoc] at hF
  exact Or.inr (Or.inr (Or.inl ⟨h,hF⟩))
 rcases Classical.em ((w.getD 0 default).data.toList=[114,117,108,101]) with h | hn3
 ·simp only [blit,h,hd30,hd31,hd32,hd33,cond_true,cond_false,cb1,cb2,Bool.and_eq_true,Bool.or_eq_true,decide_eq_true_eq,beq_iff_eq,and_assoc] at hF
  exact Or.inr (Or.inr (Or.inr (Or.inl ⟨h,hF⟩)))
 rcases Classical.em ((w.getD 0 default).data.toList=[114,111,117,116,101]) with h | hn4
 ·simp only [blit,h,hd40,hd41,hd42,hd43,hd44,cond_true,cond_false,cb1,cb2,Bool.and_eq_true,Bool.or_eq_true,decide_eq_true_eq,beq_iff_eq,and_assoc] at hF
  exact Or.inr (Or.inr (Or.inr (Or.inr (Or.inl ⟨h,hF⟩))))
 rcases Classical.em ((w.getD 0 default).data.toList=[112,101,101,114]) with h | hn5
 ·simp only [blit,h,hd50,hd51,hd52,hd53,hd54,hd55,cond_true,cond_false,cb1,cb2,Bool.and_eq_true,Bool.or_eq_true,decide_eq_true_eq,beq_iff_eq,and_assoc] at hF
  exact Or.inr (Or.inr (Or.inr (Or.inr (Or.inr (Or.inl ⟨h,hF⟩)))))
 rcases Classical.em ((w.getD 0 default).data.toList=[110,97,116]) with h | hn6
 ·simp only [blit,h,hd60,hd61,hd62,hd63,hd64,hd65,hd66,cond_true,cond_false,cb1,cb2,Bool.and_eq_true,Bool.or_eq_true,decide_eq_true_eq,beq_iff_eq,and_assoc] at hF
  exact Or.inr (Or.inr (Or.inr (Or.inr (Or.inr (Or.inr (Or.inl ⟨h,hF⟩))))))
 rcases Classical.em ((w.getD 0 default).data.toList=[100,111,111,114]) with h | hn7
 ·simp only [blit,h,hd70,hd71,hd72,hd73,hd74,hd75,hd76,hd77,cond_true,cond_false,cb1,cb2,Bool.and_eq_true,Bool.or_eq_true,decide_eq_true_eq,beq_iff_eq,and_assoc] at hF
  exact Or.inr (Or.inr (Or.inr (Or.inr (Or.inr (Or.inr (Or.inr (⟨h,hF⟩)))))))
 exfalso
 simp only [blit,beq_eq_false_iff_ne.2 hn0,beq_eq_false_iff_ne.2 hn1,beq_eq_false_iff_ne.2 hn2,beq_eq_false_iff_ne.2 hn3,beq_eq_false_iff_ne.2 hn4,beq_eq_false_iff_ne.2 hn5,beq_eq_false_iff_ne.2 hn6,beq_eq_false_iff_ne.2 hn7,cond_false] at hF
 exact Bool.false_ne_true hF
theorem Gj (w:List ByteArray) (h:Jb w):2≤w.length∧w.length≤7:=by
 unfold Jb Qgn Wz Vm Yi Xa Rt natP Wr at h
 omega
theorem Ev (w:List ByteArray) (h:Jb w):1≤keyN (w.getD 0 default).data.toList∧keyN (w.getD 0 default).data.toList≤3∧keyN (w.getD 0 default).data.toList≤(w.length:Int):=by
 rcases h with h | h | h | h | h | h | h | h
 ·have hk:keyN (w.getD 0 default).data.toList=1:=by rw [h.1]; decide
  unfold Qgn at h
  omega
 ·have hk:keyN (w.getD 0 default).data.toList=2:=by rw [h.1]; decide
  unfold Wz at h
  omega
 ·have hk:keyN (w.getD 0 default).data.toList=2:=by rw [h.1]; decide
  unfold Vm at h
  omega
 ·have hk:keyN (w.getD 0 default).data.toList=3:=by rw [h.1]; decide
  unfold Yi at h
  omega
 ·have hk:keyN (w.getD 0 default).data.toList=3:=by rw [h.1]; decide
  unfold Xa at h
  omega
 ·have hk:keyN (w.getD 0 default).data.toList=2:=by rw [h.1]; decide
  unfold Rt at h
  omega
 ·have hk:keyN (w.getD 0 default).data.toList=1:=by rw [h.1]; decide
  unfold natP at h
  omega
 ·have hk:keyN (w.getD 0 default).data.toList=3:=by rw [h.1]; decide
  unfold Wr at h
  omega
theorem Qgw (c:UInt8):∀ (l:List UInt8),∀ w∈Ua c l,c ∉ w
 | [],w,h=>by rw [Ua,List.mem_singleton] at h; rw [h]; exact List.not_mem_nil
 | b :: l,w,h=>by
  have ih:=Qgw c l
  rw [Ua] at h
  by_cases hb:b=c
  ·rw [if_pos hb] at h
   rcases List.mem_cons.1 h with rfl | h
   ·exact List.not_mem_nil
   ·exact ih w h
  ·rw [if_neg hb] at h
   have hbc:¬ c=b:=fun e=>hb e.symm
   cases hs:Ua c l with
   | nil =>
    rw [hs] at h
    rw [List.mem_singleton] at h; rw [h]
    intro hm; rcases List.mem_cons.1 hm with e | e
    ·exact hbc e
    ·cases e
   | cons p ps =>
    rw [hs] at h ih
    rcases List.mem_cons.1 h with rfl | h
    ·intro hm; rcases List.mem_cons.1 hm with e | e
     ·exact hbc e
     ·exact ih p List.mem_cons_self e
    ·exact ih w (List.mem_cons_of_mem _ h)
theorem Qcj (c:UInt8):∀ (ws:List (List UInt8)),ws≠[]→(∀ w∈ws,c ∉ w)→Ua c (Lib.join ws [c])=ws
 | [],h,_=>absurd rfl h
 | [x],_,h=>by rw [Lib.join_one,Uy (h x List.mem_cons_self)]
 | x :: y :: r,_,h=>by
  have ih:=Qcj c (y :: r) (by simp) fun w hw=>h w (List.mem_cons_of_mem _ hw)
  rw [Lib.join_cons]
  have e:Lib.joinTail [c] (y :: r)=c :: Lib.join (y :: r) [c]:=by rw [Lib.join_cons]; rfl
  rw [e,Yo _ (h x List.mem_cons_self),ih]
theorem Qsr (line:ByteArray):∀ w∈(F97 line).1,(32:UInt8) ∉ w.data.toList∧w.data.toList≠[]∧w.size≤24:=by
 rw [Qbb]
 unfold Vn fitW
 cases h:(((cut3 line (⟨#[35]⟩:ByteArray)).1.data.toList.all okB)&&(decide ((Uh (cut3 line (⟨#[35]⟩:ByteArray)).1.data.toList).length≤8)&&(Uh (cut3 line (⟨#[35]⟩:ByteArray)).1.data.toList).all fun w=>decide (w.length≤24))) with
 | false=>intro w hw; rw [cond_false] at hw; cases hw
 | true =>
  rw [cond_true]
  simp only [Bool.and_eq_true] at h
  intro w hw
  obtain ⟨l,hl,rfl⟩:=List.mem_map.1 hw
  have h1:=of_decide_eq_true (List.all_eq_true.1 h.2.2 l hl)
  have h2:=List.mem_filter.1 hl
  refine ⟨Qgw 32 _ l h2.1,?_,h1⟩
  intro e
  have e':l=[]:=e
  rw [e'] at h2
  exact Bool.false_ne_true h2.2
structure Uec (line:ByteArray) (w:List ByteArray):Prop where
 words:F97 line=(w,true)
 form:Jb w
 joins:Yv w (⟨#[32]⟩:ByteArray)=line
 splits:Qx line (⟨#[32]⟩:ByteArray)=w
 no:∀ x∈w,(32:UInt8) ∉ x.data.toList∧x.data.toList≠[]∧x.size≤24
theorem Qpn (w:List ByteArray) (h0:w≠[]) (h:∀ x∈w,(32:UInt8) ∉ x.data.toList):Qx (Yv w (⟨#[32]⟩:ByteArray)) (⟨#[32]⟩:ByteArray)=w:=by
 rw [Ts]
 have e:(Yv w (⟨#[32]⟩:ByteArray)).data.toList=Lib.join (w.map (·.data.toList)) [32]:=rfl
 rw [e,Qcj 32 _ (by simpa using h0) (fun x hx=>by obtain ⟨y,hy,rfl⟩:=List.mem_map.1 hx; exact h y hy),List.map_map]
 exact (List.map_congr_left fun x _=>Qbj x).trans (List.map_id _)
theorem Et (line:ByteArray):F216 line=bif (F97 line).2&&F235 (F97 line).1 then (Yv (F97 line).1 (⟨#[32]⟩:ByteArray),true) else ((⟨#[]⟩:ByteArray),false):=by
 unfold F216
 rw [Qac]
 cases (F97 line).2 <;> cases F235 (F97 line).1 <;> rfl
theorem Qkd (a b:ByteArray):(a.toList==b.toList)=decide (a=b):=by
 rw [Qy,Qy]
 by_cases h:a=b
 ·rw [h,decide_eq_true rfl]; simp
 ·rw [decide_eq_false h,beq_eq_false_iff_ne]; exact fun e=>h (Ww e)
theorem Ukz (line:ByteArray) (h:(F216 line).2=true∧(F216 line).1=line):Uec line (F97 line).1:=by
 rw [Et] at h
 cases hc:((F97 line).2&&F235 (F97 line).1) with
 | false=>rw [hc,cond_false] at h; exact absurd h.1 Bool.false_ne_true
 | true =>
  rw [hc,cond_true] at h
  simp only [Bool.and_eq_true] at hc
  have hf:=Qmz _ hc.2
  have hn:=Qsr line
  refine ⟨Prod.ext rfl hc.1,hf,h.2,?_,hn⟩
  have hne:(F97 line).1≠[]:=fun e=>by have:=(Gj _ hf).1; rw [e] at this; simp at this
  have:=Qpn _ hne fun x hx=>(hn x hx).1
  have e:Yv (F97 line).1 (⟨#[32]⟩:ByteArray)=line:=h.2
  rwa [e] at this
theorem kc218 (line:ByteArray) {K_:Prop} (p0_:line.size≤1048576) (k_:K_):(line.size≤1048576)∧(Imp (.v (.string line)) (.v (.string line)))∧K_:=⟨p0_,Imp.refl _,k_⟩
abbrev kh218 (line:ByteArray):Hint false Tryz.prog:=.call 218 (S218 line) (ok218 line) none
def F188 (line:ByteArray):Bool :=
 (bif (F218 line).2 then ((F218 line).1.toList==line.toList) else false)
def S188 (line:ByteArray):Spec:=⟨[.r (.c (.v (.string line)))],.v (.bool (F188 line)),line.size≤1048576⟩
theorem ok188 (line:ByteArray):(S188 line).ok Tryz.prog 188 false :=
 Qg mixed (fn:=Tryz.f188) (ct:=.seq .no (.seq (.reg [(1,kh218 line)]) (.seq .no .no))) Tryz.func188 (fun (hpre0:line.size≤1048576)=>kc218 line (by omega) (fiB (bif (F218 line).2 then ((F218 line).1.toList==line.toList) else false) (F188 line) rfl)) (by kernel_rfl)
theorem kc216 (line:ByteArray) {K_:Prop} (p0_:line.size≤1048576) (k_:K_):(line.size≤1048576)∧(Imp (.v (.string line)) (.v (.string line)))∧K_:=⟨p0_,Imp.refl _,k_⟩
abbrev kh216 (line:ByteArray):Hint true Tryz.prog:=.call 216 (S216 line) (ok216 line) none
def F182 (line:ByteArray):Bool :=
 (bif (F216 line).2 then ((F216 line).1.toList==line.toList) else false)
def S182 (line:ByteArray):Spec:=⟨[.r (.c (.v (.string line)))],.v (.bool (F182 line)),line.size≤1048576⟩
theorem ok182 (line:ByteArray):(S182 line).ok Tryz.prog 182 :=
 Qg mixed (fn:=Tryz.f182) (ct:=.seq .no (.seq (.reg [(1,kh216 line)]) (.seq .no .no))) Tryz.func182 (fun (hpre0:line.size≤1048576)=>kc216 line (by omega) (fiB (bif (F216 line).2 then ((F216 line).1.toList==line.toList) else false) (F182 line) rfl)) (by kernel_rfl)
theorem Xm (line:ByteArray):F188 line=F182 line:=by
 unfold F188 F182
 rw [Qwt]
theorem Qmw (line:ByteArray):F182 line=true↔(F216 line).2=true∧(F216 line).1=line:=by
 unfold F182
 rw [cb1,Qkd,Bool.and_eq_true,decide_eq_true_eq]
theorem Hx (line:ByteArray) (h:F182 line=true):Uec line (F97 line).1:=Ukz line ((Qmw line).1 h)
theorem not_false {b:Bool} (h:(!b)=false):b=true:=by cases b; exact h.symm; rfl
theorem kix_n (line:ByteArray) (hk:(!F182 line)=false):(2:Int)≤((F97 line).1.length:Int):=by
 have:=(Gj _ (Hx line (not_false hk)).form).1; omega
theorem kix0 (line:ByteArray) (hk:(!F182 line)=false):(0:Int)≤0∧(0:Int)<((F97 line).1.length:Int):=by have:=kix_n line hk; omega
theorem kix1 (line:ByteArray) (hk:(!F182 line)=false):(0:Int)≤1∧(1:Int)<((F97 line).1.length:Int):=by have:=kix_n line hk; omega
theorem Xd (line:ByteArray) (hk:(!F182 line)=false) (h:(((F97 line).1.getD (Int.toNat 0) default).toList==(⟨#[114,117,108,101]⟩:ByteArray).toList)=true):(0:Int)≤2∧(2:Int)<((F97 line).1.length:Int):=by
 have hf:=(Hx line (not_false hk)).form
 rw [blit,beq_iff_eq] at h
 have h:((F97 line).1.getD 0 default).data.toList=[114,117,108,101]:=h
 unfold Jb Qgn Wz Vm Yi Xa Rt natP Wr at hf
 simp only [h] at hf
 simp at hf
 omega
theorem Xb (line:ByteArray) (hk:(!F182 line)=false) (h:(((F97 line).1.getD (Int.toNat 0) default).toList==(⟨#[100,111,111,114]⟩:ByteArray).toList)=true):(0:Int)≤2∧(2:Int)<((F97 line).1.length:Int):=by
 have hf:=(Hx line (not_false hk)).form
 rw [blit,beq_iff_eq] at h
 have h:((F97 line).1.getD 0 default).data.toList=[100,111,111,114]:=h
 unfold Jb Qgn Wz Vm Yi Xa Rt natP Wr at hf
 simp only [h] at hf
 simp at hf
 omega
theorem Qxp (line:ByteArray) (h:F182 line=true):F235 (F97 line).1=true:=by
 have:=((Qmw line).1 h).1
 rw [Et] at this
 cases hc:F235 (F97 line).1 with
 | true=>rfl
 | false=>rw [hc,Bool.and_false,cond_false] at this; exact this
theorem Tr (line:ByteArray) (h:F182 line=true):(F219 (F120 line (⟨#[32]⟩:ByteArray))).1.key=keyN (((F97 line).1.getD 0 default).data.toList)∧F120 line (⟨#[32]⟩:ByteArray)=(F97 line).1:=by
 have hk:=Hx line h
 have e:F120 line (⟨#[32]⟩:ByteArray)=(F97 line).1:=hk.splits
 rw [e]
 obtain ⟨f1,f2⟩:=Qfi (F97 line).1
 exact ⟨f2 (f1.trans (Qxp line h)),rfl⟩
theorem Uch (line:ByteArray) (h:F188 line=true):0≤((F219 (F120 line (⟨#[32]⟩:ByteArray))).1).key∧((F219 (F120 line (⟨#[32]⟩:ByteArray))).1).key≤((F120 line (⟨#[32]⟩:ByteArray)).length:Int):=by
 rw [Xm] at h
 obtain ⟨k1,k2⟩:=Tr line h
 have:=Ev _ (Hx line h).form
 rw [k1,k2]
 omega
theorem Ubs (line:ByteArray) (h:line.size≤1048576):∀ k:Nat,((F120 line (⟨#[32]⟩:ByteArray)).getD k default).size≤1048576:=fun k=>by
 show ((Qx line (⟨#[32]⟩:ByteArray)).getD k default).size≤1048576
 rw [Ts]
 refine Qed _ _ (fun w hw=>?_) k
 have:=Tu 32 _ w hw
 have hl:line.data.toList.length=line.size:=Array.length_toList
 omega
theorem Qwf (ws:List ByteArray) (n m:Nat) (h:∀ k:Nat,(ws.getD k default).size≤m) (k:Nat):((ws.take n).getD k default).size≤m:=by
 rw [List.getD_eq_getElem?_getD,List.getElem?_take]
 by_cases hk:k<n
 ·rw [if_pos hk,← List.getD_eq_getElem?_getD]; exact h k
 ·rw [if_neg hk]; exact Nat.zero_le _
theorem Qfo (line:ByteArray) (hk:(!F188 line)=false) :
  ((F120 line (⟨#[32]⟩:ByteArray)).take (Int.toNat (((F219 (F120 line (⟨#[32]⟩:ByteArray))).1).key))).length≤140737488355328 ∧
  (Yv ((F120 line (⟨#[32]⟩:ByteArray)).take (Int.toNat (((F219 (F120 line (⟨#[32]⟩:ByteArray))).1).key))) (⟨#[32]⟩:ByteArray)).size≤140737488355328:=by
 have h:=not_false hk
 rw [Xm] at h
 obtain ⟨k1,k2⟩:=Tr line h
 rw [k2]
 have hl:(((F97 line).1).take (Int.toNat (((F219 ((F97 line).1)).1).key))).length≤8:=by
  rw [List.length_take]
  have:=Hw line
  omega
 exact ⟨Nat.le_trans hl (by decide),Ld _ _ (Qwf _ _ _ (Qb line)) hl (by decide)⟩
theorem kc188 (line:ByteArray) {K_:Prop} (p0_:line.size≤1048576) (k_:K_):(line.size≤1048576)∧(Imp (.v (.string line)) (.v (.string line)))∧K_:=⟨p0_,Imp.refl _,k_⟩
abbrev kh188 (line:ByteArray):Hint false Tryz.prog:=.call 188 (S188 line) (ok188 line) none
def F189 (line:ByteArray):ByteArray :=
 bif (!(F188 line)) then (⟨#[]⟩:ByteArray) else (F220 ((F120 line ⟨#[32]⟩).take (Int.toNat (F219 (F120 line ⟨#[32]⟩)).1.key)) ⟨#[32]⟩)
def S189 (line:ByteArray):Spec:=⟨[.r (.c (.v (.string line)))],.v (.string (F189 line)),line.size≤1048576⟩
theorem ok189 (line:ByteArray):(S189 line).ok Tryz.prog 189 false :=
 Qg mixed (fn:=Tryz.f189) (ct:=.seq .no (.seq (.seq (.reg [(1,kh188 line)]) (.cond (.seq .no .no) .no)) (.seq (.reg [(1,Udh line w15_)]) (.seq (.reg [(1,kh219 (F120 line w15_))]) (.seq (.reg [(4,kh220 ((F120 line w15_).take (Int.toNat (F219 (F120 line w15_)).1.key)) w15_)]) .no))))) Tryz.func189 (fun (hpre0:line.size≤1048576)=>kc188 line (by omega) (ifb (!(F188 line)) (fun h1=>fiS w13_ (F189 line) (condT h1 rfl)) (fun h1=>have _:0≤(F219 (F120 line w15_)).1.key∧(F219 (F120 line w15_)).1.key≤((F120 line w15_).length:Int):=Uch line (Uq h1); Qtx line w15_ (by omega) (by decide) (by decide) (by decide) (fun gv2 gv3=>kc219 (F120 line w15_) (by exact Ubs line (by omega)) (ai (by omega:0≤(0:Int)∧(0:Int)≤(F219 (F120 line w15_)).1.key∧(F219 (F120 line w15_)).1.key≤((F120 line w15_).length:Int)) (kc220 ((F120 line w15_).take (Int.toNat (F219 (F120 line w15_)).1.key)) w15_ (by exact (Qfo _ (by assumption)).1) (by exact (Qfo _ (by assumption)).2) (fiS (F220 ((F120 line w15_).take (Int.toNat (F219 (F120 line w15_)).1.key)) w15_) (F189 line) (condF h1 rfl)))))))) (by kernel_rfl)
theorem kc182 (line:ByteArray) {K_:Prop} (p0_:line.size≤1048576) (k_:K_):(line.size≤1048576)∧(Imp (.v (.string line)) (.v (.string line)))∧K_:=⟨p0_,Imp.refl _,k_⟩
abbrev kh182 (line:ByteArray):Hint true Tryz.prog:=.call 182 (S182 line) (ok182 line) none
def F149 (line:ByteArray):ByteArray :=
 bif (!(F182 line)) then (⟨#[]⟩:ByteArray) else (bif (((F97 line).1.getD (Int.toNat 0) default).toList==(⟨#[104,111,115,116]⟩:ByteArray).toList) then (bif (((F97 line).1.getD (Int.toNat 0) default).toList==(⟨#[104,111,115,116]⟩:ByteArray).toList) then ((F97 line).1.getD (Int.toNat 0) default) else (bif (((F97 line).1.getD (Int.toNat 0) default).toList==(⟨#[117,115,101,114]⟩:ByteArray).toList) then (bif (((F97 line).1.getD (Int.toNat 0) default).toList==(⟨#[117,115,101,114]⟩:ByteArray).toList) then ((((F97 line).1.getD (Int.toNat 0) default)++(⟨#[32]⟩:ByteArray))++((F97 line).1.getD (Int.toNat 1) default)) else (bif (((F97 line).1.getD (Int.toNat 0) default).toList==(⟨#[114,117,108,101]⟩:ByteArray).toList) then (bif (((F97 line).1.getD (Int.toNat 0) default).toList==(⟨#[114,117,108,101]⟩:ByteArray).toList) then ((((((F97 line).1.getD (Int.toNat 0) default)++(⟨#[32]⟩:ByteArray))++((F97 line).1.getD (Int.toNat 1) default))++(⟨#[32]⟩:ByteArray))++((F97 line).1.getD (Int.toNat 2) default)) else line) else (bif (((F97 line).1.getD (Int.toNat 0) default).toList==(⟨#[100,111,111,114]⟩:ByteArray).toList) then ((((((F97 line).1.getD (Int.toNat 0) default)++(⟨#[32]⟩:ByteArray))++((F97 line).1.getD (Int.toNat 1) default))++(⟨#[32]⟩:ByteArray))++((F97 line).1.getD (Int.toNat 2) default)) else line))) else (bif (((F97 line).1.getD (Int.toNat 0) default).toList==(⟨#[112,111,114,116]⟩:ByteArray).toList) then (bif (((F97 line).1.getD (Int.toNat 0) default).toList==(⟨#[112,111,114,116]⟩:ByteArray).toList) then ((((F97 line).1.getD (Int.toNat 0) default)++(⟨#[32]⟩:ByteArray))++((F97 line).1.getD (Int.toNat 1) default)) else (bif (((F97 line).1.getD (Int.toNat 0) default).toList==(⟨#[114,117,108,101]⟩:ByteArray).toList) then (bif (((F97 line).1.getD (Int.toNat 0) default).toList==(⟨#[114,117,108,101]⟩:ByteArray).toList) then ((((((F97 line).1.getD (Int.toNat 0) default)++(⟨#[32]⟩:ByteArray))++((F97 line).1.getD (Int.toNat 1) default))++(⟨#[32]⟩:ByteArray))++((F97 line).1.getD (Int.toNat 2) default)) else line) else (bif (((F97 line).1.getD (Int.toNat 0) default).toList==(⟨#[100,111,111,114]⟩:ByteArray).toList) then ((((((F97 line).1.getD (Int.toNat 0) default)++(⟨#[32]⟩:ByteArray))++((F97 line).1.getD (Int.toNat 1) default))++(⟨#[32]⟩:ByteArray))++((F97 line).1.getD (Int.toNat 2) default)) else line))) else (bif (((F97 line).1.getD (Int.toNat 0) default).toList==(⟨#[112,101,101,114]⟩:ByteArray).toList) then ((((F97 line).1.getD (Int.toNat 0) default)++(⟨#[32]⟩:ByteArray))++((F97 line).1.getD (Int.toNat 1) default)) else (bif (((F97 line).1.getD (Int.toNat 0) default).toList==(⟨#[114,117,108,101]⟩:ByteArray).toList) then (bif (((F97 line).1.getD (Int.toNat 0) default).toList==(⟨#[114,117,108,101]⟩:ByteArray).toList) then ((((((F97 line).1.getD (Int.toNat 0) default)++(⟨#[32]⟩:ByteArray))++((F97 line).1.getD (Int.toNat 1) default))++(⟨#[32]⟩:ByteArray))++((F97 line).1.getD (Int.toNat 2) default)) else line) else (bif (((F97 line).1.getD (Int.toNat 0) default).toList==(⟨#[100,111,111,114]⟩:ByteArray).toList) then ((((((F97 line).1.getD (Int.toNat 0) default)++(⟨#[32]⟩:ByteArray))++((F97 line).1.getD (Int.toNat 1) default))++(⟨#[32]⟩:ByteArray))++((F97 line).1.getD (Int.toNat 2) default)) else line)))))) else (bif (((F97 line).1.getD (Int.toNat 0) default).toList==(⟨#[110,97,116]⟩:ByteArray).toList) then ((F97 line).1.getD (Int.toNat 0) default) else (bif (((F97 line).1.getD (Int.toNat 0) default).toList==(⟨#[117,115,101,114]⟩:ByteArray).toList) then (bif (((F97 line).1.getD (Int.toNat 0) default).toList==(⟨#[117,115,101,114]⟩:ByteArray).toList) then ((((F97 line).1.getD (Int.toNat 0) default)++(⟨#[32]⟩:ByteArray))++((F97 line).1.getD (Int.toNat 1) default)) else (bif (((F97 line).1.getD (Int.toNat 0) default).toList==(⟨#[114,117,108,101]⟩:ByteArray).toList) then (bif (((F97 line).1.getD (Int.toNat 0) default).toList==(⟨#[114,117,108,101]⟩:ByteArray).toList) then ((((((F97 line).1.getD (Int.toNat 0) default)++(⟨#[32]⟩:ByteArray))++((F97 line).1.getD (Int.toNat 1) default))++(⟨#[32]⟩:ByteArray))++((F97 line).1.getD (Int.toNat 2) default)) else line) else (bif (((F97 line).1.getD (Int.toNat 0) default).toList==(⟨#[100,111,111,114]⟩:ByteArray).toList) then ((((((F97 line).1.getD (Int.toNat 0) default)++(⟨#[32]⟩:ByteArray))++((F97 line).1.getD (Int.toNat 1) default))++(⟨#[32]⟩:ByteArray))++((F97 line).1.getD (Int.toNat 2) default)) else line))) else (bif (((F97 line).1.getD (Int.toNat 0) default).toList==(⟨#[112,111,114,116]⟩:ByteArray).toList) then (bif (((F97 line).1.getD (Int.toNat 0) default).toList==(⟨#[112,111,114,116]⟩:ByteArray).toList) then ((((F97 line).1.getD (Int.toNat 0) default)++(⟨#[32]⟩:ByteArray))++((F97 line).1.getD (Int.toNat 1) default)) else (bif (((F97 line).1.getD (Int.toNat 0) default).toList==(⟨#[114,117,108,101]⟩:ByteArray).toList) then (bif (((F97 line).1.getD (Int.toNat 0) default).toList==(⟨#[114,117,108,101]⟩:ByteArray).toList) then ((((((F97 line).1.getD (Int.toNat 0) default)++(⟨#[32]⟩:ByteArray))++((F97 line).1.getD (Int.toNat 1) default))++(⟨#[32]⟩:ByteArray))++((F97 line).1.getD (Int.toNat 2) default)) else line) else (bif (((F97 line).1.getD (Int.toNat 0) default).toList==(⟨#[100,111,111,114]⟩:ByteArray).toList) then ((((((F97 line).1.getD (Int.toNat 0) default)++(⟨#[32]⟩:ByteArray))++((F97 line).1.getD (Int.toNat 1) default))++(⟨#[32]⟩:ByteArray))++((F97 line).1.getD (Int.toNat 2) default)) else line))) else (bif (((F97 line).1.getD (Int.toNat 0) default).toList==(⟨#[112,101,101,114]⟩:ByteArray).toList) then ((((F97 line).1.getD (Int.toNat 0) default)++(⟨#[32]⟩:ByteArray))++((F97 line).1.getD (Int.toNat 1) default)) else (bif (((F97 line).1.getD (Int.toNat 0) default).toList==(⟨#[114,117,108,101]⟩:ByteArray).toList) then (bif (((F97 line).1.getD (Int.toNat 0) default).toList==(⟨#[114,117,108,101]⟩:ByteArray).toList) then ((((((F97 line).1.getD (Int.toNat 0) default)++(⟨#[32]⟩:ByteArray))++((F97 line).1.getD (Int.toNat 1) default))++(⟨#[32]⟩:ByteArray))++((F97 line).1.getD (Int.toNat 2) default)) else line) else (bif (((F97 line).1.getD (Int.toNat 0) default).toList==(⟨#[100,111,111,114]⟩:ByteArray).toList) then ((((((F97 line).1.getD (Int.toNat 0) default)++(⟨#[32]⟩:ByteArray))++((F97 line).1.getD (Int.toNat 1) default))++(⟨#[32]⟩:ByteArray))++((F97 line).1.getD (Int.toNat 2) default)) else line)))))))
def S149 (line:ByteArray):Spec:=⟨[.r (.c (.v (.string line)))],.v (.string (F149 line)),line.size≤1048576⟩
theorem ok149 (line:ByteArray):(S149 line).ok Tryz.prog 149 :=
 Qg mixed (fn:=Tryz.f149) (ct:=.seq .no (.seq (.seq (.reg [(1,kh182 line)]) (.cond (.seq .no .no) .no)) (.seq (.reg [(1,kh97 line)]) (.seq (.seq .no (.blk (.seq (.seq .no (.cond .no .no)) (.cond (.seq .no .no) (.seq (.seq .no (.cond .no (.seq .no (.cond .no .no)))) (.cond (.seq .no .no) (.seq (.seq .no (.cond .no .no)) (.cond (.seq .no .no) .no)))))))) (.seq .no .no))))) Tryz.func149 (fun (hpre0:line.size≤1048576)=>kc182 line (by omega) (ifb (!(F182 line)) (fun h1=>fiS w13_ (F149 line) (condT h1 rfl)) (fun h1=>kc97 line (by omega) (fun gv2 gv3=>ai (by (exact kix0 _ (by assumption)):0≤(0:Int)∧(0:Int)<((F97 line).1.length:Int)) (ifb (((F97 line).1.getD (Int.toNat 0) default).toList==w4_.toList) (fun h4=>ifb (((F97 line).1.getD (Int.toNat 0) default).toList==w4_.toList) (fun h5=>ai (by (exact kix0 _ (by assumption)):0≤(0:Int)∧(0:Int)<((F97 line).1.length:Int)) (fiS ((F97 line).1.getD (Int.toNat 0) default) (F149 line) (condF h1 (condT h4 (condT h5 rfl))))) (fun h5=>ifb (((F97 line).1.getD (Int.toNat 0) default).toList==w10_.toList) (fun h6=>ifb (((F97 line).1.getD (Int.toNat 0) default).toList==w10_.toList) (fun h7=>ai (by (exact kix0 _ (by assumption)):0≤(0:Int)∧(0:Int)<((F97 line).1.length:Int)) (ai (by (have hz:=Qb line; have hz0:=hz (Int.toNat 0); have hz1:=hz (Int.toNat 1); have hz2:=hz (Int.toNat 2); have hs:w15_.size=1:=rfl; (try simp only [Qk] at *); omega):((((F97 line).1.getD (Int.toNat 0) default).size+w15_.size:Nat):Int)≤9223372036854775807) (ai (by (exact kix1 _ (by assumption)):0≤(1:Int)∧(1:Int)<((F97 line).1.length:Int)) (ai (by (have hz:=Qb line; have hz0:=hz (Int.toNat 0); have hz1:=hz (Int.toNat 1); have hz2:=hz (Int.toNat 2); have hs:w15_.size=1:=rfl; (try simp only [Qk] at *); omega):(((((F97 line).1.getD (Int.toNat 0) default)++w15_).size+((F97 line).1.getD (Int.toNat 1) default).size:Nat):Int)≤9223372036854775807) (fiS ((((F97 line).1.getD (Int.toNat 0) default)++w15_)++((F97 line).1.getD (Int.toNat 1) default)) (F149 line) (condF h1 (condT h4 (condF h5 (condT h6 (condT h7 rfl)))))))))) (fun h7=>ifb (((F97 line).1.getD (Int.toNat 0) default).toList==w9_.toList) (fun h8=>ifb (((F97 line).1.getD (Int.toNat 0) default).toList==w9_.toList) (fun h9=>ai (by (exact kix0 _ (by assumption)):0≤(0:Int)∧(0:Int)<((F97 line).1.length:Int)) (ai (by (have hz:=Qb line; have hz0:=hz (Int.toNat 0); have hz1:=hz (Int.toNat 1); have hz2:=hz (Int.toNat 2); have hs:w15_.size=1:=rfl; (try simp only [Qk] at *); omega):((((F97 line).1.getD (Int.toNat 0) default).size+w15_.size:Nat):Int)≤9223372036854775807) (ai (by (exact kix1 _ (by assumption)):0≤(1:Int)∧(1:Int)<((F97 line).1.length:Int)) (ai (by (have hz:=Qb line; have hz0:=hz (Int.toNat 0); have hz1:=hz (Int.toNat 1); have hz2:=hz (Int.toNat 2); have hs:w15_.size=1:=rfl; (try simp only [Qk] at *); omega):(((((F97 line).1.getD (Int.toNat 0) default)++w15_).size+((F97 line).1.getD (Int.toNat 1) default).size:Nat):Int)≤9223372036854775807) (ai (by (have hz:=Qb line; have hz0:=hz (Int.toNat 0); have hz1:=hz (Int.toNat 1); have hz2:=hz (Int.toNat 2); have hs:w15_.size=1:=rfl; (try simp only [Qk] at *); omega):((((((F97 line).1.getD (Int.toNat 0) default)++w15_)++((F97 line).1.getD (Int.toNat 1) default)).size+w15_.size:Nat):Int)≤9223372036854775807) (ai (by (exact Xd _ (by assumption) (by assumption)):0≤(2:Int)∧(2:Int)<((F97 line).1.length:Int)) (ai (by (have hz:=Qb line; have hz0:=hz (Int.toNat 0); have hz1:=hz (Int.toNat 1); have hz2:=hz (Int.toNat 2); have hs:w15_.size=1:=rfl; (try simp only [Qk] at *); omega):(((((((F97 line).1.getD (Int.toNat 0) default)++w15_)++((F97 line).1.getD (Int.toNat 1) default))++w15_).size+((F97 line).1.getD (Int.toNat 2) default).size:Nat):Int)≤9223372036854775807) (fiS ((((((F97 line).1.getD (Int.toNat 0) default)++w15_)++((F97 line).1.getD (Int.toNat 1) default))++w15_)++((F97 line).1.getD (Int.toNat 2) default)) (F149 line) (condF h1 (condT h4 (condF h5 (condT h6 (condF h7 (condT h8 (condT h9 rfl))))))))))))))) (fun h9=>fiS line (F149 line) (condF h1 (condT h4 (condF h5 (condT h6 (condF h7 (condT h8 (condF h9 rfl))))))))) (fun h8=>ifb (((F97 line).1.getD (Int.toNat 0) default).toList==w3_.toList) (fun h10=>ai (by (exact kix0 _ (by assumption)):0≤(0:Int)∧(0:Int)<((F97 line).1.length:Int)) (ai (by (have hz:=Qb line; have hz0:=hz (Int.toNat 0); have hz1:=hz (Int.toNat 1); have hz2:=hz (Int.toNat 2); have hs:w15_.size=1:=rfl; (try simp only [Qk] at *); omega):((((F97 line).1.getD (Int.toNat 0) default).size+w15_.size:Nat):Int)≤9223372036854775807) (ai (by (exact kix1 _ (by assumption)):0≤(1:Int)∧(1:Int)<((F97 line).1.length:Int)) (ai (by (have hz:=Qb line; have hz0:=hz (Int.toNat 0); have hz1:=hz (Int.toNat 1); have hz2:=hz (Int.toNat 2); have hs:w15_.size=1:=rfl; (try simp only [Qk] at *); omega):(((((F97 line).1.getD (Int.toNat 0) default)++w15_).size+((F97 line).1.getD (Int.toNat 1) default).size:Nat):Int)≤9223372036854775807) (ai (by (have hz:=Qb line; have hz0:=hz (Int.toNat 0); have hz1:=hz (Int.toNat 1); have hz2:=hz (Int.toNat 2); have hs:w15_.size=1:=rfl; (try simp only [Qk] at *); omega):((((((F97 line).1.getD (Int.toNat 0) default)++w15_)++((F97 line).1.getD (Int.toNat 1) default)).size+w15_.size:Nat):Int)≤9223372036854775807) (ai (by (exact Xb _ (by assumption) (by assumption)):0≤(2:Int)∧(2:Int)<((F97 line).1.length:Int)) (ai (by (have hz:=Qb line; have hz0:=hz (Int.toNat 0); have hz1:=hz (Int.toNat 1); have hz2:=hz (Int.toNat 2); have hs:w15_.size=1:=rfl; (try simp only [Qk] at *); omega):(((((((F97 line).1.getD (Int.toNat 0) default)++w15_)++((F97 line).1.getD (Int.toNat 1) default))++w15_).size+((F97 line).1.getD (Int.toNat 2) default).size:Nat):Int)≤9223372036854775807) (fiS ((((((F97 line).1.getD (Int.toNat 0) default)++w15_)++((F97 line).1.getD (Int.toNat 1) default))++w15_)++((F97 line).1.getD (Int.toNat 2) default)) (F149 line) (condF h1 (condT h4 (condF h5 (condT h6 (condF h7 (condF h8 (condT h10 rfl))))))))))))))) (fun h10=>fiS line (F149 line) (condF h1 (condT h4 (condF h5 (condT h6 (condF h7 (condF h8 (condF h10 rfl))))))))))) (fun h6=>ifb (((F97 line).1.getD (Int.toNat 0) default).toList==w7_.toList) (fun h11=>ifb (((F97 line).1.getD (Int.toNat 0) default).toList==w7_.toList) (fun h12=>ai (by (exact kix0 _ (by assumption)):0≤(0:Int)∧(0:Int)<((F97 line).1.length:Int)) (ai (by (have hz:=Qb line; have hz0:=hz (Int.toNat 0); have hz1:=hz (Int.toNat 1); have hz2:=hz (Int.toNat 2); have hs:w15_.size=1:=rfl; (try simp only [Qk] at *); omega):((((F97 line).1.getD (Int.toNat 0) default).size+w15_.size:Nat):Int)≤9223372036854775807) (ai (by (exact kix1 _ (by assumption)):0≤(1:Int)∧(1:Int)<((F97 line).1.length:Int)) (ai (by (have hz:=Qb line; have hz0:=hz (Int.toNat 0); have hz1:=hz (Int.toNat 1); have hz2:=hz (Int.toNat 2); have hs:w15_.size=1:=rfl; (try simp only [Qk] at *); omega):(((((F97 line).1.getD (Int.toNat 0) default)++w15_).size+((F97 line).1.getD (Int.toNat 1) default).size:Nat):Int)≤9223372036854775807) (fiS ((((F97 line).1.getD (Int.toNat 0) default)++w15_)++((F97 line).1.getD (Int.toNat 1) default)) (F149 line) (condF h1 (condT h4 (condF h5 (condF h6 (condT h11 (condT h12 rfl))))))))))) (fun h12=>ifb (((F97 line).1.getD (Int.toNat 0) default).toList==w9_.toList) (fun h13=>ifb (((F97 line).1.getD (Int.toNat 0) default).toList==w9_.toList) (fun h14=>ai (by (exact kix0 _ (by assumption)):0≤(0:Int)∧(0:Int)<((F97 line).1.length:Int)) (ai (by (have hz:=Qb line; have hz0:=hz (Int.toNat 0); have hz1:=hz (Int.toNat 1); have hz2:=hz (Int.toNat 2); have hs:w15_.size=1:=rfl; (try simp only [Qk] at *); omega):((((F97 line).1.getD (Int.toNat 0) default).size+w15_.size:Nat):Int)≤9223372036854775807) (ai (by (exact kix1 _ (by assumption)):0≤(1:Int)∧(1:Int)<((F97 line).1.length:Int)) (ai (by (have hz:=Qb line; have hz0:=hz (Int.toNat 0); have hz1:=hz (Int.toNat 1); have hz2:=hz (Int.toNat 2); have hs:w15_.size=1:=rfl; (try simp only [Qk] at *); omega):(((((F97 line).1.getD (Int.toNat 0) default)++w15_).size+((F97 line).1.getD (Int.toNat 1) default).size:Nat):Int)≤9223372036854775807) (ai (by (have hz:=Qb line; have hz0:=hz (Int.toNat 0); have hz1:=hz (Int.toNat 1); have hz2:=hz (Int.toNat 2); have hs:w15_.size=1:=rfl; (try simp only [Qk] at *); omega):((((((F97 line).1.getD (Int.toNat 0) default)++w15_)++((F97 line).1.getD (Int.toNat 1) default)).size+w15_.size:Nat):Int)≤9223372036854775807) (ai (by (exact Xd _ (by assumption) (by assumption)):0≤(2:Int)∧(2:Int)<((F97 line).1.length:Int)) (ai (by (have hz:=Qb line; have hz0:=hz (Int.toNat 0); have hz1:=hz (Int.toNat 1); have hz2:=hz (Int.toNat 2); have hs:w15_.size=1:=rfl; (try simp only [Qk] at *); omega):(((((((F97 line).1.getD (Int.toNat 0) default)++w15_)++((F97 line).1.getD (Int.toNat 1) default))++w15_).size+((F97 line).1.getD (Int.toNat 2) default).size:Nat):Int)≤9223372036854775807) (fiS ((((((F97 line).1.getD (Int.toNat 0) default)++w15_)++((F97 line).1.getD (Int.toNat 1) default))++w15_)++((F97 line).1.getD (Int.toNat 2) default)) (F149 line) (condF h1 (condT h4 (condF h5 (condF h6 (condT h11 (condF h12 (condT h13 (condT h14 rfl)))))))))))))))) (fun h14=>fiS line (F149 line) (condF h1 (condT h4 (condF h5 (condF h6 (condT h11 (condF h12 (condT h13 (condF h14 rfl)))))))))) (fun h13=>ifb (((F97 line).1.getD (Int.toNat 0) default).toList==w3_.toList) (fun h15=>ai (by (exact kix0 _ (by assumption)):0≤(0:Int)∧(0:Int)<((F97 line).1.length:Int)) (ai (by (have hz:=Qb line; have hz0:=hz (Int.toNat 0); have hz1:=hz (Int.toNat 1); have hz2:=hz (Int.toNat 2); have hs:w15_.size=1:=rfl; (try simp only [Qk] at *); omega):((((F97 line).1.getD (Int.toNat 0) default).size+w15_.size:Nat):Int)≤9223372036854775807) (ai (by (exact kix1 _ (by assumption)):0≤(1:Int)∧(1:Int)<((F97 line).1.length:Int)) (ai (by (have hz:=Qb line; have hz0:=hz (Int.toNat 0); have hz1:=hz (Int.toNat 1); have hz2:=hz (Int.toNat 2); have hs:w15_.size=1:=rfl; (try simp only [Qk] at *); omega):(((((F97 line).1.getD (Int.toNat 0) default)++w15_).size+((F97 line).1.getD (Int.toNat 1) default).size:Nat):Int)≤9223372036854775807) (ai (by (have hz:=Qb line; have hz0:=hz (Int.toNat 0); have hz1:=hz (Int.toNat 1); have hz2:=hz (Int.toNat 2); have hs:w15_.size=1:=rfl; (try simp only [Qk] at *); omega):((((((F97 line).1.getD (Int.toNat 0) default)++w15_)++((F97 line).1.getD (Int.toNat 1) default)).size+w15_.size:Nat):Int)≤9223372036854775807) (ai (by (exact Xb _ (by assumption) (by assumption)):0≤(2:Int)∧(2:Int)<((F97 line).1.length:Int)) (ai (by (have hz:=Qb line; have hz0:=hz (Int.toNat 0); have hz1:=hz (Int.toNat 1); have hz2:=hz (Int.toNat 2); have hs:w15_.size=1:=rfl; (try simp only [Qk] at *); omega):(((((((F97 line).1.getD (Int.toNat 0) default)++w15_)++((F97 line).1.getD (Int.toNat 1) default))++w15_).size+((F97 line).1.getD (Int.toNat 2) default).size:Nat):Int)≤9223372036854775807) (fiS ((((((F97 line).1.getD (Int.toNat 0) default)++w15_)++((F97 line).1.getD (Int.toNat 1) default))++w15_)++((F97 line).1.getD (Int.toNat 2) default)) (F149 line) (condF h1 (condT h4 (condF h5 (condF h6 (condT h11 (condF h12 (condF h13 (condT h15 rfl)))))))))))))))) (fun h15=>fiS line (F149 line) (condF h1 (condT h4 (condF h5 (condF h6 (condT h11 (condF h12 (condF h13 (condF h15 rfl)))))))))))) (fun h11=>ifb (((F97 line).1.getD (Int.toNat 0) default).toList==w6_.toList) (fun h16=>ai (by (exact kix0 _ (by assumption)):0≤(0:Int)∧(0:Int)<((F97 line).1.length:Int)) (ai (by (have hz:=Qb line; have hz0:=hz (Int.toNat 0); have hz1:=hz (Int.toNat 1); have hz2:=hz (Int.toNat 2); have hs:w15_.size=1:=rfl; (try simp only [Qk] at *); omega):((((F97 line).1.getD (Int.toNat 0) default).size+w15_.size:Nat):Int)≤9223372036854775807) (ai (by (exact kix1 _ (by assumption)):0≤(1:Int)∧(1:Int)<((F97 line).1.length:Int)) (ai (by (have hz:=Qb line; have hz0:=hz (Int.toNat 0); have hz1:=hz (Int.toNat 1); have hz2:=hz (Int.toNat 2); have hs:w15_.size=1:=rfl; (try simp only [Qk] at *); omega):(((((F97 line).1.getD (Int.toNat 0) default)++w15_).size+((F97 line).1.getD (Int.toNat 1) default).size:Nat):Int)≤9223372036854775807) (fiS ((((F97 line).1.getD (Int.toNat 0) default)++w15_)++((F97 line).1.getD (Int.toNat 1) default)) (F149 line) (condF h1 (condT h4 (condF h5 (condF h6 (condF h11 (condT h16 rfl))))))))))) (fun h16=>ifb (((F97 line).1.getD (Int.toNat 0) default).toList==w9_.toList) (fun h17=>ifb (((F97 line).1.getD (Int.toNat 0) default).toList==w9_.toList) (fun h18=>ai (by (exact kix0 _ (by assumption)):0≤(0:Int)∧(0:Int)<((F97 line).1.length:Int)) (ai (by (have hz:=Qb line; have hz0:=hz (Int.toNat 0); have hz1:=hz (Int.toNat 1); have hz2:=hz (Int.toNat 2); have hs:w15_.size=1:=rfl; (try simp only [Qk] at *); omega):((((F97 line).1.getD (Int.toNat 0) default).size+w15_.size:Nat):Int)≤9223372036854775807) (ai (by (exact kix1 _ (by assumption)):0≤(1:Int)∧(1:Int)<((F97 line).1.length:Int)) (ai (by (have hz:=Qb line; have hz0:=hz (Int.toNat 0); have hz1:=hz (Int.toNat 1); have hz2:=hz (Int.toNat 2); have hs:w15_.size=1:=rfl; (try simp only [Qk] at *); omega):(((((F97 line).1.getD (Int.toNat 0) default)++w15_).size+((F97 line).1.getD (Int.toNat 1) default).size:Nat):Int)≤9223372036854775807) (ai (by (have hz:=Qb line; have hz0:=hz (Int.toNat 0); have hz1:=hz (Int.toNat 1); have hz2:=hz (Int.toNat 2); have hs:w15_.size=1:=rfl; (try simp only [Qk] at *); omega):((((((F97 line).1.getD (Int.toNat 0) default)++w15_)++((F97 line).1.getD (Int.toNat 1) default)).size+w15_.size:Nat):Int)≤9223372036854775807) (ai (by (exact Xd _ (by assumption) (by assumption)):0≤(2:Int)∧(2:Int)<((F97 line).1.length:Int)) (ai (by (have hz:=Qb line; have hz0:=hz (Int.toNat 0); have hz1:=hz (Int.toNat 1); have hz2:=hz (Int.toNat 2); have hs:w15_.size=1:=rfl; (try simp only [Qk] at *); omega):(((((((F97 line).1.getD (Int.toNat 0) default)++w15_)++((F97 line).1.getD (Int.toNat 1) default))++w15_).size+((F97 line).1.getD (Int.toNat 2) default).size:Nat):Int)≤9223372036854775807) (fiS ((((((F97 line).1.getD (Int.toNat 0) default)++w15_)++((F97 line).1.getD (Int.toNat 1) default))++w15_)++((F97 line).1.getD (Int.toNat 2) default)) (F149 line) (condF h1 (condT h4 (condF h5 (condF h6 (condF h11 (condF h16 (condT h17 (condT h18 rfl)))))))))))))))) (fun h18=>fiS line (F149 line) (condF h1 (condT h4 (condF h5 (condF h6 (condF h11 (condF h16 (condT h17 (condF h18 rfl)))))))))) (fun h17=>ifb (((F97 line).1.getD (Int.toNat 0) default).toList==w3_.toList) (fun h19=>ai (by (exact kix0 _ (by assumption)):0≤(0:Int)∧(0:Int)<((F97 line).1.length:Int)) (ai (by (have hz:=Qb line; have hz0:=hz (Int.toNat 0); have hz1:=hz (Int.toNat 1); have hz2:=hz (Int.toNat 2); have hs:w15_.size=1:=rfl; (try simp only [Qk] at *); omega):((((F97 line).1.getD (Int.toNat 0) default).size+w15_.size:Nat):Int)≤9223372036854775807) (ai (by (exact kix1 _ (by assumption)):0≤(1:Int)∧(1:Int)<((F97 line).1.length:Int)) (ai (by (have hz:=Qb line; have hz0:=hz (Int.toNat 0); have hz1:=hz (Int.toNat 1); have hz2:=hz (Int.toNat 2); have hs:w15_.size=1:=rfl; (try simp only [Qk] at *); omega):(((((F97 line).1.getD (Int.toNat 0) default)++w15_).size+((F97 line).1.getD (Int.toNat 1) default).size:Nat):Int)≤9223372036854775807) (ai (by (have hz:=Qb line; have hz0:=hz (Int.toNat 0); have hz1:=hz (Int.toNat 1); have hz2:=hz (Int.toNat 2); have hs:w15_.size=1:=rfl; (try simp only [Qk] at *); omega):((((((F97 line).1.getD (Int.toNat 0) default)++w15_)++((F97 line).1.getD (Int.toNat 1) default)).size+w15_.size:Nat):Int)≤9223372036854775807) (ai (by (exact Xb _ (by assumption) (by assumption)):0≤(2:Int)∧(2:Int)<((F97 line).1.length:Int)) (ai (by (have hz:=Qb line; have hz0:=hz (Int.toNat 0); have hz1:=hz (Int.toNat 1); have hz2:=hz (Int.toNat 2); have hs:w15_.size=1:=rfl; (try simp only [Qk] at *); omega):(((((((F97 line).1.getD (Int.toNat 0) default)++w15_)++((F97 line).1.getD (Int.toNat 1) default))++w15_).size+((F97 line).1.getD (Int.toNat 2) default).size:Nat):Int)≤9223372036854775807) (fiS ((((((F97 line).1.getD (Int.toNat 0) default)++w15_)++((F97 line).1.getD (Int.toNat 1) default))++w15_)++((F97 line).1.getD (Int.toNat 2) default)) (F149 line) (condF h1 (condT h4 (condF h5 (condF h6 (condF h11 (condF h16 (condF h17 (condT h19 rfl)))))))))))))))) (fun h19=>fiS line (F149 line) (condF h1 (condT h4 (condF h5 (condF h6 (condF h11 (condF h16 (condF h17 (condF h19 rfl))))))))))))))) (fun h4=>ifb (((F97 line).1.getD (Int.toNat 0) default).toList==w5_.toList) (fun h20=>ai (by (exact kix0 _ (by assumption)):0≤(0:Int)∧(0:Int)<((F97 line).1.length:Int)) (fiS ((F97 line).1.getD (Int.toNat 0) default) (F149 line) (condF h1 (condF h4 (condT h20 rfl))))) (fun h20=>ifb (((F97 line).1.getD (Int.toNat 0) default).toList==w10_.toList) (fun h21=>ifb (((F97 line).1.getD (Int.toNat 0) default).toList==w10_.toList) (fun h22=>ai (by (exact kix0 _ (by assumption)):0≤(0:Int)∧(0:Int)<((F97 line).1.length:Int)) (ai (by (have hz:=Qb line; have hz0:=hz (Int.toNat 0); have hz1:=hz (Int.toNat 1); have hz2:=hz (Int.toNat 2); have hs:w15_.size=1:=rfl; (try simp only [Qk] at *); omega):((((F97 line).1.getD (Int.toNat 0) default).size+w15_.size:Nat):Int)≤9223372036854775807) (ai (by (exact kix1 _ (by assumption)):0≤(1:Int)∧(1:Int)<((F97 line).1.length:Int)) (ai (by (have hz:=Qb line; have hz0:=hz (Int.toNat 0); have hz1:=hz (Int.toNat 1); have hz2:=hz (Int.toNat 2); have hs:w15_.size=1:=rfl; (try simp only [Qk] at *); omega):(((((F97 line).1.getD (Int.toNat 0) default)++w15_).size+((F97 line).1.getD (Int.toNat 1) default).size:Nat):Int)≤9223372036854775807) (fiS ((((F97 line).1.getD (Int.toNat 0) default)++w15_)++((F97 line).1.getD (Int.toNat 1) default)) (F149 line) (condF h1 (condF h4 (condF h20 (condT h21 (condT h22 rfl)))))))))) (fun h22=>ifb (((F97 line).1.getD (Int.toNat 0) default).toList==w9_.toList) (fun h23=>ifb (((F97 line).1.getD (Int.toNat 0) default).toList==w9_.toList) (fun h24=>ai (by (exact kix0 _ (by assumption)):0≤(0:Int)∧(0:Int)<((F97 line).1.length:Int)) (ai (by (have hz:=Qb line; have hz0:=hz (Int.toNat 0); have hz1:=hz (Int.toNat 1); have hz2:=hz (Int.toNat 2); have hs:w15_.size=1:=rfl; (try simp only [Qk] at *); omega):((((F97 line).1.getD (Int.toNat 0) default).size+w15_.size:Nat):Int)≤9223372036854775807) (ai (by (exact kix1 _ (by assumption)):0≤(1:Int)∧(1:Int)<((F97 line).1.length:Int)) (ai (by (have hz:=Qb line; have hz0:=hz (Int.toNat 0); have hz1:=hz (Int.toNat 1); have hz2:=hz (Int.toNat 2); have hs:w15_.size=1:=rfl; (try simp only [Qk] at *); omega):(((((F97 line).1.getD (Int.toNat 0) default)++w15_).size+((F97 line).1.getD (Int.toNat 1) default).size:Nat):Int)≤9223372036854775807) (ai (by (have hz:=Qb line; have hz0:=hz (Int.toNat 0); have hz1:=hz (Int.toNat 1); have hz2:=hz (Int.toNat 2); have hs:w15_.size=1:=rfl; (try simp only [Qk] at *); omega):((((((F97 line).1.getD (Int.toNat 0) default)++w15_)++((F97 line).1.getD (Int.toNat 1) default)).size+w15_.size:Nat):Int)≤9223372036854775807) (ai (by (exact Xd _ (by assumption) (by assumption)):0≤(2:Int)∧(2:Int)<((F97 line).1.length:Int)) (ai (by (have hz:=Qb line; have hz0:=hz (Int.toNat 0); have hz1:=hz (Int.toNat 1); have hz2:=hz (Int.toNat 2); have hs:w15_.size=1:=rfl; (try simp only [Qk] at *); omega):(((((((F97 line).1.getD (Int.toNat 0) default)++w15_)++((F97 line).1.getD (Int.toNat 1) default))++w15_).size+((F97 line).1.getD (Int.toNat 2) default).size:Nat):Int)≤9223372036854775807) (fiS ((((((F97 line).1.getD (Int.toNat 0) default)++w15_)++((F97 line).1.getD (Int.toNat 1) default))++w15_)++((F97 line).1.getD (Int.toNat 2) default)) (F149 line) (condF h1 (condF h4 (condF h20 (condT h21 (condF h22 (condT h23 (condT h24 rfl))))))))))))))) (fun h24=>fiS line (F149 line) (condF h1 (condF h4 (condF h20 (condT h21 (condF h22 (condT h23 (condF h24 rfl))))))))) (fun h23=>ifb (((F97 line).1.getD (Int.toNat 0) default).toList==w3_.toList) (fun h25=>ai (by (exact kix0 _ (by assumption)):0≤(0:Int)∧(0:Int)<((F97 line).1.length:Int)) (ai (by (have hz:=Qb line; have hz0:=hz (Int.toNat 0); have hz1:=hz (Int.toNat 1); have hz2:=hz (Int.toNat 2); have hs:w15_.size=1:=rfl; (try simp only [Qk] at *); omega):((((F97 line).1.getD (Int.toNat 0) default).size+w15_.size:Nat):Int)≤9223372036854775807) (ai (by (exact kix1 _ (by assumption)):0≤(1:Int)∧(1:Int)<((F97 line).1.length:Int)) (ai (by (have hz:=Qb line; have hz0:=hz (Int.toNat 0); have hz1:=hz (Int.toNat 1); have hz2:=hz (Int.toNat 2); have hs:w15_.size=1:=rfl; (try simp only [Qk] at *); omega):(((((F97 line).1.getD (Int.toNat 0) default)++w15_).size+((F97 line).1.getD (Int.toNat 1) default).size:Nat):Int)≤9223372036854775807) (ai (by (have hz:=Qb line; have hz0:=hz (Int.toNat 0); have hz1:=hz (Int.toNat 1); have hz2:=hz (Int.toNat 2); have hs:w15_.size=1:=rfl; (try simp only [Qk] at *); omega):((((((F97 line).1.getD (Int.toNat 0) default)++w15_)++((F97 line).1.getD (Int.toNat 1) default)).size+w15_.size:Nat):Int)≤9223372036854775807) (ai (by (exact Xb _ (by assumption) (by assumption)):0≤(2:Int)∧(2:Int)<((F97 line).1.length:Int)) (ai (by (have hz:=Qb line; have hz0:=hz (Int.toNat 0); have hz1:=hz (Int.toNat 1); have hz2:=hz (Int.toNat 2); have hs:w15_.size=1:=rfl; (try simp only [Qk] at *); omega):(((((((F97 line).1.getD (Int.toNat 0) default)++w15_)++((F97 line).1.getD (Int.toNat 1) default))++w15_).size+((F97 line).1.getD (Int.toNat 2) default).size:Nat):Int)≤9223372036854775807) (fiS ((((((F97 line).1.getD (Int.toNat 0) default)++w15_)++((F97 line).1.getD (Int.toNat 1) default))++w15_)++((F97 line).1.getD (Int.toNat 2) default)) (F149 line) (condF h1 (condF h4 (condF h20 (condT h21 (condF h22 (condF h23 (condT h25 rfl))))))))))))))) (fun h25=>fiS line (F149 line) (condF h1 (condF h4 (condF h20 (condT h21 (condF h22 (condF h23 (condF h25 rfl))))))))))) (fun h21=>ifb (((F97 line).1.getD (Int.toNat 0) default).toList==w7_.toList) (fun h26=>ifb (((F97 line).1.getD (Int.toNat 0) default).toList==w7_.toList) (fun h27=>ai (by (exact kix0 _ (by assumption)):0≤(0:Int)∧(0:Int)<((F97 line).1.length:Int)) (ai (by (have hz:=Qb line; have hz0:=hz (Int.toNat 0); have hz1:=hz (Int.toNat 1); have hz2:=hz (Int.toNat 2); have hs:w15_.size=1:=rfl; (try simp only [Qk] at *); omega):((((F97 line).1.getD (Int.toNat 0) default).size+w15_.size:Nat):Int)≤9223372036854775807) (ai (by (exact kix1 _ (by assumption)):0≤(1:Int)∧(1:Int)<((F97 line).1.length:Int)) (ai (by (have hz:=Qb line; have hz0:=hz (Int.toNat 0); have hz1:=hz (Int.toNat 1); have hz2:=hz (Int.toNat 2); have hs:w15_.size=1:=rfl; (try simp only [Qk] at *); omega):(((((F97 line).1.getD (Int.toNat 0) default)++w15_).size+((F97 line).1.getD (Int.toNat 1) default).size:Nat):Int)≤9223372036854775807) (fiS ((((F97 line).1.getD (Int.toNat 0) default)++w15_)++((F97 line).1.getD (Int.toNat 1) default)) (F149 line) (condF h1 (condF h4 (condF h20 (condF h21 (condT h26 (condT h27 rfl))))))))))) (fun h27=>ifb (((F97 line).1.getD (Int.toNat 0) default).toList==w9_.toList) (fun h28=>ifb (((F97 line).1.getD (Int.toNat 0) default).toList==w9_.toList) (fun h29=>ai (by (exact kix0 _ (by assumption)):0≤(0:Int)∧(0:Int)<((F97 line).1.length:Int)) (ai (by (have hz:=Qb line; have hz0:=hz (Int.toNat 0); have hz1:=hz (Int.toNat 1); have hz2:=hz (Int.toNat 2); have hs:w15_.size=1:=rfl; (try simp only [Qk] at *); omega):((((F97 line).1.getD (Int.toNat 0) default).size+w15_.size:Nat):Int)≤9223372036854775807) (ai (by (exact kix1 _ (by assumption)):0≤(1:Int)∧(1:Int)<((F97 line).1.length:Int)) (ai (by (have hz:=Qb line; have hz0:=hz (Int.toNat 0); have hz1:=hz (Int.toNat 1); have hz2:=hz (Int.toNat 2); have hs:w15_.size=1:=rfl; (try simp only [Qk] at *); omega):(((((F97 line).1.getD (Int.toNat 0) default)++w15_).size+((F97 line).1.getD (Int.toNat 1) default).size:Nat):Int)≤9223372036854775807) (ai (by (have hz:=Qb line; have hz0:=hz (Int.toNat 0); have hz1:=hz (Int.toNat 1); have hz2:=hz (Int.toNat 2); have hs:w15_.size=1:=rfl; (try simp only [Qk] at *); omega):((((((F97 line).1.getD (Int.toNat 0) default)++w15_)++((F97 line).1.getD (Int.toNat 1) default)).size+w15_.size:Nat):Int)≤9223372036854775807) (ai (by (exact Xd _ (by assumption) (by assumption)):0≤(2:Int)∧(2:Int)<((F97 line).1.length:Int)) (ai (by (have hz:=Qb line; have hz0:=hz (Int.toNat 0); have hz1:=hz (Int.toNat 1); have hz2:=hz (Int.toNat 2); have hs:w15_.size=1:=rfl; (try simp only [Qk] at *); omega):(((((((F97 line).1.getD (Int.toNat 0) default)++w15_)++((F97 line).1.getD (Int.toNat 1) default))++w15_).size+((F97 line).1.getD (Int.toNat 2) default).size:Nat):Int)≤9223372036854775807) (fiS ((((((F97 line).1.getD (Int.toNat 0) default)++w15_)++((F97 line).1.getD (Int.toNat 1) default))++w15_)++((F97 line).1.getD (Int.toNat 2) default)) (F149 line) (condF h1 (condF h4 (condF h20 (condF h21 (condT h26 (condF h27 (condT h28 (condT h29 rfl)))))))))))))))) (fun h29=>fiS line (F149 line) (condF h1 (condF h4 (condF h20 (condF h21 (condT h26 (condF h27 (condT h28 (condF h29 rfl)))))))))) (fun h28=>ifb (((F97 line).1.getD (Int.toNat 0) default).toList==w3_.toList) (fun h30=>ai (by (exact kix0 _ (by assumption)):0≤(0:Int)∧(0:Int)<((F97 line).1.length:Int)) (ai (by (have hz:=Qb line; have hz0:=hz (Int.toNat 0); have hz1:=hz (Int.toNat 1); have hz2:=hz (Int.toNat 2); have hs:w15_.size=1:=rfl; (try simp only [Qk] at *); omega):((((F97 line).1.getD (Int.toNat 0) default).size+w15_.size:Nat):Int)≤9223372036854775807) (ai (by (exact kix1 _ (by assumption)):0≤(1:Int)∧(1:Int)<((F97 line).1.length:Int)) (ai (by (have hz:=Qb line; have hz0:=hz (Int.toNat 0); have hz1:=hz (Int.toNat 1); have hz2:=hz (Int.toNat 2); have hs:w15_.size=1:=rfl; (try simp only [Qk] at *); omega):(((((F97 line).1.getD (Int.toNat 0) default)++w15_).size+((F97 line).1.getD (Int.toNat 1) default).size:Nat):Int)≤9223372036854775807) (ai (by (have hz:=Qb line; have hz0:=hz (Int.toNat 0); have hz1:=hz (Int.toNat 1); have hz2:=hz (Int.toNat 2); have hs:w15_.size=1:=rfl; (try simp only [Qk] at *); omega):((((((F97 line).1.getD (Int.toNat 0) default)++w15_)++((F97 line).1.getD (Int.toNat 1) default)).size+w15_.size:Nat):Int)≤9223372036854775807) (ai (by (exact Xb _ (by assumption) (by assumption)):0≤(2:Int)∧(2:Int)<((F97 line).1.length:Int)) (ai (by (have hz:=Qb line; have hz0:=hz (Int.toNat 0); have hz1:=hz (Int.toNat 1); have hz2:=hz (Int.toNat 2); have hs:w15_.size=1:=rfl; (try simp only [Qk] at *); omega):(((((((F97 line).1.getD (Int.toNat 0) default)++w15_)++((F97 line).1.getD (Int.toNat 1) default))++w15_).size+((F97 line).1.getD (Int.toNat 2) default).size:Nat):Int)≤9223372036854775807) (fiS ((((((F97 line).1.getD (Int.toNat 0) default)++w15_)++((F97 line).1.getD (Int.toNat 1) default))++w15_)++((F97 line).1.getD (Int.toNat 2) default)) (F149 line) (condF h1 (condF h4 (condF h20 (condF h21 (condT h26 (condF h27 (condF h28 (condT h30 rfl)))))))))))))))) (fun h30=>fiS line (F149 line) (condF h1 (condF h4 (condF h20 (condF h21 (condT h26 (condF h27 (condF h28 (condF h30 rfl)))))))))))) (fun h26=>ifb (((F97 line).1.getD (Int.toNat 0) default).toList==w6_.toList) (fun h31=>ai (by (exact kix0 _ (by assumption)):0≤(0:Int)∧(0:Int)<((F97 line).1.length:Int)) (ai (by (have hz:=Qb line; have hz0:=hz (Int.toNat 0); have hz1:=hz (Int.toNat 1); have hz2:=hz (Int.toNat 2); have hs:w15_.size=1:=rfl; (try simp only [Qk] at *); omega):((((F97 line).1.getD (Int.toNat 0) default).size+w15_.size:Nat):Int)≤9223372036854775807) (ai (by (exact kix1 _ (by assumption)):0≤(1:Int)∧(1:Int)<((F97 line).1.length:Int)) (ai (by (have hz:=Qb line; have hz0:=hz (Int.toNat 0); have hz1:=hz (Int.toNat 1); have hz2:=hz (Int.toNat 2); have hs:w15_.size=1:=rfl; (try simp only [Qk] at *); omega):(((((F97 line).1.getD (Int.toNat 0) default)++w15_).size+((F97 line).1.getD (Int.toNat 1) default).size:Nat):Int)≤9223372036854775807) (fiS ((((F97 line).1.getD (Int.toNat 0) default)++w15_)++((F97 line).1.getD (Int.toNat 1) default)) (F149 line) (condF h1 (condF h4 (condF h20 (condF h21 (condF h26 (condT h31 rfl))))))))))) (fun h31=>ifb (((F97 line).1.getD (Int.toNat 0) default).toList==w9_.toList) (fun h32=>ifb (((F97 line).1.getD (Int.toNat 0) default).toList==w9_.toList) (fun h33=>ai (by (exact kix0 _ (by assumption)):0≤(0:Int)∧(0:Int)<((F97 line).1.length:Int)) (ai (by (have hz:=Qb line; have hz0:=hz (Int.toNat 0); have hz1:=hz (Int.toNat 1); have hz2:=hz (Int.toNat 2); have hs:w15_.size=1:=rfl; (try simp only [Qk] at *); omega):((((F97 line).1.getD (Int.toNat 0) default).size+w15_.size:Nat):Int)≤9223372036854775807) (ai (by (exact kix1 _ (by assumption)):0≤(1:Int)∧(1:Int)<((F97 line).1.length:Int)) (ai (by (have hz:=Qb line; have hz0:=hz (Int.toNat 0); have hz1:=hz (Int.toNat 1); have hz2:=hz (Int.toNat 2); have hs:w15_.size=1:=rfl; (try simp only [Qk] at *); omega):(((((F97 line).1.getD (Int.toNat 0) default)++w15_).size+((F97 line).1.getD (Int.toNat 1) default).size:Nat):Int)≤9223372036854775807) (ai (by (have hz:=Qb line; have hz0:=hz (Int.toNat 0); have hz1:=hz (Int.toNat 1); have hz2:=hz (Int.toNat 2); have hs:w15_.size=1:=rfl; (try simp only [Qk] at *); omega):((((((F97 line).1.getD (Int.toNat 0) default)++w15_)++((F97 line).1.getD (Int.toNat 1) default)).size+w15_.size:Nat):Int)≤9223372036854775807) (ai (by (exact Xd _ (by assumption) (by assumption)):0≤(2:Int)∧(2:Int)<((F97 line).1.length:Int)) (ai (by (have hz:=Qb line; have hz0:=hz (Int.toNat 0); have hz1:=hz (Int.toNat 1); have hz2:=hz (Int.toNat 2); have hs:w15_.size=1:=rfl; (try simp only [Qk] at *); omega):(((((((F97 line).1.getD (Int.toNat 0) default)++w15_)++((F97 line).1.getD (Int.toNat 1) default))++w15_).size+((F97 line).1.getD (Int.toNat 2) default).size:Nat):Int)≤9223372036854775807) (fiS ((((((F97 line).1.getD (Int.toNat 0) default)++w15_)++((F97 line).1.getD (Int.toNat 1) default))++w15_)++((F97 line).1.getD (Int.toNat 2) default)) (F149 line) (condF h1 (condF h4 (condF h20 (condF h21 (condF h26 (condF h31 (condT h32 (condT h33 rfl)))))))))))))))) (fun h33=>fiS line (F149 line) (condF h1 (condF h4 (condF h20 (condF h21 (condF h26 (condF h31 (condT h32 (condF h33 rfl)))))))))) (fun h32=>ifb (((F97 line).1.getD (Int.toNat 0) default).toList==w3_.toList) (fun h34=>ai (by (exact kix0 _ (by assumption)):0≤(0:Int)∧(0:Int)<((F97 line).1.length:Int)) (ai (by (have hz:=Qb line; have hz0:=hz (Int.toNat 0); have hz1:=hz (Int.toNat 1); have hz2:=hz (Int.toNat 2); have hs:w15_.size=1:=rfl; (try simp only [Qk] at *); omega):((((F97 line).1.getD (Int.toNat 0) default).size+w15_.size:Nat):Int)≤9223372036854775807) (ai (by (exact kix1 _ (by assumption)):0≤(1:Int)∧(1:Int)<((F97 line).1.length:Int)) (ai (by (have hz:=Qb line; have hz0:=hz (Int.toNat 0); have hz1:=hz (Int.toNat 1); have hz2:=hz (Int.toNat 2); have hs:w15_.size=1:=rfl; (try simp only [Qk] at *); omega):(((((F97 line).1.getD (Int.toNat 0) default)++w15_).size+((F97 line).1.getD (Int.toNat 1) default).size:Nat):Int)≤9223372036854775807) (ai (by (have hz:=Qb line; have hz0:=hz (Int.toNat 0); have hz1:=hz (Int.toNat 1); have hz2:=hz (Int.toNat 2); have hs:w15_.size=1:=rfl; (try simp only [Qk] at *); omega):((((((F97 line).1.getD (Int.toNat 0) default)++w15_)++((F97 line).1.getD (Int.toNat 1) default)).size+w15_.size:Nat):Int)≤9223372036854775807) (ai (by (exact Xb _ (by assumption) (by assumption)):0≤(2:Int)∧(2:Int)<((F97 line).1.length:Int)) (ai (by (have hz:=Qb line; have hz0:=hz (Int.toNat 0); have hz1:=hz (Int.toNat 1); have hz2:=hz (Int.toNat 2); have hs:w15_.size=1:=rfl; (try simp only [Qk] at *); omega):(((((((F97 line).1.getD (Int.toNat 0) default)++w15_)++((F97 line).1.getD (Int.toNat 1) default))++w15_).size+((F97 line).1.getD (Int.toNat 2) default).size:Nat):Int)≤9223372036854775807) (fiS ((((((F97 line).1.getD (Int.toNat 0) default)++w15_)++((F97 line).1.getD (Int.toNat 1) default))++w15_)++((F97 line).1.getD (Int.toNat 2) default)) (F149 line) (condF h1 (condF h4 (condF h20 (condF h21 (condF h26 (condF h31 (condF h32 (condT h34 rfl)))))))))))))))) (fun h34=>fiS line (F149 line) (condF h1 (condF h4 (condF h20 (condF h21 (condF h26 (condF h31 (condF h32 (condF h34 rfl)))))))))))))))))))) (by kernel_rfl)
theorem join1 (a sp:ByteArray):Yv [a] sp=a:=Ww (by show Lib.join _ _=_; exact Lib.join_one _ _)
theorem Ls (ws:List ByteArray) (sp:ByteArray):(Yv ws sp).data.toList=Lib.join (ws.map (·.data.toList)) sp.data.toList:=rfl
theorem Ues (a b sp:ByteArray):Yv [a,b] sp=(a++sp)++b:=Ww (by
 rw [Ls,List.map_cons,Lib.join_cons]
 simp [Lib.joinTail,ByteArray.data_append,Array.toList_append,List.append_assoc])
theorem join3 (a b c sp:ByteArray):Yv [a,b,c] sp=(((a++sp)++b)++sp)++c:=Ww (by
 rw [Ls,List.map_cons,Lib.join_cons]
 simp [Lib.joinTail,ByteArray.data_append,Array.toList_append,List.append_assoc])
theorem Qkr (w:List ByteArray) (h:1≤w.length):w.take 1=[w.getD 0 default]:=by
 match w,h with
 | a :: _,_=>rfl
theorem Qbe (w:List ByteArray) (h:2≤w.length):w.take 2=[w.getD 0 default,w.getD 1 default]:=by
 match w,h with
 | a :: b :: _,_=>rfl
theorem Ba (w:List ByteArray) (h:3≤w.length):w.take 3=[w.getD 0 default,w.getD 1 default,w.getD 2 default]:=by
 match w,h with
 | a :: b :: c :: _,_=>rfl
theorem Qpm (line:ByteArray) (h:F182 line=true):F149 line=Yv ((F97 line).1.take (keyN (((F97 line).1.getD 0 default).data.toList)).toNat) (⟨#[32]⟩:ByteArray):=by
 have hk:=Hx line h
 have hj:=hk.joins
 unfold F149
 have e0:(F97 line).1.getD (Int.toNat 0) default=(F97 line).1.getD 0 default:=rfl
 have e1:(F97 line).1.getD (Int.toNat 1) default=(F97 line).1.getD 1 default:=rfl
 have e2:(F97 line).1.getD (Int.toNat 2) default=(F97 line).1.getD 2 default:=rfl
 simp only [h,Bool.not_true,cond_false,e0,e1,e2,blit]
 have hf:=hk.form
 generalize (F97 line).1=w at hf hj
 rcases hf with hf | hf | hf | hf | hf | hf | hf | hf
 ·have h0:=hf.1
  have hn:keyN (w.getD 0 default).data.toList=1:=by rw [h0]; decide
  have hl:2≤w.length:=by unfold Qgn at hf; omega
  rw [hn,show ((1:Int).toNat)=1 from rfl]
  simp only [h0,show (([104,111,115,116]:List UInt8)==([104,111,115,116]:List UInt8))=true from by decide ,show (([104,111,115,116]:List UInt8)==([117,115,101,114]:List UInt8))=false from by decide ,show (([104,111,115,116]:List UInt8)==([112,111,114,116]:List UInt8))=false from by decide ,show (([104,111,115,116]:List UInt8)==([114,117,108,101]:List UInt8))=false from by decide ,show (([104,111,115,116]:List UInt8)==([114,111,117,116,101]:List UInt8))=false from by decide ,show (([104,111,115,116]:List UInt8)==([112,101,101,114]:List UInt8))=false from by decide ,show (([104,111,115,116]:List UInt8)==([110,97,116]:List UInt8))=false from by decide ,show (([104,111,115,116]:List UInt8)==([100,111,111,114]:List UInt8))=false from by decide,cond_true,cond_false]
  rw [Qkr w (by omega),join1]
 ·have h0:=hf.1
  have hn:keyN (w.getD 0 default).data.toList=2:=by rw [h0]; decide
  have hl:2≤w.length:=by unfold Wz at hf; omega
  rw [hn,show ((2:Int).toNat)=2 from rfl]
  simp only [h0,show (([117,115,101,114]:List UInt8)==([104,111,115,116]:List UInt8))=false from by decide ,show (([117,115,101,114]:List UInt8)==([117,115,101,114]:List UInt8))=true from by decide ,show (([117,115,101,114]:List UInt8)==([112,111,114,116]:List UInt8))=false from by decide ,show (([117,115,101,114]:List UInt8)==([114,117,108,101]:List UInt8))=false from by decide ,show (([117,115,101,114]:List UInt8)==([114,111,117,116,101]:List UInt8))=false from by decide ,show (([117,115,101,114]:List UInt8)==([112,101,101,114]:List UInt8))=false from by decide ,show (([117,115,101,114]:List UInt8)==([110,97,116]:List UInt8))=false from by decide ,show (([117,115,101,114]:List UInt8)==([100,111,111,114]:List UInt8))=false from by decide,cond_true,cond_false]
  rw [Qbe w (by omega),Ues]
 ·have h0:=hf.1
  have hn:keyN (w.getD 0 default).data.toList=2:=by rw [h0]; decide
  have hl:2≤w.length:=by unfold Vm at hf; omega
  rw [hn,show ((2:Int).toNat)=2 from rfl]
  simp only [h0,show (([112,111,114,116]:List UInt8)==([104,111,115,116]:List UInt8))=false from by decide ,show (([112,111,114,116]:List UInt8)==([117,115,101,114]:List UInt8))=false from by decide ,show (([112,111,114,116]:List UInt8)==([112,111,114,116]:List UInt8))=true from by decide ,show (([112,111,114,116]:List UInt8)==([114,117,108,101]:List UInt8))=false from by decide ,show (([112,111,114,116]:List UInt8)==([114,111,117,116,101]:List UInt8))=false from by decide ,show (([112,111,114,116]:List UInt8)==([112,101,101,114]:List UInt8))=false from by decide ,show (([112,111,114,116]:List UInt8)==([110,97,116]:List UInt8))=false from by decide ,show (([112,111,114,116]:List UInt8)==([100,111,111,114]:List UInt8))=false from by decide,cond_true,cond_false]
  rw [Qbe w (by omega),Ues]
 ·have h0:=hf.1
  have hn:keyN (w.getD 0 default).data.toList=3:=by rw [h0]; decide
  have hl:3≤w.length:=by unfold Yi at hf; omega
  rw [hn,show ((3:Int).toNat)=3 from rfl]
  simp only [h0,show (([114,117,108,101]:List UInt8)==([104,111,115,116]:List UInt8))=false from by decide ,show (([114,117,108,101]:List UInt8)==([117,115,101,114]:List UInt8))=false from by decide ,show (([114,117,108,101]:List UInt8)==([112,111,114,116]:List UInt8))=false from by decide ,show (([114,117,108,101]:List UInt8)==([114,117,108,101]:List UInt8))=true from by decide ,show (([114,117,108,101]:List UInt8)==([114,111,117,116,101]:List UInt8))=false from by decide ,show (([114,117,108,101]:List UInt8)==([112,101,101,114]:List UInt8))=false from by decide ,show (([114,117,108,101]:List UInt8)==([110,97,116]:List UInt8))=false from by decide ,show (([114,117,108,101]:List UInt8)==([100,111,111,114]:List UInt8))=false from by decide,cond_true,cond_false]
  rw [Ba w (by omega),join3]
 ·have h0:=hf.1
  have hn:keyN (w.getD 0 default).data.toList=3:=by rw [h0]; decide
  have hl:3≤w.length:=by unfold Xa at hf; omega
  rw [hn,show ((3:Int).toNat)=3 from rfl]
  simp only [h0,show (([114,111,117,116,101]:List UInt8)==([104,111,115,116]:List UInt8))=false from by decide ,show (([114,111,117,116,101]:List UInt8)==([117,115,101,114]:List UInt8))=false from by decide ,show (([114,111,117,116,101]:List UInt8)==([112,111,114,116]:List UInt8))=false from by decide ,show (([114,111,117,116,101]:List UInt8)==([114,117,108,101]:List UInt8))=false from by decide ,show (([114,111,117,116,101]:List UInt8)==([114,111,117,116,101]:List UInt8))=true from by decide ,show (([114,111,117,116,101]:List UInt8)==([112,101,101,114]:List UInt8))=false from by decide ,show (([114,111,117,116,101]:List UInt8)==([110,97,116]:List UInt8))=false from by decide ,show (([114,111,117,116,101]:List UInt8)==([100,111,111,114]:List UInt8))=false from by decide,cond_true,cond_false]
  rw [List.take_of_length_le (by unfold Xa at hf; omega)]
  exact hj.symm
 ·have h0:=hf.1
  have hn:keyN (w.getD 0 default).data.toList=2:=by rw [h0]; decide
  have hl:2≤w.length:=by unfold Rt at hf; omega
  rw [hn,show ((2:Int).toNat)=2 from rfl]
  simp only [h0,show (([112,101,101,114]:List UInt8)==([104,111,115,116]:List UInt8))=false from by decide ,show (([112,101,101,114]:List UInt8)==([117,115,101,114]:List UInt8))=false from by decide ,show (([112,101,101,114]:List UInt8)==([112,111,114,116]:List UInt8))=false from by decide ,show (([112,101,101,114]:List UInt8)==([114,117,108,101]:List UInt8))=false from by decide ,show (([112,101,101,114]:List UInt8)==([114,111,117,116,101]:List UInt8))=false from by decide ,show (([112,101,101,114]:List UInt8)==([112,101,101,114]:List UInt8))=true from by decide ,show (([112,101,101,114]:List UInt8)==([110,97,116]:List UInt8))=false from by decide ,show (([112,101,101,114]:List UInt8)==([100,111,111,114]:List UInt8))=false from by decide,cond_true,cond_false]
  rw [Qbe w (by omega),Ues]
 ·have h0:=hf.1
  have hn:keyN (w.getD 0 default).data.toList=1:=by rw [h0]; decide
  have hl:2≤w.length:=by unfold natP at hf; omega
  rw [hn,show ((1:Int).toNat)=1 from rfl]
  simp only [h0,show (([110,97,116]:List UInt8)==([104,111,115,116]:List UInt8))=false from by decide ,show (([110,97,116]:List UInt8)==([117,115,101,114]:List UInt8))=false from by decide ,show (([110,97,116]:List UInt8)==([112,111,114,116]:List UInt8))=false from by decide ,show (([110,97,116]:List UInt8)==([114,117,108,101]:List UInt8))=false from by decide ,show (([110,97,116]:List UInt8)==([114,111,117,116,101]:List UInt8))=false from by decide ,show (([110,97,116]:List UInt8)==([112,101,101,114]:List UInt8))=false from by decide ,show (([110,97,116]:List UInt8)==([110,97,116]:List UInt8))=true from by decide ,show (([110,97,116]:List UInt8)==([100,111,111,114]:List UInt8))=false from by decide,cond_true,cond_false]
  rw [Qkr w (by omega),join1]
 ·have h0:=hf.1
  have hn:keyN (w.getD 0 default).data.toList=3:=by rw [h0]; decide
  have hl:3≤w.length:=by unfold Wr at hf; omega
  rw [hn,show ((3:Int).toNat)=3 from rfl]
  simp only [h0,show (([100,111,111,114]:List UInt8)==([104,111,115,116]:List UInt8))=false from by decide ,show (([100,111,111,114]:List UInt8)==([117,115,101,114]:List UInt8))=false from by decide ,show (([100,111,111,114]:List UInt8)==([112,111,114,116]:List UInt8))=false from by decide ,show (([100,111,111,114]:List UInt8)==([114,117,108,101]:List UInt8))=false from by decide ,show (([100,111,111,114]:List UInt8)==([114,111,117,116,101]:List UInt8))=false from by decide ,show (([100,111,111,114]:List UInt8)==([112,101,101,114]:List UInt8))=false from by decide ,show (([100,111,111,114]:List UInt8)==([110,97,116]:List UInt8))=false from by decide ,show (([100,111,111,114]:List UInt8)==([100,111,111,114]:List UInt8))=true from by decide,cond_true,cond_false]
  rw [Ba w (by omega),join3]
theorem Uaj (line:ByteArray):F189 line=F149 line:=by
 cases h:F182 line with
 | false =>
  unfold F189 F149
  rw [Xm,h]; rfl
 | true =>
  rw [Qpm line h]
  obtain ⟨k1,k2⟩:=Tr line h
  unfold F189
  rw [Xm,h,k1,k2]; rfl
theorem Qfd {α σ ρ τ ω:Type} [Inhabited α] (xs:List α) (upd:σ→α→σ) (emb:σ→Int→ω) (step:ω→Lp ω ρ)
  (h1:∀ (i:Nat) (s:σ),i<xs.length→step (emb s (i:Int))=.next (emb (upd s (xs.getD i default)) ((i+1:Nat):Int))) (h2:∀ s:σ,step (emb s (xs.length:Int))=.done (emb s (xs.length:Int)))
  (f:ρ→τ) (g:ω→τ):∀ (m i:Nat) (s:σ),i+m=xs.length→∀ fuel,m<fuel→(runL step fuel (emb s (i:Int))).fin f g=g (emb ((xs.drop i).foldl upd s) (xs.length:Int))
 | m,i,_,_,0,hf=>absurd hf (Nat.not_lt_zero _)
 | 0,i,s,h,fuel+1,hf=>by
  obtain rfl:i=xs.length:=by omega
  rw [Ky _ (h2 s),List.drop_of_length_le (Nat.le_refl _)]; rfl
 | m+1,i,s,h,fuel+1,hf=>by
  have hd:xs.drop i=xs.getD i default :: xs.drop (i+1):=by
   rw [List.drop_eq_getElem_cons (show i<xs.length by omega),List.getD_eq_getElem?_getD,List.getElem?_eq_getElem (show i<xs.length by omega)]; rfl
  rw [Ye _ (h1 i s (by omega)),Qfd xs upd emb step h1 h2 f g m (i+1) _ (by omega) fuel (by omega),hd,List.foldl_cons]
theorem Yc {α σ ρ τ ω:Type} [Inhabited α] (xs:List α) (upd:σ→α→σ) (emb:σ→Int→ω) (step:ω→Lp ω ρ)
  (h1:∀ (i:Nat) (s:σ),i<xs.length→step (emb s (i:Int))=.next (emb (upd s (xs.getD i default)) ((i+1:Nat):Int))) (h2:∀ s:σ,step (emb s (xs.length:Int))=.done (emb s (xs.length:Int)))
  (f:ρ→τ) (g:ω→τ) (s:σ):(runL step (((xs.length:Int)-0).toNat+1) (emb s 0)).fin f g=g (emb (xs.foldl upd s) (xs.length:Int)):=by
 have:=Qfd xs upd emb step h1 h2 f g xs.length 0 s (by omega) (Int.toNat ((xs.length:Int)-0)+1) (by omega)
 rw [List.drop_zero] at this
 exact this
theorem Wb {α:Type} [Inhabited α] (ws:List α) (p:α→Bool):∀ (m i:Nat),i+m=ws.length→anyF (fun k=>p (ws.getD k default)) i m=(ws.drop i).any p
 | 0,i,h=>by rw [List.drop_of_length_le (by omega)]; rfl
 | m+1,i,h=>by
  have hd:ws.drop i=ws.getD i default :: ws.drop (i+1):=by
   rw [List.drop_eq_getElem_cons (show i<ws.length by omega),List.getD_eq_getElem?_getD,List.getElem?_eq_getElem (show i<ws.length by omega)]; rfl
  rw [hd,List.any_cons,anyF,Wb ws p m (i+1) (by omega)]
theorem anyL {α ρ τ:Type} [Inhabited α] (xs:List α) (p:α→Bool) (bad:ρ) (step:Int→Lp Int ρ)
  (h1:∀ i:Nat,i<xs.length→step (i:Int)=bif p (xs.getD i default) then .ret bad else .next ((i+1:Nat):Int)) (h2:step (xs.length:Int)=.done (xs.length:Int))
  (f:ρ→τ) (g:Int→τ) (y:τ) (hg:∀ i,g i=y):(runL step (((xs.length:Int)-0).toNat+1) 0).fin f g=bif xs.any p then f bad else y:=by
 have h:=Yn step xs.length (fun k=>p (xs.getD k default)) bad f y h1 h2 xs.length 0 (by omega) (Int.toNat ((xs.length:Int)-0)+1) (by omega)
 rw [Wb xs p xs.length 0 (by omega),List.drop_zero] at h
 rw [show g=fun _=>y from funext hg]
 exact h
theorem Re {α β:Type} (p:α→Bool) (f:α→β):∀ (xs:List α) (s:List β),xs.foldl (fun s x=>bif p x then s++[f x] else s) s=s++(xs.filter p).map f
 | [],s=>by simp
 | x :: xs,s=>by
  rw [List.foldl_cons,Re p f xs]
  cases h:p x with
  | true=>rw [cond_true,List.filter_cons_of_pos h,List.map_cons,List.append_assoc]; rfl
  | false=>rw [cond_false,List.filter_cons_of_neg (by simp [h])]
theorem Zv {α β:Type} (f:α→β):∀ (xs:List α) (s:List β),xs.foldl (fun s x=>s++[f x]) s=s++xs.map f
 | [],s=>by simp
 | x :: xs,s=>by
  rw [List.foldl_cons,Zv f xs,List.map_cons,List.append_assoc]; rfl
theorem Bo {α:Type} (p:α→Bool):∀ (xs:List α) (n:Int),xs.foldl (fun n x=>bif p x then n+1 else n) n=n+(xs.filter p).length
 | [],n=>by simp
 | x :: xs,n=>by
  rw [List.foldl_cons,Bo p xs]
  cases h:p x with
  | true=>rw [cond_true,List.filter_cons_of_pos h,List.length_cons]; omega
  | false=>rw [cond_false,List.filter_cons_of_neg (by simp [h])]
theorem kc149 (line:ByteArray) {K_:Prop} (p0_:line.size≤1048576) (k_:K_):(line.size≤1048576)∧(Imp (.v (.string line)) (.v (.string line)))∧K_:=⟨p0_,Imp.refl _,k_⟩
abbrev kh149 (line:ByteArray):Hint true Tryz.prog:=.call 149 (S149 line) (ok149 line) none
def Bq (lines:List ByteArray):(List ByteArray×Int)→Lp (List ByteArray×Int) (List ByteArray):=fun (out,i40) =>
 bif (decide (i40<(lines.length:Int))) then (.next ((out++[(F149 (lines.getD i40.toNat default))]),(i40+1))) else (.done (out,i40))
def F95 (lines:List ByteArray):List ByteArray :=
 (runL (Bq lines) (((lines.length:Int)-0).toNat+1) (([]:List ByteArray),0)).fin (fun r=>r) (fun (out,i40)=>out)
abbrev Qek (lines:List ByteArray):Nat×(List ByteArray×Int):=((((lines.length:Int)-0).toNat+1),(([]:List ByteArray),0))
abbrev Qpx (lines:List ByteArray) (m39:Nat) (out:List ByteArray) (i40:Int):Prop:=Int.toNat ((lines.length:Int)-i40)<m39∧(out.length:Int)≤i40∧(0:Int)≤i40
abbrev Ueg (lines:List ByteArray):Lp (List ByteArray×Int) (List ByteArray):=LpX (Bq lines) (Qek lines)
abbrev Qdn (lines:List ByteArray) (i:Nat×(List ByteArray×Int)):Prop:=LpJ (Bq lines) (Qek lines) i (Qpx lines i.1 i.2.1 i.2.2)
abbrev Uce (lines:List ByteArray) (i:Nat×(List ByteArray×Int)) (m39:Nat) (out:List ByteArray) (i40:Int):Prop:=LpH (Bq lines) (Qek lines) i m39 (out,i40) (Qpx lines (m39+1) out i40)
abbrev Uey (lines:List ByteArray) (out:List ByteArray) (i40:Int) (out_:List ByteArray) (i40_:Int) (K39:Prop):Prop:=((.int .i64 i40:Value)=.int .i64 i40_)∧(Im (.l 1 eStr lines))∧(Imp (.l 1 eStr out) (.l 1 eStr out_))∧K39
theorem un95_0 (lines:List ByteArray) (i:Nat×(List ByteArray×Int)) (h:Qdn lines i):Uce lines i (i.1-1) i.2.1 i.2.2:=⟨hd1 h.1 h.2.1,hd3 h.2.1,hd2 h.2.1,h.2.2⟩
theorem bk95_0 (lines:List ByteArray) (i:Nat×(List ByteArray×Int)) (m39:Nat) (out:List ByteArray) (i40:Int) (hl:m39<i.1) (e:runL (Bq lines) m39 (out,i40)=Ueg lines) (h:Qpx lines m39 out i40):∃ j:Nat×(List ByteArray×Int),Uey lines out i40 j.2.1 j.2.2 (Qdn lines j∧j.1<i.1):=⟨(m39,(out,i40)),rfl,Imp.refl _,Imp.refl _,⟨e,h⟩,hl⟩
theorem en95_0 (lines:List ByteArray) (h:(([]:List ByteArray).length:Int)≤0∧(0:Int)≤0):Uey lines ([]:List ByteArray) 0 ([]:List ByteArray) 0 (Qdn lines (Qek lines)):=⟨rfl,Imp.refl _,Imp.refl _,rfl,Nat.lt_succ_self _,h⟩
theorem fi95 (lines:List ByteArray) (r:List ByteArray) (hF:r=(F95 lines)):(Imp (.l 1 eStr r) (.l 1 eStr (F95 lines)))∧True:=by cases hF; exact ⟨Imp.refl _,trivial⟩
def S95 (R:List ByteArray) (lines:List ByteArray):Spec:=⟨[.r (.c (.l 1 eStr lines))],.ow (.l 1 eStr R),lines.length≤1048576∧(∀ k:Nat,(lines.getD k default).size≤1048576)⟩
theorem ok95 (lines:List ByteArray):(S95 (F95 lines) lines).ok Tryz.prog 95 :=
 Qg mixed (fn:=Tryz.f95) (ct:=.seqk [(0,0)] .no (.seq (.reg [(0,.dat (.l 1 eStr ([]:List ByteArray)))]) (.seq (.seqk [(0,0),(3,0)] .no (.blk (.loop (ι:=Nat×(List ByteArray×Int)) (fun i=>(fun (out:List ByteArray) (i40:Int)=>(⟨[(0,some (.h 0 0)),(3,some (.h 1 0)),(4,some (.v (vI i40)))],[(0,some (.shr none (.l 1 eStr lines))),(1,some (.own 1 (.l 1 eStr out)))],2⟩:St)) i.2.1 i.2.2) (Qdn lines) (fun i=>i.1) (Qek lines) (fun i=>(fun (out:List ByteArray) (i40:Int)=>(.seq (.seq .no (.cond .no .no)) (.seq (.blk (.reg [(5,kh149 (lines.getD i40.toNat default)),(7,.dat (.l 1 eStr (out++[(F149 (lines.getD i40.toNat default))])))])) (.reg [(1,.bnd)])))) i.2.1 i.2.2)))) (.seq .no .no)))) Tryz.func95 (fun (hp:lines.length≤1048576∧(∀ k:Nat,(lines.getD k default).size≤1048576))=>have hpre0:=hp.1; have hpre1:=hp.2; kn lines fun _=>ai (bokr 1 eStr ([]:List ByteArray) fun _=>rfl) (kn lines fun _=>kn ([]:List ByteArray) fun _=>ai (en95_0 lines (by refine ⟨?_,?_⟩ <;> first | omega | (simp only [lens,ib] at*<;> omega))) (fun (i0:Nat×(List ByteArray×Int)) (hi0:Qdn lines i0)=>(fun (m0:Nat) (out:List ByteArray) (i40:Int) (hh0:Uce lines i0 m0 out i40)=>have hI0:=hh0.1; have hl0:=hh0.2.1; have _:=hh0.2.2.1; have _:=hh0.2.2.2; ifd (i40<(lines.length:Int)) (fun h2 _=>ai (by first | omega | (simp only [lens,ib] at*<;> omega):ib i40 lines) (kc149 (lines.getD i40.toNat default) (by first | omega | exact hpre1 _ | (intros; exact trivial) | (intros; exact Nat.zero_le _)) (ai (appr 1 eStr out [(F149 (lines.getD i40.toNat default))] fun _=>rfl) (ai (by (try simp only [lens]); omega:(out++[(F149 (lines.getD i40.toNat default))]).length*16≤140737488355328) (ai (iok (i40+1) (by first | omega | (simp only [lens,ib] at*<;> omega))) (bk95_0 lines i0 m0 (out++[(F149 (lines.getD i40.toNat default))]) (i40+1) hl0 (Qc hI0 (condT h2 rfl)) (by refine ⟨?_,?_,?_⟩ <;> first | omega | (simp only [lens,ib] at*<;> omega)))))))) (fun h2 _=>have hD0_3:Ueg lines=Lp.done (out,i40):=Qi hI0 (condF h2 rfl); fi95 lines out (finD hD0_3 rfl))) (i0.1-1) i0.2.1 i0.2.2 (un95_0 lines i0 hi0)))) (by kernel_rfl)
def Ge (lines:List ByteArray) (word:ByteArray):(List (List ByteArray)×Int)→Lp (List (List ByteArray)×Int) (List (List ByteArray)):=fun (out,v12) =>
 bif (decide (v12<(lines.length:Int))) then (bif (((F120 (lines.getD v12.toNat default) ⟨#[32]⟩).getD (Int.toNat 0) default).toList==word.toList) then (.next ((out++[(F120 (lines.getD v12.toNat default) ⟨#[32]⟩)]),(v12+1))) else (.next (out,(v12+1)))) else (.done (out,v12))
def F82 (lines:List ByteArray) (word:ByteArray):List (List ByteArray) :=
 (runL (Ge lines word) (((lines.length:Int)-0).toNat+1) (([]:List (List ByteArray)),0)).fin (fun r=>r) (fun (out,v12)=>out)
abbrev Qcz (lines:List ByteArray):Nat×(List (List ByteArray)×Int):=((((lines.length:Int)-0).toNat+1),(([]:List (List ByteArray)),0))
abbrev Qni (lines:List ByteArray) (m39:Nat) (out:List (List ByteArray)) (v12:Int):Prop:=Int.toNat ((lines.length:Int)-v12)<m39∧(out.length:Int)≤v12∧(0:Int)≤v12
abbrev Ube (lines:List ByteArray) (word:ByteArray):Lp (List (List ByteArray)×Int) (List (List ByteArray)):=LpX (Ge lines word) (Qcz lines)
abbrev Qdq (lines:List ByteArray) (word:ByteArray) (i:Nat×(List (List ByteArray)×Int)):Prop:=LpJ (Ge lines word) (Qcz lines) i (Qni lines i.1 i.2.1 i.2.2)
abbrev Qzc (lines:List ByteArray) (word:ByteArray) (i:Nat×(List (List ByteArray)×Int)) (m39:Nat) (out:List (List ByteArray)) (v12:Int):Prop:=LpH (Ge lines word) (Qcz lines) i m39 (out,v12) (Qni lines (m39+1) out v12)
abbrev Qzb (lines:List ByteArray) (word:ByteArray) (out:List (List ByteArray)) (v12:Int) (out_:List (List ByteArray)) (v12_:Int) (K39:Prop):Prop:=(Rf (.string word))∧(Rf (.int .i64 (lines.length:Int)))∧((.int .i64 v12:Value)=.int .i64 v12_)∧(Imp (.l 1 (eL 1 eStr) out) (.l 1 (eL 1 eStr) out_))∧(Im (.l 1 eStr lines))∧K39
theorem un82_0 (lines:List ByteArray) (word:ByteArray) (i:Nat×(List (List ByteArray)×Int)) (h:Qdq lines word i):Qzc lines word i (i.1-1) i.2.1 i.2.2:=⟨hd1 h.1 h.2.1,hd3 h.2.1,hd2 h.2.1,h.2.2⟩
theorem Qye (lines:List ByteArray) (word:ByteArray) (i:Nat×(List (List ByteArray)×Int)) (m39:Nat) (out:List (List ByteArray)) (v12:Int) (hl:m39<i.1) (e:runL (Ge lines word) m39 (out,v12)=Ube lines word) (h:Qni lines m39 out v12):∃ j:Nat×(List (List ByteArray)×Int),Qzb lines word out v12 j.2.1 j.2.2 (Qdq lines word j∧j.1<i.1):=⟨(m39,(out,v12)),rfl,rfl,rfl,Imp.refl _,Imp.refl _,⟨e,h⟩,hl⟩
theorem en82_0 (lines:List ByteArray) (word:ByteArray) (h:(([]:List (List ByteArray)).length:Int)≤0∧(0:Int)≤0):Qzb lines word ([]:List (List ByteArray)) 0 ([]:List (List ByteArray)) 0 (Qdq lines word (Qcz lines)):=⟨rfl,rfl,rfl,Imp.refl _,Imp.refl _,rfl,Nat.lt_succ_self _,h⟩
theorem fi82 (lines:List ByteArray) (word:ByteArray) (r:List (List ByteArray)) (hF:r=(F82 lines word)):(Imp (.l 1 (eL 1 eStr) r) (.l 1 (eL 1 eStr) (F82 lines word)))∧True:=by cases hF; exact ⟨Imp.refl _,trivial⟩
def S82 (R:List (List ByteArray)) (lines:List ByteArray) (word:ByteArray):Spec:=⟨[.r (.c (.l 1 eStr lines)),.r (.c (.v (.string word)))],.ow (.l 1 (eL 1 eStr) R),lines.length≤1048576∧(∀ k:Nat,(lines.getD k default).size≤1048576)⟩
theorem ok82 (lines:List ByteArray) (word:ByteArray):(S82 (F82 lines word) lines word).ok Tryz.prog 82 :=
 Qg mixed (fn:=Tryz.f82) (ct:=.seqk [(0,0)] .no (.seq (.reg [(0,.dat (.l 1 (eL 1 eStr) ([]:List (List ByteArray))))]) (.seq (.seqk [(5,0),(10,0)] .no (.blk (.loop (ι:=Nat×(List (List ByteArray)×Int)) (fun i=>(fun (out:List (List ByteArray)) (v12:Int)=>(⟨[(1,some (.v (.string word))),(5,some (.h 0 0)),(10,some (.h 1 0)),(11,some (.v (vI (lines.length:Int)))),(12,some (.v (vI v12)))],[(0,some (.own 0 (.l 1 (eL 1 eStr) out))),(1,some (.shr none (.l 1 eStr lines)))],2⟩:St)) i.2.1 i.2.2) (Qdq lines word) (fun i=>i.1) (Qcz lines) (fun i=>(fun (out:List (List ByteArray)) (v12:Int)=>(.seq .no (.seq (.cond .no .no) (.seq (.blk (.seq .no (.seq (.reg [(1,kh120 (lines.getD v12.toNat default) w15_)]) (.seq .no (.cond (.reg [(3,.dat (.l 1 (eL 1 eStr) (out++[(F120 (lines.getD v12.toNat default) w15_)])))]) .no))))) (.reg [(0,.bnd)]))))) i.2.1 i.2.2)))) (.seq .no .no)))) Tryz.func82 (fun (hp:lines.length≤1048576∧(∀ k:Nat,(lines.getD k default).size≤1048576))=>have hpre0:=hp.1; have hpre1:=hp.2; kn lines fun _=>ai (bokr 1 (eL 1 eStr) ([]:List (List ByteArray)) fun _=>rfl) (kn ([]:List (List ByteArray)) fun _=>kn lines fun _=>ai (en82_0 lines word (by refine ⟨?_,?_⟩ <;> first | omega | (simp only [lens,ib] at*<;> omega))) (fun (i0:Nat×(List (List ByteArray)×Int)) (hi0:Qdq lines word i0)=>(fun (m0:Nat) (out:List (List ByteArray)) (v12:Int) (hh0:Qzc lines word i0 m0 out v12)=>have hI0:=hh0.1; have hl0:=hh0.2.1; have _:=hh0.2.2.1; have _:=hh0.2.2.2; ifd (v12<(lines.length:Int)) (fun h2 _=>ai (by first | omega | (simp only [lens,ib] at*<;> omega):ib v12 lines) (Qtx (lines.getD v12.toNat default) w15_ (by first | decide | (have hz:=hpre1 v12.toNat; omega)) (by first | decide | (have hz:=hpre1 v12.toNat; omega)) (by first | decide | (have hz:=hpre1 v12.toNat; omega)) (by first | decide | (have hz:=hpre1 v12.toNat; omega)) (fun gv3 gv4=>ai (by first | omega | (simp only [lens,ib] at*<;> omega):ib 0 (F120 (lines.getD v12.toNat default) w15_)) (ifb (((F120 (lines.getD v12.toNat default) w15_).getD (Int.toNat 0) default).toList==word.toList) (fun h5=>ai (appr 1 (eL 1 eStr) out [(F120 (lines.getD v12.toNat default) w15_)] fun _=>rfl) (ai (by (try simp only [lens]); omega:(out++[(F120 (lines.getD v12.toNat default) w15_)]).length*24≤140737488355328) (ai (iok (v12+1) (by first | omega | (simp only [lens,ib] at*<;> omega))) (Qye lines word i0 m0 (out++[(F120 (lines.getD v12.toNat default) w15_)]) (v12+1) hl0 (Qc hI0 (condT h2 (condT h5 rfl))) (by refine ⟨?_,?_,?_⟩ <;> first | omega | (simp only [lens,ib] at*<;> omega)))))) (fun h5=>ai (iok (v12+1) (by first | omega | (simp only [lens,ib] at*<;> omega))) (Qye lines word i0 m0 out (v12+1) hl0 (Qc hI0 (condT h2 (condF h5 rfl))) (by refine ⟨?_,?_,?_⟩ <;> first | omega | (simp only [lens,ib] at*<;> omega)))))))) (fun h2 _=>have hD0_6:Ube lines word=Lp.done (out,v12):=Qi hI0 (condF h2 rfl); fi82 lines word out (finD hD0_6 rfl))) (i0.1-1) i0.2.1 i0.2.2 (un82_0 lines word i0 hi0)))) (by kernel_rfl)
theorem as95 (lines:List ByteArray):F95 lines=(lines.map F149):=by
 unfold F95
 have:=Yc lines (fun (s:List ByteArray) x=>s++[F149 x]) (fun s i=>(s,i)) (Bq lines) (fun i s hi=>by
  simp only [Bq,ltD hi,cond_true,nn]; rfl) (fun s=>by simp only [Bq,geD,cond_false]) (fun r=>r) (fun (out,i40)=>out) []
 refine this.trans ?_
 rw [Zv,List.nil_append]
def Qa (lines:List ByteArray) (word:ByteArray):List (List ByteArray):=(lines.map fun l=>Qx l (⟨#[32]⟩:ByteArray)).filter fun w=>(w.getD 0 default).data.toList==word.data.toList
theorem as82 (lines:List ByteArray) (word:ByteArray):F82 lines word=(Qa lines word):=by
 unfold F82
 have:=Yc lines (fun (s:List (List ByteArray)) x=>bif ((Qx x (⟨#[32]⟩:ByteArray)).getD 0 default).data.toList==word.data.toList then s++[Qx x (⟨#[32]⟩:ByteArray)] else s) (fun s i=>(s,i)) (Ge lines word) (fun i s hi=>by
  simp only [Ge,ltD hi,cond_true,nn,Qy,F120]
  show (bif ((Qx (lines.getD i default) (⟨#[32]⟩:ByteArray)).getD 0 default).data.toList==word.data.toList then _ else _)=_
  cases (((Qx (lines.getD i default) (⟨#[32]⟩:ByteArray)).getD 0 default).data.toList==word.data.toList) <;> rfl) (fun s=>by simp only [Ge,geD,cond_false]) (fun r=>r) (fun (out,v12)=>out) []
 refine this.trans ?_
 have h:=Re (fun x=>((Qx x (⟨#[32]⟩:ByteArray)).getD 0 default).data.toList==word.data.toList) (fun x=>Qx x (⟨#[32]⟩:ByteArray)) lines []
 rw [List.nil_append] at h
 refine h.trans ?_
 unfold Qa
 rw [List.filter_map]
 rfl
def T95 (R:List ByteArray) (lines:List ByteArray):Spec:=⟨(S95 R lines).args,(S95 R lines).res,lines.length≤1048576∧(∀ k:Nat,(lines.getD k default).size≤1048576)⟩
theorem oa95 (lines:List ByteArray):(T95 (lines.map F149) lines).ok Tryz.prog 95:=by
 intro hp; have h:=ok95 lines hp; rw [as95 lines] at h; exact h
def T82 (R:List (List ByteArray)) (lines:List ByteArray) (word:ByteArray):Spec:=⟨(S82 R lines word).args,(S82 R lines word).res,lines.length≤1048576∧(∀ k:Nat,(lines.getD k default).size≤1048576)⟩
theorem oa82 (lines:List ByteArray) (word:ByteArray):(T82 (Qa lines word) lines word).ok Tryz.prog 82:=by
 intro hp; have h:=ok82 lines word hp; rw [as82 lines word] at h; exact h
def F187 (l:ByteArray):Bool :=
 (!(F188 l))
def S187 (l:ByteArray):Spec:=⟨[.r (.c (.v (.string l)))],.v (.bool (F187 l)),l.size≤1048576⟩
theorem ok187 (l:ByteArray):(S187 l).ok Tryz.prog 187 false :=
 Qg mixed (fn:=Tryz.f187) (ct:=.seq .no (.seq (.reg [(1,kh188 l)]) .no)) Tryz.func187 (fun (hpre0:l.size≤1048576)=>kc188 l (by omega) (fiB (!(F188 l)) (F187 l) rfl)) (by kernel_rfl)
theorem kc189 (line:ByteArray) {K_:Prop} (p0_:line.size≤1048576) (k_:K_):(line.size≤1048576)∧(Imp (.v (.string line)) (.v (.string line)))∧K_:=⟨p0_,Imp.refl _,k_⟩
abbrev kh189 (line:ByteArray):Hint false Tryz.prog:=.call 189 (S189 line) (ok189 line) none
def Vz (lines:List ByteArray):(Int×ML Bool)→Lp (Int×ML Bool) Int:=fun (v31,ms) =>
 bif (decide (v31<(lines.length:Int))) then (.next ((v31+1),(putM ms (F189 (lines.getD v31.toNat default)) true))) else (.done (v31,ms))
def Rg (lines:List ByteArray):Lp (ML Bool) Int :=
 (runL (Vz lines) (((lines.length:Int)-0).toNat+1) (0,([]:ML Bool))).fin Lp.ret (fun (v31,ms)=>.done ms)
def Ha (lines:List ByteArray):Int→Lp Int Int:=fun i40 =>
 bif (decide (i40<(lines.length:Int))) then (bif (!(Op.bytesLess (lines.getD (i40-1).toNat default).toList (lines.getD i40.toNat default).toList)) then (.ret 3) else (.next (i40+1))) else (.done i40)
def F161 (lines:List ByteArray):Int :=
 bif (decide ((lines.length:Int)>16)) then 1 else (bif (lines.any (fun (x0:ByteArray)=>F187 x0)) then 2 else ((runL (Ha lines) (((lines.length:Int)-1).toNat+1) 1).fin (fun r=>r) (fun i40=>(Rg lines).fin (fun r=>r) (fun keys=>bif (decide ((keys.length:Int)<(lines.length:Int))) then 4 else 0))))
abbrev Pt (lines:List ByteArray):Nat×(Int×ML Bool):=((((lines.length:Int)-0).toNat+1),(0,([]:ML Bool)))
abbrev Qjq (lines:List ByteArray) (m39:Nat) (v31:Int) (ms:ML Bool):Prop:=Int.toNat ((lines.length:Int)-v31)<m39∧(0:Int)≤v31
abbrev Qub (lines:List ByteArray):Lp (Int×ML Bool) Int:=LpX (Vz lines) (Pt lines)
abbrev Ps (lines:List ByteArray) (i:Nat×(Int×ML Bool)):Prop:=LpJ (Vz lines) (Pt lines) i (Qjq lines i.1 i.2.1 i.2.2)
abbrev Qth (lines:List ByteArray) (i:Nat×(Int×ML Bool)) (m39:Nat) (v31:Int) (ms:ML Bool):Prop:=LpH (Vz lines) (Pt lines) i m39 (v31,ms) (Qjq lines (m39+1) v31 ms)
abbrev Qrr (lines:List ByteArray) (v31:Int) (ms:ML Bool) (v31_:Int) (ms_:ML Bool) (K39:Prop):Prop:=(Rf (.int .i64 (lines.length:Int)))∧((.int .i64 v31:Value)=.int .i64 v31_)∧(Im (.l 1 eStr lines))∧(Imp (.x (MX Value.bool ms)) (.x (MX Value.bool ms_)))∧K39
theorem Uik (lines:List ByteArray) (i:Nat×(Int×ML Bool)) (h:Ps lines i):Qth lines i (i.1-1) i.2.1 i.2.2:=⟨hd1 h.1 h.2.1,hd3 h.2.1,hd2 h.2.1,h.2.2⟩
theorem Uin (lines:List ByteArray) (i:Nat×(Int×ML Bool)) (m39:Nat) (v31:Int) (ms:ML Bool) (hl:m39<i.1) (e:runL (Vz lines) m39 (v31,ms)=Qub lines) (h:Qjq lines m39 v31 ms):∃ j:Nat×(Int×ML Bool),Qrr lines v31 ms j.2.1 j.2.2 (Ps lines j∧j.1<i.1):=⟨(m39,(v31,ms)),rfl,rfl,Imp.refl _,Imp.refl _,⟨e,h⟩,hl⟩
theorem Ukt (lines:List ByteArray) (h:(0:Int)≤0):Qrr lines 0 ([]:ML Bool) 0 ([]:ML Bool) (Ps lines (Pt lines)):=⟨rfl,rfl,Imp.refl _,Imp.refl _,rfl,Nat.lt_succ_self _,h⟩
abbrev Qil (lines:List ByteArray) (j:ML Bool):Prop:=(Rg lines)=Lp.done j
theorem Uhg (lines:List ByteArray) (keys:ML Bool) (e:(Rg lines)=Lp.done keys):∃ j:ML Bool,(Imp (.l 1 eStr lines) (.l 1 eStr lines))∧(Imp (.x (MX Value.bool keys)) (.x (MX Value.bool j)))∧Qil lines j:=⟨keys,Imp.refl _,Imp.refl _,e⟩
abbrev Rd (lines:List ByteArray):Nat×Int:=((((lines.length:Int)-1).toNat+1),1)
abbrev Qke (lines:List ByteArray) (m39:Nat) (i40:Int):Prop:=Int.toNat ((lines.length:Int)-i40)<m39∧(1:Int)≤i40∧(0:Int)≤i40
abbrev Quc (lines:List ByteArray):Lp Int Int:=LpX (Ha lines) (Rd lines)
abbrev Mw (lines:List ByteArray) (i:Nat×Int):Prop:=LpJ (Ha lines) (Rd lines) i (Qke lines i.1 i.2)
abbrev Qtf (lines:List ByteArray) (i:Nat×Int) (m39:Nat) (i40:Int):Prop:=LpH (Ha lines) (Rd lines) i m39 i40 (Qke lines (m39+1) i40)
abbrev Qra (lines:List ByteArray) (i40:Int) (i40_:Int) (K39:Prop):Prop:=((.int .i64 i40:Value)=.int .i64 i40_)∧(Im (.l 1 eStr lines))∧K39
theorem Ugl (lines:List ByteArray) (i:Nat×Int) (h:Mw lines i):Qtf lines i (i.1-1) i.2:=⟨hd1 h.1 h.2.1,hd3 h.2.1,hd2 h.2.1,h.2.2⟩
theorem Uko (lines:List ByteArray) (i:Nat×Int) (m39:Nat) (i40:Int) (hl:m39<i.1) (e:runL (Ha lines) m39 i40=Quc lines) (h:Qke lines m39 i40):∃ j:Nat×Int,Qra lines i40 j.2 (Mw lines j∧j.1<i.1):=⟨(m39,i40),rfl,Imp.refl _,⟨e,h⟩,hl⟩
theorem Ukq (lines:List ByteArray) (h:(1:Int)≤1∧(0:Int)≤1):Qra lines 1 1 (Mw lines (Rd lines)):=⟨rfl,Imp.refl _,rfl,Nat.lt_succ_self _,h⟩
def S161 (lines:List ByteArray):Spec:=⟨[.r (.c (.l 1 eStr lines))],.v (vI (F161 lines)),(∀ k:Nat,(lines.getD k default).size≤1048576)⟩
theorem ok161 (lines:List ByteArray):(S161 lines).ok Tryz.prog 161 false :=
 Qg mixed (fn:=Tryz.f161) (ct:=.seqk [(0,0)] .no (.seq (.seq .no (.cond (.seq .no .no) .no)) (.seq (.seq (.reg [(1,.call 186 (S186 (lines.any (fun (x0:ByteArray)=>F187 x0)) lines (fun (x0:ByteArray)=>F187 x0) (fun (x0:ByteArray)=>x0.size≤1048576)) (Qzg lines (fun (x0:ByteArray)=>F187 x0) (fun (x0:ByteArray)=>x0.size≤1048576)) (some ⟨false,187,Yf (fun (x0:ByteArray)=>x0.size≤1048576) (fun (x0:ByteArray)=>F187 x0),[],rfl,True,fun i=>Bf (ok187 i)⟩))]) (.cond (.seq .no .no) .no)) (.seq (.seqk [(0,0)] .no (.blk (.loop (ι:=Nat×Int) (fun i=>(fun (i40:Int)=>(⟨[(0,some (.h 0 0)),(3,some (.v (vI i40)))],[(0,some (.shr none (.l 1 eStr lines)))],1⟩:St)) i.2) (Mw lines) (fun i=>i.1) (Rd lines) (fun i=>(fun (i40:Int)=>(.seq (.seq .no (.cond .no .no)) (.seq (.blk (.seq (.reg [(2,.bnd)]) (.cond (.seq .no .no) .no))) (.reg [(1,.bnd)])))) i.2)))) (.seq (.reg [(0,.mpm Value.bool)]) (.cut (ι:=ML Bool) (fun j=>(fun (keys:ML Bool)=>(⟨[(0,some (.h 0 0)),(4,some (.h 1 0))],[(0,some (.shr none (.l 1 eStr lines))),(1,some (.own 1 (.x (MX Value.bool keys))))],2⟩:St)) j) (Qil lines) (.seqk [(29,0)] .no (.blk (.loop (ι:=Nat×(Int×ML Bool)) (fun i=>(fun (v31:Int) (ms:ML Bool)=>(⟨[(0,some (.h 0 0)),(4,some (.h 1 0)),(29,some (.h 0 0)),(30,some (.v (vI (lines.length:Int)))),(31,some (.v (vI v31)))],[(0,some (.shr none (.l 1 eStr lines))),(1,some (.own 1 (.x (MX Value.bool ms))))],2⟩:St)) i.2.1 i.2.2) (Ps lines) (fun i=>i.1) (Pt lines) (fun i=>(fun (v31:Int) (ms:ML Bool)=>(.seq .no (.seq (.cond .no .no) (.seq (.blk (.seq .no (.reg [(2,kh189 (lines.getD v31.toNat default)),(3,.mpu Value.bool ms true)]))) (.reg [(0,.bnd)]))))) i.2.1 i.2.2)))) (fun j=>(fun (keys:ML Bool)=>(.seq (.seq (.reg [(1,.mpn Value.bool keys)]) (.cond (.seq .no .no) .no)) (.seq .no .no))) j))))))) Tryz.func161 (fun (hpre0:∀ k:Nat,(lines.getD k default).size≤1048576)=>kn lines fun _=>ifd ((lines.length:Int)>16) (fun h1 _=>fiI 1 (F161 lines) (condT h1 rfl)) (fun h1 _=>ai (by first | assumption | exact hpre0 _ | exact fun k _=>hpre0 k | (intros; exact trivial) | (intros; exact Nat.zero_le _):∀ k:Nat,k<lines.length→(fun (x0:ByteArray)=>x0.size≤1048576) (lines.getD k default)) (ai (Imp.refl (.l 1 eStr lines)) (ai (Eq.refl (Yf (fun (x0:ByteArray)=>x0.size≤1048576) (fun (x0:ByteArray)=>F187 x0))) (ai trivial (ifb (lines.any (fun (x0:ByteArray)=>F187 x0)) (fun h2=>fiI 2 (F161 lines) (condF h1 (condT h2 rfl))) (fun h2=>kn lines fun _=>ai (Ukq lines (by refine ⟨?_,?_⟩ <;> omega)) (fun (i0:Nat×Int) (hi0:Mw lines i0)=>(fun (m0:Nat) (i40:Int) (hh0:Qtf lines i0 m0 i40)=>have hI0:=hh0.1; have hl0:=hh0.2.1; have _:=hh0.2.2.1; have _:=hh0.2.2.2; ifd (i40<(lines.length:Int)) (fun h4 _=>ai (iok (i40-1) (by omega)) (ai (by omega:ib (i40-1) lines) (ai (by omega:ib i40 lines) (ifb (!(Op.bytesLess (lines.getD (i40-1).toNat default).toList (lines.getD i40.toNat default).toList)) (fun h5=>fiI 3 (F161 lines) (condF h1 (condF h2 (finR (Qp hI0 (condT h4 (condT h5 rfl))) rfl)))) (fun h5=>ai (iok (i40+1) (by omega)) (Uko lines i0 m0 (i40+1) hl0 (Qc hI0 (condT h4 (condF h5 rfl))) (by refine ⟨?_,?_,?_⟩ <;> omega))))))) (fun h4 _=>have hD0_6:Quc lines=Lp.done i40:=Qi hI0 (condF h4 rfl); ai (kn lines fun _=>ai (Ukt lines (by omega)) (fun (i1:Nat×(Int×ML Bool)) (hi1:Ps lines i1)=>(fun (m1:Nat) (v31:Int) (ms:ML Bool) (hh1:Qth lines i1 m1 v31 ms)=>have hI1:=hh1.1; have hl1:=hh1.2.1; have _:=hh1.2.2.1; have _:=hh1.2.2.2; ifd (v31<(lines.length:Int)) (fun h8 _=>ai (by omega:ib v31 lines) (kc189 (lines.getD v31.toNat default) (by first | omega | exact hpre0 _ | (intros; exact trivial) | (intros; exact Nat.zero_le _)) (ai (Eq.refl (MX Value.bool ms)) (ai (Eq.refl (Value.bool true)) (ai (iok (v31+1) (by omega)) (Uin lines i1 m1 (v31+1) (putM ms (F189 (lines.getD v31.toNat default)) true) hl1 (Qc hI1 (condT h8 rfl)) (by refine ⟨?_,?_⟩ <;> omega))))))) (fun h8 _=>have hD1_9:Qub lines=Lp.done (v31,ms):=Qi hI1 (condF h8 rfl); Uhg lines ms (Eq.symm (finD hD1_9 rfl)) )) (i1.1-1) i1.2.1 i1.2.2 (Uik lines i1 hi1))) (fun (j:ML Bool) (hj:Qil lines j)=>(fun (keys:ML Bool) (hJ0_10:(Rg lines)=Lp.done keys)=>ai (Eq.refl (MX Value.bool keys)) (ifd ((keys.length:Int)<(lines.length:Int)) (fun h11 _=>fiI 4 (F161 lines) (condF h1 (condF h2 (finD hD0_6 (finD hJ0_10 (condT h11 rfl)))))) (fun h11 _=>fiI 0 (F161 lines) (condF h1 (condF h2 (finD hD0_6 (finD hJ0_10 (condF h11 rfl)))))))) j hj))) (i0.1-1) i0.2 (Ugl lines i0 hi0))))))))) (by kernel_rfl)
theorem kc95a (lines:List ByteArray) {K_:Prop} (p0_:lines.length≤1048576) (p1_:∀ k:Nat,(lines.getD k default).size≤1048576) (k_:K_):(lines.length≤1048576∧(∀ k:Nat,(lines.getD k default).size≤1048576))∧(Imp (.l 1 eStr lines) (.l 1 eStr lines))∧K_:=⟨⟨p0_,p1_⟩,Imp.refl _,k_⟩
abbrev kh95a (lines:List ByteArray):Hint true Tryz.prog:=.call 95 (T95 (lines.map F149) lines) (oa95 lines) none
def Zu (lines:List ByteArray):Int→Lp Int Int:=fun i42 =>
 bif (decide (i42<(lines.length:Int))) then (bif (F96 ((lines.map F149).take i42.toNat) ((lines.map F149).getD i42.toNat default)) then (.ret 4) else (.next (i42+1))) else (.done i42)
def Jr (lines:List ByteArray):Int→Lp Int Int:=fun i41 =>
 bif (decide (i41<(lines.length:Int))) then (bif (!(Op.bytesLess (lines.getD (i41-1).toNat default).toList (lines.getD i41.toNat default).toList)) then (.ret 3) else (.next (i41+1))) else (.done i41)
def Kf (lines:List ByteArray):Int→Lp Int Int:=fun i40 =>
 bif (decide (i40<(lines.length:Int))) then (bif (((lines.map F149).getD i40.toNat default).toList==(⟨#[]⟩:ByteArray).toList) then (.ret 2) else (.next (i40+1))) else (.done i40)
def F64 (lines:List ByteArray):Int :=
 bif (decide ((lines.length:Int)>16)) then 1 else ((runL (Kf lines) (((lines.length:Int)-0).toNat+1) 0).fin (fun r=>r) (fun i40=>(runL (Jr lines) (((lines.length:Int)-1).toNat+1) 1).fin (fun r=>r) (fun i41=>(runL (Zu lines) (((lines.length:Int)-0).toNat+1) 0).fin (fun r=>r) (fun i42=>0))))
abbrev Qdr (lines:List ByteArray):Nat×Int:=((((lines.length:Int)-0).toNat+1),0)
abbrev Qot (lines:List ByteArray) (m39:Nat) (i42:Int):Prop:=Int.toNat ((lines.length:Int)-i42)<m39∧(0:Int)≤i42
abbrev Ucx (lines:List ByteArray):Lp Int Int:=LpX (Zu lines) (Qdr lines)
abbrev Qcq (lines:List ByteArray) (i:Nat×Int):Prop:=LpJ (Zu lines) (Qdr lines) i (Qot lines i.1 i.2)
abbrev Uax (lines:List ByteArray) (i:Nat×Int) (m39:Nat) (i42:Int):Prop:=LpH (Zu lines) (Qdr lines) i m39 i42 (Qot lines (m39+1) i42)
abbrev Uer (lines:List ByteArray) (i42:Int) (i42_:Int) (K39:Prop):Prop:=((.int .i64 i42:Value)=.int .i64 i42_)∧(Im (.l 1 eStr lines))∧(Im (.l 1 eStr (lines.map F149)))∧K39
theorem un64_2 (lines:List ByteArray) (i:Nat×Int) (h:Qcq lines i):Uax lines i (i.1-1) i.2:=⟨hd1 h.1 h.2.1,hd3 h.2.1,hd2 h.2.1,h.2.2⟩
theorem bk64_2 (lines:List ByteArray) (i:Nat×Int) (m39:Nat) (i42:Int) (hl:m39<i.1) (e:runL (Zu lines) m39 i42=Ucx lines) (h:Qot lines m39 i42):∃ j:Nat×Int,Uer lines i42 j.2 (Qcq lines j∧j.1<i.1):=⟨(m39,i42),rfl,Imp.refl _,Imp.refl _,⟨e,h⟩,hl⟩
theorem en64_2 (lines:List ByteArray) (h:(0:Int)≤0):Uer lines 0 0 (Qcq lines (Qdr lines)):=⟨rfl,Imp.refl _,Imp.refl _,rfl,Nat.lt_succ_self _,h⟩
abbrev Qei (lines:List ByteArray):Nat×Int:=((((lines.length:Int)-1).toNat+1),1)
abbrev Qpv (lines:List ByteArray) (m39:Nat) (i41:Int):Prop:=Int.toNat ((lines.length:Int)-i41)<m39∧(1:Int)≤i41∧(0:Int)≤i41
abbrev Qzw (lines:List ByteArray):Lp Int Int:=LpX (Jr lines) (Qei lines)
abbrev Qem (lines:List ByteArray) (i:Nat×Int):Prop:=LpJ (Jr lines) (Qei lines) i (Qpv lines i.1 i.2)
abbrev Ubm (lines:List ByteArray) (i:Nat×Int) (m39:Nat) (i41:Int):Prop:=LpH (Jr lines) (Qei lines) i m39 i41 (Qpv lines (m39+1) i41)
abbrev Qyd (lines:List ByteArray) (i41:Int) (i41_:Int) (K39:Prop):Prop:=((.int .i64 i41:Value)=.int .i64 i41_)∧(Im (.l 1 eStr lines))∧(Im (.l 1 eStr (lines.map F149)))∧K39
theorem un64_1 (lines:List ByteArray) (i:Nat×Int) (h:Qem lines i):Ubm lines i (i.1-1) i.2:=⟨hd1 h.1 h.2.1,hd3 h.2.1,hd2 h.2.1,h.2.2⟩
theorem bk64_1 (lines:List ByteArray) (i:Nat×Int) (m39:Nat) (i41:Int) (hl:m39<i.1) (e:runL (Jr lines) m39 i41=Qzw lines) (h:Qpv lines m39 i41):∃ j:Nat×Int,Qyd lines i41 j.2 (Qem lines j∧j.1<i.1):=⟨(m39,i41),rfl,Imp.refl _,Imp.refl _,⟨e,h⟩,hl⟩
theorem en64_1 (lines:List ByteArray) (h:(1:Int)≤1∧(0:Int)≤1):Qyd lines 1 1 (Qem lines (Qei lines)):=⟨rfl,Imp.refl _,Imp.refl _,rfl,Nat.lt_succ_self _,h⟩
abbrev Qbx (lines:List ByteArray):Nat×Int:=((((lines.length:Int)-0).toNat+1),0)
abbrev Qpt (lines:List ByteArray) (m39:Nat) (i40:Int):Prop:=Int.toNat ((lines.length:Int)-i40)<m39∧(0:Int)≤i40
abbrev Ubv (lines:List ByteArray):Lp Int Int:=LpX (Kf lines) (Qbx lines)
abbrev Qbm (lines:List ByteArray) (i:Nat×Int):Prop:=LpJ (Kf lines) (Qbx lines) i (Qpt lines i.1 i.2)
abbrev Udg (lines:List ByteArray) (i:Nat×Int) (m39:Nat) (i40:Int):Prop:=LpH (Kf lines) (Qbx lines) i m39 i40 (Qpt lines (m39+1) i40)
abbrev Uap (lines:List ByteArray) (i40:Int) (i40_:Int) (K39:Prop):Prop:=((.int .i64 i40:Value)=.int .i64 i40_)∧(Im (.l 1 eStr lines))∧(Im (.l 1 eStr (lines.map F149)))∧K39
theorem un64_0 (lines:List ByteArray) (i:Nat×Int) (h:Qbm lines i):Udg lines i (i.1-1) i.2:=⟨hd1 h.1 h.2.1,hd3 h.2.1,hd2 h.2.1,h.2.2⟩
theorem bk64_0 (lines:List ByteArray) (i:Nat×Int) (m39:Nat) (i40:Int) (hl:m39<i.1) (e:runL (Kf lines) m39 i40=Ubv lines) (h:Qpt lines m39 i40):∃ j:Nat×Int,Uap lines i40 j.2 (Qbm lines j∧j.1<i.1):=⟨(m39,i40),rfl,Imp.refl _,Imp.refl _,⟨e,h⟩,hl⟩
theorem en64_0 (lines:List ByteArray) (h:(0:Int)≤0):Uap lines 0 0 (Qbm lines (Qbx lines)):=⟨rfl,Imp.refl _,Imp.refl _,rfl,Nat.lt_succ_self _,h⟩
def S64 (lines:List ByteArray):Spec:=⟨[.r (.c (.l 1 eStr lines))],.v (vI (F64 lines)),(∀ k:Nat,(lines.getD k default).size≤1048576)⟩
theorem ok64 (lines:List ByteArray):(S64 lines).ok Tryz.prog 64 :=
 Qg mixed (fn:=Tryz.f64) (ct:=.seqk [(0,0)] .no (.seq (.seq .no (.cond (.seq .no .no) .no)) (.seq (.reg [(1,kh95a lines)]) (.seq (.seqk [(0,0),(3,0)] .no (.blk (.loop (ι:=Nat×Int) (fun i=>(fun (i40:Int)=>(⟨[(0,some (.h 0 0)),(3,some (.h 1 0)),(4,some (.v (vI i40)))],[(0,some (.shr none (.l 1 eStr lines))),(1,some (.own 1 (.l 1 eStr (lines.map F149))))],2⟩:St)) i.2) (Qbm lines) (fun i=>i.1) (Qbx lines) (fun i=>(fun (i40:Int)=>(.seq (.seq .no (.cond .no .no)) (.seq (.blk (.seq .no (.cond (.seq .no .no) .no))) (.reg [(1,.bnd)])))) i.2)))) (.seq (.seqk [(0,0)] .no (.blk (.loop (ι:=Nat×Int) (fun i=>(fun (i41:Int)=>(⟨[(0,some (.h 0 0)),(3,some (.h 1 0)),(5,some (.v (vI i41)))],[(0,some (.shr none (.l 1 eStr lines))),(1,some (.own 1 (.l 1 eStr (lines.map F149))))],2⟩:St)) i.2) (Qem lines) (fun i=>i.1) (Qei lines) (fun i=>(fun (i41:Int)=>(.seq (.seq .no (.cond .no .no)) (.seq (.blk (.seq (.reg [(2,.bnd)]) (.cond (.seq .no .no) .no))) (.reg [(1,.bnd)])))) i.2)))) (.seq (.seqk [(0,0),(3,0)] .no (.blk (.loop (ι:=Nat×Int) (fun i=>(fun (i42:Int)=>(⟨[(0,some (.h 0 0)),(3,some (.h 1 0)),(6,some (.v (vI i42)))],[(0,some (.shr none (.l 1 eStr lines))),(1,some (.own 1 (.l 1 eStr (lines.map F149))))],2⟩:St)) i.2) (Qcq lines) (fun i=>i.1) (Qdr lines) (fun i=>(fun (i42:Int)=>(.seq (.seq .no (.cond .no .no)) (.seq (.blk (.seq (.reg [(7,kh96 ((lines.map F149).take i42.toNat) ((lines.map F149).getD i42.toNat default))]) (.cond (.seq .no .no) .no))) (.reg [(1,.bnd)])))) i.2)))) (.seq .no .no))))))) Tryz.func64 (fun (hpre0:∀ k:Nat,(lines.getD k default).size≤1048576)=>kn lines fun _=>ifd ((lines.length:Int)>16) (fun h1 _=>fiI 1 (F64 lines) (condT h1 rfl)) (fun h1 _=>kc95a lines (by first | omega | (simp only [lens,ib] at*<;> omega)) (by first | assumption | exact hpre0 _ | exact fun k _=>hpre0 k | (intros; exact trivial) | (intros; exact Nat.zero_le _)) (kn lines fun _=>kn (lines.map F149) fun _=>ai (en64_0 lines (by first | omega | (simp only [lens,ib] at*<;> omega))) (fun (i0:Nat×Int) (hi0:Qbm lines i0)=>(fun (m0:Nat) (i40:Int) (hh0:Udg lines i0 m0 i40)=>have hI0:=hh0.1; have hl0:=hh0.2.1; have _:=hh0.2.2.1; have _:=hh0.2.2.2; ifd (i40<(lines.length:Int)) (fun h3 _=>ai (by first | omega | (simp only [lens,ib] at*<;> omega):ib i40 (lines.map F149)) (ifb (((lines.map F149).getD i40.toNat default).toList==w13_.toList) (fun h4=>fiI 2 (F64 lines) (condF h1 (finR (Qp hI0 (condT h3 (condT h4 rfl))) rfl))) (fun h4=>ai (iok (i40+1) (by first | omega | (simp only [lens,ib] at*<;> omega))) (bk64_0 lines i0 m0 (i40+1) hl0 (Qc hI0 (condT h3 (condF h4 rfl))) (by refine ⟨?_,?_⟩ <;> first | omega | (simp only [lens,ib] at*<;> omega)))))) (fun h3 _=>have hD0_5:Ubv lines=Lp.done i40:=Qi hI0 (condF h3 rfl); kn lines fun _=>ai (en64_1 lines (by refine ⟨?_,?_⟩ <;> first | omega | (simp only [lens,ib] at*<;> omega))) (fun (i1:Nat×Int) (hi1:Qem lines i1)=>(fun (m1:Nat) (i41:Int) (hh1:Ubm lines i1 m1 i41)=>have hI1:=hh1.1; have hl1:=hh1.2.1; have _:=hh1.2.2.1; have _:=hh1.2.2.2; ifd (i41<(lines.length:Int)) (fun h7 _=>ai (iok (i41-1) (by first | omega | (simp only [lens,ib] at*<;> omega))) (ai (by first | omega | (simp only [lens,ib] at*<;> omega):ib (i41-1) lines) (ai (by first | omega | (simp only [lens,ib] at*<;> omega):ib i41 lines) (ifb (!(Op.bytesLess (lines.getD (i41-1).toNat default).toList (lines.getD i41.toNat default).toList)) (fun h8=>fiI 3 (F64 lines) (condF h1 (finD hD0_5 (finR (Qp hI1 (condT h7 (condT h8 rfl))) rfl)))) (fun h8=>ai (iok (i41+1) (by first | omega | (simp only [lens,ib] at*<;> omega))) (bk64_1 lines i1 m1 (i41+1) hl1 (Qc hI1 (condT h7 (condF h8 rfl))) (by refine ⟨?_,?_,?_⟩ <;> first | omega | (simp only [lens,ib] at*<;> omega)))))))) (fun h7 _=>have hD1_9:Qzw lines=Lp.done i41:=Qi hI1 (condF h7 rfl); kn lines fun _=>kn (lines.map F149) fun _=>ai (en64_2 lines (by first | omega | (simp only [lens,ib] at*<;> omega))) (fun (i2:Nat×Int) (hi2:Qcq lines i2)=>(fun (m2:Nat) (i42:Int) (hh2:Uax lines i2 m2 i42)=>have hI2:=hh2.1; have hl2:=hh2.2.1; have _:=hh2.2.2.1; have _:=hh2.2.2.2; ifd (i42<(lines.length:Int)) (fun h11 _=>ai (by first | omega | (simp only [lens,ib] at*<;> omega):0≤(0:Int)∧(0:Int)≤i42∧i42≤((lines.map F149).length:Int)) (ai (by first | omega | (simp only [lens,ib] at*<;> omega):ib i42 (lines.map F149)) (kc96 ((lines.map F149).take i42.toNat) ((lines.map F149).getD i42.toNat default) (ifb (F96 ((lines.map F149).take i42.toNat) ((lines.map F149).getD i42.toNat default)) (fun h12=>fiI 4 (F64 lines) (condF h1 (finD hD0_5 (finD hD1_9 (finR (Qp hI2 (condT h11 (condT h12 rfl))) rfl))))) (fun h12=>ai (iok (i42+1) (by first | omega | (simp only [lens,ib] at*<;> omega))) (bk64_2 lines i2 m2 (i42+1) hl2 (Qc hI2 (condT h11 (condF h12 rfl))) (by refine ⟨?_,?_⟩ <;> first | omega | (simp only [lens,ib] at*<;> omega)))))))) (fun h11 _=>have hD2_13:Ucx lines=Lp.done i42:=Qi hI2 (condF h11 rfl); fiI 0 (F64 lines) (condF h1 (finD hD0_5 (finD hD1_9 (finD hD2_13 rfl)))))) (i2.1-1) i2.2 (un64_2 lines i2 hi2)))) (i1.1-1) i1.2 (un64_1 lines i1 hi1)))) (i0.1-1) i0.2 (un64_0 lines i0 hi0))))) (by kernel_rfl)
instance baLawful:LawfulBEq ByteArray where
 eq_of_beq h:=(Go.MapKept.bytes_beq _ _).1 h
 rfl:=(Go.MapKept.bytes_beq _ _).2 rfl
theorem Uct (l:ByteArray) (h:F182 l=false):F149 l=(⟨#[]⟩:ByteArray):=by
 unfold F149
 rw [h]; rfl
theorem Te (l:ByteArray):((F149 l).toList==(⟨#[]⟩:ByteArray).toList)=!F182 l:=by
 cases h:F182 l with
 | false=>rw [Uct l h]; rw [Qkd]; rfl
 | true =>
  rw [Qy,Qy,Qpm l h,Bool.not_true,beq_eq_false_iff_ne]
  have hk:=Hx l h
  have hl:=Gj _ hk.form
  have hn:=Ev _ hk.form
  have hno:=hk.no
  generalize (F97 l).1=w at hl hn hno
  match w,hl with
  | a :: r,_ =>
   have e:((keyN (((a :: r).getD 0 default).data.toList)).toNat)=(keyN (((a :: r).getD 0 default).data.toList)).toNat-1+1:=by omega
   rw [e,List.take_succ_cons,Ls,List.map_cons,Lib.join_cons]
   intro h0
   exact (hno a List.mem_cons_self).2.1 (List.append_eq_nil_iff.1 h0).1
def dupK:List ByteArray→List ByteArray→Bool
 | _,[]=>false
 | seen,s :: r=>decide (s∈seen) || dupK (seen++[s]) r
def insK (ks:List ByteArray) (s:ByteArray):List ByteArray:=if s∈ks then ks else ks++[s]
theorem Qsd:∀ (keys ks:List ByteArray),(keys.foldl insK ks).length≤ks.length+keys.length
 | [],ks=>by simp
 | s :: r,ks=>by
  rw [List.foldl_cons]
  have h:=Qsd r (insK ks s)
  have h2:(insK ks s).length≤ks.length+1:=by unfold insK; split <;> simp
  simp only [List.length_cons]; omega
theorem Qlf:∀ (keys ks seen:List ByteArray),(∀ s,s∈ks↔s∈seen)→decide ((keys.foldl insK ks).length<ks.length+keys.length)=dupK seen keys
 | [],ks,seen,_=>by simp [dupK]
 | s :: r,ks,seen,h=>by
  rw [List.foldl_cons,dupK]
  by_cases hs:s∈ks
  ·have e:insK ks s=ks:=by unfold insK; rw [if_pos hs]
   rw [e,decide_eq_true ((h s).1 hs),Bool.true_or]
   have:=Qsd r ks
   exact decide_eq_true (by simp only [List.length_cons]; omega)
  ·have e:insK ks s=ks++[s]:=by unfold insK; rw [if_neg hs]
   rw [e,decide_eq_false (fun x=>hs ((h s).2 x)),Bool.false_or,← Qlf r (ks++[s]) (seen++[s]) (fun t=>by simp [h t])]
   congr 1
   simp only [List.length_append,List.length_cons,List.length_nil]
   exact propext ⟨fun x=>by omega,fun x=>by omega⟩
theorem Qhb {α:Type}:∀ (m:ML α) (s:ByteArray) (x:α),(putM m s x).map (·.1)=insK (m.map (·.1)) s
 | [],s,x=>by simp [putM,insK]
 | p :: m,s,x=>by
  rw [putM]
  by_cases h:p.1=s
  ·rw [if_pos h]; subst h; simp [insK]
  ·rw [if_neg h,List.map_cons,Qhb m s x]
   unfold insK
   have h':¬ s=p.1:=fun e=>h e.symm
   by_cases hm:s∈m.map (·.1)
   ·rw [if_pos hm,List.map_cons,if_pos (List.mem_cons_of_mem _ hm)]
   ·rw [if_neg hm,List.map_cons,if_neg (by simp only [List.mem_cons,not_or]; exact ⟨h',hm⟩)]; rfl
theorem Qcw {α:Type} (f:ByteArray→ByteArray) (v:ByteArray→α):∀ (ls:List ByteArray) (m:ML α),(ls.foldl (fun m l=>putM m (f l) (v l)) m).map (·.1)=(ls.map f).foldl insK (m.map (·.1))
 | [],m=>rfl
 | l :: ls,m=>by
  rw [List.foldl_cons,Qcw f v ls,Qhb,List.map_cons,List.foldl_cons]
theorem Qaa (ws:List ByteArray) (x:ByteArray):F96 ws x=decide (x∈ws):=by
 rw [Qbq,Bool.eq_iff_iff,List.any_eq_true,decide_eq_true_eq]
 constructor
 ·rintro ⟨e,he,h⟩
  rw [Qkd,decide_eq_true_eq] at h
  exact h ▸ he
 ·exact fun h=>⟨x,h,by rw [Qkd]; exact decide_eq_true rfl⟩
theorem Qlg (keys:List ByteArray):∀ (m i:Nat),i+m=keys.length→anyF (fun k=>decide (keys.getD k default∈keys.take k)) i m=dupK (keys.take i) (keys.drop i)
 | 0,i,h=>by rw [List.drop_of_length_le (by omega)]; rfl
 | m+1,i,h=>by
  have hd:keys.drop i=keys.getD i default :: keys.drop (i+1):=by
   rw [List.drop_eq_getElem_cons (show i<keys.length by omega),List.getD_eq_getElem?_getD,List.getElem?_eq_getElem (show i<keys.length by omega)]; rfl
  rw [hd,dupK,anyF,Qlg keys m (i+1) (by omega),Ti (show i<keys.length by omega)]
theorem Qdv (f:ByteArray→ByteArray) (ls:List ByteArray) (i:Nat) (h:i<ls.length):(ls.map f).getD i default=f (ls.getD i default):=by
 rw [Wk _ (by simpa using h),Wk _ h,List.getElem_map]
theorem Qng {α:Type} {p q:α→Bool} {xs:List α} (h:∀ x,p x=q x):xs.any p=xs.any q:=by rw [show p=q from funext h]
theorem Qfw (lines:List ByteArray):F161 lines=F64 lines:=by
 unfold F161 F64
 have hkept:∀ x:ByteArray,F187 x=!F182 x:=fun x=>by unfold F187; rw [Xm]
 cases h16:decide ((lines.length:Int)>16) with
 | true=>rfl
 | false =>
 rw [cond_false,cond_false]
 have h0:=anyL lines (fun l=>!F182 l) (2:Int) (Kf lines) (fun i hi=>by
  simp only [Kf,ltD hi,cond_true,nn,Qdv _ _ _ hi,Te]
  rfl) (by simp only [Kf,geD,cond_false]) (fun r=>r) (fun _=>(runL (Jr lines) ((Int.toNat ((lines.length:Int)-1))+1) 1).fin (fun r=>r) (fun i41=>(runL (Zu lines) ((Int.toNat ((lines.length:Int)-0))+1) 0).fin (fun r=>r) (fun i42=>0))) _ (fun _=>rfl)
 rw [h0]
 have e1:(lines.any fun x0=>F187 x0)=lines.any fun l=>!F182 l:=Qng hkept
 rw [e1]
 cases (lines.any fun l=>!F182 l) with
 | true=>rfl
 | false =>
 rw [cond_false,cond_false]
 have e2:Ha lines=Jr lines:=rfl
 rw [e2]
 congr 1
 funext i
 have h2:=Yn (Zu lines) lines.length (fun k=>decide ((lines.map F149).getD k default∈(lines.map F149).take k)) (4:Int) (fun r=>r) (0:Int) (fun i hi=>by
  simp only [Zu,ltD hi,cond_true,nn,Qaa]; rfl) (by simp only [Zu,geD,cond_false]) lines.length 0 (by omega) (Int.toNat ((lines.length:Int)-0)+1) (by omega)
 rw [Qlg (lines.map F149) lines.length 0 (by simp),List.take_zero,List.drop_zero] at h2
 refine Eq.trans ?_ h2.symm
 have h3:=Yc lines (fun (m:ML Bool) l=>putM m (F149 l) true) (fun m i=>(i,m)) (Vz lines) (fun i s hi=>by
  simp only [Vz,ltD hi,cond_true,nn,Uaj]; rfl) (fun s=>by simp only [Vz,geD,cond_false]) Lp.ret (fun (v31,ms)=>Lp.done ms) ([]:ML Bool)
 have h4:Rg lines=Lp.done (lines.foldl (fun (m:ML Bool) l=>putM m (F149 l) true) []):=h3
 rw [h4]
 show (bif decide (((lines.foldl (fun (m:ML Bool) l=>putM m (F149 l) true) []).length:Int)<(lines.length:Int)) then (4:Int) else 0)=_
 have h5:=Qlf (lines.map F149) [] [] (fun s=>Iff.rfl)
 have h6:(lines.foldl (fun (m:ML Bool) l=>putM m (F149 l) true) []).length=((lines.map F149).foldl insK []).length:=by
  have:=congrArg List.length (Qcw F149 (fun _=>true) lines [])
  rw [List.length_map] at this
  exact this
 rw [← h5,h6]
 congr 1
 simp only [List.length_nil,Nat.zero_add,List.length_map]
 exact decide_eq_decide.2 (by omega)
theorem Xg (lines:List ByteArray) (h:F64 lines=0):lines.length≤16∧∀ l∈lines,F182 l=true:=by
 unfold F64 at h
 cases h16:decide ((lines.length:Int)>16) with
 | true=>rw [h16,cond_true] at h; exact absurd h (by decide)
 | false =>
 rw [h16,cond_false] at h
 have h0:=anyL lines (fun l=>!F182 l) (2:Int) (Kf lines) (fun i hi=>by
  simp only [Kf,ltD hi,cond_true,nn,Qdv _ _ _ hi,Te]
  rfl) (by simp only [Kf,geD,cond_false]) (fun r=>r) (fun _=>(runL (Jr lines) ((Int.toNat ((lines.length:Int)-1))+1) 1).fin (fun r=>r) (fun i41=>(runL (Zu lines) ((Int.toNat ((lines.length:Int)-0))+1) 0).fin (fun r=>r) (fun i42=>0))) _ (fun _=>rfl)
 rw [h0] at h
 cases ha:(lines.any fun l=>!F182 l) with
 | true=>rw [ha,cond_true] at h; exact absurd h (by decide)
 | false =>
  have h1:=of_decide_eq_false h16
  refine ⟨by omega,fun l hl=>?_⟩
  have:=List.any_eq_false.1 ha l hl
  cases hk:F182 l with
  | true=>rfl
  | false=>rw [hk] at this; exact absurd rfl this
theorem Gv (lines:List ByteArray) (h:F64 lines=0):lines.length≤16:=(Xg lines h).1
theorem Qdu (lines:List ByteArray) (word:ByteArray) (h:lines.length≤16):(Qa lines word).length≤16:=by
 unfold Qa
 have:=List.length_filter_le (fun w:List ByteArray=>(w.getD 0 default).data.toList==word.data.toList) (lines.map fun l=>Qx l (⟨#[32]⟩:ByteArray))
 rw [List.length_map] at this
 omega
theorem Li (l:ByteArray) (h:F182 l=true):Qx l (⟨#[32]⟩:ByteArray)=(F97 l).1:=(Hx l h).splits
theorem Qci {lines:List ByteArray} {word:ByteArray} {w:List ByteArray} (h:F64 lines=0) (hw:w∈Qa lines word):∃ l∈lines,Uec l w∧(w.getD 0 default).data.toList=word.data.toList:=by
 obtain ⟨h1,h2⟩:=List.mem_filter.1 hw
 obtain ⟨l,hl,rfl⟩:=List.mem_map.1 h1
 have hk:=(Xg lines h).2 l hl
 refine ⟨l,hl,?_,eq_of_beq h2⟩
 rw [Li l hk]
 exact Hx l hk
theorem Uu {lines:List ByteArray} {word:ByteArray} (h:F64 lines=0) {k:Nat} (hk:k<(Qa lines word).length):Jb ((Qa lines word).getD k default)∧(((Qa lines word).getD k default).getD 0 default).data.toList=word.data.toList:=by
 obtain ⟨l,hl,h1,h2⟩:=Qci h (Zr _ hk)
 exact ⟨h1.form,h2⟩
theorem Qlx (lines:List ByteArray) (word:ByteArray) (h:F64 lines=0) (k j:Nat):(((Qa lines word).getD k default).getD j default).size≤24:=by
 by_cases hk:k<(Qa lines word).length
 ·obtain ⟨l,hl,h1,h2⟩:=Qci h (Zr _ hk)
  by_cases hj:j<((Qa lines word).getD k default).length
  ·exact (h1.no _ (Zr _ hj)).2.2
  ·rw [Wh _ (show ((Qa lines word).getD k default).length≤j by omega)]; exact Nat.zero_le _
 ·rw [Wh _ (show (Qa lines word).length≤k by omega)]; exact Nat.zero_le _
theorem Yr (lines:List ByteArray) (word:ByteArray) (h:F64 lines=0) (k j:Nat):(((Qa lines word).getD k default).getD j default).size≤1048576:=Nat.le_trans (Qlx lines word h k j) (by decide)
theorem Ujs {w:List ByteArray} (h:Jb w) (h0:(w.getD 0 default).data.toList=[117,115,101,114]):Wz w:=by
 rcases h with h | h | h | h | h | h | h | h
 ·exact absurd (h0.symm.trans h.1) (by decide)
 ·exact h
 ·exact absurd (h0.symm.trans h.1) (by decide)
 ·exact absurd (h0.symm.trans h.1) (by decide)
 ·exact absurd (h0.symm.trans h.1) (by decide)
 ·exact absurd (h0.symm.trans h.1) (by decide)
 ·exact absurd (h0.symm.trans h.1) (by decide)
 ·exact absurd (h0.symm.trans h.1) (by decide)
theorem Uig (lines:List ByteArray) (h:F64 lines=0):∀ k:Nat,k<(Qa lines (⟨#[117,115,101,114]⟩:ByteArray)).length→Wz ((Qa lines (⟨#[117,115,101,114]⟩:ByteArray)).getD k default):=fun k hk=>Ujs (Uu h hk).1 (Uu h hk).2
theorem Qar {w:List ByteArray} (h:Jb w) (h0:(w.getD 0 default).data.toList=[112,111,114,116]):Vm w:=by
 rcases h with h | h | h | h | h | h | h | h
 ·exact absurd (h0.symm.trans h.1) (by decide)
 ·exact absurd (h0.symm.trans h.1) (by decide)
 ·exact h
 ·exact absurd (h0.symm.trans h.1) (by decide)
 ·exact absurd (h0.symm.trans h.1) (by decide)
 ·exact absurd (h0.symm.trans h.1) (by decide)
 ·exact absurd (h0.symm.trans h.1) (by decide)
 ·exact absurd (h0.symm.trans h.1) (by decide)
theorem Ugb (lines:List ByteArray) (h:F64 lines=0):∀ k:Nat,k<(Qa lines (⟨#[112,111,114,116]⟩:ByteArray)).length→Vm ((Qa lines (⟨#[112,111,114,116]⟩:ByteArray)).getD k default):=fun k hk=>Qar (Uu h hk).1 (Uu h hk).2
theorem Uls {w:List ByteArray} (h:Jb w) (h0:(w.getD 0 default).data.toList=[114,117,108,101]):Yi w:=by
 rcases h with h | h | h | h | h | h | h | h
 ·exact absurd (h0.symm.trans h.1) (by decide)
 ·exact absurd (h0.symm.trans h.1) (by decide)
 ·exact absurd (h0.symm.trans h.1) (by decide)
 ·exact h
 ·exact absurd (h0.symm.trans h.1) (by decide)
 ·exact absurd (h0.symm.trans h.1) (by decide)
 ·exact absurd (h0.symm.trans h.1) (by decide)
 ·exact absurd (h0.symm.trans h.1) (by decide)
theorem Qju (lines:List ByteArray) (h:F64 lines=0):∀ k:Nat,k<(Qa lines (⟨#[114,117,108,101]⟩:ByteArray)).length→Yi ((Qa lines (⟨#[114,117,108,101]⟩:ByteArray)).getD k default):=fun k hk=>Uls (Uu h hk).1 (Uu h hk).2
theorem Qzs {w:List ByteArray} (h:Jb w) (h0:(w.getD 0 default).data.toList=[114,111,117,116,101]):Xa w:=by
 rcases h with h | h | h | h | h | h | h | h
 ·exact absurd (h0.symm.trans h.1) (by decide)
 ·exact absurd (h0.symm.trans h.1) (by decide)
 ·exact absurd (h0.symm.trans h.1) (by decide)
 ·exact absurd (h0.symm.trans h.1) (by decide)
 ·exact h
 ·exact absurd (h0.symm.trans h.1) (by decide)
 ·exact absurd (h0.symm.trans h.1) (by decide)
 ·exact absurd (h0.symm.trans h.1) (by decide)
theorem Udl (lines:List ByteArray) (h:F64 lines=0):∀ k:Nat,k<(Qa lines (⟨#[114,111,117,116,101]⟩:ByteArray)).length→Xa ((Qa lines (⟨#[114,111,117,116,101]⟩:ByteArray)).getD k default):=fun k hk=>Qzs (Uu h hk).1 (Uu h hk).2
theorem Ujw {w:List ByteArray} (h:Jb w) (h0:(w.getD 0 default).data.toList=[112,101,101,114]):Rt w:=by
 rcases h with h | h | h | h | h | h | h | h
 ·exact absurd (h0.symm.trans h.1) (by decide)
 ·exact absurd (h0.symm.trans h.1) (by decide)
 ·exact absurd (h0.symm.trans h.1) (by decide)
 ·exact absurd (h0.symm.trans h.1) (by decide)
 ·exact absurd (h0.symm.trans h.1) (by decide)
 ·exact h
 ·exact absurd (h0.symm.trans h.1) (by decide)
 ·exact absurd (h0.symm.trans h.1) (by decide)
theorem Ugo (lines:List ByteArray) (h:F64 lines=0):∀ k:Nat,k<(Qa lines (⟨#[112,101,101,114]⟩:ByteArray)).length→Rt ((Qa lines (⟨#[112,101,101,114]⟩:ByteArray)).getD k default):=fun k hk=>Ujw (Uu h hk).1 (Uu h hk).2
theorem Uas {w:List ByteArray} (h:Jb w) (h0:(w.getD 0 default).data.toList=[110,97,116]):natP w:=by
 rcases h with h | h | h | h | h | h | h | h
 ·exact absurd (h0.symm.trans h.1) (by decide)
 ·exact absurd (h0.symm.trans h.1) (by decide)
 ·exact absurd (h0.symm.trans h.1) (by decide)
 ·exact absurd (h0.symm.trans h.1) (by decide)
 ·exact absurd (h0.symm.trans h.1) (by decide)
 ·exact absurd (h0.symm.trans h.1) (by decide)
 ·exact h
 ·exact absurd (h0.symm.trans h.1) (by decide)
theorem Qjp (lines:List ByteArray) (h:F64 lines=0):∀ k:Nat,k<(Qa lines (⟨#[110,97,116]⟩:ByteArray)).length→natP ((Qa lines (⟨#[110,97,116]⟩:ByteArray)).getD k default):=fun k hk=>Uas (Uu h hk).1 (Uu h hk).2
theorem Ukr {w:List ByteArray} (h:Jb w) (h0:(w.getD 0 default).data.toList=[100,111,111,114]):Wr w:=by
 rcases h with h | h | h | h | h | h | h | h
 ·exact absurd (h0.symm.trans h.1) (by decide)
 ·exact absurd (h0.symm.trans h.1) (by decide)
 ·exact absurd (h0.symm.trans h.1) (by decide)
 ·exact absurd (h0.symm.trans h.1) (by decide)
 ·exact absurd (h0.symm.trans h.1) (by decide)
 ·exact absurd (h0.symm.trans h.1) (by decide)
 ·exact absurd (h0.symm.trans h.1) (by decide)
 ·exact h
theorem Hf (lines:List ByteArray) (h:F64 lines=0):∀ k:Nat,k<(Qa lines (⟨#[100,111,111,114]⟩:ByteArray)).length→Wr ((Qa lines (⟨#[100,111,111,114]⟩:ByteArray)).getD k default):=fun k hk=>Ukr (Uu h hk).1 (Uu h hk).2
theorem Hy (lines:List ByteArray) (word:ByteArray) {K_:Prop} (p0_:lines.length≤1048576) (p1_:∀ k:Nat,(lines.getD k default).size≤1048576) (q0_:lines.length≤16) (k_:((Qa lines word).length≤16)→K_):(lines.length≤1048576∧(∀ k:Nat,(lines.getD k default).size≤1048576))∧(Imp (.l 1 eStr lines) (.l 1 eStr lines))∧(Imp (.v (.string word)) (.v (.string word)))∧K_:=⟨⟨p0_,p1_⟩,Imp.refl _,Imp.refl _,k_ (Qdu lines word q0_)⟩
abbrev kh82a (lines:List ByteArray) (word:ByteArray):Hint true Tryz.prog:=.call 82 (T82 (Qa lines word) lines word) (oa82 lines word) none
abbrev Xw (lines:List ByteArray) (word:ByteArray):Hint false Tryz.prog:=.call 82 (T82 (Qa lines word) lines word) ((oa82 lines word).to false) none
def Vl (lines:List ByteArray):(List NetPrefix×Int)→Lp (List NetPrefix×Int) (List NetPrefix):=fun (out,v12) =>
 bif (decide (v12<((Qa lines (⟨#[112,111,114,116]⟩:ByteArray)).length:Int))) then (.next ((out++[(⟨(F83 (((Qa lines (⟨#[112,111,114,116]⟩:ByteArray)).getD (Int.toNat v12) default).getD (Int.toNat 2) default)).1.Addr,(F83 (((Qa lines (⟨#[112,111,114,116]⟩:ByteArray)).getD (Int.toNat v12) default).getD (Int.toNat 2) default)).1.Len⟩:NetPrefix)]),(v12+1))) else (.done (out,v12))
def F194 (lines:List ByteArray):List NetPrefix :=
 (runL (Vl lines) ((Int.toNat (((Qa lines (⟨#[112,111,114,116]⟩:ByteArray)).length:Int)-0))+1) (([]:List NetPrefix),0)).fin (fun r=>r) (fun (out,v12)=>out)
abbrev Ny (lines:List ByteArray):Nat×(List NetPrefix×Int):=(((Int.toNat (((Qa lines (⟨#[112,111,114,116]⟩:ByteArray)).length:Int)-0))+1),(([]:List NetPrefix),0))
abbrev Qid (lines:List ByteArray) (m39:Nat) (out:List NetPrefix) (v12:Int):Prop:=Int.toNat (((Qa lines (⟨#[112,111,114,116]⟩:ByteArray)).length:Int)-v12)<m39∧(out.length:Int)≤v12∧(0:Int)≤v12
abbrev Qvq (lines:List ByteArray):Lp (List NetPrefix×Int) (List NetPrefix):=LpX (Vl lines) (Ny lines)
abbrev Nl (lines:List ByteArray) (i:Nat×(List NetPrefix×Int)):Prop:=LpJ (Vl lines) (Ny lines) i (Qid lines i.1 i.2.1 i.2.2)
abbrev Qun (lines:List ByteArray) (i:Nat×(List NetPrefix×Int)) (m39:Nat) (out:List NetPrefix) (v12:Int):Prop:=LpH (Vl lines) (Ny lines) i m39 (out,v12) (Qid lines (m39+1) out v12)
abbrev Qvf (lines:List ByteArray) (out:List NetPrefix) (v12:Int) (out_:List NetPrefix) (v12_:Int) (K39:Prop):Prop:=(Rf (.int .i64 ((Qa lines (⟨#[112,111,114,116]⟩:ByteArray)).length:Int)))∧((.int .i64 v12:Value)=.int .i64 v12_)∧(Imp (.l 2 Qe out) (.l 2 Qe out_))∧(Im (.l 1 (eL 1 eStr) (Qa lines (⟨#[112,111,114,116]⟩:ByteArray))))∧K39
theorem Ufz (lines:List ByteArray) (i:Nat×(List NetPrefix×Int)) (h:Nl lines i):Qun lines i (i.1-1) i.2.1 i.2.2:=⟨hd1 h.1 h.2.1,hd3 h.2.1,hd2 h.2.1,h.2.2⟩
theorem Ugm (lines:List ByteArray) (i:Nat×(List NetPrefix×Int)) (m39:Nat) (out:List NetPrefix) (v12:Int) (hl:m39<i.1) (e:runL (Vl lines) m39 (out,v12)=Qvq lines) (h:Qid lines m39 out v12):∃ j:Nat×(List NetPrefix×Int),Qvf lines out v12 j.2.1 j.2.2 (Nl lines j∧j.1<i.1):=⟨(m39,(out,v12)),rfl,rfl,Imp.refl _,Imp.refl _,⟨e,h⟩,hl⟩
theorem Ukc (lines:List ByteArray) (h:(([]:List NetPrefix).length:Int)≤0∧(0:Int)≤0):Qvf lines ([]:List NetPrefix) 0 ([]:List NetPrefix) 0 (Nl lines (Ny lines)):=⟨rfl,rfl,Imp.refl _,Imp.refl _,rfl,Nat.lt_succ_self _,h⟩
theorem fi194 (lines:List ByteArray) (r:List NetPrefix) (hF:r=(F194 lines)):(Imp (.l 2 Qe r) (.l 2 Qe (F194 lines)))∧True:=by cases hF; exact ⟨Imp.refl _,trivial⟩
def S194 (R:List NetPrefix) (lines:List ByteArray):Spec:=⟨[.r (.c (.l 1 eStr lines))],.ow (.l 2 Qe R),F64 lines=0∧lines.length≤16∧(∀ k:Nat,(lines.getD k default).size≤1048576)⟩
theorem ok194 (lines:List ByteArray):(S194 (F194 lines) lines).ok Tryz.prog 194 false :=
 Qg mixed (fn:=Tryz.f194) (ct:=.seqk [(0,0)] .no (.seq (.reg [(0,.dat (.l 2 Qe ([]:List NetPrefix)))]) (.seq (.seqk [(3,0),(10,0)] (.reg [(1,Xw lines (⟨#[112,111,114,116]⟩:ByteArray))]) (.blk (.loop (ι:=Nat×(List NetPrefix×Int)) (fun i=>(fun (out:List NetPrefix) (v12:Int)=>(⟨[(3,some (.h 0 0)),(10,some (.h 1 0)),(11,some (.v (vI ((Qa lines (⟨#[112,111,114,116]⟩:ByteArray)).length:Int)))),(12,some (.v (vI v12)))],[(0,some (.own 0 (.l 2 Qe out))),(1,some (.own 1 (.l 1 (eL 1 eStr) (Qa lines (⟨#[112,111,114,116]⟩:ByteArray)))))],2⟩:St)) i.2.1 i.2.2) (Nl lines) (fun i=>i.1) (Ny lines) (fun i=>(fun (out:List NetPrefix) (v12:Int)=>(.seq .no (.seq (.cond .no .no) (.seq (.blk (.seq .no (.seq (.reg [(3,kh83 (((Qa lines (⟨#[112,111,114,116]⟩:ByteArray)).getD (Int.toNat v12) default).getD (Int.toNat 2) default))]) (.reg [(3,.dat (.l 2 Qe (out++[(⟨(F83 (((Qa lines (⟨#[112,111,114,116]⟩:ByteArray)).getD (Int.toNat v12) default).getD (Int.toNat 2) default)).1.Addr,(F83 (((Qa lines (⟨#[112,111,114,116]⟩:ByteArray)).getD (Int.toNat v12) default).getD (Int.toNat 2) default)).1.Len⟩:NetPrefix)])))])))) (.reg [(0,.bnd)]))))) i.2.1 i.2.2)))) (.seq .no .no)))) Tryz.func194 (fun (hp:F64 lines=0∧lines.length≤16∧(∀ k:Nat,(lines.getD k default).size≤1048576))=>have hpre0:=hp.1; have hpre1:=hp.2.1; have hpre2:=hp.2.2; kn lines fun _=>ai (bokr 2 Qe ([]:List NetPrefix) fun _=>rfl) (Hy lines (⟨#[112,111,114,116]⟩:ByteArray) (by omega) (by assumption) (by omega) (fun gv1=>kn ([]:List NetPrefix) fun _=>kn (Qa lines (⟨#[112,111,114,116]⟩:ByteArray)) fun _=>ai (Ukc lines (by refine ⟨?_,?_⟩ <;> (simp only [lens,ib] at*<;> omega))) (fun (i0:Nat×(List NetPrefix×Int)) (hi0:Nl lines i0)=>(fun (m0:Nat) (out:List NetPrefix) (v12:Int) (hh0:Qun lines i0 m0 out v12)=>have hI0:=hh0.1; have hl0:=hh0.2.1; have _:=hh0.2.2.1; have _:=hh0.2.2.2; ifd (v12<((Qa lines (⟨#[112,111,114,116]⟩:ByteArray)).length:Int)) (fun h3 _=>ai (by (omega):0≤v12∧v12<((Qa lines (⟨#[112,111,114,116]⟩:ByteArray)).length:Int)) (ai (by (have h9:=Ugb lines (by omega) (Int.toNat v12) (by omega); unfold Vm at h9; omega):0≤(2:Int)∧(2:Int)<(((Qa lines (⟨#[112,111,114,116]⟩:ByteArray)).getD (Int.toNat v12) default).length:Int)) (kc83 (((Qa lines (⟨#[112,111,114,116]⟩:ByteArray)).getD (Int.toNat v12) default).getD (Int.toNat 2) default) (by exact Yr lines _ (by omega) _ _) (ai (appr 2 Qe out [(⟨(F83 (((Qa lines (⟨#[112,111,114,116]⟩:ByteArray)).getD (Int.toNat v12) default).getD (Int.toNat 2) default)).1.Addr,(F83 (((Qa lines (⟨#[112,111,114,116]⟩:ByteArray)).getD (Int.toNat v12) default).getD (Int.toNat 2) default)).1.Len⟩:NetPrefix)] fun _=>rfl) (ai (by (try simp only [lens]); omega:(out++[(⟨(F83 (((Qa lines (⟨#[112,111,114,116]⟩:ByteArray)).getD (Int.toNat v12) default).getD (Int.toNat 2) default)).1.Addr,(F83 (((Qa lines (⟨#[112,111,114,116]⟩:ByteArray)).getD (Int.toNat v12) default).getD (Int.toNat 2) default)).1.Len⟩:NetPrefix)]).length*16≤140737488355328) (ai (iok (v12+1) (by omega)) (Ugm lines i0 m0 (out++[(⟨(F83 (((Qa lines (⟨#[112,111,114,116]⟩:ByteArray)).getD (Int.toNat v12) default).getD (Int.toNat 2) default)).1.Addr,(F83 (((Qa lines (⟨#[112,111,114,116]⟩:ByteArray)).getD (Int.toNat v12) default).getD (Int.toNat 2) default)).1.Len⟩:NetPrefix)]) (v12+1) hl0 (Qc hI0 (condT h3 rfl)) (by refine ⟨?_,?_,?_⟩ <;> (simp only [lens,ib] at*<;> omega))))))))) (fun h3 _=>have hD0_4:Qvq lines=Lp.done (out,v12):=Qi hI0 (condF h3 rfl); fi194 lines out (finD hD0_4 rfl))) (i0.1-1) i0.2.1 i0.2.2 (Ufz lines i0 hi0))))) (by kernel_rfl)
def F191 (w1:List ByteArray):Bool :=
 ((w1.getD (Int.toNat 2) default).toList==(⟨#[97,108,108]⟩:ByteArray).toList)
def S191 (w1:List ByteArray):Spec:=⟨[.r (.c (.l 1 eStr w1))],.v (.bool (F191 w1)),Wz w1⟩
theorem ok191 (w1:List ByteArray):(S191 w1).ok Tryz.prog 191 :=
 Qg mixed (fn:=Tryz.f191) (ct:=.seqk [(0,0)] .no (.seq .no .no)) Tryz.func191 (fun (hpre0:Wz w1)=>kn w1 fun _=>ai (by (have h9:=hpre0; unfold Wz at h9; omega):0≤(2:Int)∧(2:Int)<(w1.length:Int)) (fiB ((w1.getD (Int.toNat 2) default).toList==(⟨#[97,108,108]⟩:ByteArray).toList) (F191 w1) rfl)) (by kernel_rfl)
def Wy (Q:(List ByteArray)→Prop) (p:(List ByteArray)→Bool):Uv:=⟨List ByteArray,fun i=>[.c (.x (PX (.l 1 eStr i) (Q i)))],fun i=>.bool (p i)⟩
def Tx (s:List (List ByteArray)) (f:(List ByteArray)→Bool):Int→Lp Int Int:=fun v8 =>
 bif (decide (v8<(s.length:Int))) then (bif (f (s.getD (Int.toNat v8) default)) then (.ret v8) else (.next (v8+1))) else (.done v8)
def F92 (s:List (List ByteArray)) (f:(List ByteArray)→Bool):Int :=
 (runL (Tx s f) ((Int.toNat ((s.length:Int)-0))+1) 0).fin (fun r=>r) (fun v8=>(-1))
abbrev Qdc (s:List (List ByteArray)):Nat×Int:=(((Int.toNat ((s.length:Int)-0))+1),0)
abbrev Qnq (s:List (List ByteArray)) (m39:Nat) (v8:Int):Prop:=Int.toNat ((s.length:Int)-v8)<m39∧(0:Int)≤v8
abbrev Qyi (s:List (List ByteArray)) (f:(List ByteArray)→Bool):Lp Int Int:=LpX (Tx s f) (Qdc s)
abbrev Qeb (s:List (List ByteArray)) (f:(List ByteArray)→Bool) (i:Nat×Int):Prop:=LpJ (Tx s f) (Qdc s) i (Qnq s i.1 i.2)
abbrev Uex (s:List (List ByteArray)) (f:(List ByteArray)→Bool) (i:Nat×Int) (m39:Nat) (v8:Int):Prop:=LpH (Tx s f) (Qdc s) i m39 v8 (Qnq s (m39+1) v8)
abbrev Uby (Qf:(List ByteArray)→Prop) (s:List (List ByteArray)) (f:(List ByteArray)→Bool) (v8:Int) (v8_:Int) (K39:Prop):Prop:=(Rf (.int .i64 (s.length:Int)))∧((.int .i64 v8:Value)=.int .i64 v8_)∧(Im (.l 1 (eL 1 eStr) s))∧(Wy Qf f=Wy Qf f)∧K39
theorem un92_0 (s:List (List ByteArray)) (f:(List ByteArray)→Bool) (i:Nat×Int) (h:Qeb s f i):Uex s f i (i.1-1) i.2:=⟨hd1 h.1 h.2.1,hd3 h.2.1,hd2 h.2.1,h.2.2⟩
theorem bk92_0 (Qf:(List ByteArray)→Prop) (s:List (List ByteArray)) (f:(List ByteArray)→Bool) (i:Nat×Int) (m39:Nat) (v8:Int) (hl:m39<i.1) (e:runL (Tx s f) m39 v8=Qyi s f) (h:Qnq s m39 v8):∃ j:Nat×Int,Uby Qf s f v8 j.2 (Qeb s f j∧j.1<i.1):=⟨(m39,v8),rfl,rfl,Imp.refl _,rfl,⟨e,h⟩,hl⟩
theorem en92_0 (Qf:(List ByteArray)→Prop) (s:List (List ByteArray)) (f:(List ByteArray)→Bool) (h:(0:Int)≤0):Uby Qf s f 0 0 (Qeb s f (Qdc s)):=⟨rfl,rfl,Imp.refl _,rfl,rfl,Nat.lt_succ_self _,h⟩
def S92 (R:Int) (s:List (List ByteArray)) (f:(List ByteArray)→Bool) (Qf:(List ByteArray)→Prop):Spec:=⟨[.r (.c (.l 1 (eL 1 eStr) s)),.fn (Wy Qf f)],.v (vI R),(∀ k:Nat,k<s.length→Qf (s.getD k default))⟩
theorem ok92 (s:List (List ByteArray)) (f:(List ByteArray)→Bool) (Qf:(List ByteArray)→Prop):(S92 (F92 s f) s f Qf).ok Tryz.prog 92 false :=
 Qg mixed (fn:=Tryz.f92) (ct:=.seqk [(0,0)] .no (.seq (.seqk [(0,0)] .no (.blk (.loop (ι:=Nat×Int) (fun i=>(fun (v8:Int)=>(⟨[(0,some (.h 0 0)),(1,some (.h 1 0)),(7,some (.v (vI (s.length:Int)))),(8,some (.v (vI v8)))],[(0,some (.shr none (.l 1 (eL 1 eStr) s))),(1,some (.fn (Wy Qf f)))],2⟩:St)) i.2) (Qeb s f) (fun i=>i.1) (Qdc s) (fun i=>(fun (v8:Int)=>(.seq .no (.seq (.cond .no .no) (.seq (.blk (.seq .no (.seq (.reg [(5,.fnv (Wy Qf f) (s.getD (Int.toNat v8) default))]) (.cond (.seq .no .no) .no)))) (.reg [(0,.bnd)]))))) i.2)))) (.seq .no .no))) Tryz.func92 (fun (hpre0:∀ k:Nat,k<s.length→Qf (s.getD k default))=>kn s fun _=>kn s fun _=>ai (en92_0 Qf s f (by omega)) (fun (i0:Nat×Int) (hi0:Qeb s f i0)=>(fun (m0:Nat) (v8:Int) (hh0:Uex s f i0 m0 v8)=>have hI0:=hh0.1; have hl0:=hh0.2.1; have _:=hh0.2.2.1; have _:=hh0.2.2.2; ifd (v8<(s.length:Int)) (fun h2 _=>ai (by omega:ib v8 s) (ai (Eq.refl (Wy Qf f)) (ai (Imp.px (d:=.l 1 eStr (s.getD (Int.toNat v8) default)) (hpre0 (Int.toNat v8) (by omega))) (ifb (f (s.getD (Int.toNat v8) default)) (fun h3=>fiI v8 (F92 s f) (finR (Qp hI0 (condT h2 (condT h3 rfl))) rfl)) (fun h3=>ai (iok (v8+1) (by omega)) (bk92_0 Qf s f i0 m0 (v8+1) hl0 (Qc hI0 (condT h2 (condF h3 rfl))) (by refine ⟨?_,?_⟩ <;> omega))))))) (fun h2 _=>have hD0_4:Qyi s f=Lp.done v8:=Qi hI0 (condF h2 rfl); fiI (-1) (F92 s f) (finD hD0_4 rfl))) (i0.1-1) i0.2 (un92_0 s f i0 hi0))) (by kernel_rfl)
theorem as92 (s:List (List ByteArray)) (f:(List ByteArray)→Bool):F92 s f=(idxI f s):=by
 exact Jn f s (Tx s f) (fun i=>rfl)
theorem oa92 (s:List (List ByteArray)) (f:(List ByteArray)→Bool) (Qf:(List ByteArray)→Prop):(S92 (idxI f s) s f Qf).ok Tryz.prog 92 false:=by
 intro hp; have h:=ok92 s f Qf hp; rw [as92 s f] at h; exact h
theorem g92_0 (s:List (List ByteArray)) (f:(List ByteArray)→Bool):(idxI f s)<(s.length:Int):=by
 exact Hi f s
theorem g92_1 (s:List (List ByteArray)) (f:(List ByteArray)→Bool):-1≤(idxI f s):=by
 (show -1≤idxI f s; unfold idxI; cases first (fun k=>f (s.getD k default)) s.length <;> simp only [oix] <;> omega)
theorem kc92a (s:List (List ByteArray)) (f:(List ByteArray)→Bool) (Qf:(List ByteArray)→Prop) {K_:Prop} (p0_:∀ k:Nat,k<s.length→Qf (s.getD k default)) (k_:((idxI f s)<(s.length:Int))→(-1≤(idxI f s))→K_):(∀ k:Nat,k<s.length→Qf (s.getD k default))∧(Imp (.l 1 (eL 1 eStr) s) (.l 1 (eL 1 eStr) s))∧(Wy Qf f=Wy Qf f)∧K_:=⟨p0_,Imp.refl _,rfl,k_ (g92_0 s f) (g92_1 s f)⟩
abbrev kh92a (s:List (List ByteArray)) (f:(List ByteArray)→Bool) (Qf:(List ByteArray)→Prop):Hint false Tryz.prog:=.call 92 (S92 (idxI f s) s f Qf) (oa92 s f Qf) none
def F190 (s:List (List ByteArray)) (f:(List ByteArray)→Bool):Bool :=
 decide ((idxI f s)≥0)
def S190 (R:Bool) (s:List (List ByteArray)) (f:(List ByteArray)→Bool) (Qf:(List ByteArray)→Prop):Spec:=⟨[.r (.c (.l 1 (eL 1 eStr) s)),.fn (Wy Qf f)],.v (.bool R),(∀ k:Nat,k<s.length→Qf (s.getD k default))⟩
theorem ok190 (s:List (List ByteArray)) (f:(List ByteArray)→Bool) (Qf:(List ByteArray)→Prop):(S190 (F190 s f) s f Qf).ok Tryz.prog 190 false :=
 Qg mixed (fn:=Tryz.f190) (ct:=.seqk [(0,0)] .no (.seq (.reg [(2,kh92a s f Qf)]) .no)) Tryz.func190 (fun (hpre0:∀ k:Nat,k<s.length→Qf (s.getD k default))=>kn s fun _=>kc92a s f Qf (by assumption) (fun gv1 gv2=>fiB (decide ((idxI f s)≥0)) (F190 s f) rfl)) (by kernel_rfl)
theorem as190 (s:List (List ByteArray)) (f:(List ByteArray)→Bool):F190 s f=(s.any f):=by
 exact Qas f s
theorem oa190 (s:List (List ByteArray)) (f:(List ByteArray)→Bool) (Qf:(List ByteArray)→Prop):(S190 (s.any f) s f Qf).ok Tryz.prog 190 false:=by
 intro hp; have h:=ok190 s f Qf hp; rw [as190 s f] at h; exact h
def F162 (lines:List ByteArray):Bool :=
 (!((Qa lines (⟨#[117,115,101,114]⟩:ByteArray)).any (fun (x0:List ByteArray)=>F191 x0)))
def S162 (lines:List ByteArray):Spec:=⟨[.r (.c (.l 1 eStr lines))],.v (.bool (F162 lines)),F64 lines=0∧lines.length≤16∧(∀ k:Nat,(lines.getD k default).size≤1048576)⟩
theorem ok162 (lines:List ByteArray):(S162 lines).ok Tryz.prog 162 false :=
 Qg mixed (fn:=Tryz.f162) (ct:=.seqk [(0,0)] .no (.seq (.reg [(1,Xw lines (⟨#[117,115,101,114]⟩:ByteArray)),(2,.call 190 (S190 ((Qa lines (⟨#[117,115,101,114]⟩:ByteArray)).any (fun (x0:List ByteArray)=>F191 x0)) (Qa lines (⟨#[117,115,101,114]⟩:ByteArray)) (fun (x0:List ByteArray)=>F191 x0) (fun (x0:List ByteArray)=>Wz x0)) (oa190 (Qa lines (⟨#[117,115,101,114]⟩:ByteArray)) (fun (x0:List ByteArray)=>F191 x0) (fun (x0:List ByteArray)=>Wz x0)) (some ⟨true,191,Wy (fun (x0:List ByteArray)=>Wz x0) (fun (x0:List ByteArray)=>F191 x0),[],rfl,True,fun i=>Bf (ok191 i)⟩))]) .no)) Tryz.func162 (fun (hp:F64 lines=0∧lines.length≤16∧(∀ k:Nat,(lines.getD k default).size≤1048576))=>have hpre0:=hp.1; have hpre1:=hp.2.1; have hpre2:=hp.2.2; kn lines fun _=>Hy lines (⟨#[117,115,101,114]⟩:ByteArray) (by omega) (by assumption) (by omega) (fun gv1=>ai (by exact Uig lines (by omega):∀ k:Nat,k<(Qa lines (⟨#[117,115,101,114]⟩:ByteArray)).length→(fun (x0:List ByteArray)=>Wz x0) ((Qa lines (⟨#[117,115,101,114]⟩:ByteArray)).getD k default)) (ai (Imp.refl (.l 1 (eL 1 eStr) (Qa lines (⟨#[117,115,101,114]⟩:ByteArray)))) (ai (Eq.refl (Wy (fun (x0:List ByteArray)=>Wz x0) (fun (x0:List ByteArray)=>F191 x0))) (ai trivial (fiB (!((Qa lines (⟨#[117,115,101,114]⟩:ByteArray)).any (fun (x0:List ByteArray)=>F191 x0))) (F162 lines) rfl)))))) (by kernel_rfl)
def Vy (lines:List ByteArray) (name:ByteArray):(Int×Int)→Lp (Int×Int) Int:=fun (n,v11) =>
 bif (decide (v11<((Qa lines (⟨#[114,117,108,101]⟩:ByteArray)).length:Int))) then (bif ((((Qa lines (⟨#[114,117,108,101]⟩:ByteArray)).getD (Int.toNat v11) default).getD (Int.toNat 1) default).toList==name.toList) then (.next ((n+1),(v11+1))) else (.next (n,(v11+1)))) else (.done (n,v11))
def F192 (lines:List ByteArray) (name:ByteArray):Int :=
 (runL (Vy lines name) ((Int.toNat (((Qa lines (⟨#[114,117,108,101]⟩:ByteArray)).length:Int)-0))+1) (0,0)).fin (fun r=>r) (fun (n,v11)=>n)
abbrev Nc (lines:List ByteArray):Nat×(Int×Int):=(((Int.toNat (((Qa lines (⟨#[114,117,108,101]⟩:ByteArray)).length:Int)-0))+1),(0,0))
abbrev Qik (lines:List ByteArray) (m39:Nat) (n:Int) (v11:Int):Prop:=Int.toNat (((Qa lines (⟨#[114,117,108,101]⟩:ByteArray)).length:Int)-v11)<m39∧(0:Int)≤n∧(n:Int)≤v11∧(0:Int)≤n∧(0:Int)≤v11
abbrev Quv (lines:List ByteArray) (name:ByteArray):Lp (Int×Int) Int:=LpX (Vy lines name) (Nc lines)
abbrev Mt (lines:List ByteArray) (name:ByteArray) (i:Nat×(Int×Int)):Prop:=LpJ (Vy lines name) (Nc lines) i (Qik lines i.1 i.2.1 i.2.2)
abbrev Qss (lines:List ByteArray) (name:ByteArray) (i:Nat×(Int×Int)) (m39:Nat) (n:Int) (v11:Int):Prop:=LpH (Vy lines name) (Nc lines) i m39 (n,v11) (Qik lines (m39+1) n v11)
abbrev Quz (lines:List ByteArray) (name:ByteArray) (n:Int) (v11:Int) (n_:Int) (v11_:Int) (K39:Prop):Prop:=(Rf (.string name))∧((.int .i64 n:Value)=.int .i64 n_)∧(Rf (.int .i64 ((Qa lines (⟨#[114,117,108,101]⟩:ByteArray)).length:Int)))∧((.int .i64 v11:Value)=.int .i64 v11_)∧(Im (.l 1 (eL 1 eStr) (Qa lines (⟨#[114,117,108,101]⟩:ByteArray))))∧K39
theorem Uje (lines:List ByteArray) (name:ByteArray) (i:Nat×(Int×Int)) (h:Mt lines name i):Qss lines name i (i.1-1) i.2.1 i.2.2:=⟨hd1 h.1 h.2.1,hd3 h.2.1,hd2 h.2.1,h.2.2⟩
theorem Qui (lines:List ByteArray) (name:ByteArray) (i:Nat×(Int×Int)) (m39:Nat) (n:Int) (v11:Int) (hl:m39<i.1) (e:runL (Vy lines name) m39 (n,v11)=Quv lines name) (h:Qik lines m39 n v11):∃ j:Nat×(Int×Int),Quz lines name n v11 j.2.1 j.2.2 (Mt lines name j∧j.1<i.1):=⟨(m39,(n,v11)),rfl,rfl,rfl,rfl,Imp.refl _,⟨e,h⟩,hl⟩
theorem Ukn (lines:List ByteArray) (name:ByteArray) (h:(0:Int)≤0∧(0:Int)≤0∧(0:Int)≤0∧(0:Int)≤0):Quz lines name 0 0 0 0 (Mt lines name (Nc lines)):=⟨rfl,rfl,rfl,rfl,Imp.refl _,rfl,Nat.lt_succ_self _,h⟩
def S192 (lines:List ByteArray) (name:ByteArray):Spec:=⟨[.r (.c (.l 1 eStr lines)),.r (.c (.v (.string name)))],.v (vI (F192 lines name)),F64 lines=0∧lines.length≤16∧(∀ k:Nat,(lines.getD k default).size≤1048576)⟩
theorem ok192 (lines:List ByteArray) (name:ByteArray):(S192 lines name).ok Tryz.prog 192 :=
 Qg mixed (fn:=Tryz.f192) (ct:=.seqk [(0,0)] .no (.seq .no (.seq (.seqk [(9,0)] (.reg [(1,kh82a lines (⟨#[114,117,108,101]⟩:ByteArray))]) (.blk (.loop (ι:=Nat×(Int×Int)) (fun i=>(fun (n:Int) (v11:Int)=>(⟨[(1,some (.v (.string name))),(5,some (.v (vI n))),(9,some (.h 0 0)),(10,some (.v (vI ((Qa lines (⟨#[114,117,108,101]⟩:ByteArray)).length:Int)))),(11,some (.v (vI v11)))],[(0,some (.own 0 (.l 1 (eL 1 eStr) (Qa lines (⟨#[114,117,108,101]⟩:ByteArray)))))],1⟩:St)) i.2.1 i.2.2) (Mt lines name) (fun i=>i.1) (Nc lines) (fun i=>(fun (n:Int) (v11:Int)=>(.seq .no (.seq (.cond .no .no) (.seq (.blk (.seq .no (.seq .no (.cond (.reg [(1,.bnd)]) .no)))) (.reg [(0,.bnd)]))))) i.2.1 i.2.2)))) (.seq .no .no)))) Tryz.func192 (fun (hp:F64 lines=0∧lines.length≤16∧(∀ k:Nat,(lines.getD k default).size≤1048576))=>have hpre0:=hp.1; have hpre1:=hp.2.1; have hpre2:=hp.2.2; kn lines fun _=>Hy lines (⟨#[114,117,108,101]⟩:ByteArray) (by omega) (by assumption) (by omega) (fun gv1=>kn (Qa lines (⟨#[114,117,108,101]⟩:ByteArray)) fun _=>ai (Ukn lines name (by refine ⟨?_,?_,?_,?_⟩ <;> omega)) (fun (i0:Nat×(Int×Int)) (hi0:Mt lines name i0)=>(fun (m0:Nat) (n:Int) (v11:Int) (hh0:Qss lines name i0 m0 n v11)=>have hI0:=hh0.1; have hl0:=hh0.2.1; have _:=hh0.2.2.1; have _:=hh0.2.2.2; ifd (v11<((Qa lines (⟨#[114,117,108,101]⟩:ByteArray)).length:Int)) (fun h3 _=>ai (by (omega):0≤v11∧v11<((Qa lines (⟨#[114,117,108,101]⟩:ByteArray)).length:Int)) (ai (by (have h9:=Qju lines (by omega) (Int.toNat v11) (by omega); unfold Yi at h9; omega):0≤(1:Int)∧(1:Int)<(((Qa lines (⟨#[114,117,108,101]⟩:ByteArray)).getD (Int.toNat v11) default).length:Int)) (ifb ((((Qa lines (⟨#[114,117,108,101]⟩:ByteArray)).getD (Int.toNat v11) default).getD (Int.toNat 1) default).toList==name.toList) (fun h4=>ai (iok (n+1) (by omega)) (ai (iok (v11+1) (by omega)) (Qui lines name i0 m0 (n+1) (v11+1) hl0 (Qc hI0 (condT h3 (condT h4 rfl))) (by refine ⟨?_,?_,?_,?_,?_⟩ <;> omega)))) (fun h4=>ai (iok (v11+1) (by omega)) (Qui lines name i0 m0 n (v11+1) hl0 (Qc hI0 (condT h3 (condF h4 rfl))) (by refine ⟨?_,?_,?_,?_,?_⟩ <;> omega)))))) (fun h3 _=>have hD0_5:Quv lines name=Lp.done (n,v11):=Qi hI0 (condF h3 rfl); fiI n (F192 lines name) (finD hD0_5 rfl))) (i0.1-1) i0.2.1 i0.2.2 (Uje lines name i0 hi0)))) (by kernel_rfl)
theorem kc192 (lines:List ByteArray) (name:ByteArray) {K_:Prop} (p0_:F64 lines=0) (p1_:lines.length≤16) (p2_:∀ k:Nat,(lines.getD k default).size≤1048576) (k_:K_):(F64 lines=0∧lines.length≤16∧(∀ k:Nat,(lines.getD k default).size≤1048576))∧(Imp (.l 1 eStr lines) (.l 1 eStr lines))∧(Imp (.v (.string name)) (.v (.string name)))∧K_:=⟨⟨p0_,p1_,p2_⟩,Imp.refl _,Imp.refl _,k_⟩
abbrev kh192 (lines:List ByteArray) (name:ByteArray):Hint true Tryz.prog:=.call 192 (S192 lines name) (ok192 lines name) none
def F193 (w1:List ByteArray) (p1:List ByteArray):Bool :=
 decide ((F192 p1 (w1.getD (Int.toNat 1) default))>12)
def S193 (w1:List ByteArray) (p1:List ByteArray):Spec:=⟨[.r (.c (.l 1 eStr w1)),.rp ([.l 1 eStr p1])],.v (.bool (F193 w1 p1)),Yi w1∧F64 p1=0∧p1.length≤16∧(∀ k:Nat,(p1.getD k default).size≤1048576)⟩
theorem ok193 (w1:List ByteArray) (p1:List ByteArray):(S193 w1 p1).ok Tryz.prog 193 :=
 Qg mixed (fn:=Tryz.f193) (ct:=.seqk [(0,0)] .no (.seq (.reg [(4,kh192 p1 (w1.getD (Int.toNat 1) default))]) .no)) Tryz.func193 (fun (hp:Yi w1∧F64 p1=0∧p1.length≤16∧(∀ k:Nat,(p1.getD k default).size≤1048576))=>have hpre0:=hp.1; have hpre1:=hp.2.1; have hpre2:=hp.2.2.1; have hpre3:=hp.2.2.2; kn w1 fun _=>ai (by (have h9:=hpre0; unfold Yi at h9; omega):0≤(1:Int)∧(1:Int)<(w1.length:Int)) (kc192 p1 (w1.getD (Int.toNat 1) default) (by omega) (by omega) (by assumption) (fiB (decide ((F192 p1 (w1.getD (Int.toNat 1) default))>12)) (F193 w1 p1) rfl))) (by kernel_rfl)
theorem kg192 {K_:Prop} (c_ b_:Bool) (lines:List ByteArray) (name:ByteArray) (p_:c_=b_→F64 lines=0∧lines.length≤16∧(∀ k:Nat,(lines.getD k default).size≤1048576)) (k_:K_):(c_=b_→F64 lines=0∧lines.length≤16∧(∀ k:Nat,(lines.getD k default).size≤1048576))∧(c_=b_→Imp (.l 1 eStr lines) (.l 1 eStr lines))∧(c_=b_→Imp (.v (.string name)) (.v (.string name)))∧K_:=⟨p_,fun _=>Imp.refl _,fun _=>Imp.refl _,k_⟩
abbrev kh192f (lines:List ByteArray) (name:ByteArray):Hint false Tryz.prog:=.call 192 (S192 lines name) ((ok192 lines name).to false) none
def Vp (lines:List ByteArray):Int→Lp Int Bool:=fun v8 =>
 bif (decide (v8<((Qa lines (⟨#[112,111,114,116]⟩:ByteArray)).length:Int))) then (bif (bif decide ((((Qa lines (⟨#[112,111,114,116]⟩:ByteArray)).getD (Int.toNat v8) default).length:Int)>4) then ((F192 lines (((Qa lines (⟨#[112,111,114,116]⟩:ByteArray)).getD (Int.toNat v8) default).getD (Int.toNat 4) default))==0) else false) then (.ret true) else (.next (v8+1))) else (.done v8)
def F163 (lines:List ByteArray):Bool :=
 (runL (Vp lines) ((Int.toNat (((Qa lines (⟨#[112,111,114,116]⟩:ByteArray)).length:Int)-0))+1) 0).fin (fun r=>r) (fun v8=>((Qa lines (⟨#[114,117,108,101]⟩:ByteArray)).any (fun (x0:List ByteArray)=>F193 x0 lines)))
abbrev Rj (lines:List ByteArray):Nat×Int:=(((Int.toNat (((Qa lines (⟨#[112,111,114,116]⟩:ByteArray)).length:Int)-0))+1),0)
abbrev Qjh (lines:List ByteArray) (m39:Nat) (v8:Int):Prop:=Int.toNat (((Qa lines (⟨#[112,111,114,116]⟩:ByteArray)).length:Int)-v8)<m39∧(0:Int)≤v8
abbrev Qsa (lines:List ByteArray):Lp Int Bool:=LpX (Vp lines) (Rj lines)
abbrev Nm (lines:List ByteArray) (i:Nat×Int):Prop:=LpJ (Vp lines) (Rj lines) i (Qjh lines i.1 i.2)
abbrev Que (lines:List ByteArray) (i:Nat×Int) (m39:Nat) (v8:Int):Prop:=LpH (Vp lines) (Rj lines) i m39 v8 (Qjh lines (m39+1) v8)
abbrev Qte (lines:List ByteArray) (v8:Int) (v8_:Int) (K39:Prop):Prop:=(Rf (.int .i64 ((Qa lines (⟨#[112,111,114,116]⟩:ByteArray)).length:Int)))∧((.int .i64 v8:Value)=.int .i64 v8_)∧(Im (.l 1 eStr lines))∧(Im (.l 1 (eL 1 eStr) (Qa lines (⟨#[112,111,114,116]⟩:ByteArray))))∧K39
theorem Ugf (lines:List ByteArray) (i:Nat×Int) (h:Nm lines i):Que lines i (i.1-1) i.2:=⟨hd1 h.1 h.2.1,hd3 h.2.1,hd2 h.2.1,h.2.2⟩
theorem Uhh (lines:List ByteArray) (i:Nat×Int) (m39:Nat) (v8:Int) (hl:m39<i.1) (e:runL (Vp lines) m39 v8=Qsa lines) (h:Qjh lines m39 v8):∃ j:Nat×Int,Qte lines v8 j.2 (Nm lines j∧j.1<i.1):=⟨(m39,v8),rfl,rfl,Imp.refl _,Imp.refl _,⟨e,h⟩,hl⟩
theorem Uhk (lines:List ByteArray) (h:(0:Int)≤0):Qte lines 0 0 (Nm lines (Rj lines)):=⟨rfl,rfl,Imp.refl _,Imp.refl _,rfl,Nat.lt_succ_self _,h⟩
def S163 (lines:List ByteArray):Spec:=⟨[.r (.c (.l 1 eStr lines))],.v (.bool (F163 lines)),F64 lines=0∧lines.length≤16∧(∀ k:Nat,(lines.getD k default).size≤1048576)⟩
theorem ok163 (lines:List ByteArray):(S163 lines).ok Tryz.prog 163 false :=
 Qg mixed (fn:=Tryz.f163) (ct:=.seq .no (.seq (.seqk [(1,0),(6,0)] (.reg [(1,Xw lines (⟨#[112,111,114,116]⟩:ByteArray))]) (.blk (.loop (ι:=Nat×Int) (fun i=>(fun (v8:Int)=>(⟨[(1,some (.p 0 0)),(6,some (.h 2 0)),(7,some (.v (vI ((Qa lines (⟨#[112,111,114,116]⟩:ByteArray)).length:Int)))),(8,some (.v (vI v8)))],[(0,some (.box 22 [.h 1 0])),(1,some (.shr none (.l 1 eStr lines))),(2,some (.own 2 (.l 1 (eL 1 eStr) (Qa lines (⟨#[112,111,114,116]⟩:ByteArray)))))],3⟩:St)) i.2) (Nm lines) (fun i=>i.1) (Rj lines) (fun i=>(fun (v8:Int)=>(.seq .no (.seq (.cond .no .no) (.seq (.blk (.seq .no (.seq (.reg [(8,kh192f lines (((Qa lines (⟨#[112,111,114,116]⟩:ByteArray)).getD (Int.toNat v8) default).getD (Int.toNat 4) default))]) (.cond (.seq .no .no) .no)))) (.reg [(0,.bnd)]))))) i.2)))) (.seq (.reg [(1,Xw lines (⟨#[114,117,108,101]⟩:ByteArray)),(3,.call 190 (S190 ((Qa lines (⟨#[114,117,108,101]⟩:ByteArray)).any (fun (x0:List ByteArray)=>F193 x0 lines)) (Qa lines (⟨#[114,117,108,101]⟩:ByteArray)) (fun (x0:List ByteArray)=>F193 x0 lines) (fun (x0:List ByteArray)=>Yi x0∧F64 lines=0∧lines.length≤16∧(∀ k:Nat,(lines.getD k default).size≤1048576))) (oa190 (Qa lines (⟨#[114,117,108,101]⟩:ByteArray)) (fun (x0:List ByteArray)=>F193 x0 lines) (fun (x0:List ByteArray)=>Yi x0∧F64 lines=0∧lines.length≤16∧(∀ k:Nat,(lines.getD k default).size≤1048576))) (some ⟨true,193,Wy (fun (x0:List ByteArray)=>Yi x0∧F64 lines=0∧lines.length≤16∧(∀ k:Nat,(lines.getD k default).size≤1048576)) (fun (x0:List ByteArray)=>F193 x0 lines),[.rp ([.l 1 eStr lines])],rfl,True,fun i=>Bf (ok193 i lines)⟩))]) .no))) Tryz.func163 (fun (hp:F64 lines=0∧lines.length≤16∧(∀ k:Nat,(lines.getD k default).size≤1048576))=>have hpre0:=hp.1; have hpre1:=hp.2.1; have hpre2:=hp.2.2; Hy lines (⟨#[112,111,114,116]⟩:ByteArray) (by omega) (by assumption) (by omega) (fun gv1=>kn lines fun _=>kn (Qa lines (⟨#[112,111,114,116]⟩:ByteArray)) fun _=>ai (Uhk lines (by omega)) (fun (i0:Nat×Int) (hi0:Nm lines i0)=>(fun (m0:Nat) (v8:Int) (hh0:Que lines i0 m0 v8)=>have hI0:=hh0.1; have hl0:=hh0.2.1; have _:=hh0.2.2.1; have _:=hh0.2.2.2; ifd (v8<((Qa lines (⟨#[112,111,114,116]⟩:ByteArray)).length:Int)) (fun h3 _=>ai (by omega:ib v8 (Qa lines (⟨#[112,111,114,116]⟩:ByteArray))) (ai (fun k4:(decide ((((Qa lines (⟨#[112,111,114,116]⟩:ByteArray)).getD (Int.toNat v8) default).length:Int)>4))=true=>have _:(((Qa lines (⟨#[112,111,114,116]⟩:ByteArray)).getD (Int.toNat v8) default).length:Int)>4:=of_decide_eq_true k4; (by omega:ib 4 ((Qa lines (⟨#[112,111,114,116]⟩:ByteArray)).getD (Int.toNat v8) default))) (kg192 (decide ((((Qa lines (⟨#[112,111,114,116]⟩:ByteArray)).getD (Int.toNat v8) default).length:Int)>4)) true lines (((Qa lines (⟨#[112,111,114,116]⟩:ByteArray)).getD (Int.toNat v8) default).getD (Int.toNat 4) default) (fun k5=>have _:(((Qa lines (⟨#[112,111,114,116]⟩:ByteArray)).getD (Int.toNat v8) default).length:Int)>4:=of_decide_eq_true k5; ⟨(by omega),(by omega),(by assumption)⟩) (ifb (bif decide ((((Qa lines (⟨#[112,111,114,116]⟩:ByteArray)).getD (Int.toNat v8) default).length:Int)>4) then ((F192 lines (((Qa lines (⟨#[112,111,114,116]⟩:ByteArray)).getD (Int.toNat v8) default).getD (Int.toNat 4) default))==0) else false) (fun h6=>have _:(((Qa lines (⟨#[112,111,114,116]⟩:ByteArray)).getD (Int.toNat v8) default).length:Int)>4:=of_decide_eq_true (Ql h6); have _:(F192 lines (((Qa lines (⟨#[112,111,114,116]⟩:ByteArray)).getD (Int.toNat v8) default).getD (Int.toNat 4) default))=0:=eq_of_beq (Qw h6); fiB true (F163 lines) (finR (Qp hI0 (condT h3 (condT h6 rfl))) rfl)) (fun h6=>ai (iok (v8+1) (by omega)) (Uhh lines i0 m0 (v8+1) hl0 (Qc hI0 (condT h3 (condF h6 rfl))) (by refine ⟨?_,?_⟩ <;> omega))))))) (fun h3 _=>have hD0_7:Qsa lines=Lp.done v8:=Qi hI0 (condF h3 rfl); Hy lines (⟨#[114,117,108,101]⟩:ByteArray) (by omega) (by assumption) (by omega) (fun gv8=>ai (by exact fun k hk=>⟨Qju lines (by omega) k hk,by omega,by omega,by assumption⟩:∀ k:Nat,k<(Qa lines (⟨#[114,117,108,101]⟩:ByteArray)).length→(fun (x0:List ByteArray)=>Yi x0∧F64 lines=0∧lines.length≤16∧(∀ k:Nat,(lines.getD k default).size≤1048576)) ((Qa lines (⟨#[114,117,108,101]⟩:ByteArray)).getD k default)) (ai (Imp.refl (.l 1 (eL 1 eStr) (Qa lines (⟨#[114,117,108,101]⟩:ByteArray)))) (ai (Eq.refl (Wy (fun (x0:List ByteArray)=>Yi x0∧F64 lines=0∧lines.length≤16∧(∀ k:Nat,(lines.getD k default).size≤1048576)) (fun (x0:List ByteArray)=>F193 x0 lines))) (ai trivial (ai (Imps.refl [.l 1 eStr lines]) (fiB ((Qa lines (⟨#[114,117,108,101]⟩:ByteArray)).any (fun (x0:List ByteArray)=>F193 x0 lines)) (F163 lines) (finD hD0_7 rfl))))))))) (i0.1-1) i0.2 (Ugf lines i0 hi0)))) (by kernel_rfl)
structure l52Cut where
 w:List ByteArray
 deriving DecidableEq,Inhabited
def Qj (x:l52Cut):List Dat:=[.l 1 eStr x.w]
def Bw (lines:List ByteArray):(List l52Cut×Int)→Lp (List l52Cut×Int) (List l52Cut):=fun (out,i40) =>
 bif (decide (i40<(lines.length:Int))) then (.next ((out++[(⟨(F97 (lines.getD (Int.toNat i40) default)).1⟩:l52Cut)]),(i40+1))) else (.done (out,i40))
def F65 (lines:List ByteArray):List l52Cut :=
 (runL (Bw lines) ((Int.toNat ((lines.length:Int)-0))+1) (([]:List l52Cut),0)).fin (fun r=>r) (fun (out,i40)=>out)
abbrev Qea (lines:List ByteArray):Nat×(List l52Cut×Int):=(((Int.toNat ((lines.length:Int)-0))+1),(([]:List l52Cut),0))
abbrev Qpy (lines:List ByteArray) (m39:Nat) (out:List l52Cut) (i40:Int):Prop:=Int.toNat ((lines.length:Int)-i40)<m39∧(out.length:Int)≤i40∧(0:Int)≤i40
abbrev Ubh (lines:List ByteArray):Lp (List l52Cut×Int) (List l52Cut):=LpX (Bw lines) (Qea lines)
abbrev Qcr (lines:List ByteArray) (i:Nat×(List l52Cut×Int)):Prop:=LpJ (Bw lines) (Qea lines) i (Qpy lines i.1 i.2.1 i.2.2)
abbrev Uat (lines:List ByteArray) (i:Nat×(List l52Cut×Int)) (m39:Nat) (out:List l52Cut) (i40:Int):Prop:=LpH (Bw lines) (Qea lines) i m39 (out,i40) (Qpy lines (m39+1) out i40)
abbrev Uaw (lines:List ByteArray) (out:List l52Cut) (i40:Int) (out_:List l52Cut) (i40_:Int) (K39:Prop):Prop:=((.int .i64 i40:Value)=.int .i64 i40_)∧(Im (.l 1 eStr lines))∧(Imp (.l 1 Qj out) (.l 1 Qj out_))∧K39
theorem un65_0 (lines:List ByteArray) (i:Nat×(List l52Cut×Int)) (h:Qcr lines i):Uat lines i (i.1-1) i.2.1 i.2.2:=⟨hd1 h.1 h.2.1,hd3 h.2.1,hd2 h.2.1,h.2.2⟩
theorem bk65_0 (lines:List ByteArray) (i:Nat×(List l52Cut×Int)) (m39:Nat) (out:List l52Cut) (i40:Int) (hl:m39<i.1) (e:runL (Bw lines) m39 (out,i40)=Ubh lines) (h:Qpy lines m39 out i40):∃ j:Nat×(List l52Cut×Int),Uaw lines out i40 j.2.1 j.2.2 (Qcr lines j∧j.1<i.1):=⟨(m39,(out,i40)),rfl,Imp.refl _,Imp.refl _,⟨e,h⟩,hl⟩
theorem en65_0 (lines:List ByteArray) (h:(([]:List l52Cut).length:Int)≤0∧(0:Int)≤0):Uaw lines ([]:List l52Cut) 0 ([]:List l52Cut) 0 (Qcr lines (Qea lines)):=⟨rfl,Imp.refl _,Imp.refl _,rfl,Nat.lt_succ_self _,h⟩
theorem fi65 (lines:List ByteArray) (r:List l52Cut) (hF:r=(F65 lines)):(Imp (.l 1 Qj r) (.l 1 Qj (F65 lines)))∧True:=by cases hF; exact ⟨Imp.refl _,trivial⟩
def S65 (R:List l52Cut) (lines:List ByteArray):Spec:=⟨[.r (.c (.l 1 eStr lines))],.ow (.l 1 Qj R),lines.length≤16∧(∀ k:Nat,(lines.getD k default).size≤1048576)⟩
theorem ok65 (lines:List ByteArray):(S65 (F65 lines) lines).ok Tryz.prog 65 :=
 Qg mixed (fn:=Tryz.f65) (ct:=.seqk [(0,0)] .no (.seq (.reg [(0,.dat (.l 1 Qj ([]:List l52Cut)))]) (.seq (.seqk [(0,0),(3,0)] .no (.blk (.loop (ι:=Nat×(List l52Cut×Int)) (fun i=>(fun (out:List l52Cut) (i40:Int)=>(⟨[(0,some (.h 0 0)),(3,some (.h 1 0)),(4,some (.v (vI i40)))],[(0,some (.shr none (.l 1 eStr lines))),(1,some (.own 1 (.l 1 Qj out)))],2⟩:St)) i.2.1 i.2.2) (Qcr lines) (fun i=>i.1) (Qea lines) (fun i=>(fun (out:List l52Cut) (i40:Int)=>(.seq (.seq .no (.cond .no .no)) (.seq (.blk (.seq (.reg [(4,kh97 (lines.getD (Int.toNat i40) default))]) (.reg [(4,.dat (.l 1 Qj (out++[(⟨(F97 (lines.getD (Int.toNat i40) default)).1⟩:l52Cut)])))]))) (.reg [(1,.bnd)])))) i.2.1 i.2.2)))) (.seq .no .no)))) Tryz.func65 (fun (hp:lines.length≤16∧(∀ k:Nat,(lines.getD k default).size≤1048576))=>have hpre0:=hp.1; have hpre1:=hp.2; kn lines fun _=>ai (bokr 1 Qj ([]:List l52Cut) fun _=>rfl) (kn lines fun _=>kn ([]:List l52Cut) fun _=>ai (en65_0 lines (by refine ⟨?_,?_⟩ <;> (simp only [lens,ib] at*<;> omega))) (fun (i0:Nat×(List l52Cut×Int)) (hi0:Qcr lines i0)=>(fun (m0:Nat) (out:List l52Cut) (i40:Int) (hh0:Uat lines i0 m0 out i40)=>have hI0:=hh0.1; have hl0:=hh0.2.1; have _:=hh0.2.2.1; have _:=hh0.2.2.2; ifd (i40<(lines.length:Int)) (fun h2 _=>ai (by omega:ib i40 lines) (kc97 (lines.getD (Int.toNat i40) default) (by exact hpre1 _) (fun gv3 gv4=>ai (appr 1 Qj out [(⟨(F97 (lines.getD (Int.toNat i40) default)).1⟩:l52Cut)] fun _=>rfl) (ai (by (try simp only [lens]); omega:(out++[(⟨(F97 (lines.getD (Int.toNat i40) default)).1⟩:l52Cut)]).length*24≤140737488355328) (ai (iok (i40+1) (by omega)) (bk65_0 lines i0 m0 (out++[(⟨(F97 (lines.getD (Int.toNat i40) default)).1⟩:l52Cut)]) (i40+1) hl0 (Qc hI0 (condT h2 rfl)) (by refine ⟨?_,?_,?_⟩ <;> (simp only [lens,ib] at*<;> omega)))))))) (fun h2 _=>have hD0_5:Ubh lines=Lp.done (out,i40):=Qi hI0 (condF h2 rfl); fi65 lines out (finD hD0_5 rfl))) (i0.1-1) i0.2.1 i0.2.2 (un65_0 lines i0 hi0)))) (by kernel_rfl)
def F77 (c:l52Cut) (k:Int):ByteArray :=
 bif (decide (k<(c.w.length:Int))) then (c.w.getD (Int.toNat k) default) else (⟨#[]⟩:ByteArray)
def S77 (c:l52Cut) (k:Int):Spec:=⟨[.r (.g (Qj c)),.r (.c (.v (vI k)))],.v (.string (F77 c k)),0≤k⟩
theorem ok77 (c:l52Cut) (k:Int):(S77 c k).ok Tryz.prog 77 :=
 Qg mixed (fn:=Tryz.f77) (ct:=.seq .no (.seq (.seq .no (.cond (.seq .no .no) .no)) (.seq .no .no))) Tryz.func77 (fun (hpre0:0≤k)=>ifd (k<(c.w.length:Int)) (fun h1 _=>ai (by omega:ib k c.w) (fiS (c.w.getD (Int.toNat k) default) (F77 c k) (condT h1 rfl))) (fun h1 _=>fiS w13_ (F77 c k) (condF h1 rfl))) (by kernel_rfl)
theorem Jt (s:ByteArray):0≤(F83 s).1.Len∧(F83 s).1.Len≤16∧0≤(F83 s).1.Addr∧(F83 s).1.Addr≤65535:=by
 rw [Bb]
 cases h:pfxL s.data.toList with
 | none=>exact ⟨by decide,by decide,by decide,by decide⟩
 | some p =>
  obtain ⟨a,n⟩:=p
  have:=Qhq h
  show 0≤n∧n≤16∧0≤a∧a≤65535
  omega
def Qn (lines:List ByteArray):List NetPrefix:=(Qa lines (⟨#[112,111,114,116]⟩:ByteArray)).map fun w=>(F83 (w.getD 2 default)).1
theorem as194 (lines:List ByteArray):F194 lines=(Qn lines):=by
 unfold F194
 have:=Yc (Qa lines (⟨#[112,111,114,116]⟩:ByteArray)) (fun (s:List NetPrefix) w=>s++[(F83 (w.getD 2 default)).1]) (fun s i=>(s,i)) (Vl lines) (fun i s hi=>by
  simp only [Vl,ltD hi,cond_true,nn]; rfl) (fun s=>by simp only [Vl,geD,cond_false]) (fun r=>r) (fun (out,v12)=>out) []
 refine this.trans ?_
 rw [Zv,List.nil_append]; rfl
theorem Qlz (lines:List ByteArray):∀ p∈Qn lines,0≤p.Len∧p.Len≤16∧0≤p.Addr∧p.Addr≤65535:=fun p hp=>by
 obtain ⟨w,_,rfl⟩:=List.mem_map.1 hp
 exact Jt _
theorem Tn (lines:List ByteArray):∀ k:Nat,0≤((Qn lines).getD k default).Len∧((Qn lines).getD k default).Len≤16:=fun k=>by
 by_cases hk:k<(Qn lines).length
 ·have:=Qlz lines _ (Zr _ hk); omega
 ·rw [Wh _ (by omega)]; exact ⟨by decide,by decide⟩
theorem Qcy (lines:List ByteArray) (n k:Nat):0≤(((Qn lines).take n).getD k default).Len∧(((Qn lines).take n).getD k default).Len≤16:=by
 by_cases hk:k<((Qn lines).take n).length
 ·have:=Qlz lines _ (List.mem_of_mem_take (Zr _ hk)); omega
 ·rw [Wh _ (by omega)]; exact ⟨by decide,by decide⟩
theorem Uet:∀ k:Nat,(([]:List ByteArray).getD k default).size≤1048576:=fun k=>Nat.zero_le _
theorem Qnd {a:List ByteArray} {x:ByteArray} (h:∀ k:Nat,(a.getD k default).size≤1048576) (hx:x.size≤1048576):∀ k:Nat,((a++[x]).getD k default).size≤1048576:=fun k=>by
 rw [List.getD_eq_getElem?_getD,List.getElem?_append]
 split
 ·rw [← List.getD_eq_getElem?_getD]; exact h k
 ·cases hk:k-a.length with
  | zero=>exact hx
  | succ j=>exact Nat.zero_le _
theorem Qbg (lines:List ByteArray) (h:F64 lines=0) (n k:Nat) (hk:k<((Qa lines (⟨#[100,111,111,114]⟩:ByteArray)).take n).length):Wr (((Qa lines (⟨#[100,111,111,114]⟩:ByteArray)).take n).getD k default):=by
 rw [List.length_take] at hk
 have:=Hf lines h k (by omega)
 rw [List.getD_eq_getElem?_getD,List.getElem?_take,if_pos (by omega),← List.getD_eq_getElem?_getD]
 exact this
theorem as65 (lines:List ByteArray):F65 lines=(lines.map (fun l=>(⟨(F97 l).1⟩:l52Cut))):=by
 unfold F65
 have:=Yc lines (fun (s:List l52Cut) l=>s++[(⟨(F97 l).1⟩:l52Cut)]) (fun s i=>(s,i)) (Bw lines) (fun i s hi=>by
  simp only [Bw,ltD hi,cond_true,nn]; rfl) (fun s=>by simp only [Bw,geD,cond_false]) (fun r=>r) (fun (out,i40)=>out) []
 refine this.trans ?_
 rw [Zv,List.nil_append]
theorem Qib {c:l52Cut} (h:∀ j:Nat,(c.w.getD j default).size≤1048576) (k:Int):(F77 c k).size≤1048576:=by
 unfold F77
 cases decide (k<(c.w.length:Int)) with
 | true=>exact h _
 | false=>exact Nat.zero_le _
theorem Ju (all:List l52Cut) (h:∀ k j:Nat,((all.getD k default).w.getD j default).size≤1048576) (i:Nat) (k:Int):(F77 (all.getD i default) k).size≤1048576:=Qib (h i) k
end Go.Proofs.YtcgfkhokhiggkaaGreatDoor
