/- A part of the proof of FnConfMerge. Texts put together: PFF, PCL0, VCL, PCL, PK0, VK, PK1, VK2, PK2, PLP, VN0, PN0, VN, PN1N, PCK0, VCKA, PCKB, VCKC, VCKD, PCE0, PCE1, PCE2, PCHA, VCH, PCH, VSZ, PSZ, PSO, VJO, PJO, VDF, PDF, VMK, PMK, PDFL0, PPA0, VPA, PPA, PMA0, VMA, PMA1, VMB, PMB, PDXB, VDC0, PDC0, VDC1, PDC1, VDC2, PDC2, VDC3, PDC3, VDM1, PDM1. -/
import Derived.Test.YtpeklolpimhioaaGreatDoorRows
import Derived.Test.YtpeklolpimhioaaGreatDoorZC65C
namespace Go.Proofs.YtpeklolpimhioaaGreatDoor
open Go.RowKit
set_option maxRecDepth 100000
set_option linter.unusedVariables false
set_option linter.unusedSimpArgs false
theorem find_loop {α ρ τ:Type} [Inhabited α] (xs:List α) (p:α->Bool) (g:α->ρ) (st:Int->Lp Int ρ) (f:ρ->τ) (k:Int->τ) (y:τ) (hk:∀ i,k i=y)
  (h1:∀ i:Nat,i<xs.length->st (i:Int)=bif p (xs.getD i default) then .ret (g (xs.getD i default)) else .next ((i+1:Nat):Int)) (h2:st (xs.length:Int)=.done (xs.length:Int)) :
  ∀ (m i:Nat),i+m=xs.length->∀ fuel,m<fuel->(runL st fuel (i:Int)).fin f k=match (xs.drop i).find? p with | some a=>f (g a) | none=>y
 | m,i,_,0,hf=>absurd hf (Sd _)
 | 0,i,h,fuel+1,hf=>by
  have e:i=xs.length:=by omega
  subst e
  rw [runL_d _ h2,Q8 (Qp _)]
  exact hk _
 | m+1,i,h,fuel+1,hf=>by
  have hst:=h1 i uu0
  have hd:xs.drop i=xs.getD i default :: xs.drop (i+1):=by
   rw [Rk (show i<xs.length by omega),Qd,Qe (show i<xs.length by omega)]; rfl
  rw [hd,List.find?_cons]
  cases hp:p (xs.getD i default) with
  | true=>rw [hp,Qc] at hst; rw [runL_r _ hst]; rfl
  | false =>
   rw [hp,Qh] at hst
   rw [runL_n _ hst,find_loop xs p g st f k y hk h1 h2 m (i+1) uu0 fuel uu0]
def chk:List (Za->Bool)->Nat->List Za->Bool
 | [],_,_=>true
 | c :: cs,i,w=>c (w.getD i default)&&chk cs (i+1) w
theorem chk_drop (cs:List (Za->Bool)) (w:List Za):∀ (m i:Nat),i+m=cs.length->anyF (fun k=>!(cs.getD k default) (w.getD (k+1) default)) i m=!chk (cs.drop i) (i+1) w
 | 0,i,h=>by rw [Q8 uu0]; rfl
 | m+1,i,h=>by
  have hd:cs.drop i=cs.getD i default :: cs.drop (i+1):=by
   rw [Rk (show i<cs.length by omega),Qd,Qe (show i<cs.length by omega)]; rfl
  rw [hd]
  simp only [anyF,chk,Bool.not_and]
  rw [chk_drop cs w m (i+1) uu0]
theorem fits_eq (f:form) (w:List Za):F49 f w=(decide (w.length=f.checks.length+1)&&chk f.checks 1 w):=by
 unfold F49
 by_cases h:w.length=f.checks.length+1
 ·have h1:((w.length:Int) != ((f.checks.length:Int)+1))=false:=by
   rw [bne_eq_false_iff_eq]; omega
  rw [h1,Qh,Qs h,Sy]
  have:=any_loop (F49_s0 f w) f.checks.length (fun k=>!(f.checks.getD k default) (w.getD (k+1) default)) false (fun r=>r) true (fun i hi=>by
   simp only [F49_s0,Qs (show (i:Int)<(f.checks.length:Int) by omega),Qc,Rn]
   rw [show ((i:Int)+1).toNat=i+1 by omega]
   cases (!(f.checks.getD i default) (w.getD (i+1) default)) <;> rfl) (by
   simp only [F49_s0,Qq (show ¬ (f.checks.length:Int)<(f.checks.length:Int) by omega),Qh])
  have h2:=this f.checks.length 0 uu0 (Int.toNat ((f.checks.length:Int)-0)+1) uu0
  rw [chk_drop f.checks w f.checks.length 0 uu0,R8] at h2
  refine h2.trans ?_
  cases chk f.checks (0+1) w <;> rfl
 ·have h1:((w.length:Int) != ((f.checks.length:Int)+1))=true:=by
   rw [G6]; omega
  rw [h1,Qc,Qq h,Tq]
theorem formOf_eq (w:List Za) (hw:w.length≠0):F33 w=match (F48 (w.getD 0 default)).find? (fun f=>F49 f w) with | some f=>(f,true) | none=>((⟨Zc,0,[]⟩:form),false):=by
 unfold F33
 have h1:((w.length:Int)==0)=false:=by rw [Qx]; omega
 rw [h1,Qh]
 have h0:w.getD (Int.toNat 0) default=w.getD 0 default:=rfl
 simp only [h0]
 generalize hx:F48 (w.getD 0 default)=xs
 have:=find_loop xs (fun f=>F49 f w) (fun f=>(f,true)) (F33_s0 w) (fun r=>r) (fun _=>((⟨Zc,0,[]⟩:form),false)) _ (fun _=>rfl) (fun i hi=>by
  simp only [F33_s0,h0,hx,Qs (show (i:Int)<(xs.length:Int) by omega),Qc,Rn]
  cases F49 (xs.getD i default) w <;> rfl) (by
  simp only [F33_s0,h0,hx,Qq (show ¬ (xs.length:Int)<(xs.length:Int) by omega),Qh]) xs.length 0 uu0 (Int.toNat ((xs.length:Int)-0)+1) uu0
 rw [R8] at this
 refine Eq.trans this ?_
 cases xs.find? (fun f=>F49 f w) <;> rfl
theorem forms_of (l:List UInt8) (x:Za) (h:x.data.toList=l):F48 x=all48.filter (fun z=>z.word.data.toList==l):=by
 unfold F48
 congr 1
 funext z
 rw [byteToList,byteToList,h]
def keyN (l:List UInt8):Int :=
 if l=[104,111,115,116] then 1 else if l=[117,115,101,114] then 2 else if l=[112,111,114,116] then 2 else if l=[114,117,108,101] then 3 else if l=[114,111,117,116,101] then 3 else if l=[112,101,101,114] then 2 else if l=[110,97,116] then 1 else 3
theorem one_word (x a:Za):F109 x [a]=(x.toList==a.toList):=by
 unfold F109
 rw [implHas_eq,Gi,List.any_nil,Bool.or_false]
theorem two_words (x a b:Za):F109 x [a,b]=bif (x.toList==a.toList) then true else (x.toList==b.toList):=by
 unfold F109
 rw [implHas_eq,Gi,Gi,List.any_nil,Bool.or_false]
 cases (x.toList==a.toList) <;> rfl
theorem in_range (x:Za) (lo hi:Int):F105 x lo hi=decide (lo<=F123 x/\F123 x<=hi):=by
 unfold F105
 rw [number_same]
theorem len_dec (w:List Za) (n:Nat):((w.length:Int)==(n:Int))=decide (w.length=n):=by
 by_cases h:w.length=n
 ·rw [Qs h,Sp]; omega
 ·rw [Qq h,Qx]; omega
theorem form_one (w:List Za) (f:form) (hw:w.length≠0) (h:F48 (w.getD 0 default)=[f]):(F33 w).2=F49 f w/\((F33 w).2=true->(F33 w).1.key=f.key):=by
 rw [formOf_eq w hw,h,List.find?_cons,List.find?_nil]
 cases F49 f w <;> exact ⟨rfl,fun h=>by first | rfl | cases h⟩
theorem form_two (w:List Za) (f g:form) (hw:w.length≠0) (h:F48 (w.getD 0 default)=[f,g]) (hk:f.key=g.key):(F33 w).2=(F49 f w || F49 g w)/\((F33 w).2=true->(F33 w).1.key=f.key):=by
 rw [formOf_eq w hw,h,List.find?_cons,List.find?_cons,List.find?_nil]
 cases F49 f w <;> cases F49 g w <;> exact ⟨rfl,fun h=>by first | rfl | exact hk.symm | cases h⟩
theorem form_none (w:List Za) (hw:w.length≠0) (h:F48 (w.getD 0 default)=[]):(F33 w).2=false:=by
 rw [formOf_eq w hw,h]; rfl
theorem blit (x:Za) (a:Array UInt8):(x.toList==(⟨a⟩:Za).toList)=(x.data.toList==a.toList):=by rw [byteToList,byteToList]
theorem hd00:(([104,111,115,116]:List UInt8)==([104,111,115,116]:List UInt8))=true:=by decide
theorem hd10:(([117,115,101,114]:List UInt8)==([104,111,115,116]:List UInt8))=false:=by decide
theorem hd11:(([117,115,101,114]:List UInt8)==([117,115,101,114]:List UInt8))=true:=by decide
theorem hd20:(([112,111,114,116]:List UInt8)==([104,111,115,116]:List UInt8))=false:=by decide
theorem hd21:(([112,111,114,116]:List UInt8)==([117,115,101,114]:List UInt8))=false:=by decide
theorem hd22:(([112,111,114,116]:List UInt8)==([112,111,114,116]:List UInt8))=true:=by decide
theorem hd30:(([114,117,108,101]:List UInt8)==([104,111,115,116]:List UInt8))=false:=by decide
theorem hd31:(([114,117,108,101]:List UInt8)==([117,115,101,114]:List UInt8))=false:=by decide
theorem hd32:(([114,117,108,101]:List UInt8)==([112,111,114,116]:List UInt8))=false:=by decide
theorem hd33:(([114,117,108,101]:List UInt8)==([114,117,108,101]:List UInt8))=true:=by decide
theorem hd40:(([114,111,117,116,101]:List UInt8)==([104,111,115,116]:List UInt8))=false:=by decide
theorem hd41:(([114,111,117,116,101]:List UInt8)==([117,115,101,114]:List UInt8))=false:=by decide
theorem hd42:(([114,111,117,116,101]:List UInt8)==([112,111,114,116]:List UInt8))=false:=by decide
theorem hd43:(([114,111,117,116,101]:List UInt8)==([114,117,108,101]:List UInt8))=false:=by decide
theorem hd44:(([114,111,117,116,101]:List UInt8)==([114,111,117,116,101]:List UInt8))=true:=by decide
theorem hd50:(([112,101,101,114]:List UInt8)==([104,111,115,116]:List UInt8))=false:=by decide
theorem hd51:(([112,101,101,114]:List UInt8)==([117,115,101,114]:List UInt8))=false:=by decide
theorem hd52:(([112,101,101,114]:List UInt8)==([112,111,114,116]:List UInt8))=false:=by decide
theorem hd53:(([112,101,101,114]:List UInt8)==([114,117,108,101]:List UInt8))=false:=by decide
theorem hd54:(([112,101,101,114]:List UInt8)==([114,111,117,116,101]:List UInt8))=false:=by decide
theorem hd55:(([112,101,101,114]:List UInt8)==([112,101,101,114]:List UInt8))=true:=by decide
theorem hd60:(([110,97,116]:List UInt8)==([104,111,115,116]:List UInt8))=false:=by decide
theorem hd61:(([110,97,116]:List UInt8)==([117,115,101,114]:List UInt8))=false:=by decide
theorem hd62:(([110,97,116]:List UInt8)==([112,111,114,116]:List UInt8))=false:=by decide
theorem hd63:(([110,97,116]:List UInt8)==([114,117,108,101]:List UInt8))=false:=by decide
theorem hd64:(([110,97,116]:List UInt8)==([114,111,117,116,101]:List UInt8))=false:=by decide
theorem hd65:(([110,97,116]:List UInt8)==([112,101,101,114]:List UInt8))=false:=by decide
theorem hd66:(([110,97,116]:List UInt8)==([110,97,116]:List UInt8))=true:=by decide
theorem hd70:(([100,111,111,114]:List UInt8)==([104,111,115,116]:List UInt8))=false:=by decide
theorem hd71:(([100,111,111,114]:List UInt8)==([117,115,101,114]:List UInt8))=false:=by decide
theorem hd72:(([100,111,111,114]:List UInt8)==([112,111,114,116]:List UInt8))=false:=by decide
theorem hd73:(([100,111,111,114]:List UInt8)==([114,117,108,101]:List UInt8))=false:=by decide
theorem hd74:(([100,111,111,114]:List UInt8)==([114,111,117,116,101]:List UInt8))=false:=by decide
theorem hd75:(([100,111,111,114]:List UInt8)==([112,101,101,114]:List UInt8))=false:=by decide
theorem hd76:(([100,111,111,114]:List UInt8)==([110,97,116]:List UInt8))=false:=by decide
theorem hd77:(([100,111,111,114]:List UInt8)==([100,111,111,114]:List UInt8))=true:=by decide
theorem cb1 (a b:Bool):(bif a then b else false)=(a&&b):=by cases a <;> rfl
theorem cb2 (a b:Bool):(bif a then true else b)=(a || b):=by cases a <;> rfl
theorem form_same (w:List Za):(F33 w).2=F94 w/\((F33 w).2=true->(F33 w).1.key=keyN (w.getD 0 default).data.toList):=by
 by_cases hw:w.length=0
 ·obtain rfl:=Rq hw
  exact ⟨rfl,fun h=>by cases h⟩
 have h0:((w.length:Int)==0)=false:=by rw [Qx]; omega
 have t0:∀ k:Nat,w.getD (k:Int).toNat default=w.getD k default:=fun _=>rfl
 have e0:w.getD (Int.toNat 0) default=w.getD 0 default:=rfl
 have e1:w.getD (Int.toNat 1) default=w.getD 1 default:=rfl
 have e2:w.getD (Int.toNat 2) default=w.getD 2 default:=rfl
 have e3:w.getD (Int.toNat 3) default=w.getD 3 default:=rfl
 have e4:w.getD (Int.toNat 4) default=w.getD 4 default:=rfl
 have e5:w.getD (Int.toNat 5) default=w.getD 5 default:=rfl
 have e6:w.getD (Int.toNat 6) default=w.getD 6 default:=rfl
 have n2:=len_dec w 2
 have n3:=len_dec w 3
 have n4:=len_dec w 4
 have n5:=len_dec w 5
 have n7:=len_dec w 7
 simp only [Int.cast_ofNat_Int] at n2 n3 n4 n5 n7
 have hb:∀ l:List UInt8,(w.getD 0 default).data.toList=l->(w.getD 0 default).toList=l:=fun l h=>by rw [byteToList,h]
 have hlit:∀ l:List UInt8,(⟨l.toArray⟩:Za).toList=l:=fun l=>by rw [byteToList]
 unfold F94
 simp only [h0,Qh,e0,e1,e2,e3,e4,e5,e6,n2,n3,n4,n5,n7]
 rcases Sg ((w.getD 0 default).data.toList=[104,111,115,116]) with h | hn0
 ·have hF:=(forms_of _ _ h).trans (show _=[all48.getD 0 default] from rfl)
  have f0:F49 (all48.getD 0 default) w=(decide (w.length=2)&&(F73 (w.getD 1 default)&&true)):=fits_eq _ _
  obtain ⟨k1,k2⟩:=form_one w _ hw hF
  refine ⟨?_,fun hh=>(k2 hh).trans uu23⟩
  rw [k1,f0]
  simp only [blit,h,hd00,Qc,Qh,name_same,isRights_same,isPrefix_same,isAddr_same,in_range,one_word,two_words,cb1,cb2,Sz,Tz]
 rcases Sg ((w.getD 0 default).data.toList=[117,115,101,114]) with h | hn1
 ·have hF:=(forms_of _ _ h).trans (show _=[all48.getD 1 default] from rfl)
  have f0:F49 (all48.getD 1 default) w=(decide (w.length=3)&&(F73 (w.getD 1 default)&&(F74 (w.getD 2 default)&&true))):=fits_eq _ _
  obtain ⟨k1,k2⟩:=form_one w _ hw hF
  refine ⟨?_,fun hh=>(k2 hh).trans uu23⟩
  rw [k1,f0]
  simp only [blit,h,hd10,hd11,Qc,Qh,name_same,isRights_same,isPrefix_same,isAddr_same,in_range,one_word,two_words,cb1,cb2,Sz,Tz]
 rcases Sg ((w.getD 0 default).data.toList=[112,111,114,116]) with h | hn2
 ·have hF:=(forms_of _ _ h).trans (show _=[all48.getD 2 default,all48.getD 3 default] from rfl)
  have f0:F49 (all48.getD 2 default) w=(decide (w.length=3)&&(F105 (w.getD 1 default) 0 7&&(F75 (w.getD 2 default)&&true))):=fits_eq _ _
  have f1:F49 (all48.getD 3 default) w=(decide (w.length=5)&&(F105 (w.getD 1 default) 0 7&&(F75 (w.getD 2 default)&&(F109 (w.getD 3 default) [Z0]&&(F73 (w.getD 4 default)&&true))))):=fits_eq _ _
  obtain ⟨k1,k2⟩:=form_two w _ _ hw hF rfl
  refine ⟨?_,fun hh=>(k2 hh).trans uu23⟩
  rw [k1,f0,f1]
  simp only [blit,h,hd20,hd21,hd22,Qc,Qh,name_same,isRights_same,isPrefix_same,isAddr_same,in_range,one_word,two_words,cb1,cb2,Sz,Tz]
  generalize decide (w.length=3)=a,decide (w.length=5)=b,decide (0<=F123 (w.getD 1 default)/\F123 (w.getD 1 default)<=7)=c,F127 (w.getD 2 default)=d,((w.getD 3 default).data.toList==[105,110])=e,F124 (w.getD 4 default)=g
  cases a <;> cases b <;> cases c <;> cases d <;> cases e <;> cases g <;> rfl
 rcases Sg ((w.getD 0 default).data.toList=[114,117,108,101]) with h | hn3
 ·have hF:=(forms_of _ _ h).trans (show _=[all48.getD 4 default] from rfl)
  have f0:F49 (all48.getD 4 default) w=(decide (w.length=7)&&(F73 (w.getD 1 default)&&(F105 (w.getD 2 default) 0 99&&(F109 (w.getD 3 default) [Zr,Zs]&&(F75 (w.getD 4 default)&&(F75 (w.getD 5 default)&&(F105 (w.getD 6 default) 0 7&&true))))))):=fits_eq _ _
  obtain ⟨k1,k2⟩:=form_one w _ hw hF
  refine ⟨?_,fun hh=>(k2 hh).trans uu23⟩
  rw [k1,f0]
  simp only [blit,h,hd30,hd31,hd32,hd33,Qc,Qh,name_same,isRights_same,isPrefix_same,isAddr_same,in_range,one_word,two_words,cb1,cb2,Sz,Tz]
 rcases Sg ((w.getD 0 default).data.toList=[114,111,117,116,101]) with h | hn4
 ·have hF:=(forms_of _ _ h).trans (show _=[all48.getD 5 default] from rfl)
  have f0:F49 (all48.getD 5 default) w=(decide (w.length=3)&&(F75 (w.getD 1 default)&&(F77 (w.getD 2 default)&&true))):=fits_eq _ _
  obtain ⟨k1,k2⟩:=form_one w _ hw hF
  refine ⟨?_,fun hh=>(k2 hh).trans uu23⟩
  rw [k1,f0]
  simp only [blit,h,hd40,hd41,hd42,hd43,hd44,Qc,Qh,name_same,isRights_same,isPrefix_same,isAddr_same,in_range,one_word,two_words,cb1,cb2,Sz,Tz]
 rcases Sg ((w.getD 0 default).data.toList=[112,101,101,114]) with h | hn5
 ·have hF:=(forms_of _ _ h).trans (show _=[all48.getD 6 default] from rfl)
  have f0:F49 (all48.getD 6 default) w=(decide (w.length=4)&&(F77 (w.getD 1 default)&&(F105 (w.getD 2 default) 1 9&&(F105 (w.getD 3 default) 1 999999&&true)))):=fits_eq _ _
  obtain ⟨k1,k2⟩:=form_one w _ hw hF
  refine ⟨?_,fun hh=>(k2 hh).trans uu23⟩
  rw [k1,f0]
  simp only [blit,h,hd50,hd51,hd52,hd53,hd54,hd55,Qc,Qh,name_same,isRights_same,isPrefix_same,isAddr_same,in_range,one_word,two_words,cb1,cb2,Sz,Tz]
 rcases Sg ((w.getD 0 default).data.toList=[110,97,116]) with h | hn6
 ·have hF:=(forms_of _ _ h).trans (show _=[all48.getD 7 default] from rfl)
  have f0:F49 (all48.getD 7 default) w=(decide (w.length=5)&&(F75 (w.getD 1 default)&&(F77 (w.getD 2 default)&&(F105 (w.getD 3 default) 1 65535&&(F105 (w.getD 4 default) 1 65535&&true))))):=fits_eq _ _
  obtain ⟨k1,k2⟩:=form_one w _ hw hF
  refine ⟨?_,fun hh=>(k2 hh).trans uu23⟩
  rw [k1,f0]
  simp only [blit,h,hd60,hd61,hd62,hd63,hd64,hd65,hd66,Qc,Qh,name_same,isRights_same,isPrefix_same,isAddr_same,in_range,one_word,two_words,cb1,cb2,Sz,Tz]
 rcases Sg ((w.getD 0 default).data.toList=[100,111,111,114]) with h | hn7
 ·have hF:=(forms_of _ _ h).trans (show _=[all48.getD 8 default] from rfl)
  have f0:F49 (all48.getD 8 default) w=(decide (w.length=5)&&(F105 (w.getD 1 default) 1 7&&(F105 (w.getD 2 default) 1 65535&&(F77 (w.getD 3 default)&&(F105 (w.getD 4 default) 1 65535&&true))))):=fits_eq _ _
  obtain ⟨k1,k2⟩:=form_one w _ hw hF
  refine ⟨?_,fun hh=>(k2 hh).trans uu23⟩
  rw [k1,f0]
  simp only [blit,h,hd70,hd71,hd72,hd73,hd74,hd75,hd76,hd77,Qc,Qh,name_same,isRights_same,isPrefix_same,isAddr_same,in_range,one_word,two_words,cb1,cb2,Sz,Tz]
 have hF:F48 (w.getD 0 default)=[]:=by
  rw [forms_of _ _ rfl,List.filter_eq_nil_iff]
  intro z hz
  simp only [all48,Qr,Rd,Tu] at hz
  rcases hz with rfl | rfl | rfl | rfl | rfl | rfl | rfl | rfl | rfl
  ·exact fun e=>hn0 (eq_of_beq e).symm
  ·exact fun e=>hn1 (eq_of_beq e).symm
  ·exact fun e=>hn2 (eq_of_beq e).symm
  ·exact fun e=>hn2 (eq_of_beq e).symm
  ·exact fun e=>hn3 (eq_of_beq e).symm
  ·exact fun e=>hn4 (eq_of_beq e).symm
  ·exact fun e=>hn5 (eq_of_beq e).symm
  ·exact fun e=>hn6 (eq_of_beq e).symm
  ·exact fun e=>hn7 (eq_of_beq e).symm
 rw [form_none w hw hF]
 refine ⟨?_,fun h=>by cases h⟩
 simp only [blit,Qx.2 hn0,Qx.2 hn1,Qx.2 hn2,Qx.2 hn3,Qx.2 hn4,Qx.2 hn5,Qx.2 hn6,Qx.2 hn7,Qh]
theorem wordsOf_sz (l:List UInt8) (k:Nat):((wordsOf l).1.getD k default).size<=24:=by
 unfold wordsOf fitW
 rw [Qd]
 cases h:((l.all okB)&&(decide ((wordsL l).length<=8)&&(wordsL l).all fun w=>decide (w.length<=24))) with
 | false=>rw [Qh]; exact Rj _
 | true =>
  rw [Qc]
  simp only [Qn] at h
  have h2:=Re.1 h.2.2
  show ((((wordsL l).map mkB)[k]?).getD default).size<=24
  rw [Tr]
  cases hk:(wordsL l)[k]? with
  | none=>exact Rj _
  | some w=>exact Qb (h2 w (Q7 hk))
theorem words_sz24 (line:Za) (k:Nat):((F68 line).1.getD k default).size<=24:=by
 rw [impl_words]; exact wordsOf_sz _ k
theorem words_sz (line:Za):∀ k:Nat,((F68 line).1.getD k default).size<=1048576:=fun k=>Q0 (words_sz24 line k) uu1
theorem specwords_len (line:Za):(F43 line).1.length<=8:=by rw [<- words_same]; exact words_len line
theorem specwords_sz (line:Za):∀ k:Nat,((F43 line).1.getD k default).size<=1048576:=by rw [<- words_same]; exact words_sz line
theorem joinTail_len (sep:List UInt8) (m:Nat):∀ xs:List (List UInt8),(∀ x∈xs,x.length<=m)->(Lib.joinTail sep xs).length<=xs.length*(m+sep.length)
 | [],_=>by simp [Lib.joinTail]
 | x :: xs,h=>by
  have h1:=joinTail_len sep m xs fun y hy=>h y (Qj _ hy)
  have h2:=h x Ql
  have e:Lib.joinTail sep (x :: xs)=(sep++x)++Lib.joinTail sep xs:=rfl
  rw [e]
  simp only [Q6,Q4,R3]
  omega
theorem join_sz (ws:List Za) (sep:Za) (m:Nat) (h:∀ k:Nat,(ws.getD k default).size<=m):(joinS ws sep).size<=ws.length*(m+sep.size):=by
 have hx:∀ x∈ws.map (·.data.toList),x.length<=m:=by
  intro x hx
  obtain ⟨w,hw,rfl⟩:=R7.1 hx
  obtain ⟨k,hk⟩:=Tb.1 hw
  have:=h k
  rw [Qd,hk] at this
  exact this
 have e:(joinS ws sep).size=(Lib.join (ws.map (·.data.toList)) sep.data.toList).length:=by simp [joinS,ByteArray.size]
 have es:sep.data.toList.length=sep.size:=rfl
 rw [e]
 cases ws with
 | nil=>simp [Lib.join]
 | cons a t =>
  rw [Rb,Lib.join_cons,Q6,Q4,R3]
  have h1:=joinTail_len sep.data.toList m (t.map (·.data.toList)) fun y hy=>hx y (by rw [Rb]; exact Qj _ hy)
  have h2:=hx a.data.toList (by rw [Rb]; exact Ql)
  rw [Sc,es] at h1
  omega
theorem join_small (ws:List Za) (sep:Za) (h:∀ k:Nat,(ws.getD k default).size<=1048576) (hl:ws.length<=8) (hs:sep.size<=1):(joinS ws sep).size<=140737488355328:=by
 have h1:=join_sz ws sep 1048576 h
 have h2:=Nat.mul_le_mul hl (show 1048576+sep.size<=1048577 by omega)
 omega
def F34 (elems:List Za) (sep:Za):Za :=
 joinS elems sep
def S34 (elems:List Za) (sep:Za):Spec:=⟨[.r (.c (.l 1 eStr elems)),.r (.c (.v (.string sep)))],.v (.string (F34 elems sep)),elems.length<=140737488355328/\(joinS elems sep).size<=140737488355328⟩
theorem ok34 (elems:List Za) (sep:Za):(S34 elems sep).ok Tryz.prog 34 false :=
 join_ok layJoin layJoinX elems sep
theorem kc68 (line:Za) {K_:Prop} (p0_:line.size<=1048576) (k_:((F68 line).1.length<=8)->(∀ k:Nat,((F68 line).1.getD k default).size<=1048576)->K_):(line.size<=1048576)/\(Imp (.v (.string line)) (.v (.string line)))/\K_:=⟨p0_,Imp.refl _,k_ (words_len line) (words_sz line)⟩
abbrev kh68 (line:Za):Hint false Tryz.prog:=.call 68 (S68 line) (ok68 line) none
theorem kc33 (words:List Za) {K_:Prop} (p0_:∀ k:Nat,(words.getD k default).size<=1048576) (k_:K_):(∀ k:Nat,(words.getD k default).size<=1048576)/\(Imp (.l 1 eStr words) (.l 1 eStr words))/\K_:=⟨p0_,Imp.refl _,k_⟩
abbrev kh33 (words:List Za):Hint false Tryz.prog:=.call 33 (S33 words) (ok33 words) none
theorem kc34 (elems:List Za) (sep:Za) {K_:Prop} (p0_:elems.length<=140737488355328) (p1_:(joinS elems sep).size<=140737488355328) (k_:K_):(elems.length<=140737488355328/\(joinS elems sep).size<=140737488355328)/\(Imp (.l 1 eStr elems) (.l 1 eStr elems))/\(Imp (.v (.string sep)) (.v (.string sep)))/\K_:=⟨⟨p0_,p1_⟩,Imp.refl _,Imp.refl _,k_⟩
abbrev kh34 (elems:List Za) (sep:Za):Hint false Tryz.prog:=.call 34 (S34 elems sep) (ok34 elems sep) none
def F46 (line:Za):Za×Bool :=
 bif (!(F68 line).2) then (Zc,false) else (bif (!(F33 (F68 line).1).2) then (Zc,false) else ((F34 (F68 line).1 Zb),true))
theorem fi46 (line:Za) (r:Za×Bool) (hF:r=(F46 line)):((.string r.1:Value)=.string (F46 line).1)/\((.bool r.2:Value)=.bool (F46 line).2)/\True:=by cases hF; exact ⟨rfl,rfl,trivial⟩
def S46 (line:Za):Spec:=⟨[.r (.c (.v (.string line)))],.tu [.v (.string (F46 line).1),.v (.bool (F46 line).2)],line.size<=1048576⟩
theorem ok46 (line:Za):(S46 line).ok Tryz.prog 46 false :=
 fnG_ok mixed (fn:=Tryz.f46) (ct:=.seq .no (.seq (.reg [(1,kh68 line)]) (.seq (.seq .no (.cond (.seq .no .no) .no)) (.seq (.seq (.reg [(1,kh33 (F68 line).1)]) (.seq .no (.cond (.seq .no .no) .no))) (.seq (.reg [(1,kh34 (F68 line).1 Zb)]) .no))))) Tryz.func46 (fun (hpre0:line.size<=1048576)=>kc68 line uu0 (fun gv1 gv2=>ifb (!(F68 line).2) (fun h3=>have _:=(notET h3); fi46 line (Zc,false) (condT h3 rfl)) (fun h3=>have _:=(notEF h3); kc33 (F68 line).1 uu62 (ifb (!(F33 (F68 line).1).2) (fun h4=>have _:=(notET h4); fi46 line (Zc,false) (condF h3 (condT h4 rfl))) (fun h4=>have _:=(notEF h4); kc34 (F68 line).1 Zb uu63 uu63 (fi46 line ((F34 (F68 line).1 Zb),true) (condF h3 (condF h4 rfl)))))))) uu2
theorem kc43 (line:Za) {K_:Prop} (p0_:line.size<=1048576) (k_:((F43 line).1.length<=8)->(∀ k:Nat,((F43 line).1.getD k default).size<=1048576)->K_):(line.size<=1048576)/\(Imp (.v (.string line)) (.v (.string line)))/\K_:=⟨p0_,Imp.refl _,k_ (specwords_len line) (specwords_sz line)⟩
abbrev kh43 (line:Za):Hint true Tryz.prog:=.call 43 (S43 line) (ok43 line) none
theorem kg94 {K_:Prop} (c_ b_:Bool) (w1:List Za) (p_:c_=b_->(∀ k:Nat,(w1.getD k default).size<=1048576)) (k_:K_):(c_=b_->(∀ k:Nat,(w1.getD k default).size<=1048576))/\(c_=b_->Imp (.l 1 eStr w1) (.l 1 eStr w1))/\K_:=⟨p_,fun _=>Imp.refl _,k_⟩
abbrev kh94 (w1:List Za):Hint true Tryz.prog:=.call 94 (S94 w1) (ok94 w1) none
theorem kc95 (list:List Za) (with':Za) {K_:Prop} (p0_:list.length<=8) (p1_:∀ k:Nat,(list.getD k default).size<=1048576) (p2_:with'.size<=1) (k_:K_):(list.length<=8/\(∀ k:Nat,(list.getD k default).size<=1048576)/\with'.size<=1)/\(Imp (.l 1 eStr list) (.l 1 eStr list))/\(Imp (.v (.string with')) (.v (.string with')))/\K_:=⟨⟨p0_,p1_,p2_⟩,Imp.refl _,Imp.refl _,k_⟩
abbrev kh95 (list:List Za) (with':Za):Hint true Tryz.prog:=.call 95 (S95 list with') (ok95 list with') none
def F65 (line:Za):Za×Bool :=
 bif (bif (!(F43 line).2) then true else (!(F94 (F43 line).1))) then (Zc,false) else ((F95 (F43 line).1 Zb),true)
theorem fi65 (line:Za) (r:Za×Bool) (hF:r=(F65 line)):((.string r.1:Value)=.string (F65 line).1)/\((.bool r.2:Value)=.bool (F65 line).2)/\True:=by cases hF; exact ⟨rfl,rfl,trivial⟩
def S65 (line:Za):Spec:=⟨[.r (.c (.v (.string line)))],.tu [.v (.string (F65 line).1),.v (.bool (F65 line).2)],line.size<=1048576⟩
theorem ok65 (line:Za):(S65 line).ok Tryz.prog 65 :=
 fnG_ok mixed (fn:=Tryz.f65) (ct:=.seq .no (.seq (.reg [(1,kh43 line)]) (.seq (.seq (.reg [(4,kh94 (F43 line).1)]) (.cond (.seq .no .no) .no)) (.seq (.reg [(1,kh95 (F43 line).1 Zb)]) .no)))) Tryz.func65 (fun (hpre0:line.size<=1048576)=>kc43 line uu0 (fun gv1 gv2=>kg94 (!(F43 line).2) false (F43 line).1 (fun k3=>have _:=(notEF k3); uu62) (ifb (bif (!(F43 line).2) then true else (!(F94 (F43 line).1))) (fun h4=>fi65 line (Zc,false) (condT h4 rfl)) (fun h4=>have _:=(notEF (orF1 h4)); kc95 (F43 line).1 Zb uu48 uu48 uu48 (fi65 line ((F95 (F43 line).1 Zb),true) (condF h4 rfl)))))) uu2
theorem line_same (line:Za):F46 line=F65 line:=by
 unfold F46 F65
 rw [words_same,(form_same _).1,specJoin_eq]
 cases (F43 line).2 <;> cases F94 (F43 line).1 <;> rfl
def hostP (w:List Za):Prop:=(w.getD 0 default).data.toList=[104,111,115,116]/\w.length=2/\F124 (w.getD 1 default)=true
def userP (w:List Za):Prop:=(w.getD 0 default).data.toList=[117,115,101,114]/\w.length=3/\F124 (w.getD 1 default)=true/\F125 (w.getD 2 default)=true
def portP (w:List Za):Prop:=(w.getD 0 default).data.toList=[112,111,114,116]/\(w.length=3\/w.length=5/\(w.getD 3 default).data.toList=[105,110]/\F124 (w.getD 4 default)=true)/\0<=F123 (w.getD 1 default)/\F123 (w.getD 1 default)<=7/\F127 (w.getD 2 default)=true
def ruleP (w:List Za):Prop:=(w.getD 0 default).data.toList=[114,117,108,101]/\w.length=7/\F124 (w.getD 1 default)=true/\0<=F123 (w.getD 2 default)/\F123 (w.getD 2 default)<=99/\((w.getD 3 default).data.toList=[112,101,114,109,105,116]\/(w.getD 3 default).data.toList=[100,101,110,121])/\F127 (w.getD 4 default)=true/\F127 (w.getD 5 default)=true/\0<=F123 (w.getD 6 default)/\F123 (w.getD 6 default)<=7
def routeP (w:List Za):Prop:=(w.getD 0 default).data.toList=[114,111,117,116,101]/\w.length=3/\F127 (w.getD 1 default)=true/\F120 (w.getD 2 default)>=0
def peerP (w:List Za):Prop:=(w.getD 0 default).data.toList=[112,101,101,114]/\w.length=4/\F120 (w.getD 1 default)>=0/\1<=F123 (w.getD 2 default)/\F123 (w.getD 2 default)<=9/\1<=F123 (w.getD 3 default)/\F123 (w.getD 3 default)<=999999
def natP (w:List Za):Prop:=(w.getD 0 default).data.toList=[110,97,116]/\w.length=5/\F127 (w.getD 1 default)=true/\F120 (w.getD 2 default)>=0/\1<=F123 (w.getD 3 default)/\F123 (w.getD 3 default)<=65535/\1<=F123 (w.getD 4 default)/\F123 (w.getD 4 default)<=65535
def doorP (w:List Za):Prop:=(w.getD 0 default).data.toList=[100,111,111,114]/\w.length=5/\1<=F123 (w.getD 1 default)/\F123 (w.getD 1 default)<=7/\1<=F123 (w.getD 2 default)/\F123 (w.getD 2 default)<=65535/\F120 (w.getD 3 default)>=0/\1<=F123 (w.getD 4 default)/\F123 (w.getD 4 default)<=65535
def FormP (w:List Za):Prop:=hostP w\/userP w\/portP w\/ruleP w\/routeP w\/peerP w\/natP w\/doorP w
theorem form_cases (w:List Za) (hF:F94 w=true):FormP w:=by
 have hw:w.length≠0:=fun h=>by
  obtain rfl:=Rq h
  exact G4 hF
 have h0:((w.length:Int)==0)=false:=by rw [Qx]; omega
 have e0:w.getD (Int.toNat 0) default=w.getD 0 default:=rfl
 have e1:w.getD (Int.toNat 1) default=w.getD 1 default:=rfl
 have e2:w.getD (Int.toNat 2) default=w.getD 2 default:=rfl
 have e3:w.getD (Int.toNat 3) default=w.getD 3 default:=rfl
 have e4:w.getD (Int.toNat 4) default=w.getD 4 default:=rfl
 have e5:w.getD (Int.toNat 5) default=w.getD 5 default:=rfl
 have e6:w.getD (Int.toNat 6) default=w.getD 6 default:=rfl
 have n2:=len_dec w 2
 have n3:=len_dec w 3
 have n4:=len_dec w 4
 have n5:=len_dec w 5
 have n7:=len_dec w 7
 simp only [Int.cast_ofNat_Int] at n2 n3 n4 n5 n7
 unfold F94 at hF
 simp only [h0,Qh,e0,e1,e2,e3,e4,e5,e6,n2,n3,n4,n5,n7] at hF
 rcases Sg ((w.getD 0 default).data.toList=[104,111,115,116]) with h | hn0
 ·simp only [blit,h,hd00,Qc,Qh,cb1,cb2,Qn,Sb,Rc,Sp,and_assoc] at hF
  exact Or.inl ⟨h,hF⟩
 rcases Sg ((w.getD 0 default).data.toList=[117,115,101,114]) with h | hn1
 ·simp only [blit,h,hd10,hd11,Qc,Qh,cb1,cb2,Qn,Sb,Rc,Sp,and_assoc] at hF
  exact Or.inr (Or.inl ⟨h,hF⟩)
 rcases Sg ((w.getD 0 default).data.toList=[112,111,114,116]) with h | hn2
 ·simp only [blit,h,hd20,hd21,hd22,Qc,Qh,cb1,cb2,Qn,Sb,Rc,Sp,and_assoc] at hF
  exact Or.inr (Or.inr (Or.inl ⟨h,hF⟩))
 rcases Sg ((w.getD 0 default).data.toList=[114,117,108,101]) with h | hn3
 ·simp only [blit,h,hd30,hd31,hd32,hd33,Qc,Qh,cb1,cb2,Qn,Sb,Rc,Sp,and_assoc] at hF
  exact Or.inr (Or.inr (Or.inr (Or.inl ⟨h,hF⟩)))
 rcases Sg ((w.getD 0 default).data.toList=[114,111,117,116,101]) with h | hn4
 ·simp only [blit,h,hd40,hd41,hd42,hd43,hd44,Qc,Qh,cb1,cb2,Qn,Sb,Rc,Sp,and_assoc] at hF
  exact Or.inr (Or.inr (Or.inr (Or.inr (Or.inl ⟨h,hF⟩))))
 rcases Sg ((w.getD 0 default).data.toList=[112,101,101,114]) with h | hn5
 ·simp only [blit,h,hd50,hd51,hd52,hd53,hd54,hd55,Qc,Qh,cb1,cb2,Qn,Sb,Rc,Sp,and_assoc] at hF
  exact Or.inr (Or.inr (Or.inr (Or.inr (Or.inr (Or.inl ⟨h,hF⟩)))))
 rcases Sg ((w.getD 0 default).data.toList=[110,97,116]) with h | hn6
 ·simp only [blit,h,hd60,hd61,hd62,hd63,hd64,hd65,hd66,Qc,Qh,cb1,cb2,Qn,Sb,Rc,Sp,and_assoc] at hF
  exact Or.inr (Or.inr (Or.inr (Or.inr (Or.inr (Or.inr (Or.inl ⟨h,hF⟩))))))
 rcases Sg ((w.getD 0 default).data.toList=[100,111,111,114]) with h | hn7
 ·simp only [blit,h,hd70,hd71,hd72,hd73,hd74,hd75,hd76,hd77,Qc,Qh,cb1,cb2,Qn,Sb,Rc,Sp,and_assoc] at hF
  exact Or.inr (Or.inr (Or.inr (Or.inr (Or.inr (Or.inr (Or.inr (⟨h,hF⟩)))))))
 exfalso
 simp only [blit,Qx.2 hn0,Qx.2 hn1,Qx.2 hn2,Qx.2 hn3,Qx.2 hn4,Qx.2 hn5,Qx.2 hn6,Qx.2 hn7,Qh] at hF
 exact G4 hF
theorem form_two_le (w:List Za) (h:FormP w):2<=w.length/\w.length<=7:=by
 unfold FormP hostP userP portP ruleP routeP peerP natP doorP at h
 omega
theorem form_key_le (w:List Za) (h:FormP w):1<=keyN (w.getD 0 default).data.toList/\keyN (w.getD 0 default).data.toList<=3/\keyN (w.getD 0 default).data.toList<=(w.length:Int):=by
 rcases h with h | h | h | h | h | h | h | h
 ·have hk:keyN (w.getD 0 default).data.toList=1:=by rw [h.1]; decide
  unfold hostP at h
  omega
 ·have hk:keyN (w.getD 0 default).data.toList=2:=by rw [h.1]; decide
  unfold userP at h
  omega
 ·have hk:keyN (w.getD 0 default).data.toList=2:=by rw [h.1]; decide
  unfold portP at h
  omega
 ·have hk:keyN (w.getD 0 default).data.toList=3:=by rw [h.1]; decide
  unfold ruleP at h
  omega
 ·have hk:keyN (w.getD 0 default).data.toList=3:=by rw [h.1]; decide
  unfold routeP at h
  omega
 ·have hk:keyN (w.getD 0 default).data.toList=2:=by rw [h.1]; decide
  unfold peerP at h
  omega
 ·have hk:keyN (w.getD 0 default).data.toList=1:=by rw [h.1]; decide
  unfold natP at h
  omega
 ·have hk:keyN (w.getD 0 default).data.toList=3:=by rw [h.1]; decide
  unfold doorP at h
  omega
theorem splitL_no (c:UInt8):∀ (l:List UInt8),∀ w∈splitL c l,c ∉ w
 | [],w,h=>by rw [splitL,Qu] at h; rw [h]; exact Rd
 | b :: l,w,h=>by
  have ih:=splitL_no c l
  rw [splitL] at h
  by_cases hb:b=c
  ·rw [if_pos hb] at h
   rcases Qr.1 h with rfl | h
   ·exact Rd
   ·exact ih w h
  ·rw [if_neg hb] at h
   have hbc:¬ c=b:=fun e=>hb e.symm
   cases hs:splitL c l with
   | nil =>
    rw [hs] at h
    rw [Qu] at h; rw [h]
    intro hm; rcases Qr.1 hm with e | e
    ·exact hbc e
    ·cases e
   | cons p ps =>
    rw [hs] at h ih
    rcases Qr.1 h with rfl | h
    ·intro hm; rcases Qr.1 hm with e | e
     ·exact hbc e
     ·exact ih p Ql e
    ·exact ih w (Qj _ h)
theorem split_join (c:UInt8):∀ (ws:List (List UInt8)),ws≠[]->(∀ w∈ws,c ∉ w)->splitL c (Lib.join ws [c])=ws
 | [],h,_=>absurd rfl h
 | [x],_,h=>by rw [Lib.join_one,splitL_none (h x Ql)]
 | x :: y :: r,_,h=>by
  have ih:=split_join c (y :: r) uu18 fun w hw=>h w (Qj _ hw)
  rw [Lib.join_cons]
  have e:Lib.joinTail [c] (y :: r)=c :: Lib.join (y :: r) [c]:=by rw [Lib.join_cons]; rfl
  rw [e,splitL_app _ (h x Ql),ih]
theorem word_no (line:Za):∀ w∈(F43 line).1,(32:UInt8) ∉ w.data.toList/\w.data.toList≠[]/\w.size<=24:=by
 rw [spec_words]
 unfold wordsOf fitW
 cases h:(((cut3 line Zd).1.data.toList.all okB)&&(decide ((wordsL (cut3 line Zd).1.data.toList).length<=8)&&(wordsL (cut3 line Zd).1.data.toList).all fun w=>decide (w.length<=24))) with
 | false=>intro w hw; rw [Qh] at hw; cases hw
 | true =>
  rw [Qc]
  simp only [Qn] at h
  intro w hw
  obtain ⟨l,hl,rfl⟩:=R7.1 hw
  have h1:=Qb (Re.1 h.2.2 l hl)
  have h2:=Hc.1 hl
  refine ⟨splitL_no 32 _ l h2.1,?_,h1⟩
  intro e
  have e':l=[]:=e
  rw [e'] at h2
  exact G4 h2.2
structure KeptP (line:Za) (w:List Za):Prop where
 words:F43 line=(w,true)
 form:FormP w
 joins:joinS w Zb=line
 splits:splitS line Zb=w
 no:∀ x∈w,(32:UInt8) ∉ x.data.toList/\x.data.toList≠[]/\x.size<=24
theorem join_split (w:List Za) (h0:w≠[]) (h:∀ x∈w,(32:UInt8) ∉ x.data.toList):splitS (joinS w Zb) Zb=w:=by
 rw [splitS_mk]
 have e:(joinS w Zb).data.toList=Lib.join (w.map (·.data.toList)) [32]:=rfl
 rw [e,split_join 32 _ (by simpa using h0) (fun x hx=>by obtain ⟨y,hy,rfl⟩:=R7.1 hx; exact h y hy),Gw]
 exact (Tv fun x _=>mkB_self x).trans (Hb _)
theorem specLine_eq (line:Za):F65 line=bif (F43 line).2&&F94 (F43 line).1 then (joinS (F43 line).1 Zb,true) else (Zc,false):=by
 unfold F65
 rw [specJoin_eq]
 cases (F43 line).2 <;> cases F94 (F43 line).1 <;> rfl
theorem beq_ba (a b:Za):(a.toList==b.toList)=decide (a=b):=by
 rw [byteToList,byteToList]
 by_cases h:a=b
 ·rw [h,Qs rfl]; simp
 ·rw [Qq h,Qx]; exact fun e=>h (ba_ext e)
theorem kept_of (line:Za) (h:(F65 line).2=true/\(F65 line).1=line):KeptP line (F43 line).1:=by
 rw [specLine_eq] at h
 cases hc:((F43 line).2&&F94 (F43 line).1) with
 | false=>rw [hc,Qh] at h; exact absurd h.1 G4
 | true =>
  rw [hc,Qc] at h
  simp only [Qn] at hc
  have hf:=form_cases _ hc.2
  have hn:=word_no line
  refine ⟨Prod.ext rfl hc.1,hf,h.2,?_,hn⟩
  have hne:(F43 line).1≠[]:=fun e=>by have:=(form_two_le _ hf).1; rw [e] at this; simp at this
  have:=join_split _ hne fun x hx=>(hn x hx).1
  have e:joinS (F43 line).1 Zb=line:=h.2
  rwa [e] at this
theorem kc46 (line:Za) {K_:Prop} (p0_:line.size<=1048576) (k_:K_):(line.size<=1048576)/\(Imp (.v (.string line)) (.v (.string line)))/\K_:=⟨p0_,Imp.refl _,k_⟩
abbrev kh46 (line:Za):Hint false Tryz.prog:=.call 46 (S46 line) (ok46 line) none
def F31 (line:Za):Bool :=
 (bif (F46 line).2 then ((F46 line).1.toList==line.toList) else false)
def S31 (line:Za):Spec:=⟨[.r (.c (.v (.string line)))],.v (.bool (F31 line)),line.size<=1048576⟩
theorem ok31 (line:Za):(S31 line).ok Tryz.prog 31 false :=
 fnG_ok mixed (fn:=Tryz.f31) (ct:=.seq .no (.seq (.reg [(1,kh46 line)]) (.seq .no .no))) Tryz.func31 (fun (hpre0:line.size<=1048576)=>kc46 line uu0 (fiB (bif (F46 line).2 then ((F46 line).1.toList==line.toList) else false) (F31 line) rfl)) uu2
theorem kc65 (line:Za) {K_:Prop} (p0_:line.size<=1048576) (k_:K_):(line.size<=1048576)/\(Imp (.v (.string line)) (.v (.string line)))/\K_:=⟨p0_,Imp.refl _,k_⟩
abbrev kh65 (line:Za):Hint true Tryz.prog:=.call 65 (S65 line) (ok65 line) none
def F42 (line:Za):Bool :=
 (bif (F65 line).2 then ((F65 line).1.toList==line.toList) else false)
def S42 (line:Za):Spec:=⟨[.r (.c (.v (.string line)))],.v (.bool (F42 line)),line.size<=1048576⟩
theorem ok42 (line:Za):(S42 line).ok Tryz.prog 42 :=
 fnG_ok mixed (fn:=Tryz.f42) (ct:=.seq .no (.seq (.reg [(1,kh65 line)]) (.seq .no .no))) Tryz.func42 (fun (hpre0:line.size<=1048576)=>kc65 line uu0 (fiB (bif (F65 line).2 then ((F65 line).1.toList==line.toList) else false) (F42 line) rfl)) uu2
theorem keptSo_eq (line:Za):F31 line=F42 line:=by
 unfold F31 F42
 rw [line_same]
theorem kept_iff (line:Za):F42 line=true↔(F65 line).2=true/\(F65 line).1=line:=by
 unfold F42
 rw [cb1,beq_ba,Qn,Rc]
theorem keptP (line:Za) (h:F42 line=true):KeptP line (F43 line).1:=kept_of line ((kept_iff line).1 h)
theorem not_false {b:Bool} (h:(!b)=false):b=true:=by cases b; exact h.symm; rfl
theorem kix_n (line:Za) (hk:(!F42 line)=false):(2:Int)<=((F43 line).1.length:Int):=by
 have:=(form_two_le _ (keptP line (not_false hk)).form).1; omega
theorem kix0 (line:Za) (hk:(!F42 line)=false):(0:Int)<=0/\(0:Int)<((F43 line).1.length:Int):=by have:=kix_n line hk; omega
theorem kix1 (line:Za) (hk:(!F42 line)=false):(0:Int)<=1/\(1:Int)<((F43 line).1.length:Int):=by have:=kix_n line hk; omega
theorem kix_rule (line:Za) (hk:(!F42 line)=false) (h:(((F43 line).1.getD (Int.toNat 0) default).toList==Zh.toList)=true):(0:Int)<=2/\(2:Int)<((F43 line).1.length:Int):=by
 have hf:=(keptP line (not_false hk)).form
 rw [blit,Sp] at h
 have h:((F43 line).1.getD 0 default).data.toList=[114,117,108,101]:=h
 unfold FormP hostP userP portP ruleP routeP peerP natP doorP at hf
 simp only [h] at hf
 simp at hf
 omega
theorem kix_door (line:Za) (hk:(!F42 line)=false) (h:(((F43 line).1.getD (Int.toNat 0) default).toList==Zj.toList)=true):(0:Int)<=2/\(2:Int)<((F43 line).1.length:Int):=by
 have hf:=(keptP line (not_false hk)).form
 rw [blit,Sp] at h
 have h:((F43 line).1.getD 0 default).data.toList=[100,111,111,114]:=h
 unfold FormP hostP userP portP ruleP routeP peerP natP doorP at hf
 simp only [h] at hf
 simp at hf
 omega
theorem form_true (line:Za) (h:F42 line=true):F94 (F43 line).1=true:=by
 have:=((kept_iff line).1 h).1
 rw [specLine_eq] at this
 cases hc:F94 (F43 line).1 with
 | true=>rfl
 | false=>rw [hc,Sj,Qh] at this; exact this
theorem kept_form (line:Za) (h:F42 line=true):(F33 (F32 line Zb)).1.key=keyN (((F43 line).1.getD 0 default).data.toList)/\F32 line Zb=(F43 line).1:=by
 have hk:=keptP line h
 have e:F32 line Zb=(F43 line).1:=hk.splits
 rw [e]
 obtain ⟨f1,f2⟩:=form_same (F43 line).1
 exact ⟨f2 (f1.trans (form_true line h)),rfl⟩
theorem kept_key (line:Za) (h:F31 line=true):0<=((F33 (F32 line Zb)).1).key/\((F33 (F32 line Zb)).1).key<=((F32 line Zb).length:Int):=by
 rw [keptSo_eq] at h
 obtain ⟨k1,k2⟩:=kept_form line h
 have:=form_key_le _ (keptP line h).form
 rw [k1,k2]
 omega
theorem split_sz (line:Za) (h:line.size<=1048576):∀ k:Nat,((F32 line Zb).getD k default).size<=1048576:=fun k=>by
 show ((splitS line Zb).getD k default).size<=1048576
 rw [splitS_mk]
 refine getD_mk_le _ _ (fun w hw=>?_) k
 have:=splitL_le 32 _ w hw
 have hl:line.data.toList.length=line.size:=Q9
 omega
theorem take_getD (ws:List Za) (n m:Nat) (h:∀ k:Nat,(ws.getD k default).size<=m) (k:Nat):((ws.take n).getD k default).size<=m:=by
 rw [Qd,Rg]
 by_cases hk:k<n
 ·rw [if_pos hk,<- Qd]; exact h k
 ·rw [if_neg hk]; exact Rj _
theorem kept_join (line:Za) (hk:(!F31 line)=false) :
  ((F32 line Zb).take (Int.toNat (((F33 (F32 line Zb)).1).key))).length<=140737488355328 /\
  (joinS ((F32 line Zb).take (Int.toNat (((F33 (F32 line Zb)).1).key))) Zb).size<=140737488355328:=by
 have h:=not_false hk
 rw [keptSo_eq] at h
 obtain ⟨k1,k2⟩:=kept_form line h
 rw [k2]
 have hl:(((F43 line).1).take (Int.toNat (((F33 ((F43 line).1)).1).key))).length<=8:=by
  rw [R4]
  have:=specwords_len line
  omega
 exact ⟨Q0 hl uu1,join_small _ _ (take_getD _ _ _ (specwords_sz line)) hl uu1⟩
theorem kc31 (line:Za) {K_:Prop} (p0_:line.size<=1048576) (k_:K_):(line.size<=1048576)/\(Imp (.v (.string line)) (.v (.string line)))/\K_:=⟨p0_,Imp.refl _,k_⟩
abbrev kh31 (line:Za):Hint false Tryz.prog:=.call 31 (S31 line) (ok31 line) none
def F16 (line:Za):Za :=
 bif (!(F31 line)) then Zc else (F34 ((F32 line Zb).take (F33 (F32 line Zb)).1.key.toNat) Zb)
def S16 (line:Za):Spec:=⟨[.r (.c (.v (.string line)))],.v (.string (F16 line)),line.size<=1048576⟩
theorem ok16 (line:Za):(S16 line).ok Tryz.prog 16 false :=
 fnG_ok mixed (fn:=Tryz.f16) (ct:=.seq .no (.seq (.seq (.reg [(1,kh31 line)]) (.cond (.seq .no .no) .no)) (.seq (.reg [(1,kh32f line Zb)]) (.seq (.reg [(1,kh33 (F32 line Zb))]) (.seq (.reg [(4,kh34 ((F32 line Zb).take (F33 (F32 line Zb)).1.key.toNat) Zb)]) .no))))) Tryz.func16 (fun (hpre0:line.size<=1048576)=>kc31 line uu0 (ifb (!(F31 line)) (fun h1=>fiS Zc (F16 line) (condT h1 rfl)) (fun h1=>have _:0<=(F33 (F32 line Zb)).1.key/\(F33 (F32 line Zb)).1.key<=((F32 line Zb).length:Int):=kept_key line (notEF h1); kc32 line Zb uu0 uu1 uu1 uu1 (fun gv2 gv3=>kc33 (F32 line Zb) (by exact split_sz line (by omega)) (ai (uu0:0<=(0:Int)/\(0:Int)<=(F33 (F32 line Zb)).1.key/\(F33 (F32 line Zb)).1.key<=((F32 line Zb).length:Int)) (kc34 ((F32 line Zb).take (F33 (F32 line Zb)).1.key.toNat) Zb (by exact (kept_join _ (by assumption)).1) (by exact (kept_join _ (by assumption)).2) (fiS (F34 ((F32 line Zb).take (F33 (F32 line Zb)).1.key.toNat) Zb) (F16 line) (condF h1 rfl)))))))) uu2
theorem kc42 (line:Za) {K_:Prop} (p0_:line.size<=1048576) (k_:K_):(line.size<=1048576)/\(Imp (.v (.string line)) (.v (.string line)))/\K_:=⟨p0_,Imp.refl _,k_⟩
abbrev kh42 (line:Za):Hint true Tryz.prog:=.call 42 (S42 line) (ok42 line) none
def F26 (line:Za):Za :=
 bif (!(F42 line)) then Zc else (bif (((F43 line).1.getD (Int.toNat 0) default).toList==Zn.toList) then (bif (((F43 line).1.getD (Int.toNat 0) default).toList==Zn.toList) then ((F43 line).1.getD (Int.toNat 0) default) else (bif (((F43 line).1.getD (Int.toNat 0) default).toList==Zk.toList) then (bif (((F43 line).1.getD (Int.toNat 0) default).toList==Zk.toList) then ((((F43 line).1.getD (Int.toNat 0) default)++Zb)++((F43 line).1.getD (Int.toNat 1) default)) else (bif (((F43 line).1.getD (Int.toNat 0) default).toList==Zh.toList) then (bif (((F43 line).1.getD (Int.toNat 0) default).toList==Zh.toList) then ((((((F43 line).1.getD (Int.toNat 0) default)++Zb)++((F43 line).1.getD (Int.toNat 1) default))++Zb)++((F43 line).1.getD (Int.toNat 2) default)) else line) else (bif (((F43 line).1.getD (Int.toNat 0) default).toList==Zj.toList) then ((((((F43 line).1.getD (Int.toNat 0) default)++Zb)++((F43 line).1.getD (Int.toNat 1) default))++Zb)++((F43 line).1.getD (Int.toNat 2) default)) else line))) else (bif (((F43 line).1.getD (Int.toNat 0) default).toList==Zf.toList) then (bif (((F43 line).1.getD (Int.toNat 0) default).toList==Zf.toList) then ((((F43 line).1.getD (Int.toNat 0) default)++Zb)++((F43 line).1.getD (Int.toNat 1) default)) else (bif (((F43 line).1.getD (Int.toNat 0) default).toList==Zh.toList) then (bif (((F43 line).1.getD (Int.toNat 0) default).toList==Zh.toList) then ((((((F43 line).1.getD (Int.toNat 0) default)++Zb)++((F43 line).1.getD (Int.toNat 1) default))++Zb)++((F43 line).1.getD (Int.toNat 2) default)) else line) else (bif (((F43 line).1.getD (Int.toNat 0) default).toList==Zj.toList) then ((((((F43 line).1.getD (Int.toNat 0) default)++Zb)++((F43 line).1.getD (Int.toNat 1) default))++Zb)++((F43 line).1.getD (Int.toNat 2) default)) else line))) else (bif (((F43 line).1.getD (Int.toNat 0) default).toList==Zp.toList) then ((((F43 line).1.getD (Int.toNat 0) default)++Zb)++((F43 line).1.getD (Int.toNat 1) default)) else (bif (((F43 line).1.getD (Int.toNat 0) default).toList==Zh.toList) then (bif (((F43 line).1.getD (Int.toNat 0) default).toList==Zh.toList) then ((((((F43 line).1.getD (Int.toNat 0) default)++Zb)++((F43 line).1.getD (Int.toNat 1) default))++Zb)++((F43 line).1.getD (Int.toNat 2) default)) else line) else (bif (((F43 line).1.getD (Int.toNat 0) default).toList==Zj.toList) then ((((((F43 line).1.getD (Int.toNat 0) default)++Zb)++((F43 line).1.getD (Int.toNat 1) default))++Zb)++((F43 line).1.getD (Int.toNat 2) default)) else line)))))) else (bif (((F43 line).1.getD (Int.toNat 0) default).toList==Ze.toList) then ((F43 line).1.getD (Int.toNat 0) default) else (bif (((F43 line).1.getD (Int.toNat 0) default).toList==Zk.toList) then (bif (((F43 line).1.getD (Int.toNat 0) default).toList==Zk.toList) then ((((F43 line).1.getD (Int.toNat 0) default)++Zb)++((F43 line).1.getD (Int.toNat 1) default)) else (bif (((F43 line).1.getD (Int.toNat 0) default).toList==Zh.toList) then (bif (((F43 line).1.getD (Int.toNat 0) default).toList==Zh.toList) then ((((((F43 line).1.getD (Int.toNat 0) default)++Zb)++((F43 line).1.getD (Int.toNat 1) default))++Zb)++((F43 line).1.getD (Int.toNat 2) default)) else line) else (bif (((F43 line).1.getD (Int.toNat 0) default).toList==Zj.toList) then ((((((F43 line).1.getD (Int.toNat 0) default)++Zb)++((F43 line).1.getD (Int.toNat 1) default))++Zb)++((F43 line).1.getD (Int.toNat 2) default)) else line))) else (bif (((F43 line).1.getD (Int.toNat 0) default).toList==Zf.toList) then (bif (((F43 line).1.getD (Int.toNat 0) default).toList==Zf.toList) then ((((F43 line).1.getD (Int.toNat 0) default)++Zb)++((F43 line).1.getD (Int.toNat 1) default)) else (bif (((F43 line).1.getD (Int.toNat 0) default).toList==Zh.toList) then (bif (((F43 line).1.getD (Int.toNat 0) default).toList==Zh.toList) then ((((((F43 line).1.getD (Int.toNat 0) default)++Zb)++((F43 line).1.getD (Int.toNat 1) default))++Zb)++((F43 line).1.getD (Int.toNat 2) default)) else line) else (bif (((F43 line).1.getD (Int.toNat 0) default).toList==Zj.toList) then ((((((F43 line).1.getD (Int.toNat 0) default)++Zb)++((F43 line).1.getD (Int.toNat 1) default))++Zb)++((F43 line).1.getD (Int.toNat 2) default)) else line))) else (bif (((F43 line).1.getD (Int.toNat 0) default).toList==Zp.toList) then ((((F43 line).1.getD (Int.toNat 0) default)++Zb)++((F43 line).1.getD (Int.toNat 1) default)) else (bif (((F43 line).1.getD (Int.toNat 0) default).toList==Zh.toList) then (bif (((F43 line).1.getD (Int.toNat 0) default).toList==Zh.toList) then ((((((F43 line).1.getD (Int.toNat 0) default)++Zb)++((F43 line).1.getD (Int.toNat 1) default))++Zb)++((F43 line).1.getD (Int.toNat 2) default)) else line) else (bif (((F43 line).1.getD (Int.toNat 0) default).toList==Zj.toList) then ((((((F43 line).1.getD (Int.toNat 0) default)++Zb)++((F43 line).1.getD (Int.toNat 1) default))++Zb)++((F43 line).1.getD (Int.toNat 2) default)) else line)))))))
def S26 (line:Za):Spec:=⟨[.r (.c (.v (.string line)))],.v (.string (F26 line)),line.size<=1048576⟩
theorem ok26 (line:Za):(S26 line).ok Tryz.prog 26 :=
 fnG_ok mixed (fn:=Tryz.f26) (ct:=.seq .no (.seq (.seq (.reg [(1,kh42 line)]) (.cond (.seq .no .no) .no)) (.seq (.reg [(1,kh43 line)]) (.seq (.seq .no (.blk (.seq (.seq .no (.cond .no .no)) (.cond (.seq .no .no) (.seq (.seq .no (.cond .no (.seq .no (.cond .no .no)))) (.cond (.seq .no .no) (.seq (.seq .no (.cond .no .no)) (.cond (.seq .no .no) .no)))))))) (.seq .no .no))))) Tryz.func26 (fun (hpre0:line.size<=1048576)=>kc42 line uu0 (ifb (!(F42 line)) (fun h1=>fiS Zc (F26 line) (condT h1 rfl)) (fun h1=>kc43 line uu0 (fun gv2 gv3=>ai (uu10:0<=(0:Int)/\(0:Int)<((F43 line).1.length:Int)) (ifb (((F43 line).1.getD (Int.toNat 0) default).toList==Zn.toList) (fun h4=>ifb (((F43 line).1.getD (Int.toNat 0) default).toList==Zn.toList) (fun h5=>ai (uu10:0<=(0:Int)/\(0:Int)<((F43 line).1.length:Int)) (fiS ((F43 line).1.getD (Int.toNat 0) default) (F26 line) (condF h1 (condT h4 (condT h5 rfl))))) (fun h5=>ifb (((F43 line).1.getD (Int.toNat 0) default).toList==Zk.toList) (fun h6=>ifb (((F43 line).1.getD (Int.toNat 0) default).toList==Zk.toList) (fun h7=>ai (uu10:0<=(0:Int)/\(0:Int)<((F43 line).1.length:Int)) (ai (uu4:((((F43 line).1.getD (Int.toNat 0) default).size+Zb.size:Nat):Int)<=9223372036854775807) (ai (uu14:0<=(1:Int)/\(1:Int)<((F43 line).1.length:Int)) (ai (uu4:(((((F43 line).1.getD (Int.toNat 0) default)++Zb).size+((F43 line).1.getD (Int.toNat 1) default).size:Nat):Int)<=9223372036854775807) (fiS ((((F43 line).1.getD (Int.toNat 0) default)++Zb)++((F43 line).1.getD (Int.toNat 1) default)) (F26 line) (condF h1 (condT h4 (condF h5 (condT h6 (condT h7 rfl)))))))))) (fun h7=>ifb (((F43 line).1.getD (Int.toNat 0) default).toList==Zh.toList) (fun h8=>ifb (((F43 line).1.getD (Int.toNat 0) default).toList==Zh.toList) (fun h9=>ai (uu10:0<=(0:Int)/\(0:Int)<((F43 line).1.length:Int)) (ai (uu4:((((F43 line).1.getD (Int.toNat 0) default).size+Zb.size:Nat):Int)<=9223372036854775807) (ai (uu14:0<=(1:Int)/\(1:Int)<((F43 line).1.length:Int)) (ai (uu4:(((((F43 line).1.getD (Int.toNat 0) default)++Zb).size+((F43 line).1.getD (Int.toNat 1) default).size:Nat):Int)<=9223372036854775807) (ai (uu4:((((((F43 line).1.getD (Int.toNat 0) default)++Zb)++((F43 line).1.getD (Int.toNat 1) default)).size+Zb.size:Nat):Int)<=9223372036854775807) (ai (uu25:0<=(2:Int)/\(2:Int)<((F43 line).1.length:Int)) (ai (uu4:(((((((F43 line).1.getD (Int.toNat 0) default)++Zb)++((F43 line).1.getD (Int.toNat 1) default))++Zb).size+((F43 line).1.getD (Int.toNat 2) default).size:Nat):Int)<=9223372036854775807) (fiS ((((((F43 line).1.getD (Int.toNat 0) default)++Zb)++((F43 line).1.getD (Int.toNat 1) default))++Zb)++((F43 line).1.getD (Int.toNat 2) default)) (F26 line) (condF h1 (condT h4 (condF h5 (condT h6 (condF h7 (condT h8 (condT h9 rfl))))))))))))))) (fun h9=>fiS line (F26 line) (condF h1 (condT h4 (condF h5 (condT h6 (condF h7 (condT h8 (condF h9 rfl))))))))) (fun h8=>ifb (((F43 line).1.getD (Int.toNat 0) default).toList==Zj.toList) (fun h10=>ai (uu10:0<=(0:Int)/\(0:Int)<((F43 line).1.length:Int)) (ai (uu4:((((F43 line).1.getD (Int.toNat 0) default).size+Zb.size:Nat):Int)<=9223372036854775807) (ai (uu14:0<=(1:Int)/\(1:Int)<((F43 line).1.length:Int)) (ai (uu4:(((((F43 line).1.getD (Int.toNat 0) default)++Zb).size+((F43 line).1.getD (Int.toNat 1) default).size:Nat):Int)<=9223372036854775807) (ai (uu4:((((((F43 line).1.getD (Int.toNat 0) default)++Zb)++((F43 line).1.getD (Int.toNat 1) default)).size+Zb.size:Nat):Int)<=9223372036854775807) (ai (uu26:0<=(2:Int)/\(2:Int)<((F43 line).1.length:Int)) (ai (uu4:(((((((F43 line).1.getD (Int.toNat 0) default)++Zb)++((F43 line).1.getD (Int.toNat 1) default))++Zb).size+((F43 line).1.getD (Int.toNat 2) default).size:Nat):Int)<=9223372036854775807) (fiS ((((((F43 line).1.getD (Int.toNat 0) default)++Zb)++((F43 line).1.getD (Int.toNat 1) default))++Zb)++((F43 line).1.getD (Int.toNat 2) default)) (F26 line) (condF h1 (condT h4 (condF h5 (condT h6 (condF h7 (condF h8 (condT h10 rfl))))))))))))))) (fun h10=>fiS line (F26 line) (condF h1 (condT h4 (condF h5 (condT h6 (condF h7 (condF h8 (condF h10 rfl))))))))))) (fun h6=>ifb (((F43 line).1.getD (Int.toNat 0) default).toList==Zf.toList) (fun h11=>ifb (((F43 line).1.getD (Int.toNat 0) default).toList==Zf.toList) (fun h12=>ai (uu10:0<=(0:Int)/\(0:Int)<((F43 line).1.length:Int)) (ai (uu4:((((F43 line).1.getD (Int.toNat 0) default).size+Zb.size:Nat):Int)<=9223372036854775807) (ai (uu14:0<=(1:Int)/\(1:Int)<((F43 line).1.length:Int)) (ai (uu4:(((((F43 line).1.getD (Int.toNat 0) default)++Zb).size+((F43 line).1.getD (Int.toNat 1) default).size:Nat):Int)<=9223372036854775807) (fiS ((((F43 line).1.getD (Int.toNat 0) default)++Zb)++((F43 line).1.getD (Int.toNat 1) default)) (F26 line) (condF h1 (condT h4 (condF h5 (condF h6 (condT h11 (condT h12 rfl))))))))))) (fun h12=>ifb (((F43 line).1.getD (Int.toNat 0) default).toList==Zh.toList) (fun h13=>ifb (((F43 line).1.getD (Int.toNat 0) default).toList==Zh.toList) (fun h14=>ai (uu10:0<=(0:Int)/\(0:Int)<((F43 line).1.length:Int)) (ai (uu4:((((F43 line).1.getD (Int.toNat 0) default).size+Zb.size:Nat):Int)<=9223372036854775807) (ai (uu14:0<=(1:Int)/\(1:Int)<((F43 line).1.length:Int)) (ai (uu4:(((((F43 line).1.getD (Int.toNat 0) default)++Zb).size+((F43 line).1.getD (Int.toNat 1) default).size:Nat):Int)<=9223372036854775807) (ai (uu4:((((((F43 line).1.getD (Int.toNat 0) default)++Zb)++((F43 line).1.getD (Int.toNat 1) default)).size+Zb.size:Nat):Int)<=9223372036854775807) (ai (uu25:0<=(2:Int)/\(2:Int)<((F43 line).1.length:Int)) (ai (uu4:(((((((F43 line).1.getD (Int.toNat 0) default)++Zb)++((F43 line).1.getD (Int.toNat 1) default))++Zb).size+((F43 line).1.getD (Int.toNat 2) default).size:Nat):Int)<=9223372036854775807) (fiS ((((((F43 line).1.getD (Int.toNat 0) default)++Zb)++((F43 line).1.getD (Int.toNat 1) default))++Zb)++((F43 line).1.getD (Int.toNat 2) default)) (F26 line) (condF h1 (condT h4 (condF h5 (condF h6 (condT h11 (condF h12 (condT h13 (condT h14 rfl)))))))))))))))) (fun h14=>fiS line (F26 line) (condF h1 (condT h4 (condF h5 (condF h6 (condT h11 (condF h12 (condT h13 (condF h14 rfl)))))))))) (fun h13=>ifb (((F43 line).1.getD (Int.toNat 0) default).toList==Zj.toList) (fun h15=>ai (uu10:0<=(0:Int)/\(0:Int)<((F43 line).1.length:Int)) (ai (uu4:((((F43 line).1.getD (Int.toNat 0) default).size+Zb.size:Nat):Int)<=9223372036854775807) (ai (uu14:0<=(1:Int)/\(1:Int)<((F43 line).1.length:Int)) (ai (uu4:(((((F43 line).1.getD (Int.toNat 0) default)++Zb).size+((F43 line).1.getD (Int.toNat 1) default).size:Nat):Int)<=9223372036854775807) (ai (uu4:((((((F43 line).1.getD (Int.toNat 0) default)++Zb)++((F43 line).1.getD (Int.toNat 1) default)).size+Zb.size:Nat):Int)<=9223372036854775807) (ai (uu26:0<=(2:Int)/\(2:Int)<((F43 line).1.length:Int)) (ai (uu4:(((((((F43 line).1.getD (Int.toNat 0) default)++Zb)++((F43 line).1.getD (Int.toNat 1) default))++Zb).size+((F43 line).1.getD (Int.toNat 2) default).size:Nat):Int)<=9223372036854775807) (fiS ((((((F43 line).1.getD (Int.toNat 0) default)++Zb)++((F43 line).1.getD (Int.toNat 1) default))++Zb)++((F43 line).1.getD (Int.toNat 2) default)) (F26 line) (condF h1 (condT h4 (condF h5 (condF h6 (condT h11 (condF h12 (condF h13 (condT h15 rfl)))))))))))))))) (fun h15=>fiS line (F26 line) (condF h1 (condT h4 (condF h5 (condF h6 (condT h11 (condF h12 (condF h13 (condF h15 rfl)))))))))))) (fun h11=>ifb (((F43 line).1.getD (Int.toNat 0) default).toList==Zp.toList) (fun h16=>ai (uu10:0<=(0:Int)/\(0:Int)<((F43 line).1.length:Int)) (ai (uu4:((((F43 line).1.getD (Int.toNat 0) default).size+Zb.size:Nat):Int)<=9223372036854775807) (ai (uu14:0<=(1:Int)/\(1:Int)<((F43 line).1.length:Int)) (ai (uu4:(((((F43 line).1.getD (Int.toNat 0) default)++Zb).size+((F43 line).1.getD (Int.toNat 1) default).size:Nat):Int)<=9223372036854775807) (fiS ((((F43 line).1.getD (Int.toNat 0) default)++Zb)++((F43 line).1.getD (Int.toNat 1) default)) (F26 line) (condF h1 (condT h4 (condF h5 (condF h6 (condF h11 (condT h16 rfl))))))))))) (fun h16=>ifb (((F43 line).1.getD (Int.toNat 0) default).toList==Zh.toList) (fun h17=>ifb (((F43 line).1.getD (Int.toNat 0) default).toList==Zh.toList) (fun h18=>ai (uu10:0<=(0:Int)/\(0:Int)<((F43 line).1.length:Int)) (ai (uu4:((((F43 line).1.getD (Int.toNat 0) default).size+Zb.size:Nat):Int)<=9223372036854775807) (ai (uu14:0<=(1:Int)/\(1:Int)<((F43 line).1.length:Int)) (ai (uu4:(((((F43 line).1.getD (Int.toNat 0) default)++Zb).size+((F43 line).1.getD (Int.toNat 1) default).size:Nat):Int)<=9223372036854775807) (ai (uu4:((((((F43 line).1.getD (Int.toNat 0) default)++Zb)++((F43 line).1.getD (Int.toNat 1) default)).size+Zb.size:Nat):Int)<=9223372036854775807) (ai (uu25:0<=(2:Int)/\(2:Int)<((F43 line).1.length:Int)) (ai (uu4:(((((((F43 line).1.getD (Int.toNat 0) default)++Zb)++((F43 line).1.getD (Int.toNat 1) default))++Zb).size+((F43 line).1.getD (Int.toNat 2) default).size:Nat):Int)<=9223372036854775807) (fiS ((((((F43 line).1.getD (Int.toNat 0) default)++Zb)++((F43 line).1.getD (Int.toNat 1) default))++Zb)++((F43 line).1.getD (Int.toNat 2) default)) (F26 line) (condF h1 (condT h4 (condF h5 (condF h6 (condF h11 (condF h16 (condT h17 (condT h18 rfl)))))))))))))))) (fun h18=>fiS line (F26 line) (condF h1 (condT h4 (condF h5 (condF h6 (condF h11 (condF h16 (condT h17 (condF h18 rfl)))))))))) (fun h17=>ifb (((F43 line).1.getD (Int.toNat 0) default).toList==Zj.toList) (fun h19=>ai (uu10:0<=(0:Int)/\(0:Int)<((F43 line).1.length:Int)) (ai (uu4:((((F43 line).1.getD (Int.toNat 0) default).size+Zb.size:Nat):Int)<=9223372036854775807) (ai (uu14:0<=(1:Int)/\(1:Int)<((F43 line).1.length:Int)) (ai (uu4:(((((F43 line).1.getD (Int.toNat 0) default)++Zb).size+((F43 line).1.getD (Int.toNat 1) default).size:Nat):Int)<=9223372036854775807) (ai (uu4:((((((F43 line).1.getD (Int.toNat 0) default)++Zb)++((F43 line).1.getD (Int.toNat 1) default)).size+Zb.size:Nat):Int)<=9223372036854775807) (ai (uu26:0<=(2:Int)/\(2:Int)<((F43 line).1.length:Int)) (ai (uu4:(((((((F43 line).1.getD (Int.toNat 0) default)++Zb)++((F43 line).1.getD (Int.toNat 1) default))++Zb).size+((F43 line).1.getD (Int.toNat 2) default).size:Nat):Int)<=9223372036854775807) (fiS ((((((F43 line).1.getD (Int.toNat 0) default)++Zb)++((F43 line).1.getD (Int.toNat 1) default))++Zb)++((F43 line).1.getD (Int.toNat 2) default)) (F26 line) (condF h1 (condT h4 (condF h5 (condF h6 (condF h11 (condF h16 (condF h17 (condT h19 rfl)))))))))))))))) (fun h19=>fiS line (F26 line) (condF h1 (condT h4 (condF h5 (condF h6 (condF h11 (condF h16 (condF h17 (condF h19 rfl))))))))))))))) (fun h4=>ifb (((F43 line).1.getD (Int.toNat 0) default).toList==Ze.toList) (fun h20=>ai (uu10:0<=(0:Int)/\(0:Int)<((F43 line).1.length:Int)) (fiS ((F43 line).1.getD (Int.toNat 0) default) (F26 line) (condF h1 (condF h4 (condT h20 rfl))))) (fun h20=>ifb (((F43 line).1.getD (Int.toNat 0) default).toList==Zk.toList) (fun h21=>ifb (((F43 line).1.getD (Int.toNat 0) default).toList==Zk.toList) (fun h22=>ai (uu10:0<=(0:Int)/\(0:Int)<((F43 line).1.length:Int)) (ai (uu4:((((F43 line).1.getD (Int.toNat 0) default).size+Zb.size:Nat):Int)<=9223372036854775807) (ai (uu14:0<=(1:Int)/\(1:Int)<((F43 line).1.length:Int)) (ai (uu4:(((((F43 line).1.getD (Int.toNat 0) default)++Zb).size+((F43 line).1.getD (Int.toNat 1) default).size:Nat):Int)<=9223372036854775807) (fiS ((((F43 line).1.getD (Int.toNat 0) default)++Zb)++((F43 line).1.getD (Int.toNat 1) default)) (F26 line) (condF h1 (condF h4 (condF h20 (condT h21 (condT h22 rfl)))))))))) (fun h22=>ifb (((F43 line).1.getD (Int.toNat 0) default).toList==Zh.toList) (fun h23=>ifb (((F43 line).1.getD (Int.toNat 0) default).toList==Zh.toList) (fun h24=>ai (uu10:0<=(0:Int)/\(0:Int)<((F43 line).1.length:Int)) (ai (uu4:((((F43 line).1.getD (Int.toNat 0) default).size+Zb.size:Nat):Int)<=9223372036854775807) (ai (uu14:0<=(1:Int)/\(1:Int)<((F43 line).1.length:Int)) (ai (uu4:(((((F43 line).1.getD (Int.toNat 0) default)++Zb).size+((F43 line).1.getD (Int.toNat 1) default).size:Nat):Int)<=9223372036854775807) (ai (uu4:((((((F43 line).1.getD (Int.toNat 0) default)++Zb)++((F43 line).1.getD (Int.toNat 1) default)).size+Zb.size:Nat):Int)<=9223372036854775807) (ai (uu25:0<=(2:Int)/\(2:Int)<((F43 line).1.length:Int)) (ai (uu4:(((((((F43 line).1.getD (Int.toNat 0) default)++Zb)++((F43 line).1.getD (Int.toNat 1) default))++Zb).size+((F43 line).1.getD (Int.toNat 2) default).size:Nat):Int)<=9223372036854775807) (fiS ((((((F43 line).1.getD (Int.toNat 0) default)++Zb)++((F43 line).1.getD (Int.toNat 1) default))++Zb)++((F43 line).1.getD (Int.toNat 2) default)) (F26 line) (condF h1 (condF h4 (condF h20 (condT h21 (condF h22 (condT h23 (condT h24 rfl))))))))))))))) (fun h24=>fiS line (F26 line) (condF h1 (condF h4 (condF h20 (condT h21 (condF h22 (condT h23 (condF h24 rfl))))))))) (fun h23=>ifb (((F43 line).1.getD (Int.toNat 0) default).toList==Zj.toList) (fun h25=>ai (uu10:0<=(0:Int)/\(0:Int)<((F43 line).1.length:Int)) (ai (uu4:((((F43 line).1.getD (Int.toNat 0) default).size+Zb.size:Nat):Int)<=9223372036854775807) (ai (uu14:0<=(1:Int)/\(1:Int)<((F43 line).1.length:Int)) (ai (uu4:(((((F43 line).1.getD (Int.toNat 0) default)++Zb).size+((F43 line).1.getD (Int.toNat 1) default).size:Nat):Int)<=9223372036854775807) (ai (uu4:((((((F43 line).1.getD (Int.toNat 0) default)++Zb)++((F43 line).1.getD (Int.toNat 1) default)).size+Zb.size:Nat):Int)<=9223372036854775807) (ai (uu26:0<=(2:Int)/\(2:Int)<((F43 line).1.length:Int)) (ai (uu4:(((((((F43 line).1.getD (Int.toNat 0) default)++Zb)++((F43 line).1.getD (Int.toNat 1) default))++Zb).size+((F43 line).1.getD (Int.toNat 2) default).size:Nat):Int)<=9223372036854775807) (fiS ((((((F43 line).1.getD (Int.toNat 0) default)++Zb)++((F43 line).1.getD (Int.toNat 1) default))++Zb)++((F43 line).1.getD (Int.toNat 2) default)) (F26 line) (condF h1 (condF h4 (condF h20 (condT h21 (condF h22 (condF h23 (condT h25 rfl))))))))))))))) (fun h25=>fiS line (F26 line) (condF h1 (condF h4 (condF h20 (condT h21 (condF h22 (condF h23 (condF h25 rfl))))))))))) (fun h21=>ifb (((F43 line).1.getD (Int.toNat 0) default).toList==Zf.toList) (fun h26=>ifb (((F43 line).1.getD (Int.toNat 0) default).toList==Zf.toList) (fun h27=>ai (uu10:0<=(0:Int)/\(0:Int)<((F43 line).1.length:Int)) (ai (uu4:((((F43 line).1.getD (Int.toNat 0) default).size+Zb.size:Nat):Int)<=9223372036854775807) (ai (uu14:0<=(1:Int)/\(1:Int)<((F43 line).1.length:Int)) (ai (uu4:(((((F43 line).1.getD (Int.toNat 0) default)++Zb).size+((F43 line).1.getD (Int.toNat 1) default).size:Nat):Int)<=9223372036854775807) (fiS ((((F43 line).1.getD (Int.toNat 0) default)++Zb)++((F43 line).1.getD (Int.toNat 1) default)) (F26 line) (condF h1 (condF h4 (condF h20 (condF h21 (condT h26 (condT h27 rfl))))))))))) (fun h27=>ifb (((F43 line).1.getD (Int.toNat 0) default).toList==Zh.toList) (fun h28=>ifb (((F43 line).1.getD (Int.toNat 0) default).toList==Zh.toList) (fun h29=>ai (uu10:0<=(0:Int)/\(0:Int)<((F43 line).1.length:Int)) (ai (uu4:((((F43 line).1.getD (Int.toNat 0) default).size+Zb.size:Nat):Int)<=9223372036854775807) (ai (uu14:0<=(1:Int)/\(1:Int)<((F43 line).1.length:Int)) (ai (uu4:(((((F43 line).1.getD (Int.toNat 0) default)++Zb).size+((F43 line).1.getD (Int.toNat 1) default).size:Nat):Int)<=9223372036854775807) (ai (uu4:((((((F43 line).1.getD (Int.toNat 0) default)++Zb)++((F43 line).1.getD (Int.toNat 1) default)).size+Zb.size:Nat):Int)<=9223372036854775807) (ai (uu25:0<=(2:Int)/\(2:Int)<((F43 line).1.length:Int)) (ai (uu4:(((((((F43 line).1.getD (Int.toNat 0) default)++Zb)++((F43 line).1.getD (Int.toNat 1) default))++Zb).size+((F43 line).1.getD (Int.toNat 2) default).size:Nat):Int)<=9223372036854775807) (fiS ((((((F43 line).1.getD (Int.toNat 0) default)++Zb)++((F43 line).1.getD (Int.toNat 1) default))++Zb)++((F43 line).1.getD (Int.toNat 2) default)) (F26 line) (condF h1 (condF h4 (condF h20 (condF h21 (condT h26 (condF h27 (condT h28 (condT h29 rfl)))))))))))))))) (fun h29=>fiS line (F26 line) (condF h1 (condF h4 (condF h20 (condF h21 (condT h26 (condF h27 (condT h28 (condF h29 rfl)))))))))) (fun h28=>ifb (((F43 line).1.getD (Int.toNat 0) default).toList==Zj.toList) (fun h30=>ai (uu10:0<=(0:Int)/\(0:Int)<((F43 line).1.length:Int)) (ai (uu4:((((F43 line).1.getD (Int.toNat 0) default).size+Zb.size:Nat):Int)<=9223372036854775807) (ai (uu14:0<=(1:Int)/\(1:Int)<((F43 line).1.length:Int)) (ai (uu4:(((((F43 line).1.getD (Int.toNat 0) default)++Zb).size+((F43 line).1.getD (Int.toNat 1) default).size:Nat):Int)<=9223372036854775807) (ai (uu4:((((((F43 line).1.getD (Int.toNat 0) default)++Zb)++((F43 line).1.getD (Int.toNat 1) default)).size+Zb.size:Nat):Int)<=9223372036854775807) (ai (uu26:0<=(2:Int)/\(2:Int)<((F43 line).1.length:Int)) (ai (uu4:(((((((F43 line).1.getD (Int.toNat 0) default)++Zb)++((F43 line).1.getD (Int.toNat 1) default))++Zb).size+((F43 line).1.getD (Int.toNat 2) default).size:Nat):Int)<=9223372036854775807) (fiS ((((((F43 line).1.getD (Int.toNat 0) default)++Zb)++((F43 line).1.getD (Int.toNat 1) default))++Zb)++((F43 line).1.getD (Int.toNat 2) default)) (F26 line) (condF h1 (condF h4 (condF h20 (condF h21 (condT h26 (condF h27 (condF h28 (condT h30 rfl)))))))))))))))) (fun h30=>fiS line (F26 line) (condF h1 (condF h4 (condF h20 (condF h21 (condT h26 (condF h27 (condF h28 (condF h30 rfl)))))))))))) (fun h26=>ifb (((F43 line).1.getD (Int.toNat 0) default).toList==Zp.toList) (fun h31=>ai (uu10:0<=(0:Int)/\(0:Int)<((F43 line).1.length:Int)) (ai (uu4:((((F43 line).1.getD (Int.toNat 0) default).size+Zb.size:Nat):Int)<=9223372036854775807) (ai (uu14:0<=(1:Int)/\(1:Int)<((F43 line).1.length:Int)) (ai (uu4:(((((F43 line).1.getD (Int.toNat 0) default)++Zb).size+((F43 line).1.getD (Int.toNat 1) default).size:Nat):Int)<=9223372036854775807) (fiS ((((F43 line).1.getD (Int.toNat 0) default)++Zb)++((F43 line).1.getD (Int.toNat 1) default)) (F26 line) (condF h1 (condF h4 (condF h20 (condF h21 (condF h26 (condT h31 rfl))))))))))) (fun h31=>ifb (((F43 line).1.getD (Int.toNat 0) default).toList==Zh.toList) (fun h32=>ifb (((F43 line).1.getD (Int.toNat 0) default).toList==Zh.toList) (fun h33=>ai (uu10:0<=(0:Int)/\(0:Int)<((F43 line).1.length:Int)) (ai (uu4:((((F43 line).1.getD (Int.toNat 0) default).size+Zb.size:Nat):Int)<=9223372036854775807) (ai (uu14:0<=(1:Int)/\(1:Int)<((F43 line).1.length:Int)) (ai (uu4:(((((F43 line).1.getD (Int.toNat 0) default)++Zb).size+((F43 line).1.getD (Int.toNat 1) default).size:Nat):Int)<=9223372036854775807) (ai (uu4:((((((F43 line).1.getD (Int.toNat 0) default)++Zb)++((F43 line).1.getD (Int.toNat 1) default)).size+Zb.size:Nat):Int)<=9223372036854775807) (ai (uu25:0<=(2:Int)/\(2:Int)<((F43 line).1.length:Int)) (ai (uu4:(((((((F43 line).1.getD (Int.toNat 0) default)++Zb)++((F43 line).1.getD (Int.toNat 1) default))++Zb).size+((F43 line).1.getD (Int.toNat 2) default).size:Nat):Int)<=9223372036854775807) (fiS ((((((F43 line).1.getD (Int.toNat 0) default)++Zb)++((F43 line).1.getD (Int.toNat 1) default))++Zb)++((F43 line).1.getD (Int.toNat 2) default)) (F26 line) (condF h1 (condF h4 (condF h20 (condF h21 (condF h26 (condF h31 (condT h32 (condT h33 rfl)))))))))))))))) (fun h33=>fiS line (F26 line) (condF h1 (condF h4 (condF h20 (condF h21 (condF h26 (condF h31 (condT h32 (condF h33 rfl)))))))))) (fun h32=>ifb (((F43 line).1.getD (Int.toNat 0) default).toList==Zj.toList) (fun h34=>ai (uu10:0<=(0:Int)/\(0:Int)<((F43 line).1.length:Int)) (ai (uu4:((((F43 line).1.getD (Int.toNat 0) default).size+Zb.size:Nat):Int)<=9223372036854775807) (ai (uu14:0<=(1:Int)/\(1:Int)<((F43 line).1.length:Int)) (ai (uu4:(((((F43 line).1.getD (Int.toNat 0) default)++Zb).size+((F43 line).1.getD (Int.toNat 1) default).size:Nat):Int)<=9223372036854775807) (ai (uu4:((((((F43 line).1.getD (Int.toNat 0) default)++Zb)++((F43 line).1.getD (Int.toNat 1) default)).size+Zb.size:Nat):Int)<=9223372036854775807) (ai (uu26:0<=(2:Int)/\(2:Int)<((F43 line).1.length:Int)) (ai (uu4:(((((((F43 line).1.getD (Int.toNat 0) default)++Zb)++((F43 line).1.getD (Int.toNat 1) default))++Zb).size+((F43 line).1.getD (Int.toNat 2) default).size:Nat):Int)<=9223372036854775807) (fiS ((((((F43 line).1.getD (Int.toNat 0) default)++Zb)++((F43 line).1.getD (Int.toNat 1) default))++Zb)++((F43 line).1.getD (Int.toNat 2) default)) (F26 line) (condF h1 (condF h4 (condF h20 (condF h21 (condF h26 (condF h31 (condF h32 (condT h34 rfl)))))))))))))))) (fun h34=>fiS line (F26 line) (condF h1 (condF h4 (condF h20 (condF h21 (condF h26 (condF h31 (condF h32 (condF h34 rfl)))))))))))))))))))) uu2
theorem join1 (a sp:Za):joinS [a] sp=a:=ba_ext (by show Lib.join _ _=_; exact Lib.join_one _ _)
theorem joinS_data (ws:List Za) (sp:Za):(joinS ws sp).data.toList=Lib.join (ws.map (·.data.toList)) sp.data.toList:=rfl
theorem join2 (a b sp:Za):joinS [a,b] sp=(a++sp)++b:=ba_ext (by
 rw [joinS_data,Rb,Lib.join_cons]
 simp [Lib.joinTail,Gm,G0,Q3])
theorem join3 (a b c sp:Za):joinS [a,b,c] sp=(((a++sp)++b)++sp)++c:=ba_ext (by
 rw [joinS_data,Rb,Lib.join_cons]
 simp [Lib.joinTail,Gm,G0,Q3])
theorem take_one (w:List Za) (h:1<=w.length):w.take 1=[w.getD 0 default]:=by
 match w,h with
 | a :: _,_=>rfl
theorem take_two (w:List Za) (h:2<=w.length):w.take 2=[w.getD 0 default,w.getD 1 default]:=by
 match w,h with
 | a :: b :: _,_=>rfl
theorem take_three (w:List Za) (h:3<=w.length):w.take 3=[w.getD 0 default,w.getD 1 default,w.getD 2 default]:=by
 match w,h with
 | a :: b :: c :: _,_=>rfl
theorem key_eq (line:Za) (h:F42 line=true):F26 line=joinS ((F43 line).1.take (keyN (((F43 line).1.getD 0 default).data.toList)).toNat) Zb:=by
 have hk:=keptP line h
 have hj:=hk.joins
 unfold F26
 have e0:(F43 line).1.getD (Int.toNat 0) default=(F43 line).1.getD 0 default:=rfl
 have e1:(F43 line).1.getD (Int.toNat 1) default=(F43 line).1.getD 1 default:=rfl
 have e2:(F43 line).1.getD (Int.toNat 2) default=(F43 line).1.getD 2 default:=rfl
 simp only [h,Sa,Qh,e0,e1,e2,blit]
 have hf:=hk.form
 generalize (F43 line).1=w at hf hj
 rcases hf with hf | hf | hf | hf | hf | hf | hf | hf
 ·have h0:=hf.1
  have hn:keyN (w.getD 0 default).data.toList=1:=by rw [h0]; decide
  have hl:2<=w.length:=by unfold hostP at hf; omega
  rw [hn,show ((1:Int).toNat)=1 from rfl]
  simp only [h0,show (([104,111,115,116]:List UInt8)==([104,111,115,116]:List UInt8))=true from by decide ,show (([104,111,115,116]:List UInt8)==([117,115,101,114]:List UInt8))=false from by decide ,show (([104,111,115,116]:List UInt8)==([112,111,114,116]:List UInt8))=false from by decide ,show (([104,111,115,116]:List UInt8)==([114,117,108,101]:List UInt8))=false from by decide ,show (([104,111,115,116]:List UInt8)==([114,111,117,116,101]:List UInt8))=false from by decide ,show (([104,111,115,116]:List UInt8)==([112,101,101,114]:List UInt8))=false from by decide ,show (([104,111,115,116]:List UInt8)==([110,97,116]:List UInt8))=false from by decide ,show (([104,111,115,116]:List UInt8)==([100,111,111,114]:List UInt8))=false from by decide,Qc,Qh]
  rw [take_one w uu0,join1]
 ·have h0:=hf.1
  have hn:keyN (w.getD 0 default).data.toList=2:=by rw [h0]; decide
  have hl:2<=w.length:=by unfold userP at hf; omega
  rw [hn,show ((2:Int).toNat)=2 from rfl]
  simp only [h0,show (([117,115,101,114]:List UInt8)==([104,111,115,116]:List UInt8))=false from by decide ,show (([117,115,101,114]:List UInt8)==([117,115,101,114]:List UInt8))=true from by decide ,show (([117,115,101,114]:List UInt8)==([112,111,114,116]:List UInt8))=false from by decide ,show (([117,115,101,114]:List UInt8)==([114,117,108,101]:List UInt8))=false from by decide ,show (([117,115,101,114]:List UInt8)==([114,111,117,116,101]:List UInt8))=false from by decide ,show (([117,115,101,114]:List UInt8)==([112,101,101,114]:List UInt8))=false from by decide ,show (([117,115,101,114]:List UInt8)==([110,97,116]:List UInt8))=false from by decide ,show (([117,115,101,114]:List UInt8)==([100,111,111,114]:List UInt8))=false from by decide,Qc,Qh]
  rw [take_two w uu0,join2]
 ·have h0:=hf.1
  have hn:keyN (w.getD 0 default).data.toList=2:=by rw [h0]; decide
  have hl:2<=w.length:=by unfold portP at hf; omega
  rw [hn,show ((2:Int).toNat)=2 from rfl]
  simp only [h0,show (([112,111,114,116]:List UInt8)==([104,111,115,116]:List UInt8))=false from by decide ,show (([112,111,114,116]:List UInt8)==([117,115,101,114]:List UInt8))=false from by decide ,show (([112,111,114,116]:List UInt8)==([112,111,114,116]:List UInt8))=true from by decide ,show (([112,111,114,116]:List UInt8)==([114,117,108,101]:List UInt8))=false from by decide ,show (([112,111,114,116]:List UInt8)==([114,111,117,116,101]:List UInt8))=false from by decide ,show (([112,111,114,116]:List UInt8)==([112,101,101,114]:List UInt8))=false from by decide ,show (([112,111,114,116]:List UInt8)==([110,97,116]:List UInt8))=false from by decide ,show (([112,111,114,116]:List UInt8)==([100,111,111,114]:List UInt8))=false from by decide,Qc,Qh]
  rw [take_two w uu0,join2]
 ·have h0:=hf.1
  have hn:keyN (w.getD 0 default).data.toList=3:=by rw [h0]; decide
  have hl:3<=w.length:=by unfold ruleP at hf; omega
  rw [hn,show ((3:Int).toNat)=3 from rfl]
  simp only [h0,show (([114,117,108,101]:List UInt8)==([104,111,115,116]:List UInt8))=false from by decide ,show (([114,117,108,101]:List UInt8)==([117,115,101,114]:List UInt8))=false from by decide ,show (([114,117,108,101]:List UInt8)==([112,111,114,116]:List UInt8))=false from by decide ,show (([114,117,108,101]:List UInt8)==([114,117,108,101]:List UInt8))=true from by decide ,show (([114,117,108,101]:List UInt8)==([114,111,117,116,101]:List UInt8))=false from by decide ,show (([114,117,108,101]:List UInt8)==([112,101,101,114]:List UInt8))=false from by decide ,show (([114,117,108,101]:List UInt8)==([110,97,116]:List UInt8))=false from by decide ,show (([114,117,108,101]:List UInt8)==([100,111,111,114]:List UInt8))=false from by decide,Qc,Qh]
  rw [take_three w uu0,join3]
 ·have h0:=hf.1
  have hn:keyN (w.getD 0 default).data.toList=3:=by rw [h0]; decide
  have hl:3<=w.length:=by unfold routeP at hf; omega
  rw [hn,show ((3:Int).toNat)=3 from rfl]
  simp only [h0,show (([114,111,117,116,101]:List UInt8)==([104,111,115,116]:List UInt8))=false from by decide ,show (([114,111,117,116,101]:List UInt8)==([117,115,101,114]:List UInt8))=false from by decide ,show (([114,111,117,116,101]:List UInt8)==([112,111,114,116]:List UInt8))=false from by decide ,show (([114,111,117,116,101]:List UInt8)==([114,117,108,101]:List UInt8))=false from by decide ,show (([114,111,117,116,101]:List UInt8)==([114,111,117,116,101]:List UInt8))=true from by decide ,show (([114,111,117,116,101]:List UInt8)==([112,101,101,114]:List UInt8))=false from by decide ,show (([114,111,117,116,101]:List UInt8)==([110,97,116]:List UInt8))=false from by decide ,show (([114,111,117,116,101]:List UInt8)==([100,111,111,114]:List UInt8))=false from by decide,Qc,Qh]
  rw [Ss (by unfold routeP at hf; omega)]
  exact hj.symm
 ·have h0:=hf.1
  have hn:keyN (w.getD 0 default).data.toList=2:=by rw [h0]; decide
  have hl:2<=w.length:=by unfold peerP at hf; omega
  rw [hn,show ((2:Int).toNat)=2 from rfl]
  simp only [h0,show (([112,101,101,114]:List UInt8)==([104,111,115,116]:List UInt8))=false from by decide ,show (([112,101,101,114]:List UInt8)==([117,115,101,114]:List UInt8))=false from by decide ,show (([112,101,101,114]:List UInt8)==([112,111,114,116]:List UInt8))=false from by decide ,show (([112,101,101,114]:List UInt8)==([114,117,108,101]:List UInt8))=false from by decide ,show (([112,101,101,114]:List UInt8)==([114,111,117,116,101]:List UInt8))=false from by decide ,show (([112,101,101,114]:List UInt8)==([112,101,101,114]:List UInt8))=true from by decide ,show (([112,101,101,114]:List UInt8)==([110,97,116]:List UInt8))=false from by decide ,show (([112,101,101,114]:List UInt8)==([100,111,111,114]:List UInt8))=false from by decide,Qc,Qh]
  rw [take_two w uu0,join2]
 ·have h0:=hf.1
  have hn:keyN (w.getD 0 default).data.toList=1:=by rw [h0]; decide
  have hl:2<=w.length:=by unfold natP at hf; omega
  rw [hn,show ((1:Int).toNat)=1 from rfl]
  simp only [h0,show (([110,97,116]:List UInt8)==([104,111,115,116]:List UInt8))=false from by decide ,show (([110,97,116]:List UInt8)==([117,115,101,114]:List UInt8))=false from by decide ,show (([110,97,116]:List UInt8)==([112,111,114,116]:List UInt8))=false from by decide ,show (([110,97,116]:List UInt8)==([114,117,108,101]:List UInt8))=false from by decide ,show (([110,97,116]:List UInt8)==([114,111,117,116,101]:List UInt8))=false from by decide ,show (([110,97,116]:List UInt8)==([112,101,101,114]:List UInt8))=false from by decide ,show (([110,97,116]:List UInt8)==([110,97,116]:List UInt8))=true from by decide ,show (([110,97,116]:List UInt8)==([100,111,111,114]:List UInt8))=false from by decide,Qc,Qh]
  rw [take_one w uu0,join1]
 ·have h0:=hf.1
  have hn:keyN (w.getD 0 default).data.toList=3:=by rw [h0]; decide
  have hl:3<=w.length:=by unfold doorP at hf; omega
  rw [hn,show ((3:Int).toNat)=3 from rfl]
  simp only [h0,show (([100,111,111,114]:List UInt8)==([104,111,115,116]:List UInt8))=false from by decide ,show (([100,111,111,114]:List UInt8)==([117,115,101,114]:List UInt8))=false from by decide ,show (([100,111,111,114]:List UInt8)==([112,111,114,116]:List UInt8))=false from by decide ,show (([100,111,111,114]:List UInt8)==([114,117,108,101]:List UInt8))=false from by decide ,show (([100,111,111,114]:List UInt8)==([114,111,117,116,101]:List UInt8))=false from by decide ,show (([100,111,111,114]:List UInt8)==([112,101,101,114]:List UInt8))=false from by decide ,show (([100,111,111,114]:List UInt8)==([110,97,116]:List UInt8))=false from by decide ,show (([100,111,111,114]:List UInt8)==([100,111,111,114]:List UInt8))=true from by decide,Qc,Qh]
  rw [take_three w uu0,join3]
theorem key_same (line:Za):F16 line=F26 line:=by
 cases h:F42 line with
 | false =>
  unfold F16 F26
  rw [keptSo_eq,h]; rfl
 | true =>
  rw [key_eq line h]
  obtain ⟨k1,k2⟩:=kept_form line h
  unfold F16
  rw [keptSo_eq,h,k1,k2]; rfl
theorem fold_loop {α σ ρ τ ω:Type} [Inhabited α] (xs:List α) (upd:σ->α->σ) (emb:σ->Int->ω) (step:ω->Lp ω ρ)
  (h1:∀ (i:Nat) (s:σ),i<xs.length->step (emb s (i:Int))=.next (emb (upd s (xs.getD i default)) ((i+1:Nat):Int))) (h2:∀ s:σ,step (emb s (xs.length:Int))=.done (emb s (xs.length:Int)))
  (f:ρ->τ) (g:ω->τ):∀ (m i:Nat) (s:σ),i+m=xs.length->∀ fuel,m<fuel->(runL step fuel (emb s (i:Int))).fin f g=g (emb ((xs.drop i).foldl upd s) (xs.length:Int))
 | m,i,_,_,0,hf=>absurd hf (Sd _)
 | 0,i,s,h,fuel+1,hf=>by
  obtain rfl:i=xs.length:=by omega
  rw [runL_d _ (h2 s),Q8 (Qp _)]; rfl
 | m+1,i,s,h,fuel+1,hf=>by
  have hd:xs.drop i=xs.getD i default :: xs.drop (i+1):=by
   rw [Rk (show i<xs.length by omega),Qd,Qe (show i<xs.length by omega)]; rfl
  rw [runL_n _ (h1 i s uu0),fold_loop xs upd emb step h1 h2 f g m (i+1) _ uu0 fuel uu0,hd,So]
theorem fold_loop0 {α σ ρ τ ω:Type} [Inhabited α] (xs:List α) (upd:σ->α->σ) (emb:σ->Int->ω) (step:ω->Lp ω ρ)
  (h1:∀ (i:Nat) (s:σ),i<xs.length->step (emb s (i:Int))=.next (emb (upd s (xs.getD i default)) ((i+1:Nat):Int))) (h2:∀ s:σ,step (emb s (xs.length:Int))=.done (emb s (xs.length:Int)))
  (f:ρ->τ) (g:ω->τ) (s:σ):(runL step (((xs.length:Int)-0).toNat+1) (emb s 0)).fin f g=g (emb (xs.foldl upd s) (xs.length:Int)):=by
 have:=fold_loop xs upd emb step h1 h2 f g xs.length 0 s uu0 (Int.toNat ((xs.length:Int)-0)+1) uu0
 rw [R8] at this
 exact this
theorem anyF_dropG {α:Type} [Inhabited α] (ws:List α) (p:α->Bool):∀ (m i:Nat),i+m=ws.length->anyF (fun k=>p (ws.getD k default)) i m=(ws.drop i).any p
 | 0,i,h=>by rw [Q8 uu0]; rfl
 | m+1,i,h=>by
  have hd:ws.drop i=ws.getD i default :: ws.drop (i+1):=by
   rw [Rk (show i<ws.length by omega),Qd,Qe (show i<ws.length by omega)]; rfl
  rw [hd,Gi,anyF,anyF_dropG ws p m (i+1) uu0]
theorem anyL {α ρ τ:Type} [Inhabited α] (xs:List α) (p:α->Bool) (bad:ρ) (step:Int->Lp Int ρ)
  (h1:∀ i:Nat,i<xs.length->step (i:Int)=bif p (xs.getD i default) then .ret bad else .next ((i+1:Nat):Int)) (h2:step (xs.length:Int)=.done (xs.length:Int))
  (f:ρ->τ) (g:Int->τ) (y:τ) (hg:∀ i,g i=y):(runL step (((xs.length:Int)-0).toNat+1) 0).fin f g=bif xs.any p then f bad else y:=by
 have h:=any_loop step xs.length (fun k=>p (xs.getD k default)) bad f y h1 h2 xs.length 0 uu0 (Int.toNat ((xs.length:Int)-0)+1) uu0
 rw [anyF_dropG xs p xs.length 0 uu0,R8] at h
 rw [show g=fun _=>y from funext hg]
 exact h
theorem foldl_map' {α β:Type} (f:α->β):∀ (xs:List α) (s:List β),xs.foldl (fun s x=>s++[f x]) s=s++xs.map f
 | [],s=>by simp
 | x :: xs,s=>by
  rw [So,foldl_map' f xs,Rb,Q3]; rfl
theorem kc26 (line:Za) {K_:Prop} (p0_:line.size<=1048576) (k_:K_):(line.size<=1048576)/\(Imp (.v (.string line)) (.v (.string line)))/\K_:=⟨p0_,Imp.refl _,k_⟩
abbrev kh26 (line:Za):Hint true Tryz.prog:=.call 26 (S26 line) (ok26 line) none
def F37_s0 (lines:List Za):(List Za×Int)->Lp (List Za×Int) (List Za):=fun (out,i40) =>
 bif (decide (i40<(lines.length:Int))) then (.next ((out++[(F26 (lines.getD i40.toNat default))]),(i40+1))) else (.done (out,i40))
def F37 (lines:List Za):List Za :=
 (runL (F37_s0 lines) (((lines.length:Int)-0).toNat+1) (([]:List Za),0)).fin (fun r=>r) (fun (out,i40)=>out)
abbrev lN37_0 (lines:List Za):Nat×(List Za×Int):=((((lines.length:Int)-0).toNat+1),(([]:List Za),0))
abbrev lI37_0 (lines:List Za) (m39:Nat) (out:List Za) (i40:Int):Prop:=Int.toNat ((lines.length:Int)-i40)<m39/\(out.length:Int)<=i40/\(0:Int)<=i40
abbrev lX37_0 (lines:List Za):Lp (List Za×Int) (List Za):=LpX (F37_s0 lines) (lN37_0 lines)
abbrev lJ37_0 (lines:List Za) (i:Nat×(List Za×Int)):Prop:=LpJ (F37_s0 lines) (lN37_0 lines) i (lI37_0 lines i.1 i.2.1 i.2.2)
abbrev lH37_0 (lines:List Za) (i:Nat×(List Za×Int)) (m39:Nat) (out:List Za) (i40:Int):Prop:=LpH (F37_s0 lines) (lN37_0 lines) i m39 (out,i40) (lI37_0 lines (m39+1) out i40)
abbrev lE37_0 (lines:List Za) (out:List Za) (i40:Int) (out_:List Za) (i40_:Int) (K39:Prop):Prop:=((.int .i64 i40:Value)=.int .i64 i40_)/\(Im (.l 1 eStr lines))/\(Imp (.l 1 eStr out) (.l 1 eStr out_))/\K39
theorem un37_0 (lines:List Za) (i:Nat×(List Za×Int)) (h:lJ37_0 lines i):lH37_0 lines i (i.1-1) i.2.1 i.2.2:=⟨hd1 h.1 h.2.1,hd3 h.2.1,hd2 h.2.1,h.2.2⟩
theorem bk37_0 (lines:List Za) (i:Nat×(List Za×Int)) (m39:Nat) (out:List Za) (i40:Int) (hl:m39<i.1) (e:runL (F37_s0 lines) m39 (out,i40)=lX37_0 lines) (h:lI37_0 lines m39 out i40):∃ j:Nat×(List Za×Int),lE37_0 lines out i40 j.2.1 j.2.2 (lJ37_0 lines j/\j.1<i.1):=⟨(m39,(out,i40)),rfl,Imp.refl _,Imp.refl _,⟨e,h⟩,hl⟩
theorem en37_0 (lines:List Za) (h:(([]:List Za).length:Int)<=0/\(0:Int)<=0):lE37_0 lines ([]:List Za) 0 ([]:List Za) 0 (lJ37_0 lines (lN37_0 lines)):=⟨rfl,Imp.refl _,Imp.refl _,rfl,Qt _,h⟩
theorem fi37 (lines:List Za) (r:List Za) (hF:r=(F37 lines)):(Imp (.l 1 eStr r) (.l 1 eStr (F37 lines)))/\True:=by cases hF; exact ⟨Imp.refl _,trivial⟩
def S37 (R:List Za) (lines:List Za):Spec:=⟨[.r (.c (.l 1 eStr lines))],.ow (.l 1 eStr R),lines.length<=1048576/\(∀ k:Nat,(lines.getD k default).size<=1048576)⟩
theorem ok37 (lines:List Za):(S37 (F37 lines) lines).ok Tryz.prog 37 :=
 fnG_ok mixed (fn:=Tryz.f37) (ct:=.seqk [(0,0)] .no (.seq (.reg [(0,.dat (.l 1 eStr ([]:List Za)))]) (.seq (.seqk [(0,0),(3,0)] .no (.blk (.loop (ι:=Nat×(List Za×Int)) (fun i=>(fun (out:List Za) (i40:Int)=>(⟨[(0,some (.h 0 0)),(3,some (.h 1 0)),(4,some (.v (vI i40)))],[(0,some (.shr none (.l 1 eStr lines))),(1,some (.own 1 (.l 1 eStr out)))],2⟩:St)) i.2.1 i.2.2) (lJ37_0 lines) (fun i=>i.1) (lN37_0 lines) (fun i=>(fun (out:List Za) (i40:Int)=>(.seq (.seq .no (.cond .no .no)) (.seq (.blk (.reg [(5,kh26 (lines.getD i40.toNat default)),(7,.dat (.l 1 eStr (out++[(F26 (lines.getD i40.toNat default))])))])) (.reg [(1,.bnd)])))) i.2.1 i.2.2)))) (.seq .no .no)))) Tryz.func37 (fun (hp:lines.length<=1048576/\(∀ k:Nat,(lines.getD k default).size<=1048576))=>have hpre0:=hp.1; have hpre1:=hp.2; kn lines fun _=>ai (bokr 1 eStr ([]:List Za) fun _=>rfl) (kn lines fun _=>kn ([]:List Za) fun _=>ai (en37_0 lines uu34) (fun (i0:Nat×(List Za×Int)) (hi0:lJ37_0 lines i0)=>(fun (m0:Nat) (out:List Za) (i40:Int) (hh0:lH37_0 lines i0 m0 out i40)=>have hI0:=hh0.1; have hl0:=hh0.2.1; have _:=hh0.2.2.1; have _:=hh0.2.2.2; ifd (i40<(lines.length:Int)) (fun h2 _=>ai (uu3:ib i40 lines) (kc26 (lines.getD i40.toNat default) uu64 (ai (appr 1 eStr out [(F26 (lines.getD i40.toNat default))] fun _=>rfl) (ai (uu16:(out++[(F26 (lines.getD i40.toNat default))]).length*16<=140737488355328) (ai (iok (i40+1) uu3) (bk37_0 lines i0 m0 (out++[(F26 (lines.getD i40.toNat default))]) (i40+1) hl0 (runL_next hI0 (condT h2 rfl)) uu39)))))) (fun h2 _=>have hD0_3:lX37_0 lines=Lp.done (out,i40):=runL_done hI0 (condF h2 rfl); fi37 lines out (finD hD0_3 rfl))) (i0.1-1) i0.2.1 i0.2.2 (un37_0 lines i0 hi0)))) uu2
theorem as37 (lines:List Za):F37 lines=(lines.map F26):=by
 unfold F37
 have:=fold_loop0 lines (fun (s:List Za) x=>s++[F26 x]) (fun s i=>(s,i)) (F37_s0 lines) (fun i s hi=>by
  simp only [F37_s0,ltD hi,Qc,nn]; rfl) (fun s=>by simp only [F37_s0,geD,Qh]) (fun r=>r) (fun (out,i40)=>out) []
 refine this.trans ?_
 rw [foldl_map',Sh]
def T37 (R:List Za) (lines:List Za):Spec:=⟨(S37 R lines).args,(S37 R lines).res,lines.length<=1048576/\(∀ k:Nat,(lines.getD k default).size<=1048576)⟩
theorem oa37 (lines:List Za):(T37 (lines.map F26) lines).ok Tryz.prog 37:=by
 intro hp; have h:=ok37 lines hp; rw [as37 lines] at h; exact h
def F45 (l:Za):Bool :=
 (!(F31 l))
def S45 (l:Za):Spec:=⟨[.r (.c (.v (.string l)))],.v (.bool (F45 l)),l.size<=1048576⟩
theorem ok45 (l:Za):(S45 l).ok Tryz.prog 45 false :=
 fnG_ok mixed (fn:=Tryz.f45) (ct:=.seq .no (.seq (.reg [(1,kh31 l)]) .no)) Tryz.func45 (fun (hpre0:l.size<=1048576)=>kc31 l uu0 (fiB (!(F31 l)) (F45 l) rfl)) uu2
theorem kc16 (line:Za) {K_:Prop} (p0_:line.size<=1048576) (k_:K_):(line.size<=1048576)/\(Imp (.v (.string line)) (.v (.string line)))/\K_:=⟨p0_,Imp.refl _,k_⟩
abbrev kh16 (line:Za):Hint false Tryz.prog:=.call 16 (S16 line) (ok16 line) none
def F30_s1 (lines:List Za):(Int×ML Bool)->Lp (Int×ML Bool) Int:=fun (v31,ms) =>
 bif (decide (v31<(lines.length:Int))) then (.next ((v31+1),(putM ms (F16 (lines.getD v31.toNat default)) true))) else (.done (v31,ms))
def F30_j0 (lines:List Za):Lp (ML Bool) Int :=
 (runL (F30_s1 lines) (((lines.length:Int)-0).toNat+1) (0,([]:ML Bool))).fin Lp.ret (fun (v31,ms)=>.done ms)
def F30_s0 (lines:List Za):Int->Lp Int Int:=fun i40 =>
 bif (decide (i40<(lines.length:Int))) then (bif (!(Op.bytesLess (lines.getD (i40-1).toNat default).toList (lines.getD i40.toNat default).toList)) then (.ret 3) else (.next (i40+1))) else (.done i40)
def F30 (lines:List Za):Int :=
 bif (decide ((lines.length:Int)>16)) then 1 else (bif (lines.any (fun (x0:Za)=>F45 x0)) then 2 else ((runL (F30_s0 lines) (((lines.length:Int)-1).toNat+1) 1).fin (fun r=>r) (fun i40=>(F30_j0 lines).fin (fun r=>r) (fun keys=>bif (decide ((keys.length:Int)<(lines.length:Int))) then 4 else 0))))
abbrev lN30_1 (lines:List Za):Nat×(Int×ML Bool):=((((lines.length:Int)-0).toNat+1),(0,([]:ML Bool)))
abbrev lI30_1 (lines:List Za) (m39:Nat) (v31:Int) (ms:ML Bool):Prop:=Int.toNat ((lines.length:Int)-v31)<m39/\(0:Int)<=v31
abbrev lX30_1 (lines:List Za):Lp (Int×ML Bool) Int:=LpX (F30_s1 lines) (lN30_1 lines)
abbrev lJ30_1 (lines:List Za) (i:Nat×(Int×ML Bool)):Prop:=LpJ (F30_s1 lines) (lN30_1 lines) i (lI30_1 lines i.1 i.2.1 i.2.2)
abbrev lH30_1 (lines:List Za) (i:Nat×(Int×ML Bool)) (m39:Nat) (v31:Int) (ms:ML Bool):Prop:=LpH (F30_s1 lines) (lN30_1 lines) i m39 (v31,ms) (lI30_1 lines (m39+1) v31 ms)
abbrev lE30_1 (lines:List Za) (v31:Int) (ms:ML Bool) (v31_:Int) (ms_:ML Bool) (K39:Prop):Prop:=(Rf (.int .i64 (lines.length:Int)))/\((.int .i64 v31:Value)=.int .i64 v31_)/\(Im (.l 1 eStr lines))/\(Imp (.x (MX Value.bool ms)) (.x (MX Value.bool ms_)))/\K39
theorem un30_1 (lines:List Za) (i:Nat×(Int×ML Bool)) (h:lJ30_1 lines i):lH30_1 lines i (i.1-1) i.2.1 i.2.2:=⟨hd1 h.1 h.2.1,hd3 h.2.1,hd2 h.2.1,h.2.2⟩
theorem bk30_1 (lines:List Za) (i:Nat×(Int×ML Bool)) (m39:Nat) (v31:Int) (ms:ML Bool) (hl:m39<i.1) (e:runL (F30_s1 lines) m39 (v31,ms)=lX30_1 lines) (h:lI30_1 lines m39 v31 ms):∃ j:Nat×(Int×ML Bool),lE30_1 lines v31 ms j.2.1 j.2.2 (lJ30_1 lines j/\j.1<i.1):=⟨(m39,(v31,ms)),rfl,rfl,Imp.refl _,Imp.refl _,⟨e,h⟩,hl⟩
theorem en30_1 (lines:List Za) (h:(0:Int)<=0):lE30_1 lines 0 ([]:ML Bool) 0 ([]:ML Bool) (lJ30_1 lines (lN30_1 lines)):=⟨rfl,rfl,Imp.refl _,Imp.refl _,rfl,Qt _,h⟩
abbrev jJ30_0 (lines:List Za) (j:ML Bool):Prop:=(F30_j0 lines)=Lp.done j
theorem jn30_0 (lines:List Za) (keys:ML Bool) (e:(F30_j0 lines)=Lp.done keys):∃ j:ML Bool,(Imp (.l 1 eStr lines) (.l 1 eStr lines))/\(Imp (.x (MX Value.bool keys)) (.x (MX Value.bool j)))/\jJ30_0 lines j:=⟨keys,Imp.refl _,Imp.refl _,e⟩
abbrev lN30_0 (lines:List Za):Nat×Int:=((((lines.length:Int)-1).toNat+1),1)
abbrev lI30_0 (lines:List Za) (m39:Nat) (i40:Int):Prop:=Int.toNat ((lines.length:Int)-i40)<m39/\(1:Int)<=i40/\(0:Int)<=i40
abbrev lX30_0 (lines:List Za):Lp Int Int:=LpX (F30_s0 lines) (lN30_0 lines)
abbrev lJ30_0 (lines:List Za) (i:Nat×Int):Prop:=LpJ (F30_s0 lines) (lN30_0 lines) i (lI30_0 lines i.1 i.2)
abbrev lH30_0 (lines:List Za) (i:Nat×Int) (m39:Nat) (i40:Int):Prop:=LpH (F30_s0 lines) (lN30_0 lines) i m39 i40 (lI30_0 lines (m39+1) i40)
abbrev lE30_0 (lines:List Za) (i40:Int) (i40_:Int) (K39:Prop):Prop:=((.int .i64 i40:Value)=.int .i64 i40_)/\(Im (.l 1 eStr lines))/\K39
theorem un30_0 (lines:List Za) (i:Nat×Int) (h:lJ30_0 lines i):lH30_0 lines i (i.1-1) i.2:=⟨hd1 h.1 h.2.1,hd3 h.2.1,hd2 h.2.1,h.2.2⟩
theorem bk30_0 (lines:List Za) (i:Nat×Int) (m39:Nat) (i40:Int) (hl:m39<i.1) (e:runL (F30_s0 lines) m39 i40=lX30_0 lines) (h:lI30_0 lines m39 i40):∃ j:Nat×Int,lE30_0 lines i40 j.2 (lJ30_0 lines j/\j.1<i.1):=⟨(m39,i40),rfl,Imp.refl _,⟨e,h⟩,hl⟩
theorem en30_0 (lines:List Za) (h:(1:Int)<=1/\(0:Int)<=1):lE30_0 lines 1 1 (lJ30_0 lines (lN30_0 lines)):=⟨rfl,Imp.refl _,rfl,Qt _,h⟩
def S30 (lines:List Za):Spec:=⟨[.r (.c (.l 1 eStr lines))],.v (vI (F30 lines)),(∀ k:Nat,(lines.getD k default).size<=1048576)⟩
theorem ok30 (lines:List Za):(S30 lines).ok Tryz.prog 30 false :=
 fnG_ok mixed (fn:=Tryz.f30) (ct:=.seqk [(0,0)] .no (.seq (.seq .no (.cond (.seq .no .no) .no)) (.seq (.seq (.reg [(1,.call 44 (S44 (lines.any (fun (x0:Za)=>F45 x0)) lines (fun (x0:Za)=>F45 x0) (fun (x0:Za)=>x0.size<=1048576)) (oa44 lines (fun (x0:Za)=>F45 x0) (fun (x0:Za)=>x0.size<=1048576)) (some ⟨false,45,fsQ54 (fun (x0:Za)=>x0.size<=1048576) (fun (x0:Za)=>F45 x0),[],rfl,True,fun i=>ok_px (ok45 i)⟩))]) (.cond (.seq .no .no) .no)) (.seq (.seqk [(0,0)] .no (.blk (.loop (ι:=Nat×Int) (fun i=>(fun (i40:Int)=>(⟨[(0,some (.h 0 0)),(3,some (.v (vI i40)))],[(0,some (.shr none (.l 1 eStr lines)))],1⟩:St)) i.2) (lJ30_0 lines) (fun i=>i.1) (lN30_0 lines) (fun i=>(fun (i40:Int)=>(.seq (.seq .no (.cond .no .no)) (.seq (.blk (.seq (.reg [(2,.bnd)]) (.cond (.seq .no .no) .no))) (.reg [(1,.bnd)])))) i.2)))) (.seq (.reg [(0,.mpm Value.bool)]) (.cut (ι:=ML Bool) (fun j=>(fun (keys:ML Bool)=>(⟨[(0,some (.h 0 0)),(4,some (.h 1 0))],[(0,some (.shr none (.l 1 eStr lines))),(1,some (.own 1 (.x (MX Value.bool keys))))],2⟩:St)) j) (jJ30_0 lines) (.seqk [(29,0)] .no (.blk (.loop (ι:=Nat×(Int×ML Bool)) (fun i=>(fun (v31:Int) (ms:ML Bool)=>(⟨[(0,some (.h 0 0)),(4,some (.h 1 0)),(29,some (.h 0 0)),(30,some (.v (vI (lines.length:Int)))),(31,some (.v (vI v31)))],[(0,some (.shr none (.l 1 eStr lines))),(1,some (.own 1 (.x (MX Value.bool ms))))],2⟩:St)) i.2.1 i.2.2) (lJ30_1 lines) (fun i=>i.1) (lN30_1 lines) (fun i=>(fun (v31:Int) (ms:ML Bool)=>(.seq .no (.seq (.cond .no .no) (.seq (.blk (.seq .no (.reg [(2,kh16 (lines.getD v31.toNat default)),(3,.mpu Value.bool ms true)]))) (.reg [(0,.bnd)]))))) i.2.1 i.2.2)))) (fun j=>(fun (keys:ML Bool)=>(.seq (.seq (.reg [(1,.mpn Value.bool keys)]) (.cond (.seq .no .no) .no)) (.seq .no .no))) j))))))) Tryz.func30 (fun (hpre0:∀ k:Nat,(lines.getD k default).size<=1048576)=>kn lines fun _=>ifd ((lines.length:Int)>16) (fun h1 _=>fiI 1 (F30 lines) (condT h1 rfl)) (fun h1 _=>ai (uu49:∀ k:Nat,k<lines.length->(fun (x0:Za)=>x0.size<=1048576) (lines.getD k default)) (ai (Imp.refl (.l 1 eStr lines)) (ai (Eq.refl (fsQ54 (fun (x0:Za)=>x0.size<=1048576) (fun (x0:Za)=>F45 x0))) (ai trivial (ifb (lines.any (fun (x0:Za)=>F45 x0)) (fun h2=>fiI 2 (F30 lines) (condF h1 (condT h2 rfl))) (fun h2=>kn lines fun _=>ai (en30_0 lines uu7) (fun (i0:Nat×Int) (hi0:lJ30_0 lines i0)=>(fun (m0:Nat) (i40:Int) (hh0:lH30_0 lines i0 m0 i40)=>have hI0:=hh0.1; have hl0:=hh0.2.1; have _:=hh0.2.2.1; have _:=hh0.2.2.2; ifd (i40<(lines.length:Int)) (fun h4 _=>ai (iok (i40-1) uu0) (ai (uu0:ib (i40-1) lines) (ai (uu0:ib i40 lines) (ifb (!(Op.bytesLess (lines.getD (i40-1).toNat default).toList (lines.getD i40.toNat default).toList)) (fun h5=>fiI 3 (F30 lines) (condF h1 (condF h2 (finR (runL_ret hI0 (condT h4 (condT h5 rfl))) rfl)))) (fun h5=>ai (iok (i40+1) uu0) (bk30_0 lines i0 m0 (i40+1) hl0 (runL_next hI0 (condT h4 (condF h5 rfl))) uu27)))))) (fun h4 _=>have hD0_6:lX30_0 lines=Lp.done i40:=runL_done hI0 (condF h4 rfl); ai (kn lines fun _=>ai (en30_1 lines uu0) (fun (i1:Nat×(Int×ML Bool)) (hi1:lJ30_1 lines i1)=>(fun (m1:Nat) (v31:Int) (ms:ML Bool) (hh1:lH30_1 lines i1 m1 v31 ms)=>have hI1:=hh1.1; have hl1:=hh1.2.1; have _:=hh1.2.2.1; have _:=hh1.2.2.2; ifd (v31<(lines.length:Int)) (fun h8 _=>ai (uu0:ib v31 lines) (kc16 (lines.getD v31.toNat default) uu65 (ai (Eq.refl (MX Value.bool ms)) (ai (Eq.refl (Value.bool true)) (ai (iok (v31+1) uu0) (bk30_1 lines i1 m1 (v31+1) (putM ms (F16 (lines.getD v31.toNat default)) true) hl1 (runL_next hI1 (condT h8 rfl)) uu7)))))) (fun h8 _=>have hD1_9:lX30_1 lines=Lp.done (v31,ms):=runL_done hI1 (condF h8 rfl); jn30_0 lines ms (Tk (finD hD1_9 rfl)) )) (i1.1-1) i1.2.1 i1.2.2 (un30_1 lines i1 hi1))) (fun (j:ML Bool) (hj:jJ30_0 lines j)=>(fun (keys:ML Bool) (hJ0_10:(F30_j0 lines)=Lp.done keys)=>ai (Eq.refl (MX Value.bool keys)) (ifd ((keys.length:Int)<(lines.length:Int)) (fun h11 _=>fiI 4 (F30 lines) (condF h1 (condF h2 (finD hD0_6 (finD hJ0_10 (condT h11 rfl)))))) (fun h11 _=>fiI 0 (F30 lines) (condF h1 (condF h2 (finD hD0_6 (finD hJ0_10 (condF h11 rfl)))))))) j hj))) (i0.1-1) i0.2 (un30_0 lines i0 hi0))))))))) uu2
theorem kc37a (lines:List Za) {K_:Prop} (p0_:lines.length<=1048576) (p1_:∀ k:Nat,(lines.getD k default).size<=1048576) (k_:K_):(lines.length<=1048576/\(∀ k:Nat,(lines.getD k default).size<=1048576))/\(Imp (.l 1 eStr lines) (.l 1 eStr lines))/\K_:=⟨⟨p0_,p1_⟩,Imp.refl _,k_⟩
abbrev kh37a (lines:List Za):Hint true Tryz.prog:=.call 37 (T37 (lines.map F26) lines) (oa37 lines) none
def F18_s2 (lines:List Za):Int->Lp Int Int:=fun i42 =>
 bif (decide (i42<(lines.length:Int))) then (bif (F38 ((lines.map F26).take i42.toNat) ((lines.map F26).getD i42.toNat default)) then (.ret 4) else (.next (i42+1))) else (.done i42)
def F18_s1 (lines:List Za):Int->Lp Int Int:=fun i41 =>
 bif (decide (i41<(lines.length:Int))) then (bif (!(Op.bytesLess (lines.getD (i41-1).toNat default).toList (lines.getD i41.toNat default).toList)) then (.ret 3) else (.next (i41+1))) else (.done i41)
def F18_s0 (lines:List Za):Int->Lp Int Int:=fun i40 =>
 bif (decide (i40<(lines.length:Int))) then (bif (((lines.map F26).getD i40.toNat default).toList==Zc.toList) then (.ret 2) else (.next (i40+1))) else (.done i40)
def F18 (lines:List Za):Int :=
 bif (decide ((lines.length:Int)>16)) then 1 else ((runL (F18_s0 lines) (((lines.length:Int)-0).toNat+1) 0).fin (fun r=>r) (fun i40=>(runL (F18_s1 lines) (((lines.length:Int)-1).toNat+1) 1).fin (fun r=>r) (fun i41=>(runL (F18_s2 lines) (((lines.length:Int)-0).toNat+1) 0).fin (fun r=>r) (fun i42=>0))))
abbrev lN18_2 (lines:List Za):Nat×Int:=((((lines.length:Int)-0).toNat+1),0)
abbrev lI18_2 (lines:List Za) (m39:Nat) (i42:Int):Prop:=Int.toNat ((lines.length:Int)-i42)<m39/\(0:Int)<=i42
abbrev lX18_2 (lines:List Za):Lp Int Int:=LpX (F18_s2 lines) (lN18_2 lines)
abbrev lJ18_2 (lines:List Za) (i:Nat×Int):Prop:=LpJ (F18_s2 lines) (lN18_2 lines) i (lI18_2 lines i.1 i.2)
abbrev lH18_2 (lines:List Za) (i:Nat×Int) (m39:Nat) (i42:Int):Prop:=LpH (F18_s2 lines) (lN18_2 lines) i m39 i42 (lI18_2 lines (m39+1) i42)
abbrev lE18_2 (lines:List Za) (i42:Int) (i42_:Int) (K39:Prop):Prop:=((.int .i64 i42:Value)=.int .i64 i42_)/\(Im (.l 1 eStr lines))/\(Im (.l 1 eStr (lines.map F26)))/\K39
theorem un18_2 (lines:List Za) (i:Nat×Int) (h:lJ18_2 lines i):lH18_2 lines i (i.1-1) i.2:=⟨hd1 h.1 h.2.1,hd3 h.2.1,hd2 h.2.1,h.2.2⟩
theorem bk18_2 (lines:List Za) (i:Nat×Int) (m39:Nat) (i42:Int) (hl:m39<i.1) (e:runL (F18_s2 lines) m39 i42=lX18_2 lines) (h:lI18_2 lines m39 i42):∃ j:Nat×Int,lE18_2 lines i42 j.2 (lJ18_2 lines j/\j.1<i.1):=⟨(m39,i42),rfl,Imp.refl _,Imp.refl _,⟨e,h⟩,hl⟩
theorem en18_2 (lines:List Za) (h:(0:Int)<=0):lE18_2 lines 0 0 (lJ18_2 lines (lN18_2 lines)):=⟨rfl,Imp.refl _,Imp.refl _,rfl,Qt _,h⟩
abbrev lN18_1 (lines:List Za):Nat×Int:=((((lines.length:Int)-1).toNat+1),1)
abbrev lI18_1 (lines:List Za) (m39:Nat) (i41:Int):Prop:=Int.toNat ((lines.length:Int)-i41)<m39/\(1:Int)<=i41/\(0:Int)<=i41
abbrev lX18_1 (lines:List Za):Lp Int Int:=LpX (F18_s1 lines) (lN18_1 lines)
abbrev lJ18_1 (lines:List Za) (i:Nat×Int):Prop:=LpJ (F18_s1 lines) (lN18_1 lines) i (lI18_1 lines i.1 i.2)
abbrev lH18_1 (lines:List Za) (i:Nat×Int) (m39:Nat) (i41:Int):Prop:=LpH (F18_s1 lines) (lN18_1 lines) i m39 i41 (lI18_1 lines (m39+1) i41)
abbrev lE18_1 (lines:List Za) (i41:Int) (i41_:Int) (K39:Prop):Prop:=((.int .i64 i41:Value)=.int .i64 i41_)/\(Im (.l 1 eStr lines))/\(Im (.l 1 eStr (lines.map F26)))/\K39
theorem un18_1 (lines:List Za) (i:Nat×Int) (h:lJ18_1 lines i):lH18_1 lines i (i.1-1) i.2:=⟨hd1 h.1 h.2.1,hd3 h.2.1,hd2 h.2.1,h.2.2⟩
theorem bk18_1 (lines:List Za) (i:Nat×Int) (m39:Nat) (i41:Int) (hl:m39<i.1) (e:runL (F18_s1 lines) m39 i41=lX18_1 lines) (h:lI18_1 lines m39 i41):∃ j:Nat×Int,lE18_1 lines i41 j.2 (lJ18_1 lines j/\j.1<i.1):=⟨(m39,i41),rfl,Imp.refl _,Imp.refl _,⟨e,h⟩,hl⟩
theorem en18_1 (lines:List Za) (h:(1:Int)<=1/\(0:Int)<=1):lE18_1 lines 1 1 (lJ18_1 lines (lN18_1 lines)):=⟨rfl,Imp.refl _,Imp.refl _,rfl,Qt _,h⟩
abbrev lN18_0 (lines:List Za):Nat×Int:=((((lines.length:Int)-0).toNat+1),0)
abbrev lI18_0 (lines:List Za) (m39:Nat) (i40:Int):Prop:=Int.toNat ((lines.length:Int)-i40)<m39/\(0:Int)<=i40
abbrev lX18_0 (lines:List Za):Lp Int Int:=LpX (F18_s0 lines) (lN18_0 lines)
abbrev lJ18_0 (lines:List Za) (i:Nat×Int):Prop:=LpJ (F18_s0 lines) (lN18_0 lines) i (lI18_0 lines i.1 i.2)
abbrev lH18_0 (lines:List Za) (i:Nat×Int) (m39:Nat) (i40:Int):Prop:=LpH (F18_s0 lines) (lN18_0 lines) i m39 i40 (lI18_0 lines (m39+1) i40)
abbrev lE18_0 (lines:List Za) (i40:Int) (i40_:Int) (K39:Prop):Prop:=((.int .i64 i40:Value)=.int .i64 i40_)/\(Im (.l 1 eStr lines))/\(Im (.l 1 eStr (lines.map F26)))/\K39
theorem un18_0 (lines:List Za) (i:Nat×Int) (h:lJ18_0 lines i):lH18_0 lines i (i.1-1) i.2:=⟨hd1 h.1 h.2.1,hd3 h.2.1,hd2 h.2.1,h.2.2⟩
theorem bk18_0 (lines:List Za) (i:Nat×Int) (m39:Nat) (i40:Int) (hl:m39<i.1) (e:runL (F18_s0 lines) m39 i40=lX18_0 lines) (h:lI18_0 lines m39 i40):∃ j:Nat×Int,lE18_0 lines i40 j.2 (lJ18_0 lines j/\j.1<i.1):=⟨(m39,i40),rfl,Imp.refl _,Imp.refl _,⟨e,h⟩,hl⟩
theorem en18_0 (lines:List Za) (h:(0:Int)<=0):lE18_0 lines 0 0 (lJ18_0 lines (lN18_0 lines)):=⟨rfl,Imp.refl _,Imp.refl _,rfl,Qt _,h⟩
def S18 (lines:List Za):Spec:=⟨[.r (.c (.l 1 eStr lines))],.v (vI (F18 lines)),(∀ k:Nat,(lines.getD k default).size<=1048576)⟩
theorem ok18 (lines:List Za):(S18 lines).ok Tryz.prog 18 :=
 fnG_ok mixed (fn:=Tryz.f18) (ct:=.seqk [(0,0)] .no (.seq (.seq .no (.cond (.seq .no .no) .no)) (.seq (.reg [(1,kh37a lines)]) (.seq (.seqk [(0,0),(3,0)] .no (.blk (.loop (ι:=Nat×Int) (fun i=>(fun (i40:Int)=>(⟨[(0,some (.h 0 0)),(3,some (.h 1 0)),(4,some (.v (vI i40)))],[(0,some (.shr none (.l 1 eStr lines))),(1,some (.own 1 (.l 1 eStr (lines.map F26))))],2⟩:St)) i.2) (lJ18_0 lines) (fun i=>i.1) (lN18_0 lines) (fun i=>(fun (i40:Int)=>(.seq (.seq .no (.cond .no .no)) (.seq (.blk (.seq .no (.cond (.seq .no .no) .no))) (.reg [(1,.bnd)])))) i.2)))) (.seq (.seqk [(0,0)] .no (.blk (.loop (ι:=Nat×Int) (fun i=>(fun (i41:Int)=>(⟨[(0,some (.h 0 0)),(3,some (.h 1 0)),(5,some (.v (vI i41)))],[(0,some (.shr none (.l 1 eStr lines))),(1,some (.own 1 (.l 1 eStr (lines.map F26))))],2⟩:St)) i.2) (lJ18_1 lines) (fun i=>i.1) (lN18_1 lines) (fun i=>(fun (i41:Int)=>(.seq (.seq .no (.cond .no .no)) (.seq (.blk (.seq (.reg [(2,.bnd)]) (.cond (.seq .no .no) .no))) (.reg [(1,.bnd)])))) i.2)))) (.seq (.seqk [(0,0),(3,0)] .no (.blk (.loop (ι:=Nat×Int) (fun i=>(fun (i42:Int)=>(⟨[(0,some (.h 0 0)),(3,some (.h 1 0)),(6,some (.v (vI i42)))],[(0,some (.shr none (.l 1 eStr lines))),(1,some (.own 1 (.l 1 eStr (lines.map F26))))],2⟩:St)) i.2) (lJ18_2 lines) (fun i=>i.1) (lN18_2 lines) (fun i=>(fun (i42:Int)=>(.seq (.seq .no (.cond .no .no)) (.seq (.blk (.seq (.reg [(7,kh38 ((lines.map F26).take i42.toNat) ((lines.map F26).getD i42.toNat default))]) (.cond (.seq .no .no) .no))) (.reg [(1,.bnd)])))) i.2)))) (.seq .no .no))))))) Tryz.func18 (fun (hpre0:∀ k:Nat,(lines.getD k default).size<=1048576)=>kn lines fun _=>ifd ((lines.length:Int)>16) (fun h1 _=>fiI 1 (F18 lines) (condT h1 rfl)) (fun h1 _=>kc37a lines uu3 uu49 (kn lines fun _=>kn (lines.map F26) fun _=>ai (en18_0 lines uu3) (fun (i0:Nat×Int) (hi0:lJ18_0 lines i0)=>(fun (m0:Nat) (i40:Int) (hh0:lH18_0 lines i0 m0 i40)=>have hI0:=hh0.1; have hl0:=hh0.2.1; have _:=hh0.2.2.1; have _:=hh0.2.2.2; ifd (i40<(lines.length:Int)) (fun h3 _=>ai (uu3:ib i40 (lines.map F26)) (ifb (((lines.map F26).getD i40.toNat default).toList==Zc.toList) (fun h4=>fiI 2 (F18 lines) (condF h1 (finR (runL_ret hI0 (condT h3 (condT h4 rfl))) rfl))) (fun h4=>ai (iok (i40+1) uu3) (bk18_0 lines i0 m0 (i40+1) hl0 (runL_next hI0 (condT h3 (condF h4 rfl))) uu34)))) (fun h3 _=>have hD0_5:lX18_0 lines=Lp.done i40:=runL_done hI0 (condF h3 rfl); kn lines fun _=>ai (en18_1 lines uu34) (fun (i1:Nat×Int) (hi1:lJ18_1 lines i1)=>(fun (m1:Nat) (i41:Int) (hh1:lH18_1 lines i1 m1 i41)=>have hI1:=hh1.1; have hl1:=hh1.2.1; have _:=hh1.2.2.1; have _:=hh1.2.2.2; ifd (i41<(lines.length:Int)) (fun h7 _=>ai (iok (i41-1) uu3) (ai (uu3:ib (i41-1) lines) (ai (uu3:ib i41 lines) (ifb (!(Op.bytesLess (lines.getD (i41-1).toNat default).toList (lines.getD i41.toNat default).toList)) (fun h8=>fiI 3 (F18 lines) (condF h1 (finD hD0_5 (finR (runL_ret hI1 (condT h7 (condT h8 rfl))) rfl)))) (fun h8=>ai (iok (i41+1) uu3) (bk18_1 lines i1 m1 (i41+1) hl1 (runL_next hI1 (condT h7 (condF h8 rfl))) uu39)))))) (fun h7 _=>have hD1_9:lX18_1 lines=Lp.done i41:=runL_done hI1 (condF h7 rfl); kn lines fun _=>kn (lines.map F26) fun _=>ai (en18_2 lines uu3) (fun (i2:Nat×Int) (hi2:lJ18_2 lines i2)=>(fun (m2:Nat) (i42:Int) (hh2:lH18_2 lines i2 m2 i42)=>have hI2:=hh2.1; have hl2:=hh2.2.1; have _:=hh2.2.2.1; have _:=hh2.2.2.2; ifd (i42<(lines.length:Int)) (fun h11 _=>ai (uu3:0<=(0:Int)/\(0:Int)<=i42/\i42<=((lines.map F26).length:Int)) (ai (uu3:ib i42 (lines.map F26)) (kc38 ((lines.map F26).take i42.toNat) ((lines.map F26).getD i42.toNat default) (ifb (F38 ((lines.map F26).take i42.toNat) ((lines.map F26).getD i42.toNat default)) (fun h12=>fiI 4 (F18 lines) (condF h1 (finD hD0_5 (finD hD1_9 (finR (runL_ret hI2 (condT h11 (condT h12 rfl))) rfl))))) (fun h12=>ai (iok (i42+1) uu3) (bk18_2 lines i2 m2 (i42+1) hl2 (runL_next hI2 (condT h11 (condF h12 rfl))) uu34)))))) (fun h11 _=>have hD2_13:lX18_2 lines=Lp.done i42:=runL_done hI2 (condF h11 rfl); fiI 0 (F18 lines) (condF h1 (finD hD0_5 (finD hD1_9 (finD hD2_13 rfl)))))) (i2.1-1) i2.2 (un18_2 lines i2 hi2)))) (i1.1-1) i1.2 (un18_1 lines i1 hi1)))) (i0.1-1) i0.2 (un18_0 lines i0 hi0))))) uu2
instance baLawful:LawfulBEq Za where
 eq_of_beq h:=(Go.MapKept.bytes_beq _ _).1 h
 rfl:=(Go.MapKept.bytes_beq _ _).2 rfl
theorem key_none (l:Za) (h:F42 l=false):F26 l=Zc:=by
 unfold F26
 rw [h]; rfl
theorem key_empty (l:Za):((F26 l).toList==Zc.toList)=!F42 l:=by
 cases h:F42 l with
 | false=>rw [key_none l h]; rw [beq_ba]; rfl
 | true =>
  rw [byteToList,byteToList,key_eq l h,Sa,Qx]
  have hk:=keptP l h
  have hl:=form_two_le _ hk.form
  have hn:=form_key_le _ hk.form
  have hno:=hk.no
  generalize (F43 l).1=w at hl hn hno
  match w,hl with
  | a :: r,_ =>
   have e:((keyN (((a :: r).getD 0 default).data.toList)).toNat)=(keyN (((a :: r).getD 0 default).data.toList)).toNat-1+1:=by omega
   rw [e,List.take_succ_cons,joinS_data,Rb,Lib.join_cons]
   intro h0
   exact (hno a Ql).2.1 (List.append_eq_nil_iff.1 h0).1
def dupK:List Za->List Za->Bool
 | _,[]=>false
 | seen,s :: r=>decide (s∈seen) || dupK (seen++[s]) r
def insK (ks:List Za) (s:Za):List Za:=if s∈ks then ks else ks++[s]
theorem insK_le:∀ (keys ks:List Za),(keys.foldl insK ks).length<=ks.length+keys.length
 | [],ks=>by simp
 | s :: r,ks=>by
  rw [So]
  have h:=insK_le r (insK ks s)
  have h2:(insK ks s).length<=ks.length+1:=by unfold insK; split <;> simp
  simp only [Q4]; omega
theorem insK_dup:∀ (keys ks seen:List Za),(∀ s,s∈ks↔s∈seen)->decide ((keys.foldl insK ks).length<ks.length+keys.length)=dupK seen keys
 | [],ks,seen,_=>by simp [dupK]
 | s :: r,ks,seen,h=>by
  rw [So,dupK]
  by_cases hs:s∈ks
  ·have e:insK ks s=ks:=by unfold insK; rw [if_pos hs]
   rw [e,Qs ((h s).1 hs),Bool.true_or]
   have:=insK_le r ks
   exact Qs uu33
  ·have e:insK ks s=ks++[s]:=by unfold insK; rw [if_neg hs]
   rw [e,Qq (fun x=>hs ((h s).2 x)),Ha,<- insK_dup r (ks++[s]) (seen++[s]) (fun t=>by simp [h t])]
   congr 1
   simp only [Q6,Q4,Rw]
   exact propext ⟨fun x=>by omega,fun x=>by omega⟩
theorem putM_keys {α:Type}:∀ (m:ML α) (s:Za) (x:α),(putM m s x).map (·.1)=insK (m.map (·.1)) s
 | [],s,x=>by simp [putM,insK]
 | p :: m,s,x=>by
  rw [putM]
  by_cases h:p.1=s
  ·rw [if_pos h]; subst h; simp [insK]
  ·rw [if_neg h,Rb,putM_keys m s x]
   unfold insK
   have h':¬ s=p.1:=fun e=>h e.symm
   by_cases hm:s∈m.map (·.1)
   ·rw [if_pos hm,Rb,if_pos (Qj _ hm)]
   ·rw [if_neg hm,Rb,if_neg (by simp only [Qr,not_or]; exact ⟨h',hm⟩)]; rfl
theorem foldM_keys {α:Type} (f:Za->Za) (v:Za->α):∀ (ls:List Za) (m:ML α),(ls.foldl (fun m l=>putM m (f l) (v l)) m).map (·.1)=(ls.map f).foldl insK (m.map (·.1))
 | [],m=>rfl
 | l :: ls,m=>by
  rw [So,foldM_keys f v ls,putM_keys,Rb,So]
theorem specHas_mem (ws:List Za) (x:Za):F38 ws x=decide (x∈ws):=by
 rw [specHas_eq,G2,Rs,Rc]
 constructor
 ·rintro ⟨e,he,h⟩
  rw [beq_ba,Rc] at h
  exact h ▸ he
 ·exact fun h=>⟨x,h,by rw [beq_ba]; exact Qs rfl⟩
theorem dup_loop (keys:List Za):∀ (m i:Nat),i+m=keys.length->anyF (fun k=>decide (keys.getD k default∈keys.take k)) i m=dupK (keys.take i) (keys.drop i)
 | 0,i,h=>by rw [Q8 uu0]; rfl
 | m+1,i,h=>by
  have hd:keys.drop i=keys.getD i default :: keys.drop (i+1):=by
   rw [Rk (show i<keys.length by omega),Qd,Qe (show i<keys.length by omega)]; rfl
  rw [hd,dupK,anyF,dup_loop keys m (i+1) uu0,take_next (show i<keys.length by omega)]
theorem getD_map (f:Za->Za) (ls:List Za) (i:Nat) (h:i<ls.length):(ls.map f).getD i default=f (ls.getD i default):=by
 rw [getD_lt _ (by simpa using h),getD_lt _ h,List.getElem_map]
theorem anyL_congr {α:Type} {p q:α->Bool} {xs:List α} (h:∀ x,p x=q x):xs.any p=xs.any q:=by rw [show p=q from funext h]
theorem neat_same (lines:List Za):F30 lines=F18 lines:=by
 unfold F30 F18
 have hkept:∀ x:Za,F45 x=!F42 x:=fun x=>by unfold F45; rw [keptSo_eq]
 cases h16:decide ((lines.length:Int)>16) with
 | true=>rfl
 | false =>
 rw [Qh,Qh]
 have h0:=anyL lines (fun l=>!F42 l) (2:Int) (F18_s0 lines) (fun i hi=>by
  simp only [F18_s0,ltD hi,Qc,nn,getD_map _ _ _ hi,key_empty]
  rfl) uu35 (fun r=>r) (fun _=>(runL (F18_s1 lines) ((Int.toNat ((lines.length:Int)-1))+1) 1).fin (fun r=>r) (fun i41=>(runL (F18_s2 lines) ((Int.toNat ((lines.length:Int)-0))+1) 0).fin (fun r=>r) (fun i42=>0))) _ (fun _=>rfl)
 rw [h0]
 have e1:(lines.any fun x0=>F45 x0)=lines.any fun l=>!F42 l:=anyL_congr hkept
 rw [e1]
 cases (lines.any fun l=>!F42 l) with
 | true=>rfl
 | false =>
 rw [Qh,Qh]
 have e2:F30_s0 lines=F18_s1 lines:=rfl
 rw [e2]
 congr 1
 funext i
 have h2:=any_loop (F18_s2 lines) lines.length (fun k=>decide ((lines.map F26).getD k default∈(lines.map F26).take k)) (4:Int) (fun r=>r) (0:Int) (fun i hi=>by
  simp only [F18_s2,ltD hi,Qc,nn,specHas_mem]; rfl) uu50 lines.length 0 uu0 (Int.toNat ((lines.length:Int)-0)+1) uu0
 rw [dup_loop (lines.map F26) lines.length 0 uu18,He,R8] at h2
 refine Eq.trans ?_ h2.symm
 have h3:=fold_loop0 lines (fun (m:ML Bool) l=>putM m (F26 l) true) (fun m i=>(i,m)) (F30_s1 lines) (fun i s hi=>by
  simp only [F30_s1,ltD hi,Qc,nn,key_same]; rfl) (fun s=>by simp only [F30_s1,geD,Qh]) Lp.ret (fun (v31,ms)=>Lp.done ms) ([]:ML Bool)
 have h4:F30_j0 lines=Lp.done (lines.foldl (fun (m:ML Bool) l=>putM m (F26 l) true) []):=h3
 rw [h4]
 show (bif decide (((lines.foldl (fun (m:ML Bool) l=>putM m (F26 l) true) []).length:Int)<(lines.length:Int)) then (4:Int) else 0)=_
 have h5:=insK_dup (lines.map F26) [] [] (fun s=>Iff.rfl)
 have h6:(lines.foldl (fun (m:ML Bool) l=>putM m (F26 l) true) []).length=((lines.map F26).foldl insK []).length:=by
  have:=Qg List.length (foldM_keys F26 (fun _=>true) lines [])
  rw [Sc] at this
  exact this
 rw [<- h5,h6]
 congr 1
 simp only [Rw,Rx,Sc]
 exact decide_eq_decide.2 uu0
theorem nt_facts (lines:List Za) (h:F18 lines=0):lines.length<=16/\∀ l∈lines,F42 l=true:=by
 unfold F18 at h
 cases h16:decide ((lines.length:Int)>16) with
 | true=>rw [h16,Qc] at h; exact absurd h uu1
 | false =>
 rw [h16,Qh] at h
 have h0:=anyL lines (fun l=>!F42 l) (2:Int) (F18_s0 lines) (fun i hi=>by
  simp only [F18_s0,ltD hi,Qc,nn,getD_map _ _ _ hi,key_empty]
  rfl) uu35 (fun r=>r) (fun _=>(runL (F18_s1 lines) ((Int.toNat ((lines.length:Int)-1))+1) 1).fin (fun r=>r) (fun i41=>(runL (F18_s2 lines) ((Int.toNat ((lines.length:Int)-0))+1) 0).fin (fun r=>r) (fun i42=>0))) _ (fun _=>rfl)
 rw [h0] at h
 cases ha:(lines.any fun l=>!F42 l) with
 | true=>rw [ha,Qc] at h; exact absurd h uu1
 | false =>
  have h1:=Qw h16
  refine ⟨by omega,fun l hl=>?_⟩
  have:=List.any_eq_false.1 ha l hl
  cases hk:F42 l with
  | true=>rfl
  | false=>rw [hk] at this; exact absurd rfl this
theorem neat_len (lines:List Za) (h:F18 lines=0):lines.length<=16:=(nt_facts lines h).1
structure l52Cut where
 w:List Za
 deriving DecidableEq,Inhabited
def el52Cut (x:l52Cut):List Dat:=[.l 1 eStr x.w]
def F88_s0 (lines:List Za):(List l52Cut×Int)->Lp (List l52Cut×Int) (List l52Cut):=fun (out,i40) =>
 bif (decide (i40<(lines.length:Int))) then (.next ((out++[(⟨(F43 (lines.getD (Int.toNat i40) default)).1⟩:l52Cut)]),(i40+1))) else (.done (out,i40))
def F88 (lines:List Za):List l52Cut :=
 (runL (F88_s0 lines) ((Int.toNat ((lines.length:Int)-0))+1) (([]:List l52Cut),0)).fin (fun r=>r) (fun (out,i40)=>out)
abbrev lN88_0 (lines:List Za):Nat×(List l52Cut×Int):=(((Int.toNat ((lines.length:Int)-0))+1),(([]:List l52Cut),0))
abbrev lI88_0 (lines:List Za) (m39:Nat) (out:List l52Cut) (i40:Int):Prop:=Int.toNat ((lines.length:Int)-i40)<m39/\(out.length:Int)<=i40/\(0:Int)<=i40
abbrev lX88_0 (lines:List Za):Lp (List l52Cut×Int) (List l52Cut):=LpX (F88_s0 lines) (lN88_0 lines)
abbrev lJ88_0 (lines:List Za) (i:Nat×(List l52Cut×Int)):Prop:=LpJ (F88_s0 lines) (lN88_0 lines) i (lI88_0 lines i.1 i.2.1 i.2.2)
abbrev lH88_0 (lines:List Za) (i:Nat×(List l52Cut×Int)) (m39:Nat) (out:List l52Cut) (i40:Int):Prop:=LpH (F88_s0 lines) (lN88_0 lines) i m39 (out,i40) (lI88_0 lines (m39+1) out i40)
abbrev lE88_0 (lines:List Za) (out:List l52Cut) (i40:Int) (out_:List l52Cut) (i40_:Int) (K39:Prop):Prop:=((.int .i64 i40:Value)=.int .i64 i40_)/\(Im (.l 1 eStr lines))/\(Imp (.l 1 el52Cut out) (.l 1 el52Cut out_))/\K39
theorem un88_0 (lines:List Za) (i:Nat×(List l52Cut×Int)) (h:lJ88_0 lines i):lH88_0 lines i (i.1-1) i.2.1 i.2.2:=⟨hd1 h.1 h.2.1,hd3 h.2.1,hd2 h.2.1,h.2.2⟩
theorem bk88_0 (lines:List Za) (i:Nat×(List l52Cut×Int)) (m39:Nat) (out:List l52Cut) (i40:Int) (hl:m39<i.1) (e:runL (F88_s0 lines) m39 (out,i40)=lX88_0 lines) (h:lI88_0 lines m39 out i40):∃ j:Nat×(List l52Cut×Int),lE88_0 lines out i40 j.2.1 j.2.2 (lJ88_0 lines j/\j.1<i.1):=⟨(m39,(out,i40)),rfl,Imp.refl _,Imp.refl _,⟨e,h⟩,hl⟩
theorem en88_0 (lines:List Za) (h:(([]:List l52Cut).length:Int)<=0/\(0:Int)<=0):lE88_0 lines ([]:List l52Cut) 0 ([]:List l52Cut) 0 (lJ88_0 lines (lN88_0 lines)):=⟨rfl,Imp.refl _,Imp.refl _,rfl,Qt _,h⟩
theorem fi88 (lines:List Za) (r:List l52Cut) (hF:r=(F88 lines)):(Imp (.l 1 el52Cut r) (.l 1 el52Cut (F88 lines)))/\True:=by cases hF; exact ⟨Imp.refl _,trivial⟩
def S88 (R:List l52Cut) (lines:List Za):Spec:=⟨[.r (.c (.l 1 eStr lines))],.ow (.l 1 el52Cut R),lines.length<=16/\(∀ k:Nat,(lines.getD k default).size<=1048576)⟩
theorem ok88 (lines:List Za):(S88 (F88 lines) lines).ok Tryz.prog 88 :=
 fnG_ok mixed (fn:=Tryz.f88) (ct:=.seqk [(0,0)] .no (.seq (.reg [(0,.dat (.l 1 el52Cut ([]:List l52Cut)))]) (.seq (.seqk [(0,0),(3,0)] .no (.blk (.loop (ι:=Nat×(List l52Cut×Int)) (fun i=>(fun (out:List l52Cut) (i40:Int)=>(⟨[(0,some (.h 0 0)),(3,some (.h 1 0)),(4,some (.v (vI i40)))],[(0,some (.shr none (.l 1 eStr lines))),(1,some (.own 1 (.l 1 el52Cut out)))],2⟩:St)) i.2.1 i.2.2) (lJ88_0 lines) (fun i=>i.1) (lN88_0 lines) (fun i=>(fun (out:List l52Cut) (i40:Int)=>(.seq (.seq .no (.cond .no .no)) (.seq (.blk (.seq (.reg [(4,kh43 (lines.getD (Int.toNat i40) default))]) (.reg [(4,.dat (.l 1 el52Cut (out++[(⟨(F43 (lines.getD (Int.toNat i40) default)).1⟩:l52Cut)])))]))) (.reg [(1,.bnd)])))) i.2.1 i.2.2)))) (.seq .no .no)))) Tryz.func88 (fun (hp:lines.length<=16/\(∀ k:Nat,(lines.getD k default).size<=1048576))=>have hpre0:=hp.1; have hpre1:=hp.2; kn lines fun _=>ai (bokr 1 el52Cut ([]:List l52Cut) fun _=>rfl) (kn lines fun _=>kn ([]:List l52Cut) fun _=>ai (en88_0 lines uu51) (fun (i0:Nat×(List l52Cut×Int)) (hi0:lJ88_0 lines i0)=>(fun (m0:Nat) (out:List l52Cut) (i40:Int) (hh0:lH88_0 lines i0 m0 out i40)=>have hI0:=hh0.1; have hl0:=hh0.2.1; have _:=hh0.2.2.1; have _:=hh0.2.2.2; ifd (i40<(lines.length:Int)) (fun h2 _=>ai (uu0:ib i40 lines) (kc43 (lines.getD (Int.toNat i40) default) (by exact hpre1 _) (fun gv3 gv4=>ai (appr 1 el52Cut out [(⟨(F43 (lines.getD (Int.toNat i40) default)).1⟩:l52Cut)] fun _=>rfl) (ai (uu16:(out++[(⟨(F43 (lines.getD (Int.toNat i40) default)).1⟩:l52Cut)]).length*24<=140737488355328) (ai (iok (i40+1) uu0) (bk88_0 lines i0 m0 (out++[(⟨(F43 (lines.getD (Int.toNat i40) default)).1⟩:l52Cut)]) (i40+1) hl0 (runL_next hI0 (condT h2 rfl)) (by refine ⟨?_,?_,?_⟩ <;> (simp only [lens,ib] at*<;> omega)))))))) (fun h2 _=>have hD0_5:lX88_0 lines=Lp.done (out,i40):=runL_done hI0 (condF h2 rfl); fi88 lines out (finD hD0_5 rfl))) (i0.1-1) i0.2.1 i0.2.2 (un88_0 lines i0 hi0)))) uu2
def F116 (c:l52Cut) (k:Int):Za :=
 bif (decide (k<(c.w.length:Int))) then (c.w.getD (Int.toNat k) default) else Zc
def S116 (c:l52Cut) (k:Int):Spec:=⟨[.r (.g (el52Cut c)),.r (.c (.v (vI k)))],.v (.string (F116 c k)),0<=k⟩
theorem ok116 (c:l52Cut) (k:Int):(S116 c k).ok Tryz.prog 116 :=
 fnG_ok mixed (fn:=Tryz.f116) (ct:=.seq .no (.seq (.seq .no (.cond (.seq .no .no) .no)) (.seq .no .no))) Tryz.func116 (fun (hpre0:0<=k)=>ifd (k<(c.w.length:Int)) (fun h1 _=>ai (uu0:ib k c.w) (fiS (c.w.getD (Int.toNat k) default) (F116 c k) (condT h1 rfl))) (fun h1 _=>fiS Zc (F116 c k) (condF h1 rfl))) uu2
theorem sz_nil:∀ k:Nat,(([]:List Za).getD k default).size<=1048576:=fun k=>Rj _
theorem as88 (lines:List Za):F88 lines=(lines.map (fun l=>(⟨(F43 l).1⟩:l52Cut))):=by
 unfold F88
 have:=fold_loop0 lines (fun (s:List l52Cut) l=>s++[(⟨(F43 l).1⟩:l52Cut)]) (fun s i=>(s,i)) (F88_s0 lines) (fun i s hi=>by
  simp only [F88_s0,ltD hi,Qc,nn]; rfl) (fun s=>by simp only [F88_s0,geD,Qh]) (fun r=>r) (fun (out,i40)=>out) []
 refine this.trans ?_
 rw [foldl_map',Sh]
theorem at_sz1 {c:l52Cut} (h:∀ j:Nat,(c.w.getD j default).size<=1048576) (k:Int):(F116 c k).size<=1048576:=by
 unfold F116
 cases decide (k<(c.w.length:Int)) with
 | true=>exact h _
 | false=>exact Rj _
theorem at_sz (all:List l52Cut) (h:∀ k j:Nat,((all.getD k default).w.getD j default).size<=1048576) (i:Nat) (k:Int):(F116 (all.getD i default) k).size<=1048576:=at_sz1 (h i) k
def T88 (R:List l52Cut) (lines:List Za):Spec:=⟨(S88 R lines).args,(S88 R lines).res,lines.length<=16/\(∀ k:Nat,(lines.getD k default).size<=1048576)⟩
theorem oa88 (lines:List Za):(T88 (lines.map (fun l=>(⟨(F43 l).1⟩:l52Cut))) lines).ok Tryz.prog 88:=by
 intro hp; have h:=ok88 lines hp; rw [as88 lines] at h; exact h
theorem kc116 (c:l52Cut) (k:Int) {K_:Prop} (p0_:0<=k) (k_:K_):(0<=k)/\(Imps (el52Cut c) (el52Cut c))/\(Imp (.v (vI k)) (.v (vI k)))/\K_:=⟨p0_,Imps.refl _,Imp.refl _,k_⟩
abbrev kh116 (c:l52Cut) (k:Int):Hint true Tryz.prog:=.call 116 (S116 c k) (ok116 c k) none
theorem kg116 {K_:Prop} (c_ b_:Bool) (c:l52Cut) (k:Int) (p_:c_=b_->0<=k) (k_:K_):(c_=b_->0<=k)/\(c_=b_->Imps (el52Cut c) (el52Cut c))/\(c_=b_->Imp (.v (vI k)) (.v (vI k)))/\K_:=⟨p_,fun _=>Imps.refl _,fun _=>Imp.refl _,k_⟩
def F89_s0 (all:List l52Cut):Int->Lp Int Bool:=fun i40 =>
 bif (decide (i40<(all.length:Int))) then (bif (bif ((F116 (all.getD (Int.toNat i40) default) 0).toList==Zk.toList) then ((F116 (all.getD (Int.toNat i40) default) 2).toList==Zt.toList) else false) then (.ret true) else (.next (i40+1))) else (.done i40)
def F89 (all:List l52Cut):Bool :=
 (runL (F89_s0 all) ((Int.toNat ((all.length:Int)-0))+1) 0).fin (fun r=>r) (fun i40=>false)
abbrev lN89_0 (all:List l52Cut):Nat×Int:=(((Int.toNat ((all.length:Int)-0))+1),0)
abbrev lI89_0 (all:List l52Cut) (m39:Nat) (i40:Int):Prop:=Int.toNat ((all.length:Int)-i40)<m39/\(0:Int)<=i40
abbrev lX89_0 (all:List l52Cut):Lp Int Bool:=LpX (F89_s0 all) (lN89_0 all)
abbrev lJ89_0 (all:List l52Cut) (i:Nat×Int):Prop:=LpJ (F89_s0 all) (lN89_0 all) i (lI89_0 all i.1 i.2)
abbrev lH89_0 (all:List l52Cut) (i:Nat×Int) (m39:Nat) (i40:Int):Prop:=LpH (F89_s0 all) (lN89_0 all) i m39 i40 (lI89_0 all (m39+1) i40)
abbrev lE89_0 (all:List l52Cut) (i40:Int) (i40_:Int) (K39:Prop):Prop:=((.int .i64 i40:Value)=.int .i64 i40_)/\(Im (.l 1 el52Cut all))/\K39
theorem un89_0 (all:List l52Cut) (i:Nat×Int) (h:lJ89_0 all i):lH89_0 all i (i.1-1) i.2:=⟨hd1 h.1 h.2.1,hd3 h.2.1,hd2 h.2.1,h.2.2⟩
theorem bk89_0 (all:List l52Cut) (i:Nat×Int) (m39:Nat) (i40:Int) (hl:m39<i.1) (e:runL (F89_s0 all) m39 i40=lX89_0 all) (h:lI89_0 all m39 i40):∃ j:Nat×Int,lE89_0 all i40 j.2 (lJ89_0 all j/\j.1<i.1):=⟨(m39,i40),rfl,Imp.refl _,⟨e,h⟩,hl⟩
theorem en89_0 (all:List l52Cut) (h:(0:Int)<=0):lE89_0 all 0 0 (lJ89_0 all (lN89_0 all)):=⟨rfl,Imp.refl _,rfl,Qt _,h⟩
def S89 (all:List l52Cut):Spec:=⟨[.r (.c (.l 1 el52Cut all))],.v (.bool (F89 all)),True⟩
theorem ok89 (all:List l52Cut):(S89 all).ok Tryz.prog 89 :=
 fnG_ok mixed (fn:=Tryz.f89) (ct:=.seqk [(0,0)] .no (.seq (.seqk [(0,0)] .no (.blk (.loop (ι:=Nat×Int) (fun i=>(fun (i40:Int)=>(⟨[(0,some (.h 0 0)),(3,some (.v (vI i40)))],[(0,some (.shr none (.l 1 el52Cut all)))],1⟩:St)) i.2) (lJ89_0 all) (fun i=>i.1) (lN89_0 all) (fun i=>(fun (i40:Int)=>(.seq (.seq .no (.cond .no .no)) (.seq (.blk (.seq (.reg [(4,kh116 (all.getD (Int.toNat i40) default) 0),(11,kh116 (all.getD (Int.toNat i40) default) 2)]) (.cond (.seq .no .no) .no))) (.reg [(1,.bnd)])))) i.2)))) (.seq .no .no))) Tryz.func89 (fun (_:True)=>kn all fun _=>kn all fun _=>ai (en89_0 all uu0) (fun (i0:Nat×Int) (hi0:lJ89_0 all i0)=>(fun (m0:Nat) (i40:Int) (hh0:lH89_0 all i0 m0 i40)=>have hI0:=hh0.1; have hl0:=hh0.2.1; have _:=hh0.2.2.1; have _:=hh0.2.2.2; ifd (i40<(all.length:Int)) (fun h2 _=>ai (uu0:ib i40 all) (kc116 (all.getD (Int.toNat i40) default) 0 uu0 (ai (fun k3:((F116 (all.getD (Int.toNat i40) default) 0).toList==Zk.toList)=true=>(uu0:ib i40 all)) (kg116 ((F116 (all.getD (Int.toNat i40) default) 0).toList==Zk.toList) true (all.getD (Int.toNat i40) default) 2 (fun k4=>uu0) (ifb (bif ((F116 (all.getD (Int.toNat i40) default) 0).toList==Zk.toList) then ((F116 (all.getD (Int.toNat i40) default) 2).toList==Zt.toList) else false) (fun h5=>have _:((F116 (all.getD (Int.toNat i40) default) 0).toList==Zk.toList)=true:=(andT1 h5); have _:((F116 (all.getD (Int.toNat i40) default) 2).toList==Zt.toList)=true:=(andT2 h5); fiB true (F89 all) (finR (runL_ret hI0 (condT h2 (condT h5 rfl))) rfl)) (fun h5=>ai (iok (i40+1) uu0) (bk89_0 all i0 m0 (i40+1) hl0 (runL_next hI0 (condT h2 (condF h5 rfl))) uu7))))))) (fun h2 _=>have hD0_6:lX89_0 all=Lp.done i40:=runL_done hI0 (condF h2 rfl); fiB false (F89 all) (finD hD0_6 rfl))) (i0.1-1) i0.2 (un89_0 all i0 hi0))) uu2
def F117_s0 (all:List l52Cut) (name:Za):(Int×Int)->Lp (Int×Int) Int:=fun (n,i40) =>
 bif (decide (i40<(all.length:Int))) then (bif (bif ((F116 (all.getD (Int.toNat i40) default) 0).toList==Zh.toList) then ((F116 (all.getD (Int.toNat i40) default) 1).toList==name.toList) else false) then (.next ((n+1),(i40+1))) else (.next (n,(i40+1)))) else (.done (n,i40))
def F117 (all:List l52Cut) (name:Za):Int :=
 (runL (F117_s0 all name) ((Int.toNat ((all.length:Int)-0))+1) (0,0)).fin (fun r=>r) (fun (n,i40)=>n)
abbrev lN117_0 (all:List l52Cut):Nat×(Int×Int):=(((Int.toNat ((all.length:Int)-0))+1),(0,0))
abbrev lI117_0 (all:List l52Cut) (m39:Nat) (n:Int) (i40:Int):Prop:=Int.toNat ((all.length:Int)-i40)<m39/\(0:Int)<=n/\(n:Int)<=i40/\(0:Int)<=n/\(0:Int)<=i40
abbrev lX117_0 (all:List l52Cut) (name:Za):Lp (Int×Int) Int:=LpX (F117_s0 all name) (lN117_0 all)
abbrev lJ117_0 (all:List l52Cut) (name:Za) (i:Nat×(Int×Int)):Prop:=LpJ (F117_s0 all name) (lN117_0 all) i (lI117_0 all i.1 i.2.1 i.2.2)
abbrev lH117_0 (all:List l52Cut) (name:Za) (i:Nat×(Int×Int)) (m39:Nat) (n:Int) (i40:Int):Prop:=LpH (F117_s0 all name) (lN117_0 all) i m39 (n,i40) (lI117_0 all (m39+1) n i40)
abbrev lE117_0 (all:List l52Cut) (name:Za) (n:Int) (i40:Int) (n_:Int) (i40_:Int) (K39:Prop):Prop:=(Rf (.string name))/\((.int .i64 n:Value)=.int .i64 n_)/\((.int .i64 i40:Value)=.int .i64 i40_)/\(Im (.l 1 el52Cut all))/\K39
theorem un117_0 (all:List l52Cut) (name:Za) (i:Nat×(Int×Int)) (h:lJ117_0 all name i):lH117_0 all name i (i.1-1) i.2.1 i.2.2:=⟨hd1 h.1 h.2.1,hd3 h.2.1,hd2 h.2.1,h.2.2⟩
theorem bk117_0 (all:List l52Cut) (name:Za) (i:Nat×(Int×Int)) (m39:Nat) (n:Int) (i40:Int) (hl:m39<i.1) (e:runL (F117_s0 all name) m39 (n,i40)=lX117_0 all name) (h:lI117_0 all m39 n i40):∃ j:Nat×(Int×Int),lE117_0 all name n i40 j.2.1 j.2.2 (lJ117_0 all name j/\j.1<i.1):=⟨(m39,(n,i40)),rfl,rfl,rfl,Imp.refl _,⟨e,h⟩,hl⟩
theorem en117_0 (all:List l52Cut) (name:Za) (h:(0:Int)<=0/\(0:Int)<=0/\(0:Int)<=0/\(0:Int)<=0):lE117_0 all name 0 0 0 0 (lJ117_0 all name (lN117_0 all)):=⟨rfl,rfl,rfl,Imp.refl _,rfl,Qt _,h⟩
def S117 (all:List l52Cut) (name:Za):Spec:=⟨[.r (.c (.l 1 el52Cut all)),.r (.c (.v (.string name)))],.v (vI (F117 all name)),True⟩
theorem ok117 (all:List l52Cut) (name:Za):(S117 all name).ok Tryz.prog 117 :=
 fnG_ok mixed (fn:=Tryz.f117) (ct:=.seqk [(0,0)] .no (.seq .no (.seq (.seqk [(0,0)] .no (.blk (.loop (ι:=Nat×(Int×Int)) (fun i=>(fun (n:Int) (i40:Int)=>(⟨[(0,some (.h 0 0)),(1,some (.v (.string name))),(5,some (.v (vI n))),(6,some (.v (vI i40)))],[(0,some (.shr none (.l 1 el52Cut all)))],1⟩:St)) i.2.1 i.2.2) (lJ117_0 all name) (fun i=>i.1) (lN117_0 all) (fun i=>(fun (n:Int) (i40:Int)=>(.seq (.seq .no (.cond .no .no)) (.seq (.blk (.seq (.reg [(4,kh116 (all.getD (Int.toNat i40) default) 0),(11,kh116 (all.getD (Int.toNat i40) default) 1)]) (.cond (.reg [(1,.bnd)]) .no))) (.reg [(1,.bnd)])))) i.2.1 i.2.2)))) (.seq .no .no)))) Tryz.func117 (fun (_:True)=>kn all fun _=>kn all fun _=>ai (en117_0 all name uu42) (fun (i0:Nat×(Int×Int)) (hi0:lJ117_0 all name i0)=>(fun (m0:Nat) (n:Int) (i40:Int) (hh0:lH117_0 all name i0 m0 n i40)=>have hI0:=hh0.1; have hl0:=hh0.2.1; have _:=hh0.2.2.1; have _:=hh0.2.2.2; ifd (i40<(all.length:Int)) (fun h2 _=>ai (uu0:ib i40 all) (kc116 (all.getD (Int.toNat i40) default) 0 uu0 (ai (fun k3:((F116 (all.getD (Int.toNat i40) default) 0).toList==Zh.toList)=true=>(uu0:ib i40 all)) (kg116 ((F116 (all.getD (Int.toNat i40) default) 0).toList==Zh.toList) true (all.getD (Int.toNat i40) default) 1 (fun k4=>uu0) (ifb (bif ((F116 (all.getD (Int.toNat i40) default) 0).toList==Zh.toList) then ((F116 (all.getD (Int.toNat i40) default) 1).toList==name.toList) else false) (fun h5=>have _:((F116 (all.getD (Int.toNat i40) default) 0).toList==Zh.toList)=true:=(andT1 h5); have _:=(andT2 h5); ai (iok (n+1) uu0) (ai (iok (i40+1) uu0) (bk117_0 all name i0 m0 (n+1) (i40+1) hl0 (runL_next hI0 (condT h2 (condT h5 rfl))) uu28))) (fun h5=>ai (iok (i40+1) uu0) (bk117_0 all name i0 m0 n (i40+1) hl0 (runL_next hI0 (condT h2 (condF h5 rfl))) uu28))))))) (fun h2 _=>have hD0_6:lX117_0 all name=Lp.done (n,i40):=runL_done hI0 (condF h2 rfl); fiI n (F117 all name) (finD hD0_6 rfl))) (i0.1-1) i0.2.1 i0.2.2 (un117_0 all name i0 hi0))) uu2
theorem kg117 {K_:Prop} (c_ b_:Bool) (all:List l52Cut) (name:Za) (k_:K_):(c_=b_->True)/\(c_=b_->Imp (.l 1 el52Cut all) (.l 1 el52Cut all))/\(c_=b_->Imp (.v (.string name)) (.v (.string name)))/\K_:=⟨fun _=>trivial,fun _=>Imp.refl _,fun _=>Imp.refl _,k_⟩
abbrev kh117 (all:List l52Cut) (name:Za):Hint true Tryz.prog:=.call 117 (S117 all name) (ok117 all name) none
def F90_s0 (all:List l52Cut):Int->Lp Int Bool:=fun i40 =>
 bif (decide (i40<(all.length:Int))) then (bif (bif (bif ((F116 (all.getD (Int.toNat i40) default) 0).toList==Zf.toList) then (!((F116 (all.getD (Int.toNat i40) default) 4).toList==Zc.toList)) else false) then ((F117 all (F116 (all.getD (Int.toNat i40) default) 4))==0) else false) then (.ret false) else (bif (bif ((F116 (all.getD (Int.toNat i40) default) 0).toList==Zh.toList) then decide ((F117 all (F116 (all.getD (Int.toNat i40) default) 1))>12) else false) then (.ret false) else (.next (i40+1)))) else (.done i40)
def F90 (all:List l52Cut):Bool :=
 (runL (F90_s0 all) ((Int.toNat ((all.length:Int)-0))+1) 0).fin (fun r=>r) (fun i40=>true)
abbrev lN90_0 (all:List l52Cut):Nat×Int:=(((Int.toNat ((all.length:Int)-0))+1),0)
abbrev lI90_0 (all:List l52Cut) (m39:Nat) (i40:Int):Prop:=Int.toNat ((all.length:Int)-i40)<m39/\(0:Int)<=i40
abbrev lX90_0 (all:List l52Cut):Lp Int Bool:=LpX (F90_s0 all) (lN90_0 all)
abbrev lJ90_0 (all:List l52Cut) (i:Nat×Int):Prop:=LpJ (F90_s0 all) (lN90_0 all) i (lI90_0 all i.1 i.2)
abbrev lH90_0 (all:List l52Cut) (i:Nat×Int) (m39:Nat) (i40:Int):Prop:=LpH (F90_s0 all) (lN90_0 all) i m39 i40 (lI90_0 all (m39+1) i40)
abbrev lE90_0 (all:List l52Cut) (i40:Int) (i40_:Int) (K39:Prop):Prop:=((.int .i64 i40:Value)=.int .i64 i40_)/\(Im (.l 1 el52Cut all))/\K39
theorem un90_0 (all:List l52Cut) (i:Nat×Int) (h:lJ90_0 all i):lH90_0 all i (i.1-1) i.2:=⟨hd1 h.1 h.2.1,hd3 h.2.1,hd2 h.2.1,h.2.2⟩
theorem bk90_0 (all:List l52Cut) (i:Nat×Int) (m39:Nat) (i40:Int) (hl:m39<i.1) (e:runL (F90_s0 all) m39 i40=lX90_0 all) (h:lI90_0 all m39 i40):∃ j:Nat×Int,lE90_0 all i40 j.2 (lJ90_0 all j/\j.1<i.1):=⟨(m39,i40),rfl,Imp.refl _,⟨e,h⟩,hl⟩
theorem en90_0 (all:List l52Cut) (h:(0:Int)<=0):lE90_0 all 0 0 (lJ90_0 all (lN90_0 all)):=⟨rfl,Imp.refl _,rfl,Qt _,h⟩
def S90 (all:List l52Cut):Spec:=⟨[.r (.c (.l 1 el52Cut all))],.v (.bool (F90 all)),True⟩
abbrev q90_1 (all:List l52Cut) (i40:Int):=(all.getD (Int.toNat i40) default)
theorem ok90 (all:List l52Cut):(S90 all).ok Tryz.prog 90 :=
 fnG_ok mixed (fn:=Tryz.f90) (ct:=.seqk [(0,0)] .no (.seq (.seqk [(0,0)] .no (.blk (.loop (ι:=Nat×Int) (fun i=>(fun (i40:Int)=>(⟨[(0,some (.h 0 0)),(3,some (.v (vI i40)))],[(0,some (.shr none (.l 1 el52Cut all)))],1⟩:St)) i.2) (lJ90_0 all) (fun i=>i.1) (lN90_0 all) (fun i=>(fun (i40:Int)=>(.seq (.seq .no (.cond .no .no)) (.seq (.blk (.seq (.seq (.reg [(4,kh116 (q90_1 all i40) 0),(11,kh116 (q90_1 all i40) 4),(20,kh116 (q90_1 all i40) 4),(21,kh117 all (F116 (q90_1 all i40) 4))]) (.cond (.seq .no .no) .no)) (.seq (.reg [(4,kh116 (q90_1 all i40) 0),(12,kh116 (q90_1 all i40) 1),(13,kh117 all (F116 (q90_1 all i40) 1))]) (.cond (.seq .no .no) .no)))) (.reg [(1,.bnd)])))) i.2)))) (.seq .no .no))) Tryz.func90 (fun (_:True)=>kn all fun _=>kn all fun _=>ai (en90_0 all uu0) (fun (i0:Nat×Int) (hi0:lJ90_0 all i0)=>(fun (m0:Nat) (i40:Int) (hh0:lH90_0 all i0 m0 i40)=>have hI0:=hh0.1; have hl0:=hh0.2.1; have _:=hh0.2.2.1; have _:=hh0.2.2.2; ifd (i40<(all.length:Int)) (fun h2 _=>ai (uu0:ib i40 all) (kc116 (q90_1 all i40) 0 uu0 (ai (fun k3:((F116 (q90_1 all i40) 0).toList==Zf.toList)=true=>(uu0:ib i40 all)) (kg116 ((F116 (q90_1 all i40) 0).toList==Zf.toList) true (q90_1 all i40) 4 (fun k4=>uu0) (ai (fun k5:(bif ((F116 (q90_1 all i40) 0).toList==Zf.toList) then (!((F116 (q90_1 all i40) 4).toList==Zc.toList)) else false)=true=>have _:((F116 (q90_1 all i40) 0).toList==Zf.toList)=true:=(andT1 k5); have _:(!((F116 (q90_1 all i40) 4).toList==Zc.toList))=true:=(andT2 k5); (uu0:ib i40 all)) (kg116 (bif ((F116 (q90_1 all i40) 0).toList==Zf.toList) then (!((F116 (q90_1 all i40) 4).toList==Zc.toList)) else false) true (q90_1 all i40) 4 (fun k6=>have _:((F116 (q90_1 all i40) 0).toList==Zf.toList)=true:=(andT1 k6); have _:(!((F116 (q90_1 all i40) 4).toList==Zc.toList))=true:=(andT2 k6); uu0) (kg117 (bif ((F116 (q90_1 all i40) 0).toList==Zf.toList) then (!((F116 (q90_1 all i40) 4).toList==Zc.toList)) else false) true all (F116 (q90_1 all i40) 4) (ifb (bif (bif ((F116 (q90_1 all i40) 0).toList==Zf.toList) then (!((F116 (q90_1 all i40) 4).toList==Zc.toList)) else false) then ((F117 all (F116 (q90_1 all i40) 4))==0) else false) (fun h8=>have _:((F116 (q90_1 all i40) 0).toList==Zf.toList)=true:=(andT1 (andT1 h8)); have _:(!((F116 (q90_1 all i40) 4).toList==Zc.toList))=true:=(andT2 (andT1 h8)); have _:=eq_of_beq (andT2 h8); fiB false (F90 all) (finR (runL_ret hI0 (condT h2 (condT h8 rfl))) rfl)) (fun h8=>ai (uu0:ib i40 all) (kc116 (q90_1 all i40) 0 uu0 (ai (fun k9:((F116 (q90_1 all i40) 0).toList==Zh.toList)=true=>(uu0:ib i40 all)) (kg116 ((F116 (q90_1 all i40) 0).toList==Zh.toList) true (q90_1 all i40) 1 (fun k10=>uu0) (kg117 ((F116 (q90_1 all i40) 0).toList==Zh.toList) true all (F116 (q90_1 all i40) 1) (ifb (bif ((F116 (q90_1 all i40) 0).toList==Zh.toList) then decide ((F117 all (F116 (q90_1 all i40) 1))>12) else false) (fun h12=>have _:((F116 (q90_1 all i40) 0).toList==Zh.toList)=true:=(andT1 h12); have _:=Qb (andT2 h12); fiB false (F90 all) (finR (runL_ret hI0 (condT h2 (condF h8 (condT h12 rfl)))) rfl)) (fun h12=>ai (iok (i40+1) uu0) (bk90_0 all i0 m0 (i40+1) hl0 (runL_next hI0 (condT h2 (condF h8 (condF h12 rfl)))) uu7)))))))))))))))) (fun h2 _=>have hD0_13:lX90_0 all=Lp.done i40:=runL_done hI0 (condF h2 rfl); fiB true (F90 all) (finD hD0_13 rfl))) (i0.1-1) i0.2 (un90_0 all i0 hi0))) uu2
def F91_s1 (all:List l52Cut) (i40:Int):Int->Lp Int Bool:=fun k =>
 bif (decide (k<i40)) then (bif (bif (!((F116 (all.getD (Int.toNat i40) default) 0).toList==Zf.toList)) then true else (!((F116 (all.getD (Int.toNat k) default) 0).toList==Zf.toList))) then (.next (k+1)) else (bif (bif decide ((F118 (F116 (all.getD (Int.toNat i40) default) 2)).1<(IntKind.i64.wrap ((F118 (F116 (all.getD (Int.toNat k) default) 2)).1+(F118 (F116 (all.getD (Int.toNat k) default) 2)).2))) then decide ((F118 (F116 (all.getD (Int.toNat k) default) 2)).1<(IntKind.i64.wrap ((F118 (F116 (all.getD (Int.toNat i40) default) 2)).1+(F118 (F116 (all.getD (Int.toNat i40) default) 2)).2))) else false) then (.ret false) else (.next (k+1)))) else (.done k)
def F91_s0 (all:List l52Cut):Int->Lp Int Bool:=fun i40 =>
 bif (decide (i40<(all.length:Int))) then ((runL (F91_s1 all i40) ((Int.toNat (i40-0))+1) 0).fin Lp.ret (fun k=>.next (i40+1))) else (.done i40)
def F91 (all:List l52Cut):Bool :=
 (runL (F91_s0 all) ((Int.toNat ((all.length:Int)-0))+1) 0).fin (fun r=>r) (fun i40=>true)
abbrev lN91_1 (i40:Int):Nat×Int:=(((Int.toNat (i40-0))+1),0)
abbrev lI91_1 (i40:Int) (m39:Nat) (k:Int):Prop:=Int.toNat (i40-k)<m39/\(0:Int)<=k
abbrev lX91_1 (all:List l52Cut) (i40:Int):Lp Int Bool:=LpX (F91_s1 all i40) (lN91_1 i40)
abbrev lJ91_1 (all:List l52Cut) (i40:Int) (i:Nat×Int):Prop:=LpJ (F91_s1 all i40) (lN91_1 i40) i (lI91_1 i40 i.1 i.2)
abbrev lH91_1 (all:List l52Cut) (i40:Int) (i:Nat×Int) (m39:Nat) (k:Int):Prop:=LpH (F91_s1 all i40) (lN91_1 i40) i m39 k (lI91_1 i40 (m39+1) k)
abbrev lE91_1 (all:List l52Cut) (i40:Int) (k:Int) (k_:Int) (K39:Prop):Prop:=(Rf (.int .i64 i40))/\((.int .i64 k:Value)=.int .i64 k_)/\(Im (.l 1 el52Cut all))/\K39
theorem un91_1 (all:List l52Cut) (i40:Int) (i:Nat×Int) (h:lJ91_1 all i40 i):lH91_1 all i40 i (i.1-1) i.2:=⟨hd1 h.1 h.2.1,hd3 h.2.1,hd2 h.2.1,h.2.2⟩
theorem bk91_1 (all:List l52Cut) (i40:Int) (i:Nat×Int) (m39:Nat) (k:Int) (hl:m39<i.1) (e:runL (F91_s1 all i40) m39 k=lX91_1 all i40) (h:lI91_1 i40 m39 k):∃ j:Nat×Int,lE91_1 all i40 k j.2 (lJ91_1 all i40 j/\j.1<i.1):=⟨(m39,k),rfl,rfl,Imp.refl _,⟨e,h⟩,hl⟩
theorem en91_1 (all:List l52Cut) (i40:Int) (h:(0:Int)<=0):lE91_1 all i40 0 0 (lJ91_1 all i40 (lN91_1 i40)):=⟨rfl,rfl,Imp.refl _,rfl,Qt _,h⟩
abbrev lN91_0 (all:List l52Cut):Nat×Int:=(((Int.toNat ((all.length:Int)-0))+1),0)
abbrev lI91_0 (all:List l52Cut) (m39:Nat) (i40:Int):Prop:=Int.toNat ((all.length:Int)-i40)<m39/\(0:Int)<=i40
abbrev lX91_0 (all:List l52Cut):Lp Int Bool:=LpX (F91_s0 all) (lN91_0 all)
abbrev lJ91_0 (all:List l52Cut) (i:Nat×Int):Prop:=LpJ (F91_s0 all) (lN91_0 all) i (lI91_0 all i.1 i.2)
abbrev lH91_0 (all:List l52Cut) (i:Nat×Int) (m39:Nat) (i40:Int):Prop:=LpH (F91_s0 all) (lN91_0 all) i m39 i40 (lI91_0 all (m39+1) i40)
abbrev lE91_0 (all:List l52Cut) (i40:Int) (i40_:Int) (K39:Prop):Prop:=((.int .i64 i40:Value)=.int .i64 i40_)/\(Im (.l 1 el52Cut all))/\K39
theorem un91_0 (all:List l52Cut) (i:Nat×Int) (h:lJ91_0 all i):lH91_0 all i (i.1-1) i.2:=⟨hd1 h.1 h.2.1,hd3 h.2.1,hd2 h.2.1,h.2.2⟩
theorem bk91_0 (all:List l52Cut) (i:Nat×Int) (m39:Nat) (i40:Int) (hl:m39<i.1) (e:runL (F91_s0 all) m39 i40=lX91_0 all) (h:lI91_0 all m39 i40):∃ j:Nat×Int,lE91_0 all i40 j.2 (lJ91_0 all j/\j.1<i.1):=⟨(m39,i40),rfl,Imp.refl _,⟨e,h⟩,hl⟩
theorem en91_0 (all:List l52Cut) (h:(0:Int)<=0):lE91_0 all 0 0 (lJ91_0 all (lN91_0 all)):=⟨rfl,Imp.refl _,rfl,Qt _,h⟩
def S91 (all:List l52Cut):Spec:=⟨[.r (.c (.l 1 el52Cut all))],.v (.bool (F91 all)),(∀ k j:Nat,((all.getD k default).w.getD j default).size<=1048576)⟩
abbrev q91_1 (all:List l52Cut) (i40:Int):=(all.getD (Int.toNat i40) default)
abbrev q91_2 (all:List l52Cut) (k:Int):=(all.getD (Int.toNat k) default)
theorem ok91 (all:List l52Cut):(S91 all).ok Tryz.prog 91 :=
 fnG_ok mixed (fn:=Tryz.f91) (ct:=.seqk [(0,0)] .no (.seq (.seqk [(0,0)] .no (.blk (.loop (ι:=Nat×Int) (fun i=>(fun (i40:Int)=>(⟨[(0,some (.h 0 0)),(3,some (.v (vI i40)))],[(0,some (.shr none (.l 1 el52Cut all)))],1⟩:St)) i.2) (lJ91_0 all) (fun i=>i.1) (lN91_0 all) (fun i=>(fun (i40:Int)=>(.seq (.seq .no (.cond .no .no)) (.seq (.blk (.seqk [(0,0)] .no (.blk (.loop (ι:=Nat×Int) (fun i=>(fun (k:Int)=>(⟨[(0,some (.h 0 0)),(3,some (.v (vI i40))),(4,some (.v (vI k)))],[(0,some (.shr none (.l 1 el52Cut all)))],1⟩:St)) i.2) (lJ91_1 all i40) (fun i=>i.1) (lN91_1 i40) (fun i=>(fun (k:Int)=>(.seq (.seq .no (.cond .no .no)) (.seq (.blk (.seq (.seq (.reg [(4,kh116 (q91_1 all i40) 0),(11,kh116 (q91_2 all k) 0)]) (.cond .no .no)) (.seq (.reg [(4,kh116 (q91_1 all i40) 2),(5,kh118 (F116 (q91_1 all i40) 2))]) (.seq (.reg [(4,kh116 (q91_2 all k) 2),(5,kh118 (F116 (q91_2 all k) 2))]) (.seq .no (.cond (.seq .no .no) .no)))))) (.reg [(1,.bnd)])))) i.2))))) (.reg [(1,.bnd)])))) i.2)))) (.seq .no .no))) Tryz.func91 (fun (hpre0:∀ k j:Nat,((all.getD k default).w.getD j default).size<=1048576)=>kn all fun _=>kn all fun _=>ai (en91_0 all uu0) (fun (i0:Nat×Int) (hi0:lJ91_0 all i0)=>(fun (m0:Nat) (i40:Int) (hh0:lH91_0 all i0 m0 i40)=>have hI0:=hh0.1; have hl0:=hh0.2.1; have _:=hh0.2.2.1; have _:=hh0.2.2.2; ifd (i40<(all.length:Int)) (fun h2 _=>kn all fun _=>ai (en91_1 all i40 uu0) (fun (i1:Nat×Int) (hi1:lJ91_1 all i40 i1)=>(fun (m1:Nat) (k:Int) (hh1:lH91_1 all i40 i1 m1 k)=>have hI1:=hh1.1; have hl1:=hh1.2.1; have _:=hh1.2.2.1; have _:=hh1.2.2.2; ifd (k<i40) (fun h4 _=>ai (uu0:ib i40 all) (kc116 (q91_1 all i40) 0 uu0 (ai (fun k5:(!((F116 (q91_1 all i40) 0).toList==Zf.toList))=false=>(uu0:ib k all)) (kg116 (!((F116 (q91_1 all i40) 0).toList==Zf.toList)) false (q91_2 all k) 0 (fun k6=>uu0) (ifb (bif (!((F116 (q91_1 all i40) 0).toList==Zf.toList)) then true else (!((F116 (q91_2 all k) 0).toList==Zf.toList))) (fun h7=>ai (iok (k+1) uu0) (bk91_1 all i40 i1 m1 (k+1) hl1 (runL_next hI1 (condT h4 (condT h7 rfl))) uu7)) (fun h7=>have _:(!((F116 (q91_1 all i40) 0).toList==Zf.toList))=false:=(orF1 h7); have _:(!((F116 (q91_2 all k) 0).toList==Zf.toList))=false:=(orF2 h7); ai (uu0:ib i40 all) (kc116 (q91_1 all i40) 2 uu0 (kc118 (F116 (q91_1 all i40) 2) uu21 (ai (uu0:ib k all) (kc116 (q91_2 all k) 2 uu0 (kc118 (F116 (q91_2 all k) 2) uu21 (ifb (bif decide ((F118 (F116 (q91_1 all i40) 2)).1<(IntKind.i64.wrap ((F118 (F116 (q91_2 all k) 2)).1+(F118 (F116 (q91_2 all k) 2)).2))) then decide ((F118 (F116 (q91_2 all k) 2)).1<(IntKind.i64.wrap ((F118 (F116 (q91_1 all i40) 2)).1+(F118 (F116 (q91_1 all i40) 2)).2))) else false) (fun h8=>have _:=Qb (andT1 h8); have _:=Qb (andT2 h8); fiB false (F91 all) (finR (runL_ret hI0 (condT h2 (finR (runL_ret hI1 (condT h4 (condF h7 (condT h8 rfl)))) rfl))) rfl)) (fun h8=>ai (iok (k+1) uu0) (bk91_1 all i40 i1 m1 (k+1) hl1 (runL_next hI1 (condT h4 (condF h7 (condF h8 rfl)))) uu7)))))))))))))) (fun h4 _=>have hD1_9:lX91_1 all i40=Lp.done k:=runL_done hI1 (condF h4 rfl); ai (iok (i40+1) uu0) (bk91_0 all i0 m0 (i40+1) hl0 (runL_next hI0 (condT h2 (finD hD1_9 rfl))) uu7))) (i1.1-1) i1.2 (un91_1 all i40 i1 hi1))) (fun h2 _=>have hD0_10:lX91_0 all=Lp.done i40:=runL_done hI0 (condF h2 rfl); fiB true (F91 all) (finD hD0_10 rfl))) (i0.1-1) i0.2 (un91_0 all i0 hi0))) uu2
def F119_s0 (all:List l52Cut) (addr:Int):Int->Lp Int Bool:=fun i40 =>
 bif (decide (i40<(all.length:Int))) then (bif ((F116 (all.getD (Int.toNat i40) default) 0).toList==Zf.toList) then (bif (bif decide (addr>(F118 (F116 (all.getD (Int.toNat i40) default) 2)).1) then decide (addr<(IntKind.i64.wrap ((F118 (F116 (all.getD (Int.toNat i40) default) 2)).1+(F118 (F116 (all.getD (Int.toNat i40) default) 2)).2))) else false) then (.ret true) else (.next (i40+1))) else (.next (i40+1))) else (.done i40)
def F119 (all:List l52Cut) (addr:Int):Bool :=
 (runL (F119_s0 all addr) ((Int.toNat ((all.length:Int)-0))+1) 0).fin (fun r=>r) (fun i40=>false)
abbrev lN119_0 (all:List l52Cut):Nat×Int:=(((Int.toNat ((all.length:Int)-0))+1),0)
abbrev lI119_0 (all:List l52Cut) (m39:Nat) (i40:Int):Prop:=Int.toNat ((all.length:Int)-i40)<m39/\(0:Int)<=i40
abbrev lX119_0 (all:List l52Cut) (addr:Int):Lp Int Bool:=LpX (F119_s0 all addr) (lN119_0 all)
abbrev lJ119_0 (all:List l52Cut) (addr:Int) (i:Nat×Int):Prop:=LpJ (F119_s0 all addr) (lN119_0 all) i (lI119_0 all i.1 i.2)
abbrev lH119_0 (all:List l52Cut) (addr:Int) (i:Nat×Int) (m39:Nat) (i40:Int):Prop:=LpH (F119_s0 all addr) (lN119_0 all) i m39 i40 (lI119_0 all (m39+1) i40)
abbrev lE119_0 (all:List l52Cut) (addr:Int) (i40:Int) (i40_:Int) (K39:Prop):Prop:=(Rf (.int .i64 addr))/\((.int .i64 i40:Value)=.int .i64 i40_)/\(Im (.l 1 el52Cut all))/\K39
theorem un119_0 (all:List l52Cut) (addr:Int) (i:Nat×Int) (h:lJ119_0 all addr i):lH119_0 all addr i (i.1-1) i.2:=⟨hd1 h.1 h.2.1,hd3 h.2.1,hd2 h.2.1,h.2.2⟩
theorem bk119_0 (all:List l52Cut) (addr:Int) (i:Nat×Int) (m39:Nat) (i40:Int) (hl:m39<i.1) (e:runL (F119_s0 all addr) m39 i40=lX119_0 all addr) (h:lI119_0 all m39 i40):∃ j:Nat×Int,lE119_0 all addr i40 j.2 (lJ119_0 all addr j/\j.1<i.1):=⟨(m39,i40),rfl,rfl,Imp.refl _,⟨e,h⟩,hl⟩
theorem en119_0 (all:List l52Cut) (addr:Int) (h:(0:Int)<=0):lE119_0 all addr 0 0 (lJ119_0 all addr (lN119_0 all)):=⟨rfl,rfl,Imp.refl _,rfl,Qt _,h⟩
def S119 (all:List l52Cut) (addr:Int):Spec:=⟨[.r (.c (.l 1 el52Cut all)),.r (.c (.v (vI addr)))],.v (.bool (F119 all addr)),(∀ k j:Nat,((all.getD k default).w.getD j default).size<=1048576)⟩
theorem ok119 (all:List l52Cut) (addr:Int):(S119 all addr).ok Tryz.prog 119 :=
 fnG_ok mixed (fn:=Tryz.f119) (ct:=.seqk [(0,0)] .no (.seq (.seqk [(0,0)] .no (.blk (.loop (ι:=Nat×Int) (fun i=>(fun (i40:Int)=>(⟨[(0,some (.h 0 0)),(1,some (.v (vI addr))),(5,some (.v (vI i40)))],[(0,some (.shr none (.l 1 el52Cut all)))],1⟩:St)) i.2) (lJ119_0 all addr) (fun i=>i.1) (lN119_0 all) (fun i=>(fun (i40:Int)=>(.seq (.seq .no (.cond .no .no)) (.seq (.blk (.seq (.reg [(4,kh116 (all.getD (Int.toNat i40) default) 0)]) (.cond (.seq (.reg [(4,kh116 (all.getD (Int.toNat i40) default) 2),(5,kh118 (F116 (all.getD (Int.toNat i40) default) 2))]) (.seq .no (.cond (.seq .no .no) .no))) .no))) (.reg [(1,.bnd)])))) i.2)))) (.seq .no .no))) Tryz.func119 (fun (hpre0:∀ k j:Nat,((all.getD k default).w.getD j default).size<=1048576)=>kn all fun _=>kn all fun _=>ai (en119_0 all addr uu0) (fun (i0:Nat×Int) (hi0:lJ119_0 all addr i0)=>(fun (m0:Nat) (i40:Int) (hh0:lH119_0 all addr i0 m0 i40)=>have hI0:=hh0.1; have hl0:=hh0.2.1; have _:=hh0.2.2.1; have _:=hh0.2.2.2; ifd (i40<(all.length:Int)) (fun h2 _=>ai (uu0:ib i40 all) (kc116 (all.getD (Int.toNat i40) default) 0 uu0 (ifb ((F116 (all.getD (Int.toNat i40) default) 0).toList==Zf.toList) (fun h3=>ai (uu0:ib i40 all) (kc116 (all.getD (Int.toNat i40) default) 2 uu0 (kc118 (F116 (all.getD (Int.toNat i40) default) 2) uu21 (ifb (bif decide (addr>(F118 (F116 (all.getD (Int.toNat i40) default) 2)).1) then decide (addr<(IntKind.i64.wrap ((F118 (F116 (all.getD (Int.toNat i40) default) 2)).1+(F118 (F116 (all.getD (Int.toNat i40) default) 2)).2))) else false) (fun h4=>have _:=Qb (andT1 h4); have _:=Qb (andT2 h4); fiB true (F119 all addr) (finR (runL_ret hI0 (condT h2 (condT h3 (condT h4 rfl)))) rfl)) (fun h4=>ai (iok (i40+1) uu0) (bk119_0 all addr i0 m0 (i40+1) hl0 (runL_next hI0 (condT h2 (condT h3 (condF h4 rfl)))) uu7)))))) (fun h3=>ai (iok (i40+1) uu0) (bk119_0 all addr i0 m0 (i40+1) hl0 (runL_next hI0 (condT h2 (condF h3 rfl))) uu7))))) (fun h2 _=>have hD0_5:lX119_0 all addr=Lp.done i40:=runL_done hI0 (condF h2 rfl); fiB false (F119 all addr) (finD hD0_5 rfl))) (i0.1-1) i0.2 (un119_0 all addr i0 hi0))) uu2
theorem kc119 (all:List l52Cut) (addr:Int) {K_:Prop} (p0_:∀ k j:Nat,((all.getD k default).w.getD j default).size<=1048576) (k_:K_):(∀ k j:Nat,((all.getD k default).w.getD j default).size<=1048576)/\(Imp (.l 1 el52Cut all) (.l 1 el52Cut all))/\(Imp (.v (vI addr)) (.v (vI addr)))/\K_:=⟨p0_,Imp.refl _,Imp.refl _,k_⟩
abbrev kh119 (all:List l52Cut) (addr:Int):Hint true Tryz.prog:=.call 119 (S119 all addr) (ok119 all addr) none
def F92_s0 (all:List l52Cut):Int->Lp Int Bool:=fun i40 =>
 bif (decide (i40<(all.length:Int))) then (bif ((F116 (all.getD (Int.toNat i40) default) 0).toList==Zq.toList) then (bif (!(F119 all (F120 (F116 (all.getD (Int.toNat i40) default) 2)))) then (.ret false) else (.next (i40+1))) else (bif ((F116 (all.getD (Int.toNat i40) default) 0).toList==Zp.toList) then (bif (!(F119 all (F120 (F116 (all.getD (Int.toNat i40) default) 1)))) then (.ret false) else (.next (i40+1))) else (.next (i40+1)))) else (.done i40)
def F92 (all:List l52Cut):Bool :=
 (runL (F92_s0 all) ((Int.toNat ((all.length:Int)-0))+1) 0).fin (fun r=>r) (fun i40=>true)
abbrev lN92_0 (all:List l52Cut):Nat×Int:=(((Int.toNat ((all.length:Int)-0))+1),0)
abbrev lI92_0 (all:List l52Cut) (m39:Nat) (i40:Int):Prop:=Int.toNat ((all.length:Int)-i40)<m39/\(0:Int)<=i40
abbrev lX92_0 (all:List l52Cut):Lp Int Bool:=LpX (F92_s0 all) (lN92_0 all)
abbrev lJ92_0 (all:List l52Cut) (i:Nat×Int):Prop:=LpJ (F92_s0 all) (lN92_0 all) i (lI92_0 all i.1 i.2)
abbrev lH92_0 (all:List l52Cut) (i:Nat×Int) (m39:Nat) (i40:Int):Prop:=LpH (F92_s0 all) (lN92_0 all) i m39 i40 (lI92_0 all (m39+1) i40)
abbrev lE92_0 (all:List l52Cut) (i40:Int) (i40_:Int) (K39:Prop):Prop:=((.int .i64 i40:Value)=.int .i64 i40_)/\(Im (.l 1 el52Cut all))/\K39
theorem un92_0 (all:List l52Cut) (i:Nat×Int) (h:lJ92_0 all i):lH92_0 all i (i.1-1) i.2:=⟨hd1 h.1 h.2.1,hd3 h.2.1,hd2 h.2.1,h.2.2⟩
theorem bk92_0 (all:List l52Cut) (i:Nat×Int) (m39:Nat) (i40:Int) (hl:m39<i.1) (e:runL (F92_s0 all) m39 i40=lX92_0 all) (h:lI92_0 all m39 i40):∃ j:Nat×Int,lE92_0 all i40 j.2 (lJ92_0 all j/\j.1<i.1):=⟨(m39,i40),rfl,Imp.refl _,⟨e,h⟩,hl⟩
theorem en92_0 (all:List l52Cut) (h:(0:Int)<=0):lE92_0 all 0 0 (lJ92_0 all (lN92_0 all)):=⟨rfl,Imp.refl _,rfl,Qt _,h⟩
def S92 (all:List l52Cut):Spec:=⟨[.r (.c (.l 1 el52Cut all))],.v (.bool (F92 all)),(∀ k j:Nat,((all.getD k default).w.getD j default).size<=1048576)⟩
abbrev q92_1 (all:List l52Cut) (i40:Int):=(all.getD (Int.toNat i40) default)
theorem ok92 (all:List l52Cut):(S92 all).ok Tryz.prog 92 :=
 fnG_ok mixed (fn:=Tryz.f92) (ct:=.seqk [(0,0)] .no (.seq (.seqk [(0,0)] .no (.blk (.loop (ι:=Nat×Int) (fun i=>(fun (i40:Int)=>(⟨[(0,some (.h 0 0)),(3,some (.v (vI i40)))],[(0,some (.shr none (.l 1 el52Cut all)))],1⟩:St)) i.2) (lJ92_0 all) (fun i=>i.1) (lN92_0 all) (fun i=>(fun (i40:Int)=>(.seq (.seq .no (.cond .no .no)) (.seq (.blk (.seq (.reg [(4,kh116 (q92_1 all i40) 0)]) (.blk (.seq .no (.cond (.seq (.reg [(5,kh116 (q92_1 all i40) 2),(6,kh120 (F116 (q92_1 all i40) 2)),(7,kh119 all (F120 (F116 (q92_1 all i40) 2)))]) (.cond (.seq .no .no) .no)) (.seq .no (.cond (.seq (.reg [(5,kh116 (q92_1 all i40) 1),(6,kh120 (F116 (q92_1 all i40) 1)),(7,kh119 all (F120 (F116 (q92_1 all i40) 1)))]) (.cond (.seq .no .no) .no)) .no))))))) (.reg [(1,.bnd)])))) i.2)))) (.seq .no .no))) Tryz.func92 (fun (hpre0:∀ k j:Nat,((all.getD k default).w.getD j default).size<=1048576)=>kn all fun _=>kn all fun _=>ai (en92_0 all uu0) (fun (i0:Nat×Int) (hi0:lJ92_0 all i0)=>(fun (m0:Nat) (i40:Int) (hh0:lH92_0 all i0 m0 i40)=>have hI0:=hh0.1; have hl0:=hh0.2.1; have _:=hh0.2.2.1; have _:=hh0.2.2.2; ifd (i40<(all.length:Int)) (fun h2 _=>ai (uu0:ib i40 all) (kc116 (q92_1 all i40) 0 uu0 (ifb ((F116 (q92_1 all i40) 0).toList==Zq.toList) (fun h3=>ai (uu0:ib i40 all) (kc116 (q92_1 all i40) 2 uu0 (kc120 (F116 (q92_1 all i40) 2) uu21 (kc119 all (F120 (F116 (q92_1 all i40) 2)) uu17 (ifb (!(F119 all (F120 (F116 (q92_1 all i40) 2)))) (fun h4=>fiB false (F92 all) (finR (runL_ret hI0 (condT h2 (condT h3 (condT h4 rfl)))) rfl)) (fun h4=>ai (iok (i40+1) uu0) (bk92_0 all i0 m0 (i40+1) hl0 (runL_next hI0 (condT h2 (condT h3 (condF h4 rfl)))) uu7))))))) (fun h3=>ifb ((F116 (q92_1 all i40) 0).toList==Zp.toList) (fun h5=>ai (uu0:ib i40 all) (kc116 (q92_1 all i40) 1 uu0 (kc120 (F116 (q92_1 all i40) 1) uu21 (kc119 all (F120 (F116 (q92_1 all i40) 1)) uu17 (ifb (!(F119 all (F120 (F116 (q92_1 all i40) 1)))) (fun h6=>fiB false (F92 all) (finR (runL_ret hI0 (condT h2 (condF h3 (condT h5 (condT h6 rfl))))) rfl)) (fun h6=>ai (iok (i40+1) uu0) (bk92_0 all i0 m0 (i40+1) hl0 (runL_next hI0 (condT h2 (condF h3 (condT h5 (condF h6 rfl))))) uu7))))))) (fun h5=>ai (iok (i40+1) uu0) (bk92_0 all i0 m0 (i40+1) hl0 (runL_next hI0 (condT h2 (condF h3 (condF h5 rfl)))) uu7)))))) (fun h2 _=>have hD0_7:lX92_0 all=Lp.done i40:=runL_done hI0 (condF h2 rfl); fiB true (F92 all) (finD hD0_7 rfl))) (i0.1-1) i0.2 (un92_0 all i0 hi0))) uu2
def F121_s0 (all:List l52Cut):Int->Lp Int Int:=fun i40 =>
 bif (decide (i40<(all.length:Int))) then (bif ((F116 (all.getD (Int.toNat i40) default) 0).toList==Ze.toList) then (.ret i40) else (.next (i40+1))) else (.done i40)
def F121 (all:List l52Cut):Int :=
 (runL (F121_s0 all) ((Int.toNat ((all.length:Int)-0))+1) 0).fin (fun r=>r) (fun i40=>(-1))
abbrev lN121_0 (all:List l52Cut):Nat×Int:=(((Int.toNat ((all.length:Int)-0))+1),0)
abbrev lI121_0 (all:List l52Cut) (m39:Nat) (i40:Int):Prop:=Int.toNat ((all.length:Int)-i40)<m39/\(0:Int)<=i40
abbrev lX121_0 (all:List l52Cut):Lp Int Int:=LpX (F121_s0 all) (lN121_0 all)
abbrev lJ121_0 (all:List l52Cut) (i:Nat×Int):Prop:=LpJ (F121_s0 all) (lN121_0 all) i (lI121_0 all i.1 i.2)
abbrev lH121_0 (all:List l52Cut) (i:Nat×Int) (m39:Nat) (i40:Int):Prop:=LpH (F121_s0 all) (lN121_0 all) i m39 i40 (lI121_0 all (m39+1) i40)
abbrev lE121_0 (all:List l52Cut) (i40:Int) (i40_:Int) (K39:Prop):Prop:=((.int .i64 i40:Value)=.int .i64 i40_)/\(Im (.l 1 el52Cut all))/\K39
theorem un121_0 (all:List l52Cut) (i:Nat×Int) (h:lJ121_0 all i):lH121_0 all i (i.1-1) i.2:=⟨hd1 h.1 h.2.1,hd3 h.2.1,hd2 h.2.1,h.2.2⟩
theorem bk121_0 (all:List l52Cut) (i:Nat×Int) (m39:Nat) (i40:Int) (hl:m39<i.1) (e:runL (F121_s0 all) m39 i40=lX121_0 all) (h:lI121_0 all m39 i40):∃ j:Nat×Int,lE121_0 all i40 j.2 (lJ121_0 all j/\j.1<i.1):=⟨(m39,i40),rfl,Imp.refl _,⟨e,h⟩,hl⟩
theorem en121_0 (all:List l52Cut) (h:(0:Int)<=0):lE121_0 all 0 0 (lJ121_0 all (lN121_0 all)):=⟨rfl,Imp.refl _,rfl,Qt _,h⟩
def S121 (R:Int) (all:List l52Cut):Spec:=⟨[.r (.c (.l 1 el52Cut all))],.v (vI R),True⟩
theorem ok121 (all:List l52Cut):(S121 (F121 all) all).ok Tryz.prog 121 :=
 fnG_ok mixed (fn:=Tryz.f121) (ct:=.seqk [(0,0)] .no (.seq (.seqk [(0,0)] .no (.blk (.loop (ι:=Nat×Int) (fun i=>(fun (i40:Int)=>(⟨[(0,some (.h 0 0)),(3,some (.v (vI i40)))],[(0,some (.shr none (.l 1 el52Cut all)))],1⟩:St)) i.2) (lJ121_0 all) (fun i=>i.1) (lN121_0 all) (fun i=>(fun (i40:Int)=>(.seq (.seq .no (.cond .no .no)) (.seq (.blk (.seq (.reg [(4,kh116 (all.getD (Int.toNat i40) default) 0)]) (.cond (.seq .no .no) .no))) (.reg [(1,.bnd)])))) i.2)))) (.seq .no .no))) Tryz.func121 (fun (_:True)=>kn all fun _=>kn all fun _=>ai (en121_0 all uu0) (fun (i0:Nat×Int) (hi0:lJ121_0 all i0)=>(fun (m0:Nat) (i40:Int) (hh0:lH121_0 all i0 m0 i40)=>have hI0:=hh0.1; have hl0:=hh0.2.1; have _:=hh0.2.2.1; have _:=hh0.2.2.2; ifd (i40<(all.length:Int)) (fun h2 _=>ai (uu0:ib i40 all) (kc116 (all.getD (Int.toNat i40) default) 0 uu0 (ifb ((F116 (all.getD (Int.toNat i40) default) 0).toList==Ze.toList) (fun h3=>fiI i40 (F121 all) (finR (runL_ret hI0 (condT h2 (condT h3 rfl))) rfl)) (fun h3=>ai (iok (i40+1) uu0) (bk121_0 all i0 m0 (i40+1) hl0 (runL_next hI0 (condT h2 (condF h3 rfl))) uu7))))) (fun h2 _=>have hD0_4:lX121_0 all=Lp.done i40:=runL_done hI0 (condF h2 rfl); fiI (-1) (F121 all) (finD hD0_4 rfl))) (i0.1-1) i0.2 (un121_0 all i0 hi0))) uu2
theorem as121 (all:List l52Cut):F121 all=(idxI (fun c=>((F116 c 0).toList==Ze.toList)) all):=by
 exact idx_loop (fun c=>((F116 c 0).toList==Ze.toList)) all (F121_s0 all) (fun i=>rfl)
theorem oa121 (all:List l52Cut):(S121 (idxI (fun c=>((F116 c 0).toList==Ze.toList)) all) all).ok Tryz.prog 121:=by
 intro hp; have h:=ok121 all hp; rw [as121 all] at h; exact h
theorem g121_0 (all:List l52Cut):(idxI (fun c=>((F116 c 0).toList==Ze.toList)) all)<(all.length:Int):=by
 exact idxI_lt _ all
theorem kg123 {K_:Prop} (c_ b_:Bool) (s:Za) (p_:c_=b_->s.size<=1048576) (k_:K_):(c_=b_->s.size<=1048576)/\(c_=b_->Imp (.v (.string s)) (.v (.string s)))/\K_:=⟨p_,fun _=>Imp.refl _,k_⟩
def F122_s0 (all:List l52Cut) (at':Int) (nat:l52Cut):Int->Lp Int Bool:=fun i40 =>
 bif (decide (i40<at')) then (bif (bif (bif (bif ((F116 (all.getD (Int.toNat i40) default) 0).toList==Zj.toList) then ((F116 (all.getD (Int.toNat i40) default) 1).toList==(F116 (all.getD (Int.toNat at') default) 1).toList) else false) then ((F116 (all.getD (Int.toNat i40) default) 3).toList==(F116 (all.getD (Int.toNat at') default) 3).toList) else false) then ((F116 (all.getD (Int.toNat i40) default) 4).toList==(F116 (all.getD (Int.toNat at') default) 4).toList) else false) then (.ret false) else (.next (i40+1))) else (.done i40)
def F122 (all:List l52Cut) (at':Int) (nat:l52Cut):Bool :=
 bif (bif (bif decide ((F120 (F116 (all.getD (Int.toNat at') default) 3))<(F118 (F116 nat 1)).1) then true else decide ((F120 (F116 (all.getD (Int.toNat at') default) 3))>=(IntKind.i64.wrap ((F118 (F116 nat 1)).1+(F118 (F116 nat 1)).2)))) then true else (decide ((F123 (F116 nat 3))<=F123 (F116 (all.getD (Int.toNat at') default) 2)/\F123 (F116 (all.getD (Int.toNat at') default) 2)<=(F123 (F116 nat 4))))) then false else ((runL (F122_s0 all at' nat) ((Int.toNat (at'-0))+1) 0).fin (fun r=>r) (fun i40=>true))
abbrev lN122_0 (at':Int):Nat×Int:=(((Int.toNat (at'-0))+1),0)
abbrev lI122_0 (at':Int) (m39:Nat) (i40:Int):Prop:=Int.toNat (at'-i40)<m39/\(0:Int)<=i40
abbrev lX122_0 (all:List l52Cut) (at':Int) (nat:l52Cut):Lp Int Bool:=LpX (F122_s0 all at' nat) (lN122_0 at')
abbrev lJ122_0 (all:List l52Cut) (at':Int) (nat:l52Cut) (i:Nat×Int):Prop:=LpJ (F122_s0 all at' nat) (lN122_0 at') i (lI122_0 at' i.1 i.2)
abbrev lH122_0 (all:List l52Cut) (at':Int) (nat:l52Cut) (i:Nat×Int) (m39:Nat) (i40:Int):Prop:=LpH (F122_s0 all at' nat) (lN122_0 at') i m39 i40 (lI122_0 at' (m39+1) i40)
abbrev lE122_0 (all:List l52Cut) (at':Int) (i40:Int) (i40_:Int) (K39:Prop):Prop:=(Rf (.int .i64 at'))/\((.int .i64 i40:Value)=.int .i64 i40_)/\(Im (.l 1 el52Cut all))/\(Ims (el52Cut (all.getD (Int.toNat at') default)))/\K39
theorem un122_0 (all:List l52Cut) (at':Int) (nat:l52Cut) (i:Nat×Int) (h:lJ122_0 all at' nat i):lH122_0 all at' nat i (i.1-1) i.2:=⟨hd1 h.1 h.2.1,hd3 h.2.1,hd2 h.2.1,h.2.2⟩
theorem bk122_0 (all:List l52Cut) (at':Int) (nat:l52Cut) (i:Nat×Int) (m39:Nat) (i40:Int) (hl:m39<i.1) (e:runL (F122_s0 all at' nat) m39 i40=lX122_0 all at' nat) (h:lI122_0 at' m39 i40):∃ j:Nat×Int,lE122_0 all at' i40 j.2 (lJ122_0 all at' nat j/\j.1<i.1):=⟨(m39,i40),rfl,rfl,Imp.refl _,Imps.refl _,⟨e,h⟩,hl⟩
theorem en122_0 (all:List l52Cut) (at':Int) (nat:l52Cut) (h:(0:Int)<=0):lE122_0 all at' 0 0 (lJ122_0 all at' nat (lN122_0 at')):=⟨rfl,rfl,Imp.refl _,Imps.refl _,rfl,Qt _,h⟩
def S122 (all:List l52Cut) (at':Int) (nat:l52Cut):Spec:=⟨[.r (.c (.l 1 el52Cut all)),.r (.c (.v (vI at'))),.r (.g (el52Cut nat))],.v (.bool (F122 all at' nat)),0<=at'/\at'<(all.length:Int)/\(∀ j:Nat,(nat.w.getD j default).size<=1048576)/\(∀ k j:Nat,((all.getD k default).w.getD j default).size<=1048576)⟩
abbrev q122_1 (all:List l52Cut) (at':Int):=(all.getD (Int.toNat at') default)
abbrev q122_2 (all:List l52Cut) (i40:Int):=(all.getD (Int.toNat i40) default)
abbrev q122_3 (all:List l52Cut) (at':Int):=(F120 (F116 (q122_1 all at') 3))
theorem ok122 (all:List l52Cut) (at':Int) (nat:l52Cut):(S122 all at' nat).ok Tryz.prog 122 :=
 fnG_ok mixed (fn:=Tryz.f122) (ct:=.seqk [(0,0)] .no (.seq .no (.seq (.reg [(1,kh116 nat 1),(2,kh118 (F116 nat 1))]) (.seq (.reg [(1,kh116 (q122_1 all at') 3),(2,kh120 (F116 (q122_1 all at') 3))]) (.seq (.seq (.reg [(12,kh116 (q122_1 all at') 2),(14,kh116 nat 3),(15,kh123 (F116 nat 3)),(17,kh116 nat 4),(18,kh123 (F116 nat 4)),(19,kh126a (F116 (q122_1 all at') 2) (F123 (F116 nat 3)) (F123 (F116 nat 4)))]) (.cond (.seq .no .no) .no)) (.seq (.seqk [(0,0),(7,0)] .no (.blk (.loop (ι:=Nat×Int) (fun i=>(fun (i40:Int)=>(⟨[(0,some (.h 0 0)),(1,some (.v (vI at'))),(7,some (.p 1 0)),(11,some (.v (vI i40)))],[(0,some (.shr none (.l 1 el52Cut all))),(1,some (.box 131 [.h 2 1])),(2,some (.mem none none (el52Cut (q122_1 all at'))))],3⟩:St)) i.2) (lJ122_0 all at' nat) (fun i=>i.1) (lN122_0 at') (fun i=>(fun (i40:Int)=>(.seq (.seq .no (.cond .no .no)) (.seq (.blk (.seq (.reg [(4,kh116 (q122_2 all i40) 0),(11,kh116 (q122_2 all i40) 1),(13,kh116 (q122_1 all at') 1),(21,kh116 (q122_2 all i40) 3),(23,kh116 (q122_1 all at') 3),(31,kh116 (q122_2 all i40) 4),(33,kh116 (q122_1 all at') 4)]) (.cond (.seq .no .no) .no))) (.reg [(1,.bnd)])))) i.2)))) (.seq .no .no))))))) Tryz.func122 (fun (hp:0<=at'/\at'<(all.length:Int)/\(∀ j:Nat,(nat.w.getD j default).size<=1048576)/\(∀ k j:Nat,((all.getD k default).w.getD j default).size<=1048576))=>have hpre0:=hp.1; have hpre1:=hp.2.1; have hpre2:=hp.2.2.1; have hpre3:=hp.2.2.2; kn all fun _=>ai (uu0:ib at' all) (kc116 nat 1 uu0 (kc118 (F116 nat 1) (by exact at_sz1 (by assumption) _) (kc116 (q122_1 all at') 3 uu0 (kc120 (F116 (q122_1 all at') 3) uu21 (kg116 (bif decide ((q122_3 all at')<(F118 (F116 nat 1)).1) then true else decide ((q122_3 all at')>=(IntKind.i64.wrap ((F118 (F116 nat 1)).1+(F118 (F116 nat 1)).2)))) false (q122_1 all at') 2 (fun k1=>have _:=Qw (orF1 k1); have _:=Qw (orF2 k1); uu0) (kg116 (bif decide ((q122_3 all at')<(F118 (F116 nat 1)).1) then true else decide ((q122_3 all at')>=(IntKind.i64.wrap ((F118 (F116 nat 1)).1+(F118 (F116 nat 1)).2)))) false nat 3 (fun k2=>have _:=Qw (orF1 k2); have _:=Qw (orF2 k2); uu0) (kg123 (bif decide ((q122_3 all at')<(F118 (F116 nat 1)).1) then true else decide ((q122_3 all at')>=(IntKind.i64.wrap ((F118 (F116 nat 1)).1+(F118 (F116 nat 1)).2)))) false (F116 nat 3) (fun k3=>have _:=Qw (orF1 k3); have _:=Qw (orF2 k3); (by exact at_sz1 (by assumption) _)) (kg116 (bif decide ((q122_3 all at')<(F118 (F116 nat 1)).1) then true else decide ((q122_3 all at')>=(IntKind.i64.wrap ((F118 (F116 nat 1)).1+(F118 (F116 nat 1)).2)))) false nat 4 (fun k4=>have _:=Qw (orF1 k4); have _:=Qw (orF2 k4); uu0) (kg123 (bif decide ((q122_3 all at')<(F118 (F116 nat 1)).1) then true else decide ((q122_3 all at')>=(IntKind.i64.wrap ((F118 (F116 nat 1)).1+(F118 (F116 nat 1)).2)))) false (F116 nat 4) (fun k5=>have _:=Qw (orF1 k5); have _:=Qw (orF2 k5); (by exact at_sz1 (by assumption) _)) (kg126a (bif decide ((q122_3 all at')<(F118 (F116 nat 1)).1) then true else decide ((q122_3 all at')>=(IntKind.i64.wrap ((F118 (F116 nat 1)).1+(F118 (F116 nat 1)).2)))) false (F116 (q122_1 all at') 2) (F123 (F116 nat 3)) (F123 (F116 nat 4)) (fun k6=>have _:=Qw (orF1 k6); have _:=Qw (orF2 k6); uu21) (ifb (bif (bif decide ((q122_3 all at')<(F118 (F116 nat 1)).1) then true else decide ((q122_3 all at')>=(IntKind.i64.wrap ((F118 (F116 nat 1)).1+(F118 (F116 nat 1)).2)))) then true else (decide ((F123 (F116 nat 3))<=F123 (F116 (q122_1 all at') 2)/\F123 (F116 (q122_1 all at') 2)<=(F123 (F116 nat 4))))) (fun h7=>fiB false (F122 all at' nat) (condT h7 rfl)) (fun h7=>have _:=Qw (orF1 (orF1 h7)); have _:=Qw (orF2 (orF1 h7)); have _:=Qw (orF2 h7); kn all fun _=>kn (q122_1 all at').w fun _=>ai (en122_0 all at' nat uu0) (fun (i0:Nat×Int) (hi0:lJ122_0 all at' nat i0)=>(fun (m0:Nat) (i40:Int) (hh0:lH122_0 all at' nat i0 m0 i40)=>have hI0:=hh0.1; have hl0:=hh0.2.1; have _:=hh0.2.2.1; have _:=hh0.2.2.2; ifd (i40<at') (fun h9 _=>ai (uu0:ib i40 all) (kc116 (q122_2 all i40) 0 uu0 (ai (fun k10:((F116 (q122_2 all i40) 0).toList==Zj.toList)=true=>(uu0:ib i40 all)) (kg116 ((F116 (q122_2 all i40) 0).toList==Zj.toList) true (q122_2 all i40) 1 (fun k11=>uu0) (kg116 ((F116 (q122_2 all i40) 0).toList==Zj.toList) true (q122_1 all at') 1 (fun k12=>uu0) (ai (fun k13:(bif ((F116 (q122_2 all i40) 0).toList==Zj.toList) then ((F116 (q122_2 all i40) 1).toList==(F116 (q122_1 all at') 1).toList) else false)=true=>have _:((F116 (q122_2 all i40) 0).toList==Zj.toList)=true:=(andT1 k13); have _:=(andT2 k13); (uu0:ib i40 all)) (kg116 (bif ((F116 (q122_2 all i40) 0).toList==Zj.toList) then ((F116 (q122_2 all i40) 1).toList==(F116 (q122_1 all at') 1).toList) else false) true (q122_2 all i40) 3 (fun k14=>have _:((F116 (q122_2 all i40) 0).toList==Zj.toList)=true:=(andT1 k14); have _:=(andT2 k14); uu0) (kg116 (bif ((F116 (q122_2 all i40) 0).toList==Zj.toList) then ((F116 (q122_2 all i40) 1).toList==(F116 (q122_1 all at') 1).toList) else false) true (q122_1 all at') 3 (fun k15=>have _:((F116 (q122_2 all i40) 0).toList==Zj.toList)=true:=(andT1 k15); have _:=(andT2 k15); uu0) (ai (fun k16:(bif (bif ((F116 (q122_2 all i40) 0).toList==Zj.toList) then ((F116 (q122_2 all i40) 1).toList==(F116 (q122_1 all at') 1).toList) else false) then ((F116 (q122_2 all i40) 3).toList==(F116 (q122_1 all at') 3).toList) else false)=true=>have _:((F116 (q122_2 all i40) 0).toList==Zj.toList)=true:=(andT1 (andT1 k16)); have _:=(andT2 (andT1 k16)); have _:=(andT2 k16); (uu0:ib i40 all)) (kg116 (bif (bif ((F116 (q122_2 all i40) 0).toList==Zj.toList) then ((F116 (q122_2 all i40) 1).toList==(F116 (q122_1 all at') 1).toList) else false) then ((F116 (q122_2 all i40) 3).toList==(F116 (q122_1 all at') 3).toList) else false) true (q122_2 all i40) 4 (fun k17=>have _:((F116 (q122_2 all i40) 0).toList==Zj.toList)=true:=(andT1 (andT1 k17)); have _:=(andT2 (andT1 k17)); have _:=(andT2 k17); uu0) (kg116 (bif (bif ((F116 (q122_2 all i40) 0).toList==Zj.toList) then ((F116 (q122_2 all i40) 1).toList==(F116 (q122_1 all at') 1).toList) else false) then ((F116 (q122_2 all i40) 3).toList==(F116 (q122_1 all at') 3).toList) else false) true (q122_1 all at') 4 (fun k18=>have _:((F116 (q122_2 all i40) 0).toList==Zj.toList)=true:=(andT1 (andT1 k18)); have _:=(andT2 (andT1 k18)); have _:=(andT2 k18); uu0) (ifb (bif (bif (bif ((F116 (q122_2 all i40) 0).toList==Zj.toList) then ((F116 (q122_2 all i40) 1).toList==(F116 (q122_1 all at') 1).toList) else false) then ((F116 (q122_2 all i40) 3).toList==(F116 (q122_1 all at') 3).toList) else false) then ((F116 (q122_2 all i40) 4).toList==(F116 (q122_1 all at') 4).toList) else false) (fun h19=>have _:((F116 (q122_2 all i40) 0).toList==Zj.toList)=true:=(andT1 (andT1 (andT1 h19))); have _:=(andT2 (andT1 (andT1 h19))); have _:=(andT2 (andT1 h19)); have _:=(andT2 h19); fiB false (F122 all at' nat) (condF h7 (finR (runL_ret hI0 (condT h9 (condT h19 rfl))) rfl))) (fun h19=>ai (iok (i40+1) uu0) (bk122_0 all at' nat i0 m0 (i40+1) hl0 (runL_next hI0 (condT h9 (condF h19 rfl))) uu7)))))))))))))) (fun h9 _=>have hD0_20:lX122_0 all at' nat=Lp.done i40:=runL_done hI0 (condF h9 rfl); fiB true (F122 all at' nat) (condF h7 (finD hD0_20 rfl)))) (i0.1-1) i0.2 (un122_0 all at' nat i0 hi0))))))))))))))) uu2
theorem kc121a (all:List l52Cut) {K_:Prop} (k_:((idxI (fun c=>((F116 c 0).toList==Ze.toList)) all)<(all.length:Int))->K_):(True)/\(Imp (.l 1 el52Cut all) (.l 1 el52Cut all))/\K_:=⟨trivial,Imp.refl _,k_ (g121_0 all)⟩
abbrev kh121a (all:List l52Cut):Hint true Tryz.prog:=.call 121 (S121 (idxI (fun c=>((F116 c 0).toList==Ze.toList)) all) all) (oa121 all) none
theorem kg122 {K_:Prop} (c_ b_:Bool) (all:List l52Cut) (at':Int) (nat:l52Cut) (p_:c_=b_->0<=at'/\at'<(all.length:Int)/\(∀ j:Nat,(nat.w.getD j default).size<=1048576)/\(∀ k j:Nat,((all.getD k default).w.getD j default).size<=1048576)) (k_:K_):(c_=b_->0<=at'/\at'<(all.length:Int)/\(∀ j:Nat,(nat.w.getD j default).size<=1048576)/\(∀ k j:Nat,((all.getD k default).w.getD j default).size<=1048576))/\(c_=b_->Imp (.l 1 el52Cut all) (.l 1 el52Cut all))/\(c_=b_->Imp (.v (vI at')) (.v (vI at')))/\(c_=b_->Imps (el52Cut nat) (el52Cut nat))/\K_:=⟨p_,fun _=>Imp.refl _,fun _=>Imp.refl _,fun _=>Imps.refl _,k_⟩
abbrev kh122 (all:List l52Cut) (at':Int) (nat:l52Cut):Hint true Tryz.prog:=.call 122 (S122 all at' nat) (ok122 all at' nat) none
def F93_s0 (all:List l52Cut):(Int×Int)->Lp (Int×Int) Bool:=fun (doors,i40) =>
 bif (decide (i40<(all.length:Int))) then (bif (!((F116 (all.getD (Int.toNat i40) default) 0).toList==Zj.toList)) then (.next (doors,(i40+1))) else (bif (bif decide ((idxI (fun c=>((F116 c 0).toList==Ze.toList)) all)<0) then true else (!(F122 all i40 (all.getD (Int.toNat (idxI (fun c=>((F116 c 0).toList==Ze.toList)) all)) default)))) then (.ret false) else (.next ((doors+1),(i40+1))))) else (.done (doors,i40))
def F93 (all:List l52Cut):Bool :=
 (runL (F93_s0 all) ((Int.toNat ((all.length:Int)-0))+1) (0,0)).fin (fun r=>r) (fun (doors,i40)=>bif (decide ((idxI (fun c=>((F116 c 0).toList==Ze.toList)) all)<0)) then true else (bif (bif decide (doors<=6) then (bif decide ((F120 (F116 (all.getD (Int.toNat (idxI (fun c=>((F116 c 0).toList==Ze.toList)) all)) default) 2))<(F118 (F116 (all.getD (Int.toNat (idxI (fun c=>((F116 c 0).toList==Ze.toList)) all)) default) 1)).1) then true else decide ((F120 (F116 (all.getD (Int.toNat (idxI (fun c=>((F116 c 0).toList==Ze.toList)) all)) default) 2))>=(IntKind.i64.wrap ((F118 (F116 (all.getD (Int.toNat (idxI (fun c=>((F116 c 0).toList==Ze.toList)) all)) default) 1)).1+(F118 (F116 (all.getD (Int.toNat (idxI (fun c=>((F116 c 0).toList==Ze.toList)) all)) default) 1)).2)))) else false) then decide ((F123 (F116 (all.getD (Int.toNat (idxI (fun c=>((F116 c 0).toList==Ze.toList)) all)) default) 3))<=(F123 (F116 (all.getD (Int.toNat (idxI (fun c=>((F116 c 0).toList==Ze.toList)) all)) default) 4))) else false))
abbrev lN93_0 (all:List l52Cut):Nat×(Int×Int):=(((Int.toNat ((all.length:Int)-0))+1),(0,0))
abbrev lI93_0 (all:List l52Cut) (m39:Nat) (doors:Int) (i40:Int):Prop:=Int.toNat ((all.length:Int)-i40)<m39/\(0:Int)<=doors/\(doors:Int)<=i40/\(0:Int)<=doors/\(0:Int)<=i40
abbrev lX93_0 (all:List l52Cut):Lp (Int×Int) Bool:=LpX (F93_s0 all) (lN93_0 all)
abbrev lJ93_0 (all:List l52Cut) (i:Nat×(Int×Int)):Prop:=LpJ (F93_s0 all) (lN93_0 all) i (lI93_0 all i.1 i.2.1 i.2.2)
abbrev lH93_0 (all:List l52Cut) (i:Nat×(Int×Int)) (m39:Nat) (doors:Int) (i40:Int):Prop:=LpH (F93_s0 all) (lN93_0 all) i m39 (doors,i40) (lI93_0 all (m39+1) doors i40)
abbrev lE93_0 (all:List l52Cut) (doors:Int) (i40:Int) (doors_:Int) (i40_:Int) (K39:Prop):Prop:=(Rf (.int .i64 (idxI (fun c=>((F116 c 0).toList==Ze.toList)) all)))/\((.int .i64 doors:Value)=.int .i64 doors_)/\((.int .i64 i40:Value)=.int .i64 i40_)/\(Im (.l 1 el52Cut all))/\K39
theorem un93_0 (all:List l52Cut) (i:Nat×(Int×Int)) (h:lJ93_0 all i):lH93_0 all i (i.1-1) i.2.1 i.2.2:=⟨hd1 h.1 h.2.1,hd3 h.2.1,hd2 h.2.1,h.2.2⟩
theorem bk93_0 (all:List l52Cut) (i:Nat×(Int×Int)) (m39:Nat) (doors:Int) (i40:Int) (hl:m39<i.1) (e:runL (F93_s0 all) m39 (doors,i40)=lX93_0 all) (h:lI93_0 all m39 doors i40):∃ j:Nat×(Int×Int),lE93_0 all doors i40 j.2.1 j.2.2 (lJ93_0 all j/\j.1<i.1):=⟨(m39,(doors,i40)),rfl,rfl,rfl,Imp.refl _,⟨e,h⟩,hl⟩
theorem en93_0 (all:List l52Cut) (h:(0:Int)<=0/\(0:Int)<=0/\(0:Int)<=0/\(0:Int)<=0):lE93_0 all 0 0 0 0 (lJ93_0 all (lN93_0 all)):=⟨rfl,rfl,rfl,Imp.refl _,rfl,Qt _,h⟩
def S93 (all:List l52Cut):Spec:=⟨[.r (.c (.l 1 el52Cut all))],.v (.bool (F93 all)),(∀ k j:Nat,((all.getD k default).w.getD j default).size<=1048576)⟩
theorem ok93 (all:List l52Cut):(S93 all).ok Tryz.prog 93 :=
 fnG_ok mixed (fn:=Tryz.f93) (ct:=.seqk [(0,0)] .no (.seq (.reg [(1,kh121a all)]) (.seq .no (.seq (.seqk [(0,0)] .no (.blk (.loop (ι:=Nat×(Int×Int)) (fun i=>(fun (doors:Int) (i40:Int)=>(⟨[(0,some (.h 0 0)),(3,some (.v (vI (idxI (fun c=>((F116 c 0).toList==Ze.toList)) all)))),(4,some (.v (vI doors))),(5,some (.v (vI i40)))],[(0,some (.shr none (.l 1 el52Cut all)))],1⟩:St)) i.2.1 i.2.2) (lJ93_0 all) (fun i=>i.1) (lN93_0 all) (fun i=>(fun (doors:Int) (i40:Int)=>(.seq (.seq .no (.cond .no .no)) (.seq (.blk (.seq (.seq (.reg [(4,kh116 (all.getD (Int.toNat i40) default) 0)]) (.cond .no .no)) (.seq (.reg [(1,.bnd)]) (.seq (.reg [(9,kh122 all i40 (all.getD (Int.toNat (idxI (fun c=>((F116 c 0).toList==Ze.toList)) all)) default))]) (.cond (.seq .no .no) .no))))) (.reg [(1,.bnd)])))) i.2.1 i.2.2)))) (.seq (.seq .no (.cond (.seq .no .no) .no)) (.seq (.reg [(4,kh116 (all.getD (Int.toNat (idxI (fun c=>((F116 c 0).toList==Ze.toList)) all)) default) 1),(5,kh118 (F116 (all.getD (Int.toNat (idxI (fun c=>((F116 c 0).toList==Ze.toList)) all)) default) 1))]) (.seq (.reg [(4,kh116 (all.getD (Int.toNat (idxI (fun c=>((F116 c 0).toList==Ze.toList)) all)) default) 2),(5,kh120 (F116 (all.getD (Int.toNat (idxI (fun c=>((F116 c 0).toList==Ze.toList)) all)) default) 2))]) (.seq (.reg [(19,kh116 (all.getD (Int.toNat (idxI (fun c=>((F116 c 0).toList==Ze.toList)) all)) default) 3),(20,kh123 (F116 (all.getD (Int.toNat (idxI (fun c=>((F116 c 0).toList==Ze.toList)) all)) default) 3)),(25,kh116 (all.getD (Int.toNat (idxI (fun c=>((F116 c 0).toList==Ze.toList)) all)) default) 4),(26,kh123 (F116 (all.getD (Int.toNat (idxI (fun c=>((F116 c 0).toList==Ze.toList)) all)) default) 4))]) .no)))))))) Tryz.func93 (fun (hpre0:∀ k j:Nat,((all.getD k default).w.getD j default).size<=1048576)=>kn all fun _=>kc121a all (fun gv1=>kn all fun _=>ai (en93_0 all uu42) (fun (i0:Nat×(Int×Int)) (hi0:lJ93_0 all i0)=>(fun (m0:Nat) (doors:Int) (i40:Int) (hh0:lH93_0 all i0 m0 doors i40)=>have hI0:=hh0.1; have hl0:=hh0.2.1; have _:=hh0.2.2.1; have _:=hh0.2.2.2; ifd (i40<(all.length:Int)) (fun h3 _=>ai (uu0:ib i40 all) (kc116 (all.getD (Int.toNat i40) default) 0 uu0 (ifb (!((F116 (all.getD (Int.toNat i40) default) 0).toList==Zj.toList)) (fun h4=>ai (iok (i40+1) uu0) (bk93_0 all i0 m0 doors (i40+1) hl0 (runL_next hI0 (condT h3 (condT h4 rfl))) uu28)) (fun h4=>ai (iok (doors+1) uu0) (ai (fun k5:(decide ((idxI (fun c=>((F116 c 0).toList==Ze.toList)) all)<0))=false=>have _:¬ (idxI (fun c=>((F116 c 0).toList==Ze.toList)) all)<0:=Qw k5; (uu0:ib (idxI (fun c=>((F116 c 0).toList==Ze.toList)) all) all)) (kg122 (decide ((idxI (fun c=>((F116 c 0).toList==Ze.toList)) all)<0)) false all i40 (all.getD (Int.toNat (idxI (fun c=>((F116 c 0).toList==Ze.toList)) all)) default) (fun k6=>have _:¬ (idxI (fun c=>((F116 c 0).toList==Ze.toList)) all)<0:=Qw k6; ⟨uu0,uu0,(by exact fun j=>(by assumption:∀ k j:Nat,((all.getD k default).w.getD j default).size<=1048576) _ j),uu0⟩) (ifb (bif decide ((idxI (fun c=>((F116 c 0).toList==Ze.toList)) all)<0) then true else (!(F122 all i40 (all.getD (Int.toNat (idxI (fun c=>((F116 c 0).toList==Ze.toList)) all)) default)))) (fun h7=>fiB false (F93 all) (finR (runL_ret hI0 (condT h3 (condF h4 (condT h7 rfl)))) rfl)) (fun h7=>have _:¬ (idxI (fun c=>((F116 c 0).toList==Ze.toList)) all)<0:=Qw (orF1 h7); ai (iok (i40+1) uu0) (bk93_0 all i0 m0 (doors+1) (i40+1) hl0 (runL_next hI0 (condT h3 (condF h4 (condF h7 rfl)))) uu28))))))))) (fun h3 _=>have hD0_8:lX93_0 all=Lp.done (doors,i40):=runL_done hI0 (condF h3 rfl); ifd ((idxI (fun c=>((F116 c 0).toList==Ze.toList)) all)<0) (fun h9 _=>fiB true (F93 all) (finD hD0_8 (condT h9 rfl))) (fun h9 _=>ai (uu0:ib (idxI (fun c=>((F116 c 0).toList==Ze.toList)) all) all) (kc116 (all.getD (Int.toNat (idxI (fun c=>((F116 c 0).toList==Ze.toList)) all)) default) 1 uu0 (kc118 (F116 (all.getD (Int.toNat (idxI (fun c=>((F116 c 0).toList==Ze.toList)) all)) default) 1) uu21 (ai (uu0:ib (idxI (fun c=>((F116 c 0).toList==Ze.toList)) all) all) (kc116 (all.getD (Int.toNat (idxI (fun c=>((F116 c 0).toList==Ze.toList)) all)) default) 2 uu0 (kc120 (F116 (all.getD (Int.toNat (idxI (fun c=>((F116 c 0).toList==Ze.toList)) all)) default) 2) uu21 (ai (fun k10:(bif decide (doors<=6) then (bif decide ((F120 (F116 (all.getD (Int.toNat (idxI (fun c=>((F116 c 0).toList==Ze.toList)) all)) default) 2))<(F118 (F116 (all.getD (Int.toNat (idxI (fun c=>((F116 c 0).toList==Ze.toList)) all)) default) 1)).1) then true else decide ((F120 (F116 (all.getD (Int.toNat (idxI (fun c=>((F116 c 0).toList==Ze.toList)) all)) default) 2))>=(IntKind.i64.wrap ((F118 (F116 (all.getD (Int.toNat (idxI (fun c=>((F116 c 0).toList==Ze.toList)) all)) default) 1)).1+(F118 (F116 (all.getD (Int.toNat (idxI (fun c=>((F116 c 0).toList==Ze.toList)) all)) default) 1)).2)))) else false)=true=>have _:=Qb (andT1 k10); (uu0:ib (idxI (fun c=>((F116 c 0).toList==Ze.toList)) all) all)) (kg116 (bif decide (doors<=6) then (bif decide ((F120 (F116 (all.getD (Int.toNat (idxI (fun c=>((F116 c 0).toList==Ze.toList)) all)) default) 2))<(F118 (F116 (all.getD (Int.toNat (idxI (fun c=>((F116 c 0).toList==Ze.toList)) all)) default) 1)).1) then true else decide ((F120 (F116 (all.getD (Int.toNat (idxI (fun c=>((F116 c 0).toList==Ze.toList)) all)) default) 2))>=(IntKind.i64.wrap ((F118 (F116 (all.getD (Int.toNat (idxI (fun c=>((F116 c 0).toList==Ze.toList)) all)) default) 1)).1+(F118 (F116 (all.getD (Int.toNat (idxI (fun c=>((F116 c 0).toList==Ze.toList)) all)) default) 1)).2)))) else false) true (all.getD (Int.toNat (idxI (fun c=>((F116 c 0).toList==Ze.toList)) all)) default) 3 (fun k11=>have _:=Qb (andT1 k11); uu0) (kg123 (bif decide (doors<=6) then (bif decide ((F120 (F116 (all.getD (Int.toNat (idxI (fun c=>((F116 c 0).toList==Ze.toList)) all)) default) 2))<(F118 (F116 (all.getD (Int.toNat (idxI (fun c=>((F116 c 0).toList==Ze.toList)) all)) default) 1)).1) then true else decide ((F120 (F116 (all.getD (Int.toNat (idxI (fun c=>((F116 c 0).toList==Ze.toList)) all)) default) 2))>=(IntKind.i64.wrap ((F118 (F116 (all.getD (Int.toNat (idxI (fun c=>((F116 c 0).toList==Ze.toList)) all)) default) 1)).1+(F118 (F116 (all.getD (Int.toNat (idxI (fun c=>((F116 c 0).toList==Ze.toList)) all)) default) 1)).2)))) else false) true (F116 (all.getD (Int.toNat (idxI (fun c=>((F116 c 0).toList==Ze.toList)) all)) default) 3) (fun k12=>have _:=Qb (andT1 k12); uu21) (ai (fun k13:(bif decide (doors<=6) then (bif decide ((F120 (F116 (all.getD (Int.toNat (idxI (fun c=>((F116 c 0).toList==Ze.toList)) all)) default) 2))<(F118 (F116 (all.getD (Int.toNat (idxI (fun c=>((F116 c 0).toList==Ze.toList)) all)) default) 1)).1) then true else decide ((F120 (F116 (all.getD (Int.toNat (idxI (fun c=>((F116 c 0).toList==Ze.toList)) all)) default) 2))>=(IntKind.i64.wrap ((F118 (F116 (all.getD (Int.toNat (idxI (fun c=>((F116 c 0).toList==Ze.toList)) all)) default) 1)).1+(F118 (F116 (all.getD (Int.toNat (idxI (fun c=>((F116 c 0).toList==Ze.toList)) all)) default) 1)).2)))) else false)=true=>have _:=Qb (andT1 k13); (uu0:ib (idxI (fun c=>((F116 c 0).toList==Ze.toList)) all) all)) (kg116 (bif decide (doors<=6) then (bif decide ((F120 (F116 (all.getD (Int.toNat (idxI (fun c=>((F116 c 0).toList==Ze.toList)) all)) default) 2))<(F118 (F116 (all.getD (Int.toNat (idxI (fun c=>((F116 c 0).toList==Ze.toList)) all)) default) 1)).1) then true else decide ((F120 (F116 (all.getD (Int.toNat (idxI (fun c=>((F116 c 0).toList==Ze.toList)) all)) default) 2))>=(IntKind.i64.wrap ((F118 (F116 (all.getD (Int.toNat (idxI (fun c=>((F116 c 0).toList==Ze.toList)) all)) default) 1)).1+(F118 (F116 (all.getD (Int.toNat (idxI (fun c=>((F116 c 0).toList==Ze.toList)) all)) default) 1)).2)))) else false) true (all.getD (Int.toNat (idxI (fun c=>((F116 c 0).toList==Ze.toList)) all)) default) 4 (fun k14=>have _:=Qb (andT1 k14); uu0) (kg123 (bif decide (doors<=6) then (bif decide ((F120 (F116 (all.getD (Int.toNat (idxI (fun c=>((F116 c 0).toList==Ze.toList)) all)) default) 2))<(F118 (F116 (all.getD (Int.toNat (idxI (fun c=>((F116 c 0).toList==Ze.toList)) all)) default) 1)).1) then true else decide ((F120 (F116 (all.getD (Int.toNat (idxI (fun c=>((F116 c 0).toList==Ze.toList)) all)) default) 2))>=(IntKind.i64.wrap ((F118 (F116 (all.getD (Int.toNat (idxI (fun c=>((F116 c 0).toList==Ze.toList)) all)) default) 1)).1+(F118 (F116 (all.getD (Int.toNat (idxI (fun c=>((F116 c 0).toList==Ze.toList)) all)) default) 1)).2)))) else false) true (F116 (all.getD (Int.toNat (idxI (fun c=>((F116 c 0).toList==Ze.toList)) all)) default) 4) (fun k15=>have _:=Qb (andT1 k15); uu21) (fiB (bif (bif decide (doors<=6) then (bif decide ((F120 (F116 (all.getD (Int.toNat (idxI (fun c=>((F116 c 0).toList==Ze.toList)) all)) default) 2))<(F118 (F116 (all.getD (Int.toNat (idxI (fun c=>((F116 c 0).toList==Ze.toList)) all)) default) 1)).1) then true else decide ((F120 (F116 (all.getD (Int.toNat (idxI (fun c=>((F116 c 0).toList==Ze.toList)) all)) default) 2))>=(IntKind.i64.wrap ((F118 (F116 (all.getD (Int.toNat (idxI (fun c=>((F116 c 0).toList==Ze.toList)) all)) default) 1)).1+(F118 (F116 (all.getD (Int.toNat (idxI (fun c=>((F116 c 0).toList==Ze.toList)) all)) default) 1)).2)))) else false) then decide ((F123 (F116 (all.getD (Int.toNat (idxI (fun c=>((F116 c 0).toList==Ze.toList)) all)) default) 3))<=(F123 (F116 (all.getD (Int.toNat (idxI (fun c=>((F116 c 0).toList==Ze.toList)) all)) default) 4))) else false) (F93 all) (finD hD0_8 (condF h9 rfl))))))))))))))))) (i0.1-1) i0.2.1 i0.2.2 (un93_0 all i0 hi0)))) uu2
theorem getD_mapG {α β:Type} [Inhabited α] [Inhabited β] (f:α->β) (ls:List α) (i:Nat) (h:i<ls.length):(ls.map f).getD i default=f (ls.getD i default):=by
 rw [getD_lt _ (by simpa using h),getD_lt _ h,List.getElem_map]


theorem cuts_sz (lines:List Za) (hz:∀ k:Nat,(lines.getD k default).size<=1048576):∀ k j:Nat,(((lines.map (fun l=>(⟨(F43 l).1⟩:l52Cut))).getD k default).w.getD j default).size<=1048576:=fun k j=>by
 by_cases hk:k<lines.length
 ·rw [getD_mapG _ _ _ hk]
  exact specwords_sz (lines.getD k default) j
 ·have e:(lines.map (fun l=>(⟨(F43 l).1⟩:l52Cut))).getD k default=default:=by
   rw [Qd,T2 (by rw [Sc]; omega)]; rfl
  rw [e]
  exact Rj _
theorem kc18 (lines:List Za) {K_:Prop} (p0_:∀ k:Nat,(lines.getD k default).size<=1048576) (k_:K_):(∀ k:Nat,(lines.getD k default).size<=1048576)/\(Imp (.l 1 eStr lines) (.l 1 eStr lines))/\K_:=⟨p0_,Imp.refl _,k_⟩
abbrev kh18 (lines:List Za):Hint true Tryz.prog:=.call 18 (S18 lines) (ok18 lines) none
theorem kc88a (lines:List Za) {K_:Prop} (p0_:lines.length<=16) (p1_:∀ k:Nat,(lines.getD k default).size<=1048576) (k_:K_):(lines.length<=16/\(∀ k:Nat,(lines.getD k default).size<=1048576))/\(Imp (.l 1 eStr lines) (.l 1 eStr lines))/\K_:=⟨⟨p0_,p1_⟩,Imp.refl _,k_⟩
abbrev kh88a (lines:List Za):Hint true Tryz.prog:=.call 88 (T88 (lines.map (fun l=>(⟨(F43 l).1⟩:l52Cut))) lines) (oa88 lines) none
def F64 (lines:List Za):Int :=
 bif ((F18 lines) != 0) then (F18 lines) else (bif (!(F89 (lines.map (fun l=>(⟨(F43 l).1⟩:l52Cut))))) then 5 else (bif (!(F90 (lines.map (fun l=>(⟨(F43 l).1⟩:l52Cut))))) then 6 else (bif (!(F91 (lines.map (fun l=>(⟨(F43 l).1⟩:l52Cut))))) then 7 else (bif (!(F92 (lines.map (fun l=>(⟨(F43 l).1⟩:l52Cut))))) then 8 else (bif (!(F93 (lines.map (fun l=>(⟨(F43 l).1⟩:l52Cut))))) then 9 else 0)))))
def S64 (lines:List Za):Spec:=⟨[.r (.c (.l 1 eStr lines))],.v (vI (F64 lines)),lines.length<=1048576/\(∀ k:Nat,(lines.getD k default).size<=1048576)⟩
theorem ok64 (lines:List Za):(S64 lines).ok Tryz.prog 64 :=
 fnG_ok mixed (fn:=Tryz.f64) (ct:=.seqk [(0,0)] .no (.seq (.reg [(1,kh18 lines)]) (.seq (.seq .no (.cond (.seq .no .no) .no)) (.seq (.reg [(1,kh88a lines)]) (.seq (.blk (.seq (.reg [(1,.call 89 (S89 (lines.map (fun l=>(⟨(F43 l).1⟩:l52Cut)))) (ok89 (lines.map (fun l=>(⟨(F43 l).1⟩:l52Cut)))) none)]) (.cond (.seq .no .no) (.seq (.reg [(1,.call 90 (S90 (lines.map (fun l=>(⟨(F43 l).1⟩:l52Cut)))) (ok90 (lines.map (fun l=>(⟨(F43 l).1⟩:l52Cut)))) none)]) (.cond (.seq .no .no) (.seq (.reg [(1,.call 91 (S91 (lines.map (fun l=>(⟨(F43 l).1⟩:l52Cut)))) (ok91 (lines.map (fun l=>(⟨(F43 l).1⟩:l52Cut)))) none)]) (.cond (.seq .no .no) (.seq (.reg [(1,.call 92 (S92 (lines.map (fun l=>(⟨(F43 l).1⟩:l52Cut)))) (ok92 (lines.map (fun l=>(⟨(F43 l).1⟩:l52Cut)))) none)]) (.cond (.seq .no .no) (.seq (.reg [(1,.call 93 (S93 (lines.map (fun l=>(⟨(F43 l).1⟩:l52Cut)))) (ok93 (lines.map (fun l=>(⟨(F43 l).1⟩:l52Cut)))) none)]) (.cond (.seq .no .no) .no))))))))))) (.seq .no .no)))))) Tryz.func64 (fun (hp:lines.length<=1048576/\(∀ k:Nat,(lines.getD k default).size<=1048576))=>have hpre0:=hp.1; have hpre1:=hp.2; kn lines fun _=>kc18 lines uu44 (ifn (F18 lines) 0 (fun h1 _=>fiI (F18 lines) (F64 lines) (condT h1 rfl)) (fun h1 _=>kc88a lines uu66 uu66 (ai trivial (ai (Imp.refl (.l 1 el52Cut (lines.map (fun l=>(⟨(F43 l).1⟩:l52Cut))))) (ifb (!(F89 (lines.map (fun l=>(⟨(F43 l).1⟩:l52Cut))))) (fun h2=>fiI 5 (F64 lines) (condF h1 (condT h2 rfl))) (fun h2=>ai trivial (ai (Imp.refl (.l 1 el52Cut (lines.map (fun l=>(⟨(F43 l).1⟩:l52Cut))))) (ifb (!(F90 (lines.map (fun l=>(⟨(F43 l).1⟩:l52Cut))))) (fun h3=>fiI 6 (F64 lines) (condF h1 (condF h2 (condT h3 rfl)))) (fun h3=>ai (uu52:∀ k j:Nat,(((lines.map (fun l=>(⟨(F43 l).1⟩:l52Cut))).getD k default).w.getD j default).size<=1048576) (ai (Imp.refl (.l 1 el52Cut (lines.map (fun l=>(⟨(F43 l).1⟩:l52Cut))))) (ifb (!(F91 (lines.map (fun l=>(⟨(F43 l).1⟩:l52Cut))))) (fun h4=>fiI 7 (F64 lines) (condF h1 (condF h2 (condF h3 (condT h4 rfl))))) (fun h4=>ai (uu52:∀ k j:Nat,(((lines.map (fun l=>(⟨(F43 l).1⟩:l52Cut))).getD k default).w.getD j default).size<=1048576) (ai (Imp.refl (.l 1 el52Cut (lines.map (fun l=>(⟨(F43 l).1⟩:l52Cut))))) (ifb (!(F92 (lines.map (fun l=>(⟨(F43 l).1⟩:l52Cut))))) (fun h5=>fiI 8 (F64 lines) (condF h1 (condF h2 (condF h3 (condF h4 (condT h5 rfl)))))) (fun h5=>ai (uu52:∀ k j:Nat,(((lines.map (fun l=>(⟨(F43 l).1⟩:l52Cut))).getD k default).w.getD j default).size<=1048576) (ai (Imp.refl (.l 1 el52Cut (lines.map (fun l=>(⟨(F43 l).1⟩:l52Cut))))) (ifb (!(F93 (lines.map (fun l=>(⟨(F43 l).1⟩:l52Cut))))) (fun h6=>fiI 9 (F64 lines) (condF h1 (condF h2 (condF h3 (condF h4 (condF h5 (condT h6 rfl))))))) (fun h6=>fiI 0 (F64 lines) (condF h1 (condF h2 (condF h3 (condF h4 (condF h5 (condF h6 rfl))))))))))))))))))))))))) uu2
theorem check_len (lines:List Za) (h:F64 lines=0):lines.length<=16:=by
 unfold F64 at h
 cases hn:(F18 lines != 0) with
 | true=>rw [hn,Qc] at h; rw [h] at hn; exact absurd hn uu1
 | false=>exact neat_len lines (by simpa using hn)


def ltB (a b:Za):Bool:=Op.bytesLess a.toList b.toList
theorem bless_eq:∀ (x y:List UInt8),Op.bytesLess x y=decide (x<y)
 | [],[]=>by simp [Op.bytesLess]
 | _ :: _,[]=>by simp [Op.bytesLess]
 | [],_ :: _=>by simp [Op.bytesLess]
 | a :: x,b :: y=>by
  rw [Op.bytesLess,bless_eq x y]
  simp only [List.cons_lt_cons_iff]
  by_cases h1:a<b <;> by_cases h2:a=b <;> by_cases h3:x<y <;> simp [h1,h2,h3]
theorem ltB_iff (a b:Za):ltB a b=true↔a.data.toList<b.data.toList:=by
 unfold ltB
 rw [byteToList,byteToList,bless_eq,Rc]
theorem ltB_irrefl (a:Za):ltB a a=false:=by
 rw [R9,ne_eq,ltB_iff]
 exact List.lt_irrefl _
theorem ltB_trans {a b c:Za} (h1:ltB a b=true) (h2:ltB b c=true):ltB a c=true:=by
 rw [ltB_iff] at *
 exact List.lt_trans h1 h2
theorem ltB_tri (a b:Za):ltB a b=true\/a=b\/ltB b a=true:=by
 rw [ltB_iff,ltB_iff]
 rcases Sg (a.data.toList<b.data.toList) with h | h
 ·exact .inl h
 ·rcases Sg (b.data.toList<a.data.toList) with h2 | h2
  ·exact .inr (.inr h2)
  ·refine .inr (.inl (ba_ext (List.le_antisymm ?_ ?_)))
   ·exact List.not_lt.1 h2
   ·exact List.not_lt.1 h
theorem ltB_asymm {a b:Za} (h:ltB a b=true):ltB b a=false:=by
 rw [R9]
 intro h2
 have:=ltB_trans h h2
 rw [ltB_irrefl] at this
 cases this
def SortedB (xs:List Za):Prop:=xs.Pairwise fun a b=>ltB a b=true
theorem sorted_ext:∀ {xs ys:List Za},SortedB xs->SortedB ys->(∀ z,z∈xs↔z∈ys)->xs=ys
 | [],[],_,_,_=>rfl
 | [],y :: ys,_,_,h=>absurd ((h y).2 Ql) Rd
 | x :: xs,[],_,_,h=>absurd ((h x).1 Ql) Rd
 | x :: xs,y :: ys,hx,hy,h=>by
  obtain ⟨hx1,hx2⟩:=T1.1 hx
  obtain ⟨hy1,hy2⟩:=T1.1 hy
  have hno:∀ {a:Za} {r:List Za},(∀ b∈r,ltB a b=true)->a ∉ r:=fun h hm=>by
   have:=h _ hm
   rw [ltB_irrefl] at this
   cases this
  have e:x=y:=by
   rcases Qr.1 ((h x).1 Ql) with e | hm
   ·exact e
   ·rcases Qr.1 ((h y).2 Ql) with e | hm2
    ·exact e.symm
    ·have:=ltB_asymm (hy1 x hm)
     rw [hx1 y hm2] at this
     cases this
  subst e
  rw [sorted_ext hx2 hy2 fun z=>⟨fun hz=>?_,fun hz=>?_⟩]
  ·rcases Qr.1 ((h z).1 (Qj _ hz)) with rfl | hm
   ·exact absurd hz (hno hx1)
   ·exact hm
  ·rcases Qr.1 ((h z).2 (Qj _ hz)) with rfl | hm
   ·exact absurd hz (hno hy1)
   ·exact hm
theorem sortS_perm (xs:List Za):(sortS xs).Perm xs:=by
 unfold sortS
 have h:=(List.mergeSort_perm (xs.map (·.data.toList)) fun x y=>decide (x<=y)).map fun l:List UInt8=>(⟨l.toArray⟩:Za)
 refine h.trans (List.Perm.of_eq ?_)
 rw [Gw]
 exact (Tv fun a _=>show (⟨a.data.toList.toArray⟩:Za)=a from by simp).trans (Hb _)
theorem sortS_mem {xs:List Za} {z:Za}:z∈sortS xs↔z∈xs:=(sortS_perm xs).mem_iff
theorem sortS_sorted (xs:List Za) (h:xs.Nodup):SortedB (sortS xs):=by
 have hn:(sortS xs).Nodup:=(sortS_perm xs).nodup_iff.2 h
 have hp:(sortS xs).Pairwise fun a b=>ltB b a=false:=by
  unfold sortS
  rw [List.pairwise_map]
  refine (List.pairwise_mergeSort (le:=fun x y:List UInt8=>decide (x<=y)) ?_ ?_ _).imp ?_
  ·intro a b c h1 h2
   simp only [Rc] at *
   exact List.le_trans h1 h2
  ·intro a b
   simp only [Sb,Rc]
   exact List.le_total a b
  ·intro a b h1
   rw [R9,ne_eq,ltB_iff]
   simp only [Rc] at h1
   exact List.not_lt.2 h1
 refine (hp.and hn).imp ?_
 rintro a b ⟨h1,h2⟩
 rcases ltB_tri a b with h | h | h
 ·exact h
 ·exact absurd h h2
 ·rw [h1] at h; cases h
theorem sorted_at {xs:List Za} (h:∀ i,i+1<xs.length->ltB (xs.getD i default) (xs.getD (i+1) default)=true):SortedB xs:=by
 induction xs with
 | nil=>exact List.Pairwise.nil
 | cons x xs ih =>
  have h2:SortedB xs:=ih fun i hi=>by
   have:=h (i+1) (by simpa using hi)
   simpa using this
  refine T1.2 ⟨fun y hy=>?_,h2⟩
  cases xs with
  | nil=>cases hy
  | cons z r =>
   have h0:ltB x z=true:=by simpa using h 0 uu18
   rcases Qr.1 hy with rfl | hm
   ·exact h0
   ·exact ltB_trans h0 ((T1.1 h2).1 y hm)
theorem anyF_no {p:Nat->Bool}:∀ (m i:Nat),anyF p i m=false->∀ k,i<=k->k<i+m->p k=false
 | 0,i,_,k,h1,h2=>by omega
 | m+1,i,h,k,h1,h2=>by
  rw [anyF,Tp] at h
  rcases Nat.eq_or_lt_of_le h1 with rfl | hlt
  ·exact h.1
  ·exact anyF_no m (i+1) h.2 k hlt uu0
theorem neat_sorted (lines:List Za) (h:F18 lines=0):SortedB lines:=by
 have hk:=(nt_facts lines h).2
 unfold F18 at h
 cases h16:decide ((lines.length:Int)>16) with
 | true=>rw [h16,Qc] at h; exact absurd h uu1
 | false =>
 rw [h16,Qh] at h
 have h0:=fun (f:Int->Int) (g:Int->Int) (y:Int) (hg:∀ i,g i=y)=>anyL lines (fun l=>!F42 l) (2:Int) (F18_s0 lines) (fun i hi=>by
  simp only [F18_s0,ltD hi,Qc,nn,getD_map _ _ _ hi,key_empty]
  rfl) uu35 f g y hg
 have hany:(lines.any fun l=>!F42 l)=false:=by
  rw [R9]
  intro hc
  obtain ⟨x,hx,hp⟩:=Rs.1 hc
  rw [hk x hx] at hp
  cases hp
 rw [h0 (fun r=>r) _ _ (fun _=>rfl),hany,Qh] at h
 refine sorted_at fun i hi=>?_
 have h1:=fun (y:Int)=>any_loop (F18_s1 lines) lines.length (fun k=>!ltB (lines.getD (k-1) default) (lines.getD k default)) (3:Int) (fun r=>r) y (fun k hk=>by
  simp only [F18_s1,ltD hk,Qc,nn]
  rw [show Int.toNat ((k:Int)-1)=k-1 by omega]; rfl) uu53 (lines.length-1) 1 uu0 (Int.toNat ((lines.length:Int)-1)+1) uu0
 have h2:=h1 ((runL (F18_s2 lines) (((lines.length:Int)-0).toNat+1) 0).fin (fun r=>r) (fun i42=>0))
 have h3:=h2.symm.trans h
 cases ha:anyF (fun k=>!ltB (lines.getD (k-1) default) (lines.getD k default)) 1 (lines.length-1) with
 | true=>rw [ha,Qc] at h3; exact absurd h3 uu1
 | false =>
  have:=anyF_no _ _ ha (i+1) uu0 uu0
  simpa using this
theorem kc30 (lines:List Za) {K_:Prop} (p0_:∀ k:Nat,(lines.getD k default).size<=1048576) (k_:K_):(∀ k:Nat,(lines.getD k default).size<=1048576)/\(Imp (.l 1 eStr lines) (.l 1 eStr lines))/\K_:=⟨p0_,Imp.refl _,k_⟩
abbrev kh30 (lines:List Za):Hint false Tryz.prog:=.call 30 (S30 lines) (ok30 lines) none
def F13 (lines:List Za):Bool :=
 ((F30 lines)==0)
def S13 (lines:List Za):Spec:=⟨[.r (.c (.l 1 eStr lines))],.v (.bool (F13 lines)),lines.length<=1048576/\(∀ k:Nat,(lines.getD k default).size<=1048576)⟩
theorem ok13 (lines:List Za):(S13 lines).ok Tryz.prog 13 false :=
 fnG_ok mixed (fn:=Tryz.f13) (ct:=.seqk [(0,0)] .no (.seq (.reg [(1,kh30 lines)]) .no)) Tryz.func13 (fun (hp:lines.length<=1048576/\(∀ k:Nat,(lines.getD k default).size<=1048576))=>have hpre0:=hp.1; have hpre1:=hp.2; kn lines fun _=>kc30 lines uu44 (fiB ((F30 lines)==0) (F13 lines) rfl)) uu2
theorem mem_sz {xs:List Za} {n:Nat} (h:∀ k:Nat,(xs.getD k default).size<=n) {x:Za} (hx:x∈xs):x.size<=n:=by
 obtain ⟨k,hk,rfl⟩:=mem_getD hx
 exact h k
theorem getD_sz {xs:List Za} {n:Nat} (h:∀ x∈xs,x.size<=n) (k:Nat):(xs.getD k default).size<=n:=by
 rw [Qd]
 cases hx:xs[k]? with
 | none=>exact Rj n
 | some x=>exact h x (Q7 hx)






def F25_s0 (lines:List Za) (key:Za):Int->Lp Int Int:=fun i40 =>
 bif (decide (i40<(lines.length:Int))) then (bif ((F26 (lines.getD i40.toNat default)).toList==key.toList) then (.ret i40) else (.next (i40+1))) else (.done i40)
def F25 (lines:List Za) (key:Za):Int :=
 (runL (F25_s0 lines key) (((lines.length:Int)-0).toNat+1) 0).fin (fun r=>r) (fun i40=>(-1))
abbrev lN25_0 (lines:List Za):Nat×Int:=((((lines.length:Int)-0).toNat+1),0)
abbrev lI25_0 (lines:List Za) (m39:Nat) (i40:Int):Prop:=Int.toNat ((lines.length:Int)-i40)<m39/\(0:Int)<=i40
abbrev lX25_0 (lines:List Za) (key:Za):Lp Int Int:=LpX (F25_s0 lines key) (lN25_0 lines)
abbrev lJ25_0 (lines:List Za) (key:Za) (i:Nat×Int):Prop:=LpJ (F25_s0 lines key) (lN25_0 lines) i (lI25_0 lines i.1 i.2)
abbrev lH25_0 (lines:List Za) (key:Za) (i:Nat×Int) (m39:Nat) (i40:Int):Prop:=LpH (F25_s0 lines key) (lN25_0 lines) i m39 i40 (lI25_0 lines (m39+1) i40)
abbrev lE25_0 (lines:List Za) (key:Za) (i40:Int) (i40_:Int) (K39:Prop):Prop:=(Rf (.string key))/\((.int .i64 i40:Value)=.int .i64 i40_)/\(Im (.l 1 eStr lines))/\K39
theorem un25_0 (lines:List Za) (key:Za) (i:Nat×Int) (h:lJ25_0 lines key i):lH25_0 lines key i (i.1-1) i.2:=⟨hd1 h.1 h.2.1,hd3 h.2.1,hd2 h.2.1,h.2.2⟩
theorem bk25_0 (lines:List Za) (key:Za) (i:Nat×Int) (m39:Nat) (i40:Int) (hl:m39<i.1) (e:runL (F25_s0 lines key) m39 i40=lX25_0 lines key) (h:lI25_0 lines m39 i40):∃ j:Nat×Int,lE25_0 lines key i40 j.2 (lJ25_0 lines key j/\j.1<i.1):=⟨(m39,i40),rfl,rfl,Imp.refl _,⟨e,h⟩,hl⟩
theorem en25_0 (lines:List Za) (key:Za) (h:(0:Int)<=0):lE25_0 lines key 0 0 (lJ25_0 lines key (lN25_0 lines)):=⟨rfl,rfl,Imp.refl _,rfl,Qt _,h⟩
def S25 (lines:List Za) (key:Za):Spec:=⟨[.r (.c (.l 1 eStr lines)),.r (.c (.v (.string key)))],.v (vI (F25 lines key)),(∀ k:Nat,(lines.getD k default).size<=1048576)⟩
theorem ok25 (lines:List Za) (key:Za):(S25 lines key).ok Tryz.prog 25 :=
 fnG_ok mixed (fn:=Tryz.f25) (ct:=.seqk [(0,0)] .no (.seq (.seqk [(0,0)] .no (.blk (.loop (ι:=Nat×Int) (fun i=>(fun (i40:Int)=>(⟨[(0,some (.h 0 0)),(1,some (.v (.string key))),(5,some (.v (vI i40)))],[(0,some (.shr none (.l 1 eStr lines)))],1⟩:St)) i.2) (lJ25_0 lines key) (fun i=>i.1) (lN25_0 lines) (fun i=>(fun (i40:Int)=>(.seq (.seq .no (.cond .no .no)) (.seq (.blk (.seq (.reg [(4,kh26 (lines.getD i40.toNat default))]) (.cond (.seq .no .no) .no))) (.reg [(1,.bnd)])))) i.2)))) (.seq .no .no))) Tryz.func25 (fun (hpre0:∀ k:Nat,(lines.getD k default).size<=1048576)=>kn lines fun _=>kn lines fun _=>ai (en25_0 lines key uu0) (fun (i0:Nat×Int) (hi0:lJ25_0 lines key i0)=>(fun (m0:Nat) (i40:Int) (hh0:lH25_0 lines key i0 m0 i40)=>have hI0:=hh0.1; have hl0:=hh0.2.1; have _:=hh0.2.2.1; have _:=hh0.2.2.2; ifd (i40<(lines.length:Int)) (fun h2 _=>ai (uu0:ib i40 lines) (kc26 (lines.getD i40.toNat default) uu65 (ifb ((F26 (lines.getD i40.toNat default)).toList==key.toList) (fun h3=>fiI i40 (F25 lines key) (finR (runL_ret hI0 (condT h2 (condT h3 rfl))) rfl)) (fun h3=>ai (iok (i40+1) uu0) (bk25_0 lines key i0 m0 (i40+1) hl0 (runL_next hI0 (condT h2 (condF h3 rfl))) uu7))))) (fun h2 _=>have hD0_4:lX25_0 lines key=Lp.done i40:=runL_done hI0 (condF h2 rfl); fiI (-1) (F25 lines key) (finD hD0_4 rfl))) (i0.1-1) i0.2 (un25_0 lines key i0 hi0))) uu2
def F22_s0 (lines:List Za) (line:Za):Int->Lp Int (List Za):=fun k400 =>
 bif (bif decide (k400<(lines.length:Int)) then (Op.bytesLess (lines.getD k400.toNat default).toList line.toList) else false) then (.next (k400+1)) else (.done k400)
def F22_j0 (lines:List Za) (line:Za):Lp Int (List Za) :=
 (runL (F22_s0 lines line) (((lines.length:Int)-0).toNat+1) 0).fin Lp.ret (fun k400=>.done k400)
def F22 (lines:List Za) (line:Za):List Za :=
 (F22_j0 lines line).fin (fun r=>r) (fun k=>(((([]:List Za)++(lines.take k.toNat))++[line])++(lines.drop k.toNat)))
abbrev lN22_0 (lines:List Za):Nat×Int:=((((lines.length:Int)-0).toNat+1),0)
abbrev lI22_0 (lines:List Za) (m39:Nat) (k400:Int):Prop:=Int.toNat ((lines.length:Int)-k400)<m39/\(0:Int)<=k400/\k400<=(lines.length:Int)/\(0:Int)<=k400
abbrev lX22_0 (lines:List Za) (line:Za):Lp Int (List Za):=LpX (F22_s0 lines line) (lN22_0 lines)
abbrev lJ22_0 (lines:List Za) (line:Za) (i:Nat×Int):Prop:=LpJ (F22_s0 lines line) (lN22_0 lines) i (lI22_0 lines i.1 i.2)
abbrev lH22_0 (lines:List Za) (line:Za) (i:Nat×Int) (m39:Nat) (k400:Int):Prop:=LpH (F22_s0 lines line) (lN22_0 lines) i m39 k400 (lI22_0 lines (m39+1) k400)
abbrev lE22_0 (lines:List Za) (line:Za) (k400:Int) (k400_:Int) (K39:Prop):Prop:=(Rf (.string line))/\((.int .i64 k400:Value)=.int .i64 k400_)/\(Im (.l 1 eStr lines))/\K39
theorem un22_0 (lines:List Za) (line:Za) (i:Nat×Int) (h:lJ22_0 lines line i):lH22_0 lines line i (i.1-1) i.2:=⟨hd1 h.1 h.2.1,hd3 h.2.1,hd2 h.2.1,h.2.2⟩
theorem bk22_0 (lines:List Za) (line:Za) (i:Nat×Int) (m39:Nat) (k400:Int) (hl:m39<i.1) (e:runL (F22_s0 lines line) m39 k400=lX22_0 lines line) (h:lI22_0 lines m39 k400):∃ j:Nat×Int,lE22_0 lines line k400 j.2 (lJ22_0 lines line j/\j.1<i.1):=⟨(m39,k400),rfl,rfl,Imp.refl _,⟨e,h⟩,hl⟩
theorem en22_0 (lines:List Za) (line:Za) (h:(0:Int)<=0/\0<=(lines.length:Int)/\(0:Int)<=0):lE22_0 lines line 0 0 (lJ22_0 lines line (lN22_0 lines)):=⟨rfl,rfl,Imp.refl _,rfl,Qt _,h⟩
abbrev jI22_0 (lines:List Za) (line:Za) (k:Int):Prop:=0<=k/\k<=(lines.length:Int)
abbrev jJ22_0 (lines:List Za) (line:Za) (j:Int):Prop:=(F22_j0 lines line)=Lp.done j/\jI22_0 lines line j
theorem jn22_0 (lines:List Za) (line:Za) (k:Int) (e:(F22_j0 lines line)=Lp.done k) (h:jI22_0 lines line k):∃ j:Int,((.string line:Value)=.string line)/\((.int .i64 k:Value)=.int .i64 j)/\(Imp (.l 1 eStr lines) (.l 1 eStr lines))/\jJ22_0 lines line j:=⟨k,rfl,rfl,Imp.refl _,e,h⟩
theorem fi22 (lines:List Za) (line:Za) (r:List Za) (hF:r=(F22 lines line)):(Imp (.l 1 eStr r) (.l 1 eStr (F22 lines line)))/\True:=by cases hF; exact ⟨Imp.refl _,trivial⟩
def S22 (lines:List Za) (line:Za):Spec:=⟨[.r (.c (.l 1 eStr lines)),.r (.c (.v (.string line)))],.ow (.l 1 eStr (F22 lines line)),lines.length<=1048576/\(∀ k:Nat,(lines.getD k default).size<=1048576)⟩
theorem ok22 (lines:List Za) (line:Za):(S22 lines line).ok Tryz.prog 22 :=
 fnG_ok mixed (fn:=Tryz.f22) (ct:=.seqk [(0,0)] .no (.seqk [(0,0)] .no (.cut (ι:=Int) (fun j=>(fun (k:Int)=>(⟨[(0,some (.h 0 0)),(1,some (.v (.string line))),(5,some (.v (vI k)))],[(0,some (.shr none (.l 1 eStr lines)))],1⟩:St)) j) (jJ22_0 lines line) (.blk (.loop (ι:=Nat×Int) (fun i=>(fun (k400:Int)=>(⟨[(0,some (.h 0 0)),(1,some (.v (.string line))),(5,some (.v (vI k400)))],[(0,some (.shr none (.l 1 eStr lines)))],1⟩:St)) i.2) (lJ22_0 lines line) (fun i=>i.1) (lN22_0 lines) (fun i=>(fun (k400:Int)=>(.seq (.seq .no (.cond .no .no)) (.blk (.reg [(1,.bnd)])))) i.2))) (fun j=>(fun (k:Int)=>(.seq (.reg [(0,.dat (.l 1 eStr ([]:List Za))),(4,.dat (.l 1 eStr (([]:List Za)++(lines.take k.toNat)))),(7,.dat (.l 1 eStr ((([]:List Za)++(lines.take k.toNat))++[line]))),(11,.dat (.l 1 eStr (((([]:List Za)++(lines.take k.toNat))++[line])++(lines.drop k.toNat))))]) .no)) j)))) Tryz.func22 (fun (hp:lines.length<=1048576/\(∀ k:Nat,(lines.getD k default).size<=1048576))=>have hpre0:=hp.1; have hpre1:=hp.2; kn lines fun _=>kn lines fun _=>ai (ai (en22_0 lines line uu54) (fun (i0:Nat×Int) (hi0:lJ22_0 lines line i0)=>(fun (m0:Nat) (k400:Int) (hh0:lH22_0 lines line i0 m0 k400)=>have hI0:=hh0.1; have hl0:=hh0.2.1; have _:=hh0.2.2.1; have _:=hh0.2.2.2; ai (fun k2:(decide (k400<(lines.length:Int)))=true=>have _:=Qb k2; (by (first | omega | (simp only [Gz,Gk,Sb,Qn,Tp,Gl,Rc,Tt,Sp,Qx,Q6,Q4,Rw] at *; omega)):0<=k400/\k400<(lines.length:Int))) (ifb (bif decide (k400<(lines.length:Int)) then (Op.bytesLess (lines.getD k400.toNat default).toList line.toList) else false) (fun h3=>have _:=Qb (andT1 h3); have _:=(andT2 h3); ai (iok (k400+1) uu3) (bk22_0 lines line i0 m0 (k400+1) hl0 (runL_next hI0 (condT h3 rfl)) (by refine ⟨?_,?_,?_,?_⟩ <;> first | omega | (simp only [lens,ib] at*<;> omega) | omega | (simp only [Gz,Gk,Sb,Qn,Tp,Gl,Rc,Tt,Sp,Qx,Q6,Q4,Rw] at *; omega)))) (fun h3=>have hD0_4:lX22_0 lines line=Lp.done k400:=runL_done hI0 (condF h3 rfl); jn22_0 lines line k400 (Tk (finD hD0_4 rfl)) uu34))) (i0.1-1) i0.2 (un22_0 lines line i0 hi0))) (fun (j:Int) (hj:jJ22_0 lines line j)=>(fun (k:Int) (hJ0_5:(F22_j0 lines line)=Lp.done k) (hw:jI22_0 lines line k)=>have _:=hw.1; have _:=hw.2; ai (bokr 1 eStr ([]:List Za) fun _=>rfl) (ai (uu3:0<=(0:Int)/\(0:Int)<=k/\k<=(lines.length:Int)) (ai (AppL.mk eStr ([]:List Za) (lines.take k.toNat) (Imp.refl (.l 1 eStr ([]:List Za))) ir (fun y=>⟨rfl,fun e he=>by simp only [eStr,Qr,Rd,Tu] at he; rcases he with rfl <;> exact ⟨_,rfl⟩⟩):AppL (.l 1 eStr ([]:List Za)) (.l 1 eStr (lines.take k.toNat)) 1 (.l 1 eStr (([]:List Za)++(lines.take k.toNat)))) (ai (uu16:(([]:List Za)++(lines.take k.toNat)).length*16<=140737488355328) (ai (appr 1 eStr (([]:List Za)++(lines.take k.toNat)) [line] fun _=>rfl) (ai (uu16:((([]:List Za)++(lines.take k.toNat))++[line]).length*16<=140737488355328) (ai (uu3:0<=k/\k<=(lines.length:Int)/\(lines.length:Int)<=(lines.length:Int)) (ai (AppL.mk eStr ((([]:List Za)++(lines.take k.toNat))++[line]) (lines.drop k.toNat) (Imp.refl (.l 1 eStr ((([]:List Za)++(lines.take k.toNat))++[line]))) ir (fun y=>⟨rfl,fun e he=>by simp only [eStr,Qr,Rd,Tu] at he; rcases he with rfl <;> exact ⟨_,rfl⟩⟩):AppL (.l 1 eStr ((([]:List Za)++(lines.take k.toNat))++[line])) (.l 1 eStr (lines.drop k.toNat)) 1 (.l 1 eStr (((([]:List Za)++(lines.take k.toNat))++[line])++(lines.drop k.toNat)))) (ai (uu16:(((([]:List Za)++(lines.take k.toNat))++[line])++(lines.drop k.toNat)).length*16<=140737488355328) (fi22 lines line (((([]:List Za)++(lines.take k.toNat))++[line])++(lines.drop k.toNat)) (finD hJ0_5 rfl))))))))))) j hj.1 hj.2)) uu2
theorem put_at (lines:List Za) (line:Za):∀ (m i:Nat),i+m=lines.length->(∀ j,j<i->ltB (lines.getD j default) line=true)->∀ fuel,m<fuel ->
  ∃ k:Nat,k<=lines.length/\(runL (F22_s0 lines line) fuel (i:Int)).fin Lp.ret (fun k=>.done k)=(.done (k:Int):Lp Int (List Za))/\(∀ j,j<k->ltB (lines.getD j default) line=true)/\(k<lines.length->ltB (lines.getD k default) line=false)
 | m,i,_,_,0,hf=>absurd hf (Sd _)
 | 0,i,h,hb,fuel+1,hf=>by
  obtain rfl:i=lines.length:=by omega
  have e:F22_s0 lines line (lines.length:Int)=.done (lines.length:Int):=by
   simp only [F22_s0,geD,Qh]
  exact ⟨lines.length,Qp _,by rw [runL_d _ e]; rfl,hb,fun h=>absurd h (Nat.lt_irrefl _)⟩
 | m+1,i,h,hb,fuel+1,hf=>by
  have e:F22_s0 lines line (i:Int)=bif ltB (lines.getD i default) line then .next ((i+1:Nat):Int) else .done (i:Int):=by
   simp only [F22_s0,ltD (show i<lines.length by omega),Qc,nn]
   rfl
  cases hl:ltB (lines.getD i default) line with
  | true =>
   rw [hl,Qc] at e
   rw [runL_n _ e]
   exact put_at lines line m (i+1) uu0 (fun j hj=>by
    rcases T6 j i with h1 | h1
    ·exact hb j h1
    ·obtain rfl:j=i:=by omega
     exact hl) fuel uu0
  | false =>
   rw [hl,Qh] at e
   exact ⟨i,by omega,by rw [runL_d _ e]; rfl,hb,fun _=>hl⟩
theorem put_eq (lines:List Za) (line:Za):∃ k:Nat,k<=lines.length/\F22 lines line=lines.take k++line :: lines.drop k/\(∀ j,j<k->ltB (lines.getD j default) line=true)/\(k<lines.length->ltB (lines.getD k default) line=false):=by
 obtain ⟨k,h1,h2,h3,h4⟩:=put_at lines line lines.length 0 uu0 (fun j h=>absurd h (Sd _)) (Int.toNat ((lines.length:Int)-0)+1) uu0
 refine ⟨k,h1,?_,h3,h4⟩
 unfold F22 F22_j0
 refine (Qg (fun z:Lp Int (List Za)=>z.fin (fun r=>r) (fun k=>(((([]:List Za)++(lines.take k.toNat))++[line])++(lines.drop k.toNat)))) h2).trans ?_
 show ((([]:List Za)++(lines.take (k:Int).toNat))++[line])++(lines.drop (k:Int).toNat)=_
 rw [Rn]
 simp
theorem put_len (lines:List Za) (line:Za):(F22 lines line).length=lines.length+1:=by
 obtain ⟨k,h1,h2,_⟩:=put_eq lines line
 rw [h2]
 simp
 omega
theorem put_mem {lines:List Za} {line z:Za}:z∈F22 lines line↔z=line\/z∈lines:=by
 obtain ⟨k,h1,h2,_⟩:=put_eq lines line
 rw [h2,Q1,Qr]
 conv=>rhs; rhs; rw [<- Rz k lines,Q1]
 constructor
 ·rintro (h | h | h)
  ·exact .inr (.inl h)
  ·exact .inl h
  ·exact .inr (.inr h)
 ·rintro (h | h | h)
  ·exact .inr (.inl h)
  ·exact .inl h
  ·exact .inr (.inr h)
theorem put_sz (lines:List Za) (line:Za) (h:∀ k:Nat,(lines.getD k default).size<=1048576) (hl:line.size<=1048576):∀ k:Nat,((F22 lines line).getD k default).size<=1048576 :=
 getD_sz fun x hx=>by
  rcases put_mem.1 hx with rfl | hx
  ·exact hl
  ·exact mem_sz h hx
theorem key_idx (out:List Za) (k:Za):F25 out k=idxI (fun l:Za=>(F26 l).toList==k.toList) out:=idx_loop (fun l:Za=>(F26 l).toList==k.toList) out (F25_s0 out k) (fun i=>rfl)
theorem key_lt (out:List Za) (k:Za):F25 out k<(out.length:Int):=by rw [key_idx]; exact idxI_lt _ _
theorem kc25 (lines:List Za) (key:Za) {K_:Prop} (p0_:∀ k:Nat,(lines.getD k default).size<=1048576) (k_:K_):(∀ k:Nat,(lines.getD k default).size<=1048576)/\(Imp (.l 1 eStr lines) (.l 1 eStr lines))/\(Imp (.v (.string key)) (.v (.string key)))/\K_:=⟨p0_,Imp.refl _,Imp.refl _,k_⟩
abbrev kh25 (lines:List Za) (key:Za):Hint true Tryz.prog:=.call 25 (S25 lines key) (ok25 lines key) none
def F21 (lines:List Za) (key:Za):Za :=
 bif (decide ((F25 lines key)<0)) then Zc else (lines.getD (Int.toNat (F25 lines key)) default)
def S21 (lines:List Za) (key:Za):Spec:=⟨[.r (.c (.l 1 eStr lines)),.r (.c (.v (.string key)))],.v (.string (F21 lines key)),(∀ k:Nat,(lines.getD k default).size<=1048576)⟩
theorem ok21 (lines:List Za) (key:Za):(S21 lines key).ok Tryz.prog 21 :=
 fnG_ok mixed (fn:=Tryz.f21) (ct:=.seqk [(0,0)] .no (.seq (.reg [(2,kh25 lines key)]) (.seq (.seq .no (.cond (.seq .no .no) .no)) (.seq .no .no)))) Tryz.func21 (fun (hpre0:∀ k:Nat,(lines.getD k default).size<=1048576)=>kn lines fun _=>kc25 lines key uu49 (have gv1:(F25 lines key)<(lines.length:Int):=uu36; ifd ((F25 lines key)<0) (fun h2 _=>fiS Zc (F21 lines key) (condT h2 rfl)) (fun h2 _=>ai (uu0:ib (F25 lines key) lines) (fiS (lines.getD (Int.toNat (F25 lines key)) default) (F21 lines key) (condF h2 rfl))))) uu2
theorem of_sz (lines:List Za) (key:Za) (h:∀ k:Nat,(lines.getD k default).size<=1048576):(F21 lines key).size<=1048576:=by
 unfold F21
 cases decide (F25 lines key<0) with
 | true=>exact Rj _
 | false=>exact h _
theorem specLine_200 (line:Za):(F65 line).1.size<=200:=by
 unfold F65
 rw [specJoin_eq,<- words_same]
 cases (bif (!((F68 line).2)) then true else (!(F94 ((F68 line).1)))) with
 | true=>exact Rj _
 | false =>
  have h:=join_sz (F68 line).1 Zb 24 (words_sz24 line)
  have hl:=words_len line
  have h2:(F68 line).1.length*(24+Zb.size)<=8*25:=Ra 25 hl
  show (joinS (F68 line).1 Zb).size<=200
  omega
theorem neat_200 (lines:List Za) (h:F18 lines=0):∀ l∈lines,l.size<=200:=fun l hl=>by
 have hk:=(nt_facts lines h).2 l hl
 have:=specLine_200 l
 rw [((kept_iff l).1 hk).2] at this
 exact this


theorem xor_in {a b:Int} (ha:0<=a) (ha2:a<4611686018427387904) (hb:0<=b) (hb2:b<4611686018427387904):0<=bitI .xor .i64 a b:=by
 obtain ⟨m,rfl⟩:=Int.eq_ofNat_of_zero_le ha
 obtain ⟨k,rfl⟩:=Int.eq_ofNat_of_zero_le hb
 have h1:m<2 ^ 62:=by omega
 have h2:k<2 ^ 62:=by omega
 have hx:m ^^^ k<2 ^ 62:=Nat.xor_lt_two_pow h1 h2
 unfold bitI
 have e:(BitVec.ofInt IntKind.i64.bits (m:Int) ^^^ BitVec.ofInt IntKind.i64.bits (k:Int)).toNat=m ^^^ k:=by
  rw [BitVec.toNat_xor,BitVec.toNat_ofInt,BitVec.toNat_ofInt]
  have hb:(2 ^ IntKind.i64.bits:Nat)=18446744073709551616:=by decide
  have e1:((m:Int)%((2 ^ IntKind.i64.bits:Nat):Int)).toNat=m:=by rw [hb]; omega
  have e2:((k:Int)%((2 ^ IntKind.i64.bits:Nat):Int)).toNat=k:=by rw [hb]; omega
  rw [e1,e2]
 simp only [e]
 rw [wrap_of uu0 uu0]
 omega
theorem tmod_ix {a b:Int} (h0:0<=a) (h1:0<b):0<=a.tmod b/\a.tmod b<b:=by
 rw [Int.tmod_eq_emod_of_nonneg h0]
 exact ⟨Int.emod_nonneg _ uu0,Int.emod_lt_of_pos _ h1⟩
theorem tmod_in {a n:Int} (h0:0<=a):0<=a.tmod n/\(1<=n->a.tmod n<n):=by
 refine ⟨?_,fun h=>(tmod_ix h0 uu0).2⟩
 rw [Int.tmod_eq_emod_of_nonneg h0]
 by_cases h:n=0
 ·subst h; simpa using h0
 ·exact Int.emod_nonneg _ h
theorem wrap73 {k:Int} (h0:0<=k) (h1:k<=2000000000):0<=IntKind.i64.wrap (IntKind.i64.wrap (k*7)+3):=by
 rw [wrap_of (n:=k*7) uu0 uu0,wrap_of uu0 uu0]; omega
structure l51Rd where
 b:List Int
 p:Int
 deriving DecidableEq,Inhabited
def F8 (Ua:SV) (code:List Int):l51Rd×SV :=
 bif (decide ((code.length:Int)>2000)) then ((⟨(code.take (Int.toNat 2000)),0⟩:l51Rd),(cutSV 1 (Int.toNat 0) (code.take (Int.toNat 2000)).length Ua)) else ((⟨code,0⟩:l51Rd),Ua)
def S8 (Ua:SV) (code:List Int):Spec:=⟨[.vl (sv Ua) (.l 1 eByte code)],.pt 49 [.v (sv (F8 Ua code).2),.v (vI (F8 Ua code).1.p)],True⟩
theorem ok8 (Ua:SV) (code:List Int):(S8 Ua code).ok Tryz.prog 8 :=
 fnG_ok mixed (fn:=Tryz.f8) (ct:=.seqk [(0,0)] .no (.seq (.seq .no (.cond (.reg [(1,.sv)]) .no)) (.seq .no .no))) Tryz.func8 (fun (_:True)=>kn code fun _=>ifd ((code.length:Int)>2000) (fun h1 _=>ai (uu3:0<=(0:Int)/\(0:Int)<=(2000:Int)/\(2000:Int)<=(code.length:Int)) ((fun hF:((⟨(code.take (Int.toNat 2000)),0⟩:l51Rd),(cutSV 1 (Int.toNat 0) (code.take (Int.toNat 2000)).length Ua))=(F8 Ua code)=>ai (ai (Imp.of_eq (Qg (fun r:l51Rd×SV=>Dat.v (sv r.2)) hF)) (ai (Imp.of_eq (Qg (fun r:l51Rd×SV=>Dat.v (vI r.1.p)) hF)) trivial)) trivial) (condT h1 rfl))) (fun h1 _=>(fun hF:((⟨code,0⟩:l51Rd),Ua)=(F8 Ua code)=>ai (ai (Imp.of_eq (Qg (fun r:l51Rd×SV=>Dat.v (sv r.2)) hF)) (ai (Imp.of_eq (Qg (fun r:l51Rd×SV=>Dat.v (vI r.1.p)) hF)) trivial)) trivial) (condF h1 rfl))) uu2
def F11 (r1:l51Rd) (n:Int):Int×Int :=
 bif (bif decide (n<1) then true else ((r1.b.length:Int)==0)) then (0,(r1.p+1)) else (bif (decide (((r1.p+1)-1)<(r1.b.length:Int))) then (((IntKind.i64.wrap ((r1.b.getD ((r1.p+1)-1).toNat default)%256)).tmod n),(r1.p+1)) else (((bitI .xor .i64 (IntKind.i64.wrap ((IntKind.i64.wrap ((IntKind.i64.wrap ((IntKind.i64.wrap ((IntKind.i64.wrap ((r1.b.getD (((r1.p+1)-1).tmod (r1.b.length:Int)).toNat default)%256))*131))+(IntKind.i64.wrap ((IntKind.i64.wrap ((r1.b.getD ((IntKind.i64.wrap ((IntKind.i64.wrap (((r1.p+1)-1)*7))+3)).tmod (r1.b.length:Int)).toNat default)%256))*1117))))+(IntKind.i64.wrap (((r1.p+1)-1)*29))))+(IntKind.i64.wrap ((IntKind.i64.wrap (((r1.p+1)-1).tdiv (r1.b.length:Int)))*53)))) (IntKind.i64.wrap ((IntKind.i64.wrap ((IntKind.i64.wrap ((IntKind.i64.wrap ((IntKind.i64.wrap ((IntKind.i64.wrap ((r1.b.getD (((r1.p+1)-1).tmod (r1.b.length:Int)).toNat default)%256))*131))+(IntKind.i64.wrap ((IntKind.i64.wrap ((r1.b.getD ((IntKind.i64.wrap ((IntKind.i64.wrap (((r1.p+1)-1)*7))+3)).tmod (r1.b.length:Int)).toNat default)%256))*1117))))+(IntKind.i64.wrap (((r1.p+1)-1)*29))))+(IntKind.i64.wrap ((IntKind.i64.wrap (((r1.p+1)-1).tdiv (r1.b.length:Int)))*53)))).tdiv 64))).tmod n),(r1.p+1)))
def S11 (r1X:SV) (gr1:Nat) (r1:l51Rd) (n:Int):Spec:=⟨[.ptg gr1 49 (sv r1X) (.l 1 eByte r1.b) [.v (vI r1.p)] [.v (vI (F11 r1 n).2)],.r (.c (.v (vI n)))],.v (vI (F11 r1 n).1),0<=r1.p/\r1.p<=1000000000/\r1.b.length<=2000⟩
theorem ok11 (r1X:SV) (gr1:Nat) (r1:l51Rd) (n:Int):(S11 r1X gr1 r1 n).ok Tryz.prog 11 :=
 fnG_ok mixed (fn:=Tryz.f11) (ct:=.seqk [(0,0)] .no (.seq (.reg [(5,.bnd)]) (.seq (.seq .no (.cond (.seq .no .no) .no)) (.seq (.reg [(4,.bnd)]) (.seq (.seq .no (.cond (.seq .no .no) .no)) (.seq .no (.seq .no (.seq .no .no)))))))) Tryz.func11 (fun (hp:0<=r1.p/\r1.p<=1000000000/\r1.b.length<=2000)=>have hpre0:=hp.1; have hpre1:=hp.2.1; have hpre2:=hp.2.2; kn r1.b fun _=>ai (iok (r1.p+1) uu0) (ifb (bif decide (n<1) then true else ((r1.b.length:Int)==0)) (fun h1=>(fun hF:(0,(r1.p+1))=(F11 r1 n)=>ai (Qg (fun r:Int×Int=>(.int .i64 r.1:Value)) hF) (ai (ai (Imp.refl (Dat.v (sv r1X))) (ai (Imp.of_eq (Qg (fun r:Int×Int=>Dat.v (vI r.2)) hF)) trivial)) trivial)) (condT h1 rfl)) (fun h1=>have _:=Qw (orF1 h1); have _:=beqF (orF2 h1); ai (iok ((r1.p+1)-1) uu0) (ifd (((r1.p+1)-1)<(r1.b.length:Int)) (fun h2 _=>ai (uu55:0<=((r1.p+1)-1)/\((r1.p+1)-1)<(r1.b.length:Int)) (ai (uu0:¬ n=0) ((fun hF:(((IntKind.i64.wrap ((r1.b.getD ((r1.p+1)-1).toNat default)%256)).tmod n),(r1.p+1))=(F11 r1 n)=>ai (Qg (fun r:Int×Int=>(.int .i64 r.1:Value)) hF) (ai (ai (Imp.refl (Dat.v (sv r1X))) (ai (Imp.of_eq (Qg (fun r:Int×Int=>Dat.v (vI r.2)) hF)) trivial)) trivial)) (condF h1 (condT h2 rfl))))) (fun h2 _=>ai (uu0:¬ (r1.b.length:Int)=0) (ai (uu55:0<=(((r1.p+1)-1).tmod (r1.b.length:Int))/\(((r1.p+1)-1).tmod (r1.b.length:Int))<(r1.b.length:Int)) (ai (uu0:¬ (r1.b.length:Int)=0) (ai (uu55:0<=((IntKind.i64.wrap ((IntKind.i64.wrap (((r1.p+1)-1)*7))+3)).tmod (r1.b.length:Int))/\((IntKind.i64.wrap ((IntKind.i64.wrap (((r1.p+1)-1)*7))+3)).tmod (r1.b.length:Int))<(r1.b.length:Int)) (ai (uu0:¬ (r1.b.length:Int)=0) (ai (uu0:¬ (64:Int)=0) (ai (uu0:¬ n=0) ((fun hF:(((bitI .xor .i64 (IntKind.i64.wrap ((IntKind.i64.wrap ((IntKind.i64.wrap ((IntKind.i64.wrap ((IntKind.i64.wrap ((r1.b.getD (((r1.p+1)-1).tmod (r1.b.length:Int)).toNat default)%256))*131))+(IntKind.i64.wrap ((IntKind.i64.wrap ((r1.b.getD ((IntKind.i64.wrap ((IntKind.i64.wrap (((r1.p+1)-1)*7))+3)).tmod (r1.b.length:Int)).toNat default)%256))*1117))))+(IntKind.i64.wrap (((r1.p+1)-1)*29))))+(IntKind.i64.wrap ((IntKind.i64.wrap (((r1.p+1)-1).tdiv (r1.b.length:Int)))*53)))) (IntKind.i64.wrap ((IntKind.i64.wrap ((IntKind.i64.wrap ((IntKind.i64.wrap ((IntKind.i64.wrap ((IntKind.i64.wrap ((r1.b.getD (((r1.p+1)-1).tmod (r1.b.length:Int)).toNat default)%256))*131))+(IntKind.i64.wrap ((IntKind.i64.wrap ((r1.b.getD ((IntKind.i64.wrap ((IntKind.i64.wrap (((r1.p+1)-1)*7))+3)).tmod (r1.b.length:Int)).toNat default)%256))*1117))))+(IntKind.i64.wrap (((r1.p+1)-1)*29))))+(IntKind.i64.wrap ((IntKind.i64.wrap (((r1.p+1)-1).tdiv (r1.b.length:Int)))*53)))).tdiv 64))).tmod n),(r1.p+1))=(F11 r1 n)=>ai (Qg (fun r:Int×Int=>(.int .i64 r.1:Value)) hF) (ai (ai (Imp.refl (Dat.v (sv r1X))) (ai (Imp.of_eq (Qg (fun r:Int×Int=>Dat.v (vI r.2)) hF)) trivial)) trivial)) (condF h1 (condF h2 rfl)))))))))))))) uu2
theorem pick_x {b1 b2 k q:Int} (h1:0<=b1/\b1<256) (h2:0<=b2/\b2<256) (hk:0<=k/\k<=2000000000) (hq:0<=q/\q<=2000000000) :
  IntKind.i64.wrap (IntKind.i64.wrap (IntKind.i64.wrap (IntKind.i64.wrap (IntKind.i64.wrap b1*131)+IntKind.i64.wrap (IntKind.i64.wrap b2*1117))+IntKind.i64.wrap (k*29))+IntKind.i64.wrap (IntKind.i64.wrap q*53))=b1*131+b2*1117+k*29+q*53:=by
 rw [wrap_of (n:=b1) uu0 uu0,wrap_of (n:=b2) uu0 uu0,wrap_of (n:=q) uu0 uu0,wrap_of (n:=b1*131) uu0 uu0,wrap_of (n:=b2*1117) uu0 uu0,wrap_of (n:=k*29) uu0 uu0,wrap_of (n:=q*53) uu0 uu0,
  wrap_of (n:=b1*131+b2*1117) uu0 uu0,wrap_of (n:=b1*131+b2*1117+k*29) uu0 uu0,wrap_of uu0 uu0]
theorem pick_y {a n:Int} (h0:0<=a) (h1:a<4611686018427387904):0<=(bitI .xor .i64 a (IntKind.i64.wrap (a.tdiv 64))).tmod n/\(1<=n->(bitI .xor .i64 a (IntKind.i64.wrap (a.tdiv 64))).tmod n<n):=by
 have e:a.tdiv 64=a / 64:=Int.tdiv_eq_ediv_of_nonneg h0
 rw [e,wrap_of uu0 uu0]
 exact tmod_in (xor_in h0 h1 uu0 uu0)
theorem tdiv_in {k n:Int} (h0:0<=k) (h1:0<=n):0<=k.tdiv n/\k.tdiv n<=k:=by
 rw [Int.tdiv_eq_ediv_of_nonneg h0]
 exact ⟨Int.ediv_nonneg h0 h1,Int.ediv_le_self _ h0⟩
theorem pick_p (r1:l51Rd) (n:Int):(F11 r1 n).2=r1.p+1:=by
 unfold F11
 cases (bif decide (n<1) then true else ((r1.b.length:Int)==0))
 ·simp only [Qh]
  cases decide (((r1.p+1)-1)<(r1.b.length:Int)) <;> rfl
 ·rfl
theorem pick_in (r1:l51Rd) (n:Int) (h0:0<=r1.p) (h1:r1.p<=1000000000):0<=(F11 r1 n).1/\(1<=n->(F11 r1 n).1<n)/\(F11 r1 n).2=r1.p+1:=by
 unfold F11
 cases h2:(bif decide (n<1) then true else ((r1.b.length:Int)==0)) with
 | true=>simp only [Qc]; exact ⟨by omega,fun h=>by omega,trivial⟩
 | false =>
  simp only [Qh]
  cases h3:decide (((r1.p+1)-1)<(r1.b.length:Int)) with
  | true =>
   simp only [Qc]
   have h4:0<=IntKind.i64.wrap (r1.b.getD ((r1.p+1)-1).toNat default%256):=by rw [wrap_of uu0 uu0]; omega
   have:=tmod_in (n:=n) h4
   exact ⟨this.1,this.2,trivial⟩
  | false =>
   simp only [Qh]
   have hq:=tdiv_in (k:=(r1.p+1)-1) (n:=(r1.b.length:Int)) uu0 uu0
   rw [pick_x uu0 uu0 uu0 uu0]
   have:=pick_y (n:=n) (a:=r1.b.getD (((r1.p+1)-1).tmod (r1.b.length:Int)).toNat default%256*131+r1.b.getD ((IntKind.i64.wrap ((IntKind.i64.wrap (((r1.p+1)-1)*7))+3)).tmod (r1.b.length:Int)).toNat default%256*1117+(r1.p+1-1)*29+(r1.p+1-1).tdiv (r1.b.length:Int)*53) uu0 uu0
   exact ⟨this.1,this.2,trivial⟩
theorem open_b (Ua:SV) (code:List Int):(F8 Ua code).1.b.length<=2000/\(F8 Ua code).1.p=0:=by
 unfold F8
 by_cases h:(code.length:Int)>2000
 ·rw [Qs h,Qc]; exact ⟨by simp only [R4]; omega,rfl⟩
 ·rw [Qq h,Qh]; exact ⟨by simp only; omega,rfl⟩
theorem gd8 (Ua:SV) (code:List Int):GD (sv Ua) (.l 1 eByte code) (sv (F8 Ua code).2) (.l 1 eByte (F8 Ua code).1.b):=by
 unfold F8
 intro S w h
 by_cases hl:(code.length:Int)>2000
 ·rw [Qs hl,Qc]
  obtain ⟨a,c,e1,e2,e3,e4⟩:=h
  simp only [sv,Value.slice.injEq] at e1
  obtain ⟨rfl,-,rfl⟩:=e1
  show RdV S w (.l 1 eByte (code.take 2000)) (.slice (if Ua.c=0 then Ua.a else Ua.a.map (·.add (0*1))) (code.take 2000).length (Ua.c-0))
  have hz:(if Ua.c=0 then Ua.a else Ua.a.map (·.add (0*1)))=Ua.a:=by
   by_cases hc:Ua.c=0
   ·rw [if_pos hc]
   ·rw [if_neg hc]
    cases ha:Ua.a with
    | none=>rfl
    | some a =>
     obtain ⟨x,hx⟩:∃ x,code[0]?=some x:=⟨_,Qe uu0⟩
     obtain ⟨f1,_⟩:=e4 0 x hx
     rw [ha] at f1
     rw [f1]
     simp [Addr.add_lit,ab,ao]
  rw [hz,Nat.sub_zero]
  refine ⟨_,_,rfl,by simp only [R4]; omega,by simp only [R4]; omega,fun i y hy=>?_⟩
  rw [Rg] at hy
  split at hy
  ·exact e4 i y hy
  ·cases hy
 ·rw [Qq hl,Qh]; exact h
theorem kc11l (X_:SV) (b_:List Int) (pp_:Int) (n:Int) {K_:Prop} (p0_:0<=pp_) (p1_:pp_<=1000000000) (p2_:b_.length<=2000) (q0_:0<=pp_) (q1_:pp_<=1000000000) (k_:(0<=(F11 ⟨b_,pp_⟩ n).1/\(1<=n->(F11 ⟨b_,pp_⟩ n).1<n)/\(F11 ⟨b_,pp_⟩ n).2=pp_+1)->K_):(0<=pp_/\pp_<=1000000000/\b_.length<=2000)/\(sv X_=sv X_)/\(Imp (.l 1 eByte b_) (.l 1 eByte b_))/\(Imps ([.v (vI pp_)]) ([.v (vI pp_)]))/\(Imp (.v (vI n)) (.v (vI n)))/\K_:=⟨⟨p0_,p1_,p2_⟩,rfl,Imp.refl _,Imps.refl _,Imp.refl _,k_ (pick_in ⟨b_,pp_⟩ n q0_ q1_)⟩
abbrev kh11l (X_:SV) (g_:Nat) (b_:List Int) (pp_:Int) (n:Int):Hint true Tryz.prog:=.call 11 (S11 X_ g_ (⟨b_,pp_⟩:l51Rd) n) (ok11 X_ g_ (⟨b_,pp_⟩:l51Rd) n) none
def F29 (r1:l51Rd) (list:List Za):Za×Int :=
 ((list.getD (F11 ⟨r1.b,r1.p⟩ (list.length:Int)).1.toNat default),(F11 ⟨r1.b,r1.p⟩ (list.length:Int)).2)
def S29 (r1X:SV) (gr1:Nat) (r1:l51Rd) (list:List Za):Spec:=⟨[.ptg gr1 49 (sv r1X) (.l 1 eByte r1.b) [.v (vI r1.p)] [.v (vI (F29 r1 list).2)],.r (.c (.l 1 eStr list))],.v (.string (F29 r1 list).1),0<=r1.p/\r1.p<=1000000000/\r1.b.length<=2000/\1<=list.length/\(∀ x∈list,x.size<=4000)⟩
theorem ok29 (r1X:SV) (gr1:Nat) (r1:l51Rd) (list:List Za):(S29 r1X gr1 r1 list).ok Tryz.prog 29 :=
 fnG_ok mixed (fn:=Tryz.f29) (ct:=.seqk [(0,0),(1,0)] .no (.seq (.reg [(4,kh11l r1X 0 r1.b r1.p (list.length:Int))]) .no)) Tryz.func29 (fun (hp:0<=r1.p/\r1.p<=1000000000/\r1.b.length<=2000/\1<=list.length/\(∀ x∈list,x.size<=4000))=>have hpre0:=hp.1; have hpre1:=hp.2.1; have hpre2:=hp.2.2.1; have hpre3:=hp.2.2.2.1; have hpre4:=hp.2.2.2.2; kn r1.b fun _=>kn list fun _=>kc11l r1X r1.b r1.p (list.length:Int) uu0 uu0 uu0 uu0 uu0 (fun gv1=>ai (uu0:ib (F11 ⟨r1.b,r1.p⟩ (list.length:Int)).1 list) ((fun hF:((list.getD (F11 ⟨r1.b,r1.p⟩ (list.length:Int)).1.toNat default),(F11 ⟨r1.b,r1.p⟩ (list.length:Int)).2)=(F29 r1 list)=>ai (Qg (fun r:Za×Int=>(.string r.1:Value)) hF) (ai (ai (Imp.refl (Dat.v (sv r1X))) (ai (Imp.of_eq (Qg (fun r:Za×Int=>Dat.v (vI r.2)) hF)) trivial)) trivial)) rfl))) uu2
theorem of_p (r1:l51Rd) (list:List Za):(F29 r1 list).2=r1.p+1:=by
 unfold F29
 exact pick_p _ _
theorem of_le {n:Nat} (r1:l51Rd) (list:List Za) (h:∀ x∈list,x.size<=n):(F29 r1 list).1.size<=n:=by
 unfold F29
 exact getD_sz h _
theorem of_q (r1:l51Rd) (list:List Za) (h0:0<=r1.p) (h1:r1.p<=1000000000) (h:∀ x∈list,x.size<=4000):(F29 r1 list).1.size<=4000/\(F29 r1 list).2=r1.p+1:=⟨of_le r1 list h,of_p r1 list⟩
theorem kc29l (X_:SV) (b_:List Int) (pp_:Int) (list:List Za) {K_:Prop} (p0_:0<=pp_) (p1_:pp_<=1000000000) (p2_:b_.length<=2000) (p3_:1<=list.length) (p4_:∀ x∈list,x.size<=4000) (q0_:0<=pp_) (q1_:pp_<=1000000000) (q2_:∀ x∈list,x.size<=4000) (k_:((F29 ⟨b_,pp_⟩ list).1.size<=4000/\(F29 ⟨b_,pp_⟩ list).2=pp_+1)->K_):(0<=pp_/\pp_<=1000000000/\b_.length<=2000/\1<=list.length/\(∀ x∈list,x.size<=4000))/\(sv X_=sv X_)/\(Imp (.l 1 eByte b_) (.l 1 eByte b_))/\(Imps ([.v (vI pp_)]) ([.v (vI pp_)]))/\(Imp (.l 1 eStr list) (.l 1 eStr list))/\K_:=⟨⟨p0_,p1_,p2_,p3_,p4_⟩,rfl,Imp.refl _,Imps.refl _,Imp.refl _,k_ (of_q (⟨b_,pp_⟩:l51Rd) list q0_ q1_ q2_)⟩
abbrev kh29l (X_:SV) (g_:Nat) (b_:List Int) (pp_:Int) (list:List Za):Hint true Tryz.prog:=.call 29 (S29 X_ g_ (⟨b_,pp_⟩:l51Rd) list) (ok29 X_ g_ (⟨b_,pp_⟩:l51Rd) list) none
abbrev w20_:Za:=⟨#[49,48,46,48,47,49,54]⟩
abbrev w21_:Za:=⟨#[49,48,46,49,50,56,47,57]⟩
abbrev w22_:Za:=⟨#[49,49,46,48,47,56]⟩
abbrev w23_:Za:=⟨#[48,46,48,47,48]⟩
abbrev w24_:Za:=⟨#[49,49,46,52,47,49,54]⟩
abbrev w25_:Za:=⟨#[50,48,48,46,48,47,49,53]⟩
abbrev w26_:Za:=⟨#[50,48,48,46,48,47,57]⟩
def F40 (r1:l51Rd):Za×Int :=
 ((F29 ⟨r1.b,r1.p⟩ ([Z1,(⟨#[49,48,46,48,47,49,54]⟩:Za),(⟨#[49,48,46,49,50,56,47,57]⟩:Za),(⟨#[49,49,46,48,47,56]⟩:Za),(⟨#[48,46,48,47,48]⟩:Za),(⟨#[49,49,46,52,47,49,54]⟩:Za),(⟨#[50,48,48,46,48,47,49,53]⟩:Za),(⟨#[50,48,48,46,48,47,57]⟩:Za)]:List Za)).1,(F29 ⟨r1.b,r1.p⟩ ([Z1,(⟨#[49,48,46,48,47,49,54]⟩:Za),(⟨#[49,48,46,49,50,56,47,57]⟩:Za),(⟨#[49,49,46,48,47,56]⟩:Za),(⟨#[48,46,48,47,48]⟩:Za),(⟨#[49,49,46,52,47,49,54]⟩:Za),(⟨#[50,48,48,46,48,47,49,53]⟩:Za),(⟨#[50,48,48,46,48,47,57]⟩:Za)]:List Za)).2)
def S40 (r1X:SV) (gr1:Nat) (r1:l51Rd):Spec:=⟨[.ptg gr1 49 (sv r1X) (.l 1 eByte r1.b) [.v (vI r1.p)] [.v (vI (F40 r1).2)]],.v (.string (F40 r1).1),0<=r1.p/\r1.p<=1000000000/\r1.b.length<=2000⟩
abbrev X9:List Za:=[Z1,w20_,w21_,w22_,w23_,w24_,w25_,w26_]
theorem ok40 (r1X:SV) (gr1:Nat) (r1:l51Rd):(S40 r1X gr1 r1).ok Tryz.prog 40 :=
 fnG_ok mixed (fn:=Tryz.f40) (ct:=.seqk [(0,0)] .no (.seq (.reg [(1,.dat (.l 1 eStr X9)),(2,kh29l r1X 0 r1.b r1.p X9)]) .no)) Tryz.func40 (fun (hp:0<=r1.p/\r1.p<=1000000000/\r1.b.length<=2000)=>have hpre0:=hp.1; have hpre1:=hp.2.1; have hpre2:=hp.2.2; kn r1.b fun _=>ai (bokr 1 eStr X9 fun _=>rfl) (kc29l r1X r1.b r1.p X9 uu15 uu15 uu15 uu15 uu15 uu15 uu15 uu15 (fun gv1=>(fun hF:((F29 ⟨r1.b,r1.p⟩ X9).1,(F29 ⟨r1.b,r1.p⟩ X9).2)=(F40 r1)=>ai (Qg (fun r:Za×Int=>(.string r.1:Value)) hF) (ai (ai (Imp.refl (Dat.v (sv r1X))) (ai (Imp.of_eq (Qg (fun r:Za×Int=>Dat.v (vI r.2)) hF)) trivial)) trivial)) rfl))) uu2
abbrev w28_:Za:=⟨#[49,48,46,50]⟩
abbrev w31_:Za:=⟨#[48,46,48]⟩
abbrev w32_:Za:=⟨#[50,53,53,46,50,53,53]⟩
def F41 (r1:l51Rd):Za×Int :=
 ((F29 ⟨r1.b,r1.p⟩ ([Z5,(⟨#[49,48,46,50]⟩:Za),Z6,Z7,(⟨#[48,46,48]⟩:Za),(⟨#[50,53,53,46,50,53,53]⟩:Za)]:List Za)).1,(F29 ⟨r1.b,r1.p⟩ ([Z5,(⟨#[49,48,46,50]⟩:Za),Z6,Z7,(⟨#[48,46,48]⟩:Za),(⟨#[50,53,53,46,50,53,53]⟩:Za)]:List Za)).2)
def S41 (r1X:SV) (gr1:Nat) (r1:l51Rd):Spec:=⟨[.ptg gr1 49 (sv r1X) (.l 1 eByte r1.b) [.v (vI r1.p)] [.v (vI (F41 r1).2)]],.v (.string (F41 r1).1),0<=r1.p/\r1.p<=1000000000/\r1.b.length<=2000⟩
abbrev Wa:List Za:=[Z5,w28_,Z6,Z7,w31_,w32_]
theorem ok41 (r1X:SV) (gr1:Nat) (r1:l51Rd):(S41 r1X gr1 r1).ok Tryz.prog 41 :=
 fnG_ok mixed (fn:=Tryz.f41) (ct:=.seqk [(0,0)] .no (.seq (.reg [(1,.dat (.l 1 eStr Wa)),(2,kh29l r1X 0 r1.b r1.p Wa)]) .no)) Tryz.func41 (fun (hp:0<=r1.p/\r1.p<=1000000000/\r1.b.length<=2000)=>have hpre0:=hp.1; have hpre1:=hp.2.1; have hpre2:=hp.2.2; kn r1.b fun _=>ai (bokr 1 eStr Wa fun _=>rfl) (kc29l r1X r1.b r1.p Wa uu15 uu15 uu15 uu15 uu15 uu15 uu15 uu15 (fun gv1=>(fun hF:((F29 ⟨r1.b,r1.p⟩ Wa).1,(F29 ⟨r1.b,r1.p⟩ Wa).2)=(F41 r1)=>ai (Qg (fun r:Za×Int=>(.string r.1:Value)) hF) (ai (ai (Imp.refl (Dat.v (sv r1X))) (ai (Imp.of_eq (Qg (fun r:Za×Int=>Dat.v (vI r.2)) hF)) trivial)) trivial)) rfl))) uu2
theorem prefix_q (r1:l51Rd) (h0:0<=r1.p) (h1:r1.p<=1000000000):(F40 r1).1.size<=80/\(F40 r1).2=r1.p+1:=by
 unfold F40
 exact ⟨of_le _ _ uu1,of_p _ _⟩
theorem addr_q (r1:l51Rd) (h0:0<=r1.p) (h1:r1.p<=1000000000):(F41 r1).1.size<=80/\(F41 r1).2=r1.p+1:=by
 unfold F41
 exact ⟨of_le _ _ uu1,of_p _ _⟩
theorem prefix_le (r1:l51Rd):(F40 r1).1.size<=80:=by
 unfold F40
 exact of_le _ _ uu1
theorem addr_le (r1:l51Rd):(F41 r1).1.size<=80:=by
 unfold F41
 exact of_le _ _ uu1
theorem prefix_p (r1:l51Rd):(F40 r1).2=r1.p+1:=by
 unfold F40
 exact of_p _ _
theorem addr_p (r1:l51Rd):(F41 r1).2=r1.p+1:=by
 unfold F41
 exact of_p _ _
theorem app_le {x y:Za} {a b:Nat} (hx:x.size<=a) (hy:y.size<=b):(x++y).size<=a+b:=by
 rw [ByteArray.size_append]; omega
theorem lit_le (a:Array UInt8):(⟨a⟩:Za).size<=a.size:=Qp _
theorem condS_le {c:Bool} {x y:Za} {a b:Nat} (hx:x.size<=a) (hy:y.size<=b):(bif c then x else y).size<=a+b:=by
 cases c
 ·show y.size<=a+b; omega
 ·show x.size<=a+b; omega
theorem sumLe {x y:Za} {a b:Nat} (hx:x.size<=a) (hy:y.size<=b) (h:a+b<=1000000000):((x.size+y.size:Nat):Int)<=9223372036854775807:=by omega
theorem szLe {s:Za} {n m:Nat} (h:s.size<=n) (hn:n<=m):s.size<=m:=Q0 h hn
theorem cond_P {α:Type} {P:α->Prop} {c:Bool} {x y:α} (hx:P x) (hy:P y):P (bif c then x else y):=by
 cases c
 ·exact hy
 ·exact hx
theorem kc40l (X_:SV) (b_:List Int) (pp_:Int) {K_:Prop} (p0_:0<=pp_) (p1_:pp_<=1000000000) (p2_:b_.length<=2000) (q0_:0<=pp_) (q1_:pp_<=1000000000) (k_:((F40 ⟨b_,pp_⟩).1.size<=80/\(F40 ⟨b_,pp_⟩).2=pp_+1)->K_):(0<=pp_/\pp_<=1000000000/\b_.length<=2000)/\(sv X_=sv X_)/\(Imp (.l 1 eByte b_) (.l 1 eByte b_))/\(Imps ([.v (vI pp_)]) ([.v (vI pp_)]))/\K_:=⟨⟨p0_,p1_,p2_⟩,rfl,Imp.refl _,Imps.refl _,k_ (prefix_q (⟨b_,pp_⟩:l51Rd) q0_ q1_)⟩
abbrev kh40l (X_:SV) (g_:Nat) (b_:List Int) (pp_:Int):Hint true Tryz.prog:=.call 40 (S40 X_ g_ (⟨b_,pp_⟩:l51Rd)) (ok40 X_ g_ (⟨b_,pp_⟩:l51Rd)) none
theorem kc41l (X_:SV) (b_:List Int) (pp_:Int) {K_:Prop} (p0_:0<=pp_) (p1_:pp_<=1000000000) (p2_:b_.length<=2000) (q0_:0<=pp_) (q1_:pp_<=1000000000) (k_:((F41 ⟨b_,pp_⟩).1.size<=80/\(F41 ⟨b_,pp_⟩).2=pp_+1)->K_):(0<=pp_/\pp_<=1000000000/\b_.length<=2000)/\(sv X_=sv X_)/\(Imp (.l 1 eByte b_) (.l 1 eByte b_))/\(Imps ([.v (vI pp_)]) ([.v (vI pp_)]))/\K_:=⟨⟨p0_,p1_,p2_⟩,rfl,Imp.refl _,Imps.refl _,k_ (addr_q (⟨b_,pp_⟩:l51Rd) q0_ q1_)⟩
abbrev kh41l (X_:SV) (g_:Nat) (b_:List Int) (pp_:Int):Hint true Tryz.prog:=.call 41 (S41 X_ g_ (⟨b_,pp_⟩:l51Rd)) (ok41 X_ g_ (⟨b_,pp_⟩:l51Rd)) none
abbrev w35_:Za:=⟨#[52,48,32,52,51]⟩
abbrev w36_:Za:=⟨#[50,50,32,50,50]⟩
abbrev w37_:Za:=⟨#[57,32,56]⟩
abbrev w38_:Za:=⟨#[49,32,54,53,53,51,53]⟩
abbrev w39_:Za:=⟨#[116,101,114,110]⟩
abbrev w40_:Za:=⟨#[116,50]⟩
abbrev w41_:Za:=⟨#[97,45,98]⟩
abbrev w52_:Za:=⟨#[50]⟩
abbrev w62_:Za:=⟨#[110,97,116,32]⟩
abbrev w63_:Za:=⟨#[104,111,115,116,32]⟩
abbrev w64_:Za:=⟨#[117,115,101,114,32]⟩
abbrev w65_:Za:=⟨#[32,105,110,32]⟩
abbrev w66_:Za:=⟨#[112,111,114,116,32]⟩
abbrev w67_:Za:=⟨#[114,117,108,101,32]⟩
abbrev w68_:Za:=⟨#[114,111,117,116,101,32]⟩
abbrev w69_:Za:=⟨#[112,101,101,114,32]⟩
abbrev w70_:Za:=⟨#[100,111,111,114,32]⟩
def F24_j0 (r1:l51Rd):Lp Bool (Za×Int) :=
 bif ((F11 ⟨r1.b,r1.p⟩ 10).1==2) then (.done ((F11 ⟨r1.b,r1.p⟩ 10).1==2)) else (.done ((F11 ⟨r1.b,r1.p⟩ 10).1==3))
abbrev Xl:List Za:=[Zv,Zw]
def F24_j1 (r1:l51Rd) (v39:Bool):Lp (Za×Int) (Za×Int) :=
 bif ((F11 ⟨r1.b,(F11 ⟨r1.b,r1.p⟩ 10).2⟩ 3).1==0) then (.done (((⟨#[32,105,110,32]⟩:Za)++(F29 ⟨r1.b,(F11 ⟨r1.b,(F11 ⟨r1.b,r1.p⟩ 10).2⟩ 3).2⟩ Xl).1),(F29 ⟨r1.b,(F11 ⟨r1.b,(F11 ⟨r1.b,r1.p⟩ 10).2⟩ 3).2⟩ Xl).2)) else (.done (Zc,(F11 ⟨r1.b,(F11 ⟨r1.b,r1.p⟩ 10).2⟩ 3).2))
abbrev Xs:List Za:=[Z1,Z8,Z9]
abbrev Xt:List Za:=[Z7,Z6,Z5]
abbrev Xu:List Za:=[Yb,Yc,Yd,Ye]
abbrev X3:List Za:=[Zt,Zu,Zq,Yw,Zk,Yx]
abbrev Xo:List Za:=[Zo,Z2,Zx,Z3]
abbrev X4:List Za:=[Zo,Zg,Zi]
abbrev Xr:List Za:=[Zg,Z4]
abbrev Xv:List Za:=[Zi,Ya]
abbrev Xm:List Za:=[Zg,Zi]
abbrev Xq:List Za:=[Zl,Zy,Zz]
abbrev Xw:List Za:=[Zl,Zg]
def F24 (r1:l51Rd):Za×Int :=
 bif ((F11 ⟨r1.b,r1.p⟩ 10).1==9) then (((((((⟨#[110,97,116,32]⟩:Za)++(F29 ⟨r1.b,(F11 ⟨r1.b,r1.p⟩ 10).2⟩ Xs).1)++Zb)++(F29 ⟨r1.b,(F29 ⟨r1.b,(F11 ⟨r1.b,r1.p⟩ 10).2⟩ Xs).2⟩ Xt).1)++Zb)++(F29 ⟨r1.b,(F29 ⟨r1.b,(F29 ⟨r1.b,(F11 ⟨r1.b,r1.p⟩ 10).2⟩ Xs).2⟩ Xt).2⟩ ([(⟨#[52,48,32,52,51]⟩:Za),(⟨#[50,50,32,50,50]⟩:Za),(⟨#[57,32,56]⟩:Za),(⟨#[49,32,54,53,53,51,53]⟩:Za)]:List Za)).1),(F29 ⟨r1.b,(F29 ⟨r1.b,(F29 ⟨r1.b,(F11 ⟨r1.b,r1.p⟩ 10).2⟩ Xs).2⟩ Xt).2⟩ ([(⟨#[52,48,32,52,51]⟩:Za),(⟨#[50,50,32,50,50]⟩:Za),(⟨#[57,32,56]⟩:Za),(⟨#[49,32,54,53,53,51,53]⟩:Za)]:List Za)).2) else (bif ((F11 ⟨r1.b,r1.p⟩ 10).1==0) then (((⟨#[104,111,115,116,32]⟩:Za)++(F29 ⟨r1.b,(F11 ⟨r1.b,r1.p⟩ 10).2⟩ ([(⟨#[116,101,114,110]⟩:Za),(⟨#[116,50]⟩:Za),(⟨#[97,45,98]⟩:Za)]:List Za)).1),(F29 ⟨r1.b,(F11 ⟨r1.b,r1.p⟩ 10).2⟩ ([(⟨#[116,101,114,110]⟩:Za),(⟨#[116,50]⟩:Za),(⟨#[97,45,98]⟩:Za)]:List Za)).2) else (bif ((F11 ⟨r1.b,r1.p⟩ 10).1==1) then (((((⟨#[117,115,101,114,32]⟩:Za)++(F29 ⟨r1.b,(F11 ⟨r1.b,r1.p⟩ 10).2⟩ Xu).1)++Zb)++(F29 ⟨r1.b,(F29 ⟨r1.b,(F11 ⟨r1.b,r1.p⟩ 10).2⟩ Xu).2⟩ X3).1),(F29 ⟨r1.b,(F29 ⟨r1.b,(F11 ⟨r1.b,r1.p⟩ 10).2⟩ Xu).2⟩ X3).2) else ((F24_j0 r1).fin (fun r=>r) (fun v39=>bif v39 then ((F24_j1 r1 v39).fin (fun r=>r) (fun (tail,r2)=>((((((⟨#[112,111,114,116,32]⟩:Za)++(F29 ⟨r1.b,r2⟩ ([Zo,Zg,(⟨#[50]⟩:Za),Zi]:List Za)).1)++Zb)++(F40 ⟨r1.b,(F29 ⟨r1.b,r2⟩ ([Zo,Zg,(⟨#[50]⟩:Za),Zi]:List Za)).2⟩).1)++tail),(F40 ⟨r1.b,(F29 ⟨r1.b,r2⟩ ([Zo,Zg,(⟨#[50]⟩:Za),Zi]:List Za)).2⟩).2))) else (bif ((F11 ⟨r1.b,r1.p⟩ 10).1==4) then (((((((((((((⟨#[114,117,108,101,32]⟩:Za)++(F29 ⟨r1.b,(F11 ⟨r1.b,r1.p⟩ 10).2⟩ Xl).1)++Zb)++(F29 ⟨r1.b,(F29 ⟨r1.b,(F11 ⟨r1.b,r1.p⟩ 10).2⟩ Xl).2⟩ Xo).1)++Zb)++(F29 ⟨r1.b,(F29 ⟨r1.b,(F29 ⟨r1.b,(F11 ⟨r1.b,r1.p⟩ 10).2⟩ Xl).2⟩ Xo).2⟩ Xp).1)++Zb)++(F40 ⟨r1.b,(F29 ⟨r1.b,(F29 ⟨r1.b,(F29 ⟨r1.b,(F11 ⟨r1.b,r1.p⟩ 10).2⟩ Xl).2⟩ Xo).2⟩ Xp).2⟩).1)++Zb)++(F40 ⟨r1.b,(F40 ⟨r1.b,(F29 ⟨r1.b,(F29 ⟨r1.b,(F29 ⟨r1.b,(F11 ⟨r1.b,r1.p⟩ 10).2⟩ Xl).2⟩ Xo).2⟩ Xp).2⟩).2⟩).1)++Zb)++(F29 ⟨r1.b,(F40 ⟨r1.b,(F40 ⟨r1.b,(F29 ⟨r1.b,(F29 ⟨r1.b,(F29 ⟨r1.b,(F11 ⟨r1.b,r1.p⟩ 10).2⟩ Xl).2⟩ Xo).2⟩ Xp).2⟩).2⟩).2⟩ X4).1),(F29 ⟨r1.b,(F40 ⟨r1.b,(F40 ⟨r1.b,(F29 ⟨r1.b,(F29 ⟨r1.b,(F29 ⟨r1.b,(F11 ⟨r1.b,r1.p⟩ 10).2⟩ Xl).2⟩ Xo).2⟩ Xp).2⟩).2⟩).2⟩ X4).2) else (bif ((F11 ⟨r1.b,r1.p⟩ 10).1==5) then (bif ((F11 ⟨r1.b,r1.p⟩ 10).1==5) then (((((⟨#[114,111,117,116,101,32]⟩:Za)++(F40 ⟨r1.b,(F11 ⟨r1.b,r1.p⟩ 10).2⟩).1)++Zb)++(F41 ⟨r1.b,(F40 ⟨r1.b,(F11 ⟨r1.b,r1.p⟩ 10).2⟩).2⟩).1),(F41 ⟨r1.b,(F40 ⟨r1.b,(F11 ⟨r1.b,r1.p⟩ 10).2⟩).2⟩).2) else (bif ((F11 ⟨r1.b,r1.p⟩ 10).1==7) then (((((((⟨#[112,101,101,114,32]⟩:Za)++(F41 ⟨r1.b,(F11 ⟨r1.b,r1.p⟩ 10).2⟩).1)++Zb)++(F29 ⟨r1.b,(F41 ⟨r1.b,(F11 ⟨r1.b,r1.p⟩ 10).2⟩).2⟩ Xr).1)++Zb)++(F29 ⟨r1.b,(F29 ⟨r1.b,(F41 ⟨r1.b,(F11 ⟨r1.b,r1.p⟩ 10).2⟩).2⟩ Xr).2⟩ Xv).1),(F29 ⟨r1.b,(F29 ⟨r1.b,(F41 ⟨r1.b,(F11 ⟨r1.b,r1.p⟩ 10).2⟩).2⟩ Xr).2⟩ Xv).2) else (((((((((⟨#[100,111,111,114,32]⟩:Za)++(F29 ⟨r1.b,(F11 ⟨r1.b,r1.p⟩ 10).2⟩ Xm).1)++Zb)++(F29 ⟨r1.b,(F29 ⟨r1.b,(F11 ⟨r1.b,r1.p⟩ 10).2⟩ Xm).2⟩ Xq).1)++Zb)++(F41 ⟨r1.b,(F29 ⟨r1.b,(F29 ⟨r1.b,(F11 ⟨r1.b,r1.p⟩ 10).2⟩ Xm).2⟩ Xq).2⟩).1)++Zb)++(F29 ⟨r1.b,(F41 ⟨r1.b,(F29 ⟨r1.b,(F29 ⟨r1.b,(F11 ⟨r1.b,r1.p⟩ 10).2⟩ Xm).2⟩ Xq).2⟩).2⟩ Xw).1),(F29 ⟨r1.b,(F41 ⟨r1.b,(F29 ⟨r1.b,(F29 ⟨r1.b,(F11 ⟨r1.b,r1.p⟩ 10).2⟩ Xm).2⟩ Xq).2⟩).2⟩ Xw).2))) else (bif ((F11 ⟨r1.b,r1.p⟩ 10).1==6) then (((((⟨#[114,111,117,116,101,32]⟩:Za)++(F40 ⟨r1.b,(F11 ⟨r1.b,r1.p⟩ 10).2⟩).1)++Zb)++(F41 ⟨r1.b,(F40 ⟨r1.b,(F11 ⟨r1.b,r1.p⟩ 10).2⟩).2⟩).1),(F41 ⟨r1.b,(F40 ⟨r1.b,(F11 ⟨r1.b,r1.p⟩ 10).2⟩).2⟩).2) else (bif ((F11 ⟨r1.b,r1.p⟩ 10).1==7) then (((((((⟨#[112,101,101,114,32]⟩:Za)++(F41 ⟨r1.b,(F11 ⟨r1.b,r1.p⟩ 10).2⟩).1)++Zb)++(F29 ⟨r1.b,(F41 ⟨r1.b,(F11 ⟨r1.b,r1.p⟩ 10).2⟩).2⟩ Xr).1)++Zb)++(F29 ⟨r1.b,(F29 ⟨r1.b,(F41 ⟨r1.b,(F11 ⟨r1.b,r1.p⟩ 10).2⟩).2⟩ Xr).2⟩ Xv).1),(F29 ⟨r1.b,(F29 ⟨r1.b,(F41 ⟨r1.b,(F11 ⟨r1.b,r1.p⟩ 10).2⟩).2⟩ Xr).2⟩ Xv).2) else (((((((((⟨#[100,111,111,114,32]⟩:Za)++(F29 ⟨r1.b,(F11 ⟨r1.b,r1.p⟩ 10).2⟩ Xm).1)++Zb)++(F29 ⟨r1.b,(F29 ⟨r1.b,(F11 ⟨r1.b,r1.p⟩ 10).2⟩ Xm).2⟩ Xq).1)++Zb)++(F41 ⟨r1.b,(F29 ⟨r1.b,(F29 ⟨r1.b,(F11 ⟨r1.b,r1.p⟩ 10).2⟩ Xm).2⟩ Xq).2⟩).1)++Zb)++(F29 ⟨r1.b,(F41 ⟨r1.b,(F29 ⟨r1.b,(F29 ⟨r1.b,(F11 ⟨r1.b,r1.p⟩ 10).2⟩ Xm).2⟩ Xq).2⟩).2⟩ Xw).1),(F29 ⟨r1.b,(F41 ⟨r1.b,(F29 ⟨r1.b,(F29 ⟨r1.b,(F11 ⟨r1.b,r1.p⟩ 10).2⟩ Xm).2⟩ Xq).2⟩).2⟩ Xw).2)))))))))
abbrev jJ24_0 (r1X:SV) (r1:l51Rd) (j:Bool):Prop:=(F24_j0 r1)=Lp.done j
theorem jn24_0 (r1X:SV) (r1:l51Rd) (v39:Bool) (e:(F24_j0 r1)=Lp.done v39):∃ j:Bool,((.int .i64 (F11 ⟨r1.b,r1.p⟩ 10).1:Value)=.int .i64 (F11 ⟨r1.b,r1.p⟩ 10).1)/\((.bool v39:Value)=.bool j)/\((.int .i64 (F11 ⟨r1.b,r1.p⟩ 10).2:Value)=.int .i64 (F11 ⟨r1.b,r1.p⟩ 10).2)/\((sv r1X:Value)=sv r1X)/\(Imp (.l 1 eByte r1.b) (.l 1 eByte r1.b))/\jJ24_0 r1X r1 j:=⟨v39,rfl,rfl,rfl,rfl,Imp.refl _,e⟩
abbrev jI24_1 (r1X:SV) (r1:l51Rd) (v39:Bool) (tail:Za) (r2:Int):Prop:=tail.size<=100/\0<=r2/\r2<=r1.p+3
abbrev jJ24_1 (r1X:SV) (r1:l51Rd) (v39:Bool) (j:Za×Int):Prop:=(F24_j1 r1 v39)=Lp.done j/\jI24_1 r1X r1 v39 j.1 j.2
theorem jn24_1 (r1X:SV) (r1:l51Rd) (v39:Bool) (tail:Za) (r2:Int) (e:(F24_j1 r1 v39)=Lp.done (tail,r2)) (h:jI24_1 r1X r1 v39 tail r2):∃ j:Za×Int,((.string tail:Value)=.string j.1)/\((.int .i64 r2:Value)=.int .i64 j.2)/\((sv r1X:Value)=sv r1X)/\(Imp (.l 1 eByte r1.b) (.l 1 eByte r1.b))/\jJ24_1 r1X r1 v39 j:=⟨(tail,r2),rfl,rfl,rfl,Imp.refl _,e,h⟩
def S24 (r1X:SV) (gr1:Nat) (r1:l51Rd):Spec:=⟨[.ptg gr1 49 (sv r1X) (.l 1 eByte r1.b) [.v (vI r1.p)] [.v (vI (F24 r1).2)]],.v (.string (F24 r1).1),0<=r1.p/\r1.p<=900000000/\r1.b.length<=2000⟩
abbrev X7:List Za:=[w35_,w36_,w37_,w38_]
abbrev X8:List Za:=[w39_,w40_,w41_]
abbrev Xy:List Za:=[Zo,Zg,w52_,Zi]
set_option maxHeartbeats 4000000 in
theorem ok24 (r1X:SV) (gr1:Nat) (r1:l51Rd):(S24 r1X gr1 r1).ok Tryz.prog 24 :=
 fnG_ok mixed (fn:=Tryz.f24) (ct:=.seqk [(0,0)] .no (.seq (.seq (.reg [(1,kh11l r1X 0 r1.b r1.p 10)]) (.blk (.seq .no (.cond (.seq (.reg [(1,.dat (.l 1 eStr Xs)),(2,kh29l r1X 0 r1.b (F11 ⟨r1.b,r1.p⟩ 10).2 Xs),(6,.dat (.l 1 eStr Xt)),(7,kh29l r1X 0 r1.b (F29 ⟨r1.b,(F11 ⟨r1.b,r1.p⟩ 10).2⟩ Xs).2 Xt),(11,.dat (.l 1 eStr X7)),(12,kh29l r1X 0 r1.b (F29 ⟨r1.b,(F29 ⟨r1.b,(F11 ⟨r1.b,r1.p⟩ 10).2⟩ Xs).2⟩ Xt).2 X7)]) .no) (.seq .no (.cond (.seq (.reg [(1,.dat (.l 1 eStr X8)),(2,kh29l r1X 0 r1.b (F11 ⟨r1.b,r1.p⟩ 10).2 X8)]) .no) (.seq .no (.cond (.seq (.reg [(1,.dat (.l 1 eStr Xu)),(2,kh29l r1X 0 r1.b (F11 ⟨r1.b,r1.p⟩ 10).2 Xu),(6,.dat (.l 1 eStr X3)),(7,kh29l r1X 0 r1.b (F29 ⟨r1.b,(F11 ⟨r1.b,r1.p⟩ 10).2⟩ Xu).2 X3)]) .no) (.cut (ι:=Bool) (fun j=>(fun (v39:Bool)=>(⟨[(0,some (.p 0 0)),(5,some (.v (vI (F11 ⟨r1.b,r1.p⟩ 10).1))),(39,some (.v (.bool v39)))],[(0,some (.box 49 [.h 1 0,.v (vI (F11 ⟨r1.b,r1.p⟩ 10).2)])),(1,some (.vl (sv r1X) (.l 1 eByte r1.b)))],2⟩:St)) j) (jJ24_0 r1X r1) (.seq .no (.cond .no .no)) (fun j=>(fun (v39:Bool)=>(.cond (.seq .no (.cut (ι:=Za×Int) (fun j=>(fun (tail:Za) (r2:Int)=>(⟨[(0,some (.p 0 0)),(3,some (.v (.string tail)))],[(0,some (.box 49 [.h 1 0,.v (vI r2)])),(1,some (.vl (sv r1X) (.l 1 eByte r1.b)))],2⟩:St)) j.1 j.2) (jJ24_1 r1X r1 v39) (.seq (.reg [(1,kh11l r1X 1 r1.b (F11 ⟨r1.b,r1.p⟩ 10).2 3)]) (.cond (.reg [(1,.dat (.l 1 eStr Xl)),(2,kh29l r1X 1 r1.b (F11 ⟨r1.b,(F11 ⟨r1.b,r1.p⟩ 10).2⟩ 3).2 Xl)]) .no)) (fun j=>(fun (tail:Za) (r2:Int)=>(.seq (.reg [(1,.dat (.l 1 eStr Xy)),(2,kh29l r1X 1 r1.b r2 Xy),(6,kh40l r1X 1 r1.b (F29 ⟨r1.b,r2⟩ Xy).2)]) .no)) j.1 j.2))) (.seq .no (.cond (.seq (.reg [(1,.dat (.l 1 eStr Xl)),(2,kh29l r1X 1 r1.b (F11 ⟨r1.b,r1.p⟩ 10).2 Xl),(6,.dat (.l 1 eStr Xo)),(7,kh29l r1X 1 r1.b (F29 ⟨r1.b,(F11 ⟨r1.b,r1.p⟩ 10).2⟩ Xl).2 Xo),(11,.dat (.l 1 eStr Xp)),(12,kh29l r1X 1 r1.b (F29 ⟨r1.b,(F29 ⟨r1.b,(F11 ⟨r1.b,r1.p⟩ 10).2⟩ Xl).2⟩ Xo).2 Xp),(16,kh40l r1X 1 r1.b (F29 ⟨r1.b,(F29 ⟨r1.b,(F29 ⟨r1.b,(F11 ⟨r1.b,r1.p⟩ 10).2⟩ Xl).2⟩ Xo).2⟩ Xp).2),(20,kh40l r1X 1 r1.b (F40 ⟨r1.b,(F29 ⟨r1.b,(F29 ⟨r1.b,(F29 ⟨r1.b,(F11 ⟨r1.b,r1.p⟩ 10).2⟩ Xl).2⟩ Xo).2⟩ Xp).2⟩).2),(24,.dat (.l 1 eStr X4)),(25,kh29l r1X 1 r1.b (F40 ⟨r1.b,(F40 ⟨r1.b,(F29 ⟨r1.b,(F29 ⟨r1.b,(F29 ⟨r1.b,(F11 ⟨r1.b,r1.p⟩ 10).2⟩ Xl).2⟩ Xo).2⟩ Xp).2⟩).2⟩).2 X4)]) .no) (.seq (.seq .no (.cond .no .no)) (.cond (.seq (.reg [(1,kh40l r1X 1 r1.b (F11 ⟨r1.b,r1.p⟩ 10).2),(5,kh41l r1X 1 r1.b (F40 ⟨r1.b,(F11 ⟨r1.b,r1.p⟩ 10).2⟩).2)]) .no) (.seq .no (.cond (.seq (.reg [(1,kh41l r1X 1 r1.b (F11 ⟨r1.b,r1.p⟩ 10).2),(5,.dat (.l 1 eStr Xr)),(6,kh29l r1X 1 r1.b (F41 ⟨r1.b,(F11 ⟨r1.b,r1.p⟩ 10).2⟩).2 Xr),(10,.dat (.l 1 eStr Xv)),(11,kh29l r1X 1 r1.b (F29 ⟨r1.b,(F41 ⟨r1.b,(F11 ⟨r1.b,r1.p⟩ 10).2⟩).2⟩ Xr).2 Xv)]) .no) .no)))))))) j)))))))))) (.seq (.reg [(1,.dat (.l 1 eStr Xm)),(2,kh29l r1X 1 r1.b (F11 ⟨r1.b,r1.p⟩ 10).2 Xm),(6,.dat (.l 1 eStr Xq)),(7,kh29l r1X 1 r1.b (F29 ⟨r1.b,(F11 ⟨r1.b,r1.p⟩ 10).2⟩ Xm).2 Xq),(11,kh41l r1X 1 r1.b (F29 ⟨r1.b,(F29 ⟨r1.b,(F11 ⟨r1.b,r1.p⟩ 10).2⟩ Xm).2⟩ Xq).2),(15,.dat (.l 1 eStr Xw)),(16,kh29l r1X 1 r1.b (F41 ⟨r1.b,(F29 ⟨r1.b,(F29 ⟨r1.b,(F11 ⟨r1.b,r1.p⟩ 10).2⟩ Xm).2⟩ Xq).2⟩).2 Xw)]) .no))) Tryz.func24 (fun (hp:0<=r1.p/\r1.p<=900000000/\r1.b.length<=2000)=>have hpre0:=hp.1; have hpre1:=hp.2.1; have hpre2:=hp.2.2; kn r1.b fun _=>kc11l r1X r1.b r1.p 10 uu0 uu0 uu0 uu0 uu0 (fun gv1=>ife (F11 ⟨r1.b,r1.p⟩ 10).1 9 (fun h2 _=>ai (bokr 1 eStr Xs fun _=>rfl) (kc29l r1X r1.b (F11 ⟨r1.b,r1.p⟩ 10).2 Xs uu0 uu0 uu0 uu1 uu1 uu0 uu0 uu1 (fun gv3=>ai (sumLe (lit_le _) (of_le (n:=80) _ _ uu1) uu1:((w62_.size+(F29 ⟨r1.b,(F11 ⟨r1.b,r1.p⟩ 10).2⟩ Xs).1.size:Nat):Int)<=9223372036854775807) (ai (sumLe (app_le (lit_le _) (of_le (n:=80) _ _ uu1)) (lit_le _) uu1:(((w62_++(F29 ⟨r1.b,(F11 ⟨r1.b,r1.p⟩ 10).2⟩ Xs).1).size+Zb.size:Nat):Int)<=9223372036854775807) (ai (bokr 1 eStr Xt fun _=>rfl) (kc29l r1X r1.b (F29 ⟨r1.b,(F11 ⟨r1.b,r1.p⟩ 10).2⟩ Xs).2 Xt uu0 uu0 uu0 uu1 uu1 uu0 uu0 uu1 (fun gv4=>ai (sumLe (app_le (app_le (lit_le _) (of_le (n:=80) _ _ uu1)) (lit_le _)) (of_le (n:=80) _ _ uu1) uu1:((((w62_++(F29 ⟨r1.b,(F11 ⟨r1.b,r1.p⟩ 10).2⟩ Xs).1)++Zb).size+(F29 ⟨r1.b,(F29 ⟨r1.b,(F11 ⟨r1.b,r1.p⟩ 10).2⟩ Xs).2⟩ Xt).1.size:Nat):Int)<=9223372036854775807) (ai (sumLe (app_le (app_le (app_le (lit_le _) (of_le (n:=80) _ _ uu1)) (lit_le _)) (of_le (n:=80) _ _ uu1)) (lit_le _) uu1:(((((w62_++(F29 ⟨r1.b,(F11 ⟨r1.b,r1.p⟩ 10).2⟩ Xs).1)++Zb)++(F29 ⟨r1.b,(F29 ⟨r1.b,(F11 ⟨r1.b,r1.p⟩ 10).2⟩ Xs).2⟩ Xt).1).size+Zb.size:Nat):Int)<=9223372036854775807) (ai (bokr 1 eStr X7 fun _=>rfl) (kc29l r1X r1.b (F29 ⟨r1.b,(F29 ⟨r1.b,(F11 ⟨r1.b,r1.p⟩ 10).2⟩ Xs).2⟩ Xt).2 X7 uu0 uu0 uu0 uu1 uu1 uu0 uu0 uu1 (fun gv5=>ai (sumLe (app_le (app_le (app_le (app_le (lit_le _) (of_le (n:=80) _ _ uu1)) (lit_le _)) (of_le (n:=80) _ _ uu1)) (lit_le _)) (of_le (n:=80) _ _ uu1) uu1:((((((w62_++(F29 ⟨r1.b,(F11 ⟨r1.b,r1.p⟩ 10).2⟩ Xs).1)++Zb)++(F29 ⟨r1.b,(F29 ⟨r1.b,(F11 ⟨r1.b,r1.p⟩ 10).2⟩ Xs).2⟩ Xt).1)++Zb).size+(F29 ⟨r1.b,(F29 ⟨r1.b,(F29 ⟨r1.b,(F11 ⟨r1.b,r1.p⟩ 10).2⟩ Xs).2⟩ Xt).2⟩ X7).1.size:Nat):Int)<=9223372036854775807) ((fun hF:((((((w62_++(F29 ⟨r1.b,(F11 ⟨r1.b,r1.p⟩ 10).2⟩ Xs).1)++Zb)++(F29 ⟨r1.b,(F29 ⟨r1.b,(F11 ⟨r1.b,r1.p⟩ 10).2⟩ Xs).2⟩ Xt).1)++Zb)++(F29 ⟨r1.b,(F29 ⟨r1.b,(F29 ⟨r1.b,(F11 ⟨r1.b,r1.p⟩ 10).2⟩ Xs).2⟩ Xt).2⟩ X7).1),(F29 ⟨r1.b,(F29 ⟨r1.b,(F29 ⟨r1.b,(F11 ⟨r1.b,r1.p⟩ 10).2⟩ Xs).2⟩ Xt).2⟩ X7).2)=(F24 r1)=>ai (Qg (fun r:Za×Int=>(.string r.1:Value)) hF) (ai (ai (Imp.refl (Dat.v (sv r1X))) (ai (Imp.of_eq (Qg (fun r:Za×Int=>Dat.v (vI r.2)) hF)) trivial)) trivial)) (condT h2 rfl))))))))))))) (fun h2 _=>ife (F11 ⟨r1.b,r1.p⟩ 10).1 0 (fun h6 _=>ai (bokr 1 eStr X8 fun _=>rfl) (kc29l r1X r1.b (F11 ⟨r1.b,r1.p⟩ 10).2 X8 uu0 uu0 uu0 uu1 uu1 uu0 uu0 uu1 (fun gv7=>ai (sumLe (lit_le _) (of_le (n:=80) _ _ uu1) uu1:((w63_.size+(F29 ⟨r1.b,(F11 ⟨r1.b,r1.p⟩ 10).2⟩ X8).1.size:Nat):Int)<=9223372036854775807) ((fun hF:((w63_++(F29 ⟨r1.b,(F11 ⟨r1.b,r1.p⟩ 10).2⟩ X8).1),(F29 ⟨r1.b,(F11 ⟨r1.b,r1.p⟩ 10).2⟩ X8).2)=(F24 r1)=>ai (Qg (fun r:Za×Int=>(.string r.1:Value)) hF) (ai (ai (Imp.refl (Dat.v (sv r1X))) (ai (Imp.of_eq (Qg (fun r:Za×Int=>Dat.v (vI r.2)) hF)) trivial)) trivial)) (condF h2 (condT h6 rfl)))))) (fun h6 _=>ife (F11 ⟨r1.b,r1.p⟩ 10).1 1 (fun h8 _=>ai (bokr 1 eStr Xu fun _=>rfl) (kc29l r1X r1.b (F11 ⟨r1.b,r1.p⟩ 10).2 Xu uu0 uu0 uu0 uu1 uu1 uu0 uu0 uu1 (fun gv9=>ai (sumLe (lit_le _) (of_le (n:=80) _ _ uu1) uu1:((w64_.size+(F29 ⟨r1.b,(F11 ⟨r1.b,r1.p⟩ 10).2⟩ Xu).1.size:Nat):Int)<=9223372036854775807) (ai (sumLe (app_le (lit_le _) (of_le (n:=80) _ _ uu1)) (lit_le _) uu1:(((w64_++(F29 ⟨r1.b,(F11 ⟨r1.b,r1.p⟩ 10).2⟩ Xu).1).size+Zb.size:Nat):Int)<=9223372036854775807) (ai (bokr 1 eStr X3 fun _=>rfl) (kc29l r1X r1.b (F29 ⟨r1.b,(F11 ⟨r1.b,r1.p⟩ 10).2⟩ Xu).2 X3 uu0 uu0 uu0 uu1 uu1 uu0 uu0 uu1 (fun gv10=>ai (sumLe (app_le (app_le (lit_le _) (of_le (n:=80) _ _ uu1)) (lit_le _)) (of_le (n:=80) _ _ uu1) uu1:((((w64_++(F29 ⟨r1.b,(F11 ⟨r1.b,r1.p⟩ 10).2⟩ Xu).1)++Zb).size+(F29 ⟨r1.b,(F29 ⟨r1.b,(F11 ⟨r1.b,r1.p⟩ 10).2⟩ Xu).2⟩ X3).1.size:Nat):Int)<=9223372036854775807) ((fun hF:((((w64_++(F29 ⟨r1.b,(F11 ⟨r1.b,r1.p⟩ 10).2⟩ Xu).1)++Zb)++(F29 ⟨r1.b,(F29 ⟨r1.b,(F11 ⟨r1.b,r1.p⟩ 10).2⟩ Xu).2⟩ X3).1),(F29 ⟨r1.b,(F29 ⟨r1.b,(F11 ⟨r1.b,r1.p⟩ 10).2⟩ Xu).2⟩ X3).2)=(F24 r1)=>ai (Qg (fun r:Za×Int=>(.string r.1:Value)) hF) (ai (ai (Imp.refl (Dat.v (sv r1X))) (ai (Imp.of_eq (Qg (fun r:Za×Int=>Dat.v (vI r.2)) hF)) trivial)) trivial)) (condF h2 (condF h6 (condT h8 rfl))))))))))) (fun h8 _=>ai (ife (F11 ⟨r1.b,r1.p⟩ 10).1 2 (fun h11 _=>jn24_0 r1X r1 ((F11 ⟨r1.b,r1.p⟩ 10).1==2) (Tk (condT h11 rfl)) ) (fun h11 _=>jn24_0 r1X r1 ((F11 ⟨r1.b,r1.p⟩ 10).1==3) (Tk (condF h11 rfl)) )) (fun (j:Bool) (hj:jJ24_0 r1X r1 j)=>(fun (v39:Bool) (hJ0_12:(F24_j0 r1)=Lp.done v39)=>ifb v39 (fun h13=>ai (kc11l r1X r1.b (F11 ⟨r1.b,r1.p⟩ 10).2 3 uu0 uu0 uu0 uu0 uu0 (fun gv14=>ife (F11 ⟨r1.b,(F11 ⟨r1.b,r1.p⟩ 10).2⟩ 3).1 0 (fun h15 _=>ai (bokr 1 eStr Xl fun _=>rfl) (kc29l r1X r1.b (F11 ⟨r1.b,(F11 ⟨r1.b,r1.p⟩ 10).2⟩ 3).2 Xl uu0 uu0 uu0 uu1 uu1 uu0 uu0 uu1 (fun gv16=>ai (sumLe (lit_le _) (of_le (n:=80) _ _ uu1) uu1:((w65_.size+(F29 ⟨r1.b,(F11 ⟨r1.b,(F11 ⟨r1.b,r1.p⟩ 10).2⟩ 3).2⟩ Xl).1.size:Nat):Int)<=9223372036854775807) (jn24_1 r1X r1 v39 (w65_++(F29 ⟨r1.b,(F11 ⟨r1.b,(F11 ⟨r1.b,r1.p⟩ 10).2⟩ 3).2⟩ Xl).1) (F29 ⟨r1.b,(F11 ⟨r1.b,(F11 ⟨r1.b,r1.p⟩ 10).2⟩ 3).2⟩ Xl).2 (Tk (condT h15 rfl)) uu67)))) (fun h15 _=>jn24_1 r1X r1 v39 Zc (F11 ⟨r1.b,(F11 ⟨r1.b,r1.p⟩ 10).2⟩ 3).2 (Tk (condF h15 rfl)) uu67))) (fun (j:Za×Int) (hj:jJ24_1 r1X r1 v39 j)=>(fun (tail:Za) (r2:Int) (hJ1_17:(F24_j1 r1 v39)=Lp.done (tail,r2)) (hw:jI24_1 r1X r1 v39 tail r2)=>have _:=hw.1; have _:=hw.2.1; have _:=hw.2.2; ai (bokr 1 eStr Xy fun _=>rfl) (kc29l r1X r1.b r2 Xy uu0 uu0 uu0 uu1 uu1 uu0 uu0 uu1 (fun gv18=>ai (sumLe (lit_le _) (of_le (n:=80) _ _ uu1) uu1:((w66_.size+(F29 ⟨r1.b,r2⟩ Xy).1.size:Nat):Int)<=9223372036854775807) (ai (sumLe (app_le (lit_le _) (of_le (n:=80) _ _ uu1)) (lit_le _) uu1:(((w66_++(F29 ⟨r1.b,r2⟩ Xy).1).size+Zb.size:Nat):Int)<=9223372036854775807) (kc40l r1X r1.b (F29 ⟨r1.b,r2⟩ Xy).2 uu0 uu0 uu0 uu0 uu0 (fun gv19=>ai (sumLe (app_le (app_le (lit_le _) (of_le (n:=80) _ _ uu1)) (lit_le _)) (prefix_le _) uu1:((((w66_++(F29 ⟨r1.b,r2⟩ Xy).1)++Zb).size+(F40 ⟨r1.b,(F29 ⟨r1.b,r2⟩ Xy).2⟩).1.size:Nat):Int)<=9223372036854775807) (ai (sumLe (app_le (app_le (app_le (lit_le _) (of_le (n:=80) _ _ uu1)) (lit_le _)) (prefix_le _)) (uu17:tail.size<=100) uu1:(((((w66_++(F29 ⟨r1.b,r2⟩ Xy).1)++Zb)++(F40 ⟨r1.b,(F29 ⟨r1.b,r2⟩ Xy).2⟩).1).size+tail.size:Nat):Int)<=9223372036854775807) ((fun hF:(((((w66_++(F29 ⟨r1.b,r2⟩ Xy).1)++Zb)++(F40 ⟨r1.b,(F29 ⟨r1.b,r2⟩ Xy).2⟩).1)++tail),(F40 ⟨r1.b,(F29 ⟨r1.b,r2⟩ Xy).2⟩).2)=(F24 r1)=>ai (Qg (fun r:Za×Int=>(.string r.1:Value)) hF) (ai (ai (Imp.refl (Dat.v (sv r1X))) (ai (Imp.of_eq (Qg (fun r:Za×Int=>Dat.v (vI r.2)) hF)) trivial)) trivial)) (condF h2 (condF h6 (condF h8 (finD hJ0_12 (condT h13 (finD hJ1_17 rfl)))))))))))))) j.1 j.2 hj.1 hj.2)) (fun h13=>ife (F11 ⟨r1.b,r1.p⟩ 10).1 4 (fun h20 _=>ai (bokr 1 eStr Xl fun _=>rfl) (kc29l r1X r1.b (F11 ⟨r1.b,r1.p⟩ 10).2 Xl uu0 uu0 uu0 uu1 uu1 uu0 uu0 uu1 (fun gv21=>ai (sumLe (lit_le _) (of_le (n:=80) _ _ uu1) uu1:((w67_.size+(F29 ⟨r1.b,(F11 ⟨r1.b,r1.p⟩ 10).2⟩ Xl).1.size:Nat):Int)<=9223372036854775807) (ai (sumLe (app_le (lit_le _) (of_le (n:=80) _ _ uu1)) (lit_le _) uu1:(((w67_++(F29 ⟨r1.b,(F11 ⟨r1.b,r1.p⟩ 10).2⟩ Xl).1).size+Zb.size:Nat):Int)<=9223372036854775807) (ai (bokr 1 eStr Xo fun _=>rfl) (kc29l r1X r1.b (F29 ⟨r1.b,(F11 ⟨r1.b,r1.p⟩ 10).2⟩ Xl).2 Xo uu0 uu0 uu0 uu1 uu1 uu0 uu0 uu1 (fun gv22=>ai (sumLe (app_le (app_le (lit_le _) (of_le (n:=80) _ _ uu1)) (lit_le _)) (of_le (n:=80) _ _ uu1) uu1:((((w67_++(F29 ⟨r1.b,(F11 ⟨r1.b,r1.p⟩ 10).2⟩ Xl).1)++Zb).size+(F29 ⟨r1.b,(F29 ⟨r1.b,(F11 ⟨r1.b,r1.p⟩ 10).2⟩ Xl).2⟩ Xo).1.size:Nat):Int)<=9223372036854775807) (ai (sumLe (app_le (app_le (app_le (lit_le _) (of_le (n:=80) _ _ uu1)) (lit_le _)) (of_le (n:=80) _ _ uu1)) (lit_le _) uu1:(((((w67_++(F29 ⟨r1.b,(F11 ⟨r1.b,r1.p⟩ 10).2⟩ Xl).1)++Zb)++(F29 ⟨r1.b,(F29 ⟨r1.b,(F11 ⟨r1.b,r1.p⟩ 10).2⟩ Xl).2⟩ Xo).1).size+Zb.size:Nat):Int)<=9223372036854775807) (ai (bokr 1 eStr Xp fun _=>rfl) (kc29l r1X r1.b (F29 ⟨r1.b,(F29 ⟨r1.b,(F11 ⟨r1.b,r1.p⟩ 10).2⟩ Xl).2⟩ Xo).2 Xp uu0 uu0 uu0 uu1 uu1 uu0 uu0 uu1 (fun gv23=>ai (sumLe (app_le (app_le (app_le (app_le (lit_le _) (of_le (n:=80) _ _ uu1)) (lit_le _)) (of_le (n:=80) _ _ uu1)) (lit_le _)) (of_le (n:=80) _ _ uu1) uu1:((((((w67_++(F29 ⟨r1.b,(F11 ⟨r1.b,r1.p⟩ 10).2⟩ Xl).1)++Zb)++(F29 ⟨r1.b,(F29 ⟨r1.b,(F11 ⟨r1.b,r1.p⟩ 10).2⟩ Xl).2⟩ Xo).1)++Zb).size+(F29 ⟨r1.b,(F29 ⟨r1.b,(F29 ⟨r1.b,(F11 ⟨r1.b,r1.p⟩ 10).2⟩ Xl).2⟩ Xo).2⟩ Xp).1.size:Nat):Int)<=9223372036854775807) (ai (sumLe (app_le (app_le (app_le (app_le (app_le (lit_le _) (of_le (n:=80) _ _ uu1)) (lit_le _)) (of_le (n:=80) _ _ uu1)) (lit_le _)) (of_le (n:=80) _ _ uu1)) (lit_le _) uu1:(((((((w67_++(F29 ⟨r1.b,(F11 ⟨r1.b,r1.p⟩ 10).2⟩ Xl).1)++Zb)++(F29 ⟨r1.b,(F29 ⟨r1.b,(F11 ⟨r1.b,r1.p⟩ 10).2⟩ Xl).2⟩ Xo).1)++Zb)++(F29 ⟨r1.b,(F29 ⟨r1.b,(F29 ⟨r1.b,(F11 ⟨r1.b,r1.p⟩ 10).2⟩ Xl).2⟩ Xo).2⟩ Xp).1).size+Zb.size:Nat):Int)<=9223372036854775807) (kc40l r1X r1.b (F29 ⟨r1.b,(F29 ⟨r1.b,(F29 ⟨r1.b,(F11 ⟨r1.b,r1.p⟩ 10).2⟩ Xl).2⟩ Xo).2⟩ Xp).2 uu0 uu0 uu0 uu0 uu0 (fun gv24=>ai (sumLe (app_le (app_le (app_le (app_le (app_le (app_le (lit_le _) (of_le (n:=80) _ _ uu1)) (lit_le _)) (of_le (n:=80) _ _ uu1)) (lit_le _)) (of_le (n:=80) _ _ uu1)) (lit_le _)) (prefix_le _) uu1:((((((((w67_++(F29 ⟨r1.b,(F11 ⟨r1.b,r1.p⟩ 10).2⟩ Xl).1)++Zb)++(F29 ⟨r1.b,(F29 ⟨r1.b,(F11 ⟨r1.b,r1.p⟩ 10).2⟩ Xl).2⟩ Xo).1)++Zb)++(F29 ⟨r1.b,(F29 ⟨r1.b,(F29 ⟨r1.b,(F11 ⟨r1.b,r1.p⟩ 10).2⟩ Xl).2⟩ Xo).2⟩ Xp).1)++Zb).size+(F40 ⟨r1.b,(F29 ⟨r1.b,(F29 ⟨r1.b,(F29 ⟨r1.b,(F11 ⟨r1.b,r1.p⟩ 10).2⟩ Xl).2⟩ Xo).2⟩ Xp).2⟩).1.size:Nat):Int)<=9223372036854775807) (ai (sumLe (app_le (app_le (app_le (app_le (app_le (app_le (app_le (lit_le _) (of_le (n:=80) _ _ uu1)) (lit_le _)) (of_le (n:=80) _ _ uu1)) (lit_le _)) (of_le (n:=80) _ _ uu1)) (lit_le _)) (prefix_le _)) (lit_le _) uu1:(((((((((w67_++(F29 ⟨r1.b,(F11 ⟨r1.b,r1.p⟩ 10).2⟩ Xl).1)++Zb)++(F29 ⟨r1.b,(F29 ⟨r1.b,(F11 ⟨r1.b,r1.p⟩ 10).2⟩ Xl).2⟩ Xo).1)++Zb)++(F29 ⟨r1.b,(F29 ⟨r1.b,(F29 ⟨r1.b,(F11 ⟨r1.b,r1.p⟩ 10).2⟩ Xl).2⟩ Xo).2⟩ Xp).1)++Zb)++(F40 ⟨r1.b,(F29 ⟨r1.b,(F29 ⟨r1.b,(F29 ⟨r1.b,(F11 ⟨r1.b,r1.p⟩ 10).2⟩ Xl).2⟩ Xo).2⟩ Xp).2⟩).1).size+Zb.size:Nat):Int)<=9223372036854775807) (kc40l r1X r1.b (F40 ⟨r1.b,(F29 ⟨r1.b,(F29 ⟨r1.b,(F29 ⟨r1.b,(F11 ⟨r1.b,r1.p⟩ 10).2⟩ Xl).2⟩ Xo).2⟩ Xp).2⟩).2 uu0 uu0 uu0 uu0 uu0 (fun gv25=>ai (sumLe (app_le (app_le (app_le (app_le (app_le (app_le (app_le (app_le (lit_le _) (of_le (n:=80) _ _ uu1)) (lit_le _)) (of_le (n:=80) _ _ uu1)) (lit_le _)) (of_le (n:=80) _ _ uu1)) (lit_le _)) (prefix_le _)) (lit_le _)) (prefix_le _) uu1:((((((((((w67_++(F29 ⟨r1.b,(F11 ⟨r1.b,r1.p⟩ 10).2⟩ Xl).1)++Zb)++(F29 ⟨r1.b,(F29 ⟨r1.b,(F11 ⟨r1.b,r1.p⟩ 10).2⟩ Xl).2⟩ Xo).1)++Zb)++(F29 ⟨r1.b,(F29 ⟨r1.b,(F29 ⟨r1.b,(F11 ⟨r1.b,r1.p⟩ 10).2⟩ Xl).2⟩ Xo).2⟩ Xp).1)++Zb)++(F40 ⟨r1.b,(F29 ⟨r1.b,(F29 ⟨r1.b,(F29 ⟨r1.b,(F11 ⟨r1.b,r1.p⟩ 10).2⟩ Xl).2⟩ Xo).2⟩ Xp).2⟩).1)++Zb).size+(F40 ⟨r1.b,(F40 ⟨r1.b,(F29 ⟨r1.b,(F29 ⟨r1.b,(F29 ⟨r1.b,(F11 ⟨r1.b,r1.p⟩ 10).2⟩ Xl).2⟩ Xo).2⟩ Xp).2⟩).2⟩).1.size:Nat):Int)<=9223372036854775807) (ai (sumLe (app_le (app_le (app_le (app_le (app_le (app_le (app_le (app_le (app_le (lit_le _) (of_le (n:=80) _ _ uu1)) (lit_le _)) (of_le (n:=80) _ _ uu1)) (lit_le _)) (of_le (n:=80) _ _ uu1)) (lit_le _)) (prefix_le _)) (lit_le _)) (prefix_le _)) (lit_le _) uu1:(((((((((((w67_++(F29 ⟨r1.b,(F11 ⟨r1.b,r1.p⟩ 10).2⟩ Xl).1)++Zb)++(F29 ⟨r1.b,(F29 ⟨r1.b,(F11 ⟨r1.b,r1.p⟩ 10).2⟩ Xl).2⟩ Xo).1)++Zb)++(F29 ⟨r1.b,(F29 ⟨r1.b,(F29 ⟨r1.b,(F11 ⟨r1.b,r1.p⟩ 10).2⟩ Xl).2⟩ Xo).2⟩ Xp).1)++Zb)++(F40 ⟨r1.b,(F29 ⟨r1.b,(F29 ⟨r1.b,(F29 ⟨r1.b,(F11 ⟨r1.b,r1.p⟩ 10).2⟩ Xl).2⟩ Xo).2⟩ Xp).2⟩).1)++Zb)++(F40 ⟨r1.b,(F40 ⟨r1.b,(F29 ⟨r1.b,(F29 ⟨r1.b,(F29 ⟨r1.b,(F11 ⟨r1.b,r1.p⟩ 10).2⟩ Xl).2⟩ Xo).2⟩ Xp).2⟩).2⟩).1).size+Zb.size:Nat):Int)<=9223372036854775807) (ai (bokr 1 eStr X4 fun _=>rfl) (kc29l r1X r1.b (F40 ⟨r1.b,(F40 ⟨r1.b,(F29 ⟨r1.b,(F29 ⟨r1.b,(F29 ⟨r1.b,(F11 ⟨r1.b,r1.p⟩ 10).2⟩ Xl).2⟩ Xo).2⟩ Xp).2⟩).2⟩).2 X4 uu0 uu0 uu0 uu1 uu1 uu0 uu0 uu1 (fun gv26=>ai (sumLe (app_le (app_le (app_le (app_le (app_le (app_le (app_le (app_le (app_le (app_le (lit_le _) (of_le (n:=80) _ _ uu1)) (lit_le _)) (of_le (n:=80) _ _ uu1)) (lit_le _)) (of_le (n:=80) _ _ uu1)) (lit_le _)) (prefix_le _)) (lit_le _)) (prefix_le _)) (lit_le _)) (of_le (n:=80) _ _ uu1) uu1:((((((((((((w67_++(F29 ⟨r1.b,(F11 ⟨r1.b,r1.p⟩ 10).2⟩ Xl).1)++Zb)++(F29 ⟨r1.b,(F29 ⟨r1.b,(F11 ⟨r1.b,r1.p⟩ 10).2⟩ Xl).2⟩ Xo).1)++Zb)++(F29 ⟨r1.b,(F29 ⟨r1.b,(F29 ⟨r1.b,(F11 ⟨r1.b,r1.p⟩ 10).2⟩ Xl).2⟩ Xo).2⟩ Xp).1)++Zb)++(F40 ⟨r1.b,(F29 ⟨r1.b,(F29 ⟨r1.b,(F29 ⟨r1.b,(F11 ⟨r1.b,r1.p⟩ 10).2⟩ Xl).2⟩ Xo).2⟩ Xp).2⟩).1)++Zb)++(F40 ⟨r1.b,(F40 ⟨r1.b,(F29 ⟨r1.b,(F29 ⟨r1.b,(F29 ⟨r1.b,(F11 ⟨r1.b,r1.p⟩ 10).2⟩ Xl).2⟩ Xo).2⟩ Xp).2⟩).2⟩).1)++Zb).size+(F29 ⟨r1.b,(F40 ⟨r1.b,(F40 ⟨r1.b,(F29 ⟨r1.b,(F29 ⟨r1.b,(F29 ⟨r1.b,(F11 ⟨r1.b,r1.p⟩ 10).2⟩ Xl).2⟩ Xo).2⟩ Xp).2⟩).2⟩).2⟩ X4).1.size:Nat):Int)<=9223372036854775807) ((fun hF:((((((((((((w67_++(F29 ⟨r1.b,(F11 ⟨r1.b,r1.p⟩ 10).2⟩ Xl).1)++Zb)++(F29 ⟨r1.b,(F29 ⟨r1.b,(F11 ⟨r1.b,r1.p⟩ 10).2⟩ Xl).2⟩ Xo).1)++Zb)++(F29 ⟨r1.b,(F29 ⟨r1.b,(F29 ⟨r1.b,(F11 ⟨r1.b,r1.p⟩ 10).2⟩ Xl).2⟩ Xo).2⟩ Xp).1)++Zb)++(F40 ⟨r1.b,(F29 ⟨r1.b,(F29 ⟨r1.b,(F29 ⟨r1.b,(F11 ⟨r1.b,r1.p⟩ 10).2⟩ Xl).2⟩ Xo).2⟩ Xp).2⟩).1)++Zb)++(F40 ⟨r1.b,(F40 ⟨r1.b,(F29 ⟨r1.b,(F29 ⟨r1.b,(F29 ⟨r1.b,(F11 ⟨r1.b,r1.p⟩ 10).2⟩ Xl).2⟩ Xo).2⟩ Xp).2⟩).2⟩).1)++Zb)++(F29 ⟨r1.b,(F40 ⟨r1.b,(F40 ⟨r1.b,(F29 ⟨r1.b,(F29 ⟨r1.b,(F29 ⟨r1.b,(F11 ⟨r1.b,r1.p⟩ 10).2⟩ Xl).2⟩ Xo).2⟩ Xp).2⟩).2⟩).2⟩ X4).1),(F29 ⟨r1.b,(F40 ⟨r1.b,(F40 ⟨r1.b,(F29 ⟨r1.b,(F29 ⟨r1.b,(F29 ⟨r1.b,(F11 ⟨r1.b,r1.p⟩ 10).2⟩ Xl).2⟩ Xo).2⟩ Xp).2⟩).2⟩).2⟩ X4).2)=(F24 r1)=>ai (Qg (fun r:Za×Int=>(.string r.1:Value)) hF) (ai (ai (Imp.refl (Dat.v (sv r1X))) (ai (Imp.of_eq (Qg (fun r:Za×Int=>Dat.v (vI r.2)) hF)) trivial)) trivial)) (condF h2 (condF h6 (condF h8 (finD hJ0_12 (condF h13 (condT h20 rfl)))))))))))))))))))))))))))) (fun h20 _=>ife (F11 ⟨r1.b,r1.p⟩ 10).1 5 (fun h27 _=>ife (F11 ⟨r1.b,r1.p⟩ 10).1 5 (fun h28 _=>kc40l r1X r1.b (F11 ⟨r1.b,r1.p⟩ 10).2 uu0 uu0 uu0 uu0 uu0 (fun gv29=>ai (sumLe (lit_le _) (prefix_le _) uu1:((w68_.size+(F40 ⟨r1.b,(F11 ⟨r1.b,r1.p⟩ 10).2⟩).1.size:Nat):Int)<=9223372036854775807) (ai (sumLe (app_le (lit_le _) (prefix_le _)) (lit_le _) uu1:(((w68_++(F40 ⟨r1.b,(F11 ⟨r1.b,r1.p⟩ 10).2⟩).1).size+Zb.size:Nat):Int)<=9223372036854775807) (kc41l r1X r1.b (F40 ⟨r1.b,(F11 ⟨r1.b,r1.p⟩ 10).2⟩).2 uu0 uu0 uu0 uu0 uu0 (fun gv30=>ai (sumLe (app_le (app_le (lit_le _) (prefix_le _)) (lit_le _)) (addr_le _) uu1:((((w68_++(F40 ⟨r1.b,(F11 ⟨r1.b,r1.p⟩ 10).2⟩).1)++Zb).size+(F41 ⟨r1.b,(F40 ⟨r1.b,(F11 ⟨r1.b,r1.p⟩ 10).2⟩).2⟩).1.size:Nat):Int)<=9223372036854775807) ((fun hF:((((w68_++(F40 ⟨r1.b,(F11 ⟨r1.b,r1.p⟩ 10).2⟩).1)++Zb)++(F41 ⟨r1.b,(F40 ⟨r1.b,(F11 ⟨r1.b,r1.p⟩ 10).2⟩).2⟩).1),(F41 ⟨r1.b,(F40 ⟨r1.b,(F11 ⟨r1.b,r1.p⟩ 10).2⟩).2⟩).2)=(F24 r1)=>ai (Qg (fun r:Za×Int=>(.string r.1:Value)) hF) (ai (ai (Imp.refl (Dat.v (sv r1X))) (ai (Imp.of_eq (Qg (fun r:Za×Int=>Dat.v (vI r.2)) hF)) trivial)) trivial)) (condF h2 (condF h6 (condF h8 (finD hJ0_12 (condF h13 (condF h20 (condT h27 (condT h28 rfl)))))))))))))) (fun h28 _=>ife (F11 ⟨r1.b,r1.p⟩ 10).1 7 (fun h31 _=>kc41l r1X r1.b (F11 ⟨r1.b,r1.p⟩ 10).2 uu0 uu0 uu0 uu0 uu0 (fun gv32=>ai (sumLe (lit_le _) (addr_le _) uu1:((w69_.size+(F41 ⟨r1.b,(F11 ⟨r1.b,r1.p⟩ 10).2⟩).1.size:Nat):Int)<=9223372036854775807) (ai (sumLe (app_le (lit_le _) (addr_le _)) (lit_le _) uu1:(((w69_++(F41 ⟨r1.b,(F11 ⟨r1.b,r1.p⟩ 10).2⟩).1).size+Zb.size:Nat):Int)<=9223372036854775807) (ai (bokr 1 eStr Xr fun _=>rfl) (kc29l r1X r1.b (F41 ⟨r1.b,(F11 ⟨r1.b,r1.p⟩ 10).2⟩).2 Xr uu0 uu0 uu0 uu0 uu0 uu0 uu0 uu0 (fun gv33=>ai (sumLe (app_le (app_le (lit_le _) (addr_le _)) (lit_le _)) (of_le (n:=80) _ _ uu1) uu1:((((w69_++(F41 ⟨r1.b,(F11 ⟨r1.b,r1.p⟩ 10).2⟩).1)++Zb).size+(F29 ⟨r1.b,(F41 ⟨r1.b,(F11 ⟨r1.b,r1.p⟩ 10).2⟩).2⟩ Xr).1.size:Nat):Int)<=9223372036854775807) (ai (sumLe (app_le (app_le (app_le (lit_le _) (addr_le _)) (lit_le _)) (of_le (n:=80) _ _ uu1)) (lit_le _) uu1:(((((w69_++(F41 ⟨r1.b,(F11 ⟨r1.b,r1.p⟩ 10).2⟩).1)++Zb)++(F29 ⟨r1.b,(F41 ⟨r1.b,(F11 ⟨r1.b,r1.p⟩ 10).2⟩).2⟩ Xr).1).size+Zb.size:Nat):Int)<=9223372036854775807) (ai (bokr 1 eStr Xv fun _=>rfl) (kc29l r1X r1.b (F29 ⟨r1.b,(F41 ⟨r1.b,(F11 ⟨r1.b,r1.p⟩ 10).2⟩).2⟩ Xr).2 Xv uu0 uu0 uu0 uu0 uu0 uu0 uu0 uu0 (fun gv34=>ai (sumLe (app_le (app_le (app_le (app_le (lit_le _) (addr_le _)) (lit_le _)) (of_le (n:=80) _ _ uu1)) (lit_le _)) (of_le (n:=80) _ _ uu1) uu1:((((((w69_++(F41 ⟨r1.b,(F11 ⟨r1.b,r1.p⟩ 10).2⟩).1)++Zb)++(F29 ⟨r1.b,(F41 ⟨r1.b,(F11 ⟨r1.b,r1.p⟩ 10).2⟩).2⟩ Xr).1)++Zb).size+(F29 ⟨r1.b,(F29 ⟨r1.b,(F41 ⟨r1.b,(F11 ⟨r1.b,r1.p⟩ 10).2⟩).2⟩ Xr).2⟩ Xv).1.size:Nat):Int)<=9223372036854775807) ((fun hF:((((((w69_++(F41 ⟨r1.b,(F11 ⟨r1.b,r1.p⟩ 10).2⟩).1)++Zb)++(F29 ⟨r1.b,(F41 ⟨r1.b,(F11 ⟨r1.b,r1.p⟩ 10).2⟩).2⟩ Xr).1)++Zb)++(F29 ⟨r1.b,(F29 ⟨r1.b,(F41 ⟨r1.b,(F11 ⟨r1.b,r1.p⟩ 10).2⟩).2⟩ Xr).2⟩ Xv).1),(F29 ⟨r1.b,(F29 ⟨r1.b,(F41 ⟨r1.b,(F11 ⟨r1.b,r1.p⟩ 10).2⟩).2⟩ Xr).2⟩ Xv).2)=(F24 r1)=>ai (Qg (fun r:Za×Int=>(.string r.1:Value)) hF) (ai (ai (Imp.refl (Dat.v (sv r1X))) (ai (Imp.of_eq (Qg (fun r:Za×Int=>Dat.v (vI r.2)) hF)) trivial)) trivial)) (condF h2 (condF h6 (condF h8 (finD hJ0_12 (condF h13 (condF h20 (condT h27 (condF h28 (condT h31 rfl)))))))))))))))))))) (fun h31 _=>ai (bokr 1 eStr Xm fun _=>rfl) (kc29l r1X r1.b (F11 ⟨r1.b,r1.p⟩ 10).2 Xm uu0 uu0 uu0 uu0 uu0 uu0 uu0 uu0 (fun gv35=>ai (sumLe (lit_le _) (of_le (n:=80) _ _ uu1) uu1:((w70_.size+(F29 ⟨r1.b,(F11 ⟨r1.b,r1.p⟩ 10).2⟩ Xm).1.size:Nat):Int)<=9223372036854775807) (ai (sumLe (app_le (lit_le _) (of_le (n:=80) _ _ uu1)) (lit_le _) uu1:(((w70_++(F29 ⟨r1.b,(F11 ⟨r1.b,r1.p⟩ 10).2⟩ Xm).1).size+Zb.size:Nat):Int)<=9223372036854775807) (ai (bokr 1 eStr Xq fun _=>rfl) (kc29l r1X r1.b (F29 ⟨r1.b,(F11 ⟨r1.b,r1.p⟩ 10).2⟩ Xm).2 Xq uu0 uu0 uu0 uu0 uu0 uu0 uu0 uu0 (fun gv36=>ai (sumLe (app_le (app_le (lit_le _) (of_le (n:=80) _ _ uu1)) (lit_le _)) (of_le (n:=80) _ _ uu1) uu1:((((w70_++(F29 ⟨r1.b,(F11 ⟨r1.b,r1.p⟩ 10).2⟩ Xm).1)++Zb).size+(F29 ⟨r1.b,(F29 ⟨r1.b,(F11 ⟨r1.b,r1.p⟩ 10).2⟩ Xm).2⟩ Xq).1.size:Nat):Int)<=9223372036854775807) (ai (sumLe (app_le (app_le (app_le (lit_le _) (of_le (n:=80) _ _ uu1)) (lit_le _)) (of_le (n:=80) _ _ uu1)) (lit_le _) uu1:(((((w70_++(F29 ⟨r1.b,(F11 ⟨r1.b,r1.p⟩ 10).2⟩ Xm).1)++Zb)++(F29 ⟨r1.b,(F29 ⟨r1.b,(F11 ⟨r1.b,r1.p⟩ 10).2⟩ Xm).2⟩ Xq).1).size+Zb.size:Nat):Int)<=9223372036854775807) (kc41l r1X r1.b (F29 ⟨r1.b,(F29 ⟨r1.b,(F11 ⟨r1.b,r1.p⟩ 10).2⟩ Xm).2⟩ Xq).2 uu0 uu0 uu0 uu0 uu0 (fun gv37=>ai (sumLe (app_le (app_le (app_le (app_le (lit_le _) (of_le (n:=80) _ _ uu1)) (lit_le _)) (of_le (n:=80) _ _ uu1)) (lit_le _)) (addr_le _) uu1:((((((w70_++(F29 ⟨r1.b,(F11 ⟨r1.b,r1.p⟩ 10).2⟩ Xm).1)++Zb)++(F29 ⟨r1.b,(F29 ⟨r1.b,(F11 ⟨r1.b,r1.p⟩ 10).2⟩ Xm).2⟩ Xq).1)++Zb).size+(F41 ⟨r1.b,(F29 ⟨r1.b,(F29 ⟨r1.b,(F11 ⟨r1.b,r1.p⟩ 10).2⟩ Xm).2⟩ Xq).2⟩).1.size:Nat):Int)<=9223372036854775807) (ai (sumLe (app_le (app_le (app_le (app_le (app_le (lit_le _) (of_le (n:=80) _ _ uu1)) (lit_le _)) (of_le (n:=80) _ _ uu1)) (lit_le _)) (addr_le _)) (lit_le _) uu1:(((((((w70_++(F29 ⟨r1.b,(F11 ⟨r1.b,r1.p⟩ 10).2⟩ Xm).1)++Zb)++(F29 ⟨r1.b,(F29 ⟨r1.b,(F11 ⟨r1.b,r1.p⟩ 10).2⟩ Xm).2⟩ Xq).1)++Zb)++(F41 ⟨r1.b,(F29 ⟨r1.b,(F29 ⟨r1.b,(F11 ⟨r1.b,r1.p⟩ 10).2⟩ Xm).2⟩ Xq).2⟩).1).size+Zb.size:Nat):Int)<=9223372036854775807) (ai (bokr 1 eStr Xw fun _=>rfl) (kc29l r1X r1.b (F41 ⟨r1.b,(F29 ⟨r1.b,(F29 ⟨r1.b,(F11 ⟨r1.b,r1.p⟩ 10).2⟩ Xm).2⟩ Xq).2⟩).2 Xw uu0 uu0 uu0 uu0 uu0 uu0 uu0 uu0 (fun gv38=>ai (sumLe (app_le (app_le (app_le (app_le (app_le (app_le (lit_le _) (of_le (n:=80) _ _ uu1)) (lit_le _)) (of_le (n:=80) _ _ uu1)) (lit_le _)) (addr_le _)) (lit_le _)) (of_le (n:=80) _ _ uu1) uu1:((((((((w70_++(F29 ⟨r1.b,(F11 ⟨r1.b,r1.p⟩ 10).2⟩ Xm).1)++Zb)++(F29 ⟨r1.b,(F29 ⟨r1.b,(F11 ⟨r1.b,r1.p⟩ 10).2⟩ Xm).2⟩ Xq).1)++Zb)++(F41 ⟨r1.b,(F29 ⟨r1.b,(F29 ⟨r1.b,(F11 ⟨r1.b,r1.p⟩ 10).2⟩ Xm).2⟩ Xq).2⟩).1)++Zb).size+(F29 ⟨r1.b,(F41 ⟨r1.b,(F29 ⟨r1.b,(F29 ⟨r1.b,(F11 ⟨r1.b,r1.p⟩ 10).2⟩ Xm).2⟩ Xq).2⟩).2⟩ Xw).1.size:Nat):Int)<=9223372036854775807) ((fun hF:((((((((w70_++(F29 ⟨r1.b,(F11 ⟨r1.b,r1.p⟩ 10).2⟩ Xm).1)++Zb)++(F29 ⟨r1.b,(F29 ⟨r1.b,(F11 ⟨r1.b,r1.p⟩ 10).2⟩ Xm).2⟩ Xq).1)++Zb)++(F41 ⟨r1.b,(F29 ⟨r1.b,(F29 ⟨r1.b,(F11 ⟨r1.b,r1.p⟩ 10).2⟩ Xm).2⟩ Xq).2⟩).1)++Zb)++(F29 ⟨r1.b,(F41 ⟨r1.b,(F29 ⟨r1.b,(F29 ⟨r1.b,(F11 ⟨r1.b,r1.p⟩ 10).2⟩ Xm).2⟩ Xq).2⟩).2⟩ Xw).1),(F29 ⟨r1.b,(F41 ⟨r1.b,(F29 ⟨r1.b,(F29 ⟨r1.b,(F11 ⟨r1.b,r1.p⟩ 10).2⟩ Xm).2⟩ Xq).2⟩).2⟩ Xw).2)=(F24 r1)=>ai (Qg (fun r:Za×Int=>(.string r.1:Value)) hF) (ai (ai (Imp.refl (Dat.v (sv r1X))) (ai (Imp.of_eq (Qg (fun r:Za×Int=>Dat.v (vI r.2)) hF)) trivial)) trivial)) (condF h2 (condF h6 (condF h8 (finD hJ0_12 (condF h13 (condF h20 (condT h27 (condF h28 (condF h31 rfl)))))))))))))))))))))))))) (fun h27 _=>ife (F11 ⟨r1.b,r1.p⟩ 10).1 6 (fun h39 _=>kc40l r1X r1.b (F11 ⟨r1.b,r1.p⟩ 10).2 uu0 uu0 uu0 uu0 uu0 (fun gv40=>ai (sumLe (lit_le _) (prefix_le _) uu1:((w68_.size+(F40 ⟨r1.b,(F11 ⟨r1.b,r1.p⟩ 10).2⟩).1.size:Nat):Int)<=9223372036854775807) (ai (sumLe (app_le (lit_le _) (prefix_le _)) (lit_le _) uu1:(((w68_++(F40 ⟨r1.b,(F11 ⟨r1.b,r1.p⟩ 10).2⟩).1).size+Zb.size:Nat):Int)<=9223372036854775807) (kc41l r1X r1.b (F40 ⟨r1.b,(F11 ⟨r1.b,r1.p⟩ 10).2⟩).2 uu0 uu0 uu0 uu0 uu0 (fun gv41=>ai (sumLe (app_le (app_le (lit_le _) (prefix_le _)) (lit_le _)) (addr_le _) uu1:((((w68_++(F40 ⟨r1.b,(F11 ⟨r1.b,r1.p⟩ 10).2⟩).1)++Zb).size+(F41 ⟨r1.b,(F40 ⟨r1.b,(F11 ⟨r1.b,r1.p⟩ 10).2⟩).2⟩).1.size:Nat):Int)<=9223372036854775807) ((fun hF:((((w68_++(F40 ⟨r1.b,(F11 ⟨r1.b,r1.p⟩ 10).2⟩).1)++Zb)++(F41 ⟨r1.b,(F40 ⟨r1.b,(F11 ⟨r1.b,r1.p⟩ 10).2⟩).2⟩).1),(F41 ⟨r1.b,(F40 ⟨r1.b,(F11 ⟨r1.b,r1.p⟩ 10).2⟩).2⟩).2)=(F24 r1)=>ai (Qg (fun r:Za×Int=>(.string r.1:Value)) hF) (ai (ai (Imp.refl (Dat.v (sv r1X))) (ai (Imp.of_eq (Qg (fun r:Za×Int=>Dat.v (vI r.2)) hF)) trivial)) trivial)) (condF h2 (condF h6 (condF h8 (finD hJ0_12 (condF h13 (condF h20 (condF h27 (condT h39 rfl)))))))))))))) (fun h39 _=>ife (F11 ⟨r1.b,r1.p⟩ 10).1 7 (fun h42 _=>kc41l r1X r1.b (F11 ⟨r1.b,r1.p⟩ 10).2 uu0 uu0 uu0 uu0 uu0 (fun gv43=>ai (sumLe (lit_le _) (addr_le _) uu1:((w69_.size+(F41 ⟨r1.b,(F11 ⟨r1.b,r1.p⟩ 10).2⟩).1.size:Nat):Int)<=9223372036854775807) (ai (sumLe (app_le (lit_le _) (addr_le _)) (lit_le _) uu1:(((w69_++(F41 ⟨r1.b,(F11 ⟨r1.b,r1.p⟩ 10).2⟩).1).size+Zb.size:Nat):Int)<=9223372036854775807) (ai (bokr 1 eStr Xr fun _=>rfl) (kc29l r1X r1.b (F41 ⟨r1.b,(F11 ⟨r1.b,r1.p⟩ 10).2⟩).2 Xr uu0 uu0 uu0 uu1 uu1 uu0 uu0 uu1 (fun gv44=>ai (sumLe (app_le (app_le (lit_le _) (addr_le _)) (lit_le _)) (of_le (n:=80) _ _ uu1) uu1:((((w69_++(F41 ⟨r1.b,(F11 ⟨r1.b,r1.p⟩ 10).2⟩).1)++Zb).size+(F29 ⟨r1.b,(F41 ⟨r1.b,(F11 ⟨r1.b,r1.p⟩ 10).2⟩).2⟩ Xr).1.size:Nat):Int)<=9223372036854775807) (ai (sumLe (app_le (app_le (app_le (lit_le _) (addr_le _)) (lit_le _)) (of_le (n:=80) _ _ uu1)) (lit_le _) uu1:(((((w69_++(F41 ⟨r1.b,(F11 ⟨r1.b,r1.p⟩ 10).2⟩).1)++Zb)++(F29 ⟨r1.b,(F41 ⟨r1.b,(F11 ⟨r1.b,r1.p⟩ 10).2⟩).2⟩ Xr).1).size+Zb.size:Nat):Int)<=9223372036854775807) (ai (bokr 1 eStr Xv fun _=>rfl) (kc29l r1X r1.b (F29 ⟨r1.b,(F41 ⟨r1.b,(F11 ⟨r1.b,r1.p⟩ 10).2⟩).2⟩ Xr).2 Xv uu0 uu0 uu0 uu1 uu1 uu0 uu0 uu1 (fun gv45=>ai (sumLe (app_le (app_le (app_le (app_le (lit_le _) (addr_le _)) (lit_le _)) (of_le (n:=80) _ _ uu1)) (lit_le _)) (of_le (n:=80) _ _ uu1) uu1:((((((w69_++(F41 ⟨r1.b,(F11 ⟨r1.b,r1.p⟩ 10).2⟩).1)++Zb)++(F29 ⟨r1.b,(F41 ⟨r1.b,(F11 ⟨r1.b,r1.p⟩ 10).2⟩).2⟩ Xr).1)++Zb).size+(F29 ⟨r1.b,(F29 ⟨r1.b,(F41 ⟨r1.b,(F11 ⟨r1.b,r1.p⟩ 10).2⟩).2⟩ Xr).2⟩ Xv).1.size:Nat):Int)<=9223372036854775807) ((fun hF:((((((w69_++(F41 ⟨r1.b,(F11 ⟨r1.b,r1.p⟩ 10).2⟩).1)++Zb)++(F29 ⟨r1.b,(F41 ⟨r1.b,(F11 ⟨r1.b,r1.p⟩ 10).2⟩).2⟩ Xr).1)++Zb)++(F29 ⟨r1.b,(F29 ⟨r1.b,(F41 ⟨r1.b,(F11 ⟨r1.b,r1.p⟩ 10).2⟩).2⟩ Xr).2⟩ Xv).1),(F29 ⟨r1.b,(F29 ⟨r1.b,(F41 ⟨r1.b,(F11 ⟨r1.b,r1.p⟩ 10).2⟩).2⟩ Xr).2⟩ Xv).2)=(F24 r1)=>ai (Qg (fun r:Za×Int=>(.string r.1:Value)) hF) (ai (ai (Imp.refl (Dat.v (sv r1X))) (ai (Imp.of_eq (Qg (fun r:Za×Int=>Dat.v (vI r.2)) hF)) trivial)) trivial)) (condF h2 (condF h6 (condF h8 (finD hJ0_12 (condF h13 (condF h20 (condF h27 (condF h39 (condT h42 rfl)))))))))))))))))))) (fun h42 _=>ai (bokr 1 eStr Xm fun _=>rfl) (kc29l r1X r1.b (F11 ⟨r1.b,r1.p⟩ 10).2 Xm uu0 uu0 uu0 uu1 uu1 uu0 uu0 uu1 (fun gv46=>ai (sumLe (lit_le _) (of_le (n:=80) _ _ uu1) uu1:((w70_.size+(F29 ⟨r1.b,(F11 ⟨r1.b,r1.p⟩ 10).2⟩ Xm).1.size:Nat):Int)<=9223372036854775807) (ai (sumLe (app_le (lit_le _) (of_le (n:=80) _ _ uu1)) (lit_le _) uu1:(((w70_++(F29 ⟨r1.b,(F11 ⟨r1.b,r1.p⟩ 10).2⟩ Xm).1).size+Zb.size:Nat):Int)<=9223372036854775807) (ai (bokr 1 eStr Xq fun _=>rfl) (kc29l r1X r1.b (F29 ⟨r1.b,(F11 ⟨r1.b,r1.p⟩ 10).2⟩ Xm).2 Xq uu0 uu0 uu0 uu1 uu1 uu0 uu0 uu1 (fun gv47=>ai (sumLe (app_le (app_le (lit_le _) (of_le (n:=80) _ _ uu1)) (lit_le _)) (of_le (n:=80) _ _ uu1) uu1:((((w70_++(F29 ⟨r1.b,(F11 ⟨r1.b,r1.p⟩ 10).2⟩ Xm).1)++Zb).size+(F29 ⟨r1.b,(F29 ⟨r1.b,(F11 ⟨r1.b,r1.p⟩ 10).2⟩ Xm).2⟩ Xq).1.size:Nat):Int)<=9223372036854775807) (ai (sumLe (app_le (app_le (app_le (lit_le _) (of_le (n:=80) _ _ uu1)) (lit_le _)) (of_le (n:=80) _ _ uu1)) (lit_le _) uu1:(((((w70_++(F29 ⟨r1.b,(F11 ⟨r1.b,r1.p⟩ 10).2⟩ Xm).1)++Zb)++(F29 ⟨r1.b,(F29 ⟨r1.b,(F11 ⟨r1.b,r1.p⟩ 10).2⟩ Xm).2⟩ Xq).1).size+Zb.size:Nat):Int)<=9223372036854775807) (kc41l r1X r1.b (F29 ⟨r1.b,(F29 ⟨r1.b,(F11 ⟨r1.b,r1.p⟩ 10).2⟩ Xm).2⟩ Xq).2 uu0 uu0 uu0 uu0 uu0 (fun gv48=>ai (sumLe (app_le (app_le (app_le (app_le (lit_le _) (of_le (n:=80) _ _ uu1)) (lit_le _)) (of_le (n:=80) _ _ uu1)) (lit_le _)) (addr_le _) uu1:((((((w70_++(F29 ⟨r1.b,(F11 ⟨r1.b,r1.p⟩ 10).2⟩ Xm).1)++Zb)++(F29 ⟨r1.b,(F29 ⟨r1.b,(F11 ⟨r1.b,r1.p⟩ 10).2⟩ Xm).2⟩ Xq).1)++Zb).size+(F41 ⟨r1.b,(F29 ⟨r1.b,(F29 ⟨r1.b,(F11 ⟨r1.b,r1.p⟩ 10).2⟩ Xm).2⟩ Xq).2⟩).1.size:Nat):Int)<=9223372036854775807) (ai (sumLe (app_le (app_le (app_le (app_le (app_le (lit_le _) (of_le (n:=80) _ _ uu1)) (lit_le _)) (of_le (n:=80) _ _ uu1)) (lit_le _)) (addr_le _)) (lit_le _) uu1:(((((((w70_++(F29 ⟨r1.b,(F11 ⟨r1.b,r1.p⟩ 10).2⟩ Xm).1)++Zb)++(F29 ⟨r1.b,(F29 ⟨r1.b,(F11 ⟨r1.b,r1.p⟩ 10).2⟩ Xm).2⟩ Xq).1)++Zb)++(F41 ⟨r1.b,(F29 ⟨r1.b,(F29 ⟨r1.b,(F11 ⟨r1.b,r1.p⟩ 10).2⟩ Xm).2⟩ Xq).2⟩).1).size+Zb.size:Nat):Int)<=9223372036854775807) (ai (bokr 1 eStr Xw fun _=>rfl) (kc29l r1X r1.b (F41 ⟨r1.b,(F29 ⟨r1.b,(F29 ⟨r1.b,(F11 ⟨r1.b,r1.p⟩ 10).2⟩ Xm).2⟩ Xq).2⟩).2 Xw uu0 uu0 uu0 uu1 uu1 uu0 uu0 uu1 (fun gv49=>ai (sumLe (app_le (app_le (app_le (app_le (app_le (app_le (lit_le _) (of_le (n:=80) _ _ uu1)) (lit_le _)) (of_le (n:=80) _ _ uu1)) (lit_le _)) (addr_le _)) (lit_le _)) (of_le (n:=80) _ _ uu1) uu1:((((((((w70_++(F29 ⟨r1.b,(F11 ⟨r1.b,r1.p⟩ 10).2⟩ Xm).1)++Zb)++(F29 ⟨r1.b,(F29 ⟨r1.b,(F11 ⟨r1.b,r1.p⟩ 10).2⟩ Xm).2⟩ Xq).1)++Zb)++(F41 ⟨r1.b,(F29 ⟨r1.b,(F29 ⟨r1.b,(F11 ⟨r1.b,r1.p⟩ 10).2⟩ Xm).2⟩ Xq).2⟩).1)++Zb).size+(F29 ⟨r1.b,(F41 ⟨r1.b,(F29 ⟨r1.b,(F29 ⟨r1.b,(F11 ⟨r1.b,r1.p⟩ 10).2⟩ Xm).2⟩ Xq).2⟩).2⟩ Xw).1.size:Nat):Int)<=9223372036854775807) ((fun hF:((((((((w70_++(F29 ⟨r1.b,(F11 ⟨r1.b,r1.p⟩ 10).2⟩ Xm).1)++Zb)++(F29 ⟨r1.b,(F29 ⟨r1.b,(F11 ⟨r1.b,r1.p⟩ 10).2⟩ Xm).2⟩ Xq).1)++Zb)++(F41 ⟨r1.b,(F29 ⟨r1.b,(F29 ⟨r1.b,(F11 ⟨r1.b,r1.p⟩ 10).2⟩ Xm).2⟩ Xq).2⟩).1)++Zb)++(F29 ⟨r1.b,(F41 ⟨r1.b,(F29 ⟨r1.b,(F29 ⟨r1.b,(F11 ⟨r1.b,r1.p⟩ 10).2⟩ Xm).2⟩ Xq).2⟩).2⟩ Xw).1),(F29 ⟨r1.b,(F41 ⟨r1.b,(F29 ⟨r1.b,(F29 ⟨r1.b,(F11 ⟨r1.b,r1.p⟩ 10).2⟩ Xm).2⟩ Xq).2⟩).2⟩ Xw).2)=(F24 r1)=>ai (Qg (fun r:Za×Int=>(.string r.1:Value)) hF) (ai (ai (Imp.refl (Dat.v (sv r1X))) (ai (Imp.of_eq (Qg (fun r:Za×Int=>Dat.v (vI r.2)) hF)) trivial)) trivial)) (condF h2 (condF h6 (condF h8 (finD hJ0_12 (condF h13 (condF h20 (condF h27 (condF h39 (condF h42 rfl))))))))))))))))))))))))))))) j hj)))))) uu2
def LineQ (p:Int) (z:Za×Int):Prop:=z.1.size<=900/\p<=z.2/\z.2<=p+9
theorem dline_j0 (r1:l51Rd):∃ b,F24_j0 r1=Lp.done b:=by
 unfold F24_j0
 cases ((F11 (⟨r1.b,r1.p⟩:l51Rd) 10).1==2)
 ·exact ⟨_,rfl⟩
 ·exact ⟨_,rfl⟩
theorem dline_j1 (r1:l51Rd) (b:Bool):∃ t r2,F24_j1 r1 b=Lp.done (t,r2)/\t.size<=100/\r1.p<=r2/\r2<=r1.p+3:=by
 unfold F24_j1
 cases ((F11 (⟨r1.b,(F11 (⟨r1.b,r1.p⟩:l51Rd) 10).2⟩:l51Rd) 3).1==0)
 ·refine ⟨_,_,rfl,Rj _,?_,?_⟩ <;> (simp only [of_p,pick_p]; omega)
 ·refine ⟨_,_,rfl,?_,?_,?_⟩
  ·exact szLe (app_le (lit_le _) (of_le (n:=80) _ _ uu1)) uu1
  ·simp only [of_p,pick_p]; omega
  ·simp only [of_p,pick_p]; omega
set_option maxHeartbeats 4000000 in
theorem dline_all (r1:l51Rd):LineQ r1.p (F24 r1):=by
 obtain ⟨b,hb⟩:=dline_j0 r1
 obtain ⟨t,r2,ht,h1,h2,h3⟩:=dline_j1 r1 b
 unfold F24
 rw [hb]
 simp only [Lp.fin]
 rw [ht]
 simp only [Lp.fin]
 repeat' apply cond_P (P:=LineQ r1.p)
 all_goals refine ⟨?_,?_,?_⟩
 all_goals first
  | (simp only [of_p,pick_p,prefix_p,addr_p]; omega)
  | (apply szLe; (· repeat (first | exact h1 | apply app_le | apply condS_le | exact of_le (n:=80) _ _ uu1 | exact prefix_le _ | exact addr_le _ | exact lit_le _)); decide)
theorem dline_q (r1:l51Rd) (h0:0<=r1.p) (h1:r1.p<=900000000):(F24 r1).1.size<=900/\r1.p<=(F24 r1).2/\(F24 r1).2<=r1.p+9:=dline_all r1
def F27 (lines:List Za) (k:Int):List Za :=
 ((([]:List Za)++(lines.take (Int.toNat k)))++(lines.drop (Int.toNat (k+1))))
theorem fi27 (lines:List Za) (k:Int) (r:List Za) (hF:r=(F27 lines k)):(Imp (.l 1 eStr r) (.l 1 eStr (F27 lines k)))/\True:=by cases hF; exact ⟨Imp.refl _,trivial⟩
def S27 (lines:List Za) (k:Int):Spec:=⟨[.r (.c (.l 1 eStr lines)),.r (.c (.v (vI k)))],.ow (.l 1 eStr (F27 lines k)),0<=k/\k<(lines.length:Int)/\lines.length<=1048576⟩
theorem ok27 (lines:List Za) (k:Int):(S27 lines k).ok Tryz.prog 27 :=
 fnG_ok mixed (fn:=Tryz.f27) (ct:=.seqk [(0,0)] .no (.seq (.reg [(0,.dat (.l 1 eStr ([]:List Za))),(4,.dat (.l 1 eStr (([]:List Za)++(lines.take (Int.toNat k))))),(7,.bnd),(9,.dat (.l 1 eStr ((([]:List Za)++(lines.take (Int.toNat k)))++(lines.drop (Int.toNat (k+1))))))]) .no)) Tryz.func27 (fun (hp:0<=k/\k<(lines.length:Int)/\lines.length<=1048576)=>have hpre0:=hp.1; have hpre1:=hp.2.1; have hpre2:=hp.2.2; kn lines fun _=>ai (bokr 1 eStr ([]:List Za) fun _=>rfl) (ai (uu3:0<=(0:Int)/\(0:Int)<=k/\k<=(lines.length:Int)) (ai (AppL.mk eStr ([]:List Za) (lines.take (Int.toNat k)) (Imp.refl (.l 1 eStr ([]:List Za))) ir (fun y=>⟨rfl,fun e he=>by simp only [eStr,Qr,Rd,Tu] at he; rcases he with rfl <;> exact ⟨_,rfl⟩⟩):AppL (.l 1 eStr ([]:List Za)) (.l 1 eStr (lines.take (Int.toNat k))) 1 (.l 1 eStr (([]:List Za)++(lines.take (Int.toNat k))))) (ai (uu16:(([]:List Za)++(lines.take (Int.toNat k))).length*16<=140737488355328) (ai (iok (k+1) uu3) (ai (uu3:0<=(k+1)/\(k+1)<=(lines.length:Int)/\(lines.length:Int)<=(lines.length:Int)) (ai (AppL.mk eStr (([]:List Za)++(lines.take (Int.toNat k))) (lines.drop (Int.toNat (k+1))) (Imp.refl (.l 1 eStr (([]:List Za)++(lines.take (Int.toNat k))))) ir (fun y=>⟨rfl,fun e he=>by simp only [eStr,Qr,Rd,Tu] at he; rcases he with rfl <;> exact ⟨_,rfl⟩⟩):AppL (.l 1 eStr (([]:List Za)++(lines.take (Int.toNat k)))) (.l 1 eStr (lines.drop (Int.toNat (k+1)))) 1 (.l 1 eStr ((([]:List Za)++(lines.take (Int.toNat k)))++(lines.drop (Int.toNat (k+1)))))) (ai (uu16:((([]:List Za)++(lines.take (Int.toNat k)))++(lines.drop (Int.toNat (k+1)))).length*16<=140737488355328) (fi27 lines k ((([]:List Za)++(lines.take (Int.toNat k)))++(lines.drop (Int.toNat (k+1)))) rfl))))))))) uu2
def F28 (list:List Za):List Za :=
 (([]:List Za)++list)
theorem fi28 (list:List Za) (r:List Za) (hF:r=(F28 list)):(Imp (.l 1 eStr r) (.l 1 eStr (F28 list)))/\True:=by cases hF; exact ⟨Imp.refl _,trivial⟩
def S28 (R:List Za) (list:List Za):Spec:=⟨[.r (.c (.l 1 eStr list))],.ow (.l 1 eStr R),list.length<=1000000000⟩
theorem ok28 (list:List Za):(S28 (F28 list) list).ok Tryz.prog 28 :=
 fnG_ok mixed (fn:=Tryz.f28) (ct:=.seqk [(0,0)] .no (.seq (.reg [(0,.dat (.l 1 eStr ([]:List Za))),(2,.dat (.l 1 eStr (([]:List Za)++list)))]) .no)) Tryz.func28 (fun (hpre0:list.length<=1000000000)=>kn list fun _=>ai (bokr 1 eStr ([]:List Za) fun _=>rfl) (ai (AppL.mk eStr ([]:List Za) list (Imp.refl (.l 1 eStr ([]:List Za))) ir (fun y=>⟨rfl,fun e he=>by simp only [eStr,Qr,Rd,Tu] at he; rcases he with rfl <;> exact ⟨_,rfl⟩⟩):AppL (.l 1 eStr ([]:List Za)) (.l 1 eStr list) 1 (.l 1 eStr (([]:List Za)++list))) (ai (uu16:(([]:List Za)++list).length*16<=140737488355328) (fi28 list (([]:List Za)++list) rfl)))) uu2
theorem as28 (list:List Za):F28 list=(list):=by
 rfl
theorem oa28 (list:List Za):(S28 (list) list).ok Tryz.prog 28:=by
 intro hp; have h:=ok28 list hp; rw [as28 list] at h; exact h
theorem without_eq (lines:List Za) (k:Int) (h0:0<=k) (h1:k<(lines.length:Int)) (hl:lines.length<=1048576):F27 lines k=lines.take k.toNat++lines.drop (k.toNat+1):=by
 unfold F27
 rw [Sh,show Int.toNat (k+1)=k.toNat+1 by omega]
theorem without_len (lines:List Za) (k:Int) (h0:0<=k) (h1:k<(lines.length:Int)) (hl:lines.length<=1048576):(F27 lines k).length+1=lines.length:=by
 rw [without_eq lines k h0 h1 hl,Q6,R4,To]; omega
theorem without_mem {lines:List Za} {k:Int} {z:Za} (h:z∈F27 lines k):z∈lines:=by
 unfold F27 at h
 rw [Sh] at h
 rcases Q1.1 h with h | h
 ·exact T7 h
 ·exact T8 h
theorem without_szN {lines:List Za} {n:Nat} (k:Int) (h:∀ q:Nat,(lines.getD q default).size<=n):∀ q:Nat,((F27 lines k).getD q default).size<=n:=getD_sz fun x hx=>mem_sz h (without_mem hx)
theorem without_sz (lines:List Za) (k:Int) (h:∀ q:Nat,(lines.getD q default).size<=1048576):∀ q:Nat,((F27 lines k).getD q default).size<=1048576:=without_szN k h
theorem put_szN {lines:List Za} {line:Za} {n:Nat} (h:∀ q:Nat,(lines.getD q default).size<=n) (hl:line.size<=n):∀ q:Nat,((F22 lines line).getD q default).size<=n:=getD_sz fun x hx=>by
 obtain ⟨k,_,e,_⟩:=put_eq lines line
 rw [e] at hx
 rcases Q1.1 hx with hx | hx
 ·exact mem_sz h (T7 hx)
 ·rcases Qr.1 hx with rfl | hx
  ·exact hl
  ·exact mem_sz h (T8 hx)
theorem pick_lt (b:List Int) (p n:Int) (h0:0<=p) (h1:p<=1000000000) (hn:1<=n):(F11 (⟨b,p⟩:l51Rd) n).1<n:=(pick_in (⟨b,p⟩:l51Rd) n h0 h1).2.1 hn
def CQ (xs:List Za):Prop:=F64 xs=0/\∀ q:Nat,(xs.getD q default).size<=900
def LQ (xs:List Za):Prop:=xs.length<=17/\∀ q:Nat,(xs.getD q default).size<=900
def LS (xs:List Za):Prop:=xs.length<=40/\∀ q:Nat,(xs.getD q default).size<=1000
theorem cq_len {xs:List Za} (h:CQ xs):xs.length<=16:=check_len xs h.1
theorem cq_sz {xs:List Za} (h:CQ xs):∀ q:Nat,(xs.getD q default).size<=1048576:=fun q=>Q0 (h.2 q) uu1
theorem lq_len {xs:List Za} (h:LQ xs):xs.length<=17:=h.1
theorem lq_sz {xs:List Za} (h:LQ xs):∀ q:Nat,(xs.getD q default).size<=1048576:=fun q=>Q0 (h.2 q) uu1
theorem ls_sz {xs:List Za} (h:LS xs):∀ q:Nat,(xs.getD q default).size<=1048576:=fun q=>Q0 (h.2 q) uu1
theorem cq_lq {xs:List Za} (h:CQ xs):LQ xs:=⟨Q0 (cq_len h) uu1,h.2⟩
theorem lq_ls {xs:List Za} (h:LQ xs):LS xs:=⟨Q0 h.1 uu1,fun q=>Q0 (h.2 q) uu1⟩
theorem without_lq {xs:List Za} {k:Int} (h:LQ xs) (h0:0<=k) (h1:k<(xs.length:Int)):LQ (F27 xs k) :=
 ⟨by have:=without_len xs k h0 h1 (Q0 h.1 uu1); have:=h.1; omega,without_szN k h.2⟩
theorem put_lq {xs:List Za} {line:Za} (h:LQ xs) (hl:(xs.length:Int)<17) (hz:line.size<=900):LQ (F22 xs line):=⟨by rw [put_len]; omega,put_szN h.2 hz⟩
end Go.Proofs.YtpeklolpimhioaaGreatDoor
