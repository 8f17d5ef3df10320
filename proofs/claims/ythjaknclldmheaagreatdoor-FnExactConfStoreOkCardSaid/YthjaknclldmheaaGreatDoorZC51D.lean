/- A part of the proof of FnExactConfStoreOk. Texts put together: PK0, VK, PK1, VK2, PK2, PLP, VN0, PN0, VN, PN1N, PCK0, VCKA, PCKB, VCKC, VCKD, PCE0, PCE1, PCE2, PCHA, VCH. -/
import Derived.Test.YthjaknclldmheaaGreatDoorRows
import Derived.Test.YthjaknclldmheaaGreatDoorZC51C
namespace Go.Proofs.YthjaknclldmheaaGreatDoor
open Go.RowKit
set_option maxRecDepth 100000
set_option linter.unusedVariables false
set_option linter.unusedSimpArgs false
def Qjz (w:List Za):Prop:=(w.getD 0 default).data.toList=[104,111,115,116]/\w.length=2/\F28 (w.getD 1 default)=true
def Ve (w:List Za):Prop:=(w.getD 0 default).data.toList=[117,115,101,114]/\w.length=3/\F28 (w.getD 1 default)=true/\F200 (w.getD 2 default)=true
def Xy (w:List Za):Prop:=(w.getD 0 default).data.toList=[112,111,114,116]/\(w.length=3\/w.length=5/\(w.getD 3 default).data.toList=[105,110]/\F28 (w.getD 4 default)=true)/\0<=F194 (w.getD 1 default)/\F194 (w.getD 1 default)<=7/\F202 (w.getD 2 default)=true
def Jw (w:List Za):Prop:=(w.getD 0 default).data.toList=[114,117,108,101]/\w.length=7/\F28 (w.getD 1 default)=true/\0<=F194 (w.getD 2 default)/\F194 (w.getD 2 default)<=99/\((w.getD 3 default).data.toList=[112,101,114,109,105,116]\/(w.getD 3 default).data.toList=[100,101,110,121])/\F202 (w.getD 4 default)=true/\F202 (w.getD 5 default)=true/\0<=F194 (w.getD 6 default)/\F194 (w.getD 6 default)<=7
def Bg (w:List Za):Prop:=(w.getD 0 default).data.toList=[114,111,117,116,101]/\w.length=3/\F202 (w.getD 1 default)=true/\F191 (w.getD 2 default)>=0
def En (w:List Za):Prop:=(w.getD 0 default).data.toList=[112,101,101,114]/\w.length=4/\F191 (w.getD 1 default)>=0/\1<=F194 (w.getD 2 default)/\F194 (w.getD 2 default)<=9/\1<=F194 (w.getD 3 default)/\F194 (w.getD 3 default)<=999999
def natP (w:List Za):Prop:=(w.getD 0 default).data.toList=[110,97,116]/\w.length=5/\F202 (w.getD 1 default)=true/\F191 (w.getD 2 default)>=0/\1<=F194 (w.getD 3 default)/\F194 (w.getD 3 default)<=65535/\1<=F194 (w.getD 4 default)/\F194 (w.getD 4 default)<=65535
def Hl (w:List Za):Prop:=(w.getD 0 default).data.toList=[100,111,111,114]/\w.length=5/\1<=F194 (w.getD 1 default)/\F194 (w.getD 1 default)<=7/\1<=F194 (w.getD 2 default)/\F194 (w.getD 2 default)<=65535/\F191 (w.getD 3 default)>=0/\1<=F194 (w.getD 4 default)/\F194 (w.getD 4 default)<=65535
def Vg (w:List Za):Prop:=Qjz w\/Ve w\/Xy w\/Jw w\/Bg w\/En w\/natP w\/Hl w
theorem Qqm (w:List Za) (hF:F173 w=true):Vg w:=by
 have hw:w.length≠0:=fun h=>by
  obtain rfl:=Rx h
  exact Tg hF
 have h0:((w.length:Int)==0)=false:=by rw [Qz]; omega
 have e0:w.getD (Int.toNat 0) default=w.getD 0 default:=rfl
 have e1:w.getD (Int.toNat 1) default=w.getD 1 default:=rfl
 have e2:w.getD (Int.toNat 2) default=w.getD 2 default:=rfl
 have e3:w.getD (Int.toNat 3) default=w.getD 3 default:=rfl
 have e4:w.getD (Int.toNat 4) default=w.getD 4 default:=rfl
 have e5:w.getD (Int.toNat 5) default=w.getD 5 default:=rfl
 have e6:w.getD (Int.toNat 6) default=w.getD 6 default:=rfl
 have n2:=Jn w 2
 have n3:=Jn w 3
 have n4:=Jn w 4
 have n5:=Jn w 5
 have n7:=Jn w 7
 simp only [Int.cast_ofNat_Int] at n2 n3 n4 n5 n7
 unfold F173 at hF
 simp only [h0,Qe,e0,e1,e2,e3,e4,e5,e6,n2,n3,n4,n5,n7] at hF
 rcases Rn ((w.getD 0 default).data.toList=[104,111,115,116]) with h | hn0
 ·simp only [blit,h,hd00,Qc,Qe,cb1,cb2,Qo,Ta,Ry,Sy,and_assoc] at hF
  exact Or.inl ⟨h,hF⟩
 rcases Rn ((w.getD 0 default).data.toList=[117,115,101,114]) with h | hn1
 ·simp only [blit,h,hd10,hd11,Qc,Qe,cb1,cb2,Qo,Ta,Ry,Sy,and_assoc] at hF
  exact Or.inr (Or.inl ⟨h,hF⟩)
 rcases Rn ((w.getD 0 default).data.toList=[112,111,114,116]) with h | hn2
 ·simp only [blit,h,hd20,hd21,hd22,Qc,Qe,cb1,cb2,Qo,Ta,Ry,Sy,and_assoc] at hF
  exact Or.inr (Or.inr (Or.inl ⟨h,hF⟩))
 rcases Rn ((w.getD 0 default).data.toList=[114,117,108,101]) with h | hn3
 ·simp only [blit,h,hd30,hd31,hd32,hd33,Qc,Qe,cb1,cb2,Qo,Ta,Ry,Sy,and_assoc] at hF
  exact Or.inr (Or.inr (Or.inr (Or.inl ⟨h,hF⟩)))
 rcases Rn ((w.getD 0 default).data.toList=[114,111,117,116,101]) with h | hn4
 ·simp only [blit,h,hd40,hd41,hd42,hd43,hd44,Qc,Qe,cb1,cb2,Qo,Ta,Ry,Sy,and_assoc] at hF
  exact Or.inr (Or.inr (Or.inr (Or.inr (Or.inl ⟨h,hF⟩))))
 rcases Rn ((w.getD 0 default).data.toList=[112,101,101,114]) with h | hn5
 ·simp only [blit,h,hd50,hd51,hd52,hd53,hd54,hd55,Qc,Qe,cb1,cb2,Qo,Ta,Ry,Sy,and_assoc] at hF
  exact Or.inr (Or.inr (Or.inr (Or.inr (Or.inr (Or.inl ⟨h,hF⟩)))))
 rcases Rn ((w.getD 0 default).data.toList=[110,97,116]) with h | hn6
 ·simp only [blit,h,hd60,hd61,hd62,hd63,hd64,hd65,hd66,Qc,Qe,cb1,cb2,Qo,Ta,Ry,Sy,and_assoc] at hF
  exact Or.inr (Or.inr (Or.inr (Or.inr (Or.inr (Or.inr (Or.inl ⟨h,hF⟩))))))
 rcases Rn ((w.getD 0 default).data.toList=[100,111,111,114]) with h | hn7
 ·simp only [blit,h,hd70,hd71,hd72,hd73,hd74,hd75,hd76,hd77,Qc,Qe,cb1,cb2,Qo,Ta,Ry,Sy,and_assoc] at hF
  exact Or.inr (Or.inr (Or.inr (Or.inr (Or.inr (Or.inr (Or.inr (⟨h,hF⟩)))))))
 exfalso
 simp only [blit,Qz.2 hn0,Qz.2 hn1,Qz.2 hn2,Qz.2 hn3,Qz.2 hn4,Qz.2 hn5,Qz.2 hn6,Qz.2 hn7,Qe] at hF
 exact Tg hF
theorem Hr (w:List Za) (h:Vg w):2<=w.length/\w.length<=7:=by
 unfold Vg Qjz Ve Xy Jw Bg En natP Hl at h
 omega
theorem Qcy (w:List Za) (h:Vg w):1<=keyN (w.getD 0 default).data.toList/\keyN (w.getD 0 default).data.toList<=3/\keyN (w.getD 0 default).data.toList<=(w.length:Int):=by
 rcases h with h | h | h | h | h | h | h | h
 ·have hk:keyN (w.getD 0 default).data.toList=1:=by rw [h.1]; decide
  unfold Qjz at h
  omega
 ·have hk:keyN (w.getD 0 default).data.toList=2:=by rw [h.1]; decide
  unfold Ve at h
  omega
 ·have hk:keyN (w.getD 0 default).data.toList=2:=by rw [h.1]; decide
  unfold Xy at h
  omega
 ·have hk:keyN (w.getD 0 default).data.toList=3:=by rw [h.1]; decide
  unfold Jw at h
  omega
 ·have hk:keyN (w.getD 0 default).data.toList=3:=by rw [h.1]; decide
  unfold Bg at h
  omega
 ·have hk:keyN (w.getD 0 default).data.toList=2:=by rw [h.1]; decide
  unfold En at h
  omega
 ·have hk:keyN (w.getD 0 default).data.toList=1:=by rw [h.1]; decide
  unfold natP at h
  omega
 ·have hk:keyN (w.getD 0 default).data.toList=3:=by rw [h.1]; decide
  unfold Hl at h
  omega
theorem Qkh (c:UInt8):∀ (l:List UInt8),∀ w∈Uz c l,c ∉ w
 | [],w,h=>by rw [Uz,Qw] at h; rw [h]; exact Rv
 | b :: l,w,h=>by
  have ih:=Qkh c l
  rw [Uz] at h
  by_cases hb:b=c
  ·rw [if_pos hb] at h
   rcases Qu.1 h with rfl | h
   ·exact Rv
   ·exact ih w h
  ·rw [if_neg hb] at h
   have hbc:¬ c=b:=fun e=>hb e.symm
   cases hs:Uz c l with
   | nil =>
    rw [hs] at h
    rw [Qw] at h; rw [h]
    intro hm; rcases Qu.1 hm with e | e
    ·exact hbc e
    ·cases e
   | cons p ps =>
    rw [hs] at h ih
    rcases Qu.1 h with rfl | h
    ·intro hm; rcases Qu.1 hm with e | e
     ·exact hbc e
     ·exact ih p Ql e
    ·exact ih w (Qi _ h)
theorem Qgi (c:UInt8):∀ (ws:List (List UInt8)),ws≠[]->(∀ w∈ws,c ∉ w)->Uz c (Lib.join ws [c])=ws
 | [],h,_=>absurd rfl h
 | [x],_,h=>by rw [Lib.join_one,Yx (h x Ql)]
 | x :: y :: r,_,h=>by
  have ih:=Qgi c (y :: r) uu16 fun w hw=>h w (Qi _ hw)
  rw [Lib.join_cons]
  have e:Lib.joinTail [c] (y :: r)=c :: Lib.join (y :: r) [c]:=by rw [Lib.join_cons]; rfl
  rw [e,Ki _ (h x Ql),ih]
theorem Qtw (line:Za):∀ w∈(F64 line).1,(32:UInt8) ∉ w.data.toList/\w.data.toList≠[]/\w.size<=24:=by
 rw [Qdy]
 unfold Xm fitW
 cases h:(((cut3 line Zk).1.data.toList.all okB)&&(decide ((Yh (cut3 line Zk).1.data.toList).length<=8)&&(Yh (cut3 line Zk).1.data.toList).all fun w=>decide (w.length<=24))) with
 | false=>intro w hw; rw [Qe] at hw; cases hw
 | true =>
  rw [Qc]
  simp only [Qo] at h
  intro w hw
  obtain ⟨l,hl,rfl⟩:=Si.1 hw
  have h1:=Qb (Rc.1 h.2.2 l hl)
  have h2:=Tm.1 hl
  refine ⟨Qkh 32 _ l h2.1,?_,h1⟩
  intro e
  have e':l=[]:=e
  rw [e'] at h2
  exact Tg h2.2
structure Uga (line:Za) (w:List Za):Prop where
 words:F64 line=(w,true)
 form:Vg w
 joins:Ku w Ze=line
 splits:Uv line Ze=w
 no:∀ x∈w,(32:UInt8) ∉ x.data.toList/\x.data.toList≠[]/\x.size<=24
theorem Qqo (w:List Za) (h0:w≠[]) (h:∀ x∈w,(32:UInt8) ∉ x.data.toList):Uv (Ku w Ze) Ze=w:=by
 rw [Qcg]
 have e:(Ku w Ze).data.toList=Lib.join (w.map (·.data.toList)) [32]:=rfl
 rw [e,Qgi 32 _ (by simpa using h0) (fun x hx=>by obtain ⟨y,hy,rfl⟩:=Si.1 hx; exact h y hy),Gn]
 exact (T2 fun x _=>Qhd x).trans (G5 _)
theorem Qco (line:Za):F132 line=bif (F64 line).2&&F173 (F64 line).1 then (Ku (F64 line).1 Ze,true) else (Zi,false):=by
 unfold F132
 rw [Qct]
 cases (F64 line).2 <;> cases F173 (F64 line).1 <;> rfl
theorem Qcb (a b:Za):(a.toList==b.toList)=decide (a=b):=by
 rw [Yd,Yd]
 by_cases h:a=b
 ·rw [h,Qs rfl]; simp
 ·rw [Qk h,Qz]; exact fun e=>h (Bw e)
theorem Ujw (line:Za) (h:(F132 line).2=true/\(F132 line).1=line):Uga line (F64 line).1:=by
 rw [Qco] at h
 cases hc:((F64 line).2&&F173 (F64 line).1) with
 | false=>rw [hc,Qe] at h; exact absurd h.1 Tg
 | true =>
  rw [hc,Qc] at h
  simp only [Qo] at hc
  have hf:=Qqm _ hc.2
  have hn:=Qtw line
  refine ⟨Prod.ext rfl hc.1,hf,h.2,?_,hn⟩
  have hne:(F64 line).1≠[]:=fun e=>by have:=(Hr _ hf).1; rw [e] at this; simp at this
  have:=Qqo _ hne fun x hx=>(hn x hx).1
  have e:Ku (F64 line).1 Ze=line:=h.2
  rwa [e] at this
theorem kc99 (line:Za) {K_:Prop} (p0_:line.size<=1048576) (k_:K_):(line.size<=1048576)/\(Imp (.v (.string line)) (.v (.string line)))/\K_:=⟨p0_,Imp.refl _,k_⟩
abbrev kh99 (line:Za):Hint false Tryz.prog:=.call 99 (S99 line) (ok99 line) none
def F69 (line:Za):Bool :=
 (bif (F99 line).2 then ((F99 line).1.toList==line.toList) else false)
def S69 (line:Za):Spec:=⟨[.r (.c (.v (.string line)))],.v (.bool (F69 line)),line.size<=1048576⟩
theorem ok69 (line:Za):(S69 line).ok Tryz.prog 69 false :=
 Ue mixed (fn:=Tryz.f69) (ct:=.seq .no (.seq (.reg [(1,kh99 line)]) (.seq .no .no))) Tryz.func69 (fun (hpre0:line.size<=1048576)=>kc99 line uu0 (fiB (bif (F99 line).2 then ((F99 line).1.toList==line.toList) else false) (F69 line) rfl)) uu1
theorem kc132 (line:Za) {K_:Prop} (p0_:line.size<=1048576) (k_:K_):(line.size<=1048576)/\(Imp (.v (.string line)) (.v (.string line)))/\K_:=⟨p0_,Imp.refl _,k_⟩
abbrev kh132 (line:Za):Hint true Tryz.prog:=.call 132 (S132 line) (ok132 line) none
def F98 (line:Za):Bool :=
 (bif (F132 line).2 then ((F132 line).1.toList==line.toList) else false)
def S98 (line:Za):Spec:=⟨[.r (.c (.v (.string line)))],.v (.bool (F98 line)),line.size<=1048576⟩
theorem ok98 (line:Za):(S98 line).ok Tryz.prog 98 :=
 Ue mixed (fn:=Tryz.f98) (ct:=.seq .no (.seq (.reg [(1,kh132 line)]) (.seq .no .no))) Tryz.func98 (fun (hpre0:line.size<=1048576)=>kc132 line uu0 (fiB (bif (F132 line).2 then ((F132 line).1.toList==line.toList) else false) (F98 line) rfl)) uu1
theorem Bs (line:Za):F69 line=F98 line:=by
 unfold F69 F98
 rw [Qzs]
theorem Qos (line:Za):F98 line=true↔(F132 line).2=true/\(F132 line).1=line:=by
 unfold F98
 rw [cb1,Qcb,Qo,Ry]
theorem Ms (line:Za) (h:F98 line=true):Uga line (F64 line).1:=Ujw line ((Qos line).1 h)
theorem not_false {b:Bool} (h:(!b)=false):b=true:=by cases b; exact h.symm; rfl
theorem kix_n (line:Za) (hk:(!F98 line)=false):(2:Int)<=((F64 line).1.length:Int):=by
 have:=(Hr _ (Ms line (not_false hk)).form).1; omega
theorem kix0 (line:Za) (hk:(!F98 line)=false):(0:Int)<=0/\(0:Int)<((F64 line).1.length:Int):=by have:=kix_n line hk; omega
theorem kix1 (line:Za) (hk:(!F98 line)=false):(0:Int)<=1/\(1:Int)<((F64 line).1.length:Int):=by have:=kix_n line hk; omega
theorem Ubn (line:Za) (hk:(!F98 line)=false) (h:(((F64 line).1.getD (Int.toNat 0) default).toList==Zf.toList)=true):(0:Int)<=2/\(2:Int)<((F64 line).1.length:Int):=by
 have hf:=(Ms line (not_false hk)).form
 rw [blit,Sy] at h
 have h:((F64 line).1.getD 0 default).data.toList=[114,117,108,101]:=h
 unfold Vg Qjz Ve Xy Jw Bg En natP Hl at hf
 simp only [h] at hf
 simp at hf
 omega
theorem Ufn (line:Za) (hk:(!F98 line)=false) (h:(((F64 line).1.getD (Int.toNat 0) default).toList==Zb.toList)=true):(0:Int)<=2/\(2:Int)<((F64 line).1.length:Int):=by
 have hf:=(Ms line (not_false hk)).form
 rw [blit,Sy] at h
 have h:((F64 line).1.getD 0 default).data.toList=[100,111,111,114]:=h
 unfold Vg Qjz Ve Xy Jw Bg En natP Hl at hf
 simp only [h] at hf
 simp at hf
 omega
theorem Uax (line:Za) (h:F98 line=true):F173 (F64 line).1=true:=by
 have:=((Qos line).1 h).1
 rw [Qco] at this
 cases hc:F173 (F64 line).1 with
 | true=>rfl
 | false=>rw [hc,Sa,Qe] at this; exact this
theorem Qcd (line:Za) (h:F98 line=true):(F71 (F70 line Ze)).1.key=keyN (((F64 line).1.getD 0 default).data.toList)/\F70 line Ze=(F64 line).1:=by
 have hk:=Ms line h
 have e:F70 line Ze=(F64 line).1:=hk.splits
 rw [e]
 obtain ⟨f1,f2⟩:=Qjc (F64 line).1
 exact ⟨f2 (f1.trans (Uax line h)),rfl⟩
theorem Ucy (line:Za) (h:F69 line=true):0<=((F71 (F70 line Ze)).1).key/\((F71 (F70 line Ze)).1).key<=((F70 line Ze).length:Int):=by
 rw [Bs] at h
 obtain ⟨k1,k2⟩:=Qcd line h
 have:=Qcy _ (Ms line h).form
 rw [k1,k2]
 omega
theorem Uex (line:Za) (h:line.size<=1048576):∀ k:Nat,((F70 line Ze).getD k default).size<=1048576:=fun k=>by
 show ((Uv line Ze).getD k default).size<=1048576
 rw [Qcg]
 refine Qhf _ _ (fun w hw=>?_) k
 have:=Qcc 32 _ w hw
 have hl:line.data.toList.length=line.size:=Q8
 omega
theorem Qzr (ws:List Za) (n m:Nat) (h:∀ k:Nat,(ws.getD k default).size<=m) (k:Nat):((ws.take n).getD k default).size<=m:=by
 rw [Qd,Rd]
 by_cases hk:k<n
 ·rw [if_pos hk,<- Qd]; exact h k
 ·rw [if_neg hk]; exact Qy _
theorem Qin (line:Za) (hk:(!F69 line)=false) :
  ((F70 line Ze).take (Int.toNat (((F71 (F70 line Ze)).1).key))).length<=140737488355328 /\
  (Ku ((F70 line Ze).take (Int.toNat (((F71 (F70 line Ze)).1).key))) Ze).size<=140737488355328:=by
 have h:=not_false hk
 rw [Bs] at h
 obtain ⟨k1,k2⟩:=Qcd line h
 rw [k2]
 have hl:(((F64 line).1).take (Int.toNat (((F71 ((F64 line).1)).1).key))).length<=8:=by
  rw [R4]
  have:=Mr line
  omega
 exact ⟨Q5 hl uu2,Qfe _ _ (Qzr _ _ _ (Vj line)) hl uu2⟩
theorem kc69 (line:Za) {K_:Prop} (p0_:line.size<=1048576) (k_:K_):(line.size<=1048576)/\(Imp (.v (.string line)) (.v (.string line)))/\K_:=⟨p0_,Imp.refl _,k_⟩
abbrev kh69 (line:Za):Hint false Tryz.prog:=.call 69 (S69 line) (ok69 line) none
def F40 (line:Za):Za :=
 bif (!(F69 line)) then Zi else (F72 ((F70 line Ze).take (F71 (F70 line Ze)).1.key.toNat) Ze)
def S40 (line:Za):Spec:=⟨[.r (.c (.v (.string line)))],.v (.string (F40 line)),line.size<=1048576⟩
theorem ok40 (line:Za):(S40 line).ok Tryz.prog 40 false :=
 Ue mixed (fn:=Tryz.f40) (ct:=.seq .no (.seq (.seq (.reg [(1,kh69 line)]) (.cond (.seq .no .no) .no)) (.seq (.reg [(1,kh70f line Ze)]) (.seq (.reg [(1,kh71 (F70 line Ze))]) (.seq (.reg [(4,kh72 ((F70 line Ze).take (F71 (F70 line Ze)).1.key.toNat) Ze)]) .no))))) Tryz.func40 (fun (hpre0:line.size<=1048576)=>kc69 line uu0 (ifb (!(F69 line)) (fun h1=>fiS Zi (F40 line) (condT h1 rfl)) (fun h1=>have _:0<=(F71 (F70 line Ze)).1.key/\(F71 (F70 line Ze)).1.key<=((F70 line Ze).length:Int):=Ucy line (Uw h1); kc70 line Ze uu0 uu2 uu2 uu2 (fun gv2 gv3=>kc71 (F70 line Ze) (by exact Uex line (by omega)) (ai (uu0:0<=(0:Int)/\(0:Int)<=(F71 (F70 line Ze)).1.key/\(F71 (F70 line Ze)).1.key<=((F70 line Ze).length:Int)) (kc72 ((F70 line Ze).take (F71 (F70 line Ze)).1.key.toNat) Ze (by exact (Qin _ (by assumption)).1) (by exact (Qin _ (by assumption)).2) (fiS (F72 ((F70 line Ze).take (F71 (F70 line Ze)).1.key.toNat) Ze) (F40 line) (condF h1 rfl)))))))) uu1
theorem kc98 (line:Za) {K_:Prop} (p0_:line.size<=1048576) (k_:K_):(line.size<=1048576)/\(Imp (.v (.string line)) (.v (.string line)))/\K_:=⟨p0_,Imp.refl _,k_⟩
abbrev kh98 (line:Za):Hint true Tryz.prog:=.call 98 (S98 line) (ok98 line) none
def F68 (line:Za):Za :=
 bif (!(F98 line)) then Zi else (bif (((F64 line).1.getD (Int.toNat 0) default).toList==Zl.toList) then (bif (((F64 line).1.getD (Int.toNat 0) default).toList==Zl.toList) then ((F64 line).1.getD (Int.toNat 0) default) else (bif (((F64 line).1.getD (Int.toNat 0) default).toList==Zj.toList) then (bif (((F64 line).1.getD (Int.toNat 0) default).toList==Zj.toList) then ((((F64 line).1.getD (Int.toNat 0) default)++Ze)++((F64 line).1.getD (Int.toNat 1) default)) else (bif (((F64 line).1.getD (Int.toNat 0) default).toList==Zf.toList) then (bif (((F64 line).1.getD (Int.toNat 0) default).toList==Zf.toList) then ((((((F64 line).1.getD (Int.toNat 0) default)++Ze)++((F64 line).1.getD (Int.toNat 1) default))++Ze)++((F64 line).1.getD (Int.toNat 2) default)) else line) else (bif (((F64 line).1.getD (Int.toNat 0) default).toList==Zb.toList) then ((((((F64 line).1.getD (Int.toNat 0) default)++Ze)++((F64 line).1.getD (Int.toNat 1) default))++Ze)++((F64 line).1.getD (Int.toNat 2) default)) else line))) else (bif (((F64 line).1.getD (Int.toNat 0) default).toList==Zd.toList) then (bif (((F64 line).1.getD (Int.toNat 0) default).toList==Zd.toList) then ((((F64 line).1.getD (Int.toNat 0) default)++Ze)++((F64 line).1.getD (Int.toNat 1) default)) else (bif (((F64 line).1.getD (Int.toNat 0) default).toList==Zf.toList) then (bif (((F64 line).1.getD (Int.toNat 0) default).toList==Zf.toList) then ((((((F64 line).1.getD (Int.toNat 0) default)++Ze)++((F64 line).1.getD (Int.toNat 1) default))++Ze)++((F64 line).1.getD (Int.toNat 2) default)) else line) else (bif (((F64 line).1.getD (Int.toNat 0) default).toList==Zb.toList) then ((((((F64 line).1.getD (Int.toNat 0) default)++Ze)++((F64 line).1.getD (Int.toNat 1) default))++Ze)++((F64 line).1.getD (Int.toNat 2) default)) else line))) else (bif (((F64 line).1.getD (Int.toNat 0) default).toList==Zg.toList) then ((((F64 line).1.getD (Int.toNat 0) default)++Ze)++((F64 line).1.getD (Int.toNat 1) default)) else (bif (((F64 line).1.getD (Int.toNat 0) default).toList==Zf.toList) then (bif (((F64 line).1.getD (Int.toNat 0) default).toList==Zf.toList) then ((((((F64 line).1.getD (Int.toNat 0) default)++Ze)++((F64 line).1.getD (Int.toNat 1) default))++Ze)++((F64 line).1.getD (Int.toNat 2) default)) else line) else (bif (((F64 line).1.getD (Int.toNat 0) default).toList==Zb.toList) then ((((((F64 line).1.getD (Int.toNat 0) default)++Ze)++((F64 line).1.getD (Int.toNat 1) default))++Ze)++((F64 line).1.getD (Int.toNat 2) default)) else line)))))) else (bif (((F64 line).1.getD (Int.toNat 0) default).toList==Zc.toList) then ((F64 line).1.getD (Int.toNat 0) default) else (bif (((F64 line).1.getD (Int.toNat 0) default).toList==Zj.toList) then (bif (((F64 line).1.getD (Int.toNat 0) default).toList==Zj.toList) then ((((F64 line).1.getD (Int.toNat 0) default)++Ze)++((F64 line).1.getD (Int.toNat 1) default)) else (bif (((F64 line).1.getD (Int.toNat 0) default).toList==Zf.toList) then (bif (((F64 line).1.getD (Int.toNat 0) default).toList==Zf.toList) then ((((((F64 line).1.getD (Int.toNat 0) default)++Ze)++((F64 line).1.getD (Int.toNat 1) default))++Ze)++((F64 line).1.getD (Int.toNat 2) default)) else line) else (bif (((F64 line).1.getD (Int.toNat 0) default).toList==Zb.toList) then ((((((F64 line).1.getD (Int.toNat 0) default)++Ze)++((F64 line).1.getD (Int.toNat 1) default))++Ze)++((F64 line).1.getD (Int.toNat 2) default)) else line))) else (bif (((F64 line).1.getD (Int.toNat 0) default).toList==Zd.toList) then (bif (((F64 line).1.getD (Int.toNat 0) default).toList==Zd.toList) then ((((F64 line).1.getD (Int.toNat 0) default)++Ze)++((F64 line).1.getD (Int.toNat 1) default)) else (bif (((F64 line).1.getD (Int.toNat 0) default).toList==Zf.toList) then (bif (((F64 line).1.getD (Int.toNat 0) default).toList==Zf.toList) then ((((((F64 line).1.getD (Int.toNat 0) default)++Ze)++((F64 line).1.getD (Int.toNat 1) default))++Ze)++((F64 line).1.getD (Int.toNat 2) default)) else line) else (bif (((F64 line).1.getD (Int.toNat 0) default).toList==Zb.toList) then ((((((F64 line).1.getD (Int.toNat 0) default)++Ze)++((F64 line).1.getD (Int.toNat 1) default))++Ze)++((F64 line).1.getD (Int.toNat 2) default)) else line))) else (bif (((F64 line).1.getD (Int.toNat 0) default).toList==Zg.toList) then ((((F64 line).1.getD (Int.toNat 0) default)++Ze)++((F64 line).1.getD (Int.toNat 1) default)) else (bif (((F64 line).1.getD (Int.toNat 0) default).toList==Zf.toList) then (bif (((F64 line).1.getD (Int.toNat 0) default).toList==Zf.toList) then ((((((F64 line).1.getD (Int.toNat 0) default)++Ze)++((F64 line).1.getD (Int.toNat 1) default))++Ze)++((F64 line).1.getD (Int.toNat 2) default)) else line) else (bif (((F64 line).1.getD (Int.toNat 0) default).toList==Zb.toList) then ((((((F64 line).1.getD (Int.toNat 0) default)++Ze)++((F64 line).1.getD (Int.toNat 1) default))++Ze)++((F64 line).1.getD (Int.toNat 2) default)) else line)))))))
def S68 (line:Za):Spec:=⟨[.r (.c (.v (.string line)))],.v (.string (F68 line)),line.size<=1048576⟩
theorem ok68 (line:Za):(S68 line).ok Tryz.prog 68 :=
 Ue mixed (fn:=Tryz.f68) (ct:=.seq .no (.seq (.seq (.reg [(1,kh98 line)]) (.cond (.seq .no .no) .no)) (.seq (.reg [(1,kh64 line)]) (.seq (.seq .no (.blk (.seq (.seq .no (.cond .no .no)) (.cond (.seq .no .no) (.seq (.seq .no (.cond .no (.seq .no (.cond .no .no)))) (.cond (.seq .no .no) (.seq (.seq .no (.cond .no .no)) (.cond (.seq .no .no) .no)))))))) (.seq .no .no))))) Tryz.func68 (fun (hpre0:line.size<=1048576)=>kc98 line uu0 (ifb (!(F98 line)) (fun h1=>fiS Zi (F68 line) (condT h1 rfl)) (fun h1=>kc64 line uu0 (fun gv2 gv3=>ai (uu11:0<=(0:Int)/\(0:Int)<((F64 line).1.length:Int)) (ifb (((F64 line).1.getD (Int.toNat 0) default).toList==Zl.toList) (fun h4=>ifb (((F64 line).1.getD (Int.toNat 0) default).toList==Zl.toList) (fun h5=>ai (uu11:0<=(0:Int)/\(0:Int)<((F64 line).1.length:Int)) (fiS ((F64 line).1.getD (Int.toNat 0) default) (F68 line) (condF h1 (condT h4 (condT h5 rfl))))) (fun h5=>ifb (((F64 line).1.getD (Int.toNat 0) default).toList==Zj.toList) (fun h6=>ifb (((F64 line).1.getD (Int.toNat 0) default).toList==Zj.toList) (fun h7=>ai (uu11:0<=(0:Int)/\(0:Int)<((F64 line).1.length:Int)) (ai (uu4:((((F64 line).1.getD (Int.toNat 0) default).size+Ze.size:Nat):Int)<=9223372036854775807) (ai (uu13:0<=(1:Int)/\(1:Int)<((F64 line).1.length:Int)) (ai (uu4:(((((F64 line).1.getD (Int.toNat 0) default)++Ze).size+((F64 line).1.getD (Int.toNat 1) default).size:Nat):Int)<=9223372036854775807) (fiS ((((F64 line).1.getD (Int.toNat 0) default)++Ze)++((F64 line).1.getD (Int.toNat 1) default)) (F68 line) (condF h1 (condT h4 (condF h5 (condT h6 (condT h7 rfl)))))))))) (fun h7=>ifb (((F64 line).1.getD (Int.toNat 0) default).toList==Zf.toList) (fun h8=>ifb (((F64 line).1.getD (Int.toNat 0) default).toList==Zf.toList) (fun h9=>ai (uu11:0<=(0:Int)/\(0:Int)<((F64 line).1.length:Int)) (ai (uu4:((((F64 line).1.getD (Int.toNat 0) default).size+Ze.size:Nat):Int)<=9223372036854775807) (ai (uu13:0<=(1:Int)/\(1:Int)<((F64 line).1.length:Int)) (ai (uu4:(((((F64 line).1.getD (Int.toNat 0) default)++Ze).size+((F64 line).1.getD (Int.toNat 1) default).size:Nat):Int)<=9223372036854775807) (ai (uu4:((((((F64 line).1.getD (Int.toNat 0) default)++Ze)++((F64 line).1.getD (Int.toNat 1) default)).size+Ze.size:Nat):Int)<=9223372036854775807) (ai (uu28:0<=(2:Int)/\(2:Int)<((F64 line).1.length:Int)) (ai (uu4:(((((((F64 line).1.getD (Int.toNat 0) default)++Ze)++((F64 line).1.getD (Int.toNat 1) default))++Ze).size+((F64 line).1.getD (Int.toNat 2) default).size:Nat):Int)<=9223372036854775807) (fiS ((((((F64 line).1.getD (Int.toNat 0) default)++Ze)++((F64 line).1.getD (Int.toNat 1) default))++Ze)++((F64 line).1.getD (Int.toNat 2) default)) (F68 line) (condF h1 (condT h4 (condF h5 (condT h6 (condF h7 (condT h8 (condT h9 rfl))))))))))))))) (fun h9=>fiS line (F68 line) (condF h1 (condT h4 (condF h5 (condT h6 (condF h7 (condT h8 (condF h9 rfl))))))))) (fun h8=>ifb (((F64 line).1.getD (Int.toNat 0) default).toList==Zb.toList) (fun h10=>ai (uu11:0<=(0:Int)/\(0:Int)<((F64 line).1.length:Int)) (ai (uu4:((((F64 line).1.getD (Int.toNat 0) default).size+Ze.size:Nat):Int)<=9223372036854775807) (ai (uu13:0<=(1:Int)/\(1:Int)<((F64 line).1.length:Int)) (ai (uu4:(((((F64 line).1.getD (Int.toNat 0) default)++Ze).size+((F64 line).1.getD (Int.toNat 1) default).size:Nat):Int)<=9223372036854775807) (ai (uu4:((((((F64 line).1.getD (Int.toNat 0) default)++Ze)++((F64 line).1.getD (Int.toNat 1) default)).size+Ze.size:Nat):Int)<=9223372036854775807) (ai (uu29:0<=(2:Int)/\(2:Int)<((F64 line).1.length:Int)) (ai (uu4:(((((((F64 line).1.getD (Int.toNat 0) default)++Ze)++((F64 line).1.getD (Int.toNat 1) default))++Ze).size+((F64 line).1.getD (Int.toNat 2) default).size:Nat):Int)<=9223372036854775807) (fiS ((((((F64 line).1.getD (Int.toNat 0) default)++Ze)++((F64 line).1.getD (Int.toNat 1) default))++Ze)++((F64 line).1.getD (Int.toNat 2) default)) (F68 line) (condF h1 (condT h4 (condF h5 (condT h6 (condF h7 (condF h8 (condT h10 rfl))))))))))))))) (fun h10=>fiS line (F68 line) (condF h1 (condT h4 (condF h5 (condT h6 (condF h7 (condF h8 (condF h10 rfl))))))))))) (fun h6=>ifb (((F64 line).1.getD (Int.toNat 0) default).toList==Zd.toList) (fun h11=>ifb (((F64 line).1.getD (Int.toNat 0) default).toList==Zd.toList) (fun h12=>ai (uu11:0<=(0:Int)/\(0:Int)<((F64 line).1.length:Int)) (ai (uu4:((((F64 line).1.getD (Int.toNat 0) default).size+Ze.size:Nat):Int)<=9223372036854775807) (ai (uu13:0<=(1:Int)/\(1:Int)<((F64 line).1.length:Int)) (ai (uu4:(((((F64 line).1.getD (Int.toNat 0) default)++Ze).size+((F64 line).1.getD (Int.toNat 1) default).size:Nat):Int)<=9223372036854775807) (fiS ((((F64 line).1.getD (Int.toNat 0) default)++Ze)++((F64 line).1.getD (Int.toNat 1) default)) (F68 line) (condF h1 (condT h4 (condF h5 (condF h6 (condT h11 (condT h12 rfl))))))))))) (fun h12=>ifb (((F64 line).1.getD (Int.toNat 0) default).toList==Zf.toList) (fun h13=>ifb (((F64 line).1.getD (Int.toNat 0) default).toList==Zf.toList) (fun h14=>ai (uu11:0<=(0:Int)/\(0:Int)<((F64 line).1.length:Int)) (ai (uu4:((((F64 line).1.getD (Int.toNat 0) default).size+Ze.size:Nat):Int)<=9223372036854775807) (ai (uu13:0<=(1:Int)/\(1:Int)<((F64 line).1.length:Int)) (ai (uu4:(((((F64 line).1.getD (Int.toNat 0) default)++Ze).size+((F64 line).1.getD (Int.toNat 1) default).size:Nat):Int)<=9223372036854775807) (ai (uu4:((((((F64 line).1.getD (Int.toNat 0) default)++Ze)++((F64 line).1.getD (Int.toNat 1) default)).size+Ze.size:Nat):Int)<=9223372036854775807) (ai (uu28:0<=(2:Int)/\(2:Int)<((F64 line).1.length:Int)) (ai (uu4:(((((((F64 line).1.getD (Int.toNat 0) default)++Ze)++((F64 line).1.getD (Int.toNat 1) default))++Ze).size+((F64 line).1.getD (Int.toNat 2) default).size:Nat):Int)<=9223372036854775807) (fiS ((((((F64 line).1.getD (Int.toNat 0) default)++Ze)++((F64 line).1.getD (Int.toNat 1) default))++Ze)++((F64 line).1.getD (Int.toNat 2) default)) (F68 line) (condF h1 (condT h4 (condF h5 (condF h6 (condT h11 (condF h12 (condT h13 (condT h14 rfl)))))))))))))))) (fun h14=>fiS line (F68 line) (condF h1 (condT h4 (condF h5 (condF h6 (condT h11 (condF h12 (condT h13 (condF h14 rfl)))))))))) (fun h13=>ifb (((F64 line).1.getD (Int.toNat 0) default).toList==Zb.toList) (fun h15=>ai (uu11:0<=(0:Int)/\(0:Int)<((F64 line).1.length:Int)) (ai (uu4:((((F64 line).1.getD (Int.toNat 0) default).size+Ze.size:Nat):Int)<=9223372036854775807) (ai (uu13:0<=(1:Int)/\(1:Int)<((F64 line).1.length:Int)) (ai (uu4:(((((F64 line).1.getD (Int.toNat 0) default)++Ze).size+((F64 line).1.getD (Int.toNat 1) default).size:Nat):Int)<=9223372036854775807) (ai (uu4:((((((F64 line).1.getD (Int.toNat 0) default)++Ze)++((F64 line).1.getD (Int.toNat 1) default)).size+Ze.size:Nat):Int)<=9223372036854775807) (ai (uu29:0<=(2:Int)/\(2:Int)<((F64 line).1.length:Int)) (ai (uu4:(((((((F64 line).1.getD (Int.toNat 0) default)++Ze)++((F64 line).1.getD (Int.toNat 1) default))++Ze).size+((F64 line).1.getD (Int.toNat 2) default).size:Nat):Int)<=9223372036854775807) (fiS ((((((F64 line).1.getD (Int.toNat 0) default)++Ze)++((F64 line).1.getD (Int.toNat 1) default))++Ze)++((F64 line).1.getD (Int.toNat 2) default)) (F68 line) (condF h1 (condT h4 (condF h5 (condF h6 (condT h11 (condF h12 (condF h13 (condT h15 rfl)))))))))))))))) (fun h15=>fiS line (F68 line) (condF h1 (condT h4 (condF h5 (condF h6 (condT h11 (condF h12 (condF h13 (condF h15 rfl)))))))))))) (fun h11=>ifb (((F64 line).1.getD (Int.toNat 0) default).toList==Zg.toList) (fun h16=>ai (uu11:0<=(0:Int)/\(0:Int)<((F64 line).1.length:Int)) (ai (uu4:((((F64 line).1.getD (Int.toNat 0) default).size+Ze.size:Nat):Int)<=9223372036854775807) (ai (uu13:0<=(1:Int)/\(1:Int)<((F64 line).1.length:Int)) (ai (uu4:(((((F64 line).1.getD (Int.toNat 0) default)++Ze).size+((F64 line).1.getD (Int.toNat 1) default).size:Nat):Int)<=9223372036854775807) (fiS ((((F64 line).1.getD (Int.toNat 0) default)++Ze)++((F64 line).1.getD (Int.toNat 1) default)) (F68 line) (condF h1 (condT h4 (condF h5 (condF h6 (condF h11 (condT h16 rfl))))))))))) (fun h16=>ifb (((F64 line).1.getD (Int.toNat 0) default).toList==Zf.toList) (fun h17=>ifb (((F64 line).1.getD (Int.toNat 0) default).toList==Zf.toList) (fun h18=>ai (uu11:0<=(0:Int)/\(0:Int)<((F64 line).1.length:Int)) (ai (uu4:((((F64 line).1.getD (Int.toNat 0) default).size+Ze.size:Nat):Int)<=9223372036854775807) (ai (uu13:0<=(1:Int)/\(1:Int)<((F64 line).1.length:Int)) (ai (uu4:(((((F64 line).1.getD (Int.toNat 0) default)++Ze).size+((F64 line).1.getD (Int.toNat 1) default).size:Nat):Int)<=9223372036854775807) (ai (uu4:((((((F64 line).1.getD (Int.toNat 0) default)++Ze)++((F64 line).1.getD (Int.toNat 1) default)).size+Ze.size:Nat):Int)<=9223372036854775807) (ai (uu28:0<=(2:Int)/\(2:Int)<((F64 line).1.length:Int)) (ai (uu4:(((((((F64 line).1.getD (Int.toNat 0) default)++Ze)++((F64 line).1.getD (Int.toNat 1) default))++Ze).size+((F64 line).1.getD (Int.toNat 2) default).size:Nat):Int)<=9223372036854775807) (fiS ((((((F64 line).1.getD (Int.toNat 0) default)++Ze)++((F64 line).1.getD (Int.toNat 1) default))++Ze)++((F64 line).1.getD (Int.toNat 2) default)) (F68 line) (condF h1 (condT h4 (condF h5 (condF h6 (condF h11 (condF h16 (condT h17 (condT h18 rfl)))))))))))))))) (fun h18=>fiS line (F68 line) (condF h1 (condT h4 (condF h5 (condF h6 (condF h11 (condF h16 (condT h17 (condF h18 rfl)))))))))) (fun h17=>ifb (((F64 line).1.getD (Int.toNat 0) default).toList==Zb.toList) (fun h19=>ai (uu11:0<=(0:Int)/\(0:Int)<((F64 line).1.length:Int)) (ai (uu4:((((F64 line).1.getD (Int.toNat 0) default).size+Ze.size:Nat):Int)<=9223372036854775807) (ai (uu13:0<=(1:Int)/\(1:Int)<((F64 line).1.length:Int)) (ai (uu4:(((((F64 line).1.getD (Int.toNat 0) default)++Ze).size+((F64 line).1.getD (Int.toNat 1) default).size:Nat):Int)<=9223372036854775807) (ai (uu4:((((((F64 line).1.getD (Int.toNat 0) default)++Ze)++((F64 line).1.getD (Int.toNat 1) default)).size+Ze.size:Nat):Int)<=9223372036854775807) (ai (uu29:0<=(2:Int)/\(2:Int)<((F64 line).1.length:Int)) (ai (uu4:(((((((F64 line).1.getD (Int.toNat 0) default)++Ze)++((F64 line).1.getD (Int.toNat 1) default))++Ze).size+((F64 line).1.getD (Int.toNat 2) default).size:Nat):Int)<=9223372036854775807) (fiS ((((((F64 line).1.getD (Int.toNat 0) default)++Ze)++((F64 line).1.getD (Int.toNat 1) default))++Ze)++((F64 line).1.getD (Int.toNat 2) default)) (F68 line) (condF h1 (condT h4 (condF h5 (condF h6 (condF h11 (condF h16 (condF h17 (condT h19 rfl)))))))))))))))) (fun h19=>fiS line (F68 line) (condF h1 (condT h4 (condF h5 (condF h6 (condF h11 (condF h16 (condF h17 (condF h19 rfl))))))))))))))) (fun h4=>ifb (((F64 line).1.getD (Int.toNat 0) default).toList==Zc.toList) (fun h20=>ai (uu11:0<=(0:Int)/\(0:Int)<((F64 line).1.length:Int)) (fiS ((F64 line).1.getD (Int.toNat 0) default) (F68 line) (condF h1 (condF h4 (condT h20 rfl))))) (fun h20=>ifb (((F64 line).1.getD (Int.toNat 0) default).toList==Zj.toList) (fun h21=>ifb (((F64 line).1.getD (Int.toNat 0) default).toList==Zj.toList) (fun h22=>ai (uu11:0<=(0:Int)/\(0:Int)<((F64 line).1.length:Int)) (ai (uu4:((((F64 line).1.getD (Int.toNat 0) default).size+Ze.size:Nat):Int)<=9223372036854775807) (ai (uu13:0<=(1:Int)/\(1:Int)<((F64 line).1.length:Int)) (ai (uu4:(((((F64 line).1.getD (Int.toNat 0) default)++Ze).size+((F64 line).1.getD (Int.toNat 1) default).size:Nat):Int)<=9223372036854775807) (fiS ((((F64 line).1.getD (Int.toNat 0) default)++Ze)++((F64 line).1.getD (Int.toNat 1) default)) (F68 line) (condF h1 (condF h4 (condF h20 (condT h21 (condT h22 rfl)))))))))) (fun h22=>ifb (((F64 line).1.getD (Int.toNat 0) default).toList==Zf.toList) (fun h23=>ifb (((F64 line).1.getD (Int.toNat 0) default).toList==Zf.toList) (fun h24=>ai (uu11:0<=(0:Int)/\(0:Int)<((F64 line).1.length:Int)) (ai (uu4:((((F64 line).1.getD (Int.toNat 0) default).size+Ze.size:Nat):Int)<=9223372036854775807) (ai (uu13:0<=(1:Int)/\(1:Int)<((F64 line).1.length:Int)) (ai (uu4:(((((F64 line).1.getD (Int.toNat 0) default)++Ze).size+((F64 line).1.getD (Int.toNat 1) default).size:Nat):Int)<=9223372036854775807) (ai (uu4:((((((F64 line).1.getD (Int.toNat 0) default)++Ze)++((F64 line).1.getD (Int.toNat 1) default)).size+Ze.size:Nat):Int)<=9223372036854775807) (ai (uu28:0<=(2:Int)/\(2:Int)<((F64 line).1.length:Int)) (ai (uu4:(((((((F64 line).1.getD (Int.toNat 0) default)++Ze)++((F64 line).1.getD (Int.toNat 1) default))++Ze).size+((F64 line).1.getD (Int.toNat 2) default).size:Nat):Int)<=9223372036854775807) (fiS ((((((F64 line).1.getD (Int.toNat 0) default)++Ze)++((F64 line).1.getD (Int.toNat 1) default))++Ze)++((F64 line).1.getD (Int.toNat 2) default)) (F68 line) (condF h1 (condF h4 (condF h20 (condT h21 (condF h22 (condT h23 (condT h24 rfl))))))))))))))) (fun h24=>fiS line (F68 line) (condF h1 (condF h4 (condF h20 (condT h21 (condF h22 (condT h23 (condF h24 rfl))))))))) (fun h23=>ifb (((F64 line).1.getD (Int.toNat 0) default).toList==Zb.toList) (fun h25=>ai (uu11:0<=(0:Int)/\(0:Int)<((F64 line).1.length:Int)) (ai (uu4:((((F64 line).1.getD (Int.toNat 0) default).size+Ze.size:Nat):Int)<=9223372036854775807) (ai (uu13:0<=(1:Int)/\(1:Int)<((F64 line).1.length:Int)) (ai (uu4:(((((F64 line).1.getD (Int.toNat 0) default)++Ze).size+((F64 line).1.getD (Int.toNat 1) default).size:Nat):Int)<=9223372036854775807) (ai (uu4:((((((F64 line).1.getD (Int.toNat 0) default)++Ze)++((F64 line).1.getD (Int.toNat 1) default)).size+Ze.size:Nat):Int)<=9223372036854775807) (ai (uu29:0<=(2:Int)/\(2:Int)<((F64 line).1.length:Int)) (ai (uu4:(((((((F64 line).1.getD (Int.toNat 0) default)++Ze)++((F64 line).1.getD (Int.toNat 1) default))++Ze).size+((F64 line).1.getD (Int.toNat 2) default).size:Nat):Int)<=9223372036854775807) (fiS ((((((F64 line).1.getD (Int.toNat 0) default)++Ze)++((F64 line).1.getD (Int.toNat 1) default))++Ze)++((F64 line).1.getD (Int.toNat 2) default)) (F68 line) (condF h1 (condF h4 (condF h20 (condT h21 (condF h22 (condF h23 (condT h25 rfl))))))))))))))) (fun h25=>fiS line (F68 line) (condF h1 (condF h4 (condF h20 (condT h21 (condF h22 (condF h23 (condF h25 rfl))))))))))) (fun h21=>ifb (((F64 line).1.getD (Int.toNat 0) default).toList==Zd.toList) (fun h26=>ifb (((F64 line).1.getD (Int.toNat 0) default).toList==Zd.toList) (fun h27=>ai (uu11:0<=(0:Int)/\(0:Int)<((F64 line).1.length:Int)) (ai (uu4:((((F64 line).1.getD (Int.toNat 0) default).size+Ze.size:Nat):Int)<=9223372036854775807) (ai (uu13:0<=(1:Int)/\(1:Int)<((F64 line).1.length:Int)) (ai (uu4:(((((F64 line).1.getD (Int.toNat 0) default)++Ze).size+((F64 line).1.getD (Int.toNat 1) default).size:Nat):Int)<=9223372036854775807) (fiS ((((F64 line).1.getD (Int.toNat 0) default)++Ze)++((F64 line).1.getD (Int.toNat 1) default)) (F68 line) (condF h1 (condF h4 (condF h20 (condF h21 (condT h26 (condT h27 rfl))))))))))) (fun h27=>ifb (((F64 line).1.getD (Int.toNat 0) default).toList==Zf.toList) (fun h28=>ifb (((F64 line).1.getD (Int.toNat 0) default).toList==Zf.toList) (fun h29=>ai (uu11:0<=(0:Int)/\(0:Int)<((F64 line).1.length:Int)) (ai (uu4:((((F64 line).1.getD (Int.toNat 0) default).size+Ze.size:Nat):Int)<=9223372036854775807) (ai (uu13:0<=(1:Int)/\(1:Int)<((F64 line).1.length:Int)) (ai (uu4:(((((F64 line).1.getD (Int.toNat 0) default)++Ze).size+((F64 line).1.getD (Int.toNat 1) default).size:Nat):Int)<=9223372036854775807) (ai (uu4:((((((F64 line).1.getD (Int.toNat 0) default)++Ze)++((F64 line).1.getD (Int.toNat 1) default)).size+Ze.size:Nat):Int)<=9223372036854775807) (ai (uu28:0<=(2:Int)/\(2:Int)<((F64 line).1.length:Int)) (ai (uu4:(((((((F64 line).1.getD (Int.toNat 0) default)++Ze)++((F64 line).1.getD (Int.toNat 1) default))++Ze).size+((F64 line).1.getD (Int.toNat 2) default).size:Nat):Int)<=9223372036854775807) (fiS ((((((F64 line).1.getD (Int.toNat 0) default)++Ze)++((F64 line).1.getD (Int.toNat 1) default))++Ze)++((F64 line).1.getD (Int.toNat 2) default)) (F68 line) (condF h1 (condF h4 (condF h20 (condF h21 (condT h26 (condF h27 (condT h28 (condT h29 rfl)))))))))))))))) (fun h29=>fiS line (F68 line) (condF h1 (condF h4 (condF h20 (condF h21 (condT h26 (condF h27 (condT h28 (condF h29 rfl)))))))))) (fun h28=>ifb (((F64 line).1.getD (Int.toNat 0) default).toList==Zb.toList) (fun h30=>ai (uu11:0<=(0:Int)/\(0:Int)<((F64 line).1.length:Int)) (ai (uu4:((((F64 line).1.getD (Int.toNat 0) default).size+Ze.size:Nat):Int)<=9223372036854775807) (ai (uu13:0<=(1:Int)/\(1:Int)<((F64 line).1.length:Int)) (ai (uu4:(((((F64 line).1.getD (Int.toNat 0) default)++Ze).size+((F64 line).1.getD (Int.toNat 1) default).size:Nat):Int)<=9223372036854775807) (ai (uu4:((((((F64 line).1.getD (Int.toNat 0) default)++Ze)++((F64 line).1.getD (Int.toNat 1) default)).size+Ze.size:Nat):Int)<=9223372036854775807) (ai (uu29:0<=(2:Int)/\(2:Int)<((F64 line).1.length:Int)) (ai (uu4:(((((((F64 line).1.getD (Int.toNat 0) default)++Ze)++((F64 line).1.getD (Int.toNat 1) default))++Ze).size+((F64 line).1.getD (Int.toNat 2) default).size:Nat):Int)<=9223372036854775807) (fiS ((((((F64 line).1.getD (Int.toNat 0) default)++Ze)++((F64 line).1.getD (Int.toNat 1) default))++Ze)++((F64 line).1.getD (Int.toNat 2) default)) (F68 line) (condF h1 (condF h4 (condF h20 (condF h21 (condT h26 (condF h27 (condF h28 (condT h30 rfl)))))))))))))))) (fun h30=>fiS line (F68 line) (condF h1 (condF h4 (condF h20 (condF h21 (condT h26 (condF h27 (condF h28 (condF h30 rfl)))))))))))) (fun h26=>ifb (((F64 line).1.getD (Int.toNat 0) default).toList==Zg.toList) (fun h31=>ai (uu11:0<=(0:Int)/\(0:Int)<((F64 line).1.length:Int)) (ai (uu4:((((F64 line).1.getD (Int.toNat 0) default).size+Ze.size:Nat):Int)<=9223372036854775807) (ai (uu13:0<=(1:Int)/\(1:Int)<((F64 line).1.length:Int)) (ai (uu4:(((((F64 line).1.getD (Int.toNat 0) default)++Ze).size+((F64 line).1.getD (Int.toNat 1) default).size:Nat):Int)<=9223372036854775807) (fiS ((((F64 line).1.getD (Int.toNat 0) default)++Ze)++((F64 line).1.getD (Int.toNat 1) default)) (F68 line) (condF h1 (condF h4 (condF h20 (condF h21 (condF h26 (condT h31 rfl))))))))))) (fun h31=>ifb (((F64 line).1.getD (Int.toNat 0) default).toList==Zf.toList) (fun h32=>ifb (((F64 line).1.getD (Int.toNat 0) default).toList==Zf.toList) (fun h33=>ai (uu11:0<=(0:Int)/\(0:Int)<((F64 line).1.length:Int)) (ai (uu4:((((F64 line).1.getD (Int.toNat 0) default).size+Ze.size:Nat):Int)<=9223372036854775807) (ai (uu13:0<=(1:Int)/\(1:Int)<((F64 line).1.length:Int)) (ai (uu4:(((((F64 line).1.getD (Int.toNat 0) default)++Ze).size+((F64 line).1.getD (Int.toNat 1) default).size:Nat):Int)<=9223372036854775807) (ai (uu4:((((((F64 line).1.getD (Int.toNat 0) default)++Ze)++((F64 line).1.getD (Int.toNat 1) default)).size+Ze.size:Nat):Int)<=9223372036854775807) (ai (uu28:0<=(2:Int)/\(2:Int)<((F64 line).1.length:Int)) (ai (uu4:(((((((F64 line).1.getD (Int.toNat 0) default)++Ze)++((F64 line).1.getD (Int.toNat 1) default))++Ze).size+((F64 line).1.getD (Int.toNat 2) default).size:Nat):Int)<=9223372036854775807) (fiS ((((((F64 line).1.getD (Int.toNat 0) default)++Ze)++((F64 line).1.getD (Int.toNat 1) default))++Ze)++((F64 line).1.getD (Int.toNat 2) default)) (F68 line) (condF h1 (condF h4 (condF h20 (condF h21 (condF h26 (condF h31 (condT h32 (condT h33 rfl)))))))))))))))) (fun h33=>fiS line (F68 line) (condF h1 (condF h4 (condF h20 (condF h21 (condF h26 (condF h31 (condT h32 (condF h33 rfl)))))))))) (fun h32=>ifb (((F64 line).1.getD (Int.toNat 0) default).toList==Zb.toList) (fun h34=>ai (uu11:0<=(0:Int)/\(0:Int)<((F64 line).1.length:Int)) (ai (uu4:((((F64 line).1.getD (Int.toNat 0) default).size+Ze.size:Nat):Int)<=9223372036854775807) (ai (uu13:0<=(1:Int)/\(1:Int)<((F64 line).1.length:Int)) (ai (uu4:(((((F64 line).1.getD (Int.toNat 0) default)++Ze).size+((F64 line).1.getD (Int.toNat 1) default).size:Nat):Int)<=9223372036854775807) (ai (uu4:((((((F64 line).1.getD (Int.toNat 0) default)++Ze)++((F64 line).1.getD (Int.toNat 1) default)).size+Ze.size:Nat):Int)<=9223372036854775807) (ai (uu29:0<=(2:Int)/\(2:Int)<((F64 line).1.length:Int)) (ai (uu4:(((((((F64 line).1.getD (Int.toNat 0) default)++Ze)++((F64 line).1.getD (Int.toNat 1) default))++Ze).size+((F64 line).1.getD (Int.toNat 2) default).size:Nat):Int)<=9223372036854775807) (fiS ((((((F64 line).1.getD (Int.toNat 0) default)++Ze)++((F64 line).1.getD (Int.toNat 1) default))++Ze)++((F64 line).1.getD (Int.toNat 2) default)) (F68 line) (condF h1 (condF h4 (condF h20 (condF h21 (condF h26 (condF h31 (condF h32 (condT h34 rfl)))))))))))))))) (fun h34=>fiS line (F68 line) (condF h1 (condF h4 (condF h20 (condF h21 (condF h26 (condF h31 (condF h32 (condF h34 rfl)))))))))))))))))))) uu1
theorem join1 (a sp:Za):Ku [a] sp=a:=Bw (by show Lib.join _ _=_; exact Lib.join_one _ _)
theorem Nn (ws:List Za) (sp:Za):(Ku ws sp).data.toList=Lib.join (ws.map (·.data.toList)) sp.data.toList:=rfl
theorem Ugm (a b sp:Za):Ku [a,b] sp=(a++sp)++b:=Bw (by
 rw [Nn,Rb,Lib.join_cons]
 simp [Lib.joinTail,Gb,Gt,Q1])
theorem join3 (a b c sp:Za):Ku [a,b,c] sp=(((a++sp)++b)++sp)++c:=Bw (by
 rw [Nn,Rb,Lib.join_cons]
 simp [Lib.joinTail,Gb,Gt,Q1])
theorem Qou (w:List Za) (h:1<=w.length):w.take 1=[w.getD 0 default]:=by
 match w,h with
 | a :: _,_=>rfl
theorem Qev (w:List Za) (h:2<=w.length):w.take 2=[w.getD 0 default,w.getD 1 default]:=by
 match w,h with
 | a :: b :: _,_=>rfl
theorem Qhu (w:List Za) (h:3<=w.length):w.take 3=[w.getD 0 default,w.getD 1 default,w.getD 2 default]:=by
 match w,h with
 | a :: b :: c :: _,_=>rfl
theorem Udp (line:Za) (h:F98 line=true):F68 line=Ku ((F64 line).1.take (keyN (((F64 line).1.getD 0 default).data.toList)).toNat) Ze:=by
 have hk:=Ms line h
 have hj:=hk.joins
 unfold F68
 have e0:(F64 line).1.getD (Int.toNat 0) default=(F64 line).1.getD 0 default:=rfl
 have e1:(F64 line).1.getD (Int.toNat 1) default=(F64 line).1.getD 1 default:=rfl
 have e2:(F64 line).1.getD (Int.toNat 2) default=(F64 line).1.getD 2 default:=rfl
 simp only [h,Sv,Qe,e0,e1,e2,blit]
 have hf:=hk.form
 generalize (F64 line).1=w at hf hj
 rcases hf with hf | hf | hf | hf | hf | hf | hf | hf
 ·have h0:=hf.1
  have hn:keyN (w.getD 0 default).data.toList=1:=by rw [h0]; decide
  have hl:2<=w.length:=by unfold Qjz at hf; omega
  rw [hn,show ((1:Int).toNat)=1 from rfl]
  simp only [h0,show (([104,111,115,116]:List UInt8)==([104,111,115,116]:List UInt8))=true from by decide ,show (([104,111,115,116]:List UInt8)==([117,115,101,114]:List UInt8))=false from by decide ,show (([104,111,115,116]:List UInt8)==([112,111,114,116]:List UInt8))=false from by decide ,show (([104,111,115,116]:List UInt8)==([114,117,108,101]:List UInt8))=false from by decide ,show (([104,111,115,116]:List UInt8)==([114,111,117,116,101]:List UInt8))=false from by decide ,show (([104,111,115,116]:List UInt8)==([112,101,101,114]:List UInt8))=false from by decide ,show (([104,111,115,116]:List UInt8)==([110,97,116]:List UInt8))=false from by decide ,show (([104,111,115,116]:List UInt8)==([100,111,111,114]:List UInt8))=false from by decide,Qc,Qe]
  rw [Qou w uu0,join1]
 ·have h0:=hf.1
  have hn:keyN (w.getD 0 default).data.toList=2:=by rw [h0]; decide
  have hl:2<=w.length:=by unfold Ve at hf; omega
  rw [hn,show ((2:Int).toNat)=2 from rfl]
  simp only [h0,show (([117,115,101,114]:List UInt8)==([104,111,115,116]:List UInt8))=false from by decide ,show (([117,115,101,114]:List UInt8)==([117,115,101,114]:List UInt8))=true from by decide ,show (([117,115,101,114]:List UInt8)==([112,111,114,116]:List UInt8))=false from by decide ,show (([117,115,101,114]:List UInt8)==([114,117,108,101]:List UInt8))=false from by decide ,show (([117,115,101,114]:List UInt8)==([114,111,117,116,101]:List UInt8))=false from by decide ,show (([117,115,101,114]:List UInt8)==([112,101,101,114]:List UInt8))=false from by decide ,show (([117,115,101,114]:List UInt8)==([110,97,116]:List UInt8))=false from by decide ,show (([117,115,101,114]:List UInt8)==([100,111,111,114]:List UInt8))=false from by decide,Qc,Qe]
  rw [Qev w uu0,Ugm]
 ·have h0:=hf.1
  have hn:keyN (w.getD 0 default).data.toList=2:=by rw [h0]; decide
  have hl:2<=w.length:=by unfold Xy at hf; omega
  rw [hn,show ((2:Int).toNat)=2 from rfl]
  simp only [h0,show (([112,111,114,116]:List UInt8)==([104,111,115,116]:List UInt8))=false from by decide ,show (([112,111,114,116]:List UInt8)==([117,115,101,114]:List UInt8))=false from by decide ,show (([112,111,114,116]:List UInt8)==([112,111,114,116]:List UInt8))=true from by decide ,show (([112,111,114,116]:List UInt8)==([114,117,108,101]:List UInt8))=false from by decide ,show (([112,111,114,116]:List UInt8)==([114,111,117,116,101]:List UInt8))=false from by decide ,show (([112,111,114,116]:List UInt8)==([112,101,101,114]:List UInt8))=false from by decide ,show (([112,111,114,116]:List UInt8)==([110,97,116]:List UInt8))=false from by decide ,show (([112,111,114,116]:List UInt8)==([100,111,111,114]:List UInt8))=false from by decide,Qc,Qe]
  rw [Qev w uu0,Ugm]
 ·have h0:=hf.1
  have hn:keyN (w.getD 0 default).data.toList=3:=by rw [h0]; decide
  have hl:3<=w.length:=by unfold Jw at hf; omega
  rw [hn,show ((3:Int).toNat)=3 from rfl]
  simp only [h0,show (([114,117,108,101]:List UInt8)==([104,111,115,116]:List UInt8))=false from by decide ,show (([114,117,108,101]:List UInt8)==([117,115,101,114]:List UInt8))=false from by decide ,show (([114,117,108,101]:List UInt8)==([112,111,114,116]:List UInt8))=false from by decide ,show (([114,117,108,101]:List UInt8)==([114,117,108,101]:List UInt8))=true from by decide ,show (([114,117,108,101]:List UInt8)==([114,111,117,116,101]:List UInt8))=false from by decide ,show (([114,117,108,101]:List UInt8)==([112,101,101,114]:List UInt8))=false from by decide ,show (([114,117,108,101]:List UInt8)==([110,97,116]:List UInt8))=false from by decide ,show (([114,117,108,101]:List UInt8)==([100,111,111,114]:List UInt8))=false from by decide,Qc,Qe]
  rw [Qhu w uu0,join3]
 ·have h0:=hf.1
  have hn:keyN (w.getD 0 default).data.toList=3:=by rw [h0]; decide
  have hl:3<=w.length:=by unfold Bg at hf; omega
  rw [hn,show ((3:Int).toNat)=3 from rfl]
  simp only [h0,show (([114,111,117,116,101]:List UInt8)==([104,111,115,116]:List UInt8))=false from by decide ,show (([114,111,117,116,101]:List UInt8)==([117,115,101,114]:List UInt8))=false from by decide ,show (([114,111,117,116,101]:List UInt8)==([112,111,114,116]:List UInt8))=false from by decide ,show (([114,111,117,116,101]:List UInt8)==([114,117,108,101]:List UInt8))=false from by decide ,show (([114,111,117,116,101]:List UInt8)==([114,111,117,116,101]:List UInt8))=true from by decide ,show (([114,111,117,116,101]:List UInt8)==([112,101,101,114]:List UInt8))=false from by decide ,show (([114,111,117,116,101]:List UInt8)==([110,97,116]:List UInt8))=false from by decide ,show (([114,111,117,116,101]:List UInt8)==([100,111,111,114]:List UInt8))=false from by decide,Qc,Qe]
  rw [Sb (by unfold Bg at hf; omega)]
  exact hj.symm
 ·have h0:=hf.1
  have hn:keyN (w.getD 0 default).data.toList=2:=by rw [h0]; decide
  have hl:2<=w.length:=by unfold En at hf; omega
  rw [hn,show ((2:Int).toNat)=2 from rfl]
  simp only [h0,show (([112,101,101,114]:List UInt8)==([104,111,115,116]:List UInt8))=false from by decide ,show (([112,101,101,114]:List UInt8)==([117,115,101,114]:List UInt8))=false from by decide ,show (([112,101,101,114]:List UInt8)==([112,111,114,116]:List UInt8))=false from by decide ,show (([112,101,101,114]:List UInt8)==([114,117,108,101]:List UInt8))=false from by decide ,show (([112,101,101,114]:List UInt8)==([114,111,117,116,101]:List UInt8))=false from by decide ,show (([112,101,101,114]:List UInt8)==([112,101,101,114]:List UInt8))=true from by decide ,show (([112,101,101,114]:List UInt8)==([110,97,116]:List UInt8))=false from by decide ,show (([112,101,101,114]:List UInt8)==([100,111,111,114]:List UInt8))=false from by decide,Qc,Qe]
  rw [Qev w uu0,Ugm]
 ·have h0:=hf.1
  have hn:keyN (w.getD 0 default).data.toList=1:=by rw [h0]; decide
  have hl:2<=w.length:=by unfold natP at hf; omega
  rw [hn,show ((1:Int).toNat)=1 from rfl]
  simp only [h0,show (([110,97,116]:List UInt8)==([104,111,115,116]:List UInt8))=false from by decide ,show (([110,97,116]:List UInt8)==([117,115,101,114]:List UInt8))=false from by decide ,show (([110,97,116]:List UInt8)==([112,111,114,116]:List UInt8))=false from by decide ,show (([110,97,116]:List UInt8)==([114,117,108,101]:List UInt8))=false from by decide ,show (([110,97,116]:List UInt8)==([114,111,117,116,101]:List UInt8))=false from by decide ,show (([110,97,116]:List UInt8)==([112,101,101,114]:List UInt8))=false from by decide ,show (([110,97,116]:List UInt8)==([110,97,116]:List UInt8))=true from by decide ,show (([110,97,116]:List UInt8)==([100,111,111,114]:List UInt8))=false from by decide,Qc,Qe]
  rw [Qou w uu0,join1]
 ·have h0:=hf.1
  have hn:keyN (w.getD 0 default).data.toList=3:=by rw [h0]; decide
  have hl:3<=w.length:=by unfold Hl at hf; omega
  rw [hn,show ((3:Int).toNat)=3 from rfl]
  simp only [h0,show (([100,111,111,114]:List UInt8)==([104,111,115,116]:List UInt8))=false from by decide ,show (([100,111,111,114]:List UInt8)==([117,115,101,114]:List UInt8))=false from by decide ,show (([100,111,111,114]:List UInt8)==([112,111,114,116]:List UInt8))=false from by decide ,show (([100,111,111,114]:List UInt8)==([114,117,108,101]:List UInt8))=false from by decide ,show (([100,111,111,114]:List UInt8)==([114,111,117,116,101]:List UInt8))=false from by decide ,show (([100,111,111,114]:List UInt8)==([112,101,101,114]:List UInt8))=false from by decide ,show (([100,111,111,114]:List UInt8)==([110,97,116]:List UInt8))=false from by decide ,show (([100,111,111,114]:List UInt8)==([100,111,111,114]:List UInt8))=true from by decide,Qc,Qe]
  rw [Qhu w uu0,join3]
theorem Ueq (line:Za):F40 line=F68 line:=by
 cases h:F98 line with
 | false =>
  unfold F40 F68
  rw [Bs,h]; rfl
 | true =>
  rw [Udp line h]
  obtain ⟨k1,k2⟩:=Qcd line h
  unfold F40
  rw [Bs,h,k1,k2]; rfl
theorem Qka {α σ ρ τ ω:Type} [Inhabited α] (xs:List α) (upd:σ->α->σ) (emb:σ->Int->ω) (step:ω->Lp ω ρ)
  (h1:∀ (i:Nat) (s:σ),i<xs.length->step (emb s (i:Int))=.next (emb (upd s (xs.getD i default)) ((i+1:Nat):Int))) (h2:∀ s:σ,step (emb s (xs.length:Int))=.done (emb s (xs.length:Int)))
  (f:ρ->τ) (g:ω->τ):∀ (m i:Nat) (s:σ),i+m=xs.length->∀ fuel,m<fuel->(runL step fuel (emb s (i:Int))).fin f g=g (emb ((xs.drop i).foldl upd s) (xs.length:Int))
 | m,i,_,_,0,hf=>absurd hf (Sq _)
 | 0,i,s,h,fuel+1,hf=>by
  obtain rfl:i=xs.length:=by omega
  rw [Vb _ (h2 s),Q7 (Qq _)]; rfl
 | m+1,i,s,h,fuel+1,hf=>by
  have hd:xs.drop i=xs.getD i default :: xs.drop (i+1):=by
   rw [Rg (show i<xs.length by omega),Qd,Qh (show i<xs.length by omega)]; rfl
  rw [Kc _ (h1 i s uu0),Qka xs upd emb step h1 h2 f g m (i+1) _ uu0 fuel uu0,hd,S3]
theorem Ks {α σ ρ τ ω:Type} [Inhabited α] (xs:List α) (upd:σ->α->σ) (emb:σ->Int->ω) (step:ω->Lp ω ρ)
  (h1:∀ (i:Nat) (s:σ),i<xs.length->step (emb s (i:Int))=.next (emb (upd s (xs.getD i default)) ((i+1:Nat):Int))) (h2:∀ s:σ,step (emb s (xs.length:Int))=.done (emb s (xs.length:Int)))
  (f:ρ->τ) (g:ω->τ) (s:σ):(runL step (((xs.length:Int)-0).toNat+1) (emb s 0)).fin f g=g (emb (xs.foldl upd s) (xs.length:Int)):=by
 have:=Qka xs upd emb step h1 h2 f g xs.length 0 s uu0 (Int.toNat ((xs.length:Int)-0)+1) uu0
 rw [Rm] at this
 exact this
theorem Jg {α:Type} [Inhabited α] (ws:List α) (p:α->Bool):∀ (m i:Nat),i+m=ws.length->anyF (fun k=>p (ws.getD k default)) i m=(ws.drop i).any p
 | 0,i,h=>by rw [Q7 uu0]; rfl
 | m+1,i,h=>by
  have hd:ws.drop i=ws.getD i default :: ws.drop (i+1):=by
   rw [Rg (show i<ws.length by omega),Qd,Qh (show i<ws.length by omega)]; rfl
  rw [hd,Th,anyF,Jg ws p m (i+1) uu0]
theorem anyL {α ρ τ:Type} [Inhabited α] (xs:List α) (p:α->Bool) (bad:ρ) (step:Int->Lp Int ρ)
  (h1:∀ i:Nat,i<xs.length->step (i:Int)=bif p (xs.getD i default) then .ret bad else .next ((i+1:Nat):Int)) (h2:step (xs.length:Int)=.done (xs.length:Int))
  (f:ρ->τ) (g:Int->τ) (y:τ) (hg:∀ i,g i=y):(runL step (((xs.length:Int)-0).toNat+1) 0).fin f g=bif xs.any p then f bad else y:=by
 have h:=Kg step xs.length (fun k=>p (xs.getD k default)) bad f y h1 h2 xs.length 0 uu0 (Int.toNat ((xs.length:Int)-0)+1) uu0
 rw [Jg xs p xs.length 0 uu0,Rm] at h
 rw [show g=fun _=>y from funext hg]
 exact h
theorem Em {α β:Type} (p:α->Bool) (f:α->β):∀ (xs:List α) (s:List β),xs.foldl (fun s x=>bif p x then s++[f x] else s) s=s++(xs.filter p).map f
 | [],s=>by simp
 | x :: xs,s=>by
  rw [S3,Em p f xs]
  cases h:p x with
  | true=>rw [Qc,Sn h,Rb,Q1]; rfl
  | false=>rw [Qe,Sm (by simp [h])]
theorem Jh {α β:Type} (f:α->β):∀ (xs:List α) (s:List β),xs.foldl (fun s x=>s++[f x]) s=s++xs.map f
 | [],s=>by simp
 | x :: xs,s=>by
  rw [S3,Jh f xs,Rb,Q1]; rfl
theorem Ld {α:Type} (p:α->Bool):∀ (xs:List α) (n:Int),xs.foldl (fun n x=>bif p x then n+1 else n) n=n+(xs.filter p).length
 | [],n=>by simp
 | x :: xs,n=>by
  rw [S3,Ld p xs]
  cases h:p x with
  | true=>rw [Qc,Sn h,Q4]; omega
  | false=>rw [Qe,Sm (by simp [h])]
theorem kc68 (line:Za) {K_:Prop} (p0_:line.size<=1048576) (k_:K_):(line.size<=1048576)/\(Imp (.v (.string line)) (.v (.string line)))/\K_:=⟨p0_,Imp.refl _,k_⟩
abbrev kh68 (line:Za):Hint true Tryz.prog:=.call 68 (S68 line) (ok68 line) none
def Lt (lines:List Za):(List Za×Int)->Lp (List Za×Int) (List Za):=fun (out,i40) =>
 bif (decide (i40<(lines.length:Int))) then (.next ((out++[(F68 (lines.getD i40.toNat default))]),(i40+1))) else (.done (out,i40))
def F59 (lines:List Za):List Za :=
 (runL (Lt lines) (((lines.length:Int)-0).toNat+1) (([]:List Za),0)).fin (fun r=>r) (fun (out,i40)=>out)
abbrev Qet (lines:List Za):Nat×(List Za×Int):=((((lines.length:Int)-0).toNat+1),(([]:List Za),0))
abbrev Qqs (lines:List Za) (m39:Nat) (out:List Za) (i40:Int):Prop:=Int.toNat ((lines.length:Int)-i40)<m39/\(out.length:Int)<=i40/\(0:Int)<=i40
abbrev Uey (lines:List Za):Lp (List Za×Int) (List Za):=LpX (Lt lines) (Qet lines)
abbrev Qhw (lines:List Za) (i:Nat×(List Za×Int)):Prop:=LpJ (Lt lines) (Qet lines) i (Qqs lines i.1 i.2.1 i.2.2)
abbrev Uik (lines:List Za) (i:Nat×(List Za×Int)) (m39:Nat) (out:List Za) (i40:Int):Prop:=LpH (Lt lines) (Qet lines) i m39 (out,i40) (Qqs lines (m39+1) out i40)
abbrev Uhx (lines:List Za) (out:List Za) (i40:Int) (out_:List Za) (i40_:Int) (K39:Prop):Prop:=((.int .i64 i40:Value)=.int .i64 i40_)/\(Im (.l 1 eStr lines))/\(Imp (.l 1 eStr out) (.l 1 eStr out_))/\K39
theorem un59_0 (lines:List Za) (i:Nat×(List Za×Int)) (h:Qhw lines i):Uik lines i (i.1-1) i.2.1 i.2.2:=⟨hd1 h.1 h.2.1,hd3 h.2.1,hd2 h.2.1,h.2.2⟩
theorem bk59_0 (lines:List Za) (i:Nat×(List Za×Int)) (m39:Nat) (out:List Za) (i40:Int) (hl:m39<i.1) (e:runL (Lt lines) m39 (out,i40)=Uey lines) (h:Qqs lines m39 out i40):∃ j:Nat×(List Za×Int),Uhx lines out i40 j.2.1 j.2.2 (Qhw lines j/\j.1<i.1):=⟨(m39,(out,i40)),rfl,Imp.refl _,Imp.refl _,⟨e,h⟩,hl⟩
theorem en59_0 (lines:List Za) (h:(([]:List Za).length:Int)<=0/\(0:Int)<=0):Uhx lines ([]:List Za) 0 ([]:List Za) 0 (Qhw lines (Qet lines)):=⟨rfl,Imp.refl _,Imp.refl _,rfl,Qn _,h⟩
theorem fi59 (lines:List Za) (r:List Za) (hF:r=(F59 lines)):(Imp (.l 1 eStr r) (.l 1 eStr (F59 lines)))/\True:=by cases hF; exact ⟨Imp.refl _,trivial⟩
def S59 (R:List Za) (lines:List Za):Spec:=⟨[.r (.c (.l 1 eStr lines))],.ow (.l 1 eStr R),lines.length<=1048576/\(∀ k:Nat,(lines.getD k default).size<=1048576)⟩
theorem ok59 (lines:List Za):(S59 (F59 lines) lines).ok Tryz.prog 59 :=
 Ue mixed (fn:=Tryz.f59) (ct:=.seqk [(0,0)] .no (.seq (.reg [(0,.dat (.l 1 eStr ([]:List Za)))]) (.seq (.seqk [(0,0),(3,0)] .no (.blk (.loop (ι:=Nat×(List Za×Int)) (fun i=>(fun (out:List Za) (i40:Int)=>(⟨[(0,some (.h 0 0)),(3,some (.h 1 0)),(4,some (.v (vI i40)))],[(0,some (.shr none (.l 1 eStr lines))),(1,some (.own 1 (.l 1 eStr out)))],2⟩:St)) i.2.1 i.2.2) (Qhw lines) (fun i=>i.1) (Qet lines) (fun i=>(fun (out:List Za) (i40:Int)=>(.seq (.seq .no (.cond .no .no)) (.seq (.blk (.reg [(5,kh68 (lines.getD i40.toNat default)),(7,.dat (.l 1 eStr (out++[(F68 (lines.getD i40.toNat default))])))])) (.reg [(1,.bnd)])))) i.2.1 i.2.2)))) (.seq .no .no)))) Tryz.func59 (fun (hp:lines.length<=1048576/\(∀ k:Nat,(lines.getD k default).size<=1048576))=>have hpre0:=hp.1; have hpre1:=hp.2; kn lines fun _=>ai (bokr 1 eStr ([]:List Za) fun _=>rfl) (kn lines fun _=>kn ([]:List Za) fun _=>ai (en59_0 lines uu17) (fun (i0:Nat×(List Za×Int)) (hi0:Qhw lines i0)=>(fun (m0:Nat) (out:List Za) (i40:Int) (hh0:Uik lines i0 m0 out i40)=>have hI0:=hh0.1; have hl0:=hh0.2.1; have _:=hh0.2.2.1; have _:=hh0.2.2.2; ifd (i40<(lines.length:Int)) (fun h2 _=>ai (uu3:ib i40 lines) (kc68 (lines.getD i40.toNat default) (by first | omega | exact hpre1 _ | (intros; exact trivial) | (intros; exact Qy _)) (ai (appr 1 eStr out [(F68 (lines.getD i40.toNat default))] fun _=>rfl) (ai (uu21:(out++[(F68 (lines.getD i40.toNat default))]).length*16<=140737488355328) (ai (iok (i40+1) uu3) (bk59_0 lines i0 m0 (out++[(F68 (lines.getD i40.toNat default))]) (i40+1) hl0 (Ud hI0 (condT h2 rfl)) uu20)))))) (fun h2 _=>have hD0_3:Uey lines=Lp.done (out,i40):=Uh hI0 (condF h2 rfl); fi59 lines out (finD hD0_3 rfl))) (i0.1-1) i0.2.1 i0.2.2 (un59_0 lines i0 hi0)))) uu1
def Lg (lines:List Za) (word:Za):(List (List Za)×Int)->Lp (List (List Za)×Int) (List (List Za)):=fun (out,v12) =>
 bif (decide (v12<(lines.length:Int))) then (bif (((F70 (lines.getD v12.toNat default) Ze).getD (Int.toNat 0) default).toList==word.toList) then (.next ((out++[(F70 (lines.getD v12.toNat default) Ze)]),(v12+1))) else (.next (out,(v12+1)))) else (.done (out,v12))
def F65 (lines:List Za) (word:Za):List (List Za) :=
 (runL (Lg lines word) (((lines.length:Int)-0).toNat+1) (([]:List (List Za)),0)).fin (fun r=>r) (fun (out,v12)=>out)
abbrev Qff (lines:List Za):Nat×(List (List Za)×Int):=((((lines.length:Int)-0).toNat+1),(([]:List (List Za)),0))
abbrev Qst (lines:List Za) (m39:Nat) (out:List (List Za)) (v12:Int):Prop:=Int.toNat ((lines.length:Int)-v12)<m39/\(out.length:Int)<=v12/\(0:Int)<=v12
abbrev Udy (lines:List Za) (word:Za):Lp (List (List Za)×Int) (List (List Za)):=LpX (Lg lines word) (Qff lines)
abbrev Qfh (lines:List Za) (word:Za) (i:Nat×(List (List Za)×Int)):Prop:=LpJ (Lg lines word) (Qff lines) i (Qst lines i.1 i.2.1 i.2.2)
abbrev Udm (lines:List Za) (word:Za) (i:Nat×(List (List Za)×Int)) (m39:Nat) (out:List (List Za)) (v12:Int):Prop:=LpH (Lg lines word) (Qff lines) i m39 (out,v12) (Qst lines (m39+1) out v12)
abbrev Ugt (lines:List Za) (word:Za) (out:List (List Za)) (v12:Int) (out_:List (List Za)) (v12_:Int) (K39:Prop):Prop:=(Rf (.string word))/\(Rf (.int .i64 (lines.length:Int)))/\((.int .i64 v12:Value)=.int .i64 v12_)/\(Imp (.l 1 (eL 1 eStr) out) (.l 1 (eL 1 eStr) out_))/\(Im (.l 1 eStr lines))/\K39
theorem un65_0 (lines:List Za) (word:Za) (i:Nat×(List (List Za)×Int)) (h:Qfh lines word i):Udm lines word i (i.1-1) i.2.1 i.2.2:=⟨hd1 h.1 h.2.1,hd3 h.2.1,hd2 h.2.1,h.2.2⟩
theorem Uiq (lines:List Za) (word:Za) (i:Nat×(List (List Za)×Int)) (m39:Nat) (out:List (List Za)) (v12:Int) (hl:m39<i.1) (e:runL (Lg lines word) m39 (out,v12)=Udy lines word) (h:Qst lines m39 out v12):∃ j:Nat×(List (List Za)×Int),Ugt lines word out v12 j.2.1 j.2.2 (Qfh lines word j/\j.1<i.1):=⟨(m39,(out,v12)),rfl,rfl,rfl,Imp.refl _,Imp.refl _,⟨e,h⟩,hl⟩
theorem en65_0 (lines:List Za) (word:Za) (h:(([]:List (List Za)).length:Int)<=0/\(0:Int)<=0):Ugt lines word ([]:List (List Za)) 0 ([]:List (List Za)) 0 (Qfh lines word (Qff lines)):=⟨rfl,rfl,rfl,Imp.refl _,Imp.refl _,rfl,Qn _,h⟩
theorem fi65 (lines:List Za) (word:Za) (r:List (List Za)) (hF:r=(F65 lines word)):(Imp (.l 1 (eL 1 eStr) r) (.l 1 (eL 1 eStr) (F65 lines word)))/\True:=by cases hF; exact ⟨Imp.refl _,trivial⟩
def S65 (R:List (List Za)) (lines:List Za) (word:Za):Spec:=⟨[.r (.c (.l 1 eStr lines)),.r (.c (.v (.string word)))],.ow (.l 1 (eL 1 eStr) R),lines.length<=1048576/\(∀ k:Nat,(lines.getD k default).size<=1048576)⟩
theorem ok65 (lines:List Za) (word:Za):(S65 (F65 lines word) lines word).ok Tryz.prog 65 :=
 Ue mixed (fn:=Tryz.f65) (ct:=.seqk [(0,0)] .no (.seq (.reg [(0,.dat (.l 1 (eL 1 eStr) ([]:List (List Za))))]) (.seq (.seqk [(5,0),(10,0)] .no (.blk (.loop (ι:=Nat×(List (List Za)×Int)) (fun i=>(fun (out:List (List Za)) (v12:Int)=>(⟨[(1,some (.v (.string word))),(5,some (.h 0 0)),(10,some (.h 1 0)),(11,some (.v (vI (lines.length:Int)))),(12,some (.v (vI v12)))],[(0,some (.own 0 (.l 1 (eL 1 eStr) out))),(1,some (.shr none (.l 1 eStr lines)))],2⟩:St)) i.2.1 i.2.2) (Qfh lines word) (fun i=>i.1) (Qff lines) (fun i=>(fun (out:List (List Za)) (v12:Int)=>(.seq .no (.seq (.cond .no .no) (.seq (.blk (.seq .no (.seq (.reg [(1,kh70 (lines.getD v12.toNat default) Ze)]) (.seq .no (.cond (.reg [(3,.dat (.l 1 (eL 1 eStr) (out++[(F70 (lines.getD v12.toNat default) Ze)])))]) .no))))) (.reg [(0,.bnd)]))))) i.2.1 i.2.2)))) (.seq .no .no)))) Tryz.func65 (fun (hp:lines.length<=1048576/\(∀ k:Nat,(lines.getD k default).size<=1048576))=>have hpre0:=hp.1; have hpre1:=hp.2; kn lines fun _=>ai (bokr 1 (eL 1 eStr) ([]:List (List Za)) fun _=>rfl) (kn ([]:List (List Za)) fun _=>kn lines fun _=>ai (en65_0 lines word uu17) (fun (i0:Nat×(List (List Za)×Int)) (hi0:Qfh lines word i0)=>(fun (m0:Nat) (out:List (List Za)) (v12:Int) (hh0:Udm lines word i0 m0 out v12)=>have hI0:=hh0.1; have hl0:=hh0.2.1; have _:=hh0.2.2.1; have _:=hh0.2.2.2; ifd (v12<(lines.length:Int)) (fun h2 _=>ai (uu3:ib v12 lines) (kc70 (lines.getD v12.toNat default) Ze uu38 uu38 uu38 uu38 (fun gv3 gv4=>ai (uu3:ib 0 (F70 (lines.getD v12.toNat default) Ze)) (ifb (((F70 (lines.getD v12.toNat default) Ze).getD (Int.toNat 0) default).toList==word.toList) (fun h5=>ai (appr 1 (eL 1 eStr) out [(F70 (lines.getD v12.toNat default) Ze)] fun _=>rfl) (ai (uu21:(out++[(F70 (lines.getD v12.toNat default) Ze)]).length*24<=140737488355328) (ai (iok (v12+1) uu3) (Uiq lines word i0 m0 (out++[(F70 (lines.getD v12.toNat default) Ze)]) (v12+1) hl0 (Ud hI0 (condT h2 (condT h5 rfl))) uu20)))) (fun h5=>ai (iok (v12+1) uu3) (Uiq lines word i0 m0 out (v12+1) hl0 (Ud hI0 (condT h2 (condF h5 rfl))) uu20)))))) (fun h2 _=>have hD0_6:Udy lines word=Lp.done (out,v12):=Uh hI0 (condF h2 rfl); fi65 lines word out (finD hD0_6 rfl))) (i0.1-1) i0.2.1 i0.2.2 (un65_0 lines word i0 hi0)))) uu1
theorem as59 (lines:List Za):F59 lines=(lines.map F68):=by
 unfold F59
 have:=Ks lines (fun (s:List Za) x=>s++[F68 x]) (fun s i=>(s,i)) (Lt lines) (fun i s hi=>by
  simp only [Lt,ltD hi,Qc,nn]; rfl) (fun s=>by simp only [Lt,geD,Qe]) (fun r=>r) (fun (out,i40)=>out) []
 refine this.trans ?_
 rw [Jh,R3]
def Ua (lines:List Za) (word:Za):List (List Za):=(lines.map fun l=>Uv l Ze).filter fun w=>(w.getD 0 default).data.toList==word.data.toList
theorem as65 (lines:List Za) (word:Za):F65 lines word=(Ua lines word):=by
 unfold F65
 have:=Ks lines (fun (s:List (List Za)) x=>bif ((Uv x Ze).getD 0 default).data.toList==word.data.toList then s++[Uv x Ze] else s) (fun s i=>(s,i)) (Lg lines word) (fun i s hi=>by
  simp only [Lg,ltD hi,Qc,nn,Yd,F70]
  show (bif ((Uv (lines.getD i default) Ze).getD 0 default).data.toList==word.data.toList then _ else _)=_
  cases (((Uv (lines.getD i default) Ze).getD 0 default).data.toList==word.data.toList) <;> rfl) (fun s=>by simp only [Lg,geD,Qe]) (fun r=>r) (fun (out,v12)=>out) []
 refine this.trans ?_
 have h:=Em (fun x=>((Uv x Ze).getD 0 default).data.toList==word.data.toList) (fun x=>Uv x Ze) lines []
 rw [R3] at h
 refine h.trans ?_
 unfold Ua
 rw [Gv]
 rfl
def T59 (R:List Za) (lines:List Za):Spec:=⟨(S59 R lines).args,(S59 R lines).res,lines.length<=1048576/\(∀ k:Nat,(lines.getD k default).size<=1048576)⟩
theorem oa59 (lines:List Za):(T59 (lines.map F68) lines).ok Tryz.prog 59:=by
 intro hp; have h:=ok59 lines hp; rw [as59 lines] at h; exact h
def T65 (R:List (List Za)) (lines:List Za) (word:Za):Spec:=⟨(S65 R lines word).args,(S65 R lines word).res,lines.length<=1048576/\(∀ k:Nat,(lines.getD k default).size<=1048576)⟩
theorem oa65 (lines:List Za) (word:Za):(T65 (Ua lines word) lines word).ok Tryz.prog 65:=by
 intro hp; have h:=ok65 lines word hp; rw [as65 lines word] at h; exact h
def F95 (l:Za):Bool :=
 (!(F69 l))
def S95 (l:Za):Spec:=⟨[.r (.c (.v (.string l)))],.v (.bool (F95 l)),l.size<=1048576⟩
theorem ok95 (l:Za):(S95 l).ok Tryz.prog 95 false :=
 Ue mixed (fn:=Tryz.f95) (ct:=.seq .no (.seq (.reg [(1,kh69 l)]) .no)) Tryz.func95 (fun (hpre0:l.size<=1048576)=>kc69 l uu0 (fiB (!(F69 l)) (F95 l) rfl)) uu1
theorem kc40 (line:Za) {K_:Prop} (p0_:line.size<=1048576) (k_:K_):(line.size<=1048576)/\(Imp (.v (.string line)) (.v (.string line)))/\K_:=⟨p0_,Imp.refl _,k_⟩
abbrev kh40 (line:Za):Hint false Tryz.prog:=.call 40 (S40 line) (ok40 line) none
def Lk (lines:List Za):(Int×ML Bool)->Lp (Int×ML Bool) Int:=fun (v31,ms) =>
 bif (decide (v31<(lines.length:Int))) then (.next ((v31+1),(putM ms (F40 (lines.getD v31.toNat default)) true))) else (.done (v31,ms))
def Qea (lines:List Za):Lp (ML Bool) Int :=
 (runL (Lk lines) (((lines.length:Int)-0).toNat+1) (0,([]:ML Bool))).fin Lp.ret (fun (v31,ms)=>.done ms)
def Qbi (lines:List Za):Int->Lp Int Int:=fun i40 =>
 bif (decide (i40<(lines.length:Int))) then (bif (!(Op.bytesLess (lines.getD (i40-1).toNat default).toList (lines.getD i40.toNat default).toList)) then (.ret 3) else (.next (i40+1))) else (.done i40)
def F60 (lines:List Za):Int :=
 bif (decide ((lines.length:Int)>16)) then 1 else (bif (lines.any (fun (x0:Za)=>F95 x0)) then 2 else ((runL (Qbi lines) (((lines.length:Int)-1).toNat+1) 1).fin (fun r=>r) (fun i40=>(Qea lines).fin (fun r=>r) (fun keys=>bif (decide ((keys.length:Int)<(lines.length:Int))) then 4 else 0))))
abbrev Qgm (lines:List Za):Nat×(Int×ML Bool):=((((lines.length:Int)-0).toNat+1),(0,([]:ML Bool)))
abbrev Qrn (lines:List Za) (m39:Nat) (v31:Int) (ms:ML Bool):Prop:=Int.toNat ((lines.length:Int)-v31)<m39/\(0:Int)<=v31
abbrev Ufy (lines:List Za):Lp (Int×ML Bool) Int:=LpX (Lk lines) (Qgm lines)
abbrev Qfk (lines:List Za) (i:Nat×(Int×ML Bool)):Prop:=LpJ (Lk lines) (Qgm lines) i (Qrn lines i.1 i.2.1 i.2.2)
abbrev Ufr (lines:List Za) (i:Nat×(Int×ML Bool)) (m39:Nat) (v31:Int) (ms:ML Bool):Prop:=LpH (Lk lines) (Qgm lines) i m39 (v31,ms) (Qrn lines (m39+1) v31 ms)
abbrev Ubo (lines:List Za) (v31:Int) (ms:ML Bool) (v31_:Int) (ms_:ML Bool) (K39:Prop):Prop:=(Rf (.int .i64 (lines.length:Int)))/\((.int .i64 v31:Value)=.int .i64 v31_)/\(Im (.l 1 eStr lines))/\(Imp (.x (MX Value.bool ms)) (.x (MX Value.bool ms_)))/\K39
theorem un60_1 (lines:List Za) (i:Nat×(Int×ML Bool)) (h:Qfk lines i):Ufr lines i (i.1-1) i.2.1 i.2.2:=⟨hd1 h.1 h.2.1,hd3 h.2.1,hd2 h.2.1,h.2.2⟩
theorem bk60_1 (lines:List Za) (i:Nat×(Int×ML Bool)) (m39:Nat) (v31:Int) (ms:ML Bool) (hl:m39<i.1) (e:runL (Lk lines) m39 (v31,ms)=Ufy lines) (h:Qrn lines m39 v31 ms):∃ j:Nat×(Int×ML Bool),Ubo lines v31 ms j.2.1 j.2.2 (Qfk lines j/\j.1<i.1):=⟨(m39,(v31,ms)),rfl,rfl,Imp.refl _,Imp.refl _,⟨e,h⟩,hl⟩
theorem en60_1 (lines:List Za) (h:(0:Int)<=0):Ubo lines 0 ([]:ML Bool) 0 ([]:ML Bool) (Qfk lines (Qgm lines)):=⟨rfl,rfl,Imp.refl _,Imp.refl _,rfl,Qn _,h⟩
abbrev Qrz (lines:List Za) (j:ML Bool):Prop:=(Qea lines)=Lp.done j
theorem jn60_0 (lines:List Za) (keys:ML Bool) (e:(Qea lines)=Lp.done keys):∃ j:ML Bool,(Imp (.l 1 eStr lines) (.l 1 eStr lines))/\(Imp (.x (MX Value.bool keys)) (.x (MX Value.bool j)))/\Qrz lines j:=⟨keys,Imp.refl _,Imp.refl _,e⟩
abbrev Qfa (lines:List Za):Nat×Int:=((((lines.length:Int)-1).toNat+1),1)
abbrev Qrg (lines:List Za) (m39:Nat) (i40:Int):Prop:=Int.toNat ((lines.length:Int)-i40)<m39/\(1:Int)<=i40/\(0:Int)<=i40
abbrev Udt (lines:List Za):Lp Int Int:=LpX (Qbi lines) (Qfa lines)
abbrev Qhk (lines:List Za) (i:Nat×Int):Prop:=LpJ (Qbi lines) (Qfa lines) i (Qrg lines i.1 i.2)
abbrev Uig (lines:List Za) (i:Nat×Int) (m39:Nat) (i40:Int):Prop:=LpH (Qbi lines) (Qfa lines) i m39 i40 (Qrg lines (m39+1) i40)
abbrev Uej (lines:List Za) (i40:Int) (i40_:Int) (K39:Prop):Prop:=((.int .i64 i40:Value)=.int .i64 i40_)/\(Im (.l 1 eStr lines))/\K39
theorem un60_0 (lines:List Za) (i:Nat×Int) (h:Qhk lines i):Uig lines i (i.1-1) i.2:=⟨hd1 h.1 h.2.1,hd3 h.2.1,hd2 h.2.1,h.2.2⟩
theorem bk60_0 (lines:List Za) (i:Nat×Int) (m39:Nat) (i40:Int) (hl:m39<i.1) (e:runL (Qbi lines) m39 i40=Udt lines) (h:Qrg lines m39 i40):∃ j:Nat×Int,Uej lines i40 j.2 (Qhk lines j/\j.1<i.1):=⟨(m39,i40),rfl,Imp.refl _,⟨e,h⟩,hl⟩
theorem en60_0 (lines:List Za) (h:(1:Int)<=1/\(0:Int)<=1):Uej lines 1 1 (Qhk lines (Qfa lines)):=⟨rfl,Imp.refl _,rfl,Qn _,h⟩
def S60 (lines:List Za):Spec:=⟨[.r (.c (.l 1 eStr lines))],.v (vI (F60 lines)),(∀ k:Nat,(lines.getD k default).size<=1048576)⟩
theorem ok60 (lines:List Za):(S60 lines).ok Tryz.prog 60 false :=
 Ue mixed (fn:=Tryz.f60) (ct:=.seqk [(0,0)] .no (.seq (.seq .no (.cond (.seq .no .no) .no)) (.seq (.seq (.reg [(1,.call 94 (S94 (lines.any (fun (x0:Za)=>F95 x0)) lines (fun (x0:Za)=>F95 x0) (fun (x0:Za)=>x0.size<=1048576)) (oa94 lines (fun (x0:Za)=>F95 x0) (fun (x0:Za)=>x0.size<=1048576)) (some ⟨false,95,We (fun (x0:Za)=>x0.size<=1048576) (fun (x0:Za)=>F95 x0),[],rfl,True,fun i=>Lh (ok95 i)⟩))]) (.cond (.seq .no .no) .no)) (.seq (.seqk [(0,0)] .no (.blk (.loop (ι:=Nat×Int) (fun i=>(fun (i40:Int)=>(⟨[(0,some (.h 0 0)),(3,some (.v (vI i40)))],[(0,some (.shr none (.l 1 eStr lines)))],1⟩:St)) i.2) (Qhk lines) (fun i=>i.1) (Qfa lines) (fun i=>(fun (i40:Int)=>(.seq (.seq .no (.cond .no .no)) (.seq (.blk (.seq (.reg [(2,.bnd)]) (.cond (.seq .no .no) .no))) (.reg [(1,.bnd)])))) i.2)))) (.seq (.reg [(0,.mpm Value.bool)]) (.cut (ι:=ML Bool) (fun j=>(fun (keys:ML Bool)=>(⟨[(0,some (.h 0 0)),(4,some (.h 1 0))],[(0,some (.shr none (.l 1 eStr lines))),(1,some (.own 1 (.x (MX Value.bool keys))))],2⟩:St)) j) (Qrz lines) (.seqk [(29,0)] .no (.blk (.loop (ι:=Nat×(Int×ML Bool)) (fun i=>(fun (v31:Int) (ms:ML Bool)=>(⟨[(0,some (.h 0 0)),(4,some (.h 1 0)),(29,some (.h 0 0)),(30,some (.v (vI (lines.length:Int)))),(31,some (.v (vI v31)))],[(0,some (.shr none (.l 1 eStr lines))),(1,some (.own 1 (.x (MX Value.bool ms))))],2⟩:St)) i.2.1 i.2.2) (Qfk lines) (fun i=>i.1) (Qgm lines) (fun i=>(fun (v31:Int) (ms:ML Bool)=>(.seq .no (.seq (.cond .no .no) (.seq (.blk (.seq .no (.reg [(2,kh40 (lines.getD v31.toNat default)),(3,.mpu Value.bool ms true)]))) (.reg [(0,.bnd)]))))) i.2.1 i.2.2)))) (fun j=>(fun (keys:ML Bool)=>(.seq (.seq (.reg [(1,.mpn Value.bool keys)]) (.cond (.seq .no .no) .no)) (.seq .no .no))) j))))))) Tryz.func60 (fun (hpre0:∀ k:Nat,(lines.getD k default).size<=1048576)=>kn lines fun _=>ifd ((lines.length:Int)>16) (fun h1 _=>fiI 1 (F60 lines) (condT h1 rfl)) (fun h1 _=>ai (uu59:∀ k:Nat,k<lines.length->(fun (x0:Za)=>x0.size<=1048576) (lines.getD k default)) (ai (Imp.refl (.l 1 eStr lines)) (ai (Eq.refl (We (fun (x0:Za)=>x0.size<=1048576) (fun (x0:Za)=>F95 x0))) (ai trivial (ifb (lines.any (fun (x0:Za)=>F95 x0)) (fun h2=>fiI 2 (F60 lines) (condF h1 (condT h2 rfl))) (fun h2=>kn lines fun _=>ai (en60_0 lines uu5) (fun (i0:Nat×Int) (hi0:Qhk lines i0)=>(fun (m0:Nat) (i40:Int) (hh0:Uig lines i0 m0 i40)=>have hI0:=hh0.1; have hl0:=hh0.2.1; have _:=hh0.2.2.1; have _:=hh0.2.2.2; ifd (i40<(lines.length:Int)) (fun h4 _=>ai (iok (i40-1) uu0) (ai (uu0:ib (i40-1) lines) (ai (uu0:ib i40 lines) (ifb (!(Op.bytesLess (lines.getD (i40-1).toNat default).toList (lines.getD i40.toNat default).toList)) (fun h5=>fiI 3 (F60 lines) (condF h1 (condF h2 (finR (Um hI0 (condT h4 (condT h5 rfl))) rfl)))) (fun h5=>ai (iok (i40+1) uu0) (bk60_0 lines i0 m0 (i40+1) hl0 (Ud hI0 (condT h4 (condF h5 rfl))) uu39)))))) (fun h4 _=>have hD0_6:Udt lines=Lp.done i40:=Uh hI0 (condF h4 rfl); ai (kn lines fun _=>ai (en60_1 lines uu0) (fun (i1:Nat×(Int×ML Bool)) (hi1:Qfk lines i1)=>(fun (m1:Nat) (v31:Int) (ms:ML Bool) (hh1:Ufr lines i1 m1 v31 ms)=>have hI1:=hh1.1; have hl1:=hh1.2.1; have _:=hh1.2.2.1; have _:=hh1.2.2.2; ifd (v31<(lines.length:Int)) (fun h8 _=>ai (uu0:ib v31 lines) (kc40 (lines.getD v31.toNat default) (by first | omega | exact hpre0 _ | (intros; exact trivial) | (intros; exact Qy _)) (ai (Eq.refl (MX Value.bool ms)) (ai (Eq.refl (Value.bool true)) (ai (iok (v31+1) uu0) (bk60_1 lines i1 m1 (v31+1) (putM ms (F40 (lines.getD v31.toNat default)) true) hl1 (Ud hI1 (condT h8 rfl)) uu5)))))) (fun h8 _=>have hD1_9:Ufy lines=Lp.done (v31,ms):=Uh hI1 (condF h8 rfl); jn60_0 lines ms (G6 (finD hD1_9 rfl)) )) (i1.1-1) i1.2.1 i1.2.2 (un60_1 lines i1 hi1))) (fun (j:ML Bool) (hj:Qrz lines j)=>(fun (keys:ML Bool) (hJ0_10:(Qea lines)=Lp.done keys)=>ai (Eq.refl (MX Value.bool keys)) (ifd ((keys.length:Int)<(lines.length:Int)) (fun h11 _=>fiI 4 (F60 lines) (condF h1 (condF h2 (finD hD0_6 (finD hJ0_10 (condT h11 rfl)))))) (fun h11 _=>fiI 0 (F60 lines) (condF h1 (condF h2 (finD hD0_6 (finD hJ0_10 (condF h11 rfl)))))))) j hj))) (i0.1-1) i0.2 (un60_0 lines i0 hi0))))))))) uu1
theorem kc59a (lines:List Za) {K_:Prop} (p0_:lines.length<=1048576) (p1_:∀ k:Nat,(lines.getD k default).size<=1048576) (k_:K_):(lines.length<=1048576/\(∀ k:Nat,(lines.getD k default).size<=1048576))/\(Imp (.l 1 eStr lines) (.l 1 eStr lines))/\K_:=⟨⟨p0_,p1_⟩,Imp.refl _,k_⟩
abbrev kh59a (lines:List Za):Hint true Tryz.prog:=.call 59 (T59 (lines.map F68) lines) (oa59 lines) none
def Be (lines:List Za):Int->Lp Int Int:=fun i42 =>
 bif (decide (i42<(lines.length:Int))) then (bif (F31 ((lines.map F68).take i42.toNat) ((lines.map F68).getD i42.toNat default)) then (.ret 4) else (.next (i42+1))) else (.done i42)
def Hn (lines:List Za):Int->Lp Int Int:=fun i41 =>
 bif (decide (i41<(lines.length:Int))) then (bif (!(Op.bytesLess (lines.getD (i41-1).toNat default).toList (lines.getD i41.toNat default).toList)) then (.ret 3) else (.next (i41+1))) else (.done i41)
def Vx (lines:List Za):Int->Lp Int Int:=fun i40 =>
 bif (decide (i40<(lines.length:Int))) then (bif (((lines.map F68).getD i40.toNat default).toList==Zi.toList) then (.ret 2) else (.next (i40+1))) else (.done i40)
def F23 (lines:List Za):Int :=
 bif (decide ((lines.length:Int)>16)) then 1 else ((runL (Vx lines) (((lines.length:Int)-0).toNat+1) 0).fin (fun r=>r) (fun i40=>(runL (Hn lines) (((lines.length:Int)-1).toNat+1) 1).fin (fun r=>r) (fun i41=>(runL (Be lines) (((lines.length:Int)-0).toNat+1) 0).fin (fun r=>r) (fun i42=>0))))
abbrev Qfp (lines:List Za):Nat×Int:=((((lines.length:Int)-0).toNat+1),0)
abbrev Qqw (lines:List Za) (m39:Nat) (i42:Int):Prop:=Int.toNat ((lines.length:Int)-i42)<m39/\(0:Int)<=i42
abbrev Uhy (lines:List Za):Lp Int Int:=LpX (Be lines) (Qfp lines)
abbrev Qgn (lines:List Za) (i:Nat×Int):Prop:=LpJ (Be lines) (Qfp lines) i (Qqw lines i.1 i.2)
abbrev Ubh (lines:List Za) (i:Nat×Int) (m39:Nat) (i42:Int):Prop:=LpH (Be lines) (Qfp lines) i m39 i42 (Qqw lines (m39+1) i42)
abbrev Uib (lines:List Za) (i42:Int) (i42_:Int) (K39:Prop):Prop:=((.int .i64 i42:Value)=.int .i64 i42_)/\(Im (.l 1 eStr lines))/\(Im (.l 1 eStr (lines.map F68)))/\K39
theorem un23_2 (lines:List Za) (i:Nat×Int) (h:Qgn lines i):Ubh lines i (i.1-1) i.2:=⟨hd1 h.1 h.2.1,hd3 h.2.1,hd2 h.2.1,h.2.2⟩
theorem bk23_2 (lines:List Za) (i:Nat×Int) (m39:Nat) (i42:Int) (hl:m39<i.1) (e:runL (Be lines) m39 i42=Uhy lines) (h:Qqw lines m39 i42):∃ j:Nat×Int,Uib lines i42 j.2 (Qgn lines j/\j.1<i.1):=⟨(m39,i42),rfl,Imp.refl _,Imp.refl _,⟨e,h⟩,hl⟩
theorem en23_2 (lines:List Za) (h:(0:Int)<=0):Uib lines 0 0 (Qgn lines (Qfp lines)):=⟨rfl,Imp.refl _,Imp.refl _,rfl,Qn _,h⟩
abbrev Qdz (lines:List Za):Nat×Int:=((((lines.length:Int)-1).toNat+1),1)
abbrev Qsy (lines:List Za) (m39:Nat) (i41:Int):Prop:=Int.toNat ((lines.length:Int)-i41)<m39/\(1:Int)<=i41/\(0:Int)<=i41
abbrev Uez (lines:List Za):Lp Int Int:=LpX (Hn lines) (Qdz lines)
abbrev Qfn (lines:List Za) (i:Nat×Int):Prop:=LpJ (Hn lines) (Qdz lines) i (Qsy lines i.1 i.2)
abbrev Udf (lines:List Za) (i:Nat×Int) (m39:Nat) (i41:Int):Prop:=LpH (Hn lines) (Qdz lines) i m39 i41 (Qsy lines (m39+1) i41)
abbrev Udl (lines:List Za) (i41:Int) (i41_:Int) (K39:Prop):Prop:=((.int .i64 i41:Value)=.int .i64 i41_)/\(Im (.l 1 eStr lines))/\(Im (.l 1 eStr (lines.map F68)))/\K39
theorem un23_1 (lines:List Za) (i:Nat×Int) (h:Qfn lines i):Udf lines i (i.1-1) i.2:=⟨hd1 h.1 h.2.1,hd3 h.2.1,hd2 h.2.1,h.2.2⟩
theorem bk23_1 (lines:List Za) (i:Nat×Int) (m39:Nat) (i41:Int) (hl:m39<i.1) (e:runL (Hn lines) m39 i41=Uez lines) (h:Qsy lines m39 i41):∃ j:Nat×Int,Udl lines i41 j.2 (Qfn lines j/\j.1<i.1):=⟨(m39,i41),rfl,Imp.refl _,Imp.refl _,⟨e,h⟩,hl⟩
theorem en23_1 (lines:List Za) (h:(1:Int)<=1/\(0:Int)<=1):Udl lines 1 1 (Qfn lines (Qdz lines)):=⟨rfl,Imp.refl _,Imp.refl _,rfl,Qn _,h⟩
abbrev Qfy (lines:List Za):Nat×Int:=((((lines.length:Int)-0).toNat+1),0)
abbrev Qri (lines:List Za) (m39:Nat) (i40:Int):Prop:=Int.toNat ((lines.length:Int)-i40)<m39/\(0:Int)<=i40
abbrev Uip (lines:List Za):Lp Int Int:=LpX (Vx lines) (Qfy lines)
abbrev Qga (lines:List Za) (i:Nat×Int):Prop:=LpJ (Vx lines) (Qfy lines) i (Qri lines i.1 i.2)
abbrev Ugw (lines:List Za) (i:Nat×Int) (m39:Nat) (i40:Int):Prop:=LpH (Vx lines) (Qfy lines) i m39 i40 (Qri lines (m39+1) i40)
abbrev Uck (lines:List Za) (i40:Int) (i40_:Int) (K39:Prop):Prop:=((.int .i64 i40:Value)=.int .i64 i40_)/\(Im (.l 1 eStr lines))/\(Im (.l 1 eStr (lines.map F68)))/\K39
theorem un23_0 (lines:List Za) (i:Nat×Int) (h:Qga lines i):Ugw lines i (i.1-1) i.2:=⟨hd1 h.1 h.2.1,hd3 h.2.1,hd2 h.2.1,h.2.2⟩
theorem bk23_0 (lines:List Za) (i:Nat×Int) (m39:Nat) (i40:Int) (hl:m39<i.1) (e:runL (Vx lines) m39 i40=Uip lines) (h:Qri lines m39 i40):∃ j:Nat×Int,Uck lines i40 j.2 (Qga lines j/\j.1<i.1):=⟨(m39,i40),rfl,Imp.refl _,Imp.refl _,⟨e,h⟩,hl⟩
theorem en23_0 (lines:List Za) (h:(0:Int)<=0):Uck lines 0 0 (Qga lines (Qfy lines)):=⟨rfl,Imp.refl _,Imp.refl _,rfl,Qn _,h⟩
def S23 (lines:List Za):Spec:=⟨[.r (.c (.l 1 eStr lines))],.v (vI (F23 lines)),(∀ k:Nat,(lines.getD k default).size<=1048576)⟩
theorem ok23 (lines:List Za):(S23 lines).ok Tryz.prog 23 :=
 Ue mixed (fn:=Tryz.f23) (ct:=.seqk [(0,0)] .no (.seq (.seq .no (.cond (.seq .no .no) .no)) (.seq (.reg [(1,kh59a lines)]) (.seq (.seqk [(0,0),(3,0)] .no (.blk (.loop (ι:=Nat×Int) (fun i=>(fun (i40:Int)=>(⟨[(0,some (.h 0 0)),(3,some (.h 1 0)),(4,some (.v (vI i40)))],[(0,some (.shr none (.l 1 eStr lines))),(1,some (.own 1 (.l 1 eStr (lines.map F68))))],2⟩:St)) i.2) (Qga lines) (fun i=>i.1) (Qfy lines) (fun i=>(fun (i40:Int)=>(.seq (.seq .no (.cond .no .no)) (.seq (.blk (.seq .no (.cond (.seq .no .no) .no))) (.reg [(1,.bnd)])))) i.2)))) (.seq (.seqk [(0,0)] .no (.blk (.loop (ι:=Nat×Int) (fun i=>(fun (i41:Int)=>(⟨[(0,some (.h 0 0)),(3,some (.h 1 0)),(5,some (.v (vI i41)))],[(0,some (.shr none (.l 1 eStr lines))),(1,some (.own 1 (.l 1 eStr (lines.map F68))))],2⟩:St)) i.2) (Qfn lines) (fun i=>i.1) (Qdz lines) (fun i=>(fun (i41:Int)=>(.seq (.seq .no (.cond .no .no)) (.seq (.blk (.seq (.reg [(2,.bnd)]) (.cond (.seq .no .no) .no))) (.reg [(1,.bnd)])))) i.2)))) (.seq (.seqk [(0,0),(3,0)] .no (.blk (.loop (ι:=Nat×Int) (fun i=>(fun (i42:Int)=>(⟨[(0,some (.h 0 0)),(3,some (.h 1 0)),(6,some (.v (vI i42)))],[(0,some (.shr none (.l 1 eStr lines))),(1,some (.own 1 (.l 1 eStr (lines.map F68))))],2⟩:St)) i.2) (Qgn lines) (fun i=>i.1) (Qfp lines) (fun i=>(fun (i42:Int)=>(.seq (.seq .no (.cond .no .no)) (.seq (.blk (.seq (.reg [(7,kh31 ((lines.map F68).take i42.toNat) ((lines.map F68).getD i42.toNat default))]) (.cond (.seq .no .no) .no))) (.reg [(1,.bnd)])))) i.2)))) (.seq .no .no))))))) Tryz.func23 (fun (hpre0:∀ k:Nat,(lines.getD k default).size<=1048576)=>kn lines fun _=>ifd ((lines.length:Int)>16) (fun h1 _=>fiI 1 (F23 lines) (condT h1 rfl)) (fun h1 _=>kc59a lines uu3 uu59 (kn lines fun _=>kn (lines.map F68) fun _=>ai (en23_0 lines uu3) (fun (i0:Nat×Int) (hi0:Qga lines i0)=>(fun (m0:Nat) (i40:Int) (hh0:Ugw lines i0 m0 i40)=>have hI0:=hh0.1; have hl0:=hh0.2.1; have _:=hh0.2.2.1; have _:=hh0.2.2.2; ifd (i40<(lines.length:Int)) (fun h3 _=>ai (uu3:ib i40 (lines.map F68)) (ifb (((lines.map F68).getD i40.toNat default).toList==Zi.toList) (fun h4=>fiI 2 (F23 lines) (condF h1 (finR (Um hI0 (condT h3 (condT h4 rfl))) rfl))) (fun h4=>ai (iok (i40+1) uu3) (bk23_0 lines i0 m0 (i40+1) hl0 (Ud hI0 (condT h3 (condF h4 rfl))) uu17)))) (fun h3 _=>have hD0_5:Uip lines=Lp.done i40:=Uh hI0 (condF h3 rfl); kn lines fun _=>ai (en23_1 lines uu17) (fun (i1:Nat×Int) (hi1:Qfn lines i1)=>(fun (m1:Nat) (i41:Int) (hh1:Udf lines i1 m1 i41)=>have hI1:=hh1.1; have hl1:=hh1.2.1; have _:=hh1.2.2.1; have _:=hh1.2.2.2; ifd (i41<(lines.length:Int)) (fun h7 _=>ai (iok (i41-1) uu3) (ai (uu3:ib (i41-1) lines) (ai (uu3:ib i41 lines) (ifb (!(Op.bytesLess (lines.getD (i41-1).toNat default).toList (lines.getD i41.toNat default).toList)) (fun h8=>fiI 3 (F23 lines) (condF h1 (finD hD0_5 (finR (Um hI1 (condT h7 (condT h8 rfl))) rfl)))) (fun h8=>ai (iok (i41+1) uu3) (bk23_1 lines i1 m1 (i41+1) hl1 (Ud hI1 (condT h7 (condF h8 rfl))) uu20)))))) (fun h7 _=>have hD1_9:Uez lines=Lp.done i41:=Uh hI1 (condF h7 rfl); kn lines fun _=>kn (lines.map F68) fun _=>ai (en23_2 lines uu3) (fun (i2:Nat×Int) (hi2:Qgn lines i2)=>(fun (m2:Nat) (i42:Int) (hh2:Ubh lines i2 m2 i42)=>have hI2:=hh2.1; have hl2:=hh2.2.1; have _:=hh2.2.2.1; have _:=hh2.2.2.2; ifd (i42<(lines.length:Int)) (fun h11 _=>ai (uu3:0<=(0:Int)/\(0:Int)<=i42/\i42<=((lines.map F68).length:Int)) (ai (uu3:ib i42 (lines.map F68)) (kc31 ((lines.map F68).take i42.toNat) ((lines.map F68).getD i42.toNat default) (ifb (F31 ((lines.map F68).take i42.toNat) ((lines.map F68).getD i42.toNat default)) (fun h12=>fiI 4 (F23 lines) (condF h1 (finD hD0_5 (finD hD1_9 (finR (Um hI2 (condT h11 (condT h12 rfl))) rfl))))) (fun h12=>ai (iok (i42+1) uu3) (bk23_2 lines i2 m2 (i42+1) hl2 (Ud hI2 (condT h11 (condF h12 rfl))) uu17)))))) (fun h11 _=>have hD2_13:Uhy lines=Lp.done i42:=Uh hI2 (condF h11 rfl); fiI 0 (F23 lines) (condF h1 (finD hD0_5 (finD hD1_9 (finD hD2_13 rfl)))))) (i2.1-1) i2.2 (un23_2 lines i2 hi2)))) (i1.1-1) i1.2 (un23_1 lines i1 hi1)))) (i0.1-1) i0.2 (un23_0 lines i0 hi0))))) uu1
instance baLawful:LawfulBEq Za where
 eq_of_beq h:=(Go.MapKept.bytes_beq _ _).1 h
 rfl:=(Go.MapKept.bytes_beq _ _).2 rfl
theorem Uid (l:Za) (h:F98 l=false):F68 l=Zi:=by
 unfold F68
 rw [h]; rfl
theorem Qjx (l:Za):((F68 l).toList==Zi.toList)=!F98 l:=by
 cases h:F98 l with
 | false=>rw [Uid l h]; rw [Qcb]; rfl
 | true =>
  rw [Yd,Yd,Udp l h,Sv,Qz]
  have hk:=Ms l h
  have hl:=Hr _ hk.form
  have hn:=Qcy _ hk.form
  have hno:=hk.no
  generalize (F64 l).1=w at hl hn hno
  match w,hl with
  | a :: r,_ =>
   have e:((keyN (((a :: r).getD 0 default).data.toList)).toNat)=(keyN (((a :: r).getD 0 default).data.toList)).toNat-1+1:=by omega
   rw [e,List.take_succ_cons,Nn,Rb,Lib.join_cons]
   intro h0
   exact (hno a Ql).2.1 (List.append_eq_nil_iff.1 h0).1
def dupK:List Za->List Za->Bool
 | _,[]=>false
 | seen,s :: r=>decide (s∈seen) || dupK (seen++[s]) r
def insK (ks:List Za) (s:Za):List Za:=if s∈ks then ks else ks++[s]
theorem Qya:∀ (keys ks:List Za),(keys.foldl insK ks).length<=ks.length+keys.length
 | [],ks=>by simp
 | s :: r,ks=>by
  rw [S3]
  have h:=Qya r (insK ks s)
  have h2:(insK ks s).length<=ks.length+1:=by unfold insK; split <;> simp
  simp only [Q4]; omega
theorem Qob:∀ (keys ks seen:List Za),(∀ s,s∈ks↔s∈seen)->decide ((keys.foldl insK ks).length<ks.length+keys.length)=dupK seen keys
 | [],ks,seen,_=>by simp [dupK]
 | s :: r,ks,seen,h=>by
  rw [S3,dupK]
  by_cases hs:s∈ks
  ·have e:insK ks s=ks:=by unfold insK; rw [if_pos hs]
   rw [e,Qs ((h s).1 hs),Bool.true_or]
   have:=Qya r ks
   exact Qs uu32
  ·have e:insK ks s=ks++[s]:=by unfold insK; rw [if_neg hs]
   rw [e,Qk (fun x=>hs ((h s).2 x)),Ga,<- Qob r (ks++[s]) (seen++[s]) (fun t=>by simp [h t])]
   congr 1
   simp only [Ri,Q4,Se]
   exact propext ⟨fun x=>by omega,fun x=>by omega⟩
theorem Qju {α:Type}:∀ (m:ML α) (s:Za) (x:α),(putM m s x).map (·.1)=insK (m.map (·.1)) s
 | [],s,x=>by simp [putM,insK]
 | p :: m,s,x=>by
  rw [putM]
  by_cases h:p.1=s
  ·rw [if_pos h]; subst h; simp [insK]
  ·rw [if_neg h,Rb,Qju m s x]
   unfold insK
   have h':¬ s=p.1:=fun e=>h e.symm
   by_cases hm:s∈m.map (·.1)
   ·rw [if_pos hm,Rb,if_pos (Qi _ hm)]
   ·rw [if_neg hm,Rb,if_neg (by simp only [Qu,not_or]; exact ⟨h',hm⟩)]; rfl
theorem Qgh {α:Type} (f:Za->Za) (v:Za->α):∀ (ls:List Za) (m:ML α),(ls.foldl (fun m l=>putM m (f l) (v l)) m).map (·.1)=(ls.map f).foldl insK (m.map (·.1))
 | [],m=>rfl
 | l :: ls,m=>by
  rw [S3,Qgh f v ls,Qju,Rb,S3]
theorem Qpk (ws:List Za) (x:Za):F31 ws x=decide (x∈ws):=by
 rw [Qhp,Gu,R5,Ry]
 constructor
 ·rintro ⟨e,he,h⟩
  rw [Qcb,Ry] at h
  exact h ▸ he
 ·exact fun h=>⟨x,h,by rw [Qcb]; exact Qs rfl⟩
theorem Qpr (keys:List Za):∀ (m i:Nat),i+m=keys.length->anyF (fun k=>decide (keys.getD k default∈keys.take k)) i m=dupK (keys.take i) (keys.drop i)
 | 0,i,h=>by rw [Q7 uu0]; rfl
 | m+1,i,h=>by
  have hd:keys.drop i=keys.getD i default :: keys.drop (i+1):=by
   rw [Rg (show i<keys.length by omega),Qd,Qh (show i<keys.length by omega)]; rfl
  rw [hd,dupK,anyF,Qpr keys m (i+1) uu0,Qci (show i<keys.length by omega)]
theorem Qoj (f:Za->Za) (ls:List Za) (i:Nat) (h:i<ls.length):(ls.map f).getD i default=f (ls.getD i default):=by
 rw [Jo _ (by simpa using h),Jo _ h,List.getElem_map]
theorem Qqp {α:Type} {p q:α->Bool} {xs:List α} (h:∀ x,p x=q x):xs.any p=xs.any q:=by rw [show p=q from funext h]
theorem Qbm (lines:List Za):F60 lines=F23 lines:=by
 unfold F60 F23
 have hkept:∀ x:Za,F95 x=!F98 x:=fun x=>by unfold F95; rw [Bs]
 cases h16:decide ((lines.length:Int)>16) with
 | true=>rfl
 | false =>
 rw [Qe,Qe]
 have h0:=anyL lines (fun l=>!F98 l) (2:Int) (Vx lines) (fun i hi=>by
  simp only [Vx,ltD hi,Qc,nn,Qoj _ _ _ hi,Qjx]
  rfl) (by simp only [Vx,geD,Qe]) (fun r=>r) (fun _=>(runL (Hn lines) ((Int.toNat ((lines.length:Int)-1))+1) 1).fin (fun r=>r) (fun i41=>(runL (Be lines) ((Int.toNat ((lines.length:Int)-0))+1) 0).fin (fun r=>r) (fun i42=>0))) _ (fun _=>rfl)
 rw [h0]
 have e1:(lines.any fun x0=>F95 x0)=lines.any fun l=>!F98 l:=Qqp hkept
 rw [e1]
 cases (lines.any fun l=>!F98 l) with
 | true=>rfl
 | false =>
 rw [Qe,Qe]
 have e2:Qbi lines=Hn lines:=rfl
 rw [e2]
 congr 1
 funext i
 have h2:=Kg (Be lines) lines.length (fun k=>decide ((lines.map F68).getD k default∈(lines.map F68).take k)) (4:Int) (fun r=>r) (0:Int) (fun i hi=>by
  simp only [Be,ltD hi,Qc,nn,Qpk]; rfl) (by simp only [Be,geD,Qe]) lines.length 0 uu0 (Int.toNat ((lines.length:Int)-0)+1) uu0
 rw [Qpr (lines.map F68) lines.length 0 uu16,Tv,Rm] at h2
 refine Eq.trans ?_ h2.symm
 have h3:=Ks lines (fun (m:ML Bool) l=>putM m (F68 l) true) (fun m i=>(i,m)) (Lk lines) (fun i s hi=>by
  simp only [Lk,ltD hi,Qc,nn,Ueq]; rfl) (fun s=>by simp only [Lk,geD,Qe]) Lp.ret (fun (v31,ms)=>Lp.done ms) ([]:ML Bool)
 have h4:Qea lines=Lp.done (lines.foldl (fun (m:ML Bool) l=>putM m (F68 l) true) []):=h3
 rw [h4]
 show (bif decide (((lines.foldl (fun (m:ML Bool) l=>putM m (F68 l) true) []).length:Int)<(lines.length:Int)) then (4:Int) else 0)=_
 have h5:=Qob (lines.map F68) [] [] (fun s=>Iff.rfl)
 have h6:(lines.foldl (fun (m:ML Bool) l=>putM m (F68 l) true) []).length=((lines.map F68).foldl insK []).length:=by
  have:=Qt List.length (Qgh F68 (fun _=>true) lines [])
  rw [Sk] at this
  exact this
 rw [<- h5,h6]
 congr 1
 simp only [Se,Rs,Sk]
 exact S4.2 uu0
theorem Ny (lines:List Za) (h:F23 lines=0):lines.length<=16/\∀ l∈lines,F98 l=true:=by
 unfold F23 at h
 cases h16:decide ((lines.length:Int)>16) with
 | true=>rw [h16,Qc] at h; exact absurd h uu2
 | false =>
 rw [h16,Qe] at h
 have h0:=anyL lines (fun l=>!F98 l) (2:Int) (Vx lines) (fun i hi=>by
  simp only [Vx,ltD hi,Qc,nn,Qoj _ _ _ hi,Qjx]
  rfl) (by simp only [Vx,geD,Qe]) (fun r=>r) (fun _=>(runL (Hn lines) ((Int.toNat ((lines.length:Int)-1))+1) 1).fin (fun r=>r) (fun i41=>(runL (Be lines) ((Int.toNat ((lines.length:Int)-0))+1) 0).fin (fun r=>r) (fun i42=>0))) _ (fun _=>rfl)
 rw [h0] at h
 cases ha:(lines.any fun l=>!F98 l) with
 | true=>rw [ha,Qc] at h; exact absurd h uu2
 | false =>
  have h1:=Qp h16
  refine ⟨by omega,fun l hl=>?_⟩
  have:=List.any_eq_false.1 ha l hl
  cases hk:F98 l with
  | true=>rfl
  | false=>rw [hk] at this; exact absurd rfl this
theorem Qqe (lines:List Za) (h:F23 lines=0):lines.length<=16:=(Ny lines h).1
theorem Qqi (lines:List Za) (word:Za) (h:lines.length<=16):(Ua lines word).length<=16:=by
 unfold Ua
 have:=List.length_filter_le (fun w:List Za=>(w.getD 0 default).data.toList==word.data.toList) (lines.map fun l=>Uv l Ze)
 rw [Sk] at this
 omega
theorem Qfs (l:Za) (h:F98 l=true):Uv l Ze=(F64 l).1:=(Ms l h).splits
theorem Qel {lines:List Za} {word:Za} {w:List Za} (h:F23 lines=0) (hw:w∈Ua lines word):∃ l∈lines,Uga l w/\(w.getD 0 default).data.toList=word.data.toList:=by
 obtain ⟨h1,h2⟩:=Tm.1 hw
 obtain ⟨l,hl,rfl⟩:=Si.1 h1
 have hk:=(Ny lines h).2 l hl
 refine ⟨l,hl,?_,eq_of_beq h2⟩
 rw [Qfs l hk]
 exact Ms l hk
theorem Yv {lines:List Za} {word:Za} (h:F23 lines=0) {k:Nat} (hk:k<(Ua lines word).length):Vg ((Ua lines word).getD k default)/\(((Ua lines word).getD k default).getD 0 default).data.toList=word.data.toList:=by
 obtain ⟨l,hl,h1,h2⟩:=Qel h (Vy _ hk)
 exact ⟨h1.form,h2⟩
theorem Qoy (lines:List Za) (word:Za) (h:F23 lines=0) (k j:Nat):(((Ua lines word).getD k default).getD j default).size<=24:=by
 by_cases hk:k<(Ua lines word).length
 ·obtain ⟨l,hl,h1,h2⟩:=Qel h (Vy _ hk)
  by_cases hj:j<((Ua lines word).getD k default).length
  ·exact (h1.no _ (Vy _ hj)).2.2
  ·rw [Kq _ (show ((Ua lines word).getD k default).length<=j by omega)]; exact Qy _
 ·rw [Kq _ (show (Ua lines word).length<=k by omega)]; exact Qy _
theorem Lx (lines:List Za) (word:Za) (h:F23 lines=0) (k j:Nat):(((Ua lines word).getD k default).getD j default).size<=1048576:=Q5 (Qoy lines word h k j) uu2
theorem Ujz {w:List Za} (h:Vg w) (h0:(w.getD 0 default).data.toList=[117,115,101,114]):Ve w:=by
 rcases h with h | h | h | h | h | h | h | h
 ·exact absurd (h0.symm.trans h.1) uu2
 ·exact h
 ·exact absurd (h0.symm.trans h.1) uu2
 ·exact absurd (h0.symm.trans h.1) uu2
 ·exact absurd (h0.symm.trans h.1) uu2
 ·exact absurd (h0.symm.trans h.1) uu2
 ·exact absurd (h0.symm.trans h.1) uu2
 ·exact absurd (h0.symm.trans h.1) uu2
theorem Umo (lines:List Za) (h:F23 lines=0):∀ k:Nat,k<(Ua lines Zj).length->Ve ((Ua lines Zj).getD k default):=fun k hk=>Ujz (Yv h hk).1 (Yv h hk).2
theorem Qdn {w:List Za} (h:Vg w) (h0:(w.getD 0 default).data.toList=[112,111,114,116]):Xy w:=by
 rcases h with h | h | h | h | h | h | h | h
 ·exact absurd (h0.symm.trans h.1) uu2
 ·exact absurd (h0.symm.trans h.1) uu2
 ·exact h
 ·exact absurd (h0.symm.trans h.1) uu2
 ·exact absurd (h0.symm.trans h.1) uu2
 ·exact absurd (h0.symm.trans h.1) uu2
 ·exact absurd (h0.symm.trans h.1) uu2
 ·exact absurd (h0.symm.trans h.1) uu2
theorem Uml (lines:List Za) (h:F23 lines=0):∀ k:Nat,k<(Ua lines Zd).length->Xy ((Ua lines Zd).getD k default):=fun k hk=>Qdn (Yv h hk).1 (Yv h hk).2
theorem Ujn {w:List Za} (h:Vg w) (h0:(w.getD 0 default).data.toList=[114,117,108,101]):Jw w:=by
 rcases h with h | h | h | h | h | h | h | h
 ·exact absurd (h0.symm.trans h.1) uu2
 ·exact absurd (h0.symm.trans h.1) uu2
 ·exact absurd (h0.symm.trans h.1) uu2
 ·exact h
 ·exact absurd (h0.symm.trans h.1) uu2
 ·exact absurd (h0.symm.trans h.1) uu2
 ·exact absurd (h0.symm.trans h.1) uu2
 ·exact absurd (h0.symm.trans h.1) uu2
theorem Qxi (lines:List Za) (h:F23 lines=0):∀ k:Nat,k<(Ua lines Zf).length->Jw ((Ua lines Zf).getD k default):=fun k hk=>Ujn (Yv h hk).1 (Yv h hk).2
theorem Uff {w:List Za} (h:Vg w) (h0:(w.getD 0 default).data.toList=[114,111,117,116,101]):Bg w:=by
 rcases h with h | h | h | h | h | h | h | h
 ·exact absurd (h0.symm.trans h.1) uu2
 ·exact absurd (h0.symm.trans h.1) uu2
 ·exact absurd (h0.symm.trans h.1) uu2
 ·exact absurd (h0.symm.trans h.1) uu2
 ·exact h
 ·exact absurd (h0.symm.trans h.1) uu2
 ·exact absurd (h0.symm.trans h.1) uu2
 ·exact absurd (h0.symm.trans h.1) uu2
theorem Ufw (lines:List Za) (h:F23 lines=0):∀ k:Nat,k<(Ua lines Zh).length->Bg ((Ua lines Zh).getD k default):=fun k hk=>Uff (Yv h hk).1 (Yv h hk).2
theorem Umr {w:List Za} (h:Vg w) (h0:(w.getD 0 default).data.toList=[112,101,101,114]):En w:=by
 rcases h with h | h | h | h | h | h | h | h
 ·exact absurd (h0.symm.trans h.1) uu2
 ·exact absurd (h0.symm.trans h.1) uu2
 ·exact absurd (h0.symm.trans h.1) uu2
 ·exact absurd (h0.symm.trans h.1) uu2
 ·exact absurd (h0.symm.trans h.1) uu2
 ·exact h
 ·exact absurd (h0.symm.trans h.1) uu2
 ·exact absurd (h0.symm.trans h.1) uu2
theorem Ukm (lines:List Za) (h:F23 lines=0):∀ k:Nat,k<(Ua lines Zg).length->En ((Ua lines Zg).getD k default):=fun k hk=>Umr (Yv h hk).1 (Yv h hk).2
theorem Ugj {w:List Za} (h:Vg w) (h0:(w.getD 0 default).data.toList=[110,97,116]):natP w:=by
 rcases h with h | h | h | h | h | h | h | h
 ·exact absurd (h0.symm.trans h.1) uu2
 ·exact absurd (h0.symm.trans h.1) uu2
 ·exact absurd (h0.symm.trans h.1) uu2
 ·exact absurd (h0.symm.trans h.1) uu2
 ·exact absurd (h0.symm.trans h.1) uu2
 ·exact absurd (h0.symm.trans h.1) uu2
 ·exact h
 ·exact absurd (h0.symm.trans h.1) uu2
theorem nat_at (lines:List Za) (h:F23 lines=0):∀ k:Nat,k<(Ua lines Zc).length->natP ((Ua lines Zc).getD k default):=fun k hk=>Ugj (Yv h hk).1 (Yv h hk).2
theorem Ulp {w:List Za} (h:Vg w) (h0:(w.getD 0 default).data.toList=[100,111,111,114]):Hl w:=by
 rcases h with h | h | h | h | h | h | h | h
 ·exact absurd (h0.symm.trans h.1) uu2
 ·exact absurd (h0.symm.trans h.1) uu2
 ·exact absurd (h0.symm.trans h.1) uu2
 ·exact absurd (h0.symm.trans h.1) uu2
 ·exact absurd (h0.symm.trans h.1) uu2
 ·exact absurd (h0.symm.trans h.1) uu2
 ·exact absurd (h0.symm.trans h.1) uu2
 ·exact h
theorem Qyv (lines:List Za) (h:F23 lines=0):∀ k:Nat,k<(Ua lines Zb).length->Hl ((Ua lines Zb).getD k default):=fun k hk=>Ulp (Yv h hk).1 (Yv h hk).2
theorem Qac (lines:List Za) (word:Za) {K_:Prop} (p0_:lines.length<=1048576) (p1_:∀ k:Nat,(lines.getD k default).size<=1048576) (q0_:lines.length<=16) (k_:((Ua lines word).length<=16)->K_):(lines.length<=1048576/\(∀ k:Nat,(lines.getD k default).size<=1048576))/\(Imp (.l 1 eStr lines) (.l 1 eStr lines))/\(Imp (.v (.string word)) (.v (.string word)))/\K_:=⟨⟨p0_,p1_⟩,Imp.refl _,Imp.refl _,k_ (Qqi lines word q0_)⟩
abbrev kh65a (lines:List Za) (word:Za):Hint true Tryz.prog:=.call 65 (T65 (Ua lines word) lines word) (oa65 lines word) none
abbrev Hu (lines:List Za) (word:Za):Hint false Tryz.prog:=.call 65 (T65 (Ua lines word) lines word) ((oa65 lines word).to false) none
def Xd (lines:List Za):(List Ub×Int)->Lp (List Ub×Int) (List Ub):=fun (out,v12) =>
 bif (decide (v12<((Ua lines Zd).length:Int))) then (.next ((out++[(F169 (((Ua lines Zd).getD (Int.toNat v12) default).getD (Int.toNat 2) default)).1]),(v12+1))) else (.done (out,v12))
def F162 (lines:List Za):List Ub :=
 (runL (Xd lines) ((Int.toNat (((Ua lines Zd).length:Int)-0))+1) (([]:List Ub),0)).fin (fun r=>r) (fun (out,v12)=>out)
abbrev Ea (lines:List Za):Nat×(List Ub×Int):=(((Int.toNat (((Ua lines Zd).length:Int)-0))+1),(([]:List Ub),0))
abbrev Qlg (lines:List Za) (m39:Nat) (out:List Ub) (v12:Int):Prop:=Int.toNat (((Ua lines Zd).length:Int)-v12)<m39/\(out.length:Int)<=v12/\(0:Int)<=v12
abbrev Qvw (lines:List Za):Lp (List Ub×Int) (List Ub):=LpX (Xd lines) (Ea lines)
abbrev Ew (lines:List Za) (i:Nat×(List Ub×Int)):Prop:=LpJ (Xd lines) (Ea lines) i (Qlg lines i.1 i.2.1 i.2.2)
abbrev Qyw (lines:List Za) (i:Nat×(List Ub×Int)) (m39:Nat) (out:List Ub) (v12:Int):Prop:=LpH (Xd lines) (Ea lines) i m39 (out,v12) (Qlg lines (m39+1) out v12)
abbrev Qwa (lines:List Za) (out:List Ub) (v12:Int) (out_:List Ub) (v12_:Int) (K39:Prop):Prop:=(Rf (.int .i64 ((Ua lines Zd).length:Int)))/\((.int .i64 v12:Value)=.int .i64 v12_)/\(Imp (.l 2 Ui out) (.l 2 Ui out_))/\(Im (.l 1 (eL 1 eStr) (Ua lines Zd)))/\K39
theorem Ujy (lines:List Za) (i:Nat×(List Ub×Int)) (h:Ew lines i):Qyw lines i (i.1-1) i.2.1 i.2.2:=⟨hd1 h.1 h.2.1,hd3 h.2.1,hd2 h.2.1,h.2.2⟩
theorem Ung (lines:List Za) (i:Nat×(List Ub×Int)) (m39:Nat) (out:List Ub) (v12:Int) (hl:m39<i.1) (e:runL (Xd lines) m39 (out,v12)=Qvw lines) (h:Qlg lines m39 out v12):∃ j:Nat×(List Ub×Int),Qwa lines out v12 j.2.1 j.2.2 (Ew lines j/\j.1<i.1):=⟨(m39,(out,v12)),rfl,rfl,Imp.refl _,Imp.refl _,⟨e,h⟩,hl⟩
theorem Uni (lines:List Za) (h:(([]:List Ub).length:Int)<=0/\(0:Int)<=0):Qwa lines ([]:List Ub) 0 ([]:List Ub) 0 (Ew lines (Ea lines)):=⟨rfl,rfl,Imp.refl _,Imp.refl _,rfl,Qn _,h⟩
theorem fi162 (lines:List Za) (r:List Ub) (hF:r=(F162 lines)):(Imp (.l 2 Ui r) (.l 2 Ui (F162 lines)))/\True:=by cases hF; exact ⟨Imp.refl _,trivial⟩
def S162 (R:List Ub) (lines:List Za):Spec:=⟨[.r (.c (.l 1 eStr lines))],.ow (.l 2 Ui R),F23 lines=0/\lines.length<=16/\(∀ k:Nat,(lines.getD k default).size<=1048576)⟩
theorem ok162 (lines:List Za):(S162 (F162 lines) lines).ok Tryz.prog 162 false :=
 Ue mixed (fn:=Tryz.f162) (ct:=.seqk [(0,0)] .no (.seq (.reg [(0,.dat (.l 2 Ui ([]:List Ub)))]) (.seq (.seqk [(3,0),(10,0)] (.reg [(1,Hu lines Zd)]) (.blk (.loop (ι:=Nat×(List Ub×Int)) (fun i=>(fun (out:List Ub) (v12:Int)=>(⟨[(3,some (.h 0 0)),(10,some (.h 1 0)),(11,some (.v (vI ((Ua lines Zd).length:Int)))),(12,some (.v (vI v12)))],[(0,some (.own 0 (.l 2 Ui out))),(1,some (.own 1 (.l 1 (eL 1 eStr) (Ua lines Zd))))],2⟩:St)) i.2.1 i.2.2) (Ew lines) (fun i=>i.1) (Ea lines) (fun i=>(fun (out:List Ub) (v12:Int)=>(.seq .no (.seq (.cond .no .no) (.seq (.blk (.seq .no (.seq (.reg [(3,Udn (((Ua lines Zd).getD (Int.toNat v12) default).getD (Int.toNat 2) default))]) (.reg [(3,.dat (.l 2 Ui (out++[(F169 (((Ua lines Zd).getD (Int.toNat v12) default).getD (Int.toNat 2) default)).1])))])))) (.reg [(0,.bnd)]))))) i.2.1 i.2.2)))) (.seq .no .no)))) Tryz.func162 (fun (hp:F23 lines=0/\lines.length<=16/\(∀ k:Nat,(lines.getD k default).size<=1048576))=>have hpre0:=hp.1; have hpre1:=hp.2.1; have hpre2:=hp.2.2; kn lines fun _=>ai (bokr 2 Ui ([]:List Ub) fun _=>rfl) (Qac lines Zd uu3 uu40 uu3 (fun gv1=>kn ([]:List Ub) fun _=>kn (Ua lines Zd) fun _=>ai (Uni lines uu17) (fun (i0:Nat×(List Ub×Int)) (hi0:Ew lines i0)=>(fun (m0:Nat) (out:List Ub) (v12:Int) (hh0:Qyw lines i0 m0 out v12)=>have hI0:=hh0.1; have hl0:=hh0.2.1; have _:=hh0.2.2.1; have _:=hh0.2.2.2; ifd (v12<((Ua lines Zd).length:Int)) (fun h3 _=>ai (uu60:0<=v12/\v12<((Ua lines Zd).length:Int)) (ai (uu60:0<=(2:Int)/\(2:Int)<(((Ua lines Zd).getD (Int.toNat v12) default).length:Int)) (Ube (((Ua lines Zd).getD (Int.toNat v12) default).getD (Int.toNat 2) default) uu24 (ai (appr 2 Ui out [(F169 (((Ua lines Zd).getD (Int.toNat v12) default).getD (Int.toNat 2) default)).1] fun _=>rfl) (ai (uu21:(out++[(F169 (((Ua lines Zd).getD (Int.toNat v12) default).getD (Int.toNat 2) default)).1]).length*16<=140737488355328) (ai (iok (v12+1) uu3) (Ung lines i0 m0 (out++[(F169 (((Ua lines Zd).getD (Int.toNat v12) default).getD (Int.toNat 2) default)).1]) (v12+1) hl0 (Ud hI0 (condT h3 rfl)) uu20))))))) (fun h3 _=>have hD0_4:Qvw lines=Lp.done (out,v12):=Uh hI0 (condF h3 rfl); fi162 lines out (finD hD0_4 rfl))) (i0.1-1) i0.2.1 i0.2.2 (Ujy lines i0 hi0))))) uu1
def F159 (w1:List Za):Bool :=
 ((w1.getD (Int.toNat 2) default).toList==Zm.toList)
def S159 (w1:List Za):Spec:=⟨[.r (.c (.l 1 eStr w1))],.v (.bool (F159 w1)),Ve w1⟩
theorem ok159 (w1:List Za):(S159 w1).ok Tryz.prog 159 :=
 Ue mixed (fn:=Tryz.f159) (ct:=.seqk [(0,0)] .no (.seq .no .no)) Tryz.func159 (fun (hpre0:Ve w1)=>kn w1 fun _=>ai (by (have h9:=hpre0; unfold Ve at h9; omega):0<=(2:Int)/\(2:Int)<(w1.length:Int)) (fiB ((w1.getD (Int.toNat 2) default).toList==Zm.toList) (F159 w1) rfl)) uu1
def Bk (Q:(List Za)->Prop) (p:(List Za)->Bool):Zx:=⟨List Za,fun i=>[.c (.x (PX (.l 1 eStr i) (Q i)))],fun i=>.bool (p i)⟩
def Mc (s:List (List Za)) (f:(List Za)->Bool):Int->Lp Int Int:=fun v8 =>
 bif (decide (v8<(s.length:Int))) then (bif (f (s.getD (Int.toNat v8) default)) then (.ret v8) else (.next (v8+1))) else (.done v8)
def F195 (s:List (List Za)) (f:(List Za)->Bool):Int :=
 (runL (Mc s f) ((Int.toNat ((s.length:Int)-0))+1) 0).fin (fun r=>r) (fun v8=>(-1))
abbrev Pw (s:List (List Za)):Nat×Int:=(((Int.toNat ((s.length:Int)-0))+1),0)
abbrev Qkw (s:List (List Za)) (m39:Nat) (v8:Int):Prop:=Int.toNat ((s.length:Int)-v8)<m39/\(0:Int)<=v8
abbrev Qxl (s:List (List Za)) (f:(List Za)->Bool):Lp Int Int:=LpX (Mc s f) (Pw s)
abbrev Px (s:List (List Za)) (f:(List Za)->Bool) (i:Nat×Int):Prop:=LpJ (Mc s f) (Pw s) i (Qkw s i.1 i.2)
abbrev Quf (s:List (List Za)) (f:(List Za)->Bool) (i:Nat×Int) (m39:Nat) (v8:Int):Prop:=LpH (Mc s f) (Pw s) i m39 v8 (Qkw s (m39+1) v8)
abbrev Qwy (Qf:(List Za)->Prop) (s:List (List Za)) (f:(List Za)->Bool) (v8:Int) (v8_:Int) (K39:Prop):Prop:=(Rf (.int .i64 (s.length:Int)))/\((.int .i64 v8:Value)=.int .i64 v8_)/\(Im (.l 1 (eL 1 eStr) s))/\(Bk Qf f=Bk Qf f)/\K39
theorem Und (s:List (List Za)) (f:(List Za)->Bool) (i:Nat×Int) (h:Px s f i):Quf s f i (i.1-1) i.2:=⟨hd1 h.1 h.2.1,hd3 h.2.1,hd2 h.2.1,h.2.2⟩
theorem Ulg (Qf:(List Za)->Prop) (s:List (List Za)) (f:(List Za)->Bool) (i:Nat×Int) (m39:Nat) (v8:Int) (hl:m39<i.1) (e:runL (Mc s f) m39 v8=Qxl s f) (h:Qkw s m39 v8):∃ j:Nat×Int,Qwy Qf s f v8 j.2 (Px s f j/\j.1<i.1):=⟨(m39,v8),rfl,rfl,Imp.refl _,rfl,⟨e,h⟩,hl⟩
theorem Ukr (Qf:(List Za)->Prop) (s:List (List Za)) (f:(List Za)->Bool) (h:(0:Int)<=0):Qwy Qf s f 0 0 (Px s f (Pw s)):=⟨rfl,rfl,Imp.refl _,rfl,rfl,Qn _,h⟩
def S195 (R:Int) (s:List (List Za)) (f:(List Za)->Bool) (Qf:(List Za)->Prop):Spec:=⟨[.r (.c (.l 1 (eL 1 eStr) s)),.fn (Bk Qf f)],.v (vI R),(∀ k:Nat,k<s.length->Qf (s.getD k default))⟩
theorem ok195 (s:List (List Za)) (f:(List Za)->Bool) (Qf:(List Za)->Prop):(S195 (F195 s f) s f Qf).ok Tryz.prog 195 false :=
 Ue mixed (fn:=Tryz.f195) (ct:=.seqk [(0,0)] .no (.seq (.seqk [(0,0)] .no (.blk (.loop (ι:=Nat×Int) (fun i=>(fun (v8:Int)=>(⟨[(0,some (.h 0 0)),(1,some (.h 1 0)),(7,some (.v (vI (s.length:Int)))),(8,some (.v (vI v8)))],[(0,some (.shr none (.l 1 (eL 1 eStr) s))),(1,some (.fn (Bk Qf f)))],2⟩:St)) i.2) (Px s f) (fun i=>i.1) (Pw s) (fun i=>(fun (v8:Int)=>(.seq .no (.seq (.cond .no .no) (.seq (.blk (.seq .no (.seq (.reg [(5,.fnv (Bk Qf f) (s.getD (Int.toNat v8) default))]) (.cond (.seq .no .no) .no)))) (.reg [(0,.bnd)]))))) i.2)))) (.seq .no .no))) Tryz.func195 (fun (hpre0:∀ k:Nat,k<s.length->Qf (s.getD k default))=>kn s fun _=>kn s fun _=>ai (Ukr Qf s f uu0) (fun (i0:Nat×Int) (hi0:Px s f i0)=>(fun (m0:Nat) (v8:Int) (hh0:Quf s f i0 m0 v8)=>have hI0:=hh0.1; have hl0:=hh0.2.1; have _:=hh0.2.2.1; have _:=hh0.2.2.2; ifd (v8<(s.length:Int)) (fun h2 _=>ai (uu0:ib v8 s) (ai (Eq.refl (Bk Qf f)) (ai (Imp.px (d:=.l 1 eStr (s.getD (Int.toNat v8) default)) (hpre0 (Int.toNat v8) uu0)) (ifb (f (s.getD (Int.toNat v8) default)) (fun h3=>fiI v8 (F195 s f) (finR (Um hI0 (condT h2 (condT h3 rfl))) rfl)) (fun h3=>ai (iok (v8+1) uu0) (Ulg Qf s f i0 m0 (v8+1) hl0 (Ud hI0 (condT h2 (condF h3 rfl))) uu5)))))) (fun h2 _=>have hD0_4:Qxl s f=Lp.done v8:=Uh hI0 (condF h2 rfl); fiI (-1) (F195 s f) (finD hD0_4 rfl))) (i0.1-1) i0.2 (Und s f i0 hi0))) uu1
theorem as195 (s:List (List Za)) (f:(List Za)->Bool):F195 s f=(idxI f s):=by
 exact Bu f s (Mc s f) (fun i=>rfl)
theorem oa195 (s:List (List Za)) (f:(List Za)->Bool) (Qf:(List Za)->Prop):(S195 (idxI f s) s f Qf).ok Tryz.prog 195 false:=by
 intro hp; have h:=ok195 s f Qf hp; rw [as195 s f] at h; exact h
theorem g195_0 (s:List (List Za)) (f:(List Za)->Bool):(idxI f s)<(s.length:Int):=by
 exact Qai f s
theorem g195_1 (s:List (List Za)) (f:(List Za)->Bool):-1<=(idxI f s):=by
 (show -1<=idxI f s; unfold idxI; cases first (fun k=>f (s.getD k default)) s.length <;> simp only [oix] <;> omega)
theorem kc195a (s:List (List Za)) (f:(List Za)->Bool) (Qf:(List Za)->Prop) {K_:Prop} (p0_:∀ k:Nat,k<s.length->Qf (s.getD k default)) (k_:((idxI f s)<(s.length:Int))->(-1<=(idxI f s))->K_):(∀ k:Nat,k<s.length->Qf (s.getD k default))/\(Imp (.l 1 (eL 1 eStr) s) (.l 1 (eL 1 eStr) s))/\(Bk Qf f=Bk Qf f)/\K_:=⟨p0_,Imp.refl _,rfl,k_ (g195_0 s f) (g195_1 s f)⟩
abbrev kh195a (s:List (List Za)) (f:(List Za)->Bool) (Qf:(List Za)->Prop):Hint false Tryz.prog:=.call 195 (S195 (idxI f s) s f Qf) (oa195 s f Qf) none
def F158 (s:List (List Za)) (f:(List Za)->Bool):Bool :=
 decide ((idxI f s)>=0)
def S158 (R:Bool) (s:List (List Za)) (f:(List Za)->Bool) (Qf:(List Za)->Prop):Spec:=⟨[.r (.c (.l 1 (eL 1 eStr) s)),.fn (Bk Qf f)],.v (.bool R),(∀ k:Nat,k<s.length->Qf (s.getD k default))⟩
theorem ok158 (s:List (List Za)) (f:(List Za)->Bool) (Qf:(List Za)->Prop):(S158 (F158 s f) s f Qf).ok Tryz.prog 158 false :=
 Ue mixed (fn:=Tryz.f158) (ct:=.seqk [(0,0)] .no (.seq (.reg [(2,kh195a s f Qf)]) .no)) Tryz.func158 (fun (hpre0:∀ k:Nat,k<s.length->Qf (s.getD k default))=>kn s fun _=>kc195a s f Qf uu6 (fun gv1 gv2=>fiB (decide ((idxI f s)>=0)) (F158 s f) rfl)) uu1
theorem as158 (s:List (List Za)) (f:(List Za)->Bool):F158 s f=(s.any f):=by
 exact Qdm f s
theorem oa158 (s:List (List Za)) (f:(List Za)->Bool) (Qf:(List Za)->Prop):(S158 (s.any f) s f Qf).ok Tryz.prog 158 false:=by
 intro hp; have h:=ok158 s f Qf hp; rw [as158 s f] at h; exact h
def F121 (lines:List Za):Bool :=
 (!((Ua lines Zj).any (fun (x0:List Za)=>F159 x0)))
def S121 (lines:List Za):Spec:=⟨[.r (.c (.l 1 eStr lines))],.v (.bool (F121 lines)),F23 lines=0/\lines.length<=16/\(∀ k:Nat,(lines.getD k default).size<=1048576)⟩
theorem ok121 (lines:List Za):(S121 lines).ok Tryz.prog 121 false :=
 Ue mixed (fn:=Tryz.f121) (ct:=.seqk [(0,0)] .no (.seq (.reg [(1,Hu lines Zj),(2,.call 158 (S158 ((Ua lines Zj).any (fun (x0:List Za)=>F159 x0)) (Ua lines Zj) (fun (x0:List Za)=>F159 x0) (fun (x0:List Za)=>Ve x0)) (oa158 (Ua lines Zj) (fun (x0:List Za)=>F159 x0) (fun (x0:List Za)=>Ve x0)) (some ⟨true,159,Bk (fun (x0:List Za)=>Ve x0) (fun (x0:List Za)=>F159 x0),[],rfl,True,fun i=>Lh (ok159 i)⟩))]) .no)) Tryz.func121 (fun (hp:F23 lines=0/\lines.length<=16/\(∀ k:Nat,(lines.getD k default).size<=1048576))=>have hpre0:=hp.1; have hpre1:=hp.2.1; have hpre2:=hp.2.2; kn lines fun _=>Qac lines Zj uu0 uu6 uu0 (fun gv1=>ai (by exact Umo lines (by omega):∀ k:Nat,k<(Ua lines Zj).length->(fun (x0:List Za)=>Ve x0) ((Ua lines Zj).getD k default)) (ai (Imp.refl (.l 1 (eL 1 eStr) (Ua lines Zj))) (ai (Eq.refl (Bk (fun (x0:List Za)=>Ve x0) (fun (x0:List Za)=>F159 x0))) (ai trivial (fiB (!((Ua lines Zj).any (fun (x0:List Za)=>F159 x0))) (F121 lines) rfl)))))) uu1
def Xj (lines:List Za) (name:Za):(Int×Int)->Lp (Int×Int) Int:=fun (n,v11) =>
 bif (decide (v11<((Ua lines Zf).length:Int))) then (bif ((((Ua lines Zf).getD (Int.toNat v11) default).getD (Int.toNat 1) default).toList==name.toList) then (.next ((n+1),(v11+1))) else (.next (n,(v11+1)))) else (.done (n,v11))
def F160 (lines:List Za) (name:Za):Int :=
 (runL (Xj lines name) ((Int.toNat (((Ua lines Zf).length:Int)-0))+1) (0,0)).fin (fun r=>r) (fun (n,v11)=>n)
abbrev Qay (lines:List Za):Nat×(Int×Int):=(((Int.toNat (((Ua lines Zf).length:Int)-0))+1),(0,0))
abbrev Qmy (lines:List Za) (m39:Nat) (n:Int) (v11:Int):Prop:=Int.toNat (((Ua lines Zf).length:Int)-v11)<m39/\(0:Int)<=n/\(n:Int)<=v11/\(0:Int)<=n/\(0:Int)<=v11
abbrev Qwj (lines:List Za) (name:Za):Lp (Int×Int) Int:=LpX (Xj lines name) (Qay lines)
abbrev Pi (lines:List Za) (name:Za) (i:Nat×(Int×Int)):Prop:=LpJ (Xj lines name) (Qay lines) i (Qmy lines i.1 i.2.1 i.2.2)
abbrev Qyt (lines:List Za) (name:Za) (i:Nat×(Int×Int)) (m39:Nat) (n:Int) (v11:Int):Prop:=LpH (Xj lines name) (Qay lines) i m39 (n,v11) (Qmy lines (m39+1) n v11)
abbrev Qwf (lines:List Za) (name:Za) (n:Int) (v11:Int) (n_:Int) (v11_:Int) (K39:Prop):Prop:=(Rf (.string name))/\((.int .i64 n:Value)=.int .i64 n_)/\(Rf (.int .i64 ((Ua lines Zf).length:Int)))/\((.int .i64 v11:Value)=.int .i64 v11_)/\(Im (.l 1 (eL 1 eStr) (Ua lines Zf)))/\K39
theorem Umh (lines:List Za) (name:Za) (i:Nat×(Int×Int)) (h:Pi lines name i):Qyt lines name i (i.1-1) i.2.1 i.2.2:=⟨hd1 h.1 h.2.1,hd3 h.2.1,hd2 h.2.1,h.2.2⟩
theorem Quu (lines:List Za) (name:Za) (i:Nat×(Int×Int)) (m39:Nat) (n:Int) (v11:Int) (hl:m39<i.1) (e:runL (Xj lines name) m39 (n,v11)=Qwj lines name) (h:Qmy lines m39 n v11):∃ j:Nat×(Int×Int),Qwf lines name n v11 j.2.1 j.2.2 (Pi lines name j/\j.1<i.1):=⟨(m39,(n,v11)),rfl,rfl,rfl,rfl,Imp.refl _,⟨e,h⟩,hl⟩
theorem Ukb (lines:List Za) (name:Za) (h:(0:Int)<=0/\(0:Int)<=0/\(0:Int)<=0/\(0:Int)<=0):Qwf lines name 0 0 0 0 (Pi lines name (Qay lines)):=⟨rfl,rfl,rfl,rfl,Imp.refl _,rfl,Qn _,h⟩
def S160 (lines:List Za) (name:Za):Spec:=⟨[.r (.c (.l 1 eStr lines)),.r (.c (.v (.string name)))],.v (vI (F160 lines name)),F23 lines=0/\lines.length<=16/\(∀ k:Nat,(lines.getD k default).size<=1048576)⟩
theorem ok160 (lines:List Za) (name:Za):(S160 lines name).ok Tryz.prog 160 :=
 Ue mixed (fn:=Tryz.f160) (ct:=.seqk [(0,0)] .no (.seq .no (.seq (.seqk [(9,0)] (.reg [(1,kh65a lines Zf)]) (.blk (.loop (ι:=Nat×(Int×Int)) (fun i=>(fun (n:Int) (v11:Int)=>(⟨[(1,some (.v (.string name))),(5,some (.v (vI n))),(9,some (.h 0 0)),(10,some (.v (vI ((Ua lines Zf).length:Int)))),(11,some (.v (vI v11)))],[(0,some (.own 0 (.l 1 (eL 1 eStr) (Ua lines Zf))))],1⟩:St)) i.2.1 i.2.2) (Pi lines name) (fun i=>i.1) (Qay lines) (fun i=>(fun (n:Int) (v11:Int)=>(.seq .no (.seq (.cond .no .no) (.seq (.blk (.seq .no (.seq .no (.cond (.reg [(1,.bnd)]) .no)))) (.reg [(0,.bnd)]))))) i.2.1 i.2.2)))) (.seq .no .no)))) Tryz.func160 (fun (hp:F23 lines=0/\lines.length<=16/\(∀ k:Nat,(lines.getD k default).size<=1048576))=>have hpre0:=hp.1; have hpre1:=hp.2.1; have hpre2:=hp.2.2; kn lines fun _=>Qac lines Zf uu0 uu6 uu0 (fun gv1=>kn (Ua lines Zf) fun _=>ai (Ukb lines name uu25) (fun (i0:Nat×(Int×Int)) (hi0:Pi lines name i0)=>(fun (m0:Nat) (n:Int) (v11:Int) (hh0:Qyt lines name i0 m0 n v11)=>have hI0:=hh0.1; have hl0:=hh0.2.1; have _:=hh0.2.2.1; have _:=hh0.2.2.2; ifd (v11<((Ua lines Zf).length:Int)) (fun h3 _=>ai (uu9:0<=v11/\v11<((Ua lines Zf).length:Int)) (ai (by (have h9:=Qxi lines (by omega) (Int.toNat v11) (by omega); unfold Jw at h9; omega):0<=(1:Int)/\(1:Int)<(((Ua lines Zf).getD (Int.toNat v11) default).length:Int)) (ifb ((((Ua lines Zf).getD (Int.toNat v11) default).getD (Int.toNat 1) default).toList==name.toList) (fun h4=>ai (iok (n+1) uu0) (ai (iok (v11+1) uu0) (Quu lines name i0 m0 (n+1) (v11+1) hl0 (Ud hI0 (condT h3 (condT h4 rfl))) uu30))) (fun h4=>ai (iok (v11+1) uu0) (Quu lines name i0 m0 n (v11+1) hl0 (Ud hI0 (condT h3 (condF h4 rfl))) uu30))))) (fun h3 _=>have hD0_5:Qwj lines name=Lp.done (n,v11):=Uh hI0 (condF h3 rfl); fiI n (F160 lines name) (finD hD0_5 rfl))) (i0.1-1) i0.2.1 i0.2.2 (Umh lines name i0 hi0)))) uu1
theorem kc160 (lines:List Za) (name:Za) {K_:Prop} (p0_:F23 lines=0) (p1_:lines.length<=16) (p2_:∀ k:Nat,(lines.getD k default).size<=1048576) (k_:K_):(F23 lines=0/\lines.length<=16/\(∀ k:Nat,(lines.getD k default).size<=1048576))/\(Imp (.l 1 eStr lines) (.l 1 eStr lines))/\(Imp (.v (.string name)) (.v (.string name)))/\K_:=⟨⟨p0_,p1_,p2_⟩,Imp.refl _,Imp.refl _,k_⟩
abbrev kh160 (lines:List Za) (name:Za):Hint true Tryz.prog:=.call 160 (S160 lines name) (ok160 lines name) none
def F161 (w1:List Za) (p1:List Za):Bool :=
 decide ((F160 p1 (w1.getD (Int.toNat 1) default))>12)
def S161 (w1:List Za) (p1:List Za):Spec:=⟨[.r (.c (.l 1 eStr w1)),.rp ([.l 1 eStr p1])],.v (.bool (F161 w1 p1)),Jw w1/\F23 p1=0/\p1.length<=16/\(∀ k:Nat,(p1.getD k default).size<=1048576)⟩
theorem ok161 (w1:List Za) (p1:List Za):(S161 w1 p1).ok Tryz.prog 161 :=
 Ue mixed (fn:=Tryz.f161) (ct:=.seqk [(0,0)] .no (.seq (.reg [(4,kh160 p1 (w1.getD (Int.toNat 1) default))]) .no)) Tryz.func161 (fun (hp:Jw w1/\F23 p1=0/\p1.length<=16/\(∀ k:Nat,(p1.getD k default).size<=1048576))=>have hpre0:=hp.1; have hpre1:=hp.2.1; have hpre2:=hp.2.2.1; have hpre3:=hp.2.2.2; kn w1 fun _=>ai (by (have h9:=hpre0; unfold Jw at h9; omega):0<=(1:Int)/\(1:Int)<(w1.length:Int)) (kc160 p1 (w1.getD (Int.toNat 1) default) uu0 uu0 uu6 (fiB (decide ((F160 p1 (w1.getD (Int.toNat 1) default))>12)) (F161 w1 p1) rfl))) uu1
theorem kg160 {K_:Prop} (c_ b_:Bool) (lines:List Za) (name:Za) (p_:c_=b_->F23 lines=0/\lines.length<=16/\(∀ k:Nat,(lines.getD k default).size<=1048576)) (k_:K_):(c_=b_->F23 lines=0/\lines.length<=16/\(∀ k:Nat,(lines.getD k default).size<=1048576))/\(c_=b_->Imp (.l 1 eStr lines) (.l 1 eStr lines))/\(c_=b_->Imp (.v (.string name)) (.v (.string name)))/\K_:=⟨p_,fun _=>Imp.refl _,fun _=>Imp.refl _,k_⟩
abbrev kh160f (lines:List Za) (name:Za):Hint false Tryz.prog:=.call 160 (S160 lines name) ((ok160 lines name).to false) none
def Xs (lines:List Za):Int->Lp Int Bool:=fun v8 =>
 bif (decide (v8<((Ua lines Zd).length:Int))) then (bif (bif decide ((((Ua lines Zd).getD (Int.toNat v8) default).length:Int)>4) then ((F160 lines (((Ua lines Zd).getD (Int.toNat v8) default).getD (Int.toNat 4) default))==0) else false) then (.ret true) else (.next (v8+1))) else (.done v8)
def F122 (lines:List Za):Bool :=
 (runL (Xs lines) ((Int.toNat (((Ua lines Zd).length:Int)-0))+1) 0).fin (fun r=>r) (fun v8=>((Ua lines Zf).any (fun (x0:List Za)=>F161 x0 lines)))
abbrev Es (lines:List Za):Nat×Int:=(((Int.toNat (((Ua lines Zd).length:Int)-0))+1),0)
abbrev Qmw (lines:List Za) (m39:Nat) (v8:Int):Prop:=Int.toNat (((Ua lines Zd).length:Int)-v8)<m39/\(0:Int)<=v8
abbrev Qwi (lines:List Za):Lp Int Bool:=LpX (Xs lines) (Es lines)
abbrev Ep (lines:List Za) (i:Nat×Int):Prop:=LpJ (Xs lines) (Es lines) i (Qmw lines i.1 i.2)
abbrev Qvg (lines:List Za) (i:Nat×Int) (m39:Nat) (v8:Int):Prop:=LpH (Xs lines) (Es lines) i m39 v8 (Qmw lines (m39+1) v8)
abbrev Qxe (lines:List Za) (v8:Int) (v8_:Int) (K39:Prop):Prop:=(Rf (.int .i64 ((Ua lines Zd).length:Int)))/\((.int .i64 v8:Value)=.int .i64 v8_)/\(Im (.l 1 eStr lines))/\(Im (.l 1 (eL 1 eStr) (Ua lines Zd)))/\K39
theorem Ulq (lines:List Za) (i:Nat×Int) (h:Ep lines i):Qvg lines i (i.1-1) i.2:=⟨hd1 h.1 h.2.1,hd3 h.2.1,hd2 h.2.1,h.2.2⟩
theorem Ujg (lines:List Za) (i:Nat×Int) (m39:Nat) (v8:Int) (hl:m39<i.1) (e:runL (Xs lines) m39 v8=Qwi lines) (h:Qmw lines m39 v8):∃ j:Nat×Int,Qxe lines v8 j.2 (Ep lines j/\j.1<i.1):=⟨(m39,v8),rfl,rfl,Imp.refl _,Imp.refl _,⟨e,h⟩,hl⟩
theorem Unf (lines:List Za) (h:(0:Int)<=0):Qxe lines 0 0 (Ep lines (Es lines)):=⟨rfl,rfl,Imp.refl _,Imp.refl _,rfl,Qn _,h⟩
def S122 (lines:List Za):Spec:=⟨[.r (.c (.l 1 eStr lines))],.v (.bool (F122 lines)),F23 lines=0/\lines.length<=16/\(∀ k:Nat,(lines.getD k default).size<=1048576)⟩
theorem ok122 (lines:List Za):(S122 lines).ok Tryz.prog 122 false :=
 Ue mixed (fn:=Tryz.f122) (ct:=.seq .no (.seq (.seqk [(1,0),(6,0)] (.reg [(1,Hu lines Zd)]) (.blk (.loop (ι:=Nat×Int) (fun i=>(fun (v8:Int)=>(⟨[(1,some (.p 0 0)),(6,some (.h 2 0)),(7,some (.v (vI ((Ua lines Zd).length:Int)))),(8,some (.v (vI v8)))],[(0,some (.box 22 [.h 1 0])),(1,some (.shr none (.l 1 eStr lines))),(2,some (.own 2 (.l 1 (eL 1 eStr) (Ua lines Zd))))],3⟩:St)) i.2) (Ep lines) (fun i=>i.1) (Es lines) (fun i=>(fun (v8:Int)=>(.seq .no (.seq (.cond .no .no) (.seq (.blk (.seq .no (.seq (.reg [(8,kh160f lines (((Ua lines Zd).getD (Int.toNat v8) default).getD (Int.toNat 4) default))]) (.cond (.seq .no .no) .no)))) (.reg [(0,.bnd)]))))) i.2)))) (.seq (.reg [(1,Hu lines Zf),(3,.call 158 (S158 ((Ua lines Zf).any (fun (x0:List Za)=>F161 x0 lines)) (Ua lines Zf) (fun (x0:List Za)=>F161 x0 lines) (fun (x0:List Za)=>Jw x0/\F23 lines=0/\lines.length<=16/\(∀ k:Nat,(lines.getD k default).size<=1048576))) (oa158 (Ua lines Zf) (fun (x0:List Za)=>F161 x0 lines) (fun (x0:List Za)=>Jw x0/\F23 lines=0/\lines.length<=16/\(∀ k:Nat,(lines.getD k default).size<=1048576))) (some ⟨true,161,Bk (fun (x0:List Za)=>Jw x0/\F23 lines=0/\lines.length<=16/\(∀ k:Nat,(lines.getD k default).size<=1048576)) (fun (x0:List Za)=>F161 x0 lines),[.rp ([.l 1 eStr lines])],rfl,True,fun i=>Lh (ok161 i lines)⟩))]) .no))) Tryz.func122 (fun (hp:F23 lines=0/\lines.length<=16/\(∀ k:Nat,(lines.getD k default).size<=1048576))=>have hpre0:=hp.1; have hpre1:=hp.2.1; have hpre2:=hp.2.2; Qac lines Zd uu0 uu6 uu0 (fun gv1=>kn lines fun _=>kn (Ua lines Zd) fun _=>ai (Unf lines uu0) (fun (i0:Nat×Int) (hi0:Ep lines i0)=>(fun (m0:Nat) (v8:Int) (hh0:Qvg lines i0 m0 v8)=>have hI0:=hh0.1; have hl0:=hh0.2.1; have _:=hh0.2.2.1; have _:=hh0.2.2.2; ifd (v8<((Ua lines Zd).length:Int)) (fun h3 _=>ai (uu0:ib v8 (Ua lines Zd)) (ai (fun k4:(decide ((((Ua lines Zd).getD (Int.toNat v8) default).length:Int)>4))=true=>have _:(((Ua lines Zd).getD (Int.toNat v8) default).length:Int)>4:=Qb k4; (uu0:ib 4 ((Ua lines Zd).getD (Int.toNat v8) default))) (kg160 (decide ((((Ua lines Zd).getD (Int.toNat v8) default).length:Int)>4)) true lines (((Ua lines Zd).getD (Int.toNat v8) default).getD (Int.toNat 4) default) (fun k5=>have _:(((Ua lines Zd).getD (Int.toNat v8) default).length:Int)>4:=Qb k5; ⟨uu0,uu0,uu6⟩) (ifb (bif decide ((((Ua lines Zd).getD (Int.toNat v8) default).length:Int)>4) then ((F160 lines (((Ua lines Zd).getD (Int.toNat v8) default).getD (Int.toNat 4) default))==0) else false) (fun h6=>have _:(((Ua lines Zd).getD (Int.toNat v8) default).length:Int)>4:=Qb (Uc h6); have _:(F160 lines (((Ua lines Zd).getD (Int.toNat v8) default).getD (Int.toNat 4) default))=0:=eq_of_beq (Ut h6); fiB true (F122 lines) (finR (Um hI0 (condT h3 (condT h6 rfl))) rfl)) (fun h6=>ai (iok (v8+1) uu0) (Ujg lines i0 m0 (v8+1) hl0 (Ud hI0 (condT h3 (condF h6 rfl))) uu5)))))) (fun h3 _=>have hD0_7:Qwi lines=Lp.done v8:=Uh hI0 (condF h3 rfl); Qac lines Zf uu0 uu6 uu0 (fun gv8=>ai (by exact fun k hk=>⟨Qxi lines (by omega) k hk,by omega,by omega,by assumption⟩:∀ k:Nat,k<(Ua lines Zf).length->(fun (x0:List Za)=>Jw x0/\F23 lines=0/\lines.length<=16/\(∀ k:Nat,(lines.getD k default).size<=1048576)) ((Ua lines Zf).getD k default)) (ai (Imp.refl (.l 1 (eL 1 eStr) (Ua lines Zf))) (ai (Eq.refl (Bk (fun (x0:List Za)=>Jw x0/\F23 lines=0/\lines.length<=16/\(∀ k:Nat,(lines.getD k default).size<=1048576)) (fun (x0:List Za)=>F161 x0 lines))) (ai trivial (ai (Imps.refl [.l 1 eStr lines]) (fiB ((Ua lines Zf).any (fun (x0:List Za)=>F161 x0 lines)) (F122 lines) (finD hD0_7 rfl))))))))) (i0.1-1) i0.2 (Ulq lines i0 hi0)))) uu1
structure l52Cut where
 w:List Za
 deriving DecidableEq,Inhabited
def Uo (x:l52Cut):List Dat:=[.l 1 eStr x.w]
def Xf (lines:List Za):(List l52Cut×Int)->Lp (List l52Cut×Int) (List l52Cut):=fun (out,i40) =>
 bif (decide (i40<(lines.length:Int))) then (.next ((out++[(⟨(F64 (lines.getD (Int.toNat i40) default)).1⟩:l52Cut)]),(i40+1))) else (.done (out,i40))
def F152 (lines:List Za):List l52Cut :=
 (runL (Xf lines) ((Int.toNat ((lines.length:Int)-0))+1) (([]:List l52Cut),0)).fin (fun r=>r) (fun (out,i40)=>out)
abbrev Qaj (lines:List Za):Nat×(List l52Cut×Int):=(((Int.toNat ((lines.length:Int)-0))+1),(([]:List l52Cut),0))
abbrev Qnj (lines:List Za) (m39:Nat) (out:List l52Cut) (i40:Int):Prop:=Int.toNat ((lines.length:Int)-i40)<m39/\(out.length:Int)<=i40/\(0:Int)<=i40
abbrev Qui (lines:List Za):Lp (List l52Cut×Int) (List l52Cut):=LpX (Xf lines) (Qaj lines)
abbrev Pp (lines:List Za) (i:Nat×(List l52Cut×Int)):Prop:=LpJ (Xf lines) (Qaj lines) i (Qnj lines i.1 i.2.1 i.2.2)
abbrev Quq (lines:List Za) (i:Nat×(List l52Cut×Int)) (m39:Nat) (out:List l52Cut) (i40:Int):Prop:=LpH (Xf lines) (Qaj lines) i m39 (out,i40) (Qnj lines (m39+1) out i40)
abbrev Qvc (lines:List Za) (out:List l52Cut) (i40:Int) (out_:List l52Cut) (i40_:Int) (K39:Prop):Prop:=((.int .i64 i40:Value)=.int .i64 i40_)/\(Im (.l 1 eStr lines))/\(Imp (.l 1 Uo out) (.l 1 Uo out_))/\K39
theorem Umn (lines:List Za) (i:Nat×(List l52Cut×Int)) (h:Pp lines i):Quq lines i (i.1-1) i.2.1 i.2.2:=⟨hd1 h.1 h.2.1,hd3 h.2.1,hd2 h.2.1,h.2.2⟩
theorem Ukk (lines:List Za) (i:Nat×(List l52Cut×Int)) (m39:Nat) (out:List l52Cut) (i40:Int) (hl:m39<i.1) (e:runL (Xf lines) m39 (out,i40)=Qui lines) (h:Qnj lines m39 out i40):∃ j:Nat×(List l52Cut×Int),Qvc lines out i40 j.2.1 j.2.2 (Pp lines j/\j.1<i.1):=⟨(m39,(out,i40)),rfl,Imp.refl _,Imp.refl _,⟨e,h⟩,hl⟩
theorem Ukf (lines:List Za) (h:(([]:List l52Cut).length:Int)<=0/\(0:Int)<=0):Qvc lines ([]:List l52Cut) 0 ([]:List l52Cut) 0 (Pp lines (Qaj lines)):=⟨rfl,Imp.refl _,Imp.refl _,rfl,Qn _,h⟩
theorem fi152 (lines:List Za) (r:List l52Cut) (hF:r=(F152 lines)):(Imp (.l 1 Uo r) (.l 1 Uo (F152 lines)))/\True:=by cases hF; exact ⟨Imp.refl _,trivial⟩
def S152 (R:List l52Cut) (lines:List Za):Spec:=⟨[.r (.c (.l 1 eStr lines))],.ow (.l 1 Uo R),lines.length<=16/\(∀ k:Nat,(lines.getD k default).size<=1048576)⟩
theorem ok152 (lines:List Za):(S152 (F152 lines) lines).ok Tryz.prog 152 :=
 Ue mixed (fn:=Tryz.f152) (ct:=.seqk [(0,0)] .no (.seq (.reg [(0,.dat (.l 1 Uo ([]:List l52Cut)))]) (.seq (.seqk [(0,0),(3,0)] .no (.blk (.loop (ι:=Nat×(List l52Cut×Int)) (fun i=>(fun (out:List l52Cut) (i40:Int)=>(⟨[(0,some (.h 0 0)),(3,some (.h 1 0)),(4,some (.v (vI i40)))],[(0,some (.shr none (.l 1 eStr lines))),(1,some (.own 1 (.l 1 Uo out)))],2⟩:St)) i.2.1 i.2.2) (Pp lines) (fun i=>i.1) (Qaj lines) (fun i=>(fun (out:List l52Cut) (i40:Int)=>(.seq (.seq .no (.cond .no .no)) (.seq (.blk (.seq (.reg [(4,kh64 (lines.getD (Int.toNat i40) default))]) (.reg [(4,.dat (.l 1 Uo (out++[(⟨(F64 (lines.getD (Int.toNat i40) default)).1⟩:l52Cut)])))]))) (.reg [(1,.bnd)])))) i.2.1 i.2.2)))) (.seq .no .no)))) Tryz.func152 (fun (hp:lines.length<=16/\(∀ k:Nat,(lines.getD k default).size<=1048576))=>have hpre0:=hp.1; have hpre1:=hp.2; kn lines fun _=>ai (bokr 1 Uo ([]:List l52Cut) fun _=>rfl) (kn lines fun _=>kn ([]:List l52Cut) fun _=>ai (Ukf lines (by refine ⟨?_,?_⟩ <;> (simp only [lens,ib] at*<;> omega))) (fun (i0:Nat×(List l52Cut×Int)) (hi0:Pp lines i0)=>(fun (m0:Nat) (out:List l52Cut) (i40:Int) (hh0:Quq lines i0 m0 out i40)=>have hI0:=hh0.1; have hl0:=hh0.2.1; have _:=hh0.2.2.1; have _:=hh0.2.2.2; ifd (i40<(lines.length:Int)) (fun h2 _=>ai (uu0:ib i40 lines) (kc64 (lines.getD (Int.toNat i40) default) (by exact hpre1 _) (fun gv3 gv4=>ai (appr 1 Uo out [(⟨(F64 (lines.getD (Int.toNat i40) default)).1⟩:l52Cut)] fun _=>rfl) (ai (uu21:(out++[(⟨(F64 (lines.getD (Int.toNat i40) default)).1⟩:l52Cut)]).length*24<=140737488355328) (ai (iok (i40+1) uu0) (Ukk lines i0 m0 (out++[(⟨(F64 (lines.getD (Int.toNat i40) default)).1⟩:l52Cut)]) (i40+1) hl0 (Ud hI0 (condT h2 rfl)) (by refine ⟨?_,?_,?_⟩ <;> (simp only [lens,ib] at*<;> omega)))))))) (fun h2 _=>have hD0_5:Qui lines=Lp.done (out,i40):=Uh hI0 (condF h2 rfl); fi152 lines out (finD hD0_5 rfl))) (i0.1-1) i0.2.1 i0.2.2 (Umn lines i0 hi0)))) uu1
def F187 (c:l52Cut) (k:Int):Za :=
 bif (decide (k<(c.w.length:Int))) then (c.w.getD (Int.toNat k) default) else Zi
def S187 (c:l52Cut) (k:Int):Spec:=⟨[.r (.g (Uo c)),.r (.c (.v (vI k)))],.v (.string (F187 c k)),0<=k⟩
theorem ok187 (c:l52Cut) (k:Int):(S187 c k).ok Tryz.prog 187 :=
 Ue mixed (fn:=Tryz.f187) (ct:=.seq .no (.seq (.seq .no (.cond (.seq .no .no) .no)) (.seq .no .no))) Tryz.func187 (fun (hpre0:0<=k)=>ifd (k<(c.w.length:Int)) (fun h1 _=>ai (uu0:ib k c.w) (fiS (c.w.getD (Int.toNat k) default) (F187 c k) (condT h1 rfl))) (fun h1 _=>fiS Zi (F187 c k) (condF h1 rfl))) uu1
theorem Nf (s:Za):0<=(F169 s).1.Len/\(F169 s).1.Len<=16/\0<=(F169 s).1.Addr/\(F169 s).1.Addr<=65535:=by
 rw [Nb]
 cases h:pfxL s.data.toList with
 | none=>exact ⟨by decide,by decide,by decide,by decide⟩
 | some p =>
  obtain ⟨a,n⟩:=p
  have:=Qli h
  show 0<=n/\n<=16/\0<=a/\a<=65535
  omega
def Ul (lines:List Za):List Ub:=(Ua lines Zd).map fun w=>(F169 (w.getD 2 default)).1
theorem as162 (lines:List Za):F162 lines=(Ul lines):=by
 unfold F162
 have:=Ks (Ua lines Zd) (fun (s:List Ub) w=>s++[(F169 (w.getD 2 default)).1]) (fun s i=>(s,i)) (Xd lines) (fun i s hi=>by
  simp only [Xd,ltD hi,Qc,nn]; rfl) (fun s=>by simp only [Xd,geD,Qe]) (fun r=>r) (fun (out,v12)=>out) []
 refine this.trans ?_
 rw [Jh,R3]; rfl
theorem Qpq (lines:List Za):∀ p∈Ul lines,0<=p.Len/\p.Len<=16/\0<=p.Addr/\p.Addr<=65535:=fun p hp=>by
 obtain ⟨w,_,rfl⟩:=Si.1 hp
 exact Nf _
theorem Qbx (lines:List Za):∀ k:Nat,0<=((Ul lines).getD k default).Len/\((Ul lines).getD k default).Len<=16:=fun k=>by
 by_cases hk:k<(Ul lines).length
 ·have:=Qpq lines _ (Vy _ hk); omega
 ·rw [Kq _ uu0]; exact ⟨by decide,by decide⟩
theorem Qes (lines:List Za) (n k:Nat):0<=(((Ul lines).take n).getD k default).Len/\(((Ul lines).take n).getD k default).Len<=16:=by
 by_cases hk:k<((Ul lines).take n).length
 ·have:=Qpq lines _ (Gf (Vy _ hk)); omega
 ·rw [Kq _ uu0]; exact ⟨by decide,by decide⟩
theorem Udh:∀ k:Nat,(([]:List Za).getD k default).size<=1048576:=fun k=>Qy _
theorem Qrd {a:List Za} {x:Za} (h:∀ k:Nat,(a.getD k default).size<=1048576) (hx:x.size<=1048576):∀ k:Nat,((a++[x]).getD k default).size<=1048576:=fun k=>by
 rw [Qd,List.getElem?_append]
 split
 ·rw [<- Qd]; exact h k
 ·cases hk:k-a.length with
  | zero=>exact hx
  | succ j=>exact Qy _
theorem Uda (lines:List Za) (h:F23 lines=0) (n k:Nat) (hk:k<((Ua lines Zb).take n).length):Hl (((Ua lines Zb).take n).getD k default):=by
 rw [R4] at hk
 have:=Qyv lines h k uu0
 rw [Qd,Rd,if_pos uu0,<- Qd]
 exact this
theorem as152 (lines:List Za):F152 lines=(lines.map (fun l=>(⟨(F64 l).1⟩:l52Cut))):=by
 unfold F152
 have:=Ks lines (fun (s:List l52Cut) l=>s++[(⟨(F64 l).1⟩:l52Cut)]) (fun s i=>(s,i)) (Xf lines) (fun i s hi=>by
  simp only [Xf,ltD hi,Qc,nn]; rfl) (fun s=>by simp only [Xf,geD,Qe]) (fun r=>r) (fun (out,i40)=>out) []
 refine this.trans ?_
 rw [Jh,R3]
theorem Qmx {c:l52Cut} (h:∀ j:Nat,(c.w.getD j default).size<=1048576) (k:Int):(F187 c k).size<=1048576:=by
 unfold F187
 cases decide (k<(c.w.length:Int)) with
 | true=>exact h _
 | false=>exact Qy _
theorem at_sz (all:List l52Cut) (h:∀ k j:Nat,((all.getD k default).w.getD j default).size<=1048576) (i:Nat) (k:Int):(F187 (all.getD i default) k).size<=1048576:=Qmx (h i) k
def T162 (R:List Ub) (lines:List Za):Spec:=⟨(S162 R lines).args,(S162 R lines).res,F23 lines=0/\lines.length<=16/\(∀ k:Nat,(lines.getD k default).size<=1048576)⟩
theorem oa162 (lines:List Za):(T162 (Ul lines) lines).ok Tryz.prog 162 false:=by
 intro hp; have h:=ok162 lines hp; rw [as162 lines] at h; exact h
def T152 (R:List l52Cut) (lines:List Za):Spec:=⟨(S152 R lines).args,(S152 R lines).res,lines.length<=16/\(∀ k:Nat,(lines.getD k default).size<=1048576)⟩
theorem oa152 (lines:List Za):(T152 (lines.map (fun l=>(⟨(F64 l).1⟩:l52Cut))) lines).ok Tryz.prog 152:=by
 intro hp; have h:=ok152 lines hp; rw [as152 lines] at h; exact h
def F198 (p:Ub):Int :=
 (IntKind.i64.wrap ((IntKind.i64.wrap (p.Addr+(F207 p)))-1))
def S198 (p:Ub):Spec:=⟨[.r (.g (Ui p))],.v (vI (F198 p)),0<=p.Len/\p.Len<=16⟩
theorem ok198 (p:Ub):(S198 p).ok Tryz.prog 198 :=
 Ue mixed (fn:=Tryz.f198) (ct:=.seq .no (.seq (.reg [(3,kh207 p)]) .no)) Tryz.func198 (fun (hp:0<=p.Len/\p.Len<=16)=>have hpre0:=hp.1; have hpre1:=hp.2; kc207 p uu0 uu0 uu0 uu0 (fun gv1 gv2=>fiI (IntKind.i64.wrap ((IntKind.i64.wrap (p.Addr+(F207 p)))-1)) (F198 p) rfl)) uu1
theorem kc198 (p:Ub) {K_:Prop} (p0_:0<=p.Len) (p1_:p.Len<=16) (k_:K_):(0<=p.Len/\p.Len<=16)/\(Imps (Ui p) (Ui p))/\K_:=⟨⟨p0_,p1_⟩,Imps.refl _,k_⟩
abbrev kh198 (p:Ub):Hint true Tryz.prog:=.call 198 (S198 p) (ok198 p) none
def F168 (p:Ub) (addr:Int):Bool :=
 (decide (p.Addr<=addr/\addr<=(F198 p)))
def S168 (p:Ub) (addr:Int):Spec:=⟨[.r (.g (Ui p)),.r (.c (.v (vI addr)))],.v (.bool (F168 p addr)),0<=p.Len/\p.Len<=16⟩
theorem ok168 (p:Ub) (addr:Int):(S168 p addr).ok Tryz.prog 168 :=
 Ue mixed (fn:=Tryz.f168) (ct:=.seq .no (.seq (.reg [(4,kh198 p),(5,Qzl addr p.Addr (F198 p))]) .no)) Tryz.func168 (fun (hp:0<=p.Len/\p.Len<=16)=>have hpre0:=hp.1; have hpre1:=hp.2; kc198 p uu0 uu0 (Qis addr p.Addr (F198 p) (fiB (decide (p.Addr<=addr/\addr<=(F198 p))) (F168 p addr) rfl))) uu1
theorem Ucn (p:Ub) (addr:Int) {K_:Prop} (p0_:0<=p.Len) (p1_:p.Len<=16) (k_:K_):(0<=p.Len/\p.Len<=16)/\(Imps (Ui p) (Ui p))/\(Imp (.v (vI addr)) (.v (vI addr)))/\K_:=⟨⟨p0_,p1_⟩,Imps.refl _,Imp.refl _,k_⟩
theorem kg168 {K_:Prop} (c_ b_:Bool) (p:Ub) (addr:Int) (p_:c_=b_->0<=p.Len/\p.Len<=16) (k_:K_):(c_=b_->0<=p.Len/\p.Len<=16)/\(c_=b_->Imps (Ui p) (Ui p))/\(c_=b_->Imp (.v (vI addr)) (.v (vI addr)))/\K_:=⟨p_,fun _=>Imps.refl _,fun _=>Imp.refl _,k_⟩
abbrev kh168 (p:Ub) (addr:Int):Hint true Tryz.prog:=.call 168 (S168 p addr) (ok168 p addr) none
def F163 (p:Ub) (q:Ub):Bool :=
 (bif decide (q.Len<=p.Len) then (F168 q p.Addr) else false)
def S163 (p:Ub) (q:Ub):Spec:=⟨[.r (.g (Ui p)),.r (.g (Ui q))],.v (.bool (F163 p q)),0<=q.Len/\q.Len<=16⟩
theorem ok163 (p:Ub) (q:Ub):(S163 p q).ok Tryz.prog 163 :=
 Ue mixed (fn:=Tryz.f163) (ct:=.seq .no (.seq (.reg [(9,kh168 q p.Addr)]) .no)) Tryz.func163 (fun (hp:0<=q.Len/\q.Len<=16)=>have hpre0:=hp.1; have hpre1:=hp.2; kg168 (decide (q.Len<=p.Len)) true q p.Addr (fun k1=>have _:=Qb k1; ⟨uu0,uu0⟩) (fiB (bif decide (q.Len<=p.Len) then (F168 q p.Addr) else false) (F163 p q) rfl)) uu1
theorem Uei (lines:List Za) {K_:Prop} (p0_:F23 lines=0) (p1_:lines.length<=16) (p2_:∀ k:Nat,(lines.getD k default).size<=1048576) (k_:K_):(F23 lines=0/\lines.length<=16/\(∀ k:Nat,(lines.getD k default).size<=1048576))/\(Imp (.l 1 eStr lines) (.l 1 eStr lines))/\K_:=⟨⟨p0_,p1_,p2_⟩,Imp.refl _,k_⟩
abbrev Uhe (lines:List Za):Hint false Tryz.prog:=.call 162 (T162 (Ul lines) lines) (oa162 lines) none
theorem kc163 (p:Ub) (q:Ub) {K_:Prop} (p0_:0<=q.Len) (p1_:q.Len<=16) (k_:K_):(0<=q.Len/\q.Len<=16)/\(Imps (Ui p) (Ui p))/\(Imps (Ui q) (Ui q))/\K_:=⟨⟨p0_,p1_⟩,Imps.refl _,Imps.refl _,k_⟩
abbrev Ucf (p:Ub) (q:Ub):Hint false Tryz.prog:=.call 163 (S163 p q) ((ok163 p q).to false) none
theorem kg163 {K_:Prop} (c_ b_:Bool) (p:Ub) (q:Ub) (p_:c_=b_->0<=q.Len/\q.Len<=16) (k_:K_):(c_=b_->0<=q.Len/\q.Len<=16)/\(c_=b_->Imps (Ui p) (Ui p))/\(c_=b_->Imps (Ui q) (Ui q))/\K_:=⟨p_,fun _=>Imps.refl _,fun _=>Imps.refl _,k_⟩
def Xv (lines:List Za) (v12:Int):Int->Lp Int Bool:=fun v21 =>
 bif (decide (v21<(((Ul lines).take (Int.toNat v12)).length:Int))) then (bif (bif (F163 ((Ul lines).getD (Int.toNat v12) default) (((Ul lines).take (Int.toNat v12)).getD (Int.toNat v21) default)) then true else (F163 (((Ul lines).take (Int.toNat v12)).getD (Int.toNat v21) default) ((Ul lines).getD (Int.toNat v12) default))) then (.ret true) else (.next (v21+1))) else (.done v21)
def Xk (lines:List Za):Int->Lp Int Bool:=fun v12 =>
 bif (decide (v12<((Ul lines).length:Int))) then ((runL (Xv lines v12) ((Int.toNat ((((Ul lines).take (Int.toNat v12)).length:Int)-0))+1) 0).fin Lp.ret (fun v21=>.next (v12+1))) else (.done v12)
def F123 (lines:List Za):Bool :=
 (runL (Xk lines) ((Int.toNat (((Ul lines).length:Int)-0))+1) 0).fin (fun r=>r) (fun v12=>false)
abbrev Ez (lines:List Za) (v12:Int):Nat×Int:=(((Int.toNat ((((Ul lines).take (Int.toNat v12)).length:Int)-0))+1),0)
abbrev Qlz (lines:List Za) (v12:Int) (m39:Nat) (v21:Int):Prop:=Int.toNat ((((Ul lines).take (Int.toNat v12)).length:Int)-v21)<m39/\(0:Int)<=v21
abbrev Qys (lines:List Za) (v12:Int):Lp Int Bool:=LpX (Xv lines v12) (Ez lines v12)
abbrev Nv (lines:List Za) (v12:Int) (i:Nat×Int):Prop:=LpJ (Xv lines v12) (Ez lines v12) i (Qlz lines v12 i.1 i.2)
abbrev Qxr (lines:List Za) (v12:Int) (i:Nat×Int) (m39:Nat) (v21:Int):Prop:=LpH (Xv lines v12) (Ez lines v12) i m39 v21 (Qlz lines v12 (m39+1) v21)
abbrev Qwe (lines:List Za) (v12:Int) (v21:Int) (v21_:Int) (K39:Prop):Prop:=(Rf (.int .i64 ((Ul lines).length:Int)))/\(Rf (.int .i64 v12))/\(Rf (.int .i64 (((Ul lines).take (Int.toNat v12)).length:Int)))/\((.int .i64 v21:Value)=.int .i64 v21_)/\(Im (.l 2 Ui (Ul lines)))/\(Rf (.int .i64 ((Ul lines).getD (Int.toNat v12) default).Addr))/\(Rf (.int .i64 ((Ul lines).getD (Int.toNat v12) default).Len))/\(Im (.l 2 Ui ((Ul lines).take (Int.toNat v12))))/\K39
theorem Uns (lines:List Za) (v12:Int) (i:Nat×Int) (h:Nv lines v12 i):Qxr lines v12 i (i.1-1) i.2:=⟨hd1 h.1 h.2.1,hd3 h.2.1,hd2 h.2.1,h.2.2⟩
theorem Ukd (lines:List Za) (v12:Int) (i:Nat×Int) (m39:Nat) (v21:Int) (hl:m39<i.1) (e:runL (Xv lines v12) m39 v21=Qys lines v12) (h:Qlz lines v12 m39 v21):∃ j:Nat×Int,Qwe lines v12 v21 j.2 (Nv lines v12 j/\j.1<i.1):=⟨(m39,v21),rfl,rfl,rfl,rfl,Imp.refl _,rfl,rfl,Imp.refl _,⟨e,h⟩,hl⟩
theorem Umu (lines:List Za) (v12:Int) (h:(0:Int)<=0):Qwe lines v12 0 0 (Nv lines v12 (Ez lines v12)):=⟨rfl,rfl,rfl,rfl,Imp.refl _,rfl,rfl,Imp.refl _,rfl,Qn _,h⟩
abbrev Ef (lines:List Za):Nat×Int:=(((Int.toNat (((Ul lines).length:Int)-0))+1),0)
abbrev Qmq (lines:List Za) (m39:Nat) (v12:Int):Prop:=Int.toNat (((Ul lines).length:Int)-v12)<m39/\(0:Int)<=v12
abbrev Qvr (lines:List Za):Lp Int Bool:=LpX (Xk lines) (Ef lines)
abbrev Pr (lines:List Za) (i:Nat×Int):Prop:=LpJ (Xk lines) (Ef lines) i (Qmq lines i.1 i.2)
abbrev Qvq (lines:List Za) (i:Nat×Int) (m39:Nat) (v12:Int):Prop:=LpH (Xk lines) (Ef lines) i m39 v12 (Qmq lines (m39+1) v12)
abbrev Qxm (lines:List Za) (v12:Int) (v12_:Int) (K39:Prop):Prop:=(Rf (.int .i64 ((Ul lines).length:Int)))/\((.int .i64 v12:Value)=.int .i64 v12_)/\(Im (.l 2 Ui (Ul lines)))/\K39
theorem Unk (lines:List Za) (i:Nat×Int) (h:Pr lines i):Qvq lines i (i.1-1) i.2:=⟨hd1 h.1 h.2.1,hd3 h.2.1,hd2 h.2.1,h.2.2⟩
theorem Uiu (lines:List Za) (i:Nat×Int) (m39:Nat) (v12:Int) (hl:m39<i.1) (e:runL (Xk lines) m39 v12=Qvr lines) (h:Qmq lines m39 v12):∃ j:Nat×Int,Qxm lines v12 j.2 (Pr lines j/\j.1<i.1):=⟨(m39,v12),rfl,rfl,Imp.refl _,⟨e,h⟩,hl⟩
theorem Unq (lines:List Za) (h:(0:Int)<=0):Qxm lines 0 0 (Pr lines (Ef lines)):=⟨rfl,rfl,Imp.refl _,rfl,Qn _,h⟩
def S123 (lines:List Za):Spec:=⟨[.r (.c (.l 1 eStr lines))],.v (.bool (F123 lines)),F23 lines=0/\lines.length<=16/\(∀ k:Nat,(lines.getD k default).size<=1048576)⟩
abbrev Ng (lines:List Za) (v12:Int) (v21:Int):=(((Ul lines).take (Int.toNat v12)).getD (Int.toNat v21) default)
abbrev Bx (lines:List Za) (v12:Int):=((Ul lines).getD (Int.toNat v12) default)
theorem ok123 (lines:List Za):(S123 lines).ok Tryz.prog 123 false :=
 Ue mixed (fn:=Tryz.f123) (ct:=.seqk [(0,0)] .no (.seq (.reg [(1,Uhe lines)]) (.seq (.seqk [(3,0),(10,0)] .no (.blk (.loop (ι:=Nat×Int) (fun i=>(fun (v12:Int)=>(⟨[(3,some (.h 0 0)),(10,some (.h 0 0)),(11,some (.v (vI ((Ul lines).length:Int)))),(12,some (.v (vI v12)))],[(0,some (.own 0 (.l 2 Ui (Ul lines))))],1⟩:St)) i.2) (Pr lines) (fun i=>i.1) (Ef lines) (fun i=>(fun (v12:Int)=>(.seq .no (.seq (.cond .no .no) (.seq (.blk (.seq .no (.seqk [(19,0)] .no (.blk (.loop (ι:=Nat×Int) (fun i=>(fun (v21:Int)=>(⟨[(3,some (.h 0 0)),(5,some (.p 1 0)),(10,some (.h 0 0)),(11,some (.v (vI ((Ul lines).length:Int)))),(12,some (.v (vI v12))),(19,some (.h 2 0)),(20,some (.v (vI (((Ul lines).take (Int.toNat v12)).length:Int)))),(21,some (.v (vI v21)))],[(0,some (.own 0 (.l 2 Ui (Ul lines)))),(1,some (.box 170 [.v (vI (Bx lines v12).Addr),.v (vI (Bx lines v12).Len)])),(2,some (.shr (some (0,0)) (.l 2 Ui ((Ul lines).take (Int.toNat v12)))))],3⟩:St)) i.2) (Nv lines v12) (fun i=>i.1) (Ez lines v12) (fun i=>(fun (v21:Int)=>(.seq .no (.seq (.cond .no .no) (.seq (.blk (.seq .no (.seq (.reg [(2,Ucf (Bx lines v12) (Ng lines v12 v21)),(6,Ucf (Ng lines v12 v21) (Bx lines v12))]) (.cond (.seq .no .no) .no)))) (.reg [(0,.bnd)]))))) i.2)))))) (.reg [(0,.bnd)]))))) i.2)))) (.seq .no .no)))) Tryz.func123 (fun (hp:F23 lines=0/\lines.length<=16/\(∀ k:Nat,(lines.getD k default).size<=1048576))=>have hpre0:=hp.1; have hpre1:=hp.2.1; have hpre2:=hp.2.2; kn lines fun _=>Uei lines uu3 uu3 uu40 (kn (Ul lines) fun _=>kn (Ul lines) fun _=>ai (Unq lines uu3) (fun (i0:Nat×Int) (hi0:Pr lines i0)=>(fun (m0:Nat) (v12:Int) (hh0:Qvq lines i0 m0 v12)=>have hI0:=hh0.1; have hl0:=hh0.2.1; have _:=hh0.2.2.1; have _:=hh0.2.2.2; ifd (v12<((Ul lines).length:Int)) (fun h2 _=>ai (uu3:ib v12 (Ul lines)) (ai (uu3:0<=(0:Int)/\(0:Int)<=v12/\v12<=((Ul lines).length:Int)) (kn ((Ul lines).take (Int.toNat v12)) fun _=>ai (Umu lines v12 uu3) (fun (i1:Nat×Int) (hi1:Nv lines v12 i1)=>(fun (m1:Nat) (v21:Int) (hh1:Qxr lines v12 i1 m1 v21)=>have hI1:=hh1.1; have hl1:=hh1.2.1; have _:=hh1.2.2.1; have _:=hh1.2.2.2; ifd (v21<(((Ul lines).take (Int.toNat v12)).length:Int)) (fun h4 _=>ai (uu3:ib v21 ((Ul lines).take (Int.toNat v12))) (kc163 (Bx lines v12) (Ng lines v12 v21) uu41 uu41 (kg163 (F163 (Bx lines v12) (Ng lines v12 v21)) false (Ng lines v12 v21) (Bx lines v12) (fun k5=>⟨uu41,uu41⟩) (ifb (bif (F163 (Bx lines v12) (Ng lines v12 v21)) then true else (F163 (Ng lines v12 v21) (Bx lines v12))) (fun h6=>fiB true (F123 lines) (finR (Um hI0 (condT h2 (finR (Um hI1 (condT h4 (condT h6 rfl))) rfl))) rfl)) (fun h6=>ai (iok (v21+1) uu3) (Ukd lines v12 i1 m1 (v21+1) hl1 (Ud hI1 (condT h4 (condF h6 rfl))) uu17)))))) (fun h4 _=>have hD1_7:Qys lines v12=Lp.done v21:=Uh hI1 (condF h4 rfl); ai (iok (v12+1) uu3) (Uiu lines i0 m0 (v12+1) hl0 (Ud hI0 (condT h2 (finD hD1_7 rfl))) uu17))) (i1.1-1) i1.2 (Uns lines v12 i1 hi1))))) (fun h2 _=>have hD0_8:Qvr lines=Lp.done v12:=Uh hI0 (condF h2 rfl); fiB false (F123 lines) (finD hD0_8 rfl))) (i0.1-1) i0.2 (Unk lines i0 hi0)))) uu1
def F167 (p:Ub) (p1:Int):Bool :=
 (bif (F168 p p1) then (p.Addr != p1) else false)
def S167 (p:Ub) (p1:Int):Spec:=⟨[.r (.g (Ui p)),.rp ([.v (vI p1)])],.v (.bool (F167 p p1)),0<=p.Len/\p.Len<=16⟩
theorem ok167 (p:Ub) (p1:Int):(S167 p p1).ok Tryz.prog 167 :=
 Ue mixed (fn:=Tryz.f167) (ct:=.seq .no (.seq (.reg [(2,kh168 p p1)]) .no)) Tryz.func167 (fun (hp:0<=p.Len/\p.Len<=16)=>have hpre0:=hp.1; have hpre1:=hp.2; Ucn p p1 uu0 uu0 (fiB (bif (F168 p p1) then (p.Addr != p1) else false) (F167 p p1) rfl)) uu1
def Vs (Q:Ub->Prop) (p:Ub->Bool):Zx:=⟨Ub,fun i=>[.g (pxH (Ui i) (Q i))],fun i=>.bool (p i)⟩
def Mj (s:List Ub) (f:Ub->Bool):Int->Lp Int Int:=fun v8 =>
 bif (decide (v8<(s.length:Int))) then (bif (f (s.getD (Int.toNat v8) default)) then (.ret v8) else (.next (v8+1))) else (.done v8)
def F197 (s:List Ub) (f:Ub->Bool):Int :=
 (runL (Mj s f) ((Int.toNat ((s.length:Int)-0))+1) 0).fin (fun r=>r) (fun v8=>(-1))
abbrev Ej (s:List Ub):Nat×Int:=(((Int.toNat ((s.length:Int)-0))+1),0)
abbrev Qmg (s:List Ub) (m39:Nat) (v8:Int):Prop:=Int.toNat ((s.length:Int)-v8)<m39/\(0:Int)<=v8
abbrev Qxz (s:List Ub) (f:Ub->Bool):Lp Int Int:=LpX (Mj s f) (Ej s)
abbrev Eg (s:List Ub) (f:Ub->Bool) (i:Nat×Int):Prop:=LpJ (Mj s f) (Ej s) i (Qmg s i.1 i.2)
abbrev Qua (s:List Ub) (f:Ub->Bool) (i:Nat×Int) (m39:Nat) (v8:Int):Prop:=LpH (Mj s f) (Ej s) i m39 v8 (Qmg s (m39+1) v8)
abbrev Qvj (Qf:Ub->Prop) (s:List Ub) (f:Ub->Bool) (v8:Int) (v8_:Int) (K39:Prop):Prop:=(Rf (.int .i64 (s.length:Int)))/\((.int .i64 v8:Value)=.int .i64 v8_)/\(Im (.l 2 Ui s))/\(Vs Qf f=Vs Qf f)/\K39
theorem Ujq (s:List Ub) (f:Ub->Bool) (i:Nat×Int) (h:Eg s f i):Qua s f i (i.1-1) i.2:=⟨hd1 h.1 h.2.1,hd3 h.2.1,hd2 h.2.1,h.2.2⟩
theorem Uln (Qf:Ub->Prop) (s:List Ub) (f:Ub->Bool) (i:Nat×Int) (m39:Nat) (v8:Int) (hl:m39<i.1) (e:runL (Mj s f) m39 v8=Qxz s f) (h:Qmg s m39 v8):∃ j:Nat×Int,Qvj Qf s f v8 j.2 (Eg s f j/\j.1<i.1):=⟨(m39,v8),rfl,rfl,Imp.refl _,rfl,⟨e,h⟩,hl⟩
theorem Ujt (Qf:Ub->Prop) (s:List Ub) (f:Ub->Bool) (h:(0:Int)<=0):Qvj Qf s f 0 0 (Eg s f (Ej s)):=⟨rfl,rfl,Imp.refl _,rfl,rfl,Qn _,h⟩
def S197 (R:Int) (s:List Ub) (f:Ub->Bool) (Qf:Ub->Prop):Spec:=⟨[.r (.c (.l 2 Ui s)),.fn (Vs Qf f)],.v (vI R),(∀ k:Nat,k<s.length->Qf (s.getD k default))⟩
theorem ok197 (s:List Ub) (f:Ub->Bool) (Qf:Ub->Prop):(S197 (F197 s f) s f Qf).ok Tryz.prog 197 false :=
 Ue mixed (fn:=Tryz.f197) (ct:=.seqk [(0,0)] .no (.seq (.seqk [(0,0)] .no (.blk (.loop (ι:=Nat×Int) (fun i=>(fun (v8:Int)=>(⟨[(0,some (.h 0 0)),(1,some (.h 1 0)),(7,some (.v (vI (s.length:Int)))),(8,some (.v (vI v8)))],[(0,some (.shr none (.l 2 Ui s))),(1,some (.fn (Vs Qf f)))],2⟩:St)) i.2) (Eg s f) (fun i=>i.1) (Ej s) (fun i=>(fun (v8:Int)=>(.seq .no (.seq (.cond .no .no) (.seq (.blk (.seq .no (.seq (.reg [(5,.fnv (Vs Qf f) (s.getD (Int.toNat v8) default))]) (.cond (.seq .no .no) .no)))) (.reg [(0,.bnd)]))))) i.2)))) (.seq .no .no))) Tryz.func197 (fun (hpre0:∀ k:Nat,k<s.length->Qf (s.getD k default))=>kn s fun _=>kn s fun _=>ai (Ujt Qf s f uu0) (fun (i0:Nat×Int) (hi0:Eg s f i0)=>(fun (m0:Nat) (v8:Int) (hh0:Qua s f i0 m0 v8)=>have hI0:=hh0.1; have hl0:=hh0.2.1; have _:=hh0.2.2.1; have _:=hh0.2.2.2; ifd (v8<(s.length:Int)) (fun h2 _=>ai (uu0:ib v8 s) (ai (Eq.refl (Vs Qf f)) (ai (Imps.pxH (ds:=Ui (s.getD (Int.toNat v8) default)) (hpre0 (Int.toNat v8) uu0)) (ifb (f (s.getD (Int.toNat v8) default)) (fun h3=>fiI v8 (F197 s f) (finR (Um hI0 (condT h2 (condT h3 rfl))) rfl)) (fun h3=>ai (iok (v8+1) uu0) (Uln Qf s f i0 m0 (v8+1) hl0 (Ud hI0 (condT h2 (condF h3 rfl))) uu5)))))) (fun h2 _=>have hD0_4:Qxz s f=Lp.done v8:=Uh hI0 (condF h2 rfl); fiI (-1) (F197 s f) (finD hD0_4 rfl))) (i0.1-1) i0.2 (Ujq s f i0 hi0))) uu1
theorem as197 (s:List Ub) (f:Ub->Bool):F197 s f=(idxI f s):=by
 exact Bu f s (Mj s f) (fun i=>rfl)
theorem oa197 (s:List Ub) (f:Ub->Bool) (Qf:Ub->Prop):(S197 (idxI f s) s f Qf).ok Tryz.prog 197 false:=by
 intro hp; have h:=ok197 s f Qf hp; rw [as197 s f] at h; exact h
theorem g197_0 (s:List Ub) (f:Ub->Bool):(idxI f s)<(s.length:Int):=by
 exact Qai f s
theorem g197_1 (s:List Ub) (f:Ub->Bool):-1<=(idxI f s):=by
 (show -1<=idxI f s; unfold idxI; cases first (fun k=>f (s.getD k default)) s.length <;> simp only [oix] <;> omega)
theorem kc197a (s:List Ub) (f:Ub->Bool) (Qf:Ub->Prop) {K_:Prop} (p0_:∀ k:Nat,k<s.length->Qf (s.getD k default)) (k_:((idxI f s)<(s.length:Int))->(-1<=(idxI f s))->K_):(∀ k:Nat,k<s.length->Qf (s.getD k default))/\(Imp (.l 2 Ui s) (.l 2 Ui s))/\(Vs Qf f=Vs Qf f)/\K_:=⟨p0_,Imp.refl _,rfl,k_ (g197_0 s f) (g197_1 s f)⟩
abbrev kh197a (s:List Ub) (f:Ub->Bool) (Qf:Ub->Prop):Hint false Tryz.prog:=.call 197 (S197 (idxI f s) s f Qf) (oa197 s f Qf) none
def F166 (s:List Ub) (f:Ub->Bool):Bool :=
 decide ((idxI f s)>=0)
def S166 (R:Bool) (s:List Ub) (f:Ub->Bool) (Qf:Ub->Prop):Spec:=⟨[.r (.c (.l 2 Ui s)),.fn (Vs Qf f)],.v (.bool R),(∀ k:Nat,k<s.length->Qf (s.getD k default))⟩
theorem ok166 (s:List Ub) (f:Ub->Bool) (Qf:Ub->Prop):(S166 (F166 s f) s f Qf).ok Tryz.prog 166 false :=
 Ue mixed (fn:=Tryz.f166) (ct:=.seqk [(0,0)] .no (.seq (.reg [(2,kh197a s f Qf)]) .no)) Tryz.func166 (fun (hpre0:∀ k:Nat,k<s.length->Qf (s.getD k default))=>kn s fun _=>kc197a s f Qf uu6 (fun gv1 gv2=>fiB (decide ((idxI f s)>=0)) (F166 s f) rfl)) uu1
theorem as166 (s:List Ub) (f:Ub->Bool):F166 s f=(s.any f):=by
 exact Qdm f s
theorem oa166 (s:List Ub) (f:Ub->Bool) (Qf:Ub->Prop):(S166 (s.any f) s f Qf).ok Tryz.prog 166 false:=by
 intro hp; have h:=ok166 s f Qf hp; rw [as166 s f] at h; exact h
def F164 (text:Za) (p1:List Ub):Bool :=
 (!(p1.any (fun (x0:Ub)=>F167 x0 (F165 text))))
def S164 (text:Za) (p1:List Ub):Spec:=⟨[.r (.c (.v (.string text))),.rp ([.l 2 Ui p1])],.v (.bool (F164 text p1)),text.size<=1048576/\(∀ k:Nat,0<=(p1.getD k default).Len/\(p1.getD k default).Len<=16)⟩
theorem ok164 (text:Za) (p1:List Ub):(S164 text p1).ok Tryz.prog 164 false :=
 Ue mixed (fn:=Tryz.f164) (ct:=.seq .no (.seq (.reg [(1,Qoo text)]) (.seq (.reg [(2,.call 166 (S166 (p1.any (fun (x0:Ub)=>F167 x0 (F165 text))) p1 (fun (x0:Ub)=>F167 x0 (F165 text)) (fun (x0:Ub)=>0<=x0.Len/\x0.Len<=16)) (oa166 p1 (fun (x0:Ub)=>F167 x0 (F165 text)) (fun (x0:Ub)=>0<=x0.Len/\x0.Len<=16)) (some ⟨true,167,Vs (fun (x0:Ub)=>0<=x0.Len/\x0.Len<=16) (fun (x0:Ub)=>F167 x0 (F165 text)),[.rp ([.v (vI (F165 text))])],rfl,True,fun i=>Ugv (ok167 i (F165 text))⟩))]) .no))) Tryz.func164 (fun (hp:text.size<=1048576/\(∀ k:Nat,0<=(p1.getD k default).Len/\(p1.getD k default).Len<=16))=>have hpre0:=hp.1; have hpre1:=hp.2; Qpz text uu0 (ai (by exact fun k _=>hpre1 k:∀ k:Nat,k<p1.length->(fun (x0:Ub)=>0<=x0.Len/\x0.Len<=16) (p1.getD k default)) (ai (Imp.refl (.l 2 Ui p1)) (ai (Eq.refl (Vs (fun (x0:Ub)=>0<=x0.Len/\x0.Len<=16) (fun (x0:Ub)=>F167 x0 (F165 text)))) (ai trivial (ai (Imps.refl [.v (vI (F165 text))]) (fiB (!(p1.any (fun (x0:Ub)=>F167 x0 (F165 text)))) (F164 text p1) rfl))))))) uu1
def Xn (lines:List Za):(List Za×Int)->Lp (List Za×Int) Bool:=fun (addrs1,v13) =>
 bif (decide (v13<((Ua lines Zh).length:Int))) then (.next ((addrs1++[(((Ua lines Zh).getD (Int.toNat v13) default).getD (Int.toNat 2) default)]),(v13+1))) else (.done (addrs1,v13))
def Mb (lines:List Za):Lp (List Za) Bool :=
 (runL (Xn lines) ((Int.toNat (((Ua lines Zh).length:Int)-0))+1) (([]:List Za),0)).fin Lp.ret (fun (addrs1,v13)=>.done addrs1)
def Xz (lines:List Za) (addrs:List Za):(List Za×Int)->Lp (List Za×Int) Bool:=fun (addrs3,v27) =>
 bif (decide (v27<((Ua lines Zg).length:Int))) then (.next ((addrs3++[(((Ua lines Zg).getD (Int.toNat v27) default).getD (Int.toNat 1) default)]),(v27+1))) else (.done (addrs3,v27))
def He (lines:List Za) (addrs:List Za):Lp (List Za) Bool :=
 (runL (Xz lines addrs) ((Int.toNat (((Ua lines Zg).length:Int)-0))+1) (addrs,0)).fin Lp.ret (fun (addrs3,v27)=>.done addrs3)
def F124 (lines:List Za):Bool :=
 (Mb lines).fin (fun r=>r) (fun addrs=>(He lines addrs).fin (fun r=>r) (fun addrs2=>(addrs2.any (fun (x0:Za)=>F164 x0 (Ul lines)))))
abbrev Eu (lines:List Za):Nat×(List Za×Int):=(((Int.toNat (((Ua lines Zh).length:Int)-0))+1),(([]:List Za),0))
abbrev Qmf (lines:List Za) (m39:Nat) (addrs1:List Za) (v13:Int):Prop:=Int.toNat (((Ua lines Zh).length:Int)-v13)<m39/\(addrs1.length:Int)<=v13/\v13<=((Ua lines Zh).length:Int)/\(∀ k:Nat,(addrs1.getD k default).size<=1048576)/\(0:Int)<=v13
abbrev Qxf (lines:List Za):Lp (List Za×Int) Bool:=LpX (Xn lines) (Eu lines)
abbrev Po (lines:List Za) (i:Nat×(List Za×Int)):Prop:=LpJ (Xn lines) (Eu lines) i (Qmf lines i.1 i.2.1 i.2.2)
abbrev Qxx (lines:List Za) (i:Nat×(List Za×Int)) (m39:Nat) (addrs1:List Za) (v13:Int):Prop:=LpH (Xn lines) (Eu lines) i m39 (addrs1,v13) (Qmf lines (m39+1) addrs1 v13)
abbrev Qyi (lines:List Za) (addrs1:List Za) (v13:Int) (addrs1_:List Za) (v13_:Int) (K39:Prop):Prop:=(Rf (.int .i64 ((Ua lines Zh).length:Int)))/\((.int .i64 v13:Value)=.int .i64 v13_)/\(Im (.l 1 eStr lines))/\(Imp (.l 1 eStr addrs1) (.l 1 eStr addrs1_))/\(Im (.l 1 (eL 1 eStr) (Ua lines Zh)))/\K39
theorem Ulw (lines:List Za) (i:Nat×(List Za×Int)) (h:Po lines i):Qxx lines i (i.1-1) i.2.1 i.2.2:=⟨hd1 h.1 h.2.1,hd3 h.2.1,hd2 h.2.1,h.2.2⟩
theorem Umx (lines:List Za) (i:Nat×(List Za×Int)) (m39:Nat) (addrs1:List Za) (v13:Int) (hl:m39<i.1) (e:runL (Xn lines) m39 (addrs1,v13)=Qxf lines) (h:Qmf lines m39 addrs1 v13):∃ j:Nat×(List Za×Int),Qyi lines addrs1 v13 j.2.1 j.2.2 (Po lines j/\j.1<i.1):=⟨(m39,(addrs1,v13)),rfl,rfl,Imp.refl _,Imp.refl _,Imp.refl _,⟨e,h⟩,hl⟩
theorem Unn (lines:List Za) (h:(([]:List Za).length:Int)<=0/\0<=((Ua lines Zh).length:Int)/\(∀ k:Nat,(([]:List Za).getD k default).size<=1048576)/\(0:Int)<=0):Qyi lines ([]:List Za) 0 ([]:List Za) 0 (Po lines (Eu lines)):=⟨rfl,rfl,Imp.refl _,Imp.refl _,Imp.refl _,rfl,Qn _,h⟩
abbrev Qlh (lines:List Za) (addrs:List Za):Prop:=(addrs.length:Int)<=16/\(∀ k:Nat,(addrs.getD k default).size<=1048576)
abbrev Qls (lines:List Za) (j:List Za):Prop:=(Mb lines)=Lp.done j/\Qlh lines j
theorem Uki (lines:List Za) (addrs:List Za) (e:(Mb lines)=Lp.done addrs) (h:Qlh lines addrs):∃ j:List Za,(Imp (.l 1 eStr lines) (.l 1 eStr lines))/\(Imp (.l 1 eStr addrs) (.l 1 eStr j))/\Qls lines j:=⟨addrs,Imp.refl _,Imp.refl _,e,h⟩
abbrev Nt (lines:List Za) (addrs:List Za):Nat×(List Za×Int):=(((Int.toNat (((Ua lines Zg).length:Int)-0))+1),(addrs,0))
abbrev Qni (lines:List Za) (m39:Nat) (addrs3:List Za) (v27:Int):Prop:=Int.toNat (((Ua lines Zg).length:Int)-v27)<m39/\(addrs3.length:Int)<=16+v27/\v27<=((Ua lines Zg).length:Int)/\(∀ k:Nat,(addrs3.getD k default).size<=1048576)/\(0:Int)<=v27
abbrev Qzj (lines:List Za) (addrs:List Za):Lp (List Za×Int) Bool:=LpX (Xz lines addrs) (Nt lines addrs)
abbrev Qaa (lines:List Za) (addrs:List Za) (i:Nat×(List Za×Int)):Prop:=LpJ (Xz lines addrs) (Nt lines addrs) i (Qni lines i.1 i.2.1 i.2.2)
abbrev Quw (lines:List Za) (addrs:List Za) (i:Nat×(List Za×Int)) (m39:Nat) (addrs3:List Za) (v27:Int):Prop:=LpH (Xz lines addrs) (Nt lines addrs) i m39 (addrs3,v27) (Qni lines (m39+1) addrs3 v27)
abbrev Qyr (lines:List Za) (addrs3:List Za) (v27:Int) (addrs3_:List Za) (v27_:Int) (K39:Prop):Prop:=(Rf (.int .i64 ((Ua lines Zg).length:Int)))/\((.int .i64 v27:Value)=.int .i64 v27_)/\(Im (.l 1 eStr lines))/\(Imp (.l 1 eStr addrs3) (.l 1 eStr addrs3_))/\(Im (.l 1 (eL 1 eStr) (Ua lines Zg)))/\K39
theorem Ums (lines:List Za) (addrs:List Za) (i:Nat×(List Za×Int)) (h:Qaa lines addrs i):Quw lines addrs i (i.1-1) i.2.1 i.2.2:=⟨hd1 h.1 h.2.1,hd3 h.2.1,hd2 h.2.1,h.2.2⟩
theorem Ulx (lines:List Za) (addrs:List Za) (i:Nat×(List Za×Int)) (m39:Nat) (addrs3:List Za) (v27:Int) (hl:m39<i.1) (e:runL (Xz lines addrs) m39 (addrs3,v27)=Qzj lines addrs) (h:Qni lines m39 addrs3 v27):∃ j:Nat×(List Za×Int),Qyr lines addrs3 v27 j.2.1 j.2.2 (Qaa lines addrs j/\j.1<i.1):=⟨(m39,(addrs3,v27)),rfl,rfl,Imp.refl _,Imp.refl _,Imp.refl _,⟨e,h⟩,hl⟩
theorem Ull (lines:List Za) (addrs:List Za) (h:(addrs.length:Int)<=16+0/\0<=((Ua lines Zg).length:Int)/\(∀ k:Nat,(addrs.getD k default).size<=1048576)/\(0:Int)<=0):Qyr lines addrs 0 addrs 0 (Qaa lines addrs (Nt lines addrs)):=⟨rfl,rfl,Imp.refl _,Imp.refl _,Imp.refl _,rfl,Qn _,h⟩
abbrev Qnh (lines:List Za) (addrs:List Za) (addrs2:List Za):Prop:=(addrs2.length:Int)<=32/\(∀ k:Nat,(addrs2.getD k default).size<=1048576)
abbrev Qlb (lines:List Za) (addrs:List Za) (j:List Za):Prop:=(He lines addrs)=Lp.done j/\Qnh lines addrs j
theorem Uja (lines:List Za) (addrs:List Za) (addrs2:List Za) (e:(He lines addrs)=Lp.done addrs2) (h:Qnh lines addrs addrs2):∃ j:List Za,(Imp (.l 1 eStr lines) (.l 1 eStr lines))/\(Imp (.l 1 eStr addrs2) (.l 1 eStr j))/\Qlb lines addrs j:=⟨addrs2,Imp.refl _,Imp.refl _,e,h⟩
def S124 (lines:List Za):Spec:=⟨[.r (.c (.l 1 eStr lines))],.v (.bool (F124 lines)),F23 lines=0/\lines.length<=16/\(∀ k:Nat,(lines.getD k default).size<=1048576)⟩
theorem ok124 (lines:List Za):(S124 lines).ok Tryz.prog 124 false :=
 Ue mixed (fn:=Tryz.f124) (ct:=.seqk [(0,0)] .no (.seq (.reg [(0,.dat (.l 1 eStr ([]:List Za)))]) (.cut (ι:=List Za) (fun j=>(fun (addrs:List Za)=>(⟨[(0,some (.h 0 0)),(3,some (.h 1 0))],[(0,some (.shr none (.l 1 eStr lines))),(1,some (.own 1 (.l 1 eStr addrs)))],2⟩:St)) j) (Qls lines) (.seqk [(3,0),(11,0)] (.reg [(1,Hu lines Zh)]) (.blk (.loop (ι:=Nat×(List Za×Int)) (fun i=>(fun (addrs1:List Za) (v13:Int)=>(⟨[(0,some (.h 0 0)),(3,some (.h 1 0)),(11,some (.h 2 0)),(12,some (.v (vI ((Ua lines Zh).length:Int)))),(13,some (.v (vI v13)))],[(0,some (.shr none (.l 1 eStr lines))),(1,some (.own 1 (.l 1 eStr addrs1))),(2,some (.own 2 (.l 1 (eL 1 eStr) (Ua lines Zh))))],3⟩:St)) i.2.1 i.2.2) (Po lines) (fun i=>i.1) (Eu lines) (fun i=>(fun (addrs1:List Za) (v13:Int)=>(.seq .no (.seq (.cond .no .no) (.seq (.blk (.seq .no (.reg [(5,.dat (.l 1 eStr (addrs1++[(((Ua lines Zh).getD (Int.toNat v13) default).getD (Int.toNat 2) default)])))]))) (.reg [(0,.bnd)]))))) i.2.1 i.2.2)))) (fun j=>(fun (addrs:List Za)=>(.cut (ι:=List Za) (fun j=>(fun (addrs2:List Za)=>(⟨[(0,some (.h 0 0)),(3,some (.h 1 0))],[(0,some (.shr none (.l 1 eStr lines))),(1,some (.own 1 (.l 1 eStr addrs2)))],2⟩:St)) j) (Qlb lines addrs) (.seqk [(3,0),(25,0)] (.reg [(1,Hu lines Zg)]) (.blk (.loop (ι:=Nat×(List Za×Int)) (fun i=>(fun (addrs3:List Za) (v27:Int)=>(⟨[(0,some (.h 0 0)),(3,some (.h 1 0)),(25,some (.h 2 0)),(26,some (.v (vI ((Ua lines Zg).length:Int)))),(27,some (.v (vI v27)))],[(0,some (.shr none (.l 1 eStr lines))),(1,some (.own 1 (.l 1 eStr addrs3))),(2,some (.own 2 (.l 1 (eL 1 eStr) (Ua lines Zg))))],3⟩:St)) i.2.1 i.2.2) (Qaa lines addrs) (fun i=>i.1) (Nt lines addrs) (fun i=>(fun (addrs3:List Za) (v27:Int)=>(.seq .no (.seq (.cond .no .no) (.seq (.blk (.seq .no (.reg [(5,.dat (.l 1 eStr (addrs3++[(((Ua lines Zg).getD (Int.toNat v27) default).getD (Int.toNat 1) default)])))]))) (.reg [(0,.bnd)]))))) i.2.1 i.2.2)))) (fun j=>(fun (addrs2:List Za)=>(.seq (.reg [(1,Uhe lines)]) (.seq (.reg [(2,.call 94 (S94 (addrs2.any (fun (x0:Za)=>F164 x0 (Ul lines))) addrs2 (fun (x0:Za)=>F164 x0 (Ul lines)) (fun (x0:Za)=>x0.size<=1048576/\(∀ k:Nat,0<=((Ul lines).getD k default).Len/\((Ul lines).getD k default).Len<=16))) (oa94 addrs2 (fun (x0:Za)=>F164 x0 (Ul lines)) (fun (x0:Za)=>x0.size<=1048576/\(∀ k:Nat,0<=((Ul lines).getD k default).Len/\((Ul lines).getD k default).Len<=16))) (some ⟨false,164,We (fun (x0:Za)=>x0.size<=1048576/\(∀ k:Nat,0<=((Ul lines).getD k default).Len/\((Ul lines).getD k default).Len<=16)) (fun (x0:Za)=>F164 x0 (Ul lines)),[.rp ([.l 2 Ui (Ul lines)])],rfl,True,fun i=>Lh (ok164 i (Ul lines))⟩))]) .no))) j))) j)))) Tryz.func124 (fun (hp:F23 lines=0/\lines.length<=16/\(∀ k:Nat,(lines.getD k default).size<=1048576))=>have hpre0:=hp.1; have hpre1:=hp.2.1; have hpre2:=hp.2.2; kn lines fun _=>ai (bokr 1 eStr ([]:List Za) fun _=>rfl) (ai (Qac lines Zh uu0 uu6 uu0 (fun gv1=>kn ([]:List Za) fun _=>kn (Ua lines Zh) fun _=>ai (Unn lines (by refine ⟨?_,?_,?_,?_⟩ <;> first | omega | (simp only [lens,ib] at*<;> omega) | exact Qrd (by assumption) (Lx lines _ (by first | omega | (simp only [lens,ib] at*<;> omega)) _ _) | exact Udh)) (fun (i0:Nat×(List Za×Int)) (hi0:Po lines i0)=>(fun (m0:Nat) (addrs1:List Za) (v13:Int) (hh0:Qxx lines i0 m0 addrs1 v13)=>have hI0:=hh0.1; have hl0:=hh0.2.1; have _:=hh0.2.2.1; have _:=hh0.2.2.2.1; have _:=hh0.2.2.2.2.1; have _:=hh0.2.2.2.2.2.1; have _:=hh0.2.2.2.2.2.2; ifd (v13<((Ua lines Zh).length:Int)) (fun h3 _=>ai (uu9:0<=v13/\v13<((Ua lines Zh).length:Int)) (ai (by (have h9:=Ufw lines (by omega) (Int.toNat v13) (by omega); unfold Bg at h9; omega):0<=(2:Int)/\(2:Int)<(((Ua lines Zh).getD (Int.toNat v13) default).length:Int)) (ai (appr 1 eStr addrs1 [(((Ua lines Zh).getD (Int.toNat v13) default).getD (Int.toNat 2) default)] fun _=>rfl) (ai (uu21:(addrs1++[(((Ua lines Zh).getD (Int.toNat v13) default).getD (Int.toNat 2) default)]).length*16<=140737488355328) (ai (iok (v13+1) uu0) (Umx lines i0 m0 (addrs1++[(((Ua lines Zh).getD (Int.toNat v13) default).getD (Int.toNat 2) default)]) (v13+1) hl0 (Ud hI0 (condT h3 rfl)) (by refine ⟨?_,?_,?_,?_,?_⟩ <;> first | omega | (simp only [lens,ib] at*<;> omega) | exact Qrd (by assumption) (Lx lines _ (by first | omega | (simp only [lens,ib] at*<;> omega)) _ _) | exact Udh))))))) (fun h3 _=>have hD0_4:Qxf lines=Lp.done (addrs1,v13):=Uh hI0 (condF h3 rfl); Uki lines addrs1 (G6 (finD hD0_4 rfl)) uu5)) (i0.1-1) i0.2.1 i0.2.2 (Ulw lines i0 hi0)))) (fun (j:List Za) (hj:Qls lines j)=>(fun (addrs:List Za) (hJ0_5:(Mb lines)=Lp.done addrs) (hw:Qlh lines addrs)=>have _:=hw.1; have _:=hw.2; ai (Qac lines Zg uu0 uu6 uu0 (fun gv6=>kn addrs fun _=>kn (Ua lines Zg) fun _=>ai (Ull lines addrs uu25) (fun (i1:Nat×(List Za×Int)) (hi1:Qaa lines addrs i1)=>(fun (m1:Nat) (addrs3:List Za) (v27:Int) (hh1:Quw lines addrs i1 m1 addrs3 v27)=>have hI1:=hh1.1; have hl1:=hh1.2.1; have _:=hh1.2.2.1; have _:=hh1.2.2.2.1; have _:=hh1.2.2.2.2.1; have _:=hh1.2.2.2.2.2.1; have _:=hh1.2.2.2.2.2.2; ifd (v27<((Ua lines Zg).length:Int)) (fun h8 _=>ai (uu9:0<=v27/\v27<((Ua lines Zg).length:Int)) (ai (by (have h9:=Ukm lines (by omega) (Int.toNat v27) (by omega); unfold En at h9; omega):0<=(1:Int)/\(1:Int)<(((Ua lines Zg).getD (Int.toNat v27) default).length:Int)) (ai (appr 1 eStr addrs3 [(((Ua lines Zg).getD (Int.toNat v27) default).getD (Int.toNat 1) default)] fun _=>rfl) (ai (uu21:(addrs3++[(((Ua lines Zg).getD (Int.toNat v27) default).getD (Int.toNat 1) default)]).length*16<=140737488355328) (ai (iok (v27+1) uu0) (Ulx lines addrs i1 m1 (addrs3++[(((Ua lines Zg).getD (Int.toNat v27) default).getD (Int.toNat 1) default)]) (v27+1) hl1 (Ud hI1 (condT h8 rfl)) (by refine ⟨?_,?_,?_,?_,?_⟩ <;> first | omega | (simp only [lens,ib] at*<;> omega) | exact Qrd (by assumption) (Lx lines _ (by first | omega | (simp only [lens,ib] at*<;> omega)) _ _) | assumption))))))) (fun h8 _=>have hD1_9:Qzj lines addrs=Lp.done (addrs3,v27):=Uh hI1 (condF h8 rfl); Uja lines addrs addrs3 (G6 (finD hD1_9 rfl)) uu5)) (i1.1-1) i1.2.1 i1.2.2 (Ums lines addrs i1 hi1)))) (fun (j:List Za) (hj:Qlb lines addrs j)=>(fun (addrs2:List Za) (hJ1_10:(He lines addrs)=Lp.done addrs2) (hw:Qnh lines addrs addrs2)=>have _:=hw.1; have _:=hw.2; Uei lines uu0 uu0 uu6 (ai (by exact fun k _=>⟨(by assumption:∀ k:Nat,(addrs2.getD k default).size<=1048576) k,Qbx lines⟩:∀ k:Nat,k<addrs2.length->(fun (x0:Za)=>x0.size<=1048576/\(∀ k:Nat,0<=((Ul lines).getD k default).Len/\((Ul lines).getD k default).Len<=16)) (addrs2.getD k default)) (ai (Imp.refl (.l 1 eStr addrs2)) (ai (Eq.refl (We (fun (x0:Za)=>x0.size<=1048576/\(∀ k:Nat,0<=((Ul lines).getD k default).Len/\((Ul lines).getD k default).Len<=16)) (fun (x0:Za)=>F164 x0 (Ul lines)))) (ai trivial (ai (Imps.refl [.l 2 Ui (Ul lines)]) (fiB (addrs2.any (fun (x0:Za)=>F164 x0 (Ul lines))) (F124 lines) (finD hJ0_5 (finD hJ1_10 rfl))))))))) j hj.1 hj.2)) j hj.1 hj.2))) uu1
abbrev Uhi (p:Ub) (addr:Int):Hint false Tryz.prog:=.call 168 (S168 p addr) ((ok168 p addr).to false) none
theorem kg170 {K_:Prop} (c_ b_:Bool) (word:Za) (p_:c_=b_->word.size<=1048576) (k_:K_):(c_=b_->word.size<=1048576)/\(c_=b_->Imp (.v (.string word)) (.v (.string word)))/\K_:=⟨p_,fun _=>Imp.refl _,k_⟩
def Xt (lines:List Za) (v64:Int):Int->Lp Int Bool:=fun v89 =>
 bif (decide (v89<(((Ua lines Zb).take (Int.toNat v64)).length:Int))) then (bif (bif (bif (((((Ua lines Zb).take (Int.toNat v64)).getD (Int.toNat v89) default).getD (Int.toNat 1) default).toList==(((Ua lines Zb).getD (Int.toNat v64) default).getD (Int.toNat 1) default).toList) then (((((Ua lines Zb).take (Int.toNat v64)).getD (Int.toNat v89) default).getD (Int.toNat 3) default).toList==(((Ua lines Zb).getD (Int.toNat v64) default).getD (Int.toNat 3) default).toList) else false) then (((((Ua lines Zb).take (Int.toNat v64)).getD (Int.toNat v89) default).getD (Int.toNat 4) default).toList==(((Ua lines Zb).getD (Int.toNat v64) default).getD (Int.toNat 4) default).toList) else false) then (.ret true) else (.next (v89+1))) else (.done v89)
def Xw (lines:List Za):Int->Lp Int Bool:=fun v64 =>
 bif (decide (v64<((Ua lines Zb).length:Int))) then (bif (bif (!(F168 (F169 (((Ua lines Zc).getD (Int.toNat 0) default).getD (Int.toNat 1) default)).1 (F165 (((Ua lines Zb).getD (Int.toNat v64) default).getD (Int.toNat 3) default)))) then true else (decide ((F170 (((Ua lines Zc).getD (Int.toNat 0) default).getD (Int.toNat 3) default))<=(F170 (((Ua lines Zb).getD (Int.toNat v64) default).getD (Int.toNat 2) default))/\(F170 (((Ua lines Zb).getD (Int.toNat v64) default).getD (Int.toNat 2) default))<=(F170 (((Ua lines Zc).getD (Int.toNat 0) default).getD (Int.toNat 4) default))))) then (.ret true) else ((runL (Xt lines v64) ((Int.toNat ((((Ua lines Zb).take (Int.toNat v64)).length:Int)-0))+1) 0).fin Lp.ret (fun v89=>.next (v64+1)))) else (.done v64)
def F125 (lines:List Za):Bool :=
 bif (((Ua lines Zc).length:Int)==0) then (decide (((Ua lines Zb).length:Int)>0)) else (bif (bif (bif (F168 (F169 (((Ua lines Zc).getD (Int.toNat 0) default).getD (Int.toNat 1) default)).1 (F165 (((Ua lines Zc).getD (Int.toNat 0) default).getD (Int.toNat 2) default))) then true else decide ((F170 (((Ua lines Zc).getD (Int.toNat 0) default).getD (Int.toNat 3) default))>(F170 (((Ua lines Zc).getD (Int.toNat 0) default).getD (Int.toNat 4) default)))) then true else decide (((Ua lines Zb).length:Int)>6)) then true else ((runL (Xw lines) ((Int.toNat (((Ua lines Zb).length:Int)-0))+1) 0).fin (fun r=>r) (fun v64=>false)))
abbrev Nr (lines:List Za) (v64:Int):Nat×Int:=(((Int.toNat ((((Ua lines Zb).take (Int.toNat v64)).length:Int)-0))+1),0)
abbrev Qnc (lines:List Za) (v64:Int) (m39:Nat) (v89:Int):Prop:=Int.toNat ((((Ua lines Zb).take (Int.toNat v64)).length:Int)-v89)<m39/\(0:Int)<=v89
abbrev Qyg (lines:List Za) (v64:Int):Lp Int Bool:=LpX (Xt lines v64) (Nr lines v64)
abbrev Qas (lines:List Za) (v64:Int) (i:Nat×Int):Prop:=LpJ (Xt lines v64) (Nr lines v64) i (Qnc lines v64 i.1 i.2)
abbrev Qwt (lines:List Za) (v64:Int) (i:Nat×Int) (m39:Nat) (v89:Int):Prop:=LpH (Xt lines v64) (Nr lines v64) i m39 v89 (Qnc lines v64 (m39+1) v89)
abbrev Qwu (lines:List Za) (v64:Int) (v89:Int) (v89_:Int) (K39:Prop):Prop:=(Rf (.int .i64 (F170 (((Ua lines Zc).getD (Int.toNat 0) default).getD (Int.toNat 3) default))))/\(Rf (.int .i64 (F170 (((Ua lines Zc).getD (Int.toNat 0) default).getD (Int.toNat 4) default))))/\(Rf (.int .i64 ((Ua lines Zb).length:Int)))/\(Rf (.int .i64 v64))/\(Rf (.int .i64 (((Ua lines Zb).take (Int.toNat v64)).length:Int)))/\((.int .i64 v89:Value)=.int .i64 v89_)/\(Im (.l 1 (eL 1 eStr) (Ua lines Zb)))/\(Rf (.int .i64 (F169 (((Ua lines Zc).getD (Int.toNat 0) default).getD (Int.toNat 1) default)).1.Addr))/\(Rf (.int .i64 (F169 (((Ua lines Zc).getD (Int.toNat 0) default).getD (Int.toNat 1) default)).1.Len))/\(Im (.l 1 eStr ((Ua lines Zb).getD (Int.toNat v64) default)))/\(Im (.l 1 (eL 1 eStr) ((Ua lines Zb).take (Int.toNat v64))))/\K39
theorem Ulh (lines:List Za) (v64:Int) (i:Nat×Int) (h:Qas lines v64 i):Qwt lines v64 i (i.1-1) i.2:=⟨hd1 h.1 h.2.1,hd3 h.2.1,hd2 h.2.1,h.2.2⟩
theorem Umm (lines:List Za) (v64:Int) (i:Nat×Int) (m39:Nat) (v89:Int) (hl:m39<i.1) (e:runL (Xt lines v64) m39 v89=Qyg lines v64) (h:Qnc lines v64 m39 v89):∃ j:Nat×Int,Qwu lines v64 v89 j.2 (Qas lines v64 j/\j.1<i.1):=⟨(m39,v89),rfl,rfl,rfl,rfl,rfl,rfl,Imp.refl _,rfl,rfl,Imp.refl _,Imp.refl _,⟨e,h⟩,hl⟩
theorem Ulr (lines:List Za) (v64:Int) (h:(0:Int)<=0):Qwu lines v64 0 0 (Qas lines v64 (Nr lines v64)):=⟨rfl,rfl,rfl,rfl,rfl,rfl,Imp.refl _,rfl,rfl,Imp.refl _,Imp.refl _,rfl,Qn _,h⟩
abbrev Qaz (lines:List Za):Nat×Int:=(((Int.toNat (((Ua lines Zb).length:Int)-0))+1),0)
abbrev Qmi (lines:List Za) (m39:Nat) (v64:Int):Prop:=Int.toNat (((Ua lines Zb).length:Int)-v64)<m39/\(0:Int)<=v64
abbrev Qxg (lines:List Za):Lp Int Bool:=LpX (Xw lines) (Qaz lines)
abbrev Pl (lines:List Za) (i:Nat×Int):Prop:=LpJ (Xw lines) (Qaz lines) i (Qmi lines i.1 i.2)
abbrev Qvf (lines:List Za) (i:Nat×Int) (m39:Nat) (v64:Int):Prop:=LpH (Xw lines) (Qaz lines) i m39 v64 (Qmi lines (m39+1) v64)
abbrev Qvi (lines:List Za) (v64:Int) (v64_:Int) (K39:Prop):Prop:=(Rf (.int .i64 (F170 (((Ua lines Zc).getD (Int.toNat 0) default).getD (Int.toNat 3) default))))/\(Rf (.int .i64 (F170 (((Ua lines Zc).getD (Int.toNat 0) default).getD (Int.toNat 4) default))))/\(Rf (.int .i64 ((Ua lines Zb).length:Int)))/\((.int .i64 v64:Value)=.int .i64 v64_)/\(Im (.l 1 (eL 1 eStr) (Ua lines Zb)))/\(Rf (.int .i64 (F169 (((Ua lines Zc).getD (Int.toNat 0) default).getD (Int.toNat 1) default)).1.Addr))/\(Rf (.int .i64 (F169 (((Ua lines Zc).getD (Int.toNat 0) default).getD (Int.toNat 1) default)).1.Len))/\K39
theorem Ujp (lines:List Za) (i:Nat×Int) (h:Pl lines i):Qvf lines i (i.1-1) i.2:=⟨hd1 h.1 h.2.1,hd3 h.2.1,hd2 h.2.1,h.2.2⟩
theorem Ujr (lines:List Za) (i:Nat×Int) (m39:Nat) (v64:Int) (hl:m39<i.1) (e:runL (Xw lines) m39 v64=Qxg lines) (h:Qmi lines m39 v64):∃ j:Nat×Int,Qvi lines v64 j.2 (Pl lines j/\j.1<i.1):=⟨(m39,v64),rfl,rfl,rfl,rfl,Imp.refl _,rfl,rfl,⟨e,h⟩,hl⟩
theorem Ujj (lines:List Za) (h:(0:Int)<=0):Qvi lines 0 0 (Pl lines (Qaz lines)):=⟨rfl,rfl,rfl,rfl,Imp.refl _,rfl,rfl,rfl,Qn _,h⟩
def S125 (lines:List Za):Spec:=⟨[.r (.c (.l 1 eStr lines))],.v (.bool (F125 lines)),F23 lines=0/\lines.length<=16/\(∀ k:Nat,(lines.getD k default).size<=1048576)⟩
theorem ok125 (lines:List Za):(S125 lines).ok Tryz.prog 125 false :=
 Ue mixed (fn:=Tryz.f125) (ct:=.seqk [(0,0)] .no (.seq (.reg [(1,Hu lines Zc),(3,Hu lines Zb)]) (.seq (.seq .no (.cond (.seq .no .no) .no)) (.seq (.reg [(5,Udn (((Ua lines Zc).getD (Int.toNat 0) default).getD (Int.toNat 1) default))]) (.seq (.reg [(5,Qxa (((Ua lines Zc).getD (Int.toNat 0) default).getD (Int.toNat 3) default)),(11,Qxa (((Ua lines Zc).getD (Int.toNat 0) default).getD (Int.toNat 4) default))]) (.seq (.seq (.reg [(6,Qoo (((Ua lines Zc).getD (Int.toNat 0) default).getD (Int.toNat 2) default)),(7,Uhi (F169 (((Ua lines Zc).getD (Int.toNat 0) default).getD (Int.toNat 1) default)).1 (F165 (((Ua lines Zc).getD (Int.toNat 0) default).getD (Int.toNat 2) default)))]) (.cond (.seq .no .no) .no)) (.seq (.seqk [(4,0),(62,0)] .no (.blk (.loop (ι:=Nat×Int) (fun i=>(fun (v64:Int)=>(⟨[(4,some (.h 0 0)),(5,some (.p 1 0)),(7,some (.v (vI (F170 (((Ua lines Zc).getD (Int.toNat 0) default).getD (Int.toNat 3) default))))),(8,some (.v (vI (F170 (((Ua lines Zc).getD (Int.toNat 0) default).getD (Int.toNat 4) default))))),(62,some (.h 0 0)),(63,some (.v (vI ((Ua lines Zb).length:Int)))),(64,some (.v (vI v64)))],[(0,some (.own 0 (.l 1 (eL 1 eStr) (Ua lines Zb)))),(1,some (.box 170 [.v (vI (F169 (((Ua lines Zc).getD (Int.toNat 0) default).getD (Int.toNat 1) default)).1.Addr),.v (vI (F169 (((Ua lines Zc).getD (Int.toNat 0) default).getD (Int.toNat 1) default)).1.Len)]))],2⟩:St)) i.2) (Pl lines) (fun i=>i.1) (Qaz lines) (fun i=>(fun (v64:Int)=>(.seq .no (.seq (.cond .no .no) (.seq (.blk (.seq (.reg [(2,.sh)]) (.seq (.seq (.reg [(4,Qoo (((Ua lines Zb).getD (Int.toNat v64) default).getD (Int.toNat 3) default)),(5,Uhi (F169 (((Ua lines Zc).getD (Int.toNat 0) default).getD (Int.toNat 1) default)).1 (F165 (((Ua lines Zb).getD (Int.toNat v64) default).getD (Int.toNat 3) default))),(11,Qxa (((Ua lines Zb).getD (Int.toNat v64) default).getD (Int.toNat 2) default)),(14,Vc (F170 (((Ua lines Zb).getD (Int.toNat v64) default).getD (Int.toNat 2) default)) (F170 (((Ua lines Zc).getD (Int.toNat 0) default).getD (Int.toNat 3) default)) (F170 (((Ua lines Zc).getD (Int.toNat 0) default).getD (Int.toNat 4) default)))]) (.cond (.seq .no .no) .no)) (.seqk [(10,0),(87,0)] .no (.blk (.loop (ι:=Nat×Int) (fun i=>(fun (v89:Int)=>(⟨[(4,some (.h 0 0)),(5,some (.p 1 0)),(7,some (.v (vI (F170 (((Ua lines Zc).getD (Int.toNat 0) default).getD (Int.toNat 3) default))))),(8,some (.v (vI (F170 (((Ua lines Zc).getD (Int.toNat 0) default).getD (Int.toNat 4) default))))),(10,some (.h 2 0)),(62,some (.h 0 0)),(63,some (.v (vI ((Ua lines Zb).length:Int)))),(64,some (.v (vI v64))),(87,some (.h 3 0)),(88,some (.v (vI (((Ua lines Zb).take (Int.toNat v64)).length:Int)))),(89,some (.v (vI v89)))],[(0,some (.own 0 (.l 1 (eL 1 eStr) (Ua lines Zb)))),(1,some (.box 170 [.v (vI (F169 (((Ua lines Zc).getD (Int.toNat 0) default).getD (Int.toNat 1) default)).1.Addr),.v (vI (F169 (((Ua lines Zc).getD (Int.toNat 0) default).getD (Int.toNat 1) default)).1.Len)])),(2,some (.shr (some (0,0)) (.l 1 eStr ((Ua lines Zb).getD (Int.toNat v64) default)))),(3,some (.shr (some (0,0)) (.l 1 (eL 1 eStr) ((Ua lines Zb).take (Int.toNat v64)))))],4⟩:St)) i.2) (Qas lines v64) (fun i=>i.1) (Nr lines v64) (fun i=>(fun (v89:Int)=>(.seq .no (.seq (.cond .no .no) (.seq (.blk (.seq .no (.seq .no (.cond (.seq .no .no) .no)))) (.reg [(0,.bnd)]))))) i.2))))))) (.reg [(0,.bnd)]))))) i.2)))) (.seq .no .no)))))))) Tryz.func125 (fun (hp:F23 lines=0/\lines.length<=16/\(∀ k:Nat,(lines.getD k default).size<=1048576))=>have hpre0:=hp.1; have hpre1:=hp.2.1; have hpre2:=hp.2.2; kn lines fun _=>Qac lines Zc uu3 uu40 uu3 (fun gv1=>Qac lines Zb uu3 uu40 uu3 (fun gv2=>ife ((Ua lines Zc).length:Int) 0 (fun h3 _=>fiB (decide (((Ua lines Zb).length:Int)>0)) (F125 lines) (condT h3 rfl)) (fun h3 _=>ai (uu14:0<=(0:Int)/\(0:Int)<((Ua lines Zc).length:Int)) (ai (uu14:0<=(1:Int)/\(1:Int)<(((Ua lines Zc).getD (Int.toNat 0) default).length:Int)) (Ube (((Ua lines Zc).getD (Int.toNat 0) default).getD (Int.toNat 1) default) uu24 (ai (uu14:0<=(0:Int)/\(0:Int)<((Ua lines Zc).length:Int)) (ai (uu14:0<=(3:Int)/\(3:Int)<(((Ua lines Zc).getD (Int.toNat 0) default).length:Int)) (Ufu (((Ua lines Zc).getD (Int.toNat 0) default).getD (Int.toNat 3) default) uu24 (ai (uu14:0<=(0:Int)/\(0:Int)<((Ua lines Zc).length:Int)) (ai (uu14:0<=(4:Int)/\(4:Int)<(((Ua lines Zc).getD (Int.toNat 0) default).length:Int)) (Ufu (((Ua lines Zc).getD (Int.toNat 0) default).getD (Int.toNat 4) default) uu24 (ai (uu14:0<=(0:Int)/\(0:Int)<((Ua lines Zc).length:Int)) (ai (uu14:0<=(2:Int)/\(2:Int)<(((Ua lines Zc).getD (Int.toNat 0) default).length:Int)) (Qpz (((Ua lines Zc).getD (Int.toNat 0) default).getD (Int.toNat 2) default) uu24 (Ucn (F169 (((Ua lines Zc).getD (Int.toNat 0) default).getD (Int.toNat 1) default)).1 (F165 (((Ua lines Zc).getD (Int.toNat 0) default).getD (Int.toNat 2) default)) uu42 uu42 (ifb (bif (bif (F168 (F169 (((Ua lines Zc).getD (Int.toNat 0) default).getD (Int.toNat 1) default)).1 (F165 (((Ua lines Zc).getD (Int.toNat 0) default).getD (Int.toNat 2) default))) then true else decide ((F170 (((Ua lines Zc).getD (Int.toNat 0) default).getD (Int.toNat 3) default))>(F170 (((Ua lines Zc).getD (Int.toNat 0) default).getD (Int.toNat 4) default)))) then true else decide (((Ua lines Zb).length:Int)>6)) (fun h4=>fiB true (F125 lines) (condF h3 (condT h4 rfl))) (fun h4=>have _:¬ (F170 (((Ua lines Zc).getD (Int.toNat 0) default).getD (Int.toNat 3) default))>(F170 (((Ua lines Zc).getD (Int.toNat 0) default).getD (Int.toNat 4) default)):=Qp (orF2 (orF1 h4)); have _:¬ ((Ua lines Zb).length:Int)>6:=Qp (orF2 h4); kn (Ua lines Zb) fun _=>kn (Ua lines Zb) fun _=>ai (Ujj lines uu3) (fun (i0:Nat×Int) (hi0:Pl lines i0)=>(fun (m0:Nat) (v64:Int) (hh0:Qvf lines i0 m0 v64)=>have hI0:=hh0.1; have hl0:=hh0.2.1; have _:=hh0.2.2.1; have _:=hh0.2.2.2; ifd (v64<((Ua lines Zb).length:Int)) (fun h6 _=>ai (uu14:0<=v64/\v64<((Ua lines Zb).length:Int)) (ai (uu14:0<=(3:Int)/\(3:Int)<(((Ua lines Zb).getD (Int.toNat v64) default).length:Int)) (Qpz (((Ua lines Zb).getD (Int.toNat v64) default).getD (Int.toNat 3) default) uu24 (Ucn (F169 (((Ua lines Zc).getD (Int.toNat 0) default).getD (Int.toNat 1) default)).1 (F165 (((Ua lines Zb).getD (Int.toNat v64) default).getD (Int.toNat 3) default)) uu42 uu42 (ai (fun k7:(!(F168 (F169 (((Ua lines Zc).getD (Int.toNat 0) default).getD (Int.toNat 1) default)).1 (F165 (((Ua lines Zb).getD (Int.toNat v64) default).getD (Int.toNat 3) default))))=false=>(uu14:0<=(2:Int)/\(2:Int)<(((Ua lines Zb).getD (Int.toNat v64) default).length:Int))) (kg170 (!(F168 (F169 (((Ua lines Zc).getD (Int.toNat 0) default).getD (Int.toNat 1) default)).1 (F165 (((Ua lines Zb).getD (Int.toNat v64) default).getD (Int.toNat 3) default)))) false (((Ua lines Zb).getD (Int.toNat v64) default).getD (Int.toNat 2) default) (fun k8=>uu24) (Mm (!(F168 (F169 (((Ua lines Zc).getD (Int.toNat 0) default).getD (Int.toNat 1) default)).1 (F165 (((Ua lines Zb).getD (Int.toNat v64) default).getD (Int.toNat 3) default)))) false (F170 (((Ua lines Zb).getD (Int.toNat v64) default).getD (Int.toNat 2) default)) (F170 (((Ua lines Zc).getD (Int.toNat 0) default).getD (Int.toNat 3) default)) (F170 (((Ua lines Zc).getD (Int.toNat 0) default).getD (Int.toNat 4) default)) (ifb (bif (!(F168 (F169 (((Ua lines Zc).getD (Int.toNat 0) default).getD (Int.toNat 1) default)).1 (F165 (((Ua lines Zb).getD (Int.toNat v64) default).getD (Int.toNat 3) default)))) then true else (decide ((F170 (((Ua lines Zc).getD (Int.toNat 0) default).getD (Int.toNat 3) default))<=(F170 (((Ua lines Zb).getD (Int.toNat v64) default).getD (Int.toNat 2) default))/\(F170 (((Ua lines Zb).getD (Int.toNat v64) default).getD (Int.toNat 2) default))<=(F170 (((Ua lines Zc).getD (Int.toNat 0) default).getD (Int.toNat 4) default))))) (fun h10=>fiB true (F125 lines) (condF h3 (condF h4 (finR (Um hI0 (condT h6 (condT h10 rfl))) rfl)))) (fun h10=>have _:¬ ((F170 (((Ua lines Zc).getD (Int.toNat 0) default).getD (Int.toNat 3) default))<=(F170 (((Ua lines Zb).getD (Int.toNat v64) default).getD (Int.toNat 2) default))/\(F170 (((Ua lines Zb).getD (Int.toNat v64) default).getD (Int.toNat 2) default))<=(F170 (((Ua lines Zc).getD (Int.toNat 0) default).getD (Int.toNat 4) default))):=Qp (orF2 h10); ai (uu3:0<=(0:Int)/\(0:Int)<=v64/\v64<=((Ua lines Zb).length:Int)) (kn ((Ua lines Zb).getD (Int.toNat v64) default) fun _=>kn ((Ua lines Zb).take (Int.toNat v64)) fun _=>ai (Ulr lines v64 uu3) (fun (i1:Nat×Int) (hi1:Qas lines v64 i1)=>(fun (m1:Nat) (v89:Int) (hh1:Qwt lines v64 i1 m1 v89)=>have hI1:=hh1.1; have hl1:=hh1.2.1; have _:=hh1.2.2.1; have _:=hh1.2.2.2; ifd (v89<(((Ua lines Zb).take (Int.toNat v64)).length:Int)) (fun h12 _=>ai (uu14:0<=v89/\v89<(((Ua lines Zb).take (Int.toNat v64)).length:Int)) (ai (uu14:0<=(1:Int)/\(1:Int)<((((Ua lines Zb).take (Int.toNat v64)).getD (Int.toNat v89) default).length:Int)) (ai (uu14:0<=(1:Int)/\(1:Int)<(((Ua lines Zb).getD (Int.toNat v64) default).length:Int)) (ai (fun k13:(((((Ua lines Zb).take (Int.toNat v64)).getD (Int.toNat v89) default).getD (Int.toNat 1) default).toList==(((Ua lines Zb).getD (Int.toNat v64) default).getD (Int.toNat 1) default).toList)=true=>(uu14:0<=(3:Int)/\(3:Int)<((((Ua lines Zb).take (Int.toNat v64)).getD (Int.toNat v89) default).length:Int))) (ai (fun k14:(((((Ua lines Zb).take (Int.toNat v64)).getD (Int.toNat v89) default).getD (Int.toNat 1) default).toList==(((Ua lines Zb).getD (Int.toNat v64) default).getD (Int.toNat 1) default).toList)=true=>(uu14:0<=(3:Int)/\(3:Int)<(((Ua lines Zb).getD (Int.toNat v64) default).length:Int))) (ai (fun k15:(bif (((((Ua lines Zb).take (Int.toNat v64)).getD (Int.toNat v89) default).getD (Int.toNat 1) default).toList==(((Ua lines Zb).getD (Int.toNat v64) default).getD (Int.toNat 1) default).toList) then (((((Ua lines Zb).take (Int.toNat v64)).getD (Int.toNat v89) default).getD (Int.toNat 3) default).toList==(((Ua lines Zb).getD (Int.toNat v64) default).getD (Int.toNat 3) default).toList) else false)=true=>have _:(((((Ua lines Zb).take (Int.toNat v64)).getD (Int.toNat v89) default).getD (Int.toNat 1) default).toList==(((Ua lines Zb).getD (Int.toNat v64) default).getD (Int.toNat 1) default).toList)=true:=(Uc k15); have _:(((((Ua lines Zb).take (Int.toNat v64)).getD (Int.toNat v89) default).getD (Int.toNat 3) default).toList==(((Ua lines Zb).getD (Int.toNat v64) default).getD (Int.toNat 3) default).toList)=true:=(Ut k15); (uu14:0<=(4:Int)/\(4:Int)<((((Ua lines Zb).take (Int.toNat v64)).getD (Int.toNat v89) default).length:Int))) (ai (fun k16:(bif (((((Ua lines Zb).take (Int.toNat v64)).getD (Int.toNat v89) default).getD (Int.toNat 1) default).toList==(((Ua lines Zb).getD (Int.toNat v64) default).getD (Int.toNat 1) default).toList) then (((((Ua lines Zb).take (Int.toNat v64)).getD (Int.toNat v89) default).getD (Int.toNat 3) default).toList==(((Ua lines Zb).getD (Int.toNat v64) default).getD (Int.toNat 3) default).toList) else false)=true=>have _:(((((Ua lines Zb).take (Int.toNat v64)).getD (Int.toNat v89) default).getD (Int.toNat 1) default).toList==(((Ua lines Zb).getD (Int.toNat v64) default).getD (Int.toNat 1) default).toList)=true:=(Uc k16); have _:(((((Ua lines Zb).take (Int.toNat v64)).getD (Int.toNat v89) default).getD (Int.toNat 3) default).toList==(((Ua lines Zb).getD (Int.toNat v64) default).getD (Int.toNat 3) default).toList)=true:=(Ut k16); (uu14:0<=(4:Int)/\(4:Int)<(((Ua lines Zb).getD (Int.toNat v64) default).length:Int))) (ifb (bif (bif (((((Ua lines Zb).take (Int.toNat v64)).getD (Int.toNat v89) default).getD (Int.toNat 1) default).toList==(((Ua lines Zb).getD (Int.toNat v64) default).getD (Int.toNat 1) default).toList) then (((((Ua lines Zb).take (Int.toNat v64)).getD (Int.toNat v89) default).getD (Int.toNat 3) default).toList==(((Ua lines Zb).getD (Int.toNat v64) default).getD (Int.toNat 3) default).toList) else false) then (((((Ua lines Zb).take (Int.toNat v64)).getD (Int.toNat v89) default).getD (Int.toNat 4) default).toList==(((Ua lines Zb).getD (Int.toNat v64) default).getD (Int.toNat 4) default).toList) else false) (fun h17=>have _:(((((Ua lines Zb).take (Int.toNat v64)).getD (Int.toNat v89) default).getD (Int.toNat 1) default).toList==(((Ua lines Zb).getD (Int.toNat v64) default).getD (Int.toNat 1) default).toList)=true:=(Uc (Uc h17)); have _:(((((Ua lines Zb).take (Int.toNat v64)).getD (Int.toNat v89) default).getD (Int.toNat 3) default).toList==(((Ua lines Zb).getD (Int.toNat v64) default).getD (Int.toNat 3) default).toList)=true:=(Ut (Uc h17)); have _:(((((Ua lines Zb).take (Int.toNat v64)).getD (Int.toNat v89) default).getD (Int.toNat 4) default).toList==(((Ua lines Zb).getD (Int.toNat v64) default).getD (Int.toNat 4) default).toList)=true:=(Ut h17); fiB true (F125 lines) (condF h3 (condF h4 (finR (Um hI0 (condT h6 (condF h10 (finR (Um hI1 (condT h12 (condT h17 rfl))) rfl)))) rfl)))) (fun h17=>ai (iok (v89+1) uu3) (Umm lines v64 i1 m1 (v89+1) hl1 (Ud hI1 (condT h12 (condF h17 rfl))) uu17)))))))))) (fun h12 _=>have hD1_18:Qyg lines v64=Lp.done v89:=Uh hI1 (condF h12 rfl); ai (iok (v64+1) uu3) (Ujr lines i0 m0 (v64+1) hl0 (Ud hI0 (condT h6 (condF h10 (finD hD1_18 rfl)))) uu17))) (i1.1-1) i1.2 (Ulh lines v64 i1 hi1)))))))))))) (fun h6 _=>have hD0_19:Qxg lines=Lp.done v64:=Uh hI0 (condF h6 rfl); fiB false (F125 lines) (condF h3 (condF h4 (finD hD0_19 rfl))))) (i0.1-1) i0.2 (Ujp lines i0 hi0)))))))))))))))))))) uu1
theorem Ww (c:l52Cut) (k:Int) {K_:Prop} (p0_:0<=k) (k_:K_):(0<=k)/\(Imps (Uo c) (Uo c))/\(Imp (.v (vI k)) (.v (vI k)))/\K_:=⟨p0_,Imps.refl _,Imp.refl _,k_⟩
abbrev Ys (c:l52Cut) (k:Int):Hint true Tryz.prog:=.call 187 (S187 c k) (ok187 c k) none
theorem Js {K_:Prop} (c_ b_:Bool) (c:l52Cut) (k:Int) (p_:c_=b_->0<=k) (k_:K_):(c_=b_->0<=k)/\(c_=b_->Imps (Uo c) (Uo c))/\(c_=b_->Imp (.v (vI k)) (.v (vI k)))/\K_:=⟨p_,fun _=>Imps.refl _,fun _=>Imp.refl _,k_⟩
def Bd (all:List l52Cut):Int->Lp Int Bool:=fun i40 =>
 bif (decide (i40<(all.length:Int))) then (bif (bif ((F187 (all.getD (Int.toNat i40) default) 0).toList==Zj.toList) then ((F187 (all.getD (Int.toNat i40) default) 2).toList==Zm.toList) else false) then (.ret true) else (.next (i40+1))) else (.done i40)
def F153 (all:List l52Cut):Bool :=
 (runL (Bd all) ((Int.toNat ((all.length:Int)-0))+1) 0).fin (fun r=>r) (fun i40=>false)
abbrev Pb (all:List l52Cut):Nat×Int:=(((Int.toNat ((all.length:Int)-0))+1),0)
abbrev Qnt (all:List l52Cut) (m39:Nat) (i40:Int):Prop:=Int.toNat ((all.length:Int)-i40)<m39/\(0:Int)<=i40
abbrev Quj (all:List l52Cut):Lp Int Bool:=LpX (Bd all) (Pb all)
abbrev El (all:List l52Cut) (i:Nat×Int):Prop:=LpJ (Bd all) (Pb all) i (Qnt all i.1 i.2)
abbrev Qyd (all:List l52Cut) (i:Nat×Int) (m39:Nat) (i40:Int):Prop:=LpH (Bd all) (Pb all) i m39 i40 (Qnt all (m39+1) i40)
abbrev Qyk (all:List l52Cut) (i40:Int) (i40_:Int) (K39:Prop):Prop:=((.int .i64 i40:Value)=.int .i64 i40_)/\(Im (.l 1 Uo all))/\K39
theorem Uld (all:List l52Cut) (i:Nat×Int) (h:El all i):Qyd all i (i.1-1) i.2:=⟨hd1 h.1 h.2.1,hd3 h.2.1,hd2 h.2.1,h.2.2⟩
theorem Uka (all:List l52Cut) (i:Nat×Int) (m39:Nat) (i40:Int) (hl:m39<i.1) (e:runL (Bd all) m39 i40=Quj all) (h:Qnt all m39 i40):∃ j:Nat×Int,Qyk all i40 j.2 (El all j/\j.1<i.1):=⟨(m39,i40),rfl,Imp.refl _,⟨e,h⟩,hl⟩
theorem Umz (all:List l52Cut) (h:(0:Int)<=0):Qyk all 0 0 (El all (Pb all)):=⟨rfl,Imp.refl _,rfl,Qn _,h⟩
def S153 (all:List l52Cut):Spec:=⟨[.r (.c (.l 1 Uo all))],.v (.bool (F153 all)),True⟩
theorem ok153 (all:List l52Cut):(S153 all).ok Tryz.prog 153 :=
 Ue mixed (fn:=Tryz.f153) (ct:=.seqk [(0,0)] .no (.seq (.seqk [(0,0)] .no (.blk (.loop (ι:=Nat×Int) (fun i=>(fun (i40:Int)=>(⟨[(0,some (.h 0 0)),(3,some (.v (vI i40)))],[(0,some (.shr none (.l 1 Uo all)))],1⟩:St)) i.2) (El all) (fun i=>i.1) (Pb all) (fun i=>(fun (i40:Int)=>(.seq (.seq .no (.cond .no .no)) (.seq (.blk (.seq (.reg [(4,Ys (all.getD (Int.toNat i40) default) 0),(11,Ys (all.getD (Int.toNat i40) default) 2)]) (.cond (.seq .no .no) .no))) (.reg [(1,.bnd)])))) i.2)))) (.seq .no .no))) Tryz.func153 (fun (_:True)=>kn all fun _=>kn all fun _=>ai (Umz all uu0) (fun (i0:Nat×Int) (hi0:El all i0)=>(fun (m0:Nat) (i40:Int) (hh0:Qyd all i0 m0 i40)=>have hI0:=hh0.1; have hl0:=hh0.2.1; have _:=hh0.2.2.1; have _:=hh0.2.2.2; ifd (i40<(all.length:Int)) (fun h2 _=>ai (uu0:ib i40 all) (Ww (all.getD (Int.toNat i40) default) 0 uu0 (ai (fun k3:((F187 (all.getD (Int.toNat i40) default) 0).toList==Zj.toList)=true=>(uu0:ib i40 all)) (Js ((F187 (all.getD (Int.toNat i40) default) 0).toList==Zj.toList) true (all.getD (Int.toNat i40) default) 2 (fun k4=>uu0) (ifb (bif ((F187 (all.getD (Int.toNat i40) default) 0).toList==Zj.toList) then ((F187 (all.getD (Int.toNat i40) default) 2).toList==Zm.toList) else false) (fun h5=>have _:((F187 (all.getD (Int.toNat i40) default) 0).toList==Zj.toList)=true:=(Uc h5); have _:((F187 (all.getD (Int.toNat i40) default) 2).toList==Zm.toList)=true:=(Ut h5); fiB true (F153 all) (finR (Um hI0 (condT h2 (condT h5 rfl))) rfl)) (fun h5=>ai (iok (i40+1) uu0) (Uka all i0 m0 (i40+1) hl0 (Ud hI0 (condT h2 (condF h5 rfl))) uu5))))))) (fun h2 _=>have hD0_6:Quj all=Lp.done i40:=Uh hI0 (condF h2 rfl); fiB false (F153 all) (finD hD0_6 rfl))) (i0.1-1) i0.2 (Uld all i0 hi0))) uu1
def Xl (all:List l52Cut) (name:Za):(Int×Int)->Lp (Int×Int) Int:=fun (n,i40) =>
 bif (decide (i40<(all.length:Int))) then (bif (bif ((F187 (all.getD (Int.toNat i40) default) 0).toList==Zf.toList) then ((F187 (all.getD (Int.toNat i40) default) 1).toList==name.toList) else false) then (.next ((n+1),(i40+1))) else (.next (n,(i40+1)))) else (.done (n,i40))
def F188 (all:List l52Cut) (name:Za):Int :=
 (runL (Xl all name) ((Int.toNat ((all.length:Int)-0))+1) (0,0)).fin (fun r=>r) (fun (n,i40)=>n)
abbrev Py (all:List l52Cut):Nat×(Int×Int):=(((Int.toNat ((all.length:Int)-0))+1),(0,0))
abbrev Qnu (all:List l52Cut) (m39:Nat) (n:Int) (i40:Int):Prop:=Int.toNat ((all.length:Int)-i40)<m39/\(0:Int)<=n/\(n:Int)<=i40/\(0:Int)<=n/\(0:Int)<=i40
abbrev Que (all:List l52Cut) (name:Za):Lp (Int×Int) Int:=LpX (Xl all name) (Py all)
abbrev Qaw (all:List l52Cut) (name:Za) (i:Nat×(Int×Int)):Prop:=LpJ (Xl all name) (Py all) i (Qnu all i.1 i.2.1 i.2.2)
abbrev Qwh (all:List l52Cut) (name:Za) (i:Nat×(Int×Int)) (m39:Nat) (n:Int) (i40:Int):Prop:=LpH (Xl all name) (Py all) i m39 (n,i40) (Qnu all (m39+1) n i40)
abbrev Qum (all:List l52Cut) (name:Za) (n:Int) (i40:Int) (n_:Int) (i40_:Int) (K39:Prop):Prop:=(Rf (.string name))/\((.int .i64 n:Value)=.int .i64 n_)/\((.int .i64 i40:Value)=.int .i64 i40_)/\(Im (.l 1 Uo all))/\K39
theorem Umg (all:List l52Cut) (name:Za) (i:Nat×(Int×Int)) (h:Qaw all name i):Qwh all name i (i.1-1) i.2.1 i.2.2:=⟨hd1 h.1 h.2.1,hd3 h.2.1,hd2 h.2.1,h.2.2⟩
theorem Qwk (all:List l52Cut) (name:Za) (i:Nat×(Int×Int)) (m39:Nat) (n:Int) (i40:Int) (hl:m39<i.1) (e:runL (Xl all name) m39 (n,i40)=Que all name) (h:Qnu all m39 n i40):∃ j:Nat×(Int×Int),Qum all name n i40 j.2.1 j.2.2 (Qaw all name j/\j.1<i.1):=⟨(m39,(n,i40)),rfl,rfl,rfl,Imp.refl _,⟨e,h⟩,hl⟩
theorem Ule (all:List l52Cut) (name:Za) (h:(0:Int)<=0/\(0:Int)<=0/\(0:Int)<=0/\(0:Int)<=0):Qum all name 0 0 0 0 (Qaw all name (Py all)):=⟨rfl,rfl,rfl,Imp.refl _,rfl,Qn _,h⟩
def S188 (all:List l52Cut) (name:Za):Spec:=⟨[.r (.c (.l 1 Uo all)),.r (.c (.v (.string name)))],.v (vI (F188 all name)),True⟩
theorem ok188 (all:List l52Cut) (name:Za):(S188 all name).ok Tryz.prog 188 :=
 Ue mixed (fn:=Tryz.f188) (ct:=.seqk [(0,0)] .no (.seq .no (.seq (.seqk [(0,0)] .no (.blk (.loop (ι:=Nat×(Int×Int)) (fun i=>(fun (n:Int) (i40:Int)=>(⟨[(0,some (.h 0 0)),(1,some (.v (.string name))),(5,some (.v (vI n))),(6,some (.v (vI i40)))],[(0,some (.shr none (.l 1 Uo all)))],1⟩:St)) i.2.1 i.2.2) (Qaw all name) (fun i=>i.1) (Py all) (fun i=>(fun (n:Int) (i40:Int)=>(.seq (.seq .no (.cond .no .no)) (.seq (.blk (.seq (.reg [(4,Ys (all.getD (Int.toNat i40) default) 0),(11,Ys (all.getD (Int.toNat i40) default) 1)]) (.cond (.reg [(1,.bnd)]) .no))) (.reg [(1,.bnd)])))) i.2.1 i.2.2)))) (.seq .no .no)))) Tryz.func188 (fun (_:True)=>kn all fun _=>kn all fun _=>ai (Ule all name uu25) (fun (i0:Nat×(Int×Int)) (hi0:Qaw all name i0)=>(fun (m0:Nat) (n:Int) (i40:Int) (hh0:Qwh all name i0 m0 n i40)=>have hI0:=hh0.1; have hl0:=hh0.2.1; have _:=hh0.2.2.1; have _:=hh0.2.2.2; ifd (i40<(all.length:Int)) (fun h2 _=>ai (uu0:ib i40 all) (Ww (all.getD (Int.toNat i40) default) 0 uu0 (ai (fun k3:((F187 (all.getD (Int.toNat i40) default) 0).toList==Zf.toList)=true=>(uu0:ib i40 all)) (Js ((F187 (all.getD (Int.toNat i40) default) 0).toList==Zf.toList) true (all.getD (Int.toNat i40) default) 1 (fun k4=>uu0) (ifb (bif ((F187 (all.getD (Int.toNat i40) default) 0).toList==Zf.toList) then ((F187 (all.getD (Int.toNat i40) default) 1).toList==name.toList) else false) (fun h5=>have _:((F187 (all.getD (Int.toNat i40) default) 0).toList==Zf.toList)=true:=(Uc h5); have _:=(Ut h5); ai (iok (n+1) uu0) (ai (iok (i40+1) uu0) (Qwk all name i0 m0 (n+1) (i40+1) hl0 (Ud hI0 (condT h2 (condT h5 rfl))) uu30))) (fun h5=>ai (iok (i40+1) uu0) (Qwk all name i0 m0 n (i40+1) hl0 (Ud hI0 (condT h2 (condF h5 rfl))) uu30))))))) (fun h2 _=>have hD0_6:Que all name=Lp.done (n,i40):=Uh hI0 (condF h2 rfl); fiI n (F188 all name) (finD hD0_6 rfl))) (i0.1-1) i0.2.1 i0.2.2 (Umg all name i0 hi0))) uu1
theorem kg188 {K_:Prop} (c_ b_:Bool) (all:List l52Cut) (name:Za) (k_:K_):(c_=b_->True)/\(c_=b_->Imp (.l 1 Uo all) (.l 1 Uo all))/\(c_=b_->Imp (.v (.string name)) (.v (.string name)))/\K_:=⟨fun _=>trivial,fun _=>Imp.refl _,fun _=>Imp.refl _,k_⟩
abbrev kh188 (all:List l52Cut) (name:Za):Hint true Tryz.prog:=.call 188 (S188 all name) (ok188 all name) none
def Xo (all:List l52Cut):Int->Lp Int Bool:=fun i40 =>
 bif (decide (i40<(all.length:Int))) then (bif (bif (bif ((F187 (all.getD (Int.toNat i40) default) 0).toList==Zd.toList) then (!((F187 (all.getD (Int.toNat i40) default) 4).toList==Zi.toList)) else false) then ((F188 all (F187 (all.getD (Int.toNat i40) default) 4))==0) else false) then (.ret false) else (bif (bif ((F187 (all.getD (Int.toNat i40) default) 0).toList==Zf.toList) then decide ((F188 all (F187 (all.getD (Int.toNat i40) default) 1))>12) else false) then (.ret false) else (.next (i40+1)))) else (.done i40)
def F154 (all:List l52Cut):Bool :=
 (runL (Xo all) ((Int.toNat ((all.length:Int)-0))+1) 0).fin (fun r=>r) (fun i40=>true)
abbrev Pe (all:List l52Cut):Nat×Int:=(((Int.toNat ((all.length:Int)-0))+1),0)
abbrev Qnf (all:List l52Cut) (m39:Nat) (i40:Int):Prop:=Int.toNat ((all.length:Int)-i40)<m39/\(0:Int)<=i40
abbrev Qzc (all:List l52Cut):Lp Int Bool:=LpX (Xo all) (Pe all)
abbrev Pz (all:List l52Cut) (i:Nat×Int):Prop:=LpJ (Xo all) (Pe all) i (Qnf all i.1 i.2)
abbrev Qzk (all:List l52Cut) (i:Nat×Int) (m39:Nat) (i40:Int):Prop:=LpH (Xo all) (Pe all) i m39 i40 (Qnf all (m39+1) i40)
abbrev Qvm (all:List l52Cut) (i40:Int) (i40_:Int) (K39:Prop):Prop:=((.int .i64 i40:Value)=.int .i64 i40_)/\(Im (.l 1 Uo all))/\K39
theorem Uls (all:List l52Cut) (i:Nat×Int) (h:Pz all i):Qzk all i (i.1-1) i.2:=⟨hd1 h.1 h.2.1,hd3 h.2.1,hd2 h.2.1,h.2.2⟩
theorem Ujm (all:List l52Cut) (i:Nat×Int) (m39:Nat) (i40:Int) (hl:m39<i.1) (e:runL (Xo all) m39 i40=Qzc all) (h:Qnf all m39 i40):∃ j:Nat×Int,Qvm all i40 j.2 (Pz all j/\j.1<i.1):=⟨(m39,i40),rfl,Imp.refl _,⟨e,h⟩,hl⟩
theorem Uji (all:List l52Cut) (h:(0:Int)<=0):Qvm all 0 0 (Pz all (Pe all)):=⟨rfl,Imp.refl _,rfl,Qn _,h⟩
def S154 (all:List l52Cut):Spec:=⟨[.r (.c (.l 1 Uo all))],.v (.bool (F154 all)),True⟩
abbrev Ye (all:List l52Cut) (i40:Int):=(all.getD (Int.toNat i40) default)
theorem ok154 (all:List l52Cut):(S154 all).ok Tryz.prog 154 :=
 Ue mixed (fn:=Tryz.f154) (ct:=.seqk [(0,0)] .no (.seq (.seqk [(0,0)] .no (.blk (.loop (ι:=Nat×Int) (fun i=>(fun (i40:Int)=>(⟨[(0,some (.h 0 0)),(3,some (.v (vI i40)))],[(0,some (.shr none (.l 1 Uo all)))],1⟩:St)) i.2) (Pz all) (fun i=>i.1) (Pe all) (fun i=>(fun (i40:Int)=>(.seq (.seq .no (.cond .no .no)) (.seq (.blk (.seq (.seq (.reg [(4,Ys (Ye all i40) 0),(11,Ys (Ye all i40) 4),(20,Ys (Ye all i40) 4),(21,kh188 all (F187 (Ye all i40) 4))]) (.cond (.seq .no .no) .no)) (.seq (.reg [(4,Ys (Ye all i40) 0),(12,Ys (Ye all i40) 1),(13,kh188 all (F187 (Ye all i40) 1))]) (.cond (.seq .no .no) .no)))) (.reg [(1,.bnd)])))) i.2)))) (.seq .no .no))) Tryz.func154 (fun (_:True)=>kn all fun _=>kn all fun _=>ai (Uji all uu0) (fun (i0:Nat×Int) (hi0:Pz all i0)=>(fun (m0:Nat) (i40:Int) (hh0:Qzk all i0 m0 i40)=>have hI0:=hh0.1; have hl0:=hh0.2.1; have _:=hh0.2.2.1; have _:=hh0.2.2.2; ifd (i40<(all.length:Int)) (fun h2 _=>ai (uu0:ib i40 all) (Ww (Ye all i40) 0 uu0 (ai (fun k3:((F187 (Ye all i40) 0).toList==Zd.toList)=true=>(uu0:ib i40 all)) (Js ((F187 (Ye all i40) 0).toList==Zd.toList) true (Ye all i40) 4 (fun k4=>uu0) (ai (fun k5:(bif ((F187 (Ye all i40) 0).toList==Zd.toList) then (!((F187 (Ye all i40) 4).toList==Zi.toList)) else false)=true=>have _:((F187 (Ye all i40) 0).toList==Zd.toList)=true:=(Uc k5); have _:(!((F187 (Ye all i40) 4).toList==Zi.toList))=true:=(Ut k5); (uu0:ib i40 all)) (Js (bif ((F187 (Ye all i40) 0).toList==Zd.toList) then (!((F187 (Ye all i40) 4).toList==Zi.toList)) else false) true (Ye all i40) 4 (fun k6=>have _:((F187 (Ye all i40) 0).toList==Zd.toList)=true:=(Uc k6); have _:(!((F187 (Ye all i40) 4).toList==Zi.toList))=true:=(Ut k6); uu0) (kg188 (bif ((F187 (Ye all i40) 0).toList==Zd.toList) then (!((F187 (Ye all i40) 4).toList==Zi.toList)) else false) true all (F187 (Ye all i40) 4) (ifb (bif (bif ((F187 (Ye all i40) 0).toList==Zd.toList) then (!((F187 (Ye all i40) 4).toList==Zi.toList)) else false) then ((F188 all (F187 (Ye all i40) 4))==0) else false) (fun h8=>have _:((F187 (Ye all i40) 0).toList==Zd.toList)=true:=(Uc (Uc h8)); have _:(!((F187 (Ye all i40) 4).toList==Zi.toList))=true:=(Ut (Uc h8)); have _:=eq_of_beq (Ut h8); fiB false (F154 all) (finR (Um hI0 (condT h2 (condT h8 rfl))) rfl)) (fun h8=>ai (uu0:ib i40 all) (Ww (Ye all i40) 0 uu0 (ai (fun k9:((F187 (Ye all i40) 0).toList==Zf.toList)=true=>(uu0:ib i40 all)) (Js ((F187 (Ye all i40) 0).toList==Zf.toList) true (Ye all i40) 1 (fun k10=>uu0) (kg188 ((F187 (Ye all i40) 0).toList==Zf.toList) true all (F187 (Ye all i40) 1) (ifb (bif ((F187 (Ye all i40) 0).toList==Zf.toList) then decide ((F188 all (F187 (Ye all i40) 1))>12) else false) (fun h12=>have _:((F187 (Ye all i40) 0).toList==Zf.toList)=true:=(Uc h12); have _:=Qb (Ut h12); fiB false (F154 all) (finR (Um hI0 (condT h2 (condF h8 (condT h12 rfl)))) rfl)) (fun h12=>ai (iok (i40+1) uu0) (Ujm all i0 m0 (i40+1) hl0 (Ud hI0 (condT h2 (condF h8 (condF h12 rfl)))) uu5)))))))))))))))) (fun h2 _=>have hD0_13:Qzc all=Lp.done i40:=Uh hI0 (condF h2 rfl); fiB true (F154 all) (finD hD0_13 rfl))) (i0.1-1) i0.2 (Uls all i0 hi0))) uu1
def Xx (all:List l52Cut) (i40:Int):Int->Lp Int Bool:=fun k =>
 bif (decide (k<i40)) then (bif (bif (!((F187 (all.getD (Int.toNat i40) default) 0).toList==Zd.toList)) then true else (!((F187 (all.getD (Int.toNat k) default) 0).toList==Zd.toList))) then (.next (k+1)) else (bif (bif decide ((F189 (F187 (all.getD (Int.toNat i40) default) 2)).1<(IntKind.i64.wrap ((F189 (F187 (all.getD (Int.toNat k) default) 2)).1+(F189 (F187 (all.getD (Int.toNat k) default) 2)).2))) then decide ((F189 (F187 (all.getD (Int.toNat k) default) 2)).1<(IntKind.i64.wrap ((F189 (F187 (all.getD (Int.toNat i40) default) 2)).1+(F189 (F187 (all.getD (Int.toNat i40) default) 2)).2))) else false) then (.ret false) else (.next (k+1)))) else (.done k)
def Xh (all:List l52Cut):Int->Lp Int Bool:=fun i40 =>
 bif (decide (i40<(all.length:Int))) then ((runL (Xx all i40) ((Int.toNat (i40-0))+1) 0).fin Lp.ret (fun k=>.next (i40+1))) else (.done i40)
def F155 (all:List l52Cut):Bool :=
 (runL (Xh all) ((Int.toNat ((all.length:Int)-0))+1) 0).fin (fun r=>r) (fun i40=>true)
abbrev Qam (i40:Int):Nat×Int:=(((Int.toNat (i40-0))+1),0)
abbrev Qmr (i40:Int) (m39:Nat) (k:Int):Prop:=Int.toNat (i40-k)<m39/\(0:Int)<=k
abbrev Quo (all:List l52Cut) (i40:Int):Lp Int Bool:=LpX (Xx all i40) (Qam i40)
abbrev Pd (all:List l52Cut) (i40:Int) (i:Nat×Int):Prop:=LpJ (Xx all i40) (Qam i40) i (Qmr i40 i.1 i.2)
abbrev Qwb (all:List l52Cut) (i40:Int) (i:Nat×Int) (m39:Nat) (k:Int):Prop:=LpH (Xx all i40) (Qam i40) i m39 k (Qmr i40 (m39+1) k)
abbrev Qvt (all:List l52Cut) (i40:Int) (k:Int) (k_:Int) (K39:Prop):Prop:=(Rf (.int .i64 i40))/\((.int .i64 k:Value)=.int .i64 k_)/\(Im (.l 1 Uo all))/\K39
theorem Ulo (all:List l52Cut) (i40:Int) (i:Nat×Int) (h:Pd all i40 i):Qwb all i40 i (i.1-1) i.2:=⟨hd1 h.1 h.2.1,hd3 h.2.1,hd2 h.2.1,h.2.2⟩
theorem Qxj (all:List l52Cut) (i40:Int) (i:Nat×Int) (m39:Nat) (k:Int) (hl:m39<i.1) (e:runL (Xx all i40) m39 k=Quo all i40) (h:Qmr i40 m39 k):∃ j:Nat×Int,Qvt all i40 k j.2 (Pd all i40 j/\j.1<i.1):=⟨(m39,k),rfl,rfl,Imp.refl _,⟨e,h⟩,hl⟩
theorem Unm (all:List l52Cut) (i40:Int) (h:(0:Int)<=0):Qvt all i40 0 0 (Pd all i40 (Qam i40)):=⟨rfl,rfl,Imp.refl _,rfl,Qn _,h⟩
abbrev Qau (all:List l52Cut):Nat×Int:=(((Int.toNat ((all.length:Int)-0))+1),0)
abbrev Qmz (all:List l52Cut) (m39:Nat) (i40:Int):Prop:=Int.toNat ((all.length:Int)-i40)<m39/\(0:Int)<=i40
abbrev Qze (all:List l52Cut):Lp Int Bool:=LpX (Xh all) (Qau all)
abbrev Qak (all:List l52Cut) (i:Nat×Int):Prop:=LpJ (Xh all) (Qau all) i (Qmz all i.1 i.2)
abbrev Quv (all:List l52Cut) (i:Nat×Int) (m39:Nat) (i40:Int):Prop:=LpH (Xh all) (Qau all) i m39 i40 (Qmz all (m39+1) i40)
abbrev Qus (all:List l52Cut) (i40:Int) (i40_:Int) (K39:Prop):Prop:=((.int .i64 i40:Value)=.int .i64 i40_)/\(Im (.l 1 Uo all))/\K39
theorem Ulv (all:List l52Cut) (i:Nat×Int) (h:Qak all i):Quv all i (i.1-1) i.2:=⟨hd1 h.1 h.2.1,hd3 h.2.1,hd2 h.2.1,h.2.2⟩
theorem Ula (all:List l52Cut) (i:Nat×Int) (m39:Nat) (i40:Int) (hl:m39<i.1) (e:runL (Xh all) m39 i40=Qze all) (h:Qmz all m39 i40):∃ j:Nat×Int,Qus all i40 j.2 (Qak all j/\j.1<i.1):=⟨(m39,i40),rfl,Imp.refl _,⟨e,h⟩,hl⟩
theorem Unl (all:List l52Cut) (h:(0:Int)<=0):Qus all 0 0 (Qak all (Qau all)):=⟨rfl,Imp.refl _,rfl,Qn _,h⟩
def S155 (all:List l52Cut):Spec:=⟨[.r (.c (.l 1 Uo all))],.v (.bool (F155 all)),(∀ k j:Nat,((all.getD k default).w.getD j default).size<=1048576)⟩
abbrev Jk (all:List l52Cut) (i40:Int):=(all.getD (Int.toNat i40) default)
abbrev Xa (all:List l52Cut) (k:Int):=(all.getD (Int.toNat k) default)
theorem ok155 (all:List l52Cut):(S155 all).ok Tryz.prog 155 :=
 Ue mixed (fn:=Tryz.f155) (ct:=.seqk [(0,0)] .no (.seq (.seqk [(0,0)] .no (.blk (.loop (ι:=Nat×Int) (fun i=>(fun (i40:Int)=>(⟨[(0,some (.h 0 0)),(3,some (.v (vI i40)))],[(0,some (.shr none (.l 1 Uo all)))],1⟩:St)) i.2) (Qak all) (fun i=>i.1) (Qau all) (fun i=>(fun (i40:Int)=>(.seq (.seq .no (.cond .no .no)) (.seq (.blk (.seqk [(0,0)] .no (.blk (.loop (ι:=Nat×Int) (fun i=>(fun (k:Int)=>(⟨[(0,some (.h 0 0)),(3,some (.v (vI i40))),(4,some (.v (vI k)))],[(0,some (.shr none (.l 1 Uo all)))],1⟩:St)) i.2) (Pd all i40) (fun i=>i.1) (Qam i40) (fun i=>(fun (k:Int)=>(.seq (.seq .no (.cond .no .no)) (.seq (.blk (.seq (.seq (.reg [(4,Ys (Jk all i40) 0),(11,Ys (Xa all k) 0)]) (.cond .no .no)) (.seq (.reg [(4,Ys (Jk all i40) 2),(5,Qiq (F187 (Jk all i40) 2))]) (.seq (.reg [(4,Ys (Xa all k) 2),(5,Qiq (F187 (Xa all k) 2))]) (.seq .no (.cond (.seq .no .no) .no)))))) (.reg [(1,.bnd)])))) i.2))))) (.reg [(1,.bnd)])))) i.2)))) (.seq .no .no))) Tryz.func155 (fun (hpre0:∀ k j:Nat,((all.getD k default).w.getD j default).size<=1048576)=>kn all fun _=>kn all fun _=>ai (Unl all uu0) (fun (i0:Nat×Int) (hi0:Qak all i0)=>(fun (m0:Nat) (i40:Int) (hh0:Quv all i0 m0 i40)=>have hI0:=hh0.1; have hl0:=hh0.2.1; have _:=hh0.2.2.1; have _:=hh0.2.2.2; ifd (i40<(all.length:Int)) (fun h2 _=>kn all fun _=>ai (Unm all i40 uu0) (fun (i1:Nat×Int) (hi1:Pd all i40 i1)=>(fun (m1:Nat) (k:Int) (hh1:Qwb all i40 i1 m1 k)=>have hI1:=hh1.1; have hl1:=hh1.2.1; have _:=hh1.2.2.1; have _:=hh1.2.2.2; ifd (k<i40) (fun h4 _=>ai (uu0:ib i40 all) (Ww (Jk all i40) 0 uu0 (ai (fun k5:(!((F187 (Jk all i40) 0).toList==Zd.toList))=false=>(uu0:ib k all)) (Js (!((F187 (Jk all i40) 0).toList==Zd.toList)) false (Xa all k) 0 (fun k6=>uu0) (ifb (bif (!((F187 (Jk all i40) 0).toList==Zd.toList)) then true else (!((F187 (Xa all k) 0).toList==Zd.toList))) (fun h7=>ai (iok (k+1) uu0) (Qxj all i40 i1 m1 (k+1) hl1 (Ud hI1 (condT h4 (condT h7 rfl))) uu5)) (fun h7=>have _:(!((F187 (Jk all i40) 0).toList==Zd.toList))=false:=(orF1 h7); have _:(!((F187 (Xa all k) 0).toList==Zd.toList))=false:=(orF2 h7); ai (uu0:ib i40 all) (Ww (Jk all i40) 2 uu0 (Qjk (F187 (Jk all i40) 2) uu19 (ai (uu0:ib k all) (Ww (Xa all k) 2 uu0 (Qjk (F187 (Xa all k) 2) uu19 (ifb (bif decide ((F189 (F187 (Jk all i40) 2)).1<(IntKind.i64.wrap ((F189 (F187 (Xa all k) 2)).1+(F189 (F187 (Xa all k) 2)).2))) then decide ((F189 (F187 (Xa all k) 2)).1<(IntKind.i64.wrap ((F189 (F187 (Jk all i40) 2)).1+(F189 (F187 (Jk all i40) 2)).2))) else false) (fun h8=>have _:=Qb (Uc h8); have _:=Qb (Ut h8); fiB false (F155 all) (finR (Um hI0 (condT h2 (finR (Um hI1 (condT h4 (condF h7 (condT h8 rfl)))) rfl))) rfl)) (fun h8=>ai (iok (k+1) uu0) (Qxj all i40 i1 m1 (k+1) hl1 (Ud hI1 (condT h4 (condF h7 (condF h8 rfl)))) uu5)))))))))))))) (fun h4 _=>have hD1_9:Quo all i40=Lp.done k:=Uh hI1 (condF h4 rfl); ai (iok (i40+1) uu0) (Ula all i0 m0 (i40+1) hl0 (Ud hI0 (condT h2 (finD hD1_9 rfl))) uu5))) (i1.1-1) i1.2 (Ulo all i40 i1 hi1))) (fun h2 _=>have hD0_10:Qze all=Lp.done i40:=Uh hI0 (condF h2 rfl); fiB true (F155 all) (finD hD0_10 rfl))) (i0.1-1) i0.2 (Ulv all i0 hi0))) uu1
def Xu (all:List l52Cut) (addr:Int):Int->Lp Int Bool:=fun i40 =>
 bif (decide (i40<(all.length:Int))) then (bif ((F187 (all.getD (Int.toNat i40) default) 0).toList==Zd.toList) then (bif (bif decide (addr>(F189 (F187 (all.getD (Int.toNat i40) default) 2)).1) then decide (addr<(IntKind.i64.wrap ((F189 (F187 (all.getD (Int.toNat i40) default) 2)).1+(F189 (F187 (all.getD (Int.toNat i40) default) 2)).2))) else false) then (.ret true) else (.next (i40+1))) else (.next (i40+1))) else (.done i40)
def F190 (all:List l52Cut) (addr:Int):Bool :=
 (runL (Xu all addr) ((Int.toNat ((all.length:Int)-0))+1) 0).fin (fun r=>r) (fun i40=>false)
abbrev Pj (all:List l52Cut):Nat×Int:=(((Int.toNat ((all.length:Int)-0))+1),0)
abbrev Qmo (all:List l52Cut) (m39:Nat) (i40:Int):Prop:=Int.toNat ((all.length:Int)-i40)<m39/\(0:Int)<=i40
abbrev Qyb (all:List l52Cut) (addr:Int):Lp Int Bool:=LpX (Xu all addr) (Pj all)
abbrev Qbc (all:List l52Cut) (addr:Int) (i:Nat×Int):Prop:=LpJ (Xu all addr) (Pj all) i (Qmo all i.1 i.2)
abbrev Qtx (all:List l52Cut) (addr:Int) (i:Nat×Int) (m39:Nat) (i40:Int):Prop:=LpH (Xu all addr) (Pj all) i m39 i40 (Qmo all (m39+1) i40)
abbrev Qut (all:List l52Cut) (addr:Int) (i40:Int) (i40_:Int) (K39:Prop):Prop:=(Rf (.int .i64 addr))/\((.int .i64 i40:Value)=.int .i64 i40_)/\(Im (.l 1 Uo all))/\K39
theorem Ujh (all:List l52Cut) (addr:Int) (i:Nat×Int) (h:Qbc all addr i):Qtx all addr i (i.1-1) i.2:=⟨hd1 h.1 h.2.1,hd3 h.2.1,hd2 h.2.1,h.2.2⟩
theorem Qvd (all:List l52Cut) (addr:Int) (i:Nat×Int) (m39:Nat) (i40:Int) (hl:m39<i.1) (e:runL (Xu all addr) m39 i40=Qyb all addr) (h:Qmo all m39 i40):∃ j:Nat×Int,Qut all addr i40 j.2 (Qbc all addr j/\j.1<i.1):=⟨(m39,i40),rfl,rfl,Imp.refl _,⟨e,h⟩,hl⟩
theorem Ukh (all:List l52Cut) (addr:Int) (h:(0:Int)<=0):Qut all addr 0 0 (Qbc all addr (Pj all)):=⟨rfl,rfl,Imp.refl _,rfl,Qn _,h⟩
def S190 (all:List l52Cut) (addr:Int):Spec:=⟨[.r (.c (.l 1 Uo all)),.r (.c (.v (vI addr)))],.v (.bool (F190 all addr)),(∀ k j:Nat,((all.getD k default).w.getD j default).size<=1048576)⟩
theorem ok190 (all:List l52Cut) (addr:Int):(S190 all addr).ok Tryz.prog 190 :=
 Ue mixed (fn:=Tryz.f190) (ct:=.seqk [(0,0)] .no (.seq (.seqk [(0,0)] .no (.blk (.loop (ι:=Nat×Int) (fun i=>(fun (i40:Int)=>(⟨[(0,some (.h 0 0)),(1,some (.v (vI addr))),(5,some (.v (vI i40)))],[(0,some (.shr none (.l 1 Uo all)))],1⟩:St)) i.2) (Qbc all addr) (fun i=>i.1) (Pj all) (fun i=>(fun (i40:Int)=>(.seq (.seq .no (.cond .no .no)) (.seq (.blk (.seq (.reg [(4,Ys (all.getD (Int.toNat i40) default) 0)]) (.cond (.seq (.reg [(4,Ys (all.getD (Int.toNat i40) default) 2),(5,Qiq (F187 (all.getD (Int.toNat i40) default) 2))]) (.seq .no (.cond (.seq .no .no) .no))) .no))) (.reg [(1,.bnd)])))) i.2)))) (.seq .no .no))) Tryz.func190 (fun (hpre0:∀ k j:Nat,((all.getD k default).w.getD j default).size<=1048576)=>kn all fun _=>kn all fun _=>ai (Ukh all addr uu0) (fun (i0:Nat×Int) (hi0:Qbc all addr i0)=>(fun (m0:Nat) (i40:Int) (hh0:Qtx all addr i0 m0 i40)=>have hI0:=hh0.1; have hl0:=hh0.2.1; have _:=hh0.2.2.1; have _:=hh0.2.2.2; ifd (i40<(all.length:Int)) (fun h2 _=>ai (uu0:ib i40 all) (Ww (all.getD (Int.toNat i40) default) 0 uu0 (ifb ((F187 (all.getD (Int.toNat i40) default) 0).toList==Zd.toList) (fun h3=>ai (uu0:ib i40 all) (Ww (all.getD (Int.toNat i40) default) 2 uu0 (Qjk (F187 (all.getD (Int.toNat i40) default) 2) uu19 (ifb (bif decide (addr>(F189 (F187 (all.getD (Int.toNat i40) default) 2)).1) then decide (addr<(IntKind.i64.wrap ((F189 (F187 (all.getD (Int.toNat i40) default) 2)).1+(F189 (F187 (all.getD (Int.toNat i40) default) 2)).2))) else false) (fun h4=>have _:=Qb (Uc h4); have _:=Qb (Ut h4); fiB true (F190 all addr) (finR (Um hI0 (condT h2 (condT h3 (condT h4 rfl)))) rfl)) (fun h4=>ai (iok (i40+1) uu0) (Qvd all addr i0 m0 (i40+1) hl0 (Ud hI0 (condT h2 (condT h3 (condF h4 rfl)))) uu5)))))) (fun h3=>ai (iok (i40+1) uu0) (Qvd all addr i0 m0 (i40+1) hl0 (Ud hI0 (condT h2 (condF h3 rfl))) uu5))))) (fun h2 _=>have hD0_5:Qyb all addr=Lp.done i40:=Uh hI0 (condF h2 rfl); fiB false (F190 all addr) (finD hD0_5 rfl))) (i0.1-1) i0.2 (Ujh all addr i0 hi0))) uu1
theorem kc190 (all:List l52Cut) (addr:Int) {K_:Prop} (p0_:∀ k j:Nat,((all.getD k default).w.getD j default).size<=1048576) (k_:K_):(∀ k j:Nat,((all.getD k default).w.getD j default).size<=1048576)/\(Imp (.l 1 Uo all) (.l 1 Uo all))/\(Imp (.v (vI addr)) (.v (vI addr)))/\K_:=⟨p0_,Imp.refl _,Imp.refl _,k_⟩
abbrev kh190 (all:List l52Cut) (addr:Int):Hint true Tryz.prog:=.call 190 (S190 all addr) (ok190 all addr) none
def Xg (all:List l52Cut):Int->Lp Int Bool:=fun i40 =>
 bif (decide (i40<(all.length:Int))) then (bif ((F187 (all.getD (Int.toNat i40) default) 0).toList==Zh.toList) then (bif (!(F190 all (F191 (F187 (all.getD (Int.toNat i40) default) 2)))) then (.ret false) else (.next (i40+1))) else (bif ((F187 (all.getD (Int.toNat i40) default) 0).toList==Zg.toList) then (bif (!(F190 all (F191 (F187 (all.getD (Int.toNat i40) default) 1)))) then (.ret false) else (.next (i40+1))) else (.next (i40+1)))) else (.done i40)
def F156 (all:List l52Cut):Bool :=
 (runL (Xg all) ((Int.toNat ((all.length:Int)-0))+1) 0).fin (fun r=>r) (fun i40=>true)
abbrev Qax (all:List l52Cut):Nat×Int:=(((Int.toNat ((all.length:Int)-0))+1),0)
abbrev Qlv (all:List l52Cut) (m39:Nat) (i40:Int):Prop:=Int.toNat ((all.length:Int)-i40)<m39/\(0:Int)<=i40
abbrev Qyz (all:List l52Cut):Lp Int Bool:=LpX (Xg all) (Qax all)
abbrev Pk (all:List l52Cut) (i:Nat×Int):Prop:=LpJ (Xg all) (Qax all) i (Qlv all i.1 i.2)
abbrev Qyn (all:List l52Cut) (i:Nat×Int) (m39:Nat) (i40:Int):Prop:=LpH (Xg all) (Qax all) i m39 i40 (Qlv all (m39+1) i40)
abbrev Qxv (all:List l52Cut) (i40:Int) (i40_:Int) (K39:Prop):Prop:=((.int .i64 i40:Value)=.int .i64 i40_)/\(Im (.l 1 Uo all))/\K39
theorem Umj (all:List l52Cut) (i:Nat×Int) (h:Pk all i):Qyn all i (i.1-1) i.2:=⟨hd1 h.1 h.2.1,hd3 h.2.1,hd2 h.2.1,h.2.2⟩
theorem Qkz (all:List l52Cut) (i:Nat×Int) (m39:Nat) (i40:Int) (hl:m39<i.1) (e:runL (Xg all) m39 i40=Qyz all) (h:Qlv all m39 i40):∃ j:Nat×Int,Qxv all i40 j.2 (Pk all j/\j.1<i.1):=⟨(m39,i40),rfl,Imp.refl _,⟨e,h⟩,hl⟩
theorem Umd (all:List l52Cut) (h:(0:Int)<=0):Qxv all 0 0 (Pk all (Qax all)):=⟨rfl,Imp.refl _,rfl,Qn _,h⟩
def S156 (all:List l52Cut):Spec:=⟨[.r (.c (.l 1 Uo all))],.v (.bool (F156 all)),(∀ k j:Nat,((all.getD k default).w.getD j default).size<=1048576)⟩
abbrev Ky (all:List l52Cut) (i40:Int):=(all.getD (Int.toNat i40) default)
theorem ok156 (all:List l52Cut):(S156 all).ok Tryz.prog 156 :=
 Ue mixed (fn:=Tryz.f156) (ct:=.seqk [(0,0)] .no (.seq (.seqk [(0,0)] .no (.blk (.loop (ι:=Nat×Int) (fun i=>(fun (i40:Int)=>(⟨[(0,some (.h 0 0)),(3,some (.v (vI i40)))],[(0,some (.shr none (.l 1 Uo all)))],1⟩:St)) i.2) (Pk all) (fun i=>i.1) (Qax all) (fun i=>(fun (i40:Int)=>(.seq (.seq .no (.cond .no .no)) (.seq (.blk (.seq (.reg [(4,Ys (Ky all i40) 0)]) (.blk (.seq .no (.cond (.seq (.reg [(5,Ys (Ky all i40) 2),(6,Mo (F187 (Ky all i40) 2)),(7,kh190 all (F191 (F187 (Ky all i40) 2)))]) (.cond (.seq .no .no) .no)) (.seq .no (.cond (.seq (.reg [(5,Ys (Ky all i40) 1),(6,Mo (F187 (Ky all i40) 1)),(7,kh190 all (F191 (F187 (Ky all i40) 1)))]) (.cond (.seq .no .no) .no)) .no))))))) (.reg [(1,.bnd)])))) i.2)))) (.seq .no .no))) Tryz.func156 (fun (hpre0:∀ k j:Nat,((all.getD k default).w.getD j default).size<=1048576)=>kn all fun _=>kn all fun _=>ai (Umd all uu0) (fun (i0:Nat×Int) (hi0:Pk all i0)=>(fun (m0:Nat) (i40:Int) (hh0:Qyn all i0 m0 i40)=>have hI0:=hh0.1; have hl0:=hh0.2.1; have _:=hh0.2.2.1; have _:=hh0.2.2.2; ifd (i40<(all.length:Int)) (fun h2 _=>ai (uu0:ib i40 all) (Ww (Ky all i40) 0 uu0 (ifb ((F187 (Ky all i40) 0).toList==Zh.toList) (fun h3=>ai (uu0:ib i40 all) (Ww (Ky all i40) 2 uu0 (Qqg (F187 (Ky all i40) 2) uu19 (kc190 all (F191 (F187 (Ky all i40) 2)) uu6 (ifb (!(F190 all (F191 (F187 (Ky all i40) 2)))) (fun h4=>fiB false (F156 all) (finR (Um hI0 (condT h2 (condT h3 (condT h4 rfl)))) rfl)) (fun h4=>ai (iok (i40+1) uu0) (Qkz all i0 m0 (i40+1) hl0 (Ud hI0 (condT h2 (condT h3 (condF h4 rfl)))) uu5))))))) (fun h3=>ifb ((F187 (Ky all i40) 0).toList==Zg.toList) (fun h5=>ai (uu0:ib i40 all) (Ww (Ky all i40) 1 uu0 (Qqg (F187 (Ky all i40) 1) uu19 (kc190 all (F191 (F187 (Ky all i40) 1)) uu6 (ifb (!(F190 all (F191 (F187 (Ky all i40) 1)))) (fun h6=>fiB false (F156 all) (finR (Um hI0 (condT h2 (condF h3 (condT h5 (condT h6 rfl))))) rfl)) (fun h6=>ai (iok (i40+1) uu0) (Qkz all i0 m0 (i40+1) hl0 (Ud hI0 (condT h2 (condF h3 (condT h5 (condF h6 rfl))))) uu5))))))) (fun h5=>ai (iok (i40+1) uu0) (Qkz all i0 m0 (i40+1) hl0 (Ud hI0 (condT h2 (condF h3 (condF h5 rfl)))) uu5)))))) (fun h2 _=>have hD0_7:Qyz all=Lp.done i40:=Uh hI0 (condF h2 rfl); fiB true (F156 all) (finD hD0_7 rfl))) (i0.1-1) i0.2 (Umj all i0 hi0))) uu1
def Me (all:List l52Cut):Int->Lp Int Int:=fun i40 =>
 bif (decide (i40<(all.length:Int))) then (bif ((F187 (all.getD (Int.toNat i40) default) 0).toList==Zc.toList) then (.ret i40) else (.next (i40+1))) else (.done i40)
def F192 (all:List l52Cut):Int :=
 (runL (Me all) ((Int.toNat ((all.length:Int)-0))+1) 0).fin (fun r=>r) (fun i40=>(-1))
abbrev Pu (all:List l52Cut):Nat×Int:=(((Int.toNat ((all.length:Int)-0))+1),0)
abbrev Qmt (all:List l52Cut) (m39:Nat) (i40:Int):Prop:=Int.toNat ((all.length:Int)-i40)<m39/\(0:Int)<=i40
abbrev Qtv (all:List l52Cut):Lp Int Int:=LpX (Me all) (Pu all)
abbrev Nz (all:List l52Cut) (i:Nat×Int):Prop:=LpJ (Me all) (Pu all) i (Qmt all i.1 i.2)
abbrev Qxs (all:List l52Cut) (i:Nat×Int) (m39:Nat) (i40:Int):Prop:=LpH (Me all) (Pu all) i m39 i40 (Qmt all (m39+1) i40)
abbrev Qwc (all:List l52Cut) (i40:Int) (i40_:Int) (K39:Prop):Prop:=((.int .i64 i40:Value)=.int .i64 i40_)/\(Im (.l 1 Uo all))/\K39
theorem Ult (all:List l52Cut) (i:Nat×Int) (h:Nz all i):Qxs all i (i.1-1) i.2:=⟨hd1 h.1 h.2.1,hd3 h.2.1,hd2 h.2.1,h.2.2⟩
theorem Ujv (all:List l52Cut) (i:Nat×Int) (m39:Nat) (i40:Int) (hl:m39<i.1) (e:runL (Me all) m39 i40=Qtv all) (h:Qmt all m39 i40):∃ j:Nat×Int,Qwc all i40 j.2 (Nz all j/\j.1<i.1):=⟨(m39,i40),rfl,Imp.refl _,⟨e,h⟩,hl⟩
theorem Uiz (all:List l52Cut) (h:(0:Int)<=0):Qwc all 0 0 (Nz all (Pu all)):=⟨rfl,Imp.refl _,rfl,Qn _,h⟩
def S192 (R:Int) (all:List l52Cut):Spec:=⟨[.r (.c (.l 1 Uo all))],.v (vI R),True⟩
theorem ok192 (all:List l52Cut):(S192 (F192 all) all).ok Tryz.prog 192 :=
 Ue mixed (fn:=Tryz.f192) (ct:=.seqk [(0,0)] .no (.seq (.seqk [(0,0)] .no (.blk (.loop (ι:=Nat×Int) (fun i=>(fun (i40:Int)=>(⟨[(0,some (.h 0 0)),(3,some (.v (vI i40)))],[(0,some (.shr none (.l 1 Uo all)))],1⟩:St)) i.2) (Nz all) (fun i=>i.1) (Pu all) (fun i=>(fun (i40:Int)=>(.seq (.seq .no (.cond .no .no)) (.seq (.blk (.seq (.reg [(4,Ys (all.getD (Int.toNat i40) default) 0)]) (.cond (.seq .no .no) .no))) (.reg [(1,.bnd)])))) i.2)))) (.seq .no .no))) Tryz.func192 (fun (_:True)=>kn all fun _=>kn all fun _=>ai (Uiz all uu0) (fun (i0:Nat×Int) (hi0:Nz all i0)=>(fun (m0:Nat) (i40:Int) (hh0:Qxs all i0 m0 i40)=>have hI0:=hh0.1; have hl0:=hh0.2.1; have _:=hh0.2.2.1; have _:=hh0.2.2.2; ifd (i40<(all.length:Int)) (fun h2 _=>ai (uu0:ib i40 all) (Ww (all.getD (Int.toNat i40) default) 0 uu0 (ifb ((F187 (all.getD (Int.toNat i40) default) 0).toList==Zc.toList) (fun h3=>fiI i40 (F192 all) (finR (Um hI0 (condT h2 (condT h3 rfl))) rfl)) (fun h3=>ai (iok (i40+1) uu0) (Ujv all i0 m0 (i40+1) hl0 (Ud hI0 (condT h2 (condF h3 rfl))) uu5))))) (fun h2 _=>have hD0_4:Qtv all=Lp.done i40:=Uh hI0 (condF h2 rfl); fiI (-1) (F192 all) (finD hD0_4 rfl))) (i0.1-1) i0.2 (Ult all i0 hi0))) uu1
theorem as192 (all:List l52Cut):F192 all=(idxI (fun c=>((F187 c 0).toList==Zc.toList)) all):=by
 exact Bu (fun c=>((F187 c 0).toList==Zc.toList)) all (Me all) (fun i=>rfl)
theorem oa192 (all:List l52Cut):(S192 (idxI (fun c=>((F187 c 0).toList==Zc.toList)) all) all).ok Tryz.prog 192:=by
 intro hp; have h:=ok192 all hp; rw [as192 all] at h; exact h
theorem g192_0 (all:List l52Cut):(idxI (fun c=>((F187 c 0).toList==Zc.toList)) all)<(all.length:Int):=by
 exact Qai _ all
theorem Qvv {K_:Prop} (c_ b_:Bool) (s:Za) (p_:c_=b_->s.size<=1048576) (k_:K_):(c_=b_->s.size<=1048576)/\(c_=b_->Imp (.v (.string s)) (.v (.string s)))/\K_:=⟨p_,fun _=>Imp.refl _,k_⟩
def Xe (all:List l52Cut) (at':Int) (nat:l52Cut):Int->Lp Int Bool:=fun i40 =>
 bif (decide (i40<at')) then (bif (bif (bif (bif ((F187 (all.getD (Int.toNat i40) default) 0).toList==Zb.toList) then ((F187 (all.getD (Int.toNat i40) default) 1).toList==(F187 (all.getD (Int.toNat at') default) 1).toList) else false) then ((F187 (all.getD (Int.toNat i40) default) 3).toList==(F187 (all.getD (Int.toNat at') default) 3).toList) else false) then ((F187 (all.getD (Int.toNat i40) default) 4).toList==(F187 (all.getD (Int.toNat at') default) 4).toList) else false) then (.ret false) else (.next (i40+1))) else (.done i40)
def F193 (all:List l52Cut) (at':Int) (nat:l52Cut):Bool :=
 bif (bif (bif decide ((F191 (F187 (all.getD (Int.toNat at') default) 3))<(F189 (F187 nat 1)).1) then true else decide ((F191 (F187 (all.getD (Int.toNat at') default) 3))>=(IntKind.i64.wrap ((F189 (F187 nat 1)).1+(F189 (F187 nat 1)).2)))) then true else (decide ((F194 (F187 nat 3))<=F194 (F187 (all.getD (Int.toNat at') default) 2)/\F194 (F187 (all.getD (Int.toNat at') default) 2)<=(F194 (F187 nat 4))))) then false else ((runL (Xe all at' nat) ((Int.toNat (at'-0))+1) 0).fin (fun r=>r) (fun i40=>true))
abbrev Nu (at':Int):Nat×Int:=(((Int.toNat (at'-0))+1),0)
abbrev Qnn (at':Int) (m39:Nat) (i40:Int):Prop:=Int.toNat (at'-i40)<m39/\(0:Int)<=i40
abbrev Qyx (all:List l52Cut) (at':Int) (nat:l52Cut):Lp Int Bool:=LpX (Xe all at' nat) (Nu at')
abbrev Er (all:List l52Cut) (at':Int) (nat:l52Cut) (i:Nat×Int):Prop:=LpJ (Xe all at' nat) (Nu at') i (Qnn at' i.1 i.2)
abbrev Qxq (all:List l52Cut) (at':Int) (nat:l52Cut) (i:Nat×Int) (m39:Nat) (i40:Int):Prop:=LpH (Xe all at' nat) (Nu at') i m39 i40 (Qnn at' (m39+1) i40)
abbrev Qwg (all:List l52Cut) (at':Int) (i40:Int) (i40_:Int) (K39:Prop):Prop:=(Rf (.int .i64 at'))/\((.int .i64 i40:Value)=.int .i64 i40_)/\(Im (.l 1 Uo all))/\(Ims (Uo (all.getD (Int.toNat at') default)))/\K39
theorem Ujk (all:List l52Cut) (at':Int) (nat:l52Cut) (i:Nat×Int) (h:Er all at' nat i):Qxq all at' nat i (i.1-1) i.2:=⟨hd1 h.1 h.2.1,hd3 h.2.1,hd2 h.2.1,h.2.2⟩
theorem Ulf (all:List l52Cut) (at':Int) (nat:l52Cut) (i:Nat×Int) (m39:Nat) (i40:Int) (hl:m39<i.1) (e:runL (Xe all at' nat) m39 i40=Qyx all at' nat) (h:Qnn at' m39 i40):∃ j:Nat×Int,Qwg all at' i40 j.2 (Er all at' nat j/\j.1<i.1):=⟨(m39,i40),rfl,rfl,Imp.refl _,Imps.refl _,⟨e,h⟩,hl⟩
theorem Umq (all:List l52Cut) (at':Int) (nat:l52Cut) (h:(0:Int)<=0):Qwg all at' 0 0 (Er all at' nat (Nu at')):=⟨rfl,rfl,Imp.refl _,Imps.refl _,rfl,Qn _,h⟩
def S193 (all:List l52Cut) (at':Int) (nat:l52Cut):Spec:=⟨[.r (.c (.l 1 Uo all)),.r (.c (.v (vI at'))),.r (.g (Uo nat))],.v (.bool (F193 all at' nat)),0<=at'/\at'<(all.length:Int)/\(∀ j:Nat,(nat.w.getD j default).size<=1048576)/\(∀ k j:Nat,((all.getD k default).w.getD j default).size<=1048576)⟩
abbrev Yi (all:List l52Cut) (at':Int):=(all.getD (Int.toNat at') default)
abbrev Yf (all:List l52Cut) (i40:Int):=(all.getD (Int.toNat i40) default)
abbrev Wv (all:List l52Cut) (at':Int):=(F191 (F187 (Yi all at') 3))
theorem ok193 (all:List l52Cut) (at':Int) (nat:l52Cut):(S193 all at' nat).ok Tryz.prog 193 :=
 Ue mixed (fn:=Tryz.f193) (ct:=.seqk [(0,0)] .no (.seq .no (.seq (.reg [(1,Ys nat 1),(2,Qiq (F187 nat 1))]) (.seq (.reg [(1,Ys (Yi all at') 3),(2,Mo (F187 (Yi all at') 3))]) (.seq (.seq (.reg [(12,Ys (Yi all at') 2),(14,Ys nat 3),(15,Qcz (F187 nat 3)),(17,Ys nat 4),(18,Qcz (F187 nat 4)),(19,Wx (F187 (Yi all at') 2) (F194 (F187 nat 3)) (F194 (F187 nat 4)))]) (.cond (.seq .no .no) .no)) (.seq (.seqk [(0,0),(7,0)] .no (.blk (.loop (ι:=Nat×Int) (fun i=>(fun (i40:Int)=>(⟨[(0,some (.h 0 0)),(1,some (.v (vI at'))),(7,some (.p 1 0)),(11,some (.v (vI i40)))],[(0,some (.shr none (.l 1 Uo all))),(1,some (.box 189 [.h 2 1])),(2,some (.mem none none (Uo (Yi all at'))))],3⟩:St)) i.2) (Er all at' nat) (fun i=>i.1) (Nu at') (fun i=>(fun (i40:Int)=>(.seq (.seq .no (.cond .no .no)) (.seq (.blk (.seq (.reg [(4,Ys (Yf all i40) 0),(11,Ys (Yf all i40) 1),(13,Ys (Yi all at') 1),(21,Ys (Yf all i40) 3),(23,Ys (Yi all at') 3),(31,Ys (Yf all i40) 4),(33,Ys (Yi all at') 4)]) (.cond (.seq .no .no) .no))) (.reg [(1,.bnd)])))) i.2)))) (.seq .no .no))))))) Tryz.func193 (fun (hp:0<=at'/\at'<(all.length:Int)/\(∀ j:Nat,(nat.w.getD j default).size<=1048576)/\(∀ k j:Nat,((all.getD k default).w.getD j default).size<=1048576))=>have hpre0:=hp.1; have hpre1:=hp.2.1; have hpre2:=hp.2.2.1; have hpre3:=hp.2.2.2; kn all fun _=>ai (uu0:ib at' all) (Ww nat 1 uu0 (Qjk (F187 nat 1) (by exact Qmx (by assumption) _) (Ww (Yi all at') 3 uu0 (Qqg (F187 (Yi all at') 3) uu19 (Js (bif decide ((Wv all at')<(F189 (F187 nat 1)).1) then true else decide ((Wv all at')>=(IntKind.i64.wrap ((F189 (F187 nat 1)).1+(F189 (F187 nat 1)).2)))) false (Yi all at') 2 (fun k1=>have _:=Qp (orF1 k1); have _:=Qp (orF2 k1); uu0) (Js (bif decide ((Wv all at')<(F189 (F187 nat 1)).1) then true else decide ((Wv all at')>=(IntKind.i64.wrap ((F189 (F187 nat 1)).1+(F189 (F187 nat 1)).2)))) false nat 3 (fun k2=>have _:=Qp (orF1 k2); have _:=Qp (orF2 k2); uu0) (Qvv (bif decide ((Wv all at')<(F189 (F187 nat 1)).1) then true else decide ((Wv all at')>=(IntKind.i64.wrap ((F189 (F187 nat 1)).1+(F189 (F187 nat 1)).2)))) false (F187 nat 3) (fun k3=>have _:=Qp (orF1 k3); have _:=Qp (orF2 k3); (by exact Qmx (by assumption) _)) (Js (bif decide ((Wv all at')<(F189 (F187 nat 1)).1) then true else decide ((Wv all at')>=(IntKind.i64.wrap ((F189 (F187 nat 1)).1+(F189 (F187 nat 1)).2)))) false nat 4 (fun k4=>have _:=Qp (orF1 k4); have _:=Qp (orF2 k4); uu0) (Qvv (bif decide ((Wv all at')<(F189 (F187 nat 1)).1) then true else decide ((Wv all at')>=(IntKind.i64.wrap ((F189 (F187 nat 1)).1+(F189 (F187 nat 1)).2)))) false (F187 nat 4) (fun k5=>have _:=Qp (orF1 k5); have _:=Qp (orF2 k5); (by exact Qmx (by assumption) _)) (Wy (bif decide ((Wv all at')<(F189 (F187 nat 1)).1) then true else decide ((Wv all at')>=(IntKind.i64.wrap ((F189 (F187 nat 1)).1+(F189 (F187 nat 1)).2)))) false (F187 (Yi all at') 2) (F194 (F187 nat 3)) (F194 (F187 nat 4)) (fun k6=>have _:=Qp (orF1 k6); have _:=Qp (orF2 k6); uu19) (ifb (bif (bif decide ((Wv all at')<(F189 (F187 nat 1)).1) then true else decide ((Wv all at')>=(IntKind.i64.wrap ((F189 (F187 nat 1)).1+(F189 (F187 nat 1)).2)))) then true else (decide ((F194 (F187 nat 3))<=F194 (F187 (Yi all at') 2)/\F194 (F187 (Yi all at') 2)<=(F194 (F187 nat 4))))) (fun h7=>fiB false (F193 all at' nat) (condT h7 rfl)) (fun h7=>have _:=Qp (orF1 (orF1 h7)); have _:=Qp (orF2 (orF1 h7)); have _:=Qp (orF2 h7); kn all fun _=>kn (Yi all at').w fun _=>ai (Umq all at' nat uu0) (fun (i0:Nat×Int) (hi0:Er all at' nat i0)=>(fun (m0:Nat) (i40:Int) (hh0:Qxq all at' nat i0 m0 i40)=>have hI0:=hh0.1; have hl0:=hh0.2.1; have _:=hh0.2.2.1; have _:=hh0.2.2.2; ifd (i40<at') (fun h9 _=>ai (uu0:ib i40 all) (Ww (Yf all i40) 0 uu0 (ai (fun k10:((F187 (Yf all i40) 0).toList==Zb.toList)=true=>(uu0:ib i40 all)) (Js ((F187 (Yf all i40) 0).toList==Zb.toList) true (Yf all i40) 1 (fun k11=>uu0) (Js ((F187 (Yf all i40) 0).toList==Zb.toList) true (Yi all at') 1 (fun k12=>uu0) (ai (fun k13:(bif ((F187 (Yf all i40) 0).toList==Zb.toList) then ((F187 (Yf all i40) 1).toList==(F187 (Yi all at') 1).toList) else false)=true=>have _:((F187 (Yf all i40) 0).toList==Zb.toList)=true:=(Uc k13); have _:=(Ut k13); (uu0:ib i40 all)) (Js (bif ((F187 (Yf all i40) 0).toList==Zb.toList) then ((F187 (Yf all i40) 1).toList==(F187 (Yi all at') 1).toList) else false) true (Yf all i40) 3 (fun k14=>have _:((F187 (Yf all i40) 0).toList==Zb.toList)=true:=(Uc k14); have _:=(Ut k14); uu0) (Js (bif ((F187 (Yf all i40) 0).toList==Zb.toList) then ((F187 (Yf all i40) 1).toList==(F187 (Yi all at') 1).toList) else false) true (Yi all at') 3 (fun k15=>have _:((F187 (Yf all i40) 0).toList==Zb.toList)=true:=(Uc k15); have _:=(Ut k15); uu0) (ai (fun k16:(bif (bif ((F187 (Yf all i40) 0).toList==Zb.toList) then ((F187 (Yf all i40) 1).toList==(F187 (Yi all at') 1).toList) else false) then ((F187 (Yf all i40) 3).toList==(F187 (Yi all at') 3).toList) else false)=true=>have _:((F187 (Yf all i40) 0).toList==Zb.toList)=true:=(Uc (Uc k16)); have _:=(Ut (Uc k16)); have _:=(Ut k16); (uu0:ib i40 all)) (Js (bif (bif ((F187 (Yf all i40) 0).toList==Zb.toList) then ((F187 (Yf all i40) 1).toList==(F187 (Yi all at') 1).toList) else false) then ((F187 (Yf all i40) 3).toList==(F187 (Yi all at') 3).toList) else false) true (Yf all i40) 4 (fun k17=>have _:((F187 (Yf all i40) 0).toList==Zb.toList)=true:=(Uc (Uc k17)); have _:=(Ut (Uc k17)); have _:=(Ut k17); uu0) (Js (bif (bif ((F187 (Yf all i40) 0).toList==Zb.toList) then ((F187 (Yf all i40) 1).toList==(F187 (Yi all at') 1).toList) else false) then ((F187 (Yf all i40) 3).toList==(F187 (Yi all at') 3).toList) else false) true (Yi all at') 4 (fun k18=>have _:((F187 (Yf all i40) 0).toList==Zb.toList)=true:=(Uc (Uc k18)); have _:=(Ut (Uc k18)); have _:=(Ut k18); uu0) (ifb (bif (bif (bif ((F187 (Yf all i40) 0).toList==Zb.toList) then ((F187 (Yf all i40) 1).toList==(F187 (Yi all at') 1).toList) else false) then ((F187 (Yf all i40) 3).toList==(F187 (Yi all at') 3).toList) else false) then ((F187 (Yf all i40) 4).toList==(F187 (Yi all at') 4).toList) else false) (fun h19=>have _:((F187 (Yf all i40) 0).toList==Zb.toList)=true:=(Uc (Uc (Uc h19))); have _:=(Ut (Uc (Uc h19))); have _:=(Ut (Uc h19)); have _:=(Ut h19); fiB false (F193 all at' nat) (condF h7 (finR (Um hI0 (condT h9 (condT h19 rfl))) rfl))) (fun h19=>ai (iok (i40+1) uu0) (Ulf all at' nat i0 m0 (i40+1) hl0 (Ud hI0 (condT h9 (condF h19 rfl))) uu5)))))))))))))) (fun h9 _=>have hD0_20:Qyx all at' nat=Lp.done i40:=Uh hI0 (condF h9 rfl); fiB true (F193 all at' nat) (condF h7 (finD hD0_20 rfl)))) (i0.1-1) i0.2 (Ujk all at' nat i0 hi0))))))))))))))) uu1
theorem kc192a (all:List l52Cut) {K_:Prop} (k_:((idxI (fun c=>((F187 c 0).toList==Zc.toList)) all)<(all.length:Int))->K_):(True)/\(Imp (.l 1 Uo all) (.l 1 Uo all))/\K_:=⟨trivial,Imp.refl _,k_ (g192_0 all)⟩
abbrev kh192a (all:List l52Cut):Hint true Tryz.prog:=.call 192 (S192 (idxI (fun c=>((F187 c 0).toList==Zc.toList)) all) all) (oa192 all) none
theorem kg193 {K_:Prop} (c_ b_:Bool) (all:List l52Cut) (at':Int) (nat:l52Cut) (p_:c_=b_->0<=at'/\at'<(all.length:Int)/\(∀ j:Nat,(nat.w.getD j default).size<=1048576)/\(∀ k j:Nat,((all.getD k default).w.getD j default).size<=1048576)) (k_:K_):(c_=b_->0<=at'/\at'<(all.length:Int)/\(∀ j:Nat,(nat.w.getD j default).size<=1048576)/\(∀ k j:Nat,((all.getD k default).w.getD j default).size<=1048576))/\(c_=b_->Imp (.l 1 Uo all) (.l 1 Uo all))/\(c_=b_->Imp (.v (vI at')) (.v (vI at')))/\(c_=b_->Imps (Uo nat) (Uo nat))/\K_:=⟨p_,fun _=>Imp.refl _,fun _=>Imp.refl _,fun _=>Imps.refl _,k_⟩
abbrev kh193 (all:List l52Cut) (at':Int) (nat:l52Cut):Hint true Tryz.prog:=.call 193 (S193 all at' nat) (ok193 all at' nat) none
def Xp (all:List l52Cut):(Int×Int)->Lp (Int×Int) Bool:=fun (doors,i40) =>
 bif (decide (i40<(all.length:Int))) then (bif (!((F187 (all.getD (Int.toNat i40) default) 0).toList==Zb.toList)) then (.next (doors,(i40+1))) else (bif (bif decide ((idxI (fun c=>((F187 c 0).toList==Zc.toList)) all)<0) then true else (!(F193 all i40 (all.getD (Int.toNat (idxI (fun c=>((F187 c 0).toList==Zc.toList)) all)) default)))) then (.ret false) else (.next ((doors+1),(i40+1))))) else (.done (doors,i40))
def F157 (all:List l52Cut):Bool :=
 (runL (Xp all) ((Int.toNat ((all.length:Int)-0))+1) (0,0)).fin (fun r=>r) (fun (doors,i40)=>bif (decide ((idxI (fun c=>((F187 c 0).toList==Zc.toList)) all)<0)) then true else (bif (bif decide (doors<=6) then (bif decide ((F191 (F187 (all.getD (Int.toNat (idxI (fun c=>((F187 c 0).toList==Zc.toList)) all)) default) 2))<(F189 (F187 (all.getD (Int.toNat (idxI (fun c=>((F187 c 0).toList==Zc.toList)) all)) default) 1)).1) then true else decide ((F191 (F187 (all.getD (Int.toNat (idxI (fun c=>((F187 c 0).toList==Zc.toList)) all)) default) 2))>=(IntKind.i64.wrap ((F189 (F187 (all.getD (Int.toNat (idxI (fun c=>((F187 c 0).toList==Zc.toList)) all)) default) 1)).1+(F189 (F187 (all.getD (Int.toNat (idxI (fun c=>((F187 c 0).toList==Zc.toList)) all)) default) 1)).2)))) else false) then decide ((F194 (F187 (all.getD (Int.toNat (idxI (fun c=>((F187 c 0).toList==Zc.toList)) all)) default) 3))<=(F194 (F187 (all.getD (Int.toNat (idxI (fun c=>((F187 c 0).toList==Zc.toList)) all)) default) 4))) else false))
abbrev Nx (all:List l52Cut):Nat×(Int×Int):=(((Int.toNat ((all.length:Int)-0))+1),(0,0))
abbrev Qlk (all:List l52Cut) (m39:Nat) (doors:Int) (i40:Int):Prop:=Int.toNat ((all.length:Int)-i40)<m39/\(0:Int)<=doors/\(doors:Int)<=i40/\(0:Int)<=doors/\(0:Int)<=i40
abbrev Qzh (all:List l52Cut):Lp (Int×Int) Bool:=LpX (Xp all) (Nx all)
abbrev Pc (all:List l52Cut) (i:Nat×(Int×Int)):Prop:=LpJ (Xp all) (Nx all) i (Qlk all i.1 i.2.1 i.2.2)
abbrev Qvb (all:List l52Cut) (i:Nat×(Int×Int)) (m39:Nat) (doors:Int) (i40:Int):Prop:=LpH (Xp all) (Nx all) i m39 (doors,i40) (Qlk all (m39+1) doors i40)
abbrev Qwm (all:List l52Cut) (doors:Int) (i40:Int) (doors_:Int) (i40_:Int) (K39:Prop):Prop:=(Rf (.int .i64 (idxI (fun c=>((F187 c 0).toList==Zc.toList)) all)))/\((.int .i64 doors:Value)=.int .i64 doors_)/\((.int .i64 i40:Value)=.int .i64 i40_)/\(Im (.l 1 Uo all))/\K39
theorem Unh (all:List l52Cut) (i:Nat×(Int×Int)) (h:Pc all i):Qvb all i (i.1-1) i.2.1 i.2.2:=⟨hd1 h.1 h.2.1,hd3 h.2.1,hd2 h.2.1,h.2.2⟩
theorem Qyo (all:List l52Cut) (i:Nat×(Int×Int)) (m39:Nat) (doors:Int) (i40:Int) (hl:m39<i.1) (e:runL (Xp all) m39 (doors,i40)=Qzh all) (h:Qlk all m39 doors i40):∃ j:Nat×(Int×Int),Qwm all doors i40 j.2.1 j.2.2 (Pc all j/\j.1<i.1):=⟨(m39,(doors,i40)),rfl,rfl,rfl,Imp.refl _,⟨e,h⟩,hl⟩
theorem Ukc (all:List l52Cut) (h:(0:Int)<=0/\(0:Int)<=0/\(0:Int)<=0/\(0:Int)<=0):Qwm all 0 0 0 0 (Pc all (Nx all)):=⟨rfl,rfl,rfl,Imp.refl _,rfl,Qn _,h⟩
def S157 (all:List l52Cut):Spec:=⟨[.r (.c (.l 1 Uo all))],.v (.bool (F157 all)),(∀ k j:Nat,((all.getD k default).w.getD j default).size<=1048576)⟩
theorem ok157 (all:List l52Cut):(S157 all).ok Tryz.prog 157 :=
 Ue mixed (fn:=Tryz.f157) (ct:=.seqk [(0,0)] .no (.seq (.reg [(1,kh192a all)]) (.seq .no (.seq (.seqk [(0,0)] .no (.blk (.loop (ι:=Nat×(Int×Int)) (fun i=>(fun (doors:Int) (i40:Int)=>(⟨[(0,some (.h 0 0)),(3,some (.v (vI (idxI (fun c=>((F187 c 0).toList==Zc.toList)) all)))),(4,some (.v (vI doors))),(5,some (.v (vI i40)))],[(0,some (.shr none (.l 1 Uo all)))],1⟩:St)) i.2.1 i.2.2) (Pc all) (fun i=>i.1) (Nx all) (fun i=>(fun (doors:Int) (i40:Int)=>(.seq (.seq .no (.cond .no .no)) (.seq (.blk (.seq (.seq (.reg [(4,Ys (all.getD (Int.toNat i40) default) 0)]) (.cond .no .no)) (.seq (.reg [(1,.bnd)]) (.seq (.reg [(9,kh193 all i40 (all.getD (Int.toNat (idxI (fun c=>((F187 c 0).toList==Zc.toList)) all)) default))]) (.cond (.seq .no .no) .no))))) (.reg [(1,.bnd)])))) i.2.1 i.2.2)))) (.seq (.seq .no (.cond (.seq .no .no) .no)) (.seq (.reg [(4,Ys (all.getD (Int.toNat (idxI (fun c=>((F187 c 0).toList==Zc.toList)) all)) default) 1),(5,Qiq (F187 (all.getD (Int.toNat (idxI (fun c=>((F187 c 0).toList==Zc.toList)) all)) default) 1))]) (.seq (.reg [(4,Ys (all.getD (Int.toNat (idxI (fun c=>((F187 c 0).toList==Zc.toList)) all)) default) 2),(5,Mo (F187 (all.getD (Int.toNat (idxI (fun c=>((F187 c 0).toList==Zc.toList)) all)) default) 2))]) (.seq (.reg [(19,Ys (all.getD (Int.toNat (idxI (fun c=>((F187 c 0).toList==Zc.toList)) all)) default) 3),(20,Qcz (F187 (all.getD (Int.toNat (idxI (fun c=>((F187 c 0).toList==Zc.toList)) all)) default) 3)),(25,Ys (all.getD (Int.toNat (idxI (fun c=>((F187 c 0).toList==Zc.toList)) all)) default) 4),(26,Qcz (F187 (all.getD (Int.toNat (idxI (fun c=>((F187 c 0).toList==Zc.toList)) all)) default) 4))]) .no)))))))) Tryz.func157 (fun (hpre0:∀ k j:Nat,((all.getD k default).w.getD j default).size<=1048576)=>kn all fun _=>kc192a all (fun gv1=>kn all fun _=>ai (Ukc all uu25) (fun (i0:Nat×(Int×Int)) (hi0:Pc all i0)=>(fun (m0:Nat) (doors:Int) (i40:Int) (hh0:Qvb all i0 m0 doors i40)=>have hI0:=hh0.1; have hl0:=hh0.2.1; have _:=hh0.2.2.1; have _:=hh0.2.2.2; ifd (i40<(all.length:Int)) (fun h3 _=>ai (uu0:ib i40 all) (Ww (all.getD (Int.toNat i40) default) 0 uu0 (ifb (!((F187 (all.getD (Int.toNat i40) default) 0).toList==Zb.toList)) (fun h4=>ai (iok (i40+1) uu0) (Qyo all i0 m0 doors (i40+1) hl0 (Ud hI0 (condT h3 (condT h4 rfl))) uu30)) (fun h4=>ai (iok (doors+1) uu0) (ai (fun k5:(decide ((idxI (fun c=>((F187 c 0).toList==Zc.toList)) all)<0))=false=>have _:¬ (idxI (fun c=>((F187 c 0).toList==Zc.toList)) all)<0:=Qp k5; (uu0:ib (idxI (fun c=>((F187 c 0).toList==Zc.toList)) all) all)) (kg193 (decide ((idxI (fun c=>((F187 c 0).toList==Zc.toList)) all)<0)) false all i40 (all.getD (Int.toNat (idxI (fun c=>((F187 c 0).toList==Zc.toList)) all)) default) (fun k6=>have _:¬ (idxI (fun c=>((F187 c 0).toList==Zc.toList)) all)<0:=Qp k6; ⟨uu0,uu0,(by exact fun j=>(by assumption:∀ k j:Nat,((all.getD k default).w.getD j default).size<=1048576) _ j),uu0⟩) (ifb (bif decide ((idxI (fun c=>((F187 c 0).toList==Zc.toList)) all)<0) then true else (!(F193 all i40 (all.getD (Int.toNat (idxI (fun c=>((F187 c 0).toList==Zc.toList)) all)) default)))) (fun h7=>fiB false (F157 all) (finR (Um hI0 (condT h3 (condF h4 (condT h7 rfl)))) rfl)) (fun h7=>have _:¬ (idxI (fun c=>((F187 c 0).toList==Zc.toList)) all)<0:=Qp (orF1 h7); ai (iok (i40+1) uu0) (Qyo all i0 m0 (doors+1) (i40+1) hl0 (Ud hI0 (condT h3 (condF h4 (condF h7 rfl)))) uu30))))))))) (fun h3 _=>have hD0_8:Qzh all=Lp.done (doors,i40):=Uh hI0 (condF h3 rfl); ifd ((idxI (fun c=>((F187 c 0).toList==Zc.toList)) all)<0) (fun h9 _=>fiB true (F157 all) (finD hD0_8 (condT h9 rfl))) (fun h9 _=>ai (uu0:ib (idxI (fun c=>((F187 c 0).toList==Zc.toList)) all) all) (Ww (all.getD (Int.toNat (idxI (fun c=>((F187 c 0).toList==Zc.toList)) all)) default) 1 uu0 (Qjk (F187 (all.getD (Int.toNat (idxI (fun c=>((F187 c 0).toList==Zc.toList)) all)) default) 1) uu19 (ai (uu0:ib (idxI (fun c=>((F187 c 0).toList==Zc.toList)) all) all) (Ww (all.getD (Int.toNat (idxI (fun c=>((F187 c 0).toList==Zc.toList)) all)) default) 2 uu0 (Qqg (F187 (all.getD (Int.toNat (idxI (fun c=>((F187 c 0).toList==Zc.toList)) all)) default) 2) uu19 (ai (fun k10:(bif decide (doors<=6) then (bif decide ((F191 (F187 (all.getD (Int.toNat (idxI (fun c=>((F187 c 0).toList==Zc.toList)) all)) default) 2))<(F189 (F187 (all.getD (Int.toNat (idxI (fun c=>((F187 c 0).toList==Zc.toList)) all)) default) 1)).1) then true else decide ((F191 (F187 (all.getD (Int.toNat (idxI (fun c=>((F187 c 0).toList==Zc.toList)) all)) default) 2))>=(IntKind.i64.wrap ((F189 (F187 (all.getD (Int.toNat (idxI (fun c=>((F187 c 0).toList==Zc.toList)) all)) default) 1)).1+(F189 (F187 (all.getD (Int.toNat (idxI (fun c=>((F187 c 0).toList==Zc.toList)) all)) default) 1)).2)))) else false)=true=>have _:=Qb (Uc k10); (uu0:ib (idxI (fun c=>((F187 c 0).toList==Zc.toList)) all) all)) (Js (bif decide (doors<=6) then (bif decide ((F191 (F187 (all.getD (Int.toNat (idxI (fun c=>((F187 c 0).toList==Zc.toList)) all)) default) 2))<(F189 (F187 (all.getD (Int.toNat (idxI (fun c=>((F187 c 0).toList==Zc.toList)) all)) default) 1)).1) then true else decide ((F191 (F187 (all.getD (Int.toNat (idxI (fun c=>((F187 c 0).toList==Zc.toList)) all)) default) 2))>=(IntKind.i64.wrap ((F189 (F187 (all.getD (Int.toNat (idxI (fun c=>((F187 c 0).toList==Zc.toList)) all)) default) 1)).1+(F189 (F187 (all.getD (Int.toNat (idxI (fun c=>((F187 c 0).toList==Zc.toList)) all)) default) 1)).2)))) else false) true (all.getD (Int.toNat (idxI (fun c=>((F187 c 0).toList==Zc.toList)) all)) default) 3 (fun k11=>have _:=Qb (Uc k11); uu0) (Qvv (bif decide (doors<=6) then (bif decide ((F191 (F187 (all.getD (Int.toNat (idxI (fun c=>((F187 c 0).toList==Zc.toList)) all)) default) 2))<(F189 (F187 (all.getD (Int.toNat (idxI (fun c=>((F187 c 0).toList==Zc.toList)) all)) default) 1)).1) then true else decide ((F191 (F187 (all.getD (Int.toNat (idxI (fun c=>((F187 c 0).toList==Zc.toList)) all)) default) 2))>=(IntKind.i64.wrap ((F189 (F187 (all.getD (Int.toNat (idxI (fun c=>((F187 c 0).toList==Zc.toList)) all)) default) 1)).1+(F189 (F187 (all.getD (Int.toNat (idxI (fun c=>((F187 c 0).toList==Zc.toList)) all)) default) 1)).2)))) else false) true (F187 (all.getD (Int.toNat (idxI (fun c=>((F187 c 0).toList==Zc.toList)) all)) default) 3) (fun k12=>have _:=Qb (Uc k12); uu19) (ai (fun k13:(bif decide (doors<=6) then (bif decide ((F191 (F187 (all.getD (Int.toNat (idxI (fun c=>((F187 c 0).toList==Zc.toList)) all)) default) 2))<(F189 (F187 (all.getD (Int.toNat (idxI (fun c=>((F187 c 0).toList==Zc.toList)) all)) default) 1)).1) then true else decide ((F191 (F187 (all.getD (Int.toNat (idxI (fun c=>((F187 c 0).toList==Zc.toList)) all)) default) 2))>=(IntKind.i64.wrap ((F189 (F187 (all.getD (Int.toNat (idxI (fun c=>((F187 c 0).toList==Zc.toList)) all)) default) 1)).1+(F189 (F187 (all.getD (Int.toNat (idxI (fun c=>((F187 c 0).toList==Zc.toList)) all)) default) 1)).2)))) else false)=true=>have _:=Qb (Uc k13); (uu0:ib (idxI (fun c=>((F187 c 0).toList==Zc.toList)) all) all)) (Js (bif decide (doors<=6) then (bif decide ((F191 (F187 (all.getD (Int.toNat (idxI (fun c=>((F187 c 0).toList==Zc.toList)) all)) default) 2))<(F189 (F187 (all.getD (Int.toNat (idxI (fun c=>((F187 c 0).toList==Zc.toList)) all)) default) 1)).1) then true else decide ((F191 (F187 (all.getD (Int.toNat (idxI (fun c=>((F187 c 0).toList==Zc.toList)) all)) default) 2))>=(IntKind.i64.wrap ((F189 (F187 (all.getD (Int.toNat (idxI (fun c=>((F187 c 0).toList==Zc.toList)) all)) default) 1)).1+(F189 (F187 (all.getD (Int.toNat (idxI (fun c=>((F187 c 0).toList==Zc.toList)) all)) default) 1)).2)))) else false) true (all.getD (Int.toNat (idxI (fun c=>((F187 c 0).toList==Zc.toList)) all)) default) 4 (fun k14=>have _:=Qb (Uc k14); uu0) (Qvv (bif decide (doors<=6) then (bif decide ((F191 (F187 (all.getD (Int.toNat (idxI (fun c=>((F187 c 0).toList==Zc.toList)) all)) default) 2))<(F189 (F187 (all.getD (Int.toNat (idxI (fun c=>((F187 c 0).toList==Zc.toList)) all)) default) 1)).1) then true else decide ((F191 (F187 (all.getD (Int.toNat (idxI (fun c=>((F187 c 0).toList==Zc.toList)) all)) default) 2))>=(IntKind.i64.wrap ((F189 (F187 (all.getD (Int.toNat (idxI (fun c=>((F187 c 0).toList==Zc.toList)) all)) default) 1)).1+(F189 (F187 (all.getD (Int.toNat (idxI (fun c=>((F187 c 0).toList==Zc.toList)) all)) default) 1)).2)))) else false) true (F187 (all.getD (Int.toNat (idxI (fun c=>((F187 c 0).toList==Zc.toList)) all)) default) 4) (fun k15=>have _:=Qb (Uc k15); uu19) (fiB (bif (bif decide (doors<=6) then (bif decide ((F191 (F187 (all.getD (Int.toNat (idxI (fun c=>((F187 c 0).toList==Zc.toList)) all)) default) 2))<(F189 (F187 (all.getD (Int.toNat (idxI (fun c=>((F187 c 0).toList==Zc.toList)) all)) default) 1)).1) then true else decide ((F191 (F187 (all.getD (Int.toNat (idxI (fun c=>((F187 c 0).toList==Zc.toList)) all)) default) 2))>=(IntKind.i64.wrap ((F189 (F187 (all.getD (Int.toNat (idxI (fun c=>((F187 c 0).toList==Zc.toList)) all)) default) 1)).1+(F189 (F187 (all.getD (Int.toNat (idxI (fun c=>((F187 c 0).toList==Zc.toList)) all)) default) 1)).2)))) else false) then decide ((F194 (F187 (all.getD (Int.toNat (idxI (fun c=>((F187 c 0).toList==Zc.toList)) all)) default) 3))<=(F194 (F187 (all.getD (Int.toNat (idxI (fun c=>((F187 c 0).toList==Zc.toList)) all)) default) 4))) else false) (F157 all) (finD hD0_8 (condF h9 rfl))))))))))))))))) (i0.1-1) i0.2.1 i0.2.2 (Unh all i0 hi0)))) uu1
theorem Qjn {α β:Type} [Inhabited α] [Inhabited β] (f:α->β) (ls:List α) (i:Nat) (h:i<ls.length):(ls.map f).getD i default=f (ls.getD i default):=by
 rw [Jo _ (by simpa using h),Jo _ h,List.getElem_map]
def wsL (lines:List Za):List (List Za):=lines.map fun l=>(F64 l).1
def hdB (w:List Za) (l:List UInt8):Bool:=(w.getD 0 default).data.toList==l
def Udc:List UInt8:=[117,115,101,114]
def Ka:List UInt8:=[112,111,114,116]
def Bh:List UInt8:=[114,117,108,101]
def Qfg:List UInt8:=[114,111,117,116,101]
def Qjq:List UInt8:=[112,101,101,114]
def hNat:List UInt8:=[110,97,116]
def Yl:List UInt8:=[100,111,111,114]
theorem Kw (lines:List Za) (h:F23 lines=0) (word:Za):Ua lines word=(wsL lines).filter fun w=>hdB w word.data.toList:=by
 unfold Ua wsL
 have e:(lines.map fun l=>Uv l Ze)=lines.map fun l=>(F64 l).1:=T2 fun l hl=>Qfs l ((Ny lines h).2 l hl)
 rw [e]; rfl
theorem Qdi (lines:List Za) (h:F23 lines=0):∀ w∈wsL lines,Vg w:=fun w hw=>by
 obtain ⟨l,hl,rfl⟩:=Si.1 hw
 exact (Ms l ((Ny lines h).2 l hl)).form
theorem ws_no (lines:List Za):∀ w∈wsL lines,∀ x∈w,(32:UInt8) ∉ x.data.toList/\x.data.toList≠[]/\x.size<=24:=fun w hw=>by
 obtain ⟨l,hl,rfl⟩:=Si.1 hw
 exact Qtw l
theorem at_n (c:l52Cut) (k:Nat):F187 c (k:Int)=c.w.getD k default:=by
 unfold F187
 by_cases h:k<c.w.length
 ·rw [ltD h,Qc,nn]
 ·rw [Qk uu0,Qe,Kq _ uu0]; rfl
theorem at0 (c:l52Cut):F187 c 0=c.w.getD 0 default:=at_n c 0
theorem at1 (c:l52Cut):F187 c 1=c.w.getD 1 default:=at_n c 1
theorem at2 (c:l52Cut):F187 c 2=c.w.getD 2 default:=at_n c 2
theorem at3 (c:l52Cut):F187 c 3=c.w.getD 3 default:=at_n c 3
theorem at4 (c:l52Cut):F187 c 4=c.w.getD 4 default:=at_n c 4
theorem Lm (ws:List (List Za)) (p:l52Cut->Bool):(ws.map l52Cut.mk).any p=ws.any fun w=>p ⟨w⟩:=by rw [Gq]; rfl
theorem Yu {α:Type} {p q:α->Bool}:∀ {xs:List α},(∀ x∈xs,p x=q x)->xs.any p=xs.any q
 | [],_=>rfl
 | x :: xs,h=>by rw [Th,Th,h x Ql,Yu fun y hy=>h y (Qi _ hy)]
theorem Umi (all:List l52Cut):F153 all=all.any fun c=>hdB c.w Udc&&((c.w.getD 2 default).data.toList==[97,108,108]):=by
 unfold F153
 have:=anyL all (fun c=>hdB c.w Udc&&((c.w.getD 2 default).data.toList==[97,108,108])) true (Bd all) (fun i hi=>by
  simp only [Bd,ltD hi,Qc,nn,at0,at2,blit,cb1]
  rfl) (by simp only [Bd,geD,Qe]) (fun r=>r) (fun i40=>false) false (fun _=>rfl)
 refine this.trans ?_
 cases (all.any fun c=>hdB c.w Udc&&((c.w.getD 2 default).data.toList==[97,108,108])) <;> rfl
theorem Qlm (lines:List Za) (h:F23 lines=0):F121 lines=!F153 ((wsL lines).map l52Cut.mk):=by
 unfold F121
 rw [Umi,Lm,Kw lines h,Tn]
 congr 1
 refine Yu fun w _=>?_
 unfold F159
 rw [blit]; rfl
def Qtl (ws:List (List Za)) (name:List UInt8):Nat:=(ws.filter fun w=>hdB w Bh&&((w.getD 1 default).data.toList==name)).length
theorem Qhh (lines:List Za) (h:F23 lines=0) (name:Za):F160 lines name=(Qtl (wsL lines) name.data.toList:Int):=by
 unfold F160
 have:=Ks (Ua lines Zf) (fun (n:Int) w=>bif ((w.getD 1 default).data.toList==name.data.toList) then n+1 else n) (fun n i=>(n,i)) (Xj lines name) (fun i s hi=>by
  simp only [Xj,ltD hi,Qc,nn,Yd]
  show (bif (((Ua lines Zf).getD i default).getD 1 default).data.toList==name.data.toList then _ else _)=_
  cases ((((Ua lines Zf).getD i default).getD 1 default).data.toList==name.data.toList) <;> rfl) (fun s=>by simp only [Xj,geD,Qe]) (fun r=>r) (fun (n,v11)=>n) 0
 refine this.trans ?_
 show (Ua lines Zf).foldl _ (0:Int)=_
 rw [Ld (fun w:List Za=>((w.getD 1 default).data.toList==name.data.toList)),Kw lines h,List.filter_filter,Int.zero_add]
 unfold Qtl
 rw [show (fun a:List Za=>((a.getD 1 default).data.toList==name.data.toList&&hdB a Zf.data.toList))=fun w=>hdB w Bh&&((w.getD 1 default).data.toList==name.data.toList) from funext fun w=>Bool.and_comm _ _]
theorem Uhv (all:List l52Cut) (name:Za):F188 all name=((all.filter fun c=>hdB c.w Bh&&((c.w.getD 1 default).data.toList==name.data.toList)).length:Int):=by
 unfold F188
 have:=Ks all (fun (n:Int) c=>bif (hdB c.w Bh&&((c.w.getD 1 default).data.toList==name.data.toList)) then n+1 else n) (fun n i=>(n,i)) (Xl all name) (fun i s hi=>by
  simp only [Xl,ltD hi,Qc,nn,at0,at1,blit,cb1]
  rw [Yd,Yd]
  show (bif (hdB (all.getD i default).w Bh&&(((all.getD i default).w.getD 1 default).data.toList==name.data.toList)) then _ else _)=_
  cases (hdB (all.getD i default).w Bh&&(((all.getD i default).w.getD 1 default).data.toList==name.data.toList)) <;> rfl) (fun s=>by simp only [Xl,geD,Qe]) (fun r=>r) (fun (n,i40)=>n) 0
 refine this.trans ?_
 show all.foldl _ (0:Int)=_
 rw [Ld (fun c:l52Cut=>hdB c.w Bh&&((c.w.getD 1 default).data.toList==name.data.toList)),Int.zero_add]
theorem Qzm (ws:List (List Za)) (name:Za):F188 (ws.map l52Cut.mk) name=(Qtl ws name.data.toList:Int):=by
 rw [Uhv,Gv,Sk]; rfl
theorem Uhg (all:List l52Cut):F154 all=!all.any fun c=>(hdB c.w Ka&&(!((c.w.getD 4 default).data.toList==[])&&((F188 all (c.w.getD 4 default))==0))) || (hdB c.w Bh&&decide (F188 all (c.w.getD 1 default)>12)):=by
 unfold F154
 have:=anyL all (fun c=>(hdB c.w Ka&&(!((c.w.getD 4 default).data.toList==[])&&((F188 all (c.w.getD 4 default))==0))) || (hdB c.w Bh&&decide (F188 all (c.w.getD 1 default)>12))) false (Xo all) (fun i hi=>by
  simp only [Xo,ltD hi,Qc,nn,at0,at1,at4,blit,cb1,Sz]
  show (bif (hdB (all.getD i default).w Ka&&(!(((all.getD i default).w.getD 4 default).data.toList==[])&&(F188 all ((all.getD i default).w.getD 4 default)==0))) then _ else (bif (hdB (all.getD i default).w Bh&&_) then _ else _))=_
  cases (hdB (all.getD i default).w Ka&&(!(((all.getD i default).w.getD 4 default).data.toList==[])&&(F188 all ((all.getD i default).w.getD 4 default)==0))) <;> cases (hdB (all.getD i default).w Bh&&decide (F188 all ((all.getD i default).w.getD 1 default)>12)) <;> rfl) (by simp only [Xo,geD,Qe]) (fun r=>r) (fun i40=>true) true (fun _=>rfl)
 refine this.trans ?_
 cases all.any _ <;> rfl
theorem Qqt {α:Type} (p q:α->Bool):∀ xs:List α,xs.any (fun x=>p x || q x)=(xs.any p || xs.any q)
 | []=>rfl
 | x :: xs=>by
  simp only [Th,Qqt p q xs]
  cases p x <;> cases q x <;> simp
theorem Uaa {w:List Za} (h:Xy w) (hn:∀ x∈w,x.data.toList≠[]):decide ((w.length:Int)>4)=!((w.getD 4 default).data.toList==[]):=by
 by_cases hl:4<w.length
 ·rw [Qs uu0]
  have:=hn _ (Vy w hl)
  rw [Qz.2 this]; rfl
 ·rw [Qk uu0,Kq w uu0]; rfl
theorem Qdg (lines:List Za) (h:F23 lines=0):F122 lines=!F154 ((wsL lines).map l52Cut.mk):=by
 rw [Uhg,Bool.not_not,Lm,Qqt]
 unfold F122
 have:=anyL (Ua lines Zd) (fun w=>decide ((w.length:Int)>4)&&(F160 lines (w.getD 4 default)==0)) true (Xs lines) (fun i hi=>by
  simp only [Xs,ltD hi,Qc,nn,cb1]; rfl) (by simp only [Xs,geD,Qe]) (fun r=>r) (fun v8=>(Ua lines Zf).any (fun (x0:List Za)=>F161 x0 lines)) _ (fun _=>rfl)
 refine this.trans ?_
 rw [Kw lines h,Kw lines h,Tn,Tn,cb2]
 congr 1
 ·refine Yu fun w hw=>?_
  have e4:F188 ((wsL lines).map l52Cut.mk) (w.getD 4 default)=F160 lines (w.getD 4 default):=by rw [Qzm,Qhh lines h]
  rw [e4]
  cases hp:hdB w Ka with
  | false =>
   have hp':hdB w Zd.data.toList=false:=hp
   rw [hp',Sr,Sr]
  | true =>
   have hp':hdB w Zd.data.toList=true:=hp
   have hpp:=Qdn (Qdi lines h w hw) (eq_of_beq hp)
   rw [hp',Uaa hpp fun x hx=>(ws_no lines w hw x hx).2.1]
 ·refine Yu fun w hw=>?_
  have e1:F188 ((wsL lines).map l52Cut.mk) (w.getD 1 default)=F160 lines (w.getD 1 default):=by rw [Qzm,Qhh lines h]
  show (hdB w Bh&&_)=(hdB w Bh&&_)
  rw [e1]; rfl
def Wh {α:Type} (ov:α->α->Bool):List α->List α->Bool
 | _,[]=>false
 | seen,x :: r=>seen.any (ov x) || Wh ov (seen++[x]) r
theorem Bq {α:Type} [Inhabited α] (ov:α->α->Bool) (xs:List α):∀ (m i:Nat),i+m=xs.length->anyF (fun i=>(xs.take i).any (ov (xs.getD i default))) i m=Wh ov (xs.take i) (xs.drop i)
 | 0,i,h=>by rw [Q7 uu0]; rfl
 | m+1,i,h=>by
  have hd:xs.drop i=xs.getD i default :: xs.drop (i+1):=by
   rw [Rg (show i<xs.length by omega),Qd,Qh (show i<xs.length by omega)]; rfl
  rw [hd,Wh,anyF,Bq ov xs m (i+1) uu0,Qci (show i<xs.length by omega)]
theorem Lc {α:Type} (P:α->Bool) (ov:α->α->Bool):∀ (xs seen:List α),Wh (fun x y=>P x&&(P y&&ov x y)) seen xs=Wh ov (seen.filter P) (xs.filter P)
 | [],seen=>rfl
 | x :: xs,seen=>by
  rw [Wh,Lc P ov xs]
  cases h:P x with
  | true =>
   rw [Sn h,Wh,Tu,Tn]
   simp only [Sc,Sn h,List.filter_nil]
  | false =>
   rw [Sm (by simp [h]),Tu,Sm (by simp [h]),List.filter_nil,So]
   simp only [Sr]
   rw [show seen.any (fun _=>false)=false by simp,Ga]
theorem Qfd {α γ:Type} (f:α->γ) (ov:γ->γ->Bool):∀ (xs seen:List α),Wh ov (seen.map f) (xs.map f)=Wh (fun x y=>ov (f x) (f y)) seen xs
 | [],_=>rfl
 | x :: xs,seen=>by
  rw [Rb,Wh,Wh,<- Qfd f ov xs,T8,Gq]; rfl
theorem Qhc {α:Type} {ov ov':α->α->Bool} {Q:α->Prop} (h:∀ x y,Q x->Q y->ov x y=ov' x y):∀ (xs seen:List α),(∀ x∈xs,Q x)->(∀ x∈seen,Q x)->Wh ov seen xs=Wh ov' seen xs
 | [],_,_,_=>rfl
 | x :: xs,seen,h1,h2=>by
  have hx:=h1 x Ql
  rw [Wh,Wh,Yu (fun y hy=>h x y hx (h2 y hy)),Qhc h xs (seen++[x]) (fun y hy=>h1 y (Qi _ hy)) (fun y hy=>by
   rcases Q6.1 hy with hy | hy
   ·exact h2 y hy
   ·rw [Qw.1 hy]; exact hx)]
theorem Qku {α:Type} [Inhabited α] (xs:List α) (p:α->Bool) (i:Nat) (h:i<=xs.length):anyF (fun k=>p (xs.getD k default)) 0 i=(xs.take i).any p:=by
 have hl:(xs.take i).length=i:=by rw [R4]; omega
 have h1:=Jg (xs.take i) p i 0 uu0
 rw [Rm] at h1
 rw [<- h1]
 have:∀ (m k:Nat),k+m=i->anyF (fun k=>p (xs.getD k default)) k m=anyF (fun k=>p ((xs.take i).getD k default)) k m:=by
  intro m
  induction m with
  | zero=>intro k _; rfl
  | succ m ih =>
   intro k hk
   rw [anyF,anyF,ih (k+1) uu0]
   congr 2
   rw [Qd,Qd,Rd,if_pos uu0]
 exact this i 0 uu0
theorem Qoz (L:Int) (h0:0<=L) (h1:L<=16):F204 L=((2 ^ (16-L.toNat):Nat):Int):=by
 have h3:L=0\/L=1\/L=2\/L=3\/L=4\/L=5\/L=6\/L=7\/L=8\/L=9\/L=10\/L=11\/L=12\/L=13\/L=14\/L=15\/L=16:=by omega
 rcases h3 with rfl | rfl | rfl | rfl | rfl | rfl | rfl | rfl | rfl | rfl | rfl | rfl | rfl | rfl | rfl | rfl | rfl <;> exact Qb rfl
theorem Qmm (a L x:Int) (ha:0<=a/\a<=65535) (hL:0<=L/\L<=16):F168 (⟨a,L⟩:Ub) x=decide (a<=x/\x<a+F204 L):=by
 unfold F168 F198
 have hs:=Qlu L hL.1 hL.2
 have e:F207 (⟨a,L⟩:Ub)=F204 L:=Qio a L hL.1 hL.2
 rw [e]
 simp only
 have w1:IntKind.i64.wrap (a+F204 L)=a+F204 L:=Wg uu0 uu0
 have w2:IntKind.i64.wrap (a+F204 L-1)=a+F204 L-1:=Wg uu0 uu0
 rw [w1,w2]
 exact S4.2 uu0
theorem Qoc (a b n m c:Int) (hm:1<=m) (hn:n=m*c) (ha:n ∣ a) (hb:m ∣ b) (h:a<b+m):a<=b:=by
 obtain ⟨x,rfl⟩:=ha
 obtain ⟨y,rfl⟩:=hb
 subst hn
 have h1:m*(c*x)<m*(y+1):=by rw [Int.mul_add,Int.mul_one,<- Int.mul_assoc]; exact h
 have h2:c*x<y+1:=Int.lt_of_mul_lt_mul_left h1 uu0
 rw [Int.mul_assoc]
 exact Int.mul_le_mul_of_nonneg_left uu0 uu0
theorem Qov (L M:Int) (h:0<=L/\L<=M/\M<=16):∃ c:Int,F204 L=F204 M*c:=by
 rw [Qoz L h.1 uu0,Qoz M uu0 h.2.2]
 refine ⟨((2 ^ (M.toNat-L.toNat):Nat):Int),?_⟩
 rw [<- Int.natCast_mul,<- Nat.pow_add]
 congr 2
 omega
theorem Ubq {l:List UInt8} {a n:Int} (h:pfxL l=some (a,n)):F204 n ∣ a/\0<=a/\a<=65535/\0<=n/\n<=16:=by
 have hb:=Qli h
 refine ⟨?_,hb⟩
 unfold pfxL at h
 match hs:Uz 47 l,h with
 | [x,y],h =>
  rw [pfx2] at h
  cases hc:decide (0<=Kv x)&&(in16 (num6 y)&&((Kv x).tmod (F204 (num6 y))==0)) with
  | false=>rw [hc] at h; cases h
  | true =>
   rw [hc] at h
   simp only [Qc,Qa,Q3] at h
   obtain ⟨rfl,rfl⟩:=h
   simp only [Qo,Sy] at hc
   exact Int.dvd_of_tmod_eq_zero hc.2.2
 | [],h=>cases h
 | [x],h=>cases h
 | x :: y :: z :: r,h=>cases h
theorem Ek (s:Za) (h:F202 s=true):∃ a L:Int,F169 s=((⟨a,L⟩:Ub),true)/\F189 s=(a,F204 L)/\F204 L ∣ a/\(0<=a/\a<=65535)/\(0<=L/\L<=16)/\1<=F204 L/\F204 L<=65536:=by
 rw [Ev] at h
 cases hp:pfxL s.data.toList with
 | none=>rw [hp] at h; cases h
 | some q =>
  obtain ⟨a,L⟩:=q
  have hd:=Ubq hp
  have hs:=Qlu L hd.2.2.2.1 hd.2.2.2.2
  exact ⟨a,L,by rw [Nb,hp],by rw [Qhs,hp],hd.1,⟨hd.2.1,hd.2.2.1⟩,hd.2.2.2,hs⟩
def ovI (x y:Za):Bool:=F163 (F169 x).1 (F169 y).1 || F163 (F169 y).1 (F169 x).1
def ovS (x y:Za):Bool:=decide ((F189 x).1<IntKind.i64.wrap ((F189 y).1+(F189 y).2))&&decide ((F189 y).1<IntKind.i64.wrap ((F189 x).1+(F189 x).2))
theorem Ujx (x y:Za) (hx:F202 x=true) (hy:F202 y=true):ovI x y=ovS x y:=by
 obtain ⟨a,L,e1,e2,d1,b1,c1,s1⟩:=Ek x hx
 obtain ⟨b,M,f1,f2,d2,b2,c2,s2⟩:=Ek y hy
 unfold ovI ovS F163
 rw [e1,e2,f1,f2]
 simp only [Qmm _ _ _ b1 c1,Qmm _ _ _ b2 c2,cb1]
 rw [Wg uu0 uu0,Wg uu0 uu0,<- Sp,<- Sp,<- Sp,<- Bool.decide_or]
 refine S4.2 ⟨fun h=>?_,fun h=>?_⟩
 ·rcases h with h | h <;> omega
 ·rcases Int.le_total L M with hl | hl
  ·obtain ⟨c,hc⟩:=Qov L M ⟨c1.1,hl,c2.2⟩
   exact .inr ⟨hl,Qoc a b _ _ c s2.1 hc d1 d2 h.1,h.2⟩
  ·obtain ⟨c,hc⟩:=Qov M L ⟨c2.1,hl,c1.2⟩
   exact .inl ⟨hl,Qoc b a _ _ c s1.1 hc d2 d1 h.2,h.1⟩
theorem Qsm (lines:List Za):F123 lines=Wh (fun p q=>F163 p q || F163 q p) [] (Ul lines):=by
 unfold F123
 have:=Kg (Xk lines) (Ul lines).length (fun i=>((Ul lines).take i).any (fun q=>F163 ((Ul lines).getD i default) q || F163 q ((Ul lines).getD i default))) true (fun r=>r) false (fun i hi=>by
  simp only [Xk,ltD hi,Qc,nn]
  exact anyL ((Ul lines).take i) (fun q=>F163 ((Ul lines).getD i default) q || F163 q ((Ul lines).getD i default)) true (Xv lines (i:Int)) (fun j hj=>by
   simp only [Xv,nn,ltD hj,Qc,cb2]; rfl) (by simp only [Xv,nn,geD,Qe]) Lp.ret _ _ (fun _=>rfl)) (by simp only [Xk,geD,Qe]) (Ul lines).length 0 uu0 (Int.toNat (((Ul lines).length:Int)-0)+1) uu0
 rw [Bq (fun p q=>F163 p q || F163 q p) (Ul lines) (Ul lines).length 0 uu0,Tv,Rm] at this
 refine Eq.trans this ?_
 cases Wh (fun p q=>F163 p q || F163 q p) [] (Ul lines) <;> rfl
theorem Ude (all:List l52Cut):F155 all=!Wh (fun c e=>hdB c.w Ka&&(hdB e.w Ka&&ovS (c.w.getD 2 default) (e.w.getD 2 default))) [] all:=by
 unfold F155
 have:=Kg (Xh all) all.length (fun i=>(all.take i).any (fun e=>hdB (all.getD i default).w Ka&&(hdB e.w Ka&&ovS ((all.getD i default).w.getD 2 default) (e.w.getD 2 default)))) false (fun r=>r) true (fun i hi=>by
  simp only [Xh,ltD hi,Qc]
  have h1:=Kg (Xx all (i:Int)) i (fun k=>hdB (all.getD i default).w Ka&&(hdB (all.getD k default).w Ka&&ovS ((all.getD i default).w.getD 2 default) ((all.getD k default).w.getD 2 default))) false (Lp.ret:Bool->Lp Int Bool) (.next ((i+1:Nat):Int)) (fun k hk=>by
   simp only [Xx,ltD hk,Qc,nn,at0,at2,blit,cb1,cb2]
   show (bif (!(hdB (all.getD i default).w Ka) || !(hdB (all.getD k default).w Ka)) then _ else (bif ovS ((all.getD i default).w.getD 2 default) ((all.getD k default).w.getD 2 default) then _ else _))=_
   cases hdB (all.getD i default).w Ka <;> cases hdB (all.getD k default).w Ka <;> cases ovS ((all.getD i default).w.getD 2 default) ((all.getD k default).w.getD 2 default) <;> rfl) (by
   simp only [Xx,Qk (show ¬ (i:Int)<(i:Int) by omega),Qe]) i 0 uu0 (Int.toNat ((i:Int)-0)+1) uu0
  rw [Qku all (fun e=>hdB (all.getD i default).w Ka&&(hdB e.w Ka&&ovS ((all.getD i default).w.getD 2 default) (e.w.getD 2 default))) i uu0] at h1
  exact h1) (by simp only [Xh,geD,Qe]) all.length 0 uu0 (Int.toNat ((all.length:Int)-0)+1) uu0
 rw [Bq (fun c e=>hdB c.w Ka&&(hdB e.w Ka&&ovS (c.w.getD 2 default) (e.w.getD 2 default))) all all.length 0 uu0,Tv,Rm] at this
 refine Eq.trans this ?_
 cases Wh (fun (c e:l52Cut)=>hdB c.w Ka&&(hdB e.w Ka&&ovS (c.w.getD 2 default) (e.w.getD 2 default))) [] all <;> rfl
theorem Qng (lines:List Za) (h:F23 lines=0):F123 lines=!F155 ((wsL lines).map l52Cut.mk):=by
 rw [Ude,Bool.not_not,Qsm]
 have e1:=Qfd l52Cut.mk (fun (c e:l52Cut)=>hdB c.w Ka&&(hdB e.w Ka&&ovS (c.w.getD 2 default) (e.w.getD 2 default))) (wsL lines) []
 rw [G3] at e1
 rw [e1]
 have e2:=Lc (fun w:List Za=>hdB w Ka) (fun w v=>ovS (w.getD 2 default) (v.getD 2 default)) (wsL lines) []
 refine Eq.trans ?_ e2.symm
 have e3:=Qfd (fun w:List Za=>(F169 (w.getD 2 default)).1) (fun p q=>F163 p q || F163 q p) (Ua lines Zd) []
 rw [G3] at e3
 have e4:Ul lines=(Ua lines Zd).map (fun w:List Za=>(F169 (w.getD 2 default)).1):=rfl
 rw [e4,e3,Kw lines h]
 refine Qhc (Q:=fun w=>Xy w) (fun w v hw hv=>Ujx _ _ (by unfold Xy at hw; exact hw.2.2.2.2) (by unfold Xy at hv; exact hv.2.2.2.2)) _ [] (fun w hw=>?_) (fun w hw=>by cases hw)
 obtain ⟨h1,h2⟩:=Tm.1 hw
 exact Qdn (Qdi lines h w h1) (eq_of_beq h2)
def Ubk (w:List Za) (addr:Int):Bool:=hdB w Ka&&(decide (addr>(F189 (w.getD 2 default)).1)&&decide (addr<IntKind.i64.wrap ((F189 (w.getD 2 default)).1+(F189 (w.getD 2 default)).2)))
theorem Ujl (all:List l52Cut) (addr:Int):F190 all addr=all.any fun c=>Ubk c.w addr:=by
 unfold F190
 have:=anyL all (fun c=>Ubk c.w addr) true (Xu all addr) (fun i hi=>by
  simp only [Xu,ltD hi,Qc,nn,at0,at2,blit,cb1]
  show (bif hdB (all.getD i default).w Ka then (bif _ then _ else _) else _)=bif (hdB (all.getD i default).w Ka&&_) then _ else _
  cases hdB (all.getD i default).w Ka <;> rfl) (by simp only [Xu,geD,Qe]) (fun r=>r) (fun i40=>false) false (fun _=>rfl)
 refine this.trans ?_
 cases all.any (fun c=>Ubk c.w addr) <;> rfl
theorem Udu (all:List l52Cut):F156 all=!all.any fun c=>(hdB c.w Qfg&&!F190 all (F191 (c.w.getD 2 default))) || (hdB c.w Qjq&&!F190 all (F191 (c.w.getD 1 default))):=by
 unfold F156
 have:=anyL all (fun c=>(hdB c.w Qfg&&!F190 all (F191 (c.w.getD 2 default))) || (hdB c.w Qjq&&!F190 all (F191 (c.w.getD 1 default)))) false (Xg all) (fun i hi=>by
  simp only [Xg,ltD hi,Qc,nn,at0,at1,at2,blit]
  show (bif hdB (all.getD i default).w Qfg then (bif !F190 all (F191 ((all.getD i default).w.getD 2 default)) then _ else _) else (bif hdB (all.getD i default).w Qjq then (bif !F190 all (F191 ((all.getD i default).w.getD 1 default)) then _ else _) else _))=_
  cases hr:hdB (all.getD i default).w Qfg with
  | true =>
   have hp:hdB (all.getD i default).w Qjq=false:=by
    rw [hdB,Sy] at hr
    rw [hdB,hr]; decide
   rw [hp]
   cases (!F190 all (F191 ((all.getD i default).w.getD 2 default))) <;> rfl
  | false=>cases hdB (all.getD i default).w Qjq <;> cases (!F190 all (F191 ((all.getD i default).w.getD 1 default))) <;> rfl) (by simp only [Xg,geD,Qe]) (fun r=>r) (fun i40=>true) true (fun _=>rfl)
 refine this.trans ?_
 cases all.any _ <;> rfl
theorem Qif (lines:List Za):F124 lines=(((Ua lines Zh).map fun w=>w.getD 2 default)++((Ua lines Zg).map fun w=>w.getD 1 default)).any fun x0=>F164 x0 (Ul lines):=by
 have h0:Mb lines=Lp.done ((Ua lines Zh).map fun w=>w.getD 2 default):=by
  unfold Mb
  have:=Ks (Ua lines Zh) (fun (s:List Za) w=>s++[w.getD 2 default]) (fun s i=>(s,i)) (Xn lines) (fun i s hi=>by
   simp only [Xn,ltD hi,Qc,nn]; rfl) (fun s=>by simp only [Xn,geD,Qe]) Lp.ret (fun (addrs1,v13)=>Lp.done addrs1) []
  refine this.trans ?_
  rw [Jh,R3]
 have h1:∀ a,He lines a=Lp.done (a++(Ua lines Zg).map fun w=>w.getD 1 default):=fun a=>by
  unfold He
  have:=Ks (Ua lines Zg) (fun (s:List Za) w=>s++[w.getD 1 default]) (fun s i=>(s,i)) (Xz lines a) (fun i s hi=>by
   simp only [Xz,ltD hi,Qc,nn]; rfl) (fun s=>by simp only [Xz,geD,Qe]) Lp.ret (fun (addrs3,v27)=>Lp.done addrs3) a
  refine this.trans ?_
  rw [Jh]
 unfold F124
 rw [h0]
 show (He lines _).fin _ _=_
 rw [h1]; rfl
theorem Qkk (lines:List Za) (h:F23 lines=0) (t:Za):F164 t (Ul lines)=!F190 ((wsL lines).map l52Cut.mk) (F191 t):=by
 rw [Ujl,Lm]
 unfold F164
 rw [Qbh]
 congr 1
 have e4:Ul lines=(Ua lines Zd).map (fun w:List Za=>(F169 (w.getD 2 default)).1):=rfl
 rw [e4,Gq,Kw lines h,Tn]
 refine Yu fun w hw=>?_
 show (hdB w Ka&&_)=(hdB w Ka&&_)
 cases hp:hdB w Ka with
 | false=>rfl
 | true =>
  have hpp:=Qdn (Qdi lines h w hw) (eq_of_beq hp)
  obtain ⟨a,L,e1,e2,d1,b1,c1,s1⟩:=Ek (w.getD 2 default) (by unfold Xy at hpp; exact hpp.2.2.2.2)
  rw [Sc,Sc]
  show F167 (F169 (w.getD 2 default)).1 (F191 t)=_
  unfold F167
  rw [e1,e2,Qmm _ _ _ b1 c1,cb1,Wg (by simp only; omega) (by simp only; omega),neI]
  simp only
  rw [<- decide_not,<- Sp,<- Sp]
  exact S4.2 uu0
theorem Qdh (lines:List Za) (h:F23 lines=0):F124 lines=!F156 ((wsL lines).map l52Cut.mk):=by
 rw [Udu,Bool.not_not,Lm,Qif,List.any_append,Qqt,Gq,Gq,Kw lines h,Kw lines h,Tn,Tn]
 congr 1
 ·refine Yu fun w hw=>?_
  show (hdB w Qfg&&F164 (w.getD 2 default) (Ul lines))=_
  rw [Qkk lines h]
 ·refine Yu fun w hw=>?_
  show (hdB w Qjq&&F164 (w.getD 1 default) (Ul lines))=_
  rw [Qkk lines h]
theorem Qgg {α ρ τ:Type} [Inhabited α] (xs:List α) (P:α->Bool) (B:Nat->Bool) (bad:ρ) (step:Int×Int->Lp (Int×Int) ρ)
  (h1:∀ (i:Nat) (n:Int),i<xs.length->step (n,(i:Int))=bif P (xs.getD i default) then (bif B i then .ret bad else .next (n+1,((i+1:Nat):Int))) else .next (n,((i+1:Nat):Int)))
  (h2:∀ n:Int,step (n,(xs.length:Int))=.done (n,(xs.length:Int))) (f:ρ->τ) (g:Int×Int->τ) :
  ∀ (m i:Nat) (n:Int),i+m=xs.length->∀ fuel,m<fuel->(runL step fuel (n,(i:Int))).fin f g=bif anyF (fun i=>P (xs.getD i default)&&B i) i m then f bad else g (n+(((xs.drop i).filter P).length:Int),(xs.length:Int))
 | m,i,_,_,0,hf=>absurd hf (Sq _)
 | 0,i,n,h,fuel+1,hf=>by
  obtain rfl:i=xs.length:=by omega
  rw [Vb _ (h2 n),Q7 (Qq _)]
  show g _=g _
  simp
 | m+1,i,n,h,fuel+1,hf=>by
  have hst:=h1 i n uu0
  have hd:xs.drop i=xs.getD i default :: xs.drop (i+1):=by
   rw [Rg (show i<xs.length by omega),Qd,Qh (show i<xs.length by omega)]; rfl
  rw [anyF,hd]
  cases hp:P (xs.getD i default) with
  | false =>
   rw [hp,Qe] at hst
   rw [Kc _ hst,Qgg xs P B bad step h1 h2 f g m (i+1) _ uu0 fuel uu0,Sm (by rw [hp]; exact Tg)]
   simp
  | true =>
   rw [hp,Qc] at hst
   rw [Sc]
   cases hb:B i with
   | true=>rw [hb,Qc] at hst; rw [Wm _ hst]; rfl
   | false =>
    rw [hb,Qe] at hst
    rw [Kc _ hst,Qgg xs P B bad step h1 h2 f g m (i+1) _ uu0 fuel uu0,Sn hp,Ga,Q4]
    congr 2
    rw [Int.natCast_add,Int.add_assoc,Int.add_comm (1:Int)]; rfl
theorem Qrl {α:Type} [Inhabited α] (p:α->Bool) (xs:List α):(idxI p xs<0↔xs.filter p=[])/\(0<=idxI p xs->xs.getD (idxI p xs).toNat default=(xs.filter p).getD 0 default):=by
 unfold idxI
 cases h:first (fun k=>p (xs.getD k default)) xs.length with
 | none =>
  have h1:=first_none.1 h
  refine ⟨⟨fun _=>?_,fun _=>by decide⟩,fun h=>absurd h uu2⟩
  rw [List.filter_eq_nil_iff]
  intro x hx
  obtain ⟨k,hk,rfl⟩:=Pq hx
  rw [h1 k hk]; exact Tg
 | some k =>
  obtain ⟨h1,h2,h3⟩:=first_some.1 h
  have hs:xs.filter p=xs.getD k default :: (xs.drop (k+1)).filter p:=by
   have e:xs=xs.take k++xs.getD k default :: xs.drop (k+1):=by
    rw [Jo _ h1,<- Rg h1,R6]
   have h4:(xs.take k).filter p=[]:=by
    rw [List.filter_eq_nil_iff]
    intro x hx
    obtain ⟨j,hj,rfl⟩:=Pq hx
    have hl:j<k:=by rw [R4] at hj; omega
    rw [Qd,Rd,if_pos hl,<- Qd]
    rw [h3 j hl]; exact Tg
   conv=>lhs; rw [e]
   rw [Tu,h4,R3,Sn h2]
  refine ⟨⟨fun h=>absurd h (by show ¬ ((k:Int)<0); omega),fun h=>by rw [hs] at h; cases h⟩,fun _=>?_⟩
  rw [hs]
  show xs.getD (k:Int).toNat default=xs.getD k default
  rw [nn]
theorem Qkx (p q:Nat->Bool):∀ (m i:Nat),anyF (fun k=>p k || q k) i m=(anyF p i m || anyF q i m)
 | 0,_=>rfl
 | m+1,i=>by
  rw [anyF,anyF,anyF,Qkx p q m (i+1)]
  cases p i <;> cases q i <;> simp
theorem Qgb {p q:Nat->Bool}:∀ (m i:Nat),(∀ k,i<=k->k<i+m->p k=q k)->anyF p i m=anyF q i m
 | 0,_,_=>rfl
 | m+1,i,h=>by rw [anyF,anyF,h i (Qq _) uu0,Qgb m (i+1) fun k h1 h2=>h k uu0 uu0]
def badD (a n lo hi:Int) (d:List Za):Bool:=(decide (F191 (d.getD 3 default)<a) || decide (F191 (d.getD 3 default)>=a+n)) || decide (lo<=F194 (d.getD 2 default)/\F194 (d.getD 2 default)<=hi)
def Bt (x y:List Za):Bool:=(((y.getD 1 default).toList==(x.getD 1 default).toList)&&((y.getD 3 default).toList==(x.getD 3 default).toList))&&((y.getD 4 default).toList==(x.getD 4 default).toList)
theorem Umt (all:List l52Cut) (i:Nat) (hi:i<all.length) (nat:l52Cut) (a n:Int) (hp:F189 (nat.w.getD 1 default)=(a,n)) (hb:0<=a/\a<=65535/\1<=n/\n<=65536) :
  F193 all (i:Int) nat=!(badD a n (F194 (nat.w.getD 3 default)) (F194 (nat.w.getD 4 default)) (all.getD i default).w || (all.take i).any fun e=>hdB e.w Yl&&Bt (all.getD i default).w e.w):=by
 unfold F193
 simp only [at1,at2,at3,at4,nn,hp,cb2]
 rw [Wg uu0 uu0]
 have h1:=Kg (Xe all (i:Int) nat) i (fun k=>hdB (all.getD k default).w Yl&&Bt (all.getD i default).w (all.getD k default).w) false (fun r=>r) true (fun k hk=>by
  simp only [Xe,ltD hk,Qc,nn,at0,at1,at3,at4,cb1]
  show (bif (((_&&_)&&_)&&_) then _ else _)=bif (hdB (all.getD k default).w Yl&&((_&&_)&&_)) then _ else _
  rw [blit,Sz,Sz,Sz]; rfl) (by simp only [Xe,Qk (show ¬ (i:Int)<(i:Int) by omega),Qe]) i 0 uu0 (Int.toNat ((i:Int)-0)+1) uu0
 rw [Qku all (fun e=>hdB e.w Yl&&Bt (all.getD i default).w e.w) i uu0] at h1
 rw [Bool.not_or]
 show (bif badD a n _ _ _ then false else _)=_
 refine (Qt (fun z=>bif badD a n (F194 (nat.w.getD 3 default)) (F194 (nat.w.getD 4 default)) (all.getD i default).w then false else z) h1).trans ?_
 cases badD a n (F194 (nat.w.getD 3 default)) (F194 (nat.w.getD 4 default)) (all.getD i default).w <;> cases ((all.take i).any fun e=>hdB e.w Yl&&Bt (all.getD i default).w e.w) <;> rfl
def Qme (a n lo hi:Int) (ds:List (List Za)):Bool:=ds.any (badD a n lo hi) || Wh Bt [] ds
theorem Qic (ws:List (List Za)):F157 (ws.map l52Cut.mk)=match ws.filter (fun w=>hdB w hNat) with
  | []=>!(ws.any fun w=>hdB w Yl)
  | w :: _=>bif anyF (fun i=>hdB ((ws.map l52Cut.mk).getD i default).w Yl&&!F193 (ws.map l52Cut.mk) (i:Int) ⟨w⟩) 0 ws.length then false else
    ((decide (((ws.filter fun w=>hdB w Yl).length:Int)<=6)&&(decide (F191 (w.getD 2 default)<(F189 (w.getD 1 default)).1) || decide (F191 (w.getD 2 default)>=IntKind.i64.wrap ((F189 (w.getD 1 default)).1+(F189 (w.getD 1 default)).2))))&&decide (F194 (w.getD 3 default)<=F194 (w.getD 4 default))):=by
 generalize hall:ws.map l52Cut.mk=all
 have hlen:all.length=ws.length:=by rw [<- hall,Sk]
 have hidx:=Qrl (fun c=>((F187 c 0).toList==Zc.toList)) all
 have hnf:all.filter (fun c=>((F187 c 0).toList==Zc.toList))=(ws.filter fun w=>hdB w hNat).map l52Cut.mk:=by
  rw [<- hall,Gv]
  congr 2
  funext w
  show ((F187 ⟨w⟩ 0).toList==_)=_
  rw [at0,blit]; rfl
 rw [hnf] at hidx
 have hdf:all.filter (fun c=>hdB c.w Yl)=(ws.filter fun w=>hdB w Yl).map l52Cut.mk:=by
  rw [<- hall,Gv]; rfl
 have e211:F192 all=idxI (fun c=>((F187 c 0).toList==Zc.toList)) all:=as192 all
 unfold F157
 generalize hk:idxI (fun c=>((F187 c 0).toList==Zc.toList)) all=k at hidx
 have hloop:=Qgg all (fun c=>hdB c.w Yl) (fun i=>decide (k<0) || !F193 all (i:Int) (all.getD (Int.toNat k) default)) false (Xp all) (fun i n hi=>by
  simp only [Xp,ltD hi,Qc,nn,hk,e211]
  simp only [at0,blit,cb2]
  show (bif !(hdB (all.getD i default).w Yl) then _ else _)=bif hdB (all.getD i default).w Yl then _ else _
  cases hdB (all.getD i default).w Yl <;> rfl) (fun n=>by simp only [Xp,geD,Qe]) (fun r=>r)
  (fun (doors,i40)=>bif (decide (k<0)) then true else (((decide (doors<=6)&&(decide (F191 ((all.getD k.toNat default).w.getD 2 default)<(F189 ((all.getD k.toNat default).w.getD 1 default)).1) || decide (F191 ((all.getD k.toNat default).w.getD 2 default)>=IntKind.i64.wrap ((F189 ((all.getD k.toNat default).w.getD 1 default)).1+(F189 ((all.getD k.toNat default).w.getD 1 default)).2)))))&&decide (F194 ((all.getD k.toNat default).w.getD 3 default)<=F194 ((all.getD k.toNat default).w.getD 4 default)))) all.length 0 0 uu0 (Int.toNat ((all.length:Int)-0)+1) uu0
 simp only [hk,e211]
 simp only [at1,at2,at3,at4,cb1,cb2]
 refine Eq.trans hloop ?_
 rw [Rm,hdf,Sk,hlen]
 cases hn:ws.filter (fun w=>hdB w hNat) with
 | nil =>
  rw [hn] at hidx
  have hk0:=hidx.1.2 rfl
  simp only [Qs hk0,Bool.true_or,R7,Qc]
  have:=Jg all (fun c=>hdB c.w Yl) all.length 0 uu0
  rw [Rm,hlen] at this
  rw [this,<- hall,Gq]
  show (bif ws.any (fun w=>hdB w Yl) then false else true)=!ws.any fun w=>hdB w Yl
  cases ws.any fun w=>hdB w Yl <;> rfl
 | cons w r =>
  rw [hn] at hidx
  have hk0:¬ k<0:=fun h=>by have:=hidx.1.1 h; cases this
  have hw:all.getD k.toNat default=⟨w⟩:=(hidx.2 uu0).trans rfl
  simp only [Qk hk0,Ga,Qe,hw]
  rw [Int.zero_add]
theorem Qpx (lines:List Za) (w:List Za) (r:List (List Za)) (hn:Ua lines Zc=w :: r) :
  F125 lines=(((F168 (F169 (w.getD 1 default)).1 (F165 (w.getD 2 default)) || decide (F170 (w.getD 3 default)>F170 (w.getD 4 default))) || decide (((Ua lines Zb).length:Int)>6)) ||
   ((Ua lines Zb).any (fun d=>!F168 (F169 (w.getD 1 default)).1 (F165 (d.getD 3 default)) || decide (F170 (w.getD 3 default)<=F170 (d.getD 2 default)/\F170 (d.getD 2 default)<=F170 (w.getD 4 default))) || Wh Bt [] (Ua lines Zb))):=by
 unfold F125
 have e0:((Ua lines Zc).getD (Int.toNat 0) default)=w:=by rw [hn]; rfl
 have hl:((((Ua lines Zc).length:Int)==0))=false:=by rw [hn,Qz,Q4]; omega
 rw [hl,Qe]
 simp only [e0,cb2]
 generalize hds:Ua lines Zb=ds
 have hloop:=Kg (Xw lines) ds.length (fun i=>(!F168 (F169 (w.getD 1 default)).1 (F165 ((ds.getD i default).getD 3 default)) || decide (F170 (w.getD 3 default)<=F170 ((ds.getD i default).getD 2 default)/\F170 ((ds.getD i default).getD 2 default)<=F170 (w.getD 4 default))) || (ds.take i).any (Bt (ds.getD i default))) true (fun r=>r) false (fun i hi=>by
  simp only [Xw,hds,ltD hi,Qc,nn,e0,cb2]
  have h1:=anyL (ds.take i) (Bt (ds.getD i default)) true (Xt lines (i:Int)) (fun j hj=>by
   simp only [Xt,hds,nn,ltD hj,Qc,cb1]; rfl) (by simp only [Xt,hds,nn,geD,Qe]) (Lp.ret:Bool->Lp Int Bool) (fun v89=>.next ((i:Int)+1)) (.next ((i:Int)+1)) (fun _=>rfl)
  rw [h1]
  show (bif (!F168 (F169 (w.getD 1 default)).1 (F165 ((ds.getD i default).getD 3 default)) || decide (F170 (w.getD 3 default)<=F170 ((ds.getD i default).getD 2 default)/\F170 ((ds.getD i default).getD 2 default)<=F170 (w.getD 4 default))) then _ else _)=_
  cases (!F168 (F169 (w.getD 1 default)).1 (F165 ((ds.getD i default).getD 3 default)) || decide (F170 (w.getD 3 default)<=F170 ((ds.getD i default).getD 2 default)/\F170 ((ds.getD i default).getD 2 default)<=F170 (w.getD 4 default))) <;> cases ((ds.take i).any (Bt (ds.getD i default))) <;> rfl) (by simp only [Xw,hds,geD,Qe]) ds.length 0 uu0 (Int.toNat ((ds.length:Int)-0)+1) uu0
 rw [Qkx,Bq Bt ds ds.length 0 uu0,Tv,Rm] at hloop
 have h2:=Jg ds (fun d=>(!F168 (F169 (w.getD 1 default)).1 (F165 (d.getD 3 default)) || decide (F170 (w.getD 3 default)<=F170 (d.getD 2 default)/\F170 (d.getD 2 default)<=F170 (w.getD 4 default)))) ds.length 0 uu0
 rw [Rm] at h2
 rw [h2] at hloop
 refine (Qt (fun z=>bif ((F168 (F169 (w.getD 1 default)).1 (F165 (w.getD 2 default)) || decide (F170 (w.getD 3 default)>F170 (w.getD 4 default))) || decide ((ds.length:Int)>6)) then true else z) hloop).trans ?_
 rw [cb2]
 congr 1
 cases ((ds.any fun d=>!F168 (F169 (w.getD 1 default)).1 (F165 (d.getD 3 default)) || decide (F170 (w.getD 3 default)<=F170 (d.getD 2 default)/\F170 (d.getD 2 default)<=F170 (w.getD 4 default))) || Wh Bt [] ds) <;> rfl
theorem Qia (lines:List Za) (h:F23 lines=0):F125 lines=!F157 ((wsL lines).map l52Cut.mk):=by
 rw [Qic]
 have hN:Ua lines Zc=(wsL lines).filter fun w=>hdB w hNat:=Kw lines h _
 have hD:Ua lines Zb=(wsL lines).filter fun w=>hdB w Yl:=Kw lines h _
 cases hn:(wsL lines).filter fun w=>hdB w hNat with
 | nil =>
  rw [hn] at hN
  unfold F125
  rw [hN,hD]
  show decide ((((wsL lines).filter fun w=>hdB w Yl).length:Int)>0)=!!_
  rw [Bool.not_not,Gu,Ry,R5]
  constructor
  ·intro hl
   have hl:0<((wsL lines).filter fun w=>hdB w Yl).length:=by omega
   have:=Tm.1 (Gp hl)
   exact ⟨_,this.1,this.2⟩
  ·rintro ⟨x,hx,hp⟩
   have:=List.length_pos_of_mem (Tm.2 ⟨hx,hp⟩:x∈(wsL lines).filter fun w=>hdB w Yl)
   omega
 | cons w r =>
  have hwm:w∈(wsL lines).filter fun w=>hdB w hNat:=by rw [hn]; exact Ql
  rw [hn] at hN
  obtain ⟨hw1,hw2⟩:=Tm.1 hwm
  have hnp:=Ugj (Qdi lines h w hw1) (eq_of_beq hw2)
  unfold natP at hnp
  obtain ⟨a,L,e1,e2,d1,b1,c1,s1⟩:=Ek (w.getD 1 default) hnp.2.2.1
  rw [Qpx lines w r hN]
  simp only [e1,e2,Qmm _ _ _ b1 c1,Qcx,Qbh]
  rw [Wg uu0 uu0,hD]
  have hdoor:anyF (fun i=>hdB (((wsL lines).map l52Cut.mk).getD i default).w Yl&&!F193 ((wsL lines).map l52Cut.mk) (i:Int) ⟨w⟩) 0 (wsL lines).length=Qme a (F204 L) (F194 (w.getD 3 default)) (F194 (w.getD 4 default)) ((wsL lines).filter fun w=>hdB w Yl):=by
   have hc:=Qgb (p:=fun i=>hdB (((wsL lines).map l52Cut.mk).getD i default).w Yl&&!F193 ((wsL lines).map l52Cut.mk) (i:Int) ⟨w⟩) (q:=fun i=>(hdB ((wsL lines).getD i default) Yl&&badD a (F204 L) (F194 (w.getD 3 default)) (F194 (w.getD 4 default)) ((wsL lines).getD i default)) || ((wsL lines).take i).any (fun e=>hdB ((wsL lines).getD i default) Yl&&(hdB e Yl&&Bt ((wsL lines).getD i default) e))) (wsL lines).length 0 (fun k _ hk=>by
    have hk:k<(wsL lines).length:=by omega
    have hg:((wsL lines).map l52Cut.mk).getD k default=⟨(wsL lines).getD k default⟩:=Qjn _ _ _ hk
    rw [Umt _ k (by simpa using hk) ⟨w⟩ a _ e2 ⟨b1.1,b1.2,s1⟩,Bool.not_not,hg,<- List.map_take,Lm]
    show (hdB ((wsL lines).getD k default) Yl&&_)=_
    cases hdB ((wsL lines).getD k default) Yl with
    | true=>simp only [Sc]
    | false =>
     simp only [Sr]
     rw [show ((wsL lines).take k).any (fun _=>false)=false by simp]; rfl)
   rw [hc,Qkx,Bq (fun x e=>hdB x Yl&&(hdB e Yl&&Bt x e)) (wsL lines) (wsL lines).length 0 uu0,Tv,Rm,Lc]
   have h3:=Jg (wsL lines) (fun d=>hdB d Yl&&badD a (F204 L) (F194 (w.getD 3 default)) (F194 (w.getD 4 default)) d) (wsL lines).length 0 uu0
   rw [Rm] at h3
   rw [h3]
   unfold Qme
   rw [Tn]; rfl
  rw [hdoor]
  have hbd:((wsL lines).filter fun w=>hdB w Yl).any (fun d=>!decide (a<=F191 (d.getD 3 default)/\F191 (d.getD 3 default)<a+F204 L) || decide (F194 (w.getD 3 default)<=F194 (d.getD 2 default)/\F194 (d.getD 2 default)<=F194 (w.getD 4 default)))=((wsL lines).filter fun w=>hdB w Yl).any (badD a (F204 L) (F194 (w.getD 3 default)) (F194 (w.getD 4 default))):=Yu fun d _=>by
   unfold badD
   congr 1
   rw [<- decide_not,<- Bool.decide_or]
   exact S4.2 uu0
  rw [hbd]
  show (_ || Qme a (F204 L) (F194 (w.getD 3 default)) (F194 (w.getD 4 default)) ((wsL lines).filter fun w=>hdB w Yl))=_
  have g1:decide (a<=F191 (w.getD 2 default)/\F191 (w.getD 2 default)<a+F204 L)=!(decide (F191 (w.getD 2 default)<a) || decide (F191 (w.getD 2 default)>=a+F204 L)):=by
   rw [<- Bool.decide_or,<- decide_not]
   exact S4.2 uu0
  have g2:decide (F194 (w.getD 3 default)>F194 (w.getD 4 default))=!decide (F194 (w.getD 3 default)<=F194 (w.getD 4 default)):=by
   rw [<- decide_not]
   exact S4.2 uu0
  have g3:decide ((((wsL lines).filter fun w=>hdB w Yl).length:Int)>6)=!decide ((((wsL lines).filter fun w=>hdB w Yl).length:Int)<=6):=by
   rw [<- decide_not]
   exact S4.2 uu0
  rw [g1,g2,g3]
  generalize (decide (F191 (w.getD 2 default)<a) || decide (F191 (w.getD 2 default)>=a+F204 L))=x1,decide (F194 (w.getD 3 default)<=F194 (w.getD 4 default))=x2,decide ((((wsL lines).filter fun w=>hdB w Yl).length:Int)<=6)=x3,Qme a (F204 L) (F194 (w.getD 3 default)) (F194 (w.getD 4 default)) ((wsL lines).filter fun w=>hdB w Yl)=x4
  cases x1 <;> cases x2 <;> cases x3 <;> cases x4 <;> rfl
theorem Uau (lines:List Za) (hz:∀ k:Nat,(lines.getD k default).size<=1048576) (h:F60 lines=0):F23 lines=0/\lines.length<=16/\∀ k:Nat,(lines.getD k default).size<=1048576:=by
 rw [Qbm] at h
 exact ⟨h,Qqe lines h,hz⟩
theorem Ukz (lines:List Za) (hz:∀ k:Nat,(lines.getD k default).size<=1048576):∀ k j:Nat,(((lines.map (fun l=>(⟨(F64 l).1⟩:l52Cut))).getD k default).w.getD j default).size<=1048576:=fun k j=>by
 by_cases hk:k<lines.length
 ·rw [Qjn _ _ _ hk]
  exact Vj (lines.getD k default) j
 ·have e:(lines.map (fun l=>(⟨(F64 l).1⟩:l52Cut))).getD k default=default:=by
   rw [Qd,Tx (by rw [Sk]; omega)]; rfl
  rw [e]
  exact Qy _
theorem kc60 (lines:List Za) {K_:Prop} (p0_:∀ k:Nat,(lines.getD k default).size<=1048576) (k_:K_):(∀ k:Nat,(lines.getD k default).size<=1048576)/\(Imp (.l 1 eStr lines) (.l 1 eStr lines))/\K_:=⟨p0_,Imp.refl _,k_⟩
abbrev kh60 (lines:List Za):Hint false Tryz.prog:=.call 60 (S60 lines) (ok60 lines) none
def Qcu (p:(List Za)->Bool):Zx:=⟨List Za,fun i=>[.c (.x (PX (.l 1 eStr i) (F23 i=0/\i.length<=16/\∀ k:Nat,(i.getD k default).size<=1048576)))],fun i=>.bool (p i)⟩
def Qon (p:(List Za)->Bool):List Dat:=[.x (FnX Tryz.prog (Qcu p))]
def fh121:FnH Tryz.prog:=⟨false,121,Qcu (fun x0=>F121 x0),[],rfl,True,fun i=>Lh (ok121 i)⟩
theorem ca121:Ux Tryz.prog 121=true:=by kernel_rfl
def fh122:FnH Tryz.prog:=⟨false,122,Qcu (fun x0=>F122 x0),[],rfl,True,fun i=>Lh (ok122 i)⟩
theorem ca122:Ux Tryz.prog 122=true:=by kernel_rfl
def fh123:FnH Tryz.prog:=⟨false,123,Qcu (fun x0=>F123 x0),[],rfl,True,fun i=>Lh (ok123 i)⟩
theorem ca123:Ux Tryz.prog 123=true:=by kernel_rfl
def fh124:FnH Tryz.prog:=⟨false,124,Qcu (fun x0=>F124 x0),[],rfl,True,fun i=>Lh (ok124 i)⟩
theorem ca124:Ux Tryz.prog 124=true:=by kernel_rfl
def fh125:FnH Tryz.prog:=⟨false,125,Qcu (fun x0=>F125 x0),[],rfl,True,fun i=>Lh (ok125 i)⟩
theorem ca125:Ux Tryz.prog 125=true:=by kernel_rfl
def Vd (lines:List Za):Int->Lp Int Int:=fun v13 =>
 bif (decide (v13<(([(fun x0=>F121 x0),(fun x0=>F122 x0),(fun x0=>F123 x0),(fun x0=>F124 x0),(fun x0=>F125 x0)]:List ((List Za)->Bool)).length:Int))) then (bif ((([(fun x0=>F121 x0),(fun x0=>F122 x0),(fun x0=>F123 x0),(fun x0=>F124 x0),(fun x0=>F125 x0)]:List ((List Za)->Bool)).getD v13.toNat default) lines) then (.ret (5+v13)) else (.next (v13+1))) else (.done v13)
def F85 (lines:List Za):Int :=
 bif ((F60 lines) != 0) then (F60 lines) else ((runL (Vd lines) (((([(fun x0=>F121 x0),(fun x0=>F122 x0),(fun x0=>F123 x0),(fun x0=>F124 x0),(fun x0=>F125 x0)]:List ((List Za)->Bool)).length:Int)-0).toNat+1) 0).fin (fun r=>r) (fun v13=>0))
abbrev Qhl:Nat×Int:=((((([(fun x0=>F121 x0),(fun x0=>F122 x0),(fun x0=>F123 x0),(fun x0=>F124 x0),(fun x0=>F125 x0)]:List ((List Za)->Bool)).length:Int)-0).toNat+1),0)
abbrev Qtp (m39:Nat) (v13:Int):Prop:=(Int.toNat ((([(fun x0=>F121 x0),(fun x0=>F122 x0),(fun x0=>F123 x0),(fun x0=>F124 x0),(fun x0=>F125 x0)]:List ((List Za)->Bool)).length:Int)-v13)<m39)/\(0:Int)<=v13
abbrev Ufq (lines:List Za):Lp Int Int:=LpX (Vd lines) (Qhl)
abbrev Qfb (lines:List Za) (i:Nat×Int):Prop:=LpJ (Vd lines) (Qhl) i (Qtp i.1 i.2)
abbrev Uek (lines:List Za) (i:Nat×Int) (m39:Nat) (v13:Int):Prop:=LpH (Vd lines) (Qhl) i m39 v13 (Qtp (m39+1) v13)
abbrev Uii (lines:List Za) (v13:Int) (v13_:Int) (K39:Prop):Prop:=(Rf (.int .i64 (([(fun x0=>F121 x0),(fun x0=>F122 x0),(fun x0=>F123 x0),(fun x0=>F124 x0),(fun x0=>F125 x0)]:List ((List Za)->Bool)).length:Int)))/\((.int .i64 v13:Value)=.int .i64 v13_)/\(Im (.l 1 eStr lines))/\(Im (.l 1 Qon ([(fun x0=>F121 x0),(fun x0=>F122 x0),(fun x0=>F123 x0),(fun x0=>F124 x0),(fun x0=>F125 x0)]:List ((List Za)->Bool))))/\K39
theorem un85_0 (lines:List Za) (i:Nat×Int) (h:Qfb lines i):Uek lines i (i.1-1) i.2:=⟨hd1 h.1 h.2.1,hd3 h.2.1,hd2 h.2.1,h.2.2⟩
theorem bk85_0 (lines:List Za) (i:Nat×Int) (m39:Nat) (v13:Int) (hl:m39<i.1) (e:runL (Vd lines) m39 v13=Ufq lines) (h:Qtp m39 v13):∃ j:Nat×Int,Uii lines v13 j.2 (Qfb lines j/\j.1<i.1):=⟨(m39,v13),rfl,rfl,Imp.refl _,Imp.refl _,⟨e,h⟩,hl⟩
theorem en85_0 (lines:List Za) (h:(0:Int)<=0):Uii lines 0 0 (Qfb lines (Qhl)):=⟨rfl,rfl,Imp.refl _,Imp.refl _,rfl,Qn _,h⟩
def S85 (lines:List Za):Spec:=⟨[.r (.c (.l 1 eStr lines))],.v (vI (F85 lines)),lines.length<=1048576/\(∀ k:Nat,(lines.getD k default).size<=1048576)⟩
theorem ok85 (lines:List Za):(S85 lines).ok Tryz.prog 85 false :=
 Ue mixed (fn:=Tryz.f85) (ct:=.seqk [(0,0)] .no (.seq (.seq (.reg [(1,kh60 lines)]) (.seq .no (.cond (.seq .no .no) .no))) (.seq (.seqk [(0,0),(11,0)] (.reg [(0,.dat (.l 1 Qon ([(fun x0=>F121 x0),(fun x0=>F122 x0),(fun x0=>F123 x0),(fun x0=>F124 x0),(fun x0=>F125 x0)]:List ((List Za)->Bool))))]) (.blk (.loop (ι:=Nat×Int) (fun i=>(fun (v13:Int)=>(⟨[(0,some (.h 0 0)),(11,some (.h 1 0)),(12,some (.v (vI (([(fun x0=>F121 x0),(fun x0=>F122 x0),(fun x0=>F123 x0),(fun x0=>F124 x0),(fun x0=>F125 x0)]:List ((List Za)->Bool)).length:Int)))),(13,some (.v (vI v13)))],[(0,some (.shr none (.l 1 eStr lines))),(1,some (.own 1 (.l 1 Qon ([(fun x0=>F121 x0),(fun x0=>F122 x0),(fun x0=>F123 x0),(fun x0=>F124 x0),(fun x0=>F125 x0)]:List ((List Za)->Bool)))))],2⟩:St)) i.2) (Qfb lines) (fun i=>i.1) (Qhl) (fun i=>(fun (v13:Int)=>(.seq .no (.seq (.cond .no .no) (.seq (.blk (.seq .no (.seq (.reg [(2,.fnv (Qcu (([(fun x0=>F121 x0),(fun x0=>F122 x0),(fun x0=>F123 x0),(fun x0=>F124 x0),(fun x0=>F125 x0)]:List ((List Za)->Bool)).getD v13.toNat default)) lines)]) (.cond (.seq (.reg [(1,.bnd)]) .no) .no)))) (.reg [(0,.bnd)]))))) i.2)))) (.seq .no .no)))) Tryz.func85 (fun (hp:lines.length<=1048576/\(∀ k:Nat,(lines.getD k default).size<=1048576))=>have hpre0:=hp.1; have hpre1:=hp.2; kn lines fun _=>kc60 lines uu27 (ifn (F60 lines) 0 (fun h1 _=>fiI (F60 lines) (F85 lines) (condT h1 rfl)) (fun h1 _=>ai (BuildOK.mk Qon ([(fun x0=>F121 x0),(fun x0=>F122 x0),(fun x0=>F123 x0),(fun x0=>F124 x0),(fun x0=>F125 x0)]:List ((List Za)->Bool)) rfl (by exact ai (Imp.fn fh121 rfl trivial ca121) (ai (Imp.fn fh122 rfl trivial ca122) (ai (Imp.fn fh123 rfl trivial ca123) (ai (Imp.fn fh124 rfl trivial ca124) (ai (Imp.fn fh125 rfl trivial ca125) trivial))))) (fun _=>rfl):BuildOK 5 1 [.v (.func (.func 121) #[] #[]),.v (.func (.func 122) #[] #[]),.v (.func (.func 123) #[] #[]),.v (.func (.func 124) #[] #[]),.v (.func (.func 125) #[] #[])] (.l 1 Qon ([(fun x0=>F121 x0),(fun x0=>F122 x0),(fun x0=>F123 x0),(fun x0=>F124 x0),(fun x0=>F125 x0)]:List ((List Za)->Bool)))) (kn lines fun _=>kn ([(fun x0=>F121 x0),(fun x0=>F122 x0),(fun x0=>F123 x0),(fun x0=>F124 x0),(fun x0=>F125 x0)]:List ((List Za)->Bool)) fun _=>ai (en85_0 lines uu0) (fun (i0:Nat×Int) (hi0:Qfb lines i0)=>(fun (m0:Nat) (v13:Int) (hh0:Uek lines i0 m0 v13)=>have hI0:=hh0.1; have hl0:=hh0.2.1; have _:=hh0.2.2.1; have _:=hh0.2.2.2; ifd (v13<(([(fun x0=>F121 x0),(fun x0=>F122 x0),(fun x0=>F123 x0),(fun x0=>F124 x0),(fun x0=>F125 x0)]:List ((List Za)->Bool)).length:Int)) (fun h3 _=>ai (uu0:ib v13 ([(fun x0=>F121 x0),(fun x0=>F122 x0),(fun x0=>F123 x0),(fun x0=>F124 x0),(fun x0=>F125 x0)]:List ((List Za)->Bool))) (ai (Eq.refl (FnX Tryz.prog (Qcu (([(fun x0=>F121 x0),(fun x0=>F122 x0),(fun x0=>F123 x0),(fun x0=>F124 x0),(fun x0=>F125 x0)]:List ((List Za)->Bool)).getD v13.toNat default)))) (ai (Imp.px (d:=.l 1 eStr lines) (by exact Uau lines (by assumption) (by omega):F23 lines=0/\lines.length<=16/\∀ k:Nat,(lines.getD k default).size<=1048576)) (ifb ((([(fun x0=>F121 x0),(fun x0=>F122 x0),(fun x0=>F123 x0),(fun x0=>F124 x0),(fun x0=>F125 x0)]:List ((List Za)->Bool)).getD v13.toNat default) lines) (fun h4=>ai (iok (5+v13) uu61) (fiI (5+v13) (F85 lines) (condF h1 (finR (Um hI0 (condT h3 (condT h4 rfl))) rfl)))) (fun h4=>ai (iok (v13+1) uu61) (bk85_0 lines i0 m0 (v13+1) hl0 (Ud hI0 (condT h3 (condF h4 rfl))) uu5)))))) (fun h3 _=>have hD0_5:Ufq lines=Lp.done v13:=Uh hI0 (condF h3 rfl); fiI 0 (F85 lines) (condF h1 (finD hD0_5 rfl)))) (i0.1-1) i0.2 (un85_0 lines i0 hi0)))))) uu1
theorem kc23 (lines:List Za) {K_:Prop} (p0_:∀ k:Nat,(lines.getD k default).size<=1048576) (k_:K_):(∀ k:Nat,(lines.getD k default).size<=1048576)/\(Imp (.l 1 eStr lines) (.l 1 eStr lines))/\K_:=⟨p0_,Imp.refl _,k_⟩
abbrev kh23 (lines:List Za):Hint true Tryz.prog:=.call 23 (S23 lines) (ok23 lines) none
theorem kc152a (lines:List Za) {K_:Prop} (p0_:lines.length<=16) (p1_:∀ k:Nat,(lines.getD k default).size<=1048576) (k_:K_):(lines.length<=16/\(∀ k:Nat,(lines.getD k default).size<=1048576))/\(Imp (.l 1 eStr lines) (.l 1 eStr lines))/\K_:=⟨⟨p0_,p1_⟩,Imp.refl _,k_⟩
abbrev kh152a (lines:List Za):Hint true Tryz.prog:=.call 152 (T152 (lines.map (fun l=>(⟨(F64 l).1⟩:l52Cut))) lines) (oa152 lines) none
def F118 (lines:List Za):Int :=
 bif ((F23 lines) != 0) then (F23 lines) else (bif (!(F153 (lines.map (fun l=>(⟨(F64 l).1⟩:l52Cut))))) then 5 else (bif (!(F154 (lines.map (fun l=>(⟨(F64 l).1⟩:l52Cut))))) then 6 else (bif (!(F155 (lines.map (fun l=>(⟨(F64 l).1⟩:l52Cut))))) then 7 else (bif (!(F156 (lines.map (fun l=>(⟨(F64 l).1⟩:l52Cut))))) then 8 else (bif (!(F157 (lines.map (fun l=>(⟨(F64 l).1⟩:l52Cut))))) then 9 else 0)))))
def S118 (lines:List Za):Spec:=⟨[.r (.c (.l 1 eStr lines))],.v (vI (F118 lines)),lines.length<=1048576/\(∀ k:Nat,(lines.getD k default).size<=1048576)⟩
theorem ok118 (lines:List Za):(S118 lines).ok Tryz.prog 118 :=
 Ue mixed (fn:=Tryz.f118) (ct:=.seqk [(0,0)] .no (.seq (.reg [(1,kh23 lines)]) (.seq (.seq .no (.cond (.seq .no .no) .no)) (.seq (.reg [(1,kh152a lines)]) (.seq (.blk (.seq (.reg [(1,.call 153 (S153 (lines.map (fun l=>(⟨(F64 l).1⟩:l52Cut)))) (ok153 (lines.map (fun l=>(⟨(F64 l).1⟩:l52Cut)))) none)]) (.cond (.seq .no .no) (.seq (.reg [(1,.call 154 (S154 (lines.map (fun l=>(⟨(F64 l).1⟩:l52Cut)))) (ok154 (lines.map (fun l=>(⟨(F64 l).1⟩:l52Cut)))) none)]) (.cond (.seq .no .no) (.seq (.reg [(1,.call 155 (S155 (lines.map (fun l=>(⟨(F64 l).1⟩:l52Cut)))) (ok155 (lines.map (fun l=>(⟨(F64 l).1⟩:l52Cut)))) none)]) (.cond (.seq .no .no) (.seq (.reg [(1,.call 156 (S156 (lines.map (fun l=>(⟨(F64 l).1⟩:l52Cut)))) (ok156 (lines.map (fun l=>(⟨(F64 l).1⟩:l52Cut)))) none)]) (.cond (.seq .no .no) (.seq (.reg [(1,.call 157 (S157 (lines.map (fun l=>(⟨(F64 l).1⟩:l52Cut)))) (ok157 (lines.map (fun l=>(⟨(F64 l).1⟩:l52Cut)))) none)]) (.cond (.seq .no .no) .no))))))))))) (.seq .no .no)))))) Tryz.func118 (fun (hp:lines.length<=1048576/\(∀ k:Nat,(lines.getD k default).size<=1048576))=>have hpre0:=hp.1; have hpre1:=hp.2; kn lines fun _=>kc23 lines uu27 (ifn (F23 lines) 0 (fun h1 _=>fiI (F23 lines) (F118 lines) (condT h1 rfl)) (fun h1 _=>kc152a lines uu62 uu62 (ai trivial (ai (Imp.refl (.l 1 Uo (lines.map (fun l=>(⟨(F64 l).1⟩:l52Cut))))) (ifb (!(F153 (lines.map (fun l=>(⟨(F64 l).1⟩:l52Cut))))) (fun h2=>fiI 5 (F118 lines) (condF h1 (condT h2 rfl))) (fun h2=>ai trivial (ai (Imp.refl (.l 1 Uo (lines.map (fun l=>(⟨(F64 l).1⟩:l52Cut))))) (ifb (!(F154 (lines.map (fun l=>(⟨(F64 l).1⟩:l52Cut))))) (fun h3=>fiI 6 (F118 lines) (condF h1 (condF h2 (condT h3 rfl)))) (fun h3=>ai (uu50:∀ k j:Nat,(((lines.map (fun l=>(⟨(F64 l).1⟩:l52Cut))).getD k default).w.getD j default).size<=1048576) (ai (Imp.refl (.l 1 Uo (lines.map (fun l=>(⟨(F64 l).1⟩:l52Cut))))) (ifb (!(F155 (lines.map (fun l=>(⟨(F64 l).1⟩:l52Cut))))) (fun h4=>fiI 7 (F118 lines) (condF h1 (condF h2 (condF h3 (condT h4 rfl))))) (fun h4=>ai (uu50:∀ k j:Nat,(((lines.map (fun l=>(⟨(F64 l).1⟩:l52Cut))).getD k default).w.getD j default).size<=1048576) (ai (Imp.refl (.l 1 Uo (lines.map (fun l=>(⟨(F64 l).1⟩:l52Cut))))) (ifb (!(F156 (lines.map (fun l=>(⟨(F64 l).1⟩:l52Cut))))) (fun h5=>fiI 8 (F118 lines) (condF h1 (condF h2 (condF h3 (condF h4 (condT h5 rfl)))))) (fun h5=>ai (uu50:∀ k j:Nat,(((lines.map (fun l=>(⟨(F64 l).1⟩:l52Cut))).getD k default).w.getD j default).size<=1048576) (ai (Imp.refl (.l 1 Uo (lines.map (fun l=>(⟨(F64 l).1⟩:l52Cut))))) (ifb (!(F157 (lines.map (fun l=>(⟨(F64 l).1⟩:l52Cut))))) (fun h6=>fiI 9 (F118 lines) (condF h1 (condF h2 (condF h3 (condF h4 (condF h5 (condT h6 rfl))))))) (fun h6=>fiI 0 (F118 lines) (condF h1 (condF h2 (condF h3 (condF h4 (condF h5 (condF h6 rfl))))))))))))))))))))))))) uu1
end Go.Proofs.YthjaknclldmheaaGreatDoor
