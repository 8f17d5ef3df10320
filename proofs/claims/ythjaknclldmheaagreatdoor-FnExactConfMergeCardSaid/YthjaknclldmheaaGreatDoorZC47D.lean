/- The card's statement of FnExactConfMerge: for all arguments the law returns true, without further conditions. Texts put together: VCL, PCL, PK0, VK, PK1, VK2, PK2, PLP, VN0, PN0, VN, PN1N, PCK0, VCKA, PCKB, VCKC, VCKD, PCE0, PCE1, PCE2, PCHA, VCH, PCH, VSZ, PSZ, PSO, VJO, PJO, VDF, PDF, VMK, PMK, PDFL0, PPA0, VPA, PPA, PMA0, VMA, PMA1, PMG2, PMG3, VMG, VMGK, PMG0, VMGS, PTKM, PMG4, VMGL, PMGL, C47. -/
import Derived.Test.YthjaknclldmheaaGreatDoorRows
import Derived.Test.YthjaknclldmheaaGreatDoorCards
import Derived.Test.YthjaknclldmheaaGreatDoorTie
import Derived.Deep.DeepHandedRow
import Derived.Deep.DeepLaidRun
import Derived.JoinedCond
import Derived.Lib.LaidU8
import Derived.Test.YthjaknclldmheaaGreatDoorZC47C
namespace Go.Proofs.YthjaknclldmheaaGreatDoor
open Go.RowKit
set_option maxRecDepth 100000
set_option linter.unusedVariables false
set_option linter.unusedSimpArgs false
def F72 (elems:List Za) (sep:Za):Za :=
 Yz elems sep
def S72 (elems:List Za) (sep:Za):Spec:=⟨[.r (.c (.l 1 eStr elems)),.r (.c (.v (.string sep)))],.v (.string (F72 elems sep)),elems.length<=140737488355328/\(Yz elems sep).size<=140737488355328⟩
theorem ok72 (elems:List Za) (sep:Za):(S72 elems sep).ok Tryz.prog 72 false :=
 Qyg Qzc Qsz elems sep
theorem kc133 (line:Za) {K_:Prop} (p0_:line.size<=1048576) (k_:((F133 line).1.length<=8)->(∀ k:Nat,((F133 line).1.getD k default).size<=1048576)->K_):(line.size<=1048576)/\(Imp (.v (.string line)) (.v (.string line)))/\K_:=⟨p0_,Imp.refl _,k_ (Qcp line) (Qia line)⟩
abbrev kh133 (line:Za):Hint false Tryz.prog:=.call 133 (S133 line) (ok133 line) none
theorem kc71 (words:List Za) {K_:Prop} (p0_:∀ k:Nat,(words.getD k default).size<=1048576) (k_:K_):(∀ k:Nat,(words.getD k default).size<=1048576)/\(Imp (.l 1 eStr words) (.l 1 eStr words))/\K_:=⟨p0_,Imp.refl _,k_⟩
abbrev kh71 (words:List Za):Hint false Tryz.prog:=.call 71 (S71 words) (ok71 words) none
theorem kc72 (elems:List Za) (sep:Za) {K_:Prop} (p0_:elems.length<=140737488355328) (p1_:(Yz elems sep).size<=140737488355328) (k_:K_):(elems.length<=140737488355328/\(Yz elems sep).size<=140737488355328)/\(Imp (.l 1 eStr elems) (.l 1 eStr elems))/\(Imp (.v (.string sep)) (.v (.string sep)))/\K_:=⟨⟨p0_,p1_⟩,Imp.refl _,Imp.refl _,k_⟩
abbrev kh72 (elems:List Za) (sep:Za):Hint false Tryz.prog:=.call 72 (S72 elems sep) (ok72 elems sep) none
def F99 (line:Za):Za×Bool :=
 bif (!(F133 line).2) then (Zb,false) else (bif (!(F71 (F133 line).1).2) then (Zb,false) else ((F72 (F133 line).1 Zc),true))
theorem fi99 (line:Za) (r:Za×Bool) (hF:r=(F99 line)):((.string r.1:Value)=.string (F99 line).1)/\((.bool r.2:Value)=.bool (F99 line).2)/\True:=by cases hF; exact ⟨rfl,rfl,trivial⟩
def S99 (line:Za):Spec:=⟨[.r (.c (.v (.string line)))],.tu [.v (.string (F99 line).1),.v (.bool (F99 line).2)],line.size<=1048576⟩
theorem ok99 (line:Za):(S99 line).ok Tryz.prog 99 false :=
 Uf mixed (fn:=Tryz.f99) (ct:=.seq .no (.seq (.reg [(1,kh133 line)]) (.seq (.seq .no (.cond (.seq .no .no) .no)) (.seq (.seq (.reg [(1,kh71 (F133 line).1)]) (.seq .no (.cond (.seq .no .no) .no))) (.seq (.reg [(1,kh72 (F133 line).1 Zc)]) .no))))) Tryz.func99 (fun (hpre0:line.size<=1048576)=>kc133 line uu0 (fun gv1 gv2=>ifb (!(F133 line).2) (fun h3=>have _:=(Wt h3); fi99 line (Zb,false) (condT h3 rfl)) (fun h3=>have _:=(Yh h3); kc71 (F133 line).1 uu48 (ifb (!(F71 (F133 line).1).2) (fun h4=>have _:=(Wt h4); fi99 line (Zb,false) (condF h3 (condT h4 rfl))) (fun h4=>have _:=(Yh h4); kc72 (F133 line).1 Zc uu49 uu49 (fi99 line ((F72 (F133 line).1 Zc),true) (condF h3 (condF h4 rfl)))))))) uu1
theorem kc64 (line:Za) {K_:Prop} (p0_:line.size<=1048576) (k_:((F64 line).1.length<=8)->(∀ k:Nat,((F64 line).1.getD k default).size<=1048576)->K_):(line.size<=1048576)/\(Imp (.v (.string line)) (.v (.string line)))/\K_:=⟨p0_,Imp.refl _,k_ (Bx line) (Vn line)⟩
abbrev kh64 (line:Za):Hint true Tryz.prog:=.call 64 (S64 line) (ok64 line) none
theorem kg173 {K_:Prop} (c_ b_:Bool) (w1:List Za) (p_:c_=b_->(∀ k:Nat,(w1.getD k default).size<=1048576)) (k_:K_):(c_=b_->(∀ k:Nat,(w1.getD k default).size<=1048576))/\(c_=b_->Imp (.l 1 eStr w1) (.l 1 eStr w1))/\K_:=⟨p_,fun _=>Imp.refl _,k_⟩
abbrev kh173 (w1:List Za):Hint true Tryz.prog:=.call 173 (S173 w1) (ok173 w1) none
theorem kc174 (list:List Za) (with':Za) {K_:Prop} (p0_:list.length<=8) (p1_:∀ k:Nat,(list.getD k default).size<=1048576) (p2_:with'.size<=1) (k_:K_):(list.length<=8/\(∀ k:Nat,(list.getD k default).size<=1048576)/\with'.size<=1)/\(Imp (.l 1 eStr list) (.l 1 eStr list))/\(Imp (.v (.string with')) (.v (.string with')))/\K_:=⟨⟨p0_,p1_,p2_⟩,Imp.refl _,Imp.refl _,k_⟩
abbrev kh174 (list:List Za) (with':Za):Hint true Tryz.prog:=.call 174 (S174 list with') (ok174 list with') none
def F132 (line:Za):Za×Bool :=
 bif (bif (!(F64 line).2) then true else (!(F173 (F64 line).1))) then (Zb,false) else ((F174 (F64 line).1 Zc),true)
theorem fi132 (line:Za) (r:Za×Bool) (hF:r=(F132 line)):((.string r.1:Value)=.string (F132 line).1)/\((.bool r.2:Value)=.bool (F132 line).2)/\True:=by cases hF; exact ⟨rfl,rfl,trivial⟩
def S132 (line:Za):Spec:=⟨[.r (.c (.v (.string line)))],.tu [.v (.string (F132 line).1),.v (.bool (F132 line).2)],line.size<=1048576⟩
theorem ok132 (line:Za):(S132 line).ok Tryz.prog 132 :=
 Uf mixed (fn:=Tryz.f132) (ct:=.seq .no (.seq (.reg [(1,kh64 line)]) (.seq (.seq (.reg [(4,kh173 (F64 line).1)]) (.cond (.seq .no .no) .no)) (.seq (.reg [(1,kh174 (F64 line).1 Zc)]) .no)))) Tryz.func132 (fun (hpre0:line.size<=1048576)=>kc64 line uu0 (fun gv1 gv2=>kg173 (!(F64 line).2) false (F64 line).1 (fun k3=>have _:=(Yh k3); uu48) (ifb (bif (!(F64 line).2) then true else (!(F173 (F64 line).1))) (fun h4=>fi132 line (Zb,false) (condT h4 rfl)) (fun h4=>have _:=(Yh (orF1 h4)); kc174 (F64 line).1 Zc uu35 uu35 uu35 (fi132 line ((F174 (F64 line).1 Zc),true) (condF h4 rfl)))))) uu1
theorem Qpl (line:Za):F99 line=F132 line:=by
 unfold F99 F132
 rw [Hu,(Qcq _).1,No]
 cases (F64 line).2 <;> cases F173 (F64 line).1 <;> rfl
def Qcs (w:List Za):Prop:=(w.getD 0 default).data.toList=[104,111,115,116]/\w.length=2/\F28 (w.getD 1 default)=true
def Qel (w:List Za):Prop:=(w.getD 0 default).data.toList=[117,115,101,114]/\w.length=3/\F28 (w.getD 1 default)=true/\F200 (w.getD 2 default)=true
def Qes (w:List Za):Prop:=(w.getD 0 default).data.toList=[112,111,114,116]/\(w.length=3\/w.length=5/\(w.getD 3 default).data.toList=[105,110]/\F28 (w.getD 4 default)=true)/\0<=F194 (w.getD 1 default)/\F194 (w.getD 1 default)<=7/\F202 (w.getD 2 default)=true
def Qdi (w:List Za):Prop:=(w.getD 0 default).data.toList=[114,117,108,101]/\w.length=7/\F28 (w.getD 1 default)=true/\0<=F194 (w.getD 2 default)/\F194 (w.getD 2 default)<=99/\((w.getD 3 default).data.toList=[112,101,114,109,105,116]\/(w.getD 3 default).data.toList=[100,101,110,121])/\F202 (w.getD 4 default)=true/\F202 (w.getD 5 default)=true/\0<=F194 (w.getD 6 default)/\F194 (w.getD 6 default)<=7
def Hf (w:List Za):Prop:=(w.getD 0 default).data.toList=[114,111,117,116,101]/\w.length=3/\F202 (w.getD 1 default)=true/\F191 (w.getD 2 default)>=0
def Qdx (w:List Za):Prop:=(w.getD 0 default).data.toList=[112,101,101,114]/\w.length=4/\F191 (w.getD 1 default)>=0/\1<=F194 (w.getD 2 default)/\F194 (w.getD 2 default)<=9/\1<=F194 (w.getD 3 default)/\F194 (w.getD 3 default)<=999999
def natP (w:List Za):Prop:=(w.getD 0 default).data.toList=[110,97,116]/\w.length=5/\F202 (w.getD 1 default)=true/\F191 (w.getD 2 default)>=0/\1<=F194 (w.getD 3 default)/\F194 (w.getD 3 default)<=65535/\1<=F194 (w.getD 4 default)/\F194 (w.getD 4 default)<=65535
def Qdd (w:List Za):Prop:=(w.getD 0 default).data.toList=[100,111,111,114]/\w.length=5/\1<=F194 (w.getD 1 default)/\F194 (w.getD 1 default)<=7/\1<=F194 (w.getD 2 default)/\F194 (w.getD 2 default)<=65535/\F191 (w.getD 3 default)>=0/\1<=F194 (w.getD 4 default)/\F194 (w.getD 4 default)<=65535
def Pp (w:List Za):Prop:=Qcs w\/Qel w\/Qes w\/Qdi w\/Hf w\/Qdx w\/natP w\/Qdd w
theorem Qjn (w:List Za) (hF:F173 w=true):Pp w:=by
 have hw:w.length≠0:=fun h=>by
  obtain rfl:=Ru h
  exact Gt hF
 have h0:((w.length:Int)==0)=false:=by rw [Qx]; omega
 have e0:w.getD (Int.toNat 0) default=w.getD 0 default:=rfl
 have e1:w.getD (Int.toNat 1) default=w.getD 1 default:=rfl
 have e2:w.getD (Int.toNat 2) default=w.getD 2 default:=rfl
 have e3:w.getD (Int.toNat 3) default=w.getD 3 default:=rfl
 have e4:w.getD (Int.toNat 4) default=w.getD 4 default:=rfl
 have e5:w.getD (Int.toNat 5) default=w.getD 5 default:=rfl
 have e6:w.getD (Int.toNat 6) default=w.getD 6 default:=rfl
 have n2:=Wl w 2
 have n3:=Wl w 3
 have n4:=Wl w 4
 have n5:=Wl w 5
 have n7:=Wl w 7
 simp only [Int.cast_ofNat_Int] at n2 n3 n4 n5 n7
 unfold F173 at hF
 simp only [h0,Qj,e0,e1,e2,e3,e4,e5,e6,n2,n3,n4,n5,n7] at hF
 rcases R9 ((w.getD 0 default).data.toList=[104,111,115,116]) with h | hn0
 ·simp only [blit,h,hd00,Qe,Qj,cb1,cb2,Qk,Sa,Rj,Sm,and_assoc] at hF
  exact Or.inl ⟨h,hF⟩
 rcases R9 ((w.getD 0 default).data.toList=[117,115,101,114]) with h | hn1
 ·simp only [blit,h,hd10,hd11,Qe,Qj,cb1,cb2,Qk,Sa,Rj,Sm,and_assoc] at hF
  exact Or.inr (Or.inl ⟨h,hF⟩)
 rcases R9 ((w.getD 0 default).data.toList=[112,111,114,116]) with h | hn2
 ·simp only [blit,h,hd20,hd21,hd22,Qe,Qj,cb1,cb2,Qk,Sa,Rj,Sm,and_assoc] at hF
  exact Or.inr (Or.inr (Or.inl ⟨h,hF⟩))
 rcases R9 ((w.getD 0 default).data.toList=[114,117,108,101]) with h | hn3
 ·simp only [blit,h,hd30,hd31,hd32,hd33,Qe,Qj,cb1,cb2,Qk,Sa,Rj,Sm,and_assoc] at hF
  exact Or.inr (Or.inr (Or.inr (Or.inl ⟨h,hF⟩)))
 rcases R9 ((w.getD 0 default).data.toList=[114,111,117,116,101]) with h | hn4
 ·simp only [blit,h,hd40,hd41,hd42,hd43,hd44,Qe,Qj,cb1,cb2,Qk,Sa,Rj,Sm,and_assoc] at hF
  exact Or.inr (Or.inr (Or.inr (Or.inr (Or.inl ⟨h,hF⟩))))
 rcases R9 ((w.getD 0 default).data.toList=[112,101,101,114]) with h | hn5
 ·simp only [blit,h,hd50,hd51,hd52,hd53,hd54,hd55,Qe,Qj,cb1,cb2,Qk,Sa,Rj,Sm,and_assoc] at hF
  exact Or.inr (Or.inr (Or.inr (Or.inr (Or.inr (Or.inl ⟨h,hF⟩)))))
 rcases R9 ((w.getD 0 default).data.toList=[110,97,116]) with h | hn6
 ·simp only [blit,h,hd60,hd61,hd62,hd63,hd64,hd65,hd66,Qe,Qj,cb1,cb2,Qk,Sa,Rj,Sm,and_assoc] at hF
  exact Or.inr (Or.inr (Or.inr (Or.inr (Or.inr (Or.inr (Or.inl ⟨h,hF⟩))))))
 rcases R9 ((w.getD 0 default).data.toList=[100,111,111,114]) with h | hn7
 ·simp only [blit,h,hd70,hd71,hd72,hd73,hd74,hd75,hd76,hd77,Qe,Qj,cb1,cb2,Qk,Sa,Rj,Sm,and_assoc] at hF
  exact Or.inr (Or.inr (Or.inr (Or.inr (Or.inr (Or.inr (Or.inr (⟨h,hF⟩)))))))
 exfalso
 simp only [blit,Qx.2 hn0,Qx.2 hn1,Qx.2 hn2,Qx.2 hn3,Qx.2 hn4,Qx.2 hn5,Qx.2 hn6,Qx.2 hn7,Qj] at hF
 exact Gt hF
theorem Xz (w:List Za) (h:Pp w):2<=w.length/\w.length<=7:=by
 unfold Pp Qcs Qel Qes Qdi Hf Qdx natP Qdd at h
 omega
theorem Ns (w:List Za) (h:Pp w):1<=keyN (w.getD 0 default).data.toList/\keyN (w.getD 0 default).data.toList<=3/\keyN (w.getD 0 default).data.toList<=(w.length:Int):=by
 rcases h with h | h | h | h | h | h | h | h
 ·have hk:keyN (w.getD 0 default).data.toList=1:=by rw [h.1]; decide
  unfold Qcs at h
  omega
 ·have hk:keyN (w.getD 0 default).data.toList=2:=by rw [h.1]; decide
  unfold Qel at h
  omega
 ·have hk:keyN (w.getD 0 default).data.toList=2:=by rw [h.1]; decide
  unfold Qes at h
  omega
 ·have hk:keyN (w.getD 0 default).data.toList=3:=by rw [h.1]; decide
  unfold Qdi at h
  omega
 ·have hk:keyN (w.getD 0 default).data.toList=3:=by rw [h.1]; decide
  unfold Hf at h
  omega
 ·have hk:keyN (w.getD 0 default).data.toList=2:=by rw [h.1]; decide
  unfold Qdx at h
  omega
 ·have hk:keyN (w.getD 0 default).data.toList=1:=by rw [h.1]; decide
  unfold natP at h
  omega
 ·have hk:keyN (w.getD 0 default).data.toList=3:=by rw [h.1]; decide
  unfold Qdd at h
  omega
theorem Qdt (c:UInt8):∀ (l:List UInt8),∀ w∈Um c l,c ∉ w
 | [],w,h=>by rw [Um,Qv] at h; rw [h]; exact Rn
 | b :: l,w,h=>by
  have ih:=Qdt c l
  rw [Um] at h
  by_cases hb:b=c
  ·rw [if_pos hb] at h
   rcases Qs.1 h with rfl | h
   ·exact Rn
   ·exact ih w h
  ·rw [if_neg hb] at h
   have hbc:¬ c=b:=fun e=>hb e.symm
   cases hs:Um c l with
   | nil =>
    rw [hs] at h
    rw [Qv] at h; rw [h]
    intro hm; rcases Qs.1 hm with e | e
    ·exact hbc e
    ·cases e
   | cons p ps =>
    rw [hs] at h ih
    rcases Qs.1 h with rfl | h
    ·intro hm; rcases Qs.1 hm with e | e
     ·exact hbc e
     ·exact ih p Ql e
    ·exact ih w (Qi _ h)
theorem Qbp (c:UInt8):∀ (ws:List (List UInt8)),ws≠[]->(∀ w∈ws,c ∉ w)->Um c (Lib.join ws [c])=ws
 | [],h,_=>absurd rfl h
 | [x],_,h=>by rw [Lib.join_one,Ye (h x Ql)]
 | x :: y :: r,_,h=>by
  have ih:=Qbp c (y :: r) uu11 fun w hw=>h w (Qi _ hw)
  rw [Lib.join_cons]
  have e:Lib.joinTail [c] (y :: r)=c :: Lib.join (y :: r) [c]:=by rw [Lib.join_cons]; rfl
  rw [e,Yo _ (h x Ql),ih]
theorem Uae (line:Za):∀ w∈(F64 line).1,(32:UInt8) ∉ w.data.toList/\w.data.toList≠[]/\w.size<=24:=by
 rw [Eo]
 unfold Jv fitW
 cases h:(((cut3 line Zd).1.data.toList.all okB)&&(decide ((Ut (cut3 line Zd).1.data.toList).length<=8)&&(Ut (cut3 line Zd).1.data.toList).all fun w=>decide (w.length<=24))) with
 | false=>intro w hw; rw [Qj] at hw; cases hw
 | true =>
  rw [Qe]
  simp only [Qk] at h
  intro w hw
  obtain ⟨l,hl,rfl⟩:=Sr.1 hw
  have h1:=Qd (Rd.1 h.2.2 l hl)
  have h2:=List.mem_filter.1 hl
  refine ⟨Qdt 32 _ l h2.1,?_,h1⟩
  intro e
  have e':l=[]:=e
  rw [e'] at h2
  exact Gt h2.2
structure KeptP (line:Za) (w:List Za):Prop where
 words:F64 line=(w,true)
 form:Pp w
 joins:Yz w Zc=line
 splits:Ul line Zc=w
 no:∀ x∈w,(32:UInt8) ∉ x.data.toList/\x.data.toList≠[]/\x.size<=24
theorem Qkb (w:List Za) (h0:w≠[]) (h:∀ x∈w,(32:UInt8) ∉ x.data.toList):Ul (Yz w Zc) Zc=w:=by
 rw [Mn]
 have e:(Yz w Zc).data.toList=Lib.join (w.map (·.data.toList)) [32]:=rfl
 rw [e,Qbp 32 _ (by simpa using h0) (fun x hx=>by obtain ⟨y,hy,rfl⟩:=Sr.1 hx; exact h y hy),Gl]
 exact (Tz fun x _=>Qbt x).trans (G2 _)
theorem Nn (line:Za):F132 line=bif (F64 line).2&&F173 (F64 line).1 then (Yz (F64 line).1 Zc,true) else (Zb,false):=by
 unfold F132
 rw [No]
 cases (F64 line).2 <;> cases F173 (F64 line).1 <;> rfl
theorem Mv (a b:Za):(a.toList==b.toList)=decide (a=b):=by
 rw [Uu,Uu]
 by_cases h:a=b
 ·rw [h,Qr rfl]; simp
 ·rw [Qp h,Qx]; exact fun e=>h (Vd e)
theorem Qzo (line:Za) (h:(F132 line).2=true/\(F132 line).1=line):KeptP line (F64 line).1:=by
 rw [Nn] at h
 cases hc:((F64 line).2&&F173 (F64 line).1) with
 | false=>rw [hc,Qj] at h; exact absurd h.1 Gt
 | true =>
  rw [hc,Qe] at h
  simp only [Qk] at hc
  have hf:=Qjn _ hc.2
  have hn:=Uae line
  refine ⟨Prod.ext rfl hc.1,hf,h.2,?_,hn⟩
  have hne:(F64 line).1≠[]:=fun e=>by have:=(Xz _ hf).1; rw [e] at this; simp at this
  have:=Qkb _ hne fun x hx=>(hn x hx).1
  have e:Yz (F64 line).1 Zc=line:=h.2
  rwa [e] at this
theorem kc99 (line:Za) {K_:Prop} (p0_:line.size<=1048576) (k_:K_):(line.size<=1048576)/\(Imp (.v (.string line)) (.v (.string line)))/\K_:=⟨p0_,Imp.refl _,k_⟩
abbrev kh99 (line:Za):Hint false Tryz.prog:=.call 99 (S99 line) (ok99 line) none
def F69 (line:Za):Bool :=
 (bif (F99 line).2 then ((F99 line).1.toList==line.toList) else false)
def S69 (line:Za):Spec:=⟨[.r (.c (.v (.string line)))],.v (.bool (F69 line)),line.size<=1048576⟩
theorem ok69 (line:Za):(S69 line).ok Tryz.prog 69 false :=
 Uf mixed (fn:=Tryz.f69) (ct:=.seq .no (.seq (.reg [(1,kh99 line)]) (.seq .no .no))) Tryz.func69 (fun (hpre0:line.size<=1048576)=>kc99 line uu0 (fiB (bif (F99 line).2 then ((F99 line).1.toList==line.toList) else false) (F69 line) rfl)) uu1
theorem kc132 (line:Za) {K_:Prop} (p0_:line.size<=1048576) (k_:K_):(line.size<=1048576)/\(Imp (.v (.string line)) (.v (.string line)))/\K_:=⟨p0_,Imp.refl _,k_⟩
abbrev kh132 (line:Za):Hint true Tryz.prog:=.call 132 (S132 line) (ok132 line) none
def F98 (line:Za):Bool :=
 (bif (F132 line).2 then ((F132 line).1.toList==line.toList) else false)
def S98 (line:Za):Spec:=⟨[.r (.c (.v (.string line)))],.v (.bool (F98 line)),line.size<=1048576⟩
theorem ok98 (line:Za):(S98 line).ok Tryz.prog 98 :=
 Uf mixed (fn:=Tryz.f98) (ct:=.seq .no (.seq (.reg [(1,kh132 line)]) (.seq .no .no))) Tryz.func98 (fun (hpre0:line.size<=1048576)=>kc132 line uu0 (fiB (bif (F132 line).2 then ((F132 line).1.toList==line.toList) else false) (F98 line) rfl)) uu1
theorem Vk (line:Za):F69 line=F98 line:=by
 unfold F69 F98
 rw [Qpl]
theorem Qhd (line:Za):F98 line=true↔(F132 line).2=true/\(F132 line).1=line:=by
 unfold F98
 rw [cb1,Mv,Qk,Rj]
theorem Qca (line:Za) (h:F98 line=true):KeptP line (F64 line).1:=Qzo line ((Qhd line).1 h)
theorem not_false {b:Bool} (h:(!b)=false):b=true:=by cases b; exact h.symm; rfl
theorem kix_n (line:Za) (hk:(!F98 line)=false):(2:Int)<=((F64 line).1.length:Int):=by
 have:=(Xz _ (Qca line (not_false hk)).form).1; omega
theorem kix0 (line:Za) (hk:(!F98 line)=false):(0:Int)<=0/\(0:Int)<((F64 line).1.length:Int):=by have:=kix_n line hk; omega
theorem kix1 (line:Za) (hk:(!F98 line)=false):(0:Int)<=1/\(1:Int)<((F64 line).1.length:Int):=by have:=kix_n line hk; omega
theorem Quw (line:Za) (hk:(!F98 line)=false) (h:(((F64 line).1.getD (Int.toNat 0) default).toList==Ze.toList)=true):(0:Int)<=2/\(2:Int)<((F64 line).1.length:Int):=by
 have hf:=(Qca line (not_false hk)).form
 rw [blit,Sm] at h
 have h:((F64 line).1.getD 0 default).data.toList=[114,117,108,101]:=h
 unfold Pp Qcs Qel Qes Qdi Hf Qdx natP Qdd at hf
 simp only [h] at hf
 simp at hf
 omega
theorem Qrs (line:Za) (hk:(!F98 line)=false) (h:(((F64 line).1.getD (Int.toNat 0) default).toList==Zg.toList)=true):(0:Int)<=2/\(2:Int)<((F64 line).1.length:Int):=by
 have hf:=(Qca line (not_false hk)).form
 rw [blit,Sm] at h
 have h:((F64 line).1.getD 0 default).data.toList=[100,111,111,114]:=h
 unfold Pp Qcs Qel Qes Qdi Hf Qdx natP Qdd at hf
 simp only [h] at hf
 simp at hf
 omega
theorem Qqc (line:Za) (h:F98 line=true):F173 (F64 line).1=true:=by
 have:=((Qhd line).1 h).1
 rw [Nn] at this
 cases hc:F173 (F64 line).1 with
 | true=>rfl
 | false=>rw [hc,Sc,Qj] at this; exact this
theorem Mr (line:Za) (h:F98 line=true):(F71 (F70 line Zc)).1.key=keyN (((F64 line).1.getD 0 default).data.toList)/\F70 line Zc=(F64 line).1:=by
 have hk:=Qca line h
 have e:F70 line Zc=(F64 line).1:=hk.splits
 rw [e]
 obtain ⟨f1,f2⟩:=Qcq (F64 line).1
 exact ⟨f2 (f1.trans (Qqc line h)),rfl⟩
theorem Qxb (line:Za) (h:F69 line=true):0<=((F71 (F70 line Zc)).1).key/\((F71 (F70 line Zc)).1).key<=((F70 line Zc).length:Int):=by
 rw [Vk] at h
 obtain ⟨k1,k2⟩:=Mr line h
 have:=Ns _ (Qca line h).form
 rw [k1,k2]
 omega
theorem Qxj (line:Za) (h:line.size<=1048576):∀ k:Nat,((F70 line Zc).getD k default).size<=1048576:=fun k=>by
 show ((Ul line Zc).getD k default).size<=1048576
 rw [Mn]
 refine Qaf _ _ (fun w hw=>?_) k
 have:=Mx 32 _ w hw
 have hl:line.data.toList.length=line.size:=Q9
 omega
theorem Qpo (ws:List Za) (n m:Nat) (h:∀ k:Nat,(ws.getD k default).size<=m) (k:Nat):((ws.take n).getD k default).size<=m:=by
 rw [Qb,Re]
 by_cases hk:k<n
 ·rw [if_pos hk,<- Qb]; exact h k
 ·rw [if_neg hk]; exact Rk _
theorem Qdm (line:Za) (hk:(!F69 line)=false) :
  ((F70 line Zc).take (Int.toNat (((F71 (F70 line Zc)).1).key))).length<=140737488355328 /\
  (Yz ((F70 line Zc).take (Int.toNat (((F71 (F70 line Zc)).1).key))) Zc).size<=140737488355328:=by
 have h:=not_false hk
 rw [Vk] at h
 obtain ⟨k1,k2⟩:=Mr line h
 rw [k2]
 have hl:(((F64 line).1).take (Int.toNat (((F71 ((F64 line).1)).1).key))).length<=8:=by
  rw [Se]
  have:=Bx line
  omega
 exact ⟨Q5 hl uu2,Ei _ _ (Qpo _ _ _ (Vn line)) hl uu2⟩
theorem kc69 (line:Za) {K_:Prop} (p0_:line.size<=1048576) (k_:K_):(line.size<=1048576)/\(Imp (.v (.string line)) (.v (.string line)))/\K_:=⟨p0_,Imp.refl _,k_⟩
abbrev kh69 (line:Za):Hint false Tryz.prog:=.call 69 (S69 line) (ok69 line) none
def F40 (line:Za):Za :=
 bif (!(F69 line)) then Zb else (F72 ((F70 line Zc).take (F71 (F70 line Zc)).1.key.toNat) Zc)
def S40 (line:Za):Spec:=⟨[.r (.c (.v (.string line)))],.v (.string (F40 line)),line.size<=1048576⟩
theorem ok40 (line:Za):(S40 line).ok Tryz.prog 40 false :=
 Uf mixed (fn:=Tryz.f40) (ct:=.seq .no (.seq (.seq (.reg [(1,kh69 line)]) (.cond (.seq .no .no) .no)) (.seq (.reg [(1,kh70f line Zc)]) (.seq (.reg [(1,kh71 (F70 line Zc))]) (.seq (.reg [(4,kh72 ((F70 line Zc).take (F71 (F70 line Zc)).1.key.toNat) Zc)]) .no))))) Tryz.func40 (fun (hpre0:line.size<=1048576)=>kc69 line uu0 (ifb (!(F69 line)) (fun h1=>fiS Zb (F40 line) (condT h1 rfl)) (fun h1=>have _:0<=(F71 (F70 line Zc)).1.key/\(F71 (F70 line Zc)).1.key<=((F70 line Zc).length:Int):=Qxb line (Yh h1); kc70 line Zc uu0 uu2 uu2 uu2 (fun gv2 gv3=>kc71 (F70 line Zc) (by exact Qxj line (by omega)) (ai (uu0:0<=(0:Int)/\(0:Int)<=(F71 (F70 line Zc)).1.key/\(F71 (F70 line Zc)).1.key<=((F70 line Zc).length:Int)) (kc72 ((F70 line Zc).take (F71 (F70 line Zc)).1.key.toNat) Zc (by exact (Qdm _ (by assumption)).1) (by exact (Qdm _ (by assumption)).2) (fiS (F72 ((F70 line Zc).take (F71 (F70 line Zc)).1.key.toNat) Zc) (F40 line) (condF h1 rfl)))))))) uu1
theorem kc98 (line:Za) {K_:Prop} (p0_:line.size<=1048576) (k_:K_):(line.size<=1048576)/\(Imp (.v (.string line)) (.v (.string line)))/\K_:=⟨p0_,Imp.refl _,k_⟩
abbrev kh98 (line:Za):Hint true Tryz.prog:=.call 98 (S98 line) (ok98 line) none
def F68 (line:Za):Za :=
 bif (!(F98 line)) then Zb else (bif (((F64 line).1.getD (Int.toNat 0) default).toList==Zi.toList) then (bif (((F64 line).1.getD (Int.toNat 0) default).toList==Zi.toList) then ((F64 line).1.getD (Int.toNat 0) default) else (bif (((F64 line).1.getD (Int.toNat 0) default).toList==Zh.toList) then (bif (((F64 line).1.getD (Int.toNat 0) default).toList==Zh.toList) then ((((F64 line).1.getD (Int.toNat 0) default)++Zc)++((F64 line).1.getD (Int.toNat 1) default)) else (bif (((F64 line).1.getD (Int.toNat 0) default).toList==Ze.toList) then (bif (((F64 line).1.getD (Int.toNat 0) default).toList==Ze.toList) then ((((((F64 line).1.getD (Int.toNat 0) default)++Zc)++((F64 line).1.getD (Int.toNat 1) default))++Zc)++((F64 line).1.getD (Int.toNat 2) default)) else line) else (bif (((F64 line).1.getD (Int.toNat 0) default).toList==Zg.toList) then ((((((F64 line).1.getD (Int.toNat 0) default)++Zc)++((F64 line).1.getD (Int.toNat 1) default))++Zc)++((F64 line).1.getD (Int.toNat 2) default)) else line))) else (bif (((F64 line).1.getD (Int.toNat 0) default).toList==Zf.toList) then (bif (((F64 line).1.getD (Int.toNat 0) default).toList==Zf.toList) then ((((F64 line).1.getD (Int.toNat 0) default)++Zc)++((F64 line).1.getD (Int.toNat 1) default)) else (bif (((F64 line).1.getD (Int.toNat 0) default).toList==Ze.toList) then (bif (((F64 line).1.getD (Int.toNat 0) default).toList==Ze.toList) then ((((((F64 line).1.getD (Int.toNat 0) default)++Zc)++((F64 line).1.getD (Int.toNat 1) default))++Zc)++((F64 line).1.getD (Int.toNat 2) default)) else line) else (bif (((F64 line).1.getD (Int.toNat 0) default).toList==Zg.toList) then ((((((F64 line).1.getD (Int.toNat 0) default)++Zc)++((F64 line).1.getD (Int.toNat 1) default))++Zc)++((F64 line).1.getD (Int.toNat 2) default)) else line))) else (bif (((F64 line).1.getD (Int.toNat 0) default).toList==Zj.toList) then ((((F64 line).1.getD (Int.toNat 0) default)++Zc)++((F64 line).1.getD (Int.toNat 1) default)) else (bif (((F64 line).1.getD (Int.toNat 0) default).toList==Ze.toList) then (bif (((F64 line).1.getD (Int.toNat 0) default).toList==Ze.toList) then ((((((F64 line).1.getD (Int.toNat 0) default)++Zc)++((F64 line).1.getD (Int.toNat 1) default))++Zc)++((F64 line).1.getD (Int.toNat 2) default)) else line) else (bif (((F64 line).1.getD (Int.toNat 0) default).toList==Zg.toList) then ((((((F64 line).1.getD (Int.toNat 0) default)++Zc)++((F64 line).1.getD (Int.toNat 1) default))++Zc)++((F64 line).1.getD (Int.toNat 2) default)) else line)))))) else (bif (((F64 line).1.getD (Int.toNat 0) default).toList==Zk.toList) then ((F64 line).1.getD (Int.toNat 0) default) else (bif (((F64 line).1.getD (Int.toNat 0) default).toList==Zh.toList) then (bif (((F64 line).1.getD (Int.toNat 0) default).toList==Zh.toList) then ((((F64 line).1.getD (Int.toNat 0) default)++Zc)++((F64 line).1.getD (Int.toNat 1) default)) else (bif (((F64 line).1.getD (Int.toNat 0) default).toList==Ze.toList) then (bif (((F64 line).1.getD (Int.toNat 0) default).toList==Ze.toList) then ((((((F64 line).1.getD (Int.toNat 0) default)++Zc)++((F64 line).1.getD (Int.toNat 1) default))++Zc)++((F64 line).1.getD (Int.toNat 2) default)) else line) else (bif (((F64 line).1.getD (Int.toNat 0) default).toList==Zg.toList) then ((((((F64 line).1.getD (Int.toNat 0) default)++Zc)++((F64 line).1.getD (Int.toNat 1) default))++Zc)++((F64 line).1.getD (Int.toNat 2) default)) else line))) else (bif (((F64 line).1.getD (Int.toNat 0) default).toList==Zf.toList) then (bif (((F64 line).1.getD (Int.toNat 0) default).toList==Zf.toList) then ((((F64 line).1.getD (Int.toNat 0) default)++Zc)++((F64 line).1.getD (Int.toNat 1) default)) else (bif (((F64 line).1.getD (Int.toNat 0) default).toList==Ze.toList) then (bif (((F64 line).1.getD (Int.toNat 0) default).toList==Ze.toList) then ((((((F64 line).1.getD (Int.toNat 0) default)++Zc)++((F64 line).1.getD (Int.toNat 1) default))++Zc)++((F64 line).1.getD (Int.toNat 2) default)) else line) else (bif (((F64 line).1.getD (Int.toNat 0) default).toList==Zg.toList) then ((((((F64 line).1.getD (Int.toNat 0) default)++Zc)++((F64 line).1.getD (Int.toNat 1) default))++Zc)++((F64 line).1.getD (Int.toNat 2) default)) else line))) else (bif (((F64 line).1.getD (Int.toNat 0) default).toList==Zj.toList) then ((((F64 line).1.getD (Int.toNat 0) default)++Zc)++((F64 line).1.getD (Int.toNat 1) default)) else (bif (((F64 line).1.getD (Int.toNat 0) default).toList==Ze.toList) then (bif (((F64 line).1.getD (Int.toNat 0) default).toList==Ze.toList) then ((((((F64 line).1.getD (Int.toNat 0) default)++Zc)++((F64 line).1.getD (Int.toNat 1) default))++Zc)++((F64 line).1.getD (Int.toNat 2) default)) else line) else (bif (((F64 line).1.getD (Int.toNat 0) default).toList==Zg.toList) then ((((((F64 line).1.getD (Int.toNat 0) default)++Zc)++((F64 line).1.getD (Int.toNat 1) default))++Zc)++((F64 line).1.getD (Int.toNat 2) default)) else line)))))))
def S68 (line:Za):Spec:=⟨[.r (.c (.v (.string line)))],.v (.string (F68 line)),line.size<=1048576⟩
theorem ok68 (line:Za):(S68 line).ok Tryz.prog 68 :=
 Uf mixed (fn:=Tryz.f68) (ct:=.seq .no (.seq (.seq (.reg [(1,kh98 line)]) (.cond (.seq .no .no) .no)) (.seq (.reg [(1,kh64 line)]) (.seq (.seq .no (.blk (.seq (.seq .no (.cond .no .no)) (.cond (.seq .no .no) (.seq (.seq .no (.cond .no (.seq .no (.cond .no .no)))) (.cond (.seq .no .no) (.seq (.seq .no (.cond .no .no)) (.cond (.seq .no .no) .no)))))))) (.seq .no .no))))) Tryz.func68 (fun (hpre0:line.size<=1048576)=>kc98 line uu0 (ifb (!(F98 line)) (fun h1=>fiS Zb (F68 line) (condT h1 rfl)) (fun h1=>kc64 line uu0 (fun gv2 gv3=>ai (uu7:0<=(0:Int)/\(0:Int)<((F64 line).1.length:Int)) (ifb (((F64 line).1.getD (Int.toNat 0) default).toList==Zi.toList) (fun h4=>ifb (((F64 line).1.getD (Int.toNat 0) default).toList==Zi.toList) (fun h5=>ai (uu7:0<=(0:Int)/\(0:Int)<((F64 line).1.length:Int)) (fiS ((F64 line).1.getD (Int.toNat 0) default) (F68 line) (condF h1 (condT h4 (condT h5 rfl))))) (fun h5=>ifb (((F64 line).1.getD (Int.toNat 0) default).toList==Zh.toList) (fun h6=>ifb (((F64 line).1.getD (Int.toNat 0) default).toList==Zh.toList) (fun h7=>ai (uu7:0<=(0:Int)/\(0:Int)<((F64 line).1.length:Int)) (ai (uu4:((((F64 line).1.getD (Int.toNat 0) default).size+Zc.size:Nat):Int)<=9223372036854775807) (ai (uu10:0<=(1:Int)/\(1:Int)<((F64 line).1.length:Int)) (ai (uu4:(((((F64 line).1.getD (Int.toNat 0) default)++Zc).size+((F64 line).1.getD (Int.toNat 1) default).size:Nat):Int)<=9223372036854775807) (fiS ((((F64 line).1.getD (Int.toNat 0) default)++Zc)++((F64 line).1.getD (Int.toNat 1) default)) (F68 line) (condF h1 (condT h4 (condF h5 (condT h6 (condT h7 rfl)))))))))) (fun h7=>ifb (((F64 line).1.getD (Int.toNat 0) default).toList==Ze.toList) (fun h8=>ifb (((F64 line).1.getD (Int.toNat 0) default).toList==Ze.toList) (fun h9=>ai (uu7:0<=(0:Int)/\(0:Int)<((F64 line).1.length:Int)) (ai (uu4:((((F64 line).1.getD (Int.toNat 0) default).size+Zc.size:Nat):Int)<=9223372036854775807) (ai (uu10:0<=(1:Int)/\(1:Int)<((F64 line).1.length:Int)) (ai (uu4:(((((F64 line).1.getD (Int.toNat 0) default)++Zc).size+((F64 line).1.getD (Int.toNat 1) default).size:Nat):Int)<=9223372036854775807) (ai (uu4:((((((F64 line).1.getD (Int.toNat 0) default)++Zc)++((F64 line).1.getD (Int.toNat 1) default)).size+Zc.size:Nat):Int)<=9223372036854775807) (ai (uu22:0<=(2:Int)/\(2:Int)<((F64 line).1.length:Int)) (ai (uu4:(((((((F64 line).1.getD (Int.toNat 0) default)++Zc)++((F64 line).1.getD (Int.toNat 1) default))++Zc).size+((F64 line).1.getD (Int.toNat 2) default).size:Nat):Int)<=9223372036854775807) (fiS ((((((F64 line).1.getD (Int.toNat 0) default)++Zc)++((F64 line).1.getD (Int.toNat 1) default))++Zc)++((F64 line).1.getD (Int.toNat 2) default)) (F68 line) (condF h1 (condT h4 (condF h5 (condT h6 (condF h7 (condT h8 (condT h9 rfl))))))))))))))) (fun h9=>fiS line (F68 line) (condF h1 (condT h4 (condF h5 (condT h6 (condF h7 (condT h8 (condF h9 rfl))))))))) (fun h8=>ifb (((F64 line).1.getD (Int.toNat 0) default).toList==Zg.toList) (fun h10=>ai (uu7:0<=(0:Int)/\(0:Int)<((F64 line).1.length:Int)) (ai (uu4:((((F64 line).1.getD (Int.toNat 0) default).size+Zc.size:Nat):Int)<=9223372036854775807) (ai (uu10:0<=(1:Int)/\(1:Int)<((F64 line).1.length:Int)) (ai (uu4:(((((F64 line).1.getD (Int.toNat 0) default)++Zc).size+((F64 line).1.getD (Int.toNat 1) default).size:Nat):Int)<=9223372036854775807) (ai (uu4:((((((F64 line).1.getD (Int.toNat 0) default)++Zc)++((F64 line).1.getD (Int.toNat 1) default)).size+Zc.size:Nat):Int)<=9223372036854775807) (ai (uu23:0<=(2:Int)/\(2:Int)<((F64 line).1.length:Int)) (ai (uu4:(((((((F64 line).1.getD (Int.toNat 0) default)++Zc)++((F64 line).1.getD (Int.toNat 1) default))++Zc).size+((F64 line).1.getD (Int.toNat 2) default).size:Nat):Int)<=9223372036854775807) (fiS ((((((F64 line).1.getD (Int.toNat 0) default)++Zc)++((F64 line).1.getD (Int.toNat 1) default))++Zc)++((F64 line).1.getD (Int.toNat 2) default)) (F68 line) (condF h1 (condT h4 (condF h5 (condT h6 (condF h7 (condF h8 (condT h10 rfl))))))))))))))) (fun h10=>fiS line (F68 line) (condF h1 (condT h4 (condF h5 (condT h6 (condF h7 (condF h8 (condF h10 rfl))))))))))) (fun h6=>ifb (((F64 line).1.getD (Int.toNat 0) default).toList==Zf.toList) (fun h11=>ifb (((F64 line).1.getD (Int.toNat 0) default).toList==Zf.toList) (fun h12=>ai (uu7:0<=(0:Int)/\(0:Int)<((F64 line).1.length:Int)) (ai (uu4:((((F64 line).1.getD (Int.toNat 0) default).size+Zc.size:Nat):Int)<=9223372036854775807) (ai (uu10:0<=(1:Int)/\(1:Int)<((F64 line).1.length:Int)) (ai (uu4:(((((F64 line).1.getD (Int.toNat 0) default)++Zc).size+((F64 line).1.getD (Int.toNat 1) default).size:Nat):Int)<=9223372036854775807) (fiS ((((F64 line).1.getD (Int.toNat 0) default)++Zc)++((F64 line).1.getD (Int.toNat 1) default)) (F68 line) (condF h1 (condT h4 (condF h5 (condF h6 (condT h11 (condT h12 rfl))))))))))) (fun h12=>ifb (((F64 line).1.getD (Int.toNat 0) default).toList==Ze.toList) (fun h13=>ifb (((F64 line).1.getD (Int.toNat 0) default).toList==Ze.toList) (fun h14=>ai (uu7:0<=(0:Int)/\(0:Int)<((F64 line).1.length:Int)) (ai (uu4:((((F64 line).1.getD (Int.toNat 0) default).size+Zc.size:Nat):Int)<=9223372036854775807) (ai (uu10:0<=(1:Int)/\(1:Int)<((F64 line).1.length:Int)) (ai (uu4:(((((F64 line).1.getD (Int.toNat 0) default)++Zc).size+((F64 line).1.getD (Int.toNat 1) default).size:Nat):Int)<=9223372036854775807) (ai (uu4:((((((F64 line).1.getD (Int.toNat 0) default)++Zc)++((F64 line).1.getD (Int.toNat 1) default)).size+Zc.size:Nat):Int)<=9223372036854775807) (ai (uu22:0<=(2:Int)/\(2:Int)<((F64 line).1.length:Int)) (ai (uu4:(((((((F64 line).1.getD (Int.toNat 0) default)++Zc)++((F64 line).1.getD (Int.toNat 1) default))++Zc).size+((F64 line).1.getD (Int.toNat 2) default).size:Nat):Int)<=9223372036854775807) (fiS ((((((F64 line).1.getD (Int.toNat 0) default)++Zc)++((F64 line).1.getD (Int.toNat 1) default))++Zc)++((F64 line).1.getD (Int.toNat 2) default)) (F68 line) (condF h1 (condT h4 (condF h5 (condF h6 (condT h11 (condF h12 (condT h13 (condT h14 rfl)))))))))))))))) (fun h14=>fiS line (F68 line) (condF h1 (condT h4 (condF h5 (condF h6 (condT h11 (condF h12 (condT h13 (condF h14 rfl)))))))))) (fun h13=>ifb (((F64 line).1.getD (Int.toNat 0) default).toList==Zg.toList) (fun h15=>ai (uu7:0<=(0:Int)/\(0:Int)<((F64 line).1.length:Int)) (ai (uu4:((((F64 line).1.getD (Int.toNat 0) default).size+Zc.size:Nat):Int)<=9223372036854775807) (ai (uu10:0<=(1:Int)/\(1:Int)<((F64 line).1.length:Int)) (ai (uu4:(((((F64 line).1.getD (Int.toNat 0) default)++Zc).size+((F64 line).1.getD (Int.toNat 1) default).size:Nat):Int)<=9223372036854775807) (ai (uu4:((((((F64 line).1.getD (Int.toNat 0) default)++Zc)++((F64 line).1.getD (Int.toNat 1) default)).size+Zc.size:Nat):Int)<=9223372036854775807) (ai (uu23:0<=(2:Int)/\(2:Int)<((F64 line).1.length:Int)) (ai (uu4:(((((((F64 line).1.getD (Int.toNat 0) default)++Zc)++((F64 line).1.getD (Int.toNat 1) default))++Zc).size+((F64 line).1.getD (Int.toNat 2) default).size:Nat):Int)<=9223372036854775807) (fiS ((((((F64 line).1.getD (Int.toNat 0) default)++Zc)++((F64 line).1.getD (Int.toNat 1) default))++Zc)++((F64 line).1.getD (Int.toNat 2) default)) (F68 line) (condF h1 (condT h4 (condF h5 (condF h6 (condT h11 (condF h12 (condF h13 (condT h15 rfl)))))))))))))))) (fun h15=>fiS line (F68 line) (condF h1 (condT h4 (condF h5 (condF h6 (condT h11 (condF h12 (condF h13 (condF h15 rfl)))))))))))) (fun h11=>ifb (((F64 line).1.getD (Int.toNat 0) default).toList==Zj.toList) (fun h16=>ai (uu7:0<=(0:Int)/\(0:Int)<((F64 line).1.length:Int)) (ai (uu4:((((F64 line).1.getD (Int.toNat 0) default).size+Zc.size:Nat):Int)<=9223372036854775807) (ai (uu10:0<=(1:Int)/\(1:Int)<((F64 line).1.length:Int)) (ai (uu4:(((((F64 line).1.getD (Int.toNat 0) default)++Zc).size+((F64 line).1.getD (Int.toNat 1) default).size:Nat):Int)<=9223372036854775807) (fiS ((((F64 line).1.getD (Int.toNat 0) default)++Zc)++((F64 line).1.getD (Int.toNat 1) default)) (F68 line) (condF h1 (condT h4 (condF h5 (condF h6 (condF h11 (condT h16 rfl))))))))))) (fun h16=>ifb (((F64 line).1.getD (Int.toNat 0) default).toList==Ze.toList) (fun h17=>ifb (((F64 line).1.getD (Int.toNat 0) default).toList==Ze.toList) (fun h18=>ai (uu7:0<=(0:Int)/\(0:Int)<((F64 line).1.length:Int)) (ai (uu4:((((F64 line).1.getD (Int.toNat 0) default).size+Zc.size:Nat):Int)<=9223372036854775807) (ai (uu10:0<=(1:Int)/\(1:Int)<((F64 line).1.length:Int)) (ai (uu4:(((((F64 line).1.getD (Int.toNat 0) default)++Zc).size+((F64 line).1.getD (Int.toNat 1) default).size:Nat):Int)<=9223372036854775807) (ai (uu4:((((((F64 line).1.getD (Int.toNat 0) default)++Zc)++((F64 line).1.getD (Int.toNat 1) default)).size+Zc.size:Nat):Int)<=9223372036854775807) (ai (uu22:0<=(2:Int)/\(2:Int)<((F64 line).1.length:Int)) (ai (uu4:(((((((F64 line).1.getD (Int.toNat 0) default)++Zc)++((F64 line).1.getD (Int.toNat 1) default))++Zc).size+((F64 line).1.getD (Int.toNat 2) default).size:Nat):Int)<=9223372036854775807) (fiS ((((((F64 line).1.getD (Int.toNat 0) default)++Zc)++((F64 line).1.getD (Int.toNat 1) default))++Zc)++((F64 line).1.getD (Int.toNat 2) default)) (F68 line) (condF h1 (condT h4 (condF h5 (condF h6 (condF h11 (condF h16 (condT h17 (condT h18 rfl)))))))))))))))) (fun h18=>fiS line (F68 line) (condF h1 (condT h4 (condF h5 (condF h6 (condF h11 (condF h16 (condT h17 (condF h18 rfl)))))))))) (fun h17=>ifb (((F64 line).1.getD (Int.toNat 0) default).toList==Zg.toList) (fun h19=>ai (uu7:0<=(0:Int)/\(0:Int)<((F64 line).1.length:Int)) (ai (uu4:((((F64 line).1.getD (Int.toNat 0) default).size+Zc.size:Nat):Int)<=9223372036854775807) (ai (uu10:0<=(1:Int)/\(1:Int)<((F64 line).1.length:Int)) (ai (uu4:(((((F64 line).1.getD (Int.toNat 0) default)++Zc).size+((F64 line).1.getD (Int.toNat 1) default).size:Nat):Int)<=9223372036854775807) (ai (uu4:((((((F64 line).1.getD (Int.toNat 0) default)++Zc)++((F64 line).1.getD (Int.toNat 1) default)).size+Zc.size:Nat):Int)<=9223372036854775807) (ai (uu23:0<=(2:Int)/\(2:Int)<((F64 line).1.length:Int)) (ai (uu4:(((((((F64 line).1.getD (Int.toNat 0) default)++Zc)++((F64 line).1.getD (Int.toNat 1) default))++Zc).size+((F64 line).1.getD (Int.toNat 2) default).size:Nat):Int)<=9223372036854775807) (fiS ((((((F64 line).1.getD (Int.toNat 0) default)++Zc)++((F64 line).1.getD (Int.toNat 1) default))++Zc)++((F64 line).1.getD (Int.toNat 2) default)) (F68 line) (condF h1 (condT h4 (condF h5 (condF h6 (condF h11 (condF h16 (condF h17 (condT h19 rfl)))))))))))))))) (fun h19=>fiS line (F68 line) (condF h1 (condT h4 (condF h5 (condF h6 (condF h11 (condF h16 (condF h17 (condF h19 rfl))))))))))))))) (fun h4=>ifb (((F64 line).1.getD (Int.toNat 0) default).toList==Zk.toList) (fun h20=>ai (uu7:0<=(0:Int)/\(0:Int)<((F64 line).1.length:Int)) (fiS ((F64 line).1.getD (Int.toNat 0) default) (F68 line) (condF h1 (condF h4 (condT h20 rfl))))) (fun h20=>ifb (((F64 line).1.getD (Int.toNat 0) default).toList==Zh.toList) (fun h21=>ifb (((F64 line).1.getD (Int.toNat 0) default).toList==Zh.toList) (fun h22=>ai (uu7:0<=(0:Int)/\(0:Int)<((F64 line).1.length:Int)) (ai (uu4:((((F64 line).1.getD (Int.toNat 0) default).size+Zc.size:Nat):Int)<=9223372036854775807) (ai (uu10:0<=(1:Int)/\(1:Int)<((F64 line).1.length:Int)) (ai (uu4:(((((F64 line).1.getD (Int.toNat 0) default)++Zc).size+((F64 line).1.getD (Int.toNat 1) default).size:Nat):Int)<=9223372036854775807) (fiS ((((F64 line).1.getD (Int.toNat 0) default)++Zc)++((F64 line).1.getD (Int.toNat 1) default)) (F68 line) (condF h1 (condF h4 (condF h20 (condT h21 (condT h22 rfl)))))))))) (fun h22=>ifb (((F64 line).1.getD (Int.toNat 0) default).toList==Ze.toList) (fun h23=>ifb (((F64 line).1.getD (Int.toNat 0) default).toList==Ze.toList) (fun h24=>ai (uu7:0<=(0:Int)/\(0:Int)<((F64 line).1.length:Int)) (ai (uu4:((((F64 line).1.getD (Int.toNat 0) default).size+Zc.size:Nat):Int)<=9223372036854775807) (ai (uu10:0<=(1:Int)/\(1:Int)<((F64 line).1.length:Int)) (ai (uu4:(((((F64 line).1.getD (Int.toNat 0) default)++Zc).size+((F64 line).1.getD (Int.toNat 1) default).size:Nat):Int)<=9223372036854775807) (ai (uu4:((((((F64 line).1.getD (Int.toNat 0) default)++Zc)++((F64 line).1.getD (Int.toNat 1) default)).size+Zc.size:Nat):Int)<=9223372036854775807) (ai (uu22:0<=(2:Int)/\(2:Int)<((F64 line).1.length:Int)) (ai (uu4:(((((((F64 line).1.getD (Int.toNat 0) default)++Zc)++((F64 line).1.getD (Int.toNat 1) default))++Zc).size+((F64 line).1.getD (Int.toNat 2) default).size:Nat):Int)<=9223372036854775807) (fiS ((((((F64 line).1.getD (Int.toNat 0) default)++Zc)++((F64 line).1.getD (Int.toNat 1) default))++Zc)++((F64 line).1.getD (Int.toNat 2) default)) (F68 line) (condF h1 (condF h4 (condF h20 (condT h21 (condF h22 (condT h23 (condT h24 rfl))))))))))))))) (fun h24=>fiS line (F68 line) (condF h1 (condF h4 (condF h20 (condT h21 (condF h22 (condT h23 (condF h24 rfl))))))))) (fun h23=>ifb (((F64 line).1.getD (Int.toNat 0) default).toList==Zg.toList) (fun h25=>ai (uu7:0<=(0:Int)/\(0:Int)<((F64 line).1.length:Int)) (ai (uu4:((((F64 line).1.getD (Int.toNat 0) default).size+Zc.size:Nat):Int)<=9223372036854775807) (ai (uu10:0<=(1:Int)/\(1:Int)<((F64 line).1.length:Int)) (ai (uu4:(((((F64 line).1.getD (Int.toNat 0) default)++Zc).size+((F64 line).1.getD (Int.toNat 1) default).size:Nat):Int)<=9223372036854775807) (ai (uu4:((((((F64 line).1.getD (Int.toNat 0) default)++Zc)++((F64 line).1.getD (Int.toNat 1) default)).size+Zc.size:Nat):Int)<=9223372036854775807) (ai (uu23:0<=(2:Int)/\(2:Int)<((F64 line).1.length:Int)) (ai (uu4:(((((((F64 line).1.getD (Int.toNat 0) default)++Zc)++((F64 line).1.getD (Int.toNat 1) default))++Zc).size+((F64 line).1.getD (Int.toNat 2) default).size:Nat):Int)<=9223372036854775807) (fiS ((((((F64 line).1.getD (Int.toNat 0) default)++Zc)++((F64 line).1.getD (Int.toNat 1) default))++Zc)++((F64 line).1.getD (Int.toNat 2) default)) (F68 line) (condF h1 (condF h4 (condF h20 (condT h21 (condF h22 (condF h23 (condT h25 rfl))))))))))))))) (fun h25=>fiS line (F68 line) (condF h1 (condF h4 (condF h20 (condT h21 (condF h22 (condF h23 (condF h25 rfl))))))))))) (fun h21=>ifb (((F64 line).1.getD (Int.toNat 0) default).toList==Zf.toList) (fun h26=>ifb (((F64 line).1.getD (Int.toNat 0) default).toList==Zf.toList) (fun h27=>ai (uu7:0<=(0:Int)/\(0:Int)<((F64 line).1.length:Int)) (ai (uu4:((((F64 line).1.getD (Int.toNat 0) default).size+Zc.size:Nat):Int)<=9223372036854775807) (ai (uu10:0<=(1:Int)/\(1:Int)<((F64 line).1.length:Int)) (ai (uu4:(((((F64 line).1.getD (Int.toNat 0) default)++Zc).size+((F64 line).1.getD (Int.toNat 1) default).size:Nat):Int)<=9223372036854775807) (fiS ((((F64 line).1.getD (Int.toNat 0) default)++Zc)++((F64 line).1.getD (Int.toNat 1) default)) (F68 line) (condF h1 (condF h4 (condF h20 (condF h21 (condT h26 (condT h27 rfl))))))))))) (fun h27=>ifb (((F64 line).1.getD (Int.toNat 0) default).toList==Ze.toList) (fun h28=>ifb (((F64 line).1.getD (Int.toNat 0) default).toList==Ze.toList) (fun h29=>ai (uu7:0<=(0:Int)/\(0:Int)<((F64 line).1.length:Int)) (ai (uu4:((((F64 line).1.getD (Int.toNat 0) default).size+Zc.size:Nat):Int)<=9223372036854775807) (ai (uu10:0<=(1:Int)/\(1:Int)<((F64 line).1.length:Int)) (ai (uu4:(((((F64 line).1.getD (Int.toNat 0) default)++Zc).size+((F64 line).1.getD (Int.toNat 1) default).size:Nat):Int)<=9223372036854775807) (ai (uu4:((((((F64 line).1.getD (Int.toNat 0) default)++Zc)++((F64 line).1.getD (Int.toNat 1) default)).size+Zc.size:Nat):Int)<=9223372036854775807) (ai (uu22:0<=(2:Int)/\(2:Int)<((F64 line).1.length:Int)) (ai (uu4:(((((((F64 line).1.getD (Int.toNat 0) default)++Zc)++((F64 line).1.getD (Int.toNat 1) default))++Zc).size+((F64 line).1.getD (Int.toNat 2) default).size:Nat):Int)<=9223372036854775807) (fiS ((((((F64 line).1.getD (Int.toNat 0) default)++Zc)++((F64 line).1.getD (Int.toNat 1) default))++Zc)++((F64 line).1.getD (Int.toNat 2) default)) (F68 line) (condF h1 (condF h4 (condF h20 (condF h21 (condT h26 (condF h27 (condT h28 (condT h29 rfl)))))))))))))))) (fun h29=>fiS line (F68 line) (condF h1 (condF h4 (condF h20 (condF h21 (condT h26 (condF h27 (condT h28 (condF h29 rfl)))))))))) (fun h28=>ifb (((F64 line).1.getD (Int.toNat 0) default).toList==Zg.toList) (fun h30=>ai (uu7:0<=(0:Int)/\(0:Int)<((F64 line).1.length:Int)) (ai (uu4:((((F64 line).1.getD (Int.toNat 0) default).size+Zc.size:Nat):Int)<=9223372036854775807) (ai (uu10:0<=(1:Int)/\(1:Int)<((F64 line).1.length:Int)) (ai (uu4:(((((F64 line).1.getD (Int.toNat 0) default)++Zc).size+((F64 line).1.getD (Int.toNat 1) default).size:Nat):Int)<=9223372036854775807) (ai (uu4:((((((F64 line).1.getD (Int.toNat 0) default)++Zc)++((F64 line).1.getD (Int.toNat 1) default)).size+Zc.size:Nat):Int)<=9223372036854775807) (ai (uu23:0<=(2:Int)/\(2:Int)<((F64 line).1.length:Int)) (ai (uu4:(((((((F64 line).1.getD (Int.toNat 0) default)++Zc)++((F64 line).1.getD (Int.toNat 1) default))++Zc).size+((F64 line).1.getD (Int.toNat 2) default).size:Nat):Int)<=9223372036854775807) (fiS ((((((F64 line).1.getD (Int.toNat 0) default)++Zc)++((F64 line).1.getD (Int.toNat 1) default))++Zc)++((F64 line).1.getD (Int.toNat 2) default)) (F68 line) (condF h1 (condF h4 (condF h20 (condF h21 (condT h26 (condF h27 (condF h28 (condT h30 rfl)))))))))))))))) (fun h30=>fiS line (F68 line) (condF h1 (condF h4 (condF h20 (condF h21 (condT h26 (condF h27 (condF h28 (condF h30 rfl)))))))))))) (fun h26=>ifb (((F64 line).1.getD (Int.toNat 0) default).toList==Zj.toList) (fun h31=>ai (uu7:0<=(0:Int)/\(0:Int)<((F64 line).1.length:Int)) (ai (uu4:((((F64 line).1.getD (Int.toNat 0) default).size+Zc.size:Nat):Int)<=9223372036854775807) (ai (uu10:0<=(1:Int)/\(1:Int)<((F64 line).1.length:Int)) (ai (uu4:(((((F64 line).1.getD (Int.toNat 0) default)++Zc).size+((F64 line).1.getD (Int.toNat 1) default).size:Nat):Int)<=9223372036854775807) (fiS ((((F64 line).1.getD (Int.toNat 0) default)++Zc)++((F64 line).1.getD (Int.toNat 1) default)) (F68 line) (condF h1 (condF h4 (condF h20 (condF h21 (condF h26 (condT h31 rfl))))))))))) (fun h31=>ifb (((F64 line).1.getD (Int.toNat 0) default).toList==Ze.toList) (fun h32=>ifb (((F64 line).1.getD (Int.toNat 0) default).toList==Ze.toList) (fun h33=>ai (uu7:0<=(0:Int)/\(0:Int)<((F64 line).1.length:Int)) (ai (uu4:((((F64 line).1.getD (Int.toNat 0) default).size+Zc.size:Nat):Int)<=9223372036854775807) (ai (uu10:0<=(1:Int)/\(1:Int)<((F64 line).1.length:Int)) (ai (uu4:(((((F64 line).1.getD (Int.toNat 0) default)++Zc).size+((F64 line).1.getD (Int.toNat 1) default).size:Nat):Int)<=9223372036854775807) (ai (uu4:((((((F64 line).1.getD (Int.toNat 0) default)++Zc)++((F64 line).1.getD (Int.toNat 1) default)).size+Zc.size:Nat):Int)<=9223372036854775807) (ai (uu22:0<=(2:Int)/\(2:Int)<((F64 line).1.length:Int)) (ai (uu4:(((((((F64 line).1.getD (Int.toNat 0) default)++Zc)++((F64 line).1.getD (Int.toNat 1) default))++Zc).size+((F64 line).1.getD (Int.toNat 2) default).size:Nat):Int)<=9223372036854775807) (fiS ((((((F64 line).1.getD (Int.toNat 0) default)++Zc)++((F64 line).1.getD (Int.toNat 1) default))++Zc)++((F64 line).1.getD (Int.toNat 2) default)) (F68 line) (condF h1 (condF h4 (condF h20 (condF h21 (condF h26 (condF h31 (condT h32 (condT h33 rfl)))))))))))))))) (fun h33=>fiS line (F68 line) (condF h1 (condF h4 (condF h20 (condF h21 (condF h26 (condF h31 (condT h32 (condF h33 rfl)))))))))) (fun h32=>ifb (((F64 line).1.getD (Int.toNat 0) default).toList==Zg.toList) (fun h34=>ai (uu7:0<=(0:Int)/\(0:Int)<((F64 line).1.length:Int)) (ai (uu4:((((F64 line).1.getD (Int.toNat 0) default).size+Zc.size:Nat):Int)<=9223372036854775807) (ai (uu10:0<=(1:Int)/\(1:Int)<((F64 line).1.length:Int)) (ai (uu4:(((((F64 line).1.getD (Int.toNat 0) default)++Zc).size+((F64 line).1.getD (Int.toNat 1) default).size:Nat):Int)<=9223372036854775807) (ai (uu4:((((((F64 line).1.getD (Int.toNat 0) default)++Zc)++((F64 line).1.getD (Int.toNat 1) default)).size+Zc.size:Nat):Int)<=9223372036854775807) (ai (uu23:0<=(2:Int)/\(2:Int)<((F64 line).1.length:Int)) (ai (uu4:(((((((F64 line).1.getD (Int.toNat 0) default)++Zc)++((F64 line).1.getD (Int.toNat 1) default))++Zc).size+((F64 line).1.getD (Int.toNat 2) default).size:Nat):Int)<=9223372036854775807) (fiS ((((((F64 line).1.getD (Int.toNat 0) default)++Zc)++((F64 line).1.getD (Int.toNat 1) default))++Zc)++((F64 line).1.getD (Int.toNat 2) default)) (F68 line) (condF h1 (condF h4 (condF h20 (condF h21 (condF h26 (condF h31 (condF h32 (condT h34 rfl)))))))))))))))) (fun h34=>fiS line (F68 line) (condF h1 (condF h4 (condF h20 (condF h21 (condF h26 (condF h31 (condF h32 (condF h34 rfl)))))))))))))))))))) uu1
theorem join1 (a sp:Za):Yz [a] sp=a:=Vd (by show Lib.join _ _=_; exact Lib.join_one _ _)
theorem Bz (ws:List Za) (sp:Za):(Yz ws sp).data.toList=Lib.join (ws.map (·.data.toList)) sp.data.toList:=rfl
theorem Qut (a b sp:Za):Yz [a,b] sp=(a++sp)++b:=Vd (by
 rw [Bz,Rc,Lib.join_cons]
 simp [Lib.joinTail,Ge,Gq,Q0])
theorem join3 (a b c sp:Za):Yz [a,b,c] sp=(((a++sp)++b)++sp)++c:=Vd (by
 rw [Bz,Rc,Lib.join_cons]
 simp [Lib.joinTail,Ge,Gq,Q0])
theorem Qiy (w:List Za) (h:1<=w.length):w.take 1=[w.getD 0 default]:=by
 match w,h with
 | a :: _,_=>rfl
theorem Px (w:List Za) (h:2<=w.length):w.take 2=[w.getD 0 default,w.getD 1 default]:=by
 match w,h with
 | a :: b :: _,_=>rfl
theorem Qah (w:List Za) (h:3<=w.length):w.take 3=[w.getD 0 default,w.getD 1 default,w.getD 2 default]:=by
 match w,h with
 | a :: b :: c :: _,_=>rfl
theorem Qxy (line:Za) (h:F98 line=true):F68 line=Yz ((F64 line).1.take (keyN (((F64 line).1.getD 0 default).data.toList)).toNat) Zc:=by
 have hk:=Qca line h
 have hj:=hk.joins
 unfold F68
 have e0:(F64 line).1.getD (Int.toNat 0) default=(F64 line).1.getD 0 default:=rfl
 have e1:(F64 line).1.getD (Int.toNat 1) default=(F64 line).1.getD 1 default:=rfl
 have e2:(F64 line).1.getD (Int.toNat 2) default=(F64 line).1.getD 2 default:=rfl
 simp only [h,Sz,Qj,e0,e1,e2,blit]
 have hf:=hk.form
 generalize (F64 line).1=w at hf hj
 rcases hf with hf | hf | hf | hf | hf | hf | hf | hf
 ·have h0:=hf.1
  have hn:keyN (w.getD 0 default).data.toList=1:=by rw [h0]; decide
  have hl:2<=w.length:=by unfold Qcs at hf; omega
  rw [hn,show ((1:Int).toNat)=1 from rfl]
  simp only [h0,show (([104,111,115,116]:List UInt8)==([104,111,115,116]:List UInt8))=true from by decide ,show (([104,111,115,116]:List UInt8)==([117,115,101,114]:List UInt8))=false from by decide ,show (([104,111,115,116]:List UInt8)==([112,111,114,116]:List UInt8))=false from by decide ,show (([104,111,115,116]:List UInt8)==([114,117,108,101]:List UInt8))=false from by decide ,show (([104,111,115,116]:List UInt8)==([114,111,117,116,101]:List UInt8))=false from by decide ,show (([104,111,115,116]:List UInt8)==([112,101,101,114]:List UInt8))=false from by decide ,show (([104,111,115,116]:List UInt8)==([110,97,116]:List UInt8))=false from by decide ,show (([104,111,115,116]:List UInt8)==([100,111,111,114]:List UInt8))=false from by decide,Qe,Qj]
  rw [Qiy w uu0,join1]
 ·have h0:=hf.1
  have hn:keyN (w.getD 0 default).data.toList=2:=by rw [h0]; decide
  have hl:2<=w.length:=by unfold Qel at hf; omega
  rw [hn,show ((2:Int).toNat)=2 from rfl]
  simp only [h0,show (([117,115,101,114]:List UInt8)==([104,111,115,116]:List UInt8))=false from by decide ,show (([117,115,101,114]:List UInt8)==([117,115,101,114]:List UInt8))=true from by decide ,show (([117,115,101,114]:List UInt8)==([112,111,114,116]:List UInt8))=false from by decide ,show (([117,115,101,114]:List UInt8)==([114,117,108,101]:List UInt8))=false from by decide ,show (([117,115,101,114]:List UInt8)==([114,111,117,116,101]:List UInt8))=false from by decide ,show (([117,115,101,114]:List UInt8)==([112,101,101,114]:List UInt8))=false from by decide ,show (([117,115,101,114]:List UInt8)==([110,97,116]:List UInt8))=false from by decide ,show (([117,115,101,114]:List UInt8)==([100,111,111,114]:List UInt8))=false from by decide,Qe,Qj]
  rw [Px w uu0,Qut]
 ·have h0:=hf.1
  have hn:keyN (w.getD 0 default).data.toList=2:=by rw [h0]; decide
  have hl:2<=w.length:=by unfold Qes at hf; omega
  rw [hn,show ((2:Int).toNat)=2 from rfl]
  simp only [h0,show (([112,111,114,116]:List UInt8)==([104,111,115,116]:List UInt8))=false from by decide ,show (([112,111,114,116]:List UInt8)==([117,115,101,114]:List UInt8))=false from by decide ,show (([112,111,114,116]:List UInt8)==([112,111,114,116]:List UInt8))=true from by decide ,show (([112,111,114,116]:List UInt8)==([114,117,108,101]:List UInt8))=false from by decide ,show (([112,111,114,116]:List UInt8)==([114,111,117,116,101]:List UInt8))=false from by decide ,show (([112,111,114,116]:List UInt8)==([112,101,101,114]:List UInt8))=false from by decide ,show (([112,111,114,116]:List UInt8)==([110,97,116]:List UInt8))=false from by decide ,show (([112,111,114,116]:List UInt8)==([100,111,111,114]:List UInt8))=false from by decide,Qe,Qj]
  rw [Px w uu0,Qut]
 ·have h0:=hf.1
  have hn:keyN (w.getD 0 default).data.toList=3:=by rw [h0]; decide
  have hl:3<=w.length:=by unfold Qdi at hf; omega
  rw [hn,show ((3:Int).toNat)=3 from rfl]
  simp only [h0,show (([114,117,108,101]:List UInt8)==([104,111,115,116]:List UInt8))=false from by decide ,show (([114,117,108,101]:List UInt8)==([117,115,101,114]:List UInt8))=false from by decide ,show (([114,117,108,101]:List UInt8)==([112,111,114,116]:List UInt8))=false from by decide ,show (([114,117,108,101]:List UInt8)==([114,117,108,101]:List UInt8))=true from by decide ,show (([114,117,108,101]:List UInt8)==([114,111,117,116,101]:List UInt8))=false from by decide ,show (([114,117,108,101]:List UInt8)==([112,101,101,114]:List UInt8))=false from by decide ,show (([114,117,108,101]:List UInt8)==([110,97,116]:List UInt8))=false from by decide ,show (([114,117,108,101]:List UInt8)==([100,111,111,114]:List UInt8))=false from by decide,Qe,Qj]
  rw [Qah w uu0,join3]
 ·have h0:=hf.1
  have hn:keyN (w.getD 0 default).data.toList=3:=by rw [h0]; decide
  have hl:3<=w.length:=by unfold Hf at hf; omega
  rw [hn,show ((3:Int).toNat)=3 from rfl]
  simp only [h0,show (([114,111,117,116,101]:List UInt8)==([104,111,115,116]:List UInt8))=false from by decide ,show (([114,111,117,116,101]:List UInt8)==([117,115,101,114]:List UInt8))=false from by decide ,show (([114,111,117,116,101]:List UInt8)==([112,111,114,116]:List UInt8))=false from by decide ,show (([114,111,117,116,101]:List UInt8)==([114,117,108,101]:List UInt8))=false from by decide ,show (([114,111,117,116,101]:List UInt8)==([114,111,117,116,101]:List UInt8))=true from by decide ,show (([114,111,117,116,101]:List UInt8)==([112,101,101,114]:List UInt8))=false from by decide ,show (([114,111,117,116,101]:List UInt8)==([110,97,116]:List UInt8))=false from by decide ,show (([114,111,117,116,101]:List UInt8)==([100,111,111,114]:List UInt8))=false from by decide,Qe,Qj]
  rw [Ry (by unfold Hf at hf; omega)]
  exact hj.symm
 ·have h0:=hf.1
  have hn:keyN (w.getD 0 default).data.toList=2:=by rw [h0]; decide
  have hl:2<=w.length:=by unfold Qdx at hf; omega
  rw [hn,show ((2:Int).toNat)=2 from rfl]
  simp only [h0,show (([112,101,101,114]:List UInt8)==([104,111,115,116]:List UInt8))=false from by decide ,show (([112,101,101,114]:List UInt8)==([117,115,101,114]:List UInt8))=false from by decide ,show (([112,101,101,114]:List UInt8)==([112,111,114,116]:List UInt8))=false from by decide ,show (([112,101,101,114]:List UInt8)==([114,117,108,101]:List UInt8))=false from by decide ,show (([112,101,101,114]:List UInt8)==([114,111,117,116,101]:List UInt8))=false from by decide ,show (([112,101,101,114]:List UInt8)==([112,101,101,114]:List UInt8))=true from by decide ,show (([112,101,101,114]:List UInt8)==([110,97,116]:List UInt8))=false from by decide ,show (([112,101,101,114]:List UInt8)==([100,111,111,114]:List UInt8))=false from by decide,Qe,Qj]
  rw [Px w uu0,Qut]
 ·have h0:=hf.1
  have hn:keyN (w.getD 0 default).data.toList=1:=by rw [h0]; decide
  have hl:2<=w.length:=by unfold natP at hf; omega
  rw [hn,show ((1:Int).toNat)=1 from rfl]
  simp only [h0,show (([110,97,116]:List UInt8)==([104,111,115,116]:List UInt8))=false from by decide ,show (([110,97,116]:List UInt8)==([117,115,101,114]:List UInt8))=false from by decide ,show (([110,97,116]:List UInt8)==([112,111,114,116]:List UInt8))=false from by decide ,show (([110,97,116]:List UInt8)==([114,117,108,101]:List UInt8))=false from by decide ,show (([110,97,116]:List UInt8)==([114,111,117,116,101]:List UInt8))=false from by decide ,show (([110,97,116]:List UInt8)==([112,101,101,114]:List UInt8))=false from by decide ,show (([110,97,116]:List UInt8)==([110,97,116]:List UInt8))=true from by decide ,show (([110,97,116]:List UInt8)==([100,111,111,114]:List UInt8))=false from by decide,Qe,Qj]
  rw [Qiy w uu0,join1]
 ·have h0:=hf.1
  have hn:keyN (w.getD 0 default).data.toList=3:=by rw [h0]; decide
  have hl:3<=w.length:=by unfold Qdd at hf; omega
  rw [hn,show ((3:Int).toNat)=3 from rfl]
  simp only [h0,show (([100,111,111,114]:List UInt8)==([104,111,115,116]:List UInt8))=false from by decide ,show (([100,111,111,114]:List UInt8)==([117,115,101,114]:List UInt8))=false from by decide ,show (([100,111,111,114]:List UInt8)==([112,111,114,116]:List UInt8))=false from by decide ,show (([100,111,111,114]:List UInt8)==([114,117,108,101]:List UInt8))=false from by decide ,show (([100,111,111,114]:List UInt8)==([114,111,117,116,101]:List UInt8))=false from by decide ,show (([100,111,111,114]:List UInt8)==([112,101,101,114]:List UInt8))=false from by decide ,show (([100,111,111,114]:List UInt8)==([110,97,116]:List UInt8))=false from by decide ,show (([100,111,111,114]:List UInt8)==([100,111,111,114]:List UInt8))=true from by decide,Qe,Qj]
  rw [Qah w uu0,join3]
theorem Qat (line:Za):F40 line=F68 line:=by
 cases h:F98 line with
 | false =>
  unfold F40 F68
  rw [Vk,h]; rfl
 | true =>
  rw [Qxy line h]
  obtain ⟨k1,k2⟩:=Mr line h
  unfold F40
  rw [Vk,h,k1,k2]; rfl
theorem Qdc {α σ ρ τ ω:Type} [Inhabited α] (xs:List α) (upd:σ->α->σ) (emb:σ->Int->ω) (step:ω->Lp ω ρ)
  (h1:∀ (i:Nat) (s:σ),i<xs.length->step (emb s (i:Int))=.next (emb (upd s (xs.getD i default)) ((i+1:Nat):Int))) (h2:∀ s:σ,step (emb s (xs.length:Int))=.done (emb s (xs.length:Int)))
  (f:ρ->τ) (g:ω->τ):∀ (m i:Nat) (s:σ),i+m=xs.length->∀ fuel,m<fuel->(runL step fuel (emb s (i:Int))).fin f g=g (emb ((xs.drop i).foldl upd s) (xs.length:Int))
 | m,i,_,_,0,hf=>absurd hf (Si _)
 | 0,i,s,h,fuel+1,hf=>by
  obtain rfl:i=xs.length:=by omega
  rw [Ki _ (h2 s),Q8 (Qo _)]; rfl
 | m+1,i,s,h,fuel+1,hf=>by
  have hd:xs.drop i=xs.getD i default :: xs.drop (i+1):=by
   rw [Ri (show i<xs.length by omega),Qb,Qc (show i<xs.length by omega)]; rfl
  rw [Yv _ (h1 i s uu0),Qdc xs upd emb step h1 h2 f g m (i+1) _ uu0 fuel uu0,hd,Su]
theorem Jj {α σ ρ τ ω:Type} [Inhabited α] (xs:List α) (upd:σ->α->σ) (emb:σ->Int->ω) (step:ω->Lp ω ρ)
  (h1:∀ (i:Nat) (s:σ),i<xs.length->step (emb s (i:Int))=.next (emb (upd s (xs.getD i default)) ((i+1:Nat):Int))) (h2:∀ s:σ,step (emb s (xs.length:Int))=.done (emb s (xs.length:Int)))
  (f:ρ->τ) (g:ω->τ) (s:σ):(runL step (((xs.length:Int)-0).toNat+1) (emb s 0)).fin f g=g (emb (xs.foldl upd s) (xs.length:Int)):=by
 have:=Qdc xs upd emb step h1 h2 f g xs.length 0 s uu0 (Int.toNat ((xs.length:Int)-0)+1) uu0
 rw [R6] at this
 exact this
theorem Py {α:Type} [Inhabited α] (ws:List α) (p:α->Bool):∀ (m i:Nat),i+m=ws.length->anyF (fun k=>p (ws.getD k default)) i m=(ws.drop i).any p
 | 0,i,h=>by rw [Q8 uu0]; rfl
 | m+1,i,h=>by
  have hd:ws.drop i=ws.getD i default :: ws.drop (i+1):=by
   rw [Ri (show i<ws.length by omega),Qb,Qc (show i<ws.length by omega)]; rfl
  rw [hd,Ga,anyF,Py ws p m (i+1) uu0]
theorem anyL {α ρ τ:Type} [Inhabited α] (xs:List α) (p:α->Bool) (bad:ρ) (step:Int->Lp Int ρ)
  (h1:∀ i:Nat,i<xs.length->step (i:Int)=bif p (xs.getD i default) then .ret bad else .next ((i+1:Nat):Int)) (h2:step (xs.length:Int)=.done (xs.length:Int))
  (f:ρ->τ) (g:Int->τ) (y:τ) (hg:∀ i,g i=y):(runL step (((xs.length:Int)-0).toNat+1) 0).fin f g=bif xs.any p then f bad else y:=by
 have h:=Ku step xs.length (fun k=>p (xs.getD k default)) bad f y h1 h2 xs.length 0 uu0 (Int.toNat ((xs.length:Int)-0)+1) uu0
 rw [Py xs p xs.length 0 uu0,R6] at h
 rw [show g=fun _=>y from funext hg]
 exact h
theorem Qak {α β:Type} (f:α->β):∀ (xs:List α) (s:List β),xs.foldl (fun s x=>s++[f x]) s=s++xs.map f
 | [],s=>by simp
 | x :: xs,s=>by
  rw [Su,Qak f xs,Rc,Q0]; rfl
theorem kc68 (line:Za) {K_:Prop} (p0_:line.size<=1048576) (k_:K_):(line.size<=1048576)/\(Imp (.v (.string line)) (.v (.string line)))/\K_:=⟨p0_,Imp.refl _,k_⟩
abbrev kh68 (line:Za):Hint true Tryz.prog:=.call 68 (S68 line) (ok68 line) none
def Xg (lines:List Za):(List Za×Int)->Lp (List Za×Int) (List Za):=fun (out,i40) =>
 bif (decide (i40<(lines.length:Int))) then (.next ((out++[(F68 (lines.getD i40.toNat default))]),(i40+1))) else (.done (out,i40))
def F59 (lines:List Za):List Za :=
 (runL (Xg lines) (((lines.length:Int)-0).toNat+1) (([]:List Za),0)).fin (fun r=>r) (fun (out,i40)=>out)
abbrev Eg (lines:List Za):Nat×(List Za×Int):=((((lines.length:Int)-0).toNat+1),(([]:List Za),0))
abbrev Qlu (lines:List Za) (m39:Nat) (out:List Za) (i40:Int):Prop:=Int.toNat ((lines.length:Int)-i40)<m39/\(out.length:Int)<=i40/\(0:Int)<=i40
abbrev Qsl (lines:List Za):Lp (List Za×Int) (List Za):=LpX (Xg lines) (Eg lines)
abbrev Ed (lines:List Za) (i:Nat×(List Za×Int)):Prop:=LpJ (Xg lines) (Eg lines) i (Qlu lines i.1 i.2.1 i.2.2)
abbrev Qvx (lines:List Za) (i:Nat×(List Za×Int)) (m39:Nat) (out:List Za) (i40:Int):Prop:=LpH (Xg lines) (Eg lines) i m39 (out,i40) (Qlu lines (m39+1) out i40)
abbrev Qwm (lines:List Za) (out:List Za) (i40:Int) (out_:List Za) (i40_:Int) (K39:Prop):Prop:=((.int .i64 i40:Value)=.int .i64 i40_)/\(Im (.l 1 eStr lines))/\(Imp (.l 1 eStr out) (.l 1 eStr out_))/\K39
theorem un59_0 (lines:List Za) (i:Nat×(List Za×Int)) (h:Ed lines i):Qvx lines i (i.1-1) i.2.1 i.2.2:=⟨hd1 h.1 h.2.1,hd3 h.2.1,hd2 h.2.1,h.2.2⟩
theorem bk59_0 (lines:List Za) (i:Nat×(List Za×Int)) (m39:Nat) (out:List Za) (i40:Int) (hl:m39<i.1) (e:runL (Xg lines) m39 (out,i40)=Qsl lines) (h:Qlu lines m39 out i40):∃ j:Nat×(List Za×Int),Qwm lines out i40 j.2.1 j.2.2 (Ed lines j/\j.1<i.1):=⟨(m39,(out,i40)),rfl,Imp.refl _,Imp.refl _,⟨e,h⟩,hl⟩
theorem en59_0 (lines:List Za) (h:(([]:List Za).length:Int)<=0/\(0:Int)<=0):Qwm lines ([]:List Za) 0 ([]:List Za) 0 (Ed lines (Eg lines)):=⟨rfl,Imp.refl _,Imp.refl _,rfl,Qt _,h⟩
theorem fi59 (lines:List Za) (r:List Za) (hF:r=(F59 lines)):(Imp (.l 1 eStr r) (.l 1 eStr (F59 lines)))/\True:=by cases hF; exact ⟨Imp.refl _,trivial⟩
def S59 (R:List Za) (lines:List Za):Spec:=⟨[.r (.c (.l 1 eStr lines))],.ow (.l 1 eStr R),lines.length<=1048576/\(∀ k:Nat,(lines.getD k default).size<=1048576)⟩
theorem ok59 (lines:List Za):(S59 (F59 lines) lines).ok Tryz.prog 59 :=
 Uf mixed (fn:=Tryz.f59) (ct:=.seqk [(0,0)] .no (.seq (.reg [(0,.dat (.l 1 eStr ([]:List Za)))]) (.seq (.seqk [(0,0),(3,0)] .no (.blk (.loop (ι:=Nat×(List Za×Int)) (fun i=>(fun (out:List Za) (i40:Int)=>(⟨[(0,some (.h 0 0)),(3,some (.h 1 0)),(4,some (.v (vI i40)))],[(0,some (.shr none (.l 1 eStr lines))),(1,some (.own 1 (.l 1 eStr out)))],2⟩:St)) i.2.1 i.2.2) (Ed lines) (fun i=>i.1) (Eg lines) (fun i=>(fun (out:List Za) (i40:Int)=>(.seq (.seq .no (.cond .no .no)) (.seq (.blk (.reg [(5,kh68 (lines.getD i40.toNat default)),(7,.dat (.l 1 eStr (out++[(F68 (lines.getD i40.toNat default))])))])) (.reg [(1,.bnd)])))) i.2.1 i.2.2)))) (.seq .no .no)))) Tryz.func59 (fun (hp:lines.length<=1048576/\(∀ k:Nat,(lines.getD k default).size<=1048576))=>have hpre0:=hp.1; have hpre1:=hp.2; kn lines fun _=>ai (bokr 1 eStr ([]:List Za) fun _=>rfl) (kn lines fun _=>kn ([]:List Za) fun _=>ai (en59_0 lines uu24) (fun (i0:Nat×(List Za×Int)) (hi0:Ed lines i0)=>(fun (m0:Nat) (out:List Za) (i40:Int) (hh0:Qvx lines i0 m0 out i40)=>have hI0:=hh0.1; have hl0:=hh0.2.1; have _:=hh0.2.2.1; have _:=hh0.2.2.2; ifd (i40<(lines.length:Int)) (fun h2 _=>ai (uu3:ib i40 lines) (kc68 (lines.getD i40.toNat default) uu50 (ai (appr 1 eStr out [(F68 (lines.getD i40.toNat default))] fun _=>rfl) (ai (uu13:(out++[(F68 (lines.getD i40.toNat default))]).length*16<=140737488355328) (ai (iok (i40+1) uu3) (bk59_0 lines i0 m0 (out++[(F68 (lines.getD i40.toNat default))]) (i40+1) hl0 (Ub hI0 (condT h2 rfl)) uu26)))))) (fun h2 _=>have hD0_3:Qsl lines=Lp.done (out,i40):=Ui hI0 (condF h2 rfl); fi59 lines out (finD hD0_3 rfl))) (i0.1-1) i0.2.1 i0.2.2 (un59_0 lines i0 hi0)))) uu1
theorem as59 (lines:List Za):F59 lines=(lines.map F68):=by
 unfold F59
 have:=Jj lines (fun (s:List Za) x=>s++[F68 x]) (fun s i=>(s,i)) (Xg lines) (fun i s hi=>by
  simp only [Xg,ltD hi,Qe,nn]; rfl) (fun s=>by simp only [Xg,geD,Qj]) (fun r=>r) (fun (out,i40)=>out) []
 refine this.trans ?_
 rw [Qak,Sn]
def T59 (R:List Za) (lines:List Za):Spec:=⟨(S59 R lines).args,(S59 R lines).res,lines.length<=1048576/\(∀ k:Nat,(lines.getD k default).size<=1048576)⟩
theorem oa59 (lines:List Za):(T59 (lines.map F68) lines).ok Tryz.prog 59:=by
 intro hp; have h:=ok59 lines hp; rw [as59 lines] at h; exact h
def F95 (l:Za):Bool :=
 (!(F69 l))
def S95 (l:Za):Spec:=⟨[.r (.c (.v (.string l)))],.v (.bool (F95 l)),l.size<=1048576⟩
theorem ok95 (l:Za):(S95 l).ok Tryz.prog 95 false :=
 Uf mixed (fn:=Tryz.f95) (ct:=.seq .no (.seq (.reg [(1,kh69 l)]) .no)) Tryz.func95 (fun (hpre0:l.size<=1048576)=>kc69 l uu0 (fiB (!(F69 l)) (F95 l) rfl)) uu1
theorem kc40 (line:Za) {K_:Prop} (p0_:line.size<=1048576) (k_:K_):(line.size<=1048576)/\(Imp (.v (.string line)) (.v (.string line)))/\K_:=⟨p0_,Imp.refl _,k_⟩
abbrev kh40 (line:Za):Hint false Tryz.prog:=.call 40 (S40 line) (ok40 line) none
def Xy (lines:List Za):(Int×ML Bool)->Lp (Int×ML Bool) Int:=fun (v31,ms) =>
 bif (decide (v31<(lines.length:Int))) then (.next ((v31+1),(putM ms (F40 (lines.getD v31.toNat default)) true))) else (.done (v31,ms))
def Qaw (lines:List Za):Lp (ML Bool) Int :=
 (runL (Xy lines) (((lines.length:Int)-0).toNat+1) (0,([]:ML Bool))).fin Lp.ret (fun (v31,ms)=>.done ms)
def Mm (lines:List Za):Int->Lp Int Int:=fun i40 =>
 bif (decide (i40<(lines.length:Int))) then (bif (!(Op.bytesLess (lines.getD (i40-1).toNat default).toList (lines.getD i40.toNat default).toList)) then (.ret 3) else (.next (i40+1))) else (.done i40)
def F60 (lines:List Za):Int :=
 bif (decide ((lines.length:Int)>16)) then 1 else (bif (lines.any (fun (x0:Za)=>F95 x0)) then 2 else ((runL (Mm lines) (((lines.length:Int)-1).toNat+1) 1).fin (fun r=>r) (fun i40=>(Qaw lines).fin (fun r=>r) (fun keys=>bif (decide ((keys.length:Int)<(lines.length:Int))) then 4 else 0))))
abbrev Qai (lines:List Za):Nat×(Int×ML Bool):=((((lines.length:Int)-0).toNat+1),(0,([]:ML Bool)))
abbrev Qji (lines:List Za) (m39:Nat) (v31:Int) (ms:ML Bool):Prop:=Int.toNat ((lines.length:Int)-v31)<m39/\(0:Int)<=v31
abbrev Qvg (lines:List Za):Lp (Int×ML Bool) Int:=LpX (Xy lines) (Qai lines)
abbrev Qan (lines:List Za) (i:Nat×(Int×ML Bool)):Prop:=LpJ (Xy lines) (Qai lines) i (Qji lines i.1 i.2.1 i.2.2)
abbrev Quv (lines:List Za) (i:Nat×(Int×ML Bool)) (m39:Nat) (v31:Int) (ms:ML Bool):Prop:=LpH (Xy lines) (Qai lines) i m39 (v31,ms) (Qji lines (m39+1) v31 ms)
abbrev Qws (lines:List Za) (v31:Int) (ms:ML Bool) (v31_:Int) (ms_:ML Bool) (K39:Prop):Prop:=(Rf (.int .i64 (lines.length:Int)))/\((.int .i64 v31:Value)=.int .i64 v31_)/\(Im (.l 1 eStr lines))/\(Imp (.x (MX Value.bool ms)) (.x (MX Value.bool ms_)))/\K39
theorem un60_1 (lines:List Za) (i:Nat×(Int×ML Bool)) (h:Qan lines i):Quv lines i (i.1-1) i.2.1 i.2.2:=⟨hd1 h.1 h.2.1,hd3 h.2.1,hd2 h.2.1,h.2.2⟩
theorem bk60_1 (lines:List Za) (i:Nat×(Int×ML Bool)) (m39:Nat) (v31:Int) (ms:ML Bool) (hl:m39<i.1) (e:runL (Xy lines) m39 (v31,ms)=Qvg lines) (h:Qji lines m39 v31 ms):∃ j:Nat×(Int×ML Bool),Qws lines v31 ms j.2.1 j.2.2 (Qan lines j/\j.1<i.1):=⟨(m39,(v31,ms)),rfl,rfl,Imp.refl _,Imp.refl _,⟨e,h⟩,hl⟩
theorem en60_1 (lines:List Za) (h:(0:Int)<=0):Qws lines 0 ([]:ML Bool) 0 ([]:ML Bool) (Qan lines (Qai lines)):=⟨rfl,rfl,Imp.refl _,Imp.refl _,rfl,Qt _,h⟩
abbrev Qme (lines:List Za) (j:ML Bool):Prop:=(Qaw lines)=Lp.done j
theorem jn60_0 (lines:List Za) (keys:ML Bool) (e:(Qaw lines)=Lp.done keys):∃ j:ML Bool,(Imp (.l 1 eStr lines) (.l 1 eStr lines))/\(Imp (.x (MX Value.bool keys)) (.x (MX Value.bool j)))/\Qme lines j:=⟨keys,Imp.refl _,Imp.refl _,e⟩
abbrev Ea (lines:List Za):Nat×Int:=((((lines.length:Int)-1).toNat+1),1)
abbrev Qlg (lines:List Za) (m39:Nat) (i40:Int):Prop:=Int.toNat ((lines.length:Int)-i40)<m39/\(1:Int)<=i40/\(0:Int)<=i40
abbrev Qxw (lines:List Za):Lp Int Int:=LpX (Mm lines) (Ea lines)
abbrev Qao (lines:List Za) (i:Nat×Int):Prop:=LpJ (Mm lines) (Ea lines) i (Qlg lines i.1 i.2)
abbrev Qsy (lines:List Za) (i:Nat×Int) (m39:Nat) (i40:Int):Prop:=LpH (Mm lines) (Ea lines) i m39 i40 (Qlg lines (m39+1) i40)
abbrev Qtf (lines:List Za) (i40:Int) (i40_:Int) (K39:Prop):Prop:=((.int .i64 i40:Value)=.int .i64 i40_)/\(Im (.l 1 eStr lines))/\K39
theorem un60_0 (lines:List Za) (i:Nat×Int) (h:Qao lines i):Qsy lines i (i.1-1) i.2:=⟨hd1 h.1 h.2.1,hd3 h.2.1,hd2 h.2.1,h.2.2⟩
theorem bk60_0 (lines:List Za) (i:Nat×Int) (m39:Nat) (i40:Int) (hl:m39<i.1) (e:runL (Mm lines) m39 i40=Qxw lines) (h:Qlg lines m39 i40):∃ j:Nat×Int,Qtf lines i40 j.2 (Qao lines j/\j.1<i.1):=⟨(m39,i40),rfl,Imp.refl _,⟨e,h⟩,hl⟩
theorem en60_0 (lines:List Za) (h:(1:Int)<=1/\(0:Int)<=1):Qtf lines 1 1 (Qao lines (Ea lines)):=⟨rfl,Imp.refl _,rfl,Qt _,h⟩
def S60 (lines:List Za):Spec:=⟨[.r (.c (.l 1 eStr lines))],.v (vI (F60 lines)),(∀ k:Nat,(lines.getD k default).size<=1048576)⟩
theorem ok60 (lines:List Za):(S60 lines).ok Tryz.prog 60 false :=
 Uf mixed (fn:=Tryz.f60) (ct:=.seqk [(0,0)] .no (.seq (.seq .no (.cond (.seq .no .no) .no)) (.seq (.seq (.reg [(1,.call 94 (S94 (lines.any (fun (x0:Za)=>F95 x0)) lines (fun (x0:Za)=>F95 x0) (fun (x0:Za)=>x0.size<=1048576)) (oa94 lines (fun (x0:Za)=>F95 x0) (fun (x0:Za)=>x0.size<=1048576)) (some ⟨false,95,Ke (fun (x0:Za)=>x0.size<=1048576) (fun (x0:Za)=>F95 x0),[],rfl,True,fun i=>Qvw (ok95 i)⟩))]) (.cond (.seq .no .no) .no)) (.seq (.seqk [(0,0)] .no (.blk (.loop (ι:=Nat×Int) (fun i=>(fun (i40:Int)=>(⟨[(0,some (.h 0 0)),(3,some (.v (vI i40)))],[(0,some (.shr none (.l 1 eStr lines)))],1⟩:St)) i.2) (Qao lines) (fun i=>i.1) (Ea lines) (fun i=>(fun (i40:Int)=>(.seq (.seq .no (.cond .no .no)) (.seq (.blk (.seq (.reg [(2,.bnd)]) (.cond (.seq .no .no) .no))) (.reg [(1,.bnd)])))) i.2)))) (.seq (.reg [(0,.mpm Value.bool)]) (.cut (ι:=ML Bool) (fun j=>(fun (keys:ML Bool)=>(⟨[(0,some (.h 0 0)),(4,some (.h 1 0))],[(0,some (.shr none (.l 1 eStr lines))),(1,some (.own 1 (.x (MX Value.bool keys))))],2⟩:St)) j) (Qme lines) (.seqk [(29,0)] .no (.blk (.loop (ι:=Nat×(Int×ML Bool)) (fun i=>(fun (v31:Int) (ms:ML Bool)=>(⟨[(0,some (.h 0 0)),(4,some (.h 1 0)),(29,some (.h 0 0)),(30,some (.v (vI (lines.length:Int)))),(31,some (.v (vI v31)))],[(0,some (.shr none (.l 1 eStr lines))),(1,some (.own 1 (.x (MX Value.bool ms))))],2⟩:St)) i.2.1 i.2.2) (Qan lines) (fun i=>i.1) (Qai lines) (fun i=>(fun (v31:Int) (ms:ML Bool)=>(.seq .no (.seq (.cond .no .no) (.seq (.blk (.seq .no (.reg [(2,kh40 (lines.getD v31.toNat default)),(3,.mpu Value.bool ms true)]))) (.reg [(0,.bnd)]))))) i.2.1 i.2.2)))) (fun j=>(fun (keys:ML Bool)=>(.seq (.seq (.reg [(1,.mpn Value.bool keys)]) (.cond (.seq .no .no) .no)) (.seq .no .no))) j))))))) Tryz.func60 (fun (hpre0:∀ k:Nat,(lines.getD k default).size<=1048576)=>kn lines fun _=>ifd ((lines.length:Int)>16) (fun h1 _=>fiI 1 (F60 lines) (condT h1 rfl)) (fun h1 _=>ai (uu36:∀ k:Nat,k<lines.length->(fun (x0:Za)=>x0.size<=1048576) (lines.getD k default)) (ai (Imp.refl (.l 1 eStr lines)) (ai (Eq.refl (Ke (fun (x0:Za)=>x0.size<=1048576) (fun (x0:Za)=>F95 x0))) (ai trivial (ifb (lines.any (fun (x0:Za)=>F95 x0)) (fun h2=>fiI 2 (F60 lines) (condF h1 (condT h2 rfl))) (fun h2=>kn lines fun _=>ai (en60_0 lines uu9) (fun (i0:Nat×Int) (hi0:Qao lines i0)=>(fun (m0:Nat) (i40:Int) (hh0:Qsy lines i0 m0 i40)=>have hI0:=hh0.1; have hl0:=hh0.2.1; have _:=hh0.2.2.1; have _:=hh0.2.2.2; ifd (i40<(lines.length:Int)) (fun h4 _=>ai (iok (i40-1) uu0) (ai (uu0:ib (i40-1) lines) (ai (uu0:ib i40 lines) (ifb (!(Op.bytesLess (lines.getD (i40-1).toNat default).toList (lines.getD i40.toNat default).toList)) (fun h5=>fiI 3 (F60 lines) (condF h1 (condF h2 (finR (Uq hI0 (condT h4 (condT h5 rfl))) rfl)))) (fun h5=>ai (iok (i40+1) uu0) (bk60_0 lines i0 m0 (i40+1) hl0 (Ub hI0 (condT h4 (condF h5 rfl))) (by refine ⟨?_,?_,?_⟩ <;> omega))))))) (fun h4 _=>have hD0_6:Qxw lines=Lp.done i40:=Ui hI0 (condF h4 rfl); ai (kn lines fun _=>ai (en60_1 lines uu0) (fun (i1:Nat×(Int×ML Bool)) (hi1:Qan lines i1)=>(fun (m1:Nat) (v31:Int) (ms:ML Bool) (hh1:Quv lines i1 m1 v31 ms)=>have hI1:=hh1.1; have hl1:=hh1.2.1; have _:=hh1.2.2.1; have _:=hh1.2.2.2; ifd (v31<(lines.length:Int)) (fun h8 _=>ai (uu0:ib v31 lines) (kc40 (lines.getD v31.toNat default) uu51 (ai (Eq.refl (MX Value.bool ms)) (ai (Eq.refl (Value.bool true)) (ai (iok (v31+1) uu0) (bk60_1 lines i1 m1 (v31+1) (putM ms (F40 (lines.getD v31.toNat default)) true) hl1 (Ub hI1 (condT h8 rfl)) uu9)))))) (fun h8 _=>have hD1_9:Qvg lines=Lp.done (v31,ms):=Ui hI1 (condF h8 rfl); jn60_0 lines ms (Eq.symm (finD hD1_9 rfl)) )) (i1.1-1) i1.2.1 i1.2.2 (un60_1 lines i1 hi1))) (fun (j:ML Bool) (hj:Qme lines j)=>(fun (keys:ML Bool) (hJ0_10:(Qaw lines)=Lp.done keys)=>ai (Eq.refl (MX Value.bool keys)) (ifd ((keys.length:Int)<(lines.length:Int)) (fun h11 _=>fiI 4 (F60 lines) (condF h1 (condF h2 (finD hD0_6 (finD hJ0_10 (condT h11 rfl)))))) (fun h11 _=>fiI 0 (F60 lines) (condF h1 (condF h2 (finD hD0_6 (finD hJ0_10 (condF h11 rfl)))))))) j hj))) (i0.1-1) i0.2 (un60_0 lines i0 hi0))))))))) uu1
theorem kc59a (lines:List Za) {K_:Prop} (p0_:lines.length<=1048576) (p1_:∀ k:Nat,(lines.getD k default).size<=1048576) (k_:K_):(lines.length<=1048576/\(∀ k:Nat,(lines.getD k default).size<=1048576))/\(Imp (.l 1 eStr lines) (.l 1 eStr lines))/\K_:=⟨⟨p0_,p1_⟩,Imp.refl _,k_⟩
abbrev kh59a (lines:List Za):Hint true Tryz.prog:=.call 59 (T59 (lines.map F68) lines) (oa59 lines) none
def Kh (lines:List Za):Int->Lp Int Int:=fun i42 =>
 bif (decide (i42<(lines.length:Int))) then (bif (F31 ((lines.map F68).take i42.toNat) ((lines.map F68).getD i42.toNat default)) then (.ret 4) else (.next (i42+1))) else (.done i42)
def Ju (lines:List Za):Int->Lp Int Int:=fun i41 =>
 bif (decide (i41<(lines.length:Int))) then (bif (!(Op.bytesLess (lines.getD (i41-1).toNat default).toList (lines.getD i41.toNat default).toList)) then (.ret 3) else (.next (i41+1))) else (.done i41)
def Ww (lines:List Za):Int->Lp Int Int:=fun i40 =>
 bif (decide (i40<(lines.length:Int))) then (bif (((lines.map F68).getD i40.toNat default).toList==Zb.toList) then (.ret 2) else (.next (i40+1))) else (.done i40)
def F23 (lines:List Za):Int :=
 bif (decide ((lines.length:Int)>16)) then 1 else ((runL (Ww lines) (((lines.length:Int)-0).toNat+1) 0).fin (fun r=>r) (fun i40=>(runL (Ju lines) (((lines.length:Int)-1).toNat+1) 1).fin (fun r=>r) (fun i41=>(runL (Kh lines) (((lines.length:Int)-0).toNat+1) 0).fin (fun r=>r) (fun i42=>0))))
abbrev Po (lines:List Za):Nat×Int:=((((lines.length:Int)-0).toNat+1),0)
abbrev Qjf (lines:List Za) (m39:Nat) (i42:Int):Prop:=Int.toNat ((lines.length:Int)-i42)<m39/\(0:Int)<=i42
abbrev Qvt (lines:List Za):Lp Int Int:=LpX (Kh lines) (Po lines)
abbrev Ew (lines:List Za) (i:Nat×Int):Prop:=LpJ (Kh lines) (Po lines) i (Qjf lines i.1 i.2)
abbrev Qwf (lines:List Za) (i:Nat×Int) (m39:Nat) (i42:Int):Prop:=LpH (Kh lines) (Po lines) i m39 i42 (Qjf lines (m39+1) i42)
abbrev Qrw (lines:List Za) (i42:Int) (i42_:Int) (K39:Prop):Prop:=((.int .i64 i42:Value)=.int .i64 i42_)/\(Im (.l 1 eStr lines))/\(Im (.l 1 eStr (lines.map F68)))/\K39
theorem un23_2 (lines:List Za) (i:Nat×Int) (h:Ew lines i):Qwf lines i (i.1-1) i.2:=⟨hd1 h.1 h.2.1,hd3 h.2.1,hd2 h.2.1,h.2.2⟩
theorem bk23_2 (lines:List Za) (i:Nat×Int) (m39:Nat) (i42:Int) (hl:m39<i.1) (e:runL (Kh lines) m39 i42=Qvt lines) (h:Qjf lines m39 i42):∃ j:Nat×Int,Qrw lines i42 j.2 (Ew lines j/\j.1<i.1):=⟨(m39,i42),rfl,Imp.refl _,Imp.refl _,⟨e,h⟩,hl⟩
theorem en23_2 (lines:List Za) (h:(0:Int)<=0):Qrw lines 0 0 (Ew lines (Po lines)):=⟨rfl,Imp.refl _,Imp.refl _,rfl,Qt _,h⟩
abbrev Qbi (lines:List Za):Nat×Int:=((((lines.length:Int)-1).toNat+1),1)
abbrev Qkj (lines:List Za) (m39:Nat) (i41:Int):Prop:=Int.toNat ((lines.length:Int)-i41)<m39/\(1:Int)<=i41/\(0:Int)<=i41
abbrev Qxd (lines:List Za):Lp Int Int:=LpX (Ju lines) (Qbi lines)
abbrev Qaz (lines:List Za) (i:Nat×Int):Prop:=LpJ (Ju lines) (Qbi lines) i (Qkj lines i.1 i.2)
abbrev Qsc (lines:List Za) (i:Nat×Int) (m39:Nat) (i41:Int):Prop:=LpH (Ju lines) (Qbi lines) i m39 i41 (Qkj lines (m39+1) i41)
abbrev Qwu (lines:List Za) (i41:Int) (i41_:Int) (K39:Prop):Prop:=((.int .i64 i41:Value)=.int .i64 i41_)/\(Im (.l 1 eStr lines))/\(Im (.l 1 eStr (lines.map F68)))/\K39
theorem un23_1 (lines:List Za) (i:Nat×Int) (h:Qaz lines i):Qsc lines i (i.1-1) i.2:=⟨hd1 h.1 h.2.1,hd3 h.2.1,hd2 h.2.1,h.2.2⟩
theorem bk23_1 (lines:List Za) (i:Nat×Int) (m39:Nat) (i41:Int) (hl:m39<i.1) (e:runL (Ju lines) m39 i41=Qxd lines) (h:Qkj lines m39 i41):∃ j:Nat×Int,Qwu lines i41 j.2 (Qaz lines j/\j.1<i.1):=⟨(m39,i41),rfl,Imp.refl _,Imp.refl _,⟨e,h⟩,hl⟩
theorem en23_1 (lines:List Za) (h:(1:Int)<=1/\(0:Int)<=1):Qwu lines 1 1 (Qaz lines (Qbi lines)):=⟨rfl,Imp.refl _,Imp.refl _,rfl,Qt _,h⟩
abbrev El (lines:List Za):Nat×Int:=((((lines.length:Int)-0).toNat+1),0)
abbrev Qkc (lines:List Za) (m39:Nat) (i40:Int):Prop:=Int.toNat ((lines.length:Int)-i40)<m39/\(0:Int)<=i40
abbrev Qtp (lines:List Za):Lp Int Int:=LpX (Ww lines) (El lines)
abbrev Qbx (lines:List Za) (i:Nat×Int):Prop:=LpJ (Ww lines) (El lines) i (Qkc lines i.1 i.2)
abbrev Qrc (lines:List Za) (i:Nat×Int) (m39:Nat) (i40:Int):Prop:=LpH (Ww lines) (El lines) i m39 i40 (Qkc lines (m39+1) i40)
abbrev Qsp (lines:List Za) (i40:Int) (i40_:Int) (K39:Prop):Prop:=((.int .i64 i40:Value)=.int .i64 i40_)/\(Im (.l 1 eStr lines))/\(Im (.l 1 eStr (lines.map F68)))/\K39
theorem un23_0 (lines:List Za) (i:Nat×Int) (h:Qbx lines i):Qrc lines i (i.1-1) i.2:=⟨hd1 h.1 h.2.1,hd3 h.2.1,hd2 h.2.1,h.2.2⟩
theorem bk23_0 (lines:List Za) (i:Nat×Int) (m39:Nat) (i40:Int) (hl:m39<i.1) (e:runL (Ww lines) m39 i40=Qtp lines) (h:Qkc lines m39 i40):∃ j:Nat×Int,Qsp lines i40 j.2 (Qbx lines j/\j.1<i.1):=⟨(m39,i40),rfl,Imp.refl _,Imp.refl _,⟨e,h⟩,hl⟩
theorem en23_0 (lines:List Za) (h:(0:Int)<=0):Qsp lines 0 0 (Qbx lines (El lines)):=⟨rfl,Imp.refl _,Imp.refl _,rfl,Qt _,h⟩
def S23 (lines:List Za):Spec:=⟨[.r (.c (.l 1 eStr lines))],.v (vI (F23 lines)),(∀ k:Nat,(lines.getD k default).size<=1048576)⟩
theorem ok23 (lines:List Za):(S23 lines).ok Tryz.prog 23 :=
 Uf mixed (fn:=Tryz.f23) (ct:=.seqk [(0,0)] .no (.seq (.seq .no (.cond (.seq .no .no) .no)) (.seq (.reg [(1,kh59a lines)]) (.seq (.seqk [(0,0),(3,0)] .no (.blk (.loop (ι:=Nat×Int) (fun i=>(fun (i40:Int)=>(⟨[(0,some (.h 0 0)),(3,some (.h 1 0)),(4,some (.v (vI i40)))],[(0,some (.shr none (.l 1 eStr lines))),(1,some (.own 1 (.l 1 eStr (lines.map F68))))],2⟩:St)) i.2) (Qbx lines) (fun i=>i.1) (El lines) (fun i=>(fun (i40:Int)=>(.seq (.seq .no (.cond .no .no)) (.seq (.blk (.seq .no (.cond (.seq .no .no) .no))) (.reg [(1,.bnd)])))) i.2)))) (.seq (.seqk [(0,0)] .no (.blk (.loop (ι:=Nat×Int) (fun i=>(fun (i41:Int)=>(⟨[(0,some (.h 0 0)),(3,some (.h 1 0)),(5,some (.v (vI i41)))],[(0,some (.shr none (.l 1 eStr lines))),(1,some (.own 1 (.l 1 eStr (lines.map F68))))],2⟩:St)) i.2) (Qaz lines) (fun i=>i.1) (Qbi lines) (fun i=>(fun (i41:Int)=>(.seq (.seq .no (.cond .no .no)) (.seq (.blk (.seq (.reg [(2,.bnd)]) (.cond (.seq .no .no) .no))) (.reg [(1,.bnd)])))) i.2)))) (.seq (.seqk [(0,0),(3,0)] .no (.blk (.loop (ι:=Nat×Int) (fun i=>(fun (i42:Int)=>(⟨[(0,some (.h 0 0)),(3,some (.h 1 0)),(6,some (.v (vI i42)))],[(0,some (.shr none (.l 1 eStr lines))),(1,some (.own 1 (.l 1 eStr (lines.map F68))))],2⟩:St)) i.2) (Ew lines) (fun i=>i.1) (Po lines) (fun i=>(fun (i42:Int)=>(.seq (.seq .no (.cond .no .no)) (.seq (.blk (.seq (.reg [(7,kh31 ((lines.map F68).take i42.toNat) ((lines.map F68).getD i42.toNat default))]) (.cond (.seq .no .no) .no))) (.reg [(1,.bnd)])))) i.2)))) (.seq .no .no))))))) Tryz.func23 (fun (hpre0:∀ k:Nat,(lines.getD k default).size<=1048576)=>kn lines fun _=>ifd ((lines.length:Int)>16) (fun h1 _=>fiI 1 (F23 lines) (condT h1 rfl)) (fun h1 _=>kc59a lines uu3 uu36 (kn lines fun _=>kn (lines.map F68) fun _=>ai (en23_0 lines uu3) (fun (i0:Nat×Int) (hi0:Qbx lines i0)=>(fun (m0:Nat) (i40:Int) (hh0:Qrc lines i0 m0 i40)=>have hI0:=hh0.1; have hl0:=hh0.2.1; have _:=hh0.2.2.1; have _:=hh0.2.2.2; ifd (i40<(lines.length:Int)) (fun h3 _=>ai (uu3:ib i40 (lines.map F68)) (ifb (((lines.map F68).getD i40.toNat default).toList==Zb.toList) (fun h4=>fiI 2 (F23 lines) (condF h1 (finR (Uq hI0 (condT h3 (condT h4 rfl))) rfl))) (fun h4=>ai (iok (i40+1) uu3) (bk23_0 lines i0 m0 (i40+1) hl0 (Ub hI0 (condT h3 (condF h4 rfl))) uu24)))) (fun h3 _=>have hD0_5:Qtp lines=Lp.done i40:=Ui hI0 (condF h3 rfl); kn lines fun _=>ai (en23_1 lines uu24) (fun (i1:Nat×Int) (hi1:Qaz lines i1)=>(fun (m1:Nat) (i41:Int) (hh1:Qsc lines i1 m1 i41)=>have hI1:=hh1.1; have hl1:=hh1.2.1; have _:=hh1.2.2.1; have _:=hh1.2.2.2; ifd (i41<(lines.length:Int)) (fun h7 _=>ai (iok (i41-1) uu3) (ai (uu3:ib (i41-1) lines) (ai (uu3:ib i41 lines) (ifb (!(Op.bytesLess (lines.getD (i41-1).toNat default).toList (lines.getD i41.toNat default).toList)) (fun h8=>fiI 3 (F23 lines) (condF h1 (finD hD0_5 (finR (Uq hI1 (condT h7 (condT h8 rfl))) rfl)))) (fun h8=>ai (iok (i41+1) uu3) (bk23_1 lines i1 m1 (i41+1) hl1 (Ub hI1 (condT h7 (condF h8 rfl))) uu26)))))) (fun h7 _=>have hD1_9:Qxd lines=Lp.done i41:=Ui hI1 (condF h7 rfl); kn lines fun _=>kn (lines.map F68) fun _=>ai (en23_2 lines uu3) (fun (i2:Nat×Int) (hi2:Ew lines i2)=>(fun (m2:Nat) (i42:Int) (hh2:Qwf lines i2 m2 i42)=>have hI2:=hh2.1; have hl2:=hh2.2.1; have _:=hh2.2.2.1; have _:=hh2.2.2.2; ifd (i42<(lines.length:Int)) (fun h11 _=>ai (uu3:0<=(0:Int)/\(0:Int)<=i42/\i42<=((lines.map F68).length:Int)) (ai (uu3:ib i42 (lines.map F68)) (kc31 ((lines.map F68).take i42.toNat) ((lines.map F68).getD i42.toNat default) (ifb (F31 ((lines.map F68).take i42.toNat) ((lines.map F68).getD i42.toNat default)) (fun h12=>fiI 4 (F23 lines) (condF h1 (finD hD0_5 (finD hD1_9 (finR (Uq hI2 (condT h11 (condT h12 rfl))) rfl))))) (fun h12=>ai (iok (i42+1) uu3) (bk23_2 lines i2 m2 (i42+1) hl2 (Ub hI2 (condT h11 (condF h12 rfl))) uu24)))))) (fun h11 _=>have hD2_13:Qvt lines=Lp.done i42:=Ui hI2 (condF h11 rfl); fiI 0 (F23 lines) (condF h1 (finD hD0_5 (finD hD1_9 (finD hD2_13 rfl)))))) (i2.1-1) i2.2 (un23_2 lines i2 hi2)))) (i1.1-1) i1.2 (un23_1 lines i1 hi1)))) (i0.1-1) i0.2 (un23_0 lines i0 hi0))))) uu1
instance baLawful:LawfulBEq Za where
 eq_of_beq h:=(Go.MapKept.bytes_beq _ _).1 h
 rfl:=(Go.MapKept.bytes_beq _ _).2 rfl
theorem Qxn (l:Za) (h:F98 l=false):F68 l=Zb:=by
 unfold F68
 rw [h]; rfl
theorem My (l:Za):((F68 l).toList==Zb.toList)=!F98 l:=by
 cases h:F98 l with
 | false=>rw [Qxn l h]; rw [Mv]; rfl
 | true =>
  rw [Uu,Uu,Qxy l h,Sz,Qx]
  have hk:=Qca l h
  have hl:=Xz _ hk.form
  have hn:=Ns _ hk.form
  have hno:=hk.no
  generalize (F64 l).1=w at hl hn hno
  match w,hl with
  | a :: r,_ =>
   have e:((keyN (((a :: r).getD 0 default).data.toList)).toNat)=(keyN (((a :: r).getD 0 default).data.toList)).toNat-1+1:=by omega
   rw [e,List.take_succ_cons,Bz,Rc,Lib.join_cons]
   intro h0
   exact (hno a Ql).2.1 (List.append_eq_nil_iff.1 h0).1
def dupK:List Za->List Za->Bool
 | _,[]=>false
 | seen,s :: r=>decide (s∈seen) || dupK (seen++[s]) r
def insK (ks:List Za) (s:Za):List Za:=if s∈ks then ks else ks++[s]
theorem Qng:∀ (keys ks:List Za),(keys.foldl insK ks).length<=ks.length+keys.length
 | [],ks=>by simp
 | s :: r,ks=>by
  rw [Su]
  have h:=Qng r (insK ks s)
  have h2:(insK ks s).length<=ks.length+1:=by unfold insK; split <;> simp
  simp only [Qy]; omega
theorem Qgu:∀ (keys ks seen:List Za),(∀ s,s∈ks↔s∈seen)->decide ((keys.foldl insK ks).length<ks.length+keys.length)=dupK seen keys
 | [],ks,seen,_=>by simp [dupK]
 | s :: r,ks,seen,h=>by
  rw [Su,dupK]
  by_cases hs:s∈ks
  ·have e:insK ks s=ks:=by unfold insK; rw [if_pos hs]
   rw [e,Qr ((h s).1 hs),Bool.true_or]
   have:=Qng r ks
   exact Qr uu27
  ·have e:insK ks s=ks++[s]:=by unfold insK; rw [if_neg hs]
   rw [e,Qp (fun x=>hs ((h s).2 x)),Gz,<- Qgu r (ks++[s]) (seen++[s]) (fun t=>by simp [h t])]
   congr 1
   simp only [Q6,Qy,Ro]
   exact propext ⟨fun x=>by omega,fun x=>by omega⟩
theorem Ni {α:Type}:∀ (m:ML α) (s:Za) (x:α),(putM m s x).map (·.1)=insK (m.map (·.1)) s
 | [],s,x=>by simp [putM,insK]
 | p :: m,s,x=>by
  rw [putM]
  by_cases h:p.1=s
  ·rw [if_pos h]; subst h; simp [insK]
  ·rw [if_neg h,Rc,Ni m s x]
   unfold insK
   have h':¬ s=p.1:=fun e=>h e.symm
   by_cases hm:s∈m.map (·.1)
   ·rw [if_pos hm,Rc,if_pos (Qi _ hm)]
   ·rw [if_neg hm,Rc,if_neg (by simp only [Qs,not_or]; exact ⟨h',hm⟩)]; rfl
theorem Hk {α:Type} (f:Za->Za) (v:Za->α):∀ (ls:List Za) (m:ML α),(ls.foldl (fun m l=>putM m (f l) (v l)) m).map (·.1)=(ls.map f).foldl insK (m.map (·.1))
 | [],m=>rfl
 | l :: ls,m=>by
  rw [Su,Hk f v ls,Ni,Rc,Su]
theorem Xs (ws:List Za) (x:Za):F31 ws x=decide (x∈ws):=by
 rw [Ec,G3,R5,Rj]
 constructor
 ·rintro ⟨e,he,h⟩
  rw [Mv,Rj] at h
  exact h ▸ he
 ·exact fun h=>⟨x,h,by rw [Mv]; exact Qr rfl⟩
theorem Qhh (keys:List Za):∀ (m i:Nat),i+m=keys.length->anyF (fun k=>decide (keys.getD k default∈keys.take k)) i m=dupK (keys.take i) (keys.drop i)
 | 0,i,h=>by rw [Q8 uu0]; rfl
 | m+1,i,h=>by
  have hd:keys.drop i=keys.getD i default :: keys.drop (i+1):=by
   rw [Ri (show i<keys.length by omega),Qb,Qc (show i<keys.length by omega)]; rfl
  rw [hd,dupK,anyF,Qhh keys m (i+1) uu0,Qdb (show i<keys.length by omega)]
theorem Qbc (f:Za->Za) (ls:List Za) (i:Nat) (h:i<ls.length):(ls.map f).getD i default=f (ls.getD i default):=by
 rw [Vw _ (by simpa using h),Vw _ h,List.getElem_map]
theorem Qlt {α:Type} {p q:α->Bool} {xs:List α} (h:∀ x,p x=q x):xs.any p=xs.any q:=by rw [show p=q from funext h]
theorem Qqz (lines:List Za):F60 lines=F23 lines:=by
 unfold F60 F23
 have hkept:∀ x:Za,F95 x=!F98 x:=fun x=>by unfold F95; rw [Vk]
 cases h16:decide ((lines.length:Int)>16) with
 | true=>rfl
 | false =>
 rw [Qj,Qj]
 have h0:=anyL lines (fun l=>!F98 l) (2:Int) (Ww lines) (fun i hi=>by
  simp only [Ww,ltD hi,Qe,nn,Qbc _ _ _ hi,My]
  rfl) uu37 (fun r=>r) (fun _=>(runL (Ju lines) ((Int.toNat ((lines.length:Int)-1))+1) 1).fin (fun r=>r) (fun i41=>(runL (Kh lines) ((Int.toNat ((lines.length:Int)-0))+1) 0).fin (fun r=>r) (fun i42=>0))) _ (fun _=>rfl)
 rw [h0]
 have e1:(lines.any fun x0=>F95 x0)=lines.any fun l=>!F98 l:=Qlt hkept
 rw [e1]
 cases (lines.any fun l=>!F98 l) with
 | true=>rfl
 | false =>
 rw [Qj,Qj]
 have e2:Mm lines=Ju lines:=rfl
 rw [e2]
 congr 1
 funext i
 have h2:=Ku (Kh lines) lines.length (fun k=>decide ((lines.map F68).getD k default∈(lines.map F68).take k)) (4:Int) (fun r=>r) (0:Int) (fun i hi=>by
  simp only [Kh,ltD hi,Qe,nn,Xs]; rfl) (by simp only [Kh,geD,Qj]) lines.length 0 uu0 (Int.toNat ((lines.length:Int)-0)+1) uu0
 rw [Qhh (lines.map F68) lines.length 0 uu11,G5,R6] at h2
 refine Eq.trans ?_ h2.symm
 have h3:=Jj lines (fun (m:ML Bool) l=>putM m (F68 l) true) (fun m i=>(i,m)) (Xy lines) (fun i s hi=>by
  simp only [Xy,ltD hi,Qe,nn,Qat]; rfl) (fun s=>by simp only [Xy,geD,Qj]) Lp.ret (fun (v31,ms)=>Lp.done ms) ([]:ML Bool)
 have h4:Qaw lines=Lp.done (lines.foldl (fun (m:ML Bool) l=>putM m (F68 l) true) []):=h3
 rw [h4]
 show (bif decide (((lines.foldl (fun (m:ML Bool) l=>putM m (F68 l) true) []).length:Int)<(lines.length:Int)) then (4:Int) else 0)=_
 have h5:=Qgu (lines.map F68) [] [] (fun s=>Iff.rfl)
 have h6:(lines.foldl (fun (m:ML Bool) l=>putM m (F68 l) true) []).length=((lines.map F68).foldl insK []).length:=by
  have:=Qq List.length (Hk F68 (fun _=>true) lines [])
  rw [Sh] at this
  exact this
 rw [<- h5,h6]
 congr 1
 simp only [Ro,Rv,Sh]
 exact decide_eq_decide.2 uu0
theorem Qhv (lines:List Za) (h:F23 lines=0):lines.length<=16/\∀ l∈lines,F98 l=true:=by
 unfold F23 at h
 cases h16:decide ((lines.length:Int)>16) with
 | true=>rw [h16,Qe] at h; exact absurd h uu2
 | false =>
 rw [h16,Qj] at h
 have h0:=anyL lines (fun l=>!F98 l) (2:Int) (Ww lines) (fun i hi=>by
  simp only [Ww,ltD hi,Qe,nn,Qbc _ _ _ hi,My]
  rfl) uu37 (fun r=>r) (fun _=>(runL (Ju lines) ((Int.toNat ((lines.length:Int)-1))+1) 1).fin (fun r=>r) (fun i41=>(runL (Kh lines) ((Int.toNat ((lines.length:Int)-0))+1) 0).fin (fun r=>r) (fun i42=>0))) _ (fun _=>rfl)
 rw [h0] at h
 cases ha:(lines.any fun l=>!F98 l) with
 | true=>rw [ha,Qe] at h; exact absurd h uu2
 | false =>
  have h1:=Q2 h16
  refine ⟨by omega,fun l hl=>?_⟩
  have:=List.any_eq_false.1 ha l hl
  cases hk:F98 l with
  | true=>rfl
  | false=>rw [hk] at this; exact absurd rfl this
theorem Et (lines:List Za) (h:F23 lines=0):lines.length<=16:=(Qhv lines h).1
structure l52Cut where
 w:List Za
 deriving DecidableEq,Inhabited
theorem Qui:∀ k:Nat,(([]:List Za).getD k default).size<=1048576:=fun k=>Rk _






theorem kc60 (lines:List Za) {K_:Prop} (p0_:∀ k:Nat,(lines.getD k default).size<=1048576) (k_:K_):(∀ k:Nat,(lines.getD k default).size<=1048576)/\(Imp (.l 1 eStr lines) (.l 1 eStr lines))/\K_:=⟨p0_,Imp.refl _,k_⟩
abbrev kh60 (lines:List Za):Hint false Tryz.prog:=.call 60 (S60 lines) (ok60 lines) none
theorem kc23 (lines:List Za) {K_:Prop} (p0_:∀ k:Nat,(lines.getD k default).size<=1048576) (k_:K_):(∀ k:Nat,(lines.getD k default).size<=1048576)/\(Imp (.l 1 eStr lines) (.l 1 eStr lines))/\K_:=⟨p0_,Imp.refl _,k_⟩
abbrev kh23 (lines:List Za):Hint true Tryz.prog:=.call 23 (S23 lines) (ok23 lines) none

def Xc (a:List Za) (left':Int):(Int×Int)->Lp (Int×Int) Int:=fun (left'1,i40) =>
 bif (decide (i40<(a.length:Int))) then (bif (decide ((left'1-((a.getD i40.toNat default).size:Int))<0)) then (.ret (-1)) else (.next ((left'1-((a.getD i40.toNat default).size:Int)),(i40+1)))) else (.done (left'1,i40))
def F7 (a:List Za) (left':Int):Int :=
 bif (decide ((left'-(a.length:Int))<0)) then (-1) else ((runL (Xc a left') (((a.length:Int)-0).toNat+1) ((left'-(a.length:Int)),0)).fin (fun r=>r) (fun (left'1,i40)=>left'1))
abbrev Qhq (a:List Za) (left':Int):Nat×(Int×Int):=((((a.length:Int)-0).toNat+1),((left'-(a.length:Int)),0))
abbrev Qul (a:List Za) (m39:Nat) (left'1:Int) (i40:Int):Prop:=Int.toNat ((a.length:Int)-i40)<m39/\(0:Int)<=left'1/\left'1<=1048576/\(0:Int)<=i40
abbrev lX7_0 (a:List Za) (left':Int):Lp (Int×Int) Int:=LpX (Xc a left') (Qhq a left')
abbrev Qgx (a:List Za) (left':Int) (i:Nat×(Int×Int)):Prop:=LpJ (Xc a left') (Qhq a left') i (Qul a i.1 i.2.1 i.2.2)
abbrev lH7_0 (a:List Za) (left':Int) (i:Nat×(Int×Int)) (m39:Nat) (left'1:Int) (i40:Int):Prop:=LpH (Xc a left') (Qhq a left') i m39 (left'1,i40) (Qul a (m39+1) left'1 i40)
abbrev lE7_0 (a:List Za) (left'1:Int) (i40:Int) (left'1_:Int) (i40_:Int) (K39:Prop):Prop:=((.int .i64 left'1:Value)=.int .i64 left'1_)/\((.int .i64 i40:Value)=.int .i64 i40_)/\(Im (.l 1 eStr a))/\K39
theorem un7_0 (a:List Za) (left':Int) (i:Nat×(Int×Int)) (h:Qgx a left' i):lH7_0 a left' i (i.1-1) i.2.1 i.2.2:=⟨hd1 h.1 h.2.1,hd3 h.2.1,hd2 h.2.1,h.2.2⟩
theorem bk7_0 (a:List Za) (left':Int) (i:Nat×(Int×Int)) (m39:Nat) (left'1:Int) (i40:Int) (hl:m39<i.1) (e:runL (Xc a left') m39 (left'1,i40)=lX7_0 a left') (h:Qul a m39 left'1 i40):∃ j:Nat×(Int×Int),lE7_0 a left'1 i40 j.2.1 j.2.2 (Qgx a left' j/\j.1<i.1):=⟨(m39,(left'1,i40)),rfl,rfl,Imp.refl _,⟨e,h⟩,hl⟩
theorem en7_0 (a:List Za) (left':Int) (h:(0:Int)<=(left'-(a.length:Int))/\(left'-(a.length:Int))<=1048576/\(0:Int)<=0):lE7_0 a (left'-(a.length:Int)) 0 (left'-(a.length:Int)) 0 (Qgx a left' (Qhq a left')):=⟨rfl,rfl,Imp.refl _,rfl,Qt _,h⟩
def S7 (a:List Za) (left':Int):Spec:=⟨[.r (.c (.l 1 eStr a)),.r (.c (.v (vI left')))],.v (vI (F7 a left')),0<=left'/\left'<=1048576/\(∀ k:Nat,(a.getD k default).size<=9223372036854775807)⟩
theorem ok7 (a:List Za) (left':Int):(S7 a left').ok Tryz.prog 7 :=
 Uf mixed (fn:=Tryz.f7) (ct:=.seqk [(0,0)] .no (.seq (.reg [(3,.bnd)]) (.seq (.seq .no (.cond (.seq .no .no) .no)) (.seq (.seqk [(0,0)] .no (.blk (.loop (ι:=Nat×(Int×Int)) (fun i=>(fun (left'1:Int) (i40:Int)=>(⟨[(0,some (.h 0 0)),(1,some (.v (vI left'1))),(5,some (.v (vI i40)))],[(0,some (.shr none (.l 1 eStr a)))],1⟩:St)) i.2.1 i.2.2) (Qgx a left') (fun i=>i.1) (Qhq a left') (fun i=>(fun (left'1:Int) (i40:Int)=>(.seq (.seq .no (.cond .no .no)) (.seq (.blk (.seq (.reg [(6,.bnd)]) (.seq .no (.cond (.seq .no .no) .no)))) (.reg [(1,.bnd)])))) i.2.1 i.2.2)))) (.seq .no .no))))) Tryz.func7 (fun (hp:0<=left'/\left'<=1048576/\(∀ k:Nat,(a.getD k default).size<=9223372036854775807))=>have hpre0:=hp.1; have hpre1:=hp.2.1; have hpre2:=hp.2.2; kn a fun _=>ai (iok (left'-(a.length:Int)) uu38) (ifd ((left'-(a.length:Int))<0) (fun h1 _=>fiI (-1) (F7 a left') (condT h1 rfl)) (fun h1 _=>kn a fun _=>ai (en7_0 a left' (by refine ⟨?_,?_,?_⟩ <;> omega)) (fun (i0:Nat×(Int×Int)) (hi0:Qgx a left' i0)=>(fun (m0:Nat) (left'1:Int) (i40:Int) (hh0:lH7_0 a left' i0 m0 left'1 i40)=>have hI0:=hh0.1; have hl0:=hh0.2.1; have _:=hh0.2.2.1; have _:=hh0.2.2.2; ifd (i40<(a.length:Int)) (fun h3 _=>ai (uu0:ib i40 a) (ai (iok (left'1-((a.getD i40.toNat default).size:Int)) uu38) (ifd ((left'1-((a.getD i40.toNat default).size:Int))<0) (fun h4 _=>fiI (-1) (F7 a left') (condF h1 (finR (Uq hI0 (condT h3 (condT h4 rfl))) rfl))) (fun h4 _=>ai (iok (i40+1) uu38) (bk7_0 a left' i0 m0 (left'1-((a.getD i40.toNat default).size:Int)) (i40+1) hl0 (Ub hI0 (condT h3 (condF h4 rfl))) (by refine ⟨?_,?_,?_,?_⟩ <;> omega)))))) (fun h3 _=>have hD0_5:lX7_0 a left'=Lp.done (left'1,i40):=Ui hI0 (condF h3 rfl); fiI left'1 (F7 a left') (condF h1 (finD hD0_5 rfl)))) (i0.1-1) i0.2.1 i0.2.2 (un7_0 a left' i0 hi0))))) uu1
theorem gb7 (a:List Za) (left':Int):0<=left'->left'<=1048576->0<=(F7 a left')->(F7 a left')<=left'/\(a.length<=1048576)/\(∀ k:Nat,(a.getD k default).size<=1048576):=by
 intro h0 h1 h2
 simp only [F7] at h2 ⊢
 cases h:decide (left'-(a.length:Int)<0)
 ·simp only [h,Qj] at h2 ⊢
  have hc:=Q2 h
  obtain ⟨hall,hle⟩:=Uas (fun (x:Za) (l:Int)=>l-(x.size:Int)) (fun x=>(x.size<=1048576)) (fun x l g0 g1 g2=>⟨by omega,by omega⟩) a (Xc a left') (left'-(a.length:Int)) uu0 uu0 (fun l i=>rfl) h2
  exact ⟨Int.le_trans hle uu0,by omega,fun k=>by
   by_cases hk:k<a.length
   ·exact (hall k hk)
   ·rw [Qmu a uu0]; first | exact Rk _ | (intro k'; exact Rk _) | (intro k' k''; exact Rk _)⟩
 ·simp only [h,Qe] at h2
  exact absurd h2 uu2
theorem g7_0 (a:List Za) (left':Int):0<=left'->left'<=1048576->0<=(F7 a left')->(F7 a left')<=left':=by
 intro h0 h1 h2; exact (gb7 a left' h0 h1 h2).1
theorem g7_1 (a:List Za) (left':Int):0<=left'->left'<=1048576->0<=(F7 a left')->a.length<=1048576:=by
 intro h0 h1 h2; exact (gb7 a left' h0 h1 h2).2.1
theorem g7_2 (a:List Za) (left':Int):0<=left'->left'<=1048576->0<=(F7 a left')->∀ k:Nat,(a.getD k default).size<=1048576:=by
 intro h0 h1 h2; exact (gb7 a left' h0 h1 h2).2.2
theorem Vi (a:List Za) (l:Int) (h:0<=F7 a l):(a.length:Int)<=l/\(∀ k:Nat,((a.getD k default).size:Int)<=l)/\F7 a l<=l:=by
 unfold F7 at h ⊢
 cases hd:decide ((l-(a.length:Int))<0) with
 | true=>rw [hd,Qe] at h; exact absurd h uu2
 | false =>
  rw [hd,Qj] at h
  have hd:=Q2 hd
  have key:∀ (m i:Nat) (s:Int),i+m=a.length->0<=s->∀ fuel,m<fuel->0<=(runL (Xc a l) fuel (s,(i:Int))).fin (fun r=>r) (fun (x:Int×Int)=>x.1)->(∀ k:Nat,i<=k->k<a.length->((a.getD k default).size:Int)<=s)/\(runL (Xc a l) fuel (s,(i:Int))).fin (fun r=>r) (fun (x:Int×Int)=>x.1)<=s:=by
   intro m
   induction m with
   | zero =>
    intro i s hi hs fuel hf hr
    obtain ⟨fuel,rfl⟩:∃ f,fuel=f+1:=⟨fuel-1,by omega⟩
    have e:Xc a l (s,(i:Int))=.done (s,(i:Int)):=by
     simp only [Xc,Qp (show ¬ (i:Int)<(a.length:Int) by omega),Qj]
    rw [Ki _ e]
    exact ⟨fun k h1 h2=>by omega,Int.le_refl _⟩
   | succ m ih =>
    intro i s hi hs fuel hf hr
    obtain ⟨fuel,rfl⟩:∃ f,fuel=f+1:=⟨fuel-1,by omega⟩
    have e:Xc a l (s,(i:Int))=bif decide (s-((a.getD i default).size:Int)<0) then .ret (-1) else .next (s-((a.getD i default).size:Int),((i+1:Nat):Int)):=by
     simp only [Xc,Qr (show (i:Int)<(a.length:Int) by omega),Qe,nn]; rfl
    cases hb:decide (s-((a.getD i default).size:Int)<0) with
    | true =>
     rw [hb,Qe] at e
     rw [Wv _ e] at hr
     exact absurd hr (by show ¬ (0:Int)<=-1; decide)
    | false =>
     rw [hb,Qj] at e
     have hb:=Q2 hb
     rw [Yv _ e] at hr ⊢
     obtain ⟨h1,h2⟩:=ih (i+1) _ uu0 uu0 fuel uu0 hr
     refine ⟨fun k hk1 hk2=>?_,by omega⟩
     rcases Nat.eq_or_lt_of_le hk1 with rfl | hk
     ·omega
     ·have:=h1 k hk hk2
      omega
  obtain ⟨h1,h2⟩:=key a.length 0 (l-(a.length:Int)) uu0 uu0 (Int.toNat ((a.length:Int)-0)+1) uu0 h
  refine ⟨by omega,fun k=>?_,?_⟩
  ·by_cases hk:k<a.length
   ·have:=h1 k (Rk _) hk
    omega
   ·rw [Qb,Tt uu0]
    show ((0:Nat):Int)<=l
    omega
  ·rw [Qj]
   refine Int.le_trans h2 ?_
   omega
theorem Qjz (a:List Za) {l:Int} (h:0<=F7 a l) (hl:l<=1048576):a.length<=1048576:=by have:=(Vi a l h).1; omega
theorem Qfp (a:List Za) {l:Int} (h:0<=F7 a l) (hl:l<=1048576):∀ k:Nat,(a.getD k default).size<=1048576:=fun k=>by have:=(Vi a l h).2.1 k; omega
theorem Qac (a:List Za) (l:Int) (h:0<=F7 a l):F7 a l<=l:=(Vi a l h).2.2
def ltB (a b:Za):Bool:=Op.bytesLess a.toList b.toList
theorem Qhm:∀ (x y:List UInt8),Op.bytesLess x y=decide (x<y)
 | [],[]=>by simp [Op.bytesLess]
 | _ :: _,[]=>by simp [Op.bytesLess]
 | [],_ :: _=>by simp [Op.bytesLess]
 | a :: x,b :: y=>by
  rw [Op.bytesLess,Qhm x y]
  simp only [List.cons_lt_cons_iff]
  by_cases h1:a<b <;> by_cases h2:a=b <;> by_cases h3:x<y <;> simp [h1,h2,h3]
theorem Bh (a b:Za):ltB a b=true↔a.data.toList<b.data.toList:=by
 unfold ltB
 rw [Uu,Uu,Qhm,Rj]
theorem Qlq (a:Za):ltB a a=false:=by
 rw [Sk,ne_eq,Bh]
 exact List.lt_irrefl _
theorem Qqk {a b c:Za} (h1:ltB a b=true) (h2:ltB b c=true):ltB a c=true:=by
 rw [Bh] at *
 exact List.lt_trans h1 h2
theorem Qzr (a b:Za):ltB a b=true\/a=b\/ltB b a=true:=by
 rw [Bh,Bh]
 rcases R9 (a.data.toList<b.data.toList) with h | h
 ·exact .inl h
 ·rcases R9 (b.data.toList<a.data.toList) with h2 | h2
  ·exact .inr (.inr h2)
  ·refine .inr (.inl (Vd (List.le_antisymm ?_ ?_)))
   ·exact List.not_lt.1 h2
   ·exact List.not_lt.1 h
theorem Qqt {a b:Za} (h:ltB a b=true):ltB b a=false:=by
 rw [Sk]
 intro h2
 have:=Qqk h h2
 rw [Qlq] at this
 cases this
theorem Qkd (xs:List Za):(Yt xs).Perm xs:=by
 unfold Yt
 have h:=(List.mergeSort_perm (xs.map (·.data.toList)) fun x y=>decide (x<=y)).map fun l:List UInt8=>(⟨l.toArray⟩:Za)
 refine h.trans (List.Perm.of_eq ?_)
 rw [Gl]
 exact (Tz fun a _=>show (⟨a.data.toList.toArray⟩:Za)=a from by simp).trans (G2 _)
def F39 (list:List Za):List Za :=
 ((List.replicate (Int.toNat 0) (Zb:Za))++list)
theorem fi39 (list:List Za) (r:List Za) (hF:r=(F39 list)):(Imp (.l 1 eStr r) (.l 1 eStr (F39 list)))/\True:=by cases hF; exact ⟨Imp.refl _,trivial⟩
def S39 (R:List Za) (list:List Za):Spec:=⟨[.r (.c (.l 1 eStr list))],.ow (.l 1 eStr R),list.length<=1000000000⟩
theorem ok39 (list:List Za):(S39 (F39 list) list).ok Tryz.prog 39 :=
 Uf mixed (fn:=Tryz.f39) (ct:=.seqk [(0,0)] .no (.seq (.reg [(2,.dat (.l 1 eStr (List.replicate (Int.toNat 0) (Zb:Za)))),(4,.dat (.l 1 eStr ((List.replicate (Int.toNat 0) (Zb:Za))++list)))]) .no)) Tryz.func39 (fun (hpre0:list.length<=1000000000)=>kn list fun _=>ai (uu3:0<=(0:Int)/\(0:Int)<=(list.length:Int)/\(16:Int)*(list.length:Int)<=281474976710656) (ai (MakeOK.mk eStr (Zb:Za) (by exact ai ir trivial):MakeOK 1 [.v (.string Zb)] (Int.toNat 0) (.l 1 eStr (List.replicate (Int.toNat 0) (Zb:Za)))) (ai (AppL.mk eStr (List.replicate (Int.toNat 0) (Zb:Za)) list (Imp.refl (.l 1 eStr (List.replicate (Int.toNat 0) (Zb:Za)))) ir (fun y=>⟨rfl,fun e he=>by simp only [eStr,Qs,Rn,T4] at he; rcases he with rfl <;> exact ⟨_,rfl⟩⟩):AppL (.l 1 eStr (List.replicate (Int.toNat 0) (Zb:Za))) (.l 1 eStr list) 1 (.l 1 eStr ((List.replicate (Int.toNat 0) (Zb:Za))++list))) (ai (uu13:((List.replicate (Int.toNat 0) (Zb:Za))++list).length*16<=140737488355328) (fi39 list ((List.replicate (Int.toNat 0) (Zb:Za))++list) rfl))))) uu1
theorem as39 (list:List Za):F39 list=(list):=by
 simp [F39]
theorem oa39 (list:List Za):(S39 (list) list).ok Tryz.prog 39:=by
 intro hp; have h:=ok39 list hp; rw [as39 list] at h; exact h
def F41 (x9:List Za):List Za :=
 Yt x9
def S41 (x9:List Za):Spec:=⟨[.ow (.l 1 eStr x9) (some (.l 1 eStr (F41 x9)))],.tu [],x9.length<=4000000000000000000⟩
theorem ok41 (x9:List Za):(S41 x9).ok Tryz.prog 41 :=
 Qta Qro x9
theorem kc39a (list:List Za) {K_:Prop} (p0_:list.length<=1000000000) (k_:K_):(list.length<=1000000000)/\(Imp (.l 1 eStr list) (.l 1 eStr list))/\K_:=⟨p0_,Imp.refl _,k_⟩
theorem kc41 (x9:List Za) {K_:Prop} (p0_:x9.length<=4000000000000000000) (k_:K_):(x9.length<=4000000000000000000)/\(Imp (.l 1 eStr x9) (.l 1 eStr x9))/\K_:=⟨p0_,Imp.refl _,k_⟩
def F24 (lines:List Za):Bool :=
 ((F60 lines)==0)
def S24 (lines:List Za):Spec:=⟨[.r (.c (.l 1 eStr lines))],.v (.bool (F24 lines)),lines.length<=1048576/\(∀ k:Nat,(lines.getD k default).size<=1048576)⟩
theorem ok24 (lines:List Za):(S24 lines).ok Tryz.prog 24 false :=
 Uf mixed (fn:=Tryz.f24) (ct:=.seqk [(0,0)] .no (.seq (.reg [(1,kh60 lines)]) .no)) Tryz.func24 (fun (hp:lines.length<=1048576/\(∀ k:Nat,(lines.getD k default).size<=1048576))=>have hpre0:=hp.1; have hpre1:=hp.2; kn lines fun _=>kc60 lines uu41 (fiB ((F60 lines)==0) (F24 lines) rfl)) uu1
theorem mem_sz {xs:List Za} {n:Nat} (h:∀ k:Nat,(xs.getD k default).size<=n) {x:Za} (hx:x∈xs):x.size<=n:=by
 obtain ⟨k,hk,rfl⟩:=Em hx
 exact h k
theorem Qzy {xs:List Za} {n:Nat} (h:∀ x∈xs,x.size<=n) (k:Nat):(xs.getD k default).size<=n:=by
 rw [Qb]
 cases hx:xs[k]? with
 | none=>exact Rk n
 | some x=>exact h x (Q7 hx)
theorem kc24 (lines:List Za) {K_:Prop} (p0_:lines.length<=1048576) (p1_:∀ k:Nat,(lines.getD k default).size<=1048576) (k_:K_):(lines.length<=1048576/\(∀ k:Nat,(lines.getD k default).size<=1048576))/\(Imp (.l 1 eStr lines) (.l 1 eStr lines))/\K_:=⟨⟨p0_,p1_⟩,Imp.refl _,k_⟩
abbrev kh24 (lines:List Za):Hint false Tryz.prog:=.call 24 (S24 lines) (ok24 lines) none
theorem kg24 {K_:Prop} (c_ b_:Bool) (lines:List Za) (p_:c_=b_->lines.length<=1048576/\(∀ k:Nat,(lines.getD k default).size<=1048576)) (k_:K_):(c_=b_->lines.length<=1048576/\(∀ k:Nat,(lines.getD k default).size<=1048576))/\(c_=b_->Imp (.l 1 eStr lines) (.l 1 eStr lines))/\K_:=⟨p_,fun _=>Imp.refl _,k_⟩
theorem kg23 {K_:Prop} (c_ b_:Bool) (lines:List Za) (p_:c_=b_->(∀ k:Nat,(lines.getD k default).size<=1048576)) (k_:K_):(c_=b_->(∀ k:Nat,(lines.getD k default).size<=1048576))/\(c_=b_->Imp (.l 1 eStr lines) (.l 1 eStr lines))/\K_:=⟨p_,fun _=>Imp.refl _,k_⟩

theorem kc27 (k:Int) {K_:Prop} (p0_:k<=1000000000) (k_:K_):(k<=1000000000)/\(Imp (.v (vI k)) (.v (vI k)))/\K_:=⟨p0_,Imp.refl _,k_⟩
abbrev kh27 (k:Int):Hint true Tryz.prog:=.call 27 (S27 k) (ok27 k) none
def Kx (a:List Za) (k:Int):(Int×Int×List Za)->Lp (Int×Int×List Za) (Int×List Za):=fun (k400,i40,xs) =>
 bif (decide (i40<(xs.length:Int))) then (.next ((k400+1),(i40+1),(xs.set (i40).toNat (F27 k400)))) else (.done (k400,i40,xs))
def F12 (a:List Za) (k:Int):Int×List Za :=
 (runL (Kx a k) ((Int.toNat ((a.length:Int)-0))+1) (k,0,a)).fin (fun r=>r) (fun (k400,i40,xs)=>(k400,xs))
abbrev Qas (a:List Za) (k:Int):Nat×(Int×Int×List Za):=(((Int.toNat ((a.length:Int)-0))+1),(k,0,a))
abbrev Qjy (a:List Za) (m39:Nat) (k400:Int) (i40:Int) (xs:List Za):Prop:=Int.toNat ((xs.length:Int)-i40)<m39/\(0:Int)<=k400/\k400+((xs.length:Int)-i40)<=1000000000/\(0:Int)<=i40/\xs.length=a.length
abbrev Qtx (a:List Za) (k:Int):Lp (Int×Int×List Za) (Int×List Za):=LpX (Kx a k) (Qas a k)
abbrev Pn (a:List Za) (k:Int) (i:Nat×(Int×Int×List Za)):Prop:=LpJ (Kx a k) (Qas a k) i (Qjy a i.1 i.2.1 i.2.2.1 i.2.2.2)
abbrev Qvl (a:List Za) (k:Int) (i:Nat×(Int×Int×List Za)) (m39:Nat) (k400:Int) (i40:Int) (xs:List Za):Prop:=LpH (Kx a k) (Qas a k) i m39 (k400,i40,xs) (Qjy a (m39+1) k400 i40 xs)
abbrev Qrp (k400:Int) (i40:Int) (xs:List Za) (k400_:Int) (i40_:Int) (xs_:List Za) (K39:Prop):Prop:=((.int .i64 k400:Value)=.int .i64 k400_)/\((.int .i64 i40:Value)=.int .i64 i40_)/\(Imp (.l 1 eStr xs) (.l 1 eStr xs_))/\K39
theorem un12_0 (a:List Za) (k:Int) (i:Nat×(Int×Int×List Za)) (h:Pn a k i):Qvl a k i (i.1-1) i.2.1 i.2.2.1 i.2.2.2:=⟨hd1 h.1 h.2.1,hd3 h.2.1,hd2 h.2.1,h.2.2⟩
theorem bk12_0 (a:List Za) (k:Int) (i:Nat×(Int×Int×List Za)) (m39:Nat) (k400:Int) (i40:Int) (xs:List Za) (hl:m39<i.1) (e:runL (Kx a k) m39 (k400,i40,xs)=Qtx a k) (h:Qjy a m39 k400 i40 xs):∃ j:Nat×(Int×Int×List Za),Qrp k400 i40 xs j.2.1 j.2.2.1 j.2.2.2 (Pn a k j/\j.1<i.1):=⟨(m39,(k400,i40,xs)),rfl,rfl,Imp.refl _,⟨e,h⟩,hl⟩
theorem en12_0 (a:List Za) (k:Int) (h:(0:Int)<=k/\k+((a.length:Int)-0)<=1000000000/\(0:Int)<=0/\a.length=a.length):Qrp k 0 a k 0 a (Pn a k (Qas a k)):=⟨rfl,rfl,Imp.refl _,rfl,Qt _,h⟩
theorem fi12 (a:List Za) (k:Int) (r:Int×List Za) (hF:r=(F12 a k)):((.int .i64 r.1:Value)=.int .i64 (F12 a k).1)/\(Imp (.l 1 eStr r.2) (.l 1 eStr (F12 a k).2))/\True:=by cases hF; exact ⟨rfl,Imp.refl _,trivial⟩
def S12 (a:List Za) (k:Int):Spec:=⟨[.ow (.l 1 eStr a) (some (.l 1 eStr (F12 a k).2)),.r (.c (.v (vI k)))],.v (vI (F12 a k).1),0<=k/\k+(a.length:Int)<=1000000000⟩
theorem ok12 (a:List Za) (k:Int):(S12 a k).ok Tryz.prog 12 :=
 Uf mixed (fn:=Tryz.f12) (ct:=.seqk [(0,0)] .no (.seq (.seqk [(0,0)] .no (.blk (.loop (ι:=Nat×(Int×Int×List Za)) (fun i=>(fun (k400:Int) (i40:Int) (xs:List Za)=>(⟨[(0,some (.h 0 0)),(1,some (.v (vI k400))),(5,some (.v (vI i40)))],[(0,some (.own 0 (.l 1 eStr xs)))],1⟩:St)) i.2.1 i.2.2.1 i.2.2.2) (Pn a k) (fun i=>i.1) (Qas a k) (fun i=>(fun (k400:Int) (i40:Int) (xs:List Za)=>(.seq (.seq .no (.cond .no .no)) (.seq (.blk (.seq (.reg [(3,kh27 k400),(5,.dat (.l 1 eStr (xs.set (i40).toNat (F27 k400))))]) (.reg [(1,.bnd)]))) (.reg [(1,.bnd)])))) i.2.1 i.2.2.1 i.2.2.2)))) (.seq .no .no))) Tryz.func12 (fun (hp:0<=k/\k+(a.length:Int)<=1000000000)=>have hpre0:=hp.1; have hpre1:=hp.2; kn a fun _=>kn a fun _=>ai (en12_0 a k uu30) (fun (i0:Nat×(Int×Int×List Za)) (hi0:Pn a k i0)=>(fun (m0:Nat) (k400:Int) (i40:Int) (xs:List Za) (hh0:Qvl a k i0 m0 k400 i40 xs)=>have hI0:=hh0.1; have hl0:=hh0.2.1; have _:=hh0.2.2.1; have _:=hh0.2.2.2; ifd (i40<(xs.length:Int)) (fun h2 _=>kc27 k400 uu3 (ai (uu3:ib i40 xs) (ai (setr 1 eStr xs (i40).toNat (F27 k400)) (ai (iok (k400+1) uu3) (ai (iok (i40+1) uu3) (bk12_0 a k i0 m0 (k400+1) (i40+1) (xs.set (i40).toNat (F27 k400)) hl0 (Ub hI0 (condT h2 rfl)) (by refine ⟨?_,?_,?_,?_,?_⟩ <;> first | omega | (simp only [lens,ib] at*<;> omega)))))))) (fun h2 _=>have hD0_3:Qtx a k=Lp.done (k400,i40,xs):=Ui hI0 (condF h2 rfl); fi12 a k (k400,xs) (finD hD0_3 rfl))) (i0.1-1) i0.2.1 i0.2.2.1 i0.2.2.2 (un12_0 a k i0 hi0))) uu1
theorem g12_0 (a:List Za) (k:Int):(F12 a k).2.length=a.length:=by
 have h:=Yq (step:=Kx a k) (fun i (s:Int×List Za)=>(s.1,(i:Int),s.2)) a.length (fun _ s=>s.2.length=a.length) (fun _=>False) (fun i s hi hs=>.inl ⟨(s.1+1,s.2.set i (F27 s.1)),by simp only [Kx,hs,Qr (show (i:Int)<(a.length:Int) by omega),Qe,Rb]; rfl,by simpa using hs⟩) (fun s hs=>by simp only [Kx,hs,Qp (show ¬ (a.length:Int)<(a.length:Int) by omega),Qj]) a.length 0 (k,a) uu0 rfl (Int.toNat ((a.length:Int)-0)+1) uu0
 show ((runL (Kx a k) (Int.toNat ((a.length:Int)-0)+1) (k,0,a)).fin (fun r=>r) (fun (k400,i40,xs)=>(k400,xs))).2.length=a.length
 rcases h with ⟨s,e,hs⟩ | ⟨r,_,hr⟩
 ·rw [show (k,(0:Int),a)=((k,a).1,((0:Nat):Int),(k,a).2) from rfl,e]; exact hs
 ·exact hr.elim
def Ba (a:List Za) (k:Int):(Int×Int)->Lp (Int×Int) Int:=fun (k400,i40) =>
 bif (decide (i40<(a.length:Int))) then (bif (!((a.getD (Int.toNat i40) default).toList==(F27 k400).toList)) then (.ret (-1)) else (.next ((k400+1),(i40+1)))) else (.done (k400,i40))
def F13 (a:List Za) (k:Int):Int :=
 (runL (Ba a k) ((Int.toNat ((a.length:Int)-0))+1) (k,0)).fin (fun r=>r) (fun (k400,i40)=>k400)
abbrev Ps (a:List Za) (k:Int):Nat×(Int×Int):=(((Int.toNat ((a.length:Int)-0))+1),(k,0))
abbrev Qkh (a:List Za) (m39:Nat) (k400:Int) (i40:Int):Prop:=Int.toNat ((a.length:Int)-i40)<m39/\(0:Int)<=k400/\k400+((a.length:Int)-i40)<=1000000000/\(0:Int)<=i40
abbrev Qtb (a:List Za) (k:Int):Lp (Int×Int) Int:=LpX (Ba a k) (Ps a k)
abbrev Qaa (a:List Za) (k:Int) (i:Nat×(Int×Int)):Prop:=LpJ (Ba a k) (Ps a k) i (Qkh a i.1 i.2.1 i.2.2)
abbrev Qru (a:List Za) (k:Int) (i:Nat×(Int×Int)) (m39:Nat) (k400:Int) (i40:Int):Prop:=LpH (Ba a k) (Ps a k) i m39 (k400,i40) (Qkh a (m39+1) k400 i40)
abbrev Qwx (a:List Za) (k400:Int) (i40:Int) (k400_:Int) (i40_:Int) (K39:Prop):Prop:=((.int .i64 k400:Value)=.int .i64 k400_)/\((.int .i64 i40:Value)=.int .i64 i40_)/\(Im (.l 1 eStr a))/\K39
theorem un13_0 (a:List Za) (k:Int) (i:Nat×(Int×Int)) (h:Qaa a k i):Qru a k i (i.1-1) i.2.1 i.2.2:=⟨hd1 h.1 h.2.1,hd3 h.2.1,hd2 h.2.1,h.2.2⟩
theorem bk13_0 (a:List Za) (k:Int) (i:Nat×(Int×Int)) (m39:Nat) (k400:Int) (i40:Int) (hl:m39<i.1) (e:runL (Ba a k) m39 (k400,i40)=Qtb a k) (h:Qkh a m39 k400 i40):∃ j:Nat×(Int×Int),Qwx a k400 i40 j.2.1 j.2.2 (Qaa a k j/\j.1<i.1):=⟨(m39,(k400,i40)),rfl,rfl,Imp.refl _,⟨e,h⟩,hl⟩
theorem en13_0 (a:List Za) (k:Int) (h:(0:Int)<=k/\k+((a.length:Int)-0)<=1000000000/\(0:Int)<=0):Qwx a k 0 k 0 (Qaa a k (Ps a k)):=⟨rfl,rfl,Imp.refl _,rfl,Qt _,h⟩
def S13 (a:List Za) (k:Int):Spec:=⟨[.r (.c (.l 1 eStr a)),.r (.c (.v (vI k)))],.v (vI (F13 a k)),0<=k/\k+(a.length:Int)<=1000000000⟩
theorem ok13 (a:List Za) (k:Int):(S13 a k).ok Tryz.prog 13 :=
 Uf mixed (fn:=Tryz.f13) (ct:=.seqk [(0,0)] .no (.seq (.seqk [(0,0)] .no (.blk (.loop (ι:=Nat×(Int×Int)) (fun i=>(fun (k400:Int) (i40:Int)=>(⟨[(0,some (.h 0 0)),(1,some (.v (vI k400))),(5,some (.v (vI i40)))],[(0,some (.shr none (.l 1 eStr a)))],1⟩:St)) i.2.1 i.2.2) (Qaa a k) (fun i=>i.1) (Ps a k) (fun i=>(fun (k400:Int) (i40:Int)=>(.seq (.seq .no (.cond .no .no)) (.seq (.blk (.seq (.seq (.reg [(5,kh27 k400)]) (.cond (.seq .no .no) .no)) (.reg [(1,.bnd)]))) (.reg [(1,.bnd)])))) i.2.1 i.2.2)))) (.seq .no .no))) Tryz.func13 (fun (hp:0<=k/\k+(a.length:Int)<=1000000000)=>have hpre0:=hp.1; have hpre1:=hp.2; kn a fun _=>kn a fun _=>ai (en13_0 a k (by refine ⟨?_,?_,?_⟩ <;> omega)) (fun (i0:Nat×(Int×Int)) (hi0:Qaa a k i0)=>(fun (m0:Nat) (k400:Int) (i40:Int) (hh0:Qru a k i0 m0 k400 i40)=>have hI0:=hh0.1; have hl0:=hh0.2.1; have _:=hh0.2.2.1; have _:=hh0.2.2.2; ifd (i40<(a.length:Int)) (fun h2 _=>ai (uu0:ib i40 a) (kc27 k400 uu0 (ifb (!((a.getD (Int.toNat i40) default).toList==(F27 k400).toList)) (fun h3=>fiI (-1) (F13 a k) (finR (Uq hI0 (condT h2 (condT h3 rfl))) rfl)) (fun h3=>ai (iok (k400+1) uu0) (ai (iok (i40+1) uu0) (bk13_0 a k i0 m0 (k400+1) (i40+1) hl0 (Ub hI0 (condT h2 (condF h3 rfl))) (by refine ⟨?_,?_,?_,?_⟩ <;> omega))))))) (fun h2 _=>have hD0_4:Qtb a k=Lp.done (k400,i40):=Ui hI0 (condF h2 rfl); fiI k400 (F13 a k) (finD hD0_4 rfl))) (i0.1-1) i0.2.1 i0.2.2 (un13_0 a k i0 hi0))) uu1
theorem mk12:Mk F12 F13 (sumL (fun _=>1)) :=
 Qqe (fun (x:Za) (k:Int)=>((k+1),(F27 k))) (fun (x:Za) (k:Int)=>(bif (!(x.toList==(F27 k).toList)) then (-1) else (k+1))) (fun _=>1)
  (fun x k h0 h1=>by
   simp (discharger:=omega) only [Vu,bne_self_eq_false,beq_self_eq_true,Qj,Qe,Sz,T3,neg_lt,and_self] <;> omega)
  F12 F13 Kx Ba (fun a k=>rfl) (fun a k0 k i xs=>rfl) (fun a k=>rfl)
  (fun a k0 k i hi h0 hh=>by
   obtain ⟨c0,hh⟩:=Qzh hh
   simp only [Ba,Qr hi,Qe,c0,Qj])
  (fun a k0 k=>by simp only [Ba,geD,Qj])
theorem mk12a (x:List Za) (k:Int) (h0:0<=k) (h1:k+((sumL (fun _=>1)) x:Int)<9223372036854775807):(F12 x k).1=k+(sumL (fun _=>1)) x:=(mk12 x k h0 h1).1
theorem mk12b (x:List Za) (k:Int) (h0:0<=k) (h1:k+((sumL (fun _=>1)) x:Int)<9223372036854775807):F13 (F12 x k).2 k=k+(sumL (fun _=>1)) x:=(mk12 x k h0 h1).2
theorem Li (a:List Za) (k:Int):(F12 a k).1=k+(a.length:Int):=by
 have h:=Yq (step:=Kx a k) (fun i (s:Int×List Za)=>(s.1,(i:Int),s.2)) a.length (fun i s=>s.2.length=a.length/\s.1=k+(i:Int)) (fun _=>False) (fun i s hi hs=>.inl ⟨(s.1+1,s.2.set i (F27 s.1)),by simp only [Kx,hs.1,Qr (show (i:Int)<(a.length:Int) by omega),Qe,Rb]; rfl,by
   refine ⟨by simpa using hs.1,?_⟩
   have:=hs.2
   show s.1+1=k+((i+1:Nat):Int)
   omega⟩) (fun s hs=>by simp only [Kx,hs.1,Qp (show ¬ (a.length:Int)<(a.length:Int) by omega),Qj]) a.length 0 (k,a) uu0 ⟨rfl,by simp⟩ (Int.toNat ((a.length:Int)-0)+1) uu0
 show ((runL (Kx a k) (Int.toNat ((a.length:Int)-0)+1) (k,0,a)).fin (fun r=>r) (fun (k400,i40,xs)=>(k400,xs))).1=k+(a.length:Int)
 rcases h with ⟨s,e,hs⟩ | ⟨r,_,hr⟩
 ·rw [show (k,(0:Int),a)=((k,a).1,((0:Nat):Int),(k,a).2) from rfl,e]; exact hs.2
 ·exact hr.elim
theorem Lo {α:Type}:∀ l:List α,sumL (fun _=>1) l=l.length
 | []=>rfl
 | a :: l=>by
  rw [Vf,Lo l,Qy]
  omega
theorem marked (w:List Za) (h:w.length<=1000000):F13 (F12 w 1).2 1=1+(w.length:Int)/\(F12 w 1).1=1+(w.length:Int):=by
 have h1:=mk12a w 1 uu0 (by rw [Lo]; omega)
 have h2:=mk12b w 1 uu0 (by rw [Lo]; omega)
 rw [Lo] at h1 h2
 exact ⟨h2,h1⟩


def Mq (lines:List Za) (key:Za):Int->Lp Int Int:=fun i40 =>
 bif (decide (i40<(lines.length:Int))) then (bif ((F68 (lines.getD i40.toNat default)).toList==key.toList) then (.ret i40) else (.next (i40+1))) else (.done i40)
def F63 (lines:List Za) (key:Za):Int :=
 (runL (Mq lines key) (((lines.length:Int)-0).toNat+1) 0).fin (fun r=>r) (fun i40=>(-1))
abbrev Qbb (lines:List Za):Nat×Int:=((((lines.length:Int)-0).toNat+1),0)
abbrev Qlx (lines:List Za) (m39:Nat) (i40:Int):Prop:=Int.toNat ((lines.length:Int)-i40)<m39/\(0:Int)<=i40
abbrev Qww (lines:List Za) (key:Za):Lp Int Int:=LpX (Mq lines key) (Qbb lines)
abbrev Qae (lines:List Za) (key:Za) (i:Nat×Int):Prop:=LpJ (Mq lines key) (Qbb lines) i (Qlx lines i.1 i.2)
abbrev Qwg (lines:List Za) (key:Za) (i:Nat×Int) (m39:Nat) (i40:Int):Prop:=LpH (Mq lines key) (Qbb lines) i m39 i40 (Qlx lines (m39+1) i40)
abbrev Qxx (lines:List Za) (key:Za) (i40:Int) (i40_:Int) (K39:Prop):Prop:=(Rf (.string key))/\((.int .i64 i40:Value)=.int .i64 i40_)/\(Im (.l 1 eStr lines))/\K39
theorem un63_0 (lines:List Za) (key:Za) (i:Nat×Int) (h:Qae lines key i):Qwg lines key i (i.1-1) i.2:=⟨hd1 h.1 h.2.1,hd3 h.2.1,hd2 h.2.1,h.2.2⟩
theorem bk63_0 (lines:List Za) (key:Za) (i:Nat×Int) (m39:Nat) (i40:Int) (hl:m39<i.1) (e:runL (Mq lines key) m39 i40=Qww lines key) (h:Qlx lines m39 i40):∃ j:Nat×Int,Qxx lines key i40 j.2 (Qae lines key j/\j.1<i.1):=⟨(m39,i40),rfl,rfl,Imp.refl _,⟨e,h⟩,hl⟩
theorem en63_0 (lines:List Za) (key:Za) (h:(0:Int)<=0):Qxx lines key 0 0 (Qae lines key (Qbb lines)):=⟨rfl,rfl,Imp.refl _,rfl,Qt _,h⟩
def S63 (lines:List Za) (key:Za):Spec:=⟨[.r (.c (.l 1 eStr lines)),.r (.c (.v (.string key)))],.v (vI (F63 lines key)),(∀ k:Nat,(lines.getD k default).size<=1048576)⟩
theorem ok63 (lines:List Za) (key:Za):(S63 lines key).ok Tryz.prog 63 :=
 Uf mixed (fn:=Tryz.f63) (ct:=.seqk [(0,0)] .no (.seq (.seqk [(0,0)] .no (.blk (.loop (ι:=Nat×Int) (fun i=>(fun (i40:Int)=>(⟨[(0,some (.h 0 0)),(1,some (.v (.string key))),(5,some (.v (vI i40)))],[(0,some (.shr none (.l 1 eStr lines)))],1⟩:St)) i.2) (Qae lines key) (fun i=>i.1) (Qbb lines) (fun i=>(fun (i40:Int)=>(.seq (.seq .no (.cond .no .no)) (.seq (.blk (.seq (.reg [(4,kh68 (lines.getD i40.toNat default))]) (.cond (.seq .no .no) .no))) (.reg [(1,.bnd)])))) i.2)))) (.seq .no .no))) Tryz.func63 (fun (hpre0:∀ k:Nat,(lines.getD k default).size<=1048576)=>kn lines fun _=>kn lines fun _=>ai (en63_0 lines key uu0) (fun (i0:Nat×Int) (hi0:Qae lines key i0)=>(fun (m0:Nat) (i40:Int) (hh0:Qwg lines key i0 m0 i40)=>have hI0:=hh0.1; have hl0:=hh0.2.1; have _:=hh0.2.2.1; have _:=hh0.2.2.2; ifd (i40<(lines.length:Int)) (fun h2 _=>ai (uu0:ib i40 lines) (kc68 (lines.getD i40.toNat default) uu51 (ifb ((F68 (lines.getD i40.toNat default)).toList==key.toList) (fun h3=>fiI i40 (F63 lines key) (finR (Uq hI0 (condT h2 (condT h3 rfl))) rfl)) (fun h3=>ai (iok (i40+1) uu0) (bk63_0 lines key i0 m0 (i40+1) hl0 (Ub hI0 (condT h2 (condF h3 rfl))) uu9))))) (fun h2 _=>have hD0_4:Qww lines key=Lp.done i40:=Ui hI0 (condF h2 rfl); fiI (-1) (F63 lines key) (finD hD0_4 rfl))) (i0.1-1) i0.2 (un63_0 lines key i0 hi0))) uu1
def Vc (lines:List Za) (line:Za):Int->Lp Int (List Za):=fun k400 =>
 bif (bif decide (k400<(lines.length:Int)) then (Op.bytesLess (lines.getD k400.toNat default).toList line.toList) else false) then (.next (k400+1)) else (.done k400)
def Pt (lines:List Za) (line:Za):Lp Int (List Za) :=
 (runL (Vc lines line) (((lines.length:Int)-0).toNat+1) 0).fin Lp.ret (fun k400=>.done k400)
def F37 (lines:List Za) (line:Za):List Za :=
 (Pt lines line).fin (fun r=>r) (fun k=>(((([]:List Za)++(lines.take k.toNat))++[line])++(lines.drop k.toNat)))
abbrev Qce (lines:List Za):Nat×Int:=((((lines.length:Int)-0).toNat+1),0)
abbrev Qmg (lines:List Za) (m39:Nat) (k400:Int):Prop:=Int.toNat ((lines.length:Int)-k400)<m39/\(0:Int)<=k400/\k400<=(lines.length:Int)/\(0:Int)<=k400
abbrev Qvy (lines:List Za) (line:Za):Lp Int (List Za):=LpX (Vc lines line) (Qce lines)
abbrev Ev (lines:List Za) (line:Za) (i:Nat×Int):Prop:=LpJ (Vc lines line) (Qce lines) i (Qmg lines i.1 i.2)
abbrev Qvb (lines:List Za) (line:Za) (i:Nat×Int) (m39:Nat) (k400:Int):Prop:=LpH (Vc lines line) (Qce lines) i m39 k400 (Qmg lines (m39+1) k400)
abbrev Qrx (lines:List Za) (line:Za) (k400:Int) (k400_:Int) (K39:Prop):Prop:=(Rf (.string line))/\((.int .i64 k400:Value)=.int .i64 k400_)/\(Im (.l 1 eStr lines))/\K39
theorem un37_0 (lines:List Za) (line:Za) (i:Nat×Int) (h:Ev lines line i):Qvb lines line i (i.1-1) i.2:=⟨hd1 h.1 h.2.1,hd3 h.2.1,hd2 h.2.1,h.2.2⟩
theorem bk37_0 (lines:List Za) (line:Za) (i:Nat×Int) (m39:Nat) (k400:Int) (hl:m39<i.1) (e:runL (Vc lines line) m39 k400=Qvy lines line) (h:Qmg lines m39 k400):∃ j:Nat×Int,Qrx lines line k400 j.2 (Ev lines line j/\j.1<i.1):=⟨(m39,k400),rfl,rfl,Imp.refl _,⟨e,h⟩,hl⟩
theorem en37_0 (lines:List Za) (line:Za) (h:(0:Int)<=0/\0<=(lines.length:Int)/\(0:Int)<=0):Qrx lines line 0 0 (Ev lines line (Qce lines)):=⟨rfl,rfl,Imp.refl _,rfl,Qt _,h⟩
abbrev Qkk (lines:List Za) (line:Za) (k:Int):Prop:=0<=k/\k<=(lines.length:Int)
abbrev Qko (lines:List Za) (line:Za) (j:Int):Prop:=(Pt lines line)=Lp.done j/\Qkk lines line j
theorem jn37_0 (lines:List Za) (line:Za) (k:Int) (e:(Pt lines line)=Lp.done k) (h:Qkk lines line k):∃ j:Int,((.string line:Value)=.string line)/\((.int .i64 k:Value)=.int .i64 j)/\(Imp (.l 1 eStr lines) (.l 1 eStr lines))/\Qko lines line j:=⟨k,rfl,rfl,Imp.refl _,e,h⟩
theorem fi37 (lines:List Za) (line:Za) (r:List Za) (hF:r=(F37 lines line)):(Imp (.l 1 eStr r) (.l 1 eStr (F37 lines line)))/\True:=by cases hF; exact ⟨Imp.refl _,trivial⟩
def S37 (lines:List Za) (line:Za):Spec:=⟨[.r (.c (.l 1 eStr lines)),.r (.c (.v (.string line)))],.ow (.l 1 eStr (F37 lines line)),lines.length<=1048576/\(∀ k:Nat,(lines.getD k default).size<=1048576)⟩
theorem ok37 (lines:List Za) (line:Za):(S37 lines line).ok Tryz.prog 37 :=
 Uf mixed (fn:=Tryz.f37) (ct:=.seqk [(0,0)] .no (.seqk [(0,0)] .no (.cut (ι:=Int) (fun j=>(fun (k:Int)=>(⟨[(0,some (.h 0 0)),(1,some (.v (.string line))),(5,some (.v (vI k)))],[(0,some (.shr none (.l 1 eStr lines)))],1⟩:St)) j) (Qko lines line) (.blk (.loop (ι:=Nat×Int) (fun i=>(fun (k400:Int)=>(⟨[(0,some (.h 0 0)),(1,some (.v (.string line))),(5,some (.v (vI k400)))],[(0,some (.shr none (.l 1 eStr lines)))],1⟩:St)) i.2) (Ev lines line) (fun i=>i.1) (Qce lines) (fun i=>(fun (k400:Int)=>(.seq (.seq .no (.cond .no .no)) (.blk (.reg [(1,.bnd)])))) i.2))) (fun j=>(fun (k:Int)=>(.seq (.reg [(0,.dat (.l 1 eStr ([]:List Za))),(4,.dat (.l 1 eStr (([]:List Za)++(lines.take k.toNat)))),(7,.dat (.l 1 eStr ((([]:List Za)++(lines.take k.toNat))++[line]))),(11,.dat (.l 1 eStr (((([]:List Za)++(lines.take k.toNat))++[line])++(lines.drop k.toNat))))]) .no)) j)))) Tryz.func37 (fun (hp:lines.length<=1048576/\(∀ k:Nat,(lines.getD k default).size<=1048576))=>have hpre0:=hp.1; have hpre1:=hp.2; kn lines fun _=>kn lines fun _=>ai (ai (en37_0 lines line uu39) (fun (i0:Nat×Int) (hi0:Ev lines line i0)=>(fun (m0:Nat) (k400:Int) (hh0:Qvb lines line i0 m0 k400)=>have hI0:=hh0.1; have hl0:=hh0.2.1; have _:=hh0.2.2.1; have _:=hh0.2.2.2; ai (fun k2:(decide (k400<(lines.length:Int)))=true=>have _:=Qd k2; (by (first | omega | (simp only [Gp,Gc,Sa,Qk,Ty,Gd,Rj,Tm,Sm,Qx,Q6,Qy,Ro] at *; omega)):0<=k400/\k400<(lines.length:Int))) (ifb (bif decide (k400<(lines.length:Int)) then (Op.bytesLess (lines.getD k400.toNat default).toList line.toList) else false) (fun h3=>have _:=Qd (Ue h3); have _:=(Uv h3); ai (iok (k400+1) uu3) (bk37_0 lines line i0 m0 (k400+1) hl0 (Ub hI0 (condT h3 rfl)) (by refine ⟨?_,?_,?_,?_⟩ <;> first | omega | (simp only [lens,ib] at*<;> omega) | omega | (simp only [Gp,Gc,Sa,Qk,Ty,Gd,Rj,Tm,Sm,Qx,Q6,Qy,Ro] at *; omega)))) (fun h3=>have hD0_4:Qvy lines line=Lp.done k400:=Ui hI0 (condF h3 rfl); jn37_0 lines line k400 (Eq.symm (finD hD0_4 rfl)) uu24))) (i0.1-1) i0.2 (un37_0 lines line i0 hi0))) (fun (j:Int) (hj:Qko lines line j)=>(fun (k:Int) (hJ0_5:(Pt lines line)=Lp.done k) (hw:Qkk lines line k)=>have _:=hw.1; have _:=hw.2; ai (bokr 1 eStr ([]:List Za) fun _=>rfl) (ai (uu3:0<=(0:Int)/\(0:Int)<=k/\k<=(lines.length:Int)) (ai (AppL.mk eStr ([]:List Za) (lines.take k.toNat) (Imp.refl (.l 1 eStr ([]:List Za))) ir (fun y=>⟨rfl,fun e he=>by simp only [eStr,Qs,Rn,T4] at he; rcases he with rfl <;> exact ⟨_,rfl⟩⟩):AppL (.l 1 eStr ([]:List Za)) (.l 1 eStr (lines.take k.toNat)) 1 (.l 1 eStr (([]:List Za)++(lines.take k.toNat)))) (ai (uu13:(([]:List Za)++(lines.take k.toNat)).length*16<=140737488355328) (ai (appr 1 eStr (([]:List Za)++(lines.take k.toNat)) [line] fun _=>rfl) (ai (uu13:((([]:List Za)++(lines.take k.toNat))++[line]).length*16<=140737488355328) (ai (uu3:0<=k/\k<=(lines.length:Int)/\(lines.length:Int)<=(lines.length:Int)) (ai (AppL.mk eStr ((([]:List Za)++(lines.take k.toNat))++[line]) (lines.drop k.toNat) (Imp.refl (.l 1 eStr ((([]:List Za)++(lines.take k.toNat))++[line]))) ir (fun y=>⟨rfl,fun e he=>by simp only [eStr,Qs,Rn,T4] at he; rcases he with rfl <;> exact ⟨_,rfl⟩⟩):AppL (.l 1 eStr ((([]:List Za)++(lines.take k.toNat))++[line])) (.l 1 eStr (lines.drop k.toNat)) 1 (.l 1 eStr (((([]:List Za)++(lines.take k.toNat))++[line])++(lines.drop k.toNat)))) (ai (uu13:(((([]:List Za)++(lines.take k.toNat))++[line])++(lines.drop k.toNat)).length*16<=140737488355328) (fi37 lines line (((([]:List Za)++(lines.take k.toNat))++[line])++(lines.drop k.toNat)) (finD hJ0_5 rfl))))))))))) j hj.1 hj.2)) uu1
theorem Qxs (lines:List Za) (line:Za):∀ (m i:Nat),i+m=lines.length->(∀ j,j<i->ltB (lines.getD j default) line=true)->∀ fuel,m<fuel ->
  ∃ k:Nat,k<=lines.length/\(runL (Vc lines line) fuel (i:Int)).fin Lp.ret (fun k=>.done k)=(.done (k:Int):Lp Int (List Za))/\(∀ j,j<k->ltB (lines.getD j default) line=true)/\(k<lines.length->ltB (lines.getD k default) line=false)
 | m,i,_,_,0,hf=>absurd hf (Si _)
 | 0,i,h,hb,fuel+1,hf=>by
  obtain rfl:i=lines.length:=by omega
  have e:Vc lines line (lines.length:Int)=.done (lines.length:Int):=by
   simp only [Vc,geD,Qj]
  exact ⟨lines.length,Qo _,by rw [Ki _ e]; rfl,hb,fun h=>absurd h (Nat.lt_irrefl _)⟩
 | m+1,i,h,hb,fuel+1,hf=>by
  have e:Vc lines line (i:Int)=bif ltB (lines.getD i default) line then .next ((i+1:Nat):Int) else .done (i:Int):=by
   simp only [Vc,ltD (show i<lines.length by omega),Qe,nn]
   rfl
  cases hl:ltB (lines.getD i default) line with
  | true =>
   rw [hl,Qe] at e
   rw [Yv _ e]
   exact Qxs lines line m (i+1) uu0 (fun j hj=>by
    rcases Tw j i with h1 | h1
    ·exact hb j h1
    ·obtain rfl:j=i:=by omega
     exact hl) fuel uu0
  | false =>
   rw [hl,Qj] at e
   exact ⟨i,by omega,by rw [Ki _ e]; rfl,hb,fun _=>hl⟩
theorem Qfd (lines:List Za) (line:Za):∃ k:Nat,k<=lines.length/\F37 lines line=lines.take k++line :: lines.drop k/\(∀ j,j<k->ltB (lines.getD j default) line=true)/\(k<lines.length->ltB (lines.getD k default) line=false):=by
 obtain ⟨k,h1,h2,h3,h4⟩:=Qxs lines line lines.length 0 uu0 (fun j h=>absurd h (Si _)) (Int.toNat ((lines.length:Int)-0)+1) uu0
 refine ⟨k,h1,?_,h3,h4⟩
 unfold F37 Pt
 refine (Qq (fun z:Lp Int (List Za)=>z.fin (fun r=>r) (fun k=>(((([]:List Za)++(lines.take k.toNat))++[line])++(lines.drop k.toNat)))) h2).trans ?_
 show ((([]:List Za)++(lines.take (k:Int).toNat))++[line])++(lines.drop (k:Int).toNat)=_
 rw [Rb]
 simp
theorem Qgm (lines:List Za) (line:Za):(F37 lines line).length=lines.length+1:=by
 obtain ⟨k,h1,h2,_⟩:=Qfd lines line
 rw [h2]
 simp
 omega
theorem put_mem {lines:List Za} {line z:Za}:z∈F37 lines line↔z=line\/z∈lines:=by
 obtain ⟨k,h1,h2,_⟩:=Qfd lines line
 rw [h2,Q3,Qs]
 conv=>rhs; rhs; rw [<- Rx k lines,Q3]
 constructor
 ·rintro (h | h | h)
  ·exact .inr (.inl h)
  ·exact .inl h
  ·exact .inr (.inr h)
 ·rintro (h | h | h)
  ·exact .inr (.inl h)
  ·exact .inl h
  ·exact .inr (.inr h)
theorem put_sz (lines:List Za) (line:Za) (h:∀ k:Nat,(lines.getD k default).size<=1048576) (hl:line.size<=1048576):∀ k:Nat,((F37 lines line).getD k default).size<=1048576 :=
 Qzy fun x hx=>by
  rcases put_mem.1 hx with rfl | hx
  ·exact hl
  ·exact mem_sz h hx
theorem Qpc (out:List Za) (k:Za):F63 out k=idxI (fun l:Za=>(F68 l).toList==k.toList) out:=Lt (fun l:Za=>(F68 l).toList==k.toList) out (Mq out k) (fun i=>rfl)
theorem key_lt (out:List Za) (k:Za):F63 out k<(out.length:Int):=by rw [Qpc]; exact Qfv _ _
theorem kc63 (lines:List Za) (key:Za) {K_:Prop} (p0_:∀ k:Nat,(lines.getD k default).size<=1048576) (k_:K_):(∀ k:Nat,(lines.getD k default).size<=1048576)/\(Imp (.l 1 eStr lines) (.l 1 eStr lines))/\(Imp (.v (.string key)) (.v (.string key)))/\K_:=⟨p0_,Imp.refl _,Imp.refl _,k_⟩
abbrev kh63 (lines:List Za) (key:Za):Hint true Tryz.prog:=.call 63 (S63 lines key) (ok63 lines key) none
def F29 (lines:List Za) (key:Za):Za :=
 bif (decide ((F63 lines key)<0)) then Zb else (lines.getD (Int.toNat (F63 lines key)) default)
def S29 (lines:List Za) (key:Za):Spec:=⟨[.r (.c (.l 1 eStr lines)),.r (.c (.v (.string key)))],.v (.string (F29 lines key)),(∀ k:Nat,(lines.getD k default).size<=1048576)⟩
theorem ok29 (lines:List Za) (key:Za):(S29 lines key).ok Tryz.prog 29 :=
 Uf mixed (fn:=Tryz.f29) (ct:=.seqk [(0,0)] .no (.seq (.reg [(2,kh63 lines key)]) (.seq (.seq .no (.cond (.seq .no .no) .no)) (.seq .no .no)))) Tryz.func29 (fun (hpre0:∀ k:Nat,(lines.getD k default).size<=1048576)=>kn lines fun _=>kc63 lines key uu36 (have gv1:(F63 lines key)<(lines.length:Int):=(by exact key_lt _ _); ifd ((F63 lines key)<0) (fun h2 _=>fiS Zb (F29 lines key) (condT h2 rfl)) (fun h2 _=>ai (uu0:ib (F63 lines key) lines) (fiS (lines.getD (Int.toNat (F63 lines key)) default) (F29 lines key) (condF h2 rfl))))) uu1
theorem Qbl (lines:List Za) (key:Za) (h:∀ k:Nat,(lines.getD k default).size<=1048576):(F29 lines key).size<=1048576:=by
 unfold F29
 cases decide (F63 lines key<0) with
 | true=>exact Rk _
 | false=>exact h _
theorem Qcg {xs ys:List Za} (h:xs.Perm ys):Yt xs=Yt ys:=by
 unfold Yt
 refine Qq (List.map fun l:List UInt8=>(⟨l.toArray⟩:Za)) ?_
 have ht:∀ a b:List UInt8,(decide (a<=b) || decide (b<=a))=true:=fun a b=>by
  rcases List.le_total a b with h | h <;> simp [h]
 have htr:∀ a b c:List UInt8,decide (a<=b)=true->decide (b<=c)=true->decide (a<=c)=true:=fun a b c h1 h2=>by
  simp only [Rj] at *
  exact List.le_trans h1 h2
 refine List.Perm.eq_of_pairwise (le:=fun a b=>decide (a<=b)=true) (fun a b _ _ h1 h2=>?_) (List.pairwise_mergeSort htr ht _) (List.pairwise_mergeSort htr ht _) ?_
 ·simp only [Rj] at h1 h2
  exact List.le_antisymm h1 h2
 ·exact (List.mergeSort_perm _ _).trans ((h.map _).trans (List.mergeSort_perm _ _).symm)
def atM (m:ML Za) (k:Za):Za:=(getM m k).getD Zb
def Zv (b m t:ML Za) (k:Za):Za:=bif atM m k==atM b k then atM t k else atM m k
def Wc (b m t:ML Za) (k:Za):Bool:=bif atM m k==atM b k then false else bif atM t k==atM b k then false else !(atM t k==atM m k)
def Wm (b m t:ML Za) (ks:List Za):List Za:=(ks.map (Zv b m t)).filter fun l=>!(l==Zb)
def MgJ {α:Type} (b m t:ML Za) (keys:List Za) (left:ML α) (out:List Za):Prop :=
 ∃ dn,(dn++left.map (·.1)).Perm keys/\(∀ k∈dn,Wc b m t k=false)/\out=Wm b m t dn
theorem mgJ_0 {α:Type} (b m t:ML Za) (all:ML α):MgJ b m t (all.map (·.1)) all []:=⟨[],List.Perm.refl _,(fun _ h=>by cases h),rfl⟩
theorem Qhr {α:Type} {b m t:ML Za} {keys:List Za} {left left':ML α} {p:Za×α} {out:List Za} (h:MgJ b m t keys left out) (hp:left.Perm (p :: left')) (hb:Wc b m t p.1=false) :
  MgJ b m t keys left' (bif Zv b m t p.1==Zb then out else out++[Zv b m t p.1]):=by
 obtain ⟨dn,h1,h2,rfl⟩:=h
 refine ⟨dn++[p.1],?_,fun k hk=>?_,?_⟩
 ·refine List.Perm.trans ?_ h1
  rw [Q0]
  refine List.Perm.append_left dn ?_
  exact (hp.map fun q:Za×α=>q.1).symm
 ·rcases Q3.1 hk with h | h
  ·exact h2 k h
  ·rw [Qv.1 h]; exact hb
 ·unfold Wm
  rw [Tn,Gs,Rc,G4]
  cases hl:(Zv b m t p.1==Zb) with
  | true=>rw [T2 (by simp [hl]),Qe,List.filter_nil,Sb]
  | false=>rw [Gu (by simp [hl]),Qj,List.filter_nil]
theorem Qys {α:Type} {b m t:ML Za} {keys:List Za} {left left':ML α} {p:Za×α} {out:List Za} (h:MgJ b m t keys left out) (hp:left.Perm (p :: left')) (hb:Wc b m t p.1=true):keys.any (Wc b m t)=true:=by
 obtain ⟨dn,h1,_,_⟩:=h
 refine R5.2 ⟨p.1,h1.subset (Qu _ ?_),hb⟩
 exact Sr.2 ⟨p,hp.symm.subset Ql,rfl⟩
theorem Qyr {α:Type} {b m t:ML Za} {keys:List Za} {out:List Za} (h:MgJ b m t keys ([]:ML α) out):keys.any (Wc b m t)=false/\Yt out=Yt (Wm b m t keys):=by
 obtain ⟨dn,h1,h2,rfl⟩:=h
 rw [G4,Sb] at h1
 refine ⟨List.any_eq_false.2 fun k hk=>?_,Qcg ?_⟩
 ·rw [h2 k (h1.symm.subset hk)]; decide
 ·unfold Wm
  exact List.Perm.filter _ (h1.map _)
theorem Vg (a b:Za):(a.toList==b.toList)=(a==b):=by
 rw [Mv]
 by_cases h:a=b
 ·subst h; rw [Qr rfl,beq_self_eq_true]
 ·rw [Qp h,Qx.2 h]
theorem Qov {α:Type} {b m t:ML Za} {keys:List Za} {left:ML α} {out:List Za} (h:MgJ b m t keys left out):out.length<=keys.length:=by
 obtain ⟨dn,h1,_,rfl⟩:=h
 have h2:=h1.length_eq
 have h3:=List.length_filter_le (fun l:Za=>!(l==Zb)) (dn.map (Zv b m t))
 unfold Wm
 rw [Q6] at h2
 rw [Sh] at h3
 omega
def MgS (b m t:ML Za) (left left':ML Bool) (l:Za):Prop:=∃ p:Za×Bool,left.Perm (p :: left')/\Wc b m t p.1=false/\l=Zv b m t p.1
theorem mgS_1 {b m t:ML Za} {left left':ML Bool} {p:Za×Bool} {more:Bool} (hp:more=true->left.Perm (p :: left')) (hm:more=true) (h1:(((getM m p.1).getD Zb).toList==((getM b p.1).getD Zb).toList)=true):MgS b m t left (bif more then left' else left) ((getM t p.1).getD Zb):=by
 rw [Vg] at h1
 refine ⟨p,by rw [hm,Qe]; exact hp hm,?_,?_⟩
 ·unfold Wc atM; rw [h1]; rfl
 ·unfold Zv atM; rw [h1]; rfl
theorem mgS_2 {b m t:ML Za} {left left':ML Bool} {p:Za×Bool} {more:Bool} (hp:more=true->left.Perm (p :: left')) (hm:more=true) (h1:(((getM m p.1).getD Zb).toList==((getM b p.1).getD Zb).toList)=false)
  (h2:(bif (!(((getM t p.1).getD Zb).toList==((getM b p.1).getD Zb).toList)) then (!(((getM t p.1).getD Zb).toList==((getM m p.1).getD Zb).toList)) else false)=false):MgS b m t left (bif more then left' else left) ((getM m p.1).getD Zb):=by
 rw [Vg] at h1
 rw [Vg,Vg] at h2
 refine ⟨p,by rw [hm,Qe]; exact hp hm,?_,?_⟩
 ·unfold Wc atM
  rw [h1,Qj]
  revert h2
  cases ((getM t p.1).getD Zb==(getM b p.1).getD Zb) <;> intro h2
  ·exact h2
  ·rfl
 ·unfold Zv atM; rw [h1]; rfl
theorem Qzt {b m t:ML Za} {keys:List Za} {left left':ML Bool} {out:List Za} {l:Za} (h:MgJ b m t keys left out) (hs:MgS b m t left left' l) (hl:(!(l.toList==Zb.toList))=true):MgJ b m t keys left' (out++[l]):=by
 obtain ⟨p,hp,hb,rfl⟩:=hs
 have h1:=Qhr h hp hb
 rw [Vg] at hl
 cases hq:(Zv b m t p.1==Zb) with
 | true=>rw [hq] at hl; cases hl
 | false=>rw [hq,Qj] at h1; exact h1
theorem Qzx {b m t:ML Za} {keys:List Za} {left left':ML Bool} {out:List Za} {l:Za} (h:MgJ b m t keys left out) (hs:MgS b m t left left' l) (hl:(!(l.toList==Zb.toList))=false):MgJ b m t keys left' out:=by
 obtain ⟨p,hp,hb,rfl⟩:=hs
 have h1:=Qhr h hp hb
 rw [Vg] at hl
 cases hq:(Zv b m t p.1==Zb) with
 | false=>rw [hq] at hl; cases hl
 | true=>rw [hq,Qe] at h1; exact h1
theorem mgS_lt {b m t:ML Za} {left left':ML Bool} {l:Za} (hs:MgS b m t left left' l):left'.length<left.length:=by
 obtain ⟨p,hp,_⟩:=hs
 rw [hp.length_eq]
 exact Qt _
theorem Qxv {b m t:ML Za} {keys:List Za} {left:ML Bool} {out:List Za} {more:Bool} (h:MgJ b m t keys left out) (hb:more=false->left=[]) (hm:more=false):(bif keys.any (Wc b m t) then .ret ([],2) else .done (Yt (Wm b m t keys)):Lp (List Za) (List Za×Int))=Lp.done (Yt out):=by
 rw [hb hm] at h
 obtain ⟨e1,e2⟩:=Qyr h
 rw [e1,e2]
 rfl
theorem Qye {b m t:ML Za} {keys:List Za} {left left':ML Bool} {p:Za×Bool} {out:List Za} {more:Bool} (h:MgJ b m t keys left out) (hp:more=true->left.Perm (p :: left')) (hm:more=true)
  (h1:(((getM m p.1).getD Zb).toList==((getM b p.1).getD Zb).toList)=false) (h2:(bif (!(((getM t p.1).getD Zb).toList==((getM b p.1).getD Zb).toList)) then (!(((getM t p.1).getD Zb).toList==((getM m p.1).getD Zb).toList)) else false)=true):(bif keys.any (Wc b m t) then .ret ([],2) else .done (Yt (Wm b m t keys)):Lp (List Za) (List Za×Int))=Lp.ret ([],2):=by
 rw [Qys h (hp hm) (by
  unfold Wc atM
  rw [Vg] at h1
  rw [Vg,Vg] at h2
  rw [h1,Qj]
  revert h2
  cases ((getM t p.1).getD Zb==(getM b p.1).getD Zb) <;> intro h2
  ·exact h2
  ·cases h2)]
 rfl
theorem Qni {α:Type} (m:ML α) (s:Za) (x:α):(putM m s x).length<=m.length+1:=by
 have h:=Qq List.length (Ni m s x)
 rw [Sh] at h
 rw [h]
 unfold insK
 split
 ·rw [Sh]; omega
 ·rw [Q6,Sh]; exact Qo _
theorem Qeb {a b:List Za} {n:Nat} (ha:∀ k:Nat,(a.getD k default).size<=n) (hb:∀ k:Nat,(b.getD k default).size<=n) (k:Nat):((a++b).getD k default).size<=n:=by
 have h1:=ha k
 have h2:=hb (k-a.length)
 rw [Qb] at *
 rw [List.getElem?_append]
 split
 ·exact h1
 ·exact h2
theorem Qtr {a b c:List Za} {n:Nat} (ha:∀ k:Nat,(a.getD k default).size<=n) (hb:∀ k:Nat,(b.getD k default).size<=n) (hc:∀ k:Nat,(c.getD k default).size<=n) (k:Nat):(((a++b)++c).getD k default).size<=n:=Qeb (Qeb ha hb) hc k
def Xt (lines:List Za):(Int×ML Za)->Lp (Int×ML Za) (ML Za):=fun (v9,ms) =>
 bif (decide (v9<(lines.length:Int))) then (.next ((v9+1),(putM ms (F40 (lines.getD (Int.toNat v9) default)) (lines.getD (Int.toNat v9) default)))) else (.done (v9,ms))
def F38 (lines:List Za):ML Za :=
 (runL (Xt lines) ((Int.toNat ((lines.length:Int)-0))+1) (0,([]:ML Za))).fin (fun r=>r) (fun (v9,ms)=>ms)
abbrev Qbh (lines:List Za):Nat×(Int×ML Za):=(((Int.toNat ((lines.length:Int)-0))+1),(0,([]:ML Za)))
abbrev Qle (lines:List Za) (m39:Nat) (v9:Int) (ms:ML Za):Prop:=Int.toNat ((lines.length:Int)-v9)<m39/\(0:Int)<=v9
abbrev Qtt (lines:List Za):Lp (Int×ML Za) (ML Za):=LpX (Xt lines) (Qbh lines)
abbrev Ek (lines:List Za) (i:Nat×(Int×ML Za)):Prop:=LpJ (Xt lines) (Qbh lines) i (Qle lines i.1 i.2.1 i.2.2)
abbrev Qrh (lines:List Za) (i:Nat×(Int×ML Za)) (m39:Nat) (v9:Int) (ms:ML Za):Prop:=LpH (Xt lines) (Qbh lines) i m39 (v9,ms) (Qle lines (m39+1) v9 ms)
abbrev Qxg (lines:List Za) (v9:Int) (ms:ML Za) (v9_:Int) (ms_:ML Za) (K39:Prop):Prop:=(Rf (.int .i64 (lines.length:Int)))/\((.int .i64 v9:Value)=.int .i64 v9_)/\(Imp (.x (MX Value.string ms)) (.x (MX Value.string ms_)))/\(Im (.l 1 eStr lines))/\K39
theorem un38_0 (lines:List Za) (i:Nat×(Int×ML Za)) (h:Ek lines i):Qrh lines i (i.1-1) i.2.1 i.2.2:=⟨hd1 h.1 h.2.1,hd3 h.2.1,hd2 h.2.1,h.2.2⟩
theorem bk38_0 (lines:List Za) (i:Nat×(Int×ML Za)) (m39:Nat) (v9:Int) (ms:ML Za) (hl:m39<i.1) (e:runL (Xt lines) m39 (v9,ms)=Qtt lines) (h:Qle lines m39 v9 ms):∃ j:Nat×(Int×ML Za),Qxg lines v9 ms j.2.1 j.2.2 (Ek lines j/\j.1<i.1):=⟨(m39,(v9,ms)),rfl,rfl,Imp.refl _,Imp.refl _,⟨e,h⟩,hl⟩
theorem en38_0 (lines:List Za) (h:(0:Int)<=0):Qxg lines 0 ([]:ML Za) 0 ([]:ML Za) (Ek lines (Qbh lines)):=⟨rfl,rfl,Imp.refl _,Imp.refl _,rfl,Qt _,h⟩
theorem fi38 (lines:List Za) (r:ML Za) (hF:r=(F38 lines)):(Imp (.x (MX Value.string r)) (.x (MX Value.string (F38 lines))))/\True:=by cases hF; exact ⟨Imp.refl _,trivial⟩
def S38 (lines:List Za):Spec:=⟨[.r (.c (.l 1 eStr lines))],.ow (.x (MX Value.string (F38 lines))),lines.length<=1048576/\(∀ k:Nat,(lines.getD k default).size<=1048576)⟩
theorem ok38 (lines:List Za):(S38 lines).ok Tryz.prog 38 false :=
 Uf mixed (fn:=Tryz.f38) (ct:=.seqk [(0,0)] .no (.seq (.reg [(0,.mpm Value.string)]) (.seq (.seqk [(7,0)] .no (.blk (.loop (ι:=Nat×(Int×ML Za)) (fun i=>(fun (v9:Int) (ms:ML Za)=>(⟨[(3,some (.h 0 0)),(7,some (.h 1 0)),(8,some (.v (vI (lines.length:Int)))),(9,some (.v (vI v9)))],[(0,some (.own 0 (.x (MX Value.string ms)))),(1,some (.shr none (.l 1 eStr lines)))],2⟩:St)) i.2.1 i.2.2) (Ek lines) (fun i=>i.1) (Qbh lines) (fun i=>(fun (v9:Int) (ms:ML Za)=>(.seq .no (.seq (.cond .no .no) (.seq (.blk (.seq .no (.reg [(2,kh40 (lines.getD (Int.toNat v9) default)),(4,.mpu Value.string ms (lines.getD (Int.toNat v9) default))]))) (.reg [(0,.bnd)]))))) i.2.1 i.2.2)))) (.seq .no .no)))) Tryz.func38 (fun (hp:lines.length<=1048576/\(∀ k:Nat,(lines.getD k default).size<=1048576))=>have hpre0:=hp.1; have hpre1:=hp.2; kn lines fun _=>kn lines fun _=>ai (en38_0 lines uu0) (fun (i0:Nat×(Int×ML Za)) (hi0:Ek lines i0)=>(fun (m0:Nat) (v9:Int) (ms:ML Za) (hh0:Qrh lines i0 m0 v9 ms)=>have hI0:=hh0.1; have hl0:=hh0.2.1; have _:=hh0.2.2.1; have _:=hh0.2.2.2; ifd (v9<(lines.length:Int)) (fun h2 _=>ai (uu0:ib v9 lines) (kc40 (lines.getD (Int.toNat v9) default) uu50 (ai (Eq.refl (MX Value.string ms)) (ai (Eq.refl (Value.string (lines.getD (Int.toNat v9) default))) (ai (iok (v9+1) uu0) (bk38_0 lines i0 m0 (v9+1) (putM ms (F40 (lines.getD (Int.toNat v9) default)) (lines.getD (Int.toNat v9) default)) hl0 (Ub hI0 (condT h2 rfl)) uu9)))))) (fun h2 _=>have hD0_3:Qtt lines=Lp.done (v9,ms):=Ui hI0 (condF h2 rfl); fi38 lines ms (finD hD0_3 rfl))) (i0.1-1) i0.2.1 i0.2.2 (un38_0 lines i0 hi0))) uu1
theorem kc38 (lines:List Za) {K_:Prop} (p0_:lines.length<=1048576) (p1_:∀ k:Nat,(lines.getD k default).size<=1048576) (k_:K_):(lines.length<=1048576/\(∀ k:Nat,(lines.getD k default).size<=1048576))/\(Imp (.l 1 eStr lines) (.l 1 eStr lines))/\K_:=⟨⟨p0_,p1_⟩,Imp.refl _,k_⟩
abbrev kh38 (lines:List Za):Hint false Tryz.prog:=.call 38 (S38 lines) (ok38 lines) none
abbrev kh39af (list:List Za):Hint false Tryz.prog:=.call 39 (S39 list list) ((oa39 list).to false) none
abbrev kh41f (x9:List Za):Hint false Tryz.prog:=.call 41 (S41 x9) ((ok41 x9).to false) none
def Xw (base:List Za) (mine:List Za) (theirs:List Za):(Int×ML Bool)->Lp (Int×ML Bool) (List Za×Int):=fun (v44,ms) =>
 bif (decide (v44<(((base++mine)++theirs).length:Int))) then (.next ((v44+1),(putM ms (F40 (((base++mine)++theirs).getD (Int.toNat v44) default)) true))) else (.done (v44,ms))
def Qcc (base:List Za) (mine:List Za) (theirs:List Za):Lp (ML Bool) (List Za×Int) :=
 (runL (Xw base mine theirs) ((Int.toNat ((((base++mine)++theirs).length:Int)-0))+1) (0,([]:ML Bool))).fin Lp.ret (fun (v44,ms)=>.done ms)
def Hg (base:List Za) (mine:List Za) (theirs:List Za) (keys:ML Bool):Lp (List Za) (List Za×Int) :=
 bif (keys.map (·.1)).any (Wc (F38 base) (F38 mine) (F38 theirs)) then .ret ([],2) else .done (Yt (Wm (F38 base) (F38 mine) (F38 theirs) (keys.map (·.1))))
def F17 (base:List Za) (mine:List Za) (theirs:List Za):List Za×Int :=
 bif (bif (bif (!(F24 base)) then true else (!(F24 mine))) then true else (!(F24 theirs))) then (([]:List Za),1) else ((Qcc base mine theirs).fin (fun r=>r) (fun keys=>(Hg base mine theirs keys).fin (fun r=>r) (fun so=>bif (decide ((so.length:Int)>16)) then (([]:List Za),3) else (so,0))))
abbrev Qam (base:List Za) (mine:List Za) (theirs:List Za):Nat×(Int×ML Bool):=(((Int.toNat ((((base++mine)++theirs).length:Int)-0))+1),(0,([]:ML Bool)))
abbrev Qka (base:List Za) (mine:List Za) (theirs:List Za) (m39:Nat) (v44:Int) (ms:ML Bool):Prop:=Int.toNat ((((base++mine)++theirs).length:Int)-v44)<m39/\(ms.length:Int)<=v44/\v44<=(((base++mine)++theirs).length:Int)/\(0:Int)<=v44
abbrev Qtq (base:List Za) (mine:List Za) (theirs:List Za):Lp (Int×ML Bool) (List Za×Int):=LpX (Xw base mine theirs) (Qam base mine theirs)
abbrev Qav (base:List Za) (mine:List Za) (theirs:List Za) (i:Nat×(Int×ML Bool)):Prop:=LpJ (Xw base mine theirs) (Qam base mine theirs) i (Qka base mine theirs i.1 i.2.1 i.2.2)
abbrev Qtm (base:List Za) (mine:List Za) (theirs:List Za) (i:Nat×(Int×ML Bool)) (m39:Nat) (v44:Int) (ms:ML Bool):Prop:=LpH (Xw base mine theirs) (Qam base mine theirs) i m39 (v44,ms) (Qka base mine theirs (m39+1) v44 ms)
abbrev Qwv (base:List Za) (mine:List Za) (theirs:List Za) (v44:Int) (ms:ML Bool) (v44_:Int) (ms_:ML Bool) (K39:Prop):Prop:=(Rf (.int .i64 (((base++mine)++theirs).length:Int)))/\((.int .i64 v44:Value)=.int .i64 v44_)/\(Im (.x (MX Value.string (F38 base))))/\(Im (.x (MX Value.string (F38 mine))))/\(Im (.x (MX Value.string (F38 theirs))))/\(Imp (.x (MX Value.bool ms)) (.x (MX Value.bool ms_)))/\(Im (.l 1 eStr ((base++mine)++theirs)))/\K39
theorem un17_0 (base:List Za) (mine:List Za) (theirs:List Za) (i:Nat×(Int×ML Bool)) (h:Qav base mine theirs i):Qtm base mine theirs i (i.1-1) i.2.1 i.2.2:=⟨hd1 h.1 h.2.1,hd3 h.2.1,hd2 h.2.1,h.2.2⟩
theorem bk17_0 (base:List Za) (mine:List Za) (theirs:List Za) (i:Nat×(Int×ML Bool)) (m39:Nat) (v44:Int) (ms:ML Bool) (hl:m39<i.1) (e:runL (Xw base mine theirs) m39 (v44,ms)=Qtq base mine theirs) (h:Qka base mine theirs m39 v44 ms):∃ j:Nat×(Int×ML Bool),Qwv base mine theirs v44 ms j.2.1 j.2.2 (Qav base mine theirs j/\j.1<i.1):=⟨(m39,(v44,ms)),rfl,rfl,Imp.refl _,Imp.refl _,Imp.refl _,Imp.refl _,Imp.refl _,⟨e,h⟩,hl⟩
theorem en17_0 (base:List Za) (mine:List Za) (theirs:List Za) (h:(([]:ML Bool).length:Int)<=0/\0<=(((base++mine)++theirs).length:Int)/\(0:Int)<=0):Qwv base mine theirs 0 ([]:ML Bool) 0 ([]:ML Bool) (Qav base mine theirs (Qam base mine theirs)):=⟨rfl,rfl,Imp.refl _,Imp.refl _,Imp.refl _,Imp.refl _,Imp.refl _,rfl,Qt _,h⟩
abbrev Qlm (base:List Za) (mine:List Za) (theirs:List Za) (keys:ML Bool):Prop:=(keys.length:Int)<=3145728/\True
abbrev Qln (base:List Za) (mine:List Za) (theirs:List Za) (j:ML Bool):Prop:=(Qcc base mine theirs)=Lp.done j/\Qlm base mine theirs j
theorem jn17_0 (base:List Za) (mine:List Za) (theirs:List Za) (keys:ML Bool) (e:(Qcc base mine theirs)=Lp.done keys) (h:Qlm base mine theirs keys):∃ j:ML Bool,(Imp (.x (MX Value.string (F38 base))) (.x (MX Value.string (F38 base))))/\(Imp (.x (MX Value.string (F38 mine))) (.x (MX Value.string (F38 mine))))/\(Imp (.x (MX Value.string (F38 theirs))) (.x (MX Value.string (F38 theirs))))/\(Imp (.x (MX Value.bool keys)) (.x (MX Value.bool j)))/\Qln base mine theirs j:=⟨keys,Imp.refl _,Imp.refl _,Imp.refl _,Imp.refl _,e,h⟩
abbrev Qke (base:List Za) (mine:List Za) (theirs:List Za) (keys:ML Bool) (out:List Za):Prop:=out.length<=3145728/\True
abbrev Qlo (base:List Za) (mine:List Za) (theirs:List Za) (keys:ML Bool) (j:List Za):Prop:=(Hg base mine theirs keys)=Lp.done (F41 j)/\Qke base mine theirs keys j
theorem jn17_1 (base:List Za) (mine:List Za) (theirs:List Za) (keys:ML Bool) (out:List Za) (e:(Hg base mine theirs keys)=Lp.done (F41 out)) (h:Qke base mine theirs keys out):∃ j:List Za,(Imp (.l 1 eStr out) (.l 1 eStr j))/\Qlo base mine theirs keys j:=⟨out,Imp.refl _,e,h⟩
theorem fi17 (base:List Za) (mine:List Za) (theirs:List Za) (r:List Za×Int) (hF:r=(F17 base mine theirs)):(Imp (.l 1 eStr r.1) (.l 1 eStr (F17 base mine theirs).1))/\((.int .i64 r.2:Value)=.int .i64 (F17 base mine theirs).2)/\True:=by cases hF; exact ⟨Imp.refl _,rfl,trivial⟩
def S17 (base:List Za) (mine:List Za) (theirs:List Za):Spec:=⟨[.r (.c (.l 1 eStr base)),.r (.c (.l 1 eStr mine)),.r (.c (.l 1 eStr theirs))],.tu [.ow (.l 1 eStr (F17 base mine theirs).1),.v (vI (F17 base mine theirs).2)],base.length<=1048576/\mine.length<=1048576/\theirs.length<=1048576/\(∀ k:Nat,(base.getD k default).size<=1048576)/\(∀ k:Nat,(mine.getD k default).size<=1048576)/\(∀ k:Nat,(theirs.getD k default).size<=1048576)⟩
theorem ok17 (base:List Za) (mine:List Za) (theirs:List Za):(S17 base mine theirs).ok Tryz.prog 17 false :=
 Uf mixed (fn:=Tryz.f17) (ct:=.seqk [(0,0),(1,0),(2,0)] .no (.seq (.seq (.reg [(1,kh24 base),(5,kh24 mine),(10,kh24 theirs)]) (.cond (.seq .no .no) .no)) (.seq (.reg [(1,kh38 base),(3,kh38 mine),(5,kh38 theirs)]) (.seq (.reg [(0,.mpm Value.bool)]) (.cut (ι:=ML Bool) (fun j=>(fun (keys:ML Bool)=>(⟨[(8,some (.h 0 0)),(9,some (.h 1 0)),(10,some (.h 2 0)),(11,some (.h 3 0))],[(0,some (.own 0 (.x (MX Value.string (F38 base))))),(1,some (.own 1 (.x (MX Value.string (F38 mine))))),(2,some (.own 2 (.x (MX Value.string (F38 theirs))))),(3,some (.own 3 (.x (MX Value.bool keys))))],4⟩:St)) j) (Qln base mine theirs) (.seqk [(42,0)] (.reg [(1,kh39af base),(3,.dat (.l 1 eStr (base++mine))),(5,.dat (.l 1 eStr ((base++mine)++theirs)))]) (.blk (.loop (ι:=Nat×(Int×ML Bool)) (fun i=>(fun (v44:Int) (ms:ML Bool)=>(⟨[(8,some (.h 0 0)),(9,some (.h 1 0)),(10,some (.h 2 0)),(11,some (.h 3 0)),(42,some (.h 4 0)),(43,some (.v (vI (((base++mine)++theirs).length:Int)))),(44,some (.v (vI v44)))],[(0,some (.own 0 (.x (MX Value.string (F38 base))))),(1,some (.own 1 (.x (MX Value.string (F38 mine))))),(2,some (.own 2 (.x (MX Value.string (F38 theirs))))),(3,some (.own 3 (.x (MX Value.bool ms)))),(4,some (.own 4 (.l 1 eStr ((base++mine)++theirs))))],5⟩:St)) i.2.1 i.2.2) (Qav base mine theirs) (fun i=>i.1) (Qam base mine theirs) (fun i=>(fun (v44:Int) (ms:ML Bool)=>(.seq .no (.seq (.cond .no .no) (.seq (.blk (.seq .no (.reg [(2,kh40 (((base++mine)++theirs).getD (Int.toNat v44) default)),(3,.mpu Value.bool ms true)]))) (.reg [(0,.bnd)]))))) i.2.1 i.2.2)))) (fun j=>(fun (keys:ML Bool)=>(.seq (.reg [(0,.dat (.l 1 eStr ([]:List Za)))]) (.cut (ι:=List Za) (fun j=>(fun (out:List Za)=>(⟨[(14,some (.h 0 0))],[(0,some (.own 0 (.l 1 eStr out)))],1⟩:St)) j) (Qlo base mine theirs keys) (.seqk [(14,0)] (.reg [(1,.rng Value.bool keys)]) (.blk (.loop (ι:=List Za×ML Bool) (fun i=>(fun (out1:List Za) (left':ML Bool)=>(⟨[(8,some (.h 0 0)),(9,some (.h 1 0)),(10,some (.h 2 0)),(14,some (.h 3 0)),(54,some (.h 4 0))],[(0,some (.own 0 (.x (MX Value.string (F38 base))))),(1,some (.own 1 (.x (MX Value.string (F38 mine))))),(2,some (.own 2 (.x (MX Value.string (F38 theirs))))),(3,some (.own 3 (.l 1 eStr out1))),(4,some (.own 4 (.x (IX Value.bool keys left' none))))],5⟩:St)) i.1 i.2) (fun i=>(fun (out1:List Za) (left':ML Bool)=>(MgJ (F38 base) (F38 mine) (F38 theirs) (keys.map (·.1)) left' out1)) i.1 i.2) (fun i=>(fun (out1:List Za) (left':ML Bool)=>left'.length) i.1 i.2) (([]:List Za),keys) (fun i=>(fun (out1:List Za) (left':ML Bool)=>(.nx Value.bool keys left' none false (fun (more:Bool) (ent:Za×Bool) (left'1:ML Bool)=>(.seq (.cond .no .no) (.blk (.seq (.reg [(0,.ent Value.bool keys (bif more then left'1 else left') ent.1 ent.2)]) (.seq (.reg [(2,.mpl Value.string (F38 mine) Zb)]) (.cut (ι:=Za×ML Bool) (fun j=>(fun (l:Za) (left'2:ML Bool)=>(⟨[(8,some (.h 0 0)),(9,some (.h 1 0)),(10,some (.h 2 0)),(14,some (.h 3 0)),(16,some (.v (.string l))),(54,some (.h 4 0))],[(0,some (.own 0 (.x (MX Value.string (F38 base))))),(1,some (.own 1 (.x (MX Value.string (F38 mine))))),(2,some (.own 2 (.x (MX Value.string (F38 theirs))))),(3,some (.own 3 (.l 1 eStr out1))),(4,some (.own 4 (.x (IX Value.bool keys left'2 none))))],5⟩:St)) j.1 j.2) (fun j=>(fun (l:Za) (left'2:ML Bool)=>(MgS (F38 base) (F38 mine) (F38 theirs) left' left'2 l)) j.1 j.2) (.blk (.seq (.reg [(2,.mpl Value.string (F38 mine) Zb),(5,.mpl Value.string (F38 base) Zb)]) (.cond (.reg [(2,.mpl Value.string (F38 theirs) Zb)]) (.seq (.reg [(2,.mpl Value.string (F38 theirs) Zb),(5,.mpl Value.string (F38 base) Zb),(10,.mpl Value.string (F38 theirs) Zb),(13,.mpl Value.string (F38 mine) Zb)]) (.cond (.seq .no .no) .no))))) (fun j=>(fun (l:Za) (left'2:ML Bool)=>(.seq .no (.cond (.reg [(3,.dat (.l 1 eStr (out1++[l])))]) .no))) j.1 j.2))))))))) i.1 i.2)))) (fun j=>(fun (out:List Za)=>(.seq (.reg [(1,kh41f out)]) (.seq (.seq .no (.cond (.seq .no .no) .no)) (.seq .no .no)))) j)))) j)))))) Tryz.func17 (fun (hp:base.length<=1048576/\mine.length<=1048576/\theirs.length<=1048576/\(∀ k:Nat,(base.getD k default).size<=1048576)/\(∀ k:Nat,(mine.getD k default).size<=1048576)/\(∀ k:Nat,(theirs.getD k default).size<=1048576))=>have hpre0:=hp.1; have hpre1:=hp.2.1; have hpre2:=hp.2.2.1; have hpre3:=hp.2.2.2.1; have hpre4:=hp.2.2.2.2.1; have hpre5:=hp.2.2.2.2.2; kn base fun _=>kn mine fun _=>kn theirs fun _=>kc24 base uu3 uu25 (kg24 (!(F24 base)) false mine (fun k1=>⟨uu3,uu25⟩) (kg24 (bif (!(F24 base)) then true else (!(F24 mine))) false theirs (fun k2=>⟨uu3,uu25⟩) (ifb (bif (bif (!(F24 base)) then true else (!(F24 mine))) then true else (!(F24 theirs))) (fun h3=>(fun hF:(([]:List Za),1)=(F17 base mine theirs)=>ai ((Imp.nil 1 eStr).trans (Imp.of_eq (Qq (fun r:List Za×Int=>Dat.l 1 eStr r.1) hF))) (ai (Qq (fun r:List Za×Int=>(.int .i64 r.2:Value)) hF) trivial)) (condT h3 rfl)) (fun h3=>kc38 base uu3 uu25 (kc38 mine uu3 uu25 (kc38 theirs uu3 uu25 (ai (kc39a base uu3 (ai (AppL.mk eStr base mine (Imp.refl (.l 1 eStr base)) ir (fun y=>⟨rfl,fun e he=>by simp only [eStr,Qs,Rn,T4] at he; rcases he with rfl <;> exact ⟨_,rfl⟩⟩):AppL (.l 1 eStr base) (.l 1 eStr mine) 1 (.l 1 eStr (base++mine))) (ai (uu40:(base++mine).length*16<=140737488355328) (ai (AppL.mk eStr (base++mine) theirs (Imp.refl (.l 1 eStr (base++mine))) ir (fun y=>⟨rfl,fun e he=>by simp only [eStr,Qs,Rn,T4] at he; rcases he with rfl <;> exact ⟨_,rfl⟩⟩):AppL (.l 1 eStr (base++mine)) (.l 1 eStr theirs) 1 (.l 1 eStr ((base++mine)++theirs))) (ai (uu40:((base++mine)++theirs).length*16<=140737488355328) (kn ((base++mine)++theirs) fun _=>ai (en17_0 base mine theirs (by refine ⟨?_,?_,?_⟩ <;> first | omega | (simp only [lens,ib] at*<;> omega) | exact Int.natCast_nonneg _ | (have h9:=Qni ms (F40 (((base++mine)++theirs).getD (Int.toNat v44) default)) true; omega))) (fun (i0:Nat×(Int×ML Bool)) (hi0:Qav base mine theirs i0)=>(fun (m0:Nat) (v44:Int) (ms:ML Bool) (hh0:Qtm base mine theirs i0 m0 v44 ms)=>have hI0:=hh0.1; have hl0:=hh0.2.1; have _:=hh0.2.2.1; have _:=hh0.2.2.2; ifd (v44<(((base++mine)++theirs).length:Int)) (fun h5 _=>ai (uu3:ib v44 ((base++mine)++theirs)) (kc40 (((base++mine)++theirs).getD (Int.toNat v44) default) (by first | exact Qtr hpre3 hpre4 hpre5 _) (ai (Eq.refl (MX Value.bool ms)) (ai (Eq.refl (Value.bool true)) (ai (iok (v44+1) uu3) (bk17_0 base mine theirs i0 m0 (v44+1) (putM ms (F40 (((base++mine)++theirs).getD (Int.toNat v44) default)) true) hl0 (Ub hI0 (condT h5 rfl)) (by refine ⟨?_,?_,?_,?_⟩ <;> first | omega | (simp only [lens,ib] at*<;> omega) | exact Int.natCast_nonneg _ | (have h9:=Qni ms (F40 (((base++mine)++theirs).getD (Int.toNat v44) default)) true; omega)))))))) (fun h5 _=>have hD0_6:Qtq base mine theirs=Lp.done (v44,ms):=Ui hI0 (condF h5 rfl); jn17_0 base mine theirs ms (Eq.symm (finD hD0_6 rfl)) uu52)) (i0.1-1) i0.2.1 i0.2.2 (un17_0 base mine theirs i0 hi0)))))))) (fun (j:ML Bool) (hj:Qln base mine theirs j)=>(fun (keys:ML Bool) (hJ0_7:(Qcc base mine theirs)=Lp.done keys) (hw:Qlm base mine theirs keys)=>have _:=hw.1; ai (bokr 1 eStr ([]:List Za) fun _=>rfl) (ai (ai (Eq.refl (MX Value.bool keys)) (kn ([]:List Za) fun _=>ai (ai (ir:Imp (.x (MX Value.string (F38 base))) (.x (MX Value.string (F38 base)))) (ai (ir:Imp (.x (MX Value.string (F38 mine))) (.x (MX Value.string (F38 mine)))) (ai (ir:Imp (.x (MX Value.string (F38 theirs))) (.x (MX Value.string (F38 theirs)))) (ai (ir:Imp (.l 1 eStr ([]:List Za)) (.l 1 eStr ([]:List Za))) (ai (ir:Imp (.x (IX Value.bool keys keys none)) (.x (IX Value.bool keys keys none))) (uu29:MgJ (F38 base) (F38 mine) (F38 theirs) (keys.map (·.1)) keys ([]:List Za))))))) (fun (i1:List Za×ML Bool) (hi1:(fun (out1:List Za) (left':ML Bool)=>(MgJ (F38 base) (F38 mine) (F38 theirs) (keys.map (·.1)) left' out1)) i1.1 i1.2)=>(fun (out1:List Za) (left':ML Bool) (hm1:left'.length<=(fun (out1:List Za) (left':ML Bool)=>left'.length) i1.1 i1.2) (hv1_0:MgJ (F38 base) (F38 mine) (F38 theirs) (keys.map (·.1)) left' out1)=>ai (Eq.refl (IX Value.bool keys left' none)) (ai (rfl:true=true) (fun (more:Bool) (ent:Za×Bool) (left'1:ML Bool) (hb16:more=false->left'=[]) (hp16:more=true->List.Perm left' (ent :: left'1))=>ifb more (fun h8=>ai (ix_cur h8:IX Value.bool keys (bif more then left'1 else left') (bif more then some ent else none)=IX Value.bool keys (bif more then left'1 else left') (some (ent.1,ent.2))) (ai (Eq.refl (MX Value.string (F38 mine))) (ai (Eq.refl (Value.string Zb)) (ai (ai (Eq.refl (MX Value.string (F38 mine))) (ai (Eq.refl (Value.string Zb)) (ai (Eq.refl (MX Value.string (F38 base))) (ai (Eq.refl (Value.string Zb)) (ifb (((getM (F38 mine) ent.1).getD Zb).toList==((getM (F38 base) ent.1).getD Zb).toList) (fun h9=>ai (Eq.refl (MX Value.string (F38 theirs))) (ai (Eq.refl (Value.string Zb)) (Exists.intro (p:=fun j:Za×ML Bool=>((.string ((getM (F38 theirs) ent.1).getD Zb):Value)=.string j.1)/\(Imp (.x (MX Value.string (F38 base))) (.x (MX Value.string (F38 base))))/\(Imp (.x (MX Value.string (F38 mine))) (.x (MX Value.string (F38 mine))))/\(Imp (.x (MX Value.string (F38 theirs))) (.x (MX Value.string (F38 theirs))))/\(Imp (.l 1 eStr out1) (.l 1 eStr out1))/\(Imp (.x (IX Value.bool keys (bif more then left'1 else left') (bif more then some ent else none))) (.x (IX Value.bool keys j.2 none)))/\(fun (l:Za) (left'2:ML Bool)=>(MgS (F38 base) (F38 mine) (F38 theirs) left' left'2 l)) j.1 j.2) (((getM (F38 theirs) ent.1).getD Zb),(bif more then left'1 else left')) (ai (rfl) (ai ir (ai ir (ai ir (ai ir (ai (Qny Value.bool keys (bif more then left'1 else left') (bif more then some ent else none)) (uu53:MgS (F38 base) (F38 mine) (F38 theirs) left' (bif more then left'1 else left') ((getM (F38 theirs) ent.1).getD Zb))))))))))) (fun h9=>ai (Eq.refl (MX Value.string (F38 theirs))) (ai (Eq.refl (Value.string Zb)) (ai (Eq.refl (MX Value.string (F38 base))) (ai (Eq.refl (Value.string Zb)) (ai (fun k10:(!(((getM (F38 theirs) ent.1).getD Zb).toList==((getM (F38 base) ent.1).getD Zb).toList))=true=>(Eq.refl (MX Value.string (F38 theirs)))) (ai (fun k11:(!(((getM (F38 theirs) ent.1).getD Zb).toList==((getM (F38 base) ent.1).getD Zb).toList))=true=>(Eq.refl (Value.string Zb))) (ai (fun k12:(!(((getM (F38 theirs) ent.1).getD Zb).toList==((getM (F38 base) ent.1).getD Zb).toList))=true=>(Eq.refl (MX Value.string (F38 mine)))) (ai (fun k13:(!(((getM (F38 theirs) ent.1).getD Zb).toList==((getM (F38 base) ent.1).getD Zb).toList))=true=>(Eq.refl (Value.string Zb))) (ifb (bif (!(((getM (F38 theirs) ent.1).getD Zb).toList==((getM (F38 base) ent.1).getD Zb).toList)) then (!(((getM (F38 theirs) ent.1).getD Zb).toList==((getM (F38 mine) ent.1).getD Zb).toList)) else false) (fun h14=>have _:(!(((getM (F38 theirs) ent.1).getD Zb).toList==((getM (F38 base) ent.1).getD Zb).toList))=true:=(Ue h14); have _:(!(((getM (F38 theirs) ent.1).getD Zb).toList==((getM (F38 mine) ent.1).getD Zb).toList))=true:=(Uv h14); (fun hF:(([]:List Za),2)=(F17 base mine theirs)=>ai ((Imp.nil 1 eStr).trans (Imp.of_eq (Qq (fun r:List Za×Int=>Dat.l 1 eStr r.1) hF))) (ai (Qq (fun r:List Za×Int=>(.int .i64 r.2:Value)) hF) trivial)) (condF h3 (finD hJ0_7 (finR (by exact Qye (by assumption) (by assumption) (by assumption) (by assumption) (by assumption):(Hg base mine theirs keys)=Lp.ret (([]:List Za),2)) rfl)))) (fun h14=>Exists.intro (p:=fun j:Za×ML Bool=>((.string ((getM (F38 mine) ent.1).getD Zb):Value)=.string j.1)/\(Imp (.x (MX Value.string (F38 base))) (.x (MX Value.string (F38 base))))/\(Imp (.x (MX Value.string (F38 mine))) (.x (MX Value.string (F38 mine))))/\(Imp (.x (MX Value.string (F38 theirs))) (.x (MX Value.string (F38 theirs))))/\(Imp (.l 1 eStr out1) (.l 1 eStr out1))/\(Imp (.x (IX Value.bool keys (bif more then left'1 else left') (bif more then some ent else none))) (.x (IX Value.bool keys j.2 none)))/\(fun (l:Za) (left'2:ML Bool)=>(MgS (F38 base) (F38 mine) (F38 theirs) left' left'2 l)) j.1 j.2) (((getM (F38 mine) ent.1).getD Zb),(bif more then left'1 else left')) (ai (rfl) (ai ir (ai ir (ai ir (ai ir (ai (Qny Value.bool keys (bif more then left'1 else left') (bif more then some ent else none)) (uu53:MgS (F38 base) (F38 mine) (F38 theirs) left' (bif more then left'1 else left') ((getM (F38 mine) ent.1).getD Zb))))))))))))))))))))))) (fun (j:Za×ML Bool) (hj:(fun (l:Za) (left'2:ML Bool)=>(MgS (F38 base) (F38 mine) (F38 theirs) left' left'2 l)) j.1 j.2)=>(fun (l:Za) (left'2:ML Bool) (hw4:MgS (F38 base) (F38 mine) (F38 theirs) left' left'2 l)=>ifb (!(l.toList==Zb.toList)) (fun h15=>ai (appr 1 eStr out1 [l] fun _=>rfl) (ai (uu40:(out1++[l]).length*16<=140737488355328) (Exists.intro (p:=fun j:List Za×ML Bool=>(Imp (.x (MX Value.string (F38 base))) (.x (MX Value.string (F38 base))))/\(Imp (.x (MX Value.string (F38 mine))) (.x (MX Value.string (F38 mine))))/\(Imp (.x (MX Value.string (F38 theirs))) (.x (MX Value.string (F38 theirs))))/\(Imp (.l 1 eStr (out1++[l])) (.l 1 eStr j.1))/\(Imp (.x (IX Value.bool keys left'2 none)) (.x (IX Value.bool keys j.2 none)))/\(((fun (out1:List Za) (left':ML Bool)=>(MgJ (F38 base) (F38 mine) (F38 theirs) (keys.map (·.1)) left' out1)) j.1 j.2)/\(fun (out1:List Za) (left':ML Bool)=>left'.length) j.1 j.2<(fun (out1:List Za) (left':ML Bool)=>left'.length) i1.1 i1.2)) ((out1++[l]),left'2) (ai ir (ai ir (ai ir (ai ir (ai ir (ai (uu29:MgJ (F38 base) (F38 mine) (F38 theirs) (keys.map (·.1)) left'2 (out1++[l])) (Rm (uu29:left'2.length<left'.length) hm1)))))))))) (fun h15=>Exists.intro (p:=fun j:List Za×ML Bool=>(Imp (.x (MX Value.string (F38 base))) (.x (MX Value.string (F38 base))))/\(Imp (.x (MX Value.string (F38 mine))) (.x (MX Value.string (F38 mine))))/\(Imp (.x (MX Value.string (F38 theirs))) (.x (MX Value.string (F38 theirs))))/\(Imp (.l 1 eStr out1) (.l 1 eStr j.1))/\(Imp (.x (IX Value.bool keys left'2 none)) (.x (IX Value.bool keys j.2 none)))/\(((fun (out1:List Za) (left':ML Bool)=>(MgJ (F38 base) (F38 mine) (F38 theirs) (keys.map (·.1)) left' out1)) j.1 j.2)/\(fun (out1:List Za) (left':ML Bool)=>left'.length) j.1 j.2<(fun (out1:List Za) (left':ML Bool)=>left'.length) i1.1 i1.2)) (out1,left'2) (ai ir (ai ir (ai ir (ai ir (ai ir (ai (uu29:MgJ (F38 base) (F38 mine) (F38 theirs) (keys.map (·.1)) left'2 out1) (Rm (uu29:left'2.length<left'.length) hm1))))))))) j.1 j.2 hj))))) (fun h8=>jn17_1 base mine theirs keys out1 (by exact Qxv (by assumption) (by assumption) (by assumption):(Hg base mine theirs keys)=Lp.done (F41 out1)) uu52)))) i1.1 i1.2 (Qo _) hi1))) (fun (j:List Za) (hj:Qlo base mine theirs keys j)=>(fun (out:List Za) (hJ1_17:(Hg base mine theirs keys)=Lp.done (F41 out)) (hw:Qke base mine theirs keys out)=>have _:=hw.1; kc41 out uu3 (ifd (((F41 out).length:Int)>16) (fun h18 _=>(fun hF:(([]:List Za),3)=(F17 base mine theirs)=>ai ((Imp.nil 1 eStr).trans (Imp.of_eq (Qq (fun r:List Za×Int=>Dat.l 1 eStr r.1) hF))) (ai (Qq (fun r:List Za×Int=>(.int .i64 r.2:Value)) hF) trivial)) (condF h3 (finD hJ0_7 (finD hJ1_17 (condT h18 rfl))))) (fun h18 _=>fi17 base mine theirs ((F41 out),0) (condF h3 (finD hJ0_7 (finD hJ1_17 (condF h18 rfl))))))) j hj.1 hj.2))) j hj.1 hj.2))))))))) uu1
def Js (keys:List Za) (lines:List Za):(List Za×Int)->Lp (List Za×Int) (List Za):=fun (out,i40) =>
 bif (decide (i40<(lines.length:Int))) then (bif (!(F31 out (F68 (lines.getD i40.toNat default)))) then (.next ((out++[(F68 (lines.getD i40.toNat default))]),(i40+1))) else (.next (out,(i40+1)))) else (.done (out,i40))
def F35 (keys:List Za) (lines:List Za):List Za :=
 (runL (Js keys lines) (((lines.length:Int)-0).toNat+1) ((([]:List Za)++keys),0)).fin (fun r=>r) (fun (out,i40)=>out)
abbrev Pw (keys:List Za) (lines:List Za):Nat×(List Za×Int):=((((lines.length:Int)-0).toNat+1),((([]:List Za)++keys),0))
abbrev Qks (keys:List Za) (lines:List Za) (m39:Nat) (out:List Za) (i40:Int):Prop:=Int.toNat ((lines.length:Int)-i40)<m39/\(out.length:Int)<=(keys.length:Int)+i40/\(0:Int)<=i40
abbrev Qsg (keys:List Za) (lines:List Za):Lp (List Za×Int) (List Za):=LpX (Js keys lines) (Pw keys lines)
abbrev Qaq (keys:List Za) (lines:List Za) (i:Nat×(List Za×Int)):Prop:=LpJ (Js keys lines) (Pw keys lines) i (Qks keys lines i.1 i.2.1 i.2.2)
abbrev Qvd (keys:List Za) (lines:List Za) (i:Nat×(List Za×Int)) (m39:Nat) (out:List Za) (i40:Int):Prop:=LpH (Js keys lines) (Pw keys lines) i m39 (out,i40) (Qks keys lines (m39+1) out i40)
abbrev Qva (lines:List Za) (out:List Za) (i40:Int) (out_:List Za) (i40_:Int) (K39:Prop):Prop:=((.int .i64 i40:Value)=.int .i64 i40_)/\(Im (.l 1 eStr lines))/\(Imp (.l 1 eStr out) (.l 1 eStr out_))/\K39
theorem un35_0 (keys:List Za) (lines:List Za) (i:Nat×(List Za×Int)) (h:Qaq keys lines i):Qvd keys lines i (i.1-1) i.2.1 i.2.2:=⟨hd1 h.1 h.2.1,hd3 h.2.1,hd2 h.2.1,h.2.2⟩
theorem Qry (keys:List Za) (lines:List Za) (i:Nat×(List Za×Int)) (m39:Nat) (out:List Za) (i40:Int) (hl:m39<i.1) (e:runL (Js keys lines) m39 (out,i40)=Qsg keys lines) (h:Qks keys lines m39 out i40):∃ j:Nat×(List Za×Int),Qva lines out i40 j.2.1 j.2.2 (Qaq keys lines j/\j.1<i.1):=⟨(m39,(out,i40)),rfl,Imp.refl _,Imp.refl _,⟨e,h⟩,hl⟩
theorem en35_0 (keys:List Za) (lines:List Za) (h:((([]:List Za)++keys).length:Int)<=(keys.length:Int)+0/\(0:Int)<=0):Qva lines (([]:List Za)++keys) 0 (([]:List Za)++keys) 0 (Qaq keys lines (Pw keys lines)):=⟨rfl,Imp.refl _,Imp.refl _,rfl,Qt _,h⟩
theorem fi35 (keys:List Za) (lines:List Za) (r:List Za) (hF:r=(F35 keys lines)):(Imp (.l 1 eStr r) (.l 1 eStr (F35 keys lines)))/\True:=by cases hF; exact ⟨Imp.refl _,trivial⟩
def S35 (keys:List Za) (lines:List Za):Spec:=⟨[.r (.c (.l 1 eStr keys)),.r (.c (.l 1 eStr lines))],.ow (.l 1 eStr (F35 keys lines)),keys.length<=1000/\lines.length<=1000/\(∀ k:Nat,(lines.getD k default).size<=1048576)⟩
theorem ok35 (keys:List Za) (lines:List Za):(S35 keys lines).ok Tryz.prog 35 :=
 Uf mixed (fn:=Tryz.f35) (ct:=.seqk [(0,0),(1,0)] .no (.seq (.reg [(0,.dat (.l 1 eStr ([]:List Za))),(2,.dat (.l 1 eStr (([]:List Za)++keys)))]) (.seq (.seqk [(1,0),(5,0)] .no (.blk (.loop (ι:=Nat×(List Za×Int)) (fun i=>(fun (out:List Za) (i40:Int)=>(⟨[(1,some (.h 0 0)),(5,some (.h 1 0)),(6,some (.v (vI i40)))],[(0,some (.shr none (.l 1 eStr lines))),(1,some (.own 1 (.l 1 eStr out)))],2⟩:St)) i.2.1 i.2.2) (Qaq keys lines) (fun i=>i.1) (Pw keys lines) (fun i=>(fun (out:List Za) (i40:Int)=>(.seq (.seq .no (.cond .no .no)) (.seq (.blk (.seq (.reg [(5,kh68 (lines.getD i40.toNat default)),(6,kh31 out (F68 (lines.getD i40.toNat default)))]) (.cond (.reg [(5,kh68 (lines.getD i40.toNat default)),(7,.dat (.l 1 eStr (out++[(F68 (lines.getD i40.toNat default))])))]) .no))) (.reg [(1,.bnd)])))) i.2.1 i.2.2)))) (.seq .no .no)))) Tryz.func35 (fun (hp:keys.length<=1000/\lines.length<=1000/\(∀ k:Nat,(lines.getD k default).size<=1048576))=>have hpre0:=hp.1; have hpre1:=hp.2.1; have hpre2:=hp.2.2; kn keys fun _=>kn lines fun _=>ai (bokr 1 eStr ([]:List Za) fun _=>rfl) (ai (AppL.mk eStr ([]:List Za) keys (Imp.refl (.l 1 eStr ([]:List Za))) ir (fun y=>⟨rfl,fun e he=>by simp only [eStr,Qs,Rn,T4] at he; rcases he with rfl <;> exact ⟨_,rfl⟩⟩):AppL (.l 1 eStr ([]:List Za)) (.l 1 eStr keys) 1 (.l 1 eStr (([]:List Za)++keys))) (ai (uu13:(([]:List Za)++keys).length*16<=140737488355328) (kn lines fun _=>kn (([]:List Za)++keys) fun _=>ai (en35_0 keys lines (by refine ⟨?_,?_⟩ <;> first | omega | (simp only [lens,ib] at*<;> omega) | omega | (simp only [Gp,Gc,Sa,Qk,Ty,Gd,Rj,Tm,Sm,Qx,Q6,Qy,Ro] at *; omega))) (fun (i0:Nat×(List Za×Int)) (hi0:Qaq keys lines i0)=>(fun (m0:Nat) (out:List Za) (i40:Int) (hh0:Qvd keys lines i0 m0 out i40)=>have hI0:=hh0.1; have hl0:=hh0.2.1; have _:=hh0.2.2.1; have _:=hh0.2.2.2; ifd (i40<(lines.length:Int)) (fun h2 _=>ai (uu3:ib i40 lines) (kc68 (lines.getD i40.toNat default) uu54 (kc31 out (F68 (lines.getD i40.toNat default)) (ifb (!(F31 out (F68 (lines.getD i40.toNat default)))) (fun h3=>ai (uu3:ib i40 lines) (kc68 (lines.getD i40.toNat default) uu54 (ai (appr 1 eStr out [(F68 (lines.getD i40.toNat default))] fun _=>rfl) (ai (uu13:(out++[(F68 (lines.getD i40.toNat default))]).length*16<=140737488355328) (ai (iok (i40+1) uu3) (Qry keys lines i0 m0 (out++[(F68 (lines.getD i40.toNat default))]) (i40+1) hl0 (Ub hI0 (condT h2 (condT h3 rfl))) uu39)))))) (fun h3=>ai (iok (i40+1) uu3) (Qry keys lines i0 m0 out (i40+1) hl0 (Ub hI0 (condT h2 (condF h3 rfl))) uu39)))))) (fun h2 _=>have hD0_4:Qsg keys lines=Lp.done (out,i40):=Ui hI0 (condF h2 rfl); fi35 keys lines out (finD hD0_4 rfl))) (i0.1-1) i0.2.1 i0.2.2 (un35_0 keys lines i0 hi0)))))) uu1
def F36 (b:Za) (m:Za) (t:Za):Za×Bool :=
 bif (m.toList==b.toList) then (t,true) else (bif (bif (t.toList==b.toList) then true else (t.toList==m.toList)) then (m,true) else (Zb,false))
theorem fi36 (b:Za) (m:Za) (t:Za) (r:Za×Bool) (hF:r=(F36 b m t)):((.string r.1:Value)=.string (F36 b m t).1)/\((.bool r.2:Value)=.bool (F36 b m t).2)/\True:=by cases hF; exact ⟨rfl,rfl,trivial⟩
def S36 (b:Za) (m:Za) (t:Za):Spec:=⟨[.r (.c (.v (.string b))),.r (.c (.v (.string m))),.r (.c (.v (.string t)))],.tu [.v (.string (F36 b m t).1),.v (.bool (F36 b m t).2)],True⟩
theorem ok36 (b:Za) (m:Za) (t:Za):(S36 b m t).ok Tryz.prog 36 :=
 Uf mixed (fn:=Tryz.f36) (ct:=.seq .no (.seq (.blk (.seq .no (.cond (.seq .no .no) (.seq .no (.cond (.seq .no .no) .no))))) (.seq .no .no))) Tryz.func36 (fun (_:True)=>ifb (m.toList==b.toList) (fun h1=>fi36 b m t (t,true) (condT h1 rfl)) (fun h1=>ifb (bif (t.toList==b.toList) then true else (t.toList==m.toList)) (fun h2=>fi36 b m t (m,true) (condF h1 (condT h2 rfl))) (fun h2=>have _:=(orF1 h2); have _:=(orF2 h2); fi36 b m t (Zb,false) (condF h1 (condF h2 rfl))))) uu1
theorem Quo (keys lines:List Za):(F35 keys lines).length<=keys.length+lines.length:=by
 unfold F35
 have h:=Yq (step:=Js keys lines) (fun (k:Nat) (s:List Za)=>(s,(k:Int))) lines.length (fun k s=>s.length<=keys.length+k) (fun _=>False)
  (fun k s hk hs=>.inl (by
   simp only [Js,ltD hk,Qe,nn]
   cases F31 s (F68 (lines.getD k default))
   ·exact ⟨_,rfl,by rw [Q6,List.length_singleton]; omega⟩
   ·exact ⟨_,rfl,by omega⟩))
  (fun s hs=>by simp only [Js,geD,Qj]) lines.length 0 (([]:List Za)++keys) uu0 uu11 (Int.toNat ((lines.length:Int)-0)+1) uu0
 rcases h with ⟨s',e1,h1⟩ | ⟨_,_,hr⟩
 ·rw [show ((([]:List Za)++keys,(0:Int)))=((([]:List Za)++keys),((0:Nat):Int)) from rfl,e1]
  exact h1
 ·exact hr.elim
theorem Qcu {a b c:List Za} (h:(bif (bif (F23 a != 0) then true else (F23 b != 0)) then true else (F23 c != 0))=false):a.length<=16/\b.length<=16/\c.length<=16:=by
 cases h1:(F23 a != 0) with
 | true=>rw [h1] at h; cases h
 | false =>
  rw [h1,Qj] at h
  cases h2:(F23 b != 0) with
  | true=>rw [h2] at h; cases h
  | false =>
   rw [h2,Qj] at h
   exact ⟨Et a (by simpa using h1),Et b (by simpa using h2),Et c (by simpa using h)⟩
theorem Qlw {b m t:Za} {n:Nat} (hm:m.size<=n) (ht:t.size<=n):(F36 b m t).1.size<=n:=by
 unfold F36
 cases (m.toList==b.toList)
 ·cases (bif (t.toList==b.toList) then true else (t.toList==m.toList))
  ·exact Rk _
  ·exact hm
 ·exact ht
theorem Qxu (keys:List Za) (lines:List Za) {K_:Prop} (p0_:keys.length<=1000) (p1_:lines.length<=1000) (p2_:∀ k:Nat,(lines.getD k default).size<=1048576) (k_:((F35 keys lines).length<=keys.length+lines.length)->K_):(keys.length<=1000/\lines.length<=1000/\(∀ k:Nat,(lines.getD k default).size<=1048576))/\(Imp (.l 1 eStr keys) (.l 1 eStr keys))/\(Imp (.l 1 eStr lines) (.l 1 eStr lines))/\K_:=⟨⟨p0_,p1_,p2_⟩,Imp.refl _,Imp.refl _,k_ (Quo keys lines)⟩
abbrev Qwp (keys:List Za) (lines:List Za):Hint true Tryz.prog:=.call 35 (S35 keys lines) (ok35 keys lines) none
theorem kc29 (lines:List Za) (key:Za) {K_:Prop} (p0_:∀ k:Nat,(lines.getD k default).size<=1048576) (k_:K_):(∀ k:Nat,(lines.getD k default).size<=1048576)/\(Imp (.l 1 eStr lines) (.l 1 eStr lines))/\(Imp (.v (.string key)) (.v (.string key)))/\K_:=⟨p0_,Imp.refl _,Imp.refl _,k_⟩
abbrev kh29 (lines:List Za) (key:Za):Hint true Tryz.prog:=.call 29 (S29 lines key) (ok29 lines key) none
theorem kc36 (b:Za) (m:Za) (t:Za) {K_:Prop} (k_:K_):(True)/\(Imp (.v (.string b)) (.v (.string b)))/\(Imp (.v (.string m)) (.v (.string m)))/\(Imp (.v (.string t)) (.v (.string t)))/\K_:=⟨trivial,Imp.refl _,Imp.refl _,Imp.refl _,k_⟩
abbrev kh36 (b:Za) (m:Za) (t:Za):Hint true Tryz.prog:=.call 36 (S36 b m t) (ok36 b m t) none
theorem kc37 (lines:List Za) (line:Za) {K_:Prop} (p0_:lines.length<=1048576) (p1_:∀ k:Nat,(lines.getD k default).size<=1048576) (q0_:∀ k:Nat,(lines.getD k default).size<=1048576) (q1_:line.size<=1048576) (k_:((F37 lines line).length=lines.length+1)->(∀ k:Nat,((F37 lines line).getD k default).size<=1048576)->K_):(lines.length<=1048576/\(∀ k:Nat,(lines.getD k default).size<=1048576))/\(Imp (.l 1 eStr lines) (.l 1 eStr lines))/\(Imp (.v (.string line)) (.v (.string line)))/\K_:=⟨⟨p0_,p1_⟩,Imp.refl _,Imp.refl _,k_ (Qgm lines line) (put_sz lines line q0_ q1_)⟩
abbrev kh37 (lines:List Za) (line:Za):Hint true Tryz.prog:=.call 37 (S37 lines line) (ok37 lines line) none
def Vq (base:List Za) (mine:List Za) (theirs:List Za):(List Za×Int)->Lp (List Za×Int) (List Za×Int):=fun (out,i40) =>
 bif (decide (i40<((F35 (F35 (F35 ([]:List Za) base) mine) theirs).length:Int))) then (bif (!(F36 (F29 base ((F35 (F35 (F35 ([]:List Za) base) mine) theirs).getD i40.toNat default)) (F29 mine ((F35 (F35 (F35 ([]:List Za) base) mine) theirs).getD i40.toNat default)) (F29 theirs ((F35 (F35 (F35 ([]:List Za) base) mine) theirs).getD i40.toNat default))).2) then (.ret (([]:List Za),2)) else (bif (!((F36 (F29 base ((F35 (F35 (F35 ([]:List Za) base) mine) theirs).getD i40.toNat default)) (F29 mine ((F35 (F35 (F35 ([]:List Za) base) mine) theirs).getD i40.toNat default)) (F29 theirs ((F35 (F35 (F35 ([]:List Za) base) mine) theirs).getD i40.toNat default))).1.toList==Zb.toList)) then (.next ((F37 out (F36 (F29 base ((F35 (F35 (F35 ([]:List Za) base) mine) theirs).getD i40.toNat default)) (F29 mine ((F35 (F35 (F35 ([]:List Za) base) mine) theirs).getD i40.toNat default)) (F29 theirs ((F35 (F35 (F35 ([]:List Za) base) mine) theirs).getD i40.toNat default))).1),(i40+1))) else (.next (out,(i40+1))))) else (.done (out,i40))
def F16 (base:List Za) (mine:List Za) (theirs:List Za):List Za×Int :=
 bif (bif (bif ((F23 base) != 0) then true else ((F23 mine) != 0)) then true else ((F23 theirs) != 0)) then (([]:List Za),1) else ((runL (Vq base mine theirs) ((((F35 (F35 (F35 ([]:List Za) base) mine) theirs).length:Int)-0).toNat+1) (([]:List Za),0)).fin (fun r=>r) (fun (out,i40)=>bif (decide ((out.length:Int)>16)) then (([]:List Za),3) else (out,0)))
abbrev Er (base:List Za) (mine:List Za) (theirs:List Za):Nat×(List Za×Int):=(((((F35 (F35 (F35 ([]:List Za) base) mine) theirs).length:Int)-0).toNat+1),(([]:List Za),0))
abbrev Qli (base:List Za) (mine:List Za) (theirs:List Za) (m39:Nat) (out:List Za) (i40:Int):Prop:=Int.toNat (((F35 (F35 (F35 ([]:List Za) base) mine) theirs).length:Int)-i40)<m39/\(out.length:Int)<=i40/\(∀ k:Nat,(out.getD k default).size<=1048576)/\(0:Int)<=i40
abbrev Qun (base:List Za) (mine:List Za) (theirs:List Za):Lp (List Za×Int) (List Za×Int):=LpX (Vq base mine theirs) (Er base mine theirs)
abbrev Pz (base:List Za) (mine:List Za) (theirs:List Za) (i:Nat×(List Za×Int)):Prop:=LpJ (Vq base mine theirs) (Er base mine theirs) i (Qli base mine theirs i.1 i.2.1 i.2.2)
abbrev Qsk (base:List Za) (mine:List Za) (theirs:List Za) (i:Nat×(List Za×Int)) (m39:Nat) (out:List Za) (i40:Int):Prop:=LpH (Vq base mine theirs) (Er base mine theirs) i m39 (out,i40) (Qli base mine theirs (m39+1) out i40)
abbrev Qvc (base:List Za) (mine:List Za) (theirs:List Za) (out:List Za) (i40:Int) (out_:List Za) (i40_:Int) (K39:Prop):Prop:=((.int .i64 i40:Value)=.int .i64 i40_)/\(Im (.l 1 eStr base))/\(Im (.l 1 eStr mine))/\(Im (.l 1 eStr theirs))/\(Im (.l 1 eStr (F35 (F35 (F35 ([]:List Za) base) mine) theirs)))/\(Imp (.l 1 eStr out) (.l 1 eStr out_))/\K39
theorem un16_0 (base:List Za) (mine:List Za) (theirs:List Za) (i:Nat×(List Za×Int)) (h:Pz base mine theirs i):Qsk base mine theirs i (i.1-1) i.2.1 i.2.2:=⟨hd1 h.1 h.2.1,hd3 h.2.1,hd2 h.2.1,h.2.2⟩
theorem Qrv (base:List Za) (mine:List Za) (theirs:List Za) (i:Nat×(List Za×Int)) (m39:Nat) (out:List Za) (i40:Int) (hl:m39<i.1) (e:runL (Vq base mine theirs) m39 (out,i40)=Qun base mine theirs) (h:Qli base mine theirs m39 out i40):∃ j:Nat×(List Za×Int),Qvc base mine theirs out i40 j.2.1 j.2.2 (Pz base mine theirs j/\j.1<i.1):=⟨(m39,(out,i40)),rfl,Imp.refl _,Imp.refl _,Imp.refl _,Imp.refl _,Imp.refl _,⟨e,h⟩,hl⟩
theorem en16_0 (base:List Za) (mine:List Za) (theirs:List Za) (h:(([]:List Za).length:Int)<=0/\(∀ k:Nat,(([]:List Za).getD k default).size<=1048576)/\(0:Int)<=0):Qvc base mine theirs ([]:List Za) 0 ([]:List Za) 0 (Pz base mine theirs (Er base mine theirs)):=⟨rfl,Imp.refl _,Imp.refl _,Imp.refl _,Imp.refl _,Imp.refl _,rfl,Qt _,h⟩
theorem fi16 (base:List Za) (mine:List Za) (theirs:List Za) (r:List Za×Int) (hF:r=(F16 base mine theirs)):(Imp (.l 1 eStr r.1) (.l 1 eStr (F16 base mine theirs).1))/\((.int .i64 r.2:Value)=.int .i64 (F16 base mine theirs).2)/\True:=by cases hF; exact ⟨Imp.refl _,rfl,trivial⟩
def S16 (base:List Za) (mine:List Za) (theirs:List Za):Spec:=⟨[.r (.c (.l 1 eStr base)),.r (.c (.l 1 eStr mine)),.r (.c (.l 1 eStr theirs))],.tu [.ow (.l 1 eStr (F16 base mine theirs).1),.v (vI (F16 base mine theirs).2)],base.length<=1048576/\mine.length<=1048576/\theirs.length<=1048576/\(∀ k:Nat,(base.getD k default).size<=1048576)/\(∀ k:Nat,(mine.getD k default).size<=1048576)/\(∀ k:Nat,(theirs.getD k default).size<=1048576)⟩
theorem ok16 (base:List Za) (mine:List Za) (theirs:List Za):(S16 base mine theirs).ok Tryz.prog 16 :=
 Uf mixed (fn:=Tryz.f16) (ct:=.seqk [(0,0),(1,0),(2,0)] .no (.seq (.seq (.reg [(1,kh23 base),(5,kh23 mine),(10,kh23 theirs)]) (.cond (.seq (.reg [(0,.dat (.l 1 eStr ([]:List Za)))]) .no) .no)) (.seq (.reg [(0,.dat (.l 1 eStr ([]:List Za))),(2,Qwp ([]:List Za) base),(4,Qwp (F35 ([]:List Za) base) mine),(6,Qwp (F35 (F35 ([]:List Za) base) mine) theirs)]) (.seq (.reg [(0,.dat (.l 1 eStr ([]:List Za)))]) (.seq (.seqk [(0,0),(1,0),(2,0),(8,0),(9,0)] .no (.blk (.loop (ι:=Nat×(List Za×Int)) (fun i=>(fun (out:List Za) (i40:Int)=>(⟨[(0,some (.h 0 0)),(1,some (.h 1 0)),(2,some (.h 2 0)),(8,some (.h 3 0)),(9,some (.h 4 0)),(10,some (.v (vI i40)))],[(0,some (.shr none (.l 1 eStr base))),(1,some (.shr none (.l 1 eStr mine))),(2,some (.shr none (.l 1 eStr theirs))),(3,some (.own 3 (.l 1 eStr (F35 (F35 (F35 ([]:List Za) base) mine) theirs)))),(4,some (.own 4 (.l 1 eStr out)))],5⟩:St)) i.2.1 i.2.2) (Pz base mine theirs) (fun i=>i.1) (Er base mine theirs) (fun i=>(fun (out:List Za) (i40:Int)=>(.seq (.seq .no (.cond .no .no)) (.seq (.blk (.seq (.reg [(5,kh29 base ((F35 (F35 (F35 ([]:List Za) base) mine) theirs).getD i40.toNat default)),(11,kh29 mine ((F35 (F35 (F35 ([]:List Za) base) mine) theirs).getD i40.toNat default)),(17,kh29 theirs ((F35 (F35 (F35 ([]:List Za) base) mine) theirs).getD i40.toNat default)),(18,kh36 (F29 base ((F35 (F35 (F35 ([]:List Za) base) mine) theirs).getD i40.toNat default)) (F29 mine ((F35 (F35 (F35 ([]:List Za) base) mine) theirs).getD i40.toNat default)) (F29 theirs ((F35 (F35 (F35 ([]:List Za) base) mine) theirs).getD i40.toNat default)))]) (.seq (.seq .no (.cond (.seq (.reg [(0,.dat (.l 1 eStr ([]:List Za)))]) .no) .no)) (.seq .no (.cond (.reg [(2,kh37 out (F36 (F29 base ((F35 (F35 (F35 ([]:List Za) base) mine) theirs).getD i40.toNat default)) (F29 mine ((F35 (F35 (F35 ([]:List Za) base) mine) theirs).getD i40.toNat default)) (F29 theirs ((F35 (F35 (F35 ([]:List Za) base) mine) theirs).getD i40.toNat default))).1)]) .no))))) (.reg [(1,.bnd)])))) i.2.1 i.2.2)))) (.seq (.seq .no (.cond (.seq (.reg [(0,.dat (.l 1 eStr ([]:List Za)))]) .no) .no)) (.seq .no .no))))))) Tryz.func16 (fun (hp:base.length<=1048576/\mine.length<=1048576/\theirs.length<=1048576/\(∀ k:Nat,(base.getD k default).size<=1048576)/\(∀ k:Nat,(mine.getD k default).size<=1048576)/\(∀ k:Nat,(theirs.getD k default).size<=1048576))=>have hpre0:=hp.1; have hpre1:=hp.2.1; have hpre2:=hp.2.2.1; have hpre3:=hp.2.2.2.1; have hpre4:=hp.2.2.2.2.1; have hpre5:=hp.2.2.2.2.2; kn base fun _=>kn mine fun _=>kn theirs fun _=>kc23 base uu8 (kg23 ((F23 base) != 0) false mine (fun k1=>have _:=bneF k1; uu8) (kg23 (bif ((F23 base) != 0) then true else ((F23 mine) != 0)) false theirs (fun k2=>have _:=bneF (orF1 k2); have _:=bneF (orF2 k2); uu8) (ifb (bif (bif ((F23 base) != 0) then true else ((F23 mine) != 0)) then true else ((F23 theirs) != 0)) (fun h3=>ai (bokr 1 eStr ([]:List Za) fun _=>rfl) (fi16 base mine theirs (([]:List Za),1) (condT h3 rfl))) (fun h3=>have _:=bneF (orF1 (orF1 h3)); have _:=bneF (orF2 (orF1 h3)); have _:=bneF (orF2 h3); ai (bokr 1 eStr ([]:List Za) fun _=>rfl) (Qxu ([]:List Za) base uu8 uu8 uu8 (fun gv4=>Qxu (F35 ([]:List Za) base) mine uu8 uu8 uu8 (fun gv5=>Qxu (F35 (F35 ([]:List Za) base) mine) theirs uu8 uu8 uu8 (fun gv6=>ai (bokr 1 eStr ([]:List Za) fun _=>rfl) (kn base fun _=>kn mine fun _=>kn theirs fun _=>kn (F35 (F35 (F35 ([]:List Za) base) mine) theirs) fun _=>kn ([]:List Za) fun _=>ai (en16_0 base mine theirs (by refine ⟨?_,?_,?_⟩ <;> first | omega | (simp only [lens,ib] at*<;> omega) | exact Qui | assumption | exact put_szN (by assumption) (Qlw (Qbl _ _ (by assumption)) (Qbl _ _ (by assumption))) | (simp only [Qgm] at *; omega))) (fun (i0:Nat×(List Za×Int)) (hi0:Pz base mine theirs i0)=>(fun (m0:Nat) (out:List Za) (i40:Int) (hh0:Qsk base mine theirs i0 m0 out i40)=>have hI0:=hh0.1; have hl0:=hh0.2.1; have _:=hh0.2.2.1; have _:=hh0.2.2.2.1; have _:=hh0.2.2.2.2.1; have _:=hh0.2.2.2.2.2; ifd (i40<((F35 (F35 (F35 ([]:List Za) base) mine) theirs).length:Int)) (fun h8 _=>ai (uu0:ib i40 (F35 (F35 (F35 ([]:List Za) base) mine) theirs)) (kc29 base ((F35 (F35 (F35 ([]:List Za) base) mine) theirs).getD i40.toNat default) uu8 (ai (uu0:ib i40 (F35 (F35 (F35 ([]:List Za) base) mine) theirs)) (kc29 mine ((F35 (F35 (F35 ([]:List Za) base) mine) theirs).getD i40.toNat default) uu8 (ai (uu0:ib i40 (F35 (F35 (F35 ([]:List Za) base) mine) theirs)) (kc29 theirs ((F35 (F35 (F35 ([]:List Za) base) mine) theirs).getD i40.toNat default) uu8 (kc36 (F29 base ((F35 (F35 (F35 ([]:List Za) base) mine) theirs).getD i40.toNat default)) (F29 mine ((F35 (F35 (F35 ([]:List Za) base) mine) theirs).getD i40.toNat default)) (F29 theirs ((F35 (F35 (F35 ([]:List Za) base) mine) theirs).getD i40.toNat default)) (ifb (!(F36 (F29 base ((F35 (F35 (F35 ([]:List Za) base) mine) theirs).getD i40.toNat default)) (F29 mine ((F35 (F35 (F35 ([]:List Za) base) mine) theirs).getD i40.toNat default)) (F29 theirs ((F35 (F35 (F35 ([]:List Za) base) mine) theirs).getD i40.toNat default))).2) (fun h9=>have _:=(Wt h9); ai (bokr 1 eStr ([]:List Za) fun _=>rfl) (fi16 base mine theirs (([]:List Za),2) (condF h3 (finR (Uq hI0 (condT h8 (condT h9 rfl))) rfl)))) (fun h9=>have _:=(Yh h9); ifb (!((F36 (F29 base ((F35 (F35 (F35 ([]:List Za) base) mine) theirs).getD i40.toNat default)) (F29 mine ((F35 (F35 (F35 ([]:List Za) base) mine) theirs).getD i40.toNat default)) (F29 theirs ((F35 (F35 (F35 ([]:List Za) base) mine) theirs).getD i40.toNat default))).1.toList==Zb.toList)) (fun h10=>kc37 out (F36 (F29 base ((F35 (F35 (F35 ([]:List Za) base) mine) theirs).getD i40.toNat default)) (F29 mine ((F35 (F35 (F35 ([]:List Za) base) mine) theirs).getD i40.toNat default)) (F29 theirs ((F35 (F35 (F35 ([]:List Za) base) mine) theirs).getD i40.toNat default))).1 uu8 uu8 uu8 uu8 (fun gv11 gv12=>ai (iok (i40+1) uu0) (Qrv base mine theirs i0 m0 (F37 out (F36 (F29 base ((F35 (F35 (F35 ([]:List Za) base) mine) theirs).getD i40.toNat default)) (F29 mine ((F35 (F35 (F35 ([]:List Za) base) mine) theirs).getD i40.toNat default)) (F29 theirs ((F35 (F35 (F35 ([]:List Za) base) mine) theirs).getD i40.toNat default))).1) (i40+1) hl0 (Ub hI0 (condT h8 (condF h9 (condT h10 rfl)))) uu55))) (fun h10=>ai (iok (i40+1) uu0) (Qrv base mine theirs i0 m0 out (i40+1) hl0 (Ub hI0 (condT h8 (condF h9 (condF h10 rfl)))) uu55))))))))))) (fun h8 _=>have hD0_13:Qun base mine theirs=Lp.done (out,i40):=Ui hI0 (condF h8 rfl); ifd ((out.length:Int)>16) (fun h14 _=>ai (bokr 1 eStr ([]:List Za) fun _=>rfl) (fi16 base mine theirs (([]:List Za),3) (condF h3 (finD hD0_13 (condT h14 rfl))))) (fun h14 _=>fi16 base mine theirs (out,0) (condF h3 (finD hD0_13 (condF h14 rfl)))))) (i0.1-1) i0.2.1 i0.2.2 (un16_0 base mine theirs i0 hi0)))))))))))) uu1
theorem Qec {p:Nat->Bool}:∀ (m i:Nat),anyF p i m=false->∀ k,i<=k->k<i+m->p k=false
 | 0,i,_,k,h1,h2=>by omega
 | m+1,i,h,k,h1,h2=>by
  rw [anyF,Ty] at h
  rcases Nat.eq_or_lt_of_le h1 with rfl | hlt
  ·exact h.1
  ·exact Qec m (i+1) h.2 k hlt uu0
theorem Qqq (lines:List Za) (h:F23 lines=0):(lines.map F68).Nodup:=by
 have hk:=(Qhv lines h).2
 unfold F23 at h
 cases h16:decide ((lines.length:Int)>16) with
 | true=>rw [h16,Qe] at h; exact absurd h uu2
 | false =>
 rw [h16,Qj] at h
 have h0:=fun (f:Int->Int) (g:Int->Int) (y:Int) (hg:∀ i,g i=y)=>anyL lines (fun l=>!F98 l) (2:Int) (Ww lines) (fun i hi=>by
  simp only [Ww,ltD hi,Qe,nn,Qbc _ _ _ hi,My]
  rfl) uu37 f g y hg
 have hany:(lines.any fun l=>!F98 l)=false:=by
  rw [Sk]
  intro hc
  obtain ⟨x,hx,hp⟩:=R5.1 hc
  rw [hk x hx] at hp
  cases hp
 rw [h0 (fun r=>r) _ _ (fun _=>rfl),hany,Qj] at h
 have h3:(runL (Kh lines) ((Int.toNat ((lines.length:Int)-0))+1) 0).fin (fun r=>r) (fun i42=>0)=0:=by
  rcases Nat.eq_zero_or_pos lines.length with hz | hz
  ·have:lines=[]:=Ru hz
   subst this; rfl
  ·have h1:=fun (y:Int)=>Ku (Ju lines) lines.length (fun k=>(!(Op.bytesLess (lines.getD (k-1) default).toList (lines.getD k default).toList))) (3:Int) (fun r=>r) y (fun k hk=>by
    simp only [Ju,ltD hk,Qe,nn]
    rw [show Int.toNat ((k:Int)-1)=k-1 by omega]; rfl) (by simp only [Ju,geD,Qj]) (lines.length-1) 1 uu0 (Int.toNat ((lines.length:Int)-1)+1) uu0
   have h2:=h1 ((runL (Kh lines) ((Int.toNat ((lines.length:Int)-0))+1) 0).fin (fun r=>r) (fun i42=>0))
   have h3:=h2.symm.trans h
   cases ha:anyF (fun k=>(!(Op.bytesLess (lines.getD (k-1) default).toList (lines.getD k default).toList))) 1 (lines.length-1) with
   | true=>rw [ha,Qe] at h3; exact absurd h3 uu2
   | false=>rw [ha,Qj] at h3; exact h3
 have h4:=Ku (Kh lines) lines.length (fun k=>decide ((lines.map F68).getD k default∈(lines.map F68).take k)) (4:Int) (fun r=>r) (0:Int) (fun i hi=>by
  simp only [Kh,ltD hi,Qe,nn,Xs]; rfl) (by simp only [Kh,geD,Qj]) lines.length 0 uu0 (Int.toNat ((lines.length:Int)-0)+1) uu0
 have h5:=h4.symm.trans h3
 cases hb:anyF (fun k=>decide ((lines.map F68).getD k default∈(lines.map F68).take k)) 0 lines.length with
 | true=>rw [hb,Qe] at h5; exact absurd h5 uu2
 | false =>
  refine Tc.2 fun i j hi hj hij e=>?_
  have hj':j<lines.length:=by simpa using hj
  have:=Q2 (Qec _ _ hb j (Rk _) uu0)
  refine this ?_
  rw [Qb,Qc hj,R7,<- e]
  exact List.mem_take_iff_getElem.2 ⟨i,by omega,rfl⟩
theorem Qba {α σ ρ τ ω:Type} [Inhabited α] (xs:List α) (bad:α->Bool) (rv:ρ) (upd:σ->α->σ) (emb:σ->Int->ω) (step:ω->Lp ω ρ)
  (h1:∀ (i:Nat) (s:σ),i<xs.length->step (emb s (i:Int))=bif bad (xs.getD i default) then .ret rv else .next (emb (upd s (xs.getD i default)) ((i+1:Nat):Int))) (h2:∀ s:σ,step (emb s (xs.length:Int))=.done (emb s (xs.length:Int)))
  (f:ρ->τ) (g:ω->τ):∀ (m i:Nat) (s:σ),i+m=xs.length->∀ fuel,m<fuel->(runL step fuel (emb s (i:Int))).fin f g=bif (xs.drop i).any bad then f rv else g (emb ((xs.drop i).foldl upd s) (xs.length:Int))
 | m,i,_,_,0,hf=>absurd hf (Si _)
 | 0,i,s,h,fuel+1,hf=>by
  obtain rfl:i=xs.length:=by omega
  rw [Ki _ (h2 s),Q8 (Qo _)]; rfl
 | m+1,i,s,h,fuel+1,hf=>by
  have hd:xs.drop i=xs.getD i default :: xs.drop (i+1):=by
   rw [Ri (show i<xs.length by omega),Qb,Qc (show i<xs.length by omega)]; rfl
  have h1':=h1 i s uu0
  rw [hd,Ga,Su]
  cases hb:bad (xs.getD i default) with
  | true=>rw [hb,Qe] at h1'; rw [Wv _ h1']; rfl
  | false=>rw [hb,Qj] at h1'; rw [Yv _ h1',Qba xs bad rv upd emb step h1 h2 f g m (i+1) _ uu0 fuel uu0,Gz]
theorem Qhi {α σ ρ τ ω:Type} [Inhabited α] (xs:List α) (bad:α->Bool) (rv:ρ) (upd:σ->α->σ) (emb:σ->Int->ω) (step:ω->Lp ω ρ)
  (h1:∀ (i:Nat) (s:σ),i<xs.length->step (emb s (i:Int))=bif bad (xs.getD i default) then .ret rv else .next (emb (upd s (xs.getD i default)) ((i+1:Nat):Int))) (h2:∀ s:σ,step (emb s (xs.length:Int))=.done (emb s (xs.length:Int)))
  (f:ρ->τ) (g:ω->τ) (s:σ):(runL step (((xs.length:Int)-0).toNat+1) (emb s 0)).fin f g=bif xs.any bad then f rv else g (emb (xs.foldl upd s) (xs.length:Int)):=by
 have:=Qba xs bad rv upd emb step h1 h2 f g xs.length 0 s uu0 (Int.toNat ((xs.length:Int)-0)+1) uu0
 rw [R6] at this
 exact this
theorem Qsn (lines:List Za):F38 lines=lines.foldl (fun (m:ML Za) l=>putM m (F68 l) l) []:=by
 unfold F38
 exact Jj lines (fun (m:ML Za) l=>putM m (F68 l) l) (fun m i=>(i,m)) (Xt lines) (fun i s hi=>by
  simp only [Xt,ltD hi,Qe,nn,Qat]; rfl) (fun s=>by simp only [Xt,geD,Qj]) (fun r=>r) (fun (x:Int×ML Za)=>x.2) []
def Jp (a b c:List Za):List Za:=((((a++b)++c).map F68).foldl insK [])
theorem Qvr (a b c:List Za):∃ ms:ML Bool,Qcc a b c=Lp.done ms/\ms.map (·.1)=Jp a b c:=by
 refine ⟨((a++b)++c).foldl (fun (m:ML Bool) l=>putM m (F68 l) true) [],?_,?_⟩
 ·exact Jj ((a++b)++c) (fun (m:ML Bool) l=>putM m (F68 l) true) (fun m i=>(i,m)) (Xw a b c) (fun i s hi=>by
   simp only [Xw,ltD hi,Qe,nn,Qat]; rfl) (fun s=>by simp only [Xw,geD,Qj]) Lp.ret (fun (x:Int×ML Bool)=>Lp.done x.2) ([]:ML Bool)
 ·exact Hk F68 (fun _=>true) _ []
theorem Mp (keys lines:List Za):F35 keys lines=(lines.map F68).foldl insK keys:=by
 unfold F35
 rw [List.foldl_map]
 exact Jj lines (fun (s:List Za) l=>insK s (F68 l)) (fun s i=>(s,i)) (Js keys lines) (fun i s hi=>by
  simp only [Js,ltD hi,Qe,nn,Xs]
  unfold insK
  by_cases hm:F68 (lines.getD i default)∈s
  ·rw [Qr hm,if_pos hm]; rfl
  ·rw [Qp hm,if_neg hm]; rfl) (fun s=>by simp only [Js,geD,Qj]) (fun r=>r) (fun (x:List Za×Int)=>x.1) ([]++keys)
theorem Qbg (a b c:List Za):F35 (F35 (F35 [] a) b) c=Jp a b c:=by
 rw [Mp,Mp,Mp]
 unfold Jp
 rw [Tn,Tn,List.foldl_append,List.foldl_append]
theorem Qdu {α:Type}:∀ (m:ML α) (s k:Za) (x:α),getM (putM m s x) k=if s=k then some x else getM m k
 | [],s,k,x=>rfl
 | p :: m,s,k,x=>by
  rw [putM]
  by_cases h:p.1=s
  ·rw [if_pos h,getM,getM,h]
   by_cases h2:s=k
   ·rw [if_pos h2,if_pos h2]
   ·rw [if_neg h2,if_neg h2,if_neg h2]
  ·rw [if_neg h,getM,getM,Qdu m s k x]
   by_cases h2:p.1=k
   ·rw [if_pos h2,if_pos h2,if_neg (fun e=>h (h2.trans e.symm))]
   ·rw [if_neg h2,if_neg h2]
theorem Qdh (f:Za->Za) (k:Za):∀ (ls:List Za) (m:ML Za),(ls.map f).Nodup->getM (ls.foldl (fun m l=>putM m (f l) l) m) k=(ls.find? fun l=>decide (f l=k)).or (getM m k)
 | [],m,_=>rfl
 | l :: ls,m,h=>by
  rw [Rc,Qz] at h
  rw [Su,Qdh f k ls _ h.2,Qdu,List.find?_cons]
  by_cases hk:f l=k
  ·rw [if_pos hk,Qr hk]
   have hn:ls.find? (fun l=>decide (f l=k))=none:=List.find?_eq_none.2 fun x hx hd=>by
    rw [Rj] at hd
    exact h.1 (hk ▸ hd ▸ Sr.2 ⟨x,hx,rfl⟩)
   rw [hn]; rfl
  ·rw [if_neg hk,Qp hk]
theorem Qre (p:Za->Bool) (xs:List Za) (z:Za):(bif decide (idxI p xs<0) then z else xs.getD (idxI p xs).toNat default)=(xs.find? p).getD z:=by
 by_cases h:idxI p xs<0
 ·rw [Qr h,Qe]
  have h1:=first_none.1 (oix_neg.1 h)
  rw [List.find?_eq_none.2 fun x hx=>?_]
  ·rfl
  ·obtain ⟨i,hi,rfl⟩:=List.mem_iff_getElem.1 hx
   have:=h1 i hi
   rw [Qb,Qc hi] at this
   simpa using this
 ·rw [Qp h,Qj]
  have h1:=first_some.1 (Qhy h)
  have hlt:(idxI p xs).toNat<xs.length:=h1.1
  have hp:p (xs.getD (idxI p xs).toNat default)=true:=h1.2.1
  have hn:∀ j,j<(idxI p xs).toNat->p (xs.getD j default)=false:=h1.2.2
  have hs:xs.find? p=some (xs.getD (idxI p xs).toNat default):=by
   rw [List.find?_eq_some_iff_getElem]
   rw [Qb,Qc hlt] at hp ⊢
   refine ⟨hp,(idxI p xs).toNat,hlt,rfl,fun j hj=>?_⟩
   have:=hn j hj
   rw [Qb,Qc (Nat.lt_trans hj hlt)] at this
   simpa using this
  rw [hs]; rfl
theorem Qst (lines:List Za) (k:Za) (h:F23 lines=0):atM (F38 lines) k=F29 lines k:=by
 unfold atM
 rw [Qsn,Qdh _ _ _ _ (Qqq lines h)]
 unfold F29
 rw [Qpc,Qre]
 have e:(fun l:Za=>(F68 l).toList==k.toList)=fun l=>decide (F68 l=k):=funext fun l=>Mv _ _
 rw [e]
 cases lines.find? (fun l=>decide (F68 l=k)) <;> rfl
theorem one_mg (B M T:ML Za) (k:Za):(!(F36 (atM B k) (atM M k) (atM T k)).2)=Wc B M T k/\(Wc B M T k=false->(F36 (atM B k) (atM M k) (atM T k)).1=Zv B M T k):=by
 unfold F36 Wc Zv
 rw [Vg,Vg,Vg]
 cases (atM M k==atM B k) <;> cases (atM T k==atM B k) <;> cases (atM T k==atM M k) <;> first | exact ⟨rfl,fun _=>rfl⟩ | exact ⟨rfl,fun h=>by cases h⟩
def LeB (xs:List Za):Prop:=xs.Pairwise fun a b=>ltB b a=false
theorem le_trB {a b c:Za} (h1:ltB b a=false) (h2:ltB c b=false):ltB c a=false:=by
 rw [Sk,ne_eq,Bh] at *
 exact List.not_lt.2 (List.le_trans (List.not_lt.1 h1) (List.not_lt.1 h2))
theorem Qyt {a b:Za} (h1:ltB b a=false) (h2:ltB a b=false):a=b:=by
 rcases Qzr a b with h | h | h
 ·rw [h2] at h; cases h
 ·exact h
 ·rw [h1] at h; cases h
theorem Qtd (xs:List Za):LeB (Yt xs):=by
 unfold Yt LeB
 rw [List.pairwise_map]
 refine (List.pairwise_mergeSort (le:=fun x y:List UInt8=>decide (x<=y)) ?_ ?_ _).imp ?_
 ·intro a b c h1 h2
  simp only [Rj] at *
  exact List.le_trans h1 h2
 ·intro a b
  simp only [Sa,Rj]
  exact List.le_total a b
 ·intro a b h1
  rw [Sk,ne_eq,Bh]
  simp only [Rj] at h1
  exact List.not_lt.2 h1
theorem Qrq (lines:List Za) (line:Za):(F37 lines line).Perm (line :: lines):=by
 obtain ⟨k,_,e,_,_⟩:=Qfd lines line
 rw [e]
 refine List.perm_middle.trans ?_
 rw [Rx]
theorem put_le {lines:List Za} (line:Za) (h:LeB lines):LeB (F37 lines line):=by
 obtain ⟨k,hk,e,h1,h2⟩:=Qfd lines line
 rw [e]
 unfold LeB at *
 have h3:(lines.take k++lines.drop k).Pairwise fun a b=>ltB b a=false:=by rw [Rx]; exact h
 rw [List.pairwise_append] at h3
 have ht:∀ x∈lines.take k,ltB x line=true:=fun x hx=>by
  obtain ⟨i,hi,rfl⟩:=List.mem_iff_getElem.1 hx
  have hik:i<k:=by rw [Se] at hi; omega
  have hil:i<lines.length:=by omega
  have:=h1 i hik
  rw [Qb,Qc hil] at this
  simpa using this
 have hd:∀ x∈lines.drop k,ltB x line=false:=fun x hx=>by
  have hlt:k<lines.length:=by
   rcases Tw k lines.length with h | h
   ·exact h
   ·rw [Q8 h] at hx; cases hx
  have h0:=h2 hlt
  have hc:lines.drop k=lines.getD k default :: lines.drop (k+1):=by
   rw [Ri hlt,Qb,Qc hlt]; rfl
  have hp:=h3.2.1
  rw [hc] at hx hp
  rcases Qs.1 hx with rfl | hm
  ·exact h0
  ·exact le_trB h0 ((List.pairwise_cons.1 hp).1 x hm)
 rw [List.pairwise_append]
 refine ⟨h3.1,List.pairwise_cons.2 ⟨hd,h3.2.1⟩,fun a ha b hb=>?_⟩
 rcases Qs.1 hb with rfl | hm
 ·exact Qqt (ht a ha)
 ·exact h3.2.2 a ha b hm
theorem Qqg (ls:List Za):ls.foldl F37 []=Yt ls:=by
 have key:∀ (ls out:List Za),LeB out->(ls.foldl F37 out).Perm (ls++out)/\LeB (ls.foldl F37 out):=by
  intro ls
  induction ls with
  | nil=>exact fun out h=>⟨List.Perm.refl _,h⟩
  | cons l ls ih =>
   intro out h
   obtain ⟨h1,h2⟩:=ih (F37 out l) (put_le l h)
   exact ⟨h1.trans (((Qrq out l).append_left ls).trans List.perm_middle),h2⟩
 obtain ⟨h1,h2⟩:=key ls [] List.Pairwise.nil
 rw [Sb] at h1
 exact List.Perm.eq_of_pairwise (le:=fun a b=>ltB b a=false) (fun a b _ _ k1 k2=>Qyt k1 k2) h2 (Qtd ls) (h1.trans (Qkd ls).symm)
theorem Ey (a b c:List Za):F17 a b c=F16 a b c:=by
 unfold F17 F16
 have e:∀ x:List Za,(!F24 x)=(F23 x != 0):=fun x=>by unfold F24; rw [Qqz]; rfl
 rw [e,e,e]
 cases hn:(bif (bif F23 a != 0 then true else F23 b != 0) then true else F23 c != 0) with
 | true=>rfl
 | false =>
 rw [Qj,Qj]
 obtain ⟨na,nb,nc⟩:F23 a=0/\F23 b=0/\F23 c=0:=by
  cases h1:(F23 a != 0) with
  | true=>rw [h1] at hn; cases hn
  | false =>
   rw [h1,Qj] at hn
   cases h2:(F23 b != 0) with
   | true=>rw [h2] at hn; cases hn
   | false =>
    rw [h2,Qj] at hn
    exact ⟨by simpa using h1,by simpa using h2,by simpa using hn⟩
 obtain ⟨ms,e1,e2⟩:=Qvr a b c
 rw [e1,Lp.fin]
 unfold Hg
 rw [e2]
 have hs:=Qhi (Jp a b c) (Wc (F38 a) (F38 b) (F38 c)) (([]:List Za),(2:Int))
  (fun (s:List Za) k=>bif Zv (F38 a) (F38 b) (F38 c) k==Zb then s else F37 s (Zv (F38 a) (F38 b) (F38 c) k)) (fun s i=>(s,i)) (Vq a b c) (fun i s hi=>by
   simp only [Vq,Qbg,ltD hi,Qe,nn]
   obtain ⟨o1,o2⟩:=one_mg (F38 a) (F38 b) (F38 c) ((Jp a b c).getD i default)
   rw [Qst a _ na,Qst b _ nb,Qst c _ nc] at o1 o2
   rw [o1]
   cases hb:Wc (F38 a) (F38 b) (F38 c) ((Jp a b c).getD i default) with
   | true=>rfl
   | false =>
    rw [Qj,Qj,o2 hb,Vg]
    cases (Zv (F38 a) (F38 b) (F38 c) ((Jp a b c).getD i default)==Zb) <;> rfl) (fun s=>by simp only [Vq,Qbg,geD,Qj])
  (fun r=>r) (fun (x:List Za×Int)=>bif decide ((x.1.length:Int)>16) then (([]:List Za),(3:Int)) else (x.1,0)) ([]:List Za)
 rw [Qbg]
 refine Eq.trans ?_ hs.symm
 have hf:(Jp a b c).foldl (fun (s:List Za) k=>bif Zv (F38 a) (F38 b) (F38 c) k==Zb then s else F37 s (Zv (F38 a) (F38 b) (F38 c) k)) []=Yt (Wm (F38 a) (F38 b) (F38 c) (Jp a b c)):=by
  rw [<- Qqg]
  unfold Wm
  rw [List.foldl_filter,List.foldl_map]
  refine Qq (fun f=>List.foldl f [] (Jp a b c)) (funext fun s=>funext fun k=>?_)
  cases (Zv (F38 a) (F38 b) (F38 c) k==Zb) <;> rfl
 rw [hf]
 cases (Jp a b c).any (Wc (F38 a) (F38 b) (F38 c)) <;> rfl
theorem Qxl {σ ρ τ:Type} (step:σ->Lp σ ρ) (R:τ->Prop) (f:ρ->τ) (g:σ->τ) (hr:∀ s r,step s=.ret r->R (f r)) (hg:∀ s,R (g s)):∀ (M:Nat) (s:σ),R ((runL step M s).fin f g)
 | 0,s=>hg s
 | M+1,s=>by
  cases h:step s with
  | next s'=>rw [Yv _ h]; exact Qxl step R f g hr hg M s'
  | done s'=>rw [Ki _ h]; exact hg s'
  | ret r=>rw [Wv _ h]; exact hr s r h
theorem Hd (a b c:List Za):(F16 a b c).1.length<=16:=by
 unfold F16
 cases (bif (bif F23 a != 0 then true else F23 b != 0) then true else F23 c != 0) with
 | true=>exact Rk _
 | false =>
  rw [Qj]
  refine Qxl _ (fun x:List Za×Int=>x.1.length<=16) _ _ (fun s r h=>?_) (fun s=>?_) _ _
  ·obtain ⟨out,i⟩:=s
   simp only [Vq] at h
   revert h
   cases decide (i<_)
   ·intro h; cases h
   ·rw [Qe]
    cases (!(F36 _ _ _).2)
    ·rw [Qj]
     cases (!((F36 _ _ _).1.toList==_))
     ·intro h; cases h
     ·intro h; cases h
    ·intro h
     have:=Lp.ret.inj h
     rw [<- this]; exact Rk _
  ·obtain ⟨out,i⟩:=s
   show (bif decide ((out.length:Int)>16) then (([]:List Za),(3:Int)) else (out,0)).1.length<=16
   cases h:decide ((out.length:Int)>16) with
   | true=>exact Rk _
   | false =>
    have:=Q2 h
    show out.length<=16
    omega
theorem Qqa (a b c:List Za):(F17 a b c).1.length<=16:=by
 rw [Ey]; exact Hd a b c
theorem sz3 (a b c:List Za) (h1:0<=F7 a 1048576) (h2:0<=F7 b (F7 a 1048576)) (h3:0<=F7 c (F7 b (F7 a 1048576))):(a.length<=1048576/\b.length<=1048576/\c.length<=1048576)/\((∀ k:Nat,(a.getD k default).size<=1048576)/\(∀ k:Nat,(b.getD k default).size<=1048576)/\(∀ k:Nat,(c.getD k default).size<=1048576))/\F7 a 1048576<=1048576/\F7 b (F7 a 1048576)<=1048576:=by
 have ka:=Qac a 1048576 h1
 have kb:=Qac b _ h2
 exact ⟨⟨Qjz a h1 (Int.le_refl _),Qjz b h2 ka,Qjz c h3 (Int.le_trans kb ka)⟩,⟨Qfp a h1 (Int.le_refl _),Qfp b h2 ka,Qfp c h3 (Int.le_trans kb ka)⟩,ka,Int.le_trans kb ka⟩
def Qda (a:List Za):(Int×List Za)->Lp (Int×List Za) (List Za):=fun (i40,xs) =>
 bif (decide (i40<(a.length:Int))) then (.next ((i40+1),(xs.set (i40).toNat (a.getD i40.toNat default)))) else (.done (i40,xs))
def F9 (a:List Za):List Za :=
 (runL (Qda a) (((a.length:Int)-0).toNat+1) (0,(List.replicate (a.length:Int).toNat (Zb:Za)))).fin (fun r=>r) (fun (i40,xs)=>xs)
abbrev Qha (a:List Za):Nat×(Int×List Za):=((((a.length:Int)-0).toNat+1),(0,(List.replicate (a.length:Int).toNat (Zb:Za))))
abbrev Qxk (a:List Za) (m39:Nat) (i40:Int) (xs:List Za):Prop:=Int.toNat ((a.length:Int)-i40)<m39/\(0:Int)<=i40/\xs.length=(List.replicate (a.length:Int).toNat (Zb:Za)).length
abbrev lX9_0 (a:List Za):Lp (Int×List Za) (List Za):=LpX (Qda a) (Qha a)
abbrev Qis (a:List Za) (i:Nat×(Int×List Za)):Prop:=LpJ (Qda a) (Qha a) i (Qxk a i.1 i.2.1 i.2.2)
abbrev lH9_0 (a:List Za) (i:Nat×(Int×List Za)) (m39:Nat) (i40:Int) (xs:List Za):Prop:=LpH (Qda a) (Qha a) i m39 (i40,xs) (Qxk a (m39+1) i40 xs)
abbrev lE9_0 (a:List Za) (i40:Int) (xs:List Za) (i40_:Int) (xs_:List Za) (K39:Prop):Prop:=((.int .i64 i40:Value)=.int .i64 i40_)/\(Im (.l 1 eStr a))/\(Imp (.l 1 eStr xs) (.l 1 eStr xs_))/\K39
theorem un9_0 (a:List Za) (i:Nat×(Int×List Za)) (h:Qis a i):lH9_0 a i (i.1-1) i.2.1 i.2.2:=⟨hd1 h.1 h.2.1,hd3 h.2.1,hd2 h.2.1,h.2.2⟩
theorem bk9_0 (a:List Za) (i:Nat×(Int×List Za)) (m39:Nat) (i40:Int) (xs:List Za) (hl:m39<i.1) (e:runL (Qda a) m39 (i40,xs)=lX9_0 a) (h:Qxk a m39 i40 xs):∃ j:Nat×(Int×List Za),lE9_0 a i40 xs j.2.1 j.2.2 (Qis a j/\j.1<i.1):=⟨(m39,(i40,xs)),rfl,Imp.refl _,Imp.refl _,⟨e,h⟩,hl⟩
theorem en9_0 (a:List Za) (h:(0:Int)<=0/\(List.replicate (a.length:Int).toNat (Zb:Za)).length=(List.replicate (a.length:Int).toNat (Zb:Za)).length):lE9_0 a 0 (List.replicate (a.length:Int).toNat (Zb:Za)) 0 (List.replicate (a.length:Int).toNat (Zb:Za)) (Qis a (Qha a)):=⟨rfl,Imp.refl _,Imp.refl _,rfl,Qt _,h⟩
theorem fi9 (a:List Za) (r:List Za) (hF:r=(F9 a)):(Imp (.l 1 eStr r) (.l 1 eStr (F9 a)))/\True:=by cases hF; exact ⟨Imp.refl _,trivial⟩
def S9 (R:List Za) (a:List Za):Spec:=⟨[.r (.c (.l 1 eStr a))],.ow (.l 1 eStr R),a.length<=1048576/\(∀ k:Nat,(a.getD k default).size<=1048576)⟩
theorem ok9 (a:List Za):(S9 (F9 a) a).ok Tryz.prog 9 :=
 Uf mixed (fn:=Tryz.f9) (ct:=.seqk [(0,0)] .no (.seq (.reg [(2,.dat (.l 1 eStr (List.replicate (a.length:Int).toNat (Zb:Za))))]) (.seq (.seqk [(0,0),(3,0)] .no (.blk (.loop (ι:=Nat×(Int×List Za)) (fun i=>(fun (i40:Int) (xs:List Za)=>(⟨[(0,some (.h 0 0)),(3,some (.h 1 0)),(4,some (.v (vI i40)))],[(0,some (.shr none (.l 1 eStr a))),(1,some (.own 1 (.l 1 eStr xs)))],2⟩:St)) i.2.1 i.2.2) (Qis a) (fun i=>i.1) (Qha a) (fun i=>(fun (i40:Int) (xs:List Za)=>(.seq (.seq .no (.cond .no .no)) (.seq (.blk (.reg [(7,.dat (.l 1 eStr (xs.set (i40).toNat (a.getD i40.toNat default))))])) (.reg [(1,.bnd)])))) i.2.1 i.2.2)))) (.seq .no .no)))) Tryz.func9 (fun (hp:a.length<=1048576/\(∀ k:Nat,(a.getD k default).size<=1048576))=>have hpre0:=hp.1; have hpre1:=hp.2; kn a fun _=>ai (uu3:0<=(a.length:Int)/\(a.length:Int)<=(a.length:Int)/\(16:Int)*(a.length:Int)<=281474976710656) (ai (MakeOK.mk eStr (Zb:Za) (by exact ai ir trivial):MakeOK 1 [.v (.string Zb)] (a.length:Int).toNat (.l 1 eStr (List.replicate (a.length:Int).toNat (Zb:Za)))) (kn a fun _=>kn (List.replicate (a.length:Int).toNat (Zb:Za)) fun _=>ai (en9_0 a uu24) (fun (i0:Nat×(Int×List Za)) (hi0:Qis a i0)=>(fun (m0:Nat) (i40:Int) (xs:List Za) (hh0:lH9_0 a i0 m0 i40 xs)=>have hI0:=hh0.1; have hl0:=hh0.2.1; have _:=hh0.2.2.1; have _:=hh0.2.2.2; ifd (i40<(a.length:Int)) (fun h2 _=>ai (uu3:ib i40 a) (ai (uu3:ib i40 xs) (ai (setr 1 eStr xs (i40).toNat (a.getD i40.toNat default)) (ai (iok (i40+1) uu3) (bk9_0 a i0 m0 (i40+1) (xs.set (i40).toNat (a.getD i40.toNat default)) hl0 (Ub hI0 (condT h2 rfl)) uu26))))) (fun h2 _=>have hD0_3:lX9_0 a=Lp.done (i40,xs):=Ui hI0 (condF h2 rfl); fi9 a xs (finD hD0_3 rfl))) (i0.1-1) i0.2.1 i0.2.2 (un9_0 a i0 hi0))))) uu1
theorem as9 (a:List Za):F9 a=(a):=by
 exact Qyz (fun x=>x) (fun _=>rfl) a _ uu11 (Qda a) (fun i xs=>rfl)
theorem oa9 (a:List Za):(S9 (a) a).ok Tryz.prog 9:=by
 intro hp; have h:=ok9 a hp; rw [as9 a] at h; exact h
def Ha (a:List Za) (b:List Za):Int->Lp Int Bool:=fun i40 =>
 bif (decide (i40<(a.length:Int))) then (bif (!((a.getD i40.toNat default).toList==(b.getD i40.toNat default).toList)) then (.ret false) else (.next (i40+1))) else (.done i40)
def F11 (a:List Za) (b:List Za):Bool :=
 bif ((a.length:Int) != (b.length:Int)) then false else ((runL (Ha a b) (((a.length:Int)-0).toNat+1) 0).fin (fun r=>r) (fun i40=>true))
abbrev Qbo (a:List Za):Nat×Int:=((((a.length:Int)-0).toNat+1),0)
abbrev Qjv (a:List Za) (m39:Nat) (i40:Int):Prop:=Int.toNat ((a.length:Int)-i40)<m39/\(0:Int)<=i40
abbrev Qvz (a:List Za) (b:List Za):Lp Int Bool:=LpX (Ha a b) (Qbo a)
abbrev Pv (a:List Za) (b:List Za) (i:Nat×Int):Prop:=LpJ (Ha a b) (Qbo a) i (Qjv a i.1 i.2)
abbrev Qwz (a:List Za) (b:List Za) (i:Nat×Int) (m39:Nat) (i40:Int):Prop:=LpH (Ha a b) (Qbo a) i m39 i40 (Qjv a (m39+1) i40)
abbrev Quk (a:List Za) (b:List Za) (i40:Int) (i40_:Int) (K39:Prop):Prop:=((.int .i64 i40:Value)=.int .i64 i40_)/\(Im (.l 1 eStr a))/\(Im (.l 1 eStr b))/\K39
theorem un11_0 (a:List Za) (b:List Za) (i:Nat×Int) (h:Pv a b i):Qwz a b i (i.1-1) i.2:=⟨hd1 h.1 h.2.1,hd3 h.2.1,hd2 h.2.1,h.2.2⟩
theorem bk11_0 (a:List Za) (b:List Za) (i:Nat×Int) (m39:Nat) (i40:Int) (hl:m39<i.1) (e:runL (Ha a b) m39 i40=Qvz a b) (h:Qjv a m39 i40):∃ j:Nat×Int,Quk a b i40 j.2 (Pv a b j/\j.1<i.1):=⟨(m39,i40),rfl,Imp.refl _,Imp.refl _,⟨e,h⟩,hl⟩
theorem en11_0 (a:List Za) (b:List Za) (h:(0:Int)<=0):Quk a b 0 0 (Pv a b (Qbo a)):=⟨rfl,Imp.refl _,Imp.refl _,rfl,Qt _,h⟩
def S11 (R:Bool) (a:List Za) (b:List Za):Spec:=⟨[.r (.c (.l 1 eStr a)),.r (.c (.l 1 eStr b))],.v (.bool R),True⟩
theorem ok11 (a:List Za) (b:List Za):(S11 (F11 a b) a b).ok Tryz.prog 11 :=
 Uf mixed (fn:=Tryz.f11) (ct:=.seqk [(0,0),(1,0)] .no (.seq (.seq .no (.cond (.seq .no .no) .no)) (.seq (.seqk [(0,0),(1,0)] .no (.blk (.loop (ι:=Nat×Int) (fun i=>(fun (i40:Int)=>(⟨[(0,some (.h 0 0)),(1,some (.h 1 0)),(5,some (.v (vI i40)))],[(0,some (.shr none (.l 1 eStr a))),(1,some (.shr none (.l 1 eStr b)))],2⟩:St)) i.2) (Pv a b) (fun i=>i.1) (Qbo a) (fun i=>(fun (i40:Int)=>(.seq (.seq .no (.cond .no .no)) (.seq (.blk (.seq .no (.cond (.seq .no .no) .no))) (.reg [(1,.bnd)])))) i.2)))) (.seq .no .no)))) Tryz.func11 (fun (_:True)=>kn a fun _=>kn b fun _=>ifn (a.length:Int) (b.length:Int) (fun h1 _=>fiB false (F11 a b) (condT h1 rfl)) (fun h1 _=>kn a fun _=>kn b fun _=>ai (en11_0 a b uu0) (fun (i0:Nat×Int) (hi0:Pv a b i0)=>(fun (m0:Nat) (i40:Int) (hh0:Qwz a b i0 m0 i40)=>have hI0:=hh0.1; have hl0:=hh0.2.1; have _:=hh0.2.2.1; have _:=hh0.2.2.2; ifd (i40<(a.length:Int)) (fun h3 _=>ai (uu0:ib i40 a) (ai (uu0:ib i40 b) (ifb (!((a.getD i40.toNat default).toList==(b.getD i40.toNat default).toList)) (fun h4=>fiB false (F11 a b) (condF h1 (finR (Uq hI0 (condT h3 (condT h4 rfl))) rfl))) (fun h4=>ai (iok (i40+1) uu0) (bk11_0 a b i0 m0 (i40+1) hl0 (Ub hI0 (condT h3 (condF h4 rfl))) uu9))))) (fun h3 _=>have hD0_5:Qvz a b=Lp.done i40:=Ui hI0 (condF h3 rfl); fiB true (F11 a b) (condF h1 (finD hD0_5 rfl)))) (i0.1-1) i0.2 (un11_0 a b i0 hi0)))) uu1
theorem as11 (a:List Za) (b:List Za):F11 a b=(decide (a=b)):=by
 exact Qzp (fun x y=>decide (x=y)) (fun _ _=>rfl) a b (Ha a b) (fun i=>by simp only [Ha,neI,neB,neS])
theorem oa11 (a:List Za) (b:List Za):(S11 (decide (a=b)) a b).ok Tryz.prog 11:=by
 intro hp; have h:=ok11 a b hp; rw [as11 a b] at h; exact h
theorem kc7 (a:List Za) (left':Int) {K_:Prop} (p0_:0<=left') (p1_:left'<=1048576) (p2_:∀ k:Nat,(a.getD k default).size<=9223372036854775807) (k_:(0<=left'->left'<=1048576->0<=(F7 a left')->(F7 a left')<=left')->(0<=left'->left'<=1048576->0<=(F7 a left')->a.length<=1048576)->(0<=left'->left'<=1048576->0<=(F7 a left')->∀ k:Nat,(a.getD k default).size<=1048576)->K_):(0<=left'/\left'<=1048576/\(∀ k:Nat,(a.getD k default).size<=9223372036854775807))/\(Imp (.l 1 eStr a) (.l 1 eStr a))/\(Imp (.v (vI left')) (.v (vI left')))/\K_:=⟨⟨p0_,p1_,p2_⟩,Imp.refl _,Imp.refl _,k_ (g7_0 a left') (g7_1 a left') (g7_2 a left')⟩
theorem kc9a (a:List Za) {K_:Prop} (p0_:a.length<=1048576) (p1_:∀ k:Nat,(a.getD k default).size<=1048576) (k_:K_):(a.length<=1048576/\(∀ k:Nat,(a.getD k default).size<=1048576))/\(Imp (.l 1 eStr a) (.l 1 eStr a))/\K_:=⟨⟨p0_,p1_⟩,Imp.refl _,k_⟩
theorem kc16 (base:List Za) (mine:List Za) (theirs:List Za) {K_:Prop} (p0_:base.length<=1048576) (p1_:mine.length<=1048576) (p2_:theirs.length<=1048576) (p3_:∀ k:Nat,(base.getD k default).size<=1048576) (p4_:∀ k:Nat,(mine.getD k default).size<=1048576) (p5_:∀ k:Nat,(theirs.getD k default).size<=1048576) (k_:K_):(base.length<=1048576/\mine.length<=1048576/\theirs.length<=1048576/\(∀ k:Nat,(base.getD k default).size<=1048576)/\(∀ k:Nat,(mine.getD k default).size<=1048576)/\(∀ k:Nat,(theirs.getD k default).size<=1048576))/\(Imp (.l 1 eStr base) (.l 1 eStr base))/\(Imp (.l 1 eStr mine) (.l 1 eStr mine))/\(Imp (.l 1 eStr theirs) (.l 1 eStr theirs))/\K_:=⟨⟨p0_,p1_,p2_,p3_,p4_,p5_⟩,Imp.refl _,Imp.refl _,Imp.refl _,k_⟩
theorem kc17 (base:List Za) (mine:List Za) (theirs:List Za) {K_:Prop} (p0_:base.length<=1048576) (p1_:mine.length<=1048576) (p2_:theirs.length<=1048576) (p3_:∀ k:Nat,(base.getD k default).size<=1048576) (p4_:∀ k:Nat,(mine.getD k default).size<=1048576) (p5_:∀ k:Nat,(theirs.getD k default).size<=1048576) (k_:K_):(base.length<=1048576/\mine.length<=1048576/\theirs.length<=1048576/\(∀ k:Nat,(base.getD k default).size<=1048576)/\(∀ k:Nat,(mine.getD k default).size<=1048576)/\(∀ k:Nat,(theirs.getD k default).size<=1048576))/\(Imp (.l 1 eStr base) (.l 1 eStr base))/\(Imp (.l 1 eStr mine) (.l 1 eStr mine))/\(Imp (.l 1 eStr theirs) (.l 1 eStr theirs))/\K_:=⟨⟨p0_,p1_,p2_,p3_,p4_,p5_⟩,Imp.refl _,Imp.refl _,Imp.refl _,k_⟩
abbrev kh7f (a:List Za) (left':Int):Hint false Tryz.prog:=.call 7 (S7 a left') ((ok7 a left').to false) none
abbrev Xb (a:List Za):Hint false Tryz.prog:=.call 9 (S9 a a) ((oa9 a).to false) none
abbrev kh16f (base:List Za) (mine:List Za) (theirs:List Za):Hint false Tryz.prog:=.call 16 (S16 base mine theirs) ((ok16 base mine theirs).to false) none
abbrev kh17 (base:List Za) (mine:List Za) (theirs:List Za):Hint false Tryz.prog:=.call 17 (S17 base mine theirs) (ok17 base mine theirs) none
theorem Qhf (a:List Za) (b:List Za) {K_:Prop} (k_:K_):(True)/\(Imp (.l 1 eStr a) (.l 1 eStr a))/\(Imp (.l 1 eStr b) (.l 1 eStr b))/\K_:=⟨trivial,Imp.refl _,Imp.refl _,k_⟩
abbrev Mz (a:List Za) (b:List Za):Hint false Tryz.prog:=.call 11 (S11 (decide (a=b)) a b) ((oa11 a b).to false) none
theorem kc12 (a:List Za) (k:Int) {K_:Prop} (p0_:0<=k) (p1_:k+(a.length:Int)<=1000000000) (k_:((F12 a k).1=k+(a.length:Int))->((F12 a k).2.length=a.length)->K_):(0<=k/\k+(a.length:Int)<=1000000000)/\(Imp (.l 1 eStr a) (.l 1 eStr a))/\(Imp (.v (vI k)) (.v (vI k)))/\K_:=⟨⟨p0_,p1_⟩,Imp.refl _,Imp.refl _,k_ (Li a k) (g12_0 a k)⟩
abbrev Qmn (a:List Za) (k:Int):Hint false Tryz.prog:=.call 12 (S12 a k) ((ok12 a k).to false) none
theorem kg11a {K_:Prop} (c_ b_:Bool) (a:List Za) (b:List Za) (k_:K_):(c_=b_->True)/\(c_=b_->Imp (.l 1 eStr a) (.l 1 eStr a))/\(c_=b_->Imp (.l 1 eStr b) (.l 1 eStr b))/\K_:=⟨fun _=>trivial,fun _=>Imp.refl _,fun _=>Imp.refl _,k_⟩
theorem kc13 (a:List Za) (k:Int) {K_:Prop} (p0_:0<=k) (p1_:k+(a.length:Int)<=1000000000) (k_:K_):(0<=k/\k+(a.length:Int)<=1000000000)/\(Imp (.l 1 eStr a) (.l 1 eStr a))/\(Imp (.v (vI k)) (.v (vI k)))/\K_:=⟨⟨p0_,p1_⟩,Imp.refl _,Imp.refl _,k_⟩
abbrev kh13f (a:List Za) (k:Int):Hint false Tryz.prog:=.call 13 (S13 a k) ((ok13 a k).to false) none
def F5 (aBase:List Za) (aMine:List Za) (aTheirs:List Za):Bool :=
 bif (decide ((F7 aBase 1048576)<0)) then true else (bif (decide ((F7 aMine (F7 aBase 1048576))<0)) then true else (bif (decide ((F7 aTheirs (F7 aMine (F7 aBase 1048576)))<0)) then true else (bif (bif (!(decide ((F17 aBase aMine aTheirs).1=(F16 aBase aMine aTheirs).1))) then true else ((F17 aBase aMine aTheirs).2 != (F16 aBase aMine aTheirs).2)) then false else (bif (!(decide (aBase=aBase))) then false else (bif (!(decide (aMine=aMine))) then false else (bif (!(decide (aTheirs=aTheirs))) then false else (bif (bif (bif decide ((F12 aTheirs (F12 aMine (F12 aBase 1).1).1).1<0) then true else (!(decide ((F17 aBase aMine aTheirs).1=(F16 aBase aMine aTheirs).1)))) then true else ((F17 aBase aMine aTheirs).2 != (F16 aBase aMine aTheirs).2)) then false else (bif (decide ((F13 (F12 (F17 aBase aMine aTheirs).1 1).2 1)<0)) then false else (bif ((F13 (F12 (F17 aBase aMine aTheirs).1 1).2 1) != (F12 (F17 aBase aMine aTheirs).1 1).1) then false else (bif (bif (!(decide ((F17 aBase aMine aTheirs).1=(F16 aBase aMine aTheirs).1))) then true else ((F17 aBase aMine aTheirs).2 != (F16 aBase aMine aTheirs).2)) then false else (bif (decide ((F13 (F12 (F17 aBase aMine aTheirs).1 1).2 1)<0)) then false else (bif ((F13 (F12 (F17 aBase aMine aTheirs).1 1).2 1) != (F12 (F17 aBase aMine aTheirs).1 1).1) then false else true))))))))))))
def S5 (aBase:List Za) (aMine:List Za) (aTheirs:List Za):Spec:=⟨[.r (.c (.l 1 eStr aBase)),.r (.c (.l 1 eStr aMine)),.r (.c (.l 1 eStr aTheirs))],.v (.bool (F5 aBase aMine aTheirs)),(∀ k:Nat,(aBase.getD k default).size<=9223372036854775807)/\(∀ k:Nat,(aMine.getD k default).size<=9223372036854775807)/\(∀ k:Nat,(aTheirs.getD k default).size<=9223372036854775807)⟩
theorem ok5 (aBase:List Za) (aMine:List Za) (aTheirs:List Za):(S5 aBase aMine aTheirs).ok Tryz.prog 5 false :=
 Uf mixed (fn:=Tryz.f5) (ct:=.seqk [(0,0),(1,0),(2,0)] .no (.seq .no (.seq (.reg [(2,kh7f aBase 1048576)]) (.seq (.seq .no (.cond (.seq .no .no) .no)) (.seq (.reg [(2,kh7f aMine (F7 aBase 1048576))]) (.seq (.seq .no (.cond (.seq .no .no) .no)) (.seq (.reg [(2,kh7f aTheirs (F7 aMine (F7 aBase 1048576)))]) (.seq (.seq .no (.cond (.seq .no .no) .no)) (.seq (.reg [(1,Xb aBase),(3,Xb aMine),(5,Xb aTheirs),(6,kh16f aBase aMine aTheirs)]) (.seq (.reg [(1,Xb aBase)]) (.seq (.reg [(1,Xb aMine)]) (.seq (.reg [(1,Xb aTheirs)]) (.seq (.reg [(3,kh17 aBase aMine aTheirs)]) (.seq (.seq (.reg [(2,Mz (F17 aBase aMine aTheirs).1 (F16 aBase aMine aTheirs).1)]) (.cond (.seq .no .no) .no)) (.seq (.seq (.reg [(2,Xb aBase),(3,Mz aBase aBase)]) (.cond (.seq .no .no) .no)) (.seq (.seq (.reg [(2,Xb aMine),(3,Mz aMine aMine)]) (.cond (.seq .no .no) .no)) (.seq (.seq (.reg [(2,Xb aTheirs),(3,Mz aTheirs aTheirs)]) (.cond (.seq .no .no) .no)) (.seq .no (.seq (.reg [(2,Qmn aBase 1)]) (.seq (.reg [(2,Qmn aMine (F12 aBase 1).1)]) (.seq (.reg [(2,Qmn aTheirs (F12 aMine (F12 aBase 1).1).1)]) (.seq (.seq (.reg [(5,Mz (F17 aBase aMine aTheirs).1 (F16 aBase aMine aTheirs).1)]) (.cond (.seq .no .no) .no)) (.seq .no (.seq (.reg [(2,Qmn (F17 aBase aMine aTheirs).1 1)]) (.seq .no (.seq (.reg [(2,kh13f (F12 (F17 aBase aMine aTheirs).1 1).2 1)]) (.seq (.seq .no (.cond (.seq .no .no) .no)) (.seq (.seq .no (.cond (.seq .no .no) .no)) (.seq (.reg [(1,Xb aBase),(3,Xb aMine),(5,Xb aTheirs),(6,kh17 aBase aMine aTheirs)]) (.seq (.seq (.reg [(2,Mz (F17 aBase aMine aTheirs).1 (F16 aBase aMine aTheirs).1)]) (.cond (.seq .no .no) .no)) (.seq .no (.seq (.reg [(2,kh13f (F12 (F17 aBase aMine aTheirs).1 1).2 1)]) (.seq (.seq .no (.cond (.seq .no .no) .no)) (.seq (.seq .no (.cond (.seq .no .no) .no)) (.seq .no .no))))))))))))))))))))))))))))))))))) Tryz.func5 (fun (hp:(∀ k:Nat,(aBase.getD k default).size<=9223372036854775807)/\(∀ k:Nat,(aMine.getD k default).size<=9223372036854775807)/\(∀ k:Nat,(aTheirs.getD k default).size<=9223372036854775807))=>have hpre0:=hp.1; have hpre1:=hp.2.1; have hpre2:=hp.2.2; kn aBase fun _=>kn aMine fun _=>kn aTheirs fun _=>kc7 aBase 1048576 uu14 uu14 uu14 (fun gv1 gv2 gv3=>ifd ((F7 aBase 1048576)<0) (fun h4 _=>fiB true (F5 aBase aMine aTheirs) (condT h4 rfl)) (fun h4 _=>kc7 aMine (F7 aBase 1048576) uu14 uu14 uu14 (fun gv5 gv6 gv7=>ifd ((F7 aMine (F7 aBase 1048576))<0) (fun h8 _=>fiB true (F5 aBase aMine aTheirs) (condF h4 (condT h8 rfl))) (fun h8 _=>kc7 aTheirs (F7 aMine (F7 aBase 1048576)) uu14 uu14 uu14 (fun gv9 gv10 gv11=>ifd ((F7 aTheirs (F7 aMine (F7 aBase 1048576)))<0) (fun h12 _=>fiB true (F5 aBase aMine aTheirs) (condF h4 (condF h8 (condT h12 rfl)))) (fun h12 _=>kc9a aBase uu16 uu17 (kc9a aMine uu18 uu19 (kc9a aTheirs uu20 uu21 (kc16 aBase aMine aTheirs uu16 uu18 uu20 uu17 uu19 uu21 (kc9a aBase uu16 uu17 (kc9a aMine uu18 uu19 (kc9a aTheirs uu20 uu21 (kc17 aBase aMine aTheirs uu16 uu18 uu20 uu17 uu19 uu21 (Qhf (F17 aBase aMine aTheirs).1 (F16 aBase aMine aTheirs).1 (ifb (bif (!(decide ((F17 aBase aMine aTheirs).1=(F16 aBase aMine aTheirs).1))) then true else ((F17 aBase aMine aTheirs).2 != (F16 aBase aMine aTheirs).2)) (fun h13=>fiB false (F5 aBase aMine aTheirs) (condF h4 (condF h8 (condF h12 (condT h13 rfl))))) (fun h13=>have _:=Qd (Yh (orF1 h13)); have _:=bneF (orF2 h13); kc9a aBase uu16 uu17 (Qhf aBase aBase (ifb (!(decide (aBase=aBase))) (fun h14=>have _:=Q2 (Wt h14); fiB false (F5 aBase aMine aTheirs) (condF h4 (condF h8 (condF h12 (condF h13 (condT h14 rfl)))))) (fun h14=>have _:=Qd (Yh h14); kc9a aMine uu18 uu19 (Qhf aMine aMine (ifb (!(decide (aMine=aMine))) (fun h15=>have _:=Q2 (Wt h15); fiB false (F5 aBase aMine aTheirs) (condF h4 (condF h8 (condF h12 (condF h13 (condF h14 (condT h15 rfl))))))) (fun h15=>have _:=Qd (Yh h15); kc9a aTheirs uu20 uu21 (Qhf aTheirs aTheirs (ifb (!(decide (aTheirs=aTheirs))) (fun h16=>have _:=Q2 (Wt h16); fiB false (F5 aBase aMine aTheirs) (condF h4 (condF h8 (condF h12 (condF h13 (condF h14 (condF h15 (condT h16 rfl)))))))) (fun h16=>have _:=Qd (Yh h16); kc12 aBase 1 uu12 uu12 (fun gv17 gv18=>kc12 aMine (F12 aBase 1).1 uu12 uu12 (fun gv19 gv20=>kc12 aTheirs (F12 aMine (F12 aBase 1).1).1 uu12 uu12 (fun gv21 gv22=>kg11a (decide ((F12 aTheirs (F12 aMine (F12 aBase 1).1).1).1<0)) false (F17 aBase aMine aTheirs).1 (F16 aBase aMine aTheirs).1 (ifb (bif (bif decide ((F12 aTheirs (F12 aMine (F12 aBase 1).1).1).1<0) then true else (!(decide ((F17 aBase aMine aTheirs).1=(F16 aBase aMine aTheirs).1)))) then true else ((F17 aBase aMine aTheirs).2 != (F16 aBase aMine aTheirs).2)) (fun h24=>fiB false (F5 aBase aMine aTheirs) (condF h4 (condF h8 (condF h12 (condF h13 (condF h14 (condF h15 (condF h16 (condT h24 rfl))))))))) (fun h24=>have _:=Q2 (orF1 (orF1 h24)); have _:=Qd (Yh (orF2 (orF1 h24))); have _:=bneF (orF2 h24); kc12 (F17 aBase aMine aTheirs).1 1 uu12 uu12 (fun gv25 gv26=>kc13 (F12 (F17 aBase aMine aTheirs).1 1).2 1 uu12 uu12 (ifd ((F13 (F12 (F17 aBase aMine aTheirs).1 1).2 1)<0) (fun h27 _=>fiB false (F5 aBase aMine aTheirs) (condF h4 (condF h8 (condF h12 (condF h13 (condF h14 (condF h15 (condF h16 (condF h24 (condT h27 rfl)))))))))) (fun h27 _=>ifn (F13 (F12 (F17 aBase aMine aTheirs).1 1).2 1) (F12 (F17 aBase aMine aTheirs).1 1).1 (fun h28 _=>fiB false (F5 aBase aMine aTheirs) (condF h4 (condF h8 (condF h12 (condF h13 (condF h14 (condF h15 (condF h16 (condF h24 (condF h27 (condT h28 rfl))))))))))) (fun h28 _=>kc9a aBase uu16 uu17 (kc9a aMine uu18 uu19 (kc9a aTheirs uu20 uu21 (kc17 aBase aMine aTheirs uu16 uu18 uu20 uu17 uu19 uu21 (Qhf (F17 aBase aMine aTheirs).1 (F16 aBase aMine aTheirs).1 (ifb (bif (!(decide ((F17 aBase aMine aTheirs).1=(F16 aBase aMine aTheirs).1))) then true else ((F17 aBase aMine aTheirs).2 != (F16 aBase aMine aTheirs).2)) (fun h29=>fiB false (F5 aBase aMine aTheirs) (condF h4 (condF h8 (condF h12 (condF h13 (condF h14 (condF h15 (condF h16 (condF h24 (condF h27 (condF h28 (condT h29 rfl)))))))))))) (fun h29=>have _:=Qd (Yh (orF1 h29)); have _:=bneF (orF2 h29); kc13 (F12 (F17 aBase aMine aTheirs).1 1).2 1 uu12 uu12 (ifd ((F13 (F12 (F17 aBase aMine aTheirs).1 1).2 1)<0) (fun h30 _=>fiB false (F5 aBase aMine aTheirs) (condF h4 (condF h8 (condF h12 (condF h13 (condF h14 (condF h15 (condF h16 (condF h24 (condF h27 (condF h28 (condF h29 (condT h30 rfl))))))))))))) (fun h30 _=>ifn (F13 (F12 (F17 aBase aMine aTheirs).1 1).2 1) (F12 (F17 aBase aMine aTheirs).1 1).1 (fun h31 _=>fiB false (F5 aBase aMine aTheirs) (condF h4 (condF h8 (condF h12 (condF h13 (condF h14 (condF h15 (condF h16 (condF h24 (condF h27 (condF h28 (condF h29 (condF h30 (condT h31 rfl)))))))))))))) (fun h31 _=>fiB true (F5 aBase aMine aTheirs) (condF h4 (condF h8 (condF h12 (condF h13 (condF h14 (condF h15 (condF h16 (condF h24 (condF h27 (condF h28 (condF h29 (condF h30 (condF h31 rfl))))))))))))))))))))))))))))))))))))))))))))))))))))))))) uu1
theorem Ual (a b c:List Za):F5 a b c=true:=by
 unfold F5
 cases h1:decide (F7 a 1048576<0) with
 | true=>rfl
 | false =>
 rw [Qj]
 cases h2:decide (F7 b (F7 a 1048576)<0) with
 | true=>rfl
 | false =>
 rw [Qj]
 cases h3:decide (F7 c (F7 b (F7 a 1048576))<0) with
 | true=>rfl
 | false =>
 have h1:=Q2 h1
 have h2:=Q2 h2
 have h3:=Q2 h3
 have la:=(Vi a 1048576 uu0).1
 have ka:=Qac a 1048576 uu0
 have lb:=(Vi b (F7 a 1048576) uu0).1
 have kb:=Qac b (F7 a 1048576) uu0
 have lc:=(Vi c (F7 b (F7 a 1048576)) uu0).1
 have hd:=Hd a b c
 rw [Ey,Qj]
 generalize F16 a b c=w at hd
 obtain ⟨m1,m2⟩:=marked w.1 uu0
 rw [m1,m2,Li,Li,Li,Qp (show ¬ 1+(a.length:Int)+(b.length:Int)+(c.length:Int)<0 by omega),Qp (show ¬ 1+(w.1.length:Int)<0 by omega)]
 simp
end Go.Proofs.YthjaknclldmheaaGreatDoor
namespace Go.Proofs.YthjaknclldmheaaGreatDoor
open Go Go.RowKit Go.ChangeShapes Go.WideShapes Go.ChangeAt
set_option maxRecDepth 100000
set_option linter.unusedVariables false
theorem op_9:OpD Tryz.prog 9 eStr:=OpD.str Tryz.underlying9
theorem op_22:OpD Tryz.prog 22 (fun xs:List Za=>[.l 1 eStr xs]):=OpD.slice 1 Tryz.underlying22 op_9 (fun _=>rfl) uu1 uu2
def Qwt (s:Za):List Dat:=[.x (BX s 9223372036854775807)]
theorem Qzw:OpD Tryz.prog 9 Qwt:=fun H e W f cs y h=>by
 obtain ⟨s,rfl,_,hs⟩:=DataW.trod_string Tryz.underlying9 h
 exact ⟨s,_,_,rfl,⟨rfl,hs⟩,rfl⟩
theorem Qge {S:Nat->Prop} {W:World} {xs:List Za} {v:Value} (h:RdV S W (.l 1 Qwt xs) v):RdV S W (.l 1 eStr xs) v/\∀ k:Nat,(xs.getD k default).size<=9223372036854775807:=by
 obtain ⟨a,c,e,h1,h2,h3⟩:=h
 refine ⟨⟨a,c,e,h1,h2,fun i x hx=>?_⟩,fun k=>?_⟩
 ·obtain ⟨k1,k2,cs,k3,k4,k5⟩:=h3 i x hx
  obtain ⟨u,us,rfl,⟨k6,k7⟩,k8⟩:=k5
  exact ⟨k1,k2,_,k3,k4,u,us,rfl,⟨k6,rfl⟩,k8⟩
 ·rw [Qb]
  cases hx:xs[k]? with
  | none=>exact Rk _
  | some x =>
   obtain ⟨k1,k2,cs,k3,k4,k5⟩:=h3 k x hx
   obtain ⟨u,us,rfl,⟨k6,k7⟩,k8⟩:=k5
   exact k7
theorem Qkq:OpD Tryz.prog 22 (fun xs:List Za=>[.l 1 Qwt xs]):=OpD.slice 1 Tryz.underlying22 Qzw (fun _=>rfl) uu1 uu2
theorem own:ownKnob Tryz.prog.godebug=none:=by kernel_rfl
theorem cfA:Tryz.prog.inPlace 5=Rows.fnExactConfMergeRow.inPlace:=by kernel_rfl
theorem cfB:Tryz.prog.unfollowed 5=Rows.fnExactConfMergeRow.unfollowed:=by kernel_rfl
theorem cfC:Tryz.prog.recurses 5=Rows.fnExactConfMergeRow.recurses:=by kernel_rfl
theorem cfD:Tryz.prog.varsNamed 5=Rows.fnExactConfMergeRow.named:=by kernel_rfl
set_option maxRecDepth 100000 in
def putC (cs:Array Value):Obj->Obj
 | .cells _ t fz=>.cells cs t fz
 | o=>o
noncomputable def Mo (os:Os):World :=
 let w:=World.holding Tryz.prog os ⟨#[.cells #[.string ⟨#[118,97,108,117,101,32,111,117,116,32,111,102,32,114,97,110,103,101]⟩] 224,.cells #[.string ⟨#[105,110,118,97,108,105,100,32,115,121,110,116,97,120]⟩] 224],#[],[]⟩
 { w with heap:=(((((((w.heap.modify ((Tryz.prog.globalNamed "math/bits.deBruijn32tab").getD 0) (putC #[(.int .u8 0),(.int .u8 1),(.int .u8 28),(.int .u8 2),(.int .u8 29),(.int .u8 14),(.int .u8 24),(.int .u8 3),(.int .u8 30),(.int .u8 22),(.int .u8 20),(.int .u8 15),(.int .u8 25),(.int .u8 17),(.int .u8 4),(.int .u8 8),(.int .u8 31),(.int .u8 27),(.int .u8 13),(.int .u8 23),(.int .u8 21),(.int .u8 19),(.int .u8 16),(.int .u8 7),(.int .u8 26),(.int .u8 12),(.int .u8 18),(.int .u8 6),(.int .u8 11),(.int .u8 5),(.int .u8 10),(.int .u8 9)])).modify ((Tryz.prog.globalNamed "math/bits.deBruijn64tab").getD 0) (putC #[(.int .u8 0),(.int .u8 1),(.int .u8 56),(.int .u8 2),(.int .u8 57),(.int .u8 49),(.int .u8 28),(.int .u8 3),(.int .u8 61),(.int .u8 58),(.int .u8 42),(.int .u8 50),(.int .u8 38),(.int .u8 29),(.int .u8 17),(.int .u8 4),(.int .u8 62),(.int .u8 47),(.int .u8 59),(.int .u8 36),(.int .u8 45),(.int .u8 43),(.int .u8 51),(.int .u8 22),(.int .u8 53),(.int .u8 39),(.int .u8 33),(.int .u8 30),(.int .u8 24),(.int .u8 18),(.int .u8 12),(.int .u8 5),(.int .u8 63),(.int .u8 55),(.int .u8 48),(.int .u8 27),(.int .u8 60),(.int .u8 41),(.int .u8 37),(.int .u8 16),(.int .u8 46),(.int .u8 35),(.int .u8 44),(.int .u8 21),(.int .u8 52),(.int .u8 32),(.int .u8 23),(.int .u8 11),(.int .u8 54),(.int .u8 26),(.int .u8 40),(.int .u8 15),(.int .u8 34),(.int .u8 20),(.int .u8 31),(.int .u8 10),(.int .u8 25),(.int .u8 14),(.int .u8 19),(.int .u8 9),(.int .u8 13),(.int .u8 8),(.int .u8 7),(.int .u8 6)])).modify ((Tryz.prog.globalNamed "internal/strconv.uint64pow10").getD 0) (putC #[(.int .u64 1),(.int .u64 10),(.int .u64 100),(.int .u64 1000),(.int .u64 10000),(.int .u64 100000),(.int .u64 1000000),(.int .u64 10000000),(.int .u64 100000000),(.int .u64 1000000000),(.int .u64 10000000000),(.int .u64 100000000000),(.int .u64 1000000000000),(.int .u64 10000000000000),(.int .u64 100000000000000),(.int .u64 1000000000000000),(.int .u64 10000000000000000),(.int .u64 100000000000000000),(.int .u64 1000000000000000000),(.int .u64 10000000000000000000)])).modify ((Tryz.prog.globalNamed "unicode/utf8.acceptRanges").getD 0) (putC #[(.int .u8 128),(.int .u8 191),(.int .u8 160),(.int .u8 191),(.int .u8 128),(.int .u8 159),(.int .u8 144),(.int .u8 191),(.int .u8 128),(.int .u8 143),(.int .u8 0),(.int .u8 0),(.int .u8 0),(.int .u8 0),(.int .u8 0),(.int .u8 0),(.int .u8 0),(.int .u8 0),(.int .u8 0),(.int .u8 0),(.int .u8 0),(.int .u8 0),(.int .u8 0),(.int .u8 0),(.int .u8 0),(.int .u8 0),(.int .u8 0),(.int .u8 0),(.int .u8 0),(.int .u8 0),(.int .u8 0),(.int .u8 0)])).modify ((Tryz.prog.globalNamed "strconv.ErrRange").getD 0) (putC #[.iface 222 (.pointer (some ⟨Tryz.prog.low+0,0,none⟩))])).modify ((Tryz.prog.globalNamed "strconv.ErrSyntax").getD 0) (putC #[.iface 222 (.pointer (some ⟨Tryz.prog.low+1,0,none⟩))])).modify ((Tryz.prog.globalNamed "unicode/utf8.first").getD 0) (putC ((Go.Pinned.utf8FirstZ.map fun n=>Value.int .u8 (n:Nat)).toArray))) }
theorem Qxi (os:Os):laidMet Tryz.prog Rows.fnExactConfMergeRow.laid ((Mo os).forCall (fun _ _=>0) ⟨#[],#[.slice none 0 0,.slice none 0 0,.slice none 0 0],[]⟩).memory :=
 laidMet_of_run3 8 uu1 uu1 uu1
theorem reads (os:Os) {H:Type} (enc:TypeId×Value->H):∃ Xn,DataW.whole enc Tryz.prog ((Mo os).forCall (fun _ _=>0) ⟨#[],#[.slice none 0 0,.slice none 0 0,.slice none 0 0],[]⟩).memory Tryz.f5.params.toList Rows.fnExactConfMergeSpec.vars false #[.slice none 0 0,.slice none 0 0,.slice none 0 0].toList 8=some ([.nil,.nil,.nil],[],Xn) :=
 ⟨[],by kernel_rfl⟩
theorem Qgw {W:World} {l:List (String×DataW Unit)} (h:laidMet Tryz.prog l W) {n tn:String} {d:DataW Unit} (hm:(n,.iface tn d)∈l) {g:Nat} (hg:Tryz.prog.globalNamed n=some g) (ht:(Tryz.prog.globals[g]?).map (·.type)=some 126) :
  ∃ e,W.cell? ⟨g,0,none⟩=some e/\(e=.nilIface\/∃ te pe,e=.iface te pe):=by
 obtain ⟨g',t',cs,fuel,p,h1,h2,h3,h4⟩:=Lib.laidMet.reads h hm
 obtain rfl:=Sg (hg.symm.trans h1)
 obtain rfl:=Sg (ht.symm.trans h2)
 have hc:∀ i,W.cell? ⟨g,i,none⟩=cs[i]?:=fun i=>by
  unfold World.var? at h3
  rw [hg] at h3
  simp only [Option.bind_some] at h3
  split at h3
  ·rename_i c _ _ hh
   simp only [Qa] at h3
   subst h3
   simp [World.cell?,hh]
  ·cases h3
 cases fuel with
 | zero=>simp [DataW.trod] at h4
 | succ fuel =>
  simp only [DataW.trod,Tryz.underlying126] at h4
  split at h4 <;> first
   | (cases h4; done)
   | (rename_i hcs; refine ⟨_,(hc 0).trans (by rw [<- Td,hcs]; rfl),?_⟩; first | exact .inl rfl | exact .inr ⟨_,_,rfl⟩)
   | (simp at h4; done)
   | (exfalso; simp_all; done)
theorem lifted (os:Os) (started:os.Started) (H:Type) (enc:TypeId×Value->H) (F:Stop.Interp) :
  ReturnsInHanded {} Tryz.checked os 5 .any ((OpenSpec.ofChange Rows.fnExactConfMergeSpec).preRow enc Tryz.prog Tryz.f5 Rows.fnExactConfMergeRow.domain false Rows.fnExactConfMergeRow.laid) (((OpenSpec.ofChange Rows.fnExactConfMergeSpec).at F).post enc Tryz.prog Tryz.f5 false true false false):=by
 obtain ⟨Xn,hx⟩:=reads os enc
 refine returnsInHanded_of_row (C:=Tryz.checked) (s:=OpenSpec.ofChange Rows.fnExactConfMergeSpec) own started uu1 Tryz.func5
  (witness_row_at (enc:=enc) (C:=Tryz.checked) false (Mo os) #[.slice none 0 0,.slice none 0 0,.slice none 0 0] rfl uu1 uu1 uu1
   (OpenSpec.preRow_of_cond 8 hx uu1 (fun k hk=>by cases hk) uu1 (Qxi os))) ?_
 intro W base args ds gs before hval0 hW hcnd _ _ hL hsh _
 have hL':laidMet Tryz.prog Rows.fnExactConfMergeRow.laid W:=by
  have h0:=hL
  unfold laidMetH at h0
  rw [show (Rows.fnExactConfMergeRow.laid.filter fun x=>x.2.handleName?.isSome)=[] from by kernel_rfl] at h0
  exact h0
 have hval:∀ (j:Nat) t v,Tryz.f5.params[j]?=some t->args[j]?=some v->Value.okWide Tryz.prog W .any base t v:=hval0
 have hW':=hW
 obtain ⟨p,q,hA0,hV,rfl,hfz,hnd⟩:=hW
 have hA:DataW.TrodAll enc Tryz.prog W 0 (fun _=>true) true Tryz.f5.params.toList args.toList ds p:=hA0
 rw [Tryz.params5] at hA hval
 obtain ⟨v0,vs0,d0,ds0,p0,q0,hargs,rfl,rfl,h0,r0⟩:=trodAll_cons hA
 obtain ⟨v1,vs1,d1,ds1,p1,q1,rfl,rfl,rfl,h1,r1⟩:=trodAll_cons r0
 obtain ⟨v2,vs2,d2,ds2,p2,q2,rfl,rfl,rfl,h2,r2⟩:=trodAll_cons r1
 obtain ⟨rfl,rfl,rfl⟩:=trodAll_nil r2
 obtain rfl:args=#[v0,v1,v2]:=by cases args; simp_all
 obtain ⟨rfl,rfl⟩:=trodVars_none hV
 obtain ⟨fu0,t0⟩:=h0
 obtain ⟨a0,n0,c0,rfl⟩:=okWide_slice Tryz.underlying22 (hval 0 22 v0 rfl rfl)
 obtain ⟨x0,u0,us0,e0,o0,-⟩:=Qkq H enc W fu0 _ _ t0
 obtain ⟨o0,b0⟩:=Qge o0
 obtain rfl:u0=_:=(List.cons.inj e0).1.symm
 obtain ⟨fu1,t1⟩:=h1
 obtain ⟨a1,n1,c1,rfl⟩:=okWide_slice Tryz.underlying22 (hval 1 22 v1 rfl rfl)
 obtain ⟨x1,u1,us1,e1,o1,-⟩:=Qkq H enc W fu1 _ _ t1
 obtain ⟨o1,b1⟩:=Qge o1
 obtain rfl:u1=_:=(List.cons.inj e1).1.symm
 obtain ⟨fu2,t2⟩:=h2
 obtain ⟨a2,n2,c2,rfl⟩:=okWide_slice Tryz.underlying22 (hval 2 22 v2 rfl rfl)
 obtain ⟨x2,u2,us2,e2,o2,-⟩:=Qkq H enc W fu2 _ _ t2
 obtain ⟨o2,b2⟩:=Qge o2
 obtain rfl:u2=_:=(List.cons.inj e2).1.symm
 have hG:GP W:=⟨fun b hb=>by
  simp only [GBe,Sn,S4,Qs,Rn,T4] at hb
  rcases hb with rfl | rfl
  ·exact Qgw hL' (n:= "strconv.ErrSyntax") (by unfold Rows.fnExactConfMergeRow; exact Qi _ (Qi _ (Qi _ (Qi _ (Qi _ (Ql)))))) (show Tryz.prog.globalNamed "strconv.ErrSyntax"=some ((Tryz.prog.globalNamed "strconv.ErrSyntax").getD 0) from by kernel_rfl) uu1
  ·exact Qgw hL' (n:= "strconv.ErrRange") (by unfold Rows.fnExactConfMergeRow; exact Qi _ (Qi _ (Qi _ (Qi _ (Ql))))) (show Tryz.prog.globalNamed "strconv.ErrRange"=some ((Tryz.prog.globalNamed "strconv.ErrRange").getD 0) from by kernel_rfl) uu1,fun b hb=>by simp only [GBi,Sn,Qs,Rn,T4] at hb; subst hb; exact layCutM.s1_3 W hsh,fun q hq=>by
  simp only [GBt,Sn,Qs,Rn,T4] at hq
  subst hq
  obtain ⟨g',t',cs,fuel,p,h1,h2,h3,h4⟩:=Lib.laidMet.reads hL' (n:= "internal/strconv.uint64pow10") (by unfold Rows.fnExactConfMergeRow; exact Qi _ (Qi _ (Ql)))
  obtain rfl:=Sg ((show Tryz.prog.globalNamed "internal/strconv.uint64pow10"=some ((Tryz.prog.globalNamed "internal/strconv.uint64pow10").getD 0) from by kernel_rfl).symm.trans h1)
  obtain rfl:=Sg ((show (Tryz.prog.globals[(Tryz.prog.globalNamed "internal/strconv.uint64pow10").getD 0]?).map (·.type)=some 226 from by kernel_rfl).symm.trans h2)
  have hc:=Lib.cells_of_tab (k:=.u64) (zs:=Lib.pow10Tab) Tryz.underlying226 Tryz.underlying142 uu1 uu1 h4
  unfold World.var? at h3
  rw [(show Tryz.prog.globalNamed "internal/strconv.uint64pow10"=some ((Tryz.prog.globalNamed "internal/strconv.uint64pow10").getD 0) from by kernel_rfl)] at h3
  simp only [Option.bind_some] at h3
  split at h3
  ·rename_i c T fz hh
   simp only [Qa] at h3
   subst h3
   exact ⟨T,fz,hh.trans (by congr 1; congr 1; exact Tr (by simpa using hc))⟩
  ·cases h3⟩
 have hc:=Qvn (W:=W) (vs:=[.slice a0 n0 c0,.slice a1 n1 c1,.slice a2 n2 c2]) (ok5 x0 x1 x2) (And.intro (b0) (And.intro (b1) (b2))) (x:=.bool (F5 x0 x1 x2)) hG ⟨_,_,[],[],rfl,⟨o0,rfl⟩,⟨_,_,[],[],rfl,⟨o1,rfl⟩,⟨_,_,[],[],rfl,⟨o2,rfl⟩,⟨rfl,rfl⟩,rfl,Q1⟩,rfl,Q1⟩,rfl,Q1⟩ rfl rfl
 rw [Ual x0 x1 x2] at hc
 refine hc.mono fun e W' ⟨he,hb⟩=>?_
 subst he
 exact ⟨_,rfl,Quu rfl hW' hb rfl Tryz.underlying4 rfl rfl rfl laid (by decide +kernel)⟩
theorem said_FnExactConfMerge:Rows.FnExactConfMergeSaid :=
 OpenClaim.holds_of_cond 5 Tryz.f5 rfl rfl rfl rfl rfl rfl rfl ⟨rfl,rfl,rfl,rfl,rfl⟩ rfl rfl rfl rfl rfl uu1 Tryz.func5 (by
   show joinedFacts Tryz.prog 5 Tryz.f5 (OpenSpec.ofChange Rows.fnExactConfMergeSpec).bare Rows.fnExactConfMergeRow=true
   simp only [joinedFacts,laid,cfMaps,cfKeys,Uao,Qyy,Uad,cfMake,cfA,cfB,cfC,cfD,Sw]
   kernel_rfl)
  (Qd uu1) (by unfold Func.isWrapper; first | (rw [if_pos (by decide +kernel)]; kernel_rfl) | (rw [if_neg (by decide +kernel)]; exact ⟨rfl,rfl⟩))
  (fun os started H enc _ F=>by rw [OpenClaim.pre_eq_preRow]; exact lifted os started H enc F)
theorem Qqb (f:FuncId) (fn:Func) (hf:Tryz.pinned.checked.prog.funcNamed "loop.example/tern/laws.FnExactConfMerge"=some f) (hfn:Tryz.pinned.checked.prog.funcs[f]?=some fn) :
  true=Tryz.pinned.checked.prog.looks []/\∀ (j:Nat) t,fn.params[j]?=some t->Tryz.pinned.checked.prog.wantsStandIn t=false:=by
 obtain rfl:f=5:=Sg ((show Tryz.prog.funcNamed "loop.example/tern/laws.FnExactConfMerge"=some 5 by kernel_rfl).symm.trans hf) |>.symm
 obtain rfl:fn=Tryz.f5:=(Sg (Tryz.func5.symm.trans hfn)).symm
 refine ⟨by kernel_rfl,fun j t ht=>?_⟩
 rw [Tryz.params5] at ht
 have hm:=Array.mem_of_getElem? ht
 simp only [List.mem_toArray,Qs,Rn,T4] at hm
 rcases hm with rfl | rfl | rfl
 ·exact (show Tryz.prog.wantsStandIn 22=false by kernel_rfl)
 ·exact (show Tryz.prog.wantsStandIn 22=false by kernel_rfl)
 ·exact (show Tryz.prog.wantsStandIn 22=false by kernel_rfl)
theorem card_wf:Rows.fnExactConfMergeRow.wfByText (OpenSpec.ofChange Rows.fnExactConfMergeSpec)=true:=by kernel_rfl
theorem card_main:Tryz.prog.mainIs=some (Rows.fnExactConfMergeCard.stood.harness.1,Rows.fnExactConfMergeCard.stood.harness.2.toList):=by kernel_rfl
theorem card_goes:false=Rows.fnExactConfMergeRow.goesBy Tryz.prog:=by kernel_rfl
theorem proved_FnExactConfMerge:Rows.FnExactConfMergeCardSaid :=
 Claim7.holds_tied_plain_at .later [] _ _ _ _ said_FnExactConfMerge (fun _ h=>by cases h) card_wf (fun _ h=>by cases h) fnExactConfMerge_row_tie rfl ⟨rfl,rfl⟩ card_main rfl Qqb card_goes
#print axioms proved_FnExactConfMerge
end Go.Proofs.YthjaknclldmheaaGreatDoor
