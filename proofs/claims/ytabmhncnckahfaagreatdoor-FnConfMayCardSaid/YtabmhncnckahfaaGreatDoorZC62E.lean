/- A part of the proof of FnConfMay. Texts put together: PSO, VJO, PJO, VDF, PDF, VMK, PMK, PDFL0, PPA0, VPA, PPA, VPB, PPB, VPC, PPC, PMA0, VMA, PMA1, VMB, PMB, PDXB, VDC0, PDC0, VDC1, PDC1, VDC2, PDC2, VDC3, PDC3, VDM1, PDM1, VDM2, PDM2, VDM3, PDM3, VDM4, PDM4. -/
import Derived.Test.YtabmhncnckahfaaGreatDoorRows
import Derived.Test.YtabmhncnckahfaaGreatDoorZC62D
namespace Go.Proofs.YtabmhncnckahfaaGreatDoor
open Go.RowKit
set_option maxRecDepth 100000
set_option linter.unusedVariables false
set_option linter.unusedSimpArgs false
def ltB (a b:ByteArray):Bool:=Op.bytesLess a.toList b.toList
theorem bless_eq:∀ (x y:List UInt8),Op.bytesLess x y=decide (x<y)
 | [],[]=>by simp [Op.bytesLess]
 | _ :: _,[]=>by simp [Op.bytesLess]
 | [],_ :: _=>by simp [Op.bytesLess]
 | a :: x,b :: y=>by
  rw [Op.bytesLess,bless_eq x y]
  simp only [List.cons_lt_cons_iff]
  by_cases h1:a<b <;> by_cases h2:a=b <;> by_cases h3:x<y <;> simp [h1,h2,h3]
theorem ltB_iff (a b:ByteArray):ltB a b=true↔a.data.toList<b.data.toList:=by
 unfold ltB
 rw [byteToList,byteToList,bless_eq,decide_eq_true_eq]
theorem ltB_irrefl (a:ByteArray):ltB a a=false:=by
 rw [Bool.eq_false_iff,ne_eq,ltB_iff]
 exact List.lt_irrefl _
theorem ltB_trans {a b c:ByteArray} (h1:ltB a b=true) (h2:ltB b c=true):ltB a c=true:=by
 rw [ltB_iff] at *
 exact List.lt_trans h1 h2
theorem ltB_tri (a b:ByteArray):ltB a b=true∨a=b∨ltB b a=true:=by
 rw [ltB_iff,ltB_iff]
 rcases Classical.em (a.data.toList<b.data.toList) with h | h
 ·exact .inl h
 ·rcases Classical.em (b.data.toList<a.data.toList) with h2 | h2
  ·exact .inr (.inr h2)
  ·refine .inr (.inl (ba_ext (List.le_antisymm ?_ ?_)))
   ·exact List.not_lt.1 h2
   ·exact List.not_lt.1 h
theorem ltB_asymm {a b:ByteArray} (h:ltB a b=true):ltB b a=false:=by
 rw [Bool.eq_false_iff]
 intro h2
 have:=ltB_trans h h2
 rw [ltB_irrefl] at this
 cases this
def SortedB (xs:List ByteArray):Prop:=xs.Pairwise fun a b=>ltB a b=true
theorem sorted_ext:∀ {xs ys:List ByteArray},SortedB xs→SortedB ys→(∀ z,z∈xs↔z∈ys)→xs=ys
 | [],[],_,_,_=>rfl
 | [],y :: ys,_,_,h=>absurd ((h y).2 List.mem_cons_self) List.not_mem_nil
 | x :: xs,[],_,_,h=>absurd ((h x).1 List.mem_cons_self) List.not_mem_nil
 | x :: xs,y :: ys,hx,hy,h=>by
  obtain ⟨hx1,hx2⟩:=List.pairwise_cons.1 hx
  obtain ⟨hy1,hy2⟩:=List.pairwise_cons.1 hy
  have hno:∀ {a:ByteArray} {r:List ByteArray},(∀ b∈r,ltB a b=true)→a ∉ r:=fun h hm=>by
   have:=h _ hm
   rw [ltB_irrefl] at this
   cases this
  have e:x=y:=by
   rcases List.mem_cons.1 ((h x).1 List.mem_cons_self) with e | hm
   ·exact e
   ·rcases List.mem_cons.1 ((h y).2 List.mem_cons_self) with e | hm2
    ·exact e.symm
    ·have:=ltB_asymm (hy1 x hm)
     rw [hx1 y hm2] at this
     cases this
  subst e
  rw [sorted_ext hx2 hy2 fun z=>⟨fun hz=>?_,fun hz=>?_⟩]
  ·rcases List.mem_cons.1 ((h z).1 (List.mem_cons_of_mem _ hz)) with rfl | hm
   ·exact absurd hz (hno hx1)
   ·exact hm
  ·rcases List.mem_cons.1 ((h z).2 (List.mem_cons_of_mem _ hz)) with rfl | hm
   ·exact absurd hz (hno hy1)
   ·exact hm
theorem sortS_perm (xs:List ByteArray):(sortS xs).Perm xs:=by
 unfold sortS
 have h:=(List.mergeSort_perm (xs.map (·.data.toList)) fun x y=>decide (x≤y)).map fun l:List UInt8=>(⟨l.toArray⟩:ByteArray)
 refine h.trans (List.Perm.of_eq ?_)
 rw [List.map_map]
 exact (List.map_congr_left fun a _=>show (⟨a.data.toList.toArray⟩:ByteArray)=a from by simp).trans (List.map_id _)
theorem sortS_mem {xs:List ByteArray} {z:ByteArray}:z∈sortS xs↔z∈xs:=(sortS_perm xs).mem_iff
theorem sortS_sorted (xs:List ByteArray) (h:xs.Nodup):SortedB (sortS xs):=by
 have hn:(sortS xs).Nodup:=(sortS_perm xs).nodup_iff.2 h
 have hp:(sortS xs).Pairwise fun a b=>ltB b a=false:=by
  unfold sortS
  rw [List.pairwise_map]
  refine (List.pairwise_mergeSort (le:=fun x y:List UInt8=>decide (x≤y)) ?_ ?_ _).imp ?_
  ·intro a b c h1 h2
   simp only [decide_eq_true_eq] at *
   exact List.le_trans h1 h2
  ·intro a b
   simp only [Bool.or_eq_true,decide_eq_true_eq]
   exact List.le_total a b
  ·intro a b h1
   rw [Bool.eq_false_iff,ne_eq,ltB_iff]
   simp only [decide_eq_true_eq] at h1
   exact List.not_lt.2 h1
 refine (hp.and hn).imp ?_
 rintro a b ⟨h1,h2⟩
 rcases ltB_tri a b with h | h | h
 ·exact h
 ·exact absurd h h2
 ·rw [h1] at h; cases h
theorem sorted_nodup {xs:List ByteArray} (h:SortedB xs):xs.Nodup:=h.imp fun {a b} hab e=>by
 subst e
 rw [ltB_irrefl] at hab
 cases hab
theorem sorted_at {xs:List ByteArray} (h:∀ i,i+1<xs.length→ltB (xs.getD i default) (xs.getD (i+1) default)=true):SortedB xs:=by
 induction xs with
 | nil=>exact List.Pairwise.nil
 | cons x xs ih =>
  have h2:SortedB xs:=ih fun i hi=>by
   have:=h (i+1) (by simpa using hi)
   simpa using this
  refine List.pairwise_cons.2 ⟨fun y hy=>?_,h2⟩
  cases xs with
  | nil=>cases hy
  | cons z r =>
   have h0:ltB x z=true:=by simpa using h 0 (by simp)
   rcases List.mem_cons.1 hy with rfl | hm
   ·exact h0
   ·exact ltB_trans h0 ((List.pairwise_cons.1 h2).1 y hm)
theorem anyF_no {p:Nat→Bool}:∀ (m i:Nat),anyF p i m=false→∀ k,i≤k→k<i+m→p k=false
 | 0,i,_,k,h1,h2=>by omega
 | m+1,i,h,k,h1,h2=>by
  rw [anyF,Bool.or_eq_false_iff] at h
  rcases Nat.eq_or_lt_of_le h1 with rfl | hlt
  ·exact h.1
  ·exact anyF_no m (i+1) h.2 k hlt (by omega)
theorem neat_sorted (lines:List ByteArray) (h:F58 lines=0):SortedB lines:=by
 have hk:=(nt_facts lines h).2
 unfold F58 at h
 cases h16:decide ((lines.length:Int)>16) with
 | true=>rw [h16,cond_true] at h; exact absurd h (by decide)
 | false =>
 rw [h16,cond_false] at h
 have h0:=fun (f:Int→Int) (g:Int→Int) (y:Int) (hg:∀ i,g i=y)=>anyL lines (fun l=>!F47 l) (2:Int) (F58_s0 lines) (fun i hi=>by
  simp only [F58_s0,ltD hi,cond_true,nn,getD_map _ _ _ hi,key_empty]
  rfl) (by simp only [F58_s0,geD,cond_false]) f g y hg
 have hany:(lines.any fun l=>!F47 l)=false:=by
  rw [Bool.eq_false_iff]
  intro hc
  obtain ⟨x,hx,hp⟩:=List.any_eq_true.1 hc
  rw [hk x hx] at hp
  cases hp
 rw [h0 (fun r=>r) _ _ (fun _=>rfl),hany,cond_false] at h
 refine sorted_at fun i hi=>?_
 have h1:=fun (y:Int)=>any_loop (F58_s1 lines) lines.length (fun k=>!ltB (lines.getD (k-1) default) (lines.getD k default)) (3:Int) (fun r=>r) y (fun k hk=>by
  simp only [F58_s1,ltD hk,cond_true,nn]
  rw [show Int.toNat ((k:Int)-1)=k-1 by omega]; rfl) (by simp only [F58_s1,geD,cond_false]) (lines.length-1) 1 (by omega) (Int.toNat ((lines.length:Int)-1)+1) (by omega)
 have h2:=h1 ((runL (F58_s2 lines) (((lines.length:Int)-0).toNat+1) 0).fin (fun r=>r) (fun i42=>0))
 have h3:=h2.symm.trans h
 cases ha:anyF (fun k=>!ltB (lines.getD (k-1) default) (lines.getD k default)) 1 (lines.length-1) with
 | true=>rw [ha,cond_true] at h3; exact absurd h3 (by decide)
 | false =>
  have:=anyF_no _ _ ha (i+1) (by omega) (by omega)
  simpa using this
def F127 (list:List ByteArray):List ByteArray :=
 ((List.replicate (Int.toNat 0) ((⟨#[]⟩:ByteArray):ByteArray))++list)
theorem fi127 (list:List ByteArray) (r:List ByteArray) (hF:r=(F127 list)):(Imp (.l 1 eStr r) (.l 1 eStr (F127 list)))∧True:=by cases hF; exact ⟨Imp.refl _,trivial⟩
def S127 (R:List ByteArray) (list:List ByteArray):Spec:=⟨[.r (.c (.l 1 eStr list))],.ow (.l 1 eStr R),list.length≤1000000000⟩
theorem ok127 (list:List ByteArray):(S127 (F127 list) list).ok Tryz.prog 127 :=
 fnG_ok mixed (fn:=Tryz.f127) (ct:=.seqk [(0,0)] .no (.seq (.reg [(2,.dat (.l 1 eStr (List.replicate (Int.toNat 0) (w13_:ByteArray)))),(4,.dat (.l 1 eStr ((List.replicate (Int.toNat 0) (w13_:ByteArray))++list)))]) .no)) Tryz.func127 (fun (hpre0:list.length≤1000000000)=>kn list fun _=>ai (by first | omega | (simp only [lens,ib] at*<;> omega):0≤(0:Int)∧(0:Int)≤(list.length:Int)∧(16:Int)*(list.length:Int)≤281474976710656) (ai (MakeOK.mk eStr (w13_:ByteArray) (by exact ai ir trivial):MakeOK 1 [.v (.string w13_)] (Int.toNat 0) (.l 1 eStr (List.replicate (Int.toNat 0) (w13_:ByteArray)))) (ai (AppL.mk eStr (List.replicate (Int.toNat 0) (w13_:ByteArray)) list (Imp.refl (.l 1 eStr (List.replicate (Int.toNat 0) (w13_:ByteArray)))) ir (fun y=>⟨rfl,fun e he=>by simp only [eStr,List.mem_cons,List.not_mem_nil,or_false] at he; rcases he with rfl <;> exact ⟨_,rfl⟩⟩):AppL (.l 1 eStr (List.replicate (Int.toNat 0) (w13_:ByteArray))) (.l 1 eStr list) 1 (.l 1 eStr ((List.replicate (Int.toNat 0) (w13_:ByteArray))++list))) (ai (by (try simp only [lens]); omega:((List.replicate (Int.toNat 0) (w13_:ByteArray))++list).length*16≤140737488355328) (fi127 list ((List.replicate (Int.toNat 0) (w13_:ByteArray))++list) rfl))))) (by kernel_rfl)
theorem as127 (list:List ByteArray):F127 list=(list):=by
 simp [F127]
theorem oa127 (list:List ByteArray):(S127 (list) list).ok Tryz.prog 127:=by
 intro hp; have h:=ok127 list hp; rw [as127 list] at h; exact h
def F66 (x9:List ByteArray):List ByteArray :=
 sortS x9
def S66 (x9:List ByteArray):Spec:=⟨[.ow (.l 1 eStr x9) (some (.l 1 eStr (F66 x9)))],.tu [],x9.length≤4000000000000000000⟩
theorem ok66 (x9:List ByteArray):(S66 x9).ok Tryz.prog 66 :=
 sortS_ok laySortS x9
theorem kc127a (list:List ByteArray) {K_:Prop} (p0_:list.length≤1000000000) (k_:K_):(list.length≤1000000000)∧(Imp (.l 1 eStr list) (.l 1 eStr list))∧K_:=⟨p0_,Imp.refl _,k_⟩
abbrev kh127a (list:List ByteArray):Hint true Tryz.prog:=.call 127 (S127 list list) (oa127 list) none
theorem kc66 (x9:List ByteArray) {K_:Prop} (p0_:x9.length≤4000000000000000000) (k_:K_):(x9.length≤4000000000000000000)∧(Imp (.l 1 eStr x9) (.l 1 eStr x9))∧K_:=⟨p0_,Imp.refl _,k_⟩
abbrev kh66 (x9:List ByteArray):Hint true Tryz.prog:=.call 66 (S66 x9) (ok66 x9) none
def F74_s0 (a:List ByteArray) (b:List ByteArray):(List ByteArray×Int)→Lp (List ByteArray×Int) (List ByteArray):=fun (out1,v14) =>
 bif (decide (v14<((a++b).length:Int))) then (bif (!((F75 a ((a++b).getD v14.toNat default))==(F75 b ((a++b).getD v14.toNat default)))) then (.next ((out1++[((a++b).getD v14.toNat default)]),(v14+1))) else (.next (out1,(v14+1)))) else (.done (out1,v14))
def F74_j0 (a:List ByteArray) (b:List ByteArray):Lp (List ByteArray) (List ByteArray) :=
 (runL (F74_s0 a b) ((((a++b).length:Int)-0).toNat+1) (([]:List ByteArray),0)).fin Lp.ret (fun (out1,v14)=>.done out1)
def F74 (a:List ByteArray) (b:List ByteArray):List ByteArray :=
 (F74_j0 a b).fin (fun r=>r) (fun out=>(F66 out))
abbrev lN74_0 (a:List ByteArray) (b:List ByteArray):Nat×(List ByteArray×Int):=(((((a++b).length:Int)-0).toNat+1),(([]:List ByteArray),0))
abbrev lI74_0 (a:List ByteArray) (b:List ByteArray) (m39:Nat) (out1:List ByteArray) (v14:Int):Prop:=Int.toNat (((a++b).length:Int)-v14)<m39∧(out1.length:Int)≤v14∧v14≤(a.length:Int)+(b.length:Int)∧(0:Int)≤v14
abbrev lX74_0 (a:List ByteArray) (b:List ByteArray):Lp (List ByteArray×Int) (List ByteArray):=LpX (F74_s0 a b) (lN74_0 a b)
abbrev lJ74_0 (a:List ByteArray) (b:List ByteArray) (i:Nat×(List ByteArray×Int)):Prop:=LpJ (F74_s0 a b) (lN74_0 a b) i (lI74_0 a b i.1 i.2.1 i.2.2)
abbrev lH74_0 (a:List ByteArray) (b:List ByteArray) (i:Nat×(List ByteArray×Int)) (m39:Nat) (out1:List ByteArray) (v14:Int):Prop:=LpH (F74_s0 a b) (lN74_0 a b) i m39 (out1,v14) (lI74_0 a b (m39+1) out1 v14)
abbrev lE74_0 (a:List ByteArray) (b:List ByteArray) (out1:List ByteArray) (v14:Int) (out1_:List ByteArray) (v14_:Int) (K39:Prop):Prop:=(Rf (.int .i64 ((a++b).length:Int)))∧((.int .i64 v14:Value)=.int .i64 v14_)∧(Im (.l 1 eStr a))∧(Im (.l 1 eStr b))∧(Imp (.l 1 eStr out1) (.l 1 eStr out1_))∧(Im (.l 1 eStr (a++b)))∧K39
theorem un74_0 (a:List ByteArray) (b:List ByteArray) (i:Nat×(List ByteArray×Int)) (h:lJ74_0 a b i):lH74_0 a b i (i.1-1) i.2.1 i.2.2:=⟨hd1 h.1 h.2.1,hd3 h.2.1,hd2 h.2.1,h.2.2⟩
theorem bk74_0 (a:List ByteArray) (b:List ByteArray) (i:Nat×(List ByteArray×Int)) (m39:Nat) (out1:List ByteArray) (v14:Int) (hl:m39<i.1) (e:runL (F74_s0 a b) m39 (out1,v14)=lX74_0 a b) (h:lI74_0 a b m39 out1 v14):∃ j:Nat×(List ByteArray×Int),lE74_0 a b out1 v14 j.2.1 j.2.2 (lJ74_0 a b j∧j.1<i.1):=⟨(m39,(out1,v14)),rfl,rfl,Imp.refl _,Imp.refl _,Imp.refl _,Imp.refl _,⟨e,h⟩,hl⟩
theorem en74_0 (a:List ByteArray) (b:List ByteArray) (h:(([]:List ByteArray).length:Int)≤0∧0≤(a.length:Int)+(b.length:Int)∧(0:Int)≤0):lE74_0 a b ([]:List ByteArray) 0 ([]:List ByteArray) 0 (lJ74_0 a b (lN74_0 a b)):=⟨rfl,rfl,Imp.refl _,Imp.refl _,Imp.refl _,Imp.refl _,rfl,Nat.lt_succ_self _,h⟩
abbrev jI74_0 (a:List ByteArray) (b:List ByteArray) (out:List ByteArray):Prop:=out.length≤32∧True
abbrev jJ74_0 (a:List ByteArray) (b:List ByteArray) (j:List ByteArray):Prop:=(F74_j0 a b)=Lp.done j∧jI74_0 a b j
theorem jn74_0 (a:List ByteArray) (b:List ByteArray) (out:List ByteArray) (e:(F74_j0 a b)=Lp.done out) (h:jI74_0 a b out):∃ j:List ByteArray,(Imp (.l 1 eStr out) (.l 1 eStr j))∧jJ74_0 a b j:=⟨out,Imp.refl _,e,h⟩
theorem fi74 (a:List ByteArray) (b:List ByteArray) (r:List ByteArray) (hF:r=(F74 a b)):(Imp (.l 1 eStr r) (.l 1 eStr (F74 a b)))∧True:=by cases hF; exact ⟨Imp.refl _,trivial⟩
def S74 (a:List ByteArray) (b:List ByteArray):Spec:=⟨[.r (.c (.l 1 eStr a)),.r (.c (.l 1 eStr b))],.ow (.l 1 eStr (F74 a b)),a.length≤16∧b.length≤16∧(∀ k:Nat,(a.getD k default).size≤1048576)∧(∀ k:Nat,(b.getD k default).size≤1048576)⟩
theorem ok74 (a:List ByteArray) (b:List ByteArray):(S74 a b).ok Tryz.prog 74 :=
 fnG_ok mixed (fn:=Tryz.f74) (ct:=.seqk [(0,0),(1,0)] .no (.seq (.reg [(0,.dat (.l 1 eStr ([]:List ByteArray)))]) (.cut (ι:=List ByteArray) (fun j=>(fun (out:List ByteArray)=>(⟨[(5,some (.h 0 0))],[(0,some (.own 0 (.l 1 eStr out)))],1⟩:St)) j) (jJ74_0 a b) (.seqk [(0,0),(1,0),(5,0),(12,0)] (.reg [(1,kh127a a),(3,.dat (.l 1 eStr (a++b)))]) (.blk (.loop (ι:=Nat×(List ByteArray×Int)) (fun i=>(fun (out1:List ByteArray) (v14:Int)=>(⟨[(0,some (.h 0 0)),(1,some (.h 1 0)),(5,some (.h 2 0)),(12,some (.h 3 0)),(13,some (.v (vI ((a++b).length:Int)))),(14,some (.v (vI v14)))],[(0,some (.shr none (.l 1 eStr a))),(1,some (.shr none (.l 1 eStr b))),(2,some (.own 2 (.l 1 eStr out1))),(3,some (.own 3 (.l 1 eStr (a++b))))],4⟩:St)) i.2.1 i.2.2) (lJ74_0 a b) (fun i=>i.1) (lN74_0 a b) (fun i=>(fun (out1:List ByteArray) (v14:Int)=>(.seq .no (.seq (.cond .no .no) (.seq (.blk (.seq .no (.seq (.reg [(2,kh75 a ((a++b).getD v14.toNat default)),(5,kh75 b ((a++b).getD v14.toNat default))]) (.cond (.reg [(3,.dat (.l 1 eStr (out1++[((a++b).getD v14.toNat default)])))]) .no)))) (.reg [(0,.bnd)]))))) i.2.1 i.2.2)))) (fun j=>(fun (out:List ByteArray)=>(.seq (.reg [(1,kh66 out)]) (.seq .no .no))) j)))) Tryz.func74 (fun (hp:a.length≤16∧b.length≤16∧(∀ k:Nat,(a.getD k default).size≤1048576)∧(∀ k:Nat,(b.getD k default).size≤1048576))=>have hpre0:=hp.1; have hpre1:=hp.2.1; have hpre2:=hp.2.2.1; have hpre3:=hp.2.2.2; kn a fun _=>kn b fun _=>ai (bokr 1 eStr ([]:List ByteArray) fun _=>rfl) (ai (kc127a a (by first | omega | (simp only [lens,ib] at*<;> omega)) (ai (AppL.mk eStr a b (Imp.refl (.l 1 eStr a)) ir (fun y=>⟨rfl,fun e he=>by simp only [eStr,List.mem_cons,List.not_mem_nil,or_false] at he; rcases he with rfl <;> exact ⟨_,rfl⟩⟩):AppL (.l 1 eStr a) (.l 1 eStr b) 1 (.l 1 eStr (a++b))) (ai (by (try simp only [lens]); omega:(a++b).length*16≤140737488355328) (kn a fun _=>kn b fun _=>kn ([]:List ByteArray) fun _=>kn (a++b) fun _=>ai (en74_0 a b (by refine ⟨?_,?_,?_⟩ <;> first | omega | (simp only [lens,ib] at*<;> omega) | (simp only [List.length_append] at *; omega) | omega)) (fun (i0:Nat×(List ByteArray×Int)) (hi0:lJ74_0 a b i0)=>(fun (m0:Nat) (out1:List ByteArray) (v14:Int) (hh0:lH74_0 a b i0 m0 out1 v14)=>have hI0:=hh0.1; have hl0:=hh0.2.1; have _:=hh0.2.2.1; have _:=hh0.2.2.2; ifd (v14<((a++b).length:Int)) (fun h2 _=>ai (by first | omega | (simp only [lens,ib] at*<;> omega):ib v14 (a++b)) (kc75 a ((a++b).getD v14.toNat default) (kc75 b ((a++b).getD v14.toNat default) (ifb (!((F75 a ((a++b).getD v14.toNat default))==(F75 b ((a++b).getD v14.toNat default)))) (fun h3=>ai (appr 1 eStr out1 [((a++b).getD v14.toNat default)] fun _=>rfl) (ai (by (try simp only [lens]); omega:(out1++[((a++b).getD v14.toNat default)]).length*16≤140737488355328) (ai (iok (v14+1) (by first | omega | (simp only [lens,ib] at*<;> omega))) (bk74_0 a b i0 m0 (out1++[((a++b).getD v14.toNat default)]) (v14+1) hl0 (runL_next hI0 (condT h2 (condT h3 rfl))) (by refine ⟨?_,?_,?_,?_⟩ <;> first | omega | (simp only [lens,ib] at*<;> omega) | (simp only [List.length_append] at *; omega) | omega))))) (fun h3=>ai (iok (v14+1) (by first | omega | (simp only [lens,ib] at*<;> omega))) (bk74_0 a b i0 m0 out1 (v14+1) hl0 (runL_next hI0 (condT h2 (condF h3 rfl))) (by refine ⟨?_,?_,?_,?_⟩ <;> first | omega | (simp only [lens,ib] at*<;> omega) | (simp only [List.length_append] at *; omega) | omega))))))) (fun h2 _=>have hD0_4:lX74_0 a b=Lp.done (out1,v14):=runL_done hI0 (condF h2 rfl); jn74_0 a b out1 (Eq.symm (finD hD0_4 rfl)) (by refine ⟨?_,?_⟩ <;> first | exact trivial | omega | (simp only [lens,ib] at*<;> omega) | (simp only [List.length_append] at *; omega)))) (i0.1-1) i0.2.1 i0.2.2 (un74_0 a b i0 hi0)))))) (fun (j:List ByteArray) (hj:jJ74_0 a b j)=>(fun (out:List ByteArray) (hJ0_5:(F74_j0 a b)=Lp.done out) (hw:jI74_0 a b out)=>have _:=hw.1; kc66 out (by first | omega | (simp only [lens,ib] at*<;> omega)) (fi74 a b (F66 out) (finD hJ0_5 rfl))) j hj.1 hj.2))) (by kernel_rfl)
def F73 (lines:List ByteArray):Bool :=
 ((F52 lines)==0)
def S73 (lines:List ByteArray):Spec:=⟨[.r (.c (.l 1 eStr lines))],.v (.bool (F73 lines)),lines.length≤1048576∧(∀ k:Nat,(lines.getD k default).size≤1048576)⟩
theorem ok73 (lines:List ByteArray):(S73 lines).ok Tryz.prog 73 false :=
 fnG_ok mixed (fn:=Tryz.f73) (ct:=.seqk [(0,0)] .no (.seq (.reg [(1,kh52 lines)]) .no)) Tryz.func73 (fun (hp:lines.length≤1048576∧(∀ k:Nat,(lines.getD k default).size≤1048576))=>have hpre0:=hp.1; have hpre1:=hp.2; kn lines fun _=>kc52 lines (by first | assumption | exact hpre1 _ | exact fun k _=>hpre1 k | (intros; exact trivial) | (intros; exact Nat.zero_le _)) (fiB ((F52 lines)==0) (F73 lines) rfl)) (by kernel_rfl)
theorem implHas_mem (ws:List ByteArray) (x:ByteArray):F75 ws x=decide (x∈ws):=by rw [has_same,specHas_mem]
def oneP (a b:List ByteArray) (l:ByteArray):Bool:=!(decide (l∈a)==decide (l∈b))
theorem justOne_eq (a b:List ByteArray):F74 a b=sortS ((a++b).filter (oneP a b)):=by
 unfold F74 F74_j0
 have h:=fold_loop0 (a++b) (fun (s:List ByteArray) x=>bif oneP a b x then s++[x] else s) (fun s i=>(s,i)) (F74_s0 a b) (fun i s hi=>by
  simp only [F74_s0,ltD hi,cond_true,nn,implHas_mem]
  show (bif oneP a b ((a++b).getD i default) then _ else _)=_
  cases oneP a b ((a++b).getD i default) <;> rfl) (fun s=>by simp only [F74_s0,geD,cond_false]) (Lp.ret:List ByteArray→Lp (List ByteArray) (List ByteArray)) (fun x=>.done x.1) []
 refine (congrArg (fun z:Lp (List ByteArray) (List ByteArray)=>z.fin (fun r=>r) (fun out=>F66 out)) h).trans ?_
 show sortS _=_
 rw [foldl_filter (oneP a b) (fun x=>x),List.nil_append,List.map_id']
theorem justOne_mem {a b:List ByteArray} {z:ByteArray}:z∈F74 a b↔(z∈a∧z ∉ b)∨(z∈b∧z ∉ a):=by
 rw [justOne_eq,sortS_mem,List.mem_filter,List.mem_append]
 unfold oneP
 by_cases h1:z∈a <;> by_cases h2:z∈b <;> simp [h1,h2]
theorem justOne_len (a b:List ByteArray) (ha:a.length≤16) (hb:b.length≤16):(F74 a b).length≤32:=by
 rw [justOne_eq,sortS_len]
 have:=List.length_filter_le (oneP a b) (a++b)
 rw [List.length_append] at this
 omega
theorem mem_sz {xs:List ByteArray} {n:Nat} (h:∀ k:Nat,(xs.getD k default).size≤n) {x:ByteArray} (hx:x∈xs):x.size≤n:=by
 obtain ⟨k,hk,rfl⟩:=mem_getD hx
 exact h k
theorem getD_sz {xs:List ByteArray} {n:Nat} (h:∀ x∈xs,x.size≤n) (k:Nat):(xs.getD k default).size≤n:=by
 rw [List.getD_eq_getElem?_getD]
 cases hx:xs[k]? with
 | none=>exact Nat.zero_le n
 | some x=>exact h x (List.mem_of_getElem? hx)
theorem justOne_sz (a b:List ByteArray) (ha:∀ k:Nat,(a.getD k default).size≤1048576) (hb:∀ k:Nat,(b.getD k default).size≤1048576):∀ k:Nat,((F74 a b).getD k default).size≤1048576 :=
 getD_sz fun x hx=>by
  rcases justOne_mem.1 hx with h | h
  ·exact mem_sz ha h.1
  ·exact mem_sz hb h.1
theorem neatI (lines:List ByteArray) (h:F73 lines=true):F58 lines=0:=by
 unfold F73 at h
 rw [neat_same] at h
 exact eq_of_beq h
theorem neatI_len (lines:List ByteArray) (h:F73 lines=true):lines.length≤16:=neat_len lines (neatI lines h)
theorem neat2 {a b:List ByteArray} (h:(bif !F73 a then true else !F73 b)=false):F73 a=true∧F73 b=true:=by
 cases ha:F73 a <;> cases hb:F73 b <;> simp [ha,hb] at h ⊢
theorem kc73 (lines:List ByteArray) {K_:Prop} (p0_:lines.length≤1048576) (p1_:∀ k:Nat,(lines.getD k default).size≤1048576) (k_:K_):(lines.length≤1048576∧(∀ k:Nat,(lines.getD k default).size≤1048576))∧(Imp (.l 1 eStr lines) (.l 1 eStr lines))∧K_:=⟨⟨p0_,p1_⟩,Imp.refl _,k_⟩
abbrev kh73 (lines:List ByteArray):Hint false Tryz.prog:=.call 73 (S73 lines) (ok73 lines) none
theorem kg73 {K_:Prop} (c_ b_:Bool) (lines:List ByteArray) (p_:c_=b_→lines.length≤1048576∧(∀ k:Nat,(lines.getD k default).size≤1048576)) (k_:K_):(c_=b_→lines.length≤1048576∧(∀ k:Nat,(lines.getD k default).size≤1048576))∧(c_=b_→Imp (.l 1 eStr lines) (.l 1 eStr lines))∧K_:=⟨p_,fun _=>Imp.refl _,k_⟩
theorem kc74 (a:List ByteArray) (b:List ByteArray) {K_:Prop} (p0_:a.length≤16) (p1_:b.length≤16) (p2_:∀ k:Nat,(a.getD k default).size≤1048576) (p3_:∀ k:Nat,(b.getD k default).size≤1048576) (q0_:a.length≤16) (q1_:b.length≤16) (q2_:∀ k:Nat,(a.getD k default).size≤1048576) (q3_:∀ k:Nat,(b.getD k default).size≤1048576) (k_:((F74 a b).length≤32)→(∀ k:Nat,((F74 a b).getD k default).size≤1048576)→K_):(a.length≤16∧b.length≤16∧(∀ k:Nat,(a.getD k default).size≤1048576)∧(∀ k:Nat,(b.getD k default).size≤1048576))∧(Imp (.l 1 eStr a) (.l 1 eStr a))∧(Imp (.l 1 eStr b) (.l 1 eStr b))∧K_:=⟨⟨p0_,p1_,p2_,p3_⟩,Imp.refl _,Imp.refl _,k_ (justOne_len a b q0_ q1_) (justOne_sz a b q2_ q3_)⟩
abbrev kh74f (a:List ByteArray) (b:List ByteArray):Hint false Tryz.prog:=.call 74 (S74 a b) ((ok74 a b).to false) none
abbrev kh75f (s:List ByteArray) (v1:ByteArray):Hint false Tryz.prog:=.call 75 (S75 s v1) ((ok75 s v1).to false) none
abbrev w19_:ByteArray:=⟨#[45,32]⟩
abbrev w20_:ByteArray:=⟨#[43,32]⟩
def F25_s0 (a:List ByteArray) (b:List ByteArray):(List ByteArray×Int)→Lp (List ByteArray×Int) (List ByteArray):=fun (out,v21) =>
 bif (decide (v21<((F74 a b).length:Int))) then (bif (F75 a ((F74 a b).getD v21.toNat default)) then (.next ((out++[((⟨#[45,32]⟩:ByteArray)++((F74 a b).getD v21.toNat default))]),(v21+1))) else (.next ((out++[((⟨#[43,32]⟩:ByteArray)++((F74 a b).getD v21.toNat default))]),(v21+1)))) else (.done (out,v21))
def F25 (a:List ByteArray) (b:List ByteArray):List ByteArray :=
 bif (bif (!(F73 a)) then true else (!(F73 b))) then ([]:List ByteArray) else ((runL (F25_s0 a b) ((((F74 a b).length:Int)-0).toNat+1) (([]:List ByteArray),0)).fin (fun r=>r) (fun (out,v21)=>out))
theorem kg58 {K_:Prop} (c_ b_:Bool) (lines:List ByteArray) (p_:c_=b_→(∀ k:Nat,(lines.getD k default).size≤1048576)) (k_:K_):(c_=b_→(∀ k:Nat,(lines.getD k default).size≤1048576))∧(c_=b_→Imp (.l 1 eStr lines) (.l 1 eStr lines))∧K_:=⟨p_,fun _=>Imp.refl _,k_⟩
def F26_s0 (a:List ByteArray) (b:List ByteArray):(List ByteArray×Int×Int)→Lp (List ByteArray×Int×Int) (List ByteArray):=fun (out,i40,k) =>
 bif (bif decide (i40<(a.length:Int)) then true else decide (k<(b.length:Int))) then (bif (bif (k==(b.length:Int)) then true else (bif decide (i40<(a.length:Int)) then (Op.bytesLess (a.getD i40.toNat default).toList (b.getD k.toNat default).toList) else false)) then (.next ((out++[((⟨#[45,32]⟩:ByteArray)++(a.getD i40.toNat default))]),(i40+1),k)) else (bif (bif (i40==(a.length:Int)) then true else (Op.bytesLess (b.getD k.toNat default).toList (a.getD i40.toNat default).toList)) then (.next ((out++[((⟨#[43,32]⟩:ByteArray)++(b.getD k.toNat default))]),i40,(k+1))) else (.next (out,(i40+1),(k+1))))) else (.done (out,i40,k))
def F26 (a:List ByteArray) (b:List ByteArray):List ByteArray :=
 bif (bif ((F58 a) != 0) then true else ((F58 b) != 0)) then ([]:List ByteArray) else ((runL (F26_s0 a b) ((((a.length:Int)-0)+((b.length:Int)-0)).toNat+1) (([]:List ByteArray),0,0)).fin (fun r=>r) (fun (out,i40,k)=>out))
abbrev lN26_0 (a:List ByteArray) (b:List ByteArray):Nat×(List ByteArray×Int×Int):=(((((a.length:Int)-0)+((b.length:Int)-0)).toNat+1),(([]:List ByteArray),0,0))
abbrev lI26_0 (a:List ByteArray) (b:List ByteArray) (m39:Nat) (out:List ByteArray) (i40:Int) (k:Int):Prop:=Int.toNat (((a.length:Int)-i40)+((b.length:Int)-k))<m39∧(0:Int)≤i40∧(0:Int)≤k∧i40≤(a.length:Int)∧k≤(b.length:Int)∧(out.length:Int)≤i40+k∧(0:Int)≤i40∧(0:Int)≤k
abbrev lX26_0 (a:List ByteArray) (b:List ByteArray):Lp (List ByteArray×Int×Int) (List ByteArray):=LpX (F26_s0 a b) (lN26_0 a b)
abbrev lJ26_0 (a:List ByteArray) (b:List ByteArray) (i:Nat×(List ByteArray×Int×Int)):Prop:=LpJ (F26_s0 a b) (lN26_0 a b) i (lI26_0 a b i.1 i.2.1 i.2.2.1 i.2.2.2)
abbrev lH26_0 (a:List ByteArray) (b:List ByteArray) (i:Nat×(List ByteArray×Int×Int)) (m39:Nat) (out:List ByteArray) (i40:Int) (k:Int):Prop:=LpH (F26_s0 a b) (lN26_0 a b) i m39 (out,i40,k) (lI26_0 a b (m39+1) out i40 k)
abbrev lE26_0 (a:List ByteArray) (b:List ByteArray) (out:List ByteArray) (i40:Int) (k:Int) (out_:List ByteArray) (i40_:Int) (k_:Int) (K39:Prop):Prop:=((.int .i64 i40:Value)=.int .i64 i40_)∧((.int .i64 k:Value)=.int .i64 k_)∧(Im (.l 1 eStr a))∧(Im (.l 1 eStr b))∧(Imp (.l 1 eStr out) (.l 1 eStr out_))∧K39
theorem un26_0 (a:List ByteArray) (b:List ByteArray) (i:Nat×(List ByteArray×Int×Int)) (h:lJ26_0 a b i):lH26_0 a b i (i.1-1) i.2.1 i.2.2.1 i.2.2.2:=⟨hd1 h.1 h.2.1,hd3 h.2.1,hd2 h.2.1,h.2.2⟩
theorem bk26_0 (a:List ByteArray) (b:List ByteArray) (i:Nat×(List ByteArray×Int×Int)) (m39:Nat) (out:List ByteArray) (i40:Int) (k:Int) (hl:m39<i.1) (e:runL (F26_s0 a b) m39 (out,i40,k)=lX26_0 a b) (h:lI26_0 a b m39 out i40 k):∃ j:Nat×(List ByteArray×Int×Int),lE26_0 a b out i40 k j.2.1 j.2.2.1 j.2.2.2 (lJ26_0 a b j∧j.1<i.1):=⟨(m39,(out,i40,k)),rfl,rfl,Imp.refl _,Imp.refl _,Imp.refl _,⟨e,h⟩,hl⟩
theorem en26_0 (a:List ByteArray) (b:List ByteArray) (h:(0:Int)≤0∧(0:Int)≤0∧0≤(a.length:Int)∧0≤(b.length:Int)∧(([]:List ByteArray).length:Int)≤0+0∧(0:Int)≤0∧(0:Int)≤0):lE26_0 a b ([]:List ByteArray) 0 0 ([]:List ByteArray) 0 0 (lJ26_0 a b (lN26_0 a b)):=⟨rfl,rfl,Imp.refl _,Imp.refl _,Imp.refl _,rfl,Nat.lt_succ_self _,h⟩
theorem fi26 (a:List ByteArray) (b:List ByteArray) (r:List ByteArray) (hF:r=(F26 a b)):(Imp (.l 1 eStr r) (.l 1 eStr (F26 a b)))∧True:=by cases hF; exact ⟨Imp.refl _,trivial⟩
def S26 (a:List ByteArray) (b:List ByteArray):Spec:=⟨[.r (.c (.l 1 eStr a)),.r (.c (.l 1 eStr b))],.ow (.l 1 eStr (F26 a b)),a.length≤1048576∧b.length≤1048576∧(∀ k:Nat,(a.getD k default).size≤1048576)∧(∀ k:Nat,(b.getD k default).size≤1048576)⟩
theorem ok26 (a:List ByteArray) (b:List ByteArray):(S26 a b).ok Tryz.prog 26 :=
 fnG_ok mixed (fn:=Tryz.f26) (ct:=.seqk [(0,0),(1,0)] .no (.seq (.reg [(0,.dat (.l 1 eStr ([]:List ByteArray)))]) (.seq (.seq (.reg [(1,kh58 a),(5,kh58 b)]) (.cond (.seq .no .no) .no)) (.seq .no (.seqk [(0,0),(1,0),(5,0)] .no (.seq (.blk (.loop (ι:=Nat×(List ByteArray×Int×Int)) (fun i=>(fun (out:List ByteArray) (i40:Int) (k:Int)=>(⟨[(0,some (.h 0 0)),(1,some (.h 1 0)),(5,some (.h 2 0)),(6,some (.v (vI i40))),(7,some (.v (vI k)))],[(0,some (.shr none (.l 1 eStr a))),(1,some (.shr none (.l 1 eStr b))),(2,some (.own 2 (.l 1 eStr out)))],3⟩:St)) i.2.1 i.2.2.1 i.2.2.2) (lJ26_0 a b) (fun i=>i.1) (lN26_0 a b) (fun i=>(fun (out:List ByteArray) (i40:Int) (k:Int)=>(.seq (.seq .no (.cond .no .no)) (.blk (.blk (.seq .no (.cond (.seq (.reg [(7,.dat (.l 1 eStr (out++[(w19_++(a.getD i40.toNat default))])))]) (.reg [(1,.bnd)])) (.seq .no (.cond (.seq (.reg [(7,.dat (.l 1 eStr (out++[(w20_++(b.getD k.toNat default))])))]) (.reg [(1,.bnd)])) (.seq (.reg [(1,.bnd)]) (.reg [(1,.bnd)])))))))))) i.2.1 i.2.2.1 i.2.2.2))) (.seq .no .no))))))) Tryz.func26 (fun (hp:a.length≤1048576∧b.length≤1048576∧(∀ k:Nat,(a.getD k default).size≤1048576)∧(∀ k:Nat,(b.getD k default).size≤1048576))=>have hpre0:=hp.1; have hpre1:=hp.2.1; have hpre2:=hp.2.2.1; have hpre3:=hp.2.2.2; kn a fun _=>kn b fun _=>ai (bokr 1 eStr ([]:List ByteArray) fun _=>rfl) (kc58 a (by first | assumption | exact hpre2 _ | exact fun k _=>hpre2 k | exact hpre3 _ | exact fun k _=>hpre3 k | (intros; exact trivial) | (intros; exact Nat.zero_le _)) (kg58 ((F58 a) != 0) false b (fun k1=>have _:=bneF k1; (by first | assumption | exact hpre2 _ | exact fun k _=>hpre2 k | exact hpre3 _ | exact fun k _=>hpre3 k | (intros; exact trivial) | (intros; exact Nat.zero_le _))) (ifb (bif ((F58 a) != 0) then true else ((F58 b) != 0)) (fun h2=>fi26 a b ([]:List ByteArray) (condT h2 rfl)) (fun h2=>have _:=bneF (orF1 h2); have _:=bneF (orF2 h2); kn a fun _=>kn b fun _=>kn ([]:List ByteArray) fun _=>ai (en26_0 a b (by refine ⟨?_,?_,?_,?_,?_,?_,?_⟩ <;> first | omega | (simp only [lens,ib] at*<;> omega) | omega | (simp only [Bool.cond_true_left,Bool.cond_false_right,Bool.or_eq_true,Bool.and_eq_true,Bool.or_eq_false_iff,Bool.and_eq_false_iff,decide_eq_true_eq,decide_eq_false_iff_not,beq_iff_eq,beq_eq_false_iff_ne,List.length_append,List.length_cons,List.length_nil] at *; omega))) (fun (i0:Nat×(List ByteArray×Int×Int)) (hi0:lJ26_0 a b i0)=>(fun (m0:Nat) (out:List ByteArray) (i40:Int) (k:Int) (hh0:lH26_0 a b i0 m0 out i40 k)=>have hI0:=hh0.1; have hl0:=hh0.2.1; have _:=hh0.2.2.1; have _:=hh0.2.2.2; ifb (bif decide (i40<(a.length:Int)) then true else decide (k<(b.length:Int))) (fun h4=>ai (fun k6:(decide (i40<(a.length:Int)))=true=>have _:=of_decide_eq_true k6; (fun k5:(k==(b.length:Int))=false=>have _:=beqF k5; (by (first | omega | (simp only [Bool.cond_true_left,Bool.cond_false_right,Bool.or_eq_true,Bool.and_eq_true,Bool.or_eq_false_iff,Bool.and_eq_false_iff,decide_eq_true_eq,decide_eq_false_iff_not,beq_iff_eq,beq_eq_false_iff_ne,List.length_append,List.length_cons,List.length_nil] at *; omega)):0≤i40∧i40<(a.length:Int)))) (ai (fun k8:(decide (i40<(a.length:Int)))=true=>have _:=of_decide_eq_true k8; (fun k7:(k==(b.length:Int))=false=>have _:=beqF k7; (by (first | omega | (simp only [Bool.cond_true_left,Bool.cond_false_right,Bool.or_eq_true,Bool.and_eq_true,Bool.or_eq_false_iff,Bool.and_eq_false_iff,decide_eq_true_eq,decide_eq_false_iff_not,beq_iff_eq,beq_eq_false_iff_ne,List.length_append,List.length_cons,List.length_nil] at *; omega)):0≤k∧k<(b.length:Int)))) (ifb (bif (k==(b.length:Int)) then true else (bif decide (i40<(a.length:Int)) then (Op.bytesLess (a.getD i40.toNat default).toList (b.getD k.toNat default).toList) else false)) (fun h9=>ai (by (first | omega | (simp only [Bool.cond_true_left,Bool.cond_false_right,Bool.or_eq_true,Bool.and_eq_true,Bool.or_eq_false_iff,Bool.and_eq_false_iff,decide_eq_true_eq,decide_eq_false_iff_not,beq_iff_eq,beq_eq_false_iff_ne,List.length_append,List.length_cons,List.length_nil] at *; omega)):0≤i40∧i40<(a.length:Int)) (ai (by (have hz:=(by assumption:∀ k:Nat,(a.getD k default).size≤1048576) i40.toNat; have hz2:=(by assumption:∀ k:Nat,(b.getD k default).size≤1048576) k.toNat; have hs1:w19_.size=2:=rfl; have hs2:w20_.size=2:=rfl; omega):((w19_.size+(a.getD i40.toNat default).size:Nat):Int)≤9223372036854775807) (ai (appr 1 eStr out [(w19_++(a.getD i40.toNat default))] fun _=>rfl) (ai (by (try simp only [lens]); omega:(out++[(w19_++(a.getD i40.toNat default))]).length*16≤140737488355328) (ai (iok (i40+1) (by first | omega | (simp only [lens,ib] at*<;> omega))) (bk26_0 a b i0 m0 (out++[(w19_++(a.getD i40.toNat default))]) (i40+1) k hl0 (runL_next hI0 (condT h4 (condT h9 rfl))) (by refine ⟨?_,?_,?_,?_,?_,?_,?_,?_⟩ <;> first | omega | (simp only [lens,ib] at*<;> omega) | omega | (simp only [Bool.cond_true_left,Bool.cond_false_right,Bool.or_eq_true,Bool.and_eq_true,Bool.or_eq_false_iff,Bool.and_eq_false_iff,decide_eq_true_eq,decide_eq_false_iff_not,beq_iff_eq,beq_eq_false_iff_ne,List.length_append,List.length_cons,List.length_nil] at *; omega)))))))) (fun h9=>have _:=beqF (orF1 h9); ai (fun k10:(i40==(a.length:Int))=false=>have _:=beqF k10; (by (first | omega | (simp only [Bool.cond_true_left,Bool.cond_false_right,Bool.or_eq_true,Bool.and_eq_true,Bool.or_eq_false_iff,Bool.and_eq_false_iff,decide_eq_true_eq,decide_eq_false_iff_not,beq_iff_eq,beq_eq_false_iff_ne,List.length_append,List.length_cons,List.length_nil] at *; omega)):0≤k∧k<(b.length:Int))) (ai (fun k11:(i40==(a.length:Int))=false=>have _:=beqF k11; (by (first | omega | (simp only [Bool.cond_true_left,Bool.cond_false_right,Bool.or_eq_true,Bool.and_eq_true,Bool.or_eq_false_iff,Bool.and_eq_false_iff,decide_eq_true_eq,decide_eq_false_iff_not,beq_iff_eq,beq_eq_false_iff_ne,List.length_append,List.length_cons,List.length_nil] at *; omega)):0≤i40∧i40<(a.length:Int))) (ifb (bif (i40==(a.length:Int)) then true else (Op.bytesLess (b.getD k.toNat default).toList (a.getD i40.toNat default).toList)) (fun h12=>ai (by (first | omega | (simp only [Bool.cond_true_left,Bool.cond_false_right,Bool.or_eq_true,Bool.and_eq_true,Bool.or_eq_false_iff,Bool.and_eq_false_iff,decide_eq_true_eq,decide_eq_false_iff_not,beq_iff_eq,beq_eq_false_iff_ne,List.length_append,List.length_cons,List.length_nil] at *; omega)):0≤k∧k<(b.length:Int)) (ai (by (have hz:=(by assumption:∀ k:Nat,(a.getD k default).size≤1048576) i40.toNat; have hz2:=(by assumption:∀ k:Nat,(b.getD k default).size≤1048576) k.toNat; have hs1:w19_.size=2:=rfl; have hs2:w20_.size=2:=rfl; omega):((w20_.size+(b.getD k.toNat default).size:Nat):Int)≤9223372036854775807) (ai (appr 1 eStr out [(w20_++(b.getD k.toNat default))] fun _=>rfl) (ai (by (try simp only [lens]); omega:(out++[(w20_++(b.getD k.toNat default))]).length*16≤140737488355328) (ai (iok (k+1) (by first | omega | (simp only [lens,ib] at*<;> omega))) (bk26_0 a b i0 m0 (out++[(w20_++(b.getD k.toNat default))]) i40 (k+1) hl0 (runL_next hI0 (condT h4 (condF h9 (condT h12 rfl)))) (by refine ⟨?_,?_,?_,?_,?_,?_,?_,?_⟩ <;> first | omega | (simp only [lens,ib] at*<;> omega) | omega | (simp only [Bool.cond_true_left,Bool.cond_false_right,Bool.or_eq_true,Bool.and_eq_true,Bool.or_eq_false_iff,Bool.and_eq_false_iff,decide_eq_true_eq,decide_eq_false_iff_not,beq_iff_eq,beq_eq_false_iff_ne,List.length_append,List.length_cons,List.length_nil] at *; omega)))))))) (fun h12=>have _:=beqF (orF1 h12); have _:=(orF2 h12); ai (iok (i40+1) (by first | omega | (simp only [lens,ib] at*<;> omega))) (ai (iok (k+1) (by first | omega | (simp only [lens,ib] at*<;> omega))) (bk26_0 a b i0 m0 out (i40+1) (k+1) hl0 (runL_next hI0 (condT h4 (condF h9 (condF h12 rfl)))) (by refine ⟨?_,?_,?_,?_,?_,?_,?_,?_⟩ <;> first | omega | (simp only [lens,ib] at*<;> omega) | omega | (simp only [Bool.cond_true_left,Bool.cond_false_right,Bool.or_eq_true,Bool.and_eq_true,Bool.or_eq_false_iff,Bool.and_eq_false_iff,decide_eq_true_eq,decide_eq_false_iff_not,beq_iff_eq,beq_eq_false_iff_ne,List.length_append,List.length_cons,List.length_nil] at *; omega))))))))))) (fun h4=>have _:=of_decide_eq_false (orF1 h4); have _:=of_decide_eq_false (orF2 h4); have hD0_13:lX26_0 a b=Lp.done (out,i40,k):=runL_done hI0 (condF h4 rfl); fi26 a b out (condF h2 (finD hD0_13 rfl)))) (i0.1-1) i0.2.1 i0.2.2.1 i0.2.2.2 (un26_0 a b i0 hi0))))))) (by kernel_rfl)
def mergeD:Nat→List ByteArray→List ByteArray→List (Bool×ByteArray)
 | 0,_,_=>[]
 | _+1,[],[]=>[]
 | n+1,x :: xs,[]=>(true,x) :: mergeD n xs []
 | n+1,[],y :: ys=>(false,y) :: mergeD n [] ys
 | n+1,x :: xs,y :: ys=>bif ltB x y then (true,x) :: mergeD n xs (y :: ys) else bif ltB y x then (false,y) :: mergeD n (x :: xs) ys else mergeD n xs ys
def txtD (z:Bool×ByteArray):ByteArray:=bif z.1 then (⟨#[45,32]⟩:ByteArray)++z.2 else (⟨#[43,32]⟩:ByteArray)++z.2
def SymD (xs ys:List ByteArray) (z:ByteArray):Prop:=(z∈xs∧z ∉ ys)∨(z∈ys∧z ∉ xs)
theorem lt_not_mem {x:ByteArray} {ys:List ByteArray} (h:∀ y∈ys,ltB x y=true):x ∉ ys:=fun hm=>by
 have:=h x hm
 rw [ltB_irrefl] at this
 cases this
theorem lt_ne {x z:ByteArray} (h:ltB x z=true):z≠x:=fun e=>by
 subst e
 rw [ltB_irrefl] at h
 cases h
theorem symD_gt {x:ByteArray} {xs ys:List ByteArray} (h1:∀ z∈xs,ltB x z=true) (h2:∀ z∈ys,ltB x z=true) {z:ByteArray} (h:SymD xs ys z):ltB x z=true:=by
 rcases h with ⟨h,_⟩ | ⟨h,_⟩
 ·exact h1 z h
 ·exact h2 z h
theorem mergeD_ok:∀ (n:Nat) (xs ys:List ByteArray),SortedB xs→SortedB ys→xs.length+ys.length≤n →
  SortedB ((mergeD n xs ys).map (·.2))∧(∀ z,z∈(mergeD n xs ys).map (·.2)↔SymD xs ys z)∧∀ t z,(t,z)∈mergeD n xs ys→t=decide (z∈xs)
 | 0,[],[],_,_,_=>⟨List.Pairwise.nil,fun z=>by simp [mergeD,SymD],fun t z h=>by simp [mergeD] at h⟩
 | 0,x :: xs,ys,_,_,h=>by simp at h
 | 0,[],y :: ys,_,_,h=>by simp at h
 | n+1,[],[],_,_,_=>⟨List.Pairwise.nil,fun z=>by simp [mergeD,SymD],fun t z h=>by simp [mergeD] at h⟩
 | n+1,x :: xs,[],hx,hy,h=>by
  obtain ⟨hx1,hx2⟩:=List.pairwise_cons.1 hx
  obtain ⟨k1,k2,k3⟩:=mergeD_ok n xs [] hx2 hy (by simp at h ⊢; omega)
  rw [mergeD]
  refine ⟨List.pairwise_cons.2 ⟨fun z hz=>symD_gt hx1 (fun _ h=>by cases h) ((k2 z).1 hz),k1⟩,fun z=>?_,fun t z hz=>?_⟩
  ·rw [List.map_cons,List.mem_cons,k2 z]
   simp [SymD]
  ·rcases List.mem_cons.1 hz with e | hz
   ·obtain ⟨rfl,rfl⟩:=Prod.mk.inj e
    simp
   ·have:=k3 t z hz
    have hg:=symD_gt hx1 (fun _ h=>by cases h) ((k2 z).1 (List.mem_map.2 ⟨_,hz,rfl⟩))
    rw [this]
    simp [lt_ne hg]
 | n+1,[],y :: ys,hx,hy,h=>by
  obtain ⟨hy1,hy2⟩:=List.pairwise_cons.1 hy
  obtain ⟨k1,k2,k3⟩:=mergeD_ok n [] ys hx hy2 (by simp at h ⊢; omega)
  rw [mergeD]
  refine ⟨List.pairwise_cons.2 ⟨fun z hz=>symD_gt (fun _ h=>by cases h) hy1 ((k2 z).1 hz),k1⟩,fun z=>?_,fun t z hz=>?_⟩
  ·rw [List.map_cons,List.mem_cons,k2 z]
   simp [SymD]
  ·rcases List.mem_cons.1 hz with e | hz
   ·obtain ⟨rfl,rfl⟩:=Prod.mk.inj e
    simp
   ·exact k3 t z hz
 | n+1,x :: xs,y :: ys,hx,hy,h=>by
  obtain ⟨hx1,hx2⟩:=List.pairwise_cons.1 hx
  obtain ⟨hy1,hy2⟩:=List.pairwise_cons.1 hy
  rw [mergeD]
  cases hl:ltB x y with
  | true =>
   rw [cond_true]
   have hxy:∀ z∈y :: ys,ltB x z=true:=fun z hz=>by
    rcases List.mem_cons.1 hz with rfl | hz
    ·exact hl
    ·exact ltB_trans hl (hy1 z hz)
   obtain ⟨k1,k2,k3⟩:=mergeD_ok n xs (y :: ys) hx2 hy (by simp at h ⊢; omega)
   refine ⟨List.pairwise_cons.2 ⟨fun z hz=>symD_gt hx1 hxy ((k2 z).1 hz),k1⟩,fun z=>?_,fun t z hz=>?_⟩
   ·rw [List.map_cons,List.mem_cons,k2 z]
    constructor
    ·rintro (rfl | hz)
     ·exact .inl ⟨List.mem_cons_self,lt_not_mem hxy⟩
     ·have hne:=lt_ne (symD_gt hx1 hxy hz)
      rcases hz with ⟨h1,h2⟩ | ⟨h1,h2⟩
      ·exact .inl ⟨List.mem_cons_of_mem _ h1,h2⟩
      ·exact .inr ⟨h1,fun hm=>(List.mem_cons.1 hm).elim hne h2⟩
    ·rintro (⟨h1,h2⟩ | ⟨h1,h2⟩)
     ·rcases List.mem_cons.1 h1 with rfl | h1
      ·exact .inl rfl
      ·exact .inr (.inl ⟨h1,h2⟩)
     ·exact .inr (.inr ⟨h1,fun hm=>h2 (List.mem_cons_of_mem _ hm)⟩)
   ·rcases List.mem_cons.1 hz with e | hz
    ·obtain ⟨rfl,rfl⟩:=Prod.mk.inj e
     simp
    ·have hne:=lt_ne (symD_gt hx1 hxy ((k2 z).1 (List.mem_map.2 ⟨_,hz,rfl⟩)))
     rw [k3 t z hz]
     simp [hne]
  | false =>
   rw [cond_false]
   cases hl2:ltB y x with
   | true =>
    rw [cond_true]
    have hyx:∀ z∈x :: xs,ltB y z=true:=fun z hz=>by
     rcases List.mem_cons.1 hz with rfl | hz
     ·exact hl2
     ·exact ltB_trans hl2 (hx1 z hz)
    obtain ⟨k1,k2,k3⟩:=mergeD_ok n (x :: xs) ys hx hy2 (by simp at h ⊢; omega)
    refine ⟨List.pairwise_cons.2 ⟨fun z hz=>symD_gt hyx hy1 ((k2 z).1 hz),k1⟩,fun z=>?_,fun t z hz=>?_⟩
    ·rw [List.map_cons,List.mem_cons,k2 z]
     constructor
     ·rintro (rfl | hz)
      ·exact .inr ⟨List.mem_cons_self,lt_not_mem hyx⟩
      ·have hne:=lt_ne (symD_gt hyx hy1 hz)
       rcases hz with ⟨h1,h2⟩ | ⟨h1,h2⟩
       ·exact .inl ⟨h1,fun hm=>(List.mem_cons.1 hm).elim hne h2⟩
       ·exact .inr ⟨List.mem_cons_of_mem _ h1,h2⟩
     ·rintro (⟨h1,h2⟩ | ⟨h1,h2⟩)
      ·exact .inr (.inl ⟨h1,fun hm=>h2 (List.mem_cons_of_mem _ hm)⟩)
      ·rcases List.mem_cons.1 h1 with rfl | h1
       ·exact .inl rfl
       ·exact .inr (.inr ⟨h1,h2⟩)
    ·rcases List.mem_cons.1 hz with e | hz
     ·obtain ⟨rfl,rfl⟩:=Prod.mk.inj e
      exact (decide_eq_false (lt_not_mem hyx)).symm
     ·exact k3 t z hz
   | false =>
    rw [cond_false]
    have e:x=y:=by
     rcases ltB_tri x y with h | h | h
     ·rw [hl] at h; cases h
     ·exact h
     ·rw [hl2] at h; cases h
    subst e
    obtain ⟨k1,k2,k3⟩:=mergeD_ok n xs ys hx2 hy2 (by simp at h ⊢; omega)
    refine ⟨k1,fun z=>?_,fun t z hz=>?_⟩
    ·rw [k2 z]
     constructor
     ·intro hz
      have hne:=lt_ne (symD_gt hx1 hy1 hz)
      rcases hz with ⟨h1,h2⟩ | ⟨h1,h2⟩
      ·exact .inl ⟨List.mem_cons_of_mem _ h1,fun hm=>(List.mem_cons.1 hm).elim hne h2⟩
      ·exact .inr ⟨List.mem_cons_of_mem _ h1,fun hm=>(List.mem_cons.1 hm).elim hne h2⟩
     ·rintro (⟨h1,h2⟩ | ⟨h1,h2⟩)
      ·rcases List.mem_cons.1 h1 with rfl | h1
       ·exact absurd List.mem_cons_self h2
       ·exact .inl ⟨h1,fun hm=>h2 (List.mem_cons_of_mem _ hm)⟩
      ·rcases List.mem_cons.1 h1 with rfl | h1
       ·exact absurd List.mem_cons_self h2
       ·exact .inr ⟨h1,fun hm=>h2 (List.mem_cons_of_mem _ hm)⟩
    ·have hne:=lt_ne (symD_gt hx1 hy1 ((k2 z).1 (List.mem_map.2 ⟨_,hz,rfl⟩)))
     rw [k3 t z hz]
     simp [hne]
theorem drop_at (xs:List ByteArray) (i:Nat) (h:i<xs.length):xs.drop i=xs.getD i default :: xs.drop (i+1):=by
 rw [List.drop_eq_getElem_cons h,List.getD_eq_getElem?_getD,List.getElem?_eq_getElem h]; rfl
theorem diff_loop (a b:List ByteArray) (ha:a.length≤16) (hb:b.length≤16):∀ (n i k:Nat) (out:List ByteArray),i≤a.length→k≤b.length→(a.length-i)+(b.length-k)≤n→∀ fuel,n<fuel →
  (runL (F26_s0 a b) fuel (out,(i:Int),(k:Int))).fin (fun r=>r) (fun (x:List ByteArray×Int×Int)=>x.1)=out++(mergeD n (a.drop i) (b.drop k)).map txtD
 | n,i,k,out,hi,hk,hn,0,hf=>absurd hf (Nat.not_lt_zero _)
 | n,i,k,out,hi,hk,hn,fuel+1,hf=>by
  by_cases h1:i<a.length
  ·obtain ⟨n,rfl⟩:∃ m,n=m+1:=⟨n-1,by omega⟩
   have d1:=drop_at a i h1
   by_cases h2:k<b.length
   ·have d2:=drop_at b k h2
    have e:F26_s0 a b (out,(i:Int),(k:Int))=bif ltB (a.getD i default) (b.getD k default) then .next (out++[(⟨#[45,32]⟩:ByteArray)++a.getD i default],((i+1:Nat):Int),(k:Int)) else bif ltB (b.getD k default) (a.getD i default) then .next (out++[(⟨#[43,32]⟩:ByteArray)++b.getD k default],(i:Int),((k+1:Nat):Int)) else .next (out,((i+1:Nat):Int),((k+1:Nat):Int)):=by
     simp only [F26_s0,ltD h1,cond_true,nn,show ((k:Int)==(b.length:Int))=false from beq_eq_false_iff_ne.2 (by omega),show ((i:Int)==(a.length:Int))=false from beq_eq_false_iff_ne.2 (by omega),cond_false]
     rfl
    rw [d1,d2,mergeD]
    cases hl:ltB (a.getD i default) (b.getD k default) with
    | true =>
     rw [hl,cond_true] at e
     rw [runL_n _ e,diff_loop a b ha hb n (i+1) k _ (by omega) hk (by omega) fuel (by omega),cond_true,List.map_cons,List.append_assoc,← d2]; rfl
    | false =>
     rw [hl,cond_false] at e
     rw [cond_false]
     cases hl2:ltB (b.getD k default) (a.getD i default) with
     | true =>
      rw [hl2,cond_true] at e
      rw [runL_n _ e,diff_loop a b ha hb n i (k+1) _ hi (by omega) (by omega) fuel (by omega),cond_true,List.map_cons,List.append_assoc,← d1]; rfl
     | false =>
      rw [hl2,cond_false] at e
      rw [runL_n _ e,diff_loop a b ha hb n (i+1) (k+1) _ (by omega) (by omega) (by omega) fuel (by omega),cond_false]
   ·obtain rfl:k=b.length:=by omega
    have e:F26_s0 a b (out,(i:Int),(b.length:Int))=.next (out++[(⟨#[45,32]⟩:ByteArray)++a.getD i default],((i+1:Nat):Int),(b.length:Int)):=by
     simp only [F26_s0,ltD h1,cond_true,nn,show ((b.length:Int)==(b.length:Int))=true from beq_self_eq_true _]
     rfl
    have d2:b.drop b.length=[]:=List.drop_of_length_le (Nat.le_refl _)
    rw [runL_n _ e,diff_loop a b ha hb n (i+1) b.length _ (by omega) (Nat.le_refl _) (by omega) fuel (by omega),d1,d2,mergeD,List.map_cons,List.append_assoc]; rfl
  ·obtain rfl:i=a.length:=by omega
   have d1:a.drop a.length=[]:=List.drop_of_length_le (Nat.le_refl _)
   by_cases h2:k<b.length
   ·obtain ⟨n,rfl⟩:∃ m,n=m+1:=⟨n-1,by omega⟩
    have d2:=drop_at b k h2
    have e:F26_s0 a b (out,(a.length:Int),(k:Int))=.next (out++[(⟨#[43,32]⟩:ByteArray)++b.getD k default],(a.length:Int),((k+1:Nat):Int)):=by
     simp only [F26_s0,geD,ltD h2,cond_true,cond_false,nn,show ((k:Int)==(b.length:Int))=false from beq_eq_false_iff_ne.2 (by omega),show ((a.length:Int)==(a.length:Int))=true from beq_self_eq_true _]
     rfl
    rw [runL_n _ e,diff_loop a b ha hb n a.length (k+1) _ (Nat.le_refl _) (by omega) (by omega) fuel (by omega),d1,d2,mergeD,List.map_cons,List.append_assoc]; rfl
   ·obtain rfl:k=b.length:=by omega
    have e:F26_s0 a b (out,(a.length:Int),(b.length:Int))=.done (out,(a.length:Int),(b.length:Int)):=by
     simp only [F26_s0,geD,cond_false]
    have d2:b.drop b.length=[]:=List.drop_of_length_le (Nat.le_refl _)
    rw [runL_d _ e,d1,d2]
    cases n <;> simp only [mergeD,List.map_nil,List.append_nil] <;> rfl
theorem diff_same (a b:List ByteArray):F25 a b=F26 a b:=by
 unfold F25 F26
 have e:∀ x:List ByteArray,(!F73 x)=(F58 x != 0):=fun x=>by unfold F73; rw [neat_same]; rfl
 rw [e,e]
 cases hn:(bif F58 a != 0 then true else F58 b != 0) with
 | true=>rfl
 | false =>
  rw [cond_false,cond_false]
  obtain ⟨na,nb⟩:F58 a=0∧F58 b=0:=by
   cases h1:(F58 a != 0) with
   | true=>rw [h1,cond_true] at hn; cases hn
   | false=>rw [h1,cond_false] at hn; exact ⟨by simpa using h1,by simpa using hn⟩
  have la:=neat_len a na
  have lb:=neat_len b nb
  have sa:=neat_sorted a na
  have sb:=neat_sorted b nb
  have hl:=diff_loop a b la lb (((a.length:Int)-0)+((b.length:Int)-0)).toNat 0 0 [] (Nat.zero_le _) (Nat.zero_le _) (by omega) _ (Nat.lt_succ_self _)
  refine Eq.trans ?_ hl.symm
  obtain ⟨k1,k2,k3⟩:=mergeD_ok (((a.length:Int)-0)+((b.length:Int)-0)).toNat a b sa sb (by omega)
  rw [List.drop_zero,List.drop_zero,List.nil_append]
  generalize mergeD (((a.length:Int)-0)+((b.length:Int)-0)).toNat a b=D at k1 k2 k3
  have hj:F74 a b=D.map (·.2):=by
   refine sorted_ext ?_ k1 fun z=>by rw [justOne_mem,k2 z]; rfl
   rw [justOne_eq]
   refine sortS_sorted _ ?_
   rw [List.nodup_iff_pairwise_ne,List.filter_append]
   refine List.pairwise_append.2 ⟨(sorted_nodup sa).filter _,(sorted_nodup sb).filter _,fun x hx y hy e=>?_⟩
   subst e
   obtain ⟨x1,x2⟩:=List.mem_filter.1 hx
   obtain ⟨y1,_⟩:=List.mem_filter.1 hy
   unfold oneP at x2
   simp [x1,y1] at x2
  have hf:=fold_loop0 (F74 a b) (fun (s:List ByteArray) x=>s++[txtD (decide (x∈a),x)]) (fun s i=>(s,i)) (F25_s0 a b) (fun i s hi=>by
   simp only [F25_s0,ltD hi,cond_true,nn,implHas_mem]
   unfold txtD
   cases decide ((F74 a b).getD i default∈a) <;> rfl) (fun s=>by simp only [F25_s0,geD,cond_false]) (fun r=>r) (fun (x:List ByteArray×Int)=>x.1) []
  refine hf.trans ?_
  rw [foldl_map' (fun x=>txtD (decide (x∈a),x)),List.nil_append,hj,List.map_map]
  refine List.map_congr_left fun z hz=>?_
  obtain ⟨t,z⟩:=z
  show txtD (decide (z∈a),z)=txtD (t,z)
  rw [k3 t z hz]




def F99_s0 (lines:List ByteArray) (key:ByteArray):Int→Lp Int Int:=fun i40 =>
 bif (decide (i40<(lines.length:Int))) then (bif ((F14 (lines.getD i40.toNat default)).toList==key.toList) then (.ret i40) else (.next (i40+1))) else (.done i40)
def F99 (lines:List ByteArray) (key:ByteArray):Int :=
 (runL (F99_s0 lines key) (((lines.length:Int)-0).toNat+1) 0).fin (fun r=>r) (fun i40=>(-1))
abbrev lN99_0 (lines:List ByteArray):Nat×Int:=((((lines.length:Int)-0).toNat+1),0)
abbrev lI99_0 (lines:List ByteArray) (m39:Nat) (i40:Int):Prop:=Int.toNat ((lines.length:Int)-i40)<m39∧(0:Int)≤i40
abbrev lX99_0 (lines:List ByteArray) (key:ByteArray):Lp Int Int:=LpX (F99_s0 lines key) (lN99_0 lines)
abbrev lJ99_0 (lines:List ByteArray) (key:ByteArray) (i:Nat×Int):Prop:=LpJ (F99_s0 lines key) (lN99_0 lines) i (lI99_0 lines i.1 i.2)
abbrev lH99_0 (lines:List ByteArray) (key:ByteArray) (i:Nat×Int) (m39:Nat) (i40:Int):Prop:=LpH (F99_s0 lines key) (lN99_0 lines) i m39 i40 (lI99_0 lines (m39+1) i40)
abbrev lE99_0 (lines:List ByteArray) (key:ByteArray) (i40:Int) (i40_:Int) (K39:Prop):Prop:=(Rf (.string key))∧((.int .i64 i40:Value)=.int .i64 i40_)∧(Im (.l 1 eStr lines))∧K39
theorem un99_0 (lines:List ByteArray) (key:ByteArray) (i:Nat×Int) (h:lJ99_0 lines key i):lH99_0 lines key i (i.1-1) i.2:=⟨hd1 h.1 h.2.1,hd3 h.2.1,hd2 h.2.1,h.2.2⟩
theorem bk99_0 (lines:List ByteArray) (key:ByteArray) (i:Nat×Int) (m39:Nat) (i40:Int) (hl:m39<i.1) (e:runL (F99_s0 lines key) m39 i40=lX99_0 lines key) (h:lI99_0 lines m39 i40):∃ j:Nat×Int,lE99_0 lines key i40 j.2 (lJ99_0 lines key j∧j.1<i.1):=⟨(m39,i40),rfl,rfl,Imp.refl _,⟨e,h⟩,hl⟩
theorem en99_0 (lines:List ByteArray) (key:ByteArray) (h:(0:Int)≤0):lE99_0 lines key 0 0 (lJ99_0 lines key (lN99_0 lines)):=⟨rfl,rfl,Imp.refl _,rfl,Nat.lt_succ_self _,h⟩
def S99 (lines:List ByteArray) (key:ByteArray):Spec:=⟨[.r (.c (.l 1 eStr lines)),.r (.c (.v (.string key)))],.v (vI (F99 lines key)),(∀ k:Nat,(lines.getD k default).size≤1048576)⟩
theorem ok99 (lines:List ByteArray) (key:ByteArray):(S99 lines key).ok Tryz.prog 99 :=
 fnG_ok mixed (fn:=Tryz.f99) (ct:=.seqk [(0,0)] .no (.seq (.seqk [(0,0)] .no (.blk (.loop (ι:=Nat×Int) (fun i=>(fun (i40:Int)=>(⟨[(0,some (.h 0 0)),(1,some (.v (.string key))),(5,some (.v (vI i40)))],[(0,some (.shr none (.l 1 eStr lines)))],1⟩:St)) i.2) (lJ99_0 lines key) (fun i=>i.1) (lN99_0 lines) (fun i=>(fun (i40:Int)=>(.seq (.seq .no (.cond .no .no)) (.seq (.blk (.seq (.reg [(4,kh14 (lines.getD i40.toNat default))]) (.cond (.seq .no .no) .no))) (.reg [(1,.bnd)])))) i.2)))) (.seq .no .no))) Tryz.func99 (fun (hpre0:∀ k:Nat,(lines.getD k default).size≤1048576)=>kn lines fun _=>kn lines fun _=>ai (en99_0 lines key (by omega)) (fun (i0:Nat×Int) (hi0:lJ99_0 lines key i0)=>(fun (m0:Nat) (i40:Int) (hh0:lH99_0 lines key i0 m0 i40)=>have hI0:=hh0.1; have hl0:=hh0.2.1; have _:=hh0.2.2.1; have _:=hh0.2.2.2; ifd (i40<(lines.length:Int)) (fun h2 _=>ai (by omega:ib i40 lines) (kc14 (lines.getD i40.toNat default) (by first | omega | exact hpre0 _ | (intros; exact trivial) | (intros; exact Nat.zero_le _)) (ifb ((F14 (lines.getD i40.toNat default)).toList==key.toList) (fun h3=>fiI i40 (F99 lines key) (finR (runL_ret hI0 (condT h2 (condT h3 rfl))) rfl)) (fun h3=>ai (iok (i40+1) (by omega)) (bk99_0 lines key i0 m0 (i40+1) hl0 (runL_next hI0 (condT h2 (condF h3 rfl))) (by refine ⟨?_,?_⟩ <;> omega)))))) (fun h2 _=>have hD0_4:lX99_0 lines key=Lp.done i40:=runL_done hI0 (condF h2 rfl); fiI (-1) (F99 lines key) (finD hD0_4 rfl))) (i0.1-1) i0.2 (un99_0 lines key i0 hi0))) (by kernel_rfl)
def F79_s0 (lines:List ByteArray) (line:ByteArray):Int→Lp Int (List ByteArray):=fun k400 =>
 bif (bif decide (k400<(lines.length:Int)) then (Op.bytesLess (lines.getD k400.toNat default).toList line.toList) else false) then (.next (k400+1)) else (.done k400)
def F79_j0 (lines:List ByteArray) (line:ByteArray):Lp Int (List ByteArray) :=
 (runL (F79_s0 lines line) (((lines.length:Int)-0).toNat+1) 0).fin Lp.ret (fun k400=>.done k400)
def F79 (lines:List ByteArray) (line:ByteArray):List ByteArray :=
 (F79_j0 lines line).fin (fun r=>r) (fun k=>(((([]:List ByteArray)++(lines.take k.toNat))++[line])++(lines.drop k.toNat)))
abbrev lN79_0 (lines:List ByteArray):Nat×Int:=((((lines.length:Int)-0).toNat+1),0)
abbrev lI79_0 (lines:List ByteArray) (m39:Nat) (k400:Int):Prop:=Int.toNat ((lines.length:Int)-k400)<m39∧(0:Int)≤k400∧k400≤(lines.length:Int)∧(0:Int)≤k400
abbrev lX79_0 (lines:List ByteArray) (line:ByteArray):Lp Int (List ByteArray):=LpX (F79_s0 lines line) (lN79_0 lines)
abbrev lJ79_0 (lines:List ByteArray) (line:ByteArray) (i:Nat×Int):Prop:=LpJ (F79_s0 lines line) (lN79_0 lines) i (lI79_0 lines i.1 i.2)
abbrev lH79_0 (lines:List ByteArray) (line:ByteArray) (i:Nat×Int) (m39:Nat) (k400:Int):Prop:=LpH (F79_s0 lines line) (lN79_0 lines) i m39 k400 (lI79_0 lines (m39+1) k400)
abbrev lE79_0 (lines:List ByteArray) (line:ByteArray) (k400:Int) (k400_:Int) (K39:Prop):Prop:=(Rf (.string line))∧((.int .i64 k400:Value)=.int .i64 k400_)∧(Im (.l 1 eStr lines))∧K39
theorem un79_0 (lines:List ByteArray) (line:ByteArray) (i:Nat×Int) (h:lJ79_0 lines line i):lH79_0 lines line i (i.1-1) i.2:=⟨hd1 h.1 h.2.1,hd3 h.2.1,hd2 h.2.1,h.2.2⟩
theorem bk79_0 (lines:List ByteArray) (line:ByteArray) (i:Nat×Int) (m39:Nat) (k400:Int) (hl:m39<i.1) (e:runL (F79_s0 lines line) m39 k400=lX79_0 lines line) (h:lI79_0 lines m39 k400):∃ j:Nat×Int,lE79_0 lines line k400 j.2 (lJ79_0 lines line j∧j.1<i.1):=⟨(m39,k400),rfl,rfl,Imp.refl _,⟨e,h⟩,hl⟩
theorem en79_0 (lines:List ByteArray) (line:ByteArray) (h:(0:Int)≤0∧0≤(lines.length:Int)∧(0:Int)≤0):lE79_0 lines line 0 0 (lJ79_0 lines line (lN79_0 lines)):=⟨rfl,rfl,Imp.refl _,rfl,Nat.lt_succ_self _,h⟩
abbrev jI79_0 (lines:List ByteArray) (line:ByteArray) (k:Int):Prop:=0≤k∧k≤(lines.length:Int)
abbrev jJ79_0 (lines:List ByteArray) (line:ByteArray) (j:Int):Prop:=(F79_j0 lines line)=Lp.done j∧jI79_0 lines line j
theorem jn79_0 (lines:List ByteArray) (line:ByteArray) (k:Int) (e:(F79_j0 lines line)=Lp.done k) (h:jI79_0 lines line k):∃ j:Int,((.string line:Value)=.string line)∧((.int .i64 k:Value)=.int .i64 j)∧(Imp (.l 1 eStr lines) (.l 1 eStr lines))∧jJ79_0 lines line j:=⟨k,rfl,rfl,Imp.refl _,e,h⟩
theorem fi79 (lines:List ByteArray) (line:ByteArray) (r:List ByteArray) (hF:r=(F79 lines line)):(Imp (.l 1 eStr r) (.l 1 eStr (F79 lines line)))∧True:=by cases hF; exact ⟨Imp.refl _,trivial⟩
def S79 (lines:List ByteArray) (line:ByteArray):Spec:=⟨[.r (.c (.l 1 eStr lines)),.r (.c (.v (.string line)))],.ow (.l 1 eStr (F79 lines line)),lines.length≤1048576∧(∀ k:Nat,(lines.getD k default).size≤1048576)⟩
theorem ok79 (lines:List ByteArray) (line:ByteArray):(S79 lines line).ok Tryz.prog 79 :=
 fnG_ok mixed (fn:=Tryz.f79) (ct:=.seqk [(0,0)] .no (.seqk [(0,0)] .no (.cut (ι:=Int) (fun j=>(fun (k:Int)=>(⟨[(0,some (.h 0 0)),(1,some (.v (.string line))),(5,some (.v (vI k)))],[(0,some (.shr none (.l 1 eStr lines)))],1⟩:St)) j) (jJ79_0 lines line) (.blk (.loop (ι:=Nat×Int) (fun i=>(fun (k400:Int)=>(⟨[(0,some (.h 0 0)),(1,some (.v (.string line))),(5,some (.v (vI k400)))],[(0,some (.shr none (.l 1 eStr lines)))],1⟩:St)) i.2) (lJ79_0 lines line) (fun i=>i.1) (lN79_0 lines) (fun i=>(fun (k400:Int)=>(.seq (.seq .no (.cond .no .no)) (.blk (.reg [(1,.bnd)])))) i.2))) (fun j=>(fun (k:Int)=>(.seq (.reg [(0,.dat (.l 1 eStr ([]:List ByteArray))),(4,.dat (.l 1 eStr (([]:List ByteArray)++(lines.take k.toNat)))),(7,.dat (.l 1 eStr ((([]:List ByteArray)++(lines.take k.toNat))++[line]))),(11,.dat (.l 1 eStr (((([]:List ByteArray)++(lines.take k.toNat))++[line])++(lines.drop k.toNat))))]) .no)) j)))) Tryz.func79 (fun (hp:lines.length≤1048576∧(∀ k:Nat,(lines.getD k default).size≤1048576))=>have hpre0:=hp.1; have hpre1:=hp.2; kn lines fun _=>kn lines fun _=>ai (ai (en79_0 lines line (by refine ⟨?_,?_,?_⟩ <;> first | omega | (simp only [lens,ib] at*<;> omega) | omega | (simp only [Bool.cond_true_left,Bool.cond_false_right,Bool.or_eq_true,Bool.and_eq_true,Bool.or_eq_false_iff,Bool.and_eq_false_iff,decide_eq_true_eq,decide_eq_false_iff_not,beq_iff_eq,beq_eq_false_iff_ne,List.length_append,List.length_cons,List.length_nil] at *; omega))) (fun (i0:Nat×Int) (hi0:lJ79_0 lines line i0)=>(fun (m0:Nat) (k400:Int) (hh0:lH79_0 lines line i0 m0 k400)=>have hI0:=hh0.1; have hl0:=hh0.2.1; have _:=hh0.2.2.1; have _:=hh0.2.2.2; ai (fun k2:(decide (k400<(lines.length:Int)))=true=>have _:=of_decide_eq_true k2; (by (first | omega | (simp only [Bool.cond_true_left,Bool.cond_false_right,Bool.or_eq_true,Bool.and_eq_true,Bool.or_eq_false_iff,Bool.and_eq_false_iff,decide_eq_true_eq,decide_eq_false_iff_not,beq_iff_eq,beq_eq_false_iff_ne,List.length_append,List.length_cons,List.length_nil] at *; omega)):0≤k400∧k400<(lines.length:Int))) (ifb (bif decide (k400<(lines.length:Int)) then (Op.bytesLess (lines.getD k400.toNat default).toList line.toList) else false) (fun h3=>have _:=of_decide_eq_true (andT1 h3); have _:=(andT2 h3); ai (iok (k400+1) (by first | omega | (simp only [lens,ib] at*<;> omega))) (bk79_0 lines line i0 m0 (k400+1) hl0 (runL_next hI0 (condT h3 rfl)) (by refine ⟨?_,?_,?_,?_⟩ <;> first | omega | (simp only [lens,ib] at*<;> omega) | omega | (simp only [Bool.cond_true_left,Bool.cond_false_right,Bool.or_eq_true,Bool.and_eq_true,Bool.or_eq_false_iff,Bool.and_eq_false_iff,decide_eq_true_eq,decide_eq_false_iff_not,beq_iff_eq,beq_eq_false_iff_ne,List.length_append,List.length_cons,List.length_nil] at *; omega)))) (fun h3=>have hD0_4:lX79_0 lines line=Lp.done k400:=runL_done hI0 (condF h3 rfl); jn79_0 lines line k400 (Eq.symm (finD hD0_4 rfl)) (by refine ⟨?_,?_⟩ <;> first | omega | (simp only [lens,ib] at*<;> omega))))) (i0.1-1) i0.2 (un79_0 lines line i0 hi0))) (fun (j:Int) (hj:jJ79_0 lines line j)=>(fun (k:Int) (hJ0_5:(F79_j0 lines line)=Lp.done k) (hw:jI79_0 lines line k)=>have _:=hw.1; have _:=hw.2; ai (bokr 1 eStr ([]:List ByteArray) fun _=>rfl) (ai (by first | omega | (simp only [lens,ib] at*<;> omega):0≤(0:Int)∧(0:Int)≤k∧k≤(lines.length:Int)) (ai (AppL.mk eStr ([]:List ByteArray) (lines.take k.toNat) (Imp.refl (.l 1 eStr ([]:List ByteArray))) ir (fun y=>⟨rfl,fun e he=>by simp only [eStr,List.mem_cons,List.not_mem_nil,or_false] at he; rcases he with rfl <;> exact ⟨_,rfl⟩⟩):AppL (.l 1 eStr ([]:List ByteArray)) (.l 1 eStr (lines.take k.toNat)) 1 (.l 1 eStr (([]:List ByteArray)++(lines.take k.toNat)))) (ai (by (try simp only [lens]); omega:(([]:List ByteArray)++(lines.take k.toNat)).length*16≤140737488355328) (ai (appr 1 eStr (([]:List ByteArray)++(lines.take k.toNat)) [line] fun _=>rfl) (ai (by (try simp only [lens]); omega:((([]:List ByteArray)++(lines.take k.toNat))++[line]).length*16≤140737488355328) (ai (by first | omega | (simp only [lens,ib] at*<;> omega):0≤k∧k≤(lines.length:Int)∧(lines.length:Int)≤(lines.length:Int)) (ai (AppL.mk eStr ((([]:List ByteArray)++(lines.take k.toNat))++[line]) (lines.drop k.toNat) (Imp.refl (.l 1 eStr ((([]:List ByteArray)++(lines.take k.toNat))++[line]))) ir (fun y=>⟨rfl,fun e he=>by simp only [eStr,List.mem_cons,List.not_mem_nil,or_false] at he; rcases he with rfl <;> exact ⟨_,rfl⟩⟩):AppL (.l 1 eStr ((([]:List ByteArray)++(lines.take k.toNat))++[line])) (.l 1 eStr (lines.drop k.toNat)) 1 (.l 1 eStr (((([]:List ByteArray)++(lines.take k.toNat))++[line])++(lines.drop k.toNat)))) (ai (by (try simp only [lens]); omega:(((([]:List ByteArray)++(lines.take k.toNat))++[line])++(lines.drop k.toNat)).length*16≤140737488355328) (fi79 lines line (((([]:List ByteArray)++(lines.take k.toNat))++[line])++(lines.drop k.toNat)) (finD hJ0_5 rfl))))))))))) j hj.1 hj.2)) (by kernel_rfl)
theorem put_at (lines:List ByteArray) (line:ByteArray):∀ (m i:Nat),i+m=lines.length→(∀ j,j<i→ltB (lines.getD j default) line=true)→∀ fuel,m<fuel →
  ∃ k:Nat,k≤lines.length∧(runL (F79_s0 lines line) fuel (i:Int)).fin Lp.ret (fun k=>.done k)=(.done (k:Int):Lp Int (List ByteArray))∧(∀ j,j<k→ltB (lines.getD j default) line=true)∧(k<lines.length→ltB (lines.getD k default) line=false)
 | m,i,_,_,0,hf=>absurd hf (Nat.not_lt_zero _)
 | 0,i,h,hb,fuel+1,hf=>by
  obtain rfl:i=lines.length:=by omega
  have e:F79_s0 lines line (lines.length:Int)=.done (lines.length:Int):=by
   simp only [F79_s0,geD,cond_false]
  exact ⟨lines.length,Nat.le_refl _,by rw [runL_d _ e]; rfl,hb,fun h=>absurd h (Nat.lt_irrefl _)⟩
 | m+1,i,h,hb,fuel+1,hf=>by
  have e:F79_s0 lines line (i:Int)=bif ltB (lines.getD i default) line then .next ((i+1:Nat):Int) else .done (i:Int):=by
   simp only [F79_s0,ltD (show i<lines.length by omega),cond_true,nn]
   rfl
  cases hl:ltB (lines.getD i default) line with
  | true =>
   rw [hl,cond_true] at e
   rw [runL_n _ e]
   exact put_at lines line m (i+1) (by omega) (fun j hj=>by
    rcases Nat.lt_or_ge j i with h1 | h1
    ·exact hb j h1
    ·obtain rfl:j=i:=by omega
     exact hl) fuel (by omega)
  | false =>
   rw [hl,cond_false] at e
   exact ⟨i,by omega,by rw [runL_d _ e]; rfl,hb,fun _=>hl⟩
theorem put_eq (lines:List ByteArray) (line:ByteArray):∃ k:Nat,k≤lines.length∧F79 lines line=lines.take k++line :: lines.drop k∧(∀ j,j<k→ltB (lines.getD j default) line=true)∧(k<lines.length→ltB (lines.getD k default) line=false):=by
 obtain ⟨k,h1,h2,h3,h4⟩:=put_at lines line lines.length 0 (by omega) (fun j h=>absurd h (Nat.not_lt_zero _)) (Int.toNat ((lines.length:Int)-0)+1) (by omega)
 refine ⟨k,h1,?_,h3,h4⟩
 unfold F79 F79_j0
 refine (congrArg (fun z:Lp Int (List ByteArray)=>z.fin (fun r=>r) (fun k=>(((([]:List ByteArray)++(lines.take k.toNat))++[line])++(lines.drop k.toNat)))) h2).trans ?_
 show ((([]:List ByteArray)++(lines.take (k:Int).toNat))++[line])++(lines.drop (k:Int).toNat)=_
 rw [Int.toNat_natCast]
 simp
theorem put_len (lines:List ByteArray) (line:ByteArray):(F79 lines line).length=lines.length+1:=by
 obtain ⟨k,h1,h2,_⟩:=put_eq lines line
 rw [h2]
 simp
 omega
theorem put_mem {lines:List ByteArray} {line z:ByteArray}:z∈F79 lines line↔z=line∨z∈lines:=by
 obtain ⟨k,h1,h2,_⟩:=put_eq lines line
 rw [h2,List.mem_append,List.mem_cons]
 conv=>rhs; rhs; rw [← List.take_append_drop k lines,List.mem_append]
 constructor
 ·rintro (h | h | h)
  ·exact .inr (.inl h)
  ·exact .inl h
  ·exact .inr (.inr h)
 ·rintro (h | h | h)
  ·exact .inr (.inl h)
  ·exact .inl h
  ·exact .inr (.inr h)
theorem put_sz (lines:List ByteArray) (line:ByteArray) (h:∀ k:Nat,(lines.getD k default).size≤1048576) (hl:line.size≤1048576):∀ k:Nat,((F79 lines line).getD k default).size≤1048576 :=
 getD_sz fun x hx=>by
  rcases put_mem.1 hx with rfl | hx
  ·exact hl
  ·exact mem_sz h hx
structure ConfFault where
 Line:Int
 Code:Int
 deriving DecidableEq,Inhabited
theorem kc99 (lines:List ByteArray) (key:ByteArray) {K_:Prop} (p0_:∀ k:Nat,(lines.getD k default).size≤1048576) (k_:K_):(∀ k:Nat,(lines.getD k default).size≤1048576)∧(Imp (.l 1 eStr lines) (.l 1 eStr lines))∧(Imp (.v (.string key)) (.v (.string key)))∧K_:=⟨p0_,Imp.refl _,Imp.refl _,k_⟩
abbrev kh99 (lines:List ByteArray) (key:ByteArray):Hint true Tryz.prog:=.call 99 (S99 lines key) (ok99 lines key) none
theorem kc79 (lines:List ByteArray) (line:ByteArray) {K_:Prop} (p0_:lines.length≤1048576) (p1_:∀ k:Nat,(lines.getD k default).size≤1048576) (q0_:∀ k:Nat,(lines.getD k default).size≤1048576) (q1_:line.size≤1048576) (k_:((F79 lines line).length=lines.length+1)→(∀ k:Nat,((F79 lines line).getD k default).size≤1048576)→K_):(lines.length≤1048576∧(∀ k:Nat,(lines.getD k default).size≤1048576))∧(Imp (.l 1 eStr lines) (.l 1 eStr lines))∧(Imp (.v (.string line)) (.v (.string line)))∧K_:=⟨⟨p0_,p1_⟩,Imp.refl _,Imp.refl _,k_ (put_len lines line) (put_sz lines line q0_ q1_)⟩
abbrev kh79 (lines:List ByteArray) (line:ByteArray):Hint true Tryz.prog:=.call 79 (S79 lines line) (ok79 lines line) none

theorem kc19 (lines:List ByteArray) {K_:Prop} (p0_:lines.length≤1048576) (p1_:∀ k:Nat,(lines.getD k default).size≤1048576) (k_:K_):(lines.length≤1048576∧(∀ k:Nat,(lines.getD k default).size≤1048576))∧(Imp (.l 1 eStr lines) (.l 1 eStr lines))∧K_:=⟨⟨p0_,p1_⟩,Imp.refl _,k_⟩
abbrev kh19 (lines:List ByteArray):Hint true Tryz.prog:=.call 19 (S19 lines) (ok19 lines) none

theorem key_idx (out:List ByteArray) (k:ByteArray):F99 out k=idxI (fun l:ByteArray=>(F14 l).toList==k.toList) out:=idx_loop (fun l:ByteArray=>(F14 l).toList==k.toList) out (F99_s0 out k) (fun i=>rfl)
theorem key_lt (out:List ByteArray) (k:ByteArray):F99 out k<(out.length:Int):=by rw [key_idx]; exact idxI_lt _ _
def F81_s0 (lines:List ByteArray) (user:ByteArray):Int→Lp Int (List ByteArray×Bool):=fun v11 =>
 bif (decide (v11<((linesL lines (⟨#[117,115,101,114]⟩:ByteArray)).length:Int))) then (bif ((((linesL lines (⟨#[117,115,101,114]⟩:ByteArray)).getD (Int.toNat v11) default).getD (Int.toNat 1) default).toList==user.toList) then (.ret ((F129 (((linesL lines (⟨#[117,115,101,114]⟩:ByteArray)).getD (Int.toNat v11) default).getD (Int.toNat 2) default)).1,(F129 (((linesL lines (⟨#[117,115,101,114]⟩:ByteArray)).getD (Int.toNat v11) default).getD (Int.toNat 2) default)).2)) else (.next (v11+1))) else (.done v11)
def F81 (lines:List ByteArray) (user:ByteArray):List ByteArray×Bool :=
 (runL (F81_s0 lines user) ((Int.toNat (((linesL lines (⟨#[117,115,101,114]⟩:ByteArray)).length:Int)-0))+1) 0).fin (fun r=>r) (fun v11=>(([]:List ByteArray),false))
abbrev lN81_0 (lines:List ByteArray):Nat×Int:=(((Int.toNat (((linesL lines (⟨#[117,115,101,114]⟩:ByteArray)).length:Int)-0))+1),0)
abbrev lI81_0 (lines:List ByteArray) (m39:Nat) (v11:Int):Prop:=Int.toNat (((linesL lines (⟨#[117,115,101,114]⟩:ByteArray)).length:Int)-v11)<m39∧(0:Int)≤v11
abbrev lX81_0 (lines:List ByteArray) (user:ByteArray):Lp Int (List ByteArray×Bool):=LpX (F81_s0 lines user) (lN81_0 lines)
abbrev lJ81_0 (lines:List ByteArray) (user:ByteArray) (i:Nat×Int):Prop:=LpJ (F81_s0 lines user) (lN81_0 lines) i (lI81_0 lines i.1 i.2)
abbrev lH81_0 (lines:List ByteArray) (user:ByteArray) (i:Nat×Int) (m39:Nat) (v11:Int):Prop:=LpH (F81_s0 lines user) (lN81_0 lines) i m39 v11 (lI81_0 lines (m39+1) v11)
abbrev lE81_0 (lines:List ByteArray) (user:ByteArray) (v11:Int) (v11_:Int) (K39:Prop):Prop:=(Rf (.string user))∧(Rf (.int .i64 ((linesL lines (⟨#[117,115,101,114]⟩:ByteArray)).length:Int)))∧((.int .i64 v11:Value)=.int .i64 v11_)∧(Im (.l 1 (eL 1 eStr) (linesL lines (⟨#[117,115,101,114]⟩:ByteArray))))∧K39
theorem un81_0 (lines:List ByteArray) (user:ByteArray) (i:Nat×Int) (h:lJ81_0 lines user i):lH81_0 lines user i (i.1-1) i.2:=⟨hd1 h.1 h.2.1,hd3 h.2.1,hd2 h.2.1,h.2.2⟩
theorem bk81_0 (lines:List ByteArray) (user:ByteArray) (i:Nat×Int) (m39:Nat) (v11:Int) (hl:m39<i.1) (e:runL (F81_s0 lines user) m39 v11=lX81_0 lines user) (h:lI81_0 lines m39 v11):∃ j:Nat×Int,lE81_0 lines user v11 j.2 (lJ81_0 lines user j∧j.1<i.1):=⟨(m39,v11),rfl,rfl,rfl,Imp.refl _,⟨e,h⟩,hl⟩
theorem en81_0 (lines:List ByteArray) (user:ByteArray) (h:(0:Int)≤0):lE81_0 lines user 0 0 (lJ81_0 lines user (lN81_0 lines)):=⟨rfl,rfl,rfl,Imp.refl _,rfl,Nat.lt_succ_self _,h⟩
theorem fi81 (lines:List ByteArray) (user:ByteArray) (r:List ByteArray×Bool) (hF:r=(F81 lines user)):(Imp (.l 1 eStr r.1) (.l 1 eStr (F81 lines user).1))∧((.bool r.2:Value)=.bool (F81 lines user).2)∧True:=by cases hF; exact ⟨Imp.refl _,rfl,trivial⟩
def S81 (lines:List ByteArray) (user:ByteArray):Spec:=⟨[.r (.c (.l 1 eStr lines)),.r (.c (.v (.string user)))],.tu [.ow (.l 1 eStr (F81 lines user).1),.v (.bool (F81 lines user).2)],F58 lines=0∧lines.length≤16∧(∀ k:Nat,(lines.getD k default).size≤1048576)⟩
theorem ok81 (lines:List ByteArray) (user:ByteArray):(S81 lines user).ok Tryz.prog 81 :=
 fnG_ok mixed (fn:=Tryz.f81) (ct:=.seqk [(0,0)] .no (.seq (.seqk [(9,0)] (.reg [(1,kh103a lines (⟨#[117,115,101,114]⟩:ByteArray))]) (.blk (.loop (ι:=Nat×Int) (fun i=>(fun (v11:Int)=>(⟨[(1,some (.v (.string user))),(9,some (.h 0 0)),(10,some (.v (vI ((linesL lines (⟨#[117,115,101,114]⟩:ByteArray)).length:Int)))),(11,some (.v (vI v11)))],[(0,some (.own 0 (.l 1 (eL 1 eStr) (linesL lines (⟨#[117,115,101,114]⟩:ByteArray)))))],1⟩:St)) i.2) (lJ81_0 lines user) (fun i=>i.1) (lN81_0 lines) (fun i=>(fun (v11:Int)=>(.seq .no (.seq (.cond .no .no) (.seq (.blk (.seq .no (.seq .no (.cond (.seq (.reg [(3,kh129 (((linesL lines (⟨#[117,115,101,114]⟩:ByteArray)).getD (Int.toNat v11) default).getD (Int.toNat 2) default))]) .no) .no)))) (.reg [(0,.bnd)]))))) i.2)))) (.seq .no .no))) Tryz.func81 (fun (hp:F58 lines=0∧lines.length≤16∧(∀ k:Nat,(lines.getD k default).size≤1048576))=>have hpre0:=hp.1; have hpre1:=hp.2.1; have hpre2:=hp.2.2; kn lines fun _=>kc103a lines (⟨#[117,115,101,114]⟩:ByteArray) (by omega) (by first | assumption | exact hpre2 _ | exact fun k _=>hpre2 k | (intros; exact trivial) | (intros; exact Nat.zero_le _)) (by omega) (fun gv1=>kn (linesL lines (⟨#[117,115,101,114]⟩:ByteArray)) fun _=>ai (en81_0 lines user (by omega)) (fun (i0:Nat×Int) (hi0:lJ81_0 lines user i0)=>(fun (m0:Nat) (v11:Int) (hh0:lH81_0 lines user i0 m0 v11)=>have hI0:=hh0.1; have hl0:=hh0.2.1; have _:=hh0.2.2.1; have _:=hh0.2.2.2; ifd (v11<((linesL lines (⟨#[117,115,101,114]⟩:ByteArray)).length:Int)) (fun h3 _=>ai (by (first | omega | (have h9:=user_at lines (by omega) (Int.toNat v11) (by omega); unfold userP at h9; omega)):0≤v11∧v11<((linesL lines (⟨#[117,115,101,114]⟩:ByteArray)).length:Int)) (ai (by (first | omega | (have h9:=user_at lines (by omega) (Int.toNat v11) (by omega); unfold userP at h9; omega)):0≤(1:Int)∧(1:Int)<(((linesL lines (⟨#[117,115,101,114]⟩:ByteArray)).getD (Int.toNat v11) default).length:Int)) (ifb ((((linesL lines (⟨#[117,115,101,114]⟩:ByteArray)).getD (Int.toNat v11) default).getD (Int.toNat 1) default).toList==user.toList) (fun h4=>ai (by (first | omega | (have h9:=user_at lines (by omega) (Int.toNat v11) (by omega); unfold userP at h9; omega)):0≤(2:Int)∧(2:Int)<(((linesL lines (⟨#[117,115,101,114]⟩:ByteArray)).getD (Int.toNat v11) default).length:Int)) (kc129 (((linesL lines (⟨#[117,115,101,114]⟩:ByteArray)).getD (Int.toNat v11) default).getD (Int.toNat 2) default) (by exact linesL_sz lines _ (by omega) _ _) (fi81 lines user ((F129 (((linesL lines (⟨#[117,115,101,114]⟩:ByteArray)).getD (Int.toNat v11) default).getD (Int.toNat 2) default)).1,(F129 (((linesL lines (⟨#[117,115,101,114]⟩:ByteArray)).getD (Int.toNat v11) default).getD (Int.toNat 2) default)).2) (finR (runL_ret hI0 (condT h3 (condT h4 rfl))) rfl)))) (fun h4=>ai (iok (v11+1) (by omega)) (bk81_0 lines user i0 m0 (v11+1) hl0 (runL_next hI0 (condT h3 (condF h4 rfl))) (by refine ⟨?_,?_⟩ <;> omega)))))) (fun h3 _=>have hD0_5:lX81_0 lines user=Lp.done v11:=runL_done hI0 (condF h3 rfl); (fun hF:(([]:List ByteArray),false)=(F81 lines user)=>ai ((Imp.nil 1 eStr).trans (Imp.of_eq (congrArg (fun r:List ByteArray×Bool=>Dat.l 1 eStr r.1) hF))) (ai (congrArg (fun r:List ByteArray×Bool=>(.bool r.2:Value)) hF) trivial)) (finD hD0_5 rfl))) (i0.1-1) i0.2 (un81_0 lines user i0 hi0)))) (by kernel_rfl)
def F78 (lines:List ByteArray) (key:ByteArray):ByteArray :=
 bif (decide ((F99 lines key)<0)) then (⟨#[]⟩:ByteArray) else (lines.getD (Int.toNat (F99 lines key)) default)
def S78 (lines:List ByteArray) (key:ByteArray):Spec:=⟨[.r (.c (.l 1 eStr lines)),.r (.c (.v (.string key)))],.v (.string (F78 lines key)),(∀ k:Nat,(lines.getD k default).size≤1048576)⟩
theorem ok78 (lines:List ByteArray) (key:ByteArray):(S78 lines key).ok Tryz.prog 78 :=
 fnG_ok mixed (fn:=Tryz.f78) (ct:=.seqk [(0,0)] .no (.seq (.reg [(2,kh99 lines key)]) (.seq (.seq .no (.cond (.seq .no .no) .no)) (.seq .no .no)))) Tryz.func78 (fun (hpre0:∀ k:Nat,(lines.getD k default).size≤1048576)=>kn lines fun _=>kc99 lines key (by first | assumption | exact hpre0 _ | exact fun k _=>hpre0 k | (intros; exact trivial) | (intros; exact Nat.zero_le _)) (have gv1:(F99 lines key)<(lines.length:Int):=(by exact key_lt _ _); ifd ((F99 lines key)<0) (fun h2 _=>fiS w13_ (F78 lines key) (condT h2 rfl)) (fun h2 _=>ai (by omega:ib (F99 lines key) lines) (fiS (lines.getD (Int.toNat (F99 lines key)) default) (F78 lines key) (condF h2 rfl))))) (by kernel_rfl)
def F83 (line:ByteArray) (k:Int):ByteArray :=
 bif (decide (k<((F11 line).1.length:Int))) then ((F11 line).1.getD (Int.toNat k) default) else (⟨#[]⟩:ByteArray)
def S83 (line:ByteArray) (k:Int):Spec:=⟨[.r (.c (.v (.string line))),.r (.c (.v (vI k)))],.v (.string (F83 line k)),line.size≤1048576∧0≤k⟩
theorem ok83 (line:ByteArray) (k:Int):(S83 line k).ok Tryz.prog 83 :=
 fnG_ok mixed (fn:=Tryz.f83) (ct:=.seq .no (.seq (.reg [(1,kh11 line)]) (.seq (.seq .no (.cond (.seq .no .no) .no)) (.seq .no .no)))) Tryz.func83 (fun (hp:line.size≤1048576∧0≤k)=>have hpre0:=hp.1; have hpre1:=hp.2; kc11 line (by omega) (fun gv1 gv2=>ifd (k<((F11 line).1.length:Int)) (fun h3 _=>ai (by omega:ib k (F11 line).1) (fiS ((F11 line).1.getD (Int.toNat k) default) (F83 line k) (condT h3 rfl))) (fun h3 _=>fiS w13_ (F83 line k) (condF h3 rfl)))) (by kernel_rfl)
theorem of_sz (lines:List ByteArray) (key:ByteArray) (h:∀ k:Nat,(lines.getD k default).size≤1048576):(F78 lines key).size≤1048576:=by
 unfold F78
 cases decide (F99 lines key<0) with
 | true=>exact Nat.zero_le _
 | false=>exact h _
theorem word_sz (line:ByteArray) (k:Int):(F83 line k).size≤1048576:=by
 unfold F83
 cases decide (k<((F11 line).1.length:Int)) with
 | true=>exact specwords_sz line _
 | false=>exact Nat.zero_le _
theorem specLine_200 (line:ByteArray):(F9 line).1.size≤200:=by
 unfold F9
 rw [specJoin_eq,← words_same]
 cases (bif (!((F10 line).2)) then true else (!(F36 ((F10 line).1)))) with
 | true=>exact Nat.zero_le _
 | false =>
  have h:=join_sz (F10 line).1 (⟨#[32]⟩:ByteArray) 24 (words_sz24 line)
  have hl:=words_len line
  have h2:(F10 line).1.length*(24+(⟨#[32]⟩:ByteArray).size)≤8*25:=Nat.mul_le_mul_right 25 hl
  show (joinS (F10 line).1 (⟨#[32]⟩:ByteArray)).size≤200
  omega
theorem neat_200 (lines:List ByteArray) (h:F58 lines=0):∀ l∈lines,l.size≤200:=fun l hl=>by
 have hk:=(nt_facts lines h).2 l hl
 have:=specLine_200 l
 rw [((kept_iff l).1 hk).2] at this
 exact this
theorem diff_D (a b:List ByteArray) (na:F58 a=0) (nb:F58 b=0):∃ D:List (Bool×ByteArray),F26 a b=D.map txtD∧F74 a b=D.map (·.2):=by
 have hi:F25 a b=(F74 a b).map fun x=>txtD (decide (x∈a),x):=by
  unfold F25
  have e:∀ x:List ByteArray,(!F73 x)=(F58 x != 0):=fun x=>by unfold F73; rw [neat_same]; rfl
  rw [e,e,na,nb]
  have hf:=fold_loop0 (F74 a b) (fun (s:List ByteArray) x=>s++[txtD (decide (x∈a),x)]) (fun s i=>(s,i)) (F25_s0 a b) (fun i s hi=>by
   simp only [F25_s0,ltD hi,cond_true,nn,implHas_mem]
   unfold txtD
   cases decide ((F74 a b).getD i default∈a) <;> rfl) (fun s=>by simp only [F25_s0,geD,cond_false]) (fun r=>r) (fun (x:List ByteArray×Int)=>x.1) []
  refine Eq.trans hf ?_
  rw [foldl_map' (fun x=>txtD (decide (x∈a),x)),List.nil_append]
 refine ⟨(F74 a b).map fun x=>(decide (x∈a),x),?_,?_⟩
 ·rw [← diff_same,hi,List.map_map]; rfl
 ·rw [List.map_map]
  exact (List.map_id _).symm
theorem diff_sz (a b:List ByteArray):∀ k:Nat,((F26 a b).getD k default).size≤1048576:=getD_sz fun x hx=>by
 cases hn:(bif F58 a != 0 then true else F58 b != 0) with
 | true =>
  unfold F26 at hx
  rw [hn,cond_true] at hx
  cases hx
 | false =>
  obtain ⟨na,nb⟩:F58 a=0∧F58 b=0:=by
   cases h1:(F58 a != 0) with
   | true=>rw [h1,cond_true] at hn; cases hn
   | false=>rw [h1,cond_false] at hn; exact ⟨by simpa using h1,by simpa using hn⟩
  obtain ⟨D,e1,e2⟩:=diff_D a b na nb
  rw [e1] at hx
  obtain ⟨⟨t,z⟩,hz,rfl⟩:=List.mem_map.1 hx
  have hz2:z∈F74 a b:=by rw [e2]; exact List.mem_map.2 ⟨_,hz,rfl⟩
  have h200:z.size≤200:=by
   rcases justOne_mem.1 hz2 with h | h
   ·exact neat_200 a na z h.1
   ·exact neat_200 b nb z h.1
  unfold txtD
  cases t
  ·show ((⟨#[43,32]⟩:ByteArray)++z).size≤1048576
   rw [ByteArray.size_append]
   have:(⟨#[43,32]⟩:ByteArray).size=2:=rfl
   omega
  ·show ((⟨#[45,32]⟩:ByteArray)++z).size≤1048576
   rw [ByteArray.size_append]
   have:(⟨#[45,32]⟩:ByteArray).size=2:=rfl
   omega
theorem kc81 (lines:List ByteArray) (user:ByteArray) {K_:Prop} (p0_:F58 lines=0) (p1_:lines.length≤16) (p2_:∀ k:Nat,(lines.getD k default).size≤1048576) (k_:K_):(F58 lines=0∧lines.length≤16∧(∀ k:Nat,(lines.getD k default).size≤1048576))∧(Imp (.l 1 eStr lines) (.l 1 eStr lines))∧(Imp (.v (.string user)) (.v (.string user)))∧K_:=⟨⟨p0_,p1_,p2_⟩,Imp.refl _,Imp.refl _,k_⟩
abbrev kh81f (lines:List ByteArray) (user:ByteArray):Hint false Tryz.prog:=.call 81 (S81 lines user) ((ok81 lines user).to false) none
theorem kg75 {K_:Prop} (c_ b_:Bool) (s:List ByteArray) (v1:ByteArray) (k_:K_):(c_=b_→True)∧(c_=b_→Imp (.l 1 eStr s) (.l 1 eStr s))∧(c_=b_→Imp (.v (.string v1)) (.v (.string v1)))∧K_:=⟨fun _=>trivial,fun _=>Imp.refl _,fun _=>Imp.refl _,k_⟩
def F29_s0 (now:List ByteArray) (next:List ByteArray) (user:ByteArray):Int→Lp Int Bool:=fun v34 =>
 bif (decide (v34<((F74 now next).length:Int))) then (bif (bif (!(F75 (F81 now user).1 ⟨#[97,108,108]⟩)) then (!(F75 (F81 now user).1 (F38 ((F74 now next).getD (Int.toNat v34) default) ⟨#[32]⟩).1)) else false) then (.ret false) else (.next (v34+1))) else (.done v34)
def F29 (now:List ByteArray) (next:List ByteArray) (user:ByteArray):Bool :=
 bif (bif (!(F73 now)) then true else (!(F73 next))) then false else (bif (!(F81 now user).2) then false else ((runL (F29_s0 now next user) ((Int.toNat (((F74 now next).length:Int)-0))+1) 0).fin (fun r=>r) (fun v34=>true)))
abbrev lN29_0 (now:List ByteArray) (next:List ByteArray):Nat×Int:=(((Int.toNat (((F74 now next).length:Int)-0))+1),0)
abbrev lI29_0 (now:List ByteArray) (next:List ByteArray) (m39:Nat) (v34:Int):Prop:=Int.toNat (((F74 now next).length:Int)-v34)<m39∧(0:Int)≤v34
abbrev lX29_0 (now:List ByteArray) (next:List ByteArray) (user:ByteArray):Lp Int Bool:=LpX (F29_s0 now next user) (lN29_0 now next)
abbrev lJ29_0 (now:List ByteArray) (next:List ByteArray) (user:ByteArray) (i:Nat×Int):Prop:=LpJ (F29_s0 now next user) (lN29_0 now next) i (lI29_0 now next i.1 i.2)
abbrev lH29_0 (now:List ByteArray) (next:List ByteArray) (user:ByteArray) (i:Nat×Int) (m39:Nat) (v34:Int):Prop:=LpH (F29_s0 now next user) (lN29_0 now next) i m39 v34 (lI29_0 now next (m39+1) v34)
abbrev lE29_0 (now:List ByteArray) (next:List ByteArray) (user:ByteArray) (v34:Int) (v34_:Int) (K39:Prop):Prop:=(Rf (.int .i64 ((F74 now next).length:Int)))∧((.int .i64 v34:Value)=.int .i64 v34_)∧(Im (.l 1 eStr (F81 now user).1))∧(Im (.l 1 eStr (F74 now next)))∧K39
theorem un29_0 (now:List ByteArray) (next:List ByteArray) (user:ByteArray) (i:Nat×Int) (h:lJ29_0 now next user i):lH29_0 now next user i (i.1-1) i.2:=⟨hd1 h.1 h.2.1,hd3 h.2.1,hd2 h.2.1,h.2.2⟩
theorem bk29_0 (now:List ByteArray) (next:List ByteArray) (user:ByteArray) (i:Nat×Int) (m39:Nat) (v34:Int) (hl:m39<i.1) (e:runL (F29_s0 now next user) m39 v34=lX29_0 now next user) (h:lI29_0 now next m39 v34):∃ j:Nat×Int,lE29_0 now next user v34 j.2 (lJ29_0 now next user j∧j.1<i.1):=⟨(m39,v34),rfl,rfl,Imp.refl _,Imp.refl _,⟨e,h⟩,hl⟩
theorem en29_0 (now:List ByteArray) (next:List ByteArray) (user:ByteArray) (h:(0:Int)≤0):lE29_0 now next user 0 0 (lJ29_0 now next user (lN29_0 now next)):=⟨rfl,rfl,Imp.refl _,Imp.refl _,rfl,Nat.lt_succ_self _,h⟩
def S29 (now:List ByteArray) (next:List ByteArray) (user:ByteArray):Spec:=⟨[.r (.c (.l 1 eStr now)),.r (.c (.l 1 eStr next)),.r (.c (.v (.string user)))],.v (.bool (F29 now next user)),now.length≤1048576∧next.length≤1048576∧(∀ k:Nat,(now.getD k default).size≤1048576)∧(∀ k:Nat,(next.getD k default).size≤1048576)⟩
theorem ok29 (now:List ByteArray) (next:List ByteArray) (user:ByteArray):(S29 now next user).ok Tryz.prog 29 false :=
 fnG_ok mixed (fn:=Tryz.f29) (ct:=.seqk [(0,0),(1,0)] .no (.seq (.seq (.reg [(1,kh73 now),(5,kh73 next)]) (.cond (.seq .no .no) .no)) (.seq (.reg [(2,kh81f now user)]) (.seq (.seq .no (.cond (.seq .no .no) .no)) (.seq (.seqk [(7,0),(32,0)] (.reg [(2,kh74f now next)]) (.blk (.loop (ι:=Nat×Int) (fun i=>(fun (v34:Int)=>(⟨[(7,some (.h 0 0)),(32,some (.h 1 0)),(33,some (.v (vI ((F74 now next).length:Int)))),(34,some (.v (vI v34)))],[(0,some (.own 0 (.l 1 eStr (F81 now user).1))),(1,some (.own 1 (.l 1 eStr (F74 now next))))],2⟩:St)) i.2) (lJ29_0 now next user) (fun i=>i.1) (lN29_0 now next) (fun i=>(fun (v34:Int)=>(.seq .no (.seq (.cond .no .no) (.seq (.blk (.seq .no (.seq (.reg [(1,kh38f ((F74 now next).getD (Int.toNat v34) default) w15_)]) (.seq (.reg [(1,kh75f (F81 now user).1 w11_),(6,kh75f (F81 now user).1 (F38 ((F74 now next).getD (Int.toNat v34) default) w15_).1)]) (.cond (.seq .no .no) .no))))) (.reg [(0,.bnd)]))))) i.2)))) (.seq .no .no)))))) Tryz.func29 (fun (hp:now.length≤1048576∧next.length≤1048576∧(∀ k:Nat,(now.getD k default).size≤1048576)∧(∀ k:Nat,(next.getD k default).size≤1048576))=>have hpre0:=hp.1; have hpre1:=hp.2.1; have hpre2:=hp.2.2.1; have hpre3:=hp.2.2.2; kn now fun _=>kn next fun _=>kc73 now (by omega) (by first | assumption | exact hpre2 _ | exact fun k _=>hpre2 k | exact hpre3 _ | exact fun k _=>hpre3 k | (intros; exact trivial) | (intros; exact Nat.zero_le _)) (kg73 (!(F73 now)) false next (fun k1=>⟨(by omega),(by first | assumption | exact hpre2 _ | exact fun k _=>hpre2 k | exact hpre3 _ | exact fun k _=>hpre3 k | (intros; exact trivial) | (intros; exact Nat.zero_le _))⟩) (ifb (bif (!(F73 now)) then true else (!(F73 next))) (fun h2=>fiB false (F29 now next user) (condT h2 rfl)) (fun h2=>kc81 now user (by first | assumption | exact neatI _ (neat2 (by assumption)).1 | exact neatI_len _ (neat2 (by assumption)).1) (by first | assumption | exact neatI _ (neat2 (by assumption)).1 | exact neatI_len _ (neat2 (by assumption)).1) (by first | assumption | exact neatI _ (neat2 (by assumption)).1 | exact neatI_len _ (neat2 (by assumption)).1) (ifb (!(F81 now user).2) (fun h3=>have _:=(notET h3); fiB false (F29 now next user) (condF h2 (condT h3 rfl))) (fun h3=>have _:=(notEF h3); kc74 now next (by first | assumption | exact neatI_len _ (neat2 (by assumption)).1 | exact neatI_len _ (neat2 (by assumption)).2) (by first | assumption | exact neatI_len _ (neat2 (by assumption)).1 | exact neatI_len _ (neat2 (by assumption)).2) (by first | assumption | exact neatI_len _ (neat2 (by assumption)).1 | exact neatI_len _ (neat2 (by assumption)).2) (by first | assumption | exact neatI_len _ (neat2 (by assumption)).1 | exact neatI_len _ (neat2 (by assumption)).2) (by first | assumption | exact neatI_len _ (neat2 (by assumption)).1 | exact neatI_len _ (neat2 (by assumption)).2) (by first | assumption | exact neatI_len _ (neat2 (by assumption)).1 | exact neatI_len _ (neat2 (by assumption)).2) (by first | assumption | exact neatI_len _ (neat2 (by assumption)).1 | exact neatI_len _ (neat2 (by assumption)).2) (by first | assumption | exact neatI_len _ (neat2 (by assumption)).1 | exact neatI_len _ (neat2 (by assumption)).2) (fun gv4 gv5=>kn (F81 now user).1 fun _=>kn (F74 now next) fun _=>ai (en29_0 now next user (by omega)) (fun (i0:Nat×Int) (hi0:lJ29_0 now next user i0)=>(fun (m0:Nat) (v34:Int) (hh0:lH29_0 now next user i0 m0 v34)=>have hI0:=hh0.1; have hl0:=hh0.2.1; have _:=hh0.2.2.1; have _:=hh0.2.2.2; ifd (v34<((F74 now next).length:Int)) (fun h7 _=>ai (by omega:ib v34 (F74 now next)) (kc38 ((F74 now next).getD (Int.toNat v34) default) w15_ (by first | decide | (have hz:=(by assumption:∀ k:Nat,((F74 now next).getD k default).size≤1048576) (Int.toNat v34); omega)) (fun gv8 gv9=>kc75 (F81 now user).1 w11_ (kg75 (!(F75 (F81 now user).1 w11_)) true (F81 now user).1 (F38 ((F74 now next).getD (Int.toNat v34) default) w15_).1 (ifb (bif (!(F75 (F81 now user).1 w11_)) then (!(F75 (F81 now user).1 (F38 ((F74 now next).getD (Int.toNat v34) default) w15_).1)) else false) (fun h11=>fiB false (F29 now next user) (condF h2 (condF h3 (finR (runL_ret hI0 (condT h7 (condT h11 rfl))) rfl)))) (fun h11=>ai (iok (v34+1) (by omega)) (bk29_0 now next user i0 m0 (v34+1) hl0 (runL_next hI0 (condT h7 (condF h11 rfl))) (by refine ⟨?_,?_⟩ <;> omega)))))))) (fun h7 _=>have hD0_12:lX29_0 now next user=Lp.done v34:=runL_done hI0 (condF h7 rfl); fiB true (F29 now next user) (condF h2 (condF h3 (finD hD0_12 rfl))))) (i0.1-1) i0.2 (un29_0 now next user i0 hi0))))))))) (by kernel_rfl)
theorem kc78 (lines:List ByteArray) (key:ByteArray) {K_:Prop} (p0_:∀ k:Nat,(lines.getD k default).size≤1048576) (k_:K_):(∀ k:Nat,(lines.getD k default).size≤1048576)∧(Imp (.l 1 eStr lines) (.l 1 eStr lines))∧(Imp (.v (.string key)) (.v (.string key)))∧K_:=⟨p0_,Imp.refl _,Imp.refl _,k_⟩
abbrev kh78 (lines:List ByteArray) (key:ByteArray):Hint true Tryz.prog:=.call 78 (S78 lines key) (ok78 lines key) none
theorem kc83 (line:ByteArray) (k:Int) {K_:Prop} (p0_:line.size≤1048576) (p1_:0≤k) (k_:K_):(line.size≤1048576∧0≤k)∧(Imp (.v (.string line)) (.v (.string line)))∧(Imp (.v (vI k)) (.v (vI k)))∧K_:=⟨⟨p0_,p1_⟩,Imp.refl _,Imp.refl _,k_⟩
abbrev kh83 (line:ByteArray) (k:Int):Hint true Tryz.prog:=.call 83 (S83 line k) (ok83 line k) none
theorem kc26 (a:List ByteArray) (b:List ByteArray) {K_:Prop} (p0_:a.length≤1048576) (p1_:b.length≤1048576) (p2_:∀ k:Nat,(a.getD k default).size≤1048576) (p3_:∀ k:Nat,(b.getD k default).size≤1048576) (k_:K_):(a.length≤1048576∧b.length≤1048576∧(∀ k:Nat,(a.getD k default).size≤1048576)∧(∀ k:Nat,(b.getD k default).size≤1048576))∧(Imp (.l 1 eStr a) (.l 1 eStr a))∧(Imp (.l 1 eStr b) (.l 1 eStr b))∧K_:=⟨⟨p0_,p1_,p2_,p3_⟩,Imp.refl _,Imp.refl _,k_⟩
abbrev kh26 (a:List ByteArray) (b:List ByteArray):Hint true Tryz.prog:=.call 26 (S26 a b) (ok26 a b) none
theorem kg85 {K_:Prop} (c_ b_:Bool) (s:ByteArray) (at':Int) (p_:c_=b_→s.size≤1048576) (k_:K_):(c_=b_→s.size≤1048576)∧(c_=b_→Imp (.v (.string s)) (.v (.string s)))∧(c_=b_→Imp (.v (.int .u8 at')) (.v (.int .u8 at')))∧K_:=⟨p_,fun _=>Imp.refl _,fun _=>Imp.refl _,k_⟩
theorem kg83 {K_:Prop} (c_ b_:Bool) (line:ByteArray) (k:Int) (p_:c_=b_→line.size≤1048576∧0≤k) (k_:K_):(c_=b_→line.size≤1048576∧0≤k)∧(c_=b_→Imp (.v (.string line)) (.v (.string line)))∧(c_=b_→Imp (.v (vI k)) (.v (vI k)))∧K_:=⟨p_,fun _=>Imp.refl _,fun _=>Imp.refl _,k_⟩
theorem kg84 {K_:Prop} (c_ b_:Bool) (list:List ByteArray) (s:ByteArray) (k_:K_):(c_=b_→True)∧(c_=b_→Imp (.l 1 eStr list) (.l 1 eStr list))∧(c_=b_→Imp (.v (.string s)) (.v (.string s)))∧K_:=⟨fun _=>trivial,fun _=>Imp.refl _,fun _=>Imp.refl _,k_⟩
abbrev w22_:ByteArray:=⟨#[117,115,101,114,32]⟩
def F30_s0 (now:List ByteArray) (next:List ByteArray) (user:ByteArray):Int→Lp Int Bool:=fun i40 =>
 bif (decide (i40<((F26 now next).length:Int))) then (bif (bif (!((F83 (F78 now ((⟨#[117,115,101,114,32]⟩:ByteArray)++user)) 2).toList==(⟨#[97,108,108]⟩:ByteArray).toList)) then (!(F84 (F85 (F83 (F78 now ((⟨#[117,115,101,114,32]⟩:ByteArray)++user)) 2) 44) (F83 ((F26 now next).getD (Int.toNat i40) default) 1))) else false) then (.ret false) else (.next (i40+1))) else (.done i40)
def F30 (now:List ByteArray) (next:List ByteArray) (user:ByteArray):Bool :=
 bif (bif (bif ((F58 now) != 0) then true else ((F58 next) != 0)) then true else (!(F82 user))) then false else (bif ((F78 now ((⟨#[117,115,101,114,32]⟩:ByteArray)++user)).toList==(⟨#[]⟩:ByteArray).toList) then false else ((runL (F30_s0 now next user) ((Int.toNat (((F26 now next).length:Int)-0))+1) 0).fin (fun r=>r) (fun i40=>true)))
abbrev lN30_0 (now:List ByteArray) (next:List ByteArray):Nat×Int:=(((Int.toNat (((F26 now next).length:Int)-0))+1),0)
abbrev lI30_0 (now:List ByteArray) (next:List ByteArray) (m39:Nat) (i40:Int):Prop:=Int.toNat (((F26 now next).length:Int)-i40)<m39∧(0:Int)≤i40
abbrev lX30_0 (now:List ByteArray) (next:List ByteArray) (user:ByteArray):Lp Int Bool:=LpX (F30_s0 now next user) (lN30_0 now next)
abbrev lJ30_0 (now:List ByteArray) (next:List ByteArray) (user:ByteArray) (i:Nat×Int):Prop:=LpJ (F30_s0 now next user) (lN30_0 now next) i (lI30_0 now next i.1 i.2)
abbrev lH30_0 (now:List ByteArray) (next:List ByteArray) (user:ByteArray) (i:Nat×Int) (m39:Nat) (i40:Int):Prop:=LpH (F30_s0 now next user) (lN30_0 now next) i m39 i40 (lI30_0 now next (m39+1) i40)
abbrev lE30_0 (now:List ByteArray) (next:List ByteArray) (user:ByteArray) (i40:Int) (i40_:Int) (K39:Prop):Prop:=(Rf (.string (F83 (F78 now (w22_++user)) 2)))∧((.int .i64 i40:Value)=.int .i64 i40_)∧(Im (.l 1 eStr (F26 now next)))∧K39
theorem un30_0 (now:List ByteArray) (next:List ByteArray) (user:ByteArray) (i:Nat×Int) (h:lJ30_0 now next user i):lH30_0 now next user i (i.1-1) i.2:=⟨hd1 h.1 h.2.1,hd3 h.2.1,hd2 h.2.1,h.2.2⟩
theorem bk30_0 (now:List ByteArray) (next:List ByteArray) (user:ByteArray) (i:Nat×Int) (m39:Nat) (i40:Int) (hl:m39<i.1) (e:runL (F30_s0 now next user) m39 i40=lX30_0 now next user) (h:lI30_0 now next m39 i40):∃ j:Nat×Int,lE30_0 now next user i40 j.2 (lJ30_0 now next user j∧j.1<i.1):=⟨(m39,i40),rfl,rfl,Imp.refl _,⟨e,h⟩,hl⟩
theorem en30_0 (now:List ByteArray) (next:List ByteArray) (user:ByteArray) (h:(0:Int)≤0):lE30_0 now next user 0 0 (lJ30_0 now next user (lN30_0 now next)):=⟨rfl,rfl,Imp.refl _,rfl,Nat.lt_succ_self _,h⟩
def S30 (now:List ByteArray) (next:List ByteArray) (user:ByteArray):Spec:=⟨[.r (.c (.l 1 eStr now)),.r (.c (.l 1 eStr next)),.r (.c (.v (.string user)))],.v (.bool (F30 now next user)),now.length≤1048576∧next.length≤1048576∧user.size≤1048576∧(∀ k:Nat,(now.getD k default).size≤1048576)∧(∀ k:Nat,(next.getD k default).size≤1048576)⟩
theorem ok30 (now:List ByteArray) (next:List ByteArray) (user:ByteArray):(S30 now next user).ok Tryz.prog 30 :=
 fnG_ok mixed (fn:=Tryz.f30) (ct:=.seqk [(0,0),(1,0)] .no (.seq (.seq (.reg [(1,kh58 now),(5,kh58 next),(10,kh82 user)]) (.cond (.seq .no .no) .no)) (.seq (.reg [(3,kh78 now (w22_++user))]) (.seq (.seq .no (.cond (.seq .no .no) .no)) (.seq (.reg [(1,kh83 (F78 now (w22_++user)) 2)]) (.seq (.reg [(2,kh26 now next)]) (.seq (.seqk [(9,0)] .no (.blk (.loop (ι:=Nat×Int) (fun i=>(fun (i40:Int)=>(⟨[(8,some (.v (.string (F83 (F78 now (w22_++user)) 2)))),(9,some (.h 0 0)),(10,some (.v (vI i40)))],[(0,some (.own 0 (.l 1 eStr (F26 now next))))],1⟩:St)) i.2) (lJ30_0 now next user) (fun i=>i.1) (lN30_0 now next) (fun i=>(fun (i40:Int)=>(.seq (.seq .no (.cond .no .no)) (.seq (.blk (.seq (.reg [(4,kh85 (F83 (F78 now (w22_++user)) 2) 44),(9,kh83 ((F26 now next).getD (Int.toNat i40) default) 1),(10,kh84 (F85 (F83 (F78 now (w22_++user)) 2) 44) (F83 ((F26 now next).getD (Int.toNat i40) default) 1))]) (.cond (.seq .no .no) .no))) (.reg [(1,.bnd)])))) i.2)))) (.seq .no .no)))))))) Tryz.func30 (fun (hp:now.length≤1048576∧next.length≤1048576∧user.size≤1048576∧(∀ k:Nat,(now.getD k default).size≤1048576)∧(∀ k:Nat,(next.getD k default).size≤1048576))=>have hpre0:=hp.1; have hpre1:=hp.2.1; have hpre2:=hp.2.2.1; have hpre3:=hp.2.2.2.1; have hpre4:=hp.2.2.2.2; kn now fun _=>kn next fun _=>kc58 now (by first | assumption | exact hpre3 _ | exact fun k _=>hpre3 k | exact hpre4 _ | exact fun k _=>hpre4 k | (intros; exact trivial) | (intros; exact Nat.zero_le _)) (kg58 ((F58 now) != 0) false next (fun k1=>have _:=bneF k1; (by first | assumption | exact hpre3 _ | exact fun k _=>hpre3 k | exact hpre4 _ | exact fun k _=>hpre4 k | (intros; exact trivial) | (intros; exact Nat.zero_le _))) (kg82 (bif ((F58 now) != 0) then true else ((F58 next) != 0)) false user (fun k2=>have _:=bneF (orF1 k2); have _:=bneF (orF2 k2); (by first | omega | (simp only [lens,ib] at*<;> omega))) (ifb (bif (bif ((F58 now) != 0) then true else ((F58 next) != 0)) then true else (!(F82 user))) (fun h3=>fiB false (F30 now next user) (condT h3 rfl)) (fun h3=>have _:=bneF (orF1 (orF1 h3)); have _:=bneF (orF2 (orF1 h3)); ai (by (have hs:w22_.size=5:=rfl; omega):((w22_.size+user.size:Nat):Int)≤9223372036854775807) (kc78 now (w22_++user) (by first | assumption | exact hpre3 _ | exact fun k _=>hpre3 k | exact hpre4 _ | exact fun k _=>hpre4 k | (intros; exact trivial) | (intros; exact Nat.zero_le _)) (ifb ((F78 now (w22_++user)).toList==w13_.toList) (fun h4=>fiB false (F30 now next user) (condF h3 (condT h4 rfl))) (fun h4=>kc83 (F78 now (w22_++user)) 2 (by first | omega | exact of_sz _ _ (by assumption) | exact diff_sz _ _ _) (by first | omega | exact of_sz _ _ (by assumption) | exact diff_sz _ _ _) (kc26 now next (by first | omega | (simp only [lens,ib] at*<;> omega)) (by first | omega | (simp only [lens,ib] at*<;> omega)) (by first | assumption | exact hpre3 _ | exact fun k _=>hpre3 k | exact hpre4 _ | exact fun k _=>hpre4 k | (intros; exact trivial) | (intros; exact Nat.zero_le _)) (by first | assumption | exact hpre3 _ | exact fun k _=>hpre3 k | exact hpre4 _ | exact fun k _=>hpre4 k | (intros; exact trivial) | (intros; exact Nat.zero_le _)) (kn (F26 now next) fun _=>ai (en30_0 now next user (by first | omega | (simp only [lens,ib] at*<;> omega))) (fun (i0:Nat×Int) (hi0:lJ30_0 now next user i0)=>(fun (m0:Nat) (i40:Int) (hh0:lH30_0 now next user i0 m0 i40)=>have hI0:=hh0.1; have hl0:=hh0.2.1; have _:=hh0.2.2.1; have _:=hh0.2.2.2; ifd (i40<((F26 now next).length:Int)) (fun h6 _=>kg85 (!((F83 (F78 now (w22_++user)) 2).toList==w11_.toList)) true (F83 (F78 now (w22_++user)) 2) 44 (fun k8=>(by exact word_sz _ _)) (ai (fun k9:(!((F83 (F78 now (w22_++user)) 2).toList==w11_.toList))=true=>(by first | omega | (simp only [lens,ib] at*<;> omega):ib i40 (F26 now next))) (kg83 (!((F83 (F78 now (w22_++user)) 2).toList==w11_.toList)) true ((F26 now next).getD (Int.toNat i40) default) 1 (fun k10=>⟨(by first | omega | exact of_sz _ _ (by assumption) | exact diff_sz _ _ _),(by first | omega | exact of_sz _ _ (by assumption) | exact diff_sz _ _ _)⟩) (kg84 (!((F83 (F78 now (w22_++user)) 2).toList==w11_.toList)) true (F85 (F83 (F78 now (w22_++user)) 2) 44) (F83 ((F26 now next).getD (Int.toNat i40) default) 1) (ifb (bif (!((F83 (F78 now (w22_++user)) 2).toList==w11_.toList)) then (!(F84 (F85 (F83 (F78 now (w22_++user)) 2) 44) (F83 ((F26 now next).getD (Int.toNat i40) default) 1))) else false) (fun h12=>have _:(!((F83 (F78 now (w22_++user)) 2).toList==w11_.toList))=true:=(andT1 h12); fiB false (F30 now next user) (condF h3 (condF h4 (finR (runL_ret hI0 (condT h6 (condT h12 rfl))) rfl)))) (fun h12=>ai (iok (i40+1) (by first | omega | (simp only [lens,ib] at*<;> omega))) (bk30_0 now next user i0 m0 (i40+1) hl0 (runL_next hI0 (condT h6 (condF h12 rfl))) (by refine ⟨?_,?_⟩ <;> first | omega | (simp only [lens,ib] at*<;> omega))))))))) (fun h6 _=>have hD0_13:lX30_0 now next user=Lp.done i40:=runL_done hI0 (condF h6 rfl); fiB true (F30 now next user) (condF h3 (condF h4 (finD hD0_13 rfl))))) (i0.1-1) i0.2 (un30_0 now next user i0 hi0)))))))))))) (by kernel_rfl)
theorem findF_loop {α ρ τ:Type} [Inhabited α] (xs:List α) (p:α→Bool) (r:α→ρ) (step:Int→Lp Int ρ)
  (h1:∀ i:Nat,i<xs.length→step (i:Int)=bif p (xs.getD i default) then .ret (r (xs.getD i default)) else .next ((i+1:Nat):Int)) (h2:step (xs.length:Int)=.done (xs.length:Int))
  (f:ρ→τ) (y:τ):∀ (m i:Nat),i+m=xs.length→∀ fuel,m<fuel→(runL step fuel (i:Int)).fin f (fun _=>y)=match (xs.drop i).filter p with | []=>y | x :: _=>f (r x)
 | m,i,_,0,hf=>absurd hf (Nat.not_lt_zero _)
 | 0,i,h,fuel+1,hf=>by
  obtain rfl:i=xs.length:=by omega
  rw [runL_d _ h2,List.drop_of_length_le (Nat.le_refl _)]; rfl
 | m+1,i,h,fuel+1,hf=>by
  have hd:xs.drop i=xs.getD i default :: xs.drop (i+1):=by
   rw [List.drop_eq_getElem_cons (show i<xs.length by omega),List.getD_eq_getElem?_getD,List.getElem?_eq_getElem (show i<xs.length by omega)]; rfl
  have hst:=h1 i (by omega)
  rw [hd]
  cases hp:p (xs.getD i default) with
  | true=>rw [hp,cond_true] at hst; rw [runL_r _ hst,List.filter_cons_of_pos hp]; rfl
  | false=>rw [hp,cond_false] at hst; rw [runL_n _ hst,findF_loop xs p r step h1 h2 f y m (i+1) (by omega) fuel (by omega),List.filter_cons_of_neg (by rw [hp]; exact Bool.false_ne_true)]
def isU (user:ByteArray) (w:List ByteArray):Bool:=hdB w hUser&&((w.getD 1 default).toList==user.toList)
theorem rightsIn_eq (lines:List ByteArray) (h:F58 lines=0) (user:ByteArray):F81 lines user=match lines.filter (fun l=>isU user (F11 l).1) with | []=>([],false) | l :: _=>F129 ((F11 l).1.getD 2 default):=by
 have hf:=findF_loop (linesL lines (⟨#[117,115,101,114]⟩:ByteArray)) (fun w=>(w.getD 1 default).toList==user.toList) (fun w=>((F129 (w.getD 2 default)).1,(F129 (w.getD 2 default)).2)) (F81_s0 lines user) (fun i hi=>by
  simp only [F81_s0,ltD hi,cond_true,nn]
  rfl) (by simp only [F81_s0,geD,cond_false]) (fun r=>r) (([]:List ByteArray),false) (linesL lines (⟨#[117,115,101,114]⟩:ByteArray)).length 0 (by omega) (Int.toNat (((linesL lines (⟨#[117,115,101,114]⟩:ByteArray)).length:Int)-0)+1) (by omega)
 unfold F81
 refine hf.trans ?_
 rw [List.drop_zero,linesL_ws lines h,List.filter_filter]
 unfold wsL
 rw [List.filter_map]
 have e:(lines.filter ((fun a:List ByteArray=>(a.getD 1 default).toList==user.toList&&hdB a (⟨#[117,115,101,114]⟩:ByteArray).data.toList) ∘ fun l=>(F11 l).1))=lines.filter (fun l=>isU user (F11 l).1):=by
  congr 1
  funext l
  unfold isU
  exact Bool.and_comm _ _
 rw [e]
 cases lines.filter (fun l=>isU user (F11 l).1) <;> rfl
theorem of_eq (lines:List ByteArray) (key:ByteArray):F78 lines key=match lines.filter (fun l=>(F14 l).toList==key.toList) with | []=>(⟨#[]⟩:ByteArray) | l :: _=>l:=by
 unfold F78
 rw [key_idx]
 obtain ⟨h1,h2⟩:=idx_filter (fun l:ByteArray=>(F14 l).toList==key.toList) lines
 cases hf:lines.filter (fun l=>(F14 l).toList==key.toList) with
 | nil=>rw [decide_eq_true (h1.2 hf)]; rfl
 | cons l r =>
  have hn:¬ idxI (fun l:ByteArray=>(F14 l).toList==key.toList) lines<0:=fun h=>by rw [h1.1 h] at hf; cases hf
  rw [decide_eq_false hn,cond_false]
  exact (h2 (by omega)).trans (by rw [hf]; rfl)
theorem name_no (s:ByteArray) (h:F82 s=true):(32:UInt8) ∉ s.data.toList:=fun hm=>by
 rw [specName_eq] at h
 unfold nameL at h
 rw [Bool.and_eq_true,List.all_eq_true] at h
 have:=h.2 32 hm
 revert this
 decide
theorem key_user (l user:ByteArray) (hk:F47 l=true) (hn:(32:UInt8) ∉ user.data.toList):((F14 l).toList==((⟨#[117,115,101,114,32]⟩:ByteArray)++user).toList)=isU user (F11 l).1:=by
 have hp:=keptP l hk
 have hF:=hp.form
 obtain ⟨n1,n2⟩:=form_two_le _ hF
 obtain ⟨k1,k2,k3⟩:=form_key_le _ hF
 rw [beq_ba,key_eq l hk]
 have hno:=hp.no
 generalize (F11 l).1=w at hF n1 n2 k1 k2 k3 hno
 unfold isU
 rw [beq_ba]
 have hj2:((⟨#[117,115,101,114,32]⟩:ByteArray)++user)=joinS [(⟨#[117,115,101,114]⟩:ByteArray),user] (⟨#[32]⟩:ByteArray):=by
  rw [join2]
  exact ba_ext (by simp)
 rw [hj2,Bool.eq_iff_iff,decide_eq_true_eq,Bool.and_eq_true,decide_eq_true_eq]
 constructor
 ·intro e
  have hs:=congrArg (fun x=>splitS x (⟨#[32]⟩:ByteArray)) e
  rw [join_split _ (by
   intro h0
   have:=congrArg List.length h0
   rw [List.length_take] at this
   simp only [List.length_nil] at this
   omega) (fun x hx=>(hno x (List.mem_of_mem_take hx)).1),join_split _ (by simp) (by
   intro x hx
   simp only [List.mem_cons,List.not_mem_nil,or_false] at hx
   rcases hx with rfl | rfl
   ·decide
   ·exact hn)] at hs
  have h0:w.getD 0 default=(⟨#[117,115,101,114]⟩:ByteArray):=by
   have:=congrArg (fun x:List ByteArray=>x.getD 0 default) hs
   rw [List.getD_eq_getElem?_getD,List.getElem?_take,if_pos (by omega),← List.getD_eq_getElem?_getD] at this
   exact this
  have hl:=congrArg List.length hs
  rw [List.length_take] at hl
  have h1:w.getD 1 default=user:=by
   have:=congrArg (fun x:List ByteArray=>x.getD 1 default) hs
   have hl:min (keyN (w.getD 0 default).data.toList).toNat w.length=2:=hl
   rw [List.getD_eq_getElem?_getD,List.getElem?_take,if_pos (by omega),← List.getD_eq_getElem?_getD] at this
   exact this
  refine ⟨?_,h1⟩
  unfold hdB
  rw [h0]; rfl
 ·rintro ⟨h0,h1⟩
  have h0:(w.getD 0 default).data.toList=[117,115,101,114]:=eq_of_beq h0
  rw [h0]
  have e:(keyN [117,115,101,114]).toNat=2:=by decide
  rw [e,take_two w n1,h1]
  rw [show w.getD 0 default=(⟨#[117,115,101,114]⟩:ByteArray) from ba_ext h0]
theorem rightsOf_eq (s:ByteArray) (h:rightsB s=true):F129 s=(bif (bif (s.toList==(⟨#[97,108,108]⟩:ByteArray).toList) then true else (s.toList==(⟨#[110,111,110,101]⟩:ByteArray).toList)) then ([s],true) else (splitS s ⟨#[44]⟩,true)):=by
 have e90:∀ t u:ByteArray,F41 t u=splitS t u:=fun _ _=>rfl
 have hl:=any_loop (F129_s0 s) (splitS s ⟨#[44]⟩).length (rightBad (splitS s ⟨#[44]⟩)) (([]:List ByteArray),false) (fun r=>r) ((splitS s ⟨#[44]⟩),true) (fun i hi=>by
  have hh:=has_same F143 ((splitS s ⟨#[44]⟩).getD i default)
  unfold F143 at hh
  simp only [F129_s0,e90,decide_eq_true (show (i:Int)<((splitS s ⟨#[44]⟩).length:Int) by omega),cond_true,Int.toNat_natCast,hh]
  rfl) (by simp only [F129_s0,e90,decide_eq_false (show ¬ ((splitS s ⟨#[44]⟩).length:Int)<((splitS s ⟨#[44]⟩).length:Int) by omega),cond_false]) (splitS s ⟨#[44]⟩).length 0 (by omega) (Int.toNat (((splitS s ⟨#[44]⟩).length:Int)-0)+1) (by omega)
 unfold rightsB at h
 unfold F129
 cases hc:(bif (s.toList==(⟨#[97,108,108]⟩:ByteArray).toList) then true else (s.toList==(⟨#[110,111,110,101]⟩:ByteArray).toList)) with
 | true=>rfl
 | false =>
  rw [hc,cond_false] at h
  rw [cond_false,cond_false]
  refine hl.trans ?_
  have h:anyF (rightBad (splitS s ⟨#[44]⟩)) 0 (splitS s ⟨#[44]⟩).length=false:=by
   cases hx:anyF (rightBad (splitS s ⟨#[44]⟩)) 0 (splitS s ⟨#[44]⟩).length with
   | true=>rw [hx] at h; cases h
   | false=>rfl
  rw [h]; rfl
theorem may_rights (s x:ByteArray) (h:rightsB s=true) :
  (bif (!(F75 (F129 s).1 (⟨#[97,108,108]⟩:ByteArray))) then (!(F75 (F129 s).1 x)) else false)=(bif (!(s.toList==(⟨#[97,108,108]⟩:ByteArray).toList)) then (!(F84 (F85 s 44) x)) else false):=by
 have hcut:F85 s 44=splitS s ⟨#[44]⟩:=specCut_split s 44
 rw [rightsOf_eq s h,hcut,← has_same,implHas_mem,implHas_mem,implHas_mem]
 cases ha:(s.toList==(⟨#[97,108,108]⟩:ByteArray).toList) with
 | true =>
  have e:s=(⟨#[97,108,108]⟩:ByteArray):=by rw [beq_ba] at ha; exact of_decide_eq_true ha
  rw [cond_true,cond_true]
  show (bif !decide ((⟨#[97,108,108]⟩:ByteArray)∈[s]) then _ else false)=_
  rw [e]; simp
 | false =>
  have hne:s≠(⟨#[97,108,108]⟩:ByteArray):=by rw [beq_ba] at ha; exact of_decide_eq_false ha
  rw [cond_false]
  cases hb:(s.toList==(⟨#[110,111,110,101]⟩:ByteArray).toList) with
  | true =>
   have e:s=(⟨#[110,111,110,101]⟩:ByteArray):=by rw [beq_ba] at hb; exact of_decide_eq_true hb
   rw [cond_true]
   have es:splitS s ⟨#[44]⟩=[s]:=by
    rw [splitS_mk,splitL_none (by rw [e]; decide)]
    exact congrArg (fun z=>[z]) (mkB_self s)
   rw [es,decide_eq_false (show (⟨#[97,108,108]⟩:ByteArray) ∉ [s] by rw [List.mem_singleton]; exact fun e=>hne e.symm)]
  | false =>
   rw [cond_false]
   have hall:(⟨#[97,108,108]⟩:ByteArray) ∉ splitS s ⟨#[44]⟩:=fun hm=>by
    unfold rightsB at h
    rw [ha,hb,cond_false,cond_false] at h
    obtain ⟨k,hk,e⟩:=mem_getD hm
    have hx:anyF (rightBad (splitS s ⟨#[44]⟩)) 0 (splitS s ⟨#[44]⟩).length=false:=by
     cases hx:anyF (rightBad (splitS s ⟨#[44]⟩)) 0 (splitS s ⟨#[44]⟩).length with
     | true=>rw [hx] at h; cases h
     | false=>rfl
    have hk2:=anyF_no _ _ hx k (Nat.zero_le _) (by omega)
    unfold rightBad at hk2
    rw [e,specHas_mem] at hk2
    revert hk2
    rw [show decide ((⟨#[97,108,108]⟩:ByteArray)∈F143)=false from by decide]
    simp
   rw [decide_eq_false hall]
theorem mem_join (c:UInt8):∀ (ws:List (List UInt8)) (b:UInt8),b∈Lib.join ws [c]→b=c∨∃ w∈ws,b∈w
 | [],b,h=>by cases h
 | [x],b,h=>by rw [Lib.join_one] at h; exact .inr ⟨x,List.mem_cons_self,h⟩
 | x :: y :: r,b,h=>by
  rw [Lib.join_cons] at h
  rcases List.mem_append.1 h with h | h
  ·exact .inr ⟨x,List.mem_cons_self,h⟩
  ·have e:Lib.joinTail [c] (y :: r)=c :: Lib.join (y :: r) [c]:=by rw [Lib.join_cons]; rfl
   rw [e] at h
   rcases List.mem_cons.1 h with h | h
   ·exact .inl h
   ·rcases mem_join c (y :: r) b h with h | ⟨w,hw,hb⟩
    ·exact .inl h
    ·exact .inr ⟨w,List.mem_cons_of_mem _ hw,hb⟩
theorem mem_splitL (c:UInt8):∀ (l w:List UInt8),w∈splitL c l→∀ b∈w,b∈l
 | [],w,h,b,hb=>by rw [splitL,List.mem_singleton] at h; rw [h] at hb; cases hb
 | x :: l,w,h,b,hb=>by
  have ih:=mem_splitL c l
  rw [splitL] at h
  by_cases hx:x=c
  ·rw [if_pos hx] at h
   rcases List.mem_cons.1 h with rfl | h
   ·cases hb
   ·exact List.mem_cons_of_mem _ (ih w h b hb)
  ·rw [if_neg hx] at h
   cases hs:splitL c l with
   | nil =>
    rw [hs,List.mem_singleton] at h
    rw [h] at hb
    rcases List.mem_cons.1 hb with rfl | hb
    ·exact List.mem_cons_self
    ·cases hb
   | cons p ps =>
    rw [hs] at h ih
    rcases List.mem_cons.1 h with rfl | h
    ·rcases List.mem_cons.1 hb with rfl | hb
     ·exact List.mem_cons_self
     ·exact List.mem_cons_of_mem _ (ih p List.mem_cons_self b hb)
    ·exact List.mem_cons_of_mem _ (ih w (List.mem_cons_of_mem _ h) b hb)
theorem kept_bytes (l:ByteArray) (hk:F47 l=true):(35:UInt8) ∉ l.data.toList∧wordsOf l.data.toList=((F11 l).1,true):=by
 have hp:=keptP l hk
 have hw:=spec_words l
 have h35:(35:UInt8) ∉ (cut3 l (⟨#[35]⟩:ByteArray)).1.data.toList:=by
  rcases cut_cases l 35 with ⟨h1,h2⟩ | ⟨a,b,h1,h2,h3⟩
  ·rw [h2]; exact h1
  ·rw [h3]; simpa using h2
 have hno:(35:UInt8) ∉ l.data.toList:=fun hm=>by
  rw [← hp.joins,joinS_data] at hm
  rcases mem_join 32 _ _ hm with h | ⟨w,hw1,hb⟩
  ·exact absurd h (by decide)
  ·obtain ⟨x,hx,rfl⟩:=List.mem_map.1 hw1
   rw [hw] at hx
   unfold wordsOf at hx
   cases hc:((cut3 l (⟨#[35]⟩:ByteArray)).1.data.toList.all okB&&fitW (wordsL (cut3 l (⟨#[35]⟩:ByteArray)).1.data.toList)) with
   | false=>rw [hc,cond_false] at hx; cases hx
   | true =>
    rw [hc,cond_true] at hx
    obtain ⟨y,hy,rfl⟩:=List.mem_map.1 hx
    unfold wordsL at hy
    exact h35 (mem_splitL 32 _ y (List.mem_filter.1 hy).1 35 hb)
 refine ⟨hno,?_⟩
 have hcut:(cut3 l (⟨#[35]⟩:ByteArray)).1=l:=by
  rcases cut_cases l 35 with ⟨h1,h2⟩ | ⟨a,b,h1,h2,h3⟩
  ·rw [h2]
  ·exact absurd (by rw [h1]; simp) hno
 rw [hcut] at hw
 rw [← hw,hp.words]
theorem told_words (t:Bool) (l:ByteArray) (hk:F47 l=true):(F11 (txtD (t,l))).1.getD 1 default=(F11 l).1.getD 0 default∧2≤(F11 (txtD (t,l))).1.length:=by
 have hp:=keptP l hk
 obtain ⟨n1,n2⟩:=form_two_le _ hp.form
 obtain ⟨h35,hw⟩:=kept_bytes l hk
 obtain ⟨c,hc35,hc32,hcok,e⟩:∃ c:UInt8,c≠35∧c≠32∧okB c=true∧(txtD (t,l)).data.toList=c :: 32 :: l.data.toList:=by
  cases t
  ·exact ⟨43,by decide,by decide,by decide,by unfold txtD; simp⟩
  ·exact ⟨45,by decide,by decide,by decide,by unfold txtD; simp⟩
 have hcut:(cut3 (txtD (t,l)) (⟨#[35]⟩:ByteArray)).1=txtD (t,l):=by
  rcases cut_cases (txtD (t,l)) 35 with ⟨h1,h2⟩ | ⟨a,b,h1,h2,h3⟩
  ·rw [h2]
  ·have hm:(35:UInt8)∈(txtD (t,l)).data.toList:=by rw [h1]; simp
   rw [e] at hm
   rcases List.mem_cons.1 hm with h | hm
   ·exact absurd h.symm hc35
   ·rcases List.mem_cons.1 hm with h | hm
    ·exact absurd h (by decide)
    ·exact absurd hm h35
 rw [spec_words,hcut,e]
 generalize (F11 l).1=w at n1 n2 hw ⊢
 have hwl:wordsL (c :: 32 :: l.data.toList)=[c] :: wordsL l.data.toList:=by
  unfold wordsL
  have hs:=splitL_app (c:=32) l.data.toList (a:=[c]) (by
   intro hm
   rcases List.mem_cons.1 hm with h | h
   ·exact hc32 h.symm
   ·cases h)
  rw [show c :: 32 :: l.data.toList=[c]++32 :: l.data.toList from rfl,hs]
  rfl
 unfold wordsOf at hw ⊢
 rw [hwl]
 cases hx:(l.data.toList.all okB&&fitW (wordsL l.data.toList)) with
 | false=>rw [hx,cond_false] at hw; exact Bool.noConfusion (congrArg Prod.snd hw)
 | true =>
  rw [hx,cond_true] at hw
  have hw1:(wordsL l.data.toList).map mkB=w:=congrArg (·.1) hw
  rw [Bool.and_eq_true] at hx
  unfold fitW at hx ⊢
  rw [Bool.and_eq_true,decide_eq_true_eq] at hx
  have hlen:(wordsL l.data.toList).length=w.length:=by rw [← hw1,List.length_map]
  have h2:((c :: 32 :: l.data.toList).all okB&&(decide (([c] :: wordsL l.data.toList).length≤8)&&([c] :: wordsL l.data.toList).all fun w=>decide (w.length≤24)))=true:=by
   rw [List.all_cons,List.all_cons,List.all_cons,hcok,hx.1,hx.2.2]
   rw [decide_eq_true (show ([c] :: wordsL l.data.toList).length≤8 by rw [List.length_cons]; omega)]
   rfl
  rw [h2,cond_true,List.map_cons,hw1]
  refine ⟨rfl,?_⟩
  show 2≤(mkB [c] :: w).length
  rw [List.length_cons]; omega
theorem cut_first (l:ByteArray) (hk:F47 l=true):(cut3 l (⟨#[32]⟩:ByteArray)).1=(F11 l).1.getD 0 default:=by
 have hp:=keptP l hk
 obtain ⟨n1,n2⟩:=form_two_le _ hp.form
 have hs:=hp.splits
 rw [splitS_mk] at hs
 generalize (F11 l).1=w at n1 n2 hs ⊢
 rcases cut_cases l 32 with ⟨h1,h2⟩ | ⟨a,b,h1,h2,h3⟩
 ·rw [splitL_none h1] at hs
  rw [← hs] at n1
  exact absurd n1 (by simp)
 ·rw [h1,splitL_app b h2] at hs
  rw [h3,← hs]
  rfl
theorem may_same (now next:List ByteArray) (user:ByteArray):F29 now next user=F30 now next user:=by
 unfold F29 F30
 have e:∀ x:List ByteArray,(!F73 x)=(F58 x != 0):=fun x=>by unfold F73; rw [neat_same]; rfl
 rw [e,e]
 cases hn:(bif F58 now != 0 then true else F58 next != 0) with
 | true=>rfl
 | false =>
 rw [cond_false,cond_false]
 obtain ⟨na,nb⟩:F58 now=0∧F58 next=0:=by
  cases h1:(F58 now != 0) with
  | true=>rw [h1,cond_true] at hn; cases hn
  | false=>rw [h1,cond_false] at hn; exact ⟨by simpa using h1,by simpa using hn⟩
 have hkn:=(nt_facts now na).2
 have hkx:=(nt_facts next nb).2
 rw [rightsIn_eq now na]
 cases hu:F82 user with
 | false =>
  have hnil:now.filter (fun l=>isU user (F11 l).1)=[]:=by
   rw [List.filter_eq_nil_iff]
   intro l hl hc
   unfold isU at hc
   rw [Bool.and_eq_true] at hc
   have hP:=user_of (keptP l (hkn l hl)).form (eq_of_beq hc.1)
   have hnm:=hP.2.2.1
   rw [show (F11 l).1.getD 1 default=user from by
    have:=hc.2
    rw [beq_ba] at this
    exact of_decide_eq_true this] at hnm
   rw [hu] at hnm
   cases hnm
  rw [hnil]
  rfl
 | true =>
 have hno:=name_no user hu
 rw [of_eq]
 have hf:now.filter (fun l=>(F14 l).toList==((⟨#[117,115,101,114,32]⟩:ByteArray)++user).toList)=now.filter (fun l=>isU user (F11 l).1):=List.filter_congr fun l hl=>key_user l user (hkn l hl) hno
 rw [hf]
 have hO:∀ l r,now.filter (fun l=>isU user (F11 l).1)=l :: r→F78 now ((⟨#[117,115,101,114,32]⟩:ByteArray)++user)=l:=fun l r h=>by rw [of_eq,hf,h]
 cases hfl:now.filter (fun l=>isU user (F11 l).1) with
 | nil =>
  show false=bif ((⟨#[]⟩:ByteArray).toList==(⟨#[]⟩:ByteArray).toList) then false else _
  rw [beq_self_eq_true]; rfl
 | cons l r =>
  have hO:=hO l r hfl
  have hm:l∈now.filter (fun l=>isU user (F11 l).1):=by rw [hfl]; exact List.mem_cons_self
  obtain ⟨hl,hl2⟩:=List.mem_filter.1 hm
  unfold isU at hl2
  rw [Bool.and_eq_true] at hl2
  have hp:=keptP l (hkn l hl)
  have hP:=user_of hp.form (eq_of_beq hl2.1)
  have hR:rightsB ((F11 l).1.getD 2 default)=true:=by rw [← specRights_eq]; exact hP.2.2.2
  have h2:(F129 ((F11 l).1.getD 2 default)).2=true:=by rw [implRights_eq]; exact hR
  have hne:(l.toList==(⟨#[]⟩:ByteArray).toList)=false:=by
   rw [isE]
   have hlen:=(neat_200 now na l hl)
   cases hd:l.data.toList with
   | nil =>
    have hw0:=hp.splits
    rw [splitS_mk,hd] at hw0
    have n1:=(form_two_le _ hp.form).1
    rw [← hw0] at n1
    exact absurd n1 (by decide)
   | cons b r=>rfl
  have hs2:F83 l 2=(F11 l).1.getD 2 default:=by
   unfold F83
   rw [show decide ((2:Int)<((F11 l).1.length:Int))=true from decide_eq_true (by rw [hP.2.1]; decide)]
   rfl
  obtain ⟨D,e1,e2⟩:=diff_D now next na nb
  have hcl:=anyL (F74 now next) (fun z=>(bif (!(F75 (F129 ((F11 l).1.getD 2 default)).1 (⟨#[97,108,108]⟩:ByteArray))) then (!(F75 (F129 ((F11 l).1.getD 2 default)).1 (cut3 z (⟨#[32]⟩:ByteArray)).1)) else false)) false (F29_s0 now next user) (fun i hi=>by
   simp only [F29_s0,ltD hi,cond_true,nn,rightsIn_eq now na,hfl]
   rfl) (by simp only [F29_s0,geD,cond_false]) (fun r=>r) (fun _=>true) true (fun _=>rfl)
  have hcs:=anyL (F26 now next) (fun d=>(bif (!(((F11 l).1.getD 2 default).toList==(⟨#[97,108,108]⟩:ByteArray).toList)) then (!(F84 (F85 ((F11 l).1.getD 2 default) 44) (F83 d 1))) else false)) false (F30_s0 now next user) (fun i hi=>by
   simp only [F30_s0,ltD hi,cond_true,nn,hO,hs2]
   rfl) (by simp only [F30_s0,geD,cond_false]) (fun r=>r) (fun _=>true) true (fun _=>rfl)
  show (bif !(F129 ((F11 l).1.getD 2 default)).2 then false else _)=(bif (l.toList==(⟨#[]⟩:ByteArray).toList) then false else _)
  rw [h2,hne,Bool.not_true,cond_false,cond_false]
  refine hcl.trans (Eq.trans ?_ hcs.symm)
  rw [e1,e2,List.any_map,List.any_map]
  rw [any_congr_mem (q:=(fun d=>(bif (!(((F11 l).1.getD 2 default).toList==(⟨#[97,108,108]⟩:ByteArray).toList)) then (!(F84 (F85 ((F11 l).1.getD 2 default) 44) (F83 d 1))) else false)) ∘ txtD) fun tz htz=>?_]
  obtain ⟨t,z⟩:=tz
  have hz:z∈F74 now next:=by rw [e2]; exact List.mem_map.2 ⟨_,htz,rfl⟩
  have hkz:F47 z=true:=by
   rcases justOne_mem.1 hz with h | h
   ·exact hkn z h.1
   ·exact hkx z h.1
  obtain ⟨w1,w2⟩:=told_words t z hkz
  have hw1:F83 (txtD (t,z)) 1=(cut3 z (⟨#[32]⟩:ByteArray)).1:=by
   unfold F83
   rw [show decide ((1:Int)<((F11 (txtD (t,z))).1.length:Int))=true from decide_eq_true (by omega),cut_first z hkz]
   exact w1
  show (bif (!(F75 _ _)) then (!(F75 _ (cut3 z (⟨#[32]⟩:ByteArray)).1)) else false)=(bif _ then (!(F84 _ (F83 (txtD (t,z)) 1))) else false)
  rw [hw1]
  exact may_rights _ _ hR
theorem xor_in {a b:Int} (ha:0≤a) (ha2:a<4611686018427387904) (hb:0≤b) (hb2:b<4611686018427387904):0≤bitI .xor .i64 a b:=by
 obtain ⟨m,rfl⟩:=Int.eq_ofNat_of_zero_le ha
 obtain ⟨k,rfl⟩:=Int.eq_ofNat_of_zero_le hb
 have h1:m<2 ^ 62:=by omega
 have h2:k<2 ^ 62:=by omega
 have hx:m ^^^ k<2 ^ 62:=Nat.xor_lt_two_pow h1 h2
 unfold bitI
 have e:(BitVec.ofInt IntKind.i64.bits (m:Int) ^^^ BitVec.ofInt IntKind.i64.bits (k:Int)).toNat=m ^^^ k:=by
  rw [BitVec.toNat_xor,BitVec.toNat_ofInt,BitVec.toNat_ofInt]
  have hb:(2 ^ IntKind.i64.bits:Nat)=18446744073709551616:=by decide
  have e1:((m:Int)%((2 ^ IntKind.i64.bits:Nat):Int)).toNat=m:=by rw [hb]; omega
  have e2:((k:Int)%((2 ^ IntKind.i64.bits:Nat):Int)).toNat=k:=by rw [hb]; omega
  rw [e1,e2]
 simp only [e]
 rw [wrap_of (by omega) (by omega)]
 omega
theorem tmod_ix {a b:Int} (h0:0≤a) (h1:0<b):0≤a.tmod b∧a.tmod b<b:=by
 rw [Int.tmod_eq_emod_of_nonneg h0]
 exact ⟨Int.emod_nonneg _ (by omega),Int.emod_lt_of_pos _ h1⟩
theorem tmod_in {a n:Int} (h0:0≤a):0≤a.tmod n∧(1≤n→a.tmod n<n):=by
 refine ⟨?_,fun h=>(tmod_ix h0 (by omega)).2⟩
 rw [Int.tmod_eq_emod_of_nonneg h0]
 by_cases h:n=0
 ·subst h; simpa using h0
 ·exact Int.emod_nonneg _ h
theorem wrap73 {k:Int} (h0:0≤k) (h1:k≤2000000000):0≤IntKind.i64.wrap (IntKind.i64.wrap (k*7)+3):=by
 rw [wrap_of (n:=k*7) (by omega) (by omega),wrap_of (by omega) (by omega)]; omega
structure l51Rd where
 b:List Int
 p:Int
 deriving DecidableEq,Inhabited
def F33 (Qa:SV) (code:List Int):l51Rd×SV :=
 bif (decide ((code.length:Int)>2000)) then ((⟨(code.take (Int.toNat 2000)),0⟩:l51Rd),(cutSV 1 (Int.toNat 0) (code.take (Int.toNat 2000)).length Qa)) else ((⟨code,0⟩:l51Rd),Qa)
def S33 (Qa:SV) (code:List Int):Spec:=⟨[.vl (sv Qa) (.l 1 eByte code)],.pt 86 [.v (sv (F33 Qa code).2),.v (vI (F33 Qa code).1.p)],True⟩
theorem ok33 (Qa:SV) (code:List Int):(S33 Qa code).ok Tryz.prog 33 :=
 fnG_ok mixed (fn:=Tryz.f33) (ct:=.seqk [(0,0)] .no (.seq (.seq .no (.cond (.reg [(1,.sv)]) .no)) (.seq .no .no))) Tryz.func33 (fun (_:True)=>kn code fun _=>ifd ((code.length:Int)>2000) (fun h1 _=>ai (by first | omega | (simp only [lens,ib] at*<;> omega):0≤(0:Int)∧(0:Int)≤(2000:Int)∧(2000:Int)≤(code.length:Int)) ((fun hF:((⟨(code.take (Int.toNat 2000)),0⟩:l51Rd),(cutSV 1 (Int.toNat 0) (code.take (Int.toNat 2000)).length Qa))=(F33 Qa code)=>ai (ai (Imp.of_eq (congrArg (fun r:l51Rd×SV=>Dat.v (sv r.2)) hF)) (ai (Imp.of_eq (congrArg (fun r:l51Rd×SV=>Dat.v (vI r.1.p)) hF)) trivial)) trivial) (condT h1 rfl))) (fun h1 _=>(fun hF:((⟨code,0⟩:l51Rd),Qa)=(F33 Qa code)=>ai (ai (Imp.of_eq (congrArg (fun r:l51Rd×SV=>Dat.v (sv r.2)) hF)) (ai (Imp.of_eq (congrArg (fun r:l51Rd×SV=>Dat.v (vI r.1.p)) hF)) trivial)) trivial) (condF h1 rfl))) (by kernel_rfl)
def F48 (r1:l51Rd) (n:Int):Int×Int :=
 bif (bif decide (n<1) then true else ((r1.b.length:Int)==0)) then (0,(r1.p+1)) else (bif (decide (((r1.p+1)-1)<(r1.b.length:Int))) then (((IntKind.i64.wrap ((r1.b.getD ((r1.p+1)-1).toNat default)%256)).tmod n),(r1.p+1)) else (((bitI .xor .i64 (IntKind.i64.wrap ((IntKind.i64.wrap ((IntKind.i64.wrap ((IntKind.i64.wrap ((IntKind.i64.wrap ((r1.b.getD (((r1.p+1)-1).tmod (r1.b.length:Int)).toNat default)%256))*131))+(IntKind.i64.wrap ((IntKind.i64.wrap ((r1.b.getD ((IntKind.i64.wrap ((IntKind.i64.wrap (((r1.p+1)-1)*7))+3)).tmod (r1.b.length:Int)).toNat default)%256))*1117))))+(IntKind.i64.wrap (((r1.p+1)-1)*29))))+(IntKind.i64.wrap ((IntKind.i64.wrap (((r1.p+1)-1).tdiv (r1.b.length:Int)))*53)))) (IntKind.i64.wrap ((IntKind.i64.wrap ((IntKind.i64.wrap ((IntKind.i64.wrap ((IntKind.i64.wrap ((IntKind.i64.wrap ((r1.b.getD (((r1.p+1)-1).tmod (r1.b.length:Int)).toNat default)%256))*131))+(IntKind.i64.wrap ((IntKind.i64.wrap ((r1.b.getD ((IntKind.i64.wrap ((IntKind.i64.wrap (((r1.p+1)-1)*7))+3)).tmod (r1.b.length:Int)).toNat default)%256))*1117))))+(IntKind.i64.wrap (((r1.p+1)-1)*29))))+(IntKind.i64.wrap ((IntKind.i64.wrap (((r1.p+1)-1).tdiv (r1.b.length:Int)))*53)))).tdiv 64))).tmod n),(r1.p+1)))
def S48 (r1X:SV) (gr1:Nat) (r1:l51Rd) (n:Int):Spec:=⟨[.ptg gr1 86 (sv r1X) (.l 1 eByte r1.b) [.v (vI r1.p)] [.v (vI (F48 r1 n).2)],.r (.c (.v (vI n)))],.v (vI (F48 r1 n).1),0≤r1.p∧r1.p≤1000000000∧r1.b.length≤2000⟩
theorem ok48 (r1X:SV) (gr1:Nat) (r1:l51Rd) (n:Int):(S48 r1X gr1 r1 n).ok Tryz.prog 48 :=
 fnG_ok mixed (fn:=Tryz.f48) (ct:=.seqk [(0,0)] .no (.seq (.reg [(5,.bnd)]) (.seq (.seq .no (.cond (.seq .no .no) .no)) (.seq (.reg [(4,.bnd)]) (.seq (.seq .no (.cond (.seq .no .no) .no)) (.seq .no (.seq .no (.seq .no .no)))))))) Tryz.func48 (fun (hp:0≤r1.p∧r1.p≤1000000000∧r1.b.length≤2000)=>have hpre0:=hp.1; have hpre1:=hp.2.1; have hpre2:=hp.2.2; kn r1.b fun _=>ai (iok (r1.p+1) (by omega)) (ifb (bif decide (n<1) then true else ((r1.b.length:Int)==0)) (fun h1=>(fun hF:(0,(r1.p+1))=(F48 r1 n)=>ai (congrArg (fun r:Int×Int=>(.int .i64 r.1:Value)) hF) (ai (ai (Imp.refl (Dat.v (sv r1X))) (ai (Imp.of_eq (congrArg (fun r:Int×Int=>Dat.v (vI r.2)) hF)) trivial)) trivial)) (condT h1 rfl)) (fun h1=>have _:=of_decide_eq_false (orF1 h1); have _:=beqF (orF2 h1); ai (iok ((r1.p+1)-1) (by omega)) (ifd (((r1.p+1)-1)<(r1.b.length:Int)) (fun h2 _=>ai (by first | omega | exact tmod_ix (by omega) (by omega) | exact tmod_ix (wrap73 (by omega) (by omega)) (by omega):0≤((r1.p+1)-1)∧((r1.p+1)-1)<(r1.b.length:Int)) (ai (by omega:¬ n=0) ((fun hF:(((IntKind.i64.wrap ((r1.b.getD ((r1.p+1)-1).toNat default)%256)).tmod n),(r1.p+1))=(F48 r1 n)=>ai (congrArg (fun r:Int×Int=>(.int .i64 r.1:Value)) hF) (ai (ai (Imp.refl (Dat.v (sv r1X))) (ai (Imp.of_eq (congrArg (fun r:Int×Int=>Dat.v (vI r.2)) hF)) trivial)) trivial)) (condF h1 (condT h2 rfl))))) (fun h2 _=>ai (by omega:¬ (r1.b.length:Int)=0) (ai (by first | omega | exact tmod_ix (by omega) (by omega) | exact tmod_ix (wrap73 (by omega) (by omega)) (by omega):0≤(((r1.p+1)-1).tmod (r1.b.length:Int))∧(((r1.p+1)-1).tmod (r1.b.length:Int))<(r1.b.length:Int)) (ai (by omega:¬ (r1.b.length:Int)=0) (ai (by first | omega | exact tmod_ix (by omega) (by omega) | exact tmod_ix (wrap73 (by omega) (by omega)) (by omega):0≤((IntKind.i64.wrap ((IntKind.i64.wrap (((r1.p+1)-1)*7))+3)).tmod (r1.b.length:Int))∧((IntKind.i64.wrap ((IntKind.i64.wrap (((r1.p+1)-1)*7))+3)).tmod (r1.b.length:Int))<(r1.b.length:Int)) (ai (by omega:¬ (r1.b.length:Int)=0) (ai (by omega:¬ (64:Int)=0) (ai (by omega:¬ n=0) ((fun hF:(((bitI .xor .i64 (IntKind.i64.wrap ((IntKind.i64.wrap ((IntKind.i64.wrap ((IntKind.i64.wrap ((IntKind.i64.wrap ((r1.b.getD (((r1.p+1)-1).tmod (r1.b.length:Int)).toNat default)%256))*131))+(IntKind.i64.wrap ((IntKind.i64.wrap ((r1.b.getD ((IntKind.i64.wrap ((IntKind.i64.wrap (((r1.p+1)-1)*7))+3)).tmod (r1.b.length:Int)).toNat default)%256))*1117))))+(IntKind.i64.wrap (((r1.p+1)-1)*29))))+(IntKind.i64.wrap ((IntKind.i64.wrap (((r1.p+1)-1).tdiv (r1.b.length:Int)))*53)))) (IntKind.i64.wrap ((IntKind.i64.wrap ((IntKind.i64.wrap ((IntKind.i64.wrap ((IntKind.i64.wrap ((IntKind.i64.wrap ((r1.b.getD (((r1.p+1)-1).tmod (r1.b.length:Int)).toNat default)%256))*131))+(IntKind.i64.wrap ((IntKind.i64.wrap ((r1.b.getD ((IntKind.i64.wrap ((IntKind.i64.wrap (((r1.p+1)-1)*7))+3)).tmod (r1.b.length:Int)).toNat default)%256))*1117))))+(IntKind.i64.wrap (((r1.p+1)-1)*29))))+(IntKind.i64.wrap ((IntKind.i64.wrap (((r1.p+1)-1).tdiv (r1.b.length:Int)))*53)))).tdiv 64))).tmod n),(r1.p+1))=(F48 r1 n)=>ai (congrArg (fun r:Int×Int=>(.int .i64 r.1:Value)) hF) (ai (ai (Imp.refl (Dat.v (sv r1X))) (ai (Imp.of_eq (congrArg (fun r:Int×Int=>Dat.v (vI r.2)) hF)) trivial)) trivial)) (condF h1 (condF h2 rfl)))))))))))))) (by kernel_rfl)
theorem pick_x {b1 b2 k q:Int} (h1:0≤b1∧b1<256) (h2:0≤b2∧b2<256) (hk:0≤k∧k≤2000000000) (hq:0≤q∧q≤2000000000) :
  IntKind.i64.wrap (IntKind.i64.wrap (IntKind.i64.wrap (IntKind.i64.wrap (IntKind.i64.wrap b1*131)+IntKind.i64.wrap (IntKind.i64.wrap b2*1117))+IntKind.i64.wrap (k*29))+IntKind.i64.wrap (IntKind.i64.wrap q*53))=b1*131+b2*1117+k*29+q*53:=by
 rw [wrap_of (n:=b1) (by omega) (by omega),wrap_of (n:=b2) (by omega) (by omega),wrap_of (n:=q) (by omega) (by omega),wrap_of (n:=b1*131) (by omega) (by omega),wrap_of (n:=b2*1117) (by omega) (by omega),wrap_of (n:=k*29) (by omega) (by omega),wrap_of (n:=q*53) (by omega) (by omega),
  wrap_of (n:=b1*131+b2*1117) (by omega) (by omega),wrap_of (n:=b1*131+b2*1117+k*29) (by omega) (by omega),wrap_of (by omega) (by omega)]
theorem pick_y {a n:Int} (h0:0≤a) (h1:a<4611686018427387904):0≤(bitI .xor .i64 a (IntKind.i64.wrap (a.tdiv 64))).tmod n∧(1≤n→(bitI .xor .i64 a (IntKind.i64.wrap (a.tdiv 64))).tmod n<n):=by
 have e:a.tdiv 64=a / 64:=Int.tdiv_eq_ediv_of_nonneg h0
 rw [e,wrap_of (by omega) (by omega)]
 exact tmod_in (xor_in h0 h1 (by omega) (by omega))
theorem tdiv_in {k n:Int} (h0:0≤k) (h1:0≤n):0≤k.tdiv n∧k.tdiv n≤k:=by
 rw [Int.tdiv_eq_ediv_of_nonneg h0]
 exact ⟨Int.ediv_nonneg h0 h1,Int.ediv_le_self _ h0⟩
theorem pick_p (r1:l51Rd) (n:Int):(F48 r1 n).2=r1.p+1:=by
 unfold F48
 cases (bif decide (n<1) then true else ((r1.b.length:Int)==0))
 ·simp only [cond_false]
  cases decide (((r1.p+1)-1)<(r1.b.length:Int)) <;> rfl
 ·rfl
theorem pick_in (r1:l51Rd) (n:Int) (h0:0≤r1.p) (h1:r1.p≤1000000000):0≤(F48 r1 n).1∧(1≤n→(F48 r1 n).1<n)∧(F48 r1 n).2=r1.p+1:=by
 unfold F48
 cases h2:(bif decide (n<1) then true else ((r1.b.length:Int)==0)) with
 | true=>simp only [cond_true]; exact ⟨by omega,fun h=>by omega,trivial⟩
 | false =>
  simp only [cond_false]
  cases h3:decide (((r1.p+1)-1)<(r1.b.length:Int)) with
  | true =>
   simp only [cond_true]
   have h4:0≤IntKind.i64.wrap (r1.b.getD ((r1.p+1)-1).toNat default%256):=by rw [wrap_of (by omega) (by omega)]; omega
   have:=tmod_in (n:=n) h4
   exact ⟨this.1,this.2,trivial⟩
  | false =>
   simp only [cond_false]
   have hq:=tdiv_in (k:=(r1.p+1)-1) (n:=(r1.b.length:Int)) (by omega) (by omega)
   rw [pick_x (by omega) (by omega) (by omega) (by omega)]
   have:=pick_y (n:=n) (a:=r1.b.getD (((r1.p+1)-1).tmod (r1.b.length:Int)).toNat default%256*131+r1.b.getD ((IntKind.i64.wrap ((IntKind.i64.wrap (((r1.p+1)-1)*7))+3)).tmod (r1.b.length:Int)).toNat default%256*1117+(r1.p+1-1)*29+(r1.p+1-1).tdiv (r1.b.length:Int)*53) (by omega) (by omega)
   exact ⟨this.1,this.2,trivial⟩
theorem open_b (Qa:SV) (code:List Int):(F33 Qa code).1.b.length≤2000∧(F33 Qa code).1.p=0:=by
 unfold F33
 by_cases h:(code.length:Int)>2000
 ·rw [decide_eq_true h,cond_true]; exact ⟨by simp only [List.length_take]; omega,rfl⟩
 ·rw [decide_eq_false h,cond_false]; exact ⟨by simp only; omega,rfl⟩
theorem gd33 (Qa:SV) (code:List Int):GD (sv Qa) (.l 1 eByte code) (sv (F33 Qa code).2) (.l 1 eByte (F33 Qa code).1.b):=by
 unfold F33
 intro S w h
 by_cases hl:(code.length:Int)>2000
 ·rw [decide_eq_true hl,cond_true]
  obtain ⟨a,c,e1,e2,e3,e4⟩:=h
  simp only [sv,Value.slice.injEq] at e1
  obtain ⟨rfl,-,rfl⟩:=e1
  show RdV S w (.l 1 eByte (code.take 2000)) (.slice (if Qa.c=0 then Qa.a else Qa.a.map (·.add (0*1))) (code.take 2000).length (Qa.c-0))
  have hz:(if Qa.c=0 then Qa.a else Qa.a.map (·.add (0*1)))=Qa.a:=by
   by_cases hc:Qa.c=0
   ·rw [if_pos hc]
   ·rw [if_neg hc]
    cases ha:Qa.a with
    | none=>rfl
    | some a =>
     obtain ⟨x,hx⟩:∃ x,code[0]?=some x:=⟨_,List.getElem?_eq_getElem (by omega)⟩
     obtain ⟨f1,_⟩:=e4 0 x hx
     rw [ha] at f1
     rw [f1]
     simp [Addr.add_lit,ab,ao]
  rw [hz,Nat.sub_zero]
  refine ⟨_,_,rfl,by simp only [List.length_take]; omega,by simp only [List.length_take]; omega,fun i y hy=>?_⟩
  rw [List.getElem?_take] at hy
  split at hy
  ·exact e4 i y hy
  ·cases hy
 ·rw [decide_eq_false hl,cond_false]; exact h
theorem kc48l (X_:SV) (b_:List Int) (pp_:Int) (n:Int) {K_:Prop} (p0_:0≤pp_) (p1_:pp_≤1000000000) (p2_:b_.length≤2000) (q0_:0≤pp_) (q1_:pp_≤1000000000) (k_:(0≤(F48 ⟨b_,pp_⟩ n).1∧(1≤n→(F48 ⟨b_,pp_⟩ n).1<n)∧(F48 ⟨b_,pp_⟩ n).2=pp_+1)→K_):(0≤pp_∧pp_≤1000000000∧b_.length≤2000)∧(sv X_=sv X_)∧(Imp (.l 1 eByte b_) (.l 1 eByte b_))∧(Imps ([.v (vI pp_)]) ([.v (vI pp_)]))∧(Imp (.v (vI n)) (.v (vI n)))∧K_:=⟨⟨p0_,p1_,p2_⟩,rfl,Imp.refl _,Imps.refl _,Imp.refl _,k_ (pick_in ⟨b_,pp_⟩ n q0_ q1_)⟩
abbrev kh48l (X_:SV) (g_:Nat) (b_:List Int) (pp_:Int) (n:Int):Hint true Tryz.prog:=.call 48 (S48 X_ g_ (⟨b_,pp_⟩:l51Rd) n) (ok48 X_ g_ (⟨b_,pp_⟩:l51Rd) n) none
def F67 (r1:l51Rd) (list:List ByteArray):ByteArray×Int :=
 ((list.getD (F48 ⟨r1.b,r1.p⟩ (list.length:Int)).1.toNat default),(F48 ⟨r1.b,r1.p⟩ (list.length:Int)).2)
def S67 (r1X:SV) (gr1:Nat) (r1:l51Rd) (list:List ByteArray):Spec:=⟨[.ptg gr1 86 (sv r1X) (.l 1 eByte r1.b) [.v (vI r1.p)] [.v (vI (F67 r1 list).2)],.r (.c (.l 1 eStr list))],.v (.string (F67 r1 list).1),0≤r1.p∧r1.p≤1000000000∧r1.b.length≤2000∧1≤list.length∧(∀ x∈list,x.size≤4000)⟩
theorem ok67 (r1X:SV) (gr1:Nat) (r1:l51Rd) (list:List ByteArray):(S67 r1X gr1 r1 list).ok Tryz.prog 67 :=
 fnG_ok mixed (fn:=Tryz.f67) (ct:=.seqk [(0,0),(1,0)] .no (.seq (.reg [(4,kh48l r1X 0 r1.b r1.p (list.length:Int))]) .no)) Tryz.func67 (fun (hp:0≤r1.p∧r1.p≤1000000000∧r1.b.length≤2000∧1≤list.length∧(∀ x∈list,x.size≤4000))=>have hpre0:=hp.1; have hpre1:=hp.2.1; have hpre2:=hp.2.2.1; have hpre3:=hp.2.2.2.1; have hpre4:=hp.2.2.2.2; kn r1.b fun _=>kn list fun _=>kc48l r1X r1.b r1.p (list.length:Int) (by omega) (by omega) (by omega) (by omega) (by omega) (fun gv1=>ai (by omega:ib (F48 ⟨r1.b,r1.p⟩ (list.length:Int)).1 list) ((fun hF:((list.getD (F48 ⟨r1.b,r1.p⟩ (list.length:Int)).1.toNat default),(F48 ⟨r1.b,r1.p⟩ (list.length:Int)).2)=(F67 r1 list)=>ai (congrArg (fun r:ByteArray×Int=>(.string r.1:Value)) hF) (ai (ai (Imp.refl (Dat.v (sv r1X))) (ai (Imp.of_eq (congrArg (fun r:ByteArray×Int=>Dat.v (vI r.2)) hF)) trivial)) trivial)) rfl))) (by kernel_rfl)
theorem of_p (r1:l51Rd) (list:List ByteArray):(F67 r1 list).2=r1.p+1:=by
 unfold F67
 exact pick_p _ _
theorem of_le {n:Nat} (r1:l51Rd) (list:List ByteArray) (h:∀ x∈list,x.size≤n):(F67 r1 list).1.size≤n:=by
 unfold F67
 exact getD_sz h _
theorem of_q (r1:l51Rd) (list:List ByteArray) (h0:0≤r1.p) (h1:r1.p≤1000000000) (h:∀ x∈list,x.size≤4000):(F67 r1 list).1.size≤4000∧(F67 r1 list).2=r1.p+1:=⟨of_le r1 list h,of_p r1 list⟩
theorem kc67l (X_:SV) (b_:List Int) (pp_:Int) (list:List ByteArray) {K_:Prop} (p0_:0≤pp_) (p1_:pp_≤1000000000) (p2_:b_.length≤2000) (p3_:1≤list.length) (p4_:∀ x∈list,x.size≤4000) (q0_:0≤pp_) (q1_:pp_≤1000000000) (q2_:∀ x∈list,x.size≤4000) (k_:((F67 ⟨b_,pp_⟩ list).1.size≤4000∧(F67 ⟨b_,pp_⟩ list).2=pp_+1)→K_):(0≤pp_∧pp_≤1000000000∧b_.length≤2000∧1≤list.length∧(∀ x∈list,x.size≤4000))∧(sv X_=sv X_)∧(Imp (.l 1 eByte b_) (.l 1 eByte b_))∧(Imps ([.v (vI pp_)]) ([.v (vI pp_)]))∧(Imp (.l 1 eStr list) (.l 1 eStr list))∧K_:=⟨⟨p0_,p1_,p2_,p3_,p4_⟩,rfl,Imp.refl _,Imps.refl _,Imp.refl _,k_ (of_q (⟨b_,pp_⟩:l51Rd) list q0_ q1_ q2_)⟩
abbrev kh67l (X_:SV) (g_:Nat) (b_:List Int) (pp_:Int) (list:List ByteArray):Hint true Tryz.prog:=.call 67 (S67 X_ g_ (⟨b_,pp_⟩:l51Rd) list) (ok67 X_ g_ (⟨b_,pp_⟩:l51Rd) list) none
abbrev w23_:ByteArray:=⟨#[49,48,46,48,47,56]⟩
abbrev w24_:ByteArray:=⟨#[49,48,46,48,47,49,54]⟩
abbrev w25_:ByteArray:=⟨#[49,48,46,49,50,56,47,57]⟩
abbrev w26_:ByteArray:=⟨#[49,49,46,48,47,56]⟩
abbrev w27_:ByteArray:=⟨#[48,46,48,47,48]⟩
abbrev w28_:ByteArray:=⟨#[49,49,46,52,47,49,54]⟩
abbrev w29_:ByteArray:=⟨#[50,48,48,46,48,47,49,53]⟩
abbrev w30_:ByteArray:=⟨#[50,48,48,46,48,47,57]⟩
def F131 (r1:l51Rd):ByteArray×Int :=
 ((F67 ⟨r1.b,r1.p⟩ ([(⟨#[49,48,46,48,47,56]⟩:ByteArray),(⟨#[49,48,46,48,47,49,54]⟩:ByteArray),(⟨#[49,48,46,49,50,56,47,57]⟩:ByteArray),(⟨#[49,49,46,48,47,56]⟩:ByteArray),(⟨#[48,46,48,47,48]⟩:ByteArray),(⟨#[49,49,46,52,47,49,54]⟩:ByteArray),(⟨#[50,48,48,46,48,47,49,53]⟩:ByteArray),(⟨#[50,48,48,46,48,47,57]⟩:ByteArray)]:List ByteArray)).1,(F67 ⟨r1.b,r1.p⟩ ([(⟨#[49,48,46,48,47,56]⟩:ByteArray),(⟨#[49,48,46,48,47,49,54]⟩:ByteArray),(⟨#[49,48,46,49,50,56,47,57]⟩:ByteArray),(⟨#[49,49,46,48,47,56]⟩:ByteArray),(⟨#[48,46,48,47,48]⟩:ByteArray),(⟨#[49,49,46,52,47,49,54]⟩:ByteArray),(⟨#[50,48,48,46,48,47,49,53]⟩:ByteArray),(⟨#[50,48,48,46,48,47,57]⟩:ByteArray)]:List ByteArray)).2)
def S131 (r1X:SV) (gr1:Nat) (r1:l51Rd):Spec:=⟨[.ptg gr1 86 (sv r1X) (.l 1 eByte r1.b) [.v (vI r1.p)] [.v (vI (F131 r1).2)]],.v (.string (F131 r1).1),0≤r1.p∧r1.p≤1000000000∧r1.b.length≤2000⟩
theorem ok131 (r1X:SV) (gr1:Nat) (r1:l51Rd):(S131 r1X gr1 r1).ok Tryz.prog 131 :=
 fnG_ok mixed (fn:=Tryz.f131) (ct:=.seqk [(0,0)] .no (.seq (.reg [(1,.dat (.l 1 eStr ([w23_,w24_,w25_,w26_,w27_,w28_,w29_,w30_]:List ByteArray))),(2,kh67l r1X 0 r1.b r1.p ([w23_,w24_,w25_,w26_,w27_,w28_,w29_,w30_]:List ByteArray))]) .no)) Tryz.func131 (fun (hp:0≤r1.p∧r1.p≤1000000000∧r1.b.length≤2000)=>have hpre0:=hp.1; have hpre1:=hp.2.1; have hpre2:=hp.2.2; kn r1.b fun _=>ai (bokr 1 eStr ([w23_,w24_,w25_,w26_,w27_,w28_,w29_,w30_]:List ByteArray) fun _=>rfl) (kc67l r1X r1.b r1.p ([w23_,w24_,w25_,w26_,w27_,w28_,w29_,w30_]:List ByteArray) (by first | omega | decide) (by first | omega | decide) (by first | omega | decide) (by first | omega | decide) (by first | omega | decide) (by first | omega | decide) (by first | omega | decide) (by first | omega | decide) (fun gv1=>(fun hF:((F67 ⟨r1.b,r1.p⟩ ([w23_,w24_,w25_,w26_,w27_,w28_,w29_,w30_]:List ByteArray)).1,(F67 ⟨r1.b,r1.p⟩ ([w23_,w24_,w25_,w26_,w27_,w28_,w29_,w30_]:List ByteArray)).2)=(F131 r1)=>ai (congrArg (fun r:ByteArray×Int=>(.string r.1:Value)) hF) (ai (ai (Imp.refl (Dat.v (sv r1X))) (ai (Imp.of_eq (congrArg (fun r:ByteArray×Int=>Dat.v (vI r.2)) hF)) trivial)) trivial)) rfl))) (by kernel_rfl)
abbrev w31_:ByteArray:=⟨#[49,48,46,49]⟩
abbrev w32_:ByteArray:=⟨#[49,48,46,50]⟩
abbrev w33_:ByteArray:=⟨#[49,49,46,52]⟩
abbrev w34_:ByteArray:=⟨#[50,48,48,46,49]⟩
abbrev w35_:ByteArray:=⟨#[48,46,48]⟩
abbrev w36_:ByteArray:=⟨#[50,53,53,46,50,53,53]⟩
def F132 (r1:l51Rd):ByteArray×Int :=
 ((F67 ⟨r1.b,r1.p⟩ ([(⟨#[49,48,46,49]⟩:ByteArray),(⟨#[49,48,46,50]⟩:ByteArray),(⟨#[49,49,46,52]⟩:ByteArray),(⟨#[50,48,48,46,49]⟩:ByteArray),(⟨#[48,46,48]⟩:ByteArray),(⟨#[50,53,53,46,50,53,53]⟩:ByteArray)]:List ByteArray)).1,(F67 ⟨r1.b,r1.p⟩ ([(⟨#[49,48,46,49]⟩:ByteArray),(⟨#[49,48,46,50]⟩:ByteArray),(⟨#[49,49,46,52]⟩:ByteArray),(⟨#[50,48,48,46,49]⟩:ByteArray),(⟨#[48,46,48]⟩:ByteArray),(⟨#[50,53,53,46,50,53,53]⟩:ByteArray)]:List ByteArray)).2)
def S132 (r1X:SV) (gr1:Nat) (r1:l51Rd):Spec:=⟨[.ptg gr1 86 (sv r1X) (.l 1 eByte r1.b) [.v (vI r1.p)] [.v (vI (F132 r1).2)]],.v (.string (F132 r1).1),0≤r1.p∧r1.p≤1000000000∧r1.b.length≤2000⟩
theorem ok132 (r1X:SV) (gr1:Nat) (r1:l51Rd):(S132 r1X gr1 r1).ok Tryz.prog 132 :=
 fnG_ok mixed (fn:=Tryz.f132) (ct:=.seqk [(0,0)] .no (.seq (.reg [(1,.dat (.l 1 eStr ([w31_,w32_,w33_,w34_,w35_,w36_]:List ByteArray))),(2,kh67l r1X 0 r1.b r1.p ([w31_,w32_,w33_,w34_,w35_,w36_]:List ByteArray))]) .no)) Tryz.func132 (fun (hp:0≤r1.p∧r1.p≤1000000000∧r1.b.length≤2000)=>have hpre0:=hp.1; have hpre1:=hp.2.1; have hpre2:=hp.2.2; kn r1.b fun _=>ai (bokr 1 eStr ([w31_,w32_,w33_,w34_,w35_,w36_]:List ByteArray) fun _=>rfl) (kc67l r1X r1.b r1.p ([w31_,w32_,w33_,w34_,w35_,w36_]:List ByteArray) (by first | omega | decide) (by first | omega | decide) (by first | omega | decide) (by first | omega | decide) (by first | omega | decide) (by first | omega | decide) (by first | omega | decide) (by first | omega | decide) (fun gv1=>(fun hF:((F67 ⟨r1.b,r1.p⟩ ([w31_,w32_,w33_,w34_,w35_,w36_]:List ByteArray)).1,(F67 ⟨r1.b,r1.p⟩ ([w31_,w32_,w33_,w34_,w35_,w36_]:List ByteArray)).2)=(F132 r1)=>ai (congrArg (fun r:ByteArray×Int=>(.string r.1:Value)) hF) (ai (ai (Imp.refl (Dat.v (sv r1X))) (ai (Imp.of_eq (congrArg (fun r:ByteArray×Int=>Dat.v (vI r.2)) hF)) trivial)) trivial)) rfl))) (by kernel_rfl)
theorem prefix_q (r1:l51Rd) (h0:0≤r1.p) (h1:r1.p≤1000000000):(F131 r1).1.size≤80∧(F131 r1).2=r1.p+1:=by
 unfold F131
 exact ⟨of_le _ _ (by decide),of_p _ _⟩
theorem addr_q (r1:l51Rd) (h0:0≤r1.p) (h1:r1.p≤1000000000):(F132 r1).1.size≤80∧(F132 r1).2=r1.p+1:=by
 unfold F132
 exact ⟨of_le _ _ (by decide),of_p _ _⟩
theorem prefix_le (r1:l51Rd):(F131 r1).1.size≤80:=by
 unfold F131
 exact of_le _ _ (by decide)
theorem addr_le (r1:l51Rd):(F132 r1).1.size≤80:=by
 unfold F132
 exact of_le _ _ (by decide)
theorem prefix_p (r1:l51Rd):(F131 r1).2=r1.p+1:=by
 unfold F131
 exact of_p _ _
theorem addr_p (r1:l51Rd):(F132 r1).2=r1.p+1:=by
 unfold F132
 exact of_p _ _
theorem app_le {x y:ByteArray} {a b:Nat} (hx:x.size≤a) (hy:y.size≤b):(x++y).size≤a+b:=by
 rw [ByteArray.size_append]; omega
theorem lit_le (a:Array UInt8):(⟨a⟩:ByteArray).size≤a.size:=Nat.le_refl _
theorem condS_le {c:Bool} {x y:ByteArray} {a b:Nat} (hx:x.size≤a) (hy:y.size≤b):(bif c then x else y).size≤a+b:=by
 cases c
 ·show y.size≤a+b; omega
 ·show x.size≤a+b; omega
theorem sumLe {x y:ByteArray} {a b:Nat} (hx:x.size≤a) (hy:y.size≤b) (h:a+b≤1000000000):((x.size+y.size:Nat):Int)≤9223372036854775807:=by omega
theorem szLe {s:ByteArray} {n m:Nat} (h:s.size≤n) (hn:n≤m):s.size≤m:=Nat.le_trans h hn
theorem cond_P {α:Type} {P:α→Prop} {c:Bool} {x y:α} (hx:P x) (hy:P y):P (bif c then x else y):=by
 cases c
 ·exact hy
 ·exact hx
theorem kc131l (X_:SV) (b_:List Int) (pp_:Int) {K_:Prop} (p0_:0≤pp_) (p1_:pp_≤1000000000) (p2_:b_.length≤2000) (q0_:0≤pp_) (q1_:pp_≤1000000000) (k_:((F131 ⟨b_,pp_⟩).1.size≤80∧(F131 ⟨b_,pp_⟩).2=pp_+1)→K_):(0≤pp_∧pp_≤1000000000∧b_.length≤2000)∧(sv X_=sv X_)∧(Imp (.l 1 eByte b_) (.l 1 eByte b_))∧(Imps ([.v (vI pp_)]) ([.v (vI pp_)]))∧K_:=⟨⟨p0_,p1_,p2_⟩,rfl,Imp.refl _,Imps.refl _,k_ (prefix_q (⟨b_,pp_⟩:l51Rd) q0_ q1_)⟩
abbrev kh131l (X_:SV) (g_:Nat) (b_:List Int) (pp_:Int):Hint true Tryz.prog:=.call 131 (S131 X_ g_ (⟨b_,pp_⟩:l51Rd)) (ok131 X_ g_ (⟨b_,pp_⟩:l51Rd)) none
theorem kc132l (X_:SV) (b_:List Int) (pp_:Int) {K_:Prop} (p0_:0≤pp_) (p1_:pp_≤1000000000) (p2_:b_.length≤2000) (q0_:0≤pp_) (q1_:pp_≤1000000000) (k_:((F132 ⟨b_,pp_⟩).1.size≤80∧(F132 ⟨b_,pp_⟩).2=pp_+1)→K_):(0≤pp_∧pp_≤1000000000∧b_.length≤2000)∧(sv X_=sv X_)∧(Imp (.l 1 eByte b_) (.l 1 eByte b_))∧(Imps ([.v (vI pp_)]) ([.v (vI pp_)]))∧K_:=⟨⟨p0_,p1_,p2_⟩,rfl,Imp.refl _,Imps.refl _,k_ (addr_q (⟨b_,pp_⟩:l51Rd) q0_ q1_)⟩
abbrev kh132l (X_:SV) (g_:Nat) (b_:List Int) (pp_:Int):Hint true Tryz.prog:=.call 132 (S132 X_ g_ (⟨b_,pp_⟩:l51Rd)) (ok132 X_ g_ (⟨b_,pp_⟩:l51Rd)) none
abbrev w37_:ByteArray:=⟨#[49,48,46,48,47,57]⟩
abbrev w38_:ByteArray:=⟨#[48,46,48,47,49]⟩
abbrev w39_:ByteArray:=⟨#[52,48,32,52,51]⟩
abbrev w40_:ByteArray:=⟨#[50,50,32,50,50]⟩
abbrev w41_:ByteArray:=⟨#[57,32,56]⟩
abbrev w42_:ByteArray:=⟨#[49,32,54,53,53,51,53]⟩
abbrev w43_:ByteArray:=⟨#[116,101,114,110]⟩
abbrev w44_:ByteArray:=⟨#[116,50]⟩
abbrev w45_:ByteArray:=⟨#[97,45,98]⟩
abbrev w46_:ByteArray:=⟨#[97,110,110]⟩
abbrev w47_:ByteArray:=⟨#[98,111,98]⟩
abbrev w48_:ByteArray:=⟨#[101,118,101]⟩
abbrev w49_:ByteArray:=⟨#[106,111,101]⟩
abbrev w50_:ByteArray:=⟨#[112,101,101,114,44,114,111,117,116,101,44,114,117,108,101]⟩
abbrev w51_:ByteArray:=⟨#[100,111,111,114,44,104,111,115,116]⟩
abbrev w52_:ByteArray:=⟨#[119,101,98]⟩
abbrev w53_:ByteArray:=⟨#[115,115,104]⟩
abbrev w54_:ByteArray:=⟨#[48]⟩
abbrev w55_:ByteArray:=⟨#[49]⟩
abbrev w56_:ByteArray:=⟨#[50]⟩
abbrev w57_:ByteArray:=⟨#[55]⟩
abbrev w58_:ByteArray:=⟨#[53]⟩
abbrev w59_:ByteArray:=⟨#[49,48]⟩
abbrev w60_:ByteArray:=⟨#[57,57]⟩
abbrev w61_:ByteArray:=⟨#[57]⟩
abbrev w62_:ByteArray:=⟨#[57,57,57,57,57,57]⟩
abbrev w63_:ByteArray:=⟨#[50,50]⟩
abbrev w64_:ByteArray:=⟨#[56,48]⟩
abbrev w65_:ByteArray:=⟨#[54,53,53,51,53]⟩
abbrev w66_:ByteArray:=⟨#[110,97,116,32]⟩
abbrev w67_:ByteArray:=⟨#[104,111,115,116,32]⟩
abbrev w68_:ByteArray:=⟨#[32,105,110,32]⟩
abbrev w69_:ByteArray:=⟨#[112,111,114,116,32]⟩
abbrev w70_:ByteArray:=⟨#[114,117,108,101,32]⟩
abbrev w71_:ByteArray:=⟨#[114,111,117,116,101,32]⟩
abbrev w72_:ByteArray:=⟨#[112,101,101,114,32]⟩
abbrev w73_:ByteArray:=⟨#[100,111,111,114,32]⟩
def F86_j0 (r1:l51Rd):Lp Bool (ByteArray×Int) :=
 bif ((F48 ⟨r1.b,r1.p⟩ 10).1==2) then (.done ((F48 ⟨r1.b,r1.p⟩ 10).1==2)) else (.done ((F48 ⟨r1.b,r1.p⟩ 10).1==3))
def F86_j1 (r1:l51Rd) (v39:Bool):Lp (ByteArray×Int) (ByteArray×Int) :=
 bif ((F48 ⟨r1.b,(F48 ⟨r1.b,r1.p⟩ 10).2⟩ 3).1==0) then (.done (((⟨#[32,105,110,32]⟩:ByteArray)++(F67 ⟨r1.b,(F48 ⟨r1.b,(F48 ⟨r1.b,r1.p⟩ 10).2⟩ 3).2⟩ ([(⟨#[119,101,98]⟩:ByteArray),(⟨#[115,115,104]⟩:ByteArray)]:List ByteArray)).1),(F67 ⟨r1.b,(F48 ⟨r1.b,(F48 ⟨r1.b,r1.p⟩ 10).2⟩ 3).2⟩ ([(⟨#[119,101,98]⟩:ByteArray),(⟨#[115,115,104]⟩:ByteArray)]:List ByteArray)).2)) else (.done ((⟨#[]⟩:ByteArray),(F48 ⟨r1.b,(F48 ⟨r1.b,r1.p⟩ 10).2⟩ 3).2))
def F86 (r1:l51Rd):ByteArray×Int :=
 bif ((F48 ⟨r1.b,r1.p⟩ 10).1==9) then (((((((⟨#[110,97,116,32]⟩:ByteArray)++(F67 ⟨r1.b,(F48 ⟨r1.b,r1.p⟩ 10).2⟩ ([(⟨#[49,48,46,48,47,56]⟩:ByteArray),(⟨#[49,48,46,48,47,57]⟩:ByteArray),(⟨#[48,46,48,47,49]⟩:ByteArray)]:List ByteArray)).1)++(⟨#[32]⟩:ByteArray))++(F67 ⟨r1.b,(F67 ⟨r1.b,(F48 ⟨r1.b,r1.p⟩ 10).2⟩ ([(⟨#[49,48,46,48,47,56]⟩:ByteArray),(⟨#[49,48,46,48,47,57]⟩:ByteArray),(⟨#[48,46,48,47,49]⟩:ByteArray)]:List ByteArray)).2⟩ ([(⟨#[50,48,48,46,49]⟩:ByteArray),(⟨#[49,49,46,52]⟩:ByteArray),(⟨#[49,48,46,49]⟩:ByteArray)]:List ByteArray)).1)++(⟨#[32]⟩:ByteArray))++(F67 ⟨r1.b,(F67 ⟨r1.b,(F67 ⟨r1.b,(F48 ⟨r1.b,r1.p⟩ 10).2⟩ ([(⟨#[49,48,46,48,47,56]⟩:ByteArray),(⟨#[49,48,46,48,47,57]⟩:ByteArray),(⟨#[48,46,48,47,49]⟩:ByteArray)]:List ByteArray)).2⟩ ([(⟨#[50,48,48,46,49]⟩:ByteArray),(⟨#[49,49,46,52]⟩:ByteArray),(⟨#[49,48,46,49]⟩:ByteArray)]:List ByteArray)).2⟩ ([(⟨#[52,48,32,52,51]⟩:ByteArray),(⟨#[50,50,32,50,50]⟩:ByteArray),(⟨#[57,32,56]⟩:ByteArray),(⟨#[49,32,54,53,53,51,53]⟩:ByteArray)]:List ByteArray)).1),(F67 ⟨r1.b,(F67 ⟨r1.b,(F67 ⟨r1.b,(F48 ⟨r1.b,r1.p⟩ 10).2⟩ ([(⟨#[49,48,46,48,47,56]⟩:ByteArray),(⟨#[49,48,46,48,47,57]⟩:ByteArray),(⟨#[48,46,48,47,49]⟩:ByteArray)]:List ByteArray)).2⟩ ([(⟨#[50,48,48,46,49]⟩:ByteArray),(⟨#[49,49,46,52]⟩:ByteArray),(⟨#[49,48,46,49]⟩:ByteArray)]:List ByteArray)).2⟩ ([(⟨#[52,48,32,52,51]⟩:ByteArray),(⟨#[50,50,32,50,50]⟩:ByteArray),(⟨#[57,32,56]⟩:ByteArray),(⟨#[49,32,54,53,53,51,53]⟩:ByteArray)]:List ByteArray)).2) else (bif ((F48 ⟨r1.b,r1.p⟩ 10).1==0) then (((⟨#[104,111,115,116,32]⟩:ByteArray)++(F67 ⟨r1.b,(F48 ⟨r1.b,r1.p⟩ 10).2⟩ ([(⟨#[116,101,114,110]⟩:ByteArray),(⟨#[116,50]⟩:ByteArray),(⟨#[97,45,98]⟩:ByteArray)]:List ByteArray)).1),(F67 ⟨r1.b,(F48 ⟨r1.b,r1.p⟩ 10).2⟩ ([(⟨#[116,101,114,110]⟩:ByteArray),(⟨#[116,50]⟩:ByteArray),(⟨#[97,45,98]⟩:ByteArray)]:List ByteArray)).2) else (bif ((F48 ⟨r1.b,r1.p⟩ 10).1==1) then (((((⟨#[117,115,101,114,32]⟩:ByteArray)++(F67 ⟨r1.b,(F48 ⟨r1.b,r1.p⟩ 10).2⟩ ([(⟨#[97,110,110]⟩:ByteArray),(⟨#[98,111,98]⟩:ByteArray),(⟨#[101,118,101]⟩:ByteArray),(⟨#[106,111,101]⟩:ByteArray)]:List ByteArray)).1)++(⟨#[32]⟩:ByteArray))++(F67 ⟨r1.b,(F67 ⟨r1.b,(F48 ⟨r1.b,r1.p⟩ 10).2⟩ ([(⟨#[97,110,110]⟩:ByteArray),(⟨#[98,111,98]⟩:ByteArray),(⟨#[101,118,101]⟩:ByteArray),(⟨#[106,111,101]⟩:ByteArray)]:List ByteArray)).2⟩ ([(⟨#[97,108,108]⟩:ByteArray),(⟨#[110,111,110,101]⟩:ByteArray),(⟨#[114,111,117,116,101]⟩:ByteArray),(⟨#[112,101,101,114,44,114,111,117,116,101,44,114,117,108,101]⟩:ByteArray),(⟨#[117,115,101,114]⟩:ByteArray),(⟨#[100,111,111,114,44,104,111,115,116]⟩:ByteArray)]:List ByteArray)).1),(F67 ⟨r1.b,(F67 ⟨r1.b,(F48 ⟨r1.b,r1.p⟩ 10).2⟩ ([(⟨#[97,110,110]⟩:ByteArray),(⟨#[98,111,98]⟩:ByteArray),(⟨#[101,118,101]⟩:ByteArray),(⟨#[106,111,101]⟩:ByteArray)]:List ByteArray)).2⟩ ([(⟨#[97,108,108]⟩:ByteArray),(⟨#[110,111,110,101]⟩:ByteArray),(⟨#[114,111,117,116,101]⟩:ByteArray),(⟨#[112,101,101,114,44,114,111,117,116,101,44,114,117,108,101]⟩:ByteArray),(⟨#[117,115,101,114]⟩:ByteArray),(⟨#[100,111,111,114,44,104,111,115,116]⟩:ByteArray)]:List ByteArray)).2) else ((F86_j0 r1).fin (fun r=>r) (fun v39=>bif v39 then ((F86_j1 r1 v39).fin (fun r=>r) (fun (tail,r2)=>((((((⟨#[112,111,114,116,32]⟩:ByteArray)++(F67 ⟨r1.b,r2⟩ ([(⟨#[48]⟩:ByteArray),(⟨#[49]⟩:ByteArray),(⟨#[50]⟩:ByteArray),(⟨#[55]⟩:ByteArray)]:List ByteArray)).1)++(⟨#[32]⟩:ByteArray))++(F131 ⟨r1.b,(F67 ⟨r1.b,r2⟩ ([(⟨#[48]⟩:ByteArray),(⟨#[49]⟩:ByteArray),(⟨#[50]⟩:ByteArray),(⟨#[55]⟩:ByteArray)]:List ByteArray)).2⟩).1)++tail),(F131 ⟨r1.b,(F67 ⟨r1.b,r2⟩ ([(⟨#[48]⟩:ByteArray),(⟨#[49]⟩:ByteArray),(⟨#[50]⟩:ByteArray),(⟨#[55]⟩:ByteArray)]:List ByteArray)).2⟩).2))) else (bif ((F48 ⟨r1.b,r1.p⟩ 10).1==4) then (((((((((((((⟨#[114,117,108,101,32]⟩:ByteArray)++(F67 ⟨r1.b,(F48 ⟨r1.b,r1.p⟩ 10).2⟩ ([(⟨#[119,101,98]⟩:ByteArray),(⟨#[115,115,104]⟩:ByteArray)]:List ByteArray)).1)++(⟨#[32]⟩:ByteArray))++(F67 ⟨r1.b,(F67 ⟨r1.b,(F48 ⟨r1.b,r1.p⟩ 10).2⟩ ([(⟨#[119,101,98]⟩:ByteArray),(⟨#[115,115,104]⟩:ByteArray)]:List ByteArray)).2⟩ ([(⟨#[48]⟩:ByteArray),(⟨#[53]⟩:ByteArray),(⟨#[49,48]⟩:ByteArray),(⟨#[57,57]⟩:ByteArray)]:List ByteArray)).1)++(⟨#[32]⟩:ByteArray))++(F67 ⟨r1.b,(F67 ⟨r1.b,(F67 ⟨r1.b,(F48 ⟨r1.b,r1.p⟩ 10).2⟩ ([(⟨#[119,101,98]⟩:ByteArray),(⟨#[115,115,104]⟩:ByteArray)]:List ByteArray)).2⟩ ([(⟨#[48]⟩:ByteArray),(⟨#[53]⟩:ByteArray),(⟨#[49,48]⟩:ByteArray),(⟨#[57,57]⟩:ByteArray)]:List ByteArray)).2⟩ ([(⟨#[112,101,114,109,105,116]⟩:ByteArray),(⟨#[100,101,110,121]⟩:ByteArray)]:List ByteArray)).1)++(⟨#[32]⟩:ByteArray))++(F131 ⟨r1.b,(F67 ⟨r1.b,(F67 ⟨r1.b,(F67 ⟨r1.b,(F48 ⟨r1.b,r1.p⟩ 10).2⟩ ([(⟨#[119,101,98]⟩:ByteArray),(⟨#[115,115,104]⟩:ByteArray)]:List ByteArray)).2⟩ ([(⟨#[48]⟩:ByteArray),(⟨#[53]⟩:ByteArray),(⟨#[49,48]⟩:ByteArray),(⟨#[57,57]⟩:ByteArray)]:List ByteArray)).2⟩ ([(⟨#[112,101,114,109,105,116]⟩:ByteArray),(⟨#[100,101,110,121]⟩:ByteArray)]:List ByteArray)).2⟩).1)++(⟨#[32]⟩:ByteArray))++(F131 ⟨r1.b,(F131 ⟨r1.b,(F67 ⟨r1.b,(F67 ⟨r1.b,(F67 ⟨r1.b,(F48 ⟨r1.b,r1.p⟩ 10).2⟩ ([(⟨#[119,101,98]⟩:ByteArray),(⟨#[115,115,104]⟩:ByteArray)]:List ByteArray)).2⟩ ([(⟨#[48]⟩:ByteArray),(⟨#[53]⟩:ByteArray),(⟨#[49,48]⟩:ByteArray),(⟨#[57,57]⟩:ByteArray)]:List ByteArray)).2⟩ ([(⟨#[112,101,114,109,105,116]⟩:ByteArray),(⟨#[100,101,110,121]⟩:ByteArray)]:List ByteArray)).2⟩).2⟩).1)++(⟨#[32]⟩:ByteArray))++(F67 ⟨r1.b,(F131 ⟨r1.b,(F131 ⟨r1.b,(F67 ⟨r1.b,(F67 ⟨r1.b,(F67 ⟨r1.b,(F48 ⟨r1.b,r1.p⟩ 10).2⟩ ([(⟨#[119,101,98]⟩:ByteArray),(⟨#[115,115,104]⟩:ByteArray)]:List ByteArray)).2⟩ ([(⟨#[48]⟩:ByteArray),(⟨#[53]⟩:ByteArray),(⟨#[49,48]⟩:ByteArray),(⟨#[57,57]⟩:ByteArray)]:List ByteArray)).2⟩ ([(⟨#[112,101,114,109,105,116]⟩:ByteArray),(⟨#[100,101,110,121]⟩:ByteArray)]:List ByteArray)).2⟩).2⟩).2⟩ ([(⟨#[48]⟩:ByteArray),(⟨#[49]⟩:ByteArray),(⟨#[55]⟩:ByteArray)]:List ByteArray)).1),(F67 ⟨r1.b,(F131 ⟨r1.b,(F131 ⟨r1.b,(F67 ⟨r1.b,(F67 ⟨r1.b,(F67 ⟨r1.b,(F48 ⟨r1.b,r1.p⟩ 10).2⟩ ([(⟨#[119,101,98]⟩:ByteArray),(⟨#[115,115,104]⟩:ByteArray)]:List ByteArray)).2⟩ ([(⟨#[48]⟩:ByteArray),(⟨#[53]⟩:ByteArray),(⟨#[49,48]⟩:ByteArray),(⟨#[57,57]⟩:ByteArray)]:List ByteArray)).2⟩ ([(⟨#[112,101,114,109,105,116]⟩:ByteArray),(⟨#[100,101,110,121]⟩:ByteArray)]:List ByteArray)).2⟩).2⟩).2⟩ ([(⟨#[48]⟩:ByteArray),(⟨#[49]⟩:ByteArray),(⟨#[55]⟩:ByteArray)]:List ByteArray)).2) else (bif ((F48 ⟨r1.b,r1.p⟩ 10).1==5) then (bif ((F48 ⟨r1.b,r1.p⟩ 10).1==5) then (((((⟨#[114,111,117,116,101,32]⟩:ByteArray)++(F131 ⟨r1.b,(F48 ⟨r1.b,r1.p⟩ 10).2⟩).1)++(⟨#[32]⟩:ByteArray))++(F132 ⟨r1.b,(F131 ⟨r1.b,(F48 ⟨r1.b,r1.p⟩ 10).2⟩).2⟩).1),(F132 ⟨r1.b,(F131 ⟨r1.b,(F48 ⟨r1.b,r1.p⟩ 10).2⟩).2⟩).2) else (bif ((F48 ⟨r1.b,r1.p⟩ 10).1==7) then (((((((⟨#[112,101,101,114,32]⟩:ByteArray)++(F132 ⟨r1.b,(F48 ⟨r1.b,r1.p⟩ 10).2⟩).1)++(⟨#[32]⟩:ByteArray))++(F67 ⟨r1.b,(F132 ⟨r1.b,(F48 ⟨r1.b,r1.p⟩ 10).2⟩).2⟩ ([(⟨#[49]⟩:ByteArray),(⟨#[57]⟩:ByteArray)]:List ByteArray)).1)++(⟨#[32]⟩:ByteArray))++(F67 ⟨r1.b,(F67 ⟨r1.b,(F132 ⟨r1.b,(F48 ⟨r1.b,r1.p⟩ 10).2⟩).2⟩ ([(⟨#[49]⟩:ByteArray),(⟨#[57]⟩:ByteArray)]:List ByteArray)).2⟩ ([(⟨#[55]⟩:ByteArray),(⟨#[57,57,57,57,57,57]⟩:ByteArray)]:List ByteArray)).1),(F67 ⟨r1.b,(F67 ⟨r1.b,(F132 ⟨r1.b,(F48 ⟨r1.b,r1.p⟩ 10).2⟩).2⟩ ([(⟨#[49]⟩:ByteArray),(⟨#[57]⟩:ByteArray)]:List ByteArray)).2⟩ ([(⟨#[55]⟩:ByteArray),(⟨#[57,57,57,57,57,57]⟩:ByteArray)]:List ByteArray)).2) else (((((((((⟨#[100,111,111,114,32]⟩:ByteArray)++(F67 ⟨r1.b,(F48 ⟨r1.b,r1.p⟩ 10).2⟩ ([(⟨#[49]⟩:ByteArray),(⟨#[55]⟩:ByteArray)]:List ByteArray)).1)++(⟨#[32]⟩:ByteArray))++(F67 ⟨r1.b,(F67 ⟨r1.b,(F48 ⟨r1.b,r1.p⟩ 10).2⟩ ([(⟨#[49]⟩:ByteArray),(⟨#[55]⟩:ByteArray)]:List ByteArray)).2⟩ ([(⟨#[50,50]⟩:ByteArray),(⟨#[56,48]⟩:ByteArray),(⟨#[54,53,53,51,53]⟩:ByteArray)]:List ByteArray)).1)++(⟨#[32]⟩:ByteArray))++(F132 ⟨r1.b,(F67 ⟨r1.b,(F67 ⟨r1.b,(F48 ⟨r1.b,r1.p⟩ 10).2⟩ ([(⟨#[49]⟩:ByteArray),(⟨#[55]⟩:ByteArray)]:List ByteArray)).2⟩ ([(⟨#[50,50]⟩:ByteArray),(⟨#[56,48]⟩:ByteArray),(⟨#[54,53,53,51,53]⟩:ByteArray)]:List ByteArray)).2⟩).1)++(⟨#[32]⟩:ByteArray))++(F67 ⟨r1.b,(F132 ⟨r1.b,(F67 ⟨r1.b,(F67 ⟨r1.b,(F48 ⟨r1.b,r1.p⟩ 10).2⟩ ([(⟨#[49]⟩:ByteArray),(⟨#[55]⟩:ByteArray)]:List ByteArray)).2⟩ ([(⟨#[50,50]⟩:ByteArray),(⟨#[56,48]⟩:ByteArray),(⟨#[54,53,53,51,53]⟩:ByteArray)]:List ByteArray)).2⟩).2⟩ ([(⟨#[50,50]⟩:ByteArray),(⟨#[49]⟩:ByteArray)]:List ByteArray)).1),(F67 ⟨r1.b,(F132 ⟨r1.b,(F67 ⟨r1.b,(F67 ⟨r1.b,(F48 ⟨r1.b,r1.p⟩ 10).2⟩ ([(⟨#[49]⟩:ByteArray),(⟨#[55]⟩:ByteArray)]:List ByteArray)).2⟩ ([(⟨#[50,50]⟩:ByteArray),(⟨#[56,48]⟩:ByteArray),(⟨#[54,53,53,51,53]⟩:ByteArray)]:List ByteArray)).2⟩).2⟩ ([(⟨#[50,50]⟩:ByteArray),(⟨#[49]⟩:ByteArray)]:List ByteArray)).2))) else (bif ((F48 ⟨r1.b,r1.p⟩ 10).1==6) then (((((⟨#[114,111,117,116,101,32]⟩:ByteArray)++(F131 ⟨r1.b,(F48 ⟨r1.b,r1.p⟩ 10).2⟩).1)++(⟨#[32]⟩:ByteArray))++(F132 ⟨r1.b,(F131 ⟨r1.b,(F48 ⟨r1.b,r1.p⟩ 10).2⟩).2⟩).1),(F132 ⟨r1.b,(F131 ⟨r1.b,(F48 ⟨r1.b,r1.p⟩ 10).2⟩).2⟩).2) else (bif ((F48 ⟨r1.b,r1.p⟩ 10).1==7) then (((((((⟨#[112,101,101,114,32]⟩:ByteArray)++(F132 ⟨r1.b,(F48 ⟨r1.b,r1.p⟩ 10).2⟩).1)++(⟨#[32]⟩:ByteArray))++(F67 ⟨r1.b,(F132 ⟨r1.b,(F48 ⟨r1.b,r1.p⟩ 10).2⟩).2⟩ ([(⟨#[49]⟩:ByteArray),(⟨#[57]⟩:ByteArray)]:List ByteArray)).1)++(⟨#[32]⟩:ByteArray))++(F67 ⟨r1.b,(F67 ⟨r1.b,(F132 ⟨r1.b,(F48 ⟨r1.b,r1.p⟩ 10).2⟩).2⟩ ([(⟨#[49]⟩:ByteArray),(⟨#[57]⟩:ByteArray)]:List ByteArray)).2⟩ ([(⟨#[55]⟩:ByteArray),(⟨#[57,57,57,57,57,57]⟩:ByteArray)]:List ByteArray)).1),(F67 ⟨r1.b,(F67 ⟨r1.b,(F132 ⟨r1.b,(F48 ⟨r1.b,r1.p⟩ 10).2⟩).2⟩ ([(⟨#[49]⟩:ByteArray),(⟨#[57]⟩:ByteArray)]:List ByteArray)).2⟩ ([(⟨#[55]⟩:ByteArray),(⟨#[57,57,57,57,57,57]⟩:ByteArray)]:List ByteArray)).2) else (((((((((⟨#[100,111,111,114,32]⟩:ByteArray)++(F67 ⟨r1.b,(F48 ⟨r1.b,r1.p⟩ 10).2⟩ ([(⟨#[49]⟩:ByteArray),(⟨#[55]⟩:ByteArray)]:List ByteArray)).1)++(⟨#[32]⟩:ByteArray))++(F67 ⟨r1.b,(F67 ⟨r1.b,(F48 ⟨r1.b,r1.p⟩ 10).2⟩ ([(⟨#[49]⟩:ByteArray),(⟨#[55]⟩:ByteArray)]:List ByteArray)).2⟩ ([(⟨#[50,50]⟩:ByteArray),(⟨#[56,48]⟩:ByteArray),(⟨#[54,53,53,51,53]⟩:ByteArray)]:List ByteArray)).1)++(⟨#[32]⟩:ByteArray))++(F132 ⟨r1.b,(F67 ⟨r1.b,(F67 ⟨r1.b,(F48 ⟨r1.b,r1.p⟩ 10).2⟩ ([(⟨#[49]⟩:ByteArray),(⟨#[55]⟩:ByteArray)]:List ByteArray)).2⟩ ([(⟨#[50,50]⟩:ByteArray),(⟨#[56,48]⟩:ByteArray),(⟨#[54,53,53,51,53]⟩:ByteArray)]:List ByteArray)).2⟩).1)++(⟨#[32]⟩:ByteArray))++(F67 ⟨r1.b,(F132 ⟨r1.b,(F67 ⟨r1.b,(F67 ⟨r1.b,(F48 ⟨r1.b,r1.p⟩ 10).2⟩ ([(⟨#[49]⟩:ByteArray),(⟨#[55]⟩:ByteArray)]:List ByteArray)).2⟩ ([(⟨#[50,50]⟩:ByteArray),(⟨#[56,48]⟩:ByteArray),(⟨#[54,53,53,51,53]⟩:ByteArray)]:List ByteArray)).2⟩).2⟩ ([(⟨#[50,50]⟩:ByteArray),(⟨#[49]⟩:ByteArray)]:List ByteArray)).1),(F67 ⟨r1.b,(F132 ⟨r1.b,(F67 ⟨r1.b,(F67 ⟨r1.b,(F48 ⟨r1.b,r1.p⟩ 10).2⟩ ([(⟨#[49]⟩:ByteArray),(⟨#[55]⟩:ByteArray)]:List ByteArray)).2⟩ ([(⟨#[50,50]⟩:ByteArray),(⟨#[56,48]⟩:ByteArray),(⟨#[54,53,53,51,53]⟩:ByteArray)]:List ByteArray)).2⟩).2⟩ ([(⟨#[50,50]⟩:ByteArray),(⟨#[49]⟩:ByteArray)]:List ByteArray)).2)))))))))
abbrev jJ86_0 (r1X:SV) (r1:l51Rd) (j:Bool):Prop:=(F86_j0 r1)=Lp.done j
theorem jn86_0 (r1X:SV) (r1:l51Rd) (v39:Bool) (e:(F86_j0 r1)=Lp.done v39):∃ j:Bool,((.int .i64 (F48 ⟨r1.b,r1.p⟩ 10).1:Value)=.int .i64 (F48 ⟨r1.b,r1.p⟩ 10).1)∧((.bool v39:Value)=.bool j)∧((.int .i64 (F48 ⟨r1.b,r1.p⟩ 10).2:Value)=.int .i64 (F48 ⟨r1.b,r1.p⟩ 10).2)∧((sv r1X:Value)=sv r1X)∧(Imp (.l 1 eByte r1.b) (.l 1 eByte r1.b))∧jJ86_0 r1X r1 j:=⟨v39,rfl,rfl,rfl,rfl,Imp.refl _,e⟩
abbrev jI86_1 (r1X:SV) (r1:l51Rd) (v39:Bool) (tail:ByteArray) (r2:Int):Prop:=tail.size≤100∧0≤r2∧r2≤r1.p+3
abbrev jJ86_1 (r1X:SV) (r1:l51Rd) (v39:Bool) (j:ByteArray×Int):Prop:=(F86_j1 r1 v39)=Lp.done j∧jI86_1 r1X r1 v39 j.1 j.2
theorem jn86_1 (r1X:SV) (r1:l51Rd) (v39:Bool) (tail:ByteArray) (r2:Int) (e:(F86_j1 r1 v39)=Lp.done (tail,r2)) (h:jI86_1 r1X r1 v39 tail r2):∃ j:ByteArray×Int,((.string tail:Value)=.string j.1)∧((.int .i64 r2:Value)=.int .i64 j.2)∧((sv r1X:Value)=sv r1X)∧(Imp (.l 1 eByte r1.b) (.l 1 eByte r1.b))∧jJ86_1 r1X r1 v39 j:=⟨(tail,r2),rfl,rfl,rfl,Imp.refl _,e,h⟩
def S86 (r1X:SV) (gr1:Nat) (r1:l51Rd):Spec:=⟨[.ptg gr1 86 (sv r1X) (.l 1 eByte r1.b) [.v (vI r1.p)] [.v (vI (F86 r1).2)]],.v (.string (F86 r1).1),0≤r1.p∧r1.p≤900000000∧r1.b.length≤2000⟩
set_option maxHeartbeats 4000000 in
theorem ok86 (r1X:SV) (gr1:Nat) (r1:l51Rd):(S86 r1X gr1 r1).ok Tryz.prog 86 :=
 fnG_ok mixed (fn:=Tryz.f86) (ct:=.seqk [(0,0)] .no (.seq (.seq (.reg [(1,kh48l r1X 0 r1.b r1.p 10)]) (.blk (.seq .no (.cond (.seq (.reg [(1,.dat (.l 1 eStr ([w23_,w37_,w38_]:List ByteArray))),(2,kh67l r1X 0 r1.b (F48 ⟨r1.b,r1.p⟩ 10).2 ([w23_,w37_,w38_]:List ByteArray)),(6,.dat (.l 1 eStr ([w34_,w33_,w31_]:List ByteArray))),(7,kh67l r1X 0 r1.b (F67 ⟨r1.b,(F48 ⟨r1.b,r1.p⟩ 10).2⟩ ([w23_,w37_,w38_]:List ByteArray)).2 ([w34_,w33_,w31_]:List ByteArray)),(11,.dat (.l 1 eStr ([w39_,w40_,w41_,w42_]:List ByteArray))),(12,kh67l r1X 0 r1.b (F67 ⟨r1.b,(F67 ⟨r1.b,(F48 ⟨r1.b,r1.p⟩ 10).2⟩ ([w23_,w37_,w38_]:List ByteArray)).2⟩ ([w34_,w33_,w31_]:List ByteArray)).2 ([w39_,w40_,w41_,w42_]:List ByteArray))]) .no) (.seq .no (.cond (.seq (.reg [(1,.dat (.l 1 eStr ([w43_,w44_,w45_]:List ByteArray))),(2,kh67l r1X 0 r1.b (F48 ⟨r1.b,r1.p⟩ 10).2 ([w43_,w44_,w45_]:List ByteArray))]) .no) (.seq .no (.cond (.seq (.reg [(1,.dat (.l 1 eStr ([w46_,w47_,w48_,w49_]:List ByteArray))),(2,kh67l r1X 0 r1.b (F48 ⟨r1.b,r1.p⟩ 10).2 ([w46_,w47_,w48_,w49_]:List ByteArray)),(6,.dat (.l 1 eStr ([w11_,w12_,w8_,w50_,w10_,w51_]:List ByteArray))),(7,kh67l r1X 0 r1.b (F67 ⟨r1.b,(F48 ⟨r1.b,r1.p⟩ 10).2⟩ ([w46_,w47_,w48_,w49_]:List ByteArray)).2 ([w11_,w12_,w8_,w50_,w10_,w51_]:List ByteArray))]) .no) (.cut (ι:=Bool) (fun j=>(fun (v39:Bool)=>(⟨[(0,some (.p 0 0)),(5,some (.v (vI (F48 ⟨r1.b,r1.p⟩ 10).1))),(39,some (.v (.bool v39)))],[(0,some (.box 86 [.h 1 0,.v (vI (F48 ⟨r1.b,r1.p⟩ 10).2)])),(1,some (.vl (sv r1X) (.l 1 eByte r1.b)))],2⟩:St)) j) (jJ86_0 r1X r1) (.seq .no (.cond .no .no)) (fun j=>(fun (v39:Bool)=>(.cond (.seq .no (.cut (ι:=ByteArray×Int) (fun j=>(fun (tail:ByteArray) (r2:Int)=>(⟨[(0,some (.p 0 0)),(3,some (.v (.string tail)))],[(0,some (.box 86 [.h 1 0,.v (vI r2)])),(1,some (.vl (sv r1X) (.l 1 eByte r1.b)))],2⟩:St)) j.1 j.2) (jJ86_1 r1X r1 v39) (.seq (.reg [(1,kh48l r1X 1 r1.b (F48 ⟨r1.b,r1.p⟩ 10).2 3)]) (.cond (.reg [(1,.dat (.l 1 eStr ([w52_,w53_]:List ByteArray))),(2,kh67l r1X 1 r1.b (F48 ⟨r1.b,(F48 ⟨r1.b,r1.p⟩ 10).2⟩ 3).2 ([w52_,w53_]:List ByteArray))]) .no)) (fun j=>(fun (tail:ByteArray) (r2:Int)=>(.seq (.reg [(1,.dat (.l 1 eStr ([w54_,w55_,w56_,w57_]:List ByteArray))),(2,kh67l r1X 1 r1.b r2 ([w54_,w55_,w56_,w57_]:List ByteArray)),(6,kh131l r1X 1 r1.b (F67 ⟨r1.b,r2⟩ ([w54_,w55_,w56_,w57_]:List ByteArray)).2)]) .no)) j.1 j.2))) (.seq .no (.cond (.seq (.reg [(1,.dat (.l 1 eStr ([w52_,w53_]:List ByteArray))),(2,kh67l r1X 1 r1.b (F48 ⟨r1.b,r1.p⟩ 10).2 ([w52_,w53_]:List ByteArray)),(6,.dat (.l 1 eStr ([w54_,w58_,w59_,w60_]:List ByteArray))),(7,kh67l r1X 1 r1.b (F67 ⟨r1.b,(F48 ⟨r1.b,r1.p⟩ 10).2⟩ ([w52_,w53_]:List ByteArray)).2 ([w54_,w58_,w59_,w60_]:List ByteArray)),(11,.dat (.l 1 eStr ([w17_,w18_]:List ByteArray))),(12,kh67l r1X 1 r1.b (F67 ⟨r1.b,(F67 ⟨r1.b,(F48 ⟨r1.b,r1.p⟩ 10).2⟩ ([w52_,w53_]:List ByteArray)).2⟩ ([w54_,w58_,w59_,w60_]:List ByteArray)).2 ([w17_,w18_]:List ByteArray)),(16,kh131l r1X 1 r1.b (F67 ⟨r1.b,(F67 ⟨r1.b,(F67 ⟨r1.b,(F48 ⟨r1.b,r1.p⟩ 10).2⟩ ([w52_,w53_]:List ByteArray)).2⟩ ([w54_,w58_,w59_,w60_]:List ByteArray)).2⟩ ([w17_,w18_]:List ByteArray)).2),(20,kh131l r1X 1 r1.b (F131 ⟨r1.b,(F67 ⟨r1.b,(F67 ⟨r1.b,(F67 ⟨r1.b,(F48 ⟨r1.b,r1.p⟩ 10).2⟩ ([w52_,w53_]:List ByteArray)).2⟩ ([w54_,w58_,w59_,w60_]:List ByteArray)).2⟩ ([w17_,w18_]:List ByteArray)).2⟩).2),(24,.dat (.l 1 eStr ([w54_,w55_,w57_]:List ByteArray))),(25,kh67l r1X 1 r1.b (F131 ⟨r1.b,(F131 ⟨r1.b,(F67 ⟨r1.b,(F67 ⟨r1.b,(F67 ⟨r1.b,(F48 ⟨r1.b,r1.p⟩ 10).2⟩ ([w52_,w53_]:List ByteArray)).2⟩ ([w54_,w58_,w59_,w60_]:List ByteArray)).2⟩ ([w17_,w18_]:List ByteArray)).2⟩).2⟩).2 ([w54_,w55_,w57_]:List ByteArray))]) .no) (.seq (.seq .no (.cond .no .no)) (.cond (.seq (.reg [(1,kh131l r1X 1 r1.b (F48 ⟨r1.b,r1.p⟩ 10).2),(5,kh132l r1X 1 r1.b (F131 ⟨r1.b,(F48 ⟨r1.b,r1.p⟩ 10).2⟩).2)]) .no) (.seq .no (.cond (.seq (.reg [(1,kh132l r1X 1 r1.b (F48 ⟨r1.b,r1.p⟩ 10).2),(5,.dat (.l 1 eStr ([w55_,w61_]:List ByteArray))),(6,kh67l r1X 1 r1.b (F132 ⟨r1.b,(F48 ⟨r1.b,r1.p⟩ 10).2⟩).2 ([w55_,w61_]:List ByteArray)),(10,.dat (.l 1 eStr ([w57_,w62_]:List ByteArray))),(11,kh67l r1X 1 r1.b (F67 ⟨r1.b,(F132 ⟨r1.b,(F48 ⟨r1.b,r1.p⟩ 10).2⟩).2⟩ ([w55_,w61_]:List ByteArray)).2 ([w57_,w62_]:List ByteArray))]) .no) .no)))))))) j)))))))))) (.seq (.reg [(1,.dat (.l 1 eStr ([w55_,w57_]:List ByteArray))),(2,kh67l r1X 1 r1.b (F48 ⟨r1.b,r1.p⟩ 10).2 ([w55_,w57_]:List ByteArray)),(6,.dat (.l 1 eStr ([w63_,w64_,w65_]:List ByteArray))),(7,kh67l r1X 1 r1.b (F67 ⟨r1.b,(F48 ⟨r1.b,r1.p⟩ 10).2⟩ ([w55_,w57_]:List ByteArray)).2 ([w63_,w64_,w65_]:List ByteArray)),(11,kh132l r1X 1 r1.b (F67 ⟨r1.b,(F67 ⟨r1.b,(F48 ⟨r1.b,r1.p⟩ 10).2⟩ ([w55_,w57_]:List ByteArray)).2⟩ ([w63_,w64_,w65_]:List ByteArray)).2),(15,.dat (.l 1 eStr ([w63_,w55_]:List ByteArray))),(16,kh67l r1X 1 r1.b (F132 ⟨r1.b,(F67 ⟨r1.b,(F67 ⟨r1.b,(F48 ⟨r1.b,r1.p⟩ 10).2⟩ ([w55_,w57_]:List ByteArray)).2⟩ ([w63_,w64_,w65_]:List ByteArray)).2⟩).2 ([w63_,w55_]:List ByteArray))]) .no))) Tryz.func86 (fun (hp:0≤r1.p∧r1.p≤900000000∧r1.b.length≤2000)=>have hpre0:=hp.1; have hpre1:=hp.2.1; have hpre2:=hp.2.2; kn r1.b fun _=>kc48l r1X r1.b r1.p 10 (by omega) (by omega) (by omega) (by omega) (by omega) (fun gv1=>ife (F48 ⟨r1.b,r1.p⟩ 10).1 9 (fun h2 _=>ai (bokr 1 eStr ([w23_,w37_,w38_]:List ByteArray) fun _=>rfl) (kc67l r1X r1.b (F48 ⟨r1.b,r1.p⟩ 10).2 ([w23_,w37_,w38_]:List ByteArray) (by omega) (by omega) (by omega) (by decide) (by decide) (by omega) (by omega) (by decide) (fun gv3=>ai (sumLe (lit_le _) (of_le (n:=80) _ _ (by decide)) (by decide):((w66_.size+(F67 ⟨r1.b,(F48 ⟨r1.b,r1.p⟩ 10).2⟩ ([w23_,w37_,w38_]:List ByteArray)).1.size:Nat):Int)≤9223372036854775807) (ai (sumLe (app_le (lit_le _) (of_le (n:=80) _ _ (by decide))) (lit_le _) (by decide):(((w66_++(F67 ⟨r1.b,(F48 ⟨r1.b,r1.p⟩ 10).2⟩ ([w23_,w37_,w38_]:List ByteArray)).1).size+w15_.size:Nat):Int)≤9223372036854775807) (ai (bokr 1 eStr ([w34_,w33_,w31_]:List ByteArray) fun _=>rfl) (kc67l r1X r1.b (F67 ⟨r1.b,(F48 ⟨r1.b,r1.p⟩ 10).2⟩ ([w23_,w37_,w38_]:List ByteArray)).2 ([w34_,w33_,w31_]:List ByteArray) (by omega) (by omega) (by omega) (by decide) (by decide) (by omega) (by omega) (by decide) (fun gv4=>ai (sumLe (app_le (app_le (lit_le _) (of_le (n:=80) _ _ (by decide))) (lit_le _)) (of_le (n:=80) _ _ (by decide)) (by decide):((((w66_++(F67 ⟨r1.b,(F48 ⟨r1.b,r1.p⟩ 10).2⟩ ([w23_,w37_,w38_]:List ByteArray)).1)++w15_).size+(F67 ⟨r1.b,(F67 ⟨r1.b,(F48 ⟨r1.b,r1.p⟩ 10).2⟩ ([w23_,w37_,w38_]:List ByteArray)).2⟩ ([w34_,w33_,w31_]:List ByteArray)).1.size:Nat):Int)≤9223372036854775807) (ai (sumLe (app_le (app_le (app_le (lit_le _) (of_le (n:=80) _ _ (by decide))) (lit_le _)) (of_le (n:=80) _ _ (by decide))) (lit_le _) (by decide):(((((w66_++(F67 ⟨r1.b,(F48 ⟨r1.b,r1.p⟩ 10).2⟩ ([w23_,w37_,w38_]:List ByteArray)).1)++w15_)++(F67 ⟨r1.b,(F67 ⟨r1.b,(F48 ⟨r1.b,r1.p⟩ 10).2⟩ ([w23_,w37_,w38_]:List ByteArray)).2⟩ ([w34_,w33_,w31_]:List ByteArray)).1).size+w15_.size:Nat):Int)≤9223372036854775807) (ai (bokr 1 eStr ([w39_,w40_,w41_,w42_]:List ByteArray) fun _=>rfl) (kc67l r1X r1.b (F67 ⟨r1.b,(F67 ⟨r1.b,(F48 ⟨r1.b,r1.p⟩ 10).2⟩ ([w23_,w37_,w38_]:List ByteArray)).2⟩ ([w34_,w33_,w31_]:List ByteArray)).2 ([w39_,w40_,w41_,w42_]:List ByteArray) (by omega) (by omega) (by omega) (by decide) (by decide) (by omega) (by omega) (by decide) (fun gv5=>ai (sumLe (app_le (app_le (app_le (app_le (lit_le _) (of_le (n:=80) _ _ (by decide))) (lit_le _)) (of_le (n:=80) _ _ (by decide))) (lit_le _)) (of_le (n:=80) _ _ (by decide)) (by decide):((((((w66_++(F67 ⟨r1.b,(F48 ⟨r1.b,r1.p⟩ 10).2⟩ ([w23_,w37_,w38_]:List ByteArray)).1)++w15_)++(F67 ⟨r1.b,(F67 ⟨r1.b,(F48 ⟨r1.b,r1.p⟩ 10).2⟩ ([w23_,w37_,w38_]:List ByteArray)).2⟩ ([w34_,w33_,w31_]:List ByteArray)).1)++w15_).size+(F67 ⟨r1.b,(F67 ⟨r1.b,(F67 ⟨r1.b,(F48 ⟨r1.b,r1.p⟩ 10).2⟩ ([w23_,w37_,w38_]:List ByteArray)).2⟩ ([w34_,w33_,w31_]:List ByteArray)).2⟩ ([w39_,w40_,w41_,w42_]:List ByteArray)).1.size:Nat):Int)≤9223372036854775807) ((fun hF:((((((w66_++(F67 ⟨r1.b,(F48 ⟨r1.b,r1.p⟩ 10).2⟩ ([w23_,w37_,w38_]:List ByteArray)).1)++w15_)++(F67 ⟨r1.b,(F67 ⟨r1.b,(F48 ⟨r1.b,r1.p⟩ 10).2⟩ ([w23_,w37_,w38_]:List ByteArray)).2⟩ ([w34_,w33_,w31_]:List ByteArray)).1)++w15_)++(F67 ⟨r1.b,(F67 ⟨r1.b,(F67 ⟨r1.b,(F48 ⟨r1.b,r1.p⟩ 10).2⟩ ([w23_,w37_,w38_]:List ByteArray)).2⟩ ([w34_,w33_,w31_]:List ByteArray)).2⟩ ([w39_,w40_,w41_,w42_]:List ByteArray)).1),(F67 ⟨r1.b,(F67 ⟨r1.b,(F67 ⟨r1.b,(F48 ⟨r1.b,r1.p⟩ 10).2⟩ ([w23_,w37_,w38_]:List ByteArray)).2⟩ ([w34_,w33_,w31_]:List ByteArray)).2⟩ ([w39_,w40_,w41_,w42_]:List ByteArray)).2)=(F86 r1)=>ai (congrArg (fun r:ByteArray×Int=>(.string r.1:Value)) hF) (ai (ai (Imp.refl (Dat.v (sv r1X))) (ai (Imp.of_eq (congrArg (fun r:ByteArray×Int=>Dat.v (vI r.2)) hF)) trivial)) trivial)) (condT h2 rfl))))))))))))) (fun h2 _=>ife (F48 ⟨r1.b,r1.p⟩ 10).1 0 (fun h6 _=>ai (bokr 1 eStr ([w43_,w44_,w45_]:List ByteArray) fun _=>rfl) (kc67l r1X r1.b (F48 ⟨r1.b,r1.p⟩ 10).2 ([w43_,w44_,w45_]:List ByteArray) (by omega) (by omega) (by omega) (by decide) (by decide) (by omega) (by omega) (by decide) (fun gv7=>ai (sumLe (lit_le _) (of_le (n:=80) _ _ (by decide)) (by decide):((w67_.size+(F67 ⟨r1.b,(F48 ⟨r1.b,r1.p⟩ 10).2⟩ ([w43_,w44_,w45_]:List ByteArray)).1.size:Nat):Int)≤9223372036854775807) ((fun hF:((w67_++(F67 ⟨r1.b,(F48 ⟨r1.b,r1.p⟩ 10).2⟩ ([w43_,w44_,w45_]:List ByteArray)).1),(F67 ⟨r1.b,(F48 ⟨r1.b,r1.p⟩ 10).2⟩ ([w43_,w44_,w45_]:List ByteArray)).2)=(F86 r1)=>ai (congrArg (fun r:ByteArray×Int=>(.string r.1:Value)) hF) (ai (ai (Imp.refl (Dat.v (sv r1X))) (ai (Imp.of_eq (congrArg (fun r:ByteArray×Int=>Dat.v (vI r.2)) hF)) trivial)) trivial)) (condF h2 (condT h6 rfl)))))) (fun h6 _=>ife (F48 ⟨r1.b,r1.p⟩ 10).1 1 (fun h8 _=>ai (bokr 1 eStr ([w46_,w47_,w48_,w49_]:List ByteArray) fun _=>rfl) (kc67l r1X r1.b (F48 ⟨r1.b,r1.p⟩ 10).2 ([w46_,w47_,w48_,w49_]:List ByteArray) (by omega) (by omega) (by omega) (by decide) (by decide) (by omega) (by omega) (by decide) (fun gv9=>ai (sumLe (lit_le _) (of_le (n:=80) _ _ (by decide)) (by decide):((w22_.size+(F67 ⟨r1.b,(F48 ⟨r1.b,r1.p⟩ 10).2⟩ ([w46_,w47_,w48_,w49_]:List ByteArray)).1.size:Nat):Int)≤9223372036854775807) (ai (sumLe (app_le (lit_le _) (of_le (n:=80) _ _ (by decide))) (lit_le _) (by decide):(((w22_++(F67 ⟨r1.b,(F48 ⟨r1.b,r1.p⟩ 10).2⟩ ([w46_,w47_,w48_,w49_]:List ByteArray)).1).size+w15_.size:Nat):Int)≤9223372036854775807) (ai (bokr 1 eStr ([w11_,w12_,w8_,w50_,w10_,w51_]:List ByteArray) fun _=>rfl) (kc67l r1X r1.b (F67 ⟨r1.b,(F48 ⟨r1.b,r1.p⟩ 10).2⟩ ([w46_,w47_,w48_,w49_]:List ByteArray)).2 ([w11_,w12_,w8_,w50_,w10_,w51_]:List ByteArray) (by omega) (by omega) (by omega) (by decide) (by decide) (by omega) (by omega) (by decide) (fun gv10=>ai (sumLe (app_le (app_le (lit_le _) (of_le (n:=80) _ _ (by decide))) (lit_le _)) (of_le (n:=80) _ _ (by decide)) (by decide):((((w22_++(F67 ⟨r1.b,(F48 ⟨r1.b,r1.p⟩ 10).2⟩ ([w46_,w47_,w48_,w49_]:List ByteArray)).1)++w15_).size+(F67 ⟨r1.b,(F67 ⟨r1.b,(F48 ⟨r1.b,r1.p⟩ 10).2⟩ ([w46_,w47_,w48_,w49_]:List ByteArray)).2⟩ ([w11_,w12_,w8_,w50_,w10_,w51_]:List ByteArray)).1.size:Nat):Int)≤9223372036854775807) ((fun hF:((((w22_++(F67 ⟨r1.b,(F48 ⟨r1.b,r1.p⟩ 10).2⟩ ([w46_,w47_,w48_,w49_]:List ByteArray)).1)++w15_)++(F67 ⟨r1.b,(F67 ⟨r1.b,(F48 ⟨r1.b,r1.p⟩ 10).2⟩ ([w46_,w47_,w48_,w49_]:List ByteArray)).2⟩ ([w11_,w12_,w8_,w50_,w10_,w51_]:List ByteArray)).1),(F67 ⟨r1.b,(F67 ⟨r1.b,(F48 ⟨r1.b,r1.p⟩ 10).2⟩ ([w46_,w47_,w48_,w49_]:List ByteArray)).2⟩ ([w11_,w12_,w8_,w50_,w10_,w51_]:List ByteArray)).2)=(F86 r1)=>ai (congrArg (fun r:ByteArray×Int=>(.string r.1:Value)) hF) (ai (ai (Imp.refl (Dat.v (sv r1X))) (ai (Imp.of_eq (congrArg (fun r:ByteArray×Int=>Dat.v (vI r.2)) hF)) trivial)) trivial)) (condF h2 (condF h6 (condT h8 rfl))))))))))) (fun h8 _=>ai (ife (F48 ⟨r1.b,r1.p⟩ 10).1 2 (fun h11 _=>jn86_0 r1X r1 ((F48 ⟨r1.b,r1.p⟩ 10).1==2) (Eq.symm (condT h11 rfl)) ) (fun h11 _=>jn86_0 r1X r1 ((F48 ⟨r1.b,r1.p⟩ 10).1==3) (Eq.symm (condF h11 rfl)) )) (fun (j:Bool) (hj:jJ86_0 r1X r1 j)=>(fun (v39:Bool) (hJ0_12:(F86_j0 r1)=Lp.done v39)=>ifb v39 (fun h13=>ai (kc48l r1X r1.b (F48 ⟨r1.b,r1.p⟩ 10).2 3 (by omega) (by omega) (by omega) (by omega) (by omega) (fun gv14=>ife (F48 ⟨r1.b,(F48 ⟨r1.b,r1.p⟩ 10).2⟩ 3).1 0 (fun h15 _=>ai (bokr 1 eStr ([w52_,w53_]:List ByteArray) fun _=>rfl) (kc67l r1X r1.b (F48 ⟨r1.b,(F48 ⟨r1.b,r1.p⟩ 10).2⟩ 3).2 ([w52_,w53_]:List ByteArray) (by omega) (by omega) (by omega) (by decide) (by decide) (by omega) (by omega) (by decide) (fun gv16=>ai (sumLe (lit_le _) (of_le (n:=80) _ _ (by decide)) (by decide):((w68_.size+(F67 ⟨r1.b,(F48 ⟨r1.b,(F48 ⟨r1.b,r1.p⟩ 10).2⟩ 3).2⟩ ([w52_,w53_]:List ByteArray)).1.size:Nat):Int)≤9223372036854775807) (jn86_1 r1X r1 v39 (w68_++(F67 ⟨r1.b,(F48 ⟨r1.b,(F48 ⟨r1.b,r1.p⟩ 10).2⟩ 3).2⟩ ([w52_,w53_]:List ByteArray)).1) (F67 ⟨r1.b,(F48 ⟨r1.b,(F48 ⟨r1.b,r1.p⟩ 10).2⟩ 3).2⟩ ([w52_,w53_]:List ByteArray)).2 (Eq.symm (condT h15 rfl)) (by refine ⟨?_,?_,?_⟩ <;> first | omega | (simp only [lens,ib] at*<;> omega) | (apply szLe; (· repeat (first | (exact (by assumption:tail.size≤100)) | apply app_le | exact of_le (n:=80) _ _ (by decide) | exact prefix_le _ | exact addr_le _ | exact lit_le _)); decide)))))) (fun h15 _=>jn86_1 r1X r1 v39 w13_ (F48 ⟨r1.b,(F48 ⟨r1.b,r1.p⟩ 10).2⟩ 3).2 (Eq.symm (condF h15 rfl)) (by refine ⟨?_,?_,?_⟩ <;> first | omega | (simp only [lens,ib] at*<;> omega) | (apply szLe; (· repeat (first | (exact (by assumption:tail.size≤100)) | apply app_le | exact of_le (n:=80) _ _ (by decide) | exact prefix_le _ | exact addr_le _ | exact lit_le _)); decide))))) (fun (j:ByteArray×Int) (hj:jJ86_1 r1X r1 v39 j)=>(fun (tail:ByteArray) (r2:Int) (hJ1_17:(F86_j1 r1 v39)=Lp.done (tail,r2)) (hw:jI86_1 r1X r1 v39 tail r2)=>have _:=hw.1; have _:=hw.2.1; have _:=hw.2.2; ai (bokr 1 eStr ([w54_,w55_,w56_,w57_]:List ByteArray) fun _=>rfl) (kc67l r1X r1.b r2 ([w54_,w55_,w56_,w57_]:List ByteArray) (by omega) (by omega) (by omega) (by decide) (by decide) (by omega) (by omega) (by decide) (fun gv18=>ai (sumLe (lit_le _) (of_le (n:=80) _ _ (by decide)) (by decide):((w69_.size+(F67 ⟨r1.b,r2⟩ ([w54_,w55_,w56_,w57_]:List ByteArray)).1.size:Nat):Int)≤9223372036854775807) (ai (sumLe (app_le (lit_le _) (of_le (n:=80) _ _ (by decide))) (lit_le _) (by decide):(((w69_++(F67 ⟨r1.b,r2⟩ ([w54_,w55_,w56_,w57_]:List ByteArray)).1).size+w15_.size:Nat):Int)≤9223372036854775807) (kc131l r1X r1.b (F67 ⟨r1.b,r2⟩ ([w54_,w55_,w56_,w57_]:List ByteArray)).2 (by omega) (by omega) (by omega) (by omega) (by omega) (fun gv19=>ai (sumLe (app_le (app_le (lit_le _) (of_le (n:=80) _ _ (by decide))) (lit_le _)) (prefix_le _) (by decide):((((w69_++(F67 ⟨r1.b,r2⟩ ([w54_,w55_,w56_,w57_]:List ByteArray)).1)++w15_).size+(F131 ⟨r1.b,(F67 ⟨r1.b,r2⟩ ([w54_,w55_,w56_,w57_]:List ByteArray)).2⟩).1.size:Nat):Int)≤9223372036854775807) (ai (sumLe (app_le (app_le (app_le (lit_le _) (of_le (n:=80) _ _ (by decide))) (lit_le _)) (prefix_le _)) (by assumption:tail.size≤100) (by decide):(((((w69_++(F67 ⟨r1.b,r2⟩ ([w54_,w55_,w56_,w57_]:List ByteArray)).1)++w15_)++(F131 ⟨r1.b,(F67 ⟨r1.b,r2⟩ ([w54_,w55_,w56_,w57_]:List ByteArray)).2⟩).1).size+tail.size:Nat):Int)≤9223372036854775807) ((fun hF:(((((w69_++(F67 ⟨r1.b,r2⟩ ([w54_,w55_,w56_,w57_]:List ByteArray)).1)++w15_)++(F131 ⟨r1.b,(F67 ⟨r1.b,r2⟩ ([w54_,w55_,w56_,w57_]:List ByteArray)).2⟩).1)++tail),(F131 ⟨r1.b,(F67 ⟨r1.b,r2⟩ ([w54_,w55_,w56_,w57_]:List ByteArray)).2⟩).2)=(F86 r1)=>ai (congrArg (fun r:ByteArray×Int=>(.string r.1:Value)) hF) (ai (ai (Imp.refl (Dat.v (sv r1X))) (ai (Imp.of_eq (congrArg (fun r:ByteArray×Int=>Dat.v (vI r.2)) hF)) trivial)) trivial)) (condF h2 (condF h6 (condF h8 (finD hJ0_12 (condT h13 (finD hJ1_17 rfl)))))))))))))) j.1 j.2 hj.1 hj.2)) (fun h13=>ife (F48 ⟨r1.b,r1.p⟩ 10).1 4 (fun h20 _=>ai (bokr 1 eStr ([w52_,w53_]:List ByteArray) fun _=>rfl) (kc67l r1X r1.b (F48 ⟨r1.b,r1.p⟩ 10).2 ([w52_,w53_]:List ByteArray) (by omega) (by omega) (by omega) (by decide) (by decide) (by omega) (by omega) (by decide) (fun gv21=>ai (sumLe (lit_le _) (of_le (n:=80) _ _ (by decide)) (by decide):((w70_.size+(F67 ⟨r1.b,(F48 ⟨r1.b,r1.p⟩ 10).2⟩ ([w52_,w53_]:List ByteArray)).1.size:Nat):Int)≤9223372036854775807) (ai (sumLe (app_le (lit_le _) (of_le (n:=80) _ _ (by decide))) (lit_le _) (by decide):(((w70_++(F67 ⟨r1.b,(F48 ⟨r1.b,r1.p⟩ 10).2⟩ ([w52_,w53_]:List ByteArray)).1).size+w15_.size:Nat):Int)≤9223372036854775807) (ai (bokr 1 eStr ([w54_,w58_,w59_,w60_]:List ByteArray) fun _=>rfl) (kc67l r1X r1.b (F67 ⟨r1.b,(F48 ⟨r1.b,r1.p⟩ 10).2⟩ ([w52_,w53_]:List ByteArray)).2 ([w54_,w58_,w59_,w60_]:List ByteArray) (by omega) (by omega) (by omega) (by decide) (by decide) (by omega) (by omega) (by decide) (fun gv22=>ai (sumLe (app_le (app_le (lit_le _) (of_le (n:=80) _ _ (by decide))) (lit_le _)) (of_le (n:=80) _ _ (by decide)) (by decide):((((w70_++(F67 ⟨r1.b,(F48 ⟨r1.b,r1.p⟩ 10).2⟩ ([w52_,w53_]:List ByteArray)).1)++w15_).size+(F67 ⟨r1.b,(F67 ⟨r1.b,(F48 ⟨r1.b,r1.p⟩ 10).2⟩ ([w52_,w53_]:List ByteArray)).2⟩ ([w54_,w58_,w59_,w60_]:List ByteArray)).1.size:Nat):Int)≤9223372036854775807) (ai (sumLe (app_le (app_le (app_le (lit_le _) (of_le (n:=80) _ _ (by decide))) (lit_le _)) (of_le (n:=80) _ _ (by decide))) (lit_le _) (by decide):(((((w70_++(F67 ⟨r1.b,(F48 ⟨r1.b,r1.p⟩ 10).2⟩ ([w52_,w53_]:List ByteArray)).1)++w15_)++(F67 ⟨r1.b,(F67 ⟨r1.b,(F48 ⟨r1.b,r1.p⟩ 10).2⟩ ([w52_,w53_]:List ByteArray)).2⟩ ([w54_,w58_,w59_,w60_]:List ByteArray)).1).size+w15_.size:Nat):Int)≤9223372036854775807) (ai (bokr 1 eStr ([w17_,w18_]:List ByteArray) fun _=>rfl) (kc67l r1X r1.b (F67 ⟨r1.b,(F67 ⟨r1.b,(F48 ⟨r1.b,r1.p⟩ 10).2⟩ ([w52_,w53_]:List ByteArray)).2⟩ ([w54_,w58_,w59_,w60_]:List ByteArray)).2 ([w17_,w18_]:List ByteArray) (by omega) (by omega) (by omega) (by decide) (by decide) (by omega) (by omega) (by decide) (fun gv23=>ai (sumLe (app_le (app_le (app_le (app_le (lit_le _) (of_le (n:=80) _ _ (by decide))) (lit_le _)) (of_le (n:=80) _ _ (by decide))) (lit_le _)) (of_le (n:=80) _ _ (by decide)) (by decide):((((((w70_++(F67 ⟨r1.b,(F48 ⟨r1.b,r1.p⟩ 10).2⟩ ([w52_,w53_]:List ByteArray)).1)++w15_)++(F67 ⟨r1.b,(F67 ⟨r1.b,(F48 ⟨r1.b,r1.p⟩ 10).2⟩ ([w52_,w53_]:List ByteArray)).2⟩ ([w54_,w58_,w59_,w60_]:List ByteArray)).1)++w15_).size+(F67 ⟨r1.b,(F67 ⟨r1.b,(F67 ⟨r1.b,(F48 ⟨r1.b,r1.p⟩ 10).2⟩ ([w52_,w53_]:List ByteArray)).2⟩ ([w54_,w58_,w59_,w60_]:List ByteArray)).2⟩ ([w17_,w18_]:List ByteArray)).1.size:Nat):Int)≤9223372036854775807) (ai (sumLe (app_le (app_le (app_le (app_le (app_le (lit_le _) (of_le (n:=80) _ _ (by decide))) (lit_le _)) (of_le (n:=80) _ _ (by decide))) (lit_le _)) (of_le (n:=80) _ _ (by decide))) (lit_le _) (by decide):(((((((w70_++(F67 ⟨r1.b,(F48 ⟨r1.b,r1.p⟩ 10).2⟩ ([w52_,w53_]:List ByteArray)).1)++w15_)++(F67 ⟨r1.b,(F67 ⟨r1.b,(F48 ⟨r1.b,r1.p⟩ 10).2⟩ ([w52_,w53_]:List ByteArray)).2⟩ ([w54_,w58_,w59_,w60_]:List ByteArray)).1)++w15_)++(F67 ⟨r1.b,(F67 ⟨r1.b,(F67 ⟨r1.b,(F48 ⟨r1.b,r1.p⟩ 10).2⟩ ([w52_,w53_]:List ByteArray)).2⟩ ([w54_,w58_,w59_,w60_]:List ByteArray)).2⟩ ([w17_,w18_]:List ByteArray)).1).size+w15_.size:Nat):Int)≤9223372036854775807) (kc131l r1X r1.b (F67 ⟨r1.b,(F67 ⟨r1.b,(F67 ⟨r1.b,(F48 ⟨r1.b,r1.p⟩ 10).2⟩ ([w52_,w53_]:List ByteArray)).2⟩ ([w54_,w58_,w59_,w60_]:List ByteArray)).2⟩ ([w17_,w18_]:List ByteArray)).2 (by omega) (by omega) (by omega) (by omega) (by omega) (fun gv24=>ai (sumLe (app_le (app_le (app_le (app_le (app_le (app_le (lit_le _) (of_le (n:=80) _ _ (by decide))) (lit_le _)) (of_le (n:=80) _ _ (by decide))) (lit_le _)) (of_le (n:=80) _ _ (by decide))) (lit_le _)) (prefix_le _) (by decide):((((((((w70_++(F67 ⟨r1.b,(F48 ⟨r1.b,r1.p⟩ 10).2⟩ ([w52_,w53_]:List ByteArray)).1)++w15_)++(F67 ⟨r1.b,(F67 ⟨r1.b,(F48 ⟨r1.b,r1.p⟩ 10).2⟩ ([w52_,w53_]:List ByteArray)).2⟩ ([w54_,w58_,w59_,w60_]:List ByteArray)).1)++w15_)++(F67 ⟨r1.b,(F67 ⟨r1.b,(F67 ⟨r1.b,(F48 ⟨r1.b,r1.p⟩ 10).2⟩ ([w52_,w53_]:List ByteArray)).2⟩ ([w54_,w58_,w59_,w60_]:List ByteArray)).2⟩ ([w17_,w18_]:List ByteArray)).1)++w15_).size+(F131 ⟨r1.b,(F67 ⟨r1.b,(F67 ⟨r1.b,(F67 ⟨r1.b,(F48 ⟨r1.b,r1.p⟩ 10).2⟩ ([w52_,w53_]:List ByteArray)).2⟩ ([w54_,w58_,w59_,w60_]:List ByteArray)).2⟩ ([w17_,w18_]:List ByteArray)).2⟩).1.size:Nat):Int)≤9223372036854775807) (ai (sumLe (app_le (app_le (app_le (app_le (app_le (app_le (app_le (lit_le _) (of_le (n:=80) _ _ (by decide))) (lit_le _)) (of_le (n:=80) _ _ (by decide))) (lit_le _)) (of_le (n:=80) _ _ (by decide))) (lit_le _)) (prefix_le _)) (lit_le _) (by decide):(((((((((w70_++(F67 ⟨r1.b,(F48 ⟨r1.b,r1.p⟩ 10).2⟩ ([w52_,w53_]:List ByteArray)).1)++w15_)++(F67 ⟨r1.b,(F67 ⟨r1.b,(F48 ⟨r1.b,r1.p⟩ 10).2⟩ ([w52_,w53_]:List ByteArray)).2⟩ ([w54_,w58_,w59_,w60_]:List ByteArray)).1)++w15_)++(F67 ⟨r1.b,(F67 ⟨r1.b,(F67 ⟨r1.b,(F48 ⟨r1.b,r1.p⟩ 10).2⟩ ([w52_,w53_]:List ByteArray)).2⟩ ([w54_,w58_,w59_,w60_]:List ByteArray)).2⟩ ([w17_,w18_]:List ByteArray)).1)++w15_)++(F131 ⟨r1.b,(F67 ⟨r1.b,(F67 ⟨r1.b,(F67 ⟨r1.b,(F48 ⟨r1.b,r1.p⟩ 10).2⟩ ([w52_,w53_]:List ByteArray)).2⟩ ([w54_,w58_,w59_,w60_]:List ByteArray)).2⟩ ([w17_,w18_]:List ByteArray)).2⟩).1).size+w15_.size:Nat):Int)≤9223372036854775807) (kc131l r1X r1.b (F131 ⟨r1.b,(F67 ⟨r1.b,(F67 ⟨r1.b,(F67 ⟨r1.b,(F48 ⟨r1.b,r1.p⟩ 10).2⟩ ([w52_,w53_]:List ByteArray)).2⟩ ([w54_,w58_,w59_,w60_]:List ByteArray)).2⟩ ([w17_,w18_]:List ByteArray)).2⟩).2 (by omega) (by omega) (by omega) (by omega) (by omega) (fun gv25=>ai (sumLe (app_le (app_le (app_le (app_le (app_le (app_le (app_le (app_le (lit_le _) (of_le (n:=80) _ _ (by decide))) (lit_le _)) (of_le (n:=80) _ _ (by decide))) (lit_le _)) (of_le (n:=80) _ _ (by decide))) (lit_le _)) (prefix_le _)) (lit_le _)) (prefix_le _) (by decide):((((((((((w70_++(F67 ⟨r1.b,(F48 ⟨r1.b,r1.p⟩ 10).2⟩ ([w52_,w53_]:List ByteArray)).1)++w15_)++(F67 ⟨r1.b,(F67 ⟨r1.b,(F48 ⟨r1.b,r1.p⟩ 10).2⟩ ([w52_,w53_]:List ByteArray)).2⟩ ([w54_,w58_,w59_,w60_]:List ByteArray)).1)++w15_)++(F67 ⟨r1.b,(F67 ⟨r1.b,(F67 ⟨r1.b,(F48 ⟨r1.b,r1.p⟩ 10).2⟩ ([w52_,w53_]:List ByteArray)).2⟩ ([w54_,w58_,w59_,w60_]:List ByteArray)).2⟩ ([w17_,w18_]:List ByteArray)).1)++w15_)++(F131 ⟨r1.b,(F67 ⟨r1.b,(F67 ⟨r1.b,(F67 ⟨r1.b,(F48 ⟨r1.b,r1.p⟩ 10).2⟩ ([w52_,w53_]:List ByteArray)).2⟩ ([w54_,w58_,w59_,w60_]:List ByteArray)).2⟩ ([w17_,w18_]:List ByteArray)).2⟩).1)++w15_).size+(F131 ⟨r1.b,(F131 ⟨r1.b,(F67 ⟨r1.b,(F67 ⟨r1.b,(F67 ⟨r1.b,(F48 ⟨r1.b,r1.p⟩ 10).2⟩ ([w52_,w53_]:List ByteArray)).2⟩ ([w54_,w58_,w59_,w60_]:List ByteArray)).2⟩ ([w17_,w18_]:List ByteArray)).2⟩).2⟩).1.size:Nat):Int)≤9223372036854775807) (ai (sumLe (app_le (app_le (app_le (app_le (app_le (app_le (app_le (app_le (app_le (lit_le _) (of_le (n:=80) _ _ (by decide))) (lit_le _)) (of_le (n:=80) _ _ (by decide))) (lit_le _)) (of_le (n:=80) _ _ (by decide))) (lit_le _)) (prefix_le _)) (lit_le _)) (prefix_le _)) (lit_le _) (by decide):(((((((((((w70_++(F67 ⟨r1.b,(F48 ⟨r1.b,r1.p⟩ 10).2⟩ ([w52_,w53_]:List ByteArray)).1)++w15_)++(F67 ⟨r1.b,(F67 ⟨r1.b,(F48 ⟨r1.b,r1.p⟩ 10).2⟩ ([w52_,w53_]:List ByteArray)).2⟩ ([w54_,w58_,w59_,w60_]:List ByteArray)).1)++w15_)++(F67 ⟨r1.b,(F67 ⟨r1.b,(F67 ⟨r1.b,(F48 ⟨r1.b,r1.p⟩ 10).2⟩ ([w52_,w53_]:List ByteArray)).2⟩ ([w54_,w58_,w59_,w60_]:List ByteArray)).2⟩ ([w17_,w18_]:List ByteArray)).1)++w15_)++(F131 ⟨r1.b,(F67 ⟨r1.b,(F67 ⟨r1.b,(F67 ⟨r1.b,(F48 ⟨r1.b,r1.p⟩ 10).2⟩ ([w52_,w53_]:List ByteArray)).2⟩ ([w54_,w58_,w59_,w60_]:List ByteArray)).2⟩ ([w17_,w18_]:List ByteArray)).2⟩).1)++w15_)++(F131 ⟨r1.b,(F131 ⟨r1.b,(F67 ⟨r1.b,(F67 ⟨r1.b,(F67 ⟨r1.b,(F48 ⟨r1.b,r1.p⟩ 10).2⟩ ([w52_,w53_]:List ByteArray)).2⟩ ([w54_,w58_,w59_,w60_]:List ByteArray)).2⟩ ([w17_,w18_]:List ByteArray)).2⟩).2⟩).1).size+w15_.size:Nat):Int)≤9223372036854775807) (ai (bokr 1 eStr ([w54_,w55_,w57_]:List ByteArray) fun _=>rfl) (kc67l r1X r1.b (F131 ⟨r1.b,(F131 ⟨r1.b,(F67 ⟨r1.b,(F67 ⟨r1.b,(F67 ⟨r1.b,(F48 ⟨r1.b,r1.p⟩ 10).2⟩ ([w52_,w53_]:List ByteArray)).2⟩ ([w54_,w58_,w59_,w60_]:List ByteArray)).2⟩ ([w17_,w18_]:List ByteArray)).2⟩).2⟩).2 ([w54_,w55_,w57_]:List ByteArray) (by omega) (by omega) (by omega) (by decide) (by decide) (by omega) (by omega) (by decide) (fun gv26=>ai (sumLe (app_le (app_le (app_le (app_le (app_le (app_le (app_le (app_le (app_le (app_le (lit_le _) (of_le (n:=80) _ _ (by decide))) (lit_le _)) (of_le (n:=80) _ _ (by decide))) (lit_le _)) (of_le (n:=80) _ _ (by decide))) (lit_le _)) (prefix_le _)) (lit_le _)) (prefix_le _)) (lit_le _)) (of_le (n:=80) _ _ (by decide)) (by decide):((((((((((((w70_++(F67 ⟨r1.b,(F48 ⟨r1.b,r1.p⟩ 10).2⟩ ([w52_,w53_]:List ByteArray)).1)++w15_)++(F67 ⟨r1.b,(F67 ⟨r1.b,(F48 ⟨r1.b,r1.p⟩ 10).2⟩ ([w52_,w53_]:List ByteArray)).2⟩ ([w54_,w58_,w59_,w60_]:List ByteArray)).1)++w15_)++(F67 ⟨r1.b,(F67 ⟨r1.b,(F67 ⟨r1.b,(F48 ⟨r1.b,r1.p⟩ 10).2⟩ ([w52_,w53_]:List ByteArray)).2⟩ ([w54_,w58_,w59_,w60_]:List ByteArray)).2⟩ ([w17_,w18_]:List ByteArray)).1)++w15_)++(F131 ⟨r1.b,(F67 ⟨r1.b,(F67 ⟨r1.b,(F67 ⟨r1.b,(F48 ⟨r1.b,r1.p⟩ 10).2⟩ ([w52_,w53_]:List ByteArray)).2⟩ ([w54_,w58_,w59_,w60_]:List ByteArray)).2⟩ ([w17_,w18_]:List ByteArray)).2⟩).1)++w15_)++(F131 ⟨r1.b,(F131 ⟨r1.b,(F67 ⟨r1.b,(F67 ⟨r1.b,(F67 ⟨r1.b,(F48 ⟨r1.b,r1.p⟩ 10).2⟩ ([w52_,w53_]:List ByteArray)).2⟩ ([w54_,w58_,w59_,w60_]:List ByteArray)).2⟩ ([w17_,w18_]:List ByteArray)).2⟩).2⟩).1)++w15_).size+(F67 ⟨r1.b,(F131 ⟨r1.b,(F131 ⟨r1.b,(F67 ⟨r1.b,(F67 ⟨r1.b,(F67 ⟨r1.b,(F48 ⟨r1.b,r1.p⟩ 10).2⟩ ([w52_,w53_]:List ByteArray)).2⟩ ([w54_,w58_,w59_,w60_]:List ByteArray)).2⟩ ([w17_,w18_]:List ByteArray)).2⟩).2⟩).2⟩ ([w54_,w55_,w57_]:List ByteArray)).1.size:Nat):Int)≤9223372036854775807) ((fun hF:((((((((((((w70_++(F67 ⟨r1.b,(F48 ⟨r1.b,r1.p⟩ 10).2⟩ ([w52_,w53_]:List ByteArray)).1)++w15_)++(F67 ⟨r1.b,(F67 ⟨r1.b,(F48 ⟨r1.b,r1.p⟩ 10).2⟩ ([w52_,w53_]:List ByteArray)).2⟩ ([w54_,w58_,w59_,w60_]:List ByteArray)).1)++w15_)++(F67 ⟨r1.b,(F67 ⟨r1.b,(F67 ⟨r1.b,(F48 ⟨r1.b,r1.p⟩ 10).2⟩ ([w52_,w53_]:List ByteArray)).2⟩ ([w54_,w58_,w59_,w60_]:List ByteArray)).2⟩ ([w17_,w18_]:List ByteArray)).1)++w15_)++(F131 ⟨r1.b,(F67 ⟨r1.b,(F67 ⟨r1.b,(F67 ⟨r1.b,(F48 ⟨r1.b,r1.p⟩ 10).2⟩ ([w52_,w53_]:List ByteArray)).2⟩ ([w54_,w58_,w59_,w60_]:List ByteArray)).2⟩ ([w17_,w18_]:List ByteArray)).2⟩).1)++w15_)++(F131 ⟨r1.b,(F131 ⟨r1.b,(F67 ⟨r1.b,(F67 ⟨r1.b,(F67 ⟨r1.b,(F48 ⟨r1.b,r1.p⟩ 10).2⟩ ([w52_,w53_]:List ByteArray)).2⟩ ([w54_,w58_,w59_,w60_]:List ByteArray)).2⟩ ([w17_,w18_]:List ByteArray)).2⟩).2⟩).1)++w15_)++(F67 ⟨r1.b,(F131 ⟨r1.b,(F131 ⟨r1.b,(F67 ⟨r1.b,(F67 ⟨r1.b,(F67 ⟨r1.b,(F48 ⟨r1.b,r1.p⟩ 10).2⟩ ([w52_,w53_]:List ByteArray)).2⟩ ([w54_,w58_,w59_,w60_]:List ByteArray)).2⟩ ([w17_,w18_]:List ByteArray)).2⟩).2⟩).2⟩ ([w54_,w55_,w57_]:List ByteArray)).1),(F67 ⟨r1.b,(F131 ⟨r1.b,(F131 ⟨r1.b,(F67 ⟨r1.b,(F67 ⟨r1.b,(F67 ⟨r1.b,(F48 ⟨r1.b,r1.p⟩ 10).2⟩ ([w52_,w53_]:List ByteArray)).2⟩ ([w54_,w58_,w59_,w60_]:List ByteArray)).2⟩ ([w17_,w18_]:List ByteArray)).2⟩).2⟩).2⟩ ([w54_,w55_,w57_]:List ByteArray)).2)=(F86 r1)=>ai (congrArg (fun r:ByteArray×Int=>(.string r.1:Value)) hF) (ai (ai (Imp.refl (Dat.v (sv r1X))) (ai (Imp.of_eq (congrArg (fun r:ByteArray×Int=>Dat.v (vI r.2)) hF)) trivial)) trivial)) (condF h2 (condF h6 (condF h8 (finD hJ0_12 (condF h13 (condT h20 rfl)))))))))))))))))))))))))))) (fun h20 _=>ife (F48 ⟨r1.b,r1.p⟩ 10).1 5 (fun h27 _=>ife (F48 ⟨r1.b,r1.p⟩ 10).1 5 (fun h28 _=>kc131l r1X r1.b (F48 ⟨r1.b,r1.p⟩ 10).2 (by omega) (by omega) (by omega) (by omega) (by omega) (fun gv29=>ai (sumLe (lit_le _) (prefix_le _) (by decide):((w71_.size+(F131 ⟨r1.b,(F48 ⟨r1.b,r1.p⟩ 10).2⟩).1.size:Nat):Int)≤9223372036854775807) (ai (sumLe (app_le (lit_le _) (prefix_le _)) (lit_le _) (by decide):(((w71_++(F131 ⟨r1.b,(F48 ⟨r1.b,r1.p⟩ 10).2⟩).1).size+w15_.size:Nat):Int)≤9223372036854775807) (kc132l r1X r1.b (F131 ⟨r1.b,(F48 ⟨r1.b,r1.p⟩ 10).2⟩).2 (by omega) (by omega) (by omega) (by omega) (by omega) (fun gv30=>ai (sumLe (app_le (app_le (lit_le _) (prefix_le _)) (lit_le _)) (addr_le _) (by decide):((((w71_++(F131 ⟨r1.b,(F48 ⟨r1.b,r1.p⟩ 10).2⟩).1)++w15_).size+(F132 ⟨r1.b,(F131 ⟨r1.b,(F48 ⟨r1.b,r1.p⟩ 10).2⟩).2⟩).1.size:Nat):Int)≤9223372036854775807) ((fun hF:((((w71_++(F131 ⟨r1.b,(F48 ⟨r1.b,r1.p⟩ 10).2⟩).1)++w15_)++(F132 ⟨r1.b,(F131 ⟨r1.b,(F48 ⟨r1.b,r1.p⟩ 10).2⟩).2⟩).1),(F132 ⟨r1.b,(F131 ⟨r1.b,(F48 ⟨r1.b,r1.p⟩ 10).2⟩).2⟩).2)=(F86 r1)=>ai (congrArg (fun r:ByteArray×Int=>(.string r.1:Value)) hF) (ai (ai (Imp.refl (Dat.v (sv r1X))) (ai (Imp.of_eq (congrArg (fun r:ByteArray×Int=>Dat.v (vI r.2)) hF)) trivial)) trivial)) (condF h2 (condF h6 (condF h8 (finD hJ0_12 (condF h13 (condF h20 (condT h27 (condT h28 rfl)))))))))))))) (fun h28 _=>ife (F48 ⟨r1.b,r1.p⟩ 10).1 7 (fun h31 _=>kc132l r1X r1.b (F48 ⟨r1.b,r1.p⟩ 10).2 (by omega) (by omega) (by omega) (by omega) (by omega) (fun gv32=>ai (sumLe (lit_le _) (addr_le _) (by decide):((w72_.size+(F132 ⟨r1.b,(F48 ⟨r1.b,r1.p⟩ 10).2⟩).1.size:Nat):Int)≤9223372036854775807) (ai (sumLe (app_le (lit_le _) (addr_le _)) (lit_le _) (by decide):(((w72_++(F132 ⟨r1.b,(F48 ⟨r1.b,r1.p⟩ 10).2⟩).1).size+w15_.size:Nat):Int)≤9223372036854775807) (ai (bokr 1 eStr ([w55_,w61_]:List ByteArray) fun _=>rfl) (kc67l r1X r1.b (F132 ⟨r1.b,(F48 ⟨r1.b,r1.p⟩ 10).2⟩).2 ([w55_,w61_]:List ByteArray) (by omega) (by omega) (by omega) (by omega) (by omega) (by omega) (by omega) (by omega) (fun gv33=>ai (sumLe (app_le (app_le (lit_le _) (addr_le _)) (lit_le _)) (of_le (n:=80) _ _ (by decide)) (by decide):((((w72_++(F132 ⟨r1.b,(F48 ⟨r1.b,r1.p⟩ 10).2⟩).1)++w15_).size+(F67 ⟨r1.b,(F132 ⟨r1.b,(F48 ⟨r1.b,r1.p⟩ 10).2⟩).2⟩ ([w55_,w61_]:List ByteArray)).1.size:Nat):Int)≤9223372036854775807) (ai (sumLe (app_le (app_le (app_le (lit_le _) (addr_le _)) (lit_le _)) (of_le (n:=80) _ _ (by decide))) (lit_le _) (by decide):(((((w72_++(F132 ⟨r1.b,(F48 ⟨r1.b,r1.p⟩ 10).2⟩).1)++w15_)++(F67 ⟨r1.b,(F132 ⟨r1.b,(F48 ⟨r1.b,r1.p⟩ 10).2⟩).2⟩ ([w55_,w61_]:List ByteArray)).1).size+w15_.size:Nat):Int)≤9223372036854775807) (ai (bokr 1 eStr ([w57_,w62_]:List ByteArray) fun _=>rfl) (kc67l r1X r1.b (F67 ⟨r1.b,(F132 ⟨r1.b,(F48 ⟨r1.b,r1.p⟩ 10).2⟩).2⟩ ([w55_,w61_]:List ByteArray)).2 ([w57_,w62_]:List ByteArray) (by omega) (by omega) (by omega) (by omega) (by omega) (by omega) (by omega) (by omega) (fun gv34=>ai (sumLe (app_le (app_le (app_le (app_le (lit_le _) (addr_le _)) (lit_le _)) (of_le (n:=80) _ _ (by decide))) (lit_le _)) (of_le (n:=80) _ _ (by decide)) (by decide):((((((w72_++(F132 ⟨r1.b,(F48 ⟨r1.b,r1.p⟩ 10).2⟩).1)++w15_)++(F67 ⟨r1.b,(F132 ⟨r1.b,(F48 ⟨r1.b,r1.p⟩ 10).2⟩).2⟩ ([w55_,w61_]:List ByteArray)).1)++w15_).size+(F67 ⟨r1.b,(F67 ⟨r1.b,(F132 ⟨r1.b,(F48 ⟨r1.b,r1.p⟩ 10).2⟩).2⟩ ([w55_,w61_]:List ByteArray)).2⟩ ([w57_,w62_]:List ByteArray)).1.size:Nat):Int)≤9223372036854775807) ((fun hF:((((((w72_++(F132 ⟨r1.b,(F48 ⟨r1.b,r1.p⟩ 10).2⟩).1)++w15_)++(F67 ⟨r1.b,(F132 ⟨r1.b,(F48 ⟨r1.b,r1.p⟩ 10).2⟩).2⟩ ([w55_,w61_]:List ByteArray)).1)++w15_)++(F67 ⟨r1.b,(F67 ⟨r1.b,(F132 ⟨r1.b,(F48 ⟨r1.b,r1.p⟩ 10).2⟩).2⟩ ([w55_,w61_]:List ByteArray)).2⟩ ([w57_,w62_]:List ByteArray)).1),(F67 ⟨r1.b,(F67 ⟨r1.b,(F132 ⟨r1.b,(F48 ⟨r1.b,r1.p⟩ 10).2⟩).2⟩ ([w55_,w61_]:List ByteArray)).2⟩ ([w57_,w62_]:List ByteArray)).2)=(F86 r1)=>ai (congrArg (fun r:ByteArray×Int=>(.string r.1:Value)) hF) (ai (ai (Imp.refl (Dat.v (sv r1X))) (ai (Imp.of_eq (congrArg (fun r:ByteArray×Int=>Dat.v (vI r.2)) hF)) trivial)) trivial)) (condF h2 (condF h6 (condF h8 (finD hJ0_12 (condF h13 (condF h20 (condT h27 (condF h28 (condT h31 rfl)))))))))))))))))))) (fun h31 _=>ai (bokr 1 eStr ([w55_,w57_]:List ByteArray) fun _=>rfl) (kc67l r1X r1.b (F48 ⟨r1.b,r1.p⟩ 10).2 ([w55_,w57_]:List ByteArray) (by omega) (by omega) (by omega) (by omega) (by omega) (by omega) (by omega) (by omega) (fun gv35=>ai (sumLe (lit_le _) (of_le (n:=80) _ _ (by decide)) (by decide):((w73_.size+(F67 ⟨r1.b,(F48 ⟨r1.b,r1.p⟩ 10).2⟩ ([w55_,w57_]:List ByteArray)).1.size:Nat):Int)≤9223372036854775807) (ai (sumLe (app_le (lit_le _) (of_le (n:=80) _ _ (by decide))) (lit_le _) (by decide):(((w73_++(F67 ⟨r1.b,(F48 ⟨r1.b,r1.p⟩ 10).2⟩ ([w55_,w57_]:List ByteArray)).1).size+w15_.size:Nat):Int)≤9223372036854775807) (ai (bokr 1 eStr ([w63_,w64_,w65_]:List ByteArray) fun _=>rfl) (kc67l r1X r1.b (F67 ⟨r1.b,(F48 ⟨r1.b,r1.p⟩ 10).2⟩ ([w55_,w57_]:List ByteArray)).2 ([w63_,w64_,w65_]:List ByteArray) (by omega) (by omega) (by omega) (by omega) (by omega) (by omega) (by omega) (by omega) (fun gv36=>ai (sumLe (app_le (app_le (lit_le _) (of_le (n:=80) _ _ (by decide))) (lit_le _)) (of_le (n:=80) _ _ (by decide)) (by decide):((((w73_++(F67 ⟨r1.b,(F48 ⟨r1.b,r1.p⟩ 10).2⟩ ([w55_,w57_]:List ByteArray)).1)++w15_).size+(F67 ⟨r1.b,(F67 ⟨r1.b,(F48 ⟨r1.b,r1.p⟩ 10).2⟩ ([w55_,w57_]:List ByteArray)).2⟩ ([w63_,w64_,w65_]:List ByteArray)).1.size:Nat):Int)≤9223372036854775807) (ai (sumLe (app_le (app_le (app_le (lit_le _) (of_le (n:=80) _ _ (by decide))) (lit_le _)) (of_le (n:=80) _ _ (by decide))) (lit_le _) (by decide):(((((w73_++(F67 ⟨r1.b,(F48 ⟨r1.b,r1.p⟩ 10).2⟩ ([w55_,w57_]:List ByteArray)).1)++w15_)++(F67 ⟨r1.b,(F67 ⟨r1.b,(F48 ⟨r1.b,r1.p⟩ 10).2⟩ ([w55_,w57_]:List ByteArray)).2⟩ ([w63_,w64_,w65_]:List ByteArray)).1).size+w15_.size:Nat):Int)≤9223372036854775807) (kc132l r1X r1.b (F67 ⟨r1.b,(F67 ⟨r1.b,(F48 ⟨r1.b,r1.p⟩ 10).2⟩ ([w55_,w57_]:List ByteArray)).2⟩ ([w63_,w64_,w65_]:List ByteArray)).2 (by omega) (by omega) (by omega) (by omega) (by omega) (fun gv37=>ai (sumLe (app_le (app_le (app_le (app_le (lit_le _) (of_le (n:=80) _ _ (by decide))) (lit_le _)) (of_le (n:=80) _ _ (by decide))) (lit_le _)) (addr_le _) (by decide):((((((w73_++(F67 ⟨r1.b,(F48 ⟨r1.b,r1.p⟩ 10).2⟩ ([w55_,w57_]:List ByteArray)).1)++w15_)++(F67 ⟨r1.b,(F67 ⟨r1.b,(F48 ⟨r1.b,r1.p⟩ 10).2⟩ ([w55_,w57_]:List ByteArray)).2⟩ ([w63_,w64_,w65_]:List ByteArray)).1)++w15_).size+(F132 ⟨r1.b,(F67 ⟨r1.b,(F67 ⟨r1.b,(F48 ⟨r1.b,r1.p⟩ 10).2⟩ ([w55_,w57_]:List ByteArray)).2⟩ ([w63_,w64_,w65_]:List ByteArray)).2⟩).1.size:Nat):Int)≤9223372036854775807) (ai (sumLe (app_le (app_le (app_le (app_le (app_le (lit_le _) (of_le (n:=80) _ _ (by decide))) (lit_le _)) (of_le (n:=80) _ _ (by decide))) (lit_le _)) (addr_le _)) (lit_le _) (by decide):(((((((w73_++(F67 ⟨r1.b,(F48 ⟨r1.b,r1.p⟩ 10).2⟩ ([w55_,w57_]:List ByteArray)).1)++w15_)++(F67 ⟨r1.b,(F67 ⟨r1.b,(F48 ⟨r1.b,r1.p⟩ 10).2⟩ ([w55_,w57_]:List ByteArray)).2⟩ ([w63_,w64_,w65_]:List ByteArray)).1)++w15_)++(F132 ⟨r1.b,(F67 ⟨r1.b,(F67 ⟨r1.b,(F48 ⟨r1.b,r1.p⟩ 10).2⟩ ([w55_,w57_]:List ByteArray)).2⟩ ([w63_,w64_,w65_]:List ByteArray)).2⟩).1).size+w15_.size:Nat):Int)≤9223372036854775807) (ai (bokr 1 eStr ([w63_,w55_]:List ByteArray) fun _=>rfl) (kc67l r1X r1.b (F132 ⟨r1.b,(F67 ⟨r1.b,(F67 ⟨r1.b,(F48 ⟨r1.b,r1.p⟩ 10).2⟩ ([w55_,w57_]:List ByteArray)).2⟩ ([w63_,w64_,w65_]:List ByteArray)).2⟩).2 ([w63_,w55_]:List ByteArray) (by omega) (by omega) (by omega) (by omega) (by omega) (by omega) (by omega) (by omega) (fun gv38=>ai (sumLe (app_le (app_le (app_le (app_le (app_le (app_le (lit_le _) (of_le (n:=80) _ _ (by decide))) (lit_le _)) (of_le (n:=80) _ _ (by decide))) (lit_le _)) (addr_le _)) (lit_le _)) (of_le (n:=80) _ _ (by decide)) (by decide):((((((((w73_++(F67 ⟨r1.b,(F48 ⟨r1.b,r1.p⟩ 10).2⟩ ([w55_,w57_]:List ByteArray)).1)++w15_)++(F67 ⟨r1.b,(F67 ⟨r1.b,(F48 ⟨r1.b,r1.p⟩ 10).2⟩ ([w55_,w57_]:List ByteArray)).2⟩ ([w63_,w64_,w65_]:List ByteArray)).1)++w15_)++(F132 ⟨r1.b,(F67 ⟨r1.b,(F67 ⟨r1.b,(F48 ⟨r1.b,r1.p⟩ 10).2⟩ ([w55_,w57_]:List ByteArray)).2⟩ ([w63_,w64_,w65_]:List ByteArray)).2⟩).1)++w15_).size+(F67 ⟨r1.b,(F132 ⟨r1.b,(F67 ⟨r1.b,(F67 ⟨r1.b,(F48 ⟨r1.b,r1.p⟩ 10).2⟩ ([w55_,w57_]:List ByteArray)).2⟩ ([w63_,w64_,w65_]:List ByteArray)).2⟩).2⟩ ([w63_,w55_]:List ByteArray)).1.size:Nat):Int)≤9223372036854775807) ((fun hF:((((((((w73_++(F67 ⟨r1.b,(F48 ⟨r1.b,r1.p⟩ 10).2⟩ ([w55_,w57_]:List ByteArray)).1)++w15_)++(F67 ⟨r1.b,(F67 ⟨r1.b,(F48 ⟨r1.b,r1.p⟩ 10).2⟩ ([w55_,w57_]:List ByteArray)).2⟩ ([w63_,w64_,w65_]:List ByteArray)).1)++w15_)++(F132 ⟨r1.b,(F67 ⟨r1.b,(F67 ⟨r1.b,(F48 ⟨r1.b,r1.p⟩ 10).2⟩ ([w55_,w57_]:List ByteArray)).2⟩ ([w63_,w64_,w65_]:List ByteArray)).2⟩).1)++w15_)++(F67 ⟨r1.b,(F132 ⟨r1.b,(F67 ⟨r1.b,(F67 ⟨r1.b,(F48 ⟨r1.b,r1.p⟩ 10).2⟩ ([w55_,w57_]:List ByteArray)).2⟩ ([w63_,w64_,w65_]:List ByteArray)).2⟩).2⟩ ([w63_,w55_]:List ByteArray)).1),(F67 ⟨r1.b,(F132 ⟨r1.b,(F67 ⟨r1.b,(F67 ⟨r1.b,(F48 ⟨r1.b,r1.p⟩ 10).2⟩ ([w55_,w57_]:List ByteArray)).2⟩ ([w63_,w64_,w65_]:List ByteArray)).2⟩).2⟩ ([w63_,w55_]:List ByteArray)).2)=(F86 r1)=>ai (congrArg (fun r:ByteArray×Int=>(.string r.1:Value)) hF) (ai (ai (Imp.refl (Dat.v (sv r1X))) (ai (Imp.of_eq (congrArg (fun r:ByteArray×Int=>Dat.v (vI r.2)) hF)) trivial)) trivial)) (condF h2 (condF h6 (condF h8 (finD hJ0_12 (condF h13 (condF h20 (condT h27 (condF h28 (condF h31 rfl)))))))))))))))))))))))))) (fun h27 _=>ife (F48 ⟨r1.b,r1.p⟩ 10).1 6 (fun h39 _=>kc131l r1X r1.b (F48 ⟨r1.b,r1.p⟩ 10).2 (by omega) (by omega) (by omega) (by omega) (by omega) (fun gv40=>ai (sumLe (lit_le _) (prefix_le _) (by decide):((w71_.size+(F131 ⟨r1.b,(F48 ⟨r1.b,r1.p⟩ 10).2⟩).1.size:Nat):Int)≤9223372036854775807) (ai (sumLe (app_le (lit_le _) (prefix_le _)) (lit_le _) (by decide):(((w71_++(F131 ⟨r1.b,(F48 ⟨r1.b,r1.p⟩ 10).2⟩).1).size+w15_.size:Nat):Int)≤9223372036854775807) (kc132l r1X r1.b (F131 ⟨r1.b,(F48 ⟨r1.b,r1.p⟩ 10).2⟩).2 (by omega) (by omega) (by omega) (by omega) (by omega) (fun gv41=>ai (sumLe (app_le (app_le (lit_le _) (prefix_le _)) (lit_le _)) (addr_le _) (by decide):((((w71_++(F131 ⟨r1.b,(F48 ⟨r1.b,r1.p⟩ 10).2⟩).1)++w15_).size+(F132 ⟨r1.b,(F131 ⟨r1.b,(F48 ⟨r1.b,r1.p⟩ 10).2⟩).2⟩).1.size:Nat):Int)≤9223372036854775807) ((fun hF:((((w71_++(F131 ⟨r1.b,(F48 ⟨r1.b,r1.p⟩ 10).2⟩).1)++w15_)++(F132 ⟨r1.b,(F131 ⟨r1.b,(F48 ⟨r1.b,r1.p⟩ 10).2⟩).2⟩).1),(F132 ⟨r1.b,(F131 ⟨r1.b,(F48 ⟨r1.b,r1.p⟩ 10).2⟩).2⟩).2)=(F86 r1)=>ai (congrArg (fun r:ByteArray×Int=>(.string r.1:Value)) hF) (ai (ai (Imp.refl (Dat.v (sv r1X))) (ai (Imp.of_eq (congrArg (fun r:ByteArray×Int=>Dat.v (vI r.2)) hF)) trivial)) trivial)) (condF h2 (condF h6 (condF h8 (finD hJ0_12 (condF h13 (condF h20 (condF h27 (condT h39 rfl)))))))))))))) (fun h39 _=>ife (F48 ⟨r1.b,r1.p⟩ 10).1 7 (fun h42 _=>kc132l r1X r1.b (F48 ⟨r1.b,r1.p⟩ 10).2 (by omega) (by omega) (by omega) (by omega) (by omega) (fun gv43=>ai (sumLe (lit_le _) (addr_le _) (by decide):((w72_.size+(F132 ⟨r1.b,(F48 ⟨r1.b,r1.p⟩ 10).2⟩).1.size:Nat):Int)≤9223372036854775807) (ai (sumLe (app_le (lit_le _) (addr_le _)) (lit_le _) (by decide):(((w72_++(F132 ⟨r1.b,(F48 ⟨r1.b,r1.p⟩ 10).2⟩).1).size+w15_.size:Nat):Int)≤9223372036854775807) (ai (bokr 1 eStr ([w55_,w61_]:List ByteArray) fun _=>rfl) (kc67l r1X r1.b (F132 ⟨r1.b,(F48 ⟨r1.b,r1.p⟩ 10).2⟩).2 ([w55_,w61_]:List ByteArray) (by omega) (by omega) (by omega) (by decide) (by decide) (by omega) (by omega) (by decide) (fun gv44=>ai (sumLe (app_le (app_le (lit_le _) (addr_le _)) (lit_le _)) (of_le (n:=80) _ _ (by decide)) (by decide):((((w72_++(F132 ⟨r1.b,(F48 ⟨r1.b,r1.p⟩ 10).2⟩).1)++w15_).size+(F67 ⟨r1.b,(F132 ⟨r1.b,(F48 ⟨r1.b,r1.p⟩ 10).2⟩).2⟩ ([w55_,w61_]:List ByteArray)).1.size:Nat):Int)≤9223372036854775807) (ai (sumLe (app_le (app_le (app_le (lit_le _) (addr_le _)) (lit_le _)) (of_le (n:=80) _ _ (by decide))) (lit_le _) (by decide):(((((w72_++(F132 ⟨r1.b,(F48 ⟨r1.b,r1.p⟩ 10).2⟩).1)++w15_)++(F67 ⟨r1.b,(F132 ⟨r1.b,(F48 ⟨r1.b,r1.p⟩ 10).2⟩).2⟩ ([w55_,w61_]:List ByteArray)).1).size+w15_.size:Nat):Int)≤9223372036854775807) (ai (bokr 1 eStr ([w57_,w62_]:List ByteArray) fun _=>rfl) (kc67l r1X r1.b (F67 ⟨r1.b,(F132 ⟨r1.b,(F48 ⟨r1.b,r1.p⟩ 10).2⟩).2⟩ ([w55_,w61_]:List ByteArray)).2 ([w57_,w62_]:List ByteArray) (by omega) (by omega) (by omega) (by decide) (by decide) (by omega) (by omega) (by decide) (fun gv45=>ai (sumLe (app_le (app_le (app_le (app_le (lit_le _) (addr_le _)) (lit_le _)) (of_le (n:=80) _ _ (by decide))) (lit_le _)) (of_le (n:=80) _ _ (by decide)) (by decide):((((((w72_++(F132 ⟨r1.b,(F48 ⟨r1.b,r1.p⟩ 10).2⟩).1)++w15_)++(F67 ⟨r1.b,(F132 ⟨r1.b,(F48 ⟨r1.b,r1.p⟩ 10).2⟩).2⟩ ([w55_,w61_]:List ByteArray)).1)++w15_).size+(F67 ⟨r1.b,(F67 ⟨r1.b,(F132 ⟨r1.b,(F48 ⟨r1.b,r1.p⟩ 10).2⟩).2⟩ ([w55_,w61_]:List ByteArray)).2⟩ ([w57_,w62_]:List ByteArray)).1.size:Nat):Int)≤9223372036854775807) ((fun hF:((((((w72_++(F132 ⟨r1.b,(F48 ⟨r1.b,r1.p⟩ 10).2⟩).1)++w15_)++(F67 ⟨r1.b,(F132 ⟨r1.b,(F48 ⟨r1.b,r1.p⟩ 10).2⟩).2⟩ ([w55_,w61_]:List ByteArray)).1)++w15_)++(F67 ⟨r1.b,(F67 ⟨r1.b,(F132 ⟨r1.b,(F48 ⟨r1.b,r1.p⟩ 10).2⟩).2⟩ ([w55_,w61_]:List ByteArray)).2⟩ ([w57_,w62_]:List ByteArray)).1),(F67 ⟨r1.b,(F67 ⟨r1.b,(F132 ⟨r1.b,(F48 ⟨r1.b,r1.p⟩ 10).2⟩).2⟩ ([w55_,w61_]:List ByteArray)).2⟩ ([w57_,w62_]:List ByteArray)).2)=(F86 r1)=>ai (congrArg (fun r:ByteArray×Int=>(.string r.1:Value)) hF) (ai (ai (Imp.refl (Dat.v (sv r1X))) (ai (Imp.of_eq (congrArg (fun r:ByteArray×Int=>Dat.v (vI r.2)) hF)) trivial)) trivial)) (condF h2 (condF h6 (condF h8 (finD hJ0_12 (condF h13 (condF h20 (condF h27 (condF h39 (condT h42 rfl)))))))))))))))))))) (fun h42 _=>ai (bokr 1 eStr ([w55_,w57_]:List ByteArray) fun _=>rfl) (kc67l r1X r1.b (F48 ⟨r1.b,r1.p⟩ 10).2 ([w55_,w57_]:List ByteArray) (by omega) (by omega) (by omega) (by decide) (by decide) (by omega) (by omega) (by decide) (fun gv46=>ai (sumLe (lit_le _) (of_le (n:=80) _ _ (by decide)) (by decide):((w73_.size+(F67 ⟨r1.b,(F48 ⟨r1.b,r1.p⟩ 10).2⟩ ([w55_,w57_]:List ByteArray)).1.size:Nat):Int)≤9223372036854775807) (ai (sumLe (app_le (lit_le _) (of_le (n:=80) _ _ (by decide))) (lit_le _) (by decide):(((w73_++(F67 ⟨r1.b,(F48 ⟨r1.b,r1.p⟩ 10).2⟩ ([w55_,w57_]:List ByteArray)).1).size+w15_.size:Nat):Int)≤9223372036854775807) (ai (bokr 1 eStr ([w63_,w64_,w65_]:List ByteArray) fun _=>rfl) (kc67l r1X r1.b (F67 ⟨r1.b,(F48 ⟨r1.b,r1.p⟩ 10).2⟩ ([w55_,w57_]:List ByteArray)).2 ([w63_,w64_,w65_]:List ByteArray) (by omega) (by omega) (by omega) (by decide) (by decide) (by omega) (by omega) (by decide) (fun gv47=>ai (sumLe (app_le (app_le (lit_le _) (of_le (n:=80) _ _ (by decide))) (lit_le _)) (of_le (n:=80) _ _ (by decide)) (by decide):((((w73_++(F67 ⟨r1.b,(F48 ⟨r1.b,r1.p⟩ 10).2⟩ ([w55_,w57_]:List ByteArray)).1)++w15_).size+(F67 ⟨r1.b,(F67 ⟨r1.b,(F48 ⟨r1.b,r1.p⟩ 10).2⟩ ([w55_,w57_]:List ByteArray)).2⟩ ([w63_,w64_,w65_]:List ByteArray)).1.size:Nat):Int)≤9223372036854775807) (ai (sumLe (app_le (app_le (app_le (lit_le _) (of_le (n:=80) _ _ (by decide))) (lit_le _)) (of_le (n:=80) _ _ (by decide))) (lit_le _) (by decide):(((((w73_++(F67 ⟨r1.b,(F48 ⟨r1.b,r1.p⟩ 10).2⟩ ([w55_,w57_]:List ByteArray)).1)++w15_)++(F67 ⟨r1.b,(F67 ⟨r1.b,(F48 ⟨r1.b,r1.p⟩ 10).2⟩ ([w55_,w57_]:List ByteArray)).2⟩ ([w63_,w64_,w65_]:List ByteArray)).1).size+w15_.size:Nat):Int)≤9223372036854775807) (kc132l r1X r1.b (F67 ⟨r1.b,(F67 ⟨r1.b,(F48 ⟨r1.b,r1.p⟩ 10).2⟩ ([w55_,w57_]:List ByteArray)).2⟩ ([w63_,w64_,w65_]:List ByteArray)).2 (by omega) (by omega) (by omega) (by omega) (by omega) (fun gv48=>ai (sumLe (app_le (app_le (app_le (app_le (lit_le _) (of_le (n:=80) _ _ (by decide))) (lit_le _)) (of_le (n:=80) _ _ (by decide))) (lit_le _)) (addr_le _) (by decide):((((((w73_++(F67 ⟨r1.b,(F48 ⟨r1.b,r1.p⟩ 10).2⟩ ([w55_,w57_]:List ByteArray)).1)++w15_)++(F67 ⟨r1.b,(F67 ⟨r1.b,(F48 ⟨r1.b,r1.p⟩ 10).2⟩ ([w55_,w57_]:List ByteArray)).2⟩ ([w63_,w64_,w65_]:List ByteArray)).1)++w15_).size+(F132 ⟨r1.b,(F67 ⟨r1.b,(F67 ⟨r1.b,(F48 ⟨r1.b,r1.p⟩ 10).2⟩ ([w55_,w57_]:List ByteArray)).2⟩ ([w63_,w64_,w65_]:List ByteArray)).2⟩).1.size:Nat):Int)≤9223372036854775807) (ai (sumLe (app_le (app_le (app_le (app_le (app_le (lit_le _) (of_le (n:=80) _ _ (by decide))) (lit_le _)) (of_le (n:=80) _ _ (by decide))) (lit_le _)) (addr_le _)) (lit_le _) (by decide):(((((((w73_++(F67 ⟨r1.b,(F48 ⟨r1.b,r1.p⟩ 10).2⟩ ([w55_,w57_]:List ByteArray)).1)++w15_)++(F67 ⟨r1.b,(F67 ⟨r1.b,(F48 ⟨r1.b,r1.p⟩ 10).2⟩ ([w55_,w57_]:List ByteArray)).2⟩ ([w63_,w64_,w65_]:List ByteArray)).1)++w15_)++(F132 ⟨r1.b,(F67 ⟨r1.b,(F67 ⟨r1.b,(F48 ⟨r1.b,r1.p⟩ 10).2⟩ ([w55_,w57_]:List ByteArray)).2⟩ ([w63_,w64_,w65_]:List ByteArray)).2⟩).1).size+w15_.size:Nat):Int)≤9223372036854775807) (ai (bokr 1 eStr ([w63_,w55_]:List ByteArray) fun _=>rfl) (kc67l r1X r1.b (F132 ⟨r1.b,(F67 ⟨r1.b,(F67 ⟨r1.b,(F48 ⟨r1.b,r1.p⟩ 10).2⟩ ([w55_,w57_]:List ByteArray)).2⟩ ([w63_,w64_,w65_]:List ByteArray)).2⟩).2 ([w63_,w55_]:List ByteArray) (by omega) (by omega) (by omega) (by decide) (by decide) (by omega) (by omega) (by decide) (fun gv49=>ai (sumLe (app_le (app_le (app_le (app_le (app_le (app_le (lit_le _) (of_le (n:=80) _ _ (by decide))) (lit_le _)) (of_le (n:=80) _ _ (by decide))) (lit_le _)) (addr_le _)) (lit_le _)) (of_le (n:=80) _ _ (by decide)) (by decide):((((((((w73_++(F67 ⟨r1.b,(F48 ⟨r1.b,r1.p⟩ 10).2⟩ ([w55_,w57_]:List ByteArray)).1)++w15_)++(F67 ⟨r1.b,(F67 ⟨r1.b,(F48 ⟨r1.b,r1.p⟩ 10).2⟩ ([w55_,w57_]:List ByteArray)).2⟩ ([w63_,w64_,w65_]:List ByteArray)).1)++w15_)++(F132 ⟨r1.b,(F67 ⟨r1.b,(F67 ⟨r1.b,(F48 ⟨r1.b,r1.p⟩ 10).2⟩ ([w55_,w57_]:List ByteArray)).2⟩ ([w63_,w64_,w65_]:List ByteArray)).2⟩).1)++w15_).size+(F67 ⟨r1.b,(F132 ⟨r1.b,(F67 ⟨r1.b,(F67 ⟨r1.b,(F48 ⟨r1.b,r1.p⟩ 10).2⟩ ([w55_,w57_]:List ByteArray)).2⟩ ([w63_,w64_,w65_]:List ByteArray)).2⟩).2⟩ ([w63_,w55_]:List ByteArray)).1.size:Nat):Int)≤9223372036854775807) ((fun hF:((((((((w73_++(F67 ⟨r1.b,(F48 ⟨r1.b,r1.p⟩ 10).2⟩ ([w55_,w57_]:List ByteArray)).1)++w15_)++(F67 ⟨r1.b,(F67 ⟨r1.b,(F48 ⟨r1.b,r1.p⟩ 10).2⟩ ([w55_,w57_]:List ByteArray)).2⟩ ([w63_,w64_,w65_]:List ByteArray)).1)++w15_)++(F132 ⟨r1.b,(F67 ⟨r1.b,(F67 ⟨r1.b,(F48 ⟨r1.b,r1.p⟩ 10).2⟩ ([w55_,w57_]:List ByteArray)).2⟩ ([w63_,w64_,w65_]:List ByteArray)).2⟩).1)++w15_)++(F67 ⟨r1.b,(F132 ⟨r1.b,(F67 ⟨r1.b,(F67 ⟨r1.b,(F48 ⟨r1.b,r1.p⟩ 10).2⟩ ([w55_,w57_]:List ByteArray)).2⟩ ([w63_,w64_,w65_]:List ByteArray)).2⟩).2⟩ ([w63_,w55_]:List ByteArray)).1),(F67 ⟨r1.b,(F132 ⟨r1.b,(F67 ⟨r1.b,(F67 ⟨r1.b,(F48 ⟨r1.b,r1.p⟩ 10).2⟩ ([w55_,w57_]:List ByteArray)).2⟩ ([w63_,w64_,w65_]:List ByteArray)).2⟩).2⟩ ([w63_,w55_]:List ByteArray)).2)=(F86 r1)=>ai (congrArg (fun r:ByteArray×Int=>(.string r.1:Value)) hF) (ai (ai (Imp.refl (Dat.v (sv r1X))) (ai (Imp.of_eq (congrArg (fun r:ByteArray×Int=>Dat.v (vI r.2)) hF)) trivial)) trivial)) (condF h2 (condF h6 (condF h8 (finD hJ0_12 (condF h13 (condF h20 (condF h27 (condF h39 (condF h42 rfl))))))))))))))))))))))))))))) j hj)))))) (by kernel_rfl)
def LineQ (p:Int) (z:ByteArray×Int):Prop:=z.1.size≤900∧p≤z.2∧z.2≤p+9
theorem dline_j0 (r1:l51Rd):∃ b,F86_j0 r1=Lp.done b:=by
 unfold F86_j0
 cases ((F48 (⟨r1.b,r1.p⟩:l51Rd) 10).1==2)
 ·exact ⟨_,rfl⟩
 ·exact ⟨_,rfl⟩
theorem dline_j1 (r1:l51Rd) (b:Bool):∃ t r2,F86_j1 r1 b=Lp.done (t,r2)∧t.size≤100∧r1.p≤r2∧r2≤r1.p+3:=by
 unfold F86_j1
 cases ((F48 (⟨r1.b,(F48 (⟨r1.b,r1.p⟩:l51Rd) 10).2⟩:l51Rd) 3).1==0)
 ·refine ⟨_,_,rfl,Nat.zero_le _,?_,?_⟩ <;> (simp only [of_p,pick_p]; omega)
 ·refine ⟨_,_,rfl,?_,?_,?_⟩
  ·exact szLe (app_le (lit_le _) (of_le (n:=80) _ _ (by decide))) (by decide)
  ·simp only [of_p,pick_p]; omega
  ·simp only [of_p,pick_p]; omega
set_option maxHeartbeats 4000000 in
theorem dline_all (r1:l51Rd):LineQ r1.p (F86 r1):=by
 obtain ⟨b,hb⟩:=dline_j0 r1
 obtain ⟨t,r2,ht,h1,h2,h3⟩:=dline_j1 r1 b
 unfold F86
 rw [hb]
 simp only [Lp.fin]
 rw [ht]
 simp only [Lp.fin]
 repeat' apply cond_P (P:=LineQ r1.p)
 all_goals refine ⟨?_,?_,?_⟩
 all_goals first
  | (simp only [of_p,pick_p,prefix_p,addr_p]; omega)
  | (apply szLe; (· repeat (first | exact h1 | apply app_le | apply condS_le | exact of_le (n:=80) _ _ (by decide) | exact prefix_le _ | exact addr_le _ | exact lit_le _)); decide)
theorem dline_q (r1:l51Rd) (h0:0≤r1.p) (h1:r1.p≤900000000):(F86 r1).1.size≤900∧r1.p≤(F86 r1).2∧(F86 r1).2≤r1.p+9:=dline_all r1
def F68 (lines:List ByteArray) (k:Int):List ByteArray :=
 ((([]:List ByteArray)++(lines.take (Int.toNat k)))++(lines.drop (Int.toNat (k+1))))
theorem fi68 (lines:List ByteArray) (k:Int) (r:List ByteArray) (hF:r=(F68 lines k)):(Imp (.l 1 eStr r) (.l 1 eStr (F68 lines k)))∧True:=by cases hF; exact ⟨Imp.refl _,trivial⟩
def S68 (lines:List ByteArray) (k:Int):Spec:=⟨[.r (.c (.l 1 eStr lines)),.r (.c (.v (vI k)))],.ow (.l 1 eStr (F68 lines k)),0≤k∧k<(lines.length:Int)∧lines.length≤1048576⟩
theorem ok68 (lines:List ByteArray) (k:Int):(S68 lines k).ok Tryz.prog 68 :=
 fnG_ok mixed (fn:=Tryz.f68) (ct:=.seqk [(0,0)] .no (.seq (.reg [(0,.dat (.l 1 eStr ([]:List ByteArray))),(4,.dat (.l 1 eStr (([]:List ByteArray)++(lines.take (Int.toNat k))))),(7,.bnd),(9,.dat (.l 1 eStr ((([]:List ByteArray)++(lines.take (Int.toNat k)))++(lines.drop (Int.toNat (k+1))))))]) .no)) Tryz.func68 (fun (hp:0≤k∧k<(lines.length:Int)∧lines.length≤1048576)=>have hpre0:=hp.1; have hpre1:=hp.2.1; have hpre2:=hp.2.2; kn lines fun _=>ai (bokr 1 eStr ([]:List ByteArray) fun _=>rfl) (ai (by first | omega | (simp only [lens,ib] at*<;> omega):0≤(0:Int)∧(0:Int)≤k∧k≤(lines.length:Int)) (ai (AppL.mk eStr ([]:List ByteArray) (lines.take (Int.toNat k)) (Imp.refl (.l 1 eStr ([]:List ByteArray))) ir (fun y=>⟨rfl,fun e he=>by simp only [eStr,List.mem_cons,List.not_mem_nil,or_false] at he; rcases he with rfl <;> exact ⟨_,rfl⟩⟩):AppL (.l 1 eStr ([]:List ByteArray)) (.l 1 eStr (lines.take (Int.toNat k))) 1 (.l 1 eStr (([]:List ByteArray)++(lines.take (Int.toNat k))))) (ai (by (try simp only [lens]); omega:(([]:List ByteArray)++(lines.take (Int.toNat k))).length*16≤140737488355328) (ai (iok (k+1) (by first | omega | (simp only [lens,ib] at*<;> omega))) (ai (by first | omega | (simp only [lens,ib] at*<;> omega):0≤(k+1)∧(k+1)≤(lines.length:Int)∧(lines.length:Int)≤(lines.length:Int)) (ai (AppL.mk eStr (([]:List ByteArray)++(lines.take (Int.toNat k))) (lines.drop (Int.toNat (k+1))) (Imp.refl (.l 1 eStr (([]:List ByteArray)++(lines.take (Int.toNat k))))) ir (fun y=>⟨rfl,fun e he=>by simp only [eStr,List.mem_cons,List.not_mem_nil,or_false] at he; rcases he with rfl <;> exact ⟨_,rfl⟩⟩):AppL (.l 1 eStr (([]:List ByteArray)++(lines.take (Int.toNat k)))) (.l 1 eStr (lines.drop (Int.toNat (k+1)))) 1 (.l 1 eStr ((([]:List ByteArray)++(lines.take (Int.toNat k)))++(lines.drop (Int.toNat (k+1)))))) (ai (by (try simp only [lens]); omega:((([]:List ByteArray)++(lines.take (Int.toNat k)))++(lines.drop (Int.toNat (k+1)))).length*16≤140737488355328) (fi68 lines k ((([]:List ByteArray)++(lines.take (Int.toNat k)))++(lines.drop (Int.toNat (k+1)))) rfl))))))))) (by kernel_rfl)
def F80 (list:List ByteArray):List ByteArray :=
 (([]:List ByteArray)++list)
theorem fi80 (list:List ByteArray) (r:List ByteArray) (hF:r=(F80 list)):(Imp (.l 1 eStr r) (.l 1 eStr (F80 list)))∧True:=by cases hF; exact ⟨Imp.refl _,trivial⟩
def S80 (R:List ByteArray) (list:List ByteArray):Spec:=⟨[.r (.c (.l 1 eStr list))],.ow (.l 1 eStr R),list.length≤1000000000⟩
theorem ok80 (list:List ByteArray):(S80 (F80 list) list).ok Tryz.prog 80 :=
 fnG_ok mixed (fn:=Tryz.f80) (ct:=.seqk [(0,0)] .no (.seq (.reg [(0,.dat (.l 1 eStr ([]:List ByteArray))),(2,.dat (.l 1 eStr (([]:List ByteArray)++list)))]) .no)) Tryz.func80 (fun (hpre0:list.length≤1000000000)=>kn list fun _=>ai (bokr 1 eStr ([]:List ByteArray) fun _=>rfl) (ai (AppL.mk eStr ([]:List ByteArray) list (Imp.refl (.l 1 eStr ([]:List ByteArray))) ir (fun y=>⟨rfl,fun e he=>by simp only [eStr,List.mem_cons,List.not_mem_nil,or_false] at he; rcases he with rfl <;> exact ⟨_,rfl⟩⟩):AppL (.l 1 eStr ([]:List ByteArray)) (.l 1 eStr list) 1 (.l 1 eStr (([]:List ByteArray)++list))) (ai (by (try simp only [lens]); omega:(([]:List ByteArray)++list).length*16≤140737488355328) (fi80 list (([]:List ByteArray)++list) rfl)))) (by kernel_rfl)
theorem as80 (list:List ByteArray):F80 list=(list):=by
 rfl
theorem oa80 (list:List ByteArray):(S80 (list) list).ok Tryz.prog 80:=by
 intro hp; have h:=ok80 list hp; rw [as80 list] at h; exact h
theorem without_eq (lines:List ByteArray) (k:Int) (h0:0≤k) (h1:k<(lines.length:Int)) (hl:lines.length≤1048576):F68 lines k=lines.take k.toNat++lines.drop (k.toNat+1):=by
 unfold F68
 rw [List.nil_append,show Int.toNat (k+1)=k.toNat+1 by omega]
theorem without_len (lines:List ByteArray) (k:Int) (h0:0≤k) (h1:k<(lines.length:Int)) (hl:lines.length≤1048576):(F68 lines k).length+1=lines.length:=by
 rw [without_eq lines k h0 h1 hl,List.length_append,List.length_take,List.length_drop]; omega
theorem without_mem {lines:List ByteArray} {k:Int} {z:ByteArray} (h:z∈F68 lines k):z∈lines:=by
 unfold F68 at h
 rw [List.nil_append] at h
 rcases List.mem_append.1 h with h | h
 ·exact List.mem_of_mem_take h
 ·exact List.mem_of_mem_drop h
theorem without_szN {lines:List ByteArray} {n:Nat} (k:Int) (h:∀ q:Nat,(lines.getD q default).size≤n):∀ q:Nat,((F68 lines k).getD q default).size≤n:=getD_sz fun x hx=>mem_sz h (without_mem hx)
theorem without_sz (lines:List ByteArray) (k:Int) (h:∀ q:Nat,(lines.getD q default).size≤1048576):∀ q:Nat,((F68 lines k).getD q default).size≤1048576:=without_szN k h
theorem put_szN {lines:List ByteArray} {line:ByteArray} {n:Nat} (h:∀ q:Nat,(lines.getD q default).size≤n) (hl:line.size≤n):∀ q:Nat,((F79 lines line).getD q default).size≤n:=getD_sz fun x hx=>by
 obtain ⟨k,_,e,_⟩:=put_eq lines line
 rw [e] at hx
 rcases List.mem_append.1 hx with hx | hx
 ·exact mem_sz h (List.mem_of_mem_take hx)
 ·rcases List.mem_cons.1 hx with rfl | hx
  ·exact hl
  ·exact mem_sz h (List.mem_of_mem_drop hx)
theorem pick_lt (b:List Int) (p n:Int) (h0:0≤p) (h1:p≤1000000000) (hn:1≤n):(F48 (⟨b,p⟩:l51Rd) n).1<n:=(pick_in (⟨b,p⟩:l51Rd) n h0 h1).2.1 hn
def CQ (xs:List ByteArray):Prop:=F19 xs=0∧∀ q:Nat,(xs.getD q default).size≤900
def LQ (xs:List ByteArray):Prop:=xs.length≤17∧∀ q:Nat,(xs.getD q default).size≤900
def LS (xs:List ByteArray):Prop:=xs.length≤40∧∀ q:Nat,(xs.getD q default).size≤1000
theorem cq_len {xs:List ByteArray} (h:CQ xs):xs.length≤16:=check_len xs h.1
theorem cq_sz {xs:List ByteArray} (h:CQ xs):∀ q:Nat,(xs.getD q default).size≤1048576:=fun q=>Nat.le_trans (h.2 q) (by decide)
theorem lq_len {xs:List ByteArray} (h:LQ xs):xs.length≤17:=h.1
theorem lq_sz {xs:List ByteArray} (h:LQ xs):∀ q:Nat,(xs.getD q default).size≤1048576:=fun q=>Nat.le_trans (h.2 q) (by decide)
theorem cq_lq {xs:List ByteArray} (h:CQ xs):LQ xs:=⟨Nat.le_trans (cq_len h) (by decide),h.2⟩
theorem lq_ls {xs:List ByteArray} (h:LQ xs):LS xs:=⟨Nat.le_trans h.1 (by decide),fun q=>Nat.le_trans (h.2 q) (by decide)⟩
theorem without_lq {xs:List ByteArray} {k:Int} (h:LQ xs) (h0:0≤k) (h1:k<(xs.length:Int)):LQ (F68 xs k) :=
 ⟨by have:=without_len xs k h0 h1 (Nat.le_trans h.1 (by decide)); have:=h.1; omega,without_szN k h.2⟩
theorem put_lq {xs:List ByteArray} {line:ByteArray} (h:LQ xs) (hl:(xs.length:Int)<17) (hz:line.size≤900):LQ (F79 xs line):=⟨by rw [put_len]; omega,put_szN h.2 hz⟩
theorem kc68l (lines:List ByteArray) (k:Int) {K_:Prop} (p0_:0≤k) (p1_:k<(lines.length:Int)) (p2_:lines.length≤1048576) (q0_:0≤k) (q1_:k<(lines.length:Int)) (q2_:lines.length≤1048576) (q3_:∀ q:Nat,(lines.getD q default).size≤1048576) (k_:((F68 lines k).length+1=lines.length)→(∀ q:Nat,((F68 lines k).getD q default).size≤1048576)→K_):(0≤k∧k<(lines.length:Int)∧lines.length≤1048576)∧(Imp (.l 1 eStr lines) (.l 1 eStr lines))∧(Imp (.v (vI k)) (.v (vI k)))∧K_:=⟨⟨p0_,p1_,p2_⟩,Imp.refl _,Imp.refl _,k_ (without_len lines k q0_ q1_ q2_) (without_sz lines k q3_)⟩
abbrev kh68l (lines:List ByteArray) (k:Int):Hint true Tryz.prog:=.call 68 (S68 lines k) (ok68 lines k) none
def F100 (lines:List ByteArray) (line:ByteArray):List ByteArray :=
 bif (decide ((F99 lines (F14 line))≥0)) then (bif ((F19 (F79 (F68 lines (F99 lines (F14 line))) line))==0) then (F79 (F68 lines (F99 lines (F14 line))) line) else lines) else (bif ((F19 (F79 lines line))==0) then (F79 lines line) else lines)
theorem fi100 (lines:List ByteArray) (line:ByteArray) (r:List ByteArray) (hF:r=(F100 lines line)):(Imp (.l 1 eStr r) (.l 1 eStr (F100 lines line)))∧True:=by cases hF; exact ⟨Imp.refl _,trivial⟩
def S100 (lines:List ByteArray) (line:ByteArray):Spec:=⟨[.ow (.l 1 eStr lines) none,.r (.c (.v (.string line)))],.ow (.l 1 eStr (F100 lines line)),CQ lines∧line.size≤900⟩
theorem ok100 (lines:List ByteArray) (line:ByteArray):(S100 lines line).ok Tryz.prog 100 :=
 fnG_ok mixed (fn:=Tryz.f100) (ct:=.seq .no (.seq .no (.seq (.reg [(2,kh14 line),(3,kh99 lines (F14 line))]) (.seqa 5 0 (.seq .no (.cond (.reg [(2,kh68l lines (F99 lines (F14 line)))]) .no)) (.seq (.reg [(2,kh79 lines line)]) (.seq (.seq (.reg [(1,kh19 (F79 lines line))]) (.cond (.seq .no .no) .no)) (.seq .no .no))) (.seq (.reg [(2,kh79 (F68 lines (F99 lines (F14 line))) line)]) (.seq (.seq (.reg [(1,kh19 (F79 (F68 lines (F99 lines (F14 line))) line))]) (.cond (.seq .no .no) .no)) (.seq .no .no))))))) Tryz.func100 (fun (hp:CQ lines∧line.size≤900)=>have hpre0:=hp.1; have hpre1:=hp.2; kc14 line (by first | omega | exact cq_sz hpre0 | exact key_lt _ _ | assumption | (have h9:=cq_len hpre0; omega)) (kc99 lines (F14 line) (by first | omega | exact cq_sz hpre0 | exact key_lt _ _ | assumption | (have h9:=cq_len hpre0; omega)) (ifd ((F99 lines (F14 line))≥0) (fun h1 _=>kc68l lines (F99 lines (F14 line)) (by first | omega | exact cq_sz hpre0 | exact key_lt _ _ | assumption | (have h9:=cq_len hpre0; omega)) (by first | omega | exact cq_sz hpre0 | exact key_lt _ _ | assumption | (have h9:=cq_len hpre0; omega)) (by first | omega | exact cq_sz hpre0 | exact key_lt _ _ | assumption | (have h9:=cq_len hpre0; omega)) (by first | omega | exact cq_sz hpre0 | exact key_lt _ _ | assumption | (have h9:=cq_len hpre0; omega)) (by first | omega | exact cq_sz hpre0 | exact key_lt _ _ | assumption | (have h9:=cq_len hpre0; omega)) (by first | omega | exact cq_sz hpre0 | exact key_lt _ _ | assumption | (have h9:=cq_len hpre0; omega)) (by first | omega | exact cq_sz hpre0 | exact key_lt _ _ | assumption | (have h9:=cq_len hpre0; omega)) (fun gv2 gv3=>kc79 (F68 lines (F99 lines (F14 line))) line (by first | omega | exact cq_sz hpre0 | exact key_lt _ _ | assumption | (have h9:=cq_len hpre0; omega)) (by first | omega | exact cq_sz hpre0 | exact key_lt _ _ | assumption | (have h9:=cq_len hpre0; omega)) (by first | omega | exact cq_sz hpre0 | exact key_lt _ _ | assumption | (have h9:=cq_len hpre0; omega)) (by first | omega | exact cq_sz hpre0 | exact key_lt _ _ | assumption | (have h9:=cq_len hpre0; omega)) (fun gv4 gv5=>kc19 (F79 (F68 lines (F99 lines (F14 line))) line) (by first | omega | exact cq_sz hpre0 | exact key_lt _ _ | assumption | (have h9:=cq_len hpre0; omega)) (by first | omega | exact cq_sz hpre0 | exact key_lt _ _ | assumption | (have h9:=cq_len hpre0; omega)) (ife (F19 (F79 (F68 lines (F99 lines (F14 line))) line)) 0 (fun h6 _=>fi100 lines line (F79 (F68 lines (F99 lines (F14 line))) line) (condT h1 (condT h6 rfl))) (fun h6 _=>fi100 lines line lines (condT h1 (condF h6 rfl))))))) (fun h1 _=>kc79 lines line (by first | omega | exact cq_sz hpre0 | exact key_lt _ _ | assumption | (have h9:=cq_len hpre0; omega)) (by first | omega | exact cq_sz hpre0 | exact key_lt _ _ | assumption | (have h9:=cq_len hpre0; omega)) (by first | omega | exact cq_sz hpre0 | exact key_lt _ _ | assumption | (have h9:=cq_len hpre0; omega)) (by first | omega | exact cq_sz hpre0 | exact key_lt _ _ | assumption | (have h9:=cq_len hpre0; omega)) (fun gv7 gv8=>kc19 (F79 lines line) (by first | omega | exact cq_sz hpre0 | exact key_lt _ _ | assumption | (have h9:=cq_len hpre0; omega)) (by first | omega | exact cq_sz hpre0 | exact key_lt _ _ | assumption | (have h9:=cq_len hpre0; omega)) (ife (F19 (F79 lines line)) 0 (fun h9 _=>fi100 lines line (F79 lines line) (condF h1 (condT h9 rfl))) (fun h9 _=>fi100 lines line lines (condF h1 (condF h9 rfl))))))))) (by kernel_rfl)
theorem try_cq (lines:List ByteArray) (line:ByteArray) (h:CQ lines) (hz:line.size≤900):CQ (F100 lines line):=by
 have key:∀ xs:List ByteArray,(∀ q:Nat,(xs.getD q default).size≤900)→CQ (bif (F19 xs==0) then xs else lines):=fun xs hx=>by
  cases hc:(F19 xs==0) with
  | true=>exact ⟨eq_of_beq hc,hx⟩
  | false=>exact h
 unfold F100
 cases decide (F99 lines (F14 line)≥0)
 ·exact key _ (put_szN h.2 hz)
 ·exact key _ (put_szN (without_szN _ h.2) hz)
theorem cq_base:CQ ([(⟨#[117,115,101,114,32,97,110,110,32,97,108,108]⟩:ByteArray)]:List ByteArray):=⟨by kernel_rfl,getD_sz (by decide)⟩
theorem kc100l (lines:List ByteArray) (line:ByteArray) {K_:Prop} (p0_:CQ lines) (p1_:line.size≤900) (q0_:CQ lines) (q1_:line.size≤900) (k_:(CQ (F100 lines line))→K_):(CQ lines∧line.size≤900)∧(Imp (.l 1 eStr lines) (.l 1 eStr lines))∧(Imp (.v (.string line)) (.v (.string line)))∧K_:=⟨⟨p0_,p1_⟩,Imp.refl _,Imp.refl _,k_ (try_cq lines line q0_ q1_)⟩
abbrev kh100l (lines:List ByteArray) (line:ByteArray):Hint true Tryz.prog:=.call 100 (S100 lines line) (ok100 lines line) none
theorem kc86l (X_:SV) (b_:List Int) (pp_:Int) {K_:Prop} (p0_:0≤pp_) (p1_:pp_≤900000000) (p2_:b_.length≤2000) (q0_:0≤pp_) (q1_:pp_≤900000000) (k_:((F86 ⟨b_,pp_⟩).1.size≤900∧pp_≤(F86 ⟨b_,pp_⟩).2∧(F86 ⟨b_,pp_⟩).2≤pp_+9)→K_):(0≤pp_∧pp_≤900000000∧b_.length≤2000)∧(sv X_=sv X_)∧(Imp (.l 1 eByte b_) (.l 1 eByte b_))∧(Imps ([.v (vI pp_)]) ([.v (vI pp_)]))∧K_:=⟨⟨p0_,p1_,p2_⟩,rfl,Imp.refl _,Imps.refl _,k_ (dline_q (⟨b_,pp_⟩:l51Rd) q0_ q1_)⟩
abbrev kh86l (X_:SV) (g_:Nat) (b_:List Int) (pp_:Int):Hint true Tryz.prog:=.call 86 (S86 X_ g_ (⟨b_,pp_⟩:l51Rd)) (ok86 X_ g_ (⟨b_,pp_⟩:l51Rd)) none
abbrev w74_:ByteArray:=⟨#[117,115,101,114,32,97,110,110,32,97,108,108]⟩
abbrev w75_:ByteArray:=⟨#[112,111,114,116,32,48,32,49,48,46,48,47,56]⟩
abbrev w76_:ByteArray:=⟨#[114,111,117,116,101,44,114,117,108,101]⟩
abbrev w77_:ByteArray:=⟨#[117,115,101,114,32,98,111,98,32]⟩
abbrev w78_:ByteArray:=⟨#[110,97,116,32,49,48,46,48,47,57,32,50,48,48,46,49,32,52,48,32,52,51]⟩
def F51_j0 (r1:l51Rd):Lp (List ByteArray) (List ByteArray×Int) :=
 bif (decide ((F48 ⟨r1.b,r1.p⟩ 3).1>0)) then (.done (F100 ([(⟨#[117,115,101,114,32,97,110,110,32,97,108,108]⟩:ByteArray)]:List ByteArray) ⟨#[112,111,114,116,32,48,32,49,48,46,48,47,56]⟩)) else (.done ([(⟨#[117,115,101,114,32,97,110,110,32,97,108,108]⟩:ByteArray)]:List ByteArray))
def F51_j1 (r1:l51Rd) (out:List ByteArray):Lp (List ByteArray×Int) (List ByteArray×Int) :=
 bif (decide ((F48 ⟨r1.b,(F48 ⟨r1.b,r1.p⟩ 3).2⟩ 3).1>0)) then (.done ((F100 out ((⟨#[117,115,101,114,32,98,111,98,32]⟩:ByteArray)++(F67 ⟨r1.b,(F48 ⟨r1.b,(F48 ⟨r1.b,r1.p⟩ 3).2⟩ 3).2⟩ ([(⟨#[114,111,117,116,101,44,114,117,108,101]⟩:ByteArray),(⟨#[97,108,108]⟩:ByteArray),(⟨#[110,111,110,101]⟩:ByteArray),(⟨#[112,111,114,116]⟩:ByteArray)]:List ByteArray)).1)),(F67 ⟨r1.b,(F48 ⟨r1.b,(F48 ⟨r1.b,r1.p⟩ 3).2⟩ 3).2⟩ ([(⟨#[114,111,117,116,101,44,114,117,108,101]⟩:ByteArray),(⟨#[97,108,108]⟩:ByteArray),(⟨#[110,111,110,101]⟩:ByteArray),(⟨#[112,111,114,116]⟩:ByteArray)]:List ByteArray)).2)) else (.done (out,(F48 ⟨r1.b,(F48 ⟨r1.b,r1.p⟩ 3).2⟩ 3).2))
def F51_j2 (r1:l51Rd) (out:List ByteArray) (out1:List ByteArray) (r2:Int):Lp (List ByteArray) (List ByteArray×Int) :=
 bif ((F48 ⟨r1.b,r2⟩ 3).1==0) then (.done (F100 out1 ⟨#[110,97,116,32,49,48,46,48,47,57,32,50,48,48,46,49,32,52,48,32,52,51]⟩)) else (.done out1)
def F51_j3 (r1:l51Rd) (out:List ByteArray) (out1:List ByteArray) (r2:Int) (out2:List ByteArray):Lp Int (List ByteArray×Int) :=
 bif ((F48 ⟨r1.b,(F48 ⟨r1.b,(F48 ⟨r1.b,r2⟩ 3).2⟩ 7).2⟩ 9).1==0) then (.done 40) else (.done (F48 ⟨r1.b,(F48 ⟨r1.b,r2⟩ 3).2⟩ 7).1)
def F51_s0 (r1:l51Rd) (out:List ByteArray) (out1:List ByteArray) (r2:Int) (out2:List ByteArray) (n:Int):(List ByteArray×Int×Int)→Lp (List ByteArray×Int×Int) (List ByteArray×Int):=fun (out3,n1,r3) =>
 bif (decide (n1>0)) then (.next ((F100 out3 (F86 ⟨r1.b,r3⟩).1),(n1-1),(F86 ⟨r1.b,r3⟩).2)) else (.done (out3,n1,r3))
def F51 (r1:l51Rd):List ByteArray×Int :=
 (F51_j0 r1).fin (fun r=>r) (fun out=>(F51_j1 r1 out).fin (fun r=>r) (fun (out1,r2)=>(F51_j2 r1 out out1 r2).fin (fun r=>r) (fun out2=>(F51_j3 r1 out out1 r2 out2).fin (fun r=>r) (fun n=>(runL (F51_s0 r1 out out1 r2 out2 n) ((Int.toNat (n-0))+1) (out2,n,(F48 ⟨r1.b,(F48 ⟨r1.b,(F48 ⟨r1.b,r2⟩ 3).2⟩ 7).2⟩ 9).2)).fin (fun r=>r) (fun (out3,n1,r3)=>(out3,r3))))))
abbrev jI51_0 (r1X:SV) (r1:l51Rd) (out:List ByteArray):Prop:=CQ out∧(F48 ⟨r1.b,r1.p⟩ 3).2=r1.p+1
abbrev jJ51_0 (r1X:SV) (r1:l51Rd) (j:List ByteArray):Prop:=(F51_j0 r1)=Lp.done j∧jI51_0 r1X r1 j
theorem jn51_0 (r1X:SV) (r1:l51Rd) (out:List ByteArray) (e:(F51_j0 r1)=Lp.done out) (h:jI51_0 r1X r1 out):∃ j:List ByteArray,((.int .i64 (F48 ⟨r1.b,r1.p⟩ 3).2:Value)=.int .i64 (F48 ⟨r1.b,r1.p⟩ 3).2)∧((sv r1X:Value)=sv r1X)∧(Imp (.l 1 eByte r1.b) (.l 1 eByte r1.b))∧(Imp (.l 1 eStr out) (.l 1 eStr j))∧jJ51_0 r1X r1 j:=⟨out,rfl,rfl,Imp.refl _,Imp.refl _,e,h⟩
abbrev jI51_1 (r1X:SV) (r1:l51Rd) (out:List ByteArray) (out1:List ByteArray) (r2:Int):Prop:=CQ out1∧0≤r2∧r2≤r1.p+3
abbrev jJ51_1 (r1X:SV) (r1:l51Rd) (out:List ByteArray) (j:List ByteArray×Int):Prop:=(F51_j1 r1 out)=Lp.done j∧jI51_1 r1X r1 out j.1 j.2
theorem jn51_1 (r1X:SV) (r1:l51Rd) (out:List ByteArray) (out1:List ByteArray) (r2:Int) (e:(F51_j1 r1 out)=Lp.done (out1,r2)) (h:jI51_1 r1X r1 out out1 r2):∃ j:List ByteArray×Int,((.int .i64 r2:Value)=.int .i64 j.2)∧((sv r1X:Value)=sv r1X)∧(Imp (.l 1 eByte r1.b) (.l 1 eByte r1.b))∧(Imp (.l 1 eStr out1) (.l 1 eStr j.1))∧jJ51_1 r1X r1 out j:=⟨(out1,r2),rfl,rfl,Imp.refl _,Imp.refl _,e,h⟩
abbrev jI51_2 (r1X:SV) (r1:l51Rd) (out:List ByteArray) (out1:List ByteArray) (r2:Int) (out2:List ByteArray):Prop:=CQ out2∧(F48 ⟨r1.b,r2⟩ 3).2=r2+1
abbrev jJ51_2 (r1X:SV) (r1:l51Rd) (out:List ByteArray) (out1:List ByteArray) (r2:Int) (j:List ByteArray):Prop:=(F51_j2 r1 out out1 r2)=Lp.done j∧jI51_2 r1X r1 out out1 r2 j
theorem jn51_2 (r1X:SV) (r1:l51Rd) (out:List ByteArray) (out1:List ByteArray) (r2:Int) (out2:List ByteArray) (e:(F51_j2 r1 out out1 r2)=Lp.done out2) (h:jI51_2 r1X r1 out out1 r2 out2):∃ j:List ByteArray,((.int .i64 (F48 ⟨r1.b,r2⟩ 3).2:Value)=.int .i64 (F48 ⟨r1.b,r2⟩ 3).2)∧((sv r1X:Value)=sv r1X)∧(Imp (.l 1 eByte r1.b) (.l 1 eByte r1.b))∧(Imp (.l 1 eStr out2) (.l 1 eStr j))∧jJ51_2 r1X r1 out out1 r2 j:=⟨out2,rfl,rfl,Imp.refl _,Imp.refl _,e,h⟩
abbrev jI51_3 (r1X:SV) (r1:l51Rd) (out:List ByteArray) (out1:List ByteArray) (r2:Int) (out2:List ByteArray) (n:Int):Prop:=0≤n∧n≤40∧(F48 ⟨r1.b,(F48 ⟨r1.b,(F48 ⟨r1.b,r2⟩ 3).2⟩ 7).2⟩ 9).2=r2+3
abbrev jJ51_3 (r1X:SV) (r1:l51Rd) (out:List ByteArray) (out1:List ByteArray) (r2:Int) (out2:List ByteArray) (j:Int):Prop:=(F51_j3 r1 out out1 r2 out2)=Lp.done j∧jI51_3 r1X r1 out out1 r2 out2 j
theorem jn51_3 (r1X:SV) (r1:l51Rd) (out:List ByteArray) (out1:List ByteArray) (r2:Int) (out2:List ByteArray) (n:Int) (e:(F51_j3 r1 out out1 r2 out2)=Lp.done n) (h:jI51_3 r1X r1 out out1 r2 out2 n):∃ j:Int,((.int .i64 n:Value)=.int .i64 j)∧((.int .i64 (F48 ⟨r1.b,(F48 ⟨r1.b,(F48 ⟨r1.b,r2⟩ 3).2⟩ 7).2⟩ 9).2:Value)=.int .i64 (F48 ⟨r1.b,(F48 ⟨r1.b,(F48 ⟨r1.b,r2⟩ 3).2⟩ 7).2⟩ 9).2)∧((sv r1X:Value)=sv r1X)∧(Imp (.l 1 eByte r1.b) (.l 1 eByte r1.b))∧(Imp (.l 1 eStr out2) (.l 1 eStr out2))∧jJ51_3 r1X r1 out out1 r2 out2 j:=⟨n,rfl,rfl,rfl,Imp.refl _,Imp.refl _,e,h⟩
abbrev lN51_0 (r1:l51Rd) (r2:Int) (out2:List ByteArray) (n:Int):Nat×(List ByteArray×Int×Int):=(((Int.toNat (n-0))+1),(out2,n,(F48 ⟨r1.b,(F48 ⟨r1.b,(F48 ⟨r1.b,r2⟩ 3).2⟩ 7).2⟩ 9).2))
abbrev lI51_0 (r1:l51Rd) (m39:Nat) (out3:List ByteArray) (n1:Int) (r3:Int):Prop:=Int.toNat (n1-0)<m39∧CQ out3∧0≤r3∧r3+9*n1≤r1.p+380∧n1≤40
abbrev lX51_0 (r1:l51Rd) (out:List ByteArray) (out1:List ByteArray) (r2:Int) (out2:List ByteArray) (n:Int):Lp (List ByteArray×Int×Int) (List ByteArray×Int):=LpX (F51_s0 r1 out out1 r2 out2 n) (lN51_0 r1 r2 out2 n)
abbrev lJ51_0 (r1:l51Rd) (out:List ByteArray) (out1:List ByteArray) (r2:Int) (out2:List ByteArray) (n:Int) (i:Nat×(List ByteArray×Int×Int)):Prop:=LpJ (F51_s0 r1 out out1 r2 out2 n) (lN51_0 r1 r2 out2 n) i (lI51_0 r1 i.1 i.2.1 i.2.2.1 i.2.2.2)
abbrev lH51_0 (r1:l51Rd) (out:List ByteArray) (out1:List ByteArray) (r2:Int) (out2:List ByteArray) (n:Int) (i:Nat×(List ByteArray×Int×Int)) (m39:Nat) (out3:List ByteArray) (n1:Int) (r3:Int):Prop:=LpH (F51_s0 r1 out out1 r2 out2 n) (lN51_0 r1 r2 out2 n) i m39 (out3,n1,r3) (lI51_0 r1 (m39+1) out3 n1 r3)
abbrev lE51_0 (r1X:SV) (r1:l51Rd) (out3:List ByteArray) (n1:Int) (r3:Int) (out3_:List ByteArray) (n1_:Int) (r3_:Int) (K39:Prop):Prop:=((.int .i64 n1:Value)=.int .i64 n1_)∧((.int .i64 r3:Value)=.int .i64 r3_)∧(Rf (sv r1X))∧(Im (.l 1 eByte r1.b))∧(Imp (.l 1 eStr out3) (.l 1 eStr out3_))∧K39
theorem un51_0 (r1:l51Rd) (out:List ByteArray) (out1:List ByteArray) (r2:Int) (out2:List ByteArray) (n:Int) (i:Nat×(List ByteArray×Int×Int)) (h:lJ51_0 r1 out out1 r2 out2 n i):lH51_0 r1 out out1 r2 out2 n i (i.1-1) i.2.1 i.2.2.1 i.2.2.2:=⟨hd1 h.1 h.2.1,hd3 h.2.1,hd2 h.2.1,h.2.2⟩
theorem bk51_0 (r1X:SV) (r1:l51Rd) (out:List ByteArray) (out1:List ByteArray) (r2:Int) (out2:List ByteArray) (n:Int) (i:Nat×(List ByteArray×Int×Int)) (m39:Nat) (out3:List ByteArray) (n1:Int) (r3:Int) (hl:m39<i.1) (e:runL (F51_s0 r1 out out1 r2 out2 n) m39 (out3,n1,r3)=lX51_0 r1 out out1 r2 out2 n) (h:lI51_0 r1 m39 out3 n1 r3):∃ j:Nat×(List ByteArray×Int×Int),lE51_0 r1X r1 out3 n1 r3 j.2.1 j.2.2.1 j.2.2.2 (lJ51_0 r1 out out1 r2 out2 n j∧j.1<i.1):=⟨(m39,(out3,n1,r3)),rfl,rfl,rfl,Imp.refl _,Imp.refl _,⟨e,h⟩,hl⟩
theorem en51_0 (r1X:SV) (r1:l51Rd) (out:List ByteArray) (out1:List ByteArray) (r2:Int) (out2:List ByteArray) (n:Int) (h:CQ out2∧0≤(F48 ⟨r1.b,(F48 ⟨r1.b,(F48 ⟨r1.b,r2⟩ 3).2⟩ 7).2⟩ 9).2∧(F48 ⟨r1.b,(F48 ⟨r1.b,(F48 ⟨r1.b,r2⟩ 3).2⟩ 7).2⟩ 9).2+9*n≤r1.p+380∧n≤40):lE51_0 r1X r1 out2 n (F48 ⟨r1.b,(F48 ⟨r1.b,(F48 ⟨r1.b,r2⟩ 3).2⟩ 7).2⟩ 9).2 out2 n (F48 ⟨r1.b,(F48 ⟨r1.b,(F48 ⟨r1.b,r2⟩ 3).2⟩ 7).2⟩ 9).2 (lJ51_0 r1 out out1 r2 out2 n (lN51_0 r1 r2 out2 n)):=⟨rfl,rfl,rfl,Imp.refl _,Imp.refl _,rfl,Nat.lt_succ_self _,h⟩
def S51 (r1X:SV) (gr1:Nat) (r1:l51Rd):Spec:=⟨[.ptg gr1 86 (sv r1X) (.l 1 eByte r1.b) [.v (vI r1.p)] [.v (vI (F51 r1).2)]],.ow (.l 1 eStr (F51 r1).1),0≤r1.p∧r1.p≤800000000∧r1.b.length≤2000⟩
theorem ok51 (r1X:SV) (gr1:Nat) (r1:l51Rd):(S51 r1X gr1 r1).ok Tryz.prog 51 :=
 fnG_ok mixed (fn:=Tryz.f51) (ct:=.seqk [(0,0)] .no (.seq (.reg [(0,.dat (.l 1 eStr ([w74_]:List ByteArray)))]) (.cut (ι:=List ByteArray) (fun j=>(fun (out:List ByteArray)=>(⟨[(0,some (.p 0 0)),(3,some (.h 2 0))],[(0,some (.box 86 [.h 1 0,.v (vI (F48 ⟨r1.b,r1.p⟩ 3).2)])),(1,some (.vl (sv r1X) (.l 1 eByte r1.b))),(2,some (.own 2 (.l 1 eStr out)))],3⟩:St)) j) (jJ51_0 r1X r1) (.seq (.reg [(1,kh48l r1X 0 r1.b r1.p 3)]) (.cond (.reg [(1,kh100l ([w74_]:List ByteArray) w75_)]) .no)) (fun j=>(fun (out:List ByteArray)=>(.cut (ι:=List ByteArray×Int) (fun j=>(fun (out1:List ByteArray) (r2:Int)=>(⟨[(0,some (.p 0 0)),(3,some (.h 2 0))],[(0,some (.box 86 [.h 1 0,.v (vI r2)])),(1,some (.vl (sv r1X) (.l 1 eByte r1.b))),(2,some (.own 2 (.l 1 eStr out1)))],3⟩:St)) j.1 j.2) (jJ51_1 r1X r1 out) (.seq (.reg [(1,kh48l r1X 1 r1.b (F48 ⟨r1.b,r1.p⟩ 3).2 3)]) (.cond (.reg [(2,.dat (.l 1 eStr ([w76_,w11_,w12_,w7_]:List ByteArray))),(3,kh67l r1X 1 r1.b (F48 ⟨r1.b,(F48 ⟨r1.b,r1.p⟩ 3).2⟩ 3).2 ([w76_,w11_,w12_,w7_]:List ByteArray)),(5,.call 100 (S100 out (w77_++(F67 ⟨r1.b,(F48 ⟨r1.b,(F48 ⟨r1.b,r1.p⟩ 3).2⟩ 3).2⟩ ([w76_,w11_,w12_,w7_]:List ByteArray)).1)) (ok100 out (w77_++(F67 ⟨r1.b,(F48 ⟨r1.b,(F48 ⟨r1.b,r1.p⟩ 3).2⟩ 3).2⟩ ([w76_,w11_,w12_,w7_]:List ByteArray)).1)) none)]) .no)) (fun j=>(fun (out1:List ByteArray) (r2:Int)=>(.cut (ι:=List ByteArray) (fun j=>(fun (out2:List ByteArray)=>(⟨[(0,some (.p 0 0)),(3,some (.h 2 0))],[(0,some (.box 86 [.h 1 0,.v (vI (F48 ⟨r1.b,r2⟩ 3).2)])),(1,some (.vl (sv r1X) (.l 1 eByte r1.b))),(2,some (.own 2 (.l 1 eStr out2)))],3⟩:St)) j) (jJ51_2 r1X r1 out out1 r2) (.seq (.reg [(1,kh48l r1X 1 r1.b r2 3)]) (.cond (.reg [(1,kh100l out1 w78_)]) .no)) (fun j=>(fun (out2:List ByteArray)=>(.seq (.reg [(1,kh48l r1X 1 r1.b (F48 ⟨r1.b,r2⟩ 3).2 7)]) (.cut (ι:=Int) (fun j=>(fun (n:Int)=>(⟨[(0,some (.p 0 0)),(3,some (.h 2 0)),(4,some (.v (vI n)))],[(0,some (.box 86 [.h 1 0,.v (vI (F48 ⟨r1.b,(F48 ⟨r1.b,(F48 ⟨r1.b,r2⟩ 3).2⟩ 7).2⟩ 9).2)])),(1,some (.vl (sv r1X) (.l 1 eByte r1.b))),(2,some (.own 2 (.l 1 eStr out2)))],3⟩:St)) j) (jJ51_3 r1X r1 out out1 r2 out2) (.seq (.reg [(1,kh48l r1X 1 r1.b (F48 ⟨r1.b,(F48 ⟨r1.b,r2⟩ 3).2⟩ 7).2 9)]) (.cond .no .no)) (fun j=>(fun (n:Int)=>(.seq (.blk (.loop (ι:=Nat×(List ByteArray×Int×Int)) (fun i=>(fun (out3:List ByteArray) (n1:Int) (r3:Int)=>(⟨[(0,some (.p 0 0)),(3,some (.h 2 0)),(4,some (.v (vI n1)))],[(0,some (.box 86 [.h 1 0,.v (vI r3)])),(1,some (.vl (sv r1X) (.l 1 eByte r1.b))),(2,some (.own 2 (.l 1 eStr out3)))],3⟩:St)) i.2.1 i.2.2.1 i.2.2.2) (lJ51_0 r1 out out1 r2 out2 n) (fun i=>i.1) (lN51_0 r1 r2 out2 n) (fun i=>(fun (out3:List ByteArray) (n1:Int) (r3:Int)=>(.seq (.seq .no (.cond .no .no)) (.seq (.blk (.reg [(2,kh86l r1X 1 r1.b r3),(3,.call 100 (S100 out3 (F86 ⟨r1.b,r3⟩).1) (ok100 out3 (F86 ⟨r1.b,r3⟩).1) none)])) (.reg [(1,.bnd)])))) i.2.1 i.2.2.1 i.2.2.2))) (.seq .no .no))) j)))) j))) j.1 j.2))) j)))) Tryz.func51 (fun (hp:0≤r1.p∧r1.p≤800000000∧r1.b.length≤2000)=>have hpre0:=hp.1; have hpre1:=hp.2.1; have hpre2:=hp.2.2; kn r1.b fun _=>ai (bokr 1 eStr ([w74_]:List ByteArray) fun _=>rfl) (ai (kc48l r1X r1.b r1.p 3 (by omega) (by omega) (by omega) (by omega) (by omega) (fun gv1=>have gv2:(F48 ⟨r1.b,r1.p⟩ 3).1<(3:Int):=(by exact pick_lt _ _ _ (by omega) (by omega) (by omega)); ifd ((F48 ⟨r1.b,r1.p⟩ 3).1>0) (fun h3 _=>kc100l ([w74_]:List ByteArray) w75_ (by exact cq_base) (by exact szLe (lit_le _) (by decide)) (by exact cq_base) (by exact szLe (lit_le _) (by decide)) (fun gv4=>jn51_0 r1X r1 (F100 ([w74_]:List ByteArray) w75_) (Eq.symm (condT h3 rfl)) (by refine ⟨?_,?_⟩ <;> omega))) (fun h3 _=>jn51_0 r1X r1 ([w74_]:List ByteArray) (Eq.symm (condF h3 rfl)) (by refine ⟨?_,?_⟩ <;> first | omega | (simp only [lens,ib] at*<;> omega) | assumption | exact cq_base | omega)))) (fun (j:List ByteArray) (hj:jJ51_0 r1X r1 j)=>(fun (out:List ByteArray) (hJ0_5:(F51_j0 r1)=Lp.done out) (hw:jI51_0 r1X r1 out)=>have _:=hw.1; have _:=hw.2; ai (kc48l r1X r1.b (F48 ⟨r1.b,r1.p⟩ 3).2 3 (by omega) (by omega) (by omega) (by omega) (by omega) (fun gv6=>have gv7:(F48 ⟨r1.b,(F48 ⟨r1.b,r1.p⟩ 3).2⟩ 3).1<(3:Int):=(by exact pick_lt _ _ _ (by omega) (by omega) (by omega)); ifd ((F48 ⟨r1.b,(F48 ⟨r1.b,r1.p⟩ 3).2⟩ 3).1>0) (fun h8 _=>ai (bokr 1 eStr ([w76_,w11_,w12_,w7_]:List ByteArray) fun _=>rfl) (kc67l r1X r1.b (F48 ⟨r1.b,(F48 ⟨r1.b,r1.p⟩ 3).2⟩ 3).2 ([w76_,w11_,w12_,w7_]:List ByteArray) (by omega) (by omega) (by omega) (by decide) (by decide) (by omega) (by omega) (by decide) (fun gv9=>ai (by (apply sumLe; (· repeat (first | (exact (by assumption:tail.size≤100)) | apply app_le | exact of_le (n:=80) _ _ (by decide) | exact prefix_le _ | exact addr_le _ | exact lit_le _)); (· repeat (first | (exact (by assumption:tail.size≤100)) | apply app_le | exact of_le (n:=80) _ _ (by decide) | exact prefix_le _ | exact addr_le _ | exact lit_le _)); decide):((w77_.size+(F67 ⟨r1.b,(F48 ⟨r1.b,(F48 ⟨r1.b,r1.p⟩ 3).2⟩ 3).2⟩ ([w76_,w11_,w12_,w7_]:List ByteArray)).1.size:Nat):Int)≤9223372036854775807) (ai (ai (by assumption:CQ out) (by exact szLe (app_le (lit_le _) (of_le (n:=80) _ _ (by decide))) (by decide):(w77_++(F67 ⟨r1.b,(F48 ⟨r1.b,(F48 ⟨r1.b,r1.p⟩ 3).2⟩ 3).2⟩ ([w76_,w11_,w12_,w7_]:List ByteArray)).1).size≤900)) (ai (Imp.refl (.l 1 eStr out)) (ai (Imp.refl (.v (.string (w77_++(F67 ⟨r1.b,(F48 ⟨r1.b,(F48 ⟨r1.b,r1.p⟩ 3).2⟩ 3).2⟩ ([w76_,w11_,w12_,w7_]:List ByteArray)).1)))) (have gv10:CQ (F100 out (w77_++(F67 ⟨r1.b,(F48 ⟨r1.b,(F48 ⟨r1.b,r1.p⟩ 3).2⟩ 3).2⟩ ([w76_,w11_,w12_,w7_]:List ByteArray)).1)):=try_cq out (w77_++(F67 ⟨r1.b,(F48 ⟨r1.b,(F48 ⟨r1.b,r1.p⟩ 3).2⟩ 3).2⟩ ([w76_,w11_,w12_,w7_]:List ByteArray)).1) (by assumption:CQ out) (by exact szLe (app_le (lit_le _) (of_le (n:=80) _ _ (by decide))) (by decide):(w77_++(F67 ⟨r1.b,(F48 ⟨r1.b,(F48 ⟨r1.b,r1.p⟩ 3).2⟩ 3).2⟩ ([w76_,w11_,w12_,w7_]:List ByteArray)).1).size≤900); jn51_1 r1X r1 out (F100 out (w77_++(F67 ⟨r1.b,(F48 ⟨r1.b,(F48 ⟨r1.b,r1.p⟩ 3).2⟩ 3).2⟩ ([w76_,w11_,w12_,w7_]:List ByteArray)).1)) (F67 ⟨r1.b,(F48 ⟨r1.b,(F48 ⟨r1.b,r1.p⟩ 3).2⟩ 3).2⟩ ([w76_,w11_,w12_,w7_]:List ByteArray)).2 (Eq.symm (condT h8 rfl)) (by refine ⟨?_,?_,?_⟩ <;> omega)))))))) (fun h8 _=>jn51_1 r1X r1 out out (F48 ⟨r1.b,(F48 ⟨r1.b,r1.p⟩ 3).2⟩ 3).2 (Eq.symm (condF h8 rfl)) (by refine ⟨?_,?_,?_⟩ <;> omega)))) (fun (j:List ByteArray×Int) (hj:jJ51_1 r1X r1 out j)=>(fun (out1:List ByteArray) (r2:Int) (hJ1_11:(F51_j1 r1 out)=Lp.done (out1,r2)) (hw:jI51_1 r1X r1 out out1 r2)=>have _:=hw.1; have _:=hw.2.1; have _:=hw.2.2; ai (kc48l r1X r1.b r2 3 (by omega) (by omega) (by omega) (by omega) (by omega) (fun gv12=>have gv13:(F48 ⟨r1.b,r2⟩ 3).1<(3:Int):=(by exact pick_lt _ _ _ (by omega) (by omega) (by omega)); ife (F48 ⟨r1.b,r2⟩ 3).1 0 (fun h14 _=>kc100l out1 w78_ (by assumption) (by exact szLe (lit_le _) (by decide)) (by assumption) (by exact szLe (lit_le _) (by decide)) (fun gv15=>jn51_2 r1X r1 out out1 r2 (F100 out1 w78_) (Eq.symm (condT h14 rfl)) (by refine ⟨?_,?_⟩ <;> omega))) (fun h14 _=>jn51_2 r1X r1 out out1 r2 out1 (Eq.symm (condF h14 rfl)) (by refine ⟨?_,?_⟩ <;> omega)))) (fun (j:List ByteArray) (hj:jJ51_2 r1X r1 out out1 r2 j)=>(fun (out2:List ByteArray) (hJ2_16:(F51_j2 r1 out out1 r2)=Lp.done out2) (hw:jI51_2 r1X r1 out out1 r2 out2)=>have _:=hw.1; have _:=hw.2; kc48l r1X r1.b (F48 ⟨r1.b,r2⟩ 3).2 7 (by omega) (by omega) (by omega) (by omega) (by omega) (fun gv17=>have gv18:(F48 ⟨r1.b,(F48 ⟨r1.b,r2⟩ 3).2⟩ 7).1<(7:Int):=(by exact pick_lt _ _ _ (by omega) (by omega) (by omega)); ai (kc48l r1X r1.b (F48 ⟨r1.b,(F48 ⟨r1.b,r2⟩ 3).2⟩ 7).2 9 (by omega) (by omega) (by omega) (by omega) (by omega) (fun gv19=>have gv20:(F48 ⟨r1.b,(F48 ⟨r1.b,(F48 ⟨r1.b,r2⟩ 3).2⟩ 7).2⟩ 9).1<(9:Int):=(by exact pick_lt _ _ _ (by omega) (by omega) (by omega)); ife (F48 ⟨r1.b,(F48 ⟨r1.b,(F48 ⟨r1.b,r2⟩ 3).2⟩ 7).2⟩ 9).1 0 (fun h21 _=>jn51_3 r1X r1 out out1 r2 out2 40 (Eq.symm (condT h21 rfl)) (by refine ⟨?_,?_,?_⟩ <;> omega)) (fun h21 _=>jn51_3 r1X r1 out out1 r2 out2 (F48 ⟨r1.b,(F48 ⟨r1.b,r2⟩ 3).2⟩ 7).1 (Eq.symm (condF h21 rfl)) (by refine ⟨?_,?_,?_⟩ <;> omega)))) (fun (j:Int) (hj:jJ51_3 r1X r1 out out1 r2 out2 j)=>(fun (n:Int) (hJ3_22:(F51_j3 r1 out out1 r2 out2)=Lp.done n) (hw:jI51_3 r1X r1 out out1 r2 out2 n)=>have _:=hw.1; have _:=hw.2.1; have _:=hw.2.2; ai (en51_0 r1X r1 out out1 r2 out2 n (by refine ⟨?_,?_,?_,?_⟩ <;> omega)) (fun (i0:Nat×(List ByteArray×Int×Int)) (hi0:lJ51_0 r1 out out1 r2 out2 n i0)=>(fun (m0:Nat) (out3:List ByteArray) (n1:Int) (r3:Int) (hh0:lH51_0 r1 out out1 r2 out2 n i0 m0 out3 n1 r3)=>have hI0:=hh0.1; have hl0:=hh0.2.1; have _:=hh0.2.2.1; have _:=hh0.2.2.2.1; have _:=hh0.2.2.2.2.1; have _:=hh0.2.2.2.2.2.1; have _:=hh0.2.2.2.2.2.2; ifd (n1>0) (fun h24 _=>kc86l r1X r1.b r3 (by omega) (by omega) (by omega) (by omega) (by omega) (fun gv25=>ai (ai (by assumption:CQ out3) (by omega:(F86 ⟨r1.b,r3⟩).1.size≤900)) (ai (Imp.refl (.l 1 eStr out3)) (ai (Imp.refl (.v (.string (F86 ⟨r1.b,r3⟩).1))) (have gv26:CQ (F100 out3 (F86 ⟨r1.b,r3⟩).1):=try_cq out3 (F86 ⟨r1.b,r3⟩).1 (by assumption:CQ out3) (by omega:(F86 ⟨r1.b,r3⟩).1.size≤900); ai (iok (n1-1) (by omega)) (bk51_0 r1X r1 out out1 r2 out2 n i0 m0 (F100 out3 (F86 ⟨r1.b,r3⟩).1) (n1-1) (F86 ⟨r1.b,r3⟩).2 hl0 (runL_next hI0 (condT h24 rfl)) (by refine ⟨?_,?_,?_,?_,?_⟩ <;> omega))))))) (fun h24 _=>have hD0_27:lX51_0 r1 out out1 r2 out2 n=Lp.done (out3,n1,r3):=runL_done hI0 (condF h24 rfl); (fun hF:(out3,r3)=(F51 r1)=>ai (Imp.of_eq (congrArg (fun r:List ByteArray×Int=>Dat.l 1 eStr r.1) hF)) (ai (ai (Imp.refl (Dat.v (sv r1X))) (ai (Imp.of_eq (congrArg (fun r:List ByteArray×Int=>Dat.v (vI r.2)) hF)) trivial)) trivial)) (finD hJ0_5 (finD hJ1_11 (finD hJ2_16 (finD hJ3_22 (finD hD0_27 rfl))))))) (i0.1-1) i0.2.1 i0.2.2.1 i0.2.2.2 (un51_0 r1 out out1 r2 out2 n i0 hi0))) j hj.1 hj.2))) j hj.1 hj.2)) j.1 j.2 hj.1 hj.2)) j hj.1 hj.2))) (by kernel_rfl)
theorem conf_loop (r1:l51Rd) (out out1:List ByteArray) (r2:Int) (out2:List ByteArray) (n:Int) (N:Nat) (xs:List ByteArray) (r:Int) (h:CQ xs):∃ ys r',runL (F51_s0 r1 out out1 r2 out2 n) (Int.toNat ((N:Int)-0)+1) (xs,(N:Int),r)=.done (ys,0,r')∧CQ ys∧r≤r'∧r'≤r+9*N:=by
 have h:=runL_rule (step:=F51_s0 r1 out out1 r2 out2 n) (fun (k:Nat) (s:List ByteArray×Int)=>(s.1,((N:Int)-(k:Int)),s.2)) N (fun k s=>CQ s.1∧r≤s.2∧s.2≤r+9*k) (fun _=>False)
  (fun k s hk hs=>.inl ⟨(F100 s.1 (F86 (⟨r1.b,s.2⟩:l51Rd)).1,(F86 (⟨r1.b,s.2⟩:l51Rd)).2),by
   simp only [F51_s0]
   rw [decide_eq_true (show (N:Int)-(k:Int)>0 by omega),cond_true,show (N:Int)-((k+1:Nat):Int)=(N:Int)-(k:Int)-1 by omega],by
   obtain ⟨h1,h2,h3⟩:=dline_all (⟨r1.b,s.2⟩:l51Rd)
   have h2:s.2≤(F86 (⟨r1.b,s.2⟩:l51Rd)).2:=h2
   have h3:(F86 (⟨r1.b,s.2⟩:l51Rd)).2≤s.2+9:=h3
   exact ⟨try_cq _ _ hs.1 h1,by have:=hs.2.1; show r≤(F86 (⟨r1.b,s.2⟩:l51Rd)).2; omega,by have:=hs.2.2; show (F86 (⟨r1.b,s.2⟩:l51Rd)).2≤r+9*((k+1:Nat):Int); omega⟩⟩)
  (fun s hs=>by
   simp only [F51_s0]
   rw [decide_eq_false (by omega),cond_false]) N 0 (xs,r) (by omega) ⟨h,by show r≤r; omega,by show r≤r+9*((0:Nat):Int); omega⟩ (Int.toNat ((N:Int)-0)+1) (by omega)
 rcases h with ⟨s',e1,h1,h2,h3⟩ | ⟨_,_,hr⟩
 ·refine ⟨s'.1,s'.2,?_,h1,h2,h3⟩
  rw [show (N:Int)-((0:Nat):Int)=(N:Int) by omega,show (N:Int)-(N:Int)=0 by omega] at e1
  exact e1
 ·exact hr.elim
theorem conf_j0 (r1:l51Rd):∃ out,F51_j0 r1=Lp.done out∧CQ out:=by
 unfold F51_j0
 cases decide ((F48 (⟨r1.b,r1.p⟩:l51Rd) 3).1>0)
 ·exact ⟨_,rfl,cq_base⟩
 ·exact ⟨_,rfl,try_cq _ _ cq_base (szLe (lit_le _) (by decide))⟩
theorem conf_j1 (r1:l51Rd) (out:List ByteArray) (h:CQ out):∃ out1 r2,F51_j1 r1 out=Lp.done (out1,r2)∧CQ out1∧r1.p≤r2∧r2≤r1.p+3:=by
 unfold F51_j1
 cases decide ((F48 (⟨r1.b,(F48 (⟨r1.b,r1.p⟩:l51Rd) 3).2⟩:l51Rd) 3).1>0)
 ·refine ⟨_,_,rfl,h,?_,?_⟩ <;> (simp only [pick_p]; omega)
 ·refine ⟨_,_,rfl,try_cq _ _ h (szLe (app_le (lit_le _) (of_le (n:=80) _ _ (by decide))) (by decide)),?_,?_⟩ <;> (simp only [of_p,pick_p]; omega)
theorem conf_j2 (r1:l51Rd) (out out1:List ByteArray) (r2:Int) (h:CQ out1):∃ out2,F51_j2 r1 out out1 r2=Lp.done out2∧CQ out2:=by
 unfold F51_j2
 cases ((F48 (⟨r1.b,r2⟩:l51Rd) 3).1==0)
 ·exact ⟨_,rfl,h⟩
 ·exact ⟨_,rfl,try_cq _ _ h (szLe (lit_le _) (by decide))⟩
theorem conf_j3 (r1:l51Rd) (out out1:List ByteArray) (r2:Int) (out2:List ByteArray) (h0:0≤r2) (h1:r2≤900000000):∃ N:Nat,F51_j3 r1 out out1 r2 out2=Lp.done (N:Int)∧N≤40:=by
 unfold F51_j3
 cases ((F48 (⟨r1.b,(F48 (⟨r1.b,(F48 (⟨r1.b,r2⟩:l51Rd) 3).2⟩:l51Rd) 7).2⟩:l51Rd) 9).1==0)
 ·obtain ⟨k1,k2,k3⟩:=pick_in (⟨r1.b,(F48 (⟨r1.b,r2⟩:l51Rd) 3).2⟩:l51Rd) 7 (by simp only [pick_p]; omega) (by simp only [pick_p]; omega)
  have k2:=k2 (by decide)
  refine ⟨((F48 (⟨r1.b,(F48 (⟨r1.b,r2⟩:l51Rd) 3).2⟩:l51Rd) 7).1).toNat,?_,by omega⟩
  rw [Int.toNat_of_nonneg k1]; rfl
 ·exact ⟨40,rfl,Nat.le_refl _⟩
theorem conf_q (r1:l51Rd) (h0:0≤r1.p) (h1:r1.p≤800000000):CQ (F51 r1).1∧0≤(F51 r1).2∧(F51 r1).2≤r1.p+400:=by
 obtain ⟨out,e0,c0⟩:=conf_j0 r1
 obtain ⟨out1,r2,e1,c1,p1,p2⟩:=conf_j1 r1 out c0
 obtain ⟨out2,e2,c2⟩:=conf_j2 r1 out out1 r2 c1
 obtain ⟨N,e3,hN⟩:=conf_j3 r1 out out1 r2 out2 (by omega) (by omega)
 obtain ⟨ys,r',e4,c4,p3,p4⟩:=conf_loop r1 out out1 r2 out2 (N:Int) N out2 (F48 (⟨r1.b,(F48 (⟨r1.b,(F48 (⟨r1.b,r2⟩:l51Rd) 3).2⟩:l51Rd) 7).2⟩:l51Rd) 9).2 c2
 unfold F51
 rw [e0]
 simp only [Lp.fin]
 rw [e1]
 simp only [Lp.fin]
 rw [e2]
 simp only [Lp.fin]
 rw [e3]
 simp only [Lp.fin]
 rw [e4]
 simp only [pick_p] at p3 p4
 refine ⟨c4,?_,?_⟩
 ·show 0≤r'; omega
 ·show r'≤r1.p+400; omega
theorem kc80a (list:List ByteArray) {K_:Prop} (p0_:list.length≤1000000000) (k_:K_):(list.length≤1000000000)∧(Imp (.l 1 eStr list) (.l 1 eStr list))∧K_:=⟨p0_,Imp.refl _,k_⟩
abbrev kh80a (list:List ByteArray):Hint true Tryz.prog:=.call 80 (S80 list list) (oa80 list) none
def F72_j2 (r1:l51Rd) (lines:List ByteArray) (out:List ByteArray) (n:Int) (r2:Int):Lp (List ByteArray) (List ByteArray×Int) :=
 bif (decide ((F99 out (F14 (F86 ⟨r1.b,(F48 ⟨r1.b,r2⟩ 3).2⟩).1))≥0)) then (.done (F68 out (F99 out (F14 (F86 ⟨r1.b,(F48 ⟨r1.b,r2⟩ 3).2⟩).1)))) else (.done out)
def F72_s0 (r1:l51Rd) (lines:List ByteArray):(List ByteArray×Int×Int)→Lp (List ByteArray×Int×Int) (List ByteArray×Int):=fun (out,n,r2) =>
 bif (decide (n>0)) then (bif (bif ((F48 ⟨r1.b,r2⟩ 3).1==0) then decide ((out.length:Int)>0) else false) then (.next ((F68 out (F48 ⟨r1.b,(F48 ⟨r1.b,r2⟩ 3).2⟩ (out.length:Int)).1),(n-1),(F48 ⟨r1.b,(F48 ⟨r1.b,r2⟩ 3).2⟩ (out.length:Int)).2)) else ((F72_j2 r1 lines out n r2).fin Lp.ret (fun out1=>bif (decide ((out1.length:Int)<16)) then (.next ((F79 out1 (F86 ⟨r1.b,(F48 ⟨r1.b,r2⟩ 3).2⟩).1),(n-1),(F86 ⟨r1.b,(F48 ⟨r1.b,r2⟩ 3).2⟩).2)) else (.next (out1,(n-1),(F86 ⟨r1.b,(F48 ⟨r1.b,r2⟩ 3).2⟩).2))))) else (.done (out,n,r2))
def F72 (r1:l51Rd) (lines:List ByteArray):List ByteArray×Int :=
 (runL (F72_s0 r1 lines) ((Int.toNat ((F48 ⟨r1.b,r1.p⟩ 4).1-0))+1) (lines,(F48 ⟨r1.b,r1.p⟩ 4).1,(F48 ⟨r1.b,r1.p⟩ 4).2)).fin (fun r=>r) (fun (out,n,r2)=>(out,r2))
abbrev jI72_2 (r1X:SV) (r1:l51Rd) (lines:List ByteArray) (out:List ByteArray) (n:Int) (r2:Int) (out1:List ByteArray):Prop:=LQ out1∧True
abbrev jJ72_2 (r1X:SV) (r1:l51Rd) (lines:List ByteArray) (out:List ByteArray) (n:Int) (r2:Int) (j:List ByteArray):Prop:=(F72_j2 r1 lines out n r2)=Lp.done j∧jI72_2 r1X r1 lines out n r2 j
theorem jn72_2 (r1X:SV) (r1:l51Rd) (lines:List ByteArray) (out:List ByteArray) (n:Int) (r2:Int) (out1:List ByteArray) (e:(F72_j2 r1 lines out n r2)=Lp.done out1) (h:jI72_2 r1X r1 lines out n r2 out1):∃ j:List ByteArray,((.int .i64 n:Value)=.int .i64 n)∧((.string (F86 ⟨r1.b,(F48 ⟨r1.b,r2⟩ 3).2⟩).1:Value)=.string (F86 ⟨r1.b,(F48 ⟨r1.b,r2⟩ 3).2⟩).1)∧((.int .i64 (F86 ⟨r1.b,(F48 ⟨r1.b,r2⟩ 3).2⟩).2:Value)=.int .i64 (F86 ⟨r1.b,(F48 ⟨r1.b,r2⟩ 3).2⟩).2)∧((sv r1X:Value)=sv r1X)∧(Imp (.l 1 eByte r1.b) (.l 1 eByte r1.b))∧(Imp (.l 1 eStr out1) (.l 1 eStr j))∧jJ72_2 r1X r1 lines out n r2 j:=⟨out1,rfl,rfl,rfl,rfl,Imp.refl _,Imp.refl _,e,h⟩
abbrev lN72_0 (r1:l51Rd) (lines:List ByteArray):Nat×(List ByteArray×Int×Int):=(((Int.toNat ((F48 ⟨r1.b,r1.p⟩ 4).1-0))+1),(lines,(F48 ⟨r1.b,r1.p⟩ 4).1,(F48 ⟨r1.b,r1.p⟩ 4).2))
abbrev lI72_0 (r1:l51Rd) (m39:Nat) (out:List ByteArray) (n:Int) (r2:Int):Prop:=Int.toNat (n-0)<m39∧LQ out∧0≤r2∧r2+11*n≤r1.p+50∧n≤3
abbrev lX72_0 (r1:l51Rd) (lines:List ByteArray):Lp (List ByteArray×Int×Int) (List ByteArray×Int):=LpX (F72_s0 r1 lines) (lN72_0 r1 lines)
abbrev lJ72_0 (r1:l51Rd) (lines:List ByteArray) (i:Nat×(List ByteArray×Int×Int)):Prop:=LpJ (F72_s0 r1 lines) (lN72_0 r1 lines) i (lI72_0 r1 i.1 i.2.1 i.2.2.1 i.2.2.2)
abbrev lH72_0 (r1:l51Rd) (lines:List ByteArray) (i:Nat×(List ByteArray×Int×Int)) (m39:Nat) (out:List ByteArray) (n:Int) (r2:Int):Prop:=LpH (F72_s0 r1 lines) (lN72_0 r1 lines) i m39 (out,n,r2) (lI72_0 r1 (m39+1) out n r2)
abbrev lE72_0 (r1X:SV) (r1:l51Rd) (out:List ByteArray) (n:Int) (r2:Int) (out_:List ByteArray) (n_:Int) (r2_:Int) (K39:Prop):Prop:=((.int .i64 n:Value)=.int .i64 n_)∧((.int .i64 r2:Value)=.int .i64 r2_)∧(Rf (sv r1X))∧(Im (.l 1 eByte r1.b))∧(Imp (.l 1 eStr out) (.l 1 eStr out_))∧K39
theorem un72_0 (r1:l51Rd) (lines:List ByteArray) (i:Nat×(List ByteArray×Int×Int)) (h:lJ72_0 r1 lines i):lH72_0 r1 lines i (i.1-1) i.2.1 i.2.2.1 i.2.2.2:=⟨hd1 h.1 h.2.1,hd3 h.2.1,hd2 h.2.1,h.2.2⟩
theorem bk72_0 (r1X:SV) (r1:l51Rd) (lines:List ByteArray) (i:Nat×(List ByteArray×Int×Int)) (m39:Nat) (out:List ByteArray) (n:Int) (r2:Int) (hl:m39<i.1) (e:runL (F72_s0 r1 lines) m39 (out,n,r2)=lX72_0 r1 lines) (h:lI72_0 r1 m39 out n r2):∃ j:Nat×(List ByteArray×Int×Int),lE72_0 r1X r1 out n r2 j.2.1 j.2.2.1 j.2.2.2 (lJ72_0 r1 lines j∧j.1<i.1):=⟨(m39,(out,n,r2)),rfl,rfl,rfl,Imp.refl _,Imp.refl _,⟨e,h⟩,hl⟩
theorem en72_0 (r1X:SV) (r1:l51Rd) (lines:List ByteArray) (h:LQ lines∧0≤(F48 ⟨r1.b,r1.p⟩ 4).2∧(F48 ⟨r1.b,r1.p⟩ 4).2+11*(F48 ⟨r1.b,r1.p⟩ 4).1≤r1.p+50∧(F48 ⟨r1.b,r1.p⟩ 4).1≤3):lE72_0 r1X r1 lines (F48 ⟨r1.b,r1.p⟩ 4).1 (F48 ⟨r1.b,r1.p⟩ 4).2 lines (F48 ⟨r1.b,r1.p⟩ 4).1 (F48 ⟨r1.b,r1.p⟩ 4).2 (lJ72_0 r1 lines (lN72_0 r1 lines)):=⟨rfl,rfl,rfl,Imp.refl _,Imp.refl _,rfl,Nat.lt_succ_self _,h⟩
def S72 (r1X:SV) (gr1:Nat) (r1:l51Rd) (lines:List ByteArray):Spec:=⟨[.ptg gr1 86 (sv r1X) (.l 1 eByte r1.b) [.v (vI r1.p)] [.v (vI (F72 r1 lines).2)],.r (.c (.l 1 eStr lines))],.ow (.l 1 eStr (F72 r1 lines).1),0≤r1.p∧r1.p≤800000000∧r1.b.length≤2000∧LQ lines⟩
theorem ok72 (r1X:SV) (gr1:Nat) (r1:l51Rd) (lines:List ByteArray):(S72 r1X gr1 r1 lines).ok Tryz.prog 72 :=
 fnG_ok mixed (fn:=Tryz.f72) (ct:=.seqk [(0,0),(1,0)] .no (.seq (.reg [(1,kh80a lines)]) (.seq (.seqk [(0,0),(5,0)] (.reg [(1,kh48l r1X 0 r1.b r1.p 4)]) (.blk (.loop (ι:=Nat×(List ByteArray×Int×Int)) (fun i=>(fun (out:List ByteArray) (n:Int) (r2:Int)=>(⟨[(0,some (.p 0 0)),(5,some (.h 2 0)),(6,some (.v (vI n)))],[(0,some (.box 86 [.h 1 0,.v (vI r2)])),(1,some (.vl (sv r1X) (.l 1 eByte r1.b))),(2,some (.own 2 (.l 1 eStr out)))],3⟩:St)) i.2.1 i.2.2.1 i.2.2.2) (lJ72_0 r1 lines) (fun i=>i.1) (lN72_0 r1 lines) (fun i=>(fun (out:List ByteArray) (n:Int) (r2:Int)=>(.seq (.seq .no (.cond .no .no)) (.seq (.blk (.seq (.seq (.reg [(1,kh48l r1X 1 r1.b r2 3)]) (.cond (.seq (.reg [(4,kh48l r1X 1 r1.b (F48 ⟨r1.b,r2⟩ 3).2 (out.length:Int)),(5,.call 68 (S68 out (F48 ⟨r1.b,(F48 ⟨r1.b,r2⟩ 3).2⟩ (out.length:Int)).1) (ok68 out (F48 ⟨r1.b,(F48 ⟨r1.b,r2⟩ 3).2⟩ (out.length:Int)).1) none)]) .no) .no)) (.seq (.reg [(1,kh86l r1X 1 r1.b (F48 ⟨r1.b,r2⟩ 3).2)]) (.seq (.reg [(2,.call 14 (S14 (F86 ⟨r1.b,(F48 ⟨r1.b,r2⟩ 3).2⟩).1) (ok14 (F86 ⟨r1.b,(F48 ⟨r1.b,r2⟩ 3).2⟩).1) none),(3,.call 99 (S99 out (F14 (F86 ⟨r1.b,(F48 ⟨r1.b,r2⟩ 3).2⟩).1)) (ok99 out (F14 (F86 ⟨r1.b,(F48 ⟨r1.b,r2⟩ 3).2⟩).1)) none)]) (.cut (ι:=List ByteArray) (fun j=>(fun (out1:List ByteArray)=>(⟨[(0,some (.p 0 0)),(5,some (.h 2 0)),(6,some (.v (vI n))),(7,some (.v (.string (F86 ⟨r1.b,(F48 ⟨r1.b,r2⟩ 3).2⟩).1)))],[(0,some (.box 86 [.h 1 0,.v (vI (F86 ⟨r1.b,(F48 ⟨r1.b,r2⟩ 3).2⟩).2)])),(1,some (.vl (sv r1X) (.l 1 eByte r1.b))),(2,some (.own 2 (.l 1 eStr out1)))],3⟩:St)) j) (jJ72_2 r1X r1 lines out n r2) (.seq .no (.cond (.reg [(2,.call 68 (S68 out (F99 out (F14 (F86 ⟨r1.b,(F48 ⟨r1.b,r2⟩ 3).2⟩).1))) (ok68 out (F99 out (F14 (F86 ⟨r1.b,(F48 ⟨r1.b,r2⟩ 3).2⟩).1))) none)]) .no)) (fun j=>(fun (out1:List ByteArray)=>(.seq .no (.cond (.reg [(2,.call 79 (S79 out1 (F86 ⟨r1.b,(F48 ⟨r1.b,r2⟩ 3).2⟩).1) (ok79 out1 (F86 ⟨r1.b,(F48 ⟨r1.b,r2⟩ 3).2⟩).1) none)]) .no))) j)))))) (.reg [(1,.bnd)])))) i.2.1 i.2.2.1 i.2.2.2)))) (.seq .no .no)))) Tryz.func72 (fun (hp:0≤r1.p∧r1.p≤800000000∧r1.b.length≤2000∧LQ lines)=>have hpre0:=hp.1; have hpre1:=hp.2.1; have hpre2:=hp.2.2.1; have hpre3:=hp.2.2.2; kn r1.b fun _=>kn lines fun _=>kc80a lines (by (have h9:=lq_len (by assumption:LQ lines); omega)) (kc48l r1X r1.b r1.p 4 (by omega) (by omega) (by omega) (by omega) (by omega) (fun gv1=>have gv2:(F48 ⟨r1.b,r1.p⟩ 4).1<(4:Int):=(by exact pick_lt _ _ _ (by omega) (by omega) (by omega)); kn r1.b fun _=>kn lines fun _=>ai (en72_0 r1X r1 lines (by refine ⟨?_,?_,?_,?_⟩ <;> omega)) (fun (i0:Nat×(List ByteArray×Int×Int)) (hi0:lJ72_0 r1 lines i0)=>(fun (m0:Nat) (out:List ByteArray) (n:Int) (r2:Int) (hh0:lH72_0 r1 lines i0 m0 out n r2)=>have hI0:=hh0.1; have hl0:=hh0.2.1; have _:=hh0.2.2.1; have _:=hh0.2.2.2.1; have _:=hh0.2.2.2.2.1; have _:=hh0.2.2.2.2.2.1; have _:=hh0.2.2.2.2.2.2; ifd (n>0) (fun h4 _=>kc48l r1X r1.b r2 3 (by omega) (by omega) (by omega) (by omega) (by omega) (fun gv5=>have gv6:(F48 ⟨r1.b,r2⟩ 3).1<(3:Int):=(by exact pick_lt _ _ _ (by omega) (by omega) (by omega)); ifb (bif ((F48 ⟨r1.b,r2⟩ 3).1==0) then decide ((out.length:Int)>0) else false) (fun h7=>have _:=eq_of_beq (andT1 h7); have _:=of_decide_eq_true (andT2 h7); kc48l r1X r1.b (F48 ⟨r1.b,r2⟩ 3).2 (out.length:Int) (by omega) (by omega) (by omega) (by omega) (by omega) (fun gv8=>have gv9:(F48 ⟨r1.b,(F48 ⟨r1.b,r2⟩ 3).2⟩ (out.length:Int)).1<(out.length:Int):=(by exact pick_lt _ _ _ (by omega) (by omega) (by omega)); ai (ai (by omega:0≤(F48 ⟨r1.b,(F48 ⟨r1.b,r2⟩ 3).2⟩ (out.length:Int)).1) (ai (by omega:(F48 ⟨r1.b,(F48 ⟨r1.b,r2⟩ 3).2⟩ (out.length:Int)).1<(out.length:Int)) (by (have h9:=lq_len (by assumption:LQ out); omega):out.length≤1048576))) (ai (Imp.refl (.l 1 eStr out)) (ai (Imp.refl (.v (vI (F48 ⟨r1.b,(F48 ⟨r1.b,r2⟩ 3).2⟩ (out.length:Int)).1))) (have gv10:(F68 out (F48 ⟨r1.b,(F48 ⟨r1.b,r2⟩ 3).2⟩ (out.length:Int)).1).length+1=out.length:=without_len out (F48 ⟨r1.b,(F48 ⟨r1.b,r2⟩ 3).2⟩ (out.length:Int)).1 (by omega:0≤(F48 ⟨r1.b,(F48 ⟨r1.b,r2⟩ 3).2⟩ (out.length:Int)).1) (by omega:(F48 ⟨r1.b,(F48 ⟨r1.b,r2⟩ 3).2⟩ (out.length:Int)).1<(out.length:Int)) (by (have h9:=lq_len (by assumption:LQ out); omega):out.length≤1048576); have gv11:∀ q:Nat,((F68 out (F48 ⟨r1.b,(F48 ⟨r1.b,r2⟩ 3).2⟩ (out.length:Int)).1).getD q default).size≤1048576:=without_sz out (F48 ⟨r1.b,(F48 ⟨r1.b,r2⟩ 3).2⟩ (out.length:Int)).1 (by exact lq_sz (by assumption):∀ q:Nat,(out.getD q default).size≤1048576); ai (iok (n-1) (by omega)) (bk72_0 r1X r1 lines i0 m0 (F68 out (F48 ⟨r1.b,(F48 ⟨r1.b,r2⟩ 3).2⟩ (out.length:Int)).1) (n-1) (F48 ⟨r1.b,(F48 ⟨r1.b,r2⟩ 3).2⟩ (out.length:Int)).2 hl0 (runL_next hI0 (condT h4 (condT h7 rfl))) (by refine ⟨?_,?_,?_,?_,?_⟩ <;> first | omega | (simp only [lens,ib] at*<;> omega) | omega | assumption | exact without_lq (by assumption) (by omega) (by omega) | exact without_lq (by assumption) (by omega) (key_lt _ _) | exact put_lq (by assumption) (by omega) (by omega) | exact cq_lq (And.left (by assumption)) | exact And.left (by assumption)))))))) (fun h7=>kc86l r1X r1.b (F48 ⟨r1.b,r2⟩ 3).2 (by omega) (by omega) (by omega) (by omega) (by omega) (fun gv12=>ai (by omega:(F86 ⟨r1.b,(F48 ⟨r1.b,r2⟩ 3).2⟩).1.size≤1048576) (ai (Imp.refl (.v (.string (F86 ⟨r1.b,(F48 ⟨r1.b,r2⟩ 3).2⟩).1))) (ai (by exact lq_sz (by assumption):∀ k:Nat,(out.getD k default).size≤1048576) (ai (Imp.refl (.l 1 eStr out)) (ai (Imp.refl (.v (.string (F14 (F86 ⟨r1.b,(F48 ⟨r1.b,r2⟩ 3).2⟩).1)))) (ai (ifd ((F99 out (F14 (F86 ⟨r1.b,(F48 ⟨r1.b,r2⟩ 3).2⟩).1))≥0) (fun h13 _=>ai (ai (by omega:0≤(F99 out (F14 (F86 ⟨r1.b,(F48 ⟨r1.b,r2⟩ 3).2⟩).1))) (ai (by exact key_lt _ _:(F99 out (F14 (F86 ⟨r1.b,(F48 ⟨r1.b,r2⟩ 3).2⟩).1))<(out.length:Int)) (by (have h9:=lq_len (by assumption:LQ out); omega):out.length≤1048576))) (ai (Imp.refl (.l 1 eStr out)) (ai (Imp.refl (.v (vI (F99 out (F14 (F86 ⟨r1.b,(F48 ⟨r1.b,r2⟩ 3).2⟩).1))))) (have gv14:(F68 out (F99 out (F14 (F86 ⟨r1.b,(F48 ⟨r1.b,r2⟩ 3).2⟩).1))).length+1=out.length:=without_len out (F99 out (F14 (F86 ⟨r1.b,(F48 ⟨r1.b,r2⟩ 3).2⟩).1)) (by omega:0≤(F99 out (F14 (F86 ⟨r1.b,(F48 ⟨r1.b,r2⟩ 3).2⟩).1))) (by exact key_lt _ _:(F99 out (F14 (F86 ⟨r1.b,(F48 ⟨r1.b,r2⟩ 3).2⟩).1))<(out.length:Int)) (by (have h9:=lq_len (by assumption:LQ out); omega):out.length≤1048576); have gv15:∀ q:Nat,((F68 out (F99 out (F14 (F86 ⟨r1.b,(F48 ⟨r1.b,r2⟩ 3).2⟩).1))).getD q default).size≤1048576:=without_sz out (F99 out (F14 (F86 ⟨r1.b,(F48 ⟨r1.b,r2⟩ 3).2⟩).1)) (by exact lq_sz (by assumption):∀ q:Nat,(out.getD q default).size≤1048576); jn72_2 r1X r1 lines out n r2 (F68 out (F99 out (F14 (F86 ⟨r1.b,(F48 ⟨r1.b,r2⟩ 3).2⟩).1))) (Eq.symm (condT h13 rfl)) (by refine ⟨?_,?_⟩ <;> first | exact trivial | omega | (simp only [lens,ib] at*<;> omega) | omega | assumption | exact without_lq (by assumption) (by omega) (by omega) | exact without_lq (by assumption) (by omega) (key_lt _ _) | exact put_lq (by assumption) (by omega) (by omega) | exact cq_lq (And.left (by assumption)) | exact And.left (by assumption)))))) (fun h13 _=>jn72_2 r1X r1 lines out n r2 out (Eq.symm (condF h13 rfl)) (by refine ⟨?_,?_⟩ <;> (simp only [lens,ib] at*<;> omega)))) (fun (j:List ByteArray) (hj:jJ72_2 r1X r1 lines out n r2 j)=>(fun (out1:List ByteArray) (hJ2_16:(F72_j2 r1 lines out n r2)=Lp.done out1) (hw:jI72_2 r1X r1 lines out n r2 out1)=>have _:=hw.1; ifd ((out1.length:Int)<16) (fun h17 _=>ai (ai (by omega:out1.length≤1048576) (by exact lq_sz (by assumption):∀ k:Nat,(out1.getD k default).size≤1048576)) (ai (Imp.refl (.l 1 eStr out1)) (ai (Imp.refl (.v (.string (F86 ⟨r1.b,(F48 ⟨r1.b,r2⟩ 3).2⟩).1))) (have gv18:(F79 out1 (F86 ⟨r1.b,(F48 ⟨r1.b,r2⟩ 3).2⟩).1).length=out1.length+1:=put_len out1 (F86 ⟨r1.b,(F48 ⟨r1.b,r2⟩ 3).2⟩).1; have gv19:∀ k:Nat,((F79 out1 (F86 ⟨r1.b,(F48 ⟨r1.b,r2⟩ 3).2⟩).1).getD k default).size≤1048576:=put_sz out1 (F86 ⟨r1.b,(F48 ⟨r1.b,r2⟩ 3).2⟩).1 (by exact lq_sz (by assumption):∀ k:Nat,(out1.getD k default).size≤1048576) (by omega:(F86 ⟨r1.b,(F48 ⟨r1.b,r2⟩ 3).2⟩).1.size≤1048576); ai (iok (n-1) (by omega)) (bk72_0 r1X r1 lines i0 m0 (F79 out1 (F86 ⟨r1.b,(F48 ⟨r1.b,r2⟩ 3).2⟩).1) (n-1) (F86 ⟨r1.b,(F48 ⟨r1.b,r2⟩ 3).2⟩).2 hl0 (runL_next hI0 (condT h4 (condF h7 (finD hJ2_16 (condT h17 rfl))))) (by refine ⟨?_,?_,?_,?_,?_⟩ <;> first | omega | (simp only [lens,ib] at*<;> omega) | omega | assumption | exact without_lq (by assumption) (by omega) (by omega) | exact without_lq (by assumption) (by omega) (key_lt _ _) | exact put_lq (by assumption) (by omega) (by omega) | exact cq_lq (And.left (by assumption)) | exact And.left (by assumption))))))) (fun h17 _=>ai (iok (n-1) (by omega)) (bk72_0 r1X r1 lines i0 m0 out1 (n-1) (F86 ⟨r1.b,(F48 ⟨r1.b,r2⟩ 3).2⟩).2 hl0 (runL_next hI0 (condT h4 (condF h7 (finD hJ2_16 (condF h17 rfl))))) (by refine ⟨?_,?_,?_,?_,?_⟩ <;> omega)))) j hj.1 hj.2)))))))))) (fun h4 _=>have hD0_20:lX72_0 r1 lines=Lp.done (out,n,r2):=runL_done hI0 (condF h4 rfl); (fun hF:(out,r2)=(F72 r1 lines)=>ai (Imp.of_eq (congrArg (fun r:List ByteArray×Int=>Dat.l 1 eStr r.1) hF)) (ai (ai (Imp.refl (Dat.v (sv r1X))) (ai (Imp.of_eq (congrArg (fun r:List ByteArray×Int=>Dat.v (vI r.2)) hF)) trivial)) trivial)) (finD hD0_20 rfl))) (i0.1-1) i0.2.1 i0.2.2.1 i0.2.2.2 (un72_0 r1 lines i0 hi0))))) (by kernel_rfl)
theorem kc51l (X_:SV) (b_:List Int) (pp_:Int) {K_:Prop} (p0_:0≤pp_) (p1_:pp_≤800000000) (p2_:b_.length≤2000) (q0_:0≤pp_) (q1_:pp_≤800000000) (k_:(CQ (F51 ⟨b_,pp_⟩).1∧0≤(F51 ⟨b_,pp_⟩).2∧(F51 ⟨b_,pp_⟩).2≤pp_+400)→K_):(0≤pp_∧pp_≤800000000∧b_.length≤2000)∧(sv X_=sv X_)∧(Imp (.l 1 eByte b_) (.l 1 eByte b_))∧(Imps ([.v (vI pp_)]) ([.v (vI pp_)]))∧K_:=⟨⟨p0_,p1_,p2_⟩,rfl,Imp.refl _,Imps.refl _,k_ (conf_q (⟨b_,pp_⟩:l51Rd) q0_ q1_)⟩
abbrev kh51l (X_:SV) (g_:Nat) (b_:List Int) (pp_:Int):Hint true Tryz.prog:=.call 51 (S51 X_ g_ (⟨b_,pp_⟩:l51Rd)) (ok51 X_ g_ (⟨b_,pp_⟩:l51Rd)) none
theorem lq_without_key {xs:List ByteArray} (h:LQ xs) (key:ByteArray):LQ (bif decide (F99 xs key≥0) then F68 xs (F99 xs key) else xs):=by
 by_cases hk:F99 xs key≥0
 ·rw [decide_eq_true hk]; exact without_lq h hk (key_lt _ _)
 ·rw [decide_eq_false hk]; exact h
theorem near_j2 (r1:l51Rd) (lines out:List ByteArray) (n r2:Int) (h:LQ out):∃ out1,F72_j2 r1 lines out n r2=Lp.done out1∧LQ out1:=by
 have hq:=lq_without_key h (F14 ((F86 (⟨r1.b,(F48 (⟨r1.b,r2⟩:l51Rd) 3).2⟩:l51Rd)).1))
 unfold F72_j2
 cases hc:decide (F99 out (F14 ((F86 (⟨r1.b,(F48 (⟨r1.b,r2⟩:l51Rd) 3).2⟩:l51Rd)).1))≥0)
 ·rw [hc] at hq; exact ⟨_,rfl,hq⟩
 ·rw [hc] at hq; exact ⟨_,rfl,hq⟩
theorem near_step (r1:l51Rd) (lines out:List ByteArray) (n r2:Int) (hn:n>0) (h:LQ out) (h0:0≤r2) (h1:r2≤900000000):∃ out' r',F72_s0 r1 lines (out,n,r2)=.next (out',n-1,r')∧LQ out'∧r2≤r'∧r'≤r2+11:=by
 simp only [F72_s0]
 rw [decide_eq_true hn,cond_true]
 cases hc:(bif ((F48 (⟨r1.b,r2⟩:l51Rd) 3).1==0) then decide ((out.length:Int)>0) else false) with
 | true =>
  have hl:(out.length:Int)>0:=by
   cases hp:((F48 (⟨r1.b,r2⟩:l51Rd) 3).1==0) with
   | true=>rw [hp,cond_true] at hc; exact of_decide_eq_true hc
   | false=>rw [hp] at hc; cases hc
  obtain ⟨k1,k2,k3⟩:=pick_in (⟨r1.b,(F48 (⟨r1.b,r2⟩:l51Rd) 3).2⟩:l51Rd) (out.length:Int) (by simp only [pick_p]; omega) (by simp only [pick_p]; omega)
  rw [cond_true]
  refine ⟨_,_,rfl,without_lq h k1 (k2 (by omega)),?_,?_⟩ <;> (simp only [pick_p]; omega)
 | false =>
  rw [cond_false]
  obtain ⟨out1,e1,q1⟩:=near_j2 r1 lines out n r2 h
  rw [e1]
  simp only [Lp.fin]
  obtain ⟨z1,z2,z3⟩:=dline_all (⟨r1.b,(F48 (⟨r1.b,r2⟩:l51Rd) 3).2⟩:l51Rd)
  simp only [pick_p] at z2 z3
  by_cases hl:(out1.length:Int)<16
  ·rw [decide_eq_true hl,cond_true]
   refine ⟨_,_,rfl,put_lq q1 (by omega) z1,?_,?_⟩ <;> (simp only [pick_p] at z2 z3 ⊢; omega)
  ·rw [decide_eq_false hl,cond_false]
   refine ⟨_,_,rfl,q1,?_,?_⟩ <;> (simp only [pick_p] at z2 z3 ⊢; omega)
theorem down_loop {ρ:Type} (c:Int) (step:List ByteArray×Int×Int→Lp (List ByteArray×Int×Int) ρ) (B:Int)
  (h1:∀ out n r,n>0→LQ out→0≤r→r≤B→∃ out' r',step (out,n,r)=.next (out',n-1,r')∧LQ out'∧r≤r'∧r'≤r+c)
  (h2:∀ out r,step (out,0,r)=.done (out,0,r)):∀ (N:Nat) (xs:List ByteArray) (r:Int),LQ xs→0≤r→0≤c→r+c*N≤B→∀ M,N<M→∃ ys r',runL step M (xs,(N:Int),r)=.done (ys,0,r')∧LQ ys∧r≤r'∧r'≤r+c*N
 | _,_,_,_,_,_,_,0,hM=>absurd hM (Nat.not_lt_zero _)
 | 0,xs,r,h,h0,hc,hB,M+1,hM=>⟨xs,r,runL_d _ (h2 xs r),h,by omega,by simp⟩
 | N+1,xs,r,h,h0,hc,hB,M+1,hM=>by
  have e:c*((N+1:Nat):Int)=c*(N:Int)+c:=by rw [Int.natCast_succ,Int.mul_add,Int.mul_one]
  have hcN:0≤c*(N:Int):=Int.mul_nonneg hc (by omega)
  obtain ⟨out',r',e1,q1,q2,q3⟩:=h1 xs ((N+1:Nat):Int) r (by omega) h h0 (by omega)
  obtain ⟨ys,r'',e2,k1,k2,k3⟩:=down_loop c step B h1 h2 N out' r' q1 (by omega) hc (by omega) M (by omega)
  refine ⟨ys,r'',?_,k1,by omega,by omega⟩
  rw [show ((N+1:Nat):Int)-1=(N:Int) by omega] at e1
  rw [runL_n _ e1]
  exact e2
theorem pick_nat (r1:l51Rd) (n:Int) (h0:0≤r1.p) (h1:r1.p≤1000000000) (hn:1≤n):∃ N:Nat,(F48 r1 n).1=(N:Int)∧(N:Int)<n:=by
 obtain ⟨k1,k2,k3⟩:=pick_in r1 n h0 h1
 exact ⟨((F48 r1 n).1).toNat,(Int.toNat_of_nonneg k1).symm,by have:=k2 hn; omega⟩
theorem near_q (r1:l51Rd) (lines:List ByteArray) (h0:0≤r1.p) (h1:r1.p≤800000000) (h:LQ lines):LQ (F72 r1 lines).1∧0≤(F72 r1 lines).2∧(F72 r1 lines).2≤r1.p+60:=by
 obtain ⟨N,e0,hN⟩:=pick_nat (⟨r1.b,r1.p⟩:l51Rd) 4 h0 (by show r1.p≤_; omega) (by decide)
 unfold F72
 rw [e0]
 obtain ⟨ys,r',e1,q1,q2,q3⟩:=down_loop 11 (F72_s0 r1 lines) 900000000 (fun out n r hn hq a b=>near_step r1 lines out n r hn hq a b) (fun out r=>by simp only [F72_s0]; rfl) N lines (F48 (⟨r1.b,r1.p⟩:l51Rd) 4).2 h (by simp only [pick_p]; omega) (by decide) (by simp only [pick_p]; omega) (Int.toNat ((N:Int)-0)+1) (by omega)
 rw [e1]
 simp only [pick_p] at q2 q3
 exact ⟨q1,by show 0≤r'; omega,by show r'≤r1.p+60; omega⟩
end Go.Proofs.YtabmhncnckahfaaGreatDoor
