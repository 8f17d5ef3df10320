/- The statement of FnLabNever: for all arguments the law returns true, without further conditions. Texts put together: PD1, VD2, PD2, VN1, PN1, VN2, PN2, VN3, PN3, VN4, PN4, VN5, PN5, VN6, PN6, VNQ, PNQ, PTQ, PJ1, PJ4, PTV, VSV, PSV, PJ2, PNV1, PNV2, VNV0, PNV3, VNV, PNV, C17. -/
import Derived.Test.YtmiolofjlfnohaaRows
import Derived.Test.YtmiolofjlfnohaaZC17D
namespace Go.Proofs.Ytmiolofjlfnohaa
open Go.RowKit
set_option maxRecDepth 100000
set_option linter.unusedVariables false
set_option linter.unusedSimpArgs false
theorem stopAt_congr {p q:Nat→Bool} {n:Nat} (h:∀ k,k<n→p k=q k):stopAt p n=stopAt q n:=by
 unfold stopAt
 rw [first_congr (p:=fun k=>!(p k)) (q:=fun k=>!(q k)) fun k hk=>by rw [h k hk]]
def LOk (boxes:Int) (l:Qg):Prop:=0≤l.A∧l.A<l.B∧l.B<boxes
def lkey (l:Qg):Int:=l.A*16+l.B
structure LinksOk (boxes:Int) (t:List Qg):Prop where
 ok:∀ l∈t,LOk boxes l
 inc:t.Pairwise (fun a b=>lkey a<lkey b)
theorem LinksOk.nil (boxes:Int):LinksOk boxes []:=⟨fun l hl=>(by cases hl),List.Pairwise.nil⟩
theorem lessL_key {boxes:Int} (hb:boxes≤8) {x l:Qg} (hx:LOk boxes x) (hl:LOk boxes l):lessL x l=decide (lkey x<lkey l):=by
 unfold LOk at hx hl
 unfold lessL lkey
 rw [Bool.eq_iff_iff]
 simp only [Bool.cond_true_left,Bool.cond_false_right,Bool.or_eq_true,Bool.and_eq_true,decide_eq_true_eq,beq_iff_eq]
 omega
theorem lkey_inj {boxes:Int} (hb:boxes≤8) {x l:Qg} (hx:LOk boxes x) (hl:LOk boxes l) (h:lkey x=lkey l):x=l:=by
 unfold LOk at hx hl
 unfold lkey at h
 obtain ⟨a,b⟩:=x
 obtain ⟨c,d⟩:=l
 simp only at hx hl h
 have h1:a=c:=by omega
 have h2:b=d:=by omega
 rw [h1,h2]
theorem put_ok {boxes:Int} (hb:boxes≤8) {t:List Qg} {l:Qg} (h:LinksOk boxes t) (hl:LOk boxes l):LinksOk boxes (F124 t l):=by
 rw [putLink_eq]
 cases hc:(bif decide (posL t l<t.length) then decide (t.getD (posL t l) default=l) else false) with
 | true=>exact h
 | false =>
  rw [cond_false]
  have hpos:posL t l=stopAt (fun k=>decide (lkey (t.getD k default)<lkey l)) t.length:=stopAt_congr fun k hk=>lessL_key hb (h.ok _ (getD_mem t hk)) hl
  have hput:t.take (posL t l)++[l]++t.drop (posL t l)=putK lkey t l:=by rw [hpos]; rfl
  rw [hput]
  refine ⟨fun x hx=>?_,putK_inc lkey t l h.inc fun a ha he=>?_⟩
  ·rcases putK_mem.1 hx with hx | rfl
   ·exact h.ok x hx
   ·exact hl
  ·have hal:=lkey_inj hb (h.ok a ha) hl he
   subst hal
   obtain ⟨k,hk,rfl⟩:=mem_getD ha
   have hle:=posL_le t (t.getD k default)
   rcases Nat.lt_or_ge k (posL t (t.getD k default)) with h1 | h1
   ·have:=stopAt_lt (p:=fun j=>decide (lkey (t.getD j default)<lkey (t.getD k default))) (n:=t.length) (k:=k) (by rw [← hpos]; exact h1)
    simp at this
   ·have h2:posL t (t.getD k default)<t.length:=by omega
    have h3:=stopAt_at (p:=fun j=>decide (lkey (t.getD j default)<lkey (t.getD k default))) (n:=t.length) (by rw [← hpos]; exact h2)
    rw [← hpos] at h3
    have h3:=of_decide_eq_false h3
    rcases Nat.lt_or_ge (posL t (t.getD k default)) k with h4 | h4
    ·have h5:=List.pairwise_iff_getElem.1 h.inc _ _ h2 hk h4
     rw [← getD_lt t h2,← getD_lt t hk] at h5
     omega
    ·have h5:posL t (t.getD k default)=k:=by omega
     rw [h5,decide_eq_true hk,cond_true,decide_eq_false_iff_not] at hc
     exact hc rfl
theorem links_ok (r1:l71Rd) (boxes:Int) (h0:0≤r1.p) (h1:r1.p≤900000000) (hb0:1≤boxes) (hb:boxes≤8) :
  LinksOk boxes (F111 r1 boxes).1∧(F111 r1 boxes).1.length≤14∧r1.p≤(F111 r1 boxes).2∧(F111 r1 boxes).2≤r1.p+40:=by
 unfold F111
 obtain ⟨out,r2,e0,k1,k2,k3,k4⟩:∃ out r2,F111_j0 r1 boxes=.done (out,r2)∧LinksOk boxes out∧out.length≤8∧r1.p≤r2∧r2≤r1.p+8:=by
  unfold F111_j0
  have h:=runL_rule (step:=F111_s0 r1 boxes) (fun (k:Nat) (s:List Qg×Int)=>(s.1,(k:Int),s.2)) (boxes-1).toNat (fun k s=>LinksOk boxes s.1∧s.1.length≤k∧s.2=r1.p+k) (fun _=>False)
   (fun k s hk ⟨i1,i2,i3⟩=>by
    have hd:decide ((k:Int)+1<boxes)=true:=decide_eq_true (by omega)
    have hp:(F39 (⟨r1.b,s.2⟩:l71Rd) 12).2=r1.p+((k+1:Nat):Int):=by rw [pick_p]; show s.2+1=_; rw [i3]; omega
    have hl:=putLink_len s.1 (⟨(k:Int),(k:Int)+1⟩:Qg)
    have ho:=put_ok hb (l:=(⟨(k:Int),(k:Int)+1⟩:Qg)) i1 (by unfold LOk; simp only; omega)
    simp only [F111_s0,hd,cond_true]
    cases decide ((F39 (⟨r1.b,s.2⟩:l71Rd) 12).1>0) with
    | true=>exact .inl ⟨(F124 s.1 (⟨(k:Int),(k:Int)+1⟩:Qg),(F39 (⟨r1.b,s.2⟩:l71Rd) 12).2),rfl,ho,by simp only; omega,hp⟩
    | false=>exact .inl ⟨(s.1,(F39 (⟨r1.b,s.2⟩:l71Rd) 12).2),rfl,i1,by simp only; omega,hp⟩)
   (fun s _=>by
    have hd:decide (((boxes-1).toNat:Int)+1<boxes)=false:=decide_eq_false (by omega)
    simp only [F111_s0,hd,cond_false]) (boxes-1).toNat 0 ([],r1.p) (by omega) ⟨LinksOk.nil _,Nat.le_refl _,by simp⟩ ((boxes-1).toNat+1) (by omega)
  have e1:Int.toNat (boxes-(0+1))+1=(boxes-1).toNat+1:=by omega
  rw [e1]
  rcases h with ⟨s,h,i1,i2,i3⟩ | ⟨_,_,h⟩
  ·have h':runL (F111_s0 r1 boxes) ((boxes-1).toNat+1) ([],0,r1.p)=_:=h
   rw [h']
   exact ⟨s.1,s.2,rfl,i1,by omega,by omega,by omega⟩
  ·exact h.elim
 rw [e0]
 simp only [Lp.fin]
 obtain ⟨out2,e1,k5,k6⟩:∃ out2,F111_j1 r1 boxes out r2=.done out2∧LinksOk boxes out2∧out2.length≤9:=by
  unfold F111_j1
  cases hc:(bif decide (boxes>2) then decide ((F39 (⟨r1.b,r2⟩:l71Rd) 3).1>0) else false) with
  | true =>
   have h2:boxes>2:=by
    cases h2:decide (boxes>2) with
    | true=>exact of_decide_eq_true h2
    | false=>rw [h2] at hc; cases hc
   have hl:=putLink_len out (⟨0,boxes-1⟩:Qg)
   exact ⟨_,rfl,put_ok hb k1 (by unfold LOk; simp only; omega),by omega⟩
  | false=>exact ⟨_,rfl,k1,by omega⟩
 rw [e1]
 simp only [Lp.fin]
 have hc1:=cond_1 (decide (boxes>2)) r2
 have hq:(bif decide (boxes>2) then (F39 (⟨r1.b,r2⟩:l71Rd) 3).2 else r2)=(bif decide (boxes>2) then r2+1 else r2):=by rw [pick_p]
 rw [hq]
 generalize (bif decide (boxes>2) then r2+1 else r2)=q at hc1
 have hn:=pick_in (⟨r1.b,q⟩:l71Rd) 5 (by show 0≤q; omega) (by show q≤_; omega)
 obtain ⟨s',h,i1,_⟩:=runL_meas (step:=F111_s1 r1 boxes out r2 out2) (fun s=>LinksOk boxes s.1∧s.1.length≤14∧0≤s.2.1∧r1.p≤s.2.2∧s.2.2+2*s.2.1≤r1.p+30) (fun s=>Int.toNat s.2.1) (fun _=>True)
  (fun s ⟨i1,i2,i3,i4,i5⟩=>by
   obtain ⟨o3,n,r4⟩:=s
   simp only at i1 i2 i3 i4 i5
   simp only [F111_s1]
   cases hc:(bif decide (n>0) then decide (boxes>1) else false) with
   | false=>exact .inl ⟨rfl,trivial⟩
   | true =>
    simp only [Bool.cond_false_right,Bool.and_eq_true,decide_eq_true_eq] at hc
    refine .inr ?_
    have p1:=pick_in (⟨r1.b,r4⟩:l71Rd) (boxes-1) (by show 0≤r4; omega) (by show r4≤_; omega)
    generalize F39 (⟨r1.b,r4⟩:l71Rd) (boxes-1)=P at p1
    obtain ⟨a,r5⟩:=P
    simp only at p1
    have p2:=pick_in (⟨r1.b,r5⟩:l71Rd) (boxes-1-a) (by show 0≤r5; omega) (by show r5≤_; omega)
    simp only [cond_true]
    generalize F39 (⟨r1.b,r5⟩:l71Rd) (boxes-1-a)=Q at p2
    obtain ⟨b,r6⟩:=Q
    simp only at p2
    cases hd:decide ((o3.length:Int)<14) with
    | true =>
     have hd:=of_decide_eq_true hd
     have hl:=putLink_len o3 (⟨a,a+1+b⟩:Qg)
     exact ⟨(F124 o3 (⟨a,a+1+b⟩:Qg),n-1,r6),rfl,⟨put_ok hb i1 (by unfold LOk; simp only; omega),by simp only; omega,by simp only; omega,by simp only; omega,by simp only; omega⟩,by simp only; omega⟩
    | false=>exact ⟨(o3,n-1,r6),rfl,⟨i1,i2,by simp only; omega,by simp only; omega,by simp only; omega⟩,by simp only; omega⟩)
  (Int.toNat (F39 (⟨r1.b,q⟩:l71Rd) 5).1+1) (out2,(F39 (⟨r1.b,q⟩:l71Rd) 5).1,(F39 (⟨r1.b,q⟩:l71Rd) 5).2)
  ⟨k5,by simp only; omega,hn.1,by rw [pick_p]; show _≤q+1; omega,by
   rw [pick_p]
   have:=hn.2.1 (by omega)
   show q+1+2*(F39 (⟨r1.b,q⟩:l71Rd) 5).1≤r1.p+30
   omega⟩ (by simp only; omega)
 rw [h]
 obtain ⟨o3,n',r4'⟩:=s'
 obtain ⟨j1,j2,j3,j4,j5⟩:=i1
 simp only at j1 j2 j3 j4 j5
 exact ⟨j1,j2,j4,by simp only [Lp.fin]; omega⟩
theorem links_b (r1:l71Rd) (boxes:Int) (h0:0≤r1.p) (h1:r1.p≤900000000) (hb0:1≤boxes) (hb:boxes≤8):(F111 r1 boxes).1.length≤14∧r1.p≤(F111 r1 boxes).2∧(F111 r1 boxes).2≤r1.p+40 :=
 (links_ok r1 boxes h0 h1 hb0 hb).2
theorem in_eq (list:List Int) (n:Int):F98 list n=decide (n∈list):=by
 unfold F98
 rw [← mem_idx,← any_idx,search (fun k=>decide (n=list.getD k default)) (fun _=>true) list.length _ (fun k hk=>by simp only [F98_s0,ltD hk,cond_true,nn,beqD,eq_comm]) (by simp [F98_s0])]
 unfold idxI
 all_goals (cases first (fun k=>decide (n=list.getD k default)) list.length <;> simp [oix])
theorem nodup_le:∀ (N:Nat) (l:List Nat),l.Nodup→(∀ x∈l,x<N)→l.length≤N
 | 0,l,_,h=>by
  cases l with
  | nil=>exact Nat.le_refl _
  | cons x l=>exact absurd (h x List.mem_cons_self) (Nat.not_lt_zero _)
 | N+1,l,hn,h=>by
  by_cases hm:N∈l
  ·have h1:=nodup_le N (l.erase N) (hn.erase N) fun x hx=>by
    have:=(hn.mem_erase_iff).1 hx
    have:=h x this.2
    omega
   rw [List.length_erase_of_mem hm] at h1
   omega
  ·have h1:=nodup_le N l hn fun x hx=>by
    have:=h x hx
    have:x≠N:=fun e=>hm (e ▸ hx)
    omega
   omega
structure PathI (n:Qe) (p:List Int):Prop where
 one:1≤p.length
 rng:∀ x∈p,0≤x∧x<(n.Qa.length:Int)
 nod:p.Nodup
 lnk:∀ i,i+1<p.length→0≤Qt n (p.getD i default) (p.getD (i+1) default)
theorem PathI.ok {n:Qe} {p:List Int} (h:PathI n p) (h2:2≤p.length):PathOk n p:=by
 have hr:∀ i,i<p.length→0≤p.getD i default∧p.getD i default<(n.Qa.length:Int):=fun i hi=>h.rng _ (getD_mem p hi)
 have hinj:∀ i j,i<p.length→j<p.length→p.getD i default=p.getD j default→i=j:=fun i j hi hj e=>by
  rw [getD_lt p hi,getD_lt p hj] at e
  rcases Nat.lt_trichotomy i j with hij | hij | hij
  ·exact absurd e (List.pairwise_iff_getElem.1 h.nod i j hi hj hij)
  ·exact hij
  ·exact absurd e.symm (List.pairwise_iff_getElem.1 h.nod j i hj hi hij)
 refine ⟨h2,?_,hr,h.lnk,hinj⟩
 have hn:(p.map Int.toNat).Nodup:=by
  refine List.pairwise_iff_getElem.2 fun i j hi hj hij e=>?_
  simp only [List.length_map] at hi hj
  simp only [List.getElem_map] at e
  have a:=hr i hi; have b:=hr j hj
  have:=hinj i j hi hj (by rw [getD_lt p hi,getD_lt p hj] at *; omega)
  omega
 have:=nodup_le n.Qa.length _ hn fun x hx=>by
  obtain ⟨y,hy,rfl⟩:=List.mem_map.1 hx
  have:=h.rng y hy
  omega
 simpa using this
theorem getD_app {α:Type} [Inhabited α] (xs:List α) (x:α) (k:Nat):(xs++[x]).getD k default=if k<xs.length then xs.getD k default else if k=xs.length then x else default:=by
 rw [List.getD_eq_getElem?_getD]
 split
 ·rename_i h
  rw [List.getElem?_append_left h,List.getD_eq_getElem?_getD]
 ·rename_i h
  rw [List.getElem?_append_right (by omega)]
  split
  ·rename_i h2; rw [h2,Nat.sub_self]; rfl
  ·rename_i h2
   rw [List.getElem?_eq_none (by simp; omega)]; rfl
theorem PathI.snoc {n:Qe} (hf:FrameOk n) {p:List Int} (h:PathI n p) {x:Int} (hl:0≤Qt n (p.getD (p.length-1) default) x) (hx:x ∉ p):PathI n (p++[x]):=by
 have h1:=linkOf_in hf hl
 have ho:=h.one
 refine ⟨by simp,fun y hy=>?_,?_,fun i hi=>?_⟩
 ·rcases List.mem_append.1 hy with hy | hy
  ·exact h.rng y hy
  ·simp only [List.mem_singleton] at hy
   subst hy
   exact ⟨h1.2.2.1,h1.2.2.2.1⟩
 ·refine List.nodup_append.2 ⟨h.nod,by simp,fun a ha b hb e=>?_⟩
  simp only [List.mem_singleton] at hb
  subst hb; subst e
  exact hx ha
 ·simp only [List.length_append,List.length_singleton] at hi
  rw [getD_app,getD_app,if_pos (by omega)]
  by_cases hi2:i+1<p.length
  ·rw [if_pos hi2]; exact h.lnk i hi2
  ·rw [if_neg hi2,if_pos (by omega)]
   have e:i=p.length-1:=by omega
   rw [e]; exact hl
theorem path_to (r1:l71Rd) (n:Qe) (h8:n.Qa.length≤8) (h1:1≤n.Qa.length) (at':Int) (out:List Int) (k r2:Int) (h0:0≤r2) (h2:r2≤1000000000):∃ to',F60_j2 r1 n at' out k r2=.done to':=by
 unfold F60_j2
 obtain ⟨s',h,_,_⟩:=runL_meas (step:=F60_s1 r1 n at' out k r2) (fun _=>True) (fun s=>Int.toNat ((n.Qa.length:Int)-s.2)) (fun _=>True)
  (fun s _=>by
   obtain ⟨t,i⟩:=s
   simp only [F60_s1]
   cases hc:(bif decide (i<(n.Qa.length:Int)) then (bif decide ((Qt n at' t)<0) then true else (F98 out t)) else false) with
   | false=>exact .inl ⟨rfl,trivial⟩
   | true =>
    have hi:i<(n.Qa.length:Int):=by
     cases hi:decide (i<(n.Qa.length:Int)) with
     | true=>exact of_decide_eq_true hi
     | false=>rw [hi] at hc; cases hc
    exact .inr ⟨_,rfl,trivial,by simp only; omega⟩)
  (Int.toNat ((n.Qa.length:Int)-0)+1) ((F39 (⟨r1.b,r2⟩:l71Rd) (n.Qa.length:Int)).1,0) trivial (by simp only; omega)
 rw [h]
 exact ⟨_,rfl⟩
theorem path_ok (r1:l71Rd) (n:Qe) (hf:FrameOk n) (h0:0≤r1.p) (h1:r1.p≤900000000):PathI n (F60 r1 n).1∧r1.p≤(F60 r1 n).2∧(F60 r1 n).2≤r1.p+10:=by
 have b1:=hf.b1
 have b8:=hf.b8
 unfold F60
 have hb:((n.Qa.length:Int)==0)=false:=by rw [beqD]; exact decide_eq_false (by omega)
 rw [hb,cond_false]
 have p1:=pick_in (⟨r1.b,r1.p⟩:l71Rd) (n.Qa.length:Int) h0 (by show r1.p≤_; omega)
 generalize F39 (⟨r1.b,r1.p⟩:l71Rd) (n.Qa.length:Int)=A at p1 ⊢
 obtain ⟨a,q1⟩:=A
 simp only at p1 ⊢
 have p2:=pick_in (⟨r1.b,q1⟩:l71Rd) 6 (by show 0≤q1; omega) (by show q1≤_; omega)
 generalize F39 (⟨r1.b,q1⟩:l71Rd) 6=B at p2 ⊢
 obtain ⟨k,q2⟩:=B
 simp only at p2 ⊢
 have hk:=p2.2.1 (by omega)
 have hstart:PathI n [a]:=⟨Nat.le_refl _,fun x hx=>by
  simp only [List.mem_singleton] at hx
  subst hx; exact ⟨p1.1,p1.2.1 (by omega)⟩,by simp,fun i hi=>by simp at hi⟩
 have key:∀ (m:Nat) (at':Int) (out:List Int) (k r2:Int),PathI n out→out.getD (out.length-1) default=at'→0≤k→q2≤r2→r2+k≤r1.p+9→Int.toNat k<m →
   ∀ F:List Int×Int,(runL (F60_s0 r1 n) m (at',out,k,r2)).fin (fun r=>r) (fun (at',out,k,r2)=>(out,r2))=F→PathI n F.1∧r1.p≤F.2∧F.2≤r1.p+10:=by
  intro m
  induction m with
  | zero=>intro at' out k r2 _ _ _ _ _ h; exact absurd h (Nat.not_lt_zero _)
  | succ m ih =>
   intro at' out k r2 hp hl hk0 hr1 hr2 hm F hF
   simp only [runL,F60_s0] at hF
   by_cases hk:k>0
   ·rw [decide_eq_true hk,cond_true] at hF
    obtain ⟨t,ht⟩:=path_to r1 n b8 b1 at' out k r2 (by omega) (by omega)
    rw [ht] at hF
    simp only [Lp.fin,pick_p] at hF
    cases hc:(bif decide ((Qt n at' t)<0) then true else (F98 out t)) with
    | true =>
     rw [hc] at hF
     simp only [cond_true,Lp.fin] at hF
     subst hF
     exact ⟨hp,by simp only; omega,by simp only; omega⟩
    | false =>
     rw [hc] at hF
     simp only [cond_false] at hF
     have hlk:¬ Qt n at' t<0:=fun h=>by rw [decide_eq_true h] at hc; cases hc
     have hin:t ∉ out:=fun h=>by
      rw [decide_eq_false hlk,cond_false,in_eq,decide_eq_true h] at hc; cases hc
     exact ih t (out++[t]) (k-1) (r2+1) (hp.snoc hf (by rw [hl]; omega) hin) (by rw [getD_app]; simp) (by omega) (by omega) (by omega) (by omega) F hF
   ·rw [decide_eq_false hk,cond_false] at hF
    simp only [Lp.fin] at hF
    subst hF
    exact ⟨hp,by simp only; omega,by simp only; omega⟩
 exact key (Int.toNat (2+k-0)+1) a [a] (2+k) q2 hstart rfl (by omega) (by omega) (by omega) (by omega) _ rfl
theorem PathI.len {n:Qe} (hf:FrameOk n) {p:List Int} (h:PathI n p):p.length≤8:=by
 by_cases h2:2≤p.length
 ·have:=(h.ok h2).most
  have:=hf.b8
  omega
 ·omega
theorem path_to2 (r1:l71Rd) (n:Qe) (h8:n.Qa.length≤1000) (h1:1≤n.Qa.length) (at':Int) (out:List Int) (k r2:Int) (h0:0≤r2) (h2:r2≤1000000000):∃ to',F60_j2 r1 n at' out k r2=.done to'∧0≤to'∧to'<(n.Qa.length:Int):=by
 unfold F60_j2
 have p1:=pick_in (⟨r1.b,r2⟩:l71Rd) (n.Qa.length:Int) h0 h2
 obtain ⟨s',h,i1,_⟩:=runL_meas (step:=F60_s1 r1 n at' out k r2) (fun s=>0≤s.1∧s.1<(n.Qa.length:Int)) (fun s=>Int.toNat ((n.Qa.length:Int)-s.2)) (fun _=>True)
  (fun s ⟨i1,i2⟩=>by
   obtain ⟨t,i⟩:=s
   simp only at i1 i2
   simp only [F60_s1]
   cases hc:(bif decide (i<(n.Qa.length:Int)) then (bif decide ((Qt n at' t)<0) then true else (F98 out t)) else false) with
   | false=>exact .inl ⟨rfl,trivial⟩
   | true =>
    have hi:i<(n.Qa.length:Int):=by
     cases hi:decide (i<(n.Qa.length:Int)) with
     | true=>exact of_decide_eq_true hi
     | false=>rw [hi] at hc; cases hc
    have e:IntKind.i64.wrap (t+1)=t+1:=wrap_of (by omega) (by omega)
    have ht:=tmod_in (a:=t+1) (n:=(n.Qa.length:Int)) (by omega)
    refine .inr ⟨(_,_),rfl,⟨?_,?_⟩,by simp only; omega⟩
    ·simp only [e]; exact ht.1
    ·simp only [e]; exact ht.2 (by omega))
  (Int.toNat ((n.Qa.length:Int)-0)+1) ((F39 (⟨r1.b,r2⟩:l71Rd) (n.Qa.length:Int)).1,0) ⟨p1.1,p1.2.1 (by omega)⟩ (by simp only; omega)
 rw [h]
 exact ⟨_,rfl,i1⟩
theorem path_q (r1:l71Rd) (n:Qe) (h0:0≤r1.p) (h1:r1.p≤900000000) (h8:n.Qa.length≤1000):r1.p≤(F60 r1 n).2∧(F60 r1 n).2≤r1.p+10∧(F60 r1 n).1.length≤8 ∧
  (1≤n.Qa.length→1≤(F60 r1 n).1.length∧0≤(F60 r1 n).1.getD (((F60 r1 n).1.length:Int)-1).toNat default∧(F60 r1 n).1.getD (((F60 r1 n).1.length:Int)-1).toNat default<(n.Qa.length:Int)):=by
 unfold F60
 by_cases b1:1≤n.Qa.length
 rotate_left
 ·have hb:((n.Qa.length:Int)==0)=true:=by rw [beqD]; exact decide_eq_true (by omega)
  rw [hb,cond_true]
  exact ⟨by simp only; omega,by simp only; omega,by simp,fun h=>absurd h b1⟩
 have hb:((n.Qa.length:Int)==0)=false:=by rw [beqD]; exact decide_eq_false (by omega)
 rw [hb,cond_false]
 have p1:=pick_in (⟨r1.b,r1.p⟩:l71Rd) (n.Qa.length:Int) h0 (by show r1.p≤_; omega)
 generalize F39 (⟨r1.b,r1.p⟩:l71Rd) (n.Qa.length:Int)=A at p1 ⊢
 obtain ⟨a,q1⟩:=A
 simp only at p1 ⊢
 have p2:=pick_in (⟨r1.b,q1⟩:l71Rd) 6 (by show 0≤q1; omega) (by show q1≤_; omega)
 generalize F39 (⟨r1.b,q1⟩:l71Rd) 6=B at p2 ⊢
 obtain ⟨k,q2⟩:=B
 simp only at p2 ⊢
 have hk:=p2.2.1 (by omega)
 have key:∀ (m:Nat) (at':Int) (out:List Int) (k r2:Int),1≤out.length→(out.length:Int)+k≤8→out.getD (out.length-1) default=at'→0≤at'→at'<(n.Qa.length:Int)→0≤k→q2≤r2→r2+k≤r1.p+9→Int.toNat k<m →
   ∀ F:List Int×Int,(runL (F60_s0 r1 n) m (at',out,k,r2)).fin (fun r=>r) (fun (at',out,k,r2)=>(out,r2))=F→r1.p≤F.2∧F.2≤r1.p+10∧F.1.length≤8∧1≤F.1.length∧0≤F.1.getD (F.1.length-1) default∧F.1.getD (F.1.length-1) default<(n.Qa.length:Int):=by
  intro m
  induction m with
  | zero=>intro at' out k r2 _ _ _ _ _ _ _ _ h; exact absurd h (Nat.not_lt_zero _)
  | succ m ih =>
   intro at' out k r2 ho hok hl ha0 ha1 hk0 hr1 hr2 hm F hF
   simp only [runL,F60_s0] at hF
   by_cases hk:k>0
   ·rw [decide_eq_true hk,cond_true] at hF
    obtain ⟨t,ht,t0,t1⟩:=path_to2 r1 n h8 b1 at' out k r2 (by omega) (by omega)
    rw [ht] at hF
    simp only [Lp.fin,pick_p] at hF
    cases hc:(bif decide ((Qt n at' t)<0) then true else (F98 out t)) with
    | true =>
     rw [hc] at hF
     simp only [cond_true,Lp.fin] at hF
     subst hF
     simp only [hl]
     omega
    | false =>
     rw [hc] at hF
     simp only [cond_false] at hF
     exact ih t (out++[t]) (k-1) (r2+1) (by simp) (by simp only [List.length_append,List.length_cons,List.length_nil]; omega) (by rw [getD_app]; simp) t0 t1 (by omega) (by omega) (by omega) (by omega) F hF
   ·rw [decide_eq_false hk,cond_false] at hF
    simp only [Lp.fin] at hF
    subst hF
    simp only [hl]
    omega
 have:=key (Int.toNat (2+k-0)+1) a [a] (2+k) q2 (by simp) (by simp only [List.length_cons,List.length_nil]; omega) rfl p1.1 (p1.2.1 (by omega)) (by omega) (by omega) (by omega) (by omega) _ rfl
 obtain ⟨c1,c2,c3,c4,c5,c6⟩:=this
 refine ⟨c1,c2,c3,fun _=>⟨c4,?_,?_⟩⟩
 ·rw [show ∀ x:Nat,Int.toNat ((x:Int)-1)=x-1 from fun x=>by omega]; exact c5
 ·rw [show ∀ x:Nat,Int.toNat ((x:Int)-1)=x-1 from fun x=>by omega]; exact c6
def F110 (boxes:Int) (links:List Qg):Qe×Bool :=
 bif (!(decide (1≤boxes∧boxes≤8))) then ((⟨[],[]⟩:Qe),false) else (bif (!(F48 ⟨links,(List.replicate boxes.toNat ((⟨[],[]⟩:Qi):Qi))⟩)) then ((⟨[],[]⟩:Qe),false) else ((⟨links,(List.replicate boxes.toNat ((⟨[],[]⟩:Qi):Qi))⟩:Qe),true))
def S110 (boxes:Int) (links:List Qg):Spec:=⟨[.r (.c (.v (vI boxes))),.r (.c (.l 2 Qh links))],.tu [.ag [.ow (.l 2 Qh (F110 boxes links).1.Qb),.ow (.l 2 Qj (F110 boxes links).1.Qa)],.v (.bool (F110 boxes links).2)],links.length≤1000000000⟩
abbrev q110_1 (boxes:Int):=(List.replicate boxes.toNat ((⟨[],[]⟩:Qi):Qi))
abbrev q110_2 (links:List Qg) (boxes:Int):=(⟨links,(q110_1 boxes)⟩:Qe)
theorem ok110 (boxes:Int) (links:List Qg):(S110 boxes links).ok Try.prog 110 :=
 fnG_ok mixed (fn:=Try.f110) (ct:=.seqk [(1,0)] (.no) (.seq (.seq (.reg [(1,.call 43 (S43 (decide (1≤boxes∧boxes≤8)) boxes 1 8) (oa43 boxes 1 8) none)]) (.cond (.seq (.no) (.no)) (.no))) (.seq (.reg [(2,.dat (.l 2 Qj (q110_1 boxes)))]) (.seq (.seq (.reg [(1,.call 48 (S48 (q110_2 links boxes)) (ok48 (q110_2 links boxes)) none)]) (.cond (.seq (.no) (.no)) (.no))) (.seq (.reg [(1,.call 67 (S67 (q110_2 links boxes) (q110_2 links boxes)) (oa67 (q110_2 links boxes)) none)]) (.no)))))) Try.func110 (fun (hpre0:links.length≤1000000000)=>fun (_:links.length≤9223372036854775807)=>ai (trivial) (ai ((Imp.refl (.v (vI boxes)))) (ai ((Imp.refl (.v (vI 1)))) (ai ((Imp.refl (.v (vI 8)))) (ai (fun h1:(!(decide (1≤boxes∧boxes≤8)))=true=>(fun _:¬ (1≤boxes∧boxes≤8)=>(fun hF:((⟨[],[]⟩:Qe),false)=(F110 boxes links)=>ai ((Imp.nil 2 Qh).trans (Imp.of_eq (congrArg (fun r:Qe×Bool=>Dat.l 2 Qh r.1.Qb) hF))) (ai ((Imp.nil 2 Qj).trans (Imp.of_eq (congrArg (fun r:Qe×Bool=>Dat.l 2 Qj r.1.Qa) hF))) (ai (congrArg (fun r:Qe×Bool=>(.bool r.2:Value)) hF) (trivial)))) (condT h1 (rfl))) (of_decide_eq_false (notET h1))) (fun h1:(!(decide (1≤boxes∧boxes≤8)))=false=>(fun _:1≤boxes∧boxes≤8=>ai ((by first | omega | (simp only [lens] at*<;> omega):0≤boxes∧boxes≤boxes∧(48:Int)*boxes≤281474976710656)) (ai ((MakeOK.mk Qj ((⟨[],[]⟩:Qi):Qi) (by exact ai (Imp.nil _ _) (ai (Imp.nil _ _) (trivial))):MakeOK 2 [.v (.slice none 0 0),.v (.slice none 0 0)] boxes.toNat (.l 2 Qj (q110_1 boxes)))) (ai (trivial) (ai ((Imps.refl (Qf (q110_2 links boxes)))) (ai (fun h2:(!(F48 (q110_2 links boxes)))=true=>(fun hF:((⟨[],[]⟩:Qe),false)=(F110 boxes links)=>ai ((Imp.nil 2 Qh).trans (Imp.of_eq (congrArg (fun r:Qe×Bool=>Dat.l 2 Qh r.1.Qb) hF))) (ai ((Imp.nil 2 Qj).trans (Imp.of_eq (congrArg (fun r:Qe×Bool=>Dat.l 2 Qj r.1.Qa) hF))) (ai (congrArg (fun r:Qe×Bool=>(.bool r.2:Value)) hF) (trivial)))) (condF h1 (condT h2 (rfl)))) (fun h2:(!(F48 (q110_2 links boxes)))=false=>ai ((ai ((by first | omega | ((try simp only [lens]); omega) | (intro k; (try dsimp only); rw [getD_rep _ (⟨[],[]⟩:Qi) rfl]; exact Nat.zero_le _):links.length≤1000000000)) (ai ((by first | omega | ((try simp only [lens]); omega) | (intro k; (try dsimp only); rw [getD_rep _ (⟨[],[]⟩:Qi) rfl]; exact Nat.zero_le _):(q110_1 boxes).length≤1000000000)) (ai ((by first | omega | ((try simp only [lens]); omega) | (intro k; (try dsimp only); rw [getD_rep _ (⟨[],[]⟩:Qi) rfl]; exact Nat.zero_le _):∀ k:Nat,((q110_1 boxes).getD k default).Rows.length≤1000000000)) ((by first | omega | ((try simp only [lens]); omega) | (intro k; (try dsimp only); rw [getD_rep _ (⟨[],[]⟩:Qi) rfl]; exact Nat.zero_le _):∀ k:Nat,((q110_1 boxes).getD k default).Qc.length≤1000000000)))))) (ai ((Imps.refl (Qf (q110_2 links boxes)))) ((fun hF:((q110_2 links boxes),true)=(F110 boxes links)=>ai (Imp.of_eq (congrArg (fun r:Qe×Bool=>Dat.l 2 Qh r.1.Qb) hF)) (ai (Imp.of_eq (congrArg (fun r:Qe×Bool=>Dat.l 2 Qj r.1.Qa) hF)) (ai (congrArg (fun r:Qe×Bool=>(.bool r.2:Value)) hF) (trivial)))) (condF h1 (condF h2 (rfl))))))))))) (of_decide_eq_true (notEF h1)))))))) (by kernel_rfl)
def F72 (r1:l71Rd):Qe×Int :=
 ((F110 (([2,3,4,5,6,8,1]:List Int).getD (F39 ⟨r1.b,r1.p⟩ 7).1.toNat default) (F111 ⟨r1.b,(F39 ⟨r1.b,r1.p⟩ 7).2⟩ (([2,3,4,5,6,8,1]:List Int).getD (F39 ⟨r1.b,r1.p⟩ 7).1.toNat default)).1).1,(F111 ⟨r1.b,(F39 ⟨r1.b,r1.p⟩ 7).2⟩ (([2,3,4,5,6,8,1]:List Int).getD (F39 ⟨r1.b,r1.p⟩ 7).1.toNat default)).2)
def S72 (r1X:SV) (gr1:Nat) (r1:l71Rd):Spec:=⟨[.ptg gr1 104 (sv r1X) (.l 1 eByte r1.b) [.v (vI r1.p)] [.v (vI (F72 r1).2)]],.ag [.ow (.l 2 Qh (F72 r1).1.Qb),.ow (.l 2 Qj (F72 r1).1.Qa)],0≤r1.p∧r1.p≤800000000∧r1.b.length≤2000⟩
abbrev q72_1 (r1:l71Rd):=(([2,3,4,5,6,8,1]:List Int).getD (F39 ⟨r1.b,r1.p⟩ 7).1.toNat default)
abbrev q72_2 (r1:l71Rd):=(⟨r1.b,(F39 ⟨r1.b,r1.p⟩ 7).2⟩:l71Rd)
theorem ok72 (r1X:SV) (gr1:Nat) (r1:l71Rd):(S72 r1X gr1 r1).ok Try.prog 72 :=
 fnG_ok mixed (fn:=Try.f72) (ct:=.seqk [(0,0)] (.no) (.seq (.reg [(0,.dat (.l 1 eInt ([2,3,4,5,6,8,1]:List Int))),(2,.call 39 (S39 r1X 0 (⟨r1.b,r1.p⟩:l71Rd) 7) (ok39 r1X 0 (⟨r1.b,r1.p⟩:l71Rd) 7) none)]) (.seq (.reg [(3,.call 111 (S111 r1X 0 (q72_2 r1) (q72_1 r1)) (ok111 r1X 0 (q72_2 r1) (q72_1 r1)) none),(4,.call 110 (S110 (q72_1 r1) (F111 (q72_2 r1) (q72_1 r1)).1) (ok110 (q72_1 r1) (F111 (q72_2 r1) (q72_1 r1)).1) none)]) (.seq (.no) (.no))))) Try.func72 (fun (hp:0≤r1.p∧r1.p≤800000000∧r1.b.length≤2000)=>(fun (hpre0:0≤r1.p) (hpre1:r1.p≤800000000) (hpre2:r1.b.length≤2000)=>fun (_:r1.b.length≤9223372036854775807)=>ai ((BuildOK.mk eInt ([2,3,4,5,6,8,1]:List Int) rfl (by exact ai ir (ai ir (ai ir (ai ir (ai ir (ai ir (ai ir (trivial)))))))) (fun _=>rfl):BuildOK 7 1 [.v (vI 2),.v (vI 3),.v (vI 4),.v (vI 5),.v (vI 6),.v (vI 8),.v (vI 1)] (.l 1 eInt ([2,3,4,5,6,8,1]:List Int)))) (ai ((ai ((by omega:0≤r1.p)) (ai ((by omega:r1.p≤1000000000)) ((by omega:r1.b.length≤2000))))) (ai ((Eq.refl (sv r1X))) (ai ((Imp.refl (.l 1 eByte r1.b))) (ai ((Imps.refl [.v (vI r1.p)])) (ai ((Imp.refl (.v (vI 7)))) ((fun gv1:0≤((F39 ⟨r1.b,r1.p⟩ 7)).1∧(1≤(7:Int)→((F39 ⟨r1.b,r1.p⟩ 7)).1<(7:Int))∧((F39 ⟨r1.b,r1.p⟩ 7)).2=r1.p+1=>ai ((by first | omega | (simp only [List.length_cons,List.length_nil]; omega):0≤(F39 ⟨r1.b,r1.p⟩ 7).1∧(F39 ⟨r1.b,r1.p⟩ 7).1<(([2,3,4,5,6,8,1]:List Int).length:Int))) (ai ((ai ((by first | omega | exact (tbl7 (by omega) (by omega)).1 | exact (tbl7 (by omega) (by omega)).2:0≤(F39 ⟨r1.b,r1.p⟩ 7).2)) (ai ((by first | omega | exact (tbl7 (by omega) (by omega)).1 | exact (tbl7 (by omega) (by omega)).2:(F39 ⟨r1.b,r1.p⟩ 7).2≤900000000)) (ai ((by first | omega | exact (tbl7 (by omega) (by omega)).1 | exact (tbl7 (by omega) (by omega)).2:r1.b.length≤2000)) (ai ((by first | omega | exact (tbl7 (by omega) (by omega)).1 | exact (tbl7 (by omega) (by omega)).2:1≤(q72_1 r1))) ((by first | omega | exact (tbl7 (by omega) (by omega)).1 | exact (tbl7 (by omega) (by omega)).2:(q72_1 r1)≤8))))))) (ai ((Eq.refl (sv r1X))) (ai ((Imp.refl (.l 1 eByte r1.b))) (ai ((Imps.refl [.v (vI (F39 ⟨r1.b,r1.p⟩ 7).2)])) (ai ((Imp.refl (.v (vI (q72_1 r1))))) ((fun gv2:((F111 (q72_2 r1) (q72_1 r1))).1.length≤14∧(F39 ⟨r1.b,r1.p⟩ 7).2≤((F111 (q72_2 r1) (q72_1 r1))).2∧((F111 (q72_2 r1) (q72_1 r1))).2≤(F39 ⟨r1.b,r1.p⟩ 7).2+40=>ai (((by omega:(F111 (q72_2 r1) (q72_1 r1)).1.length≤1000000000))) (ai ((Imp.refl (.v (vI (q72_1 r1))))) (ai ((Imp.refl (.l 2 Qh (F111 (q72_2 r1) (q72_1 r1)).1))) ((fun hF:((F110 (q72_1 r1) (F111 (q72_2 r1) (q72_1 r1)).1).1,(F111 (q72_2 r1) (q72_1 r1)).2)=(F72 r1)=>ai (Imp.of_eq (congrArg (fun r:Qe×Int=>Dat.l 2 Qh r.1.Qb) hF)) (ai (Imp.of_eq (congrArg (fun r:Qe×Int=>Dat.l 2 Qj r.1.Qa) hF)) (ai (ai (Imp.refl (Dat.v (sv r1X))) (ai (Imp.of_eq (congrArg (fun r:Qe×Int=>Dat.v (vI r.2)) hF)) (trivial))) (trivial)))) (rfl))))) (links_b (q72_2 r1) (q72_1 r1) (by first | omega | exact (tbl7 (by omega) (by omega)).1 | exact (tbl7 (by omega) (by omega)).2:0≤(F39 ⟨r1.b,r1.p⟩ 7).2) (by first | omega | exact (tbl7 (by omega) (by omega)).1 | exact (tbl7 (by omega) (by omega)).2:(F39 ⟨r1.b,r1.p⟩ 7).2≤900000000) (by first | omega | exact (tbl7 (by omega) (by omega)).1 | exact (tbl7 (by omega) (by omega)).2:1≤(q72_1 r1)) (by first | omega | exact (tbl7 (by omega) (by omega)).1 | exact (tbl7 (by omega) (by omega)).2:(q72_1 r1)≤8))))))))) (pick_in ⟨r1.b,r1.p⟩ 7 (by omega:0≤r1.p) (by omega:r1.p≤1000000000))))))))) hp.1 hp.2.1 hp.2.2) (by kernel_rfl)
theorem frame_links {boxes:Int} {t:List Qg} (h:LinksOk boxes t) (hl:t.length≤14) (h1:1≤boxes) (h8:boxes≤8):FrameOk ⟨t,List.replicate boxes.toNat (⟨[],[]⟩:Qi)⟩:=by
 refine ⟨by simp only [List.length_replicate]; omega,by simp only [List.length_replicate]; omega,hl,fun k hk=>?_,fun k hk=>?_⟩
 ·have:=h.ok _ (getD_mem t hk)
  unfold LOk at this
  simp only [List.length_replicate]
  omega
 ·have a:=h.ok _ (getD_mem t (show k<t.length from Nat.lt_of_succ_lt hk))
  have b:=h.ok _ (getD_mem t hk)
  have c:=pair_inc h.inc k hk
  unfold LOk at a b
  unfold lkey at c
  simp only
  omega
theorem bare_net {boxes:Int} {t:List Qg} (h:LinksOk boxes t) (hl:t.length≤14) (h1:1≤boxes) (h8:boxes≤8):Qv ⟨t,List.replicate boxes.toNat (⟨[],[]⟩:Qi)⟩:=by
 refine ⟨frame_links h hl h1 h8,fun i hi=>?_⟩
 have e:(List.replicate boxes.toNat (⟨[],[]⟩:Qi)).getD i default=⟨[],[]⟩:=getD_rep _ _ rfl i
 refine ⟨fun k hk=>?_,fun k hk=>?_,fun k hk=>?_,fun k hk=>?_⟩ <;>
  ·simp only at hk
   rw [e] at hk
   exact absurd hk (by simp)
theorem bare_ok (r1:l71Rd) (h0:0≤r1.p) (h1:r1.p≤800000000):Qv (F72 r1).1∧(∀ i:Nat,(F72 r1).1.Qa.getD i default=(⟨[],[]⟩:Qi))∧r1.p≤(F72 r1).2∧(F72 r1).2≤r1.p+50:=by
 unfold F72
 have p1:=pick_in (⟨r1.b,r1.p⟩:l71Rd) 7 h0 (by show r1.p≤_; omega)
 generalize F39 (⟨r1.b,r1.p⟩:l71Rd) 7=A at p1 ⊢
 obtain ⟨a,q1⟩:=A
 simp only at p1 ⊢
 have hb:=tbl7 p1.1 (p1.2.1 (by omega))
 generalize ([2,3,4,5,6,8,1]:List Int).getD a.toNat default=boxes at hb ⊢
 obtain ⟨l1,l2,l3,l4⟩:=links_ok (⟨r1.b,q1⟩:l71Rd) boxes (by show 0≤q1; omega) (by show q1≤_; omega) hb.1 hb.2
 generalize F111 (⟨r1.b,q1⟩:l71Rd) boxes=L at l1 l2 l3 l4 ⊢
 obtain ⟨t,q2⟩:=L
 simp only at l1 l2 l3 l4 ⊢
 have hn:=bare_net l1 l2 hb.1 hb.2
 have hf:F48 (⟨t,List.replicate boxes.toNat (⟨[],[]⟩:Qi)⟩:Qe)=true:=frame_ok.2 hn.frame
 unfold F110
 rw [decide_eq_true hb,hf]
 simp only [Bool.not_true,cond_false]
 exact ⟨hn,fun i=>getD_rep _ _ rfl i,by omega,by omega⟩
theorem bare_n (r1:l71Rd) (h0:0≤r1.p) (h1:r1.p≤800000000):Qv (F72 r1).1:=(bare_ok r1 h0 h1).1
theorem bare_b (r1:l71Rd) (h0:0≤r1.p) (h1:r1.p≤800000000):1≤(F72 r1).1.Qa.length∧(F72 r1).1.Qa.length≤8∧r1.p≤(F72 r1).2∧(F72 r1).2≤r1.p+50:=by
 obtain ⟨a,_,b,c⟩:=bare_ok r1 h0 h1
 exact ⟨a.frame.b1,a.frame.b8,b,c⟩
def F38 (r1:l71Rd) (n:Qe):Int×Int :=
 bif ((F39 ⟨r1.b,r1.p⟩ 20).1==0) then ((([(-1),(n.Qa.length:Int),8]:List Int).getD (F39 ⟨r1.b,(F39 ⟨r1.b,r1.p⟩ 20).2⟩ 3).1.toNat default),(F39 ⟨r1.b,(F39 ⟨r1.b,r1.p⟩ 20).2⟩ 3).2) else ((F39 ⟨r1.b,(F39 ⟨r1.b,r1.p⟩ 20).2⟩ ((n.Qa.length:Int)+0)).1,(F39 ⟨r1.b,(F39 ⟨r1.b,r1.p⟩ 20).2⟩ ((n.Qa.length:Int)+0)).2)
def S38 (r1X:SV) (gr1:Nat) (r1:l71Rd) (n:Qe):Spec:=⟨[.ptg gr1 104 (sv r1X) (.l 1 eByte r1.b) [.v (vI r1.p)] [.v (vI (F38 r1 n).2)],.r (.g (Qf n))],.v (vI (F38 r1 n).1),0≤r1.p∧r1.p≤900000000∧r1.b.length≤2000∧n.Qa.length≤1000000000⟩
abbrev q38_1 (r1:l71Rd):=(F39 ⟨r1.b,r1.p⟩ 20)
abbrev q38_2 (r1:l71Rd):=(⟨r1.b,(q38_1 r1).2⟩:l71Rd)
abbrev q38_3 (n:Qe):=([(-1),(n.Qa.length:Int),8]:List Int)
abbrev q38_4 (r1:l71Rd) (n:Qe):=(F39 (q38_2 r1) ((n.Qa.length:Int)+0))
theorem ok38 (r1X:SV) (gr1:Nat) (r1:l71Rd) (n:Qe):(S38 r1X gr1 r1 n).ok Try.prog 38 :=
 fnG_ok mixed (fn:=Try.f38) (ct:=.seqk [(0,0)] (.no) (.seq (.seq (.reg [(1,.call 39 (S39 r1X 0 (⟨r1.b,r1.p⟩:l71Rd) 20) (ok39 r1X 0 (⟨r1.b,r1.p⟩:l71Rd) 20) none)]) (.cond (.seq (.reg [(3,.dat (.l 1 eInt (q38_3 n))),(5,.call 39 (S39 r1X 0 (q38_2 r1) 3) (ok39 r1X 0 (q38_2 r1) 3) none)]) (.no)) (.no))) (.seq (.reg [(4,.bnd),(5,.call 39 (S39 r1X 0 (q38_2 r1) ((n.Qa.length:Int)+0)) (ok39 r1X 0 (q38_2 r1) ((n.Qa.length:Int)+0)) none)]) (.no)))) Try.func38 (fun (hp:0≤r1.p∧r1.p≤900000000∧r1.b.length≤2000∧n.Qa.length≤1000000000)=>(fun (hpre0:0≤r1.p) (hpre1:r1.p≤900000000) (hpre2:r1.b.length≤2000) (hpre3:n.Qa.length≤1000000000)=>fun (_:r1.b.length≤9223372036854775807)=>ai ((ai ((by omega:0≤r1.p)) (ai ((by omega:r1.p≤1000000000)) ((by omega:r1.b.length≤2000))))) (ai ((Eq.refl (sv r1X))) (ai ((Imp.refl (.l 1 eByte r1.b))) (ai ((Imps.refl [.v (vI r1.p)])) (ai ((Imp.refl (.v (vI 20)))) ((fun gv1:0≤((q38_1 r1)).1∧(1≤(20:Int)→((q38_1 r1)).1<(20:Int))∧((q38_1 r1)).2=r1.p+1=>ai (fun h2:((q38_1 r1).1==0)=true=>(fun _:(q38_1 r1).1=0=>ai ((BuildOK.mk eInt (q38_3 n) rfl (by exact ai ir (ai ir (ai ir (trivial)))) (fun _=>rfl):BuildOK 3 1 [.v (vI (-1)),.v (vI (n.Qa.length:Int)),.v (vI 8)] (.l 1 eInt (q38_3 n)))) (ai ((ai ((by omega:0≤(q38_1 r1).2)) (ai ((by omega:(q38_1 r1).2≤1000000000)) ((by omega:r1.b.length≤2000))))) (ai ((Eq.refl (sv r1X))) (ai ((Imp.refl (.l 1 eByte r1.b))) (ai ((Imps.refl [.v (vI (q38_1 r1).2)])) (ai ((Imp.refl (.v (vI 3)))) ((fun gv3:0≤((F39 (q38_2 r1) 3)).1∧(1≤(3:Int)→((F39 (q38_2 r1) 3)).1<(3:Int))∧((F39 (q38_2 r1) 3)).2=(q38_1 r1).2+1=>ai ((by first | omega | (simp only [List.length_cons,List.length_nil]; omega):0≤(F39 (q38_2 r1) 3).1∧(F39 (q38_2 r1) 3).1<((q38_3 n).length:Int))) ((fun hF:(((q38_3 n).getD (F39 (q38_2 r1) 3).1.toNat default),(F39 (q38_2 r1) 3).2)=(F38 r1 n)=>ai (congrArg (fun r:Int×Int=>(.int .i64 r.1:Value)) hF) (ai (ai (Imp.refl (Dat.v (sv r1X))) (ai (Imp.of_eq (congrArg (fun r:Int×Int=>Dat.v (vI r.2)) hF)) (trivial))) (trivial))) (condT h2 (rfl)))) (pick_in (q38_2 r1) 3 (by omega:0≤(q38_1 r1).2) (by omega:(q38_1 r1).2≤1000000000))))))))) (eq_of_beq h2)) (fun h2:((q38_1 r1).1==0)=false=>(fun _:¬ (q38_1 r1).1=0=>ai ((by unfold i64ok; omega:i64ok ((n.Qa.length:Int)+0))) (ai ((ai ((by omega:0≤(q38_1 r1).2)) (ai ((by omega:(q38_1 r1).2≤1000000000)) ((by omega:r1.b.length≤2000))))) (ai ((Eq.refl (sv r1X))) (ai ((Imp.refl (.l 1 eByte r1.b))) (ai ((Imps.refl [.v (vI (q38_1 r1).2)])) (ai ((Imp.refl (.v (vI ((n.Qa.length:Int)+0))))) ((fun gv4:0≤((q38_4 r1 n)).1∧(1≤((n.Qa.length:Int)+0)→((q38_4 r1 n)).1<((n.Qa.length:Int)+0))∧((q38_4 r1 n)).2=(q38_1 r1).2+1=>(fun hF:((q38_4 r1 n).1,(q38_4 r1 n).2)=(F38 r1 n)=>ai (congrArg (fun r:Int×Int=>(.int .i64 r.1:Value)) hF) (ai (ai (Imp.refl (Dat.v (sv r1X))) (ai (Imp.of_eq (congrArg (fun r:Int×Int=>Dat.v (vI r.2)) hF)) (trivial))) (trivial))) (condF h2 (rfl))) (pick_in (q38_2 r1) ((n.Qa.length:Int)+0) (by omega:0≤(q38_1 r1).2) (by omega:(q38_1 r1).2≤1000000000))))))))) (beqF h2))) (pick_in ⟨r1.b,r1.p⟩ 20 (by omega:0≤r1.p) (by omega:r1.p≤1000000000)))))))) hp.1 hp.2.1 hp.2.2.1 hp.2.2.2) (by kernel_rfl)
theorem Qv.b8' {n:Qe} (h:Qv n):n.Qa.length≤8:=h.frame.b8
theorem Qv.b18 {L:List Qg} {xs:List Qi} (h:Qv (⟨L,xs⟩:Qe)):1≤xs.length:=h.frame.b1
theorem gAll_net' {n:Qe} (h:Qv n):Qv (Qy n):=by
 unfold Qy
 rw [netB_ok.2 h]; exact gAll_net h _
theorem labLay_net {n:Qe} (h:Qv n) (p:List Int):Qv (Qx n p).1:=by
 rw [labLay_way h]; exact layR_net h p
theorem put_len {L:List Qg} {xs:List Qi} (h:Qv (⟨L,xs⟩:Qe)) (k:Nat):(xs.getD k default).Rows.length≤1000000000:=by
 have:=Qv.rows h k
 have h2:(xs.getD k default).Rows.length≤60:=this
 omega
theorem put_one {L:List Qg} {xs:List Qi} (h:Qv (⟨L,xs⟩:Qe)) {i:Int} (h1:1≤i) (h2:i≤60) (hr:oix (rowIx (xs.getD (Int.toNat 0) default) i)<0) :
  Qv (⟨L,xs.set (Int.toNat 0) (⟨putK (fun x:Qk=>x.In) (xs.getD (Int.toNat 0) default).Rows (⟨i,-1,0⟩:Qk),(xs.getD (Int.toNat 0) default).Qc⟩:Qi)⟩:Qe):=by
 have hb1:1≤xs.length:=h.frame.b1
 have hb:=boxP_ok.1 (h.box 0 (by show 0<xs.length; omega))
 refine netOk_set (n:=⟨L,xs⟩) h (i:=0) ?_
 obtain ⟨⟨g1,g2⟩,g3⟩:=hb
 have hn:=first_none.1 (oix_neg.1 hr)
 refine ⟨⟨fun r hr=>?_,putK_inc (fun x:Qk=>x.In) _ _ g2 (fun r hr=>?_)⟩,g3⟩
 ·rcases putK_mem.1 hr with hr | rfl
  ·exact g1 r hr
  ·exact ⟨⟨h1,h2⟩,.inl ⟨rfl,rfl⟩⟩
 ·obtain ⟨k,hk,rfl⟩:=mem_getD hr
  have:=hn k hk
  exact of_decide_eq_false this
theorem box_p (r1:l71Rd) (n:Qe) (h0:0≤r1.p) (h1:r1.p≤900000000):r1.p≤(F38 r1 n).2∧(F38 r1 n).2≤r1.p+2:=by
 unfold F38
 cases (F39 (⟨r1.b,r1.p⟩:l71Rd) 20).1==0 <;> simp only [cond_true,cond_false,pick_p] <;> omega
def F51_j0 (r1:l71Rd):Lp (List Qg×List Qi) (Qe×Int) :=
 bif (decide ((F39 ⟨r1.b,(F72 ⟨r1.b,r1.p⟩).2⟩ 3).1>0)) then (.done ((Qy (F72 ⟨r1.b,r1.p⟩).1).Qb,(Qy (F72 ⟨r1.b,r1.p⟩).1).Qa)) else (.done ((F72 ⟨r1.b,r1.p⟩).1.Qb,(F72 ⟨r1.b,r1.p⟩).1.Qa))
def F51_s0 (r1:l71Rd) (n:List Qg) (n1:List Qi):(Int×Int×List Qg×List Qi)→Lp (Int×Int×List Qg×List Qi) (Qe×Int):=fun (k,r3,n4,n5) =>
 bif (decide (k>0)) then (bif ((F39 ⟨r1.b,r3⟩ 4).1==0) then (bif (decide ((n4.length:Int)>0)) then (.next ((k-1),(F39 ⟨r1.b,(F39 ⟨r1.b,r3⟩ 4).2⟩ (n4.length:Int)).2,(labGuard ⟨n4,n5⟩ (n4.getD (F39 ⟨r1.b,(F39 ⟨r1.b,r3⟩ 4).2⟩ (n4.length:Int)).1.toNat default).B (n4.getD (F39 ⟨r1.b,(F39 ⟨r1.b,r3⟩ 4).2⟩ (n4.length:Int)).1.toNat default).A).1.Qb,(labGuard ⟨n4,n5⟩ (n4.getD (F39 ⟨r1.b,(F39 ⟨r1.b,r3⟩ 4).2⟩ (n4.length:Int)).1.toNat default).B (n4.getD (F39 ⟨r1.b,(F39 ⟨r1.b,r3⟩ 4).2⟩ (n4.length:Int)).1.toNat default).A).1.Qa)) else (.next ((k-1),(F39 ⟨r1.b,r3⟩ 4).2,n4,n5))) else (bif ((F39 ⟨r1.b,r3⟩ 4).1==1) then (.next ((k-1),(F39 ⟨r1.b,(F39 ⟨r1.b,(F39 ⟨r1.b,r3⟩ 4).2⟩ (n5.length:Int)).2⟩ 6).2,(labTear ⟨n4,n5⟩ (F39 ⟨r1.b,(F39 ⟨r1.b,r3⟩ 4).2⟩ (n5.length:Int)).1 (IntKind.i64.wrap (1+(F39 ⟨r1.b,(F39 ⟨r1.b,(F39 ⟨r1.b,r3⟩ 4).2⟩ (n5.length:Int)).2⟩ 6).1))).1.Qb,(labTear ⟨n4,n5⟩ (F39 ⟨r1.b,(F39 ⟨r1.b,r3⟩ 4).2⟩ (n5.length:Int)).1 (IntKind.i64.wrap (1+(F39 ⟨r1.b,(F39 ⟨r1.b,(F39 ⟨r1.b,r3⟩ 4).2⟩ (n5.length:Int)).2⟩ 6).1))).1.Qa)) else (.next ((k-1),(F60 ⟨r1.b,(F39 ⟨r1.b,r3⟩ 4).2⟩ ⟨n4,n5⟩).2,(Qx ⟨n4,n5⟩ (F60 ⟨r1.b,(F39 ⟨r1.b,r3⟩ 4).2⟩ ⟨n4,n5⟩).1).1.Qb,(Qx ⟨n4,n5⟩ (F60 ⟨r1.b,(F39 ⟨r1.b,r3⟩ 4).2⟩ ⟨n4,n5⟩).1).1.Qa)))) else (.done (k,r3,n4,n5))
def F51_j1 (r1:l71Rd) (n:List Qg) (n1:List Qi):Lp (Int×List Qg×List Qi) (Qe×Int) :=
 (runL (F51_s0 r1 n n1) ((F39 ⟨r1.b,(F39 ⟨r1.b,(F72 ⟨r1.b,r1.p⟩).2⟩ 3).2⟩ 6).1.toNat+1) ((F39 ⟨r1.b,(F39 ⟨r1.b,(F72 ⟨r1.b,r1.p⟩).2⟩ 3).2⟩ 6).1,(F39 ⟨r1.b,(F39 ⟨r1.b,(F72 ⟨r1.b,r1.p⟩).2⟩ 3).2⟩ 6).2,n,n1)).fin Lp.ret (fun (k,r3,n4,n5)=>.done (r3,n4,n5))
def F51_s1 (r1:l71Rd) (n:List Qg) (n1:List Qi) (r2:Int) (n2:List Qg) (n3:List Qi):(Int×List Qi)→Lp (Int×List Qi) (Qe×Int):=fun (i40,xs) =>
 bif (decide (i40≤60)) then (bif (decide ((oix (rowIx (xs.getD (Int.toNat 0) default) i40))<0)) then (.next ((i40+1),(xs.set (Int.toNat 0) (⟨(putK (fun x:Qk=>x.In) (xs.getD (Int.toNat 0) default).Rows (⟨i40,(-1),0⟩:Qk)),(xs.getD (Int.toNat 0) default).Qc⟩:Qi)))) else (.next ((i40+1),xs))) else (.done (i40,xs))
def F51 (r1:l71Rd):Qe×Int :=
 (F51_j0 r1).fin (fun r=>r) (fun (n,n1)=>(F51_j1 r1 n n1).fin (fun r=>r) (fun (r2,n2,n3)=>bif ((F39 ⟨r1.b,r2⟩ 30).1==0) then ((runL (F51_s1 r1 n n1 r2 n2 n3) ((Int.toNat (60-1+1))+1) (1,n3)).fin (fun r=>r) (fun (i40,xs)=>((⟨n2,xs⟩:Qe),(F39 ⟨r1.b,r2⟩ 30).2))) else ((⟨n2,n3⟩:Qe),(F39 ⟨r1.b,r2⟩ 30).2)))
def S51 (r1X:SV) (gr1:Nat) (r1:l71Rd):Spec:=⟨[.ptg gr1 104 (sv r1X) (.l 1 eByte r1.b) [.v (vI r1.p)] [.v (vI (F51 r1).2)]],.ag [.ow (.l 2 Qh (F51 r1).1.Qb),.ow (.l 2 Qj (F51 r1).1.Qa)],0≤r1.p∧r1.p≤700000000∧r1.b.length≤2000⟩
abbrev q51_1 (r1:l71Rd):=(F39 ⟨r1.b,(F72 ⟨r1.b,r1.p⟩).2⟩ 3)
abbrev q51_2 (r1:l71Rd) (r3:Int):=(⟨r1.b,(F39 ⟨r1.b,r3⟩ 4).2⟩:l71Rd)
abbrev q51_3 (r1:l71Rd):=(F39 ⟨r1.b,(q51_1 r1).2⟩ 6)
abbrev q51_4 (r1:l71Rd) (r3:Int) (n5:List Qi):=(F39 ⟨r1.b,(F39 (q51_2 r1 r3) (n5.length:Int)).2⟩ 6)
abbrev q51_5 (n4:List Qg) (r1:l71Rd) (r3:Int):=(n4.getD (F39 (q51_2 r1 r3) (n4.length:Int)).1.toNat default)
abbrev q51_6 (xs:List Qi):=(xs.getD (Int.toNat 0) default)
abbrev q51_7 (r1:l71Rd):=(F72 ⟨r1.b,r1.p⟩)
abbrev q51_8 (r1:l71Rd) (r3:Int):=(F39 ⟨r1.b,r3⟩ 4)
abbrev q51_9 (r1:l71Rd) (n:List Qg) (n1:List Qi):=(runL (F51_s0 r1 n n1) ((q51_3 r1).1.toNat+1) ((q51_3 r1).1,(q51_3 r1).2,n,n1))
abbrev q51_10 (r1:l71Rd) (r3:Int) (n5:List Qi):=(F39 (q51_2 r1 r3) (n5.length:Int))
abbrev q51_11 (r1:l71Rd) (r3:Int) (n4:List Qg) (n5:List Qi):=(F60 (q51_2 r1 r3) ⟨n4,n5⟩)
abbrev q51_12 (r1:l71Rd):=(Imp (.l 1 eByte r1.b) (.l 1 eByte r1.b))
abbrev q51_13 (r1:l71Rd) (r2:Int):=(F39 ⟨r1.b,r2⟩ 30)
abbrev q51_14 (n4:List Qg) (n5:List Qi) (r1:l71Rd) (r3:Int):=(labGuard ⟨n4,n5⟩ (q51_5 n4 r1 r3).B (q51_5 n4 r1 r3).A)
abbrev q51_15 (r1:l71Rd) (n:List Qg) (n1:List Qi) (r2:Int) (n2:List Qg) (n3:List Qi):=(runL (F51_s1 r1 n n1 r2 n2 n3) ((Int.toNat (60-1+1))+1) (1,n3))
abbrev q51_16 (r1:l71Rd):=((Imp.refl (.l 1 eByte r1.b)))
abbrev q51_17 (n4:List Qg) (n5:List Qi) (r1:l71Rd) (r3:Int):=(Qx ⟨n4,n5⟩ (q51_11 r1 r3 n4 n5).1)
abbrev q51_18 (r1:l71Rd) (r3:Int) (n4:List Qg):=(F39 (q51_2 r1 r3) (n4.length:Int))
theorem ok51 (r1X:SV) (gr1:Nat) (r1:l71Rd):(S51 r1X gr1 r1).ok Try.prog 51 :=
 fnG_ok mixed (fn:=Try.f51) (ct:=.seqk [(0,0)] (.no) (.seq (.reg [(1,.call 72 (S72 r1X 0 (⟨r1.b,r1.p⟩:l71Rd)) (ok72 r1X 0 (⟨r1.b,r1.p⟩:l71Rd)) none)]) (.cut (ι:=List Qg×List Qi) (fun j=>(fun (n:List Qg) (n1:List Qi)=>(⟨[(0,some (.p 0 0)),(2,some (.p 2 0)),(3,some (.p 3 0))],[(0,some (.box 104 [.h 1 0,.v (vI (q51_1 r1).2)])),(1,some (.vl (sv r1X) (.l 1 eByte r1.b))),(2,some (.box 26 [.v (.slice none 0 0),.v (.slice none 0 0)])),(3,some (.box 26 [.h 4 0,.h 5 0])),(4,some (.own 4 (.l 2 Qh n))),(5,some (.own 5 (.l 2 Qj n1)))],6⟩:St)) j.1 j.2) (fun j=>(fun (n:List Qg) (n1:List Qi)=>((F51_j0 r1)=Lp.done j∧Qv (⟨n,n1⟩:Qe)∧(0≤(q51_1 r1).2∧(q51_1 r1).2≤r1.p+51))) j.1 j.2) (.seq (.reg [(1,.call 39 (S39 r1X 0 (⟨r1.b,(q51_7 r1).2⟩:l71Rd) 3) (ok39 r1X 0 (⟨r1.b,(q51_7 r1).2⟩:l71Rd) 3) none)]) (.cond (.reg [(1,.call 87 (S87 (Qy (q51_7 r1).1) (q51_7 r1).1) (oa87 (q51_7 r1).1) none)]) (.no))) (fun j=>(fun (n:List Qg) (n1:List Qi)=>(.cut (ι:=Int×List Qg×List Qi) (fun j=>(fun (r2:Int) (n2:List Qg) (n3:List Qi)=>(⟨[(0,some (.p 0 0)),(2,some (.p 2 0)),(3,some (.p 3 0))],[(0,some (.box 104 [.h 1 0,.v (vI r2)])),(1,some (.vl (sv r1X) (.l 1 eByte r1.b))),(2,some (.box 26 [.v (.slice none 0 0),.v (.slice none 0 0)])),(3,some (.box 26 [.h 4 0,.h 5 0])),(4,some (.own 4 (.l 2 Qh n2))),(5,some (.own 5 (.l 2 Qj n3)))],6⟩:St)) j.1 j.2.1 j.2.2) (fun j=>(fun (r2:Int) (n2:List Qg) (n3:List Qi)=>((F51_j1 r1 n n1)=Lp.done j∧Qv (⟨n2,n3⟩:Qe)∧0≤r2∧r2≤r1.p+158∧1≤n3.length)) j.1 j.2.1 j.2.2) (.seqk [(0,0),(3,0),(3,1)] (.reg [(1,.call 39 (S39 r1X 1 (⟨r1.b,(q51_1 r1).2⟩:l71Rd) 6) (ok39 r1X 1 (⟨r1.b,(q51_1 r1).2⟩:l71Rd) 6) none)]) (.blk (.loop (ι:=Nat×(Int×Int×List Qg×List Qi)) (fun i=>(fun (k:Int) (r3:Int) (n4:List Qg) (n5:List Qi)=>(⟨[(0,some (.p 0 0)),(2,some (.p 2 0)),(3,some (.p 3 0)),(4,some (.v (vI k)))],[(0,some (.box 104 [.h 1 0,.v (vI r3)])),(1,some (.vl (sv r1X) (.l 1 eByte r1.b))),(2,some (.box 26 [.v (.slice none 0 0),.v (.slice none 0 0)])),(3,some (.box 26 [.h 4 0,.h 5 0])),(4,some (.own 4 (.l 2 Qh n4))),(5,some (.own 5 (.l 2 Qj n5)))],6⟩:St)) i.2.1 i.2.2.1 i.2.2.2.1 i.2.2.2.2) (fun i=>runL (F51_s0 r1 n n1) i.1 i.2=(q51_9 r1 n n1)∧(fun (k:Int) (r3:Int) (n4:List Qg) (n5:List Qi)=>(Int.toNat k<i.1∧0≤k∧Qv (⟨n4,n5⟩:Qe)∧0≤r3∧r3+13*k≤r1.p+150)) i.2.1 i.2.2.1 i.2.2.2.1 i.2.2.2.2) (fun i=>i.1) (((q51_3 r1).1.toNat+1),((q51_3 r1).1,(q51_3 r1).2,n,n1)) (fun i=>(fun (k:Int) (r3:Int) (n4:List Qg) (n5:List Qi)=>(.seq (.seq (.no) (.cond (.no) (.no))) (.seq (.blk (.seq (.reg [(1,.call 39 (S39 r1X 1 (⟨r1.b,r3⟩:l71Rd) 4) (ok39 r1X 1 (⟨r1.b,r3⟩:l71Rd) 4) none)]) (.blk (.seq (.no) (.cond (.seq (.no) (.cond (.seq (.reg [(6,.call 39 (S39 r1X 1 (q51_2 r1 r3) (n4.length:Int)) (ok39 r1X 1 (q51_2 r1 r3) (n4.length:Int)) none)]) (.reg [(5,.call 88 (S88 (q51_14 n4 n5 r1 r3) (⟨n4,n5⟩:Qe) (q51_5 n4 r1 r3).B (q51_5 n4 r1 r3).A) (oa88 (⟨n4,n5⟩:Qe) (q51_5 n4 r1 r3).B (q51_5 n4 r1 r3).A) none)])) (.no))) (.seq (.no) (.cond (.reg [(5,.call 39 (S39 r1X 1 (q51_2 r1 r3) (n5.length:Int)) (ok39 r1X 1 (q51_2 r1 r3) (n5.length:Int)) none),(7,.call 39 (S39 r1X 1 (⟨r1.b,(q51_10 r1 r3 n5).2⟩:l71Rd) 6) (ok39 r1X 1 (⟨r1.b,(q51_10 r1 r3 n5).2⟩:l71Rd) 6) none),(9,.call 23 (S23 (labTear ⟨n4,n5⟩ (q51_10 r1 r3 n5).1 (IntKind.i64.wrap (1+(q51_4 r1 r3 n5).1))) (⟨n4,n5⟩:Qe) (q51_10 r1 r3 n5).1 (IntKind.i64.wrap (1+(q51_4 r1 r3 n5).1))) (oa23 (⟨n4,n5⟩:Qe) (q51_10 r1 r3 n5).1 (IntKind.i64.wrap (1+(q51_4 r1 r3 n5).1))) none)]) (.reg [(3,.call 60 (S60 r1X 1 (q51_2 r1 r3) (⟨n4,n5⟩:Qe)) (ok60 r1X 1 (q51_2 r1 r3) (⟨n4,n5⟩:Qe)) none),(4,.call 35 (S35 (q51_17 n4 n5 r1 r3) (⟨n4,n5⟩:Qe) (q51_11 r1 r3 n4 n5).1) (oa35 (⟨n4,n5⟩:Qe) (q51_11 r1 r3 n4 n5).1) none)])))))))) (.reg [(1,.bnd)])))) i.2.1 i.2.2.1 i.2.2.2.1 i.2.2.2.2)))) (fun j=>(fun (r2:Int) (n2:List Qg) (n3:List Qi)=>(.seq (.seq (.reg [(1,.call 39 (S39 r1X 1 (⟨r1.b,r2⟩:l71Rd) 30) (ok39 r1X 1 (⟨r1.b,r2⟩:l71Rd) 30) none)]) (.cond (.seqk [(3,0),(3,1)] (.no) (.blk (.loop (ι:=Nat×(Int×List Qi)) (fun i=>(fun (i40:Int) (xs:List Qi)=>(⟨[(0,some (.p 0 0)),(2,some (.p 2 0)),(3,some (.p 3 0)),(6,some (.v (vI i40)))],[(0,some (.box 104 [.h 1 0,.v (vI (q51_13 r1 r2).2)])),(1,some (.vl (sv r1X) (.l 1 eByte r1.b))),(2,some (.box 26 [.v (.slice none 0 0),.v (.slice none 0 0)])),(3,some (.box 26 [.h 4 0,.h 5 0])),(4,some (.own 4 (.l 2 Qh n2))),(5,some (.own 5 (.l 2 Qj xs)))],6⟩:St)) i.2.1 i.2.2) (fun i=>runL (F51_s1 r1 n n1 r2 n2 n3) i.1 i.2=(q51_15 r1 n n1 r2 n2 n3)∧(fun (i40:Int) (xs:List Qi)=>(Int.toNat (60-i40+1)<i.1∧Qv (⟨n2,xs⟩:Qe)∧(1:Int)≤i40∧1≤xs.length∧(0:Int)≤i40∧xs.length=n3.length)) i.2.1 i.2.2) (fun i=>i.1) (((Int.toNat (60-1+1))+1),(1,n3)) (fun i=>(fun (i40:Int) (xs:List Qi)=>(.seq (.seq (.no) (.cond (.no) (.no))) (.seq (.blk (.seq (.reg [(5,.call 70 (S70 (oix (rowIx (q51_6 xs) i40)) (q51_6 xs) i40) (oa70 (q51_6 xs) i40) none)]) (.cond (.reg [(9,.call 89 (T89 (putK (fun x:Qk=>x.In) (q51_6 xs).Rows (⟨i40,(-1),0⟩:Qk)) (q51_6 xs).Rows (⟨i40,(-1),0⟩:Qk)) (oa89 (q51_6 xs).Rows (⟨i40,(-1),0⟩:Qk)) none),(12,.dat (.l 2 Qj (xs.set (Int.toNat 0) (⟨(putK (fun x:Qk=>x.In) (q51_6 xs).Rows (⟨i40,(-1),0⟩:Qk)),(q51_6 xs).Qc⟩:Qi))))]) (.no)))) (.reg [(1,.bnd)])))) i.2.1 i.2.2)))) (.no))) (.seq (.no) (.no)))) j.1 j.2.1 j.2.2))) j.1 j.2)))) Try.func51 (fun (hp:0≤r1.p∧r1.p≤700000000∧r1.b.length≤2000)=>(fun (hpre0:0≤r1.p) (hpre1:r1.p≤700000000) (hpre2:r1.b.length≤2000)=>fun (_:r1.b.length≤9223372036854775807)=>ai ((ai ((by first | omega | (simp only [lens] at*<;> omega):0≤r1.p)) (ai ((by first | omega | (simp only [lens] at*<;> omega):r1.p≤800000000)) ((by first | omega | (simp only [lens] at*<;> omega):r1.b.length≤2000))))) (ai ((Eq.refl (sv r1X))) (ai (q51_16 r1) (ai ((Imps.refl [.v (vI r1.p)])) ((fun gv1:Qv ((q51_7 r1)).1=>(fun gv2:1≤((q51_7 r1)).1.Qa.length∧((q51_7 r1)).1.Qa.length≤8∧r1.p≤((q51_7 r1)).2∧((q51_7 r1)).2≤r1.p+50=>ai (ai ((ai ((by first | omega | (simp only [lens] at*<;> omega):0≤(q51_7 r1).2)) (ai ((by first | omega | (simp only [lens] at*<;> omega):(q51_7 r1).2≤1000000000)) ((by first | omega | (simp only [lens] at*<;> omega):r1.b.length≤2000))))) (ai ((Eq.refl (sv r1X))) (ai (q51_16 r1) (ai ((Imps.refl [.v (vI (q51_7 r1).2)])) (ai ((Imp.refl (.v (vI 3)))) ((fun gv3:0≤((q51_1 r1)).1∧(1≤(3:Int)→((q51_1 r1)).1<(3:Int))∧((q51_1 r1)).2=(q51_7 r1).2+1=>ai (fun h4:(decide ((q51_1 r1).1>0))=true=>(fun _:(q51_1 r1).1>0=>ai (trivial) (ai ((Imps.refl (Qf (q51_7 r1).1))) (Exists.intro (p:=fun j:List Qg×List Qi=>(fun (n_:List Qg) (n1_:List Qi)=>(((.int .i64 (q51_1 r1).2:Value)=.int .i64 (q51_1 r1).2)∧((sv r1X:Value)=sv r1X)∧(q51_12 r1)∧((.slice none 0 0:Value)=.slice none 0 0)∧((.slice none 0 0:Value)=.slice none 0 0)∧(Imp (.l 2 Qh (Qy (q51_7 r1).1).Qb) (.l 2 Qh n_))∧(Imp (.l 2 Qj (Qy (q51_7 r1).1).Qa) (.l 2 Qj n1_))∧(F51_j0 r1)=Lp.done j∧Qv (⟨n_,n1_⟩:Qe)∧(0≤(q51_1 r1).2∧(q51_1 r1).2≤r1.p+51))) j.1 j.2) (((Qy (q51_7 r1).1).Qb,(Qy (q51_7 r1).1).Qa)) (ai (rfl) (ai (rfl) (ai (ir) (ai (rfl) (ai (rfl) (ai (ir) (ai (ir) (ai (Eq.symm (condT h4 (rfl))) (ai ((by first | omega | (simp only [lens] at*<;> omega) | first | assumption | omega | exact gAll_net' (by assumption) | exact Qv.b18 (by assumption):Qv (⟨(Qy (q51_7 r1).1).Qb,(Qy (q51_7 r1).1).Qa⟩:Qe))) ((by first | omega | (simp only [lens] at*<;> omega) | first | assumption | omega | exact gAll_net' (by assumption) | exact Qv.b18 (by assumption):0≤(q51_1 r1).2∧(q51_1 r1).2≤r1.p+51)))))))))))))) (of_decide_eq_true h4)) (fun h4:(decide ((q51_1 r1).1>0))=false=>(fun _:¬ (q51_1 r1).1>0=>Exists.intro (p:=fun j:List Qg×List Qi=>(fun (n_:List Qg) (n1_:List Qi)=>(((.int .i64 (q51_1 r1).2:Value)=.int .i64 (q51_1 r1).2)∧((sv r1X:Value)=sv r1X)∧(q51_12 r1)∧((.slice none 0 0:Value)=.slice none 0 0)∧((.slice none 0 0:Value)=.slice none 0 0)∧(Imp (.l 2 Qh (q51_7 r1).1.Qb) (.l 2 Qh n_))∧(Imp (.l 2 Qj (q51_7 r1).1.Qa) (.l 2 Qj n1_))∧(F51_j0 r1)=Lp.done j∧Qv (⟨n_,n1_⟩:Qe)∧(0≤(q51_1 r1).2∧(q51_1 r1).2≤r1.p+51))) j.1 j.2) (((q51_7 r1).1.Qb,(q51_7 r1).1.Qa)) (ai (rfl) (ai (rfl) (ai (ir) (ai (rfl) (ai (rfl) (ai (ir) (ai (ir) (ai (Eq.symm (condF h4 (rfl))) (ai ((by first | omega | (simp only [lens] at*<;> omega) | first | assumption | omega | exact gAll_net' (by assumption) | exact Qv.b18 (by assumption):Qv (⟨(q51_7 r1).1.Qb,(q51_7 r1).1.Qa⟩:Qe))) ((by first | omega | (simp only [lens] at*<;> omega) | first | assumption | omega | exact gAll_net' (by assumption) | exact Qv.b18 (by assumption):0≤(q51_1 r1).2∧(q51_1 r1).2≤r1.p+51)))))))))))) (of_decide_eq_false h4))) (pick_in ⟨r1.b,(q51_7 r1).2⟩ 3 (by first | omega | (simp only [lens] at*<;> omega):0≤(q51_7 r1).2) (by first | omega | (simp only [lens] at*<;> omega):(q51_7 r1).2≤1000000000)))))))) (fun (j:List Qg×List Qi) (hj:(fun (n:List Qg) (n1:List Qi)=>((F51_j0 r1)=Lp.done j∧Qv (⟨n,n1⟩:Qe)∧(0≤(q51_1 r1).2∧(q51_1 r1).2≤r1.p+51))) j.1 j.2)=>(fun (n:List Qg) (n1:List Qi) (hJ0_5:(F51_j0 r1)=Lp.done (n,n1)) (_:Qv (⟨n,n1⟩:Qe)) (_:0≤(q51_1 r1).2∧(q51_1 r1).2≤r1.p+51)=>ai (ai ((ai ((by first | omega | (simp only [lens] at*<;> omega):0≤(q51_1 r1).2)) (ai ((by first | omega | (simp only [lens] at*<;> omega):(q51_1 r1).2≤1000000000)) ((by first | omega | (simp only [lens] at*<;> omega):r1.b.length≤2000))))) (ai ((Eq.refl (sv r1X))) (ai (q51_16 r1) (ai ((Imps.refl [.v (vI (q51_1 r1).2)])) (ai ((Imp.refl (.v (vI 6)))) ((fun gv6:0≤((q51_3 r1)).1∧(1≤(6:Int)→((q51_3 r1)).1<(6:Int))∧((q51_3 r1)).2=(q51_1 r1).2+1=>fun (_:r1.b.length≤9223372036854775807)=>fun (_:n.length≤9223372036854775807)=>fun (_:n1.length≤9223372036854775807)=>ai (ai (rfl) (ai (rfl) (ai (rfl) (ai (ir) (ai (rfl) (ai (rfl) (ai (ir) (ai (ir) ((ai (rfl:runL (F51_s0 r1 n n1) ((q51_3 r1).1.toNat+1) ((q51_3 r1).1,(q51_3 r1).2,n,n1)=(q51_9 r1 n n1)) (ai ((Nat.lt_succ_self _:Int.toNat (q51_3 r1).1<((q51_3 r1).1.toNat+1))) (ai ((by first | omega | (simp only [lens] at*<;> omega) | assumption | omega | exact labGuard_net (by assumption) _ _ | exact labTear_net _ _ _ (by assumption) | exact labLay_net (by assumption) _:0≤(q51_3 r1).1)) (ai ((by first | omega | (simp only [lens] at*<;> omega) | assumption | omega | exact labGuard_net (by assumption) _ _ | exact labTear_net _ _ _ (by assumption) | exact labLay_net (by assumption) _:Qv (⟨n,n1⟩:Qe))) (ai ((by first | omega | (simp only [lens] at*<;> omega) | assumption | omega | exact labGuard_net (by assumption) _ _ | exact labTear_net _ _ _ (by assumption) | exact labLay_net (by assumption) _:0≤(q51_3 r1).2)) ((by first | omega | (simp only [lens] at*<;> omega) | assumption | omega | exact labGuard_net (by assumption) _ _ | exact labTear_net _ _ _ (by assumption) | exact labLay_net (by assumption) _:(q51_3 r1).2+13*(q51_3 r1).1≤r1.p+150))))))))))))))):((.int .i64 (q51_3 r1).1:Value)=.int .i64 (q51_3 r1).1)∧((.int .i64 (q51_3 r1).2:Value)=.int .i64 (q51_3 r1).2)∧((sv r1X:Value)=sv r1X)∧(q51_12 r1)∧((.slice none 0 0:Value)=.slice none 0 0)∧((.slice none 0 0:Value)=.slice none 0 0)∧(Imp (.l 2 Qh n) (.l 2 Qh n))∧(Imp (.l 2 Qj n1) (.l 2 Qj n1))∧(runL (F51_s0 r1 n n1) ((q51_3 r1).1.toNat+1) ((q51_3 r1).1,(q51_3 r1).2,n,n1)=(q51_9 r1 n n1)∧Int.toNat (q51_3 r1).1<((q51_3 r1).1.toNat+1)∧0≤(q51_3 r1).1∧Qv (⟨n,n1⟩:Qe)∧0≤(q51_3 r1).2∧(q51_3 r1).2+13*(q51_3 r1).1≤r1.p+150)) (fun (i0:Nat×(Int×Int×List Qg×List Qi)) (hi0:runL (F51_s0 r1 n n1) i0.1 i0.2=(q51_9 r1 n n1)∧(fun (k:Int) (r3:Int) (n4:List Qg) (n5:List Qi)=>(Int.toNat k<i0.1∧0≤k∧Qv (⟨n4,n5⟩:Qe)∧0≤r3∧r3+13*k≤r1.p+150)) i0.2.1 i0.2.2.1 i0.2.2.2.1 i0.2.2.2.2)=>(fun (m0:Nat) (k:Int) (r3:Int) (n4:List Qg) (n5:List Qi) (hI0:runL (F51_s0 r1 n n1) (m0+1) (k,r3,n4,n5)=(q51_9 r1 n n1)) (_:Int.toNat k<m0+1) (hl0:m0<i0.1) (_:0≤k) (_:Qv (⟨n4,n5⟩:Qe)) (_:0≤r3) (_:r3+13*k≤r1.p+150)=>ai (fun h8:(decide (k>0))=true=>(fun _:k>0=>ai ((ai ((by first | omega | (simp only [lens] at*<;> omega):0≤r3)) (ai ((by first | omega | (simp only [lens] at*<;> omega):r3≤1000000000)) ((by first | omega | (simp only [lens] at*<;> omega):r1.b.length≤2000))))) (ai ((Eq.refl (sv r1X))) (ai (q51_16 r1) (ai ((Imps.refl [.v (vI r3)])) (ai ((Imp.refl (.v (vI 4)))) ((fun gv9:0≤((q51_8 r1 r3)).1∧(1≤(4:Int)→((q51_8 r1 r3)).1<(4:Int))∧((q51_8 r1 r3)).2=r3+1=>ai (fun h10:((q51_8 r1 r3).1==0)=true=>(fun _:(q51_8 r1 r3).1=0=>ai (fun h11:(decide ((n4.length:Int)>0))=true=>(fun _:(n4.length:Int)>0=>ai ((ai ((by first | omega | (simp only [lens] at*<;> omega):0≤(q51_8 r1 r3).2)) (ai ((by first | omega | (simp only [lens] at*<;> omega):(q51_8 r1 r3).2≤1000000000)) ((by first | omega | (simp only [lens] at*<;> omega):r1.b.length≤2000))))) (ai ((Eq.refl (sv r1X))) (ai (q51_16 r1) (ai ((Imps.refl [.v (vI (q51_8 r1 r3).2)])) (ai ((Imp.refl (.v (vI (n4.length:Int))))) ((fun gv12:0≤((q51_18 r1 r3 n4)).1∧(1≤(n4.length:Int)→((q51_18 r1 r3 n4)).1<(n4.length:Int))∧((q51_18 r1 r3 n4)).2=(q51_8 r1 r3).2+1=>ai ((by first | omega | (simp only [lens] at*<;> omega):0≤(q51_18 r1 r3 n4).1∧(q51_18 r1 r3 n4).1<(n4.length:Int))) (ai (trivial) (ai ((Imps.refl (Qf (⟨n4,n5⟩:Qe)))) (ai ((Imp.refl (.v (vI (q51_5 n4 r1 r3).B)))) (ai ((Imp.refl (.v (vI (q51_5 n4 r1 r3).A)))) (ai ((by unfold i64ok; first | omega | (simp only [lens] at*<;> omega):i64ok (k-1))) (Exists.intro (p:=fun j:Nat×(Int×Int×List Qg×List Qi)=>(fun (k_:Int) (r3_:Int) (n4_:List Qg) (n5_:List Qi)=>(((.int .i64 (k-1):Value)=.int .i64 k_)∧((.int .i64 (q51_18 r1 r3 n4).2:Value)=.int .i64 r3_)∧((sv r1X:Value)=sv r1X)∧(q51_12 r1)∧((.slice none 0 0:Value)=.slice none 0 0)∧((.slice none 0 0:Value)=.slice none 0 0)∧(Imp (.l 2 Qh (q51_14 n4 n5 r1 r3).1.Qb) (.l 2 Qh n4_))∧(Imp (.l 2 Qj (q51_14 n4 n5 r1 r3).1.Qa) (.l 2 Qj n5_))∧((runL (F51_s0 r1 n n1) j.1 j.2=(q51_9 r1 n n1)∧Int.toNat k_<j.1∧0≤k_∧Qv (⟨n4_,n5_⟩:Qe)∧0≤r3_∧r3_+13*k_≤r1.p+150)∧j.1<i0.1))) j.2.1 j.2.2.1 j.2.2.2.1 j.2.2.2.2) (m0,((k-1),(q51_18 r1 r3 n4).2,(q51_14 n4 n5 r1 r3).1.Qb,(q51_14 n4 n5 r1 r3).1.Qa)) (ai (rfl) (ai (rfl) (ai (rfl) (ai (ir) (ai (rfl) (ai (rfl) (ai (ir) (ai (ir) (ai (ai (runL_next hI0 (condT h8 (condT h10 (condT h11 (rfl))))) (ai ((by first | omega | (simp only [lens] at*<;> omega) | assumption | omega | exact labGuard_net (by assumption) _ _ | exact labTear_net _ _ _ (by assumption) | exact labLay_net (by assumption) _:Int.toNat (k-1)<m0)) (ai ((by first | omega | (simp only [lens] at*<;> omega) | assumption | omega | exact labGuard_net (by assumption) _ _ | exact labTear_net _ _ _ (by assumption) | exact labLay_net (by assumption) _:0≤(k-1))) (ai ((by first | omega | (simp only [lens] at*<;> omega) | assumption | omega | exact labGuard_net (by assumption) _ _ | exact labTear_net _ _ _ (by assumption) | exact labLay_net (by assumption) _:Qv (⟨(q51_14 n4 n5 r1 r3).1.Qb,(q51_14 n4 n5 r1 r3).1.Qa⟩:Qe))) (ai ((by first | omega | (simp only [lens] at*<;> omega) | assumption | omega | exact labGuard_net (by assumption) _ _ | exact labTear_net _ _ _ (by assumption) | exact labLay_net (by assumption) _:0≤(q51_18 r1 r3 n4).2)) ((by first | omega | (simp only [lens] at*<;> omega) | assumption | omega | exact labGuard_net (by assumption) _ _ | exact labTear_net _ _ _ (by assumption) | exact labLay_net (by assumption) _:(q51_18 r1 r3 n4).2+13*(k-1)≤r1.p+150))))))) hl0)))))))))))))))) (pick_in (q51_2 r1 r3) (n4.length:Int) (by first | omega | (simp only [lens] at*<;> omega):0≤(q51_8 r1 r3).2) (by first | omega | (simp only [lens] at*<;> omega):(q51_8 r1 r3).2≤1000000000)))))))) (of_decide_eq_true h11)) (fun h11:(decide ((n4.length:Int)>0))=false=>(fun _:¬ (n4.length:Int)>0=>ai ((by unfold i64ok; first | omega | (simp only [lens] at*<;> omega):i64ok (k-1))) (Exists.intro (p:=fun j:Nat×(Int×Int×List Qg×List Qi)=>(fun (k_:Int) (r3_:Int) (n4_:List Qg) (n5_:List Qi)=>(((.int .i64 (k-1):Value)=.int .i64 k_)∧((.int .i64 (q51_8 r1 r3).2:Value)=.int .i64 r3_)∧((sv r1X:Value)=sv r1X)∧(q51_12 r1)∧((.slice none 0 0:Value)=.slice none 0 0)∧((.slice none 0 0:Value)=.slice none 0 0)∧(Imp (.l 2 Qh n4) (.l 2 Qh n4_))∧(Imp (.l 2 Qj n5) (.l 2 Qj n5_))∧((runL (F51_s0 r1 n n1) j.1 j.2=(q51_9 r1 n n1)∧Int.toNat k_<j.1∧0≤k_∧Qv (⟨n4_,n5_⟩:Qe)∧0≤r3_∧r3_+13*k_≤r1.p+150)∧j.1<i0.1))) j.2.1 j.2.2.1 j.2.2.2.1 j.2.2.2.2) (m0,((k-1),(q51_8 r1 r3).2,n4,n5)) (ai (rfl) (ai (rfl) (ai (rfl) (ai (ir) (ai (rfl) (ai (rfl) (ai (ir) (ai (ir) (ai (ai (runL_next hI0 (condT h8 (condT h10 (condF h11 (rfl))))) (ai ((by first | omega | (simp only [lens] at*<;> omega) | assumption | omega | exact labGuard_net (by assumption) _ _ | exact labTear_net _ _ _ (by assumption) | exact labLay_net (by assumption) _:Int.toNat (k-1)<m0)) (ai ((by first | omega | (simp only [lens] at*<;> omega) | assumption | omega | exact labGuard_net (by assumption) _ _ | exact labTear_net _ _ _ (by assumption) | exact labLay_net (by assumption) _:0≤(k-1))) (ai ((by first | omega | (simp only [lens] at*<;> omega) | assumption | omega | exact labGuard_net (by assumption) _ _ | exact labTear_net _ _ _ (by assumption) | exact labLay_net (by assumption) _:Qv (⟨n4,n5⟩:Qe))) (ai ((by first | omega | (simp only [lens] at*<;> omega) | assumption | omega | exact labGuard_net (by assumption) _ _ | exact labTear_net _ _ _ (by assumption) | exact labLay_net (by assumption) _:0≤(q51_8 r1 r3).2)) ((by first | omega | (simp only [lens] at*<;> omega) | assumption | omega | exact labGuard_net (by assumption) _ _ | exact labTear_net _ _ _ (by assumption) | exact labLay_net (by assumption) _:(q51_8 r1 r3).2+13*(k-1)≤r1.p+150))))))) hl0))))))))))) (of_decide_eq_false h11))) (eq_of_beq h10)) (fun h10:((q51_8 r1 r3).1==0)=false=>(fun _:¬ (q51_8 r1 r3).1=0=>ai (fun h13:((q51_8 r1 r3).1==1)=true=>(fun _:(q51_8 r1 r3).1=1=>ai ((ai ((by first | omega | (simp only [lens] at*<;> omega):0≤(q51_8 r1 r3).2)) (ai ((by first | omega | (simp only [lens] at*<;> omega):(q51_8 r1 r3).2≤1000000000)) ((by first | omega | (simp only [lens] at*<;> omega):r1.b.length≤2000))))) (ai ((Eq.refl (sv r1X))) (ai (q51_16 r1) (ai ((Imps.refl [.v (vI (q51_8 r1 r3).2)])) (ai ((Imp.refl (.v (vI (n5.length:Int))))) ((fun gv14:0≤((q51_10 r1 r3 n5)).1∧(1≤(n5.length:Int)→((q51_10 r1 r3 n5)).1<(n5.length:Int))∧((q51_10 r1 r3 n5)).2=(q51_8 r1 r3).2+1=>ai ((ai ((by first | omega | (simp only [lens] at*<;> omega):0≤(q51_10 r1 r3 n5).2)) (ai ((by first | omega | (simp only [lens] at*<;> omega):(q51_10 r1 r3 n5).2≤1000000000)) ((by first | omega | (simp only [lens] at*<;> omega):r1.b.length≤2000))))) (ai ((Eq.refl (sv r1X))) (ai (q51_16 r1) (ai ((Imps.refl [.v (vI (q51_10 r1 r3 n5).2)])) (ai ((Imp.refl (.v (vI 6)))) ((fun gv15:0≤((q51_4 r1 r3 n5)).1∧(1≤(6:Int)→((q51_4 r1 r3 n5)).1<(6:Int))∧((q51_4 r1 r3 n5)).2=(q51_10 r1 r3 n5).2+1=>ai (trivial) (ai ((Imps.refl (Qf (⟨n4,n5⟩:Qe)))) (ai ((Imp.refl (.v (vI (q51_10 r1 r3 n5).1)))) (ai ((Imp.refl (.v (vI (IntKind.i64.wrap (1+(q51_4 r1 r3 n5).1)))))) ((fun gv16:((labTear ⟨n4,n5⟩ (q51_10 r1 r3 n5).1 (IntKind.i64.wrap (1+(q51_4 r1 r3 n5).1)))).2=0→((labTear ⟨n4,n5⟩ (q51_10 r1 r3 n5).1 (IntKind.i64.wrap (1+(q51_4 r1 r3 n5).1)))).1.Qa.length=n5.length=>ai ((by unfold i64ok; first | omega | (simp only [lens] at*<;> omega):i64ok (k-1))) (Exists.intro (p:=fun j:Nat×(Int×Int×List Qg×List Qi)=>(fun (k_:Int) (r3_:Int) (n4_:List Qg) (n5_:List Qi)=>(((.int .i64 (k-1):Value)=.int .i64 k_)∧((.int .i64 (q51_4 r1 r3 n5).2:Value)=.int .i64 r3_)∧((sv r1X:Value)=sv r1X)∧(q51_12 r1)∧((.slice none 0 0:Value)=.slice none 0 0)∧((.slice none 0 0:Value)=.slice none 0 0)∧(Imp (.l 2 Qh (labTear ⟨n4,n5⟩ (q51_10 r1 r3 n5).1 (IntKind.i64.wrap (1+(q51_4 r1 r3 n5).1))).1.Qb) (.l 2 Qh n4_))∧(Imp (.l 2 Qj (labTear ⟨n4,n5⟩ (q51_10 r1 r3 n5).1 (IntKind.i64.wrap (1+(q51_4 r1 r3 n5).1))).1.Qa) (.l 2 Qj n5_))∧((runL (F51_s0 r1 n n1) j.1 j.2=(q51_9 r1 n n1)∧Int.toNat k_<j.1∧0≤k_∧Qv (⟨n4_,n5_⟩:Qe)∧0≤r3_∧r3_+13*k_≤r1.p+150)∧j.1<i0.1))) j.2.1 j.2.2.1 j.2.2.2.1 j.2.2.2.2) (m0,((k-1),(q51_4 r1 r3 n5).2,(labTear ⟨n4,n5⟩ (q51_10 r1 r3 n5).1 (IntKind.i64.wrap (1+(q51_4 r1 r3 n5).1))).1.Qb,(labTear ⟨n4,n5⟩ (q51_10 r1 r3 n5).1 (IntKind.i64.wrap (1+(q51_4 r1 r3 n5).1))).1.Qa)) (ai (rfl) (ai (rfl) (ai (rfl) (ai (ir) (ai (rfl) (ai (rfl) (ai (ir) (ai (ir) (ai (ai (runL_next hI0 (condT h8 (condF h10 (condT h13 (rfl))))) (ai ((by first | omega | (simp only [lens] at*<;> omega) | assumption | omega | exact labGuard_net (by assumption) _ _ | exact labTear_net _ _ _ (by assumption) | exact labLay_net (by assumption) _:Int.toNat (k-1)<m0)) (ai ((by first | omega | (simp only [lens] at*<;> omega) | assumption | omega | exact labGuard_net (by assumption) _ _ | exact labTear_net _ _ _ (by assumption) | exact labLay_net (by assumption) _:0≤(k-1))) (ai ((by first | omega | (simp only [lens] at*<;> omega) | assumption | omega | exact labGuard_net (by assumption) _ _ | exact labTear_net _ _ _ (by assumption) | exact labLay_net (by assumption) _:Qv (⟨(labTear ⟨n4,n5⟩ (q51_10 r1 r3 n5).1 (IntKind.i64.wrap (1+(q51_4 r1 r3 n5).1))).1.Qb,(labTear ⟨n4,n5⟩ (q51_10 r1 r3 n5).1 (IntKind.i64.wrap (1+(q51_4 r1 r3 n5).1))).1.Qa⟩:Qe))) (ai ((by first | omega | (simp only [lens] at*<;> omega) | assumption | omega | exact labGuard_net (by assumption) _ _ | exact labTear_net _ _ _ (by assumption) | exact labLay_net (by assumption) _:0≤(q51_4 r1 r3 n5).2)) ((by first | omega | (simp only [lens] at*<;> omega) | assumption | omega | exact labGuard_net (by assumption) _ _ | exact labTear_net _ _ _ (by assumption) | exact labLay_net (by assumption) _:(q51_4 r1 r3 n5).2+13*(k-1)≤r1.p+150))))))) hl0))))))))))) (labTear_l (⟨n4,n5⟩:Qe) (q51_10 r1 r3 n5).1 (IntKind.i64.wrap (1+(q51_4 r1 r3 n5).1)))))))) (pick_in ⟨r1.b,(q51_10 r1 r3 n5).2⟩ 6 (by first | omega | (simp only [lens] at*<;> omega):0≤(q51_10 r1 r3 n5).2) (by first | omega | (simp only [lens] at*<;> omega):(q51_10 r1 r3 n5).2≤1000000000)))))))) (pick_in (q51_2 r1 r3) (n5.length:Int) (by first | omega | (simp only [lens] at*<;> omega):0≤(q51_8 r1 r3).2) (by first | omega | (simp only [lens] at*<;> omega):(q51_8 r1 r3).2≤1000000000)))))))) (eq_of_beq h13)) (fun h13:((q51_8 r1 r3).1==1)=false=>(fun _:¬ (q51_8 r1 r3).1=1=>ai ((ai ((by first | omega | (have hq:=Qv.b8' (by assumption:Qv (⟨n4,n5⟩:Qe)); simp only at hq; omega):0≤(q51_8 r1 r3).2)) (ai ((by first | omega | (have hq:=Qv.b8' (by assumption:Qv (⟨n4,n5⟩:Qe)); simp only at hq; omega):(q51_8 r1 r3).2≤900000000)) (ai ((by first | omega | (have hq:=Qv.b8' (by assumption:Qv (⟨n4,n5⟩:Qe)); simp only at hq; omega):r1.b.length≤2000)) ((by first | omega | (have hq:=Qv.b8' (by assumption:Qv (⟨n4,n5⟩:Qe)); simp only at hq; omega):n5.length≤1000)))))) (ai ((Eq.refl (sv r1X))) (ai (q51_16 r1) (ai ((Imps.refl [.v (vI (q51_8 r1 r3).2)])) (ai ((Imps.refl (Qf (⟨n4,n5⟩:Qe)))) ((fun gv17:(q51_8 r1 r3).2≤((q51_11 r1 r3 n4 n5)).2∧((q51_11 r1 r3 n4 n5)).2≤(q51_8 r1 r3).2+10∧((q51_11 r1 r3 n4 n5)).1.length≤8∧(1≤n5.length→1≤((q51_11 r1 r3 n4 n5)).1.length∧0≤((q51_11 r1 r3 n4 n5)).1.getD ((((q51_11 r1 r3 n4 n5)).1.length:Int)-1).toNat default∧((q51_11 r1 r3 n4 n5)).1.getD ((((q51_11 r1 r3 n4 n5)).1.length:Int)-1).toNat default<(n5.length:Int))=>ai (trivial) (ai ((Imps.refl (Qf (⟨n4,n5⟩:Qe)))) (ai ((Imp.refl (.l 1 eInt (q51_11 r1 r3 n4 n5).1))) (ai ((by unfold i64ok; first | omega | (simp only [lens] at*<;> omega):i64ok (k-1))) (Exists.intro (p:=fun j:Nat×(Int×Int×List Qg×List Qi)=>(fun (k_:Int) (r3_:Int) (n4_:List Qg) (n5_:List Qi)=>(((.int .i64 (k-1):Value)=.int .i64 k_)∧((.int .i64 (q51_11 r1 r3 n4 n5).2:Value)=.int .i64 r3_)∧((sv r1X:Value)=sv r1X)∧(q51_12 r1)∧((.slice none 0 0:Value)=.slice none 0 0)∧((.slice none 0 0:Value)=.slice none 0 0)∧(Imp (.l 2 Qh (q51_17 n4 n5 r1 r3).1.Qb) (.l 2 Qh n4_))∧(Imp (.l 2 Qj (q51_17 n4 n5 r1 r3).1.Qa) (.l 2 Qj n5_))∧((runL (F51_s0 r1 n n1) j.1 j.2=(q51_9 r1 n n1)∧Int.toNat k_<j.1∧0≤k_∧Qv (⟨n4_,n5_⟩:Qe)∧0≤r3_∧r3_+13*k_≤r1.p+150)∧j.1<i0.1))) j.2.1 j.2.2.1 j.2.2.2.1 j.2.2.2.2) (m0,((k-1),(q51_11 r1 r3 n4 n5).2,(q51_17 n4 n5 r1 r3).1.Qb,(q51_17 n4 n5 r1 r3).1.Qa)) (ai (rfl) (ai (rfl) (ai (rfl) (ai (ir) (ai (rfl) (ai (rfl) (ai (ir) (ai (ir) (ai (ai (runL_next hI0 (condT h8 (condF h10 (condF h13 (rfl))))) (ai ((by first | omega | (simp only [lens] at*<;> omega) | assumption | omega | exact labGuard_net (by assumption) _ _ | exact labTear_net _ _ _ (by assumption) | exact labLay_net (by assumption) _:Int.toNat (k-1)<m0)) (ai ((by first | omega | (simp only [lens] at*<;> omega) | assumption | omega | exact labGuard_net (by assumption) _ _ | exact labTear_net _ _ _ (by assumption) | exact labLay_net (by assumption) _:0≤(k-1))) (ai ((by first | omega | (simp only [lens] at*<;> omega) | assumption | omega | exact labGuard_net (by assumption) _ _ | exact labTear_net _ _ _ (by assumption) | exact labLay_net (by assumption) _:Qv (⟨(q51_17 n4 n5 r1 r3).1.Qb,(q51_17 n4 n5 r1 r3).1.Qa⟩:Qe))) (ai ((by first | omega | (simp only [lens] at*<;> omega) | assumption | omega | exact labGuard_net (by assumption) _ _ | exact labTear_net _ _ _ (by assumption) | exact labLay_net (by assumption) _:0≤(q51_11 r1 r3 n4 n5).2)) ((by first | omega | (simp only [lens] at*<;> omega) | assumption | omega | exact labGuard_net (by assumption) _ _ | exact labTear_net _ _ _ (by assumption) | exact labLay_net (by assumption) _:(q51_11 r1 r3 n4 n5).2+13*(k-1)≤r1.p+150))))))) hl0)))))))))))))) (path_q (q51_2 r1 r3) (⟨n4,n5⟩:Qe) (by first | omega | (have hq:=Qv.b8' (by assumption:Qv (⟨n4,n5⟩:Qe)); simp only at hq; omega):0≤(q51_8 r1 r3).2) (by first | omega | (have hq:=Qv.b8' (by assumption:Qv (⟨n4,n5⟩:Qe)); simp only at hq; omega):(q51_8 r1 r3).2≤900000000) (by first | omega | (have hq:=Qv.b8' (by assumption:Qv (⟨n4,n5⟩:Qe)); simp only at hq; omega):n5.length≤1000)))))))) (beqF h13))) (beqF h10))) (pick_in ⟨r1.b,r3⟩ 4 (by first | omega | (simp only [lens] at*<;> omega):0≤r3) (by first | omega | (simp only [lens] at*<;> omega):r3≤1000000000)))))))) (of_decide_eq_true h8)) (fun h8:(decide (k>0))=false=>(fun _:¬ k>0=>(fun hD0_18:(q51_9 r1 n n1)=Lp.done (k,r3,n4,n5)=>Exists.intro (p:=fun j:Int×List Qg×List Qi=>(fun (r2_:Int) (n2_:List Qg) (n3_:List Qi)=>(((.int .i64 r3:Value)=.int .i64 r2_)∧((sv r1X:Value)=sv r1X)∧(q51_12 r1)∧((.slice none 0 0:Value)=.slice none 0 0)∧((.slice none 0 0:Value)=.slice none 0 0)∧(Imp (.l 2 Qh n4) (.l 2 Qh n2_))∧(Imp (.l 2 Qj n5) (.l 2 Qj n3_))∧(F51_j1 r1 n n1)=Lp.done j∧Qv (⟨n2_,n3_⟩:Qe)∧0≤r2_∧r2_≤r1.p+158∧1≤n3_.length)) j.1 j.2.1 j.2.2) ((r3,n4,n5)) (ai (rfl) (ai (rfl) (ai (ir) (ai (rfl) (ai (rfl) (ai (ir) (ai (ir) (ai (Eq.symm (finD hD0_18 (rfl))) (ai ((by first | omega | (simp only [lens] at*<;> omega) | first | assumption | omega | exact gAll_net' (by assumption) | exact Qv.b18 (by assumption):Qv (⟨n4,n5⟩:Qe))) (ai ((by first | omega | (simp only [lens] at*<;> omega) | first | assumption | omega | exact gAll_net' (by assumption) | exact Qv.b18 (by assumption):0≤r3)) (ai ((by first | omega | (simp only [lens] at*<;> omega) | first | assumption | omega | exact gAll_net' (by assumption) | exact Qv.b18 (by assumption):r3≤r1.p+158)) ((by first | omega | (simp only [lens] at*<;> omega) | first | assumption | omega | exact gAll_net' (by assumption) | exact Qv.b18 (by assumption):1≤n5.length)))))))))))))) (runL_done hI0 (condF h8 (rfl)))) (of_decide_eq_false h8))) (i0.1-1) i0.2.1 i0.2.2.1 i0.2.2.2.1 i0.2.2.2.2 (hd1 hi0.1 hi0.2.1) (hd2 hi0.2.1) (hd3 hi0.2.1) hi0.2.2.1 hi0.2.2.2.1 hi0.2.2.2.2.1 hi0.2.2.2.2.2)) (pick_in ⟨r1.b,(q51_1 r1).2⟩ 6 (by first | omega | (simp only [lens] at*<;> omega):0≤(q51_1 r1).2) (by first | omega | (simp only [lens] at*<;> omega):(q51_1 r1).2≤1000000000)))))))) (fun (j:Int×List Qg×List Qi) (hj:(fun (r2:Int) (n2:List Qg) (n3:List Qi)=>((F51_j1 r1 n n1)=Lp.done j∧Qv (⟨n2,n3⟩:Qe)∧0≤r2∧r2≤r1.p+158∧1≤n3.length)) j.1 j.2.1 j.2.2)=>(fun (r2:Int) (n2:List Qg) (n3:List Qi) (hJ1_19:(F51_j1 r1 n n1)=Lp.done (r2,n2,n3)) (_:Qv (⟨n2,n3⟩:Qe)) (_:0≤r2) (_:r2≤r1.p+158) (_:1≤n3.length)=>ai ((ai ((by first | omega | (simp only [lens] at*<;> omega):0≤r2)) (ai ((by first | omega | (simp only [lens] at*<;> omega):r2≤1000000000)) ((by first | omega | (simp only [lens] at*<;> omega):r1.b.length≤2000))))) (ai ((Eq.refl (sv r1X))) (ai (q51_16 r1) (ai ((Imps.refl [.v (vI r2)])) (ai ((Imp.refl (.v (vI 30)))) ((fun gv20:0≤((q51_13 r1 r2)).1∧(1≤(30:Int)→((q51_13 r1 r2)).1<(30:Int))∧((q51_13 r1 r2)).2=r2+1=>ai (fun h21:((q51_13 r1 r2).1==0)=true=>(fun _:(q51_13 r1 r2).1=0=>fun (_:n2.length≤9223372036854775807)=>fun (_:n3.length≤9223372036854775807)=>ai (ai (rfl) (ai (rfl) (ai (rfl) (ai (ir) (ai (rfl) (ai (rfl) (ai (ir) (ai (ir) ((ai (rfl:runL (F51_s1 r1 n n1 r2 n2 n3) ((Int.toNat (60-1+1))+1) (1,n3)=(q51_15 r1 n n1 r2 n2 n3)) (ai ((Nat.lt_succ_self _:Int.toNat (60-1+1)<((Int.toNat (60-1+1))+1))) (ai ((by first | omega | (simp only [lens] at*<;> omega) | assumption | omega | exact put_one (by assumption) (by omega) (by omega) (by assumption):Qv (⟨n2,n3⟩:Qe))) (ai ((by first | omega | (simp only [lens] at*<;> omega) | assumption | omega | exact put_one (by assumption) (by omega) (by omega) (by assumption):(1:Int)≤1)) (ai ((by first | omega | (simp only [lens] at*<;> omega) | assumption | omega | exact put_one (by assumption) (by omega) (by omega) (by assumption):1≤n3.length)) (ai ((by first | omega | (simp only [lens] at*<;> omega) | assumption | omega | exact put_one (by assumption) (by omega) (by omega) (by assumption):(0:Int)≤1)) ((by first | omega | (simp only [lens] at*<;> omega) | assumption | omega | exact put_one (by assumption) (by omega) (by omega) (by assumption):n3.length=n3.length)))))))))))))))):((.int .i64 1:Value)=.int .i64 1)∧((.int .i64 (q51_13 r1 r2).2:Value)=.int .i64 (q51_13 r1 r2).2)∧((sv r1X:Value)=sv r1X)∧(q51_12 r1)∧((.slice none 0 0:Value)=.slice none 0 0)∧((.slice none 0 0:Value)=.slice none 0 0)∧(Imp (.l 2 Qh n2) (.l 2 Qh n2))∧(Imp (.l 2 Qj n3) (.l 2 Qj n3))∧(runL (F51_s1 r1 n n1 r2 n2 n3) ((Int.toNat (60-1+1))+1) (1,n3)=(q51_15 r1 n n1 r2 n2 n3)∧Int.toNat (60-1+1)<((Int.toNat (60-1+1))+1)∧Qv (⟨n2,n3⟩:Qe)∧(1:Int)≤1∧1≤n3.length∧(0:Int)≤1∧n3.length=n3.length)) (fun (i1:Nat×(Int×List Qi)) (hi1:runL (F51_s1 r1 n n1 r2 n2 n3) i1.1 i1.2=(q51_15 r1 n n1 r2 n2 n3)∧(fun (i40:Int) (xs:List Qi)=>(Int.toNat (60-i40+1)<i1.1∧Qv (⟨n2,xs⟩:Qe)∧(1:Int)≤i40∧1≤xs.length∧(0:Int)≤i40∧xs.length=n3.length)) i1.2.1 i1.2.2)=>(fun (m1:Nat) (i40:Int) (xs:List Qi) (hI1:runL (F51_s1 r1 n n1 r2 n2 n3) (m1+1) (i40,xs)=(q51_15 r1 n n1 r2 n2 n3)) (_:Int.toNat (60-i40+1)<m1+1) (hl1:m1<i1.1) (_:Qv (⟨n2,xs⟩:Qe)) (_:(1:Int)≤i40) (_:1≤xs.length) (_:(0:Int)≤i40) (_:xs.length=n3.length)=>ai (fun h23:(decide (i40≤60))=true=>(fun _:i40≤60=>ai ((by first | omega | (simp only [lens] at*<;> omega):0≤(0:Int)∧(0:Int)<(xs.length:Int))) (ai (trivial) (ai ((Imps.refl (Qj (q51_6 xs)))) (ai ((Imp.refl (.v (vI i40)))) ((fun gv24:(oix (rowIx (q51_6 xs) i40))<((q51_6 xs).Rows.length:Int)=>ai (fun h25:(decide ((oix (rowIx (q51_6 xs) i40))<0))=true=>(fun _:(oix (rowIx (q51_6 xs) i40))<0=>ai ((by first | omega | (simp only [lens] at*<;> omega):0≤(0:Int)∧(0:Int)<(xs.length:Int))) (ai (((by first | omega | exact put_len (by assumption:Qv (⟨n2,xs⟩:Qe)) _:(q51_6 xs).Rows.length≤1000000000))) (ai ((Imp.refl (.l 3 Ql (q51_6 xs).Rows))) (ai ((Imps.refl (Ql (⟨i40,(-1),0⟩:Qk)))) (ai ((by first | omega | (simp only [lens] at*<;> omega):0≤(0:Int)∧(0:Int)<(xs.length:Int))) (ai ((SetOK.mk Qj xs (⟨(putK (fun x:Qk=>x.In) (q51_6 xs).Rows (⟨i40,(-1),0⟩:Qk)),(q51_6 xs).Qc⟩:Qi) rfl (by exact ai ir (ai ir (trivial))):SetOK (.l 2 Qj xs) (Int.toNat 0) (Qj (q51_6 xs)) [.l 3 Ql (putK (fun x:Qk=>x.In) (q51_6 xs).Rows (⟨i40,(-1),0⟩:Qk)),.l 3 Qo (q51_6 xs).Qc] (.l 2 Qj (xs.set (Int.toNat 0) (⟨(putK (fun x:Qk=>x.In) (q51_6 xs).Rows (⟨i40,(-1),0⟩:Qk)),(q51_6 xs).Qc⟩:Qi))))) (ai ((by unfold i64ok; first | omega | (simp only [lens] at*<;> omega):i64ok (i40+1))) (Exists.intro (p:=fun j:Nat×(Int×List Qi)=>(fun (i40_:Int) (xs_:List Qi)=>(((.int .i64 (i40+1):Value)=.int .i64 i40_)∧((.int .i64 (q51_13 r1 r2).2:Value)=.int .i64 (q51_13 r1 r2).2)∧((sv r1X:Value)=sv r1X)∧(q51_12 r1)∧((.slice none 0 0:Value)=.slice none 0 0)∧((.slice none 0 0:Value)=.slice none 0 0)∧(Imp (.l 2 Qh n2) (.l 2 Qh n2))∧(Imp (.l 2 Qj (xs.set (Int.toNat 0) (⟨(putK (fun x:Qk=>x.In) (q51_6 xs).Rows (⟨i40,(-1),0⟩:Qk)),(q51_6 xs).Qc⟩:Qi))) (.l 2 Qj xs_))∧((runL (F51_s1 r1 n n1 r2 n2 n3) j.1 j.2=(q51_15 r1 n n1 r2 n2 n3)∧Int.toNat (60-i40_+1)<j.1∧Qv (⟨n2,xs_⟩:Qe)∧(1:Int)≤i40_∧1≤xs_.length∧(0:Int)≤i40_∧xs_.length=n3.length)∧j.1<i1.1))) j.2.1 j.2.2) (m1,((i40+1),(xs.set (Int.toNat 0) (⟨(putK (fun x:Qk=>x.In) (q51_6 xs).Rows (⟨i40,(-1),0⟩:Qk)),(q51_6 xs).Qc⟩:Qi)))) (ai (rfl) (ai (rfl) (ai (rfl) (ai (ir) (ai (rfl) (ai (rfl) (ai (ir) (ai (ir) (ai (ai (runL_next hI1 (condT h23 (condT h25 (rfl)))) (ai ((by first | omega | (simp only [lens] at*<;> omega) | assumption | omega | exact put_one (by assumption) (by omega) (by omega) (by assumption):Int.toNat (60-(i40+1)+1)<m1)) (ai ((by first | omega | (simp only [lens] at*<;> omega) | assumption | omega | exact put_one (by assumption) (by omega) (by omega) (by assumption):Qv (⟨n2,(xs.set (Int.toNat 0) (⟨(putK (fun x:Qk=>x.In) (q51_6 xs).Rows (⟨i40,(-1),0⟩:Qk)),(q51_6 xs).Qc⟩:Qi))⟩:Qe))) (ai ((by first | omega | (simp only [lens] at*<;> omega) | assumption | omega | exact put_one (by assumption) (by omega) (by omega) (by assumption):(1:Int)≤(i40+1))) (ai ((by first | omega | (simp only [lens] at*<;> omega) | assumption | omega | exact put_one (by assumption) (by omega) (by omega) (by assumption):1≤(xs.set (Int.toNat 0) (⟨(putK (fun x:Qk=>x.In) (q51_6 xs).Rows (⟨i40,(-1),0⟩:Qk)),(q51_6 xs).Qc⟩:Qi)).length)) (ai ((by first | omega | (simp only [lens] at*<;> omega) | assumption | omega | exact put_one (by assumption) (by omega) (by omega) (by assumption):(0:Int)≤(i40+1))) ((by first | omega | (simp only [lens] at*<;> omega) | assumption | omega | exact put_one (by assumption) (by omega) (by omega) (by assumption):(xs.set (Int.toNat 0) (⟨(putK (fun x:Qk=>x.In) (q51_6 xs).Rows (⟨i40,(-1),0⟩:Qk)),(q51_6 xs).Qc⟩:Qi)).length=n3.length)))))))) hl1))))))))))))))))) (of_decide_eq_true h25)) (fun h25:(decide ((oix (rowIx (q51_6 xs) i40))<0))=false=>(fun _:¬ (oix (rowIx (q51_6 xs) i40))<0=>ai ((by unfold i64ok; first | omega | (simp only [lens] at*<;> omega):i64ok (i40+1))) (Exists.intro (p:=fun j:Nat×(Int×List Qi)=>(fun (i40_:Int) (xs_:List Qi)=>(((.int .i64 (i40+1):Value)=.int .i64 i40_)∧((.int .i64 (q51_13 r1 r2).2:Value)=.int .i64 (q51_13 r1 r2).2)∧((sv r1X:Value)=sv r1X)∧(q51_12 r1)∧((.slice none 0 0:Value)=.slice none 0 0)∧((.slice none 0 0:Value)=.slice none 0 0)∧(Imp (.l 2 Qh n2) (.l 2 Qh n2))∧(Imp (.l 2 Qj xs) (.l 2 Qj xs_))∧((runL (F51_s1 r1 n n1 r2 n2 n3) j.1 j.2=(q51_15 r1 n n1 r2 n2 n3)∧Int.toNat (60-i40_+1)<j.1∧Qv (⟨n2,xs_⟩:Qe)∧(1:Int)≤i40_∧1≤xs_.length∧(0:Int)≤i40_∧xs_.length=n3.length)∧j.1<i1.1))) j.2.1 j.2.2) (m1,((i40+1),xs)) (ai (rfl) (ai (rfl) (ai (rfl) (ai (ir) (ai (rfl) (ai (rfl) (ai (ir) (ai (ir) (ai (ai (runL_next hI1 (condT h23 (condF h25 (rfl)))) (ai ((by first | omega | (simp only [lens] at*<;> omega) | assumption | omega | exact put_one (by assumption) (by omega) (by omega) (by assumption):Int.toNat (60-(i40+1)+1)<m1)) (ai ((by first | omega | (simp only [lens] at*<;> omega) | assumption | omega | exact put_one (by assumption) (by omega) (by omega) (by assumption):Qv (⟨n2,xs⟩:Qe))) (ai ((by first | omega | (simp only [lens] at*<;> omega) | assumption | omega | exact put_one (by assumption) (by omega) (by omega) (by assumption):(1:Int)≤(i40+1))) (ai ((by first | omega | (simp only [lens] at*<;> omega) | assumption | omega | exact put_one (by assumption) (by omega) (by omega) (by assumption):1≤xs.length)) (ai ((by first | omega | (simp only [lens] at*<;> omega) | assumption | omega | exact put_one (by assumption) (by omega) (by omega) (by assumption):(0:Int)≤(i40+1))) ((by first | omega | (simp only [lens] at*<;> omega) | assumption | omega | exact put_one (by assumption) (by omega) (by omega) (by assumption):xs.length=n3.length)))))))) hl1))))))))))) (of_decide_eq_false h25))) (rowIx_lt (q51_6 xs) i40)))))) (of_decide_eq_true h23)) (fun h23:(decide (i40≤60))=false=>(fun _:¬ i40≤60=>(fun hD1_26:(q51_15 r1 n n1 r2 n2 n3)=Lp.done (i40,xs)=>(fun hF:((⟨n2,xs⟩:Qe),(q51_13 r1 r2).2)=(F51 r1)=>ai (Imp.of_eq (congrArg (fun r:Qe×Int=>Dat.l 2 Qh r.1.Qb) hF)) (ai (Imp.of_eq (congrArg (fun r:Qe×Int=>Dat.l 2 Qj r.1.Qa) hF)) (ai (ai (Imp.refl (Dat.v (sv r1X))) (ai (Imp.of_eq (congrArg (fun r:Qe×Int=>Dat.v (vI r.2)) hF)) (trivial))) (trivial)))) (finD hJ0_5 (finD hJ1_19 (condT h21 (finD hD1_26 (rfl)))))) (runL_done hI1 (condF h23 (rfl)))) (of_decide_eq_false h23))) (i1.1-1) i1.2.1 i1.2.2 (hd1 hi1.1 hi1.2.1) (hd2 hi1.2.1) (hd3 hi1.2.1) hi1.2.2.1 hi1.2.2.2.1 hi1.2.2.2.2.1 hi1.2.2.2.2.2.1 hi1.2.2.2.2.2.2)) (eq_of_beq h21)) (fun h21:((q51_13 r1 r2).1==0)=false=>(fun _:¬ (q51_13 r1 r2).1=0=>(fun hF:((⟨n2,n3⟩:Qe),(q51_13 r1 r2).2)=(F51 r1)=>ai (Imp.of_eq (congrArg (fun r:Qe×Int=>Dat.l 2 Qh r.1.Qb) hF)) (ai (Imp.of_eq (congrArg (fun r:Qe×Int=>Dat.l 2 Qj r.1.Qa) hF)) (ai (ai (Imp.refl (Dat.v (sv r1X))) (ai (Imp.of_eq (congrArg (fun r:Qe×Int=>Dat.v (vI r.2)) hF)) (trivial))) (trivial)))) (finD hJ0_5 (finD hJ1_19 (condF h21 (rfl))))) (beqF h21))) (pick_in ⟨r1.b,r2⟩ 30 (by first | omega | (simp only [lens] at*<;> omega):0≤r2) (by first | omega | (simp only [lens] at*<;> omega):r2≤1000000000)))))))) j.1 j.2.1 j.2.2 hj.1 hj.2.1 hj.2.2.1 hj.2.2.2.1 hj.2.2.2.2)) j.1 j.2 hj.1 hj.2.1 hj.2.2)) (bare_b (⟨r1.b,r1.p⟩:l71Rd) (by first | omega | (simp only [lens] at*<;> omega):0≤r1.p) (by first | omega | (simp only [lens] at*<;> omega):r1.p≤800000000))) (bare_n (⟨r1.b,r1.p⟩:l71Rd) (by first | omega | (simp only [lens] at*<;> omega):0≤r1.p) (by first | omega | (simp only [lens] at*<;> omega):r1.p≤800000000))))))) hp.1 hp.2.1 hp.2.2) (by kernel_rfl)
theorem net_j0 (r1:l71Rd) (h0:0≤r1.p) (h1:r1.p≤700000000):∃ n n1,F51_j0 r1=.done (n,n1)∧Qv (⟨n,n1⟩:Qe):=by
 have hb:=bare_n r1 h0 (by omega)
 unfold F51_j0
 cases decide ((F39 (⟨r1.b,(F72 (⟨r1.b,r1.p⟩:l71Rd)).2⟩:l71Rd) 3).1>0) with
 | true=>exact ⟨_,_,rfl,gAll_net' hb⟩
 | false=>exact ⟨_,_,rfl,hb⟩
theorem net_p (r1:l71Rd) (h0:0≤r1.p) (h1:r1.p≤700000000):Qv (F51 r1).1∧r1.p≤(F51 r1).2∧(F51 r1).2≤r1.p+160:=by
 unfold F51
 obtain ⟨n,n1,e0,hn⟩:=net_j0 r1 h0 h1
 rw [e0]
 simp only [Lp.fin]
 obtain ⟨r2,n2,n3,e1,hn2,k1,k2⟩:∃ r2 n2 n3,F51_j1 r1 n n1=.done (r2,n2,n3)∧Qv (⟨n2,n3⟩:Qe)∧r1.p≤r2∧r2≤r1.p+150:=by
  unfold F51_j1
  obtain ⟨_,_,b1,b2⟩:=bare_b r1 h0 (by omega)
  have b1:r1.p≤(F72 (⟨r1.b,r1.p⟩:l71Rd)).2:=b1
  have b2:(F72 (⟨r1.b,r1.p⟩:l71Rd)).2≤r1.p+50:=b2
  generalize (F72 (⟨r1.b,r1.p⟩:l71Rd)).2=q at b1 b2
  have e3:(F39 (⟨r1.b,q⟩:l71Rd) 3).2=q+1:=pick_p _ _
  rw [e3]
  have p1:=pick_in (⟨r1.b,q+1⟩:l71Rd) 6 (by show 0≤q+1; omega) (by show q+1≤_; omega)
  generalize F39 (⟨r1.b,q+1⟩:l71Rd) 6=P at p1
  obtain ⟨k,r2⟩:=P
  simp only at p1 ⊢
  obtain ⟨s',h,i1,_⟩:=runL_meas (step:=F51_s0 r1 n n1) (fun s=>0≤s.1∧Qv (⟨s.2.2.1,s.2.2.2⟩:Qe)∧r1.p≤s.2.1∧s.2.1+12*s.1≤r1.p+150) (fun s=>Int.toNat s.1) (fun _=>True)
   (fun s ⟨i1,i2,i3,i4⟩=>by
    obtain ⟨k,r3,n4,n5⟩:=s
    simp only at i1 i2 i3 i4
    simp only [F51_s0]
    cases hc:decide (k>0) with
    | false=>exact .inl ⟨rfl,trivial⟩
    | true =>
     have hc:=of_decide_eq_true hc
     refine .inr ?_
     have e4:(F39 (⟨r1.b,r3⟩:l71Rd) 4).2=r3+1:=pick_p _ _
     simp only [cond_true,e4]
     cases (F39 (⟨r1.b,r3⟩:l71Rd) 4).1==0 with
     | true =>
      simp only [cond_true]
      cases decide ((n4.length:Int)>0) with
      | true=>exact ⟨(_,_,_,_),rfl,⟨by simp only; omega,labGuard_net i2 _ _,by simp only [pick_p]; omega,by simp only [pick_p]; omega⟩,by simp only; omega⟩
      | false=>exact ⟨(_,_,_,_),rfl,⟨by simp only; omega,i2,by simp only; omega,by simp only; omega⟩,by simp only; omega⟩
     | false =>
      simp only [cond_false]
      cases (F39 (⟨r1.b,r3⟩:l71Rd) 4).1==1 with
      | true=>exact ⟨(_,_,_,_),rfl,⟨by simp only; omega,labTear_net _ _ _ i2,by simp only [pick_p]; omega,by simp only [pick_p]; omega⟩,by simp only; omega⟩
      | false =>
       have hp:=path_ok (⟨r1.b,r3+1⟩:l71Rd) (⟨n4,n5⟩:Qe) i2.frame (by show 0≤r3+1; omega) (by show r3+1≤_; omega)
       obtain ⟨_,hp1,hp2⟩:=hp
       have hp1:r3+1≤_:=hp1
       have hp2:_≤r3+1+10:=hp2
       exact ⟨(_,_,_,_),rfl,⟨by simp only; omega,labLay_net i2 _,by simp only; omega,by simp only; omega⟩,by simp only; omega⟩)
   (Int.toNat k+1) (k,r2,n,n1) ⟨p1.1,hn,by simp only; omega,by simp only; omega⟩ (by simp only; omega)
  rw [h]
  obtain ⟨k',r4,n4,n5⟩:=s'
  simp only at i1
  exact ⟨r4,n4,n5,rfl,i1.2.1,i1.2.2.1,by omega⟩
 rw [e1]
 simp only [Lp.fin]
 have e5:(F39 (⟨r1.b,r2⟩:l71Rd) 30).2=r2+1:=pick_p _ _
 rw [e5]
 cases (F39 (⟨r1.b,r2⟩:l71Rd) 30).1==0 with
 | false=>exact ⟨hn2,by simp only [cond_false]; omega,by simp only [cond_false]; omega⟩
 | true =>
  simp only [cond_true]
  obtain ⟨s',h,i1,_⟩:=runL_meas (step:=F51_s1 r1 n n1 r2 n2 n3) (fun s=>(1:Int)≤s.1∧Qv (⟨n2,s.2⟩:Qe)) (fun s=>Int.toNat (60-s.1+1)) (fun _=>True)
   (fun s ⟨i1,i2⟩=>by
    obtain ⟨i,xs⟩:=s
    simp only at i1 i2
    simp only [F51_s1]
    cases hc:decide (i≤60) with
    | false=>exact .inl ⟨rfl,trivial⟩
    | true =>
     have hc:=of_decide_eq_true hc
     refine .inr ?_
     simp only [cond_true]
     cases hd:decide (oix (rowIx (xs.getD (Int.toNat 0) default) i)<0) with
     | true=>exact ⟨(_,_),rfl,⟨by simp only; omega,put_one i2 i1 hc (of_decide_eq_true hd)⟩,by simp only; omega⟩
     | false=>exact ⟨(_,_),rfl,⟨by simp only; omega,i2⟩,by simp only; omega⟩)
   (Int.toNat (60-1+1)+1) (1,n3) ⟨by simp,hn2⟩ (by simp)
  rw [h]
  obtain ⟨i,xs⟩:=s'
  exact ⟨i1.2,by simp only; omega,by simp only; omega⟩
theorem net_n (r1:l71Rd) (h0:0≤r1.p) (h1:r1.p≤700000000):Qv (F51 r1).1:=(net_p r1 h0 h1).1
theorem net_q (r1:l71Rd) (h0:0≤r1.p) (h1:r1.p≤700000000):r1.p≤(F51 r1).2∧(F51 r1).2≤r1.p+160∧1≤(F51 r1).1.Qa.length∧(F51 r1).1.Qa.length≤8∧(F51 r1).1.Qb.length≤14 :=
 have h:=net_p r1 h0 h1
 ⟨h.2.1,h.2.2,h.1.frame.b1,h.1.frame.b8,h.1.frame.l14⟩

structure Small (n:Qe):Prop where
 l:n.Qb.length≤15
 b:n.Qa.length≤9
 r:∀ k:Nat,(n.Qa.getD k default).Rows.length≤60
 g:∀ k:Nat,(n.Qa.getD k default).Qc.length≤60
theorem Small.set {n:Qe} (h:Small n) (i:Nat) (b:Qi) (h1:b.Rows.length≤60) (h2:b.Qc.length≤60):Small ⟨n.Qb,n.Qa.set i b⟩:=by
 refine ⟨h.l,by show (n.Qa.set i b).length≤9; rw [List.length_set]; exact h.b,fun k=>?_,fun k=>?_⟩
 ·show ((n.Qa.set i b).getD k default).Rows.length≤60
  rw [getD_set]
  split
  ·exact h1
  ·exact h.r k
 ·show ((n.Qa.set i b).getD k default).Qc.length≤60
  rw [getD_set]
  split
  ·exact h2
  ·exact h.g k


def F59 (r1:l71Rd) (n:Qe) (box:Int):Int×Int :=
 bif (bif (bif (decide (0≤box∧box≤((n.Qa.length:Int)-1))) then decide (((n.Qa.getD box.toNat default).Rows.length:Int)>0) else false) then decide ((F39 ⟨r1.b,r1.p⟩ 8).1>0) else false) then (((n.Qa.getD box.toNat default).Rows.getD (F39 ⟨r1.b,(bif (bif (decide (0≤box∧box≤((n.Qa.length:Int)-1))) then decide (((n.Qa.getD box.toNat default).Rows.length:Int)>0) else false) then (F39 ⟨r1.b,r1.p⟩ 8).2 else r1.p)⟩ ((n.Qa.getD box.toNat default).Rows.length:Int)).1.toNat default).In,(F39 ⟨r1.b,(bif (bif (decide (0≤box∧box≤((n.Qa.length:Int)-1))) then decide (((n.Qa.getD box.toNat default).Rows.length:Int)>0) else false) then (F39 ⟨r1.b,r1.p⟩ 8).2 else r1.p)⟩ ((n.Qa.getD box.toNat default).Rows.length:Int)).2) else ((([0,1,2,60,61]:List Int).getD (F39 ⟨r1.b,(bif (bif (decide (0≤box∧box≤((n.Qa.length:Int)-1))) then decide (((n.Qa.getD box.toNat default).Rows.length:Int)>0) else false) then (F39 ⟨r1.b,r1.p⟩ 8).2 else r1.p)⟩ 5).1.toNat default),(F39 ⟨r1.b,(bif (bif (decide (0≤box∧box≤((n.Qa.length:Int)-1))) then decide (((n.Qa.getD box.toNat default).Rows.length:Int)>0) else false) then (F39 ⟨r1.b,r1.p⟩ 8).2 else r1.p)⟩ 5).2)
def S59 (r1X:SV) (gr1:Nat) (r1:l71Rd) (n:Qe) (box:Int):Spec:=⟨[.ptg gr1 104 (sv r1X) (.l 1 eByte r1.b) [.v (vI r1.p)] [.v (vI (F59 r1 n box).2)],.r (.g (Qf n)),.r (.c (.v (vI box)))],.v (vI (F59 r1 n box).1),0≤r1.p∧r1.p≤900000000∧r1.b.length≤2000∧n.Qa.length≤1000000000⟩
abbrev q59_1 (n:Qe) (box:Int):=(n.Qa.getD box.toNat default)
abbrev q59_2 (r1:l71Rd):=(F39 ⟨r1.b,r1.p⟩ 8)
theorem ok59 (r1X:SV) (gr1:Nat) (r1:l71Rd) (n:Qe) (box:Int):(S59 r1X gr1 r1 n box).ok Try.prog 59 :=
 fnG_ok mixed (fn:=Try.f59) (ct:=.seqk [(0,0)] (.no) (.seq (.seq (.reg [(4,.bnd),(5,.call 43 (S43 (decide (0≤box∧box≤((n.Qa.length:Int)-1))) box 0 ((n.Qa.length:Int)-1)) (oa43 box 0 ((n.Qa.length:Int)-1)) none),(18,.call 39 (S39 r1X 0 (⟨r1.b,r1.p⟩:l71Rd) 8) (ok39 r1X 0 (⟨r1.b,r1.p⟩:l71Rd) 8) none)]) (.cond (.seq (.reg [(14,.call 39 (S39 r1X 0 (⟨r1.b,(bif (bif (decide (0≤box∧box≤((n.Qa.length:Int)-1))) then decide (((q59_1 n box).Rows.length:Int)>0) else false) then (q59_2 r1).2 else r1.p)⟩:l71Rd) ((q59_1 n box).Rows.length:Int)) (ok39 r1X 0 (⟨r1.b,(bif (bif (decide (0≤box∧box≤((n.Qa.length:Int)-1))) then decide (((q59_1 n box).Rows.length:Int)>0) else false) then (q59_2 r1).2 else r1.p)⟩:l71Rd) ((q59_1 n box).Rows.length:Int)) none)]) (.no)) (.no))) (.seq (.reg [(0,.dat (.l 1 eInt ([0,1,2,60,61]:List Int))),(2,.call 39 (S39 r1X 0 (⟨r1.b,(bif (bif (decide (0≤box∧box≤((n.Qa.length:Int)-1))) then decide (((q59_1 n box).Rows.length:Int)>0) else false) then (q59_2 r1).2 else r1.p)⟩:l71Rd) 5) (ok39 r1X 0 (⟨r1.b,(bif (bif (decide (0≤box∧box≤((n.Qa.length:Int)-1))) then decide (((q59_1 n box).Rows.length:Int)>0) else false) then (q59_2 r1).2 else r1.p)⟩:l71Rd) 5) none)]) (.no)))) Try.func59 (fun (hp:0≤r1.p∧r1.p≤900000000∧r1.b.length≤2000∧n.Qa.length≤1000000000)=>(fun (hpre0:0≤r1.p) (hpre1:r1.p≤900000000) (hpre2:r1.b.length≤2000) (hpre3:n.Qa.length≤1000000000)=>fun (_:r1.b.length≤9223372036854775807)=>ai ((by unfold i64ok; omega:i64ok ((n.Qa.length:Int)-1))) (ai (trivial) (ai ((Imp.refl (.v (vI box)))) (ai ((Imp.refl (.v (vI 0)))) (ai ((Imp.refl (.v (vI ((n.Qa.length:Int)-1))))) (ai ((fun k1:(decide (0≤box∧box≤((n.Qa.length:Int)-1)))=true=>(fun _:0≤box∧box≤((n.Qa.length:Int)-1)=>(by first | omega | (simp only [List.length_cons,List.length_nil]; omega):0≤box∧box<(n.Qa.length:Int))) (of_decide_eq_true k1))) (ai ((fun k3:(bif (decide (0≤box∧box≤((n.Qa.length:Int)-1))) then decide (((q59_1 n box).Rows.length:Int)>0) else false)=true=>(fun _:((q59_1 n box).Rows.length:Int)>0=>(fun _:0≤box∧box≤((n.Qa.length:Int)-1)=>(ai ((by omega:0≤r1.p)) (ai ((by omega:r1.p≤1000000000)) ((by omega:r1.b.length≤2000))))) (of_decide_eq_true (andT1 k3))) (of_decide_eq_true (andT2 k3)))) (ai ((fun k4:(bif (decide (0≤box∧box≤((n.Qa.length:Int)-1))) then decide (((q59_1 n box).Rows.length:Int)>0) else false)=true=>(fun _:((q59_1 n box).Rows.length:Int)>0=>(fun _:0≤box∧box≤((n.Qa.length:Int)-1)=>(Eq.refl (sv r1X))) (of_decide_eq_true (andT1 k4))) (of_decide_eq_true (andT2 k4)))) (ai ((fun k5:(bif (decide (0≤box∧box≤((n.Qa.length:Int)-1))) then decide (((q59_1 n box).Rows.length:Int)>0) else false)=true=>(fun _:((q59_1 n box).Rows.length:Int)>0=>(fun _:0≤box∧box≤((n.Qa.length:Int)-1)=>(Imp.refl (.l 1 eByte r1.b))) (of_decide_eq_true (andT1 k5))) (of_decide_eq_true (andT2 k5)))) (ai ((fun k6:(bif (decide (0≤box∧box≤((n.Qa.length:Int)-1))) then decide (((q59_1 n box).Rows.length:Int)>0) else false)=true=>(fun _:((q59_1 n box).Rows.length:Int)>0=>(fun _:0≤box∧box≤((n.Qa.length:Int)-1)=>(Imps.refl [.v (vI r1.p)])) (of_decide_eq_true (andT1 k6))) (of_decide_eq_true (andT2 k6)))) (ai ((fun k7:(bif (decide (0≤box∧box≤((n.Qa.length:Int)-1))) then decide (((q59_1 n box).Rows.length:Int)>0) else false)=true=>(fun _:((q59_1 n box).Rows.length:Int)>0=>(fun _:0≤box∧box≤((n.Qa.length:Int)-1)=>(Imp.refl (.v (vI 8)))) (of_decide_eq_true (andT1 k7))) (of_decide_eq_true (andT2 k7)))) ((fun gv2:0≤((q59_2 r1)).1∧(1≤(8:Int)→((q59_2 r1)).1<(8:Int))∧((q59_2 r1)).2=r1.p+1=>ai (fun h8:(bif (bif (decide (0≤box∧box≤((n.Qa.length:Int)-1))) then decide (((q59_1 n box).Rows.length:Int)>0) else false) then decide ((q59_2 r1).1>0) else false)=true=>(fun _:(q59_2 r1).1>0=>(fun _:((q59_1 n box).Rows.length:Int)>0=>(fun _:0≤box∧box≤((n.Qa.length:Int)-1)=>ai ((by first | omega | (simp only [List.length_cons,List.length_nil]; omega):0≤box∧box<(n.Qa.length:Int))) (ai ((by first | omega | (simp only [List.length_cons,List.length_nil]; omega):0≤box∧box<(n.Qa.length:Int))) (ai ((ai ((by first | omega | (simp only [Bool.cond_eq_ite,pick_p]; split <;> omega):0≤(bif (bif (decide (0≤box∧box≤((n.Qa.length:Int)-1))) then decide (((q59_1 n box).Rows.length:Int)>0) else false) then (q59_2 r1).2 else r1.p))) (ai ((by first | omega | (simp only [Bool.cond_eq_ite,pick_p]; split <;> omega):(bif (bif (decide (0≤box∧box≤((n.Qa.length:Int)-1))) then decide (((q59_1 n box).Rows.length:Int)>0) else false) then (q59_2 r1).2 else r1.p)≤1000000000)) ((by omega:r1.b.length≤2000))))) (ai ((Eq.refl (sv r1X))) (ai ((Imp.refl (.l 1 eByte r1.b))) (ai ((Imps.refl [.v (vI (bif (bif (decide (0≤box∧box≤((n.Qa.length:Int)-1))) then decide (((q59_1 n box).Rows.length:Int)>0) else false) then (q59_2 r1).2 else r1.p))])) (ai ((Imp.refl (.v (vI ((q59_1 n box).Rows.length:Int))))) ((fun gv9:0≤((F39 ⟨r1.b,(bif (bif (decide (0≤box∧box≤((n.Qa.length:Int)-1))) then decide (((q59_1 n box).Rows.length:Int)>0) else false) then (q59_2 r1).2 else r1.p)⟩ ((q59_1 n box).Rows.length:Int))).1∧(1≤((q59_1 n box).Rows.length:Int)→((F39 ⟨r1.b,(bif (bif (decide (0≤box∧box≤((n.Qa.length:Int)-1))) then decide (((q59_1 n box).Rows.length:Int)>0) else false) then (q59_2 r1).2 else r1.p)⟩ ((q59_1 n box).Rows.length:Int))).1<((q59_1 n box).Rows.length:Int))∧((F39 ⟨r1.b,(bif (bif (decide (0≤box∧box≤((n.Qa.length:Int)-1))) then decide (((q59_1 n box).Rows.length:Int)>0) else false) then (q59_2 r1).2 else r1.p)⟩ ((q59_1 n box).Rows.length:Int))).2=(bif (bif (decide (0≤box∧box≤((n.Qa.length:Int)-1))) then decide (((q59_1 n box).Rows.length:Int)>0) else false) then (q59_2 r1).2 else r1.p)+1=>ai ((by first | omega | (simp only [List.length_cons,List.length_nil]; omega):0≤(F39 ⟨r1.b,(bif (bif (decide (0≤box∧box≤((n.Qa.length:Int)-1))) then decide (((q59_1 n box).Rows.length:Int)>0) else false) then (q59_2 r1).2 else r1.p)⟩ ((q59_1 n box).Rows.length:Int)).1∧(F39 ⟨r1.b,(bif (bif (decide (0≤box∧box≤((n.Qa.length:Int)-1))) then decide (((q59_1 n box).Rows.length:Int)>0) else false) then (q59_2 r1).2 else r1.p)⟩ ((q59_1 n box).Rows.length:Int)).1<((q59_1 n box).Rows.length:Int))) ((fun hF:(((q59_1 n box).Rows.getD (F39 ⟨r1.b,(bif (bif (decide (0≤box∧box≤((n.Qa.length:Int)-1))) then decide (((q59_1 n box).Rows.length:Int)>0) else false) then (q59_2 r1).2 else r1.p)⟩ ((q59_1 n box).Rows.length:Int)).1.toNat default).In,(F39 ⟨r1.b,(bif (bif (decide (0≤box∧box≤((n.Qa.length:Int)-1))) then decide (((q59_1 n box).Rows.length:Int)>0) else false) then (q59_2 r1).2 else r1.p)⟩ ((q59_1 n box).Rows.length:Int)).2)=(F59 r1 n box)=>ai (congrArg (fun r:Int×Int=>(.int .i64 r.1:Value)) hF) (ai (ai (Imp.refl (Dat.v (sv r1X))) (ai (Imp.of_eq (congrArg (fun r:Int×Int=>Dat.v (vI r.2)) hF)) (trivial))) (trivial))) (condT h8 (rfl)))) (pick_in ⟨r1.b,(bif (bif (decide (0≤box∧box≤((n.Qa.length:Int)-1))) then decide (((q59_1 n box).Rows.length:Int)>0) else false) then (q59_2 r1).2 else r1.p)⟩ ((q59_1 n box).Rows.length:Int) (by first | omega | (simp only [Bool.cond_eq_ite,pick_p]; split <;> omega):0≤(bif (bif (decide (0≤box∧box≤((n.Qa.length:Int)-1))) then decide (((q59_1 n box).Rows.length:Int)>0) else false) then (q59_2 r1).2 else r1.p)) (by first | omega | (simp only [Bool.cond_eq_ite,pick_p]; split <;> omega):(bif (bif (decide (0≤box∧box≤((n.Qa.length:Int)-1))) then decide (((q59_1 n box).Rows.length:Int)>0) else false) then (q59_2 r1).2 else r1.p)≤1000000000)))))))))) (of_decide_eq_true (andT1 (andT1 h8)))) (of_decide_eq_true (andT2 (andT1 h8)))) (of_decide_eq_true (andT2 h8))) (fun h8:(bif (bif (decide (0≤box∧box≤((n.Qa.length:Int)-1))) then decide (((q59_1 n box).Rows.length:Int)>0) else false) then decide ((q59_2 r1).1>0) else false)=false=>ai ((BuildOK.mk eInt ([0,1,2,60,61]:List Int) rfl (by exact ai ir (ai ir (ai ir (ai ir (ai ir (trivial)))))) (fun _=>rfl):BuildOK 5 1 [.v (vI 0),.v (vI 1),.v (vI 2),.v (vI 60),.v (vI 61)] (.l 1 eInt ([0,1,2,60,61]:List Int)))) (ai ((ai ((by first | omega | (simp only [Bool.cond_eq_ite,pick_p]; split <;> omega):0≤(bif (bif (decide (0≤box∧box≤((n.Qa.length:Int)-1))) then decide (((q59_1 n box).Rows.length:Int)>0) else false) then (q59_2 r1).2 else r1.p))) (ai ((by first | omega | (simp only [Bool.cond_eq_ite,pick_p]; split <;> omega):(bif (bif (decide (0≤box∧box≤((n.Qa.length:Int)-1))) then decide (((q59_1 n box).Rows.length:Int)>0) else false) then (q59_2 r1).2 else r1.p)≤1000000000)) ((by omega:r1.b.length≤2000))))) (ai ((Eq.refl (sv r1X))) (ai ((Imp.refl (.l 1 eByte r1.b))) (ai ((Imps.refl [.v (vI (bif (bif (decide (0≤box∧box≤((n.Qa.length:Int)-1))) then decide (((q59_1 n box).Rows.length:Int)>0) else false) then (q59_2 r1).2 else r1.p))])) (ai ((Imp.refl (.v (vI 5)))) ((fun gv10:0≤((F39 ⟨r1.b,(bif (bif (decide (0≤box∧box≤((n.Qa.length:Int)-1))) then decide (((q59_1 n box).Rows.length:Int)>0) else false) then (q59_2 r1).2 else r1.p)⟩ 5)).1∧(1≤(5:Int)→((F39 ⟨r1.b,(bif (bif (decide (0≤box∧box≤((n.Qa.length:Int)-1))) then decide (((q59_1 n box).Rows.length:Int)>0) else false) then (q59_2 r1).2 else r1.p)⟩ 5)).1<(5:Int))∧((F39 ⟨r1.b,(bif (bif (decide (0≤box∧box≤((n.Qa.length:Int)-1))) then decide (((q59_1 n box).Rows.length:Int)>0) else false) then (q59_2 r1).2 else r1.p)⟩ 5)).2=(bif (bif (decide (0≤box∧box≤((n.Qa.length:Int)-1))) then decide (((q59_1 n box).Rows.length:Int)>0) else false) then (q59_2 r1).2 else r1.p)+1=>ai ((by first | omega | (simp only [List.length_cons,List.length_nil]; omega):0≤(F39 ⟨r1.b,(bif (bif (decide (0≤box∧box≤((n.Qa.length:Int)-1))) then decide (((q59_1 n box).Rows.length:Int)>0) else false) then (q59_2 r1).2 else r1.p)⟩ 5).1∧(F39 ⟨r1.b,(bif (bif (decide (0≤box∧box≤((n.Qa.length:Int)-1))) then decide (((q59_1 n box).Rows.length:Int)>0) else false) then (q59_2 r1).2 else r1.p)⟩ 5).1<(([0,1,2,60,61]:List Int).length:Int))) ((fun hF:((([0,1,2,60,61]:List Int).getD (F39 ⟨r1.b,(bif (bif (decide (0≤box∧box≤((n.Qa.length:Int)-1))) then decide (((q59_1 n box).Rows.length:Int)>0) else false) then (q59_2 r1).2 else r1.p)⟩ 5).1.toNat default),(F39 ⟨r1.b,(bif (bif (decide (0≤box∧box≤((n.Qa.length:Int)-1))) then decide (((q59_1 n box).Rows.length:Int)>0) else false) then (q59_2 r1).2 else r1.p)⟩ 5).2)=(F59 r1 n box)=>ai (congrArg (fun r:Int×Int=>(.int .i64 r.1:Value)) hF) (ai (ai (Imp.refl (Dat.v (sv r1X))) (ai (Imp.of_eq (congrArg (fun r:Int×Int=>Dat.v (vI r.2)) hF)) (trivial))) (trivial))) (condF h8 (rfl)))) (pick_in ⟨r1.b,(bif (bif (decide (0≤box∧box≤((n.Qa.length:Int)-1))) then decide (((q59_1 n box).Rows.length:Int)>0) else false) then (q59_2 r1).2 else r1.p)⟩ 5 (by first | omega | (simp only [Bool.cond_eq_ite,pick_p]; split <;> omega):0≤(bif (bif (decide (0≤box∧box≤((n.Qa.length:Int)-1))) then decide (((q59_1 n box).Rows.length:Int)>0) else false) then (q59_2 r1).2 else r1.p)) (by first | omega | (simp only [Bool.cond_eq_ite,pick_p]; split <;> omega):(bif (bif (decide (0≤box∧box≤((n.Qa.length:Int)-1))) then decide (((q59_1 n box).Rows.length:Int)>0) else false) then (q59_2 r1).2 else r1.p)≤1000000000)))))))))) (pick_in ⟨r1.b,r1.p⟩ 8 (by omega:0≤r1.p) (by omega:r1.p≤1000000000)))))))))))))) hp.1 hp.2.1 hp.2.2.1 hp.2.2.2) (by kernel_rfl)
theorem label_p (r1:l71Rd) (n:Qe) (box:Int) (h0:0≤r1.p) (h1:r1.p≤900000000):r1.p≤(F59 r1 n box).2∧(F59 r1 n box).2≤r1.p+2:=by
 unfold F59
 simp only [pick_p]
 generalize (bif decide (0≤box∧box≤(n.Qa.length:Int)-1) then decide ((((n.Qa.getD box.toNat default).Rows).length:Int)>0) else false)=c
 generalize decide ((F39 (⟨r1.b,r1.p⟩:l71Rd) 8).1>0)=d
 cases c <;> cases d <;> simp only [cond_true,cond_false,pick_p] <;> omega
def F52_s0 (r1:l71Rd) (n:Qe) (most:Int):(Int×Int×List Int)→Lp (Int×Int×List Int) (Qp×Int):=fun (k,r3,p1) =>
 bif (decide (k>0)) then (.next ((k-1),(F59 ⟨r1.b,r3⟩ n (F38 ⟨r1.b,r1.p⟩ n).1).2,(p1++[(F59 ⟨r1.b,r3⟩ n (F38 ⟨r1.b,r1.p⟩ n).1).1]))) else (.done (k,r3,p1))
def F52_j0 (r1:l71Rd) (n:Qe) (most:Int):Lp (Int×List Int) (Qp×Int) :=
 (runL (F52_s0 r1 n most) ((F39 ⟨r1.b,(F38 ⟨r1.b,r1.p⟩ n).2⟩ 4).1.toNat+1) ((F39 ⟨r1.b,(F38 ⟨r1.b,r1.p⟩ n).2⟩ 4).1,(F39 ⟨r1.b,(F38 ⟨r1.b,r1.p⟩ n).2⟩ 4).2,([]:List Int))).fin Lp.ret (fun (k,r3,p1)=>.done (r3,p1))
def F52_s1 (r1:l71Rd) (n:Qe) (most:Int) (r2:Int) (p:List Int):(Int×List Int)→Lp (Int×List Int) (Qp×Int):=fun (r4,p2) =>
 bif (decide ((p2.length:Int)<most)) then (.next ((F39 ⟨r1.b,r4⟩ 9).2,(p2++[(IntKind.i64.wrap (1+(F39 ⟨r1.b,r4⟩ 9).1))]))) else (.done (r4,p2))
def F52 (r1:l71Rd) (n:Qe) (most:Int):Qp×Int :=
 (F52_j0 r1 n most).fin (fun r=>r) (fun (r2,p)=>bif ((F39 ⟨r1.b,r2⟩ 10).1==0) then ((runL (F52_s1 r1 n most r2 p) ((most-(p.length:Int)).toNat+1) ((F39 ⟨r1.b,r2⟩ 10).2,p)).fin (fun r=>r) (fun (r4,p2)=>((⟨(F38 ⟨r1.b,r1.p⟩ n).1,p2⟩:Qp),r4))) else ((⟨(F38 ⟨r1.b,r1.p⟩ n).1,p⟩:Qp),(F39 ⟨r1.b,r2⟩ 10).2))
def S52 (r1X:SV) (gr1:Nat) (r1:l71Rd) (n:Qe) (most:Int):Spec:=⟨[.ptg gr1 104 (sv r1X) (.l 1 eByte r1.b) [.v (vI r1.p)] [.v (vI (F52 r1 n most).2)],.r (.g (Qf n)),.r (.c (.v (vI most)))],.ag [.v (vI (F52 r1 n most).1.Box),.ow (.l 1 eInt (F52 r1 n most).1.Ua)],0≤r1.p∧r1.p≤800000000∧r1.b.length≤2000∧n.Qa.length≤1000000000∧0≤most∧most≤9⟩
abbrev q52_1 (r1:l71Rd) (n:Qe):=(F39 ⟨r1.b,(F38 ⟨r1.b,r1.p⟩ n).2⟩ 4)
abbrev q52_2 (r1:l71Rd) (n:Qe):=(F38 ⟨r1.b,r1.p⟩ n)
abbrev q52_3 (r1:l71Rd) (n:Qe) (most:Int):=(runL (F52_s0 r1 n most) ((q52_1 r1 n).1.toNat+1) ((q52_1 r1 n).1,(q52_1 r1 n).2,([]:List Int)))
abbrev q52_4 (r1:l71Rd) (n:Qe) (most:Int) (r2:Int) (p:List Int):=(runL (F52_s1 r1 n most r2 p) ((most-(p.length:Int)).toNat+1) ((F39 ⟨r1.b,r2⟩ 10).2,p))
abbrev q52_5 (r1:l71Rd) (r3:Int) (n:Qe):=(F59 ⟨r1.b,r3⟩ n (q52_2 r1 n).1)
abbrev q52_6 (r1:l71Rd) (r2:Int):=(F39 ⟨r1.b,r2⟩ 10)
abbrev q52_7 (r1:l71Rd) (r4:Int):=(F39 ⟨r1.b,r4⟩ 9)
abbrev q52_8 (r1:l71Rd):=(Imp (.l 1 eByte r1.b) (.l 1 eByte r1.b))
theorem ok52 (r1X:SV) (gr1:Nat) (r1:l71Rd) (n:Qe) (most:Int):(S52 r1X gr1 r1 n most).ok Try.prog 52 :=
 fnG_ok mixed (fn:=Try.f52) (ct:=.seqk [(0,0)] (.no) (.seq (.reg [(2,.call 38 (S38 r1X 0 (⟨r1.b,r1.p⟩:l71Rd) n) (ok38 r1X 0 (⟨r1.b,r1.p⟩:l71Rd) n) none),(3,.dat (.l 1 eInt ([]:List Int)))]) (.cut (ι:=Int×List Int) (fun j=>(fun (r2:Int) (p:List Int)=>(⟨[(0,some (.p 0 0)),(2,some (.v (vI most))),(6,some (.p 2 0)),(7,some (.p 3 0))],[(0,some (.box 104 [.h 1 0,.v (vI r2)])),(1,some (.vl (sv r1X) (.l 1 eByte r1.b))),(2,some (.box 39 [.v (vI 0),.v (.slice none 0 0)])),(3,some (.box 39 [.v (vI (q52_2 r1 n).1),.h 4 0])),(4,some (.own 4 (.l 1 eInt p)))],5⟩:St)) j.1 j.2) (fun j=>(fun (r2:Int) (p:List Int)=>((F52_j0 r1 n most)=Lp.done j∧0≤r2∧r2≤r1.p+20∧p.length≤3)) j.1 j.2) (.seqk [(0,0),(4,0),(4,1),(7,1)] (.reg [(1,.call 39 (S39 r1X 0 (⟨r1.b,(q52_2 r1 n).2⟩:l71Rd) 4) (ok39 r1X 0 (⟨r1.b,(q52_2 r1 n).2⟩:l71Rd) 4) none)]) (.blk (.loop (ι:=Nat×(Int×Int×List Int)) (fun i=>(fun (k:Int) (r3:Int) (p1:List Int)=>(⟨[(0,some (.p 0 0)),(2,some (.v (vI most))),(4,some (.p 2 0)),(6,some (.p 5 0)),(7,some (.p 6 0)),(8,some (.v (vI k)))],[(0,some (.box 104 [.h 1 0,.v (vI r3)])),(1,some (.vl (sv r1X) (.l 1 eByte r1.b))),(2,some (.box 26 [.h 3 0,.h 4 0])),(3,some (.shr none (.l 2 Qh n.Qb))),(4,some (.shr none (.l 2 Qj n.Qa))),(5,some (.box 39 [.v (vI 0),.v (.slice none 0 0)])),(6,some (.box 39 [.v (vI (q52_2 r1 n).1),.h 7 0])),(7,some (.own 7 (.l 1 eInt p1)))],8⟩:St)) i.2.1 i.2.2.1 i.2.2.2) (fun i=>runL (F52_s0 r1 n most) i.1 i.2=(q52_3 r1 n most)∧(fun (k:Int) (r3:Int) (p1:List Int)=>(Int.toNat k<i.1∧0≤k∧0≤r3∧r3+3*k≤r1.p+15∧(p1.length:Int)+k≤3)) i.2.1 i.2.2.1 i.2.2.2) (fun i=>i.1) (((q52_1 r1 n).1.toNat+1),((q52_1 r1 n).1,(q52_1 r1 n).2,([]:List Int))) (fun i=>(fun (k:Int) (r3:Int) (p1:List Int)=>(.seq (.seq (.no) (.cond (.no) (.no))) (.seq (.blk (.reg [(6,.call 59 (S59 r1X 1 (⟨r1.b,r3⟩:l71Rd) n (q52_2 r1 n).1) (ok59 r1X 1 (⟨r1.b,r3⟩:l71Rd) n (q52_2 r1 n).1) none),(8,.dat (.l 1 eInt (p1++[(q52_5 r1 r3 n).1])))])) (.reg [(1,.bnd)])))) i.2.1 i.2.2.1 i.2.2.2)))) (fun j=>(fun (r2:Int) (p:List Int)=>(.seq (.seq (.reg [(1,.call 39 (S39 r1X 1 (⟨r1.b,r2⟩:l71Rd) 10) (ok39 r1X 1 (⟨r1.b,r2⟩:l71Rd) 10) none)]) (.cond (.blk (.loop (ι:=Nat×(Int×List Int)) (fun i=>(fun (r4:Int) (p2:List Int)=>(⟨[(0,some (.p 0 0)),(2,some (.v (vI most))),(6,some (.p 2 0)),(7,some (.p 3 0))],[(0,some (.box 104 [.h 1 0,.v (vI r4)])),(1,some (.vl (sv r1X) (.l 1 eByte r1.b))),(2,some (.box 39 [.v (vI 0),.v (.slice none 0 0)])),(3,some (.box 39 [.v (vI (q52_2 r1 n).1),.h 4 0])),(4,some (.own 4 (.l 1 eInt p2)))],5⟩:St)) i.2.1 i.2.2) (fun i=>runL (F52_s1 r1 n most r2 p) i.1 i.2=(q52_4 r1 n most r2 p)∧(fun (r4:Int) (p2:List Int)=>(Int.toNat (most-(p2.length:Int))<i.1∧0≤r4∧r4+9-(p2.length:Int)≤r1.p+30∧p2.length≤9)) i.2.1 i.2.2) (fun i=>i.1) (((most-(p.length:Int)).toNat+1),((q52_6 r1 r2).2,p)) (fun i=>(fun (r4:Int) (p2:List Int)=>(.seq (.seq (.no) (.cond (.no) (.no))) (.blk (.reg [(3,.call 39 (S39 r1X 1 (⟨r1.b,r4⟩:l71Rd) 9) (ok39 r1X 1 (⟨r1.b,r4⟩:l71Rd) 9) none),(6,.dat (.l 1 eInt (p2++[(IntKind.i64.wrap (1+(q52_7 r1 r4).1))])))])))) i.2.1 i.2.2))) (.no))) (.seq (.no) (.no)))) j.1 j.2)))) Try.func52 (fun (hp:0≤r1.p∧r1.p≤800000000∧r1.b.length≤2000∧n.Qa.length≤1000000000∧0≤most∧most≤9)=>(fun (hpre0:0≤r1.p) (hpre1:r1.p≤800000000) (hpre2:r1.b.length≤2000) (hpre3:n.Qa.length≤1000000000) (hpre4:0≤most) (hpre5:most≤9)=>fun (_:r1.b.length≤9223372036854775807)=>ai ((ai ((by first | omega | (simp only [lens] at*<;> omega):0≤r1.p)) (ai ((by first | omega | (simp only [lens] at*<;> omega):r1.p≤900000000)) (ai ((by first | omega | (simp only [lens] at*<;> omega):r1.b.length≤2000)) ((by first | omega | (simp only [lens] at*<;> omega):n.Qa.length≤1000000000)))))) (ai ((Eq.refl (sv r1X))) (ai ((Imp.refl (.l 1 eByte r1.b))) (ai ((Imps.refl [.v (vI r1.p)])) (ai ((Imps.refl (Qf n))) ((fun gv1:r1.p≤((q52_2 r1 n)).2∧((q52_2 r1 n)).2≤r1.p+2=>ai ((BuildOK.mk eInt ([]:List Int) rfl (by exact trivial) (fun _=>rfl):BuildOK 0 1 [] (.l 1 eInt ([]:List Int)))) (ai (ai ((ai ((by first | omega | (simp only [lens] at*<;> omega):0≤(q52_2 r1 n).2)) (ai ((by first | omega | (simp only [lens] at*<;> omega):(q52_2 r1 n).2≤1000000000)) ((by first | omega | (simp only [lens] at*<;> omega):r1.b.length≤2000))))) (ai ((Eq.refl (sv r1X))) (ai ((Imp.refl (.l 1 eByte r1.b))) (ai ((Imps.refl [.v (vI (q52_2 r1 n).2)])) (ai ((Imp.refl (.v (vI 4)))) ((fun gv2:0≤((q52_1 r1 n)).1∧(1≤(4:Int)→((q52_1 r1 n)).1<(4:Int))∧((q52_1 r1 n)).2=(q52_2 r1 n).2+1=>fun (_:r1.b.length≤9223372036854775807)=>fun (_:n.Qb.length≤9223372036854775807)=>fun (_:n.Qa.length≤9223372036854775807)=>fun (_:([]:List Int).length≤9223372036854775807)=>ai (ai (rfl) (ai (rfl) (ai (rfl) (ai (rfl) (ai (ir) (ai (ir) (ai (ir) (ai (rfl) (ai (rfl) (ai (rfl) (ai (ir) ((ai (rfl:runL (F52_s0 r1 n most) ((q52_1 r1 n).1.toNat+1) ((q52_1 r1 n).1,(q52_1 r1 n).2,([]:List Int))=(q52_3 r1 n most)) (ai ((Nat.lt_succ_self _:Int.toNat (q52_1 r1 n).1<((q52_1 r1 n).1.toNat+1))) (ai ((by first | omega | (simp only [lens] at*<;> omega):0≤(q52_1 r1 n).1)) (ai ((by first | omega | (simp only [lens] at*<;> omega):0≤(q52_1 r1 n).2)) (ai ((by first | omega | (simp only [lens] at*<;> omega):(q52_1 r1 n).2+3*(q52_1 r1 n).1≤r1.p+15)) ((by first | omega | (simp only [lens] at*<;> omega):(([]:List Int).length:Int)+(q52_1 r1 n).1≤3)))))))))))))))))):((.int .i64 most:Value)=.int .i64 most)∧((.int .i64 (q52_1 r1 n).1:Value)=.int .i64 (q52_1 r1 n).1)∧((.int .i64 (q52_1 r1 n).2:Value)=.int .i64 (q52_1 r1 n).2)∧((sv r1X:Value)=sv r1X)∧(q52_8 r1)∧(Imp (.l 2 Qh n.Qb) (.l 2 Qh n.Qb))∧(Imp (.l 2 Qj n.Qa) (.l 2 Qj n.Qa))∧((.int .i64 0:Value)=.int .i64 0)∧((.slice none 0 0:Value)=.slice none 0 0)∧((.int .i64 (q52_2 r1 n).1:Value)=.int .i64 (q52_2 r1 n).1)∧(Imp (.l 1 eInt ([]:List Int)) (.l 1 eInt ([]:List Int)))∧(runL (F52_s0 r1 n most) ((q52_1 r1 n).1.toNat+1) ((q52_1 r1 n).1,(q52_1 r1 n).2,([]:List Int))=(q52_3 r1 n most)∧Int.toNat (q52_1 r1 n).1<((q52_1 r1 n).1.toNat+1)∧0≤(q52_1 r1 n).1∧0≤(q52_1 r1 n).2∧(q52_1 r1 n).2+3*(q52_1 r1 n).1≤r1.p+15∧(([]:List Int).length:Int)+(q52_1 r1 n).1≤3)) (fun (i0:Nat×(Int×Int×List Int)) (hi0:runL (F52_s0 r1 n most) i0.1 i0.2=(q52_3 r1 n most)∧(fun (k:Int) (r3:Int) (p1:List Int)=>(Int.toNat k<i0.1∧0≤k∧0≤r3∧r3+3*k≤r1.p+15∧(p1.length:Int)+k≤3)) i0.2.1 i0.2.2.1 i0.2.2.2)=>(fun (m0:Nat) (k:Int) (r3:Int) (p1:List Int) (hI0:runL (F52_s0 r1 n most) (m0+1) (k,r3,p1)=(q52_3 r1 n most)) (_:Int.toNat k<m0+1) (hl0:m0<i0.1) (_:0≤k) (_:0≤r3) (_:r3+3*k≤r1.p+15) (_:(p1.length:Int)+k≤3)=>ai (fun h4:(decide (k>0))=true=>(fun _:k>0=>ai ((ai ((by first | omega | (simp only [lens] at*<;> omega):0≤r3)) (ai ((by first | omega | (simp only [lens] at*<;> omega):r3≤900000000)) (ai ((by first | omega | (simp only [lens] at*<;> omega):r1.b.length≤2000)) ((by first | omega | (simp only [lens] at*<;> omega):n.Qa.length≤1000000000)))))) (ai ((Eq.refl (sv r1X))) (ai ((Imp.refl (.l 1 eByte r1.b))) (ai ((Imps.refl [.v (vI r3)])) (ai ((Imps.refl (Qf n))) (ai ((Imp.refl (.v (vI (q52_2 r1 n).1)))) ((fun gv5:r3≤((q52_5 r1 r3 n)).2∧((q52_5 r1 r3 n)).2≤r3+2=>ai ((AppA.mk eInt p1 [(q52_5 r1 r3 n).1] (Imp.refl (.l 1 eInt p1)) rfl (by exact ai ir (trivial)) (fun _=>rfl):AppA (.l 1 eInt p1) 1 1 [.v (vI (q52_5 r1 r3 n).1)] (.l 1 eInt (p1++[(q52_5 r1 r3 n).1])))) (ai ((by (try simp only [lens]); omega:((p1++[(q52_5 r1 r3 n).1])).length*8≤140737488355328)) (ai ((by unfold i64ok; first | omega | (simp only [lens] at*<;> omega):i64ok (k-1))) (Exists.intro (p:=fun j:Nat×(Int×Int×List Int)=>(fun (k_:Int) (r3_:Int) (p1_:List Int)=>(((.int .i64 most:Value)=.int .i64 most)∧((.int .i64 (k-1):Value)=.int .i64 k_)∧((.int .i64 (q52_5 r1 r3 n).2:Value)=.int .i64 r3_)∧((sv r1X:Value)=sv r1X)∧(q52_8 r1)∧(Imp (.l 2 Qh n.Qb) (.l 2 Qh n.Qb))∧(Imp (.l 2 Qj n.Qa) (.l 2 Qj n.Qa))∧((.int .i64 0:Value)=.int .i64 0)∧((.slice none 0 0:Value)=.slice none 0 0)∧((.int .i64 (q52_2 r1 n).1:Value)=.int .i64 (q52_2 r1 n).1)∧(Imp (.l 1 eInt (p1++[(q52_5 r1 r3 n).1])) (.l 1 eInt p1_))∧((runL (F52_s0 r1 n most) j.1 j.2=(q52_3 r1 n most)∧Int.toNat k_<j.1∧0≤k_∧0≤r3_∧r3_+3*k_≤r1.p+15∧(p1_.length:Int)+k_≤3)∧j.1<i0.1))) j.2.1 j.2.2.1 j.2.2.2) (m0,((k-1),(q52_5 r1 r3 n).2,(p1++[(q52_5 r1 r3 n).1]))) (ai (rfl) (ai (rfl) (ai (rfl) (ai (rfl) (ai (ir) (ai (ir) (ai (ir) (ai (rfl) (ai (rfl) (ai (rfl) (ai (ir) (ai (ai (runL_next hI0 (condT h4 (rfl))) (ai ((by first | omega | (simp only [lens] at*<;> omega):Int.toNat (k-1)<m0)) (ai ((by first | omega | (simp only [lens] at*<;> omega):0≤(k-1))) (ai ((by first | omega | (simp only [lens] at*<;> omega):0≤(q52_5 r1 r3 n).2)) (ai ((by first | omega | (simp only [lens] at*<;> omega):(q52_5 r1 r3 n).2+3*(k-1)≤r1.p+15)) ((by first | omega | (simp only [lens] at*<;> omega):((p1++[(q52_5 r1 r3 n).1]).length:Int)+(k-1)≤3))))))) hl0)))))))))))))))) (label_p (⟨r1.b,r3⟩:l71Rd) n (q52_2 r1 n).1 (by first | omega | (simp only [lens] at*<;> omega):0≤r3) (by first | omega | (simp only [lens] at*<;> omega):r3≤900000000))))))))) (of_decide_eq_true h4)) (fun h4:(decide (k>0))=false=>(fun _:¬ k>0=>(fun hD0_6:(q52_3 r1 n most)=Lp.done (k,r3,p1)=>Exists.intro (p:=fun j:Int×List Int=>(fun (r2_:Int) (p_:List Int)=>(((.int .i64 most:Value)=.int .i64 most)∧((.int .i64 r3:Value)=.int .i64 r2_)∧((sv r1X:Value)=sv r1X)∧(q52_8 r1)∧((.int .i64 0:Value)=.int .i64 0)∧((.slice none 0 0:Value)=.slice none 0 0)∧((.int .i64 (q52_2 r1 n).1:Value)=.int .i64 (q52_2 r1 n).1)∧(Imp (.l 1 eInt p1) (.l 1 eInt p_))∧(F52_j0 r1 n most)=Lp.done j∧0≤r2_∧r2_≤r1.p+20∧p_.length≤3)) j.1 j.2) ((r3,p1)) (ai (rfl) (ai (rfl) (ai (rfl) (ai (ir) (ai (rfl) (ai (rfl) (ai (rfl) (ai (ir) (ai (Eq.symm (finD hD0_6 (rfl))) (ai ((by first | omega | (simp only [lens] at*<;> omega):0≤r3)) (ai ((by first | omega | (simp only [lens] at*<;> omega):r3≤r1.p+20)) ((by first | omega | (simp only [lens] at*<;> omega):p1.length≤3)))))))))))))) (runL_done hI0 (condF h4 (rfl)))) (of_decide_eq_false h4))) (i0.1-1) i0.2.1 i0.2.2.1 i0.2.2.2 (hd1 hi0.1 hi0.2.1) (hd2 hi0.2.1) (hd3 hi0.2.1) hi0.2.2.1 hi0.2.2.2.1 hi0.2.2.2.2.1 hi0.2.2.2.2.2)) (pick_in ⟨r1.b,(q52_2 r1 n).2⟩ 4 (by first | omega | (simp only [lens] at*<;> omega):0≤(q52_2 r1 n).2) (by first | omega | (simp only [lens] at*<;> omega):(q52_2 r1 n).2≤1000000000)))))))) (fun (j:Int×List Int) (hj:(fun (r2:Int) (p:List Int)=>((F52_j0 r1 n most)=Lp.done j∧0≤r2∧r2≤r1.p+20∧p.length≤3)) j.1 j.2)=>(fun (r2:Int) (p:List Int) (hJ0_7:(F52_j0 r1 n most)=Lp.done (r2,p)) (_:0≤r2) (_:r2≤r1.p+20) (_:p.length≤3)=>ai ((ai ((by first | omega | (simp only [lens] at*<;> omega):0≤r2)) (ai ((by first | omega | (simp only [lens] at*<;> omega):r2≤1000000000)) ((by first | omega | (simp only [lens] at*<;> omega):r1.b.length≤2000))))) (ai ((Eq.refl (sv r1X))) (ai ((Imp.refl (.l 1 eByte r1.b))) (ai ((Imps.refl [.v (vI r2)])) (ai ((Imp.refl (.v (vI 10)))) ((fun gv8:0≤((q52_6 r1 r2)).1∧(1≤(10:Int)→((q52_6 r1 r2)).1<(10:Int))∧((q52_6 r1 r2)).2=r2+1=>ai (fun h9:((q52_6 r1 r2).1==0)=true=>(fun _:(q52_6 r1 r2).1=0=>ai (ai (rfl) (ai (rfl) (ai (rfl) (ai (ir) (ai (rfl) (ai (rfl) (ai (rfl) (ai (ir) ((ai (rfl:runL (F52_s1 r1 n most r2 p) ((most-(p.length:Int)).toNat+1) ((q52_6 r1 r2).2,p)=(q52_4 r1 n most r2 p)) (ai ((Nat.lt_succ_self _:Int.toNat (most-(p.length:Int))<((most-(p.length:Int)).toNat+1))) (ai ((by first | omega | (simp only [lens] at*<;> omega):0≤(q52_6 r1 r2).2)) (ai ((by first | omega | (simp only [lens] at*<;> omega):(q52_6 r1 r2).2+9-(p.length:Int)≤r1.p+30)) ((by first | omega | (simp only [lens] at*<;> omega):p.length≤9)))))))))))))):((.int .i64 most:Value)=.int .i64 most)∧((.int .i64 (q52_6 r1 r2).2:Value)=.int .i64 (q52_6 r1 r2).2)∧((sv r1X:Value)=sv r1X)∧(q52_8 r1)∧((.int .i64 0:Value)=.int .i64 0)∧((.slice none 0 0:Value)=.slice none 0 0)∧((.int .i64 (q52_2 r1 n).1:Value)=.int .i64 (q52_2 r1 n).1)∧(Imp (.l 1 eInt p) (.l 1 eInt p))∧(runL (F52_s1 r1 n most r2 p) ((most-(p.length:Int)).toNat+1) ((q52_6 r1 r2).2,p)=(q52_4 r1 n most r2 p)∧Int.toNat (most-(p.length:Int))<((most-(p.length:Int)).toNat+1)∧0≤(q52_6 r1 r2).2∧(q52_6 r1 r2).2+9-(p.length:Int)≤r1.p+30∧p.length≤9)) (fun (i1:Nat×(Int×List Int)) (hi1:runL (F52_s1 r1 n most r2 p) i1.1 i1.2=(q52_4 r1 n most r2 p)∧(fun (r4:Int) (p2:List Int)=>(Int.toNat (most-(p2.length:Int))<i1.1∧0≤r4∧r4+9-(p2.length:Int)≤r1.p+30∧p2.length≤9)) i1.2.1 i1.2.2)=>(fun (m1:Nat) (r4:Int) (p2:List Int) (hI1:runL (F52_s1 r1 n most r2 p) (m1+1) (r4,p2)=(q52_4 r1 n most r2 p)) (_:Int.toNat (most-(p2.length:Int))<m1+1) (hl1:m1<i1.1) (_:0≤r4) (_:r4+9-(p2.length:Int)≤r1.p+30) (_:p2.length≤9)=>ai (fun h11:(decide ((p2.length:Int)<most))=true=>(fun _:(p2.length:Int)<most=>ai ((ai ((by first | omega | (simp only [lens] at*<;> omega):0≤r4)) (ai ((by first | omega | (simp only [lens] at*<;> omega):r4≤1000000000)) ((by first | omega | (simp only [lens] at*<;> omega):r1.b.length≤2000))))) (ai ((Eq.refl (sv r1X))) (ai ((Imp.refl (.l 1 eByte r1.b))) (ai ((Imps.refl [.v (vI r4)])) (ai ((Imp.refl (.v (vI 9)))) ((fun gv12:0≤((q52_7 r1 r4)).1∧(1≤(9:Int)→((q52_7 r1 r4)).1<(9:Int))∧((q52_7 r1 r4)).2=r4+1=>ai ((AppA.mk eInt p2 [(IntKind.i64.wrap (1+(q52_7 r1 r4).1))] (Imp.refl (.l 1 eInt p2)) rfl (by exact ai ir (trivial)) (fun _=>rfl):AppA (.l 1 eInt p2) 1 1 [.v (vI (IntKind.i64.wrap (1+(q52_7 r1 r4).1)))] (.l 1 eInt (p2++[(IntKind.i64.wrap (1+(q52_7 r1 r4).1))])))) (ai ((by (try simp only [lens]); omega:((p2++[(IntKind.i64.wrap (1+(q52_7 r1 r4).1))])).length*8≤140737488355328)) (Exists.intro (p:=fun j:Nat×(Int×List Int)=>(fun (r4_:Int) (p2_:List Int)=>(((.int .i64 most:Value)=.int .i64 most)∧((.int .i64 (q52_7 r1 r4).2:Value)=.int .i64 r4_)∧((sv r1X:Value)=sv r1X)∧(q52_8 r1)∧((.int .i64 0:Value)=.int .i64 0)∧((.slice none 0 0:Value)=.slice none 0 0)∧((.int .i64 (q52_2 r1 n).1:Value)=.int .i64 (q52_2 r1 n).1)∧(Imp (.l 1 eInt (p2++[(IntKind.i64.wrap (1+(q52_7 r1 r4).1))])) (.l 1 eInt p2_))∧((runL (F52_s1 r1 n most r2 p) j.1 j.2=(q52_4 r1 n most r2 p)∧Int.toNat (most-(p2_.length:Int))<j.1∧0≤r4_∧r4_+9-(p2_.length:Int)≤r1.p+30∧p2_.length≤9)∧j.1<i1.1))) j.2.1 j.2.2) (m1,((q52_7 r1 r4).2,(p2++[(IntKind.i64.wrap (1+(q52_7 r1 r4).1))]))) (ai (rfl) (ai (rfl) (ai (rfl) (ai (ir) (ai (rfl) (ai (rfl) (ai (rfl) (ai (ir) (ai (ai (runL_next hI1 (condT h11 (rfl))) (ai ((by first | omega | (simp only [lens] at*<;> omega):Int.toNat (most-((p2++[(IntKind.i64.wrap (1+(q52_7 r1 r4).1))]).length:Int))<m1)) (ai ((by first | omega | (simp only [lens] at*<;> omega):0≤(q52_7 r1 r4).2)) (ai ((by first | omega | (simp only [lens] at*<;> omega):(q52_7 r1 r4).2+9-((p2++[(IntKind.i64.wrap (1+(q52_7 r1 r4).1))]).length:Int)≤r1.p+30)) ((by first | omega | (simp only [lens] at*<;> omega):(p2++[(IntKind.i64.wrap (1+(q52_7 r1 r4).1))]).length≤9)))))) hl1)))))))))))) (pick_in ⟨r1.b,r4⟩ 9 (by first | omega | (simp only [lens] at*<;> omega):0≤r4) (by first | omega | (simp only [lens] at*<;> omega):r4≤1000000000)))))))) (of_decide_eq_true h11)) (fun h11:(decide ((p2.length:Int)<most))=false=>(fun _:¬ (p2.length:Int)<most=>(fun hD1_13:(q52_4 r1 n most r2 p)=Lp.done (r4,p2)=>(fun hF:((⟨(q52_2 r1 n).1,p2⟩:Qp),r4)=(F52 r1 n most)=>ai (congrArg (fun r:Qp×Int=>(.int .i64 r.1.Box:Value)) hF) (ai (Imp.of_eq (congrArg (fun r:Qp×Int=>Dat.l 1 eInt r.1.Ua) hF)) (ai (ai (Imp.refl (Dat.v (sv r1X))) (ai (Imp.of_eq (congrArg (fun r:Qp×Int=>Dat.v (vI r.2)) hF)) (trivial))) (trivial)))) (finD hJ0_7 (condT h9 (finD hD1_13 (rfl))))) (runL_done hI1 (condF h11 (rfl)))) (of_decide_eq_false h11))) (i1.1-1) i1.2.1 i1.2.2 (hd1 hi1.1 hi1.2.1) (hd2 hi1.2.1) (hd3 hi1.2.1) hi1.2.2.1 hi1.2.2.2.1 hi1.2.2.2.2)) (eq_of_beq h9)) (fun h9:((q52_6 r1 r2).1==0)=false=>(fun _:¬ (q52_6 r1 r2).1=0=>(fun hF:((⟨(q52_2 r1 n).1,p⟩:Qp),(q52_6 r1 r2).2)=(F52 r1 n most)=>ai (congrArg (fun r:Qp×Int=>(.int .i64 r.1.Box:Value)) hF) (ai (Imp.of_eq (congrArg (fun r:Qp×Int=>Dat.l 1 eInt r.1.Ua) hF)) (ai (ai (Imp.refl (Dat.v (sv r1X))) (ai (Imp.of_eq (congrArg (fun r:Qp×Int=>Dat.v (vI r.2)) hF)) (trivial))) (trivial)))) (finD hJ0_7 (condF h9 (rfl)))) (beqF h9))) (pick_in ⟨r1.b,r2⟩ 10 (by first | omega | (simp only [lens] at*<;> omega):0≤r2) (by first | omega | (simp only [lens] at*<;> omega):r2≤1000000000)))))))) j.1 j.2 hj.1 hj.2.1 hj.2.2.1 hj.2.2.2))) (box_p (⟨r1.b,r1.p⟩:l71Rd) n (by first | omega | (simp only [lens] at*<;> omega):0≤r1.p) (by first | omega | (simp only [lens] at*<;> omega):r1.p≤900000000)))))))) hp.1 hp.2.1 hp.2.2.1 hp.2.2.2.1 hp.2.2.2.2.1 hp.2.2.2.2.2) (by kernel_rfl)
theorem packet_p (r1:l71Rd) (n:Qe) (most:Int) (h0:0≤r1.p) (h1:r1.p≤800000000) (hm0:0≤most) (hm:most≤9):r1.p≤(F52 r1 n most).2∧(F52 r1 n most).2≤r1.p+30∧(F52 r1 n most).1.Ua.length≤9:=by
 unfold F52
 obtain ⟨b1,b2⟩:=box_p r1 n h0 (by omega)
 have b1:r1.p≤(F38 (⟨r1.b,r1.p⟩:l71Rd) n).2:=b1
 have b2:(F38 (⟨r1.b,r1.p⟩:l71Rd) n).2≤r1.p+2:=b2
 obtain ⟨r2,p,e0,k1,k2,k3⟩:∃ r2 p,F52_j0 r1 n most=.done (r2,p)∧p.length≤3∧r1.p≤r2∧r2≤r1.p+15:=by
  unfold F52_j0
  generalize (F38 (⟨r1.b,r1.p⟩:l71Rd) n).2=q at b1 b2
  have p1:=pick_in (⟨r1.b,q⟩:l71Rd) 4 (by show 0≤q; omega) (by show q≤_; omega)
  generalize F39 (⟨r1.b,q⟩:l71Rd) 4=P at p1
  obtain ⟨k,r2⟩:=P
  simp only at p1 ⊢
  obtain ⟨s',h,i1,_⟩:=runL_meas (step:=F52_s0 r1 n most) (fun s=>0≤s.1∧(s.2.2.length:Int)+s.1≤3∧r1.p≤s.2.1∧s.2.1+3*s.1≤r1.p+15) (fun s=>Int.toNat s.1) (fun _=>True)
   (fun s ⟨i1,i2,i3,i4⟩=>by
    obtain ⟨k,r3,o⟩:=s
    simp only at i1 i2 i3 i4
    simp only [F52_s0]
    cases hc:decide (k>0) with
    | false=>exact .inl ⟨rfl,trivial⟩
    | true =>
     have hc:=of_decide_eq_true hc
     obtain ⟨l1,l2⟩:=label_p (⟨r1.b,r3⟩:l71Rd) n (F38 (⟨r1.b,r1.p⟩:l71Rd) n).1 (by show 0≤r3; omega) (by show r3≤_; omega)
     have l1:r3≤_:=l1
     have l2:_≤r3+2:=l2
     refine .inr ⟨(_,_,_),rfl,⟨by simp only; omega,by simp only [List.length_append,List.length_cons,List.length_nil]; omega,by simp only; omega,by simp only; omega⟩,by simp only; omega⟩)
   (Int.toNat k+1) (k,r2,[]) (by simp only [List.length_nil]; omega) (by simp only; omega)
  rw [h]
  obtain ⟨k',r4,o⟩:=s'
  simp only at i1
  exact ⟨r4,o,rfl,by omega,by omega,by omega⟩
 rw [e0]
 simp only [Lp.fin,pick_p]
 cases (F39 (⟨r1.b,r2⟩:l71Rd) 10).1==0 with
 | false=>simp only [cond_false]; omega
 | true =>
  simp only [cond_true]
  obtain ⟨s',h,i1,_⟩:=runL_meas (step:=F52_s1 r1 n most r2 p) (fun s=>(s.2.length:Int)≤9∧r1.p≤s.1∧s.1+9-(s.2.length:Int)≤r1.p+30) (fun s=>Int.toNat (most-(s.2.length:Int))) (fun _=>True)
   (fun s ⟨i1,i2,i3⟩=>by
    obtain ⟨r4,o⟩:=s
    simp only at i1 i2 i3
    simp only [F52_s1]
    cases hc:decide ((o.length:Int)<most) with
    | false=>exact .inl ⟨rfl,trivial⟩
    | true =>
     have hc:=of_decide_eq_true hc
     refine .inr ⟨(_,_),rfl,⟨by simp only [List.length_append,List.length_cons,List.length_nil]; omega,by simp only [pick_p]; omega,by simp only [pick_p,List.length_append,List.length_cons,List.length_nil]; omega⟩,by simp only [List.length_append,List.length_cons,List.length_nil]; omega⟩)
   (Int.toNat (most-(p.length:Int))+1) (r2+1,p) (by simp only; omega) (by simp only; omega)
  rw [h]
  obtain ⟨r4,o⟩:=s'
  simp only [Lp.fin] at i1 ⊢
  omega
def F11_s0 (a:List Int) (b:List Int):Int→Lp Int Bool:=fun i40 =>
 bif (decide (i40<(a.length:Int))) then (bif ((a.getD i40.toNat default) != (b.getD i40.toNat default)) then (.ret false) else (.next (i40+1))) else (.done i40)
def F11 (a:List Int) (b:List Int):Bool :=
 bif ((a.length:Int) != (b.length:Int)) then false else ((runL (F11_s0 a b) (((a.length:Int)-0).toNat+1) 0).fin (fun r=>r) (fun i40=>true))
def S11 (a:List Int) (b:List Int):Spec:=⟨[.r (.c (.l 1 eInt a)),.r (.c (.l 1 eInt b))],.v (.bool (F11 a b)),True⟩
theorem ok11 (a:List Int) (b:List Int):(S11 a b).ok Try.prog 11 :=
 fnG_ok mixed (fn:=Try.f11) (ct:=.seqk [(0,0),(1,0)] (.no) (.seq (.seq (.no) (.cond (.seq (.no) (.no)) (.no))) (.seq (.seqk [(0,0),(1,0)] (.no) (.blk (.loop (ι:=Nat×Int) (fun i=>(fun (i40:Int)=>(⟨[(0,some (.h 0 0)),(1,some (.h 1 0)),(5,some (.v (vI i40)))],[(0,some (.shr none (.l 1 eInt a))),(1,some (.shr none (.l 1 eInt b)))],2⟩:St)) i.2) (fun i=>runL (F11_s0 a b) i.1 i.2=(runL (F11_s0 a b) (((a.length:Int)-0).toNat+1) 0)∧(fun (i40:Int)=>(Int.toNat ((a.length:Int)-i40)<i.1∧(0:Int)≤i40)) i.2) (fun i=>i.1) ((((a.length:Int)-0).toNat+1),0) (fun i=>(fun (i40:Int)=>(.seq (.seq (.no) (.cond (.no) (.no))) (.seq (.blk (.seq (.no) (.cond (.seq (.no) (.no)) (.no)))) (.reg [(1,.bnd)])))) i.2)))) (.seq (.no) (.no))))) Try.func11 (fun (_:True)=>fun (_:a.length≤9223372036854775807)=>fun (_:b.length≤9223372036854775807)=>ai (fun h1:((a.length:Int) != (b.length:Int))=true=>(fun _:¬ (a.length:Int)=(b.length:Int)=>(fun hF:(false:Bool)=(F11 a b)=>ai (congrArg (fun r:Bool=>(.bool r:Value)) hF) (trivial)) (condT h1 (rfl))) (bneT h1)) (fun h1:((a.length:Int) != (b.length:Int))=false=>(fun _:(a.length:Int)=(b.length:Int)=>fun (_:a.length≤9223372036854775807)=>fun (_:b.length≤9223372036854775807)=>ai (ai (rfl) (ai (ir) (ai (ir) ((ai (rfl:runL (F11_s0 a b) (((a.length:Int)-0).toNat+1) 0=(runL (F11_s0 a b) (((a.length:Int)-0).toNat+1) 0)) (ai ((Nat.lt_succ_self _:Int.toNat ((a.length:Int)-0)<(((a.length:Int)-0).toNat+1))) ((by omega:(0:Int)≤0))))))):((.int .i64 0:Value)=.int .i64 0)∧(Imp (.l 1 eInt a) (.l 1 eInt a))∧(Imp (.l 1 eInt b) (.l 1 eInt b))∧(runL (F11_s0 a b) (((a.length:Int)-0).toNat+1) 0=(runL (F11_s0 a b) (((a.length:Int)-0).toNat+1) 0)∧Int.toNat ((a.length:Int)-0)<(((a.length:Int)-0).toNat+1)∧(0:Int)≤0)) (fun (i0:Nat×Int) (hi0:runL (F11_s0 a b) i0.1 i0.2=(runL (F11_s0 a b) (((a.length:Int)-0).toNat+1) 0)∧(fun (i40:Int)=>(Int.toNat ((a.length:Int)-i40)<i0.1∧(0:Int)≤i40)) i0.2)=>(fun (m0:Nat) (i40:Int) (hI0:runL (F11_s0 a b) (m0+1) i40=(runL (F11_s0 a b) (((a.length:Int)-0).toNat+1) 0)) (_:Int.toNat ((a.length:Int)-i40)<m0+1) (hl0:m0<i0.1) (_:(0:Int)≤i40)=>ai (fun h3:(decide (i40<(a.length:Int)))=true=>(fun _:i40<(a.length:Int)=>ai ((by omega:0≤i40∧i40<(a.length:Int))) (ai ((by omega:0≤i40∧i40<(b.length:Int))) (ai (fun h4:((a.getD i40.toNat default) != (b.getD i40.toNat default))=true=>(fun _:¬ (a.getD i40.toNat default)=(b.getD i40.toNat default)=>(fun hF:(false:Bool)=(F11 a b)=>ai (congrArg (fun r:Bool=>(.bool r:Value)) hF) (trivial)) (condF h1 (finR (runL_ret hI0 (condT h3 (condT h4 (rfl)))) rfl))) (bneT h4)) (fun h4:((a.getD i40.toNat default) != (b.getD i40.toNat default))=false=>(fun _:(a.getD i40.toNat default)=(b.getD i40.toNat default)=>ai ((by unfold i64ok; omega:i64ok (i40+1))) (Exists.intro (p:=fun j:Nat×Int=>(fun (i40_:Int)=>(((.int .i64 (i40+1):Value)=.int .i64 i40_)∧(Imp (.l 1 eInt a) (.l 1 eInt a))∧(Imp (.l 1 eInt b) (.l 1 eInt b))∧((runL (F11_s0 a b) j.1 j.2=(runL (F11_s0 a b) (((a.length:Int)-0).toNat+1) 0)∧Int.toNat ((a.length:Int)-i40_)<j.1∧(0:Int)≤i40_)∧j.1<i0.1))) j.2) (m0,(i40+1)) (ai (rfl) (ai (ir) (ai (ir) (ai (ai (runL_next hI0 (condT h3 (condF h4 (rfl)))) (ai ((by omega:Int.toNat ((a.length:Int)-(i40+1))<m0)) ((by omega:(0:Int)≤(i40+1))))) hl0)))))) (bneF h4))))) (of_decide_eq_true h3)) (fun h3:(decide (i40<(a.length:Int)))=false=>(fun _:¬ i40<(a.length:Int)=>(fun hD0_5:(runL (F11_s0 a b) (((a.length:Int)-0).toNat+1) 0)=Lp.done i40=>(fun hF:(true:Bool)=(F11 a b)=>ai (congrArg (fun r:Bool=>(.bool r:Value)) hF) (trivial)) (condF h1 (finD hD0_5 (rfl)))) (runL_done hI0 (condF h3 (rfl)))) (of_decide_eq_false h3))) (i0.1-1) i0.2 (hd1 hi0.1 hi0.2.1) (hd2 hi0.2.1) (hd3 hi0.2.1) hi0.2.2)) (bneF h1))) (by kernel_rfl)
def F20 (a:Qp) (b:Qp):Bool :=
 (bif (a.Box==b.Box) then (F11 a.Ua b.Ua) else false)
def S20 (a:Qp) (b:Qp):Spec:=⟨[.r (.g (Qq a)),.r (.g (Qq b))],.v (.bool (F20 a b)),True⟩
theorem ok20 (a:Qp) (b:Qp):(S20 a b).ok Try.prog 20 :=
 fnG_ok mixed (fn:=Try.f20) (ct:=.seq (.no) (.seq (.reg [(10,.call 11 (S11 a.Ua b.Ua) (ok11 a.Ua b.Ua) none)]) (.no))) Try.func20 (fun (_:True)=>ai ((fun k1:(a.Box==b.Box)=true=>(fun _:a.Box=b.Box=>trivial) (eq_of_beq k1))) (ai ((fun k2:(a.Box==b.Box)=true=>(fun _:a.Box=b.Box=>(Imp.refl (.l 1 eInt a.Ua))) (eq_of_beq k2))) (ai ((fun k3:(a.Box==b.Box)=true=>(fun _:a.Box=b.Box=>(Imp.refl (.l 1 eInt b.Ua))) (eq_of_beq k3))) ((fun hF:((bif (a.Box==b.Box) then (F11 a.Ua b.Ua) else false):Bool)=(F20 a b)=>ai (congrArg (fun r:Bool=>(.bool r:Value)) hF) (trivial)) (rfl))))) (by kernel_rfl)
theorem ints_same (a:List Int):F11 a a=true:=by
 unfold F11
 rw [bne_self_eq_false,cond_false]
 have l0:=runL_rule (step:=F11_s0 a a) (fun (k:Nat) (_:Unit)=>(k:Int)) a.length (fun _ _=>True) (fun _=>False)
  (fun k _ hk _=>.inl ⟨(),by simp only [F11_s0,ltD hk,cond_true,bne_self_eq_false,cond_false]; rfl,trivial⟩)
  (fun _ _=>by simp [F11_s0]) a.length 0 () (by omega) trivial (Int.toNat ((a.length:Int)-0)+1) (by omega)
 rcases l0 with ⟨_,l0,_⟩ | ⟨_,_,l0⟩
 ·have l0':runL (F11_s0 a a) (Int.toNat ((a.length:Int)-0)+1) 0=_:=l0
  rw [l0']; rfl
 ·exact l0.elim
theorem pack_same (p:Qp):F20 p p=true:=by
 unfold F20
 rw [beq_self_eq_true,cond_true]
 exact ints_same _

def bx (n:Qe) (i:Int):Qi:=n.Qa.getD i.toNat default
theorem bx_ok {n:Qe} (h:Qv n) {i:Int} (h0:0≤i) (h1:i<(n.Qa.length:Int)):BoxP n i (bx n i):=by
 have hb:=boxP_ok.1 (h.box i.toNat (by omega))
 rwa [show ((Int.toNat i:Nat):Int)=i from by omega] at hb
theorem rowP_mem {n:Qe} (h:Qv n) {i:Int} (h0:0≤i) (h1:i<(n.Qa.length:Int)) {r:Qk} (hr:r∈(bx n i).Rows):rowP (bx n i) r.In=(r,true):=by
 obtain ⟨⟨_,hpw⟩,_⟩:=bx_ok h h0 h1
 obtain ⟨j,hj,ej⟩:=mem_getD hr
 unfold rowP rowIx
 cases e:first (fun k=>decide (((bx n i).Rows.getD k default).In=r.In)) (bx n i).Rows.length with
 | none =>
  have:=first_none.1 e j hj
  rw [ej] at this
  exact absurd rfl (of_decide_eq_false this)
 | some k =>
  obtain ⟨g1,g2,_⟩:=first_some.1 e
  have:(bx n i).Rows.getD k default=r:=pairK_uniq hpw (getD_mem _ g1) hr (of_decide_eq_true g2)
  simp only [this]
structure Tun (n:Qe) (p ls:List Int):Prop where
 one:1≤p.length
 len:ls.length=p.length
 rng:∀ i,i<p.length→0≤p.getD i default∧p.getD i default<(n.Qa.length:Int)
 row:∀ i,i<p.length→rowAt p ls i∈(bx n (p.getD i default)).Rows
structure Sub (n n':Qe):Prop where
 links:n'.Qb=n.Qb
 len:n'.Qa.length=n.Qa.length
 rows:∀ (i:Int) (r:Qk),r∈(bx n i).Rows→r∈(bx n' i).Rows
 gds:∀ (i:Int) (v:Qn),v∈(bx n i).Qc→v∈(bx n' i).Qc
theorem Sub.refl (n:Qe):Sub n n:=⟨rfl,rfl,fun _ _ h=>h,fun _ _ h=>h⟩
theorem Sub.trans {a b c:Qe} (h:Sub a b) (k:Sub b c):Sub a c:=⟨k.links.trans h.links,k.len.trans h.len,fun i r hr=>k.rows i r (h.rows i r hr),fun i v hv=>k.gds i v (h.gds i v hv)⟩
theorem Tun.mono {n n':Qe} {p ls:List Int} (h:Tun n p ls) (hs:Sub n n'):Tun n' p ls :=
 ⟨h.one,h.len,fun i hi=>by rw [hs.len]; exact h.rng i hi,fun i hi=>hs.rows _ _ (h.row i hi)⟩
theorem linkOf_sub {n n':Qe} (h:n'.Qb=n.Qb) (a b:Int):Qt n' a b=Qt n a b:=by
 unfold Qt isLink
 rw [h]
theorem Sub.link {n n':Qe} (h:Sub n n') (a b:Int):Qt n' a b=Qt n a b:=linkOf_sub h.links a b
theorem adj_sub {n n':Qe} (hs:Sub n n') (w i j:Int):adj n' w i j↔adj n w i j:=by unfold adj; rw [hs.link]
theorem far_sub {n n':Qe} (hs:Sub n n') (hf:FrameOk n) (hf':FrameOk n') {b:Int} (h0:0≤b) (h1:b<(n.Qa.length:Int)) (w:Int):F80 n' b w=F80 n b w:=by
 have d1:=far_isDist n b w hf h0 h1
 have d2:=far_isDist n' b w hf' h0 (by rw [hs.len]; exact h1)
 refine IsDist.unique (n:=n) (b:=b) (w:=w) ?_ d1
 obtain ⟨a1,a2,a3,a4,a5,a6⟩:=d2
 rw [hs.len] at a1 a3 a4 a5 a6
 exact ⟨a1,a2,a3,fun k hk hp=>by
  obtain ⟨j,g1,g2,g3⟩:=a4 k hk hp
  exact ⟨j,g1,(adj_sub hs _ _ _).1 g2,g3⟩,a5,fun j k hj hk ha hq=>a6 j k hj hk ((adj_sub hs _ _ _).2 ha) hq⟩
theorem nextOf_sub {n n':Qe} (hs:Sub n n') (f:List Int) (a w:Int):nextOf n' f a w=nextOf n f a w:=by
 unfold nextOf nextB
 simp only [hs.link]
theorem wayGo_sub {n n':Qe} (hs:Sub n n') (f:List Int) (w:Int):∀ (m:Nat) (x:Int),wayGo n' f w m x=wayGo n f w m x
 | 0,_=>rfl
 | m+1,x=>by simp only [wayGo,nextOf_sub hs,wayGo_sub hs f w m]
theorem wayOf_sub {n n':Qe} (hs:Sub n n') (hf:FrameOk n) (hf':FrameOk n') {b:Int} (h0:0≤b) (h1:b<(n.Qa.length:Int)) (a w:Int):Qz n' a b w=Qz n a b w:=by
 unfold Qz
 rw [far_sub hs hf hf' h0 h1]
 simp only [wayGo_sub hs]
theorem wayP_sub {n n':Qe} (hs:Sub n n') (hf:FrameOk n) (hf':FrameOk n') {a b:Int} (hl:0≤Qt n a b):wayP n' a b=wayP n a b:=by
 have:=linkOf_in hf hl
 unfold wayP
 rw [hs.link]
 exact wayOf_sub hs hf hf' this.2.2.1 this.2.2.2.1 a _
theorem layTo_skip {n:Qe} {path:List Int} (labels:List Int) {k:Nat}:∀ m,(∀ i,i<m→Int.toNat (path.getD i default)≠k)→(layTo n path labels m).getD k default=n.Qa.getD k default
 | 0,_=>rfl
 | m+1,h=>by
  rw [layTo,getD_set,if_neg (fun e=>h m (Nat.lt_succ_self _) e.1)]
  exact layTo_skip labels m fun i hi=>h i (by omega)
def laidP (n:Qe) (path:List Int):Qe:=⟨n.Qb,layTo n path (labsOf n path) path.length⟩
theorem laid_box {n:Qe} {path:List Int} (h:LayP n path (labsOf n path)) (i:Int):(∀ r∈(bx n i).Rows,r∈(bx (laidP n path) i).Rows)∧(bx (laidP n path) i).Rows.length≤(bx n i).Rows.length+1∧(bx (laidP n path) i).Qc=(bx n i).Qc:=by
 unfold bx laidP
 simp only
 by_cases hx:∃ j,j<path.length∧Int.toNat (path.getD j default)=Int.toNat i
 ·obtain ⟨j,hj,e⟩:=hx
  have hd:=layTo_done h.pth (labsOf n path) path.length j hj (Nat.le_refl _)
  rw [e] at hd
  rw [hd]
  exact ⟨fun r hr=>putK_mem.2 (.inl hr),by simp only [putK_len]; omega,rfl⟩
 ·rw [layTo_skip (labsOf n path) path.length fun j hj e=>hx ⟨j,hj,e⟩]
  exact ⟨fun r hr=>hr,by omega,rfl⟩
theorem laid_sub {n:Qe} {path:List Int} (h:LayP n path (labsOf n path)):Sub n (laidP n path) :=
 ⟨rfl,layTo_len _ _ _ _,fun i r hr=>(laid_box h i).1 r hr,fun i v hv=>by rw [(laid_box h i).2.2]; exact hv⟩
theorem laid_tun {n:Qe} {path:List Int} (h:LayP n path (labsOf n path)):Tun (laidP n path) path (labsOf n path):=by
 refine ⟨by have:=h.pth.two; omega,h.len,fun i hi=>by rw [(laid_sub h).len]; exact h.pth.rng i hi,fun i hi=>?_⟩
 unfold bx laidP
 simp only
 rw [layTo_done h.pth (labsOf n path) path.length i hi (Nat.le_refl _)]
 exact putK_mem.2 (.inr rfl)
theorem way_last {n:Qe} (hf:FrameOk n) {a b:Int} (hl:0≤Qt n a b) (hne:(wayP n a b).length≠0):(wayP n a b).getD ((wayP n a b).length-1) default=b:=by
 obtain ⟨a0,a1,b0,b1,hab⟩:=linkOf_in hf hl
 have hD:=far_isDist n b (Qt n a b) hf b0 b1
 unfold wayP at hne ⊢
 unfold Qz at hne ⊢
 by_cases hneg:(F80 n b (Qt n a b)).getD a.toNat default<0
 ·rw [decide_eq_true hneg] at hne; exact absurd rfl hne
 rw [decide_eq_false hneg]
 simp only [cond_false]
 generalize hm:Int.toNat ((F80 n b (Qt n a b)).getD a.toNat default)=m at *
 have hlen:(a :: wayGo n (F80 n b (Qt n a b)) (Qt n a b) m a).length=m+1:=by rw [List.length_cons,wayGo_len]
 obtain ⟨g1,g2,g3,_⟩:=wayGo_at hD hf.b8 m a a0 a1 (by omega) m (Nat.le_refl _)
 rw [hlen,Nat.add_sub_cancel]
 have:=hD.zero ((a :: wayGo n (F80 n b (Qt n a b)) (Qt n a b) m a).getD m default).toNat (by omega) (by omega)
 omega
def Gd (n:Qe) (a b:Int):Prop :=
 ((wayP n a b).length=0→guardIx (bx n a) b=none)∧((wayP n a b).length≠0→∃ gl,Tun n (wayP n a b) gl∧(⟨b,(wayP n a b).getD 1 default,gl.getD 1 default⟩:Qn)∈(bx n a).Qc)
theorem Gd.mono {n n':Qe} (hs:Sub n n') (hf:FrameOk n) (hf':FrameOk n') {a b:Int} (hl:0≤Qt n a b) (h:Gd n a b) (hg:guardIx (bx n a) b=none→guardIx (bx n' a) b=none):Gd n' a b:=by
 have e:=wayP_sub hs hf hf' hl
 refine ⟨fun hw=>?_,fun hw=>?_⟩
 ·rw [e] at hw; exact hg (h.1 hw)
 ·rw [e] at hw
  obtain ⟨gl,g1,g2⟩:=h.2 hw
  rw [e]
  exact ⟨gl,g1.mono hs,hs.gds _ _ g2⟩
structure GI (n x:Qe) (k:Nat):Prop where
 net:Qv x
 sub:Sub n x
 rows:∀ i:Int,(bx x i).Rows.length≤(bx n i).Rows.length+2*k
 done:∀ j,j<k→Gd x (n.Qb.getD j default).A (n.Qb.getD j default).B∧Gd x (n.Qb.getD j default).B (n.Qb.getD j default).A
 todo:∀ j,k≤j→j<n.Qb.length→guardIx (bx x (n.Qb.getD j default).A) (n.Qb.getD j default).B=none∧guardIx (bx x (n.Qb.getD j default).B) (n.Qb.getD j default).A=none
theorem rowAt_goP {p ls:List Int} {i:Nat} (h:i+1<p.length):rowAt p ls i=⟨ls.getD i default,p.getD (i+1) default,ls.getD (i+1) default⟩:=by
 unfold rowAt
 rw [decide_eq_true (by omega:(i:Int)+1<(p.length:Int))]; rfl
theorem rowAt_endP {p ls:List Int} {i:Nat} (h:p.length≤i+1):rowAt p ls i=⟨ls.getD i default,-1,0⟩:=by
 unfold rowAt
 rw [decide_eq_false (by omega:¬ (i:Int)+1<(p.length:Int))]; rfl
theorem rowAt_In (p ls:List Int) (i:Nat):(rowAt p ls i).In=ls.getD i default:=by
 unfold rowAt
 cases decide ((i:Int)+1<(p.length:Int)) <;> rfl
theorem rowIx_mem {n:Qe} (h:Qv n) {i:Int} (h0:0≤i) (h1:i<(n.Qa.length:Int)) {r:Qk} (hr:r∈(bx n i).Rows):∃ k,rowIx (n.Qa.getD i.toNat default) r.In=some k∧(n.Qa.getD i.toNat default).Rows.getD k default=r:=by
 have hq:=rowP_mem h h0 h1 hr
 unfold rowP bx at hq
 cases e:rowIx (n.Qa.getD i.toNat default) r.In with
 | none=>rw [e] at hq; simp at hq
 | some k=>rw [e] at hq; exact ⟨k,rfl,(Prod.mk.inj hq).1⟩
theorem tun_path {n:Qe} (hn:Qv n) {p ls:List Int} (T:Tun n p ls):∀ (d i:Nat),i+d+1=p.length→Qr n (d+1) (p.getD i default) (ls.getD i default)=some ((p.drop i).zip (ls.drop i))
 | d,i,hd=>by
  have hr:=T.rng i (by omega)
  have hlen:=T.len
  obtain ⟨k,k1,k2⟩:=rowIx_mem hn hr.1 hr.2 (T.row i (by omega))
  rw [rowAt_In] at k1
  have ez:(p.drop i).zip (ls.drop i)=(p.getD i default,ls.getD i default) :: (p.drop (i+1)).zip (ls.drop (i+1)):=by
   rw [List.drop_eq_getElem_cons (by omega:i<p.length),List.drop_eq_getElem_cons (by omega:i<ls.length),List.zip_cons_cons,getD_lt p (by omega),getD_lt ls (by omega)]
  unfold Qr
  rw [k1]
  simp only [k2]
  cases d with
  | zero =>
   rw [rowAt_endP (by omega),ez]
   simp only [show ((-1:Int)<0) from by decide,if_true]
   rw [List.drop_eq_nil_of_le (by omega:p.length≤i+1)]; rfl
  | succ d =>
   have hr2:=T.rng (i+1) (by omega)
   rw [rowAt_goP (by omega),ez]
   simp only [show ¬ p.getD (i+1) default<0 from by omega,if_false]
   rw [tun_path hn T d (i+1) (by omega)]; rfl
theorem tun_labPath {n:Qe} (hn:Qv n) {p ls:List Int} (T:Tun n p ls) (hp:p.length≤n.Qa.length) {i:Nat} (hi:i<p.length) :
  Qr n n.Qa.length (p.getD i default) (ls.getD i default)=some ((p.drop i).zip (ls.drop i))∧Qu n (p.getD i default) (ls.getD i default)=p.drop i:=by
 have hr:=T.rng i hi
 have hlen:=T.len
 have h1:=tun_path hn T (p.length-i-1) i (by omega)
 have h2:=pathFrom_mono _ _ _ _ h1 (n.Qa.length-(p.length-i-1+1))
 rw [show p.length-i-1+1+(n.Qa.length-(p.length-i-1+1))=n.Qa.length by omega] at h2
 refine ⟨h2,?_⟩
 unfold Qu
 rw [netB_ok.2 hn,decide_eq_true (⟨hr.1,by omega⟩:0≤p.getD i default∧p.getD i default≤(n.Qa.length:Int)-1),h2]
 simp only [Bool.and_self,cond_true,Qw]
 exact List.map_fst_zip (by simp only [List.length_drop]; omega)
theorem path_sub {n n':Qe} (hn:Qv n) (hn':Qv n') (hs:Sub n n'):∀ (m:Nat) (box label:Int) (l:List (Int×Int)),0≤box→box<(n.Qa.length:Int)→Qr n m box label=some l→Qr n' m box label=some l
 | 0,_,_,_,_,_,h=>by simp [Qr] at h
 | m+1,box,label,l,h0,h1,h=>by
  unfold Qr at h ⊢
  cases e:rowIx (n.Qa.getD box.toNat default) label with
  | none=>rw [e] at h; cases h
  | some k =>
   rw [e] at h
   obtain ⟨f1,f2,_⟩:=first_some.1 e
   have f2:=of_decide_eq_true f2
   have hm:=hs.rows box _ (getD_mem _ f1)
   obtain ⟨k',g1,g2⟩:=rowIx_mem hn' h0 (by rw [hs.len]; exact h1) hm
   have f2b:((bx n box).Rows.getD k default).In=label:=f2
   rw [f2b] at g1
   have g2:(n'.Qa.getD box.toNat default).Rows.getD k' default=(n.Qa.getD box.toNat default).Rows.getD k default:=g2
   have hnx:=row_next hn h0 h1 (k:=(k:Int)) (by omega) (by omega)
   rw [nn] at hnx
   rw [g1]
   simp only [g2]
   simp only at h
   by_cases hx:((n.Qa.getD box.toNat default).Rows.getD k default).Next<0
   ·rw [if_pos hx] at h ⊢; exact h
   ·rw [if_neg hx] at h ⊢
    cases e2:Qr n m ((n.Qa.getD box.toNat default).Rows.getD k default).Next ((n.Qa.getD box.toNat default).Rows.getD k default).Out with
    | none=>rw [e2] at h; cases h
    | some l' =>
     rw [e2] at h
     rw [path_sub hn hn' hs m _ _ l' (by omega) (by omega) e2]; exact h
theorem any_false {α:Type} {p:α→Bool} {xs:List α} (h:xs.any p=false):∀ x∈xs,p x=false:=fun x hx=>by
 have:=List.any_eq_false.1 h x hx
 simpa using this
theorem labTear_free (n:Qe) (box label:Int):netB n=false∨(labTear n box label).1=n ∨
  (Qv n∧0≤box∧box<(n.Qa.length:Int)∧∃ l xs,Qr n n.Qa.length box label=some l∧TearI n l xs∧(labTear n box label).1=⟨n.Qb,xs⟩ ∧
   (∀ i:Nat,i<n.Qa.length→∀ r∈(n.Qa.getD i default).Rows,¬ (r.Next=box∧r.Out=label)) ∧
   (∀ k,k<l.length→∀ i:Nat,i<n.Qa.length→∀ v∈(n.Qa.getD i default).Qc,¬ (v.Via=(l.getD k default).1∧v.Push=(l.getD k default).2))):=by
 unfold labTear F22
 cases hb:netB n
 ·exact .inl rfl
 simp only [Bool.not_true,cond_false]
 by_cases hr:0≤box∧box≤(n.Qa.length:Int)-1
 rotate_left
 ·rw [decide_eq_false hr]; exact .inr (.inl rfl)
 rw [decide_eq_true hr]
 have hN:=netB_T n hb
 cases e:Qr n n.Qa.length box label with
 | none=>exact .inr (.inl rfl)
 | some l =>
  simp only [Qw,Bool.not_true,cond_false]
  cases hlead:F63 n box label
  rotate_left
  ·exact .inr (.inl rfl)
  simp only [cond_false]
  let Gd:Nat→Bool:=fun k=>F64 n (l.getD k default).1 (l.getD k default).2
  have hlen:(l.map (·.1)).length=l.length:=List.length_map _
  have hi0:=fun (g:Int→Qe×Int)=>search (τ:=Qe×Int) Gd (fun _=>((n,5):Qe×Int)) (l.map (·.1)).length (F22_s0 n box label) (fun k hk=>by
   have hk':k<l.length:=by rw [← hlen]; exact hk
   simp only [F22_s0,e,Qw,ltD hk,cond_true,nn,Gd,getD_map1 _ _ hk']) (by simp [F22_s0,e,Qw]) (fun r=>r) g
  have hi1:=runL_rule (step:=F22_s1 n box label) (fun (k:Nat) (s:List Qi)=>((k:Int),s)) l.length (fun k s=>TearI n (l.take k) s) (fun _=>False)
   (fun k s hk hI=>by
    refine .inl ⟨_,by simp only [F22_s1,e,Qw,hlen,ltD hk,cond_true,nn,getD_map1 _ _ hk]; rfl,?_⟩
    have hx:=pathFrom_all hN _ _ _ _ hr.1 (by omega) e _ (getD_mem l hk)
    rw [show l.take (k+1)=l.take k++[l.getD k default] from by rw [List.take_add_one,List.getElem?_eq_getElem hk,getD_lt l hk]; rfl]
    refine hI.next _ _ (by omega) ?_
    rw [hI.2 _ (by omega)]
    congr 1
    refine List.filter_congr fun r _=>?_
    simp only [F66,nn,getD_map1 _ _ hk,beqD])
   (fun s _=>by simp [F22_s1,e,Qw]) l.length 0 n.Qa (by omega) ⟨rfl,fun k _=>(tearBox_nil n k).symm⟩ (l.length+1) (Nat.lt_succ_self _)
  rw [hi0,hlen]
  have hn2:Int.toNat ((l.length:Int)-0)+1=l.length+1:=by omega
  cases hf:first Gd l.length with
  | some k=>exact .inr (.inl rfl)
  | none =>
   have hG:=first_none.1 hf
   rcases hi1 with ⟨ys,g1,g2⟩ | ⟨_,_,hf⟩
   ·simp only [hn2]
    rw [show ((0:Int),n.Qa)=(((0:Nat):Int),n.Qa) from rfl,g1]
    rw [List.take_length] at g2
    refine .inr (.inr ⟨hN,hr.1,by omega,l,ys,rfl,g2,rfl,fun i hi r hr'=>?_,fun k hk i hi v hv=>?_⟩)
    ·unfold F63 at hlead
     have h1:=any_false hlead _ (getD_mem n.Qa hi)
     unfold F103 at h1
     have h2:=any_false h1 r hr'
     unfold F105 at h2
     rintro ⟨q1,q2⟩
     simp [q1,q2] at h2
    ·have h0:F64 n (l.getD k default).1 (l.getD k default).2=false:=hG k hk
     unfold F64 at h0
     have h1:=any_false h0 _ (getD_mem n.Qa hi)
     unfold F106 at h1
     have h2:=any_false h1 v hv
     unfold F108 at h2
     rintro ⟨q1,q2⟩
     simp [q1,q2] at h2
   ·exact hf.elim
def F93 (n:Qe) (down:List Int) (a:Int) (b:Int):Bool :=
 (!(decide ((Qt n a b)∈down)))
def S93 (R:Bool) (n:Qe) (down:List Int) (a:Int) (b:Int):Spec:=⟨[.r (.g (Qf n)),.r (.c (.l 1 eInt down)),.r (.c (.v (vI a))),.r (.c (.v (vI b)))],.v (.bool R),FrameOk n⟩
theorem ok93 (n:Qe) (down:List Int) (a:Int) (b:Int):(S93 (F93 n down a b) n down a b).ok Try.prog 93 :=
 fnG_ok mixed (fn:=Try.f93) (ct:=.seqk [(1,0)] (.no) (.seq (.reg [(4,.call 50 (T50 (Qt n a b) n a b) (oa50 n a b) none),(5,.call 121 (S121 (decide ((Qt n a b)∈down)) down (Qt n a b)) (oa121 down (Qt n a b)) none)]) (.no))) Try.func93 (fun (hpre0:FrameOk n)=>fun (_:down.length≤9223372036854775807)=>ai (((by first | assumption | exact Qv.frame (by assumption):FrameOk n))) (ai ((Imps.refl (Qf n))) (ai ((Imp.refl (.v (vI a)))) (ai ((Imp.refl (.v (vI b)))) (ai (trivial) (ai ((Imp.refl (.l 1 eInt down))) (ai ((Imp.refl (.v (vI (Qt n a b))))) ((fun hF:((!(decide ((Qt n a b)∈down))):Bool)=(F93 n down a b)=>ai (congrArg (fun r:Bool=>(.bool r:Value)) hF) (trivial)) (rfl))))))))) (by kernel_rfl)
theorem as93 (n:Qe) (down:List Int) (a:Int) (b:Int):F93 n down a b=(!decide (Qt n a b∈down)):=by
 rfl
theorem oa93 (n:Qe) (down:List Int) (a:Int) (b:Int):(S93 (!decide (Qt n a b∈down)) n down a b).ok Try.prog 93:=by
 intro hp; have h:=ok93 n down a b hp; rw [as93 n down a b] at h; exact h
def F55 (n:Qe) (down:List Int) (p:Qp):Qp×Int :=
 bif (decide (((p.Ua.length:Int)-1)<0)) then (p,3) else (bif (!(rowP (n.Qa.getD (Int.toNat p.Box) default) (p.Ua.getD ((p.Ua.length:Int)-1).toNat default)).2) then (p,4) else (bif ((rowP (n.Qa.getD (Int.toNat p.Box) default) (p.Ua.getD ((p.Ua.length:Int)-1).toNat default)).1.Next==(-1)) then ((⟨p.Box,(p.Ua.take ((p.Ua.length:Int)-1).toNat)⟩:Qp),0) else (bif (!decide (Qt n p.Box (rowP (n.Qa.getD (Int.toNat p.Box) default) (p.Ua.getD ((p.Ua.length:Int)-1).toNat default)).1.Next∈down)) then ((⟨(rowP (n.Qa.getD (Int.toNat p.Box) default) (p.Ua.getD ((p.Ua.length:Int)-1).toNat default)).1.Next,(p.Ua.set (((p.Ua.length:Int)-1)).toNat (rowP (n.Qa.getD (Int.toNat p.Box) default) (p.Ua.getD ((p.Ua.length:Int)-1).toNat default)).1.Out)⟩:Qp),0) else (bif (bif (!(guardP (n.Qa.getD (Int.toNat p.Box) default) (rowP (n.Qa.getD (Int.toNat p.Box) default) (p.Ua.getD ((p.Ua.length:Int)-1).toNat default)).1.Next).2) then true else (!(!decide (Qt n p.Box (guardP (n.Qa.getD (Int.toNat p.Box) default) (rowP (n.Qa.getD (Int.toNat p.Box) default) (p.Ua.getD ((p.Ua.length:Int)-1).toNat default)).1.Next).1.Via∈down)))) then (p,5) else (bif ((p.Ua.length:Int)==8) then (p,7) else ((⟨(guardP (n.Qa.getD (Int.toNat p.Box) default) (rowP (n.Qa.getD (Int.toNat p.Box) default) (p.Ua.getD ((p.Ua.length:Int)-1).toNat default)).1.Next).1.Via,((p.Ua.set (((p.Ua.length:Int)-1)).toNat (rowP (n.Qa.getD (Int.toNat p.Box) default) (p.Ua.getD ((p.Ua.length:Int)-1).toNat default)).1.Out)++[(guardP (n.Qa.getD (Int.toNat p.Box) default) (rowP (n.Qa.getD (Int.toNat p.Box) default) (p.Ua.getD ((p.Ua.length:Int)-1).toNat default)).1.Next).1.Push])⟩:Qp),0))))))
def S55 (n:Qe) (down:List Int) (p:Qp):Spec:=⟨[.r (.g (Qf n)),.r (.c (.l 1 eInt down)),.r (.g (Qq p))],.tu [.ag [.v (vI (F55 n down p).1.Box),.ow (.l 1 eInt (F55 n down p).1.Ua)],.v (vI (F55 n down p).2)],Qv n∧0≤p.Box∧p.Box<(n.Qa.length:Int)∧p.Ua.length≤8⟩
abbrev q55_1 (n:Qe) (p:Qp):=(rowP (n.Qa.getD (Int.toNat p.Box) default) (p.Ua.getD ((p.Ua.length:Int)-1).toNat default))
abbrev q55_2 (n:Qe) (p:Qp):=(guardP (n.Qa.getD (Int.toNat p.Box) default) (q55_1 n p).1.Next)
abbrev q55_3 (p:Qp) (n:Qe):=(p.Ua.set (((p.Ua.length:Int)-1)).toNat (q55_1 n p).1.Out)
abbrev q55_4 (p:Qp):=(p.Ua.getD ((p.Ua.length:Int)-1).toNat default)
abbrev q55_5 (n:Qe) (p:Qp):=(n.Qa.getD (Int.toNat p.Box) default)
theorem ok55 (n:Qe) (down:List Int) (p:Qp):(S55 n down p).ok Try.prog 55 :=
 fnG_ok mixed (fn:=Try.f55) (ct:=.seqk [(1,0)] (.no) (.seq (.reg [(2,.call 54 (S54 p.Ua p.Ua) (oa54 p.Ua) none)]) (.seq (.reg [(3,.bnd)]) (.seq (.seq (.no) (.cond (.seq (.no) (.no)) (.no))) (.seq (.reg [(11,.call 92 (S92 (q55_1 n p) (q55_5 n p) (q55_4 p)) (oa92 (q55_5 n p) (q55_4 p)) none)]) (.seq (.blk (.seq (.no) (.cond (.seq (.no) (.no)) (.seq (.no) (.cond (.seq (.reg [(5,.own)]) (.no)) (.seq (.reg [(6,.call 93 (S93 (!decide (Qt n p.Box (q55_1 n p).1.Next∈down)) n down p.Box (q55_1 n p).1.Next) (oa93 n down p.Box (q55_1 n p).1.Next) none)]) (.cond (.seq (.reg [(6,.dat (.l 1 eInt (q55_3 p n)))]) (.seq (.no) (.no))) (.no)))))))) (.seq (.reg [(8,.call 94 (S94 (q55_2 n p) (q55_5 n p) (q55_1 n p).1.Next) (oa94 (q55_5 n p) (q55_1 n p).1.Next) none)]) (.seq (.blk (.seq (.reg [(9,.call 93 (S93 (!decide (Qt n p.Box (q55_2 n p).1.Via∈down)) n down p.Box (q55_2 n p).1.Via) (oa93 n down p.Box (q55_2 n p).1.Via) none)]) (.cond (.seq (.no) (.no)) (.seq (.no) (.cond (.seq (.no) (.no)) (.no)))))) (.seq (.reg [(6,.dat (.l 1 eInt (q55_3 p n)))]) (.seq (.reg [(7,.dat (.l 1 eInt ((q55_3 p n)++[(q55_2 n p).1.Push])))]) (.no))))))))))) Try.func55 (fun (hp:Qv n∧0≤p.Box∧p.Box<(n.Qa.length:Int)∧p.Ua.length≤8)=>(fun (hpre0:Qv n) (hpre1:0≤p.Box) (hpre2:p.Box<(n.Qa.length:Int)) (hpre3:p.Ua.length≤8)=>fun (_:down.length≤9223372036854775807)=>ai (((by first | omega | (simp only [lens] at*<;> omega):p.Ua.length≤1000000000))) (ai ((Imp.refl (.l 1 eInt p.Ua))) (ai ((by unfold i64ok; first | omega | (simp only [lens] at*<;> omega):i64ok ((p.Ua.length:Int)-1))) (ai (fun h1:(decide (((p.Ua.length:Int)-1)<0))=true=>(fun _:((p.Ua.length:Int)-1)<0=>(fun hF:(p,3)=(F55 n down p)=>ai (congrArg (fun r:Qp×Int=>(.int .i64 r.1.Box:Value)) hF) (ai (Imp.of_eq (congrArg (fun r:Qp×Int=>Dat.l 1 eInt r.1.Ua) hF)) (ai (congrArg (fun r:Qp×Int=>(.int .i64 r.2:Value)) hF) (trivial)))) (condT h1 (rfl))) (of_decide_eq_true h1)) (fun h1:(decide (((p.Ua.length:Int)-1)<0))=false=>(fun _:¬ ((p.Ua.length:Int)-1)<0=>ai ((by first | omega | (simp only [lens] at*<;> omega):0≤p.Box∧p.Box<(n.Qa.length:Int))) (ai ((by first | omega | (simp only [lens] at*<;> omega):0≤((p.Ua.length:Int)-1)∧((p.Ua.length:Int)-1)<(p.Ua.length:Int))) (ai (trivial) (ai ((Imps.refl (Qj (q55_5 n p)))) (ai ((Imp.refl (.v (vI (q55_4 p))))) (ai (fun h2:(!(q55_1 n p).2)=true=>(fun _:(q55_1 n p).2=false=>(fun hF:(p,4)=(F55 n down p)=>ai (congrArg (fun r:Qp×Int=>(.int .i64 r.1.Box:Value)) hF) (ai (Imp.of_eq (congrArg (fun r:Qp×Int=>Dat.l 1 eInt r.1.Ua) hF)) (ai (congrArg (fun r:Qp×Int=>(.int .i64 r.2:Value)) hF) (trivial)))) (condF h1 (condT h2 (rfl)))) ((notET h2))) (fun h2:(!(q55_1 n p).2)=false=>(fun _:(q55_1 n p).2=true=>ai (fun h3:((q55_1 n p).1.Next==(-1))=true=>(fun _:(q55_1 n p).1.Next=(-1)=>ai ((by first | omega | (simp only [lens] at*<;> omega):0≤(0:Int)∧(0:Int)≤((p.Ua.length:Int)-1)∧((p.Ua.length:Int)-1)≤(p.Ua.length:Int))) ((fun hF:((⟨p.Box,(p.Ua.take ((p.Ua.length:Int)-1).toNat)⟩:Qp),0)=(F55 n down p)=>ai (congrArg (fun r:Qp×Int=>(.int .i64 r.1.Box:Value)) hF) (ai (Imp.of_eq (congrArg (fun r:Qp×Int=>Dat.l 1 eInt r.1.Ua) hF)) (ai (congrArg (fun r:Qp×Int=>(.int .i64 r.2:Value)) hF) (trivial)))) (condF h1 (condF h2 (condT h3 (rfl)))))) (eq_of_beq h3)) (fun h3:((q55_1 n p).1.Next==(-1))=false=>(fun _:¬ (q55_1 n p).1.Next=(-1)=>ai (((by first | assumption | exact Qv.frame (by assumption):FrameOk n))) (ai ((Imps.refl (Qf n))) (ai ((Imp.refl (.l 1 eInt down))) (ai ((Imp.refl (.v (vI p.Box)))) (ai ((Imp.refl (.v (vI (q55_1 n p).1.Next)))) (ai (fun h4:(!decide (Qt n p.Box (q55_1 n p).1.Next∈down))=true=>ai ((by first | omega | (simp only [lens] at*<;> omega):0≤((p.Ua.length:Int)-1)∧((p.Ua.length:Int)-1)<(p.Ua.length:Int))) (ai ((SetOK.mk eInt p.Ua (q55_1 n p).1.Out rfl (by exact ai ir (trivial)):SetOK (.l 1 eInt p.Ua) (((p.Ua.length:Int)-1)).toNat (eInt (q55_4 p)) [.v (vI (q55_1 n p).1.Out)] (.l 1 eInt (q55_3 p n)))) ((fun hF:((⟨(q55_1 n p).1.Next,(q55_3 p n)⟩:Qp),0)=(F55 n down p)=>ai (congrArg (fun r:Qp×Int=>(.int .i64 r.1.Box:Value)) hF) (ai (Imp.of_eq (congrArg (fun r:Qp×Int=>Dat.l 1 eInt r.1.Ua) hF)) (ai (congrArg (fun r:Qp×Int=>(.int .i64 r.2:Value)) hF) (trivial)))) (condF h1 (condF h2 (condF h3 (condT h4 (rfl)))))))) (fun h4:(!decide (Qt n p.Box (q55_1 n p).1.Next∈down))=false=>ai ((by first | omega | (simp only [lens] at*<;> omega):0≤p.Box∧p.Box<(n.Qa.length:Int))) (ai (trivial) (ai ((Imps.refl (Qj (q55_5 n p)))) (ai ((Imp.refl (.v (vI (q55_1 n p).1.Next)))) (ai ((fun k5:(!(q55_2 n p).2)=false=>(fun _:(q55_2 n p).2=true=>((by first | assumption | exact Qv.frame (by assumption):FrameOk n))) ((notEF k5)))) (ai ((fun k6:(!(q55_2 n p).2)=false=>(fun _:(q55_2 n p).2=true=>(Imps.refl (Qf n))) ((notEF k6)))) (ai ((fun k7:(!(q55_2 n p).2)=false=>(fun _:(q55_2 n p).2=true=>(Imp.refl (.l 1 eInt down))) ((notEF k7)))) (ai ((fun k8:(!(q55_2 n p).2)=false=>(fun _:(q55_2 n p).2=true=>(Imp.refl (.v (vI p.Box)))) ((notEF k8)))) (ai ((fun k9:(!(q55_2 n p).2)=false=>(fun _:(q55_2 n p).2=true=>(Imp.refl (.v (vI (q55_2 n p).1.Via)))) ((notEF k9)))) (ai (fun h10:(bif (!(q55_2 n p).2) then true else (!(!decide (Qt n p.Box (q55_2 n p).1.Via∈down))))=true=>(fun hF:(p,5)=(F55 n down p)=>ai (congrArg (fun r:Qp×Int=>(.int .i64 r.1.Box:Value)) hF) (ai (Imp.of_eq (congrArg (fun r:Qp×Int=>Dat.l 1 eInt r.1.Ua) hF)) (ai (congrArg (fun r:Qp×Int=>(.int .i64 r.2:Value)) hF) (trivial)))) (condF h1 (condF h2 (condF h3 (condF h4 (condT h10 (rfl))))))) (fun h10:(bif (!(q55_2 n p).2) then true else (!(!decide (Qt n p.Box (q55_2 n p).1.Via∈down))))=false=>(fun _:(q55_2 n p).2=true=>ai (fun h11:((p.Ua.length:Int)==8)=true=>(fun _:(p.Ua.length:Int)=8=>(fun hF:(p,7)=(F55 n down p)=>ai (congrArg (fun r:Qp×Int=>(.int .i64 r.1.Box:Value)) hF) (ai (Imp.of_eq (congrArg (fun r:Qp×Int=>Dat.l 1 eInt r.1.Ua) hF)) (ai (congrArg (fun r:Qp×Int=>(.int .i64 r.2:Value)) hF) (trivial)))) (condF h1 (condF h2 (condF h3 (condF h4 (condF h10 (condT h11 (rfl)))))))) (eq_of_beq h11)) (fun h11:((p.Ua.length:Int)==8)=false=>(fun _:¬ (p.Ua.length:Int)=8=>ai ((by first | omega | (simp only [lens] at*<;> omega):0≤((p.Ua.length:Int)-1)∧((p.Ua.length:Int)-1)<(p.Ua.length:Int))) (ai ((SetOK.mk eInt p.Ua (q55_1 n p).1.Out rfl (by exact ai ir (trivial)):SetOK (.l 1 eInt p.Ua) (((p.Ua.length:Int)-1)).toNat (eInt (q55_4 p)) [.v (vI (q55_1 n p).1.Out)] (.l 1 eInt (q55_3 p n)))) (ai ((AppA.mk eInt (q55_3 p n) [(q55_2 n p).1.Push] (Imp.refl (.l 1 eInt (q55_3 p n))) rfl (by exact ai ir (trivial)) (fun _=>rfl):AppA (.l 1 eInt (q55_3 p n)) 1 1 [.v (vI (q55_2 n p).1.Push)] (.l 1 eInt ((q55_3 p n)++[(q55_2 n p).1.Push])))) (ai ((by (try simp only [lens]); omega:(((q55_3 p n)++[(q55_2 n p).1.Push])).length*8≤140737488355328)) ((fun hF:((⟨(q55_2 n p).1.Via,((q55_3 p n)++[(q55_2 n p).1.Push])⟩:Qp),0)=(F55 n down p)=>ai (congrArg (fun r:Qp×Int=>(.int .i64 r.1.Box:Value)) hF) (ai (Imp.of_eq (congrArg (fun r:Qp×Int=>Dat.l 1 eInt r.1.Ua) hF)) (ai (congrArg (fun r:Qp×Int=>(.int .i64 r.2:Value)) hF) (trivial)))) (condF h1 (condF h2 (condF h3 (condF h4 (condF h10 (condF h11 (rfl)))))))))))) (beqF h11))) ((notEF (orF1 h10)))))))))))))))))))) (beqF h3))) ((notEF h2))))))))) (of_decide_eq_false h1)))))) hp.1 hp.2.1 hp.2.2.1 hp.2.2.2) (by kernel_rfl)
def F95_s0 (n:Qe) (down:List Int) (a:Int) (b:Int):Int→Lp Int Bool:=fun i40 =>
 bif (decide (i40<(down.length:Int))) then (bif ((down.getD i40.toNat default)==(Qt n a b)) then (.ret true) else (.next (i40+1))) else (.done i40)
def F95 (n:Qe) (down:List Int) (a:Int) (b:Int):Bool :=
 (runL (F95_s0 n down a b) (((down.length:Int)-0).toNat+1) 0).fin (fun r=>r) (fun i40=>false)
def S95 (R:Bool) (n:Qe) (down:List Int) (a:Int) (b:Int):Spec:=⟨[.r (.g (Qf n)),.r (.c (.l 1 eInt down)),.r (.c (.v (vI a))),.r (.c (.v (vI b)))],.v (.bool R),True⟩
theorem ok95 (n:Qe) (down:List Int) (a:Int) (b:Int):(S95 (F95 n down a b) n down a b).ok Try.prog 95 :=
 fnG_ok mixed (fn:=Try.f95) (ct:=.seqk [(1,0)] (.no) (.seq (.reg [(3,.call 97 (S97 (Qt n a b) n a b) (oa97 n a b) none)]) (.seq (.seqk [(1,0)] (.no) (.blk (.loop (ι:=Nat×Int) (fun i=>(fun (i40:Int)=>(⟨[(1,some (.h 0 0)),(9,some (.v (vI (Qt n a b)))),(10,some (.v (vI i40)))],[(0,some (.shr none (.l 1 eInt down)))],1⟩:St)) i.2) (fun i=>runL (F95_s0 n down a b) i.1 i.2=(runL (F95_s0 n down a b) (((down.length:Int)-0).toNat+1) 0)∧(fun (i40:Int)=>(Int.toNat ((down.length:Int)-i40)<i.1∧(0:Int)≤i40)) i.2) (fun i=>i.1) ((((down.length:Int)-0).toNat+1),0) (fun i=>(fun (i40:Int)=>(.seq (.seq (.no) (.cond (.no) (.no))) (.seq (.blk (.seq (.no) (.cond (.seq (.no) (.no)) (.no)))) (.reg [(1,.bnd)])))) i.2)))) (.seq (.no) (.no))))) Try.func95 (fun (_:True)=>fun (_:down.length≤9223372036854775807)=>ai (trivial) (ai ((Imps.refl (Qf n))) (ai ((Imp.refl (.v (vI a)))) (ai ((Imp.refl (.v (vI b)))) (fun (_:down.length≤9223372036854775807)=>ai (ai (rfl) (ai (rfl) (ai (ir) ((ai (rfl:runL (F95_s0 n down a b) (((down.length:Int)-0).toNat+1) 0=(runL (F95_s0 n down a b) (((down.length:Int)-0).toNat+1) 0)) (ai ((Nat.lt_succ_self _:Int.toNat ((down.length:Int)-0)<(((down.length:Int)-0).toNat+1))) ((by omega:(0:Int)≤0))))))):((.int .i64 (Qt n a b):Value)=.int .i64 (Qt n a b))∧((.int .i64 0:Value)=.int .i64 0)∧(Imp (.l 1 eInt down) (.l 1 eInt down))∧(runL (F95_s0 n down a b) (((down.length:Int)-0).toNat+1) 0=(runL (F95_s0 n down a b) (((down.length:Int)-0).toNat+1) 0)∧Int.toNat ((down.length:Int)-0)<(((down.length:Int)-0).toNat+1)∧(0:Int)≤0)) (fun (i0:Nat×Int) (hi0:runL (F95_s0 n down a b) i0.1 i0.2=(runL (F95_s0 n down a b) (((down.length:Int)-0).toNat+1) 0)∧(fun (i40:Int)=>(Int.toNat ((down.length:Int)-i40)<i0.1∧(0:Int)≤i40)) i0.2)=>(fun (m0:Nat) (i40:Int) (hI0:runL (F95_s0 n down a b) (m0+1) i40=(runL (F95_s0 n down a b) (((down.length:Int)-0).toNat+1) 0)) (_:Int.toNat ((down.length:Int)-i40)<m0+1) (hl0:m0<i0.1) (_:(0:Int)≤i40)=>ai (fun h2:(decide (i40<(down.length:Int)))=true=>(fun _:i40<(down.length:Int)=>ai ((by omega:0≤i40∧i40<(down.length:Int))) (ai (fun h3:((down.getD i40.toNat default)==(Qt n a b))=true=>(fun _:(down.getD i40.toNat default)=(Qt n a b)=>(fun hF:(true:Bool)=(F95 n down a b)=>ai (congrArg (fun r:Bool=>(.bool r:Value)) hF) (trivial)) (finR (runL_ret hI0 (condT h2 (condT h3 (rfl)))) rfl)) (eq_of_beq h3)) (fun h3:((down.getD i40.toNat default)==(Qt n a b))=false=>(fun _:¬ (down.getD i40.toNat default)=(Qt n a b)=>ai ((by unfold i64ok; omega:i64ok (i40+1))) (Exists.intro (p:=fun j:Nat×Int=>(fun (i40_:Int)=>(((.int .i64 (Qt n a b):Value)=.int .i64 (Qt n a b))∧((.int .i64 (i40+1):Value)=.int .i64 i40_)∧(Imp (.l 1 eInt down) (.l 1 eInt down))∧((runL (F95_s0 n down a b) j.1 j.2=(runL (F95_s0 n down a b) (((down.length:Int)-0).toNat+1) 0)∧Int.toNat ((down.length:Int)-i40_)<j.1∧(0:Int)≤i40_)∧j.1<i0.1))) j.2) (m0,(i40+1)) (ai (rfl) (ai (rfl) (ai (ir) (ai (ai (runL_next hI0 (condT h2 (condF h3 (rfl)))) (ai ((by omega:Int.toNat ((down.length:Int)-(i40+1))<m0)) ((by omega:(0:Int)≤(i40+1))))) hl0)))))) (beqF h3)))) (of_decide_eq_true h2)) (fun h2:(decide (i40<(down.length:Int)))=false=>(fun _:¬ i40<(down.length:Int)=>(fun hD0_4:(runL (F95_s0 n down a b) (((down.length:Int)-0).toNat+1) 0)=Lp.done i40=>(fun hF:(false:Bool)=(F95 n down a b)=>ai (congrArg (fun r:Bool=>(.bool r:Value)) hF) (trivial)) (finD hD0_4 (rfl))) (runL_done hI0 (condF h2 (rfl)))) (of_decide_eq_false h2))) (i0.1-1) i0.2 (hd1 hi0.1 hi0.2.1) (hd2 hi0.2.1) (hd3 hi0.2.1) hi0.2.2)))))) (by kernel_rfl)
theorem as95 (n:Qe) (down:List Int) (a:Int) (b:Int):F95 n down a b=(decide (Qt n a b∈down)):=by
 unfold F95
 rw [← mem_idx,← any_idx,search (fun k=>decide (Qt n a b=down.getD k default)) (fun _=>true) down.length _ (fun k hk=>by simp only [F95_s0,ltD hk,cond_true,nn,beqD,eq_comm]) (by simp [F95_s0])]
 unfold idxI
 all_goals (cases first (fun k=>decide (Qt n a b=down.getD k default)) down.length <;> simp [oix])
theorem oa95 (n:Qe) (down:List Int) (a:Int) (b:Int):(S95 (decide (Qt n a b∈down)) n down a b).ok Try.prog 95:=by
 intro hp; have h:=ok95 n down a b hp; rw [as95 n down a b] at h; exact h
def F58 (n:Qe) (down:List Int) (p:Qp):Qp×Int :=
 bif (!(packB n p)) then ((⟨0,[]⟩:Qp),2) else (bif (decide (((p.Ua.length:Int)-1)<0)) then (p,3) else (bif (decide ((oix (rowIx (n.Qa.getD (Int.toNat p.Box) default) (p.Ua.getD ((p.Ua.length:Int)-1).toNat default)))<0)) then (p,4) else (bif (decide (((n.Qa.getD (Int.toNat p.Box) default).Rows.getD (oix (rowIx (n.Qa.getD (Int.toNat p.Box) default) (p.Ua.getD ((p.Ua.length:Int)-1).toNat default))).toNat default).Next<0)) then ((⟨p.Box,(p.Ua.take ((p.Ua.length:Int)-1).toNat)⟩:Qp),0) else (bif (!(decide (Qt n p.Box ((n.Qa.getD (Int.toNat p.Box) default).Rows.getD (oix (rowIx (n.Qa.getD (Int.toNat p.Box) default) (p.Ua.getD ((p.Ua.length:Int)-1).toNat default))).toNat default).Next∈down))) then ((⟨((n.Qa.getD (Int.toNat p.Box) default).Rows.getD (oix (rowIx (n.Qa.getD (Int.toNat p.Box) default) (p.Ua.getD ((p.Ua.length:Int)-1).toNat default))).toNat default).Next,(p.Ua.set (((p.Ua.length:Int)-1)).toNat ((n.Qa.getD (Int.toNat p.Box) default).Rows.getD (oix (rowIx (n.Qa.getD (Int.toNat p.Box) default) (p.Ua.getD ((p.Ua.length:Int)-1).toNat default))).toNat default).Out)⟩:Qp),0) else (bif (bif decide ((oix (guardIx (n.Qa.getD (Int.toNat p.Box) default) ((n.Qa.getD (Int.toNat p.Box) default).Rows.getD (oix (rowIx (n.Qa.getD (Int.toNat p.Box) default) (p.Ua.getD ((p.Ua.length:Int)-1).toNat default))).toNat default).Next))<0) then true else (decide (Qt n p.Box ((n.Qa.getD (Int.toNat p.Box) default).Qc.getD (oix (guardIx (n.Qa.getD (Int.toNat p.Box) default) ((n.Qa.getD (Int.toNat p.Box) default).Rows.getD (oix (rowIx (n.Qa.getD (Int.toNat p.Box) default) (p.Ua.getD ((p.Ua.length:Int)-1).toNat default))).toNat default).Next)).toNat default).Via∈down))) then (p,5) else (bif ((p.Ua.length:Int)==8) then (p,7) else ((⟨((n.Qa.getD (Int.toNat p.Box) default).Qc.getD (oix (guardIx (n.Qa.getD (Int.toNat p.Box) default) ((n.Qa.getD (Int.toNat p.Box) default).Rows.getD (oix (rowIx (n.Qa.getD (Int.toNat p.Box) default) (p.Ua.getD ((p.Ua.length:Int)-1).toNat default))).toNat default).Next)).toNat default).Via,((p.Ua.set (((p.Ua.length:Int)-1)).toNat ((n.Qa.getD (Int.toNat p.Box) default).Rows.getD (oix (rowIx (n.Qa.getD (Int.toNat p.Box) default) (p.Ua.getD ((p.Ua.length:Int)-1).toNat default))).toNat default).Out)++[((n.Qa.getD (Int.toNat p.Box) default).Qc.getD (oix (guardIx (n.Qa.getD (Int.toNat p.Box) default) ((n.Qa.getD (Int.toNat p.Box) default).Rows.getD (oix (rowIx (n.Qa.getD (Int.toNat p.Box) default) (p.Ua.getD ((p.Ua.length:Int)-1).toNat default))).toNat default).Next)).toNat default).Push])⟩:Qp),0)))))))
def S58 (R:Qp×Int) (n:Qe) (down:List Int) (p:Qp):Spec:=⟨[.r (.g (Qf n)),.r (.c (.l 1 eInt down)),.r (.g (Qq p))],.tu [.ag [.v (vI R.1.Box),.ow (.l 1 eInt R.1.Ua)],.v (vI R.2)],Qv n∧p.Ua.length≤1000000000∧n.Qa.length≤8⟩
abbrev q58_1 (n:Qe) (p:Qp):=((n.Qa.getD (Int.toNat p.Box) default).Rows.getD (oix (rowIx (n.Qa.getD (Int.toNat p.Box) default) (p.Ua.getD ((p.Ua.length:Int)-1).toNat default))).toNat default)
abbrev q58_2 (n:Qe) (p:Qp):=(oix (guardIx (n.Qa.getD (Int.toNat p.Box) default) (q58_1 n p).Next))
abbrev q58_3 (n:Qe) (p:Qp):=((n.Qa.getD (Int.toNat p.Box) default).Qc.getD (q58_2 n p).toNat default)
abbrev q58_4 (p:Qp) (n:Qe):=(p.Ua.set (((p.Ua.length:Int)-1)).toNat (q58_1 n p).Out)
abbrev q58_5 (n:Qe) (p:Qp):=(oix (rowIx (n.Qa.getD (Int.toNat p.Box) default) (p.Ua.getD ((p.Ua.length:Int)-1).toNat default)))
abbrev q58_6 (n:Qe) (p:Qp):=(n.Qa.getD (Int.toNat p.Box) default)
abbrev q58_7 (p:Qp):=(⟨p.Box,(p.Ua.take ((p.Ua.length:Int)-1).toNat)⟩:Qp)
abbrev q58_8 (p:Qp):=(p.Ua.getD ((p.Ua.length:Int)-1).toNat default)
abbrev q58_9 (n:Qe) (p:Qp):=(⟨(q58_3 n p).Via,((q58_4 p n)++[(q58_3 n p).Push])⟩:Qp)
theorem ok58 (n:Qe) (down:List Int) (p:Qp):(S58 (F58 n down p) n down p).ok Try.prog 58 :=
 fnG_ok mixed (fn:=Try.f58) (ct:=.seqk [(1,0)] (.no) (.seq (.reg [(1,.call 57 (S57 p p) (oa57 p) none)]) (.seq (.seq (.reg [(2,.call 56 (S56 (packB n p) n p) (oa56 n p) none)]) (.cond (.seq (.no) (.no)) (.no))) (.seq (.reg [(3,.bnd)]) (.seq (.seq (.no) (.cond (.seq (.no) (.no)) (.no))) (.seq (.reg [(11,.call 70 (S70 (q58_5 n p) (q58_6 n p) (q58_8 p)) (oa70 (q58_6 n p) (q58_8 p)) none)]) (.seq (.seq (.no) (.cond (.seq (.no) (.no)) (.no))) (.seq (.no) (.seq (.seq (.no) (.cond (.seq (.no) (.seq (.reg [(1,.call 57 (S57 (q58_7 p) (q58_7 p)) (oa57 (q58_7 p)) none)]) (.no))) (.no))) (.seq (.seq (.reg [(6,.call 95 (S95 (decide (Qt n p.Box (q58_1 n p).Next∈down)) n down p.Box (q58_1 n p).Next) (oa95 n down p.Box (q58_1 n p).Next) none)]) (.cond (.seq (.reg [(6,.dat (.l 1 eInt (q58_4 p n)))]) (.seq (.no) (.seq (.no) (.no)))) (.no))) (.seq (.reg [(8,.call 96 (S96 (q58_2 n p) (q58_6 n p) (q58_1 n p).Next) (oa96 (q58_6 n p) (q58_1 n p).Next) none)]) (.seq (.seq (.reg [(18,.call 95 (S95 (decide (Qt n p.Box (q58_3 n p).Via∈down)) n down p.Box (q58_3 n p).Via) (oa95 n down p.Box (q58_3 n p).Via) none)]) (.cond (.seq (.no) (.no)) (.no))) (.seq (.seq (.no) (.cond (.seq (.no) (.no)) (.no))) (.seq (.reg [(6,.dat (.l 1 eInt (q58_4 p n)))]) (.seq (.reg [(14,.dat (.l 1 eInt ((q58_4 p n)++[(q58_3 n p).Push])))]) (.seq (.no) (.seq (.reg [(1,.call 57 (S57 (q58_9 n p) (q58_9 n p)) (oa57 (q58_9 n p)) none)]) (.no)))))))))))))))))) Try.func58 (fun (hp:Qv n∧p.Ua.length≤1000000000∧n.Qa.length≤8)=>(fun (hpre0:Qv n) (hpre1:p.Ua.length≤1000000000) (hpre2:n.Qa.length≤8)=>fun (_:down.length≤9223372036854775807)=>ai (((by first | omega | (simp only [lens] at*<;> omega):p.Ua.length≤1000000000))) (ai ((Imps.refl (Qq p))) (ai (((by first | omega | (simp only [lens] at*<;> omega):n.Qa.length≤9223372036854775807))) (ai ((Imps.refl (Qf n))) (ai ((Imps.refl (Qq p))) (ai (fun h1:(!(packB n p))=true=>(fun hF:((⟨0,[]⟩:Qp),2)=(F58 n down p)=>ai (congrArg (fun r:Qp×Int=>(.int .i64 r.1.Box:Value)) hF) (ai ((Imp.nil 1 eInt).trans (Imp.of_eq (congrArg (fun r:Qp×Int=>Dat.l 1 eInt r.1.Ua) hF))) (ai (congrArg (fun r:Qp×Int=>(.int .i64 r.2:Value)) hF) (trivial)))) (condT h1 (rfl))) (fun h1:(!(packB n p))=false=>(fun _:0≤p.Box∧p.Box≤(n.Qa.length:Int)-1∧(p.Ua.length:Int)≤8=>(fun _:packB n p=true=>ai ((by unfold i64ok; first | omega | (simp only [lens] at*<;> omega):i64ok ((p.Ua.length:Int)-1))) (ai (fun h2:(decide (((p.Ua.length:Int)-1)<0))=true=>(fun _:((p.Ua.length:Int)-1)<0=>(fun hF:(p,3)=(F58 n down p)=>ai (congrArg (fun r:Qp×Int=>(.int .i64 r.1.Box:Value)) hF) (ai (Imp.of_eq (congrArg (fun r:Qp×Int=>Dat.l 1 eInt r.1.Ua) hF)) (ai (congrArg (fun r:Qp×Int=>(.int .i64 r.2:Value)) hF) (trivial)))) (condF h1 (condT h2 (rfl)))) (of_decide_eq_true h2)) (fun h2:(decide (((p.Ua.length:Int)-1)<0))=false=>(fun _:¬ ((p.Ua.length:Int)-1)<0=>ai ((by first | omega | (simp only [lens] at*<;> omega):0≤p.Box∧p.Box<(n.Qa.length:Int))) (ai ((by first | omega | (simp only [lens] at*<;> omega):0≤((p.Ua.length:Int)-1)∧((p.Ua.length:Int)-1)<(p.Ua.length:Int))) (ai (trivial) (ai ((Imps.refl (Qj (q58_6 n p)))) (ai ((Imp.refl (.v (vI (q58_8 p))))) ((fun gv3:(q58_5 n p)<((q58_6 n p).Rows.length:Int)=>ai (fun h4:(decide ((q58_5 n p)<0))=true=>(fun _:(q58_5 n p)<0=>(fun hF:(p,4)=(F58 n down p)=>ai (congrArg (fun r:Qp×Int=>(.int .i64 r.1.Box:Value)) hF) (ai (Imp.of_eq (congrArg (fun r:Qp×Int=>Dat.l 1 eInt r.1.Ua) hF)) (ai (congrArg (fun r:Qp×Int=>(.int .i64 r.2:Value)) hF) (trivial)))) (condF h1 (condF h2 (condT h4 (rfl))))) (of_decide_eq_true h4)) (fun h4:(decide ((q58_5 n p)<0))=false=>(fun _:¬ (q58_5 n p)<0=>ai ((by first | omega | (simp only [lens] at*<;> omega):0≤p.Box∧p.Box<(n.Qa.length:Int))) (ai ((by first | omega | (simp only [lens] at*<;> omega):0≤(q58_5 n p)∧(q58_5 n p)<((q58_6 n p).Rows.length:Int))) (ai (fun h5:(decide ((q58_1 n p).Next<0))=true=>(fun _:(q58_1 n p).Next<0=>ai ((by first | omega | (simp only [lens] at*<;> omega):0≤(0:Int)∧(0:Int)≤((p.Ua.length:Int)-1)∧((p.Ua.length:Int)-1)≤(p.Ua.length:Int))) (ai (((by first | omega | (simp only [lens] at*<;> omega):(p.Ua.take ((p.Ua.length:Int)-1).toNat).length≤1000000000))) (ai ((Imps.refl (Qq (q58_7 p)))) ((fun hF:((q58_7 p),0)=(F58 n down p)=>ai (congrArg (fun r:Qp×Int=>(.int .i64 r.1.Box:Value)) hF) (ai (Imp.of_eq (congrArg (fun r:Qp×Int=>Dat.l 1 eInt r.1.Ua) hF)) (ai (congrArg (fun r:Qp×Int=>(.int .i64 r.2:Value)) hF) (trivial)))) (condF h1 (condF h2 (condF h4 (condT h5 (rfl))))))))) (of_decide_eq_true h5)) (fun h5:(decide ((q58_1 n p).Next<0))=false=>(fun _:¬ (q58_1 n p).Next<0=>ai (trivial) (ai ((Imps.refl (Qf n))) (ai ((Imp.refl (.l 1 eInt down))) (ai ((Imp.refl (.v (vI p.Box)))) (ai ((Imp.refl (.v (vI (q58_1 n p).Next)))) (ai (fun h6:(!(decide (Qt n p.Box (q58_1 n p).Next∈down)))=true=>(fun _:¬ (Qt n p.Box (q58_1 n p).Next∈down)=>ai ((by first | omega | (simp only [lens] at*<;> omega):0≤((p.Ua.length:Int)-1)∧((p.Ua.length:Int)-1)<(p.Ua.length:Int))) (ai ((SetOK.mk eInt p.Ua (q58_1 n p).Out rfl (by exact ai ir (trivial)):SetOK (.l 1 eInt p.Ua) (((p.Ua.length:Int)-1)).toNat (eInt (q58_8 p)) [.v (vI (q58_1 n p).Out)] (.l 1 eInt (q58_4 p n)))) ((fun hF:((⟨(q58_1 n p).Next,(q58_4 p n)⟩:Qp),0)=(F58 n down p)=>ai (congrArg (fun r:Qp×Int=>(.int .i64 r.1.Box:Value)) hF) (ai (Imp.of_eq (congrArg (fun r:Qp×Int=>Dat.l 1 eInt r.1.Ua) hF)) (ai (congrArg (fun r:Qp×Int=>(.int .i64 r.2:Value)) hF) (trivial)))) (condF h1 (condF h2 (condF h4 (condF h5 (condT h6 (rfl))))))))) (of_decide_eq_false (notET h6))) (fun h6:(!(decide (Qt n p.Box (q58_1 n p).Next∈down)))=false=>(fun _:Qt n p.Box (q58_1 n p).Next∈down=>ai ((by first | omega | (simp only [lens] at*<;> omega):0≤p.Box∧p.Box<(n.Qa.length:Int))) (ai (trivial) (ai ((Imps.refl (Qj (q58_6 n p)))) (ai ((Imp.refl (.v (vI (q58_1 n p).Next)))) ((fun gv7:(q58_2 n p)<((q58_6 n p).Qc.length:Int)=>ai ((fun k8:(decide ((q58_2 n p)<0))=false=>(fun _:¬ (q58_2 n p)<0=>(by first | omega | (simp only [lens] at*<;> omega):0≤p.Box∧p.Box<(n.Qa.length:Int))) (of_decide_eq_false k8))) (ai ((fun k9:(decide ((q58_2 n p)<0))=false=>(fun _:¬ (q58_2 n p)<0=>(by first | omega | (simp only [lens] at*<;> omega):0≤(q58_2 n p)∧(q58_2 n p)<((q58_6 n p).Qc.length:Int))) (of_decide_eq_false k9))) (ai ((fun k10:(decide ((q58_2 n p)<0))=false=>(fun _:¬ (q58_2 n p)<0=>trivial) (of_decide_eq_false k10))) (ai ((fun k11:(decide ((q58_2 n p)<0))=false=>(fun _:¬ (q58_2 n p)<0=>(Imps.refl (Qf n))) (of_decide_eq_false k11))) (ai ((fun k12:(decide ((q58_2 n p)<0))=false=>(fun _:¬ (q58_2 n p)<0=>(Imp.refl (.l 1 eInt down))) (of_decide_eq_false k12))) (ai ((fun k13:(decide ((q58_2 n p)<0))=false=>(fun _:¬ (q58_2 n p)<0=>(Imp.refl (.v (vI p.Box)))) (of_decide_eq_false k13))) (ai ((fun k14:(decide ((q58_2 n p)<0))=false=>(fun _:¬ (q58_2 n p)<0=>(Imp.refl (.v (vI (q58_3 n p).Via)))) (of_decide_eq_false k14))) (ai (fun h15:(bif decide ((q58_2 n p)<0) then true else (decide (Qt n p.Box (q58_3 n p).Via∈down)))=true=>(fun hF:(p,5)=(F58 n down p)=>ai (congrArg (fun r:Qp×Int=>(.int .i64 r.1.Box:Value)) hF) (ai (Imp.of_eq (congrArg (fun r:Qp×Int=>Dat.l 1 eInt r.1.Ua) hF)) (ai (congrArg (fun r:Qp×Int=>(.int .i64 r.2:Value)) hF) (trivial)))) (condF h1 (condF h2 (condF h4 (condF h5 (condF h6 (condT h15 (rfl)))))))) (fun h15:(bif decide ((q58_2 n p)<0) then true else (decide (Qt n p.Box (q58_3 n p).Via∈down)))=false=>(fun _:¬ (Qt n p.Box (q58_3 n p).Via∈down)=>(fun _:¬ (q58_2 n p)<0=>ai (fun h16:((p.Ua.length:Int)==8)=true=>(fun _:(p.Ua.length:Int)=8=>(fun hF:(p,7)=(F58 n down p)=>ai (congrArg (fun r:Qp×Int=>(.int .i64 r.1.Box:Value)) hF) (ai (Imp.of_eq (congrArg (fun r:Qp×Int=>Dat.l 1 eInt r.1.Ua) hF)) (ai (congrArg (fun r:Qp×Int=>(.int .i64 r.2:Value)) hF) (trivial)))) (condF h1 (condF h2 (condF h4 (condF h5 (condF h6 (condF h15 (condT h16 (rfl))))))))) (eq_of_beq h16)) (fun h16:((p.Ua.length:Int)==8)=false=>(fun _:¬ (p.Ua.length:Int)=8=>ai ((by first | omega | (simp only [lens] at*<;> omega):0≤((p.Ua.length:Int)-1)∧((p.Ua.length:Int)-1)<(p.Ua.length:Int))) (ai ((SetOK.mk eInt p.Ua (q58_1 n p).Out rfl (by exact ai ir (trivial)):SetOK (.l 1 eInt p.Ua) (((p.Ua.length:Int)-1)).toNat (eInt (q58_8 p)) [.v (vI (q58_1 n p).Out)] (.l 1 eInt (q58_4 p n)))) (ai ((by first | omega | (simp only [lens] at*<;> omega):0≤p.Box∧p.Box<(n.Qa.length:Int))) (ai ((by first | omega | (simp only [lens] at*<;> omega):0≤(q58_2 n p)∧(q58_2 n p)<((q58_6 n p).Qc.length:Int))) (ai ((AppA.mk eInt (q58_4 p n) [(q58_3 n p).Push] (Imp.refl (.l 1 eInt (q58_4 p n))) rfl (by exact ai ir (trivial)) (fun _=>rfl):AppA (.l 1 eInt (q58_4 p n)) 1 1 [.v (vI (q58_3 n p).Push)] (.l 1 eInt ((q58_4 p n)++[(q58_3 n p).Push])))) (ai ((by (try simp only [lens]); omega:(((q58_4 p n)++[(q58_3 n p).Push])).length*8≤140737488355328)) (ai ((by first | omega | (simp only [lens] at*<;> omega):0≤p.Box∧p.Box<(n.Qa.length:Int))) (ai ((by first | omega | (simp only [lens] at*<;> omega):0≤(q58_2 n p)∧(q58_2 n p)<((q58_6 n p).Qc.length:Int))) (ai (((by first | omega | (simp only [lens] at*<;> omega):((q58_4 p n)++[(q58_3 n p).Push]).length≤1000000000))) (ai ((Imps.refl (Qq (q58_9 n p)))) ((fun hF:((q58_9 n p),0)=(F58 n down p)=>ai (congrArg (fun r:Qp×Int=>(.int .i64 r.1.Box:Value)) hF) (ai (Imp.of_eq (congrArg (fun r:Qp×Int=>Dat.l 1 eInt r.1.Ua) hF)) (ai (congrArg (fun r:Qp×Int=>(.int .i64 r.2:Value)) hF) (trivial)))) (condF h1 (condF h2 (condF h4 (condF h5 (condF h6 (condF h15 (condF h16 (rfl))))))))))))))))))) (beqF h16))) (of_decide_eq_false (orF1 h15))) (of_decide_eq_false (orF2 h15))))))))))) (guardIx_lt (q58_6 n p) (q58_1 n p).Next)))))) (of_decide_eq_true (notEF h6))))))))) (of_decide_eq_false h5))))) (of_decide_eq_false h4))) (rowIx_lt (q58_6 n p) (q58_8 p)))))))) (of_decide_eq_false h2)))) (packB_id n p (notEF h1))) (packB_T n p (notEF h1))))))))) hp.1 hp.2.1 hp.2.2) (by kernel_rfl)
theorem isLabel_mem {n:Qe} {p:Qp} (h:packB n p=true) {x:Int} (hx:x∈p.Ua):isLabel x:=by
 unfold packB at h
 simp only [Bool.and_eq_true,allB_iff] at h
 obtain ⟨k,hk,rfl⟩:=mem_getD hx
 simpa using h.2.2 k hk
theorem packB_of {n:Qe} {p:Qp} (h1:0≤p.Box) (h2:p.Box<(n.Qa.length:Int)) (h3:p.Ua.length≤8) (h4:∀ x∈p.Ua,isLabel x):packB n p=true:=by
 unfold packB
 simp only [Bool.and_eq_true,allB_iff,decide_eq_true_eq]
 exact ⟨⟨h1,by omega⟩,by omega,fun k hk=>by simpa using h4 _ (getD_mem _ hk)⟩
theorem step_eq {n:Qe} (h:Qv n) (down:List Int) (p:Qp) (hp:packB n p=true):F58 n down p=F55 n down p:=by
 obtain ⟨h0,h1,h2⟩:=packB_T n p hp
 unfold F58 F55
 simp only [hp,Bool.not_true,cond_false]
 by_cases hs:(p.Ua.length:Int)-1<0
 ·rw [decide_eq_true hs]; rfl
 ·rw [decide_eq_false hs]
  simp only [cond_false]
  generalize p.Ua.getD ((p.Ua.length:Int)-1).toNat default=top
  cases e:rowIx (n.Qa.getD (Int.toNat p.Box) default) top with
  | none=>simp only [rowP,e]; rfl
  | some k =>
   have hk:=(first_some.1 e).1
   have hn:=row_next h h0 (by omega) (k:=(k:Int)) (by omega) (by omega)
   rw [nn] at hn
   have e2:decide (oix (some k)<0)=false:=decide_eq_false (by simp only [oix]; omega)
   have e3:Int.toNat (oix (some k))=k:=rfl
   simp only [rowP,e,e2,e3,cond_false,Bool.not_true]
   generalize (n.Qa.getD (Int.toNat p.Box) default).Rows.getD k default=r at *
   have e4:decide (r.Next<0)=(r.Next==-1):=by
    rw [beqD]; (rw [Bool.eq_iff_iff]; simp only [Bool.and_eq_true,Bool.or_eq_true,Bool.not_eq_true',Bool.not_eq_false',decide_eq_true_eq,decide_eq_false_iff_not,Bool.and_eq_false_iff,Bool.or_eq_false_iff]; omega)
   rw [e4]
   cases (r.Next==-1)
   ·simp only [cond_false]
    cases decide (Qt n p.Box r.Next∈down)
    ·rfl
    ·simp only [Bool.not_true,cond_false]
     cases e5:guardIx (n.Qa.getD (Int.toNat p.Box) default) r.Next with
     | none=>simp only [guardP,e5]; rfl
     | some j =>
      have e6:decide (oix (some j)<0)=false:=decide_eq_false (by simp only [oix]; omega)
      have e7:Int.toNat (oix (some j))=j:=rfl
      simp only [guardP,e5,e6,e7,cond_false,Bool.not_true,Bool.not_not]
   ·rfl
def stepB (n:Qe) (down:List Int) (p:Qp):Qp×Int:=bif packB n p then F55 n down p else (⟨0,[]⟩,2)
theorem as58 (n:Qe) (down:List Int) (p:Qp) (h:Qv n):F58 n down p=stepB n down p:=by
 unfold stepB
 cases hp:packB n p
 ·unfold F58; rw [hp]; rfl
 ·rw [step_eq h down p hp]; rfl
theorem mem_setL {α:Type} {xs:List α} {i:Nat} {a x:α} (h:x∈xs.set i a):x∈xs∨x=a:=by
 rcases List.mem_or_eq_of_mem_set h with h | h
 ·exact .inl h
 ·exact .inr h
theorem step_pack {n:Qe} (h:Qv n) (down:List Int) (p:Qp) (hp:packB n p=true):packB n (F55 n down p).1=true:=by
 obtain ⟨h0,h1,h2⟩:=packB_T n p hp
 have hm:=fun x hx=>isLabel_mem hp (x:=x) hx
 unfold F55
 by_cases hs:(p.Ua.length:Int)-1<0
 ·rw [decide_eq_true hs]; exact hp
 ·rw [decide_eq_false hs]
  simp only [cond_false]
  generalize p.Ua.getD ((p.Ua.length:Int)-1).toNat default=top
  cases e:rowIx (n.Qa.getD (Int.toNat p.Box) default) top with
  | none=>simp only [rowP,e]; exact hp
  | some k =>
   have hk:=(first_some.1 e).1
   have hr:=(h.box (Int.toNat p.Box) (by omega)).row k hk
   have hn:=row_next h h0 (by omega) (k:=(k:Int)) (by omega) (by omega)
   rw [nn] at hn
   simp only [rowP,e,cond_false,Bool.not_true]
   generalize (n.Qa.getD (Int.toNat p.Box) default).Rows.getD k default=r at *
   cases e4:(r.Next==-1)
   ·simp only [cond_false]
    have hne:¬ r.Next=-1:=beqF e4
    have hout:isLabel r.Out:=by
     rcases hr.2 with h5 | h5
     ·exact absurd h5.1 hne
     ·exact h5.2
    cases decide (Qt n p.Box r.Next∈down)
    ·exact packB_of (by simp only [Bool.not_false,cond_true]; omega) (by simp only [Bool.not_false,cond_true]; omega) (by simp; omega) fun x hx=>by
      rcases mem_setL hx with hx | rfl
      ·exact hm x hx
      ·exact hout
    ·simp only [Bool.not_true,cond_false]
     cases e5:guardIx (n.Qa.getD (Int.toNat p.Box) default) r.Next with
     | none=>simp only [guardP,e5]; exact hp
     | some j =>
      have hj:=(first_some.1 e5).1
      have hv:=(h.box (Int.toNat p.Box) (by omega)).via j hj
      simp only [guardP,e5,cond_false,Bool.not_true,Bool.not_not]
      generalize (n.Qa.getD (Int.toNat p.Box) default).Qc.getD j default=v at *
      cases decide (Qt n p.Box v.Via∈down)
      ·simp only [cond_false]
       cases e8:((p.Ua.length:Int)==8)
       ·have h9:=beqF e8
        have hin:=linkOf_in h.frame hv.2.1
        refine packB_of hin.2.2.1 hin.2.2.2.1 (by simp; omega) fun x hx=>?_
        rcases List.mem_append.1 hx with hx | hx
        ·rcases mem_setL hx with hx | rfl
         ·exact hm x hx
         ·exact hout
        ·rw [List.mem_singleton.1 hx]; exact hv.2.2.2
       ·exact hp
      ·exact hp
   ·simp only [cond_true]
    exact packB_of h0 (by show p.Box<_; omega) (by simp; omega) fun x hx=>hm x (List.mem_of_mem_take hx)
theorem stepB_len (n:Qe) (down:List Int) (p:Qp) (h:Qv n):(stepB n down p).1.Ua.length≤8:=by
 unfold stepB
 cases hp:packB n p
 ·exact Nat.zero_le _
 ·have:=packB_T n _ (step_pack h down p hp); simp only [cond_true]; omega
theorem step_pack' (n:Qe) (down:List Int) (p:Qp) (h:Qv n) (hp:packB n p=true):packB n (F55 n down p).1=true:=step_pack h down p hp
theorem step_range (n:Qe) (down:List Int) (p:Qp) (h:Qv n) (hp:packB n p=true):0≤(F55 n down p).1.Box∧(F55 n down p).1.Box≤(n.Qa.length:Int)-1∧((F55 n down p).1.Ua.length:Int)≤8:=packB_T n _ (step_pack h down p hp)
theorem st_end (n:Qe) (dn:List Int) (u:Int):F55 n dn (⟨u,[]⟩:Qp)=((⟨u,[]⟩:Qp),3):=by
 unfold F55
 rfl
theorem st_row {n:Qe} {u l:Int} {r:Qk} (hr:rowP (bx n u) l=(r,true)) (dn S:List Int):F55 n dn (⟨u,S++[l]⟩:Qp) =
  bif (r.Next==(-1)) then ((⟨u,S⟩:Qp),0) else (bif (!decide (Qt n u r.Next∈dn)) then ((⟨r.Next,S++[r.Out]⟩:Qp),0) else
   (bif (bif (!(guardP (bx n u) r.Next).2) then true else (!(!decide (Qt n u (guardP (bx n u) r.Next).1.Via∈dn)))) then ((⟨u,S++[l]⟩:Qp),5) else
    (bif (((S++[l]).length:Int)==8) then ((⟨u,S++[l]⟩:Qp),7) else ((⟨(guardP (bx n u) r.Next).1.Via,(S++[r.Out])++[(guardP (bx n u) r.Next).1.Push]⟩:Qp),0)))):=by
 unfold F55
 have e1:((S++[l]).length:Int)-1=(S.length:Int):=by simp
 have e2:(S++[l]).getD S.length default=l:=by rw [getD_app,if_neg (Nat.lt_irrefl _),if_pos rfl]
 have e3:(S++[l]).take S.length=S:=by simp
 have e4:∀ x,(S++[l]).set S.length x=S++[x]:=fun x=>by rw [List.set_append_right _ _ (Nat.le_refl _),Nat.sub_self]; rfl
 have e5:decide ((S.length:Int)<0)=false:=decide_eq_false (by omega)
 unfold bx at hr ⊢
 simp only [e1,nn,e2,e3,e4,e5,hr,cond_false,Bool.not_true]
def Run (n:Qe) (dn:List Int):Nat→Qp→Qp→Prop
 | 0,p,q=>p=q
 | m+1,p,q=>∃ x,F55 n dn p=(x,0)∧Run n dn m x q
theorem Run.trans {n:Qe} {dn:List Int}:∀ {m k:Nat} {p q r:Qp},Run n dn m p q→Run n dn k q r→Run n dn (m+k) p r
 | 0,k,p,q,r,h1,h2=>by
  have h1:p=q:=h1
  subst h1
  rw [Nat.zero_add]; exact h2
 | m+1,k,p,q,r,⟨x,h0,h1⟩,h2=>by
  rw [show m+1+k=(m+k)+1 by omega]
  exact ⟨x,h0,h1.trans h2⟩
theorem Run.one {n:Qe} {dn:List Int} {p x:Qp} (h:F55 n dn p=(x,0)):Run n dn 1 p x:=⟨x,h,rfl⟩
theorem Tun.at {n:Qe} (hn:Qv n) {p ls:List Int} (T:Tun n p ls) {i:Nat} (hi:i<p.length):rowP (bx n (p.getD i default)) (ls.getD i default)=(rowAt p ls i,true):=by
 have h:=T.rng i hi
 exact rowP_mem hn h.1 h.2 (T.row i hi)
theorem Tun.lbl {n:Qe} (hn:Qv n) {p ls:List Int} (T:Tun n p ls) {i:Nat} (hi:i<p.length):isLabel (ls.getD i default):=by
 have h:=T.rng i hi
 exact ((bx_ok hn h.1 h.2).1.1 _ (T.row i hi)).1
theorem path_row {n:Qe}:∀ (m:Nat) (b lab:Int) (l:List (Int×Int)),Qr n m b lab=some l→∀ i,i<l.length →
  ∃ r∈(bx n (l.getD i default).1).Rows,r.In=(l.getD i default).2∧(i+1<l.length→0≤r.Next∧l.getD (i+1) default=(r.Next,r.Out))∧(i+1=l.length→r.Next<0)
 | 0,_,_,_,h=>by simp [Qr] at h
 | m+1,b,lab,l,h=>by
  unfold Qr at h
  cases e:rowIx (n.Qa.getD b.toNat default) lab with
  | none=>rw [e] at h; cases h
  | some k =>
   rw [e] at h
   obtain ⟨f1,f2,_⟩:=first_some.1 e
   have f2:=of_decide_eq_true f2
   have hm:(n.Qa.getD b.toNat default).Rows.getD k default∈(bx n b).Rows:=getD_mem _ f1
   simp only at h
   by_cases hx:((n.Qa.getD b.toNat default).Rows.getD k default).Next<0
   ·rw [if_pos hx] at h
    obtain rfl:=(Option.some.inj h)
    intro i hi
    obtain rfl:i=0:=by simp at hi; omega
    exact ⟨_,hm,f2,fun h=>absurd h (by simp),fun _=>hx⟩
   ·rw [if_neg hx] at h
    cases e2:Qr n m ((n.Qa.getD b.toNat default).Rows.getD k default).Next ((n.Qa.getD b.toNat default).Rows.getD k default).Out with
    | none=>rw [e2] at h; cases h
    | some l' =>
     rw [e2] at h
     obtain rfl:=(Option.some.inj h)
     have h0:=path_step _ _ _ _ e2
     intro i hi
     cases i with
     | zero =>
      refine ⟨_,hm,f2,fun _=>⟨by omega,?_⟩,fun h=>absurd h ?_⟩
      ·rw [List.getD_cons_succ]; exact h0.2.1
      ·have:=h0.1; simp only [List.length_cons]; omega
     | succ i =>
      have:=path_row m _ _ l' e2 i (by simpa using hi)
      simpa only [List.getD_cons_succ,List.length_cons,Nat.add_lt_add_iff_right,Nat.add_right_cancel_iff] using this
theorem path_ne {n:Qe} {m:Nat} {b lab:Int} {l:List (Int×Int)} (h:Qr n m b lab=some l):l.length≠0∧l.getD 0 default=(b,lab):=⟨(path_step _ _ _ _ h).1,(path_step _ _ _ _ h).2.1⟩
theorem path_lenM {n:Qe} {m:Nat} {b lab:Int} {l:List (Int×Int)} (h:Qr n m b lab=some l):l.length≤m:=by
 have:=pathRes_len n m b lab
 rw [h] at this
 simpa [Qw] using this.1
theorem path_tail {n:Qe} {m:Nat} {b lab:Int} {x:Int×Int} {l:List (Int×Int)} (h:Qr n m b lab=some (x :: l)) (hl:l.length≠0):∃ m',Qr n m' (l.getD 0 default).1 (l.getD 0 default).2=some l:=by
 have:=(path_step _ _ _ _ h).2.2.2 1 (by simp only [List.length_cons]; omega)
 simp only [List.getD_cons_succ,List.drop_succ_cons,List.drop_zero] at this
 exact ⟨_,this⟩
theorem follow {n:Qe} (hN:Qv n) (dn S:List Int):∀ (l:List (Int×Int)) (m:Nat) (b lab:Int),0≤b→b<(n.Qa.length:Int)→Qr n m b lab=some l →
  (∀ i,i+1<l.length→Qt n (l.getD i default).1 (l.getD (i+1) default).1 ∉ dn)→Run n dn l.length (⟨b,S++[lab]⟩:Qp) (⟨(l.getD (l.length-1) default).1,S⟩:Qp)
 | [],m,b,lab,_,_,h,_=>absurd rfl (path_ne h).1
 | x :: l,m,b,lab,h0,h1,h,hup=>by
  have hx:x=(b,lab):=(path_ne h).2
  subst hx
  obtain ⟨r,r1,r2,r3,r4⟩:=path_row m b lab _ h 0 (by simp)
  simp only [List.getD_cons_zero,List.length_cons,Nat.zero_add] at r1 r2 r3 r4
  have hrow:=rowP_mem hN h0 h1 r1
  rw [r2] at hrow
  have hs:=st_row hrow dn S
  cases l with
  | nil =>
   have hn:=r4 rfl
   have hnx:r.Next=-1:=by
    rcases ((bx_ok hN h0 h1).1.1 _ r1).2 with hh | hh
    ·exact hh.1
    ·have:=linkOf_in hN.frame hh.1; omega
   rw [hnx] at hs
   exact Run.one hs
  | cons y l =>
   obtain ⟨g1,g2⟩:=r3 (by simp)
   simp only [List.getD_cons_succ,List.getD_cons_zero] at g2
   have hne:(r.Next==-1)=false:=by rw [beqD]; exact decide_eq_false (by omega)
   have hl:=hup 0 (by simp)
   simp only [List.getD_cons_zero,List.getD_cons_succ] at hl
   rw [g2] at hl
   have hl:Qt n b r.Next ∉ dn:=hl
   rw [hne,decide_eq_false hl] at hs
   simp only [cond_false,Bool.not_false,cond_true] at hs
   obtain ⟨m',hm'⟩:=path_tail h (by simp)
   simp only [List.getD_cons_zero] at hm'
   have y1:y.1=r.Next:=by rw [g2]
   have y2:y.2=r.Out:=by rw [g2]
   rw [y1,y2] at hm'
   have hr1:r.Next<(n.Qa.length:Int):=by
    rcases ((bx_ok hN h0 h1).1.1 _ r1).2 with hh | hh
    ·omega
    ·have:=linkOf_in hN.frame hh.1; omega
   have ih:=follow hN dn S (y :: l) m' r.Next r.Out g1 hr1 hm' (fun i hi=>by
    have:=hup (i+1) (by simpa using hi)
    simpa only [List.getD_cons_succ] using this)
   refine ⟨_,hs,?_⟩
   simpa only [List.length_cons,Nat.add_sub_cancel,List.getD_cons_succ] using ih
structure LI (n:Qe):Prop where
 net:Qv n
 row:∀ b:Int,0≤b→b<(n.Qa.length:Int)→∀ r∈(bx n b).Rows,∃ l,Qr n n.Qa.length b r.In=some l∧(l.map (·.1)).Nodup
 up:∀ b1 b2:Int,0≤b1→b1<(n.Qa.length:Int)→0≤b2→b2<(n.Qa.length:Int)→∀ r1∈(bx n b1).Rows,∀ r2∈(bx n b2).Rows,0≤r1.Next→r1.Next=r2.Next→r1.Out=r2.Out→b1=b2∧r1.In=r2.In
 gd:∀ b:Int,0≤b→b<(n.Qa.length:Int)→∀ v∈(bx n b).Qc,∃ l,Qr n n.Qa.length v.Via v.Push=some l∧(l.getD (l.length-1) default).1=v.To∧Qt n b v.Via≠Qt n b v.To ∧
  ∀ i,i+1<l.length→Qt n (l.getD i default).1 (l.getD (i+1) default).1≠Qt n b v.To
theorem guardP_T {b:Qi} {x:Int} (h:(guardP b x).2=true):(guardP b x).1∈b.Qc∧(guardP b x).1.To=x:=by
 unfold guardP at h ⊢
 cases e:guardIx b x with
 | none=>rw [e] at h; cases h
 | some k =>
  obtain ⟨f1,f2,_⟩:=first_some.1 e
  exact ⟨getD_mem _ f1,of_decide_eq_true f2⟩
theorem same_link {n:Qe} {a b c d:Int} (h:Qt n a b=Qt n c d) (h0:0≤Qt n a b):(a=c∧b=d)∨(a=d∧b=c):=by
 obtain ⟨_,a2⟩:=linkOf_some h0
 obtain ⟨_,b2⟩:=linkOf_some (h ▸ h0:0≤Qt n c d)
 rw [h] at a2
 unfold isLink at a2 b2
 simp only [Bool.or_eq_true,Bool.and_eq_true,decide_eq_true_eq] at a2 b2
 omega
theorem go1 {n:Qe} (h:LI n) (d:Int) (S:List Int) (hS:S.length≤6):∀ (l:List (Int×Int)) (m:Nat) (b lab:Int),0≤b→b<(n.Qa.length:Int)→Qr n m b lab=some l→(l.map (·.1)).Nodup →
  (∃ (k:Nat) (b':Int),k≤l.length+8∧0≤b'∧b'<(n.Qa.length:Int)∧Run n [d] k (⟨b,S++[lab]⟩:Qp) (⟨b',S⟩:Qp)) ∨
  (∃ (k:Nat) (q:Qp),k≤l.length+8∧Run n [d] k (⟨b,S++[lab]⟩:Qp) q∧F55 n [d] q=(q,5))
 | [],m,b,lab,_,_,hp,_=>absurd rfl (path_ne hp).1
 | x :: l,m,b,lab,h0,h1,hp,hnd=>by
  have hN:=h.net
  have h8:=hN.frame.b8
  have hx:x=(b,lab):=(path_ne hp).2
  subst hx
  obtain ⟨r,r1,r2,r3,r4⟩:=path_row m b lab _ hp 0 (by simp)
  simp only [List.getD_cons_zero,List.length_cons,Nat.zero_add] at r1 r2 r3 r4
  cases l with
  | nil=>exact .inl ⟨1,b,by simp,h0,h1,follow hN [d] S _ m b lab h0 h1 hp (fun i hi=>by simp at hi)⟩
  | cons y l =>
   have hrow:=rowP_mem hN h0 h1 r1
   rw [r2] at hrow
   have hs:=st_row hrow [d] S
   obtain ⟨g1,g2⟩:=r3 (by simp)
   simp only [List.getD_cons_succ,List.getD_cons_zero] at g2
   have hne:(r.Next==-1)=false:=by rw [beqD]; exact decide_eq_false (by omega)
   obtain ⟨m',hm'⟩:=path_tail hp (by simp)
   simp only [List.getD_cons_zero] at hm'
   have y1:y.1=r.Next:=by rw [g2]
   have y2:y.2=r.Out:=by rw [g2]
   rw [y1,y2] at hm'
   have hlk:0≤Qt n b r.Next:=by
    rcases ((bx_ok hN h0 h1).1.1 _ r1).2 with hh | hh
    ·omega
    ·exact hh.1
   have hin:=linkOf_in hN.frame hlk
   rw [List.map_cons,List.nodup_cons] at hnd
   by_cases hd:Qt n b r.Next=d
   ·rw [hne,hd] at hs
    simp only [cond_false,List.mem_singleton,decide_true,Bool.not_true] at hs
    cases hg:(guardP (bx n b) r.Next).2 with
    | false =>
     rw [hg] at hs
     exact .inr ⟨0,_,by omega,rfl,hs⟩
    | true =>
     obtain ⟨v1,v2⟩:=guardP_T hg
     obtain ⟨gl,e1,e2,e3,e4⟩:=h.gd b h0 h1 _ v1
     have hvia:=((bx_ok hN h0 h1).2.1 _ v1)
     generalize (guardP (bx n b) r.Next).1=v at *
     rw [v2] at e2 e3 e4
     rw [hd] at e3 e4
     have hvin:=linkOf_in hN.frame hvia.2.1
     have hlen:(((S++[lab]).length:Int)==8)=false:=by rw [beqD]; exact decide_eq_false (by simp; omega)
     rw [hg,decide_eq_false e3,hlen] at hs
     simp only [Bool.not_true,Bool.not_false,cond_false] at hs
     have f1:=follow hN [d] (S++[r.Out]) gl n.Qa.length v.Via v.Push hvin.2.2.1 hvin.2.2.2.1 e1 (fun i hi=>by simpa using e4 i hi)
     rw [e2] at f1
     have f2:=follow hN [d] S (y :: l) m' r.Next r.Out g1 hin.2.2.2.1 hm' (fun i hi hmem=>by
      simp only [List.mem_singleton] at hmem
      have hmi:∀ j,j<(y :: l).length→((y :: l).getD j default).1∈(y :: l).map (·.1):=fun j hj=>List.mem_map.2 ⟨_,getD_mem _ hj,rfl⟩
      have:=same_link (hd.trans hmem.symm) hlk
      rcases this with ⟨q1,_⟩ | ⟨q1,_⟩
      ·exact hnd.1 (q1 ▸ hmi i (by omega))
      ·exact hnd.1 (q1 ▸ hmi (i+1) hi))
     have hgl:=path_lenM e1
     have hall:=pathFrom_all hN _ _ _ _ g1 hin.2.2.2.1 hm' _ (getD_mem (y :: l) (k:=(y :: l).length-1) (by simp))
     exact .inl ⟨1+(gl.length+(y :: l).length),_,by simp only [List.length_cons]; omega,hall.1,hall.2,(Run.one hs).trans (f1.trans f2)⟩
   ·have hmem:Qt n b r.Next ∉ [d]:=by simpa using hd
    rw [hne,decide_eq_false hmem] at hs
    simp only [cond_false,Bool.not_false,cond_true] at hs
    rcases go1 h d S hS (y :: l) m' r.Next r.Out g1 hin.2.2.2.1 hm' hnd.2 with ⟨k,b',k1,k2,k3,k4⟩ | ⟨k,q,k1,k2,k3⟩
    ·exact .inl ⟨1+k,b',by simp only [List.length_cons] at k1 ⊢; omega,k2,k3,(Run.one hs).trans k4⟩
    ·exact .inr ⟨1+k,q,by simp only [List.length_cons] at k1 ⊢; omega,(Run.one hs).trans k2,k3⟩
theorem go_all {n:Qe} (h:LI n) (d:Int):∀ (s:Nat) (S:List Int),S.length=s→s≤7→∀ b:Int,0≤b→b<(n.Qa.length:Int) →
  ∃ (k:Nat) (q:Qp) (c:Int),k≤16*s∧Run n [d] k (⟨b,S⟩:Qp) q∧F55 n [d] q=(q,c)∧((c=3∧q.Ua=[])∨c=4∨c=5)
 | 0,S,hs,_,b,_,_=>by
  obtain rfl:=List.eq_nil_of_length_eq_zero hs
  exact ⟨0,_,3,by omega,rfl,st_end n [d] b,.inl ⟨rfl,rfl⟩⟩
 | s+1,S,hs,h7,b,h0,h1=>by
  have hN:=h.net
  obtain ⟨S',lab,rfl⟩:∃ S' lab,S=S'++[lab]:=by
   have hne:S≠[]:=fun e=>by rw [e] at hs; cases hs
   exact ⟨S.dropLast,S.getLast hne,(List.dropLast_concat_getLast hne).symm⟩
  have hs':S'.length=s:=by simpa using hs
  cases e:rowIx (n.Qa.getD b.toNat default) lab with
  | none =>
   refine ⟨0,_,4,by omega,rfl,?_,.inr (.inl rfl)⟩
   unfold F55
   have e1:((S'++[lab]).length:Int)-1=(S'.length:Int):=by simp
   have e2:(S'++[lab]).getD S'.length default=lab:=by rw [getD_app,if_neg (Nat.lt_irrefl _),if_pos rfl]
   have e5:decide ((S'.length:Int)<0)=false:=decide_eq_false (by omega)
   simp only [e1,nn,e2,e5,cond_false,rowP,e]
   rfl
  | some k =>
   obtain ⟨f1,f2,_⟩:=first_some.1 e
   have f2:=of_decide_eq_true f2
   have hm:(n.Qa.getD b.toNat default).Rows.getD k default∈(bx n b).Rows:=getD_mem _ f1
   obtain ⟨l,l1,l2⟩:=h.row b h0 h1 _ hm
   rw [f2] at l1
   have h8:=hN.frame.b8
   have hl:=path_lenM l1
   rcases go1 h d S' (by omega) l _ b lab h0 h1 l1 l2 with ⟨k,b',k1,k2,k3,k4⟩ | ⟨k,q,k1,k2,k3⟩
   ·obtain ⟨k',q,c,j1,j2,j3,j4⟩:=go_all h d s S' hs' (by omega) b' k2 k3
    exact ⟨k+k',q,c,by omega,k4.trans j2,j3,j4⟩
   ·exact ⟨k,q,5,by omega,k2,k3,.inr (.inr rfl)⟩
theorem path_keep {n n':Qe} (hn:Qv n) (hn':Qv n') (hlen:n'.Qa.length=n.Qa.length):∀ (m:Nat) (box label:Int) (l:List (Int×Int)),0≤box→box<(n.Qa.length:Int)→Qr n m box label=some l →
  (∀ x∈l,∀ r∈(bx n x.1).Rows,r.In=x.2→r∈(bx n' x.1).Rows)→Qr n' m box label=some l
 | 0,_,_,_,_,_,h,_=>by simp [Qr] at h
 | m+1,box,label,l,h0,h1,h,hk=>by
  have hq:=path_ne h
  have hfst:(box,label)∈l:=by rw [← hq.2]; exact getD_mem _ (by omega)
  unfold Qr at h ⊢
  cases e:rowIx (n.Qa.getD box.toNat default) label with
  | none=>rw [e] at h; cases h
  | some k =>
   rw [e] at h
   obtain ⟨f1,f2,_⟩:=first_some.1 e
   have f2:=of_decide_eq_true f2
   have hm:=hk (box,label) hfst _ (getD_mem _ f1) f2
   obtain ⟨k',g1,g2⟩:=rowIx_mem hn' h0 (by rw [hlen]; exact h1) hm
   have f2b:((bx n box).Rows.getD k default).In=label:=f2
   rw [f2b] at g1
   have g2:(n'.Qa.getD box.toNat default).Rows.getD k' default=(n.Qa.getD box.toNat default).Rows.getD k default:=g2
   have hnx:=row_next hn h0 h1 (k:=(k:Int)) (by omega) (by omega)
   rw [nn] at hnx
   rw [g1]
   simp only [g2]
   simp only at h
   by_cases hx:((n.Qa.getD box.toNat default).Rows.getD k default).Next<0
   ·rw [if_pos hx] at h ⊢; exact h
   ·rw [if_neg hx] at h ⊢
    cases e2:Qr n m ((n.Qa.getD box.toNat default).Rows.getD k default).Next ((n.Qa.getD box.toNat default).Rows.getD k default).Out with
    | none=>rw [e2] at h; cases h
    | some l' =>
     rw [e2] at h
     obtain rfl:=(Option.some.inj h)
     rw [path_keep hn hn' hlen m _ _ l' (by omega) (by omega) e2 (fun x hx=>hk x (List.mem_cons_of_mem _ hx))]
     rfl
theorem LI.bare {n:Qe} (hn:Qv n) (h:∀ i:Int,(bx n i).Rows=[]∧(bx n i).Qc=[]):LI n :=
 ⟨hn,fun b _ _ r hr=>(by rw [(h b).1] at hr; cases hr),fun b1 b2 _ _ _ _ r1 h1=>(by rw [(h b1).1] at h1; cases h1),fun b _ _ v hv=>(by rw [(h b).2] at hv; cases hv)⟩
theorem LI.lead {n:Qe} (h:LI n) {b:Int} (h0:0≤b) (h1:b<(n.Qa.length:Int)) {r:Qk} (hr:r∈(bx n b).Rows) (hx:0≤r.Next):∃ r'∈(bx n r.Next).Rows,r'.In=r.Out:=by
 obtain ⟨l,l1,_⟩:=h.row b h0 h1 r hr
 have hq:=path_ne l1
 obtain ⟨r0,q1,q2,q3,q4⟩:=path_row _ _ _ _ l1 0 (by omega)
 rw [hq.2] at q1 q2
 have e:r0=r:=pairK_uniq (bx_ok h.net h0 h1).1.2 q1 hr q2
 subst e
 have h2:0+1<l.length:=by
  rcases Nat.lt_or_ge 1 l.length with h | h
  ·exact h
  ·have:=q4 (by omega); omega
 obtain ⟨r',p1,p2,_⟩:=path_row _ _ _ _ l1 (0+1) h2
 rw [(q3 h2).2] at p1 p2
 exact ⟨r',p1,p2⟩
theorem laid_mem {n:Qe} {p:List Int} (h:LayP n p (labsOf n p)) {i:Int} (h0:0≤i) {r:Qk} (hr:r∈(bx (laidP n p) i).Rows):r∈(bx n i).Rows∨∃ j,j<p.length∧p.getD j default=i∧r=rowAt p (labsOf n p) j:=by
 unfold bx laidP at hr
 simp only at hr
 by_cases hx:∃ j,j<p.length∧Int.toNat (p.getD j default)=Int.toNat i
 ·obtain ⟨j,hj,e⟩:=hx
  have hd:=layTo_done h.pth (labsOf n p) p.length j hj (Nat.le_refl _)
  rw [e] at hd
  rw [hd] at hr
  rcases putK_mem.1 hr with hr | hr
  ·exact .inl hr
  ·have:=h.pth.rng j hj
   exact .inr ⟨j,hj,by omega,hr⟩
 ·rw [layTo_skip (labsOf n p) p.length fun j hj e=>hx ⟨j,hj,e⟩] at hr
  exact .inl hr
theorem pathOk_nodup {n:Qe} {p:List Int} (h:PathOk n p):p.Nodup :=
 List.pairwise_iff_getElem.2 fun i j hi hj hij e=>by
  have:=h.inj i j hi hj (by rw [getD_lt p hi,getD_lt p hj]; exact e)
  omega
theorem LI.via {n:Qe} (hn:Qv n) {b:Int} (h0:0≤b) (h1:b<(n.Qa.length:Int)) {v:Qn} (hv:v∈(bx n b).Qc):0≤v.Via∧v.Via<(n.Qa.length:Int):=by
 have hvia:=(bx_ok hn h0 h1).2.1 _ hv
 have:=linkOf_in hn.frame hvia.2.1
 exact ⟨this.2.2.1,this.2.2.2.1⟩
theorem LI.lay {n:Qe} (h:LI n) {p:List Int} (L:LayP n p (labsOf n p)):LI (laidP n p):=by
 have hX:Qv (laidP n p):=L.netTo _ (Nat.le_refl _)
 have hS:=laid_sub L
 have hT:=laid_tun L
 have hlen:=L.len
 have h2:=L.pth.two
 have key:∀ b:Int,0≤b→b<(n.Qa.length:Int)→∀ r∈(bx n b).Rows,0≤r.Next→∀ j,j<p.length→r.Next=(rowAt p (labsOf n p) j).Next→r.Out=(rowAt p (labsOf n p) j).Out→False:=fun b h0 h1 r hr hx j hj e1 e2=>by
  by_cases hj1:j+1<p.length
  ·rw [rowAt_goP hj1] at e1 e2
   obtain ⟨r',p1,p2⟩:=h.lead h0 h1 hr hx
   simp only at e1 e2
   rw [e1] at p1
   have:=L.new hj1 r' p1
   rw [rowAt_In] at this
   exact this (p2.trans e2)
  ·rw [rowAt_endP (by omega)] at e1
   simp only at e1
   omega
 refine ⟨hX,fun b h0 h1 r hr=>?_,fun b1 b2 a0 a1 c0 c1 r1 hr1 r2 hr2 hx ha hb=>?_,fun b h0 h1 v hv=>?_⟩
 ·rw [hS.len] at h1 ⊢
  rcases laid_mem L h0 hr with hr | ⟨j,hj,rfl,rfl⟩
  ·obtain ⟨l,l1,l2⟩:=h.row b h0 h1 r hr
   exact ⟨l,path_sub h.net hX hS _ _ _ l h0 h1 l1,l2⟩
  ·have hq:=(tun_labPath hX hT (by rw [hS.len]; exact L.pth.most) hj).1
   rw [rowAt_In]
   rw [hS.len] at hq
   refine ⟨_,hq,?_⟩
   rw [List.map_fst_zip (by simp only [List.length_drop]; omega)]
   exact (pathOk_nodup L.pth).drop
 ·rw [hS.len] at a1 c1
  rcases laid_mem L a0 hr1 with g1 | ⟨j,hj,rfl,rfl⟩ <;> rcases laid_mem L c0 hr2 with g2 | ⟨j',hj',rfl,rfl⟩
  ·exact h.up b1 b2 a0 a1 c0 c1 r1 g1 r2 g2 hx ha hb
  ·exact (key b1 a0 a1 r1 g1 hx j' hj' ha hb).elim
  ·exact (key b2 c0 c1 r2 g2 (by omega) j hj ha.symm hb.symm).elim
  ·by_cases hj1:j+1<p.length
   ·by_cases hj2:j'+1<p.length
    ·rw [rowAt_goP hj1,rowAt_goP hj2] at ha
     have:=L.pth.inj _ _ hj1 hj2 ha
     have:j=j':=by omega
     subst this
     exact ⟨rfl,rfl⟩
    ·rw [rowAt_endP (by omega:p.length≤j'+1)] at ha
     simp only at ha
     omega
   ·rw [rowAt_endP (by omega)] at hx
    simp only at hx
    omega
 ·rw [hS.len] at h1 ⊢
  rw [(laid_box L b).2.2] at hv
  obtain ⟨l,l1,l2,l3,l4⟩:=h.gd b h0 h1 v hv
  have hvr:=LI.via h.net h0 h1 hv
  refine ⟨l,path_sub h.net hX hS _ _ _ l hvr.1 hvr.2 l1,l2,by rw [hS.link,hS.link]; exact l3,fun i hi=>by rw [hS.link,hS.link]; exact l4 i hi⟩
theorem LI.guarded {n n':Qe} (h:LI n) (hX:Qv n') (hS:Sub n n') (hr:∀ i:Int,(bx n' i).Rows=(bx n i).Rows)
  (hg:∀ b:Int,0≤b→b<(n.Qa.length:Int)→∀ v∈(bx n' b).Qc,v∈(bx n b).Qc∨∃ l,Qr n n.Qa.length v.Via v.Push=some l∧(l.getD (l.length-1) default).1=v.To∧Qt n b v.Via≠Qt n b v.To ∧
   ∀ i,i+1<l.length→Qt n (l.getD i default).1 (l.getD (i+1) default).1≠Qt n b v.To):LI n':=by
 refine ⟨hX,fun b h0 h1 r hr'=>?_,fun b1 b2 a0 a1 c0 c1 r1 hr1 r2 hr2=>?_,fun b h0 h1 v hv=>?_⟩
 ·rw [hS.len] at h1 ⊢
  rw [hr] at hr'
  obtain ⟨l,l1,l2⟩:=h.row b h0 h1 r hr'
  exact ⟨l,path_sub h.net hX hS _ _ _ l h0 h1 l1,l2⟩
 ·rw [hS.len] at a1 c1
  rw [hr] at hr1 hr2
  exact h.up b1 b2 a0 a1 c0 c1 r1 hr1 r2 hr2
 ·have hvr:=LI.via hX h0 h1 hv
  rw [hS.len] at h1 hvr ⊢
  obtain ⟨l,l1,l2,l3,l4⟩:∃ l,Qr n n.Qa.length v.Via v.Push=some l∧(l.getD (l.length-1) default).1=v.To∧Qt n b v.Via≠Qt n b v.To ∧
   ∀ i,i+1<l.length→Qt n (l.getD i default).1 (l.getD (i+1) default).1≠Qt n b v.To:=by
   rcases hg b h0 h1 v hv with hv | hv
   ·exact h.gd b h0 h1 v hv
   ·exact hv
  exact ⟨l,path_sub h.net hX hS _ _ _ l hvr.1 hvr.2 l1,l2,by rw [hS.link,hS.link]; exact l3,fun i hi=>by rw [hS.link,hS.link]; exact l4 i hi⟩
theorem zip_getD {a b:List Int} {i:Nat} (h1:i<a.length) (h2:i<b.length):(a.zip b).getD i default=(a.getD i default,b.getD i default):=by
 rw [getD_lt _ (by rw [List.length_zip]; omega),List.getElem_zip,getD_lt a h1,getD_lt b h2]
theorem getD_dropL (a:List Int) (j i:Nat):(a.drop j).getD i default=a.getD (j+i) default:=by
 rw [List.getD_eq_getElem?_getD,List.getElem?_drop,← List.getD_eq_getElem?_getD]
theorem li_guardN {n:Qe} (h:LI n) {a b:Int} (P:GuardP n a b):LI (guardN n a b):=by
 have hN:=P.netN
 have hn:=P.net
 obtain ⟨a0,a1,hlen⟩:=P.a0
 obtain ⟨hp,w0,w1,w2⟩:=way_path hn.frame P.lnk P.ne
 have wl:=way_last hn.frame P.lnk P.ne
 have hL:=h.lay P.lay
 have h2:=hp.two
 have hll:=P.lay.len
 have hbx:∀ i:Int,(bx (guardN n a b) i).Rows=(bx (laidP n (wayP n a b)) i).Rows∧(bx (guardN n a b) i).Qc=if Int.toNat a=Int.toNat i then putK (fun x:Qn=>x.To) (bx (laidP n (wayP n a b)) i).Qc (guardV n a b) else (bx (laidP n (wayP n a b)) i).Qc:=fun i=>by
  unfold bx guardN
  simp only [getD_set]
  by_cases hi:Int.toNat a=Int.toNat i
  ·rw [if_pos ⟨hi,by rw [hlen,← hi]; omega⟩,if_pos hi,hi]
   exact ⟨rfl,rfl⟩
  ·rw [if_neg (fun h=>hi h.1),if_neg hi]
   exact ⟨rfl,rfl⟩
 have hl2:(guardN n a b).Qa.length=(laidP n (wayP n a b)).Qa.length:=by unfold guardN; simp only [List.length_set]; rfl
 have hS:Sub (laidP n (wayP n a b)) (guardN n a b):=⟨rfl,hl2,fun i r hr=>by rw [(hbx i).1]; exact hr,fun i v hv=>by
  rw [(hbx i).2]
  split
  ·exact putK_mem.2 (.inl hv)
  ·exact hv⟩
 refine hL.guarded hN hS (fun i=>(hbx i).1) fun c c0 c1 v hv=>?_
 rw [(hbx c).2] at hv
 split at hv
 ·rename_i hc
  rcases putK_mem.1 hv with hv | rfl
  ·exact .inl hv
  ·have hca:c=a:=by omega
   subst hca
   have hq:=(tun_labPath hL.net (laid_tun P.lay) (by rw [(laid_sub P.lay).len]; exact hp.most) (i:=1) (by omega)).1
   have hzl:(((wayP n c b).drop 1).zip ((labsOf n (wayP n c b)).drop 1)).length=(wayP n c b).length-1:=by simp only [List.length_zip,List.length_drop]; omega
   have hz:∀ i,i+1<(wayP n c b).length→(((wayP n c b).drop 1).zip ((labsOf n (wayP n c b)).drop 1)).getD i default=((wayP n c b).getD (i+1) default,(labsOf n (wayP n c b)).getD (i+1) default):=fun i hi=>by
    rw [zip_getD (by simp only [List.length_drop]; omega) (by simp only [List.length_drop]; omega),getD_dropL,getD_dropL,Nat.add_comm 1 i]
   have hlk:∀ x y:Int,Qt (laidP n (wayP n c b)) x y=Qt n x y:=fun x y=>rfl
   refine .inr ⟨_,hq,?_,?_,fun i hi=>?_⟩
   ·rw [hzl,hz _ (by omega)]
    show (wayP n c b).getD _ default=b
    rw [show (wayP n c b).length-1-1+1=(wayP n c b).length-1 by omega]
    exact wl
   ·have:=(w2 0 (by omega)).2
    rw [w0] at this
    exact this
   ·rw [hzl] at hi
    rw [hz i (by omega),hz (i+1) (by omega)]
    exact (w2 (i+1) (by omega)).2
 ·exact .inl hv
theorem li_guardR {n:Qe} (h:LI n) (a b:Int):LI (guardR n a b).2:=by
 have hn:=h.net
 unfold guardR
 by_cases hl:Qt n a b<0
 ·rw [decide_eq_true hl]; exact h
 rw [decide_eq_false hl]
 cases hg:guardIx (n.Qa.getD a.toNat default) b with
 | some k=>exact h
 | none =>
  by_cases hw:(wayP n a b).length=0
  ·rw [decide_eq_true hw]; exact h
  rw [decide_eq_false hw]
  cases hq:labsB n (wayP n a b)
  ·exact h
  ·exact li_guardN h (GuardP.mk' hn hl hg hw hq)
theorem li_gAll {n:Qe} (h:LI n):∀ k,LI (gAll n k)
 | 0=>h
 | k+1=>li_guardR (li_guardR (li_gAll h k) _ _) _ _
theorem li_labGuardAll {n:Qe} (h:LI n):LI (Qy n):=by
 unfold Qy
 rw [netB_ok.2 h.net]; exact li_gAll h _
theorem li_labGuard {n:Qe} (h:LI n) (a b:Int):LI (labGuard n a b).1:=by
 rw [labGuard_way h.net]; exact li_guardR h a b
theorem li_labLay {n:Qe} (h:LI n) (p:List Int):LI (Qx n p).1:=by
 unfold Qx
 rw [netB_ok.2 h.net]
 unfold layR
 cases hp:pathB n p
 ·exact h
 ·cases hl:labsB n p
  ·exact h
  ·exact h.lay (layP_of h.net hp hl)
theorem LI.tear {n:Qe} (h:LI n) {box label:Int} {l:List (Int×Int)} {xs:List Qi} (hb0:0≤box) (hb1:box<(n.Qa.length:Int)) (hl:Qr n n.Qa.length box label=some l) (hT:TearI n l xs) (hX:Qv ⟨n.Qb,xs⟩)
  (hlead:∀ i:Nat,i<n.Qa.length→∀ r∈(n.Qa.getD i default).Rows,¬ (r.Next=box∧r.Out=label))
  (hgd:∀ k,k<l.length→∀ i:Nat,i<n.Qa.length→∀ v∈(n.Qa.getD i default).Qc,¬ (v.Via=(l.getD k default).1∧v.Push=(l.getD k default).2)):LI ⟨n.Qb,xs⟩:=by
 have hN:=h.net
 have hbx:∀ i:Int,0≤i→i<(n.Qa.length:Int)→bx ⟨n.Qb,xs⟩ i=tearBox n l i.toNat:=fun i h0 h1=>hT.2 i.toNat (by omega)
 have hlall:=pathFrom_all hN _ _ _ _ hb0 hb1 hl
 have hrows:∀ i:Int,0≤i→i<(n.Qa.length:Int)→∀ r∈(bx n i).Rows,(i,r.In) ∉ l→r∈(bx ⟨n.Qb,xs⟩ i).Rows:=fun i h0 h1 r hr hni=>by
  rw [hbx i h0 h1]
  refine List.mem_filter.2 ⟨hr,?_⟩
  rw [Bool.not_eq_true',List.any_eq_false]
  rintro ⟨a,b⟩ hab
  simp only [Bool.and_eq_true,decide_eq_true_eq,not_and]
  intro ha hb
  have:=hlall _ hab
  simp only at this
  have:a=i:=by omega
  rw [this,← hb] at hab
  exact hni hab
 have hsub:∀ i:Int,0≤i→i<(n.Qa.length:Int)→∀ r∈(bx ⟨n.Qb,xs⟩ i).Rows,r∈(bx n i).Rows∧(i,r.In) ∉ l:=fun i h0 h1 r hr=>by
  rw [hbx i h0 h1] at hr
  obtain ⟨q1,q2⟩:=List.mem_filter.1 hr
  refine ⟨q1,fun hm=>?_⟩
  rw [Bool.not_eq_true',List.any_eq_false] at q2
  have:=q2 _ hm
  simp at this
 have hout:∀ (m:Nat) (b lab:Int) (q:List (Int×Int)),0≤b→b<(n.Qa.length:Int)→Qr n m b lab=some q→(b,lab) ∉ l→∀ j,j<q.length→q.getD j default ∉ l:=fun m b lab q h0 h1 hq hni=>by
  have hqa:=pathFrom_all hN _ _ _ _ h0 h1 hq
  intro j
  induction j with
  | zero=>intro _; rw [(path_ne hq).2]; exact hni
  | succ j ih =>
   intro hj hm
   have ih:=ih (by omega)
   obtain ⟨r1,p1,p2,p3,_⟩:=path_row _ _ _ _ hq j (by omega)
   obtain ⟨p3,p4⟩:=p3 hj
   have hqj:=hqa _ (getD_mem q (k:=j) (by omega))
   obtain ⟨k,hk,ek⟩:=mem_getD hm
   cases k with
   | zero =>
    rw [(path_ne hl).2,p4] at ek
    obtain ⟨x1,x2⟩:=Prod.mk.inj ek
    exact hlead _ (by omega) r1 p1 ⟨x1.symm,x2.symm⟩
   | succ k =>
    obtain ⟨r2,s1,s2,s3,_⟩:=path_row _ _ _ _ hl k (by omega)
    obtain ⟨s3,s4⟩:=s3 hk
    have hlk:=hlall _ (getD_mem l (k:=k) (by omega))
    rw [s4,p4] at ek
    obtain ⟨x1,x2⟩:=Prod.mk.inj ek
    obtain ⟨y1,y2⟩:=h.up _ _ hqj.1 hqj.2 hlk.1 hlk.2 r1 p1 r2 s1 p3 x1.symm x2.symm
    rw [p2,s2] at y2
    apply ih
    rw [show q.getD j default=l.getD k default from Prod.ext y1 y2]
    exact getD_mem l (by omega)
 have hkeep:∀ (m:Nat) (b lab:Int) (q:List (Int×Int)),0≤b→b<(n.Qa.length:Int)→Qr n m b lab=some q→(b,lab) ∉ l→Qr ⟨n.Qb,xs⟩ m b lab=some q:=fun m b lab q h0 h1 hq hni=>by
  refine path_keep hN hX hT.1 m b lab q h0 h1 hq fun x hx r hr hin=>?_
  have hxr:=pathFrom_all hN _ _ _ _ h0 h1 hq x hx
  refine hrows _ hxr.1 hxr.2 r hr ?_
  obtain ⟨j,hj,rfl⟩:=mem_getD hx
  rw [hin]
  exact hout m b lab q h0 h1 hq hni j hj
 have hL:xs.length=n.Qa.length:=hT.1
 refine ⟨hX,fun b h0 h1 r hr=>?_,fun b1 b2 a0 a1 c0 c1 r1 hr1 r2 hr2=>?_,fun b h0 h1 v hv=>?_⟩
 ·have h1:b<(xs.length:Int):=h1
  rw [hL] at h1
  obtain ⟨q1,q2⟩:=hsub b h0 h1 r hr
  obtain ⟨q,e1,e2⟩:=h.row b h0 h1 r q1
  refine ⟨q,?_,e2⟩
  show Qr _ xs.length _ _=_
  rw [hL]
  exact hkeep _ _ _ q h0 h1 e1 q2
 ·have a1:b1<(xs.length:Int):=a1
  have c1:b2<(xs.length:Int):=c1
  rw [hL] at a1 c1
  exact h.up b1 b2 a0 a1 c0 c1 r1 (hsub _ a0 a1 _ hr1).1 r2 (hsub _ c0 c1 _ hr2).1
 ·have h1:b<(xs.length:Int):=h1
  rw [hL] at h1
  rw [hbx b h0 h1] at hv
  have hv:v∈(bx n b).Qc:=hv
  obtain ⟨q,e1,e2,e3,e4⟩:=h.gd b h0 h1 v hv
  have hvr:=LI.via hN h0 h1 hv
  refine ⟨q,?_,e2,e3,e4⟩
  show Qr _ xs.length _ _=_
  rw [hL]
  refine hkeep _ _ _ q hvr.1 hvr.2 e1 fun hm=>?_
  obtain ⟨k,hk,ek⟩:=mem_getD hm
  refine hgd k hk b.toNat (by omega) v hv ?_
  rw [ek]
  exact ⟨rfl,rfl⟩
theorem li_labTear {n:Qe} (h:LI n) (box label:Int):LI (labTear n box label).1:=by
 rcases labTear_free n box label with hb | hb | ⟨_,h0,h1,l,xs,e1,e2,e3,e4,e5⟩
 ·rw [netB_ok.2 h.net] at hb; cases hb
 ·rw [hb]; exact h
 ·rw [e3]; exact h.tear h0 h1 e1 e2 (tear_net h.net e2) e4 e5
theorem LI.put {L:List Qg} {ys:List Qi} (h:LI (⟨L,ys⟩:Qe)) {i:Int} (h1:1≤i) (h2:i≤60) (hr:oix (rowIx (ys.getD (Int.toNat 0) default) i)<0) :
  LI (⟨L,ys.set (Int.toNat 0) (⟨putK (fun x:Qk=>x.In) (ys.getD (Int.toNat 0) default).Rows (⟨i,-1,0⟩:Qk),(ys.getD (Int.toNat 0) default).Qc⟩:Qi)⟩:Qe):=by
 have hX:=put_one h.net h1 h2 hr
 have hN:=h.net
 have hb1:1≤ys.length:=hN.frame.b1
 generalize hY:(⟨L,ys.set (Int.toNat 0) (⟨putK (fun x:Qk=>x.In) (ys.getD (Int.toNat 0) default).Rows (⟨i,-1,0⟩:Qk),(ys.getD (Int.toNat 0) default).Qc⟩:Qi)⟩:Qe)=Y at *
 have hYb:∀ c:Int,bx Y c=if Int.toNat c=0 then (⟨putK (fun x:Qk=>x.In) (bx ⟨L,ys⟩ c).Rows (⟨i,-1,0⟩:Qk),(bx ⟨L,ys⟩ c).Qc⟩:Qi) else bx ⟨L,ys⟩ c:=fun c=>by
  subst hY
  unfold bx
  simp only [getD_set]
  by_cases hc:Int.toNat c=0
  ·rw [if_pos hc,if_pos ⟨hc.symm,by rw [hc]; omega⟩,hc]; rfl
  ·rw [if_neg hc,if_neg (fun h=>hc h.1.symm)]
 have hS:Sub (⟨L,ys⟩:Qe) Y:=by
  refine ⟨by subst hY; rfl,by subst hY; simp only [List.length_set],fun c r hr'=>?_,fun c v hv=>?_⟩
  ·rw [hYb c]
   split
   ·exact putK_mem.2 (.inl hr')
   ·exact hr'
  ·rw [hYb c]
   split
   ·exact hv
   ·exact hv
 have hmem:∀ c:Int,0≤c→∀ r∈(bx Y c).Rows,r∈(bx ⟨L,ys⟩ c).Rows∨(c=0∧r=⟨i,-1,0⟩):=fun c c0 r hr'=>by
  rw [hYb c] at hr'
  split at hr'
  ·rename_i hc
   rcases putK_mem.1 hr' with hr' | hr'
   ·exact .inl hr'
   ·exact .inr ⟨by omega,hr'⟩
  ·exact .inl hr'
 refine ⟨hX,fun b h0 h1 r hr'=>?_,fun b1 b2 a0 a1 c0 c1 r1 hr1 r2 hr2 hx ha hb=>?_,fun b h0 h1 v hv=>?_⟩
 ·rcases hmem b h0 r hr' with hr'' | ⟨hc,e⟩
  ·rw [hS.len] at h1 ⊢
   obtain ⟨l,l1,l2⟩:=h.row b h0 h1 r hr''
   exact ⟨l,path_sub hN hX hS _ _ _ l h0 h1 l1,l2⟩
  ·obtain ⟨k,k1,k2⟩:=rowIx_mem hX h0 h1 hr'
   refine ⟨[(b,r.In)],?_,by simp⟩
   obtain ⟨m,hm⟩:∃ m,Y.Qa.length=m+1:=⟨Y.Qa.length-1,by rw [hS.len]; show ys.length=ys.length-1+1; omega⟩
   rw [hm]
   unfold Qr
   rw [k1]
   simp only [k2]
   rw [e]
   rfl
 ·rw [hS.len] at a1 c1
  rcases hmem b1 a0 r1 hr1 with g1 | ⟨_,e⟩
  ·rcases hmem b2 c0 r2 hr2 with g2 | ⟨_,e⟩
   ·exact h.up b1 b2 a0 a1 c0 c1 r1 g1 r2 g2 hx ha hb
   ·rw [e] at ha; simp only at ha; omega
  ·rw [e] at hx; simp only at hx; omega
 ·rw [hS.len] at h1 ⊢
  have hv':v∈(bx ⟨L,ys⟩ b).Qc:=by
   rw [hYb b] at hv
   split at hv
   ·exact hv
   ·exact hv
  obtain ⟨l,l1,l2,l3,l4⟩:=h.gd b h0 h1 v hv'
  have hvr:=LI.via hN h0 h1 hv'
  refine ⟨l,path_sub hN hX hS _ _ _ l hvr.1 hvr.2 l1,l2,by rw [hS.link,hS.link]; exact l3,fun i hi=>by rw [hS.link,hS.link]; exact l4 i hi⟩
def T58 (R:Qp×Int) (n:Qe) (down:List Int) (p:Qp):Spec:=⟨(S58 R n down p).args,(S58 R n down p).res,Qv n∧p.Ua.length≤1000000000∧n.Qa.length≤8⟩
theorem oa58 (n:Qe) (down:List Int) (p:Qp):(T58 (stepB n down p) n down p).ok Try.prog 58:=by
 intro hp; have h:=ok58 n down p hp; rw [as58 n down p hp.1] at h; exact h
def F18_s0 (n:Qe) (down:List Int) (p:Qp):(Int×Int×List Int)→Lp (Int×Int×List Int) (Qp×Int×Int):=fun (v27,p1,p2) =>
 bif (decide (v27<200)) then (bif ((F55 n down ⟨p1,p2⟩).2==0) then (.next ((v27+1),(F55 n down ⟨p1,p2⟩).1.Box,(F55 n down ⟨p1,p2⟩).1.Ua)) else (bif ((F55 n down ⟨p1,p2⟩).2==3) then (.ret ((⟨p1,p2⟩:Qp),v27,0)) else (.ret ((⟨p1,p2⟩:Qp),v27,(F55 n down ⟨p1,p2⟩).2)))) else (.done (v27,p1,p2))
def F18 (n:Qe) (down:List Int) (p:Qp):Qp×Int×Int :=
 bif (!(netB n)) then ((⟨0,[]⟩:Qp),0,1) else (bif (!(packB n p)) then ((⟨0,[]⟩:Qp),0,2) else ((runL (F18_s0 n down p) ((Int.toNat (200-0))+1) (0,p.Box,p.Ua)).fin (fun r=>r) (fun (v27,p1,p2)=>bif ((p2.length:Int)==0) then ((⟨p1,p2⟩:Qp),200,0) else ((⟨p1,p2⟩:Qp),200,6))))
def S18 (n:Qe) (down:List Int) (p:Qp):Spec:=⟨[.r (.g (Qf n)),.r (.c (.l 1 eInt down)),.r (.g (Qq p))],.tu [.ag [.v (vI (F18 n down p).1.Box),.ow (.l 1 eInt (F18 n down p).1.Ua)],.v (vI (F18 n down p).2.1),.v (vI (F18 n down p).2.2)],p.Ua.length≤1000000000⟩
theorem ok18 (n:Qe) (down:List Int) (p:Qp):(S18 n down p).ok Try.prog 18 false :=
 fnG_ok mixed (fn:=Try.f18) (ct:=.seqk [(1,0)] (.no) (.seq (.blk (.seq (.reg [(1,.call 13 (S13 (netB n) n) ((oa13 n).to false) none)]) (.cond (.seq (.no) (.no)) (.seq (.reg [(2,.call 53 (S53 (packB n p) n p) (oa53 n p) none)]) (.cond (.seq (.no) (.no)) (.no)))))) (.seq (.reg [(2,.call 54 (S54 p.Ua p.Ua) ((oa54 p.Ua).to false) none)]) (.seq (.seqk [(1,0),(3,0),(3,1),(5,1)] (.no) (.blk (.loop (ι:=Nat×(Int×Int×List Int)) (fun i=>(fun (v27:Int) (p1:Int) (p2:List Int)=>(⟨[(1,some (.h 0 0)),(3,some (.p 1 0)),(5,some (.p 4 0)),(6,some (.p 6 0)),(27,some (.v (vI v27)))],[(0,some (.shr none (.l 1 eInt down))),(1,some (.box 26 [.h 2 0,.h 3 0])),(2,some (.shr none (.l 2 Qh n.Qb))),(3,some (.shr none (.l 2 Qj n.Qa))),(4,some (.box 39 [.v (vI p1),.h 5 0])),(5,some (.own 5 (.l 1 eInt p2))),(6,some (.box 39 [.v (vI 0),.v (.slice none 0 0)]))],7⟩:St)) i.2.1 i.2.2.1 i.2.2.2) (fun i=>runL (F18_s0 n down p) i.1 i.2=(runL (F18_s0 n down p) ((Int.toNat (200-0))+1) (0,p.Box,p.Ua))∧(fun (v27:Int) (p1:Int) (p2:List Int)=>(Int.toNat (200-v27)<i.1∧packB n (⟨p1,p2⟩:Qp)=true∧(0≤p1∧p1≤(n.Qa.length:Int)-1∧(p2.length:Int)≤8)∧(0:Int)≤v27)) i.2.1 i.2.2.1 i.2.2.2) (fun i=>i.1) (((Int.toNat (200-0))+1),(0,p.Box,p.Ua)) (fun i=>(fun (v27:Int) (p1:Int) (p2:List Int)=>(.seq (.no) (.seq (.cond (.no) (.no)) (.seq (.blk (.seq (.no) (.seq (.reg [(3,.call 55 (S55 n down (⟨p1,p2⟩:Qp)) ((ok55 n down (⟨p1,p2⟩:Qp)).to false) none)]) (.seq (.no) (.blk (.seq (.no) (.cond (.no) (.seq (.no) (.cond (.seq (.no) (.no)) (.seq (.no) (.no))))))))))) (.reg [(0,.bnd)]))))) i.2.1 i.2.2.1 i.2.2.2)))) (.seq (.seq (.no) (.cond (.seq (.no) (.no)) (.no))) (.seq (.no) (.no))))))) Try.func18 (fun (hpre0:p.Ua.length≤1000000000)=>fun (_:down.length≤9223372036854775807)=>ai (trivial) (ai ((Imps.refl (Qf n))) (ai (fun h1:(!(netB n))=true=>(fun hF:((⟨0,[]⟩:Qp),0,1)=(F18 n down p)=>ai (congrArg (fun r:Qp×Int×Int=>(.int .i64 r.1.Box:Value)) hF) (ai ((Imp.nil 1 eInt).trans (Imp.of_eq (congrArg (fun r:Qp×Int×Int=>Dat.l 1 eInt r.1.Ua) hF))) (ai (congrArg (fun r:Qp×Int×Int=>(.int .i64 r.2.1:Value)) hF) (ai (congrArg (fun r:Qp×Int×Int=>(.int .i64 r.2.2:Value)) hF) (trivial))))) (condT h1 (rfl))) (fun h1:(!(netB n))=false=>(fun _:n.Qb.length≤14=>(fun _:n.Qa.length≤8=>(fun _:Qv n=>ai (((by omega:n.Qa.length≤9223372036854775807))) (ai ((Imps.refl (Qf n))) (ai ((Imps.refl (Qq p))) (ai (fun h2:(!(packB n p))=true=>(fun hF:((⟨0,[]⟩:Qp),0,2)=(F18 n down p)=>ai (congrArg (fun r:Qp×Int×Int=>(.int .i64 r.1.Box:Value)) hF) (ai ((Imp.nil 1 eInt).trans (Imp.of_eq (congrArg (fun r:Qp×Int×Int=>Dat.l 1 eInt r.1.Ua) hF))) (ai (congrArg (fun r:Qp×Int×Int=>(.int .i64 r.2.1:Value)) hF) (ai (congrArg (fun r:Qp×Int×Int=>(.int .i64 r.2.2:Value)) hF) (trivial))))) (condF h1 (condT h2 (rfl)))) (fun h2:(!(packB n p))=false=>(fun _:0≤p.Box∧p.Box≤(n.Qa.length:Int)-1∧(p.Ua.length:Int)≤8=>(fun _:packB n p=true=>ai (((by omega:p.Ua.length≤1000000000))) (ai ((Imp.refl (.l 1 eInt p.Ua))) (fun (_:down.length≤9223372036854775807)=>fun (_:n.Qb.length≤9223372036854775807)=>fun (_:n.Qa.length≤9223372036854775807)=>fun (_:p.Ua.length≤9223372036854775807)=>ai (ai (rfl) (ai (ir) (ai (ir) (ai (ir) (ai (rfl) (ai (ir) (ai (rfl) (ai (rfl) ((ai (rfl:runL (F18_s0 n down p) ((Int.toNat (200-0))+1) (0,p.Box,p.Ua)=(runL (F18_s0 n down p) ((Int.toNat (200-0))+1) (0,p.Box,p.Ua))) (ai ((Nat.lt_succ_self _:Int.toNat (200-0)<((Int.toNat (200-0))+1))) (ai ((by first | omega | (simp only [lens] at*<;> omega) | assumption:packB n (⟨p.Box,p.Ua⟩:Qp)=true)) (ai ((by first | omega | (simp only [lens] at*<;> omega) | assumption:0≤p.Box∧p.Box≤(n.Qa.length:Int)-1∧(p.Ua.length:Int)≤8)) ((by first | omega | (simp only [lens] at*<;> omega) | assumption:(0:Int)≤0)))))))))))))):((.int .i64 0:Value)=.int .i64 0)∧(Imp (.l 1 eInt down) (.l 1 eInt down))∧(Imp (.l 2 Qh n.Qb) (.l 2 Qh n.Qb))∧(Imp (.l 2 Qj n.Qa) (.l 2 Qj n.Qa))∧((.int .i64 p.Box:Value)=.int .i64 p.Box)∧(Imp (.l 1 eInt p.Ua) (.l 1 eInt p.Ua))∧((.int .i64 0:Value)=.int .i64 0)∧((.slice none 0 0:Value)=.slice none 0 0)∧(runL (F18_s0 n down p) ((Int.toNat (200-0))+1) (0,p.Box,p.Ua)=(runL (F18_s0 n down p) ((Int.toNat (200-0))+1) (0,p.Box,p.Ua))∧Int.toNat (200-0)<((Int.toNat (200-0))+1)∧packB n (⟨p.Box,p.Ua⟩:Qp)=true∧(0≤p.Box∧p.Box≤(n.Qa.length:Int)-1∧(p.Ua.length:Int)≤8)∧(0:Int)≤0)) (fun (i0:Nat×(Int×Int×List Int)) (hi0:runL (F18_s0 n down p) i0.1 i0.2=(runL (F18_s0 n down p) ((Int.toNat (200-0))+1) (0,p.Box,p.Ua))∧(fun (v27:Int) (p1:Int) (p2:List Int)=>(Int.toNat (200-v27)<i0.1∧packB n (⟨p1,p2⟩:Qp)=true∧(0≤p1∧p1≤(n.Qa.length:Int)-1∧(p2.length:Int)≤8)∧(0:Int)≤v27)) i0.2.1 i0.2.2.1 i0.2.2.2)=>(fun (m0:Nat) (v27:Int) (p1:Int) (p2:List Int) (hI0:runL (F18_s0 n down p) (m0+1) (v27,p1,p2)=(runL (F18_s0 n down p) ((Int.toNat (200-0))+1) (0,p.Box,p.Ua))) (_:Int.toNat (200-v27)<m0+1) (hl0:m0<i0.1) (_:packB n (⟨p1,p2⟩:Qp)=true) (_:0≤p1∧p1≤(n.Qa.length:Int)-1∧(p2.length:Int)≤8) (_:(0:Int)≤v27)=>ai (fun h4:(decide (v27<200))=true=>(fun _:v27<200=>ai ((ai ((by assumption:Qv n)) (ai ((by omega:0≤p1)) (ai ((by omega:p1<(n.Qa.length:Int))) ((by omega:p2.length≤8)))))) (ai ((Imps.refl (Qf n))) (ai ((Imp.refl (.l 1 eInt down))) (ai ((Imps.refl (Qq (⟨p1,p2⟩:Qp)))) ((fun gv5:packB n (F55 n down ⟨p1,p2⟩).1=true=>(fun gv6:0≤(F55 n down ⟨p1,p2⟩).1.Box∧(F55 n down ⟨p1,p2⟩).1.Box≤(n.Qa.length:Int)-1∧((F55 n down ⟨p1,p2⟩).1.Ua.length:Int)≤8=>ai (fun h7:((F55 n down ⟨p1,p2⟩).2==0)=true=>(fun _:(F55 n down ⟨p1,p2⟩).2=0=>ai ((by unfold i64ok; omega:i64ok (v27+1))) (Exists.intro (p:=fun j:Nat×(Int×Int×List Int)=>(fun (v27_:Int) (p1_:Int) (p2_:List Int)=>(((.int .i64 (v27+1):Value)=.int .i64 v27_)∧(Imp (.l 1 eInt down) (.l 1 eInt down))∧(Imp (.l 2 Qh n.Qb) (.l 2 Qh n.Qb))∧(Imp (.l 2 Qj n.Qa) (.l 2 Qj n.Qa))∧((.int .i64 (F55 n down ⟨p1,p2⟩).1.Box:Value)=.int .i64 p1_)∧(Imp (.l 1 eInt (F55 n down ⟨p1,p2⟩).1.Ua) (.l 1 eInt p2_))∧((.int .i64 0:Value)=.int .i64 0)∧((.slice none 0 0:Value)=.slice none 0 0)∧((runL (F18_s0 n down p) j.1 j.2=(runL (F18_s0 n down p) ((Int.toNat (200-0))+1) (0,p.Box,p.Ua))∧Int.toNat (200-v27_)<j.1∧packB n (⟨p1_,p2_⟩:Qp)=true∧(0≤p1_∧p1_≤(n.Qa.length:Int)-1∧(p2_.length:Int)≤8)∧(0:Int)≤v27_)∧j.1<i0.1))) j.2.1 j.2.2.1 j.2.2.2) (m0,((v27+1),(F55 n down ⟨p1,p2⟩).1.Box,(F55 n down ⟨p1,p2⟩).1.Ua)) (ai (rfl) (ai (ir) (ai (ir) (ai (ir) (ai (rfl) (ai (ir) (ai (rfl) (ai (rfl) (ai (ai (runL_next hI0 (condT h4 (condT h7 (rfl)))) (ai ((by first | omega | (simp only [lens] at*<;> omega) | assumption:Int.toNat (200-(v27+1))<m0)) (ai ((by first | omega | (simp only [lens] at*<;> omega) | assumption:packB n (⟨(F55 n down ⟨p1,p2⟩).1.Box,(F55 n down ⟨p1,p2⟩).1.Ua⟩:Qp)=true)) (ai ((by first | omega | (simp only [lens] at*<;> omega) | assumption:0≤(F55 n down ⟨p1,p2⟩).1.Box∧(F55 n down ⟨p1,p2⟩).1.Box≤(n.Qa.length:Int)-1∧((F55 n down ⟨p1,p2⟩).1.Ua.length:Int)≤8)) ((by first | omega | (simp only [lens] at*<;> omega) | assumption:(0:Int)≤(v27+1))))))) hl0))))))))))) (eq_of_beq h7)) (fun h7:((F55 n down ⟨p1,p2⟩).2==0)=false=>(fun _:¬ (F55 n down ⟨p1,p2⟩).2=0=>ai (fun h8:((F55 n down ⟨p1,p2⟩).2==3)=true=>(fun _:(F55 n down ⟨p1,p2⟩).2=3=>(fun hF:((⟨p1,p2⟩:Qp),v27,0)=(F18 n down p)=>ai (congrArg (fun r:Qp×Int×Int=>(.int .i64 r.1.Box:Value)) hF) (ai (Imp.of_eq (congrArg (fun r:Qp×Int×Int=>Dat.l 1 eInt r.1.Ua) hF)) (ai (congrArg (fun r:Qp×Int×Int=>(.int .i64 r.2.1:Value)) hF) (ai (congrArg (fun r:Qp×Int×Int=>(.int .i64 r.2.2:Value)) hF) (trivial))))) (condF h1 (condF h2 (finR (runL_ret hI0 (condT h4 (condF h7 (condT h8 (rfl))))) rfl)))) (eq_of_beq h8)) (fun h8:((F55 n down ⟨p1,p2⟩).2==3)=false=>(fun _:¬ (F55 n down ⟨p1,p2⟩).2=3=>(fun hF:((⟨p1,p2⟩:Qp),v27,(F55 n down ⟨p1,p2⟩).2)=(F18 n down p)=>ai (congrArg (fun r:Qp×Int×Int=>(.int .i64 r.1.Box:Value)) hF) (ai (Imp.of_eq (congrArg (fun r:Qp×Int×Int=>Dat.l 1 eInt r.1.Ua) hF)) (ai (congrArg (fun r:Qp×Int×Int=>(.int .i64 r.2.1:Value)) hF) (ai (congrArg (fun r:Qp×Int×Int=>(.int .i64 r.2.2:Value)) hF) (trivial))))) (condF h1 (condF h2 (finR (runL_ret hI0 (condT h4 (condF h7 (condF h8 (rfl))))) rfl)))) (beqF h8))) (beqF h7))) (step_range n down (⟨p1,p2⟩:Qp) (by assumption:Qv n) (by first | assumption | omega:packB n (⟨p1,p2⟩:Qp)=true))) (step_pack' n down (⟨p1,p2⟩:Qp) (by assumption:Qv n) (by first | assumption | omega:packB n (⟨p1,p2⟩:Qp)=true))))))) (of_decide_eq_true h4)) (fun h4:(decide (v27<200))=false=>(fun _:¬ v27<200=>(fun hD0_9:(runL (F18_s0 n down p) ((Int.toNat (200-0))+1) (0,p.Box,p.Ua))=Lp.done (v27,p1,p2)=>ai (fun h10:((p2.length:Int)==0)=true=>(fun _:(p2.length:Int)=0=>(fun hF:((⟨p1,p2⟩:Qp),200,0)=(F18 n down p)=>ai (congrArg (fun r:Qp×Int×Int=>(.int .i64 r.1.Box:Value)) hF) (ai (Imp.of_eq (congrArg (fun r:Qp×Int×Int=>Dat.l 1 eInt r.1.Ua) hF)) (ai (congrArg (fun r:Qp×Int×Int=>(.int .i64 r.2.1:Value)) hF) (ai (congrArg (fun r:Qp×Int×Int=>(.int .i64 r.2.2:Value)) hF) (trivial))))) (condF h1 (condF h2 (finD hD0_9 (condT h10 (rfl)))))) (eq_of_beq h10)) (fun h10:((p2.length:Int)==0)=false=>(fun _:¬ (p2.length:Int)=0=>(fun hF:((⟨p1,p2⟩:Qp),200,6)=(F18 n down p)=>ai (congrArg (fun r:Qp×Int×Int=>(.int .i64 r.1.Box:Value)) hF) (ai (Imp.of_eq (congrArg (fun r:Qp×Int×Int=>Dat.l 1 eInt r.1.Ua) hF)) (ai (congrArg (fun r:Qp×Int×Int=>(.int .i64 r.2.1:Value)) hF) (ai (congrArg (fun r:Qp×Int×Int=>(.int .i64 r.2.2:Value)) hF) (trivial))))) (condF h1 (condF h2 (finD hD0_9 (condF h10 (rfl)))))) (beqF h10))) (runL_done hI0 (condF h4 (rfl)))) (of_decide_eq_false h4))) (i0.1-1) i0.2.1 i0.2.2.1 i0.2.2.2 (hd1 hi0.1 hi0.2.1) (hd2 hi0.2.1) (hd3 hi0.2.1) hi0.2.2.1 hi0.2.2.2.1 hi0.2.2.2.2)))) (packB_id n p (notEF h2))) (packB_T n p (notEF h2))))))) (netB_T n (notEF h1))) (netB_8 n (notEF h1))) (netB_14 n (notEF h1)))))) (by kernel_rfl)
def F19_s0 (n:Qe) (down:List Int) (p:Qp):(Int×Int×List Int)→Lp (Int×Int×List Int) (Qp×Int×Int):=fun (i40,x9,x10) =>
 bif (decide (i40<200)) then (bif ((stepB n down (⟨x9,x10⟩:Qp)).2==3) then (.ret ((⟨x9,x10⟩:Qp),i40,0)) else (bif ((stepB n down (⟨x9,x10⟩:Qp)).2 != 0) then (.ret ((⟨x9,x10⟩:Qp),i40,(stepB n down (⟨x9,x10⟩:Qp)).2)) else (.next ((i40+1),(stepB n down (⟨x9,x10⟩:Qp)).1.Box,(stepB n down (⟨x9,x10⟩:Qp)).1.Ua)))) else (.done (i40,x9,x10))
def F19 (n:Qe) (down:List Int) (p:Qp):Qp×Int×Int :=
 bif (!(netB n)) then ((⟨0,[]⟩:Qp),0,1) else (bif (!(packB n p)) then ((⟨0,[]⟩:Qp),0,2) else ((runL (F19_s0 n down p) ((Int.toNat (200-0))+1) (0,p.Box,p.Ua)).fin (fun r=>r) (fun (i40,x9,x10)=>bif ((x10.length:Int)==0) then ((⟨x9,x10⟩:Qp),200,0) else ((⟨x9,x10⟩:Qp),200,6))))
def S19 (n:Qe) (down:List Int) (p:Qp):Spec:=⟨[.r (.g (Qf n)),.r (.c (.l 1 eInt down)),.r (.g (Qq p))],.tu [.ag [.v (vI (F19 n down p).1.Box),.ow (.l 1 eInt (F19 n down p).1.Ua)],.v (vI (F19 n down p).2.1),.v (vI (F19 n down p).2.2)],p.Ua.length≤1000000000⟩
theorem ok19 (n:Qe) (down:List Int) (p:Qp):(S19 n down p).ok Try.prog 19 :=
 fnG_ok mixed (fn:=Try.f19) (ct:=.seqk [(1,0)] (.no) (.seq (.seq (.reg [(1,.call 14 (S14 (netB n) n) (oa14 n) none)]) (.cond (.seq (.no) (.no)) (.no))) (.seq (.seq (.reg [(2,.call 56 (S56 (packB n p) n p) (oa56 n p) none)]) (.cond (.seq (.no) (.no)) (.no))) (.seq (.reg [(1,.call 57 (S57 p p) (oa57 p) none)]) (.seq (.seqk [(1,0),(3,0),(3,1),(9,1)] (.no) (.blk (.loop (ι:=Nat×(Int×Int×List Int)) (fun i=>(fun (i40:Int) (x9:Int) (x10:List Int)=>(⟨[(1,some (.h 0 0)),(3,some (.p 1 0)),(6,some (.p 4 0)),(9,some (.p 5 0)),(10,some (.v (vI i40)))],[(0,some (.shr none (.l 1 eInt down))),(1,some (.box 26 [.h 2 0,.h 3 0])),(2,some (.shr none (.l 2 Qh n.Qb))),(3,some (.shr none (.l 2 Qj n.Qa))),(4,some (.box 39 [.v (vI 0),.v (.slice none 0 0)])),(5,some (.box 39 [.v (vI x9),.h 6 0])),(6,some (.own 6 (.l 1 eInt x10)))],7⟩:St)) i.2.1 i.2.2.1 i.2.2.2) (fun i=>runL (F19_s0 n down p) i.1 i.2=(runL (F19_s0 n down p) ((Int.toNat (200-0))+1) (0,p.Box,p.Ua))∧(fun (i40:Int) (x9:Int) (x10:List Int)=>(Int.toNat (200-i40)<i.1∧x10.length≤8∧(0:Int)≤i40)) i.2.1 i.2.2.1 i.2.2.2) (fun i=>i.1) (((Int.toNat (200-0))+1),(0,p.Box,p.Ua)) (fun i=>(fun (i40:Int) (x9:Int) (x10:List Int)=>(.seq (.seq (.no) (.cond (.no) (.no))) (.seq (.blk (.seq (.reg [(3,.call 58 (T58 (stepB n down (⟨x9,x10⟩:Qp)) n down (⟨x9,x10⟩:Qp)) (oa58 n down (⟨x9,x10⟩:Qp)) none)]) (.seq (.seq (.no) (.cond (.seq (.no) (.no)) (.no))) (.seq (.seq (.no) (.cond (.seq (.no) (.no)) (.no))) (.no))))) (.reg [(1,.bnd)])))) i.2.1 i.2.2.1 i.2.2.2)))) (.seq (.seq (.no) (.cond (.seq (.no) (.no)) (.no))) (.seq (.no) (.no)))))))) Try.func19 (fun (hpre0:p.Ua.length≤1000000000)=>fun (_:down.length≤9223372036854775807)=>ai (trivial) (ai ((Imps.refl (Qf n))) (ai (fun h1:(!(netB n))=true=>(fun hF:((⟨0,[]⟩:Qp),0,1)=(F19 n down p)=>ai (congrArg (fun r:Qp×Int×Int=>(.int .i64 r.1.Box:Value)) hF) (ai ((Imp.nil 1 eInt).trans (Imp.of_eq (congrArg (fun r:Qp×Int×Int=>Dat.l 1 eInt r.1.Ua) hF))) (ai (congrArg (fun r:Qp×Int×Int=>(.int .i64 r.2.1:Value)) hF) (ai (congrArg (fun r:Qp×Int×Int=>(.int .i64 r.2.2:Value)) hF) (trivial))))) (condT h1 (rfl))) (fun h1:(!(netB n))=false=>(fun _:n.Qb.length≤14=>(fun _:n.Qa.length≤8=>(fun _:Qv n=>ai (((by omega:n.Qa.length≤9223372036854775807))) (ai ((Imps.refl (Qf n))) (ai ((Imps.refl (Qq p))) (ai (fun h2:(!(packB n p))=true=>(fun hF:((⟨0,[]⟩:Qp),0,2)=(F19 n down p)=>ai (congrArg (fun r:Qp×Int×Int=>(.int .i64 r.1.Box:Value)) hF) (ai ((Imp.nil 1 eInt).trans (Imp.of_eq (congrArg (fun r:Qp×Int×Int=>Dat.l 1 eInt r.1.Ua) hF))) (ai (congrArg (fun r:Qp×Int×Int=>(.int .i64 r.2.1:Value)) hF) (ai (congrArg (fun r:Qp×Int×Int=>(.int .i64 r.2.2:Value)) hF) (trivial))))) (condF h1 (condT h2 (rfl)))) (fun h2:(!(packB n p))=false=>(fun _:0≤p.Box∧p.Box≤(n.Qa.length:Int)-1∧(p.Ua.length:Int)≤8=>(fun _:packB n p=true=>ai (((by omega:p.Ua.length≤1000000000))) (ai ((Imps.refl (Qq p))) (fun (_:down.length≤9223372036854775807)=>fun (_:n.Qb.length≤9223372036854775807)=>fun (_:n.Qa.length≤9223372036854775807)=>fun (_:p.Ua.length≤9223372036854775807)=>ai (ai (rfl) (ai (ir) (ai (ir) (ai (ir) (ai (rfl) (ai (rfl) (ai (rfl) (ai (ir) ((ai (rfl:runL (F19_s0 n down p) ((Int.toNat (200-0))+1) (0,p.Box,p.Ua)=(runL (F19_s0 n down p) ((Int.toNat (200-0))+1) (0,p.Box,p.Ua))) (ai ((Nat.lt_succ_self _:Int.toNat (200-0)<((Int.toNat (200-0))+1))) (ai ((by omega:p.Ua.length≤8)) ((by omega:(0:Int)≤0))))))))))))):((.int .i64 0:Value)=.int .i64 0)∧(Imp (.l 1 eInt down) (.l 1 eInt down))∧(Imp (.l 2 Qh n.Qb) (.l 2 Qh n.Qb))∧(Imp (.l 2 Qj n.Qa) (.l 2 Qj n.Qa))∧((.int .i64 0:Value)=.int .i64 0)∧((.slice none 0 0:Value)=.slice none 0 0)∧((.int .i64 p.Box:Value)=.int .i64 p.Box)∧(Imp (.l 1 eInt p.Ua) (.l 1 eInt p.Ua))∧(runL (F19_s0 n down p) ((Int.toNat (200-0))+1) (0,p.Box,p.Ua)=(runL (F19_s0 n down p) ((Int.toNat (200-0))+1) (0,p.Box,p.Ua))∧Int.toNat (200-0)<((Int.toNat (200-0))+1)∧p.Ua.length≤8∧(0:Int)≤0)) (fun (i0:Nat×(Int×Int×List Int)) (hi0:runL (F19_s0 n down p) i0.1 i0.2=(runL (F19_s0 n down p) ((Int.toNat (200-0))+1) (0,p.Box,p.Ua))∧(fun (i40:Int) (x9:Int) (x10:List Int)=>(Int.toNat (200-i40)<i0.1∧x10.length≤8∧(0:Int)≤i40)) i0.2.1 i0.2.2.1 i0.2.2.2)=>(fun (m0:Nat) (i40:Int) (x9:Int) (x10:List Int) (hI0:runL (F19_s0 n down p) (m0+1) (i40,x9,x10)=(runL (F19_s0 n down p) ((Int.toNat (200-0))+1) (0,p.Box,p.Ua))) (_:Int.toNat (200-i40)<m0+1) (hl0:m0<i0.1) (_:x10.length≤8) (_:(0:Int)≤i40)=>ai (fun h4:(decide (i40<200))=true=>(fun _:i40<200=>ai ((ai ((by assumption:Qv n)) (ai ((by omega:x10.length≤1000000000)) ((by omega:n.Qa.length≤8))))) (ai ((Imps.refl (Qf n))) (ai ((Imp.refl (.l 1 eInt down))) (ai ((Imps.refl (Qq (⟨x9,x10⟩:Qp)))) ((fun gv5:(stepB n down (⟨x9,x10⟩:Qp)).1.Ua.length≤8=>ai (fun h6:((stepB n down (⟨x9,x10⟩:Qp)).2==3)=true=>(fun _:(stepB n down (⟨x9,x10⟩:Qp)).2=3=>(fun hF:((⟨x9,x10⟩:Qp),i40,0)=(F19 n down p)=>ai (congrArg (fun r:Qp×Int×Int=>(.int .i64 r.1.Box:Value)) hF) (ai (Imp.of_eq (congrArg (fun r:Qp×Int×Int=>Dat.l 1 eInt r.1.Ua) hF)) (ai (congrArg (fun r:Qp×Int×Int=>(.int .i64 r.2.1:Value)) hF) (ai (congrArg (fun r:Qp×Int×Int=>(.int .i64 r.2.2:Value)) hF) (trivial))))) (condF h1 (condF h2 (finR (runL_ret hI0 (condT h4 (condT h6 (rfl)))) rfl)))) (eq_of_beq h6)) (fun h6:((stepB n down (⟨x9,x10⟩:Qp)).2==3)=false=>(fun _:¬ (stepB n down (⟨x9,x10⟩:Qp)).2=3=>ai (fun h7:((stepB n down (⟨x9,x10⟩:Qp)).2 != 0)=true=>(fun _:¬ (stepB n down (⟨x9,x10⟩:Qp)).2=0=>(fun hF:((⟨x9,x10⟩:Qp),i40,(stepB n down (⟨x9,x10⟩:Qp)).2)=(F19 n down p)=>ai (congrArg (fun r:Qp×Int×Int=>(.int .i64 r.1.Box:Value)) hF) (ai (Imp.of_eq (congrArg (fun r:Qp×Int×Int=>Dat.l 1 eInt r.1.Ua) hF)) (ai (congrArg (fun r:Qp×Int×Int=>(.int .i64 r.2.1:Value)) hF) (ai (congrArg (fun r:Qp×Int×Int=>(.int .i64 r.2.2:Value)) hF) (trivial))))) (condF h1 (condF h2 (finR (runL_ret hI0 (condT h4 (condF h6 (condT h7 (rfl))))) rfl)))) (bneT h7)) (fun h7:((stepB n down (⟨x9,x10⟩:Qp)).2 != 0)=false=>(fun _:(stepB n down (⟨x9,x10⟩:Qp)).2=0=>ai ((by unfold i64ok; omega:i64ok (i40+1))) (Exists.intro (p:=fun j:Nat×(Int×Int×List Int)=>(fun (i40_:Int) (x9_:Int) (x10_:List Int)=>(((.int .i64 (i40+1):Value)=.int .i64 i40_)∧(Imp (.l 1 eInt down) (.l 1 eInt down))∧(Imp (.l 2 Qh n.Qb) (.l 2 Qh n.Qb))∧(Imp (.l 2 Qj n.Qa) (.l 2 Qj n.Qa))∧((.int .i64 0:Value)=.int .i64 0)∧((.slice none 0 0:Value)=.slice none 0 0)∧((.int .i64 (stepB n down (⟨x9,x10⟩:Qp)).1.Box:Value)=.int .i64 x9_)∧(Imp (.l 1 eInt (stepB n down (⟨x9,x10⟩:Qp)).1.Ua) (.l 1 eInt x10_))∧((runL (F19_s0 n down p) j.1 j.2=(runL (F19_s0 n down p) ((Int.toNat (200-0))+1) (0,p.Box,p.Ua))∧Int.toNat (200-i40_)<j.1∧x10_.length≤8∧(0:Int)≤i40_)∧j.1<i0.1))) j.2.1 j.2.2.1 j.2.2.2) (m0,((i40+1),(stepB n down (⟨x9,x10⟩:Qp)).1.Box,(stepB n down (⟨x9,x10⟩:Qp)).1.Ua)) (ai (rfl) (ai (ir) (ai (ir) (ai (ir) (ai (rfl) (ai (rfl) (ai (rfl) (ai (ir) (ai (ai (runL_next hI0 (condT h4 (condF h6 (condF h7 (rfl))))) (ai ((by omega:Int.toNat (200-(i40+1))<m0)) (ai ((by omega:(stepB n down (⟨x9,x10⟩:Qp)).1.Ua.length≤8)) ((by omega:(0:Int)≤(i40+1)))))) hl0))))))))))) (bneF h7))) (beqF h6))) (stepB_len n down (⟨x9,x10⟩:Qp) (by assumption:Qv n))))))) (of_decide_eq_true h4)) (fun h4:(decide (i40<200))=false=>(fun _:¬ i40<200=>(fun hD0_8:(runL (F19_s0 n down p) ((Int.toNat (200-0))+1) (0,p.Box,p.Ua))=Lp.done (i40,x9,x10)=>ai (fun h9:((x10.length:Int)==0)=true=>(fun _:(x10.length:Int)=0=>(fun hF:((⟨x9,x10⟩:Qp),200,0)=(F19 n down p)=>ai (congrArg (fun r:Qp×Int×Int=>(.int .i64 r.1.Box:Value)) hF) (ai (Imp.of_eq (congrArg (fun r:Qp×Int×Int=>Dat.l 1 eInt r.1.Ua) hF)) (ai (congrArg (fun r:Qp×Int×Int=>(.int .i64 r.2.1:Value)) hF) (ai (congrArg (fun r:Qp×Int×Int=>(.int .i64 r.2.2:Value)) hF) (trivial))))) (condF h1 (condF h2 (finD hD0_8 (condT h9 (rfl)))))) (eq_of_beq h9)) (fun h9:((x10.length:Int)==0)=false=>(fun _:¬ (x10.length:Int)=0=>(fun hF:((⟨x9,x10⟩:Qp),200,6)=(F19 n down p)=>ai (congrArg (fun r:Qp×Int×Int=>(.int .i64 r.1.Box:Value)) hF) (ai (Imp.of_eq (congrArg (fun r:Qp×Int×Int=>Dat.l 1 eInt r.1.Ua) hF)) (ai (congrArg (fun r:Qp×Int×Int=>(.int .i64 r.2.1:Value)) hF) (ai (congrArg (fun r:Qp×Int×Int=>(.int .i64 r.2.2:Value)) hF) (trivial))))) (condF h1 (condF h2 (finD hD0_8 (condF h9 (rfl)))))) (beqF h9))) (runL_done hI0 (condF h4 (rfl)))) (of_decide_eq_false h4))) (i0.1-1) i0.2.1 i0.2.2.1 i0.2.2.2 (hd1 hi0.1 hi0.2.1) (hd2 hi0.2.1) (hd3 hi0.2.1) hi0.2.2.1 hi0.2.2.2)))) (packB_id n p (notEF h2))) (packB_T n p (notEF h2))))))) (netB_T n (notEF h1))) (netB_8 n (notEF h1))) (netB_14 n (notEF h1)))))) (by kernel_rfl)
def F17 (Qd:SV) (code:List Int):Qe×Qp :=
 ((F51 ⟨(F36 Qd code).1.b,(F36 Qd code).1.p⟩).1,(F52 ⟨(F36 Qd code).1.b,(F51 ⟨(F36 Qd code).1.b,(F36 Qd code).1.p⟩).2⟩ (F51 ⟨(F36 Qd code).1.b,(F36 Qd code).1.p⟩).1 7).1)
def S17 (Qd:SV) (code:List Int):Spec:=⟨[.vl (sv Qd) (.l 1 eByte code)],.tu [.ag [.ow (.l 2 Qh (F17 Qd code).1.Qb),.ow (.l 2 Qj (F17 Qd code).1.Qa)],.ag [.v (vI (F17 Qd code).2.Box),.ow (.l 1 eInt (F17 Qd code).2.Ua)]],True⟩
abbrev q17_1 (Qd:SV) (code:List Int):=(F51 ⟨(F36 Qd code).1.b,(F36 Qd code).1.p⟩)
abbrev q17_2 (Qd:SV) (code:List Int):=(⟨(F36 Qd code).1.b,(q17_1 Qd code).2⟩:l71Rd)
theorem ok17 (Qd:SV) (code:List Int):(S17 Qd code).ok Try.prog 17 :=
 fnG_ok mixed (fn:=Try.f17) (ct:=.seqk [(0,0)] (.no) (.seqg 7 0 1000001 (sv (F36 Qd code).2) (.l 1 eByte (F36 Qd code).1.b) (.reg [(1,.call 36 (S36 Qd code) (ok36 Qd code) none)]) (.seq (.reg [(1,.call 51 (S51 (F36 Qd code).2 1000001 (⟨(F36 Qd code).1.b,(F36 Qd code).1.p⟩:l71Rd)) (ok51 (F36 Qd code).2 1000001 (⟨(F36 Qd code).1.b,(F36 Qd code).1.p⟩:l71Rd)) none)]) (.seq (.reg [(3,.call 52 (S52 (F36 Qd code).2 1000001 (q17_2 Qd code) (q17_1 Qd code).1 7) (ok52 (F36 Qd code).2 1000001 (q17_2 Qd code) (q17_1 Qd code).1 7) none)]) (.no))))) Try.func17 (fun (_:True)=>fun (_:code.length≤9223372036854775807)=>ai (trivial) (ai ((Eq.refl (sv Qd))) (ai ((Imp.refl (.l 1 eByte code))) ((fun gv1:((F36 Qd code)).1.b.length≤2000∧((F36 Qd code)).1.p=0=>ai (Eq.refl (sv (F36 Qd code).2)) (ai (gd36 Qd code) (ai ((ai ((by omega:0≤(F36 Qd code).1.p)) (ai ((by omega:(F36 Qd code).1.p≤700000000)) ((by omega:(F36 Qd code).1.b.length≤2000))))) (ai ((Eq.refl (sv (F36 Qd code).2))) (ai ((Imp.refl (.l 1 eByte (F36 Qd code).1.b))) (ai ((Imps.refl [.v (vI (F36 Qd code).1.p)])) ((fun gv2:Qv ((q17_1 Qd code)).1=>(fun gv3:(F36 Qd code).1.p≤((q17_1 Qd code)).2∧((q17_1 Qd code)).2≤(F36 Qd code).1.p+160∧1≤((q17_1 Qd code)).1.Qa.length∧((q17_1 Qd code)).1.Qa.length≤8∧((q17_1 Qd code)).1.Qb.length≤14=>ai ((ai ((by omega:0≤(q17_1 Qd code).2)) (ai ((by omega:(q17_1 Qd code).2≤800000000)) (ai ((by omega:(F36 Qd code).1.b.length≤2000)) (ai ((by omega:(q17_1 Qd code).1.Qa.length≤1000000000)) (ai ((by omega:0≤(7:Int))) ((by omega:(7:Int)≤9)))))))) (ai ((Eq.refl (sv (F36 Qd code).2))) (ai ((Imp.refl (.l 1 eByte (F36 Qd code).1.b))) (ai ((Imps.refl [.v (vI (q17_1 Qd code).2)])) (ai ((Imps.refl (Qf (q17_1 Qd code).1))) (ai ((Imp.refl (.v (vI 7)))) ((fun gv4:(q17_1 Qd code).2≤((F52 (q17_2 Qd code) (q17_1 Qd code).1 7)).2∧((F52 (q17_2 Qd code) (q17_1 Qd code).1 7)).2≤(q17_1 Qd code).2+30∧((F52 (q17_2 Qd code) (q17_1 Qd code).1 7)).1.Ua.length≤9=>(fun hF:((q17_1 Qd code).1,(F52 (q17_2 Qd code) (q17_1 Qd code).1 7).1)=(F17 Qd code)=>ai (Imp.of_eq (congrArg (fun r:Qe×Qp=>Dat.l 2 Qh r.1.Qb) hF)) (ai (Imp.of_eq (congrArg (fun r:Qe×Qp=>Dat.l 2 Qj r.1.Qa) hF)) (ai (congrArg (fun r:Qe×Qp=>(.int .i64 r.2.Box:Value)) hF) (ai (Imp.of_eq (congrArg (fun r:Qe×Qp=>Dat.l 1 eInt r.2.Ua) hF)) (trivial))))) (rfl)) (packet_p (q17_2 Qd code) (q17_1 Qd code).1 7 (by omega:0≤(q17_1 Qd code).2) (by omega:(q17_1 Qd code).2≤800000000) (by omega:0≤(7:Int)) (by omega:(7:Int)≤9))))))))) (net_q (⟨(F36 Qd code).1.b,(F36 Qd code).1.p⟩:l71Rd) (by omega:0≤(F36 Qd code).1.p) (by omega:(F36 Qd code).1.p≤700000000))) (net_n (⟨(F36 Qd code).1.b,(F36 Qd code).1.p⟩:l71Rd) (by omega:0≤(F36 Qd code).1.p) (by omega:(F36 Qd code).1.p≤700000000))))))))) (open_b Qd code))))) (by kernel_rfl)
theorem net_j0L (r1:l71Rd) (h0:0≤r1.p) (h1:r1.p≤700000000):∃ n n1,F51_j0 r1=.done (n,n1)∧LI (⟨n,n1⟩:Qe):=by
 have hb:LI (F72 r1).1:=by
  obtain ⟨n1,n2,_⟩:=bare_ok r1 h0 (by omega)
  exact LI.bare n1 fun i=>by
   have:=n2 i.toNat
   unfold bx
   rw [this]; exact ⟨rfl,rfl⟩
 unfold F51_j0
 cases decide ((F39 (⟨r1.b,(F72 (⟨r1.b,r1.p⟩:l71Rd)).2⟩:l71Rd) 3).1>0) with
 | true=>exact ⟨_,_,rfl,li_labGuardAll hb⟩
 | false=>exact ⟨_,_,rfl,hb⟩
theorem net_li (r1:l71Rd) (h0:0≤r1.p) (h1:r1.p≤700000000):LI (F51 r1).1:=by
 unfold F51
 obtain ⟨n,n1,e0,hn⟩:=net_j0L r1 h0 h1
 rw [e0]
 simp only [Lp.fin]
 obtain ⟨r2,n2,n3,e1,hn2⟩:∃ r2 n2 n3,F51_j1 r1 n n1=.done (r2,n2,n3)∧LI (⟨n2,n3⟩:Qe):=by
  unfold F51_j1
  obtain ⟨_,_,b1,b2⟩:=bare_b r1 h0 (by omega)
  have b1:r1.p≤(F72 (⟨r1.b,r1.p⟩:l71Rd)).2:=b1
  have b2:(F72 (⟨r1.b,r1.p⟩:l71Rd)).2≤r1.p+50:=b2
  generalize (F72 (⟨r1.b,r1.p⟩:l71Rd)).2=q at b1 b2
  have e3:(F39 (⟨r1.b,q⟩:l71Rd) 3).2=q+1:=pick_p _ _
  rw [e3]
  have p1:=pick_in (⟨r1.b,q+1⟩:l71Rd) 6 (by show 0≤q+1; omega) (by show q+1≤_; omega)
  generalize F39 (⟨r1.b,q+1⟩:l71Rd) 6=P at p1
  obtain ⟨k,r2⟩:=P
  simp only at p1 ⊢
  obtain ⟨s',h,i1,_⟩:=runL_meas (step:=F51_s0 r1 n n1) (fun s=>0≤s.1∧LI (⟨s.2.2.1,s.2.2.2⟩:Qe)) (fun s=>Int.toNat s.1) (fun _=>True)
   (fun s ⟨i1,i2⟩=>by
    obtain ⟨k,r3,n4,n5⟩:=s
    simp only at i1 i2
    simp only [F51_s0]
    cases hc:decide (k>0) with
    | false=>exact .inl ⟨rfl,trivial⟩
    | true =>
     have hc:=of_decide_eq_true hc
     refine .inr ?_
     have e4:(F39 (⟨r1.b,r3⟩:l71Rd) 4).2=r3+1:=pick_p _ _
     simp only [cond_true,e4]
     cases (F39 (⟨r1.b,r3⟩:l71Rd) 4).1==0 with
     | true =>
      simp only [cond_true]
      cases decide ((n4.length:Int)>0) with
      | true=>exact ⟨(_,_,_,_),rfl,⟨by simp only; omega,li_labGuard i2 _ _⟩,by simp only; omega⟩
      | false=>exact ⟨(_,_,_,_),rfl,⟨by simp only; omega,i2⟩,by simp only; omega⟩
     | false =>
      simp only [cond_false]
      cases (F39 (⟨r1.b,r3⟩:l71Rd) 4).1==1 with
      | true=>exact ⟨(_,_,_,_),rfl,⟨by simp only; omega,li_labTear i2 _ _⟩,by simp only; omega⟩
      | false=>exact ⟨(_,_,_,_),rfl,⟨by simp only; omega,li_labLay i2 _⟩,by simp only; omega⟩)
   (Int.toNat k+1) (k,r2,n,n1) ⟨p1.1,hn⟩ (by simp only; omega)
  rw [h]
  obtain ⟨k',r4,n4,n5⟩:=s'
  simp only at i1
  exact ⟨r4,n4,n5,rfl,i1.2⟩
 rw [e1]
 simp only [Lp.fin]
 have e5:(F39 (⟨r1.b,r2⟩:l71Rd) 30).2=r2+1:=pick_p _ _
 rw [e5]
 cases (F39 (⟨r1.b,r2⟩:l71Rd) 30).1==0 with
 | false=>exact hn2
 | true =>
  simp only [cond_true]
  obtain ⟨s',h,i1,_⟩:=runL_meas (step:=F51_s1 r1 n n1 r2 n2 n3) (fun s=>(1:Int)≤s.1∧LI (⟨n2,s.2⟩:Qe)) (fun s=>Int.toNat (60-s.1+1)) (fun _=>True)
   (fun s ⟨i1,i2⟩=>by
    obtain ⟨i,xs⟩:=s
    simp only at i1 i2
    simp only [F51_s1]
    cases hc:decide (i≤60) with
    | false=>exact .inl ⟨rfl,trivial⟩
    | true =>
     have hc:=of_decide_eq_true hc
     refine .inr ?_
     simp only [cond_true]
     cases hd:decide (oix (rowIx (xs.getD (Int.toNat 0) default) i)<0) with
     | true=>exact ⟨(_,_),rfl,⟨by simp only; omega,i2.put i1 hc (of_decide_eq_true hd)⟩,by simp only; omega⟩
     | false=>exact ⟨(_,_),rfl,⟨by simp only; omega,i2⟩,by simp only; omega⟩)
   (Int.toNat (60-1+1)+1) (1,n3) ⟨by simp,hn2⟩ (by simp)
  rw [h]
  obtain ⟨i,xs⟩:=s'
  exact i1.2
theorem packet_7 (r1:l71Rd) (n:Qe) (h0:0≤r1.p) (h1:r1.p≤800000000):(F52 r1 n 7).1.Ua.length≤7:=by
 unfold F52
 obtain ⟨b1,b2⟩:=box_p r1 n h0 (by omega)
 have b1:r1.p≤(F38 (⟨r1.b,r1.p⟩:l71Rd) n).2:=b1
 have b2:(F38 (⟨r1.b,r1.p⟩:l71Rd) n).2≤r1.p+2:=b2
 obtain ⟨r2,p,e0,k1⟩:∃ r2 p,F52_j0 r1 n 7=.done (r2,p)∧p.length≤3:=by
  unfold F52_j0
  generalize (F38 (⟨r1.b,r1.p⟩:l71Rd) n).2=q at b1 b2
  have p1:=pick_in (⟨r1.b,q⟩:l71Rd) 4 (by show 0≤q; omega) (by show q≤_; omega)
  generalize F39 (⟨r1.b,q⟩:l71Rd) 4=P at p1
  obtain ⟨k,r2⟩:=P
  simp only at p1 ⊢
  obtain ⟨s',h,i1,_⟩:=runL_meas (step:=F52_s0 r1 n 7) (fun s=>0≤s.1∧(s.2.2.length:Int)+s.1≤3) (fun s=>Int.toNat s.1) (fun _=>True)
   (fun s ⟨i1,i2⟩=>by
    obtain ⟨k,r3,o⟩:=s
    simp only at i1 i2
    simp only [F52_s0]
    cases hc:decide (k>0) with
    | false=>exact .inl ⟨rfl,trivial⟩
    | true =>
     have hc:=of_decide_eq_true hc
     refine .inr ⟨(_,_,_),rfl,⟨by simp only; omega,by simp only [List.length_append,List.length_cons,List.length_nil]; omega⟩,by simp only; omega⟩)
   (Int.toNat k+1) (k,r2,[]) (by simp only [List.length_nil]; omega) (by simp only; omega)
  rw [h]
  obtain ⟨k',r4,o⟩:=s'
  simp only at i1
  exact ⟨r4,o,rfl,by omega⟩
 rw [e0]
 simp only [Lp.fin,pick_p]
 cases (F39 (⟨r1.b,r2⟩:l71Rd) 10).1==0 with
 | false=>simp only [cond_false]; omega
 | true =>
  simp only [cond_true]
  obtain ⟨s',h,i1,_⟩:=runL_meas (step:=F52_s1 r1 n 7 r2 p) (fun s=>(s.2.length:Int)≤7) (fun s=>Int.toNat ((7:Int)-(s.2.length:Int))) (fun _=>True)
   (fun s i1=>by
    obtain ⟨r4,o⟩:=s
    simp only at i1
    simp only [F52_s1]
    cases hc:decide ((o.length:Int)<7) with
    | false=>exact .inl ⟨rfl,trivial⟩
    | true =>
     have hc:=of_decide_eq_true hc
     refine .inr ⟨(_,_),rfl,by simp only [List.length_append,List.length_cons,List.length_nil]; omega,by simp only [List.length_append,List.length_cons,List.length_nil]; omega⟩)
   (Int.toNat ((7:Int)-(p.length:Int))+1) (r2+1,p) (by simp only; omega) (by simp only; omega)
  rw [h]
  obtain ⟨r4,o⟩:=s'
  simp only [Lp.fin] at i1 ⊢
  omega
theorem reached_ok (Qd:SV) (code:List Int):LI (F17 Qd code).1∧(F17 Qd code).2.Ua.length≤7:=by
 unfold F17
 obtain ⟨h1,h2⟩:=open_b Qd code
 generalize F36 Qd code=O at *
 obtain ⟨⟨b,p⟩,X⟩:=O
 simp only at h1 h2 ⊢
 have q1:=net_li (⟨b,p⟩:l71Rd) (by show 0≤p; omega) (by show p≤_; omega)
 obtain ⟨_,q2,q3⟩:=net_p (⟨b,p⟩:l71Rd) (by show 0≤p; omega) (by show p≤_; omega)
 have q2:p≤(F51 (⟨b,p⟩:l71Rd)).2:=q2
 have q3:(F51 (⟨b,p⟩:l71Rd)).2≤p+160:=q3
 generalize F51 (⟨b,p⟩:l71Rd)=A at *
 obtain ⟨n,p2⟩:=A
 simp only at q1 q2 q3 ⊢
 exact ⟨q1,packet_7 (⟨b,p2⟩:l71Rd) n (by show 0≤p2; omega) (by show p2≤_; omega)⟩
theorem reached_7 (Qd:SV) (code:List Int):(F17 Qd code).2.Ua.length≤7:=(reached_ok Qd code).2
theorem walkGo {n:Qe} (h:Qv n) (down:List Int) (p0:Qp):∀ (m:Nat) (i:Int) (p:Qp),packB n p=true →
  runL (F18_s0 n down p0) m (i,p.Box,p.Ua)=runL (F19_s0 n down p0) m (i,p.Box,p.Ua) ∧
  (runL (F19_s0 n down p0) m (i,p.Box,p.Ua)).all (fun s=>s.2.2.length≤8) (fun r=>r.1.Ua.length≤8)
 | 0,i,p,hp=>⟨rfl,by have:=(packB_T n p hp).2.2; simp only [runL,Lp.all]; omega⟩
 | m+1,i,p,hp=>by
  have e:stepB n down (⟨p.Box,p.Ua⟩:Qp)=F55 n down p:=by unfold stepB; rw [hp]; rfl
  have hl:=(packB_T n p hp).2.2
  have e1:F18_s0 n down p0 (i,p.Box,p.Ua)=F19_s0 n down p0 (i,p.Box,p.Ua):=by
   simp only [F18_s0,F19_s0,e]
   show (bif decide (i<200) then (bif (F55 n down p).2==0 then _ else _) else _)=_
   generalize F55 n down p=q
   cases decide (i<200)
   ·rfl
   ·cases h1:(q.2==0)
    ·cases h2:(q.2==3)
     ·have:(q.2 != 0)=true:=by simp [bne,h1]
      simp only [cond_true,cond_false,this]
     ·simp only [cond_true,cond_false]
    ·have h3:(q.2==3)=false:=by have:=eq_of_beq h1; simp [this]
     have:(q.2 != 0)=false:=by simp [bne,h1]
     simp only [cond_true,cond_false,this,h3]
  simp only [runL]
  rw [e1]
  cases hx:F19_s0 n down p0 (i,p.Box,p.Ua) with
  | done s =>
   refine ⟨rfl,?_⟩
   simp only [F19_s0,e] at hx
   cases decide (i<200)
   ·revert hx
    cases decide (i<200) <;> cases ((F55 n down p).2==3) <;> cases ((F55 n down p).2 != 0) <;> intro hx <;> cases hx
    all_goals (simp only [Lp.all]; omega)
   ·revert hx
    cases decide (i<200) <;> cases ((F55 n down p).2==3) <;> cases ((F55 n down p).2 != 0) <;> intro hx <;> cases hx
    all_goals (simp only [Lp.all]; omega)
  | ret r =>
   refine ⟨rfl,?_⟩
   simp only [F19_s0,e] at hx
   revert hx
   cases decide (i<200) <;> cases ((F55 n down p).2==3) <;> cases ((F55 n down p).2 != 0) <;> intro hx <;> cases hx
   all_goals (simp only [Lp.all]; omega)
  | next s =>
   have:s=(i+1,(F55 n down p).1.Box,(F55 n down p).1.Ua):=by
    simp only [F19_s0,e] at hx
    revert hx
    cases decide (i<200) <;> cases ((F55 n down p).2==3) <;> cases ((F55 n down p).2 != 0) <;> intro hx <;> cases hx
    rfl
   subst this
   exact walkGo h down p0 m (i+1) (F55 n down p).1 (step_pack h down p hp)
theorem labWalk_eq (n:Qe) (down:List Int) (p:Qp):F18 n down p=F19 n down p∧(F19 n down p).1.Ua.length≤8:=by
 unfold F18 F19
 cases hn:netB n
 ·exact ⟨rfl,Nat.zero_le _⟩
 ·cases hp:packB n p
  ·exact ⟨rfl,Nat.zero_le _⟩
  ·obtain ⟨h1,h2⟩:=walkGo (netB_T n hn) down p ((Int.toNat (200-0))+1) 0 p hp
   simp only [Bool.not_true,cond_false]
   rw [h1]
   refine ⟨rfl,?_⟩
   refine fin_inv (K:=fun x:Qp×Int×Int=>x.1.Ua.length≤8) h2 (fun r hr=>hr) (fun s hs=>?_)
   obtain ⟨i,b,st⟩:=s
   simp only
   cases ((st.length:Int)==0) <;> exact hs
def F4_s0 (Qd:SV) (code:List Int):Int→Lp Int Bool:=fun down =>
 bif (decide (down<((F17 Qd code).1.Qb.length:Int))) then (bif (bif (bif (bif (bif (bif ((F18 (F17 Qd code).1 ([down]:List Int) (F17 Qd code).2).2.2 != (F19 (F17 Qd code).1 ([down]:List Int) (F17 Qd code).2).2.2) then true else ((F18 (F17 Qd code).1 ([down]:List Int) (F17 Qd code).2).2.1 != (F19 (F17 Qd code).1 ([down]:List Int) (F17 Qd code).2).2.1)) then true else (!(F20 (F18 (F17 Qd code).1 ([down]:List Int) (F17 Qd code).2).1 (F19 (F17 Qd code).1 ([down]:List Int) (F17 Qd code).2).1))) then true else ((F18 (F17 Qd code).1 ([down]:List Int) (F17 Qd code).2).2.2==6)) then true else ((F18 (F17 Qd code).1 ([down]:List Int) (F17 Qd code).2).2.2==7)) then true else decide ((F18 (F17 Qd code).1 ([down]:List Int) (F17 Qd code).2).2.1>136)) then (.ret false) else (bif (bif (bif (bif ((F18 (F17 Qd code).1 ([down]:List Int) (F17 Qd code).2).2.2==0) then decide (((F18 (F17 Qd code).1 ([down]:List Int) (F17 Qd code).2).1.Ua.length:Int)>0) else false) then true else ((F18 (F17 Qd code).1 ([down]:List Int) (F17 Qd code).2).2.2==3)) then true else ((F18 (F17 Qd code).1 ([down]:List Int) (F17 Qd code).2).2.2==1)) then (.ret false) else (.next (down+1)))) else (.done down)
def F4 (Qd:SV) (code:List Int):Bool :=
 bif (decide ((code.length:Int)>1048576)) then true else ((runL (F4_s0 Qd code) ((((F17 Qd code).1.Qb.length:Int)-(-1)).toNat+1) (-1)).fin (fun r=>r) (fun down=>true))
def S4 (Qd:SV) (code:List Int):Spec:=⟨[.vl (sv Qd) (.l 1 eByte code)],.v (.bool (F4 Qd code)),True⟩
abbrev q4_1 (Qd:SV) (code:List Int) (down:Int):=(F18 (F17 Qd code).1 ([down]:List Int) (F17 Qd code).2)
abbrev q4_2 (Qd:SV) (code:List Int) (down:Int):=(F19 (F17 Qd code).1 ([down]:List Int) (F17 Qd code).2)
abbrev q4_3 (Qd:SV) (code:List Int):=(runL (F4_s0 Qd code) ((((F17 Qd code).1.Qb.length:Int)-(-1)).toNat+1) (-1))
theorem ok4 (Qd:SV) (code:List Int):(S4 Qd code).ok Try.prog 4 false :=
 fnG_ok mixed (fn:=Try.f4) (ct:=.seqk [(0,0)] (.no) (.seq (.seq (.no) (.cond (.seq (.no) (.no)) (.no))) (.seq (.reg [(1,.call 17 (S17 Qd code) ((ok17 Qd code).to false) none)]) (.seq (.seqk [(3,0),(3,1),(4,1)] (.no) (.blk (.loop (ι:=Nat×Int) (fun i=>(fun (down:Int)=>(⟨[(3,some (.p 0 0)),(4,some (.p 3 0)),(5,some (.v (vI down)))],[(0,some (.box 26 [.h 1 0,.h 2 0])),(1,some (.own 1 (.l 2 Qh (F17 Qd code).1.Qb))),(2,some (.own 2 (.l 2 Qj (F17 Qd code).1.Qa))),(3,some (.box 39 [.v (vI (F17 Qd code).2.Box),.h 4 0])),(4,some (.own 4 (.l 1 eInt (F17 Qd code).2.Ua)))],5⟩:St)) i.2) (fun i=>runL (F4_s0 Qd code) i.1 i.2=(q4_3 Qd code)∧(fun (down:Int)=>(Int.toNat (((F17 Qd code).1.Qb.length:Int)-down)<i.1∧(-1:Int)≤down)) i.2) (fun i=>i.1) (((((F17 Qd code).1.Qb.length:Int)-(-1)).toNat+1),(-1)) (fun i=>(fun (down:Int)=>(.seq (.seq (.no) (.cond (.no) (.no))) (.seq (.blk (.seq (.reg [(2,.dat (.l 1 eInt ([down]:List Int))),(4,.call 18 (S18 (F17 Qd code).1 ([down]:List Int) (F17 Qd code).2) (ok18 (F17 Qd code).1 ([down]:List Int) (F17 Qd code).2) none)]) (.seq (.reg [(2,.dat (.l 1 eInt ([down]:List Int))),(4,.call 19 (S19 (F17 Qd code).1 ([down]:List Int) (F17 Qd code).2) ((ok19 (F17 Qd code).1 ([down]:List Int) (F17 Qd code).2).to false) none)]) (.seq (.seq (.reg [(11,.call 20 (S20 (q4_1 Qd code down).1 (q4_2 Qd code down).1) ((ok20 (q4_1 Qd code down).1 (q4_2 Qd code down).1).to false) none)]) (.cond (.seq (.no) (.no)) (.no))) (.seq (.no) (.cond (.seq (.no) (.no)) (.no))))))) (.reg [(1,.bnd)])))) i.2)))) (.seq (.no) (.no)))))) Try.func4 (fun (_:True)=>fun (_:code.length≤9223372036854775807)=>ai (fun h1:(decide ((code.length:Int)>1048576))=true=>(fun _:(code.length:Int)>1048576=>(fun hF:(true:Bool)=(F4 Qd code)=>ai (congrArg (fun r:Bool=>(.bool r:Value)) hF) (trivial)) (condT h1 (rfl))) (of_decide_eq_true h1)) (fun h1:(decide ((code.length:Int)>1048576))=false=>(fun _:¬ (code.length:Int)>1048576=>ai (trivial) (ai ((Eq.refl (sv Qd))) (ai ((Imp.refl (.l 1 eByte code))) ((fun gv2:((F17 Qd code)).2.Ua.length≤7=>fun (_:(F17 Qd code).1.Qb.length≤9223372036854775807)=>fun (_:(F17 Qd code).1.Qa.length≤9223372036854775807)=>fun (_:(F17 Qd code).2.Ua.length≤9223372036854775807)=>ai (ai (rfl) (ai (ir) (ai (ir) (ai (rfl) (ai (ir) ((ai (rfl:runL (F4_s0 Qd code) ((((F17 Qd code).1.Qb.length:Int)-(-1)).toNat+1) (-1)=(q4_3 Qd code)) (ai ((Nat.lt_succ_self _:Int.toNat (((F17 Qd code).1.Qb.length:Int)-(-1))<((((F17 Qd code).1.Qb.length:Int)-(-1)).toNat+1))) ((by omega:(-1:Int)≤(-1)))))))))):((.int .i64 (-1):Value)=.int .i64 (-1))∧(Imp (.l 2 Qh (F17 Qd code).1.Qb) (.l 2 Qh (F17 Qd code).1.Qb))∧(Imp (.l 2 Qj (F17 Qd code).1.Qa) (.l 2 Qj (F17 Qd code).1.Qa))∧((.int .i64 (F17 Qd code).2.Box:Value)=.int .i64 (F17 Qd code).2.Box)∧(Imp (.l 1 eInt (F17 Qd code).2.Ua) (.l 1 eInt (F17 Qd code).2.Ua))∧(runL (F4_s0 Qd code) ((((F17 Qd code).1.Qb.length:Int)-(-1)).toNat+1) (-1)=(q4_3 Qd code)∧Int.toNat (((F17 Qd code).1.Qb.length:Int)-(-1))<((((F17 Qd code).1.Qb.length:Int)-(-1)).toNat+1)∧(-1:Int)≤(-1))) (fun (i0:Nat×Int) (hi0:runL (F4_s0 Qd code) i0.1 i0.2=(q4_3 Qd code)∧(fun (down:Int)=>(Int.toNat (((F17 Qd code).1.Qb.length:Int)-down)<i0.1∧(-1:Int)≤down)) i0.2)=>(fun (m0:Nat) (down:Int) (hI0:runL (F4_s0 Qd code) (m0+1) down=(q4_3 Qd code)) (_:Int.toNat (((F17 Qd code).1.Qb.length:Int)-down)<m0+1) (hl0:m0<i0.1) (_:(-1:Int)≤down)=>ai (fun h4:(decide (down<((F17 Qd code).1.Qb.length:Int)))=true=>(fun _:down<((F17 Qd code).1.Qb.length:Int)=>ai ((BuildOK.mk eInt ([down]:List Int) rfl (by exact ai ir (trivial)) (fun _=>rfl):BuildOK 1 1 [.v (vI down)] (.l 1 eInt ([down]:List Int)))) (ai (((by omega:(F17 Qd code).2.Ua.length≤1000000000))) (ai ((Imps.refl (Qf (F17 Qd code).1))) (ai ((Imp.refl (.l 1 eInt ([down]:List Int)))) (ai ((Imps.refl (Qq (F17 Qd code).2))) (ai ((BuildOK.mk eInt ([down]:List Int) rfl (by exact ai ir (trivial)) (fun _=>rfl):BuildOK 1 1 [.v (vI down)] (.l 1 eInt ([down]:List Int)))) (ai (((by omega:(F17 Qd code).2.Ua.length≤1000000000))) (ai ((Imps.refl (Qf (F17 Qd code).1))) (ai ((Imp.refl (.l 1 eInt ([down]:List Int)))) (ai ((Imps.refl (Qq (F17 Qd code).2))) (ai ((fun k5:(bif ((q4_1 Qd code down).2.2 != (q4_2 Qd code down).2.2) then true else ((q4_1 Qd code down).2.1 != (q4_2 Qd code down).2.1))=false=>(fun _:(q4_1 Qd code down).2.1=(q4_2 Qd code down).2.1=>(fun _:(q4_1 Qd code down).2.2=(q4_2 Qd code down).2.2=>trivial) (bneF (orF1 k5))) (bneF (orF2 k5)))) (ai ((fun k6:(bif ((q4_1 Qd code down).2.2 != (q4_2 Qd code down).2.2) then true else ((q4_1 Qd code down).2.1 != (q4_2 Qd code down).2.1))=false=>(fun _:(q4_1 Qd code down).2.1=(q4_2 Qd code down).2.1=>(fun _:(q4_1 Qd code down).2.2=(q4_2 Qd code down).2.2=>(Imps.refl (Qq (q4_1 Qd code down).1))) (bneF (orF1 k6))) (bneF (orF2 k6)))) (ai ((fun k7:(bif ((q4_1 Qd code down).2.2 != (q4_2 Qd code down).2.2) then true else ((q4_1 Qd code down).2.1 != (q4_2 Qd code down).2.1))=false=>(fun _:(q4_1 Qd code down).2.1=(q4_2 Qd code down).2.1=>(fun _:(q4_1 Qd code down).2.2=(q4_2 Qd code down).2.2=>(Imps.refl (Qq (q4_2 Qd code down).1))) (bneF (orF1 k7))) (bneF (orF2 k7)))) (ai (fun h8:(bif (bif (bif (bif (bif ((q4_1 Qd code down).2.2 != (q4_2 Qd code down).2.2) then true else ((q4_1 Qd code down).2.1 != (q4_2 Qd code down).2.1)) then true else (!(F20 (q4_1 Qd code down).1 (q4_2 Qd code down).1))) then true else ((q4_1 Qd code down).2.2==6)) then true else ((q4_1 Qd code down).2.2==7)) then true else decide ((q4_1 Qd code down).2.1>136))=true=>(fun hF:(false:Bool)=(F4 Qd code)=>ai (congrArg (fun r:Bool=>(.bool r:Value)) hF) (trivial)) (condF h1 (finR (runL_ret hI0 (condT h4 (condT h8 (rfl)))) rfl))) (fun h8:(bif (bif (bif (bif (bif ((q4_1 Qd code down).2.2 != (q4_2 Qd code down).2.2) then true else ((q4_1 Qd code down).2.1 != (q4_2 Qd code down).2.1)) then true else (!(F20 (q4_1 Qd code down).1 (q4_2 Qd code down).1))) then true else ((q4_1 Qd code down).2.2==6)) then true else ((q4_1 Qd code down).2.2==7)) then true else decide ((q4_1 Qd code down).2.1>136))=false=>(fun _:¬ (q4_1 Qd code down).2.1>136=>(fun _:¬ (q4_1 Qd code down).2.2=7=>(fun _:¬ (q4_1 Qd code down).2.2=6=>(fun _:(q4_1 Qd code down).2.1=(q4_2 Qd code down).2.1=>(fun _:(q4_1 Qd code down).2.2=(q4_2 Qd code down).2.2=>ai (fun h9:(bif (bif (bif ((q4_1 Qd code down).2.2==0) then decide (((q4_1 Qd code down).1.Ua.length:Int)>0) else false) then true else ((q4_1 Qd code down).2.2==3)) then true else ((q4_1 Qd code down).2.2==1))=true=>(fun hF:(false:Bool)=(F4 Qd code)=>ai (congrArg (fun r:Bool=>(.bool r:Value)) hF) (trivial)) (condF h1 (finR (runL_ret hI0 (condT h4 (condF h8 (condT h9 (rfl))))) rfl))) (fun h9:(bif (bif (bif ((q4_1 Qd code down).2.2==0) then decide (((q4_1 Qd code down).1.Ua.length:Int)>0) else false) then true else ((q4_1 Qd code down).2.2==3)) then true else ((q4_1 Qd code down).2.2==1))=false=>(fun _:¬ (q4_1 Qd code down).2.2=1=>(fun _:¬ (q4_1 Qd code down).2.2=3=>ai ((by unfold i64ok; omega:i64ok (down+1))) (Exists.intro (p:=fun j:Nat×Int=>(fun (down_:Int)=>(((.int .i64 (down+1):Value)=.int .i64 down_)∧(Imp (.l 2 Qh (F17 Qd code).1.Qb) (.l 2 Qh (F17 Qd code).1.Qb))∧(Imp (.l 2 Qj (F17 Qd code).1.Qa) (.l 2 Qj (F17 Qd code).1.Qa))∧((.int .i64 (F17 Qd code).2.Box:Value)=.int .i64 (F17 Qd code).2.Box)∧(Imp (.l 1 eInt (F17 Qd code).2.Ua) (.l 1 eInt (F17 Qd code).2.Ua))∧((runL (F4_s0 Qd code) j.1 j.2=(q4_3 Qd code)∧Int.toNat (((F17 Qd code).1.Qb.length:Int)-down_)<j.1∧(-1:Int)≤down_)∧j.1<i0.1))) j.2) (m0,(down+1)) (ai (rfl) (ai (ir) (ai (ir) (ai (rfl) (ai (ir) (ai (ai (runL_next hI0 (condT h4 (condF h8 (condF h9 (rfl))))) (ai ((by omega:Int.toNat (((F17 Qd code).1.Qb.length:Int)-(down+1))<m0)) ((by omega:(-1:Int)≤(down+1))))) hl0)))))))) (beqF (orF2 (orF1 h9)))) (beqF (orF2 h9)))) (bneF (orF1 (orF1 (orF1 (orF1 (orF1 h8))))))) (bneF (orF2 (orF1 (orF1 (orF1 (orF1 h8))))))) (beqF (orF2 (orF1 (orF1 h8))))) (beqF (orF2 (orF1 h8)))) (of_decide_eq_false (orF2 h8))))))))))))))))) (of_decide_eq_true h4)) (fun h4:(decide (down<((F17 Qd code).1.Qb.length:Int)))=false=>(fun _:¬ down<((F17 Qd code).1.Qb.length:Int)=>(fun hD0_10:(q4_3 Qd code)=Lp.done down=>(fun hF:(true:Bool)=(F4 Qd code)=>ai (congrArg (fun r:Bool=>(.bool r:Value)) hF) (trivial)) (condF h1 (finD hD0_10 (rfl)))) (runL_done hI0 (condF h4 (rfl)))) (of_decide_eq_false h4))) (i0.1-1) i0.2 (hd1 hi0.1 hi0.2.1) (hd2 hi0.2.1) (hd3 hi0.2.1) hi0.2.2)) ((by exact reached_7 _ _)))))) (of_decide_eq_false h1))) (by kernel_rfl)
theorem walk_go2 {n:Qe} {dn:List Int} {p0:Qp} {c:Int} {q:Qp} (hc:(F55 n dn q).2=c) (hc0:c≠0):∀ (m:Nat) (i:Int) (p:Qp),Run n dn m p q→i+(m:Int)<200→∀ fuel,m<fuel →
  runL (F18_s0 n dn p0) fuel (i,p.Box,p.Ua)=.ret (q,i+(m:Int),bif (c==3) then 0 else c)
 | m,i,p,hr,hi,0,hf=>absurd hf (Nat.not_lt_zero _)
 | 0,i,p,hr,hi,fuel+1,hf=>by
  have hr:p=q:=hr
  subst hr
  have h1:decide (i<200)=true:=decide_eq_true (by omega)
  have h2:(c==0)=false:=by rw [beqD]; exact decide_eq_false hc0
  simp only [runL,F18_s0,h1,cond_true]
  have hc':(F55 n dn (⟨p.Box,p.Ua⟩:Qp)).2=c:=hc
  rw [hc',h2,cond_false]
  cases c==3 <;> simp
 | m+1,i,p,⟨x,hx,hr⟩,hi,fuel+1,hf=>by
  have h1:decide (i<200)=true:=decide_eq_true (by omega)
  have hx':F55 n dn (⟨p.Box,p.Ua⟩:Qp)=(x,0):=hx
  simp only [runL,F18_s0,h1,cond_true,hx']
  have:=walk_go2 (p0:=p0) hc hc0 m (i+1) x hr (by omega) fuel (by omega)
  simp only [beq_self_eq_true,cond_true]
  rw [this]
  congr 3
  omega
theorem labWalk_of {n:Qe} {dn:List Int} {p q:Qp} {m:Nat} {c:Int} (hn:Qv n) (hp:packB n p=true) (hr:Run n dn m p q) (hm:m<200) (hc:(F55 n dn q).2=c) (hc0:c≠0):F18 n dn p=(q,(m:Int),bif (c==3) then 0 else c):=by
 unfold F18
 rw [netB_ok.2 hn,hp]
 simp only [Bool.not_true,cond_false]
 have:=walk_go2 (p0:=p) hc hc0 m 0 p hr (by omega) (Int.toNat (200-0)+1) (by omega)
 rw [this,Int.zero_add]; rfl
theorem never_one {n:Qe} (h:LI n) (d:Int) (p:Qp) (h7:p.Ua.length≤7):∃ q m c,F18 n [d] p=(q,m,c)∧m≤112∧((c=0∧q.Ua=[])∨c=2∨c=4∨c=5):=by
 cases hp:packB n p
 ·refine ⟨(⟨0,[]⟩:Qp),0,2,?_,by decide,.inr (.inl rfl)⟩
  unfold F18
  rw [netB_ok.2 h.net,hp]
  rfl
 ·obtain ⟨p1,p2,p3⟩:=packB_T n p hp
  obtain ⟨k,q,c,k1,k2,k3,k4⟩:=go_all h d p.Ua.length p.Ua rfl h7 p.Box p1 (by omega)
  have hr:Run n [d] k p q:=k2
  have:=labWalk_of h.net hp hr (by omega) (c:=c) (by rw [k3]) (by omega)
  refine ⟨q,k,_,this,by omega,?_⟩
  rcases k4 with ⟨rfl,k4⟩ | rfl | rfl
  ·exact .inl ⟨rfl,k4⟩
  ·exact .inr (.inr (.inl rfl))
  ·exact .inr (.inr (.inr rfl))
theorem plain_4 (Qd:SV) (code:List Int):F4 Qd code=true:=by
 unfold F4
 cases decide ((code.length:Int)>1048576) with
 | true=>rfl
 | false =>
  rw [cond_false]
  obtain ⟨hL,h7⟩:=reached_ok Qd code
  generalize hD:F17 Qd code=D at *
  obtain ⟨n,p⟩:=D
  simp only at hL h7 ⊢
  have hr:=runL_rule (step:=F4_s0 Qd code) (fun (k:Nat) (_:Unit)=>(k:Int)-1) (n.Qb.length+1) (fun _ _=>True) (fun _=>False)
   (fun k _ hk _=>.inl ⟨(),by
    have e2:decide ((k:Int)-1<(n.Qb.length:Int))=true:=decide_eq_true (by omega)
    obtain ⟨q,m,c,w1,w2,w3⟩:=never_one hL ((k:Int)-1) p h7
    have w4:=(labWalk_eq n [(k:Int)-1] p).1
    rw [w1] at w4
    have e3:decide (m>136)=false:=decide_eq_false (by omega)
    simp only [F4_s0,hD,e2,cond_true,w1,← w4,bne_self_eq_false,pack_same,Bool.not_true,cond_false,e3]
    rcases w3 with ⟨rfl,w3⟩ | rfl | rfl | rfl
    ·rw [w3]
     simp
    ·simp
    ·simp
    ·simp,trivial⟩)
   (fun _ _=>by
    have e2:decide (((n.Qb.length+1:Nat):Int)-1<(n.Qb.length:Int))=false:=decide_eq_false (by omega)
    simp only [F4_s0,hD,e2,cond_false]) (n.Qb.length+1) 0 () (by omega) trivial (Int.toNat ((n.Qb.length:Int)-(-1))+1) (by omega)
  rcases hr with ⟨_,hr,_⟩ | ⟨_,_,hr⟩
  ·have hr':runL (F4_s0 Qd code) (Int.toNat ((n.Qb.length:Int)-(-1))+1) (-1)=_:=hr
   rw [hr']; rfl
  ·exact hr.elim
end Go.Proofs.Ytmiolofjlfnohaa
namespace Go.Proofs.Ytmiolofjlfnohaa
open Go.RowKit Go.ChangeShapes Go.WideShapes Go.ChangeAt
set_option maxRecDepth 100000
set_option linter.unusedVariables false
theorem op_5:OpD Try.prog 5 eByte:=OpD.byte Try.underlying5
theorem op_22:OpD Try.prog 22 (fun xs:List Int=>[.l 1 eByte xs]):=OpD.slice 1 Try.underlying22 op_5 (fun _=>rfl) (by kernel_rfl) (by decide)
theorem own:ownKnob Try.prog.godebug=none:=by kernel_rfl
theorem cfA:Try.prog.inPlace 4=Rows.fnLabNeverRow.inPlace:=by kernel_rfl
theorem cfB:Try.prog.unfollowed 4=Rows.fnLabNeverRow.unfollowed:=by kernel_rfl
theorem cfC:Try.prog.recurses 4=Rows.fnLabNeverRow.recurses:=by kernel_rfl
theorem cfD:Try.prog.varsNamed 4=Rows.fnLabNeverRow.named:=by kernel_rfl
set_option maxRecDepth 100000 in
theorem lifted_FnLabNever (os:Os) (started:os.Started) (H:Type) (enc:TypeId×Value→H) :
  ReturnsInHanded {} Try.checked os 4 .any (Rows.fnLabNeverSpec.pre6 enc Try.prog Try.f4 Rows.fnLabNeverRow.domain false) (Rows.fnLabNeverSpec.post enc Try.prog Try.f4 false true false false):=by
 refine returnsInHanded_of_change (C:=Try.checked) own started (by kernel_rfl) Try.func4
  (ChangeSpec.witness6 (enc:=enc) (C:=Try.checked) false ⟨#[],#[.slice none 0 0],[]⟩ 8 (by kernel_rfl) (by kernel_rfl) (by kernel_rfl) (by kernel_rfl)) ?_
 intro W base args ds gs before hval0 hW hcnd _
 have hval:∀ (j:Nat) t v,Try.f4.params[j]?=some t→args[j]?=some v→Value.okWide Try.prog W .any base t v:=hval0
 have hW':=hW
 obtain ⟨p,q,hA0,hV,rfl,hfz,hnd⟩:=hW
 have hA:DataW.TrodAll enc Try.prog W 0 (fun _=>true) true Try.f4.params.toList args.toList ds p:=hA0
 rw [Try.params4] at hA hval
 obtain ⟨v0,vs0,d0,ds0,p0,q0,hargs,rfl,rfl,h0,r0⟩:=trodAll_cons hA
 obtain ⟨rfl,rfl,rfl⟩:=trodAll_nil r0
 obtain rfl:args=#[v0]:=by cases args; simp_all
 obtain ⟨rfl,rfl⟩:=trodVars_none hV
 obtain ⟨fu0,t0⟩:=h0
 obtain ⟨a0,n0,c0,rfl⟩:=okWide_slice Try.underlying22 (hval 0 22 v0 rfl rfl)
 obtain ⟨x0,u0,us0,e0,o0,-⟩:=op_22 H enc W fu0 _ _ t0
 obtain rfl:u0=_:=(List.cons.inj e0).1.symm
 have hG:GP W:=⟨fun b hb=>by simp [GBe] at hb,fun b hb=>by simp [GBi] at hb,fun q hq=>by simp [GBt] at hq⟩
 have hc:=law_call (W:=W) (vs:=[.slice a0 n0 c0]) (ok4 (⟨a0,n0,c0⟩:SV) x0) trivial (x:=.bool (F4 (⟨a0,n0,c0⟩:SV) x0)) hG ⟨_,_,[],[],rfl,⟨⟨rfl,o0⟩,rfl⟩,⟨rfl,rfl⟩,rfl,List.nodup_nil⟩ rfl rfl
 rw [plain_4 (⟨a0,n0,c0⟩:SV) x0] at hc
 refine hc.mono fun e W' ⟨he,hb⟩=>?_
 subst he
 exact ⟨_,rfl,law_post rfl hW' hb rfl Try.underlying4 rfl rfl rfl laid (by decide +kernel)⟩
theorem proved_FnLabNever:Rows.FnLabNeverSaid :=
 OpenClaim.holds_of_wide 4 Try.f4 rfl rfl rfl rfl rfl rfl rfl ⟨rfl,rfl,rfl,rfl,rfl⟩ rfl rfl rfl rfl rfl (by kernel_rfl) Try.func4 (by
   show joinedFacts Try.prog 4 Try.f4 Rows.fnLabNeverSpec Rows.fnLabNeverRow=true
   simp only [joinedFacts,laid,cfMaps,cfKeys,cfLifts,cfHeard,cfEnter,cfMake,cfA,cfB,cfC,cfD,Bool.and_true]
   kernel_rfl)
  (of_decide_eq_true (by kernel_rfl)) (by unfold Func.isWrapper; first | (rw [if_pos (by decide +kernel)]; kernel_rfl) | (rw [if_neg (by decide +kernel)]; exact ⟨rfl,rfl⟩))
  (fun os started H enc _=>lifted_FnLabNever os started H enc)
#print axioms proved_FnLabNever
end Go.Proofs.Ytmiolofjlfnohaa
