/- A part of the proof of FnLabStep. Texts put together: PW3, VW2, PW4, VL1, PL1, PL2, VL2, PL3, VL3, PL4, VG0, PG1, VG, PG2, VGA, PG3, PDA, VD0, PD0, VD1. -/
import Derived.Test.YtmiolofjlfnohaaRows
import Derived.Test.YtmiolofjlfnohaaZC8C
namespace Go.Proofs.Ytmiolofjlfnohaa
open Go.RowKit
set_option maxRecDepth 100000
set_option linter.unusedVariables false
set_option linter.unusedSimpArgs false
theorem countP_two {α:Type} (p q r:α→Bool) (hp:∀ x,p x=true→r x=true∧q x=false) (hq:∀ x,q x=true→r x=true):∀ l:List α,l.countP p+l.countP q≤l.countP r
 | []=>by simp
 | x :: l=>by
  have ih:=countP_two p q r hp hq l
  simp only [List.countP_cons]
  cases h1:p x <;> cases h2:q x <;> cases h3:r x <;> simp_all <;> omega
theorem chain_le (len:Nat) (f:Nat→Int) (hpred:∀ k,k<len→0<f k→∃ j,j<len∧f j=f k-1):∀ (d:Nat) (k:Nat),k<len→f k=(d:Int)→d+1≤(List.range len).countP (fun k=>decide (0≤f k)&&decide (f k<(d:Int)+1))
 | 0,k,hk,e=>by
  have:0<(List.range len).countP (fun k=>decide (0≤f k)&&decide (f k<((0:Nat):Int)+1)):=List.countP_pos_iff.2 ⟨k,List.mem_range.2 hk,by simp [e]⟩
  omega
 | d+1,k,hk,e=>by
  obtain ⟨j,hj,ej⟩:=hpred k hk (by omega)
  have ih:=chain_le len f hpred d j hj (by omega)
  have h1:0<(List.range len).countP (fun k=>decide (f k=(d:Int)+1)):=List.countP_pos_iff.2 ⟨k,List.mem_range.2 hk,by simp [e]⟩
  have h2:=countP_two (fun k=>decide (0≤f k)&&decide (f k<(d:Int)+1)) (fun k=>decide (f k=(d:Int)+1)) (fun k=>decide (0≤f k)&&decide (f k<((d+1:Nat):Int)+1))
   (fun x hx=>by
    simp only [Bool.and_eq_true,decide_eq_true_eq,decide_eq_false_iff_not] at hx ⊢
    omega) (fun x hx=>by
    simp only [Bool.and_eq_true,decide_eq_true_eq] at hx ⊢
    omega) (List.range len)
  omega
theorem BI.lt {n:Qe} {b w:Int} {f:Nat→Int} (h:BI n b w f) {k:Nat} (hk:k<n.Qa.length):f k<(n.Qa.length:Int):=by
 rcases Int.lt_or_le (f k) 0 with h0 | h0
 ·omega
 ·have h1:=chain_le n.Qa.length f (fun k hk h0=>by
   obtain ⟨j,h1,_,h2⟩:=h.pred k hk h0
   exact ⟨j,h1,h2⟩) (Int.toNat (f k)) k hk (by omega)
  have h2:=List.countP_le_length (p:=fun k'=>decide (0≤f k')&&decide (f k'<((Int.toNat (f k):Nat):Int)+1)) (l:=List.range n.Qa.length)
  rw [List.length_range] at h2
  omega
structure Rd (n:Qe) (b w:Int) (f:Nat→Int) (d:Int):Prop where
 bi:BI n b w f
 d0:0≤d
 top:∀ k,k<n.Qa.length→f k≤d
 fr:∀ j:Nat,j<n.Qa.length→0≤f j→f j<d→∀ k:Nat,k<n.Qa.length→adj n w j k→0≤f k∧f k≤f j+1
structure Ri (n:Qe) (b w:Int) (f:Nat→Int) (d:Int) (i:Nat):Prop where
 bi:BI n b w f
 d0:0≤d
 top:∀ k,k<n.Qa.length→f k≤d+1
 fr:∀ j:Nat,j<n.Qa.length→0≤f j→f j<d→∀ k:Nat,k<n.Qa.length→adj n w j k→0≤f k∧f k≤f j+1
 part:∀ m:Nat,m<i→(m:Int)≠w→(f (Int.toNat (n.Qb.getD m default).A)=d→0≤f (Int.toNat (n.Qb.getD m default).B))∧(f (Int.toNat (n.Qb.getD m default).B)=d→0≤f (Int.toNat (n.Qb.getD m default).A))
theorem Rd.start {n:Qe} {b w:Int} {f:Nat→Int} {d:Int} (h:Rd n b w f d):Ri n b w f d 0 :=
 ⟨h.bi,h.d0,fun k hk=>by have:=h.top k hk; omega,h.fr,fun m hm=>by omega⟩
theorem Ri.done {n:Qe} (hf:FrameOk n) {b w:Int} {f:Nat→Int} {d:Int} (h:Ri n b w f d n.Qb.length):Rd n b w f (d+1) :=
 ⟨h.bi,by have:=h.d0; omega,h.top,fun j hj h0 hd k hk ha=>by
  rcases Int.lt_or_le (f j) d with hlt | hge
  ·exact h.fr j hj h0 hlt k hk ha
  ·have ej:f j=d:=by omega
   obtain ⟨m1,m2⟩:=linkOf_some ha.1
   have hw:((Qt n j k).toNat:Int)≠w:=fun e=>ha.2 (by rw [← e]; have:=ha.1; omega)
   have hp:=h.part _ m1 hw
   have hab:=hf.ab _ m1
   simp only [isLink,Bool.or_eq_true,Bool.and_eq_true,decide_eq_true_eq] at m2
   generalize n.Qb.getD (Qt n j k).toNat default=l at *
   have ht:=h.top k hk
   refine ⟨?_,by omega⟩
   rcases m2 with ⟨e1,e2⟩ | ⟨e1,e2⟩
   ·rw [e1,e2,nn,nn] at hp
    exact hp.1 ej
   ·rw [e1,e2,nn,nn] at hp
    exact hp.2 ej⟩
theorem Ri.set {n:Qe} {b w:Int} {f g:Nat→Int} {d:Int} {i j v:Nat} (h:Ri n b w f d i) (hj:j<n.Qa.length) (hv:v<n.Qa.length) (hfj:f j=d) (hfv:f v<0) (ha:adj n w j v) (hg:g v=d+1) (hgn:∀ k,k≠v→g k=f k):Ri n b w g d i:=by
 have hd:=h.d0
 have hvis:∀ k,0≤f k→g k=f k:=fun k hk=>hgn k fun e=>by rw [e] at hk; omega
 have hdiff:∀ k,g k=d→f k=d:=fun k hk=>by
  by_cases e:k=v
  ·rw [e,hg] at hk; omega
  ·rw [hgn k e] at hk; exact hk
 have hge:∀ k,0≤f k→0≤g k:=fun k hk=>by rw [hvis k hk]; exact hk
 refine ⟨⟨?_,fun k hk=>?_,fun k hk h0=>?_,fun k hk h0=>?_⟩,hd,fun k hk=>?_,fun j' hj' h0 hlt k hk hadj=>?_,fun m hm hw=>⟨fun e=>hge _ ((h.part m hm hw).1 (hdiff _ e)),fun e=>hge _ ((h.part m hm hw).2 (hdiff _ e))⟩⟩
 ·rw [hvis _ (by rw [h.bi.b0]; omega)]; exact h.bi.b0
 ·by_cases e:k=v
  ·rw [e,hg]; omega
  ·rw [hgn k e]; exact h.bi.low k hk
 ·by_cases e:k=v
  ·subst e
   exact ⟨j,hj,ha,by rw [hvis j (by omega),hg]; omega⟩
  ·rw [hgn k e] at h0 ⊢
   obtain ⟨j2,h1,h2,h3⟩:=h.bi.pred k hk h0
   exact ⟨j2,h1,h2,by rw [hvis j2 (by omega)]; exact h3⟩
 ·by_cases e:k=v
  ·rw [e,hg] at h0; omega
  ·rw [hgn k e] at h0; exact h.bi.zero k hk h0
 ·by_cases e:k=v
  ·rw [e,hg]; omega
  ·rw [hgn k e]; exact h.top k hk
 ·have hjv:j'≠v:=fun e=>by rw [e,hg] at hlt; omega
  rw [hgn j' hjv] at h0 hlt ⊢
  have:=h.fr j' hj' h0 hlt k hk hadj
  rw [hvis k this.1]; exact this
theorem Ri.next {n:Qe} {b w:Int} {f:Nat→Int} {d:Int} {i:Nat} (h:Ri n b w f d i) (hp:(i:Int)≠w→(f (Int.toNat (n.Qb.getD i default).A)=d→0≤f (Int.toNat (n.Qb.getD i default).B))∧(f (Int.toNat (n.Qb.getD i default).B)=d→0≤f (Int.toNat (n.Qb.getD i default).A))):Ri n b w f d (i+1) :=
 ⟨h.bi,h.d0,h.top,h.fr,fun m hm hw=>by
  rcases Nat.lt_succ_iff_lt_or_eq.1 hm with hm | rfl
  ·exact h.part m hm hw
  ·exact hp hw⟩
theorem Rd.dist {n:Qe} {b w:Int} {xs:List Int} (hl:xs.length=n.Qa.length) (h:Rd n b w (fun k=>xs.getD k default) n.Qa.length):IsDist n b w xs :=
 ⟨hl,h.bi.b0,h.bi.low,h.bi.pred,h.bi.zero,fun j k hj hk ha h0=>h.fr j hj h0 (h.bi.lt hj) k hk ha⟩
theorem specFar_fill (n:Qe) (b w:Int):F80_j0 n b w=.done (List.replicate n.Qa.length (-1)):=by
 unfold F80_j0
 have h:=runL_rule (step:=F80_s0 n b w) (fun (k:Nat) (s:List Int)=>((k:Int),s)) n.Qa.length (fun k s=>s.length=n.Qa.length∧FillI s k) (fun _=>False)
  (fun k s hk ⟨h1,h2⟩=>.inl ⟨s.set k (-1),by simp only [F80_s0,nn,h1,ltD hk,cond_true]; rfl,by simp [h1],by have:=h2.next (by omega) (by omega); rwa [nn] at this⟩)
  (fun s ⟨h1,_⟩=>by simp [F80_s0,h1]) n.Qa.length 0 (List.replicate n.Qa.length 0) (by omega) ⟨by simp,FillI.zero _⟩ (n.Qa.length+1) (Nat.lt_succ_self _)
 rcases h with ⟨s,h,h1,h2⟩ | ⟨_,_,h⟩
 ·have h:runL (F80_s0 n b w) (n.Qa.length+1) (0,List.replicate n.Qa.length 0)=.done ((n.Qa.length:Int),s):=h
  simp only [nn,List.length_replicate,n0,h,Lp.fin]
  rw [h2.done h1 (by omega)]
 ·exact h.elim
theorem Ri.half {n:Qe} {b w:Int} {xs:List Int} {d:Int} {i:Nat} (hl:xs.length=n.Qa.length) (h:Ri n b w (fun k=>xs.getD k default) d i) {x y:Int} (hx0:0≤x) (hx:x<(n.Qa.length:Int)) (hy0:0≤y) (hy:y<(n.Qa.length:Int)) (ha:adj n w x y) :
  ∃ ys,(bif (bif ((xs.getD x.toNat default)==d) then decide ((xs.getD y.toNat default)<0) else false) then (xs.set y.toNat (d+1)) else xs)=ys∧ys.length=n.Qa.length∧Ri n b w (fun k=>ys.getD k default) d i∧(ys.getD x.toNat default=d→0≤ys.getD y.toNat default)∧(∀ k,0≤xs.getD k default→ys.getD k default=xs.getD k default):=by
 by_cases h1:xs.getD x.toNat default=d
 ·by_cases h2:xs.getD y.toNat default<0
  ·refine ⟨xs.set y.toNat (d+1),by rw [h1]; simp only [beq_self_eq_true,cond_true,decide_eq_true h2],by simp [hl],?_,fun _=>?_,fun k hk=>getD_set_ne _ _ _ _ fun e=>by rw [e] at hk; omega⟩
   ·refine h.set (j:=Int.toNat x) (v:=Int.toNat y) (by omega) (by omega) h1 h2 (by rw [Int.toNat_of_nonneg hx0,Int.toNat_of_nonneg hy0]; exact ha) (getD_set_eq _ _ _ (by omega)) fun k hk=>getD_set_ne _ _ _ _ hk
   ·rw [getD_set_eq _ _ _ (by omega)]
    have:=h.d0; omega
  ·exact ⟨xs,by rw [h1]; simp only [beq_self_eq_true,cond_true,decide_eq_false h2,cond_false],hl,h,fun _=>by omega,fun _ _=>rfl⟩
 ·refine ⟨xs,?_,hl,h,fun e=>absurd e h1,fun _ _=>rfl⟩
  have:(xs.getD x.toNat default==d)=false:=by rw [beqD]; exact decide_eq_false h1
  rw [this]; rfl
theorem specFar_round {n:Qe} (hf:FrameOk n) (b w:Int) (f0:List Int) (d:Int) (xs:List Int) (hl:xs.length=n.Qa.length) (h:Rd n b w (fun k=>xs.getD k default) d) :
  ∃ ys,runL (F80_s2 n b w f0 d xs) (((n.Qb.length:Int)-0).toNat+1) (0,xs)=.done ((n.Qb.length:Int),ys)∧ys.length=n.Qa.length∧Rd n b w (fun k=>ys.getD k default) (d+1):=by
 have hh:=runL_rule (step:=F80_s2 n b w f0 d xs) (fun (k:Nat) (s:List Int)=>((k:Int),s)) n.Qb.length
  (fun k s=>s.length=n.Qa.length∧Ri n b w (fun k=>s.getD k default) d k) (fun _=>False)
  (fun k s hk ⟨g1,g2⟩=>by
   have hab:=hf.ab k hk
   by_cases hw:(k:Int)=w
   ·refine .inl ⟨s,?_,g1,g2.next fun e=>absurd hw e⟩
    have:((k:Int)==w)=true:=by simp [hw]
    simp only [F80_s2,ltD hk,cond_true,this]
    rfl
   ·have hlk:∀ x y:Int,isLink n x y k=true→adj n w x y:=fun x y hi=>by
     have e:=linkOf_of hf hk hi
     exact ⟨by rw [e]; omega,by rw [e]; exact hw⟩
    have hA:adj n w (n.Qb.getD k default).A (n.Qb.getD k default).B:=hlk _ _ (by simp [isLink])
    obtain ⟨ys,e1,l1,i1,p1,k1⟩:=g2.half g1 (by omega) (by omega) (by omega) (by omega) hA
    obtain ⟨zs,e2,l2,i2,p2,k2⟩:=i1.half l1 (by omega) (by omega) (by omega) (by omega) (adj_comm hA)
    have hj9:F80_j9 n b w f0 d xs (k:Int) s=.done ys:=by
     rw [← e1]
     simp only [F80_j9,nn]
     cases (bif (s.getD (Int.toNat (n.Qb.getD k default).A) default==d) then decide (s.getD (Int.toNat (n.Qb.getD k default).B) default<0) else false) <;> rfl
    refine .inl ⟨zs,?_,l2,i2.next fun _=>⟨fun e=>?_,fun e=>p2 e⟩⟩
    ·have:((k:Int)==w)=false:=by simp [hw]
     simp only [F80_s2,ltD hk,cond_true,this,cond_false,hj9,Lp.fin,nn]
     rw [← e2]
     cases (bif (ys.getD (Int.toNat (n.Qb.getD k default).B) default==d) then decide (ys.getD (Int.toNat (n.Qb.getD k default).A) default<0) else false) <;> rfl
    ·
     have hA':ys.getD (Int.toNat (n.Qb.getD k default).A) default=d:=by
      by_cases hneg:ys.getD (Int.toNat (n.Qb.getD k default).A) default<0
      ·exfalso
       have h3:zs.getD (Int.toNat (n.Qb.getD k default).A) default=d:=e
       have h4:=e2
       by_cases hB:ys.getD (Int.toNat (n.Qb.getD k default).B) default=d
       ·simp only [hB,beq_self_eq_true,cond_true,decide_eq_true hneg] at h4
        rw [← h4,getD_set_eq _ _ _ (by omega)] at h3
        omega
       ·have:(ys.getD (Int.toNat (n.Qb.getD k default).B) default==d)=false:=by rw [beqD]; exact decide_eq_false hB
        rw [this] at h4
        simp only [cond_false] at h4
        rw [← h4] at h3
        have:=g2.d0
        omega
      ·rw [← k2 _ (by omega)]; exact e
     have:=p1 hA'
     show 0≤zs.getD _ default
     rw [k2 _ this]; exact this)
  (fun s _=>by simp [F80_s2]) n.Qb.length 0 xs (by omega) ⟨hl,h.start⟩ (n.Qb.length+1) (Nat.lt_succ_self _)
 rcases hh with ⟨ys,hh,h1,h2⟩ | ⟨_,_,hh⟩
 ·refine ⟨ys,?_,h1,h2.done hf⟩
  rw [n0]; exact hh
 ·exact hh.elim
theorem specFar_dist {n:Qe} (hf:FrameOk n) {b:Int} (h0:0≤b) (h1:b<(n.Qa.length:Int)) (w:Int):IsDist n b w (F80 n b w):=by
 unfold F80
 rw [specFar_fill]
 simp only [Lp.fin]
 have hl:Int.toNat b<(List.replicate n.Qa.length (-1:Int)).length:=by simp; omega
 have hO:Outer n b w (fun k=>((List.replicate n.Qa.length (-1)).set b.toNat 0).getD k default) [b]:=Outer.init h0 h1 _ (getD_set_eq _ _ _ hl) fun k hk e=>by
  show ((List.replicate n.Qa.length (-1)).set b.toNat 0).getD k default=-1
  rw [getD_set_ne _ _ _ _ e,rep_get _ _ hk]
 have hX:((List.replicate n.Qa.length (-1)).set b.toNat 0).length=n.Qa.length:=by simp
 have hall:∀ k,k<n.Qa.length→((List.replicate n.Qa.length (-1)).set b.toNat 0).getD k default≤0:=fun k hk=>by
  by_cases e:k=Int.toNat b
  ·rw [e,getD_set_eq _ _ _ hl]; omega
  ·rw [getD_set_ne _ _ _ _ e,rep_get _ _ hk]; omega
 generalize (List.replicate n.Qa.length (-1:Int)).set b.toNat 0=X at hO hX hall
 have hR:Rd n b w (fun k=>X.getD k default) 0:=⟨hO.bi,by omega,hall,fun j hj h1 h2=>by omega⟩
 have hh:=runL_rule (step:=F80_s1 n b w (List.replicate n.Qa.length (-1))) (fun (k:Nat) (s:List Int)=>((k:Int),s)) n.Qa.length
  (fun k s=>s.length=n.Qa.length∧Rd n b w (fun j=>s.getD j default) k) (fun _=>False)
  (fun k s hk ⟨g1,g2⟩=>by
   obtain ⟨ys,e,l1,r1⟩:=specFar_round hf b w (List.replicate n.Qa.length (-1)) k s g1 g2
   refine .inl ⟨ys,?_,l1,r1⟩
   simp only [F80_s1,g1,ltD hk,cond_true,e,Lp.fin]
   rfl)
  (fun s ⟨g1,_⟩=>by simp [F80_s1,g1]) n.Qa.length 0 X (by omega) ⟨hX,hR⟩ (n.Qa.length+1) (Nat.lt_succ_self _)
 rcases hh with ⟨ys,hh,g1,g2⟩ | ⟨_,_,hh⟩
 ·have hh:runL (F80_s1 n b w (List.replicate n.Qa.length (-1))) (n.Qa.length+1) (0,X)=.done ((n.Qa.length:Int),ys):=hh
  rw [hX,n0,hh]
  exact Rd.dist g1 g2
 ·exact hh.elim
theorem IsDist.lt {n:Qe} {b w:Int} {f:List Int} (h:IsDist n b w f) {k:Int} (h0:0≤k) (hk:k<(n.Qa.length:Int)):-1≤f.getD k.toNat default∧f.getD k.toNat default<(n.Qa.length:Int) :=
 ⟨h.low _ (by omega),BI.lt (f:=fun k=>f.getD k default) ⟨h.b0,h.low,h.pred,h.zero⟩ (by omega)⟩
theorem IsDist.pos {n:Qe} {b w:Int} {f:List Int} (h:IsDist n b w f) {k:Int} (h0:0≤k) (hk:k<(n.Qa.length:Int)) (hb:¬ k=b) (hd:0≤f.getD k.toNat default):0<f.getD k.toNat default:=by
 rcases Int.lt_or_le 0 (f.getD k.toNat default) with h1 | h1
 ·exact h1
 ·have:=h.zero k.toNat (by omega) (by omega); omega
theorem IsDist.wr {n:Qe} {b w:Int} {f:List Int} (h:IsDist n b w f) (h8:n.Qa.length≤8) {k:Int} (h0:0≤k) (hk:k<(n.Qa.length:Int)):IntKind.i64.wrap (f.getD k.toNat default-1)=f.getD k.toNat default-1:=by
 have:=h.lt h0 hk
 exact wrap_of (by omega) (by omega)
def nextB (n:Qe) (f:List Int) (w a v:Int):Bool:=bif decide (0≤Qt n a v∧Qt n a v≠w) then (f.getD v.toNat default==IntKind.i64.wrap (f.getD a.toNat default-1)) else false
def nextOf (n:Qe) (f:List Int) (a w:Int):Int:=oix (first (fun k=>nextB n f w a (k:Int)) f.length)
def NoNext (n:Qe) (f:List Int) (w a v:Int):Prop:=∀ k:Nat,(k:Int)<v→nextB n f w a (k:Int)=false
theorem NoNext.zero {n:Qe} {f:List Int} {w a:Int}:NoNext n f w a 0:=fun k hk=>by omega
theorem NoNext.next {n:Qe} {f:List Int} {w a v:Int} (h:NoNext n f w a v) (h0:0≤v) (hc:nextB n f w a v=false):NoNext n f w a (v+1):=fun k hk=>by
 by_cases e:(k:Int)=v
 ·rw [e]; exact hc
 ·exact h k (by omega)
theorem IsDist.next {n:Qe} {b w:Int} {f:List Int} (h:IsDist n b w f) (h8:n.Qa.length≤8) {a:Int} (h0:0≤a) (h1:a<(n.Qa.length:Int)) (hd:0<f.getD a.toNat default):∃ k:Nat,k<n.Qa.length∧nextB n f w a (k:Int)=true:=by
 obtain ⟨j,hj,ha,e⟩:=h.pred a.toNat (by omega) hd
 refine ⟨j,hj,?_⟩
 have ha:=adj_comm ha
 rw [Int.toNat_of_nonneg h0] at ha
 unfold nextB
 have ha2:0≤Qt n a j∧Qt n a j≠w:=ha
 rw [decide_eq_true ha2,cond_true,nn,h.wr h8 h0 h1,e]
 exact beq_self_eq_true _
theorem nextB_T {n:Qe} {b w:Int} {f:List Int} (h:IsDist n b w f) (h8:n.Qa.length≤8) {a v:Int} (h0:0≤a) (h1:a<(n.Qa.length:Int)) (hc:nextB n f w a v=true):f.getD v.toNat default=f.getD a.toNat default-1:=by
 unfold nextB at hc
 rw [h.wr h8 h0 h1] at hc
 exact eq_of_beq (andT2 hc)
theorem nextOf_ok {n:Qe} {b w:Int} {f:List Int} (h:IsDist n b w f) (h8:n.Qa.length≤8) {a:Int} (h0:0≤a) (h1:a<(n.Qa.length:Int)) (hd:0<f.getD a.toNat default):0≤nextOf n f a w∧nextOf n f a w<(n.Qa.length:Int)∧f.getD (nextOf n f a w).toNat default=f.getD a.toNat default-1∧nextB n f w a (nextOf n f a w)=true∧∀ k:Nat,(k:Int)<nextOf n f a w→nextB n f w a (k:Int)=false:=by
 unfold nextOf
 cases e:first (fun k=>nextB n f w a (k:Int)) f.length with
 | none =>
  obtain ⟨k,hk,e2⟩:=h.next h8 h0 h1 hd
  have:=first_none.1 e k (by rw [h.ln]; exact hk)
  simp only [e2] at this
  cases this
 | some k =>
  obtain ⟨k1,k2,k3⟩:=first_some.1 e
  simp only [oix]
  exact ⟨by omega,by rw [← h.ln]; omega,nextB_T h h8 h0 h1 k2,k2,fun j hj=>k3 j (by omega)⟩
theorem far_isDist (n:Qe) (b w:Int) (hf:FrameOk n) (h0:0≤b) (h1:b<(n.Qa.length:Int)):IsDist n b w (F80 n b w):=specFar_dist hf h0 h1 w
theorem far_len (n:Qe) (b w:Int) (hf:FrameOk n) (h0:0≤b) (h1:b<(n.Qa.length:Int)):(F80 n b w).length=n.Qa.length:=(specFar_dist hf h0 h1 w).ln
def F81_s0 (n:Qe) (far:List Int) (at':Int) (Qs:Int):Int→Lp Int Int:=fun k =>
 bif (decide (k<(far.length:Int))) then (bif (bif (bif decide ((Qt n at' k)≥0) then ((Qt n at' k) != Qs) else false) then ((far.getD k.toNat default)==(IntKind.i64.wrap ((far.getD at'.toNat default)-1))) else false) then (.ret k) else (.next (k+1))) else (.done k)
def F81 (n:Qe) (far:List Int) (at':Int) (Qs:Int):Int :=
 (runL (F81_s0 n far at' Qs) (((far.length:Int)-0).toNat+1) 0).fin (fun r=>r) (fun k=>(-1))
def S81 (R:Int) (n:Qe) (far:List Int) (at':Int) (Qs:Int):Spec:=⟨[.r (.g (Qf n)),.r (.c (.l 1 eInt far)),.r (.c (.v (vI at'))),.r (.c (.v (vI Qs)))],.v (vI R),0≤at'∧at'<(far.length:Int)⟩
theorem ok81 (n:Qe) (far:List Int) (at':Int) (Qs:Int):(S81 (F81 n far at' Qs) n far at' Qs).ok Try.prog 81 :=
 fnG_ok mixed (fn:=Try.f81) (ct:=.seqk [(1,0)] (.no) (.seq (.seqk [(1,0),(4,0),(4,1)] (.no) (.blk (.loop (ι:=Nat×Int) (fun i=>(fun (k:Int)=>(⟨[(1,some (.h 0 0)),(2,some (.v (vI at'))),(3,some (.v (vI Qs))),(4,some (.p 1 0)),(9,some (.v (vI k)))],[(0,some (.shr none (.l 1 eInt far))),(1,some (.box 26 [.h 2 0,.h 3 0])),(2,some (.shr none (.l 2 Qh n.Qb))),(3,some (.shr none (.l 2 Qj n.Qa)))],4⟩:St)) i.2) (fun i=>runL (F81_s0 n far at' Qs) i.1 i.2=(runL (F81_s0 n far at' Qs) (((far.length:Int)-0).toNat+1) 0)∧(fun (k:Int)=>(Int.toNat ((far.length:Int)-k)<i.1∧(0:Int)≤k)) i.2) (fun i=>i.1) ((((far.length:Int)-0).toNat+1),0) (fun i=>(fun (k:Int)=>(.seq (.seq (.no) (.cond (.no) (.no))) (.seq (.blk (.seq (.reg [(3,.call 97 (S97 (Qt n at' k) n at' k) (oa97 n at' k) none)]) (.seq (.no) (.cond (.seq (.no) (.no)) (.no))))) (.reg [(1,.bnd)])))) i.2)))) (.seq (.no) (.no)))) Try.func81 (fun (hp:0≤at'∧at'<(far.length:Int))=>(fun (hpre0:0≤at') (hpre1:at'<(far.length:Int))=>fun (_:far.length≤9223372036854775807)=>fun (_:far.length≤9223372036854775807)=>fun (_:n.Qb.length≤9223372036854775807)=>fun (_:n.Qa.length≤9223372036854775807)=>ai (ai (rfl) (ai (rfl) (ai (rfl) (ai (ir) (ai (ir) (ai (ir) ((ai (rfl:runL (F81_s0 n far at' Qs) (((far.length:Int)-0).toNat+1) 0=(runL (F81_s0 n far at' Qs) (((far.length:Int)-0).toNat+1) 0)) (ai ((Nat.lt_succ_self _:Int.toNat ((far.length:Int)-0)<(((far.length:Int)-0).toNat+1))) ((by omega:(0:Int)≤0)))))))))):((.int .i64 at':Value)=.int .i64 at')∧((.int .i64 Qs:Value)=.int .i64 Qs)∧((.int .i64 0:Value)=.int .i64 0)∧(Imp (.l 1 eInt far) (.l 1 eInt far))∧(Imp (.l 2 Qh n.Qb) (.l 2 Qh n.Qb))∧(Imp (.l 2 Qj n.Qa) (.l 2 Qj n.Qa))∧(runL (F81_s0 n far at' Qs) (((far.length:Int)-0).toNat+1) 0=(runL (F81_s0 n far at' Qs) (((far.length:Int)-0).toNat+1) 0)∧Int.toNat ((far.length:Int)-0)<(((far.length:Int)-0).toNat+1)∧(0:Int)≤0)) (fun (i0:Nat×Int) (hi0:runL (F81_s0 n far at' Qs) i0.1 i0.2=(runL (F81_s0 n far at' Qs) (((far.length:Int)-0).toNat+1) 0)∧(fun (k:Int)=>(Int.toNat ((far.length:Int)-k)<i0.1∧(0:Int)≤k)) i0.2)=>(fun (m0:Nat) (k:Int) (hI0:runL (F81_s0 n far at' Qs) (m0+1) k=(runL (F81_s0 n far at' Qs) (((far.length:Int)-0).toNat+1) 0)) (_:Int.toNat ((far.length:Int)-k)<m0+1) (hl0:m0<i0.1) (_:(0:Int)≤k)=>ai (fun h2:(decide (k<(far.length:Int)))=true=>(fun _:k<(far.length:Int)=>ai (trivial) (ai ((Imps.refl (Qf n))) (ai ((Imp.refl (.v (vI at')))) (ai ((Imp.refl (.v (vI k)))) (ai ((fun k3:(bif decide ((Qt n at' k)≥0) then ((Qt n at' k) != Qs) else false)=true=>(fun _:¬ (Qt n at' k)=Qs=>(fun _:(Qt n at' k)≥0=>(by omega:0≤k∧k<(far.length:Int))) (of_decide_eq_true (andT1 k3))) (bneT (andT2 k3)))) (ai ((fun k4:(bif decide ((Qt n at' k)≥0) then ((Qt n at' k) != Qs) else false)=true=>(fun _:¬ (Qt n at' k)=Qs=>(fun _:(Qt n at' k)≥0=>(by omega:0≤at'∧at'<(far.length:Int))) (of_decide_eq_true (andT1 k4))) (bneT (andT2 k4)))) (ai (fun h5:(bif (bif decide ((Qt n at' k)≥0) then ((Qt n at' k) != Qs) else false) then ((far.getD k.toNat default)==(IntKind.i64.wrap ((far.getD at'.toNat default)-1))) else false)=true=>(fun _:(far.getD k.toNat default)=(IntKind.i64.wrap ((far.getD at'.toNat default)-1))=>(fun _:¬ (Qt n at' k)=Qs=>(fun _:(Qt n at' k)≥0=>(fun hF:(k:Int)=(F81 n far at' Qs)=>ai (congrArg (fun r:Int=>(.int .i64 r:Value)) hF) (trivial)) (finR (runL_ret hI0 (condT h2 (condT h5 (rfl)))) rfl)) (of_decide_eq_true (andT1 (andT1 h5)))) (bneT (andT2 (andT1 h5)))) (eq_of_beq (andT2 h5))) (fun h5:(bif (bif decide ((Qt n at' k)≥0) then ((Qt n at' k) != Qs) else false) then ((far.getD k.toNat default)==(IntKind.i64.wrap ((far.getD at'.toNat default)-1))) else false)=false=>ai ((by unfold i64ok; omega:i64ok (k+1))) (Exists.intro (p:=fun j:Nat×Int=>(fun (k_:Int)=>(((.int .i64 at':Value)=.int .i64 at')∧((.int .i64 Qs:Value)=.int .i64 Qs)∧((.int .i64 (k+1):Value)=.int .i64 k_)∧(Imp (.l 1 eInt far) (.l 1 eInt far))∧(Imp (.l 2 Qh n.Qb) (.l 2 Qh n.Qb))∧(Imp (.l 2 Qj n.Qa) (.l 2 Qj n.Qa))∧((runL (F81_s0 n far at' Qs) j.1 j.2=(runL (F81_s0 n far at' Qs) (((far.length:Int)-0).toNat+1) 0)∧Int.toNat ((far.length:Int)-k_)<j.1∧(0:Int)≤k_)∧j.1<i0.1))) j.2) (m0,(k+1)) (ai (rfl) (ai (rfl) (ai (rfl) (ai (ir) (ai (ir) (ai (ir) (ai (ai (runL_next hI0 (condT h2 (condF h5 (rfl)))) (ai ((by omega:Int.toNat ((far.length:Int)-(k+1))<m0)) ((by omega:(0:Int)≤(k+1))))) hl0)))))))))))))))) (of_decide_eq_true h2)) (fun h2:(decide (k<(far.length:Int)))=false=>(fun _:¬ k<(far.length:Int)=>(fun hD0_6:(runL (F81_s0 n far at' Qs) (((far.length:Int)-0).toNat+1) 0)=Lp.done k=>(fun hF:((-1):Int)=(F81 n far at' Qs)=>ai (congrArg (fun r:Int=>(.int .i64 r:Value)) hF) (trivial)) (finD hD0_6 (rfl))) (runL_done hI0 (condF h2 (rfl)))) (of_decide_eq_false h2))) (i0.1-1) i0.2 (hd1 hi0.1 hi0.2.1) (hd2 hi0.2.1) (hd3 hi0.2.1) hi0.2.2)) hp.1 hp.2) (by kernel_rfl)
theorem as81 (n:Qe) (far:List Int) (at':Int) (Qs:Int):F81 n far at' Qs=(nextOf n far at' Qs):=by
 unfold F81 nextOf
 rw [search (fun k=>nextB n far Qs at' (k:Int)) (fun k=>(k:Int)) far.length _ (fun k hk=>by simp only [F81_s0,ltD hk,cond_true,nextB,Bool.decide_and,bandd,decide_not,ne_eq,neI,geleD]) (by simp [F81_s0])]
 all_goals (cases first (fun k=>nextB n far Qs at' (k:Int)) far.length <;> rfl)
theorem oa81 (n:Qe) (far:List Int) (at':Int) (Qs:Int):(S81 (nextOf n far at' Qs) n far at' Qs).ok Try.prog 81:=by
 intro hp; have h:=ok81 n far at' Qs hp; rw [as81 n far at' Qs] at h; exact h
def F44_s0 (n:Qe) (a:Int) (b:Int) (Qs:Int):(List Int×Int×Int)→Lp (List Int×Int×Int) (List Int):=fun (out,at',d1) =>
 bif (decide (d1>0)) then (.next ((out++[(nextOf n (F80 n b Qs) at' Qs)]),(nextOf n (F80 n b Qs) at' Qs),(d1-1))) else (.done (out,at',d1))
def F44 (n:Qe) (a:Int) (b:Int) (Qs:Int):List Int :=
 bif (decide (((F80 n b Qs).getD a.toNat default)<0)) then ([]:List Int) else ((runL (F44_s0 n a b Qs) (((F80 n b Qs).getD a.toNat default).toNat+1) (([a]:List Int),a,((F80 n b Qs).getD a.toNat default))).fin (fun r=>r) (fun (out,at',d1)=>out))
def S44 (R:List Int) (n:Qe) (a:Int) (b:Int) (Qs:Int):Spec:=⟨[.r (.g (Qf n)),.r (.c (.v (vI a))),.r (.c (.v (vI b))),.r (.c (.v (vI Qs)))],.ow (.l 1 eInt R),FrameOk n∧n.Qa.length≤8∧0≤a∧a<(n.Qa.length:Int)∧0≤b∧b<(n.Qa.length:Int)⟩
theorem ok44 (n:Qe) (a:Int) (b:Int) (Qs:Int):(S44 (F44 n a b Qs) n a b Qs).ok Try.prog 44 :=
 fnG_ok mixed (fn:=Try.f44) (ct:=.seq (.no) (.seq (.reg [(3,.call 80 (S80 n b Qs) (ok80 n b Qs) none)]) (.seq (.seq (.no) (.cond (.seq (.reg [(0,.dat (.l 1 eInt ([]:List Int)))]) (.no)) (.no))) (.seq (.reg [(1,.dat (.l 1 eInt ([a]:List Int)))]) (.seq (.no) (.seq (.seqk [(4,0),(4,1),(9,0),(10,0)] (.no) (.blk (.loop (ι:=Nat×(List Int×Int×Int)) (fun i=>(fun (out:List Int) (at':Int) (d1:Int)=>(⟨[(3,some (.v (vI Qs))),(4,some (.p 0 0)),(9,some (.h 3 0)),(10,some (.h 4 0)),(11,some (.v (vI at'))),(12,some (.v (vI d1)))],[(0,some (.box 26 [.h 1 0,.h 2 0])),(1,some (.shr none (.l 2 Qh n.Qb))),(2,some (.shr none (.l 2 Qj n.Qa))),(3,some (.own 3 (.l 1 eInt (F80 n b Qs)))),(4,some (.own 4 (.l 1 eInt out)))],5⟩:St)) i.2.1 i.2.2.1 i.2.2.2) (fun i=>runL (F44_s0 n a b Qs) i.1 i.2=(runL (F44_s0 n a b Qs) (((F80 n b Qs).getD a.toNat default).toNat+1) (([a]:List Int),a,((F80 n b Qs).getD a.toNat default)))∧(fun (out:List Int) (at':Int) (d1:Int)=>(Int.toNat d1<i.1∧0≤at'∧at'<(n.Qa.length:Int)∧(F80 n b Qs).getD at'.toNat default=d1∧(out.length:Int)+d1≤8∧0≤d1)) i.2.1 i.2.2.1 i.2.2.2) (fun i=>i.1) ((((F80 n b Qs).getD a.toNat default).toNat+1),(([a]:List Int),a,((F80 n b Qs).getD a.toNat default))) (fun i=>(fun (out:List Int) (at':Int) (d1:Int)=>(.seq (.seq (.no) (.cond (.no) (.no))) (.seq (.blk (.seq (.reg [(4,.call 81 (S81 (nextOf n (F80 n b Qs) at' Qs) n (F80 n b Qs) at' Qs) (oa81 n (F80 n b Qs) at' Qs) none)]) (.reg [(3,.dat (.l 1 eInt (out++[(nextOf n (F80 n b Qs) at' Qs)])))]))) (.reg [(1,.bnd)])))) i.2.1 i.2.2.1 i.2.2.2)))) (.seq (.no) (.no)))))))) Try.func44 (fun (hp:FrameOk n∧n.Qa.length≤8∧0≤a∧a<(n.Qa.length:Int)∧0≤b∧b<(n.Qa.length:Int))=>(fun (hpre0:FrameOk n) (hpre1:n.Qa.length≤8) (hpre2:0≤a) (hpre3:a<(n.Qa.length:Int)) (hpre4:0≤b) (hpre5:b<(n.Qa.length:Int))=>ai ((ai ((by first | assumption | exact Qv.frame (by assumption):FrameOk n)) (ai ((by first | omega | (simp only [lens] at*<;> omega):0≤b)) (ai ((by first | omega | (simp only [lens] at*<;> omega):b<(n.Qa.length:Int))) ((by first | omega | (simp only [lens] at*<;> omega):n.Qa.length≤8)))))) (ai ((Imps.refl (Qf n))) (ai ((Imp.refl (.v (vI b)))) (ai ((Imp.refl (.v (vI Qs)))) ((fun gv1:IsDist n b Qs (F80 n b Qs)=>(fun gv2:(F80 n b Qs).length=n.Qa.length=>ai ((by first | omega | (simp only [lens] at*<;> omega):0≤a∧a<((F80 n b Qs).length:Int))) (ai (fun h3:(decide (((F80 n b Qs).getD a.toNat default)<0))=true=>(fun _:((F80 n b Qs).getD a.toNat default)<0=>ai ((BuildOK.mk eInt ([]:List Int) rfl (by exact trivial) (fun _=>rfl):BuildOK 0 1 [] (.l 1 eInt ([]:List Int)))) ((fun hF:(([]:List Int):List Int)=(F44 n a b Qs)=>ai (Imp.of_eq (congrArg (fun r:List Int=>Dat.l 1 eInt r) hF)) (trivial)) (condT h3 (rfl)))) (of_decide_eq_true h3)) (fun h3:(decide (((F80 n b Qs).getD a.toNat default)<0))=false=>(fun _:¬ ((F80 n b Qs).getD a.toNat default)<0=>ai ((BuildOK.mk eInt ([a]:List Int) rfl (by exact ai ir (trivial)) (fun _=>rfl):BuildOK 1 1 [.v (vI a)] (.l 1 eInt ([a]:List Int)))) (ai ((by first | omega | (simp only [lens] at*<;> omega):0≤a∧a<((F80 n b Qs).length:Int))) (fun (_:n.Qb.length≤9223372036854775807)=>fun (_:n.Qa.length≤9223372036854775807)=>fun (_:(F80 n b Qs).length≤9223372036854775807)=>fun (_:([a]:List Int).length≤9223372036854775807)=>ai (ai (rfl) (ai (rfl) (ai (rfl) (ai (ir) (ai (ir) (ai (ir) (ai (ir) ((ai (rfl:runL (F44_s0 n a b Qs) (((F80 n b Qs).getD a.toNat default).toNat+1) (([a]:List Int),a,((F80 n b Qs).getD a.toNat default))=(runL (F44_s0 n a b Qs) (((F80 n b Qs).getD a.toNat default).toNat+1) (([a]:List Int),a,((F80 n b Qs).getD a.toNat default)))) (ai ((Nat.lt_succ_self _:Int.toNat ((F80 n b Qs).getD a.toNat default)<(((F80 n b Qs).getD a.toNat default).toNat+1))) (ai ((by first | omega | (simp only [lens] at*<;> omega) | (have hl:=IsDist.lt (by assumption) (k:=a) (by assumption) (by assumption); (try simp only [lens]); omega) | (have hq:=nextOf_ok (by assumption) (by assumption) (a:=at') (by omega) (by omega) (by omega); (try simp only [lens]); omega):0≤a)) (ai ((by first | omega | (simp only [lens] at*<;> omega) | (have hl:=IsDist.lt (by assumption) (k:=a) (by assumption) (by assumption); (try simp only [lens]); omega) | (have hq:=nextOf_ok (by assumption) (by assumption) (a:=at') (by omega) (by omega) (by omega); (try simp only [lens]); omega):a<(n.Qa.length:Int))) (ai ((by first | omega | (simp only [lens] at*<;> omega) | (have hl:=IsDist.lt (by assumption) (k:=a) (by assumption) (by assumption); (try simp only [lens]); omega) | (have hq:=nextOf_ok (by assumption) (by assumption) (a:=at') (by omega) (by omega) (by omega); (try simp only [lens]); omega):(F80 n b Qs).getD a.toNat default=((F80 n b Qs).getD a.toNat default))) (ai ((by first | omega | (simp only [lens] at*<;> omega) | (have hl:=IsDist.lt (by assumption) (k:=a) (by assumption) (by assumption); (try simp only [lens]); omega) | (have hq:=nextOf_ok (by assumption) (by assumption) (a:=at') (by omega) (by omega) (by omega); (try simp only [lens]); omega):(([a]:List Int).length:Int)+((F80 n b Qs).getD a.toNat default)≤8)) ((by first | omega | (simp only [lens] at*<;> omega) | (have hl:=IsDist.lt (by assumption) (k:=a) (by assumption) (by assumption); (try simp only [lens]); omega) | (have hq:=nextOf_ok (by assumption) (by assumption) (a:=at') (by omega) (by omega) (by omega); (try simp only [lens]); omega):0≤((F80 n b Qs).getD a.toNat default)))))))))))))))):((.int .i64 Qs:Value)=.int .i64 Qs)∧((.int .i64 a:Value)=.int .i64 a)∧((.int .i64 ((F80 n b Qs).getD a.toNat default):Value)=.int .i64 ((F80 n b Qs).getD a.toNat default))∧(Imp (.l 2 Qh n.Qb) (.l 2 Qh n.Qb))∧(Imp (.l 2 Qj n.Qa) (.l 2 Qj n.Qa))∧(Imp (.l 1 eInt (F80 n b Qs)) (.l 1 eInt (F80 n b Qs)))∧(Imp (.l 1 eInt ([a]:List Int)) (.l 1 eInt ([a]:List Int)))∧(runL (F44_s0 n a b Qs) (((F80 n b Qs).getD a.toNat default).toNat+1) (([a]:List Int),a,((F80 n b Qs).getD a.toNat default))=(runL (F44_s0 n a b Qs) (((F80 n b Qs).getD a.toNat default).toNat+1) (([a]:List Int),a,((F80 n b Qs).getD a.toNat default)))∧Int.toNat ((F80 n b Qs).getD a.toNat default)<(((F80 n b Qs).getD a.toNat default).toNat+1)∧0≤a∧a<(n.Qa.length:Int)∧(F80 n b Qs).getD a.toNat default=((F80 n b Qs).getD a.toNat default)∧(([a]:List Int).length:Int)+((F80 n b Qs).getD a.toNat default)≤8∧0≤((F80 n b Qs).getD a.toNat default))) (fun (i0:Nat×(List Int×Int×Int)) (hi0:runL (F44_s0 n a b Qs) i0.1 i0.2=(runL (F44_s0 n a b Qs) (((F80 n b Qs).getD a.toNat default).toNat+1) (([a]:List Int),a,((F80 n b Qs).getD a.toNat default)))∧(fun (out:List Int) (at':Int) (d1:Int)=>(Int.toNat d1<i0.1∧0≤at'∧at'<(n.Qa.length:Int)∧(F80 n b Qs).getD at'.toNat default=d1∧(out.length:Int)+d1≤8∧0≤d1)) i0.2.1 i0.2.2.1 i0.2.2.2)=>(fun (m0:Nat) (out:List Int) (at':Int) (d1:Int) (hI0:runL (F44_s0 n a b Qs) (m0+1) (out,at',d1)=(runL (F44_s0 n a b Qs) (((F80 n b Qs).getD a.toNat default).toNat+1) (([a]:List Int),a,((F80 n b Qs).getD a.toNat default)))) (_:Int.toNat d1<m0+1) (hl0:m0<i0.1) (_:0≤at') (_:at'<(n.Qa.length:Int)) (_:(F80 n b Qs).getD at'.toNat default=d1) (_:(out.length:Int)+d1≤8) (_:0≤d1)=>ai (fun h5:(decide (d1>0))=true=>(fun _:d1>0=>ai ((ai ((by first | omega | (simp only [lens] at*<;> omega):0≤at')) ((by first | omega | (simp only [lens] at*<;> omega):at'<((F80 n b Qs).length:Int))))) (ai ((Imps.refl (Qf n))) (ai ((Imp.refl (.l 1 eInt (F80 n b Qs)))) (ai ((Imp.refl (.v (vI at')))) (ai ((Imp.refl (.v (vI Qs)))) (ai ((AppA.mk eInt out [(nextOf n (F80 n b Qs) at' Qs)] (Imp.refl (.l 1 eInt out)) rfl (by exact ai ir (trivial)) (fun _=>rfl):AppA (.l 1 eInt out) 1 1 [.v (vI (nextOf n (F80 n b Qs) at' Qs))] (.l 1 eInt (out++[(nextOf n (F80 n b Qs) at' Qs)])))) (ai ((by (try simp only [lens]); omega:((out++[(nextOf n (F80 n b Qs) at' Qs)])).length*8≤140737488355328)) (ai ((by unfold i64ok; first | omega | (simp only [lens] at*<;> omega):i64ok (d1-1))) (Exists.intro (p:=fun j:Nat×(List Int×Int×Int)=>(fun (out_:List Int) (at'_:Int) (d1_:Int)=>(((.int .i64 Qs:Value)=.int .i64 Qs)∧((.int .i64 (nextOf n (F80 n b Qs) at' Qs):Value)=.int .i64 at'_)∧((.int .i64 (d1-1):Value)=.int .i64 d1_)∧(Imp (.l 2 Qh n.Qb) (.l 2 Qh n.Qb))∧(Imp (.l 2 Qj n.Qa) (.l 2 Qj n.Qa))∧(Imp (.l 1 eInt (F80 n b Qs)) (.l 1 eInt (F80 n b Qs)))∧(Imp (.l 1 eInt (out++[(nextOf n (F80 n b Qs) at' Qs)])) (.l 1 eInt out_))∧((runL (F44_s0 n a b Qs) j.1 j.2=(runL (F44_s0 n a b Qs) (((F80 n b Qs).getD a.toNat default).toNat+1) (([a]:List Int),a,((F80 n b Qs).getD a.toNat default)))∧Int.toNat d1_<j.1∧0≤at'_∧at'_<(n.Qa.length:Int)∧(F80 n b Qs).getD (Int.toNat at'_) default=d1_∧(out_.length:Int)+d1_≤8∧0≤d1_)∧j.1<i0.1))) j.2.1 j.2.2.1 j.2.2.2) (m0,((out++[(nextOf n (F80 n b Qs) at' Qs)]),(nextOf n (F80 n b Qs) at' Qs),(d1-1))) (ai (rfl) (ai (rfl) (ai (rfl) (ai (ir) (ai (ir) (ai (ir) (ai (ir) (ai (ai (runL_next hI0 (condT h5 (rfl))) (ai ((by first | omega | (simp only [lens] at*<;> omega) | (have hl:=IsDist.lt (by assumption) (k:=a) (by assumption) (by assumption); (try simp only [lens]); omega) | (have hq:=nextOf_ok (by assumption) (by assumption) (a:=at') (by omega) (by omega) (by omega); (try simp only [lens]); omega):Int.toNat (d1-1)<m0)) (ai ((by first | omega | (simp only [lens] at*<;> omega) | (have hl:=IsDist.lt (by assumption) (k:=a) (by assumption) (by assumption); (try simp only [lens]); omega) | (have hq:=nextOf_ok (by assumption) (by assumption) (a:=at') (by omega) (by omega) (by omega); (try simp only [lens]); omega):0≤(nextOf n (F80 n b Qs) at' Qs))) (ai ((by first | omega | (simp only [lens] at*<;> omega) | (have hl:=IsDist.lt (by assumption) (k:=a) (by assumption) (by assumption); (try simp only [lens]); omega) | (have hq:=nextOf_ok (by assumption) (by assumption) (a:=at') (by omega) (by omega) (by omega); (try simp only [lens]); omega):(nextOf n (F80 n b Qs) at' Qs)<(n.Qa.length:Int))) (ai ((by first | omega | (simp only [lens] at*<;> omega) | (have hl:=IsDist.lt (by assumption) (k:=a) (by assumption) (by assumption); (try simp only [lens]); omega) | (have hq:=nextOf_ok (by assumption) (by assumption) (a:=at') (by omega) (by omega) (by omega); (try simp only [lens]); omega):(F80 n b Qs).getD (nextOf n (F80 n b Qs) at' Qs).toNat default=(d1-1))) (ai ((by first | omega | (simp only [lens] at*<;> omega) | (have hl:=IsDist.lt (by assumption) (k:=a) (by assumption) (by assumption); (try simp only [lens]); omega) | (have hq:=nextOf_ok (by assumption) (by assumption) (a:=at') (by omega) (by omega) (by omega); (try simp only [lens]); omega):((out++[(nextOf n (F80 n b Qs) at' Qs)]).length:Int)+(d1-1)≤8)) ((by first | omega | (simp only [lens] at*<;> omega) | (have hl:=IsDist.lt (by assumption) (k:=a) (by assumption) (by assumption); (try simp only [lens]); omega) | (have hq:=nextOf_ok (by assumption) (by assumption) (a:=at') (by omega) (by omega) (by omega); (try simp only [lens]); omega):0≤(d1-1))))))))) hl0))))))))))))))))) (of_decide_eq_true h5)) (fun h5:(decide (d1>0))=false=>(fun _:¬ d1>0=>(fun hD0_6:(runL (F44_s0 n a b Qs) (((F80 n b Qs).getD a.toNat default).toNat+1) (([a]:List Int),a,((F80 n b Qs).getD a.toNat default)))=Lp.done (out,at',d1)=>(fun hF:(out:List Int)=(F44 n a b Qs)=>ai (Imp.of_eq (congrArg (fun r:List Int=>Dat.l 1 eInt r) hF)) (trivial)) (condF h3 (finD hD0_6 (rfl)))) (runL_done hI0 (condF h5 (rfl)))) (of_decide_eq_false h5))) (i0.1-1) i0.2.1 i0.2.2.1 i0.2.2.2 (hd1 hi0.1 hi0.2.1) (hd2 hi0.2.1) (hd3 hi0.2.1) hi0.2.2.1 hi0.2.2.2.1 hi0.2.2.2.2.1 hi0.2.2.2.2.2.1 hi0.2.2.2.2.2.2)))) (of_decide_eq_false h3)))) (far_len n b Qs (by first | assumption | exact Qv.frame (by assumption):FrameOk n) (by first | omega | (simp only [lens] at*<;> omega):0≤b) (by first | omega | (simp only [lens] at*<;> omega):b<(n.Qa.length:Int)))) (far_isDist n b Qs (by first | assumption | exact Qv.frame (by assumption):FrameOk n) (by first | omega | (simp only [lens] at*<;> omega):0≤b) (by first | omega | (simp only [lens] at*<;> omega):b<(n.Qa.length:Int)))))))) hp.1 hp.2.1 hp.2.2.1 hp.2.2.2.1 hp.2.2.2.2.1 hp.2.2.2.2.2) (by kernel_rfl)
def wayGo (n:Qe) (f:List Int) (w:Int):Nat→Int→List Int
 | 0,_=>[]
 | m+1,x=>nextOf n f x w :: wayGo n f w m (nextOf n f x w)
theorem wayGo_len (n:Qe) (f:List Int) (w:Int):∀ (m:Nat) (x:Int),(wayGo n f w m x).length=m
 | 0,_=>rfl
 | m+1,x=>by simp only [wayGo,List.length_cons,wayGo_len n f w m]
def Qx (n:Qe) (a b w:Int):List Int:=bif decide ((F80 n b w).getD a.toNat default<0) then [] else a :: wayGo n (F80 n b w) w ((F80 n b w).getD a.toNat default).toNat a
theorem specWay_go (n:Qe) (a b w:Int):∀ (m:Nat) (out:List Int) (x:Int),(runL (F44_s0 n a b w) (m+1) (out,x,(m:Int))).fin (fun r=>r) (fun s=>s.1)=out++wayGo n (F80 n b w) w m x
 | 0,out,x=>by simp [runL,F44_s0,Lp.fin,wayGo]
 | m+1,out,x=>by
  have hc:decide (((m+1:Nat):Int)>0)=true:=decide_eq_true (by omega)
  rw [runL]
  simp only [F44_s0,hc,cond_true]
  have e:((m+1:Nat):Int)-1=(m:Int):=by omega
  rw [e]
  refine (specWay_go n a b w m _ _).trans ?_
  simp [wayGo]
theorem specWay_eq (n:Qe) (a b w:Int):F44 n a b w=Qx n a b w:=by
 unfold F44 Qx
 by_cases h:(F80 n b w).getD a.toNat default<0
 ·rw [decide_eq_true h]; rfl
 ·rw [decide_eq_false h]
  simp only [cond_false]
  have e:(F80 n b w).getD a.toNat default=((Int.toNat ((F80 n b w).getD a.toNat default):Nat):Int):=by omega
  have h2:=specWay_go n a b w ((F80 n b w).getD a.toNat default).toNat [a] a
  rw [← e] at h2
  exact h2
theorem as44 (n:Qe) (a b w:Int):F44 n a b w=Qx n a b w:=specWay_eq n a b w
theorem wayOf_len {n:Qe} (hf:FrameOk n) {a b:Int} (w:Int) (ha0:0≤a) (ha1:a<(n.Qa.length:Int)) (hb0:0≤b) (hb1:b<(n.Qa.length:Int)):(Qx n a b w).length≤n.Qa.length:=by
 have hD:=far_isDist n b w hf hb0 hb1
 unfold Qx
 by_cases h:(F80 n b w).getD a.toNat default<0
 ·rw [decide_eq_true h]; exact Nat.zero_le _
 ·rw [decide_eq_false h]
  simp only [cond_false,List.length_cons,wayGo_len]
  have:=(hD.lt ha0 ha1).2
  omega
theorem oa44 (n:Qe) (a:Int) (b:Int) (Qs:Int):(S44 (Qx n a b Qs) n a b Qs).ok Try.prog 44:=by
 intro hp; have h:=ok44 n a b Qs hp; rw [as44 n a b Qs] at h; exact h
def F128_s0 (s:List Int) (v1:Int):Int→Lp Int Int:=fun v8 =>
 bif (decide (v8<(s.length:Int))) then (bif (v1==(s.getD v8.toNat default)) then (.ret v8) else (.next (v8+1))) else (.done v8)
def F128 (s:List Int) (v1:Int):Int :=
 (runL (F128_s0 s v1) (((s.length:Int)-0).toNat+1) 0).fin (fun r=>r) (fun v8=>(-1))
def S128 (R:Int) (s:List Int) (v1:Int):Spec:=⟨[.r (.c (.l 1 eInt s)),.r (.c (.v (vI v1)))],.v (vI R),True⟩
theorem ok128 (s:List Int) (v1:Int):(S128 (F128 s v1) s v1).ok Try.prog 128 :=
 fnG_ok mixed (fn:=Try.f128) (ct:=.seqk [(0,0)] (.no) (.seq (.seqk [(0,0)] (.no) (.blk (.loop (ι:=Nat×Int) (fun i=>(fun (v8:Int)=>(⟨[(0,some (.h 0 0)),(1,some (.v (vI v1))),(7,some (.v (vI (s.length:Int)))),(8,some (.v (vI v8)))],[(0,some (.shr none (.l 1 eInt s)))],1⟩:St)) i.2) (fun i=>runL (F128_s0 s v1) i.1 i.2=(runL (F128_s0 s v1) (((s.length:Int)-0).toNat+1) 0)∧(fun (v8:Int)=>(Int.toNat ((s.length:Int)-v8)<i.1∧(0:Int)≤v8)) i.2) (fun i=>i.1) ((((s.length:Int)-0).toNat+1),0) (fun i=>(fun (v8:Int)=>(.seq (.no) (.seq (.cond (.no) (.no)) (.seq (.blk (.seq (.no) (.seq (.no) (.cond (.seq (.no) (.no)) (.no))))) (.reg [(0,.bnd)]))))) i.2)))) (.seq (.no) (.no)))) Try.func128 (fun (_:True)=>fun (_:s.length≤9223372036854775807)=>fun (_:s.length≤9223372036854775807)=>ai (ai (rfl) (ai (rfl) (ai (rfl) (ai (ir) ((ai (rfl:runL (F128_s0 s v1) (((s.length:Int)-0).toNat+1) 0=(runL (F128_s0 s v1) (((s.length:Int)-0).toNat+1) 0)) (ai ((Nat.lt_succ_self _:Int.toNat ((s.length:Int)-0)<(((s.length:Int)-0).toNat+1))) ((by omega:(0:Int)≤0)))))))):((.int .i64 v1:Value)=.int .i64 v1)∧((.int .i64 (s.length:Int):Value)=.int .i64 (s.length:Int))∧((.int .i64 0:Value)=.int .i64 0)∧(Imp (.l 1 eInt s) (.l 1 eInt s))∧(runL (F128_s0 s v1) (((s.length:Int)-0).toNat+1) 0=(runL (F128_s0 s v1) (((s.length:Int)-0).toNat+1) 0)∧Int.toNat ((s.length:Int)-0)<(((s.length:Int)-0).toNat+1)∧(0:Int)≤0)) (fun (i0:Nat×Int) (hi0:runL (F128_s0 s v1) i0.1 i0.2=(runL (F128_s0 s v1) (((s.length:Int)-0).toNat+1) 0)∧(fun (v8:Int)=>(Int.toNat ((s.length:Int)-v8)<i0.1∧(0:Int)≤v8)) i0.2)=>(fun (m0:Nat) (v8:Int) (hI0:runL (F128_s0 s v1) (m0+1) v8=(runL (F128_s0 s v1) (((s.length:Int)-0).toNat+1) 0)) (_:Int.toNat ((s.length:Int)-v8)<m0+1) (hl0:m0<i0.1) (_:(0:Int)≤v8)=>ai (fun h2:(decide (v8<(s.length:Int)))=true=>(fun _:v8<(s.length:Int)=>ai ((by omega:0≤v8∧v8<(s.length:Int))) (ai (fun h3:(v1==(s.getD v8.toNat default))=true=>(fun _:v1=(s.getD v8.toNat default)=>(fun hF:(v8:Int)=(F128 s v1)=>ai (congrArg (fun r:Int=>(.int .i64 r:Value)) hF) (trivial)) (finR (runL_ret hI0 (condT h2 (condT h3 (rfl)))) rfl)) (eq_of_beq h3)) (fun h3:(v1==(s.getD v8.toNat default))=false=>(fun _:¬ v1=(s.getD v8.toNat default)=>ai ((by unfold i64ok; omega:i64ok (v8+1))) (Exists.intro (p:=fun j:Nat×Int=>(fun (v8_:Int)=>(((.int .i64 v1:Value)=.int .i64 v1)∧((.int .i64 (s.length:Int):Value)=.int .i64 (s.length:Int))∧((.int .i64 (v8+1):Value)=.int .i64 v8_)∧(Imp (.l 1 eInt s) (.l 1 eInt s))∧((runL (F128_s0 s v1) j.1 j.2=(runL (F128_s0 s v1) (((s.length:Int)-0).toNat+1) 0)∧Int.toNat ((s.length:Int)-v8_)<j.1∧(0:Int)≤v8_)∧j.1<i0.1))) j.2) (m0,(v8+1)) (ai (rfl) (ai (rfl) (ai (rfl) (ai (ir) (ai (ai (runL_next hI0 (condT h2 (condF h3 (rfl)))) (ai ((by omega:Int.toNat ((s.length:Int)-(v8+1))<m0)) ((by omega:(0:Int)≤(v8+1))))) hl0))))))) (beqF h3)))) (of_decide_eq_true h2)) (fun h2:(decide (v8<(s.length:Int)))=false=>(fun _:¬ v8<(s.length:Int)=>(fun hD0_4:(runL (F128_s0 s v1) (((s.length:Int)-0).toNat+1) 0)=Lp.done v8=>(fun hF:((-1):Int)=(F128 s v1)=>ai (congrArg (fun r:Int=>(.int .i64 r:Value)) hF) (trivial)) (finD hD0_4 (rfl))) (runL_done hI0 (condF h2 (rfl)))) (of_decide_eq_false h2))) (i0.1-1) i0.2 (hd1 hi0.1 hi0.2.1) (hd2 hi0.2.1) (hd3 hi0.2.1) hi0.2.2)) (by kernel_rfl)
theorem as128 (s:List Int) (v1:Int):F128 s v1=(idxI (fun y=>decide (v1=y)) s):=by
 exact idx_loop (fun y=>decide (v1=y)) s (F128_s0 s v1) (fun i=>by simp only [F128_s0,beqD])
theorem oa128 (s:List Int) (v1:Int):(S128 (idxI (fun y=>decide (v1=y)) s) s v1).ok Try.prog 128:=by
 intro hp; have h:=ok128 s v1 hp; rw [as128 s v1] at h; exact h
def F121 (s:List Int) (v1:Int):Bool :=
 decide ((idxI (fun y=>decide (v1=y)) s)≥0)
def S121 (R:Bool) (s:List Int) (v1:Int):Spec:=⟨[.r (.c (.l 1 eInt s)),.r (.c (.v (vI v1)))],.v (.bool R),True⟩
theorem ok121 (s:List Int) (v1:Int):(S121 (F121 s v1) s v1).ok Try.prog 121 :=
 fnG_ok mixed (fn:=Try.f121) (ct:=.seqk [(0,0)] (.no) (.seq (.reg [(2,.call 128 (S128 (idxI (fun y=>decide (v1=y)) s) s v1) (oa128 s v1) none)]) (.no))) Try.func121 (fun (_:True)=>fun (_:s.length≤9223372036854775807)=>ai (trivial) (ai ((Imp.refl (.l 1 eInt s))) (ai ((Imp.refl (.v (vI v1)))) ((fun hF:(decide ((idxI (fun y=>decide (v1=y)) s)≥0):Bool)=(F121 s v1)=>ai (congrArg (fun r:Bool=>(.bool r:Value)) hF) (trivial)) (rfl))))) (by kernel_rfl)
theorem as121 (s:List Int) (v1:Int):F121 s v1=(decide (v1∈s)):=by
 exact (any_idx (fun y=>decide (v1=y)) s).trans (mem_idx v1 s)
theorem oa121 (s:List Int) (v1:Int):(S121 (decide (v1∈s)) s v1).ok Try.prog 121:=by
 intro hp; have h:=ok121 s v1 hp; rw [as121 s v1] at h; exact h
def F76_s1 (n:Qe) (path:List Int) (i40:Int):Int→Lp Int Bool:=fun k =>
 bif (decide (k<i40)) then (bif ((path.getD k.toNat default)==(path.getD i40.toNat default)) then (.ret false) else (.next (k+1))) else (.done k)
def F76_s0 (n:Qe) (path:List Int):Int→Lp Int Bool:=fun i40 =>
 bif (decide (i40<(path.length:Int))) then (bif (bif (!(decide (0≤(path.getD i40.toNat default)∧(path.getD i40.toNat default)≤((n.Qa.length:Int)-1)))) then true else (bif decide (i40>0) then decide ((Qt n (path.getD (i40-1).toNat default) (path.getD i40.toNat default))<0) else false)) then (.ret false) else ((runL (F76_s1 n path i40) ((i40-0).toNat+1) 0).fin Lp.ret (fun k=>.next (i40+1)))) else (.done i40)
def F76 (n:Qe) (path:List Int):Bool :=
 bif (!(decide (2≤(path.length:Int)∧(path.length:Int)≤(n.Qa.length:Int)))) then false else ((runL (F76_s0 n path) (((path.length:Int)-0).toNat+1) 0).fin (fun r=>r) (fun i40=>true))
def S76 (R:Bool) (n:Qe) (path:List Int):Spec:=⟨[.r (.g (Qf n)),.r (.c (.l 1 eInt path))],.v (.bool R),True⟩
abbrev q76_1 (path:List Int) (i40:Int):=(path.getD i40.toNat default)
abbrev q76_2 (n:Qe) (path:List Int):=(runL (F76_s0 n path) (((path.length:Int)-0).toNat+1) 0)
abbrev q76_3 (n:Qe) (path:List Int) (i40:Int):=(runL (F76_s1 n path i40) ((i40-0).toNat+1) 0)
abbrev q76_4 (n:Qe):=(Imp (.l 2 Qh n.Qb) (.l 2 Qh n.Qb))
abbrev q76_5 (n:Qe):=(Imp (.l 2 Qj n.Qa) (.l 2 Qj n.Qa))
theorem ok76 (n:Qe) (path:List Int):(S76 (F76 n path) n path).ok Try.prog 76 :=
 fnG_ok mixed (fn:=Try.f76) (ct:=.seqk [(1,0)] (.no) (.seq (.seq (.reg [(5,.call 43 (S43 (decide (2≤(path.length:Int)∧(path.length:Int)≤(n.Qa.length:Int))) (path.length:Int) 2 (n.Qa.length:Int)) (oa43 (path.length:Int) 2 (n.Qa.length:Int)) none)]) (.cond (.seq (.no) (.no)) (.no))) (.seq (.seqk [(1,0),(2,0),(2,1)] (.no) (.blk (.loop (ι:=Nat×Int) (fun i=>(fun (i40:Int)=>(⟨[(1,some (.h 0 0)),(2,some (.p 1 0)),(5,some (.v (vI i40)))],[(0,some (.shr none (.l 1 eInt path))),(1,some (.box 26 [.h 2 0,.h 3 0])),(2,some (.shr none (.l 2 Qh n.Qb))),(3,some (.shr none (.l 2 Qj n.Qa)))],4⟩:St)) i.2) (fun i=>runL (F76_s0 n path) i.1 i.2=(q76_2 n path)∧(fun (i40:Int)=>(Int.toNat ((path.length:Int)-i40)<i.1∧(0:Int)≤i40)) i.2) (fun i=>i.1) ((((path.length:Int)-0).toNat+1),0) (fun i=>(fun (i40:Int)=>(.seq (.seq (.no) (.cond (.no) (.no))) (.seq (.blk (.seq (.seq (.reg [(7,.bnd),(8,.call 43 (S43 (decide (0≤(q76_1 path i40)∧(q76_1 path i40)≤((n.Qa.length:Int)-1))) (q76_1 path i40) 0 ((n.Qa.length:Int)-1)) (oa43 (q76_1 path i40) 0 ((n.Qa.length:Int)-1)) none),(17,.bnd),(24,.call 97 (S97 (Qt n (path.getD (i40-1).toNat default) (q76_1 path i40)) n (path.getD (i40-1).toNat default) (q76_1 path i40)) (oa97 n (path.getD (i40-1).toNat default) (q76_1 path i40)) none)]) (.cond (.seq (.no) (.no)) (.no))) (.seqk [(1,0)] (.no) (.blk (.loop (ι:=Nat×Int) (fun i=>(fun (k:Int)=>(⟨[(1,some (.h 0 0)),(2,some (.p 1 0)),(5,some (.v (vI i40))),(6,some (.v (vI k)))],[(0,some (.shr none (.l 1 eInt path))),(1,some (.box 26 [.h 2 0,.h 3 0])),(2,some (.shr none (.l 2 Qh n.Qb))),(3,some (.shr none (.l 2 Qj n.Qa)))],4⟩:St)) i.2) (fun i=>runL (F76_s1 n path i40) i.1 i.2=(q76_3 n path i40)∧(fun (k:Int)=>(Int.toNat (i40-k)<i.1∧(0:Int)≤k)) i.2) (fun i=>i.1) (((i40-0).toNat+1),0) (fun i=>(fun (k:Int)=>(.seq (.seq (.no) (.cond (.no) (.no))) (.seq (.blk (.seq (.no) (.cond (.seq (.no) (.no)) (.no)))) (.reg [(1,.bnd)])))) i.2)))))) (.reg [(1,.bnd)])))) i.2)))) (.seq (.no) (.no))))) Try.func76 (fun (_:True)=>fun (_:path.length≤9223372036854775807)=>ai (trivial) (ai ((Imp.refl (.v (vI (path.length:Int))))) (ai ((Imp.refl (.v (vI 2)))) (ai ((Imp.refl (.v (vI (n.Qa.length:Int))))) (ai (fun h1:(!(decide (2≤(path.length:Int)∧(path.length:Int)≤(n.Qa.length:Int))))=true=>(fun _:¬ (2≤(path.length:Int)∧(path.length:Int)≤(n.Qa.length:Int))=>(fun hF:(false:Bool)=(F76 n path)=>ai (congrArg (fun r:Bool=>(.bool r:Value)) hF) (trivial)) (condT h1 (rfl))) (of_decide_eq_false (notET h1))) (fun h1:(!(decide (2≤(path.length:Int)∧(path.length:Int)≤(n.Qa.length:Int))))=false=>(fun _:2≤(path.length:Int)∧(path.length:Int)≤(n.Qa.length:Int)=>fun (_:path.length≤9223372036854775807)=>fun (_:n.Qb.length≤9223372036854775807)=>fun (_:n.Qa.length≤9223372036854775807)=>ai (ai (rfl) (ai (ir) (ai (ir) (ai (ir) ((ai (rfl:runL (F76_s0 n path) (((path.length:Int)-0).toNat+1) 0=(q76_2 n path)) (ai ((Nat.lt_succ_self _:Int.toNat ((path.length:Int)-0)<(((path.length:Int)-0).toNat+1))) ((by omega:(0:Int)≤0)))))))):((.int .i64 0:Value)=.int .i64 0)∧(Imp (.l 1 eInt path) (.l 1 eInt path))∧(q76_4 n)∧(q76_5 n)∧(runL (F76_s0 n path) (((path.length:Int)-0).toNat+1) 0=(q76_2 n path)∧Int.toNat ((path.length:Int)-0)<(((path.length:Int)-0).toNat+1)∧(0:Int)≤0)) (fun (i0:Nat×Int) (hi0:runL (F76_s0 n path) i0.1 i0.2=(q76_2 n path)∧(fun (i40:Int)=>(Int.toNat ((path.length:Int)-i40)<i0.1∧(0:Int)≤i40)) i0.2)=>(fun (m0:Nat) (i40:Int) (hI0:runL (F76_s0 n path) (m0+1) i40=(q76_2 n path)) (_:Int.toNat ((path.length:Int)-i40)<m0+1) (hl0:m0<i0.1) (_:(0:Int)≤i40)=>ai (fun h3:(decide (i40<(path.length:Int)))=true=>(fun _:i40<(path.length:Int)=>ai ((by omega:0≤i40∧i40<(path.length:Int))) (ai ((by unfold i64ok; omega:i64ok ((n.Qa.length:Int)-1))) (ai (trivial) (ai ((Imp.refl (.v (vI (q76_1 path i40))))) (ai ((Imp.refl (.v (vI 0)))) (ai ((Imp.refl (.v (vI ((n.Qa.length:Int)-1))))) (ai ((fun k5:(decide (i40>0))=true=>(fun _:i40>0=>(fun k4:(!(decide (0≤(q76_1 path i40)∧(q76_1 path i40)≤((n.Qa.length:Int)-1))))=false=>(fun _:0≤(q76_1 path i40)∧(q76_1 path i40)≤((n.Qa.length:Int)-1)=>(by unfold i64ok; omega:i64ok (i40-1))) (of_decide_eq_true (notEF k4)))) (of_decide_eq_true k5))) (ai ((fun k7:(decide (i40>0))=true=>(fun _:i40>0=>(fun k6:(!(decide (0≤(q76_1 path i40)∧(q76_1 path i40)≤((n.Qa.length:Int)-1))))=false=>(fun _:0≤(q76_1 path i40)∧(q76_1 path i40)≤((n.Qa.length:Int)-1)=>(by omega:0≤(i40-1)∧(i40-1)<(path.length:Int))) (of_decide_eq_true (notEF k6)))) (of_decide_eq_true k7))) (ai ((fun k9:(decide (i40>0))=true=>(fun _:i40>0=>(fun k8:(!(decide (0≤(q76_1 path i40)∧(q76_1 path i40)≤((n.Qa.length:Int)-1))))=false=>(fun _:0≤(q76_1 path i40)∧(q76_1 path i40)≤((n.Qa.length:Int)-1)=>(by omega:0≤i40∧i40<(path.length:Int))) (of_decide_eq_true (notEF k8)))) (of_decide_eq_true k9))) (ai ((fun k11:(decide (i40>0))=true=>(fun _:i40>0=>(fun k10:(!(decide (0≤(q76_1 path i40)∧(q76_1 path i40)≤((n.Qa.length:Int)-1))))=false=>(fun _:0≤(q76_1 path i40)∧(q76_1 path i40)≤((n.Qa.length:Int)-1)=>trivial) (of_decide_eq_true (notEF k10)))) (of_decide_eq_true k11))) (ai ((fun k13:(decide (i40>0))=true=>(fun _:i40>0=>(fun k12:(!(decide (0≤(q76_1 path i40)∧(q76_1 path i40)≤((n.Qa.length:Int)-1))))=false=>(fun _:0≤(q76_1 path i40)∧(q76_1 path i40)≤((n.Qa.length:Int)-1)=>(Imps.refl (Qf n))) (of_decide_eq_true (notEF k12)))) (of_decide_eq_true k13))) (ai ((fun k15:(decide (i40>0))=true=>(fun _:i40>0=>(fun k14:(!(decide (0≤(q76_1 path i40)∧(q76_1 path i40)≤((n.Qa.length:Int)-1))))=false=>(fun _:0≤(q76_1 path i40)∧(q76_1 path i40)≤((n.Qa.length:Int)-1)=>(Imp.refl (.v (vI (path.getD (i40-1).toNat default))))) (of_decide_eq_true (notEF k14)))) (of_decide_eq_true k15))) (ai ((fun k17:(decide (i40>0))=true=>(fun _:i40>0=>(fun k16:(!(decide (0≤(q76_1 path i40)∧(q76_1 path i40)≤((n.Qa.length:Int)-1))))=false=>(fun _:0≤(q76_1 path i40)∧(q76_1 path i40)≤((n.Qa.length:Int)-1)=>(Imp.refl (.v (vI (q76_1 path i40))))) (of_decide_eq_true (notEF k16)))) (of_decide_eq_true k17))) (ai (fun h18:(bif (!(decide (0≤(q76_1 path i40)∧(q76_1 path i40)≤((n.Qa.length:Int)-1)))) then true else (bif decide (i40>0) then decide ((Qt n (path.getD (i40-1).toNat default) (q76_1 path i40))<0) else false))=true=>(fun hF:(false:Bool)=(F76 n path)=>ai (congrArg (fun r:Bool=>(.bool r:Value)) hF) (trivial)) (condF h1 (finR (runL_ret hI0 (condT h3 (condT h18 (rfl)))) rfl))) (fun h18:(bif (!(decide (0≤(q76_1 path i40)∧(q76_1 path i40)≤((n.Qa.length:Int)-1)))) then true else (bif decide (i40>0) then decide ((Qt n (path.getD (i40-1).toNat default) (q76_1 path i40))<0) else false))=false=>(fun _:0≤(q76_1 path i40)∧(q76_1 path i40)≤((n.Qa.length:Int)-1)=>fun (_:path.length≤9223372036854775807)=>ai (ai (rfl) (ai (rfl) (ai (ir) (ai (ir) (ai (ir) ((ai (rfl:runL (F76_s1 n path i40) ((i40-0).toNat+1) 0=(q76_3 n path i40)) (ai ((Nat.lt_succ_self _:Int.toNat (i40-0)<((i40-0).toNat+1))) ((by omega:(0:Int)≤0))))))))):((.int .i64 i40:Value)=.int .i64 i40)∧((.int .i64 0:Value)=.int .i64 0)∧(Imp (.l 1 eInt path) (.l 1 eInt path))∧(q76_4 n)∧(q76_5 n)∧(runL (F76_s1 n path i40) ((i40-0).toNat+1) 0=(q76_3 n path i40)∧Int.toNat (i40-0)<((i40-0).toNat+1)∧(0:Int)≤0)) (fun (i1:Nat×Int) (hi1:runL (F76_s1 n path i40) i1.1 i1.2=(q76_3 n path i40)∧(fun (k:Int)=>(Int.toNat (i40-k)<i1.1∧(0:Int)≤k)) i1.2)=>(fun (m1:Nat) (k:Int) (hI1:runL (F76_s1 n path i40) (m1+1) k=(q76_3 n path i40)) (_:Int.toNat (i40-k)<m1+1) (hl1:m1<i1.1) (_:(0:Int)≤k)=>ai (fun h20:(decide (k<i40))=true=>(fun _:k<i40=>ai ((by omega:0≤k∧k<(path.length:Int))) (ai ((by omega:0≤i40∧i40<(path.length:Int))) (ai (fun h21:((path.getD k.toNat default)==(q76_1 path i40))=true=>(fun _:(path.getD k.toNat default)=(q76_1 path i40)=>(fun hF:(false:Bool)=(F76 n path)=>ai (congrArg (fun r:Bool=>(.bool r:Value)) hF) (trivial)) (condF h1 (finR (runL_ret hI0 (condT h3 (condF h18 (finR (runL_ret hI1 (condT h20 (condT h21 (rfl)))) rfl)))) rfl))) (eq_of_beq h21)) (fun h21:((path.getD k.toNat default)==(q76_1 path i40))=false=>(fun _:¬ (path.getD k.toNat default)=(q76_1 path i40)=>ai ((by unfold i64ok; omega:i64ok (k+1))) (Exists.intro (p:=fun j:Nat×Int=>(fun (k_:Int)=>(((.int .i64 i40:Value)=.int .i64 i40)∧((.int .i64 (k+1):Value)=.int .i64 k_)∧(Imp (.l 1 eInt path) (.l 1 eInt path))∧(q76_4 n)∧(q76_5 n)∧((runL (F76_s1 n path i40) j.1 j.2=(q76_3 n path i40)∧Int.toNat (i40-k_)<j.1∧(0:Int)≤k_)∧j.1<i1.1))) j.2) (m1,(k+1)) (ai (rfl) (ai (rfl) (ai (ir) (ai (ir) (ai (ir) (ai (ai (runL_next hI1 (condT h20 (condF h21 (rfl)))) (ai ((by omega:Int.toNat (i40-(k+1))<m1)) ((by omega:(0:Int)≤(k+1))))) hl1)))))))) (beqF h21))))) (of_decide_eq_true h20)) (fun h20:(decide (k<i40))=false=>(fun _:¬ k<i40=>(fun hD1_22:(q76_3 n path i40)=Lp.done k=>ai ((by unfold i64ok; omega:i64ok (i40+1))) (Exists.intro (p:=fun j:Nat×Int=>(fun (i40_:Int)=>(((.int .i64 (i40+1):Value)=.int .i64 i40_)∧(Imp (.l 1 eInt path) (.l 1 eInt path))∧(q76_4 n)∧(q76_5 n)∧((runL (F76_s0 n path) j.1 j.2=(q76_2 n path)∧Int.toNat ((path.length:Int)-i40_)<j.1∧(0:Int)≤i40_)∧j.1<i0.1))) j.2) (m0,(i40+1)) (ai (rfl) (ai (ir) (ai (ir) (ai (ir) (ai (ai (runL_next hI0 (condT h3 (condF h18 (finD hD1_22 (rfl))))) (ai ((by omega:Int.toNat ((path.length:Int)-(i40+1))<m0)) ((by omega:(0:Int)≤(i40+1))))) hl0))))))) (runL_done hI1 (condF h20 (rfl)))) (of_decide_eq_false h20))) (i1.1-1) i1.2 (hd1 hi1.1 hi1.2.1) (hd2 hi1.2.1) (hd3 hi1.2.1) hi1.2.2)) (of_decide_eq_true (notEF (orF1 h18)))))))))))))))))) (of_decide_eq_true h3)) (fun h3:(decide (i40<(path.length:Int)))=false=>(fun _:¬ i40<(path.length:Int)=>(fun hD0_23:(q76_2 n path)=Lp.done i40=>(fun hF:(true:Bool)=(F76 n path)=>ai (congrArg (fun r:Bool=>(.bool r:Value)) hF) (trivial)) (condF h1 (finD hD0_23 (rfl)))) (runL_done hI0 (condF h3 (rfl)))) (of_decide_eq_false h3))) (i0.1-1) i0.2 (hd1 hi0.1 hi0.2.1) (hd2 hi0.2.1) (hd3 hi0.2.1) hi0.2.2)) (of_decide_eq_true (notEF h1)))))))) (by kernel_rfl)
def F118_s0 (b:Qi):Int→Lp Int Int:=fun label =>
 bif (decide (label≤60)) then (bif (decide ((oix (rowIx b label))<0)) then (.ret label) else (.next (label+1))) else (.done label)
def F118 (b:Qi):Int :=
 (runL (F118_s0 b) ((Int.toNat (60-1+1))+1) 1).fin (fun r=>r) (fun label=>0)
def S118 (R:Int) (b:Qi):Spec:=⟨[.r (.g (Qj b))],.v (vI R),True⟩
theorem ok118 (b:Qi):(S118 (F118 b) b).ok Try.prog 118 :=
 fnG_ok mixed (fn:=Try.f118) (ct:=.seq (.no) (.seq (.seqk [(1,0),(1,1)] (.no) (.blk (.loop (ι:=Nat×Int) (fun i=>(fun (label:Int)=>(⟨[(1,some (.p 0 0)),(3,some (.v (vI label)))],[(0,some (.box 54 [.h 1 0,.h 2 0])),(1,some (.shr none (.l 3 Ql b.Rows))),(2,some (.shr none (.l 3 Qo b.Qc)))],3⟩:St)) i.2) (fun i=>runL (F118_s0 b) i.1 i.2=(runL (F118_s0 b) ((Int.toNat (60-1+1))+1) 1)∧(fun (label:Int)=>(Int.toNat (60-label+1)<i.1∧(0:Int)≤label)) i.2) (fun i=>i.1) (((Int.toNat (60-1+1))+1),1) (fun i=>(fun (label:Int)=>(.seq (.seq (.no) (.cond (.no) (.no))) (.seq (.blk (.seq (.reg [(2,.call 70 (S70 (oix (rowIx b label)) b label) (oa70 b label) none)]) (.cond (.seq (.no) (.no)) (.no)))) (.reg [(1,.bnd)])))) i.2)))) (.seq (.no) (.no)))) Try.func118 (fun (_:True)=>fun (_:b.Rows.length≤9223372036854775807)=>fun (_:b.Qc.length≤9223372036854775807)=>ai (ai (rfl) (ai (ir) (ai (ir) ((ai (rfl:runL (F118_s0 b) ((Int.toNat (60-1+1))+1) 1=(runL (F118_s0 b) ((Int.toNat (60-1+1))+1) 1)) (ai ((Nat.lt_succ_self _:Int.toNat (60-1+1)<((Int.toNat (60-1+1))+1))) ((by omega:(0:Int)≤1))))))):((.int .i64 1:Value)=.int .i64 1)∧(Imp (.l 3 Ql b.Rows) (.l 3 Ql b.Rows))∧(Imp (.l 3 Qo b.Qc) (.l 3 Qo b.Qc))∧(runL (F118_s0 b) ((Int.toNat (60-1+1))+1) 1=(runL (F118_s0 b) ((Int.toNat (60-1+1))+1) 1)∧Int.toNat (60-1+1)<((Int.toNat (60-1+1))+1)∧(0:Int)≤1)) (fun (i0:Nat×Int) (hi0:runL (F118_s0 b) i0.1 i0.2=(runL (F118_s0 b) ((Int.toNat (60-1+1))+1) 1)∧(fun (label:Int)=>(Int.toNat (60-label+1)<i0.1∧(0:Int)≤label)) i0.2)=>(fun (m0:Nat) (label:Int) (hI0:runL (F118_s0 b) (m0+1) label=(runL (F118_s0 b) ((Int.toNat (60-1+1))+1) 1)) (_:Int.toNat (60-label+1)<m0+1) (hl0:m0<i0.1) (_:(0:Int)≤label)=>ai (fun h2:(decide (label≤60))=true=>(fun _:label≤60=>ai (trivial) (ai ((Imps.refl (Qj b))) (ai ((Imp.refl (.v (vI label)))) ((fun gv3:(oix (rowIx b label))<(b.Rows.length:Int)=>ai (fun h4:(decide ((oix (rowIx b label))<0))=true=>(fun _:(oix (rowIx b label))<0=>(fun hF:(label:Int)=(F118 b)=>ai (congrArg (fun r:Int=>(.int .i64 r:Value)) hF) (trivial)) (finR (runL_ret hI0 (condT h2 (condT h4 (rfl)))) rfl)) (of_decide_eq_true h4)) (fun h4:(decide ((oix (rowIx b label))<0))=false=>(fun _:¬ (oix (rowIx b label))<0=>ai ((by unfold i64ok; omega:i64ok (label+1))) (Exists.intro (p:=fun j:Nat×Int=>(fun (label_:Int)=>(((.int .i64 (label+1):Value)=.int .i64 label_)∧(Imp (.l 3 Ql b.Rows) (.l 3 Ql b.Rows))∧(Imp (.l 3 Qo b.Qc) (.l 3 Qo b.Qc))∧((runL (F118_s0 b) j.1 j.2=(runL (F118_s0 b) ((Int.toNat (60-1+1))+1) 1)∧Int.toNat (60-label_+1)<j.1∧(0:Int)≤label_)∧j.1<i0.1))) j.2) (m0,(label+1)) (ai (rfl) (ai (ir) (ai (ir) (ai (ai (runL_next hI0 (condT h2 (condF h4 (rfl)))) (ai ((by omega:Int.toNat (60-(label+1)+1)<m0)) ((by omega:(0:Int)≤(label+1))))) hl0)))))) (of_decide_eq_false h4))) (rowIx_lt b label))))) (of_decide_eq_true h2)) (fun h2:(decide (label≤60))=false=>(fun _:¬ label≤60=>(fun hD0_5:(runL (F118_s0 b) ((Int.toNat (60-1+1))+1) 1)=Lp.done label=>(fun hF:(0:Int)=(F118 b)=>ai (congrArg (fun r:Int=>(.int .i64 r:Value)) hF) (trivial)) (finD hD0_5 (rfl))) (runL_done hI0 (condF h2 (rfl)))) (of_decide_eq_false h2))) (i0.1-1) i0.2 (hd1 hi0.1 hi0.2.1) (hd2 hi0.2.1) (hd3 hi0.2.1) hi0.2.2)) (by kernel_rfl)
def F89_s0 (list:List Qk) (r1:Qk):Int→Lp Int (List Qk):=fun k400 =>
 bif (bif decide (k400<(list.length:Int)) then decide ((list.getD k400.toNat default).In<r1.In) else false) then (.next (k400+1)) else (.done k400)
def F89_j0 (list:List Qk) (r1:Qk):Lp Int (List Qk) :=
 (runL (F89_s0 list r1) (((list.length:Int)-0).toNat+1) 0).fin Lp.ret (fun k400=>.done k400)
def F89 (list:List Qk) (r1:Qk):List Qk :=
 (F89_j0 list r1).fin (fun r=>r) (fun k=>(((([]:List Qk)++(list.take k.toNat))++[r1])++(list.drop k.toNat)))
def S89 (R:List Qk) (list:List Qk) (r1:Qk):Spec:=⟨[.r (.c (.l 3 Ql list)),.r (.g (Ql r1))],.ow (.l 3 Ql R),list.length≤1000000000⟩
theorem ok89 (list:List Qk) (r1:Qk):(S89 (F89 list r1) list r1).ok Try.prog 89 :=
 fnG_ok mixed (fn:=Try.f89) (ct:=.seqk [(0,0)] (.no) (.seqk [(0,0)] (.no) (.cut (ι:=Int) (fun j=>(fun (k:Int)=>(⟨[(0,some (.h 0 0)),(3,some (.p 1 0)),(5,some (.v (vI k)))],[(0,some (.shr none (.l 3 Ql list))),(1,some (.box 68 [.v (vI r1.In),.v (vI r1.Next),.v (vI r1.Out)]))],2⟩:St)) j) (fun j=>(fun (k:Int)=>((F89_j0 list r1)=Lp.done j∧0≤k∧k≤(list.length:Int))) j) (.blk (.loop (ι:=Nat×Int) (fun i=>(fun (k400:Int)=>(⟨[(0,some (.h 0 0)),(3,some (.p 1 0)),(5,some (.v (vI k400)))],[(0,some (.shr none (.l 3 Ql list))),(1,some (.box 68 [.v (vI r1.In),.v (vI r1.Next),.v (vI r1.Out)]))],2⟩:St)) i.2) (fun i=>runL (F89_s0 list r1) i.1 i.2=(runL (F89_s0 list r1) (((list.length:Int)-0).toNat+1) 0)∧(fun (k400:Int)=>(Int.toNat ((list.length:Int)-k400)<i.1∧k400≤(list.length:Int)∧(0:Int)≤k400)) i.2) (fun i=>i.1) ((((list.length:Int)-0).toNat+1),0) (fun i=>(fun (k400:Int)=>(.seq (.seq (.no) (.cond (.no) (.no))) (.blk (.reg [(1,.bnd)])))) i.2))) (fun j=>(fun (k:Int)=>(.seq (.reg [(0,.dat (.l 3 Ql ([]:List Qk))),(4,.dat (.l 3 Ql (([]:List Qk)++(list.take k.toNat)))),(7,.dat (.l 3 Ql ((([]:List Qk)++(list.take k.toNat))++[r1]))),(11,.dat (.l 3 Ql (((([]:List Qk)++(list.take k.toNat))++[r1])++(list.drop k.toNat))))]) (.no))) j)))) Try.func89 (fun (hpre0:list.length≤1000000000)=>fun (_:list.length≤9223372036854775807)=>fun (_:list.length≤9223372036854775807)=>ai (ai (ai (rfl) (ai (ir) (ai (rfl) (ai (rfl) (ai (rfl) ((ai (rfl:runL (F89_s0 list r1) (((list.length:Int)-0).toNat+1) 0=(runL (F89_s0 list r1) (((list.length:Int)-0).toNat+1) 0)) (ai ((Nat.lt_succ_self _:Int.toNat ((list.length:Int)-0)<(((list.length:Int)-0).toNat+1))) (ai ((by first | omega | (simp only [lens] at*<;> omega):0≤(list.length:Int))) ((by first | omega | (simp only [lens] at*<;> omega):(0:Int)≤0)))))))))):((.int .i64 0:Value)=.int .i64 0)∧(Imp (.l 3 Ql list) (.l 3 Ql list))∧((.int .i64 r1.In:Value)=.int .i64 r1.In)∧((.int .i64 r1.Next:Value)=.int .i64 r1.Next)∧((.int .i64 r1.Out:Value)=.int .i64 r1.Out)∧(runL (F89_s0 list r1) (((list.length:Int)-0).toNat+1) 0=(runL (F89_s0 list r1) (((list.length:Int)-0).toNat+1) 0)∧Int.toNat ((list.length:Int)-0)<(((list.length:Int)-0).toNat+1)∧0≤(list.length:Int)∧(0:Int)≤0)) (fun (i0:Nat×Int) (hi0:runL (F89_s0 list r1) i0.1 i0.2=(runL (F89_s0 list r1) (((list.length:Int)-0).toNat+1) 0)∧(fun (k400:Int)=>(Int.toNat ((list.length:Int)-k400)<i0.1∧k400≤(list.length:Int)∧(0:Int)≤k400)) i0.2)=>(fun (m0:Nat) (k400:Int) (hI0:runL (F89_s0 list r1) (m0+1) k400=(runL (F89_s0 list r1) (((list.length:Int)-0).toNat+1) 0)) (_:Int.toNat ((list.length:Int)-k400)<m0+1) (hl0:m0<i0.1) (_:k400≤(list.length:Int)) (_:(0:Int)≤k400)=>ai ((fun k2:(decide (k400<(list.length:Int)))=true=>(fun _:k400<(list.length:Int)=>(by first | omega | (simp only [lens] at*<;> omega):0≤k400∧k400<(list.length:Int))) (of_decide_eq_true k2))) (ai (fun h3:(bif decide (k400<(list.length:Int)) then decide ((list.getD k400.toNat default).In<r1.In) else false)=true=>(fun _:(list.getD k400.toNat default).In<r1.In=>(fun _:k400<(list.length:Int)=>ai ((by unfold i64ok; first | omega | (simp only [lens] at*<;> omega):i64ok (k400+1))) (Exists.intro (p:=fun j:Nat×Int=>(fun (k400_:Int)=>(((.int .i64 (k400+1):Value)=.int .i64 k400_)∧(Imp (.l 3 Ql list) (.l 3 Ql list))∧((.int .i64 r1.In:Value)=.int .i64 r1.In)∧((.int .i64 r1.Next:Value)=.int .i64 r1.Next)∧((.int .i64 r1.Out:Value)=.int .i64 r1.Out)∧((runL (F89_s0 list r1) j.1 j.2=(runL (F89_s0 list r1) (((list.length:Int)-0).toNat+1) 0)∧Int.toNat ((list.length:Int)-k400_)<j.1∧k400_≤(list.length:Int)∧(0:Int)≤k400_)∧j.1<i0.1))) j.2) (m0,(k400+1)) (ai (rfl) (ai (ir) (ai (rfl) (ai (rfl) (ai (rfl) (ai (ai (runL_next hI0 (condT h3 (rfl))) (ai ((by first | omega | (simp only [lens] at*<;> omega):Int.toNat ((list.length:Int)-(k400+1))<m0)) (ai ((by first | omega | (simp only [lens] at*<;> omega):(k400+1)≤(list.length:Int))) ((by first | omega | (simp only [lens] at*<;> omega):(0:Int)≤(k400+1)))))) hl0)))))))) (of_decide_eq_true (andT1 h3))) (of_decide_eq_true (andT2 h3))) (fun h3:(bif decide (k400<(list.length:Int)) then decide ((list.getD k400.toNat default).In<r1.In) else false)=false=>(fun hD0_4:(runL (F89_s0 list r1) (((list.length:Int)-0).toNat+1) 0)=Lp.done k400=>Exists.intro (p:=fun j:Int=>(fun (k_:Int)=>(((.int .i64 k400:Value)=.int .i64 k_)∧(Imp (.l 3 Ql list) (.l 3 Ql list))∧((.int .i64 r1.In:Value)=.int .i64 r1.In)∧((.int .i64 r1.Next:Value)=.int .i64 r1.Next)∧((.int .i64 r1.Out:Value)=.int .i64 r1.Out)∧(F89_j0 list r1)=Lp.done j∧0≤k_∧k_≤(list.length:Int))) j) (k400) (ai (rfl) (ai (ir) (ai (rfl) (ai (rfl) (ai (rfl) (ai (Eq.symm (finD hD0_4 (rfl))) (ai ((by first | omega | (simp only [lens] at*<;> omega):0≤k400)) ((by first | omega | (simp only [lens] at*<;> omega):k400≤(list.length:Int))))))))))) (runL_done hI0 (condF h3 (rfl)))))) (i0.1-1) i0.2 (hd1 hi0.1 hi0.2.1) (hd2 hi0.2.1) (hd3 hi0.2.1) hi0.2.2.1 hi0.2.2.2)) (fun (j:Int) (hj:(fun (k:Int)=>((F89_j0 list r1)=Lp.done j∧0≤k∧k≤(list.length:Int))) j)=>(fun (k:Int) (hJ0_5:(F89_j0 list r1)=Lp.done k) (_:0≤k) (_:k≤(list.length:Int))=>ai ((BuildOK.mk Ql ([]:List Qk) rfl (by exact trivial) (fun _=>rfl):BuildOK 0 3 [] (.l 3 Ql ([]:List Qk)))) (ai ((by first | omega | (simp only [lens] at*<;> omega):0≤(0:Int)∧(0:Int)≤k∧k≤(list.length:Int))) (ai ((AppL.mk Ql ([]:List Qk) (list.take k.toNat) (Imp.refl (.l 3 Ql ([]:List Qk))) ir (fun y=>⟨rfl,fun e he=>by simp only [Ql,List.mem_cons,List.not_mem_nil,or_false] at he; rcases he with rfl | rfl | rfl <;> exact ⟨_,rfl⟩⟩):AppL (.l 3 Ql ([]:List Qk)) (.l 3 Ql (list.take k.toNat)) 3 (.l 3 Ql (([]:List Qk)++(list.take k.toNat))))) (ai ((by (try simp only [lens]); omega:((([]:List Qk)++(list.take k.toNat))).length*24≤140737488355328)) (ai ((AppA.mk Ql (([]:List Qk)++(list.take k.toNat)) [r1] (Imp.refl (.l 3 Ql (([]:List Qk)++(list.take k.toNat)))) rfl (by exact ai ir (ai ir (ai ir (trivial)))) (fun _=>rfl):AppA (.l 3 Ql (([]:List Qk)++(list.take k.toNat))) 1 3 [.v (vI r1.In),.v (vI r1.Next),.v (vI r1.Out)] (.l 3 Ql ((([]:List Qk)++(list.take k.toNat))++[r1])))) (ai ((by (try simp only [lens]); omega:(((([]:List Qk)++(list.take k.toNat))++[r1])).length*24≤140737488355328)) (ai ((by first | omega | (simp only [lens] at*<;> omega):0≤k∧k≤(list.length:Int)∧(list.length:Int)≤(list.length:Int))) (ai ((AppL.mk Ql ((([]:List Qk)++(list.take k.toNat))++[r1]) (list.drop k.toNat) (Imp.refl (.l 3 Ql ((([]:List Qk)++(list.take k.toNat))++[r1]))) ir (fun y=>⟨rfl,fun e he=>by simp only [Ql,List.mem_cons,List.not_mem_nil,or_false] at he; rcases he with rfl | rfl | rfl <;> exact ⟨_,rfl⟩⟩):AppL (.l 3 Ql ((([]:List Qk)++(list.take k.toNat))++[r1])) (.l 3 Ql (list.drop k.toNat)) 3 (.l 3 Ql (((([]:List Qk)++(list.take k.toNat))++[r1])++(list.drop k.toNat))))) (ai ((by (try simp only [lens]); omega:((((([]:List Qk)++(list.take k.toNat))++[r1])++(list.drop k.toNat))).length*24≤140737488355328)) ((fun hF:((((([]:List Qk)++(list.take k.toNat))++[r1])++(list.drop k.toNat)):List Qk)=(F89 list r1)=>ai (Imp.of_eq (congrArg (fun r:List Qk=>Dat.l 3 Ql r) hF)) (trivial)) (finD hJ0_5 (rfl)))))))))))) j hj.1 hj.2.1 hj.2.2)) (by kernel_rfl)
theorem getD_mapL {α β:Type} [Inhabited α] [Inhabited β] (f:α→β) (l:List α) {k:Nat} (h:k<l.length):(l.map f).getD k default=f (l.getD k default):=by
 rw [getD_lt _ (by simpa using h),getD_lt _ h,List.getElem_map]
theorem search1 {ρ τ:Type} (p:Nat→Bool) (r:Nat→ρ) (n:Nat) (step:Int→Lp Int ρ) (hs:∀ k:Nat,k<n→step ((k:Int)+1)=bif p k then .ret (r k) else .next ((k:Int)+1+1)) (he:step ((n:Int)+1)=.done ((n:Int)+1)) (f:ρ→τ) (g:Int→τ) :
  (runL step (n+1) 1).fin f g=match first p n with | some k=>f (r k) | none=>g ((n:Int)+1):=by
 have h:=runL_rule (step:=step) (fun (k:Nat) (_:Unit)=>(k:Int)+1) n (fun k _=>∀ j,j<k→p j=false) (fun x=>∃ k,first p n=some k∧x=r k)
  (fun k _ hk hI=>by
   cases hp:p k with
   | false =>
    refine .inl ⟨(),by rw [hs k hk,hp]; rfl,fun j hj=>?_⟩
    rcases Nat.lt_succ_iff_lt_or_eq.1 hj with h | rfl
    ·exact hI j h
    ·exact hp
   | true=>exact .inr ⟨r k,by rw [hs k hk,hp]; rfl,k,first_some.2 ⟨hk,hp,hI⟩,rfl⟩)
  (fun _ _=>he) n 0 () (by omega) (fun j hj=>by omega) (n+1) (Nat.lt_succ_self _)
 rcases h with ⟨_,h,hI⟩ | ⟨x,h,k,hk,rfl⟩
 ·have h:runL step (n+1) 1=.done ((n:Int)+1):=h
  rw [h,first_none.2 hI]; rfl
 ·have h:runL step (n+1) 1=.ret (r k):=h
  rw [h,hk]; rfl
def stopAt (p:Nat→Bool) (n:Nat):Nat:=(first (fun k=>!(p k)) n).getD n
theorem stopAt_le (p:Nat→Bool) (n:Nat):stopAt p n≤n:=by
 unfold stopAt
 cases h:first (fun k=>!(p k)) n with
 | none=>exact Nat.le_refl _
 | some k=>exact Nat.le_of_lt (first_some.1 h).1
theorem stopAt_lt {p:Nat→Bool} {n k:Nat} (h:k<stopAt p n):p k=true:=by
 unfold stopAt at h
 cases e:first (fun k=>!(p k)) n with
 | none=>rw [e] at h; have:=first_none.1 e k h; simpa using this
 | some j=>rw [e] at h; have:=(first_some.1 e).2.2 k h; simpa using this
theorem stopAt_at {p:Nat→Bool} {n:Nat} (h:stopAt p n<n):p (stopAt p n)=false:=by
 unfold stopAt at h ⊢
 cases e:first (fun k=>!(p k)) n with
 | none=>rw [e] at h; exact absurd h (Nat.lt_irrefl _)
 | some j=>have:=(first_some.1 e).2.1; simpa using this
theorem whileL {ρ:Type} (p:Nat→Bool) (n:Nat) (step:Int→Lp Int ρ) (hs:∀ k:Nat,k≤n→step (k:Int)=bif (decide (k<n)&&p k) then .next ((k:Int)+1) else .done (k:Int)) :
  runL step (n+1) 0=.done (stopAt p n:Int):=by
 have key:∀ m k,k+m=stopAt p n→∀ M,m<M→runL step M (k:Int)=.done (stopAt p n:Int):=by
  intro m
  induction m with
  | zero =>
   intro k hk M hM
   obtain ⟨M,rfl⟩:∃ M',M=M'+1:=⟨M-1,by omega⟩
   have hle:=stopAt_le p n
   have hk':k=stopAt p n:=by omega
   have:(decide (k<n)&&p k)=false:=by
    by_cases hlt:k<n
    ·rw [hk'] at hlt ⊢; rw [stopAt_at hlt,Bool.and_false]
    ·rw [decide_eq_false hlt]; rfl
   simp only [runL]
   rw [hs k (by omega),this,hk']; rfl
  | succ m ih =>
   intro k hk M hM
   obtain ⟨M,rfl⟩:∃ M',M=M'+1:=⟨M-1,by omega⟩
   have hle:=stopAt_le p n
   have h1:p k=true:=stopAt_lt (n:=n) (by omega)
   have h2:decide (k<n)=true:=decide_eq_true (by omega)
   simp only [runL,hs k (by omega),h1,h2,Bool.and_self,cond_true]
   exact ih (k+1) (by omega) M (by omega)
 have hle:=stopAt_le p n
 exact key (stopAt p n) 0 (by omega) (n+1) (by omega)
def putK {α:Type} [Inhabited α] (key:α→Int) (xs:List α) (r:α):List α :=
 xs.take (stopAt (fun k=>decide (key (xs.getD k default)<key r)) xs.length)++[r]++xs.drop (stopAt (fun k=>decide (key (xs.getD k default)<key r)) xs.length)
theorem putK_perm {α:Type} [Inhabited α] (key:α→Int) (xs:List α) (r:α):(putK key xs r).Perm (xs++[r]):=by
 unfold putK
 generalize stopAt _ _=k
 have h1:(xs.take k++[r]++xs.drop k).Perm (xs.take k++(xs.drop k++[r])):=by
  rw [List.append_assoc]
  exact List.Perm.append_left _ (List.perm_append_comm)
 refine h1.trans ?_
 rw [← List.append_assoc,List.take_append_drop]
theorem putK_mem {α:Type} [Inhabited α] {key:α→Int} {xs:List α} {r x:α}:x∈putK key xs r↔x∈xs∨x=r:=by
 rw [(putK_perm key xs r).mem_iff]; simp
theorem putK_inc {α:Type} [Inhabited α] (key:α→Int) (xs:List α) (r:α) (hk:xs.Pairwise (fun a b=>key a<key b)) (hn:∀ a∈xs,key a≠key r):(putK key xs r).Pairwise (fun a b=>key a<key b):=by
 unfold putK
 generalize hg:stopAt (fun k=>decide (key (xs.getD k default)<key r)) xs.length=k
 have hkl:k≤xs.length:=by rw [← hg]; exact stopAt_le _ _
 have hA:∀ a∈xs.take k,key a<key r:=by
  intro a ha
  obtain ⟨i,hi,rfl⟩:=List.mem_iff_getElem.1 ha
  have hi':i<k:=by simp at hi; omega
  have:=stopAt_lt (p:=fun k=>decide (key (xs.getD k default)<key r)) (n:=xs.length) (k:=i) (by rw [hg]; exact hi')
  have:=of_decide_eq_true this
  rw [getD_lt xs (by omega)] at this
  rw [List.getElem_take]; exact this
 have hB:∀ a∈xs.drop k,key r<key a:=by
  by_cases hlt:k<xs.length
  ·have h0:=stopAt_at (p:=fun k=>decide (key (xs.getD k default)<key r)) (n:=xs.length) (by rw [hg]; exact hlt)
   rw [hg] at h0
   have h0:=of_decide_eq_false h0
   rw [getD_lt xs hlt] at h0
   have hne:=hn _ (List.getElem_mem hlt)
   have hpd:(xs.drop k).Pairwise (fun a b=>key a<key b):=hk.drop
   rw [List.drop_eq_getElem_cons hlt] at hpd ⊢
   intro a ha
   rcases List.mem_cons.1 ha with rfl | ha
   ·omega
   ·have:=(List.pairwise_cons.1 hpd).1 a ha; omega
  ·rw [List.drop_of_length_le (by omega)]; intro a ha; cases ha
 rw [List.append_assoc,List.pairwise_append]
 refine ⟨hk.take,?_,?_⟩
 ·rw [List.singleton_append,List.pairwise_cons]
  exact ⟨hB,hk.drop⟩
 ·intro a ha b hb
  rw [List.singleton_append] at hb
  have h1:=hA a ha
  rcases List.mem_cons.1 hb with rfl | hb
  ·exact h1
  ·have:=hB b hb; omega
theorem pairK_uniq {α:Type} {key:α→Int} {xs:List α} (h:xs.Pairwise (fun a b=>key a<key b)) {a b:α} (ha:a∈xs) (hb:b∈xs) (e:key a=key b):a=b:=by
 induction xs with
 | nil=>cases ha
 | cons x t ih =>
  rw [List.pairwise_cons] at h
  rcases List.mem_cons.1 ha with ha | ha <;> rcases List.mem_cons.1 hb with hb | hb
  ·rw [ha,hb]
  ·have:=h.1 b hb; rw [← ha] at this; omega
  ·have:=h.1 a ha; rw [← hb] at this; omega
  ·exact ih h.2 ha hb
def badP (n:Qe) (path:List Int) (i:Nat):Bool :=
 (!decide (0≤path.getD i default∧path.getD i default≤(n.Qa.length:Int)-1)) || ((decide (0<i)&&decide (Qt n (path.getD (i-1) default) (path.getD i default)<0)) || (first (fun k=>decide (path.getD k default=path.getD i default)) i).isSome)
def pathB (n:Qe) (path:List Int):Bool:=decide (2≤(path.length:Int)∧(path.length:Int)≤(n.Qa.length:Int))&&(first (badP n path) path.length).isNone
structure PathOk (n:Qe) (path:List Int):Prop where
 two:2≤path.length
 most:path.length≤n.Qa.length
 rng:∀ i,i<path.length→0≤path.getD i default∧path.getD i default<(n.Qa.length:Int)
 lnk:∀ i,i+1<path.length→0≤Qt n (path.getD i default) (path.getD (i+1) default)
 inj:∀ i j,i<path.length→j<path.length→path.getD i default=path.getD j default→i=j
theorem pathB_ok {n:Qe} {path:List Int}:pathB n path=true↔PathOk n path:=by
 unfold pathB
 simp only [Bool.and_eq_true,decide_eq_true_eq,allB_iff,badP,Bool.or_eq_false_iff,Bool.not_eq_false',Bool.and_eq_false_iff,decide_eq_false_iff_not,Option.isSome_eq_false_iff,Option.isNone_iff_eq_none,first_none]
 constructor
 ·rintro ⟨⟨h1,h2⟩,h3⟩
  refine ⟨by omega,by omega,fun i hi=>?_,fun i hi=>?_,?_⟩
  ·have:=(h3 i hi).1; omega
  ·have:=(h3 (i+1) hi).2.1; simp only [Nat.add_sub_cancel] at this; omega
  ·have key:∀ i j,j<path.length→i<j→path.getD i default≠path.getD j default:=fun i j hj hij=>(h3 j hj).2.2 i hij
   intro i j hi hj e
   rcases Nat.lt_trichotomy i j with h | h | h
   ·exact absurd e (key i j hj h)
   ·exact h
   ·exact absurd e.symm (key j i hi h)
 ·intro h
  have:=h.two; have:=h.most
  refine ⟨by omega,fun i hi=>⟨?_,?_,fun k hk e=>?_⟩⟩
  ·have:=h.rng i hi; omega
  ·cases i with
   | zero=>left; omega
   | succ i=>right; have:=h.lnk i hi; simp only [Nat.add_sub_cancel]; omega
  ·have:=h.inj k i (by omega) hi e; omega
theorem pathB_T (n:Qe) (path:List Int) (h:pathB n path=true):PathOk n path:=pathB_ok.1 h
theorem pathB_len (n:Qe) (path:List Int) (h:pathB n path=true):path.length≤n.Qa.length:=(pathB_ok.1 h).most
theorem as76 (n:Qe) (path:List Int):F76 n path=pathB n path:=by
 unfold F76 pathB
 rw [search (badP n path) (fun _=>false) path.length _ (fun i hi=>by
  simp only [F76_s0,ltD hi,cond_true,nn,bord,bandd,toNat_pred,pos_cast]
  rw [search (fun k=>decide (path.getD k default=path.getD i default)) (fun _=>false) i _ (fun k hk=>by simp only [F76_s1,ltD hk,cond_true,nn,beqD]) (by simp [F76_s1])]
  unfold badP
  rw [← Bool.or_assoc]
  cases (!decide (0≤path.getD i default∧path.getD i default≤(n.Qa.length:Int)-1) || (decide (0<i)&&decide (Qt n (path.getD (i-1) default) (path.getD i default)<0)))
  ·cases first (fun k=>decide (path.getD k default=path.getD i default)) i <;> rfl
  ·rfl) (by simp [F76_s0])]
 cases decide (2≤(path.length:Int)∧(path.length:Int)≤(n.Qa.length:Int))
 ·rfl
 ·cases first (badP n path) path.length <;> rfl
def freeOf (b:Qi):Int:=match first (fun k=>(rowIx b ((k:Int)+1)).isNone) 60 with
 | some k=>(k:Int)+1
 | none=>0
theorem freeOf_ok {b:Qi} (h:freeOf b≠0):isLabel (freeOf b)∧rowIx b (freeOf b)=none:=by
 unfold freeOf at h ⊢
 cases e:first (fun k=>(rowIx b ((k:Int)+1)).isNone) 60 with
 | none=>rw [e] at h; exact absurd rfl h
 | some k =>
  obtain ⟨h1,h2,_⟩:=first_some.1 e
  simp only at h1 h2 ⊢
  exact ⟨⟨by omega,by omega⟩,Option.isNone_iff_eq_none.1 h2⟩
theorem as118 (b:Qi):F118 b=freeOf b:=by
 unfold F118 freeOf
 rw [show (Int.toNat (60-1+1))+1=60+1 from rfl]
 rw [search1 (fun k=>(rowIx b ((k:Int)+1)).isNone) (fun k=>(k:Int)+1) 60 _ (fun k hk=>by
  simp only [F118_s0]
  rw [show decide ((k:Int)+1≤60)=true from decide_eq_true (by omega),cond_true]
  cases rowIx b ((k:Int)+1) with
  | none=>rfl
  | some j=>rw [show decide (oix (some j)<0)=false from decide_eq_false (by simp only [oix]; omega)]; rfl) (by simp [F118_s0])]
theorem free_new {b:Qi} (h:freeOf b≠0):∀ r∈b.Rows,r.In≠freeOf b:=by
 intro r hr e
 obtain ⟨k,hk,rfl⟩:=mem_getD hr
 have:=first_none.1 (freeOf_ok h).2 k hk
 rw [e] at this; simp at this
def BoxP (n:Qe) (i:Int) (b:Qi):Prop :=
 ((∀ r∈b.Rows,rowOk n i r)∧b.Rows.Pairwise (fun x y=>x.In<y.In))∧(∀ v∈b.Qc,viaOk n i v)∧b.Qc.Pairwise (fun x y=>x.To<y.To)
theorem pair_inc {α:Type} [Inhabited α] {xs:List α} {f:α→Int} (h:xs.Pairwise (fun a b=>f a<f b)) (k:Nat) (hk:k+1<xs.length):f (xs.getD k default)<f (xs.getD (k+1) default):=by
 rw [getD_lt xs (by omega),getD_lt xs hk]
 exact List.pairwise_iff_getElem.1 h k (k+1) (by omega) hk (by omega)
theorem boxP_ok {n:Qe} {i:Nat}:BoxOk n i↔BoxP n i (n.Qa.getD i default):=by
 constructor
 ·intro h
  refine ⟨⟨fun r hr=>?_,inc_pair _ (fun r:Qk=>r.In) h.rinc⟩,fun v hv=>?_,inc_pair _ (fun r:Qn=>r.To) h.vinc⟩
  ·obtain ⟨k,hk,rfl⟩:=mem_getD hr; exact h.row k hk
  ·obtain ⟨k,hk,rfl⟩:=mem_getD hv; exact h.via k hk
 ·rintro ⟨⟨h1,h2⟩,h3,h4⟩
  exact ⟨fun k hk=>h1 _ (getD_mem _ hk),fun k hk=>pair_inc (f:=fun r:Qk=>r.In) h2 k hk,fun k hk=>h3 _ (getD_mem _ hk),fun k hk=>pair_inc (f:=fun r:Qn=>r.To) h4 k hk⟩
theorem getD_set {α:Type} [Inhabited α] (xs:List α) (i:Nat) (x:α) (k:Nat):(xs.set i x).getD k default=if i=k∧k<xs.length then x else xs.getD k default:=by
 rw [List.getD_eq_getElem?_getD,List.getElem?_set]
 by_cases h1:i=k
 ·subst h1
  by_cases h2:i<xs.length
  ·simp [h2]
  ·rw [if_pos rfl,if_neg h2,if_neg (by simp [h2]),getD_ge _ (by omega)]; rfl
 ·simp [h1,List.getD_eq_getElem?_getD]
theorem netOk_set {n:Qe} (h:Qv n) {i:Nat} {b:Qi} (hb:BoxP n i b):Qv ⟨n.Qb,n.Qa.set i b⟩:=by
 obtain ⟨f,g⟩:=h
 refine ⟨⟨by simpa using f.b1,by simpa using f.b8,f.l14,fun k hk=>?_,f.inc⟩,fun k hk=>?_⟩
 ·have:=f.ab k hk
  simpa using this
 ·have hk':k<n.Qa.length:=by simpa using hk
  rw [boxP_ok]
  show BoxP n k ((n.Qa.set i b).getD k default)
  rw [getD_set]
  by_cases e:i=k
  ·subst e; rw [if_pos ⟨rfl,hk'⟩]; exact hb
  ·rw [if_neg (fun h=>e h.1)]; exact boxP_ok.1 (g k hk')
def rowAt (path labels:List Int) (i:Nat):Qk :=
 ⟨labels.getD i default,bif decide ((i:Int)+1<(path.length:Int)) then path.getD (i+1) default else -1,bif decide ((i:Int)+1<(path.length:Int)) then labels.getD (i+1) default else 0⟩
def layTo (n:Qe) (path labels:List Int):Nat→List Qi
 | 0=>n.Qa
 | i+1=>(layTo n path labels i).set (path.getD i default).toNat ⟨putK (fun x:Qk=>x.In) ((layTo n path labels i).getD (path.getD i default).toNat default).Rows (rowAt path labels i),((layTo n path labels i).getD (path.getD i default).toNat default).Qc⟩
theorem layTo_len (n:Qe) (path labels:List Int):∀ i,(layTo n path labels i).length=n.Qa.length
 | 0=>rfl
 | i+1=>by simp [layTo,layTo_len n path labels i]
theorem PathOk.ne {n:Qe} {path:List Int} (h:PathOk n path) {i j:Nat} (hi:i<path.length) (hj:j<path.length) (hij:i≠j):Int.toNat (path.getD i default)≠Int.toNat (path.getD j default):=fun e=>by
 have h1:=h.rng i hi; have h2:=h.rng j hj
 exact hij (h.inj i j hi hj (by omega))
theorem layTo_at {n:Qe} {path:List Int} (h:PathOk n path) (labels:List Int):∀ i j,i≤j→j<path.length→(layTo n path labels i).getD (path.getD j default).toNat default=n.Qa.getD (path.getD j default).toNat default
 | 0,_,_,_=>rfl
 | i+1,j,hij,hj=>by
  rw [layTo,getD_set,if_neg (fun e=>h.ne (by omega) hj (by omega) e.1)]
  exact layTo_at h labels i j (by omega) hj
def freeOn (n:Qe) (b:Int):Int:=freeOf (n.Qa.getD b.toNat default)
structure LayP (n:Qe) (path labels:List Int):Prop where
 net:Qv n
 pth:PathOk n path
 lab:labels=path.map (freeOn n)
 nz:∀ x∈labels,x≠0
theorem LayP.len {n:Qe} {path labels:List Int} (h:LayP n path labels):labels.length=path.length:=by rw [h.lab,List.length_map]
theorem LayP.at_ {n:Qe} {path labels:List Int} (h:LayP n path labels) {i:Nat} (hi:i<path.length):labels.getD i default=freeOf (n.Qa.getD (path.getD i default).toNat default)∧freeOf (n.Qa.getD (path.getD i default).toNat default)≠0:=by
 have hl:=h.len
 have e:labels.getD i default=freeOf (n.Qa.getD (path.getD i default).toNat default):=by rw [h.lab,getD_mapL _ _ hi]; rfl
 exact ⟨e,e ▸ h.nz _ (getD_mem _ (by omega))⟩
theorem LayP.lbl {n:Qe} {path labels:List Int} (h:LayP n path labels) {i:Nat} (hi:i<path.length):isLabel (labels.getD i default):=by
 obtain ⟨h1,h2⟩:=h.at_ hi
 rw [h1]; exact (freeOf_ok h2).1
theorem LayP.row {n:Qe} {path labels:List Int} (h:LayP n path labels) {i:Nat} (hi:i<path.length):rowOk n (path.getD i default) (rowAt path labels i):=by
 refine ⟨h.lbl hi,?_⟩
 by_cases hx:(i:Int)+1<(path.length:Int)
 ·right
  simp only [rowAt,decide_eq_true hx,cond_true]
  exact ⟨h.pth.lnk i (by omega),h.lbl (by omega)⟩
 ·left
  simp [rowAt,decide_eq_false hx]
theorem LayP.new {n:Qe} {path labels:List Int} (h:LayP n path labels) {i:Nat} (hi:i<path.length):∀ r∈(n.Qa.getD (path.getD i default).toNat default).Rows,r.In≠(rowAt path labels i).In:=by
 obtain ⟨h1,h2⟩:=h.at_ hi
 intro r hr
 show r.In≠labels.getD i default
 rw [h1]; exact free_new h2 r hr
theorem LayP.box {n:Qe} {path labels:List Int} (h:LayP n path labels) {i:Nat} (hi:i<path.length):BoxP n (path.getD i default) (n.Qa.getD (path.getD i default).toNat default):=by
 have:=h.pth.rng i hi
 have hb:=boxP_ok.1 (h.net.box (path.getD i default).toNat (by omega))
 rwa [show ((Int.toNat (path.getD i default):Nat):Int)=path.getD i default from by omega] at hb
theorem LayP.putOk {n:Qe} {path labels:List Int} (h:LayP n path labels) {i:Nat} (hi:i<path.length) :
  BoxP n (path.getD i default) ⟨putK (fun x:Qk=>x.In) (n.Qa.getD (path.getD i default).toNat default).Rows (rowAt path labels i),(n.Qa.getD (path.getD i default).toNat default).Qc⟩:=by
 obtain ⟨⟨h1,h2⟩,h3⟩:=h.box hi
 refine ⟨⟨fun r hr=>?_,putK_inc (fun x:Qk=>x.In) _ _ h2 (h.new hi)⟩,h3⟩
 rcases putK_mem.1 hr with hr | rfl
 ·exact h1 r hr
 ·exact h.row hi
theorem LayP.netTo {n:Qe} {path labels:List Int} (h:LayP n path labels):∀ i,i≤path.length→Qv ⟨n.Qb,layTo n path labels i⟩
 | 0,_=>h.net
 | i+1,hi=>by
  have ih:=h.netTo i (by omega)
  have hr:=h.pth.rng i (by omega)
  rw [layTo,layTo_at h.pth labels i i (Nat.le_refl _) (by omega)]
  have hb:=h.putOk (i:=i) (by omega)
  exact netOk_set (n:=⟨n.Qb,layTo n path labels i⟩) ih (i:=Int.toNat (path.getD i default)) (by
   rw [show ((Int.toNat (path.getD i default):Nat):Int)=path.getD i default from by omega]; exact hb)
structure LayS (n:Qe) (path labels:List Int) (i:Int) (xs:List Qi):Prop where
 p:LayP n path labels
 hi:0≤i
 hl:i≤(path.length:Int)
 xs:xs=layTo n path labels i.toNat
theorem LayS.zero {n:Qe} {path labels:List Int} (h:LayP n path labels):LayS n path labels 0 n.Qa:=⟨h,by omega,by omega,rfl⟩
theorem LayS.in_ {n:Qe} {path labels:List Int} {i:Int} {xs:List Qi} (h:LayS n path labels i xs) (hi:i<(path.length:Int)) :
  0≤path.getD i.toNat default∧path.getD i.toNat default<(xs.length:Int)∧(xs.getD (path.getD i.toNat default).toNat default).Rows.length≤60:=by
 obtain ⟨p,h0,_,rfl⟩:=h
 have:=p.pth.rng i.toNat (by omega)
 rw [layTo_len,layTo_at p.pth labels i.toNat i.toNat (Nat.le_refl _) (by omega)]
 exact ⟨this.1,this.2,Qv.rows p.net _⟩
theorem LayS.next {n:Qe} {path labels:List Int} {i:Int} {xs:List Qi} (h:LayS n path labels i xs) (hi:i<(path.length:Int)) {r:Qk} (hr:r=rowAt path labels i.toNat) :
  LayS n path labels (i+1) (xs.set (path.getD i.toNat default).toNat ⟨putK (fun x:Qk=>x.In) (xs.getD (path.getD i.toNat default).toNat default).Rows r,(xs.getD (path.getD i.toNat default).toNat default).Qc⟩):=by
 obtain ⟨p,h0,_,rfl⟩:=h
 subst hr
 refine ⟨p,by omega,by omega,?_⟩
 rw [show Int.toNat (i+1)=Int.toNat i+1 from by omega]; rfl
theorem rowAt_T {path labels:List Int} {i:Int} (h0:0≤i) (h:i+1<(path.length:Int)):(⟨labels.getD i.toNat default,path.getD (i+1).toNat default,labels.getD (i+1).toNat default⟩:Qk)=rowAt path labels i.toNat:=by
 unfold rowAt
 rw [decide_eq_true (show ((Int.toNat i:Nat):Int)+1<(path.length:Int) from by omega),show Int.toNat (i+1)=Int.toNat i+1 from by omega]
 rfl
theorem rowAt_F {path labels:List Int} {i:Int} (h0:0≤i) (h:¬ i+1<(path.length:Int)):(⟨labels.getD i.toNat default,-1,0⟩:Qk)=rowAt path labels i.toNat:=by
 unfold rowAt
 rw [decide_eq_false (show ¬ ((Int.toNat i:Nat):Int)+1<(path.length:Int) from by omega)]
 rfl
theorem PathOk.in_ {n:Qe} {path:List Int} (h:PathOk n path) {i:Int} (h0:0≤i) (hi:i<(path.length:Int)):0≤path.getD i.toNat default∧path.getD i.toNat default<(n.Qa.length:Int):=h.rng _ (by omega)
structure LabI (n:Qe) (path:List Int) (i:Int) (xs:List Int):Prop where
 hi:0≤i
 hl:i≤(path.length:Int)
 eq:xs=(path.take i.toNat).map (freeOn n)
 nz:∀ x∈xs,x≠0
theorem LabI.zero (n:Qe) (path:List Int):LabI n path 0 []:=⟨by omega,by omega,rfl,fun x hx=>by cases hx⟩
theorem LabI.next {n:Qe} {path:List Int} {i:Int} {xs:List Int} (h:LabI n path i xs) (hi:i<(path.length:Int)) (hz:¬ freeOf (n.Qa.getD (path.getD i.toNat default).toNat default)=0) :
  LabI n path (i+1) (xs++[freeOf (n.Qa.getD (path.getD i.toNat default).toNat default)]):=by
 obtain ⟨h0,_,rfl,h3⟩:=h
 refine ⟨by omega,by omega,?_,fun x hx=>?_⟩
 ·rw [show Int.toNat (i+1)=Int.toNat i+1 from by omega,take_next (by omega),List.map_append]; rfl
 ·rcases List.mem_append.1 hx with hx | hx
  ·exact h3 x hx
  ·rw [List.mem_singleton.1 hx]; exact hz
theorem LabI.done {n:Qe} {path:List Int} {i:Int} {xs:List Int} (h:LabI n path i xs) (hi:¬ i<(path.length:Int)) (hn:Qv n) (hp:PathOk n path):LayP n path xs:=by
 obtain ⟨h0,h1,h2,h3⟩:=h
 rw [List.take_of_length_le (by omega)] at h2
 exact ⟨hn,hp,h2,h3⟩
theorem LabI.len {n:Qe} {path:List Int} {i:Int} {xs:List Int} (h:LabI n path i xs):(xs.length:Int)=i:=by
 obtain ⟨h0,h1,h2,h3⟩:=h
 rw [h2,List.length_map,List.length_take]; omega
theorem whilePut {α ρ:Type} [Inhabited α] (key:α→Int) (xs:List α) (r:α) (step:Int→Lp Int ρ) (hs:∀ k,step k=bif (bif decide (k<(xs.length:Int)) then decide (key (xs.getD k.toNat default)<key r) else false) then .next (k+1) else .done k) :
  runL step (((xs.length:Int)-0).toNat+1) 0=.done (stopAt (fun k=>decide (key (xs.getD k default)<key r)) xs.length:Int):=by
 rw [n0]
 refine whileL _ _ step fun k hk=>?_
 rw [hs,bandd,nn]
 congr 2
 simp
theorem as89 (list:List Qk) (r1:Qk):F89 list r1=putK (fun x:Qk=>x.In) list r1:=by
 unfold F89 F89_j0 putK
 rw [whilePut (fun x:Qk=>x.In) list r1 (F89_s0 list r1) (fun k=>rfl)]
 simp only [Lp.fin,nn,List.nil_append]
theorem oa76 (n:Qe) (path:List Int):(S76 (pathB n path) n path).ok Try.prog 76:=by
 intro hp; have h:=ok76 n path hp; rw [as76 n path] at h; exact h
theorem oa118 (b:Qi):(S118 (freeOf b) b).ok Try.prog 118:=by
 intro hp; have h:=ok118 b hp; rw [as118 b] at h; exact h
def T89 (R:List Qk) (list:List Qk) (r1:Qk):Spec:=⟨(S89 R list r1).args,(S89 R list r1).res,list.length≤1000000000⟩
theorem oa89 (list:List Qk) (r1:Qk):(T89 (putK (fun x:Qk=>x.In) list r1) list r1).ok Try.prog 89:=by
 intro hp; have h:=ok89 list r1 hp; rw [as89 list r1] at h; exact h
def F77_s0 (n:Qe) (path:List Int):(List Int×Int)→Lp (List Int×Int) (List Int):=fun (out,i40) =>
 bif (decide (i40<(path.length:Int))) then (bif ((freeOf (n.Qa.getD (path.getD i40.toNat default).toNat default))==0) then (.ret ([]:List Int)) else (.next ((out++[(freeOf (n.Qa.getD (path.getD i40.toNat default).toNat default))]),(i40+1)))) else (.done (out,i40))
def F77 (n:Qe) (path:List Int):List Int :=
 (runL (F77_s0 n path) (((path.length:Int)-0).toNat+1) (([]:List Int),0)).fin (fun r=>r) (fun (out,i40)=>out)
def S77 (R:List Int) (n:Qe) (path:List Int):Spec:=⟨[.r (.g (Qf n)),.r (.c (.l 1 eInt path))],.ow (.l 1 eInt R),PathOk n path∧path.length≤8⟩
abbrev q77_1 (n:Qe) (path:List Int) (i40:Int):=(n.Qa.getD (path.getD i40.toNat default).toNat default)
abbrev q77_2 (n:Qe) (path:List Int):=(runL (F77_s0 n path) (((path.length:Int)-0).toNat+1) (([]:List Int),0))
theorem ok77 (n:Qe) (path:List Int):(S77 (F77 n path) n path).ok Try.prog 77 :=
 fnG_ok mixed (fn:=Try.f77) (ct:=.seqk [(1,0)] (.no) (.seq (.reg [(0,.dat (.l 1 eInt ([]:List Int)))]) (.seq (.seqk [(1,0),(2,0),(2,1),(5,0)] (.no) (.blk (.loop (ι:=Nat×(List Int×Int)) (fun i=>(fun (out:List Int) (i40:Int)=>(⟨[(1,some (.h 0 0)),(2,some (.p 1 0)),(5,some (.h 4 0)),(6,some (.v (vI i40)))],[(0,some (.shr none (.l 1 eInt path))),(1,some (.box 26 [.h 2 0,.h 3 0])),(2,some (.shr none (.l 2 Qh n.Qb))),(3,some (.shr none (.l 2 Qj n.Qa))),(4,some (.own 4 (.l 1 eInt out)))],5⟩:St)) i.2.1 i.2.2) (fun i=>runL (F77_s0 n path) i.1 i.2=(q77_2 n path)∧(fun (out:List Int) (i40:Int)=>(Int.toNat ((path.length:Int)-i40)<i.1∧LabI n path i40 out∧(out.length:Int)=i40∧i40≤(path.length:Int)∧(i40<(path.length:Int)→0≤path.getD i40.toNat default∧path.getD i40.toNat default<(n.Qa.length:Int))∧(0:Int)≤i40)) i.2.1 i.2.2) (fun i=>i.1) ((((path.length:Int)-0).toNat+1),(([]:List Int),0)) (fun i=>(fun (out:List Int) (i40:Int)=>(.seq (.seq (.no) (.cond (.no) (.no))) (.seq (.blk (.seq (.reg [(8,.call 118 (S118 (freeOf (q77_1 n path i40)) (q77_1 n path i40)) (oa118 (q77_1 n path i40)) none)]) (.seq (.seq (.no) (.cond (.seq (.reg [(0,.dat (.l 1 eInt ([]:List Int)))]) (.no)) (.no))) (.reg [(3,.dat (.l 1 eInt (out++[(freeOf (q77_1 n path i40))])))])))) (.reg [(1,.bnd)])))) i.2.1 i.2.2)))) (.seq (.no) (.no))))) Try.func77 (fun (hp:PathOk n path∧path.length≤8)=>(fun (hpre0:PathOk n path) (hpre1:path.length≤8)=>fun (_:path.length≤9223372036854775807)=>ai ((BuildOK.mk eInt ([]:List Int) rfl (by exact trivial) (fun _=>rfl):BuildOK 0 1 [] (.l 1 eInt ([]:List Int)))) (fun (_:path.length≤9223372036854775807)=>fun (_:n.Qb.length≤9223372036854775807)=>fun (_:n.Qa.length≤9223372036854775807)=>fun (_:([]:List Int).length≤9223372036854775807)=>ai (ai (rfl) (ai (ir) (ai (ir) (ai (ir) (ai (ir) ((ai (rfl:runL (F77_s0 n path) (((path.length:Int)-0).toNat+1) (([]:List Int),0)=(q77_2 n path)) (ai ((Nat.lt_succ_self _:Int.toNat ((path.length:Int)-0)<(((path.length:Int)-0).toNat+1))) (ai ((by first | omega | (simp only [lens] at*<;> omega) | (exact LabI.zero _ _) | (exact LabI.next (by assumption) (by assumption) (by assumption)) | (exact fun hi=>PathOk.in_ (by assumption) (by omega) hi):LabI n path 0 ([]:List Int))) (ai ((by first | omega | (simp only [lens] at*<;> omega) | (exact LabI.zero _ _) | (exact LabI.next (by assumption) (by assumption) (by assumption)) | (exact fun hi=>PathOk.in_ (by assumption) (by omega) hi):(([]:List Int).length:Int)=0)) (ai ((by first | omega | (simp only [lens] at*<;> omega) | (exact LabI.zero _ _) | (exact LabI.next (by assumption) (by assumption) (by assumption)) | (exact fun hi=>PathOk.in_ (by assumption) (by omega) hi):0≤(path.length:Int))) (ai ((by first | omega | (simp only [lens] at*<;> omega) | (exact LabI.zero _ _) | (exact LabI.next (by assumption) (by assumption) (by assumption)) | (exact fun hi=>PathOk.in_ (by assumption) (by omega) hi):0<(path.length:Int)→0≤path.getD (Int.toNat 0) default∧path.getD (Int.toNat 0) default<(n.Qa.length:Int))) ((by first | omega | (simp only [lens] at*<;> omega) | (exact LabI.zero _ _) | (exact LabI.next (by assumption) (by assumption) (by assumption)) | (exact fun hi=>PathOk.in_ (by assumption) (by omega) hi):(0:Int)≤0))))))))))))):((.int .i64 0:Value)=.int .i64 0)∧(Imp (.l 1 eInt path) (.l 1 eInt path))∧(Imp (.l 2 Qh n.Qb) (.l 2 Qh n.Qb))∧(Imp (.l 2 Qj n.Qa) (.l 2 Qj n.Qa))∧(Imp (.l 1 eInt ([]:List Int)) (.l 1 eInt ([]:List Int)))∧(runL (F77_s0 n path) (((path.length:Int)-0).toNat+1) (([]:List Int),0)=(q77_2 n path)∧Int.toNat ((path.length:Int)-0)<(((path.length:Int)-0).toNat+1)∧LabI n path 0 ([]:List Int)∧(([]:List Int).length:Int)=0∧0≤(path.length:Int)∧(0<(path.length:Int)→0≤path.getD (Int.toNat 0) default∧path.getD (Int.toNat 0) default<(n.Qa.length:Int))∧(0:Int)≤0)) (fun (i0:Nat×(List Int×Int)) (hi0:runL (F77_s0 n path) i0.1 i0.2=(q77_2 n path)∧(fun (out:List Int) (i40:Int)=>(Int.toNat ((path.length:Int)-i40)<i0.1∧LabI n path i40 out∧(out.length:Int)=i40∧i40≤(path.length:Int)∧(i40<(path.length:Int)→0≤path.getD i40.toNat default∧path.getD i40.toNat default<(n.Qa.length:Int))∧(0:Int)≤i40)) i0.2.1 i0.2.2)=>(fun (m0:Nat) (out:List Int) (i40:Int) (hI0:runL (F77_s0 n path) (m0+1) (out,i40)=(q77_2 n path)) (_:Int.toNat ((path.length:Int)-i40)<m0+1) (hl0:m0<i0.1) (_:LabI n path i40 out) (_:(out.length:Int)=i40) (_:i40≤(path.length:Int)) (_:i40<(path.length:Int)→0≤path.getD i40.toNat default∧path.getD i40.toNat default<(n.Qa.length:Int)) (_:(0:Int)≤i40)=>ai (fun h2:(decide (i40<(path.length:Int)))=true=>(fun _:i40<(path.length:Int)=>ai ((by first | omega | (simp only [lens] at*<;> omega):0≤i40∧i40<(path.length:Int))) (ai ((by first | omega | (simp only [lens] at*<;> omega):0≤(path.getD i40.toNat default)∧(path.getD i40.toNat default)<(n.Qa.length:Int))) (ai (trivial) (ai ((Imps.refl (Qj (q77_1 n path i40)))) (ai (fun h3:((freeOf (q77_1 n path i40))==0)=true=>(fun _:(freeOf (q77_1 n path i40))=0=>ai ((BuildOK.mk eInt ([]:List Int) rfl (by exact trivial) (fun _=>rfl):BuildOK 0 1 [] (.l 1 eInt ([]:List Int)))) ((fun hF:(([]:List Int):List Int)=(F77 n path)=>ai (Imp.of_eq (congrArg (fun r:List Int=>Dat.l 1 eInt r) hF)) (trivial)) (finR (runL_ret hI0 (condT h2 (condT h3 (rfl)))) rfl))) (eq_of_beq h3)) (fun h3:((freeOf (q77_1 n path i40))==0)=false=>(fun _:¬ (freeOf (q77_1 n path i40))=0=>ai ((AppA.mk eInt out [(freeOf (q77_1 n path i40))] (Imp.refl (.l 1 eInt out)) rfl (by exact ai ir (trivial)) (fun _=>rfl):AppA (.l 1 eInt out) 1 1 [.v (vI (freeOf (q77_1 n path i40)))] (.l 1 eInt (out++[(freeOf (q77_1 n path i40))])))) (ai ((by (try simp only [lens]); omega:((out++[(freeOf (q77_1 n path i40))])).length*8≤140737488355328)) (ai ((by unfold i64ok; first | omega | (simp only [lens] at*<;> omega):i64ok (i40+1))) (Exists.intro (p:=fun j:Nat×(List Int×Int)=>(fun (out_:List Int) (i40_:Int)=>(((.int .i64 (i40+1):Value)=.int .i64 i40_)∧(Imp (.l 1 eInt path) (.l 1 eInt path))∧(Imp (.l 2 Qh n.Qb) (.l 2 Qh n.Qb))∧(Imp (.l 2 Qj n.Qa) (.l 2 Qj n.Qa))∧(Imp (.l 1 eInt (out++[(freeOf (q77_1 n path i40))])) (.l 1 eInt out_))∧((runL (F77_s0 n path) j.1 j.2=(q77_2 n path)∧Int.toNat ((path.length:Int)-i40_)<j.1∧LabI n path i40_ out_∧(out_.length:Int)=i40_∧i40_≤(path.length:Int)∧(i40_<(path.length:Int)→0≤path.getD i40_.toNat default∧path.getD i40_.toNat default<(n.Qa.length:Int))∧(0:Int)≤i40_)∧j.1<i0.1))) j.2.1 j.2.2) (m0,((out++[(freeOf (q77_1 n path i40))]),(i40+1))) (ai (rfl) (ai (ir) (ai (ir) (ai (ir) (ai (ir) (ai (ai (runL_next hI0 (condT h2 (condF h3 (rfl)))) (ai ((by first | omega | (simp only [lens] at*<;> omega) | (exact LabI.zero _ _) | (exact LabI.next (by assumption) (by assumption) (by assumption)) | (exact fun hi=>PathOk.in_ (by assumption) (by omega) hi):Int.toNat ((path.length:Int)-(i40+1))<m0)) (ai ((by first | omega | (simp only [lens] at*<;> omega) | (exact LabI.zero _ _) | (exact LabI.next (by assumption) (by assumption) (by assumption)) | (exact fun hi=>PathOk.in_ (by assumption) (by omega) hi):LabI n path (i40+1) (out++[(freeOf (q77_1 n path i40))]))) (ai ((by first | omega | (simp only [lens] at*<;> omega) | (exact LabI.zero _ _) | (exact LabI.next (by assumption) (by assumption) (by assumption)) | (exact fun hi=>PathOk.in_ (by assumption) (by omega) hi):((out++[(freeOf (q77_1 n path i40))]).length:Int)=(i40+1))) (ai ((by first | omega | (simp only [lens] at*<;> omega) | (exact LabI.zero _ _) | (exact LabI.next (by assumption) (by assumption) (by assumption)) | (exact fun hi=>PathOk.in_ (by assumption) (by omega) hi):(i40+1)≤(path.length:Int))) (ai ((by first | omega | (simp only [lens] at*<;> omega) | (exact LabI.zero _ _) | (exact LabI.next (by assumption) (by assumption) (by assumption)) | (exact fun hi=>PathOk.in_ (by assumption) (by omega) hi):(i40+1)<(path.length:Int)→0≤path.getD (i40+1).toNat default∧path.getD (i40+1).toNat default<(n.Qa.length:Int))) ((by first | omega | (simp only [lens] at*<;> omega) | (exact LabI.zero _ _) | (exact LabI.next (by assumption) (by assumption) (by assumption)) | (exact fun hi=>PathOk.in_ (by assumption) (by omega) hi):(0:Int)≤(i40+1))))))))) hl0)))))))))) (beqF h3))))))) (of_decide_eq_true h2)) (fun h2:(decide (i40<(path.length:Int)))=false=>(fun _:¬ i40<(path.length:Int)=>(fun hD0_4:(q77_2 n path)=Lp.done (out,i40)=>(fun hF:(out:List Int)=(F77 n path)=>ai (Imp.of_eq (congrArg (fun r:List Int=>Dat.l 1 eInt r) hF)) (trivial)) (finD hD0_4 (rfl))) (runL_done hI0 (condF h2 (rfl)))) (of_decide_eq_false h2))) (i0.1-1) i0.2.1 i0.2.2 (hd1 hi0.1 hi0.2.1) (hd2 hi0.2.1) (hd3 hi0.2.1) hi0.2.2.1 hi0.2.2.2.1 hi0.2.2.2.2.1 hi0.2.2.2.2.2.1 hi0.2.2.2.2.2.2))) hp.1 hp.2) (by kernel_rfl)
def F78_j2 (n:Qe) (path:List Int) (labels:List Int) (i40:Int) (xs:List Qi):Lp (Int×Int) Qe :=
 bif (decide ((i40+1)<(path.length:Int))) then (.done ((path.getD (i40+1).toNat default),(labels.getD (i40+1).toNat default))) else (.done ((-1),0))
def F78_s0 (n:Qe) (path:List Int) (labels:List Int):(Int×List Qi)→Lp (Int×List Qi) Qe:=fun (i40,xs) =>
 bif (decide (i40<(path.length:Int))) then ((F78_j2 n path labels i40 xs).fin Lp.ret (fun (r1,r2)=>.next ((i40+1),(xs.set ((path.getD i40.toNat default)).toNat (⟨(putK (fun x:Qk=>x.In) ((xs.getD (path.getD i40.toNat default).toNat default).Rows) (⟨(labels.getD i40.toNat default),r1,r2⟩:Qk)),(xs.getD (path.getD i40.toNat default).toNat default).Qc⟩:Qi))))) else (.done (i40,xs))
def F78 (n:Qe) (path:List Int) (labels:List Int):Qe :=
 (runL (F78_s0 n path labels) (((path.length:Int)-0).toNat+1) (0,n.Qa)).fin (fun r=>r) (fun (i40,xs)=>(⟨n.Qb,xs⟩:Qe))
def S78 (R:Qe) (n:Qe) (path:List Int) (labels:List Int):Spec:=⟨[.ot (Qf n),.r (.c (.l 1 eInt path)),.r (.c (.l 1 eInt labels))],.ag [.ow (.l 2 Qh R.Qb),.ow (.l 2 Qj R.Qa)],LayP n path labels∧labels.length=path.length⟩
theorem ok78 (n:Qe) (path:List Int) (labels:List Int):(S78 (F78 n path labels) n path labels).ok Try.prog 78 :=
 fnG_ok mixed (fn:=Try.f78) (ct:=.seqk [(1,0),(2,0)] (.no) (.seq (.seqk [(1,0),(2,0),(3,0),(3,1)] (.no) (.blk (.loop (ι:=Nat×(Int×List Qi)) (fun i=>(fun (i40:Int) (xs:List Qi)=>(⟨[(1,some (.h 0 0)),(2,some (.h 1 0)),(3,some (.p 2 0)),(6,some (.p 5 0)),(7,some (.v (vI i40)))],[(0,some (.shr none (.l 1 eInt path))),(1,some (.shr none (.l 1 eInt labels))),(2,some (.box 26 [.h 3 0,.h 4 0])),(3,some (.own 3 (.l 2 Qh n.Qb))),(4,some (.own 4 (.l 2 Qj xs))),(5,some (.box 26 [.v (.slice none 0 0),.v (.slice none 0 0)]))],6⟩:St)) i.2.1 i.2.2) (fun i=>runL (F78_s0 n path labels) i.1 i.2=(runL (F78_s0 n path labels) (((path.length:Int)-0).toNat+1) (0,n.Qa))∧(fun (i40:Int) (xs:List Qi)=>(Int.toNat ((path.length:Int)-i40)<i.1∧LayS n path labels i40 xs∧(i40<(path.length:Int)→0≤path.getD i40.toNat default∧path.getD i40.toNat default<(xs.length:Int)∧(xs.getD (path.getD i40.toNat default).toNat default).Rows.length≤60)∧(0:Int)≤i40∧xs.length=n.Qa.length)) i.2.1 i.2.2) (fun i=>i.1) ((((path.length:Int)-0).toNat+1),(0,n.Qa)) (fun i=>(fun (i40:Int) (xs:List Qi)=>(.seq (.seq (.no) (.cond (.no) (.no))) (.seq (.blk (.seq (.no) (.cut (ι:=Int×Int) (fun j=>(fun (r1:Int) (r2:Int)=>(⟨[(1,some (.h 0 0)),(2,some (.h 1 0)),(3,some (.p 2 0)),(6,some (.p 5 0)),(7,some (.v (vI i40))),(8,some (.p 6 0))],[(0,some (.shr none (.l 1 eInt path))),(1,some (.shr none (.l 1 eInt labels))),(2,some (.box 26 [.h 3 0,.h 4 0])),(3,some (.own 3 (.l 2 Qh n.Qb))),(4,some (.own 4 (.l 2 Qj xs))),(5,some (.box 26 [.v (.slice none 0 0),.v (.slice none 0 0)])),(6,some (.box 68 [.v (vI (labels.getD i40.toNat default)),.v (vI r1),.v (vI r2)]))],7⟩:St)) j.1 j.2) (fun j=>(fun (r1:Int) (r2:Int)=>((F78_j2 n path labels i40 xs)=Lp.done j∧(⟨labels.getD i40.toNat default,r1,r2⟩:Qk)=rowAt path labels i40.toNat)) j.1 j.2) (.seq (.reg [(1,.bnd)]) (.cond (.seq (.reg [(2,.bnd)]) (.reg [(2,.bnd)])) (.no))) (fun j=>(fun (r1:Int) (r2:Int)=>(.reg [(16,.call 89 (T89 (putK (fun x:Qk=>x.In) ((xs.getD (path.getD i40.toNat default).toNat default).Rows) (⟨(labels.getD i40.toNat default),r1,r2⟩:Qk)) ((xs.getD (path.getD i40.toNat default).toNat default).Rows) (⟨(labels.getD i40.toNat default),r1,r2⟩:Qk)) (oa89 ((xs.getD (path.getD i40.toNat default).toNat default).Rows) (⟨(labels.getD i40.toNat default),r1,r2⟩:Qk)) none),(19,.dat (.l 2 Qj (xs.set ((path.getD i40.toNat default)).toNat (⟨(putK (fun x:Qk=>x.In) ((xs.getD (path.getD i40.toNat default).toNat default).Rows) (⟨(labels.getD i40.toNat default),r1,r2⟩:Qk)),(xs.getD (path.getD i40.toNat default).toNat default).Qc⟩:Qi))))])) j.1 j.2)))) (.reg [(1,.bnd)])))) i.2.1 i.2.2)))) (.seq (.no) (.no)))) Try.func78 (fun (hp:LayP n path labels∧labels.length=path.length)=>(fun (hpre0:LayP n path labels) (hpre1:labels.length=path.length)=>fun (_:path.length≤9223372036854775807)=>fun (_:labels.length≤9223372036854775807)=>fun (_:path.length≤9223372036854775807)=>fun (_:labels.length≤9223372036854775807)=>fun (_:n.Qb.length≤9223372036854775807)=>fun (_:n.Qa.length≤9223372036854775807)=>ai (ai (rfl) (ai (ir) (ai (ir) (ai (ir) (ai (ir) (ai (rfl) (ai (rfl) ((ai (rfl:runL (F78_s0 n path labels) (((path.length:Int)-0).toNat+1) (0,n.Qa)=(runL (F78_s0 n path labels) (((path.length:Int)-0).toNat+1) (0,n.Qa))) (ai ((Nat.lt_succ_self _:Int.toNat ((path.length:Int)-0)<(((path.length:Int)-0).toNat+1))) (ai ((by first | omega | (simp only [lens] at*<;> omega) | (exact LayS.zero (by assumption)) | (exact LayS.next (by assumption) (by assumption) (by assumption)) | (exact fun hi=>LayS.in_ (by first | assumption | exact LayS.zero (by assumption) | exact LayS.next (by assumption) (by assumption) (by assumption)) hi):LayS n path labels 0 n.Qa)) (ai ((by first | omega | (simp only [lens] at*<;> omega) | (exact LayS.zero (by assumption)) | (exact LayS.next (by assumption) (by assumption) (by assumption)) | (exact fun hi=>LayS.in_ (by first | assumption | exact LayS.zero (by assumption) | exact LayS.next (by assumption) (by assumption) (by assumption)) hi):0<(path.length:Int)→0≤path.getD (Int.toNat 0) default∧path.getD (Int.toNat 0) default<(n.Qa.length:Int)∧(n.Qa.getD (path.getD (Int.toNat 0) default).toNat default).Rows.length≤60)) (ai ((by first | omega | (simp only [lens] at*<;> omega) | (exact LayS.zero (by assumption)) | (exact LayS.next (by assumption) (by assumption) (by assumption)) | (exact fun hi=>LayS.in_ (by first | assumption | exact LayS.zero (by assumption) | exact LayS.next (by assumption) (by assumption) (by assumption)) hi):(0:Int)≤0)) ((by first | omega | (simp only [lens] at*<;> omega) | (exact LayS.zero (by assumption)) | (exact LayS.next (by assumption) (by assumption) (by assumption)) | (exact fun hi=>LayS.in_ (by first | assumption | exact LayS.zero (by assumption) | exact LayS.next (by assumption) (by assumption) (by assumption)) hi):n.Qa.length=n.Qa.length)))))))))))))):((.int .i64 0:Value)=.int .i64 0)∧(Imp (.l 1 eInt path) (.l 1 eInt path))∧(Imp (.l 1 eInt labels) (.l 1 eInt labels))∧(Imp (.l 2 Qh n.Qb) (.l 2 Qh n.Qb))∧(Imp (.l 2 Qj n.Qa) (.l 2 Qj n.Qa))∧((.slice none 0 0:Value)=.slice none 0 0)∧((.slice none 0 0:Value)=.slice none 0 0)∧(runL (F78_s0 n path labels) (((path.length:Int)-0).toNat+1) (0,n.Qa)=(runL (F78_s0 n path labels) (((path.length:Int)-0).toNat+1) (0,n.Qa))∧Int.toNat ((path.length:Int)-0)<(((path.length:Int)-0).toNat+1)∧LayS n path labels 0 n.Qa∧(0<(path.length:Int)→0≤path.getD (Int.toNat 0) default∧path.getD (Int.toNat 0) default<(n.Qa.length:Int)∧(n.Qa.getD (path.getD (Int.toNat 0) default).toNat default).Rows.length≤60)∧(0:Int)≤0∧n.Qa.length=n.Qa.length)) (fun (i0:Nat×(Int×List Qi)) (hi0:runL (F78_s0 n path labels) i0.1 i0.2=(runL (F78_s0 n path labels) (((path.length:Int)-0).toNat+1) (0,n.Qa))∧(fun (i40:Int) (xs:List Qi)=>(Int.toNat ((path.length:Int)-i40)<i0.1∧LayS n path labels i40 xs∧(i40<(path.length:Int)→0≤path.getD i40.toNat default∧path.getD i40.toNat default<(xs.length:Int)∧(xs.getD (path.getD i40.toNat default).toNat default).Rows.length≤60)∧(0:Int)≤i40∧xs.length=n.Qa.length)) i0.2.1 i0.2.2)=>(fun (m0:Nat) (i40:Int) (xs:List Qi) (hI0:runL (F78_s0 n path labels) (m0+1) (i40,xs)=(runL (F78_s0 n path labels) (((path.length:Int)-0).toNat+1) (0,n.Qa))) (_:Int.toNat ((path.length:Int)-i40)<m0+1) (hl0:m0<i0.1) (_:LayS n path labels i40 xs) (_:i40<(path.length:Int)→0≤path.getD i40.toNat default∧path.getD i40.toNat default<(xs.length:Int)∧(xs.getD (path.getD i40.toNat default).toNat default).Rows.length≤60) (_:(0:Int)≤i40) (_:xs.length=n.Qa.length)=>ai (fun h2:(decide (i40<(path.length:Int)))=true=>(fun _:i40<(path.length:Int)=>ai ((by first | omega | (simp only [lens] at*<;> omega):0≤i40∧i40<(labels.length:Int))) (ai (ai ((by unfold i64ok; first | omega | (simp only [lens] at*<;> omega):i64ok (i40+1))) (ai (fun h3:(decide ((i40+1)<(path.length:Int)))=true=>(fun _:(i40+1)<(path.length:Int)=>ai ((by unfold i64ok; first | omega | (simp only [lens] at*<;> omega):i64ok (i40+1))) (ai ((by first | omega | (simp only [lens] at*<;> omega):0≤(i40+1)∧(i40+1)<(path.length:Int))) (ai ((by unfold i64ok; first | omega | (simp only [lens] at*<;> omega):i64ok (i40+1))) (ai ((by first | omega | (simp only [lens] at*<;> omega):0≤(i40+1)∧(i40+1)<(labels.length:Int))) (Exists.intro (p:=fun j:Int×Int=>(fun (r1_:Int) (r2_:Int)=>(((.int .i64 i40:Value)=.int .i64 i40)∧(Imp (.l 1 eInt path) (.l 1 eInt path))∧(Imp (.l 1 eInt labels) (.l 1 eInt labels))∧(Imp (.l 2 Qh n.Qb) (.l 2 Qh n.Qb))∧(Imp (.l 2 Qj xs) (.l 2 Qj xs))∧((.slice none 0 0:Value)=.slice none 0 0)∧((.slice none 0 0:Value)=.slice none 0 0)∧((.int .i64 (labels.getD i40.toNat default):Value)=.int .i64 (labels.getD i40.toNat default))∧((.int .i64 (path.getD (i40+1).toNat default):Value)=.int .i64 r1_)∧((.int .i64 (labels.getD (i40+1).toNat default):Value)=.int .i64 r2_)∧(F78_j2 n path labels i40 xs)=Lp.done j∧(⟨labels.getD i40.toNat default,r1_,r2_⟩:Qk)=rowAt path labels i40.toNat)) j.1 j.2) (((path.getD (i40+1).toNat default),(labels.getD (i40+1).toNat default))) (ai (rfl) (ai (ir) (ai (ir) (ai (ir) (ai (ir) (ai (rfl) (ai (rfl) (ai (rfl) (ai (rfl) (ai (rfl) (ai (Eq.symm (condT h3 (rfl))) ((by first | omega | (simp only [lens] at*<;> omega) | exact rowAt_T (by assumption) (by assumption) | exact rowAt_F (by assumption) (by assumption):(⟨labels.getD i40.toNat default,(path.getD (i40+1).toNat default),(labels.getD (i40+1).toNat default)⟩:Qk)=rowAt path labels i40.toNat)))))))))))))))))) (of_decide_eq_true h3)) (fun h3:(decide ((i40+1)<(path.length:Int)))=false=>(fun _:¬ (i40+1)<(path.length:Int)=>Exists.intro (p:=fun j:Int×Int=>(fun (r1_:Int) (r2_:Int)=>(((.int .i64 i40:Value)=.int .i64 i40)∧(Imp (.l 1 eInt path) (.l 1 eInt path))∧(Imp (.l 1 eInt labels) (.l 1 eInt labels))∧(Imp (.l 2 Qh n.Qb) (.l 2 Qh n.Qb))∧(Imp (.l 2 Qj xs) (.l 2 Qj xs))∧((.slice none 0 0:Value)=.slice none 0 0)∧((.slice none 0 0:Value)=.slice none 0 0)∧((.int .i64 (labels.getD i40.toNat default):Value)=.int .i64 (labels.getD i40.toNat default))∧((.int .i64 (-1):Value)=.int .i64 r1_)∧((.int .i64 0:Value)=.int .i64 r2_)∧(F78_j2 n path labels i40 xs)=Lp.done j∧(⟨labels.getD i40.toNat default,r1_,r2_⟩:Qk)=rowAt path labels i40.toNat)) j.1 j.2) (((-1),0)) (ai (rfl) (ai (ir) (ai (ir) (ai (ir) (ai (ir) (ai (rfl) (ai (rfl) (ai (rfl) (ai (rfl) (ai (rfl) (ai (Eq.symm (condF h3 (rfl))) ((by first | omega | (simp only [lens] at*<;> omega) | exact rowAt_T (by assumption) (by assumption) | exact rowAt_F (by assumption) (by assumption):(⟨labels.getD i40.toNat default,(-1),0⟩:Qk)=rowAt path labels i40.toNat)))))))))))))) (of_decide_eq_false h3)))) (fun (j:Int×Int) (hj:(fun (r1:Int) (r2:Int)=>((F78_j2 n path labels i40 xs)=Lp.done j∧(⟨labels.getD i40.toNat default,r1,r2⟩:Qk)=rowAt path labels i40.toNat)) j.1 j.2)=>(fun (r1:Int) (r2:Int) (hJ2_4:(F78_j2 n path labels i40 xs)=Lp.done (r1,r2)) (_:(⟨labels.getD i40.toNat default,r1,r2⟩:Qk)=rowAt path labels i40.toNat)=>ai ((by first | omega | (simp only [lens] at*<;> omega):0≤i40∧i40<(path.length:Int))) (ai ((by first | omega | (simp only [lens] at*<;> omega):0≤i40∧i40<(path.length:Int))) (ai ((by first | omega | (simp only [lens] at*<;> omega):0≤(path.getD i40.toNat default)∧(path.getD i40.toNat default)<(xs.length:Int))) (ai (((by first | omega | (simp only [lens] at*<;> omega):((xs.getD (path.getD i40.toNat default).toNat default).Rows).length≤1000000000))) (ai ((Imp.refl (.l 3 Ql ((xs.getD (path.getD i40.toNat default).toNat default).Rows)))) (ai ((Imps.refl (Ql (⟨(labels.getD i40.toNat default),r1,r2⟩:Qk)))) (ai ((by first | omega | (simp only [lens] at*<;> omega):0≤(path.getD i40.toNat default)∧(path.getD i40.toNat default)<(xs.length:Int))) (ai ((SetOK.mk Qj xs (⟨(putK (fun x:Qk=>x.In) ((xs.getD (path.getD i40.toNat default).toNat default).Rows) (⟨(labels.getD i40.toNat default),r1,r2⟩:Qk)),(xs.getD (path.getD i40.toNat default).toNat default).Qc⟩:Qi) rfl (by exact ai ir (ai ir (trivial))):SetOK (.l 2 Qj xs) ((path.getD i40.toNat default)).toNat (Qj (xs.getD (path.getD i40.toNat default).toNat default)) [.l 3 Ql (putK (fun x:Qk=>x.In) ((xs.getD (path.getD i40.toNat default).toNat default).Rows) (⟨(labels.getD i40.toNat default),r1,r2⟩:Qk)),.l 3 Qo ((xs.getD (path.getD i40.toNat default).toNat default).Qc)] (.l 2 Qj (xs.set ((path.getD i40.toNat default)).toNat (⟨(putK (fun x:Qk=>x.In) ((xs.getD (path.getD i40.toNat default).toNat default).Rows) (⟨(labels.getD i40.toNat default),r1,r2⟩:Qk)),(xs.getD (path.getD i40.toNat default).toNat default).Qc⟩:Qi))))) (ai ((by unfold i64ok; first | omega | (simp only [lens] at*<;> omega):i64ok (i40+1))) (Exists.intro (p:=fun j:Nat×(Int×List Qi)=>(fun (i40_:Int) (xs_:List Qi)=>(((.int .i64 (i40+1):Value)=.int .i64 i40_)∧(Imp (.l 1 eInt path) (.l 1 eInt path))∧(Imp (.l 1 eInt labels) (.l 1 eInt labels))∧(Imp (.l 2 Qh n.Qb) (.l 2 Qh n.Qb))∧(Imp (.l 2 Qj (xs.set ((path.getD i40.toNat default)).toNat (⟨(putK (fun x:Qk=>x.In) ((xs.getD (path.getD i40.toNat default).toNat default).Rows) (⟨(labels.getD i40.toNat default),r1,r2⟩:Qk)),(xs.getD (path.getD i40.toNat default).toNat default).Qc⟩:Qi))) (.l 2 Qj xs_))∧((.slice none 0 0:Value)=.slice none 0 0)∧((.slice none 0 0:Value)=.slice none 0 0)∧((runL (F78_s0 n path labels) j.1 j.2=(runL (F78_s0 n path labels) (((path.length:Int)-0).toNat+1) (0,n.Qa))∧Int.toNat ((path.length:Int)-i40_)<j.1∧LayS n path labels i40_ xs_∧(i40_<(path.length:Int)→0≤path.getD i40_.toNat default∧path.getD i40_.toNat default<(xs_.length:Int)∧(xs_.getD (path.getD i40_.toNat default).toNat default).Rows.length≤60)∧(0:Int)≤i40_∧xs_.length=n.Qa.length)∧j.1<i0.1))) j.2.1 j.2.2) (m0,((i40+1),(xs.set ((path.getD i40.toNat default)).toNat (⟨(putK (fun x:Qk=>x.In) ((xs.getD (path.getD i40.toNat default).toNat default).Rows) (⟨(labels.getD i40.toNat default),r1,r2⟩:Qk)),(xs.getD (path.getD i40.toNat default).toNat default).Qc⟩:Qi)))) (ai (rfl) (ai (ir) (ai (ir) (ai (ir) (ai (ir) (ai (rfl) (ai (rfl) (ai (ai (runL_next hI0 (condT h2 (finD hJ2_4 (rfl)))) (ai ((by first | omega | (simp only [lens] at*<;> omega) | (exact LayS.zero (by assumption)) | (exact LayS.next (by assumption) (by assumption) (by assumption)) | (exact fun hi=>LayS.in_ (by first | assumption | exact LayS.zero (by assumption) | exact LayS.next (by assumption) (by assumption) (by assumption)) hi):Int.toNat ((path.length:Int)-(i40+1))<m0)) (ai ((by first | omega | (simp only [lens] at*<;> omega) | (exact LayS.zero (by assumption)) | (exact LayS.next (by assumption) (by assumption) (by assumption)) | (exact fun hi=>LayS.in_ (by first | assumption | exact LayS.zero (by assumption) | exact LayS.next (by assumption) (by assumption) (by assumption)) hi):LayS n path labels (i40+1) (xs.set ((path.getD i40.toNat default)).toNat (⟨(putK (fun x:Qk=>x.In) ((xs.getD (path.getD i40.toNat default).toNat default).Rows) (⟨(labels.getD i40.toNat default),r1,r2⟩:Qk)),(xs.getD (path.getD i40.toNat default).toNat default).Qc⟩:Qi)))) (ai ((by first | omega | (simp only [lens] at*<;> omega) | (exact LayS.zero (by assumption)) | (exact LayS.next (by assumption) (by assumption) (by assumption)) | (exact fun hi=>LayS.in_ (by first | assumption | exact LayS.zero (by assumption) | exact LayS.next (by assumption) (by assumption) (by assumption)) hi):(i40+1)<(path.length:Int)→0≤path.getD (i40+1).toNat default∧path.getD (i40+1).toNat default<((xs.set ((path.getD i40.toNat default)).toNat (⟨(putK (fun x:Qk=>x.In) ((xs.getD (path.getD i40.toNat default).toNat default).Rows) (⟨(labels.getD i40.toNat default),r1,r2⟩:Qk)),(xs.getD (path.getD i40.toNat default).toNat default).Qc⟩:Qi)).length:Int)∧((xs.set ((path.getD i40.toNat default)).toNat (⟨(putK (fun x:Qk=>x.In) ((xs.getD (path.getD i40.toNat default).toNat default).Rows) (⟨(labels.getD i40.toNat default),r1,r2⟩:Qk)),(xs.getD (path.getD i40.toNat default).toNat default).Qc⟩:Qi)).getD (path.getD (i40+1).toNat default).toNat default).Rows.length≤60)) (ai ((by first | omega | (simp only [lens] at*<;> omega) | (exact LayS.zero (by assumption)) | (exact LayS.next (by assumption) (by assumption) (by assumption)) | (exact fun hi=>LayS.in_ (by first | assumption | exact LayS.zero (by assumption) | exact LayS.next (by assumption) (by assumption) (by assumption)) hi):(0:Int)≤(i40+1))) ((by first | omega | (simp only [lens] at*<;> omega) | (exact LayS.zero (by assumption)) | (exact LayS.next (by assumption) (by assumption) (by assumption)) | (exact fun hi=>LayS.in_ (by first | assumption | exact LayS.zero (by assumption) | exact LayS.next (by assumption) (by assumption) (by assumption)) hi):(xs.set ((path.getD i40.toNat default)).toNat (⟨(putK (fun x:Qk=>x.In) ((xs.getD (path.getD i40.toNat default).toNat default).Rows) (⟨(labels.getD i40.toNat default),r1,r2⟩:Qk)),(xs.getD (path.getD i40.toNat default).toNat default).Qc⟩:Qi)).length=n.Qa.length))))))) hl0)))))))))))))))))) j.1 j.2 hj.1 hj.2))) (of_decide_eq_true h2)) (fun h2:(decide (i40<(path.length:Int)))=false=>(fun _:¬ i40<(path.length:Int)=>(fun hD0_5:(runL (F78_s0 n path labels) (((path.length:Int)-0).toNat+1) (0,n.Qa))=Lp.done (i40,xs)=>(fun hF:((⟨n.Qb,xs⟩:Qe):Qe)=(F78 n path labels)=>ai (Imp.of_eq (congrArg (fun r:Qe=>Dat.l 2 Qh r.Qb) hF)) (ai (Imp.of_eq (congrArg (fun r:Qe=>Dat.l 2 Qj r.Qa) hF)) (trivial))) (finD hD0_5 (rfl))) (runL_done hI0 (condF h2 (rfl)))) (of_decide_eq_false h2))) (i0.1-1) i0.2.1 i0.2.2 (hd1 hi0.1 hi0.2.1) (hd2 hi0.2.1) (hd3 hi0.2.1) hi0.2.2.1 hi0.2.2.2.1 hi0.2.2.2.2.1 hi0.2.2.2.2.2)) hp.1 hp.2) (by kernel_rfl)
def labsOf (n:Qe) (path:List Int):List Int:=path.map (freeOn n)
def labsB (n:Qe) (path:List Int):Bool:=(labsOf n path).all (fun x=>!decide (x=0))
def labsR (n:Qe) (path:List Int):List Int:=bif labsB n path then labsOf n path else []
theorem labs_loop {ρ:Type} (n:Qe) (path:List Int) (r0:ρ) (step:List Int×Int→Lp (List Int×Int) ρ)
  (hs:∀ (k:Nat) xs,k<path.length→step (xs,(k:Int))=bif (freeOn n (path.getD k default)==0) then .ret r0 else .next (xs++[freeOn n (path.getD k default)],(k:Int)+1)) (he:∀ xs,step (xs,(path.length:Int))=.done (xs,(path.length:Int))) :
  runL step (((path.length:Int)-0).toNat+1) ([],0)=bif labsB n path then .done (labsOf n path,(path.length:Int)) else .ret r0:=by
 have h:=runL_rule (step:=step) (fun (k:Nat) (xs:List Int)=>(xs,(k:Int))) path.length (fun k xs=>xs=(path.take k).map (freeOn n)∧∀ x∈xs,x≠0) (fun r=>r=r0∧labsB n path=false)
  (fun k xs hk ⟨h1,h2⟩=>by
   rw [hs k xs hk,beqD]
   by_cases hz:freeOn n (path.getD k default)=0
   ·refine .inr ⟨r0,by rw [decide_eq_true hz]; rfl,rfl,?_⟩
    unfold labsB
    rw [List.all_eq_false]
    refine ⟨freeOn n (path.getD k default),List.mem_map_of_mem (getD_mem _ hk),by rw [hz]; decide⟩
   ·refine .inl ⟨_,by rw [decide_eq_false hz]; rfl,by rw [h1,take_next hk,List.map_append]; rfl,fun x hx=>?_⟩
    rcases List.mem_append.1 hx with hx | hx
    ·exact h2 x hx
    ·rw [List.mem_singleton.1 hx]; exact hz)
  (fun xs _=>he xs) path.length 0 [] (by omega) ⟨rfl,fun x hx=>by cases hx⟩ (path.length+1) (Nat.lt_succ_self _)
 rw [n0]
 rcases h with ⟨xs,h,h1,h2⟩ | ⟨r,h,rfl,h1⟩
 ·rw [List.take_length] at h1
  have hb:labsB n path=true:=by
   unfold labsB
   rw [List.all_eq_true]
   intro x hx
   have:x∈xs:=by rw [h1]; exact hx
   simpa using h2 x this
  rw [hb,cond_true]
  rw [h1] at h
  exact h
 ·rw [h1,cond_false]; exact h
theorem as77 (n:Qe) (path:List Int):F77 n path=labsR n path:=by
 unfold F77 labsR
 rw [labs_loop n path ([]:List Int) _ (fun k xs hk=>by simp only [F77_s0,ltD hk,cond_true,nn]; rfl) (fun xs=>by simp [F77_s0])]
 cases labsB n path <;> rfl
theorem LayP.of_labs {n:Qe} {path:List Int} (h:Qv n) (hp:PathOk n path) (hz:¬ ((labsR n path).length:Int)=0):LayP n path (labsR n path):=by
 unfold labsR at hz ⊢
 cases e:labsB n path with
 | false=>rw [e] at hz; exact absurd rfl hz
 | true =>
  refine ⟨h,hp,rfl,fun x hx=>?_⟩
  unfold labsB at e
  have:=List.all_eq_true.1 e x hx
  simpa using this
theorem lay_loop {ρ:Type} {n:Qe} {path labels:List Int} (hp:LayP n path labels) (step:Int×List Qi→Lp (Int×List Qi) ρ)
  (hs:∀ (k:Nat) xs,k<path.length→LayS n path labels (k:Int) xs→step ((k:Int),xs)=.next ((k:Int)+1,xs.set (path.getD k default).toNat ⟨putK (fun x:Qk=>x.In) (xs.getD (path.getD k default).toNat default).Rows (rowAt path labels k),(xs.getD (path.getD k default).toNat default).Qc⟩))
  (he:∀ xs,step ((path.length:Int),xs)=.done ((path.length:Int),xs)) :
  runL step (((path.length:Int)-0).toNat+1) (0,n.Qa)=.done ((path.length:Int),layTo n path labels path.length):=by
 have h:=runL_rule (step:=step) (fun (k:Nat) (xs:List Qi)=>((k:Int),xs)) path.length (fun k xs=>LayS n path labels (k:Int) xs) (fun _=>False)
  (fun k xs hk hI=>.inl ⟨_,hs k xs hk hI,by
   have:=hI.next (r:=rowAt path labels k) (by omega) (by rw [nn])
   rw [nn] at this
   exact this⟩)
  (fun xs _=>he xs) path.length 0 n.Qa (by omega) (LayS.zero hp) (path.length+1) (Nat.lt_succ_self _)
 rw [n0]
 rcases h with ⟨xs,h,h1⟩ | ⟨_,_,h⟩
 ·have:=h1.xs
  rw [nn] at this
  rw [← this]; exact h
 ·exact h.elim
theorem as78 (n:Qe) (path labels:List Int) (hp:LayP n path labels):F78 n path labels=(⟨n.Qb,layTo n path labels path.length⟩:Qe):=by
 unfold F78
 rw [lay_loop hp _ (fun k xs hk hI=>by
  simp only [F78_s0,ltD hk,cond_true,nn]
  unfold F78_j2 rowAt
  by_cases hx:(k:Int)+1<(path.length:Int)
  ·rw [decide_eq_true hx]; rfl
  ·rw [decide_eq_false hx]; rfl) (fun xs=>by simp [F78_s0])]
 rfl
def layR (n:Qe) (path:List Int):Int×Int×Qe :=
 bif pathB n path then (bif labsB n path then ((labsOf n path).getD 0 default,0,⟨n.Qb,layTo n path (labsOf n path) path.length⟩) else (0,3,n)) else (0,2,n)
theorem layP_of {n:Qe} {path:List Int} (h:Qv n) (hp:pathB n path=true) (hb:labsB n path=true):LayP n path (labsOf n path):=by
 refine ⟨h,pathB_ok.1 hp,rfl,fun x hx=>?_⟩
 have:=List.all_eq_true.1 hb x hx
 simpa using this
theorem layR_net {n:Qe} (h:Qv n) (path:List Int):Qv (layR n path).2.2:=by
 unfold layR
 cases hp:pathB n path
 ·exact h
 cases hb:labsB n path
 ·exact h
 exact (layP_of h hp hb).netTo _ (Nat.le_refl _)
theorem LayP.bound {n:Qe} {path labels:List Int} (h:LayP n path labels):(layTo n path labels path.length).length≤1000000000∧∀ k:Nat,((layTo n path labels path.length).getD k default).Rows.length≤1000000000∧((layTo n path labels path.length).getD k default).Qc.length≤1000000000:=by
 have hn:=h.netTo _ (Nat.le_refl _)
 have h8:=hn.frame.b8
 refine ⟨by have:(layTo n path labels path.length).length≤8:=h8; omega,fun k=>?_⟩
 have h1:=Qv.rows hn k
 have h2:=Qv.vias hn k
 exact ⟨by have:((layTo n path labels path.length).getD k default).Rows.length≤60:=h1; omega,by have:((layTo n path labels path.length).getD k default).Qc.length≤8:=h2; omega⟩
def T77 (R:List Int) (n:Qe) (path:List Int):Spec:=⟨(S77 R n path).args,(S77 R n path).res,PathOk n path∧path.length≤8⟩
theorem oa77 (n:Qe) (path:List Int):(T77 (labsR n path) n path).ok Try.prog 77:=by
 intro hp; have h:=ok77 n path hp; rw [as77 n path] at h; exact h
def T78 (R:Qe) (n:Qe) (path:List Int) (labels:List Int):Spec:=⟨(S78 R n path labels).args,(S78 R n path labels).res,LayP n path labels∧labels.length=path.length⟩
theorem oa78 (n:Qe) (path:List Int) (labels:List Int):(T78 ((⟨n.Qb,layTo n path labels path.length⟩:Qe)) n path labels).ok Try.prog 78:=by
 intro hp; have h:=ok78 n path labels hp; rw [as78 n path labels hp.1] at h; exact h
def F35 (n:Qe) (path:List Int):Qe×Int×Int :=
 bif (!(netB n)) then ((⟨[],[]⟩:Qe),0,1) else (bif (!(pathB n path)) then (n,0,2) else (bif (((labsR n path).length:Int)==0) then (n,0,3) else ((⟨n.Qb,layTo n path (labsR n path) path.length⟩:Qe),((labsR n path).getD (Int.toNat 0) default),0)))
def S35 (R:Qe×Int×Int) (n:Qe) (path:List Int):Spec:=⟨[.r (.g (Qf n)),.r (.c (.l 1 eInt path))],.tu [.ag [.ow (.l 2 Qh R.1.Qb),.ow (.l 2 Qj R.1.Qa)],.v (vI R.2.1),.v (vI R.2.2)],True⟩
theorem ok35 (n:Qe) (path:List Int):(S35 (F35 n path) n path).ok Try.prog 35 :=
 fnG_ok mixed (fn:=Try.f35) (ct:=.seqk [(1,0)] (.no) (.seq (.seq (.reg [(1,.call 14 (S14 (netB n) n) (oa14 n) none)]) (.cond (.seq (.no) (.no)) (.no))) (.seq (.reg [(1,.call 67 (S67 n n) (oa67 n) none)]) (.seq (.seq (.reg [(2,.call 76 (S76 (pathB n path) n path) (oa76 n path) none)]) (.cond (.seq (.no) (.no)) (.no))) (.seq (.reg [(2,.call 77 (T77 (labsR n path) n path) (oa77 n path) none)]) (.seq (.seq (.no) (.cond (.seq (.no) (.no)) (.no))) (.seq (.reg [(3,.call 78 (T78 (⟨n.Qb,layTo n path (labsR n path) path.length⟩:Qe) n path (labsR n path)) (oa78 n path (labsR n path)) none),(4,.call 67 (S67 (⟨n.Qb,layTo n path (labsR n path) path.length⟩:Qe) (⟨n.Qb,layTo n path (labsR n path) path.length⟩:Qe)) (oa67 (⟨n.Qb,layTo n path (labsR n path) path.length⟩:Qe)) none)]) (.no)))))))) Try.func35 (fun (_:True)=>fun (_:path.length≤9223372036854775807)=>ai (trivial) (ai ((Imps.refl (Qf n))) (ai (fun h1:(!(netB n))=true=>(fun hF:((⟨[],[]⟩:Qe),0,1)=(F35 n path)=>ai ((Imp.nil 2 Qh).trans (Imp.of_eq (congrArg (fun r:Qe×Int×Int=>Dat.l 2 Qh r.1.Qb) hF))) (ai ((Imp.nil 2 Qj).trans (Imp.of_eq (congrArg (fun r:Qe×Int×Int=>Dat.l 2 Qj r.1.Qa) hF))) (ai (congrArg (fun r:Qe×Int×Int=>(.int .i64 r.2.1:Value)) hF) (ai (congrArg (fun r:Qe×Int×Int=>(.int .i64 r.2.2:Value)) hF) (trivial))))) (condT h1 (rfl))) (fun h1:(!(netB n))=false=>(fun _:n.Qb.length≤14=>(fun _:n.Qa.length≤8=>(fun _:Qv n=>ai ((ai ((by first | omega | (intro k; have:=Qv.rows (by assumption:Qv n) k; have:=Qv.vias (by assumption:Qv n) k; omega) | (have hq:=LayP.bound (LayP.of_labs (by assumption) (by assumption) (by assumption)); first | exact hq.1 | exact fun k=>(hq.2 k).1 | exact fun k=>(hq.2 k).2):n.Qb.length≤1000000000)) (ai ((by first | omega | (intro k; have:=Qv.rows (by assumption:Qv n) k; have:=Qv.vias (by assumption:Qv n) k; omega) | (have hq:=LayP.bound (LayP.of_labs (by assumption) (by assumption) (by assumption)); first | exact hq.1 | exact fun k=>(hq.2 k).1 | exact fun k=>(hq.2 k).2):n.Qa.length≤1000000000)) (ai ((by first | omega | (intro k; have:=Qv.rows (by assumption:Qv n) k; have:=Qv.vias (by assumption:Qv n) k; omega) | (have hq:=LayP.bound (LayP.of_labs (by assumption) (by assumption) (by assumption)); first | exact hq.1 | exact fun k=>(hq.2 k).1 | exact fun k=>(hq.2 k).2):∀ k:Nat,(n.Qa.getD k default).Rows.length≤1000000000)) ((by first | omega | (intro k; have:=Qv.rows (by assumption:Qv n) k; have:=Qv.vias (by assumption:Qv n) k; omega) | (have hq:=LayP.bound (LayP.of_labs (by assumption) (by assumption) (by assumption)); first | exact hq.1 | exact fun k=>(hq.2 k).1 | exact fun k=>(hq.2 k).2):∀ k:Nat,(n.Qa.getD k default).Qc.length≤1000000000)))))) (ai ((Imps.refl (Qf n))) (ai (trivial) (ai ((Imps.refl (Qf n))) (ai ((Imp.refl (.l 1 eInt path))) (ai (fun h2:(!(pathB n path))=true=>(fun hF:(n,0,2)=(F35 n path)=>ai (Imp.of_eq (congrArg (fun r:Qe×Int×Int=>Dat.l 2 Qh r.1.Qb) hF)) (ai (Imp.of_eq (congrArg (fun r:Qe×Int×Int=>Dat.l 2 Qj r.1.Qa) hF)) (ai (congrArg (fun r:Qe×Int×Int=>(.int .i64 r.2.1:Value)) hF) (ai (congrArg (fun r:Qe×Int×Int=>(.int .i64 r.2.2:Value)) hF) (trivial))))) (condF h1 (condT h2 (rfl)))) (fun h2:(!(pathB n path))=false=>(fun _:path.length≤n.Qa.length=>(fun _:PathOk n path=>ai ((ai ((by omega:PathOk n path)) ((by omega:path.length≤8)))) (ai ((Imps.refl (Qf n))) (ai ((Imp.refl (.l 1 eInt path))) (ai (fun h3:(((labsR n path).length:Int)==0)=true=>(fun _:((labsR n path).length:Int)=0=>(fun hF:(n,0,3)=(F35 n path)=>ai (Imp.of_eq (congrArg (fun r:Qe×Int×Int=>Dat.l 2 Qh r.1.Qb) hF)) (ai (Imp.of_eq (congrArg (fun r:Qe×Int×Int=>Dat.l 2 Qj r.1.Qa) hF)) (ai (congrArg (fun r:Qe×Int×Int=>(.int .i64 r.2.1:Value)) hF) (ai (congrArg (fun r:Qe×Int×Int=>(.int .i64 r.2.2:Value)) hF) (trivial))))) (condF h1 (condF h2 (condT h3 (rfl))))) (eq_of_beq h3)) (fun h3:(((labsR n path).length:Int)==0)=false=>(fun _:¬ ((labsR n path).length:Int)=0=>ai ((ai ((by first | exact LayP.of_labs (by assumption) (by assumption) (by assumption) | exact (LayP.of_labs (by assumption) (by assumption) (by assumption)).len:LayP n path (labsR n path))) ((by first | exact LayP.of_labs (by assumption) (by assumption) (by assumption) | exact (LayP.of_labs (by assumption) (by assumption) (by assumption)).len:(labsR n path).length=path.length)))) (ai ((Imps.refl (Qf n))) (ai ((Imp.refl (.l 1 eInt path))) (ai ((Imp.refl (.l 1 eInt (labsR n path)))) (ai ((ai ((by first | omega | (intro k; have:=Qv.rows (by assumption:Qv n) k; have:=Qv.vias (by assumption:Qv n) k; omega) | (have hq:=LayP.bound (LayP.of_labs (by assumption) (by assumption) (by assumption)); first | exact hq.1 | exact fun k=>(hq.2 k).1 | exact fun k=>(hq.2 k).2):n.Qb.length≤1000000000)) (ai ((by first | omega | (intro k; have:=Qv.rows (by assumption:Qv n) k; have:=Qv.vias (by assumption:Qv n) k; omega) | (have hq:=LayP.bound (LayP.of_labs (by assumption) (by assumption) (by assumption)); first | exact hq.1 | exact fun k=>(hq.2 k).1 | exact fun k=>(hq.2 k).2):(layTo n path (labsR n path) path.length).length≤1000000000)) (ai ((by first | omega | (intro k; have:=Qv.rows (by assumption:Qv n) k; have:=Qv.vias (by assumption:Qv n) k; omega) | (have hq:=LayP.bound (LayP.of_labs (by assumption) (by assumption) (by assumption)); first | exact hq.1 | exact fun k=>(hq.2 k).1 | exact fun k=>(hq.2 k).2):∀ k:Nat,((layTo n path (labsR n path) path.length).getD k default).Rows.length≤1000000000)) ((by first | omega | (intro k; have:=Qv.rows (by assumption:Qv n) k; have:=Qv.vias (by assumption:Qv n) k; omega) | (have hq:=LayP.bound (LayP.of_labs (by assumption) (by assumption) (by assumption)); first | exact hq.1 | exact fun k=>(hq.2 k).1 | exact fun k=>(hq.2 k).2):∀ k:Nat,((layTo n path (labsR n path) path.length).getD k default).Qc.length≤1000000000)))))) (ai ((Imps.refl (Qf (⟨n.Qb,layTo n path (labsR n path) path.length⟩:Qe)))) (ai ((by omega:0≤(0:Int)∧(0:Int)<((labsR n path).length:Int))) ((fun hF:((⟨n.Qb,layTo n path (labsR n path) path.length⟩:Qe),((labsR n path).getD (Int.toNat 0) default),0)=(F35 n path)=>ai (Imp.of_eq (congrArg (fun r:Qe×Int×Int=>Dat.l 2 Qh r.1.Qb) hF)) (ai (Imp.of_eq (congrArg (fun r:Qe×Int×Int=>Dat.l 2 Qj r.1.Qa) hF)) (ai (congrArg (fun r:Qe×Int×Int=>(.int .i64 r.2.1:Value)) hF) (ai (congrArg (fun r:Qe×Int×Int=>(.int .i64 r.2.2:Value)) hF) (trivial))))) (condF h1 (condF h2 (condF h3 (rfl)))))))))))) (beqF h3)))))) (pathB_T n path (notEF h2))) (pathB_len n path (notEF h2))))))))) (netB_T n (notEF h1))) (netB_8 n (notEF h1))) (netB_14 n (notEF h1)))))) (by kernel_rfl)
def Qw (n:Qe) (path:List Int):Qe×Int×Int:=bif netB n then ((layR n path).2.2,(layR n path).1,(layR n path).2.1) else (⟨[],[]⟩,0,1)
theorem as35 (n:Qe) (path:List Int):F35 n path=Qw n path:=by
 unfold F35 Qw layR
 cases hb:netB n
 ·rfl
 simp only [Bool.not_true,cond_false,cond_true]
 cases hp:pathB n path
 ·rfl
 simp only [Bool.not_true,cond_false,cond_true]
 unfold labsR
 cases hl:labsB n path
 ·rfl
 have h2:=(pathB_ok.1 hp).two
 have:(labsOf n path).length=path.length:=List.length_map _
 simp only [cond_true]
 rw [beqD,decide_eq_false (show ¬ ((labsOf n path).length:Int)=0 from by omega)]
 rfl
theorem oa35 (n:Qe) (path:List Int):(S35 (Qw n path) n path).ok Try.prog 35:=by
 intro hp; have h:=ok35 n path hp; rw [as35 n path] at h; exact h
def F119_s0 (list:List Qn) (v1:Qn):Int→Lp Int (List Qn):=fun k400 =>
 bif (bif decide (k400<(list.length:Int)) then decide ((list.getD k400.toNat default).To<v1.To) else false) then (.next (k400+1)) else (.done k400)
def F119_j0 (list:List Qn) (v1:Qn):Lp Int (List Qn) :=
 (runL (F119_s0 list v1) (((list.length:Int)-0).toNat+1) 0).fin Lp.ret (fun k400=>.done k400)
def F119 (list:List Qn) (v1:Qn):List Qn :=
 (F119_j0 list v1).fin (fun r=>r) (fun k=>(((([]:List Qn)++(list.take k.toNat))++[v1])++(list.drop k.toNat)))
def S119 (R:List Qn) (list:List Qn) (v1:Qn):Spec:=⟨[.r (.c (.l 3 Qo list)),.r (.g (Qo v1))],.ow (.l 3 Qo R),list.length≤1000000000⟩
theorem ok119 (list:List Qn) (v1:Qn):(S119 (F119 list v1) list v1).ok Try.prog 119 :=
 fnG_ok mixed (fn:=Try.f119) (ct:=.seqk [(0,0)] (.no) (.seqk [(0,0)] (.no) (.cut (ι:=Int) (fun j=>(fun (k:Int)=>(⟨[(0,some (.h 0 0)),(3,some (.p 1 0)),(5,some (.v (vI k)))],[(0,some (.shr none (.l 3 Qo list))),(1,some (.box 95 [.v (vI v1.To),.v (vI v1.Via),.v (vI v1.Push)]))],2⟩:St)) j) (fun j=>(fun (k:Int)=>((F119_j0 list v1)=Lp.done j∧0≤k∧k≤(list.length:Int))) j) (.blk (.loop (ι:=Nat×Int) (fun i=>(fun (k400:Int)=>(⟨[(0,some (.h 0 0)),(3,some (.p 1 0)),(5,some (.v (vI k400)))],[(0,some (.shr none (.l 3 Qo list))),(1,some (.box 95 [.v (vI v1.To),.v (vI v1.Via),.v (vI v1.Push)]))],2⟩:St)) i.2) (fun i=>runL (F119_s0 list v1) i.1 i.2=(runL (F119_s0 list v1) (((list.length:Int)-0).toNat+1) 0)∧(fun (k400:Int)=>(Int.toNat ((list.length:Int)-k400)<i.1∧k400≤(list.length:Int)∧(0:Int)≤k400)) i.2) (fun i=>i.1) ((((list.length:Int)-0).toNat+1),0) (fun i=>(fun (k400:Int)=>(.seq (.seq (.no) (.cond (.no) (.no))) (.blk (.reg [(1,.bnd)])))) i.2))) (fun j=>(fun (k:Int)=>(.seq (.reg [(0,.dat (.l 3 Qo ([]:List Qn))),(4,.dat (.l 3 Qo (([]:List Qn)++(list.take k.toNat)))),(7,.dat (.l 3 Qo ((([]:List Qn)++(list.take k.toNat))++[v1]))),(11,.dat (.l 3 Qo (((([]:List Qn)++(list.take k.toNat))++[v1])++(list.drop k.toNat))))]) (.no))) j)))) Try.func119 (fun (hpre0:list.length≤1000000000)=>fun (_:list.length≤9223372036854775807)=>fun (_:list.length≤9223372036854775807)=>ai (ai (ai (rfl) (ai (ir) (ai (rfl) (ai (rfl) (ai (rfl) ((ai (rfl:runL (F119_s0 list v1) (((list.length:Int)-0).toNat+1) 0=(runL (F119_s0 list v1) (((list.length:Int)-0).toNat+1) 0)) (ai ((Nat.lt_succ_self _:Int.toNat ((list.length:Int)-0)<(((list.length:Int)-0).toNat+1))) (ai ((by first | omega | (simp only [lens] at*<;> omega):0≤(list.length:Int))) ((by first | omega | (simp only [lens] at*<;> omega):(0:Int)≤0)))))))))):((.int .i64 0:Value)=.int .i64 0)∧(Imp (.l 3 Qo list) (.l 3 Qo list))∧((.int .i64 v1.To:Value)=.int .i64 v1.To)∧((.int .i64 v1.Via:Value)=.int .i64 v1.Via)∧((.int .i64 v1.Push:Value)=.int .i64 v1.Push)∧(runL (F119_s0 list v1) (((list.length:Int)-0).toNat+1) 0=(runL (F119_s0 list v1) (((list.length:Int)-0).toNat+1) 0)∧Int.toNat ((list.length:Int)-0)<(((list.length:Int)-0).toNat+1)∧0≤(list.length:Int)∧(0:Int)≤0)) (fun (i0:Nat×Int) (hi0:runL (F119_s0 list v1) i0.1 i0.2=(runL (F119_s0 list v1) (((list.length:Int)-0).toNat+1) 0)∧(fun (k400:Int)=>(Int.toNat ((list.length:Int)-k400)<i0.1∧k400≤(list.length:Int)∧(0:Int)≤k400)) i0.2)=>(fun (m0:Nat) (k400:Int) (hI0:runL (F119_s0 list v1) (m0+1) k400=(runL (F119_s0 list v1) (((list.length:Int)-0).toNat+1) 0)) (_:Int.toNat ((list.length:Int)-k400)<m0+1) (hl0:m0<i0.1) (_:k400≤(list.length:Int)) (_:(0:Int)≤k400)=>ai ((fun k2:(decide (k400<(list.length:Int)))=true=>(fun _:k400<(list.length:Int)=>(by first | omega | (simp only [lens] at*<;> omega):0≤k400∧k400<(list.length:Int))) (of_decide_eq_true k2))) (ai (fun h3:(bif decide (k400<(list.length:Int)) then decide ((list.getD k400.toNat default).To<v1.To) else false)=true=>(fun _:(list.getD k400.toNat default).To<v1.To=>(fun _:k400<(list.length:Int)=>ai ((by unfold i64ok; first | omega | (simp only [lens] at*<;> omega):i64ok (k400+1))) (Exists.intro (p:=fun j:Nat×Int=>(fun (k400_:Int)=>(((.int .i64 (k400+1):Value)=.int .i64 k400_)∧(Imp (.l 3 Qo list) (.l 3 Qo list))∧((.int .i64 v1.To:Value)=.int .i64 v1.To)∧((.int .i64 v1.Via:Value)=.int .i64 v1.Via)∧((.int .i64 v1.Push:Value)=.int .i64 v1.Push)∧((runL (F119_s0 list v1) j.1 j.2=(runL (F119_s0 list v1) (((list.length:Int)-0).toNat+1) 0)∧Int.toNat ((list.length:Int)-k400_)<j.1∧k400_≤(list.length:Int)∧(0:Int)≤k400_)∧j.1<i0.1))) j.2) (m0,(k400+1)) (ai (rfl) (ai (ir) (ai (rfl) (ai (rfl) (ai (rfl) (ai (ai (runL_next hI0 (condT h3 (rfl))) (ai ((by first | omega | (simp only [lens] at*<;> omega):Int.toNat ((list.length:Int)-(k400+1))<m0)) (ai ((by first | omega | (simp only [lens] at*<;> omega):(k400+1)≤(list.length:Int))) ((by first | omega | (simp only [lens] at*<;> omega):(0:Int)≤(k400+1)))))) hl0)))))))) (of_decide_eq_true (andT1 h3))) (of_decide_eq_true (andT2 h3))) (fun h3:(bif decide (k400<(list.length:Int)) then decide ((list.getD k400.toNat default).To<v1.To) else false)=false=>(fun hD0_4:(runL (F119_s0 list v1) (((list.length:Int)-0).toNat+1) 0)=Lp.done k400=>Exists.intro (p:=fun j:Int=>(fun (k_:Int)=>(((.int .i64 k400:Value)=.int .i64 k_)∧(Imp (.l 3 Qo list) (.l 3 Qo list))∧((.int .i64 v1.To:Value)=.int .i64 v1.To)∧((.int .i64 v1.Via:Value)=.int .i64 v1.Via)∧((.int .i64 v1.Push:Value)=.int .i64 v1.Push)∧(F119_j0 list v1)=Lp.done j∧0≤k_∧k_≤(list.length:Int))) j) (k400) (ai (rfl) (ai (ir) (ai (rfl) (ai (rfl) (ai (rfl) (ai (Eq.symm (finD hD0_4 (rfl))) (ai ((by first | omega | (simp only [lens] at*<;> omega):0≤k400)) ((by first | omega | (simp only [lens] at*<;> omega):k400≤(list.length:Int))))))))))) (runL_done hI0 (condF h3 (rfl)))))) (i0.1-1) i0.2 (hd1 hi0.1 hi0.2.1) (hd2 hi0.2.1) (hd3 hi0.2.1) hi0.2.2.1 hi0.2.2.2)) (fun (j:Int) (hj:(fun (k:Int)=>((F119_j0 list v1)=Lp.done j∧0≤k∧k≤(list.length:Int))) j)=>(fun (k:Int) (hJ0_5:(F119_j0 list v1)=Lp.done k) (_:0≤k) (_:k≤(list.length:Int))=>ai ((BuildOK.mk Qo ([]:List Qn) rfl (by exact trivial) (fun _=>rfl):BuildOK 0 3 [] (.l 3 Qo ([]:List Qn)))) (ai ((by first | omega | (simp only [lens] at*<;> omega):0≤(0:Int)∧(0:Int)≤k∧k≤(list.length:Int))) (ai ((AppL.mk Qo ([]:List Qn) (list.take k.toNat) (Imp.refl (.l 3 Qo ([]:List Qn))) ir (fun y=>⟨rfl,fun e he=>by simp only [Qo,List.mem_cons,List.not_mem_nil,or_false] at he; rcases he with rfl | rfl | rfl <;> exact ⟨_,rfl⟩⟩):AppL (.l 3 Qo ([]:List Qn)) (.l 3 Qo (list.take k.toNat)) 3 (.l 3 Qo (([]:List Qn)++(list.take k.toNat))))) (ai ((by (try simp only [lens]); omega:((([]:List Qn)++(list.take k.toNat))).length*24≤140737488355328)) (ai ((AppA.mk Qo (([]:List Qn)++(list.take k.toNat)) [v1] (Imp.refl (.l 3 Qo (([]:List Qn)++(list.take k.toNat)))) rfl (by exact ai ir (ai ir (ai ir (trivial)))) (fun _=>rfl):AppA (.l 3 Qo (([]:List Qn)++(list.take k.toNat))) 1 3 [.v (vI v1.To),.v (vI v1.Via),.v (vI v1.Push)] (.l 3 Qo ((([]:List Qn)++(list.take k.toNat))++[v1])))) (ai ((by (try simp only [lens]); omega:(((([]:List Qn)++(list.take k.toNat))++[v1])).length*24≤140737488355328)) (ai ((by first | omega | (simp only [lens] at*<;> omega):0≤k∧k≤(list.length:Int)∧(list.length:Int)≤(list.length:Int))) (ai ((AppL.mk Qo ((([]:List Qn)++(list.take k.toNat))++[v1]) (list.drop k.toNat) (Imp.refl (.l 3 Qo ((([]:List Qn)++(list.take k.toNat))++[v1]))) ir (fun y=>⟨rfl,fun e he=>by simp only [Qo,List.mem_cons,List.not_mem_nil,or_false] at he; rcases he with rfl | rfl | rfl <;> exact ⟨_,rfl⟩⟩):AppL (.l 3 Qo ((([]:List Qn)++(list.take k.toNat))++[v1])) (.l 3 Qo (list.drop k.toNat)) 3 (.l 3 Qo (((([]:List Qn)++(list.take k.toNat))++[v1])++(list.drop k.toNat))))) (ai ((by (try simp only [lens]); omega:((((([]:List Qn)++(list.take k.toNat))++[v1])++(list.drop k.toNat))).length*24≤140737488355328)) ((fun hF:((((([]:List Qn)++(list.take k.toNat))++[v1])++(list.drop k.toNat)):List Qn)=(F119 list v1)=>ai (Imp.of_eq (congrArg (fun r:List Qn=>Dat.l 3 Qo r) hF)) (trivial)) (finD hJ0_5 (rfl)))))))))))) j hj.1 hj.2.1 hj.2.2)) (by kernel_rfl)
theorem wayGo_at {n:Qe} {b w:Int} {f:List Int} (hD:IsDist n b w f) (h8:n.Qa.length≤8):∀ (m:Nat) (x:Int),0≤x→x<(n.Qa.length:Int)→f.getD x.toNat default=(m:Int) →
  ∀ i,i≤m→0≤(x :: wayGo n f w m x).getD i default∧(x :: wayGo n f w m x).getD i default<(n.Qa.length:Int)∧f.getD ((x :: wayGo n f w m x).getD i default).toNat default=(m:Int)-i ∧
   (i<m→adj n w ((x :: wayGo n f w m x).getD i default) ((x :: wayGo n f w m x).getD (i+1) default))
 | 0,x,h0,h1,hd,i,hi=>by
  obtain rfl:i=0:=by omega
  exact ⟨h0,h1,by simpa using hd,fun h=>by omega⟩
 | m+1,x,h0,h1,hd,i,hi=>by
  obtain ⟨n1,n2,n3,n4,_⟩:=nextOf_ok hD h8 h0 h1 (by omega)
  have ih:=wayGo_at hD h8 m (nextOf n f x w) n1 n2 (by omega)
  have hadj:adj n w x (nextOf n f x w):=by
   unfold nextB at n4
   cases hc:decide (0≤Qt n x (nextOf n f x w)∧Qt n x (nextOf n f x w)≠w) with
   | false=>rw [hc] at n4; cases n4
   | true=>exact (of_decide_eq_true hc:0≤Qt n x (nextOf n f x w)∧Qt n x (nextOf n f x w)≠w)
  cases i with
  | zero=>exact ⟨h0,h1,by rw [List.getD_cons_zero,hd]; omega,fun _=>hadj⟩
  | succ i =>
   obtain ⟨g1,g2,g3,g4⟩:=ih i (by omega)
   simp only [wayGo,List.getD_cons_succ] at g1 g2 g3 g4 ⊢
   exact ⟨g1,g2,by rw [g3]; omega,fun h=>g4 (by omega)⟩
def wayP (n:Qe) (a b:Int):List Int:=Qx n a b (Qt n a b)
theorem way_path {n:Qe} (hf:FrameOk n) {a b:Int} (hl:0≤Qt n a b) (hne:(wayP n a b).length≠0) :
  PathOk n (wayP n a b)∧(wayP n a b).getD 0 default=a∧(wayP n a b).getD 1 default≠b∧∀ i,i+1<(wayP n a b).length→adj n (Qt n a b) ((wayP n a b).getD i default) ((wayP n a b).getD (i+1) default):=by
 obtain ⟨a0,a1,b0,b1,hab⟩:=linkOf_in hf hl
 have hD:=far_isDist n b (Qt n a b) hf b0 b1
 have hwl:=wayOf_len hf (Qt n a b) a0 a1 b0 b1
 unfold wayP at hne ⊢
 unfold Qx at hne hwl ⊢
 by_cases hneg:(F80 n b (Qt n a b)).getD a.toNat default<0
 ·rw [decide_eq_true hneg] at hne; exact absurd rfl hne
 rw [decide_eq_false hneg] at hwl ⊢
 simp only [cond_false] at hwl ⊢
 have hpos:=hD.pos a0 a1 hab (by omega)
 generalize hm:Int.toNat ((F80 n b (Qt n a b)).getD a.toNat default)=m at *
 have hat:=wayGo_at hD hf.b8 m a a0 a1 (by omega)
 have hlen:(a :: wayGo n (F80 n b (Qt n a b)) (Qt n a b) m a).length=m+1:=by rw [List.length_cons,wayGo_len]
 have hadj:∀ i,i+1<(a :: wayGo n (F80 n b (Qt n a b)) (Qt n a b) m a).length→adj n (Qt n a b) ((a :: wayGo n (F80 n b (Qt n a b)) (Qt n a b) m a).getD i default) ((a :: wayGo n (F80 n b (Qt n a b)) (Qt n a b) m a).getD (i+1) default):=fun i hi=>(hat i (by omega)).2.2.2 (by omega)
 refine ⟨⟨by omega,hwl,fun i hi=>?_,fun i hi=>(hadj i hi).1,fun i j hi hj e=>?_⟩,rfl,fun e=>?_,hadj⟩
 ·have:=hat i (by omega); exact ⟨this.1,this.2.1⟩
 ·have h1:=(hat i (by omega)).2.2.1
  have h2:=(hat j (by omega)).2.2.1
  rw [e] at h1; omega
 ·have:=hadj 0 (by omega)
  rw [e] at this
  exact this.2 rfl
theorem layTo_done {n:Qe} {path:List Int} (h:PathOk n path) (labels:List Int):∀ m i,i<m→m≤path.length →
  (layTo n path labels m).getD (path.getD i default).toNat default=⟨putK (fun x:Qk=>x.In) (n.Qa.getD (path.getD i default).toNat default).Rows (rowAt path labels i),(n.Qa.getD (path.getD i default).toNat default).Qc⟩
 | 0,_,h0,_=>absurd h0 (Nat.not_lt_zero _)
 | m+1,i,hi,hm=>by
  rw [layTo,getD_set]
  by_cases e:i=m
  ·subst e
   have:=h.rng i (by omega)
   rw [if_pos ⟨rfl,by rw [layTo_len]; omega⟩,layTo_at h labels i i (Nat.le_refl _) (by omega)]
  ·rw [if_neg (fun hh=>h.ne (by omega) (by omega) (Ne.symm e) hh.1)]
   exact layTo_done h labels m i (by omega) (by omega)
theorem layTo_guards (n:Qe) (path labels:List Int) (k:Nat):∀ m,((layTo n path labels m).getD k default).Qc=(n.Qa.getD k default).Qc
 | 0=>rfl
 | m+1=>by
  rw [layTo,getD_set]
  split
  ·rename_i h
   rw [h.1]
   exact layTo_guards n path labels k m
  ·exact layTo_guards n path labels k m
theorem lay_found {n:Qe} {path labels:List Int} (h:LayP n path labels) {i:Nat} (hi:i<path.length) :
  ∃ k,rowIx ((layTo n path labels path.length).getD (path.getD i default).toNat default) (labels.getD i default)=some k∧((layTo n path labels path.length).getD (path.getD i default).toNat default).Rows.getD k default=rowAt path labels i:=by
 rw [layTo_done h.pth labels path.length i hi (Nat.le_refl _)]
 obtain ⟨⟨_,hpw⟩,_⟩:=h.putOk hi
 have hm:rowAt path labels i∈putK (fun x:Qk=>x.In) (n.Qa.getD (path.getD i default).toNat default).Rows (rowAt path labels i):=putK_mem.2 (.inr rfl)
 obtain ⟨j,hj,ej⟩:=mem_getD hm
 unfold rowIx
 simp only at hpw ⊢
 cases e:first (fun k=>decide (((putK (fun x:Qk=>x.In) (n.Qa.getD (path.getD i default).toNat default).Rows (rowAt path labels i)).getD k default).In=labels.getD i default)) (putK (fun x:Qk=>x.In) (n.Qa.getD (path.getD i default).toNat default).Rows (rowAt path labels i)).length with
 | none =>
  have:=first_none.1 e j hj
  rw [ej] at this
  exact absurd rfl (of_decide_eq_false this)
 | some k =>
  obtain ⟨h1,h2,_⟩:=first_some.1 e
  exact ⟨k,rfl,pairK_uniq hpw (getD_mem _ h1) hm (of_decide_eq_true h2)⟩
theorem guard_net {n:Qe} (h:Qv n) {a b:Int} (hl:0≤Qt n a b) (hg:guardIx (n.Qa.getD a.toNat default) b=none) {v:Qn} (hv:v.To=b) (hv2:0≤Qt n a v.Via∧b≠v.Via∧isLabel v.Push) :
  Qv ⟨n.Qb,n.Qa.set a.toNat ⟨(n.Qa.getD a.toNat default).Rows,putK (fun x:Qn=>x.To) (n.Qa.getD a.toNat default).Qc v⟩⟩:=by
 obtain ⟨a0,a1,b0,b1,_⟩:=linkOf_in h.frame hl
 have hb:=boxP_ok.1 (h.box a.toNat (by omega))
 rw [show ((Int.toNat a:Nat):Int)=a from by omega] at hb
 obtain ⟨h12,h3,h4⟩:=hb
 refine netOk_set h ?_
 rw [show ((Int.toNat a:Nat):Int)=a from by omega]
 refine ⟨h12,fun x hx=>?_,putK_inc (fun x:Qn=>x.To) _ _ h4 fun x hx e=>?_⟩
 ·rcases putK_mem.1 hx with hx | rfl
  ·exact h3 x hx
  ·exact ⟨by rw [hv]; exact hl,hv2.1,by rw [hv]; exact hv2.2.1,hv2.2.2⟩
 ·obtain ⟨k,hk,rfl⟩:=mem_getD hx
  have:=first_none.1 hg k hk
  exact of_decide_eq_false this (e.trans hv)
def guardV (n:Qe) (a b:Int):Qn:=⟨b,(wayP n a b).getD 1 default,(labsOf n (wayP n a b)).getD 1 default⟩
def laidN (n:Qe) (a b:Int):Qe:=⟨n.Qb,layTo n (wayP n a b) (labsOf n (wayP n a b)) (wayP n a b).length⟩
def guardN (n:Qe) (a b:Int):Qe:=⟨n.Qb,(laidN n a b).Qa.set a.toNat ⟨((laidN n a b).Qa.getD a.toNat default).Rows,putK (fun x:Qn=>x.To) ((laidN n a b).Qa.getD a.toNat default).Qc (guardV n a b)⟩⟩
def guardR (n:Qe) (a b:Int):Int×Qe :=
 bif decide (Qt n a b<0) then (2,n) else bif (guardIx (n.Qa.getD a.toNat default) b).isSome then (4,n) else bif decide ((wayP n a b).length=0) then (5,n) else bif labsB n (wayP n a b) then (0,guardN n a b) else (3,n)
structure GuardP (n:Qe) (a b:Int):Prop where
 net:Qv n
 lnk:0≤Qt n a b
 none:guardIx (n.Qa.getD a.toNat default) b=none
 lay:LayP n (wayP n a b) (labsOf n (wayP n a b))
theorem GuardP.mk' {n:Qe} {a b:Int} (h:Qv n) (hl:¬ Qt n a b<0) (hg:guardIx (n.Qa.getD a.toNat default) b=Option.none) (hw:¬ (wayP n a b).length=0) (hb:labsB n (wayP n a b)=true):GuardP n a b :=
 ⟨h,by omega,hg,layP_of h (pathB_ok.2 (way_path h.frame (by omega) hw).1) hb⟩
section
variable {n:Qe} {a b:Int} (h:GuardP n a b)
include h
theorem GuardP.ne:(wayP n a b).length≠0:=by have:=h.lay.pth.two; omega
theorem GuardP.laid:Qv (laidN n a b):=h.lay.netTo _ (Nat.le_refl _)
theorem GuardP.none':guardIx ((laidN n a b).Qa.getD a.toNat default) b=Option.none:=by
 have:=layTo_guards n (wayP n a b) (labsOf n (wayP n a b)) a.toNat (wayP n a b).length
 have h2:=h.none
 unfold guardIx at h2 ⊢
 show first (fun k=>decide ((((layTo n (wayP n a b) (labsOf n (wayP n a b)) (wayP n a b).length).getD a.toNat default).Qc.getD k default).To=b)) ((layTo n (wayP n a b) (labsOf n (wayP n a b)) (wayP n a b).length).getD a.toNat default).Qc.length=Option.none
 rw [this]; exact h2
theorem GuardP.found:∃ k,rowIx ((laidN n a b).Qa.getD a.toNat default) ((labsOf n (wayP n a b)).getD 0 default)=some k∧(((laidN n a b).Qa.getD a.toNat default).Rows.getD k default).Next=(guardV n a b).Via∧(((laidN n a b).Qa.getD a.toNat default).Rows.getD k default).Out=(guardV n a b).Push:=by
 have h2:=h.lay.pth.two
 obtain ⟨_,w0,_⟩:=way_path h.net.frame h.lnk h.ne
 obtain ⟨k,h1,e⟩:=lay_found h.lay (i:=0) (by omega)
 rw [w0] at h1 e
 have hx:((0:Nat):Int)+1<((wayP n a b).length:Int):=by omega
 refine ⟨k,h1,?_,?_⟩
 ·show (((layTo n (wayP n a b) (labsOf n (wayP n a b)) (wayP n a b).length).getD a.toNat default).Rows.getD k default).Next=_
  rw [e]; simp only [rowAt,decide_eq_true hx,cond_true]; rfl
 ·show (((layTo n (wayP n a b) (labsOf n (wayP n a b)) (wayP n a b).length).getD a.toNat default).Rows.getD k default).Out=_
  rw [e]; simp only [rowAt,decide_eq_true hx,cond_true]; rfl
theorem GuardP.via:0≤Qt n a (guardV n a b).Via∧b≠(guardV n a b).Via∧isLabel (guardV n a b).Push:=by
 have h2:=h.lay.pth.two
 obtain ⟨_,w0,w1,w2⟩:=way_path h.net.frame h.lnk h.ne
 have:=w2 0 (by omega)
 rw [w0] at this
 exact ⟨this.1,fun e=>w1 e.symm,h.lay.lbl (i:=1) (by omega)⟩
theorem GuardP.netN:Qv (guardN n a b):=by
 have hl:0≤Qt (laidN n a b) a b:=h.lnk
 exact guard_net h.laid hl h.none' (v:=guardV n a b) rfl h.via
end
theorem guardR_net {n:Qe} (h:Qv n) (a b:Int):Qv (guardR n a b).2:=by
 unfold guardR
 by_cases hl:Qt n a b<0
 ·rw [decide_eq_true hl]; exact h
 rw [decide_eq_false hl]
 cases hg:guardIx (n.Qa.getD a.toNat default) b with
 | some k=>exact h
 | none =>
  by_cases hw:(wayP n a b).length=0
  ·rw [decide_eq_true hw]; exact h
  rw [decide_eq_false hw]
  cases hb:labsB n (wayP n a b) with
  | false=>exact h
  | true=>exact (GuardP.mk' h hl hg hw hb).netN
theorem layR_way {n:Qe} (h:Qv n) {a b:Int} (hl:¬ Qt n a b<0) (hw:¬ (wayP n a b).length=0):layR n (wayP n a b)=bif labsB n (wayP n a b) then ((labsOf n (wayP n a b)).getD 0 default,0,laidN n a b) else (0,3,n):=by
 unfold layR
 rw [pathB_ok.2 (way_path h.frame (by omega) hw).1]
 rfl
theorem labLay_way {n:Qe} (h:Qv n) (p:List Int):Qw n p=((layR n p).2.2,(layR n p).1,(layR n p).2.1):=by
 unfold Qw; rw [netB_ok.2 h]; rfl
theorem as119 (list:List Qn) (v1:Qn):F119 list v1=putK (fun x:Qn=>x.To) list v1:=by
 unfold F119 F119_j0 putK
 rw [whilePut (fun x:Qn=>x.To) list v1 (F119_s0 list v1) (fun k=>rfl)]
 simp only [Lp.fin,nn,List.nil_append]
theorem linkOf_in4 {n:Qe} (h:Qv n) {a b:Int} (hl:0≤Qt n a b):0≤a∧a<(n.Qa.length:Int)∧0≤b∧b<(n.Qa.length:Int):=by
 have:=linkOf_in h.frame hl; exact ⟨this.1,this.2.1,this.2.2.1,this.2.2.2.1⟩
theorem layR_len (n:Qe) (p:List Int):(layR n p).2.2.Qa.length=n.Qa.length:=by
 unfold layR
 cases pathB n p
 ·rfl
 cases labsB n p
 ·rfl
 exact layTo_len _ _ _ _
theorem labLay_len {n:Qe} (h:Qv n) (p:List Int):(Qw n p).1.Qa.length=n.Qa.length:=by
 rw [labLay_way h]; exact layR_len n p
theorem guard_P {n:Qe} (h:Qv n) {a b:Int} (h1:¬ Qt n a b<0) (h2:guardIx (n.Qa.getD a.toNat default) b=none) (h3:¬ (wayP n a b).length=0) (h4:(layR n (wayP n a b)).2.1=0):GuardP n a b∧layR n (wayP n a b)=((labsOf n (wayP n a b)).getD 0 default,0,laidN n a b):=by
 rw [layR_way h h1 h3] at h4 ⊢
 cases hb:labsB n (wayP n a b) with
 | false=>rw [hb] at h4; cases h4
 | true=>exact ⟨GuardP.mk' h h1 h2 h3 hb,rfl⟩
theorem layR_vias {n:Qe} (h:Qv n) (p:List Int) (k:Nat):((layR n p).2.2.Qa.getD k default).Qc.length≤8:=Qv.vias (layR_net h p) k
theorem guard_vc2 {n:Qe} (h:Qv n) {a b:Int} (h1:¬ Qt n a b<0) (h2:¬ oix (guardIx (n.Qa.getD a.toNat default) b)≥0) (h3:¬ ((Qx n a b (Qt n a b)).length:Int)=0) (h4:(Qw n (Qx n a b (Qt n a b))).2.2=0) :
  GuardP n a b∧Qw n (Qx n a b (Qt n a b))=(laidN n a b,(labsOf n (wayP n a b)).getD 0 default,0):=by
 rw [labLay_way h] at h4 ⊢
 have hg:guardIx (n.Qa.getD a.toNat default) b=none:=oix_neg.1 (by omega)
 obtain ⟨hP,e⟩:=guard_P h h1 hg (by unfold wayP; omega) h4
 refine ⟨hP,?_⟩
 have e2:layR n (Qx n a b (Qt n a b))=_:=e
 rw [e2]
theorem guard_vcf {n:Qe} (h:Qv n) {a b:Int} (h1:¬ Qt n a b<0) (h2:¬ oix (guardIx (n.Qa.getD a.toNat default) b)≥0) (h3:¬ ((Qx n a b (Qt n a b)).length:Int)=0) (h4:(Qw n (Qx n a b (Qt n a b))).2.2=0) :
  0≤oix (rowIx (((Qw n (Qx n a b (Qt n a b))).1.Qa).getD a.toNat default) (Qw n (Qx n a b (Qt n a b))).2.1):=by
 obtain ⟨hP,e⟩:=guard_vc2 h h1 h2 h3 h4
 rw [e]
 obtain ⟨k,k1,_⟩:=hP.found
 rw [k1]; simp only [oix]; omega
theorem guard_vcn {n:Qe} (h:Qv n) {a b:Int} (h1:¬ Qt n a b<0) (h2:¬ oix (guardIx (n.Qa.getD a.toNat default) b)≥0) (h3:¬ ((Qx n a b (Qt n a b)).length:Int)=0) (h4:(Qw n (Qx n a b (Qt n a b))).2.2=0) :
  (((Qw n (Qx n a b (Qt n a b))).1).Qa).set a.toNat (⟨((((Qw n (Qx n a b (Qt n a b))).1).Qa).getD a.toNat default).Rows,(putK (fun x:Qn=>x.To) (((((Qw n (Qx n a b (Qt n a b))).1).Qa).getD a.toNat default).Qc) (⟨b,((((((Qw n (Qx n a b (Qt n a b))).1).Qa).getD a.toNat default).Rows).getD (oix (rowIx ((((Qw n (Qx n a b (Qt n a b))).1).Qa).getD a.toNat default) ((Qw n (Qx n a b (Qt n a b))).2.1))).toNat default).Next,((((((Qw n (Qx n a b (Qt n a b))).1).Qa).getD a.toNat default).Rows).getD (oix (rowIx ((((Qw n (Qx n a b (Qt n a b))).1).Qa).getD a.toNat default) ((Qw n (Qx n a b (Qt n a b))).2.1))).toNat default).Out⟩:Qn))⟩:Qi)=(guardN n a b).Qa:=by
 obtain ⟨hP,e⟩:=guard_vc2 h h1 h2 h3 h4
 rw [e]
 obtain ⟨k,k1,k2,k3⟩:=hP.found
 simp only [k1,oix,nn,k2,k3]
 rfl
theorem net_bounds {n:Qe} (h:Qv n) {xs:List Qi} (e:xs=n.Qa):xs.length≤1000000000∧∀ k:Nat,(xs.getD k default).Rows.length≤1000000000∧(xs.getD k default).Qc.length≤1000000000:=by
 subst e
 have h8:=h.frame.b8
 refine ⟨by omega,fun k=>?_⟩
 have h1:=Qv.rows h k
 have h2:=Qv.vias h k
 omega
theorem labLay_vias {n:Qe} (h:Qv n) (p:List Int) (k:Nat):((Qw n p).1.Qa.getD k default).Qc.length≤8:=by
 rw [labLay_way h]; exact layR_vias h p k
theorem labLay_links {n:Qe} (h:Qv n) (p:List Int):(Qw n p).1.Qb=n.Qb:=by
 rw [labLay_way h]
 unfold layR
 cases pathB n p
 ·rfl
 cases labsB n p <;> rfl
def T119 (R:List Qn) (list:List Qn) (v1:Qn):Spec:=⟨(S119 R list v1).args,(S119 R list v1).res,list.length≤1000000000⟩
theorem oa119 (list:List Qn) (v1:Qn):(T119 (putK (fun x:Qn=>x.To) list v1) list v1).ok Try.prog 119:=by
 intro hp; have h:=ok119 list v1 hp; rw [as119 list v1] at h; exact h
def F88 (n:Qe) (a:Int) (b:Int):Qe×Int :=
 bif (!(netB n)) then ((⟨[],[]⟩:Qe),1) else (bif (decide ((Qt n a b)<0)) then (n,2) else (bif (decide ((oix (guardIx (n.Qa.getD a.toNat default) b))≥0)) then (n,4) else (bif (((Qx n a b (Qt n a b)).length:Int)==0) then (n,5) else (bif ((Qw n (Qx n a b (Qt n a b))).2.2 != 0) then (n,(Qw n (Qx n a b (Qt n a b))).2.2) else ((⟨((Qw n (Qx n a b (Qt n a b))).1).Qb,((((Qw n (Qx n a b (Qt n a b))).1).Qa).set (a).toNat (⟨((((Qw n (Qx n a b (Qt n a b))).1).Qa).getD a.toNat default).Rows,(putK (fun x:Qn=>x.To) (((((Qw n (Qx n a b (Qt n a b))).1).Qa).getD a.toNat default).Qc) (⟨b,((((((Qw n (Qx n a b (Qt n a b))).1).Qa).getD a.toNat default).Rows).getD (oix (rowIx ((((Qw n (Qx n a b (Qt n a b))).1).Qa).getD a.toNat default) ((Qw n (Qx n a b (Qt n a b))).2.1))).toNat default).Next,((((((Qw n (Qx n a b (Qt n a b))).1).Qa).getD a.toNat default).Rows).getD (oix (rowIx ((((Qw n (Qx n a b (Qt n a b))).1).Qa).getD a.toNat default) ((Qw n (Qx n a b (Qt n a b))).2.1))).toNat default).Out⟩:Qn))⟩:Qi))⟩:Qe),0)))))
def S88 (R:Qe×Int) (n:Qe) (a:Int) (b:Int):Spec:=⟨[.r (.g (Qf n)),.r (.c (.v (vI a))),.r (.c (.v (vI b)))],.tu [.ag [.ow (.l 2 Qh R.1.Qb),.ow (.l 2 Qj R.1.Qa)],.v (vI R.2)],True⟩
theorem ok88 (n:Qe) (a:Int) (b:Int):(S88 (F88 n a b) n a b).ok Try.prog 88 :=
 fnG_ok mixed (fn:=Try.f88) (ct:=.seq (.no) (.seq (.seq (.reg [(1,.call 14 (S14 (netB n) n) (oa14 n) none)]) (.cond (.seq (.no) (.no)) (.no))) (.seq (.reg [(1,.call 67 (S67 n n) (oa67 n) none)]) (.seq (.reg [(3,.call 97 (S97 (Qt n a b) n a b) (oa97 n a b) none)]) (.seq (.seq (.no) (.cond (.seq (.no) (.no)) (.no))) (.seq (.seq (.reg [(6,.call 96 (S96 (oix (guardIx (n.Qa.getD a.toNat default) b)) (n.Qa.getD a.toNat default) b) (oa96 (n.Qa.getD a.toNat default) b) none)]) (.cond (.seq (.no) (.no)) (.no))) (.seq (.reg [(4,.call 44 (S44 (Qx n a b (Qt n a b)) n a b (Qt n a b)) (oa44 n a b (Qt n a b)) none)]) (.seq (.seq (.no) (.cond (.seq (.no) (.no)) (.no))) (.seq (.reg [(2,.call 35 (S35 (Qw n (Qx n a b (Qt n a b))) n (Qx n a b (Qt n a b))) (oa35 n (Qx n a b (Qt n a b))) none)]) (.seq (.seq (.no) (.cond (.seq (.no) (.no)) (.no))) (.seq (.reg [(12,.call 70 (S70 (oix (rowIx ((((Qw n (Qx n a b (Qt n a b))).1).Qa).getD a.toNat default) ((Qw n (Qx n a b (Qt n a b))).2.1))) ((((Qw n (Qx n a b (Qt n a b))).1).Qa).getD a.toNat default) ((Qw n (Qx n a b (Qt n a b))).2.1)) (oa70 ((((Qw n (Qx n a b (Qt n a b))).1).Qa).getD a.toNat default) ((Qw n (Qx n a b (Qt n a b))).2.1)) none)]) (.seq (.reg [(15,.call 119 (T119 (putK (fun x:Qn=>x.To) (((((Qw n (Qx n a b (Qt n a b))).1).Qa).getD a.toNat default).Qc) (⟨b,((((((Qw n (Qx n a b (Qt n a b))).1).Qa).getD a.toNat default).Rows).getD (oix (rowIx ((((Qw n (Qx n a b (Qt n a b))).1).Qa).getD a.toNat default) ((Qw n (Qx n a b (Qt n a b))).2.1))).toNat default).Next,((((((Qw n (Qx n a b (Qt n a b))).1).Qa).getD a.toNat default).Rows).getD (oix (rowIx ((((Qw n (Qx n a b (Qt n a b))).1).Qa).getD a.toNat default) ((Qw n (Qx n a b (Qt n a b))).2.1))).toNat default).Out⟩:Qn)) (((((Qw n (Qx n a b (Qt n a b))).1).Qa).getD a.toNat default).Qc) (⟨b,((((((Qw n (Qx n a b (Qt n a b))).1).Qa).getD a.toNat default).Rows).getD (oix (rowIx ((((Qw n (Qx n a b (Qt n a b))).1).Qa).getD a.toNat default) ((Qw n (Qx n a b (Qt n a b))).2.1))).toNat default).Next,((((((Qw n (Qx n a b (Qt n a b))).1).Qa).getD a.toNat default).Rows).getD (oix (rowIx ((((Qw n (Qx n a b (Qt n a b))).1).Qa).getD a.toNat default) ((Qw n (Qx n a b (Qt n a b))).2.1))).toNat default).Out⟩:Qn)) (oa119 (((((Qw n (Qx n a b (Qt n a b))).1).Qa).getD a.toNat default).Qc) (⟨b,((((((Qw n (Qx n a b (Qt n a b))).1).Qa).getD a.toNat default).Rows).getD (oix (rowIx ((((Qw n (Qx n a b (Qt n a b))).1).Qa).getD a.toNat default) ((Qw n (Qx n a b (Qt n a b))).2.1))).toNat default).Next,((((((Qw n (Qx n a b (Qt n a b))).1).Qa).getD a.toNat default).Rows).getD (oix (rowIx ((((Qw n (Qx n a b (Qt n a b))).1).Qa).getD a.toNat default) ((Qw n (Qx n a b (Qt n a b))).2.1))).toNat default).Out⟩:Qn)) none),(18,.dat (.l 2 Qj ((((Qw n (Qx n a b (Qt n a b))).1).Qa).set (a).toNat (⟨((((Qw n (Qx n a b (Qt n a b))).1).Qa).getD a.toNat default).Rows,(putK (fun x:Qn=>x.To) (((((Qw n (Qx n a b (Qt n a b))).1).Qa).getD a.toNat default).Qc) (⟨b,((((((Qw n (Qx n a b (Qt n a b))).1).Qa).getD a.toNat default).Rows).getD (oix (rowIx ((((Qw n (Qx n a b (Qt n a b))).1).Qa).getD a.toNat default) ((Qw n (Qx n a b (Qt n a b))).2.1))).toNat default).Next,((((((Qw n (Qx n a b (Qt n a b))).1).Qa).getD a.toNat default).Rows).getD (oix (rowIx ((((Qw n (Qx n a b (Qt n a b))).1).Qa).getD a.toNat default) ((Qw n (Qx n a b (Qt n a b))).2.1))).toNat default).Out⟩:Qn))⟩:Qi))))]) (.seq (.reg [(1,.call 67 (S67 (⟨((Qw n (Qx n a b (Qt n a b))).1).Qb,((((Qw n (Qx n a b (Qt n a b))).1).Qa).set (a).toNat (⟨((((Qw n (Qx n a b (Qt n a b))).1).Qa).getD a.toNat default).Rows,(putK (fun x:Qn=>x.To) (((((Qw n (Qx n a b (Qt n a b))).1).Qa).getD a.toNat default).Qc) (⟨b,((((((Qw n (Qx n a b (Qt n a b))).1).Qa).getD a.toNat default).Rows).getD (oix (rowIx ((((Qw n (Qx n a b (Qt n a b))).1).Qa).getD a.toNat default) ((Qw n (Qx n a b (Qt n a b))).2.1))).toNat default).Next,((((((Qw n (Qx n a b (Qt n a b))).1).Qa).getD a.toNat default).Rows).getD (oix (rowIx ((((Qw n (Qx n a b (Qt n a b))).1).Qa).getD a.toNat default) ((Qw n (Qx n a b (Qt n a b))).2.1))).toNat default).Out⟩:Qn))⟩:Qi))⟩:Qe) (⟨((Qw n (Qx n a b (Qt n a b))).1).Qb,((((Qw n (Qx n a b (Qt n a b))).1).Qa).set (a).toNat (⟨((((Qw n (Qx n a b (Qt n a b))).1).Qa).getD a.toNat default).Rows,(putK (fun x:Qn=>x.To) (((((Qw n (Qx n a b (Qt n a b))).1).Qa).getD a.toNat default).Qc) (⟨b,((((((Qw n (Qx n a b (Qt n a b))).1).Qa).getD a.toNat default).Rows).getD (oix (rowIx ((((Qw n (Qx n a b (Qt n a b))).1).Qa).getD a.toNat default) ((Qw n (Qx n a b (Qt n a b))).2.1))).toNat default).Next,((((((Qw n (Qx n a b (Qt n a b))).1).Qa).getD a.toNat default).Rows).getD (oix (rowIx ((((Qw n (Qx n a b (Qt n a b))).1).Qa).getD a.toNat default) ((Qw n (Qx n a b (Qt n a b))).2.1))).toNat default).Out⟩:Qn))⟩:Qi))⟩:Qe)) (oa67 (⟨((Qw n (Qx n a b (Qt n a b))).1).Qb,((((Qw n (Qx n a b (Qt n a b))).1).Qa).set (a).toNat (⟨((((Qw n (Qx n a b (Qt n a b))).1).Qa).getD a.toNat default).Rows,(putK (fun x:Qn=>x.To) (((((Qw n (Qx n a b (Qt n a b))).1).Qa).getD a.toNat default).Qc) (⟨b,((((((Qw n (Qx n a b (Qt n a b))).1).Qa).getD a.toNat default).Rows).getD (oix (rowIx ((((Qw n (Qx n a b (Qt n a b))).1).Qa).getD a.toNat default) ((Qw n (Qx n a b (Qt n a b))).2.1))).toNat default).Next,((((((Qw n (Qx n a b (Qt n a b))).1).Qa).getD a.toNat default).Rows).getD (oix (rowIx ((((Qw n (Qx n a b (Qt n a b))).1).Qa).getD a.toNat default) ((Qw n (Qx n a b (Qt n a b))).2.1))).toNat default).Out⟩:Qn))⟩:Qi))⟩:Qe)) none)]) (.no)))))))))))))) Try.func88 (fun (_:True)=>ai (trivial) (ai ((Imps.refl (Qf n))) (ai (fun h1:(!(netB n))=true=>(fun hF:((⟨[],[]⟩:Qe),1)=(F88 n a b)=>ai ((Imp.nil 2 Qh).trans (Imp.of_eq (congrArg (fun r:Qe×Int=>Dat.l 2 Qh r.1.Qb) hF))) (ai ((Imp.nil 2 Qj).trans (Imp.of_eq (congrArg (fun r:Qe×Int=>Dat.l 2 Qj r.1.Qa) hF))) (ai (congrArg (fun r:Qe×Int=>(.int .i64 r.2:Value)) hF) (trivial)))) (condT h1 (rfl))) (fun h1:(!(netB n))=false=>(fun _:n.Qb.length≤14=>(fun _:n.Qa.length≤8=>(fun _:Qv n=>ai ((ai ((by first | omega | (intro k; have:=Qv.rows (by assumption:Qv n) k; have:=Qv.vias (by assumption:Qv n) k; omega) | (rw [labLay_links (by assumption)]; omega) | (have hq:=net_bounds (GuardP.netN (guard_vc2 (by assumption) (by assumption) (by assumption) (by assumption) (by assumption)).1) (guard_vcn (by assumption) (by assumption) (by assumption) (by assumption) (by assumption)); first | exact hq.1 | exact fun k=>(hq.2 k).1 | exact fun k=>(hq.2 k).2):n.Qb.length≤1000000000)) (ai ((by first | omega | (intro k; have:=Qv.rows (by assumption:Qv n) k; have:=Qv.vias (by assumption:Qv n) k; omega) | (rw [labLay_links (by assumption)]; omega) | (have hq:=net_bounds (GuardP.netN (guard_vc2 (by assumption) (by assumption) (by assumption) (by assumption) (by assumption)).1) (guard_vcn (by assumption) (by assumption) (by assumption) (by assumption) (by assumption)); first | exact hq.1 | exact fun k=>(hq.2 k).1 | exact fun k=>(hq.2 k).2):n.Qa.length≤1000000000)) (ai ((by first | omega | (intro k; have:=Qv.rows (by assumption:Qv n) k; have:=Qv.vias (by assumption:Qv n) k; omega) | (rw [labLay_links (by assumption)]; omega) | (have hq:=net_bounds (GuardP.netN (guard_vc2 (by assumption) (by assumption) (by assumption) (by assumption) (by assumption)).1) (guard_vcn (by assumption) (by assumption) (by assumption) (by assumption) (by assumption)); first | exact hq.1 | exact fun k=>(hq.2 k).1 | exact fun k=>(hq.2 k).2):∀ k:Nat,(n.Qa.getD k default).Rows.length≤1000000000)) ((by first | omega | (intro k; have:=Qv.rows (by assumption:Qv n) k; have:=Qv.vias (by assumption:Qv n) k; omega) | (rw [labLay_links (by assumption)]; omega) | (have hq:=net_bounds (GuardP.netN (guard_vc2 (by assumption) (by assumption) (by assumption) (by assumption) (by assumption)).1) (guard_vcn (by assumption) (by assumption) (by assumption) (by assumption) (by assumption)); first | exact hq.1 | exact fun k=>(hq.2 k).1 | exact fun k=>(hq.2 k).2):∀ k:Nat,(n.Qa.getD k default).Qc.length≤1000000000)))))) (ai ((Imps.refl (Qf n))) (ai (trivial) (ai ((Imps.refl (Qf n))) (ai ((Imp.refl (.v (vI a)))) (ai ((Imp.refl (.v (vI b)))) ((fun gv2:0≤(Qt n a b)→0≤a∧a<(n.Qa.length:Int)∧0≤b∧b<(n.Qa.length:Int)=>ai (fun h3:(decide ((Qt n a b)<0))=true=>(fun _:(Qt n a b)<0=>(fun hF:(n,2)=(F88 n a b)=>ai (Imp.of_eq (congrArg (fun r:Qe×Int=>Dat.l 2 Qh r.1.Qb) hF)) (ai (Imp.of_eq (congrArg (fun r:Qe×Int=>Dat.l 2 Qj r.1.Qa) hF)) (ai (congrArg (fun r:Qe×Int=>(.int .i64 r.2:Value)) hF) (trivial)))) (condF h1 (condT h3 (rfl)))) (of_decide_eq_true h3)) (fun h3:(decide ((Qt n a b)<0))=false=>(fun _:¬ (Qt n a b)<0=>ai ((by first | omega | (simp only [lens] at*<;> omega):0≤a∧a<(n.Qa.length:Int))) (ai (trivial) (ai ((Imps.refl (Qj (n.Qa.getD a.toNat default)))) (ai ((Imp.refl (.v (vI b)))) ((fun gv4:(oix (guardIx (n.Qa.getD a.toNat default) b))<((n.Qa.getD a.toNat default).Qc.length:Int)=>ai (fun h5:(decide ((oix (guardIx (n.Qa.getD a.toNat default) b))≥0))=true=>(fun _:(oix (guardIx (n.Qa.getD a.toNat default) b))≥0=>(fun hF:(n,4)=(F88 n a b)=>ai (Imp.of_eq (congrArg (fun r:Qe×Int=>Dat.l 2 Qh r.1.Qb) hF)) (ai (Imp.of_eq (congrArg (fun r:Qe×Int=>Dat.l 2 Qj r.1.Qa) hF)) (ai (congrArg (fun r:Qe×Int=>(.int .i64 r.2:Value)) hF) (trivial)))) (condF h1 (condF h3 (condT h5 (rfl))))) (of_decide_eq_true h5)) (fun h5:(decide ((oix (guardIx (n.Qa.getD a.toNat default) b))≥0))=false=>(fun _:¬ (oix (guardIx (n.Qa.getD a.toNat default) b))≥0=>ai ((ai ((by first | assumption | exact Qv.frame (by assumption):FrameOk n)) (ai ((by first | omega | (simp only [lens] at*<;> omega):n.Qa.length≤8)) (ai ((by first | omega | (simp only [lens] at*<;> omega):0≤a)) (ai ((by first | omega | (simp only [lens] at*<;> omega):a<(n.Qa.length:Int))) (ai ((by first | omega | (simp only [lens] at*<;> omega):0≤b)) ((by first | omega | (simp only [lens] at*<;> omega):b<(n.Qa.length:Int))))))))) (ai ((Imps.refl (Qf n))) (ai ((Imp.refl (.v (vI a)))) (ai ((Imp.refl (.v (vI b)))) (ai ((Imp.refl (.v (vI (Qt n a b))))) (ai (fun h6:(((Qx n a b (Qt n a b)).length:Int)==0)=true=>(fun _:((Qx n a b (Qt n a b)).length:Int)=0=>(fun hF:(n,5)=(F88 n a b)=>ai (Imp.of_eq (congrArg (fun r:Qe×Int=>Dat.l 2 Qh r.1.Qb) hF)) (ai (Imp.of_eq (congrArg (fun r:Qe×Int=>Dat.l 2 Qj r.1.Qa) hF)) (ai (congrArg (fun r:Qe×Int=>(.int .i64 r.2:Value)) hF) (trivial)))) (condF h1 (condF h3 (condF h5 (condT h6 (rfl)))))) (eq_of_beq h6)) (fun h6:(((Qx n a b (Qt n a b)).length:Int)==0)=false=>(fun _:¬ ((Qx n a b (Qt n a b)).length:Int)=0=>ai (trivial) (ai ((Imps.refl (Qf n))) (ai ((Imp.refl (.l 1 eInt (Qx n a b (Qt n a b))))) ((fun gv7:((Qw n (Qx n a b (Qt n a b)))).1.Qa.length=n.Qa.length=>ai (fun h8:((Qw n (Qx n a b (Qt n a b))).2.2 != 0)=true=>(fun _:¬ (Qw n (Qx n a b (Qt n a b))).2.2=0=>(fun hF:(n,(Qw n (Qx n a b (Qt n a b))).2.2)=(F88 n a b)=>ai (Imp.of_eq (congrArg (fun r:Qe×Int=>Dat.l 2 Qh r.1.Qb) hF)) (ai (Imp.of_eq (congrArg (fun r:Qe×Int=>Dat.l 2 Qj r.1.Qa) hF)) (ai (congrArg (fun r:Qe×Int=>(.int .i64 r.2:Value)) hF) (trivial)))) (condF h1 (condF h3 (condF h5 (condF h6 (condT h8 (rfl))))))) (bneT h8)) (fun h8:((Qw n (Qx n a b (Qt n a b))).2.2 != 0)=false=>(fun _:(Qw n (Qx n a b (Qt n a b))).2.2=0=>ai ((by first | omega | (simp only [lens] at*<;> omega):0≤a∧a<((((Qw n (Qx n a b (Qt n a b))).1).Qa).length:Int))) (ai ((by first | omega | (simp only [lens] at*<;> omega):0≤a∧a<((((Qw n (Qx n a b (Qt n a b))).1).Qa).length:Int))) (ai (trivial) (ai ((Imps.refl (Qj ((((Qw n (Qx n a b (Qt n a b))).1).Qa).getD a.toNat default)))) (ai ((Imp.refl (.v (vI ((Qw n (Qx n a b (Qt n a b))).2.1))))) ((fun gv9:(oix (rowIx ((((Qw n (Qx n a b (Qt n a b))).1).Qa).getD a.toNat default) ((Qw n (Qx n a b (Qt n a b))).2.1)))<(((((Qw n (Qx n a b (Qt n a b))).1).Qa).getD a.toNat default).Rows.length:Int)=>(fun gv10:0≤(oix (rowIx ((((Qw n (Qx n a b (Qt n a b))).1).Qa).getD a.toNat default) ((Qw n (Qx n a b (Qt n a b))).2.1)))=>ai ((by first | omega | (simp only [lens] at*<;> omega):0≤(oix (rowIx ((((Qw n (Qx n a b (Qt n a b))).1).Qa).getD a.toNat default) ((Qw n (Qx n a b (Qt n a b))).2.1)))∧(oix (rowIx ((((Qw n (Qx n a b (Qt n a b))).1).Qa).getD a.toNat default) ((Qw n (Qx n a b (Qt n a b))).2.1)))<((((((Qw n (Qx n a b (Qt n a b))).1).Qa).getD a.toNat default).Rows).length:Int))) (ai ((by first | omega | (simp only [lens] at*<;> omega):0≤a∧a<((((Qw n (Qx n a b (Qt n a b))).1).Qa).length:Int))) (ai (((by (have hq:=labLay_vias (by assumption:Qv n) (Qx n a b (Qt n a b)) a.toNat; omega):(((((Qw n (Qx n a b (Qt n a b))).1).Qa).getD a.toNat default).Qc).length≤1000000000))) (ai ((Imp.refl (.l 3 Qo (((((Qw n (Qx n a b (Qt n a b))).1).Qa).getD a.toNat default).Qc)))) (ai ((Imps.refl (Qo (⟨b,((((((Qw n (Qx n a b (Qt n a b))).1).Qa).getD a.toNat default).Rows).getD (oix (rowIx ((((Qw n (Qx n a b (Qt n a b))).1).Qa).getD a.toNat default) ((Qw n (Qx n a b (Qt n a b))).2.1))).toNat default).Next,((((((Qw n (Qx n a b (Qt n a b))).1).Qa).getD a.toNat default).Rows).getD (oix (rowIx ((((Qw n (Qx n a b (Qt n a b))).1).Qa).getD a.toNat default) ((Qw n (Qx n a b (Qt n a b))).2.1))).toNat default).Out⟩:Qn)))) (ai ((by first | omega | (simp only [lens] at*<;> omega):0≤a∧a<((((Qw n (Qx n a b (Qt n a b))).1).Qa).length:Int))) (ai ((SetOK.mk Qj (((Qw n (Qx n a b (Qt n a b))).1).Qa) (⟨((((Qw n (Qx n a b (Qt n a b))).1).Qa).getD a.toNat default).Rows,(putK (fun x:Qn=>x.To) (((((Qw n (Qx n a b (Qt n a b))).1).Qa).getD a.toNat default).Qc) (⟨b,((((((Qw n (Qx n a b (Qt n a b))).1).Qa).getD a.toNat default).Rows).getD (oix (rowIx ((((Qw n (Qx n a b (Qt n a b))).1).Qa).getD a.toNat default) ((Qw n (Qx n a b (Qt n a b))).2.1))).toNat default).Next,((((((Qw n (Qx n a b (Qt n a b))).1).Qa).getD a.toNat default).Rows).getD (oix (rowIx ((((Qw n (Qx n a b (Qt n a b))).1).Qa).getD a.toNat default) ((Qw n (Qx n a b (Qt n a b))).2.1))).toNat default).Out⟩:Qn))⟩:Qi) rfl (by exact ai ir (ai ir (trivial))):SetOK (.l 2 Qj (((Qw n (Qx n a b (Qt n a b))).1).Qa)) (a).toNat (Qj ((((Qw n (Qx n a b (Qt n a b))).1).Qa).getD a.toNat default)) [.l 3 Ql (((((Qw n (Qx n a b (Qt n a b))).1).Qa).getD a.toNat default).Rows),.l 3 Qo (putK (fun x:Qn=>x.To) (((((Qw n (Qx n a b (Qt n a b))).1).Qa).getD a.toNat default).Qc) (⟨b,((((((Qw n (Qx n a b (Qt n a b))).1).Qa).getD a.toNat default).Rows).getD (oix (rowIx ((((Qw n (Qx n a b (Qt n a b))).1).Qa).getD a.toNat default) ((Qw n (Qx n a b (Qt n a b))).2.1))).toNat default).Next,((((((Qw n (Qx n a b (Qt n a b))).1).Qa).getD a.toNat default).Rows).getD (oix (rowIx ((((Qw n (Qx n a b (Qt n a b))).1).Qa).getD a.toNat default) ((Qw n (Qx n a b (Qt n a b))).2.1))).toNat default).Out⟩:Qn))] (.l 2 Qj ((((Qw n (Qx n a b (Qt n a b))).1).Qa).set (a).toNat (⟨((((Qw n (Qx n a b (Qt n a b))).1).Qa).getD a.toNat default).Rows,(putK (fun x:Qn=>x.To) (((((Qw n (Qx n a b (Qt n a b))).1).Qa).getD a.toNat default).Qc) (⟨b,((((((Qw n (Qx n a b (Qt n a b))).1).Qa).getD a.toNat default).Rows).getD (oix (rowIx ((((Qw n (Qx n a b (Qt n a b))).1).Qa).getD a.toNat default) ((Qw n (Qx n a b (Qt n a b))).2.1))).toNat default).Next,((((((Qw n (Qx n a b (Qt n a b))).1).Qa).getD a.toNat default).Rows).getD (oix (rowIx ((((Qw n (Qx n a b (Qt n a b))).1).Qa).getD a.toNat default) ((Qw n (Qx n a b (Qt n a b))).2.1))).toNat default).Out⟩:Qn))⟩:Qi))))) (ai ((ai ((by first | omega | (intro k; have:=Qv.rows (by assumption:Qv n) k; have:=Qv.vias (by assumption:Qv n) k; omega) | (rw [labLay_links (by assumption)]; omega) | (have hq:=net_bounds (GuardP.netN (guard_vc2 (by assumption) (by assumption) (by assumption) (by assumption) (by assumption)).1) (guard_vcn (by assumption) (by assumption) (by assumption) (by assumption) (by assumption)); first | exact hq.1 | exact fun k=>(hq.2 k).1 | exact fun k=>(hq.2 k).2):(((Qw n (Qx n a b (Qt n a b))).1).Qb).length≤1000000000)) (ai ((by first | omega | (intro k; have:=Qv.rows (by assumption:Qv n) k; have:=Qv.vias (by assumption:Qv n) k; omega) | (rw [labLay_links (by assumption)]; omega) | (have hq:=net_bounds (GuardP.netN (guard_vc2 (by assumption) (by assumption) (by assumption) (by assumption) (by assumption)).1) (guard_vcn (by assumption) (by assumption) (by assumption) (by assumption) (by assumption)); first | exact hq.1 | exact fun k=>(hq.2 k).1 | exact fun k=>(hq.2 k).2):((((Qw n (Qx n a b (Qt n a b))).1).Qa).set (a).toNat (⟨((((Qw n (Qx n a b (Qt n a b))).1).Qa).getD a.toNat default).Rows,(putK (fun x:Qn=>x.To) (((((Qw n (Qx n a b (Qt n a b))).1).Qa).getD a.toNat default).Qc) (⟨b,((((((Qw n (Qx n a b (Qt n a b))).1).Qa).getD a.toNat default).Rows).getD (oix (rowIx ((((Qw n (Qx n a b (Qt n a b))).1).Qa).getD a.toNat default) ((Qw n (Qx n a b (Qt n a b))).2.1))).toNat default).Next,((((((Qw n (Qx n a b (Qt n a b))).1).Qa).getD a.toNat default).Rows).getD (oix (rowIx ((((Qw n (Qx n a b (Qt n a b))).1).Qa).getD a.toNat default) ((Qw n (Qx n a b (Qt n a b))).2.1))).toNat default).Out⟩:Qn))⟩:Qi)).length≤1000000000)) (ai ((by first | omega | (intro k; have:=Qv.rows (by assumption:Qv n) k; have:=Qv.vias (by assumption:Qv n) k; omega) | (rw [labLay_links (by assumption)]; omega) | (have hq:=net_bounds (GuardP.netN (guard_vc2 (by assumption) (by assumption) (by assumption) (by assumption) (by assumption)).1) (guard_vcn (by assumption) (by assumption) (by assumption) (by assumption) (by assumption)); first | exact hq.1 | exact fun k=>(hq.2 k).1 | exact fun k=>(hq.2 k).2):∀ k:Nat,(((((Qw n (Qx n a b (Qt n a b))).1).Qa).set (a).toNat (⟨((((Qw n (Qx n a b (Qt n a b))).1).Qa).getD a.toNat default).Rows,(putK (fun x:Qn=>x.To) (((((Qw n (Qx n a b (Qt n a b))).1).Qa).getD a.toNat default).Qc) (⟨b,((((((Qw n (Qx n a b (Qt n a b))).1).Qa).getD a.toNat default).Rows).getD (oix (rowIx ((((Qw n (Qx n a b (Qt n a b))).1).Qa).getD a.toNat default) ((Qw n (Qx n a b (Qt n a b))).2.1))).toNat default).Next,((((((Qw n (Qx n a b (Qt n a b))).1).Qa).getD a.toNat default).Rows).getD (oix (rowIx ((((Qw n (Qx n a b (Qt n a b))).1).Qa).getD a.toNat default) ((Qw n (Qx n a b (Qt n a b))).2.1))).toNat default).Out⟩:Qn))⟩:Qi)).getD k default).Rows.length≤1000000000)) ((by first | omega | (intro k; have:=Qv.rows (by assumption:Qv n) k; have:=Qv.vias (by assumption:Qv n) k; omega) | (rw [labLay_links (by assumption)]; omega) | (have hq:=net_bounds (GuardP.netN (guard_vc2 (by assumption) (by assumption) (by assumption) (by assumption) (by assumption)).1) (guard_vcn (by assumption) (by assumption) (by assumption) (by assumption) (by assumption)); first | exact hq.1 | exact fun k=>(hq.2 k).1 | exact fun k=>(hq.2 k).2):∀ k:Nat,(((((Qw n (Qx n a b (Qt n a b))).1).Qa).set (a).toNat (⟨((((Qw n (Qx n a b (Qt n a b))).1).Qa).getD a.toNat default).Rows,(putK (fun x:Qn=>x.To) (((((Qw n (Qx n a b (Qt n a b))).1).Qa).getD a.toNat default).Qc) (⟨b,((((((Qw n (Qx n a b (Qt n a b))).1).Qa).getD a.toNat default).Rows).getD (oix (rowIx ((((Qw n (Qx n a b (Qt n a b))).1).Qa).getD a.toNat default) ((Qw n (Qx n a b (Qt n a b))).2.1))).toNat default).Next,((((((Qw n (Qx n a b (Qt n a b))).1).Qa).getD a.toNat default).Rows).getD (oix (rowIx ((((Qw n (Qx n a b (Qt n a b))).1).Qa).getD a.toNat default) ((Qw n (Qx n a b (Qt n a b))).2.1))).toNat default).Out⟩:Qn))⟩:Qi)).getD k default).Qc.length≤1000000000)))))) (ai ((Imps.refl (Qf (⟨((Qw n (Qx n a b (Qt n a b))).1).Qb,((((Qw n (Qx n a b (Qt n a b))).1).Qa).set (a).toNat (⟨((((Qw n (Qx n a b (Qt n a b))).1).Qa).getD a.toNat default).Rows,(putK (fun x:Qn=>x.To) (((((Qw n (Qx n a b (Qt n a b))).1).Qa).getD a.toNat default).Qc) (⟨b,((((((Qw n (Qx n a b (Qt n a b))).1).Qa).getD a.toNat default).Rows).getD (oix (rowIx ((((Qw n (Qx n a b (Qt n a b))).1).Qa).getD a.toNat default) ((Qw n (Qx n a b (Qt n a b))).2.1))).toNat default).Next,((((((Qw n (Qx n a b (Qt n a b))).1).Qa).getD a.toNat default).Rows).getD (oix (rowIx ((((Qw n (Qx n a b (Qt n a b))).1).Qa).getD a.toNat default) ((Qw n (Qx n a b (Qt n a b))).2.1))).toNat default).Out⟩:Qn))⟩:Qi))⟩:Qe)))) ((fun hF:((⟨((Qw n (Qx n a b (Qt n a b))).1).Qb,((((Qw n (Qx n a b (Qt n a b))).1).Qa).set (a).toNat (⟨((((Qw n (Qx n a b (Qt n a b))).1).Qa).getD a.toNat default).Rows,(putK (fun x:Qn=>x.To) (((((Qw n (Qx n a b (Qt n a b))).1).Qa).getD a.toNat default).Qc) (⟨b,((((((Qw n (Qx n a b (Qt n a b))).1).Qa).getD a.toNat default).Rows).getD (oix (rowIx ((((Qw n (Qx n a b (Qt n a b))).1).Qa).getD a.toNat default) ((Qw n (Qx n a b (Qt n a b))).2.1))).toNat default).Next,((((((Qw n (Qx n a b (Qt n a b))).1).Qa).getD a.toNat default).Rows).getD (oix (rowIx ((((Qw n (Qx n a b (Qt n a b))).1).Qa).getD a.toNat default) ((Qw n (Qx n a b (Qt n a b))).2.1))).toNat default).Out⟩:Qn))⟩:Qi))⟩:Qe),0)=(F88 n a b)=>ai (Imp.of_eq (congrArg (fun r:Qe×Int=>Dat.l 2 Qh r.1.Qb) hF)) (ai (Imp.of_eq (congrArg (fun r:Qe×Int=>Dat.l 2 Qj r.1.Qa) hF)) (ai (congrArg (fun r:Qe×Int=>(.int .i64 r.2:Value)) hF) (trivial)))) (condF h1 (condF h3 (condF h5 (condF h6 (condF h8 (rfl)))))))))))))))) ((by exact guard_vcf (by assumption) (by assumption) (by assumption) (by assumption) (by assumption)))) (rowIx_lt ((((Qw n (Qx n a b (Qt n a b))).1).Qa).getD a.toNat default) ((Qw n (Qx n a b (Qt n a b))).2.1)))))))) (bneF h8))) ((by exact labLay_len (by assumption) _)))))) (beqF h6)))))))) (of_decide_eq_false h5))) (guardIx_lt (n.Qa.getD a.toNat default) b)))))) (of_decide_eq_false h3))) ((by exact fun h=>linkOf_in4 (by assumption) h))))))))) (netB_T n (notEF h1))) (netB_8 n (notEF h1))) (netB_14 n (notEF h1)))))) (by kernel_rfl)
def labGuard (n:Qe) (a b:Int):Qe×Int:=bif netB n then ((guardR n a b).2,(guardR n a b).1) else (⟨[],[]⟩,1)
theorem as88 (n:Qe) (a b:Int):F88 n a b=labGuard n a b:=by
 unfold F88 labGuard guardR
 cases hn:netB n
 ·rfl
 have h:=netB_T n hn
 simp only [Bool.not_true,cond_false,cond_true]
 by_cases hl:Qt n a b<0
 ·rw [decide_eq_true hl]; rfl
 rw [decide_eq_false hl]
 simp only [cond_false]
 cases hg:guardIx (n.Qa.getD a.toNat default) b with
 | some k =>
  rw [show decide (oix (some k)≥0)=true from decide_eq_true (by simp only [oix]; omega)]; rfl
 | none =>
  rw [show decide (oix (none:Option Nat)≥0)=false from rfl,beqD]
  simp only [cond_false,Option.isSome_none]
  by_cases hw:(wayP n a b).length=0
  ·have:((Qx n a b (Qt n a b)).length:Int)=0:=by unfold wayP at hw; omega
   rw [decide_eq_true this,decide_eq_true hw]; rfl
  have hw2:¬ ((Qx n a b (Qt n a b)).length:Int)=0:=by unfold wayP at hw; omega
  rw [decide_eq_false hw2,decide_eq_false hw]
  simp only [cond_false]
  cases hb:labsB n (wayP n a b) with
  | false =>
   have e:Qw n (Qx n a b (Qt n a b))=(n,0,3):=by
    rw [labLay_way h]
    have e2:layR n (Qx n a b (Qt n a b))=_:=layR_way h hl hw
    rw [e2,hb]; rfl
   rw [e]; rfl
  | true =>
   have h4:(Qw n (Qx n a b (Qt n a b))).2.2=0:=by
    rw [labLay_way h]
    have e2:layR n (Qx n a b (Qt n a b))=_:=layR_way h hl hw
    rw [e2,hb]; rfl
   have hg2:¬ oix (guardIx (n.Qa.getD a.toNat default) b)≥0:=by rw [hg]; decide
   have e:=guard_vcn h hl hg2 hw2 h4
   rw [h4,labLay_links h,e]
   rfl
theorem labGuard_way {n:Qe} (h:Qv n) (a b:Int):labGuard n a b=((guardR n a b).2,(guardR n a b).1):=by
 unfold labGuard; rw [netB_ok.2 h]; rfl
theorem labGuard_net {n:Qe} (h:Qv n) (a b:Int):Qv (labGuard n a b).1:=by
 rw [labGuard_way h]; exact guardR_net h a b
theorem Qv.bounds {n:Qe} (h:Qv n):n.Qb.length≤1000000000∧n.Qa.length≤1000000000∧∀ k:Nat,(n.Qa.getD k default).Rows.length≤1000000000∧(n.Qa.getD k default).Qc.length≤1000000000:=by
 have h14:=h.frame.l14
 obtain ⟨h1,h2⟩:=net_bounds h rfl
 exact ⟨by omega,h1,h2⟩
theorem oa88 (n:Qe) (a:Int) (b:Int):(S88 (labGuard n a b) n a b).ok Try.prog 88:=by
 intro hp; have h:=ok88 n a b hp; rw [as88 n a b] at h; exact h
def F87_s0 (n:Qe):(Int×List Qg×List Qi)→Lp (Int×List Qg×List Qi) Qe:=fun (i40,x11,x12) =>
 bif (decide (i40<(n.Qb.length:Int))) then (.next ((i40+1),((labGuard ((labGuard ⟨x11,x12⟩ ((n.Qb.getD i40.toNat default).A) ((n.Qb.getD i40.toNat default).B)).1) ((n.Qb.getD i40.toNat default).B) ((n.Qb.getD i40.toNat default).A)).1).Qb,((labGuard ((labGuard ⟨x11,x12⟩ ((n.Qb.getD i40.toNat default).A) ((n.Qb.getD i40.toNat default).B)).1) ((n.Qb.getD i40.toNat default).B) ((n.Qb.getD i40.toNat default).A)).1).Qa)) else (.done (i40,x11,x12))
def F87_j0 (n:Qe):Lp (List Qg×List Qi) Qe :=
 (runL (F87_s0 n) (((n.Qb.length:Int)-0).toNat+1) (0,n.Qb,n.Qa)).fin Lp.ret (fun (i40,x11,x12)=>.done (x11,x12))
def F87 (n:Qe):Qe :=
 bif (!(netB n)) then (⟨[],[]⟩:Qe) else ((F87_j0 n).fin (fun r=>r) (fun (x9,x10)=>(⟨x9,x10⟩:Qe)))
def S87 (R:Qe) (n:Qe):Spec:=⟨[.r (.g (Qf n))],.ag [.ow (.l 2 Qh R.Qb),.ow (.l 2 Qj R.Qa)],True⟩
abbrev q87_1 (x11:List Qg) (x12:List Qi) (n:Qe) (i40:Int):=(labGuard ((labGuard ⟨x11,x12⟩ ((n.Qb.getD i40.toNat default).A) ((n.Qb.getD i40.toNat default).B)).1) ((n.Qb.getD i40.toNat default).B) ((n.Qb.getD i40.toNat default).A))
abbrev q87_2 (n:Qe):=(runL (F87_s0 n) (((n.Qb.length:Int)-0).toNat+1) (0,n.Qb,n.Qa))
abbrev q87_3 (n:Qe) (i40:Int):=(n.Qb.getD i40.toNat default)
theorem ok87 (n:Qe):(S87 (F87 n) n).ok Try.prog 87 :=
 fnG_ok mixed (fn:=Try.f87) (ct:=.seq (.no) (.seq (.seq (.reg [(1,.call 14 (S14 (netB n) n) (oa14 n) none)]) (.cond (.seq (.no) (.no)) (.no))) (.seq (.reg [(1,.call 67 (S67 n n) (oa67 n) none)]) (.cut (ι:=List Qg×List Qi) (fun j=>(fun (x9:List Qg) (x10:List Qi)=>(⟨[(2,some (.p 0 0)),(3,some (.p 1 0))],[(0,some (.box 26 [.v (.slice none 0 0),.v (.slice none 0 0)])),(1,some (.box 26 [.h 2 0,.h 3 0])),(2,some (.own 2 (.l 2 Qh x9))),(3,some (.own 3 (.l 2 Qj x10)))],4⟩:St)) j.1 j.2) (fun j=>(fun (x9:List Qg) (x10:List Qi)=>((F87_j0 n)=Lp.done j∧Qv (⟨x9,x10⟩:Qe))) j.1 j.2) (.seqk [(1,0),(1,1),(3,0),(3,1)] (.no) (.blk (.loop (ι:=Nat×(Int×List Qg×List Qi)) (fun i=>(fun (i40:Int) (x11:List Qg) (x12:List Qi)=>(⟨[(1,some (.p 0 0)),(2,some (.p 3 0)),(3,some (.p 4 0)),(4,some (.v (vI i40)))],[(0,some (.box 26 [.h 1 0,.h 2 0])),(1,some (.shr none (.l 2 Qh n.Qb))),(2,some (.shr none (.l 2 Qj n.Qa))),(3,some (.box 26 [.v (.slice none 0 0),.v (.slice none 0 0)])),(4,some (.box 26 [.h 5 0,.h 6 0])),(5,some (.own 5 (.l 2 Qh x11))),(6,some (.own 6 (.l 2 Qj x12)))],7⟩:St)) i.2.1 i.2.2.1 i.2.2.2) (fun i=>runL (F87_s0 n) i.1 i.2=(q87_2 n)∧(fun (i40:Int) (x11:List Qg) (x12:List Qi)=>(Int.toNat ((n.Qb.length:Int)-i40)<i.1∧Qv (⟨x11,x12⟩:Qe)∧(0:Int)≤i40)) i.2.1 i.2.2.1 i.2.2.2) (fun i=>i.1) ((((n.Qb.length:Int)-0).toNat+1),(0,n.Qb,n.Qa)) (fun i=>(fun (i40:Int) (x11:List Qg) (x12:List Qi)=>(.seq (.seq (.no) (.cond (.no) (.no))) (.seq (.blk (.seq (.reg [(13,.call 88 (S88 (labGuard ⟨x11,x12⟩ ((q87_3 n i40).A) ((q87_3 n i40).B)) (⟨x11,x12⟩:Qe) ((q87_3 n i40).A) ((q87_3 n i40).B)) (oa88 (⟨x11,x12⟩:Qe) ((q87_3 n i40).A) ((q87_3 n i40).B)) none)]) (.reg [(13,.call 88 (S88 (q87_1 x11 x12 n i40) ((labGuard ⟨x11,x12⟩ ((q87_3 n i40).A) ((q87_3 n i40).B)).1) ((q87_3 n i40).B) ((q87_3 n i40).A)) (oa88 ((labGuard ⟨x11,x12⟩ ((q87_3 n i40).A) ((q87_3 n i40).B)).1) ((q87_3 n i40).B) ((q87_3 n i40).A)) none)]))) (.reg [(1,.bnd)])))) i.2.1 i.2.2.1 i.2.2.2)))) (fun j=>(fun (x9:List Qg) (x10:List Qi)=>(.seq (.reg [(1,.call 67 (S67 (⟨x9,x10⟩:Qe) (⟨x9,x10⟩:Qe)) (oa67 (⟨x9,x10⟩:Qe)) none)]) (.no))) j.1 j.2))))) Try.func87 (fun (_:True)=>ai (trivial) (ai ((Imps.refl (Qf n))) (ai (fun h1:(!(netB n))=true=>(fun hF:((⟨[],[]⟩:Qe):Qe)=(F87 n)=>ai ((Imp.nil 2 Qh).trans (Imp.of_eq (congrArg (fun r:Qe=>Dat.l 2 Qh r.Qb) hF))) (ai ((Imp.nil 2 Qj).trans (Imp.of_eq (congrArg (fun r:Qe=>Dat.l 2 Qj r.Qa) hF))) (trivial))) (condT h1 (rfl))) (fun h1:(!(netB n))=false=>(fun _:n.Qb.length≤14=>(fun _:n.Qa.length≤8=>(fun _:Qv n=>ai ((ai ((by first | omega | (intro k; have:=Qv.rows (by assumption:Qv n) k; have:=Qv.vias (by assumption:Qv n) k; omega) | (have hq:=Qv.bounds (by assumption:Qv (⟨x9,x10⟩:Qe)); first | exact hq.1 | exact hq.2.1 | exact fun k=>(hq.2.2 k).1 | exact fun k=>(hq.2.2 k).2):n.Qb.length≤1000000000)) (ai ((by first | omega | (intro k; have:=Qv.rows (by assumption:Qv n) k; have:=Qv.vias (by assumption:Qv n) k; omega) | (have hq:=Qv.bounds (by assumption:Qv (⟨x9,x10⟩:Qe)); first | exact hq.1 | exact hq.2.1 | exact fun k=>(hq.2.2 k).1 | exact fun k=>(hq.2.2 k).2):n.Qa.length≤1000000000)) (ai ((by first | omega | (intro k; have:=Qv.rows (by assumption:Qv n) k; have:=Qv.vias (by assumption:Qv n) k; omega) | (have hq:=Qv.bounds (by assumption:Qv (⟨x9,x10⟩:Qe)); first | exact hq.1 | exact hq.2.1 | exact fun k=>(hq.2.2 k).1 | exact fun k=>(hq.2.2 k).2):∀ k:Nat,(n.Qa.getD k default).Rows.length≤1000000000)) ((by first | omega | (intro k; have:=Qv.rows (by assumption:Qv n) k; have:=Qv.vias (by assumption:Qv n) k; omega) | (have hq:=Qv.bounds (by assumption:Qv (⟨x9,x10⟩:Qe)); first | exact hq.1 | exact hq.2.1 | exact fun k=>(hq.2.2 k).1 | exact fun k=>(hq.2.2 k).2):∀ k:Nat,(n.Qa.getD k default).Qc.length≤1000000000)))))) (ai ((Imps.refl (Qf n))) (ai (fun (_:n.Qb.length≤9223372036854775807)=>fun (_:n.Qa.length≤9223372036854775807)=>fun (_:n.Qb.length≤9223372036854775807)=>fun (_:n.Qa.length≤9223372036854775807)=>ai (ai (rfl) (ai (ir) (ai (ir) (ai (rfl) (ai (rfl) (ai (ir) (ai (ir) ((ai (rfl:runL (F87_s0 n) (((n.Qb.length:Int)-0).toNat+1) (0,n.Qb,n.Qa)=(q87_2 n)) (ai ((Nat.lt_succ_self _:Int.toNat ((n.Qb.length:Int)-0)<(((n.Qb.length:Int)-0).toNat+1))) (ai ((by first | omega | (simp only [lens] at*<;> omega) | assumption | exact labGuard_net (labGuard_net (by assumption) _ _) _ _:Qv (⟨n.Qb,n.Qa⟩:Qe))) ((by first | omega | (simp only [lens] at*<;> omega) | assumption | exact labGuard_net (labGuard_net (by assumption) _ _) _ _:(0:Int)≤0)))))))))))):((.int .i64 0:Value)=.int .i64 0)∧(Imp (.l 2 Qh n.Qb) (.l 2 Qh n.Qb))∧(Imp (.l 2 Qj n.Qa) (.l 2 Qj n.Qa))∧((.slice none 0 0:Value)=.slice none 0 0)∧((.slice none 0 0:Value)=.slice none 0 0)∧(Imp (.l 2 Qh n.Qb) (.l 2 Qh n.Qb))∧(Imp (.l 2 Qj n.Qa) (.l 2 Qj n.Qa))∧(runL (F87_s0 n) (((n.Qb.length:Int)-0).toNat+1) (0,n.Qb,n.Qa)=(q87_2 n)∧Int.toNat ((n.Qb.length:Int)-0)<(((n.Qb.length:Int)-0).toNat+1)∧Qv (⟨n.Qb,n.Qa⟩:Qe)∧(0:Int)≤0)) (fun (i0:Nat×(Int×List Qg×List Qi)) (hi0:runL (F87_s0 n) i0.1 i0.2=(q87_2 n)∧(fun (i40:Int) (x11:List Qg) (x12:List Qi)=>(Int.toNat ((n.Qb.length:Int)-i40)<i0.1∧Qv (⟨x11,x12⟩:Qe)∧(0:Int)≤i40)) i0.2.1 i0.2.2.1 i0.2.2.2)=>(fun (m0:Nat) (i40:Int) (x11:List Qg) (x12:List Qi) (hI0:runL (F87_s0 n) (m0+1) (i40,x11,x12)=(q87_2 n)) (_:Int.toNat ((n.Qb.length:Int)-i40)<m0+1) (hl0:m0<i0.1) (_:Qv (⟨x11,x12⟩:Qe)) (_:(0:Int)≤i40)=>ai (fun h3:(decide (i40<(n.Qb.length:Int)))=true=>(fun _:i40<(n.Qb.length:Int)=>ai ((by omega:0≤i40∧i40<(n.Qb.length:Int))) (ai ((by omega:0≤i40∧i40<(n.Qb.length:Int))) (ai (trivial) (ai ((Imps.refl (Qf (⟨x11,x12⟩:Qe)))) (ai ((Imp.refl (.v (vI ((q87_3 n i40).A))))) (ai ((Imp.refl (.v (vI ((q87_3 n i40).B))))) (ai ((by omega:0≤i40∧i40<(n.Qb.length:Int))) (ai ((by omega:0≤i40∧i40<(n.Qb.length:Int))) (ai (trivial) (ai ((Imps.refl (Qf ((labGuard ⟨x11,x12⟩ ((q87_3 n i40).A) ((q87_3 n i40).B)).1)))) (ai ((Imp.refl (.v (vI ((q87_3 n i40).B))))) (ai ((Imp.refl (.v (vI ((q87_3 n i40).A))))) (ai ((by unfold i64ok; omega:i64ok (i40+1))) (Exists.intro (p:=fun j:Nat×(Int×List Qg×List Qi)=>(fun (i40_:Int) (x11_:List Qg) (x12_:List Qi)=>(((.int .i64 (i40+1):Value)=.int .i64 i40_)∧(Imp (.l 2 Qh n.Qb) (.l 2 Qh n.Qb))∧(Imp (.l 2 Qj n.Qa) (.l 2 Qj n.Qa))∧((.slice none 0 0:Value)=.slice none 0 0)∧((.slice none 0 0:Value)=.slice none 0 0)∧(Imp (.l 2 Qh (((q87_1 x11 x12 n i40).1).Qb)) (.l 2 Qh x11_))∧(Imp (.l 2 Qj (((q87_1 x11 x12 n i40).1).Qa)) (.l 2 Qj x12_))∧((runL (F87_s0 n) j.1 j.2=(q87_2 n)∧Int.toNat ((n.Qb.length:Int)-i40_)<j.1∧Qv (⟨x11_,x12_⟩:Qe)∧(0:Int)≤i40_)∧j.1<i0.1))) j.2.1 j.2.2.1 j.2.2.2) (m0,((i40+1),((q87_1 x11 x12 n i40).1).Qb,((q87_1 x11 x12 n i40).1).Qa)) (ai (rfl) (ai (ir) (ai (ir) (ai (rfl) (ai (rfl) (ai (ir) (ai (ir) (ai (ai (runL_next hI0 (condT h3 (rfl))) (ai ((by first | omega | (simp only [lens] at*<;> omega) | assumption | exact labGuard_net (labGuard_net (by assumption) _ _) _ _:Int.toNat ((n.Qb.length:Int)-(i40+1))<m0)) (ai ((by first | omega | (simp only [lens] at*<;> omega) | assumption | exact labGuard_net (labGuard_net (by assumption) _ _) _ _:Qv (⟨(((q87_1 x11 x12 n i40).1).Qb),(((q87_1 x11 x12 n i40).1).Qa)⟩:Qe))) ((by first | omega | (simp only [lens] at*<;> omega) | assumption | exact labGuard_net (labGuard_net (by assumption) _ _) _ _:(0:Int)≤(i40+1)))))) hl0)))))))))))))))))))))) (of_decide_eq_true h3)) (fun h3:(decide (i40<(n.Qb.length:Int)))=false=>(fun _:¬ i40<(n.Qb.length:Int)=>(fun hD0_4:(q87_2 n)=Lp.done (i40,x11,x12)=>Exists.intro (p:=fun j:List Qg×List Qi=>(fun (x9_:List Qg) (x10_:List Qi)=>(((.slice none 0 0:Value)=.slice none 0 0)∧((.slice none 0 0:Value)=.slice none 0 0)∧(Imp (.l 2 Qh x11) (.l 2 Qh x9_))∧(Imp (.l 2 Qj x12) (.l 2 Qj x10_))∧(F87_j0 n)=Lp.done j∧Qv (⟨x9_,x10_⟩:Qe))) j.1 j.2) ((x11,x12)) (ai (rfl) (ai (rfl) (ai (ir) (ai (ir) (ai (Eq.symm (finD hD0_4 (rfl))) ((by first | omega | (simp only [lens] at*<;> omega) | assumption:Qv (⟨x11,x12⟩:Qe))))))))) (runL_done hI0 (condF h3 (rfl)))) (of_decide_eq_false h3))) (i0.1-1) i0.2.1 i0.2.2.1 i0.2.2.2 (hd1 hi0.1 hi0.2.1) (hd2 hi0.2.1) (hd3 hi0.2.1) hi0.2.2.1 hi0.2.2.2)) (fun (j:List Qg×List Qi) (hj:(fun (x9:List Qg) (x10:List Qi)=>((F87_j0 n)=Lp.done j∧Qv (⟨x9,x10⟩:Qe))) j.1 j.2)=>(fun (x9:List Qg) (x10:List Qi) (hJ0_5:(F87_j0 n)=Lp.done (x9,x10)) (_:Qv (⟨x9,x10⟩:Qe))=>ai ((ai ((by first | omega | (intro k; have:=Qv.rows (by assumption:Qv n) k; have:=Qv.vias (by assumption:Qv n) k; omega) | (have hq:=Qv.bounds (by assumption:Qv (⟨x9,x10⟩:Qe)); first | exact hq.1 | exact hq.2.1 | exact fun k=>(hq.2.2 k).1 | exact fun k=>(hq.2.2 k).2):x9.length≤1000000000)) (ai ((by first | omega | (intro k; have:=Qv.rows (by assumption:Qv n) k; have:=Qv.vias (by assumption:Qv n) k; omega) | (have hq:=Qv.bounds (by assumption:Qv (⟨x9,x10⟩:Qe)); first | exact hq.1 | exact hq.2.1 | exact fun k=>(hq.2.2 k).1 | exact fun k=>(hq.2.2 k).2):x10.length≤1000000000)) (ai ((by first | omega | (intro k; have:=Qv.rows (by assumption:Qv n) k; have:=Qv.vias (by assumption:Qv n) k; omega) | (have hq:=Qv.bounds (by assumption:Qv (⟨x9,x10⟩:Qe)); first | exact hq.1 | exact hq.2.1 | exact fun k=>(hq.2.2 k).1 | exact fun k=>(hq.2.2 k).2):∀ k:Nat,(x10.getD k default).Rows.length≤1000000000)) ((by first | omega | (intro k; have:=Qv.rows (by assumption:Qv n) k; have:=Qv.vias (by assumption:Qv n) k; omega) | (have hq:=Qv.bounds (by assumption:Qv (⟨x9,x10⟩:Qe)); first | exact hq.1 | exact hq.2.1 | exact fun k=>(hq.2.2 k).1 | exact fun k=>(hq.2.2 k).2):∀ k:Nat,(x10.getD k default).Qc.length≤1000000000)))))) (ai ((Imps.refl (Qf (⟨x9,x10⟩:Qe)))) ((fun hF:((⟨x9,x10⟩:Qe):Qe)=(F87 n)=>ai (Imp.of_eq (congrArg (fun r:Qe=>Dat.l 2 Qh r.Qb) hF)) (ai (Imp.of_eq (congrArg (fun r:Qe=>Dat.l 2 Qj r.Qa) hF)) (trivial))) (condF h1 (finD hJ0_5 (rfl)))))) j.1 j.2 hj.1 hj.2)))) (netB_T n (notEF h1))) (netB_8 n (notEF h1))) (netB_14 n (notEF h1)))))) (by kernel_rfl)
def gAll (n:Qe):Nat→Qe
 | 0=>n
 | k+1=>(guardR (guardR (gAll n k) (n.Qb.getD k default).A (n.Qb.getD k default).B).2 (n.Qb.getD k default).B (n.Qb.getD k default).A).2
theorem gAll_net {n:Qe} (h:Qv n):∀ k,Qv (gAll n k)
 | 0=>h
 | k+1=>guardR_net (guardR_net (gAll_net h k) _ _) _ _
def labGuardAll (n:Qe):Qe:=bif netB n then gAll n n.Qb.length else ⟨[],[]⟩
theorem as87 (n:Qe):F87 n=labGuardAll n:=by
 unfold F87 labGuardAll
 cases hb:netB n
 ·rfl
 have hn:=netB_T n hb
 simp only [Bool.not_true,cond_false,cond_true]
 unfold F87_j0
 have h:=runL_rule (step:=F87_s0 n) (fun (k:Nat) (s:Qe)=>((k:Int),s.Qb,s.Qa)) n.Qb.length (fun k s=>s=gAll n k) (fun _=>False)
  (fun k s hk hI=>.inl ⟨gAll n (k+1),by
   subst hI
   simp only [F87_s0,ltD hk,cond_true,nn]
   rw [labGuard_way (n:=⟨(gAll n k).Qb,(gAll n k).Qa⟩) (gAll_net hn k),labGuard_way (guardR_net (n:=⟨(gAll n k).Qb,(gAll n k).Qa⟩) (gAll_net hn k) _ _)]
   rfl,rfl⟩)
  (fun s _=>by simp [F87_s0]) n.Qb.length 0 n (by omega) rfl (n.Qb.length+1) (Nat.lt_succ_self _)
 rw [n0]
 rcases h with ⟨s,h,rfl⟩ | ⟨_,_,h⟩
 ·have h:runL (F87_s0 n) (n.Qb.length+1) (0,n.Qb,n.Qa)=_:=h
  rw [h]; rfl
 ·exact h.elim
theorem tmod_ix {a b:Int} (h0:0≤a) (h1:0<b):0≤a.tmod b∧a.tmod b<b:=by
 rw [Int.tmod_eq_emod_of_nonneg h0]
 exact ⟨Int.emod_nonneg _ (by omega),Int.emod_lt_of_pos _ h1⟩
theorem wrap73 {k:Int} (h0:0≤k) (h1:k≤2000000000):0≤IntKind.i64.wrap (IntKind.i64.wrap (k*7)+3):=by
 rw [wrap_of (n:=k*7) (by omega) (by omega),wrap_of (by omega) (by omega)]; omega
theorem tmod_in {a n:Int} (h0:0≤a):0≤a.tmod n∧(1≤n→a.tmod n<n):=by
 refine ⟨?_,fun h=>(tmod_ix h0 (by omega)).2⟩
 rw [Int.tmod_eq_emod_of_nonneg h0]
 by_cases h:n=0
 ·subst h; simpa using h0
 ·exact Int.emod_nonneg _ h
theorem xor_in {a b:Int} (ha:0≤a) (ha2:a<4611686018427387904) (hb:0≤b) (hb2:b<4611686018427387904):0≤bitI .xor .i64 a b:=by
 obtain ⟨m,rfl⟩:=Int.eq_ofNat_of_zero_le ha
 obtain ⟨k,rfl⟩:=Int.eq_ofNat_of_zero_le hb
 have h1:m<2 ^ 62:=by omega
 have h2:k<2 ^ 62:=by omega
 have hx:m ^^^ k<2 ^ 62:=Nat.xor_lt_two_pow h1 h2
 unfold bitI
 have e:(BitVec.ofInt IntKind.i64.bits (m:Int) ^^^ BitVec.ofInt IntKind.i64.bits (k:Int)).toNat=m ^^^ k:=by
  rw [BitVec.toNat_xor,BitVec.toNat_ofInt,BitVec.toNat_ofInt]
  have hb:(2 ^ IntKind.i64.bits:Nat)=18446744073709551616:=by decide
  have e1:((m:Int)%((2 ^ IntKind.i64.bits:Nat):Int)).toNat=m:=by rw [hb]; omega
  have e2:((k:Int)%((2 ^ IntKind.i64.bits:Nat):Int)).toNat=k:=by rw [hb]; omega
  rw [e1,e2]
 simp only [e]
 rw [wrap_of (by omega) (by omega)]
 omega
theorem oa87 (n:Qe):(S87 (labGuardAll n) n).ok Try.prog 87:=by
 intro hp; have h:=ok87 n hp; rw [as87 n] at h; exact h
structure l71Rd where
 b:List Int
 p:Int
 deriving DecidableEq,Inhabited
def F39 (r1:l71Rd) (n:Int):Int×Int :=
 bif (bif decide (n<1) then true else ((r1.b.length:Int)==0)) then (0,(r1.p+1)) else (bif (decide (((r1.p+1)-1)<(r1.b.length:Int))) then (((IntKind.i64.wrap ((r1.b.getD ((r1.p+1)-1).toNat default)%256)).tmod n),(r1.p+1)) else (((bitI .xor .i64 (IntKind.i64.wrap ((IntKind.i64.wrap ((IntKind.i64.wrap ((IntKind.i64.wrap ((IntKind.i64.wrap ((r1.b.getD (((r1.p+1)-1).tmod (r1.b.length:Int)).toNat default)%256))*131))+(IntKind.i64.wrap ((IntKind.i64.wrap ((r1.b.getD ((IntKind.i64.wrap ((IntKind.i64.wrap (((r1.p+1)-1)*7))+3)).tmod (r1.b.length:Int)).toNat default)%256))*1117))))+(IntKind.i64.wrap (((r1.p+1)-1)*29))))+(IntKind.i64.wrap ((IntKind.i64.wrap (((r1.p+1)-1).tdiv (r1.b.length:Int)))*53)))) (IntKind.i64.wrap ((IntKind.i64.wrap ((IntKind.i64.wrap ((IntKind.i64.wrap ((IntKind.i64.wrap ((IntKind.i64.wrap ((r1.b.getD (((r1.p+1)-1).tmod (r1.b.length:Int)).toNat default)%256))*131))+(IntKind.i64.wrap ((IntKind.i64.wrap ((r1.b.getD ((IntKind.i64.wrap ((IntKind.i64.wrap (((r1.p+1)-1)*7))+3)).tmod (r1.b.length:Int)).toNat default)%256))*1117))))+(IntKind.i64.wrap (((r1.p+1)-1)*29))))+(IntKind.i64.wrap ((IntKind.i64.wrap (((r1.p+1)-1).tdiv (r1.b.length:Int)))*53)))).tdiv 64))).tmod n),(r1.p+1)))
def S39 (r1X:SV) (gr1:Nat) (r1:l71Rd) (n:Int):Spec:=⟨[.ptg gr1 104 (sv r1X) (.l 1 eByte r1.b) [.v (vI r1.p)] [.v (vI ((F39 r1 n).2))],.r (.c (.v (vI n)))],.v (vI ((F39 r1 n).1)),0≤r1.p∧r1.p≤1000000000∧r1.b.length≤2000⟩
theorem ok39 (r1X:SV) (gr1:Nat) (r1:l71Rd) (n:Int):(S39 r1X gr1 r1 n).ok Try.prog 39 :=
 fnG_ok mixed (fn:=Try.f39) (ct:=.seqk [(0,0)] (.no) (.seq (.reg [(5,.bnd)]) (.seq (.seq (.no) (.cond (.seq (.no) (.no)) (.no))) (.seq (.reg [(4,.bnd)]) (.seq (.seq (.no) (.cond (.seq (.no) (.no)) (.no))) (.seq (.no) (.seq (.no) (.seq (.no) (.no))))))))) Try.func39 (fun (hp:0≤r1.p∧r1.p≤1000000000∧r1.b.length≤2000)=>(fun (hpre0:0≤r1.p) (hpre1:r1.p≤1000000000) (hpre2:r1.b.length≤2000)=>fun (_:r1.b.length≤9223372036854775807)=>ai ((by unfold i64ok; omega:i64ok (r1.p+1))) (ai (fun h1:(bif decide (n<1) then true else ((r1.b.length:Int)==0))=true=>(fun hF:(0,(r1.p+1))=(F39 r1 n)=>ai (congrArg (fun r:Int×Int=>(.int .i64 r.1:Value)) hF) (ai (ai (Imp.refl (Dat.v (sv r1X))) (ai (Imp.of_eq (congrArg (fun r:Int×Int=>Dat.v (vI r.2)) hF)) (trivial))) (trivial))) (condT h1 (rfl))) (fun h1:(bif decide (n<1) then true else ((r1.b.length:Int)==0))=false=>(fun _:¬ (r1.b.length:Int)=0=>(fun _:¬ n<1=>ai ((by unfold i64ok; omega:i64ok ((r1.p+1)-1))) (ai (fun h2:(decide (((r1.p+1)-1)<(r1.b.length:Int)))=true=>(fun _:((r1.p+1)-1)<(r1.b.length:Int)=>ai ((by first | omega | exact tmod_ix (by omega) (by omega) | exact tmod_ix (wrap73 (by omega) (by omega)) (by omega):0≤((r1.p+1)-1)∧((r1.p+1)-1)<(r1.b.length:Int))) (ai ((by omega:¬ n=0)) ((fun hF:(((IntKind.i64.wrap ((r1.b.getD ((r1.p+1)-1).toNat default)%256)).tmod n),(r1.p+1))=(F39 r1 n)=>ai (congrArg (fun r:Int×Int=>(.int .i64 r.1:Value)) hF) (ai (ai (Imp.refl (Dat.v (sv r1X))) (ai (Imp.of_eq (congrArg (fun r:Int×Int=>Dat.v (vI r.2)) hF)) (trivial))) (trivial))) (condF h1 (condT h2 (rfl)))))) (of_decide_eq_true h2)) (fun h2:(decide (((r1.p+1)-1)<(r1.b.length:Int)))=false=>(fun _:¬ ((r1.p+1)-1)<(r1.b.length:Int)=>ai ((by omega:¬ (r1.b.length:Int)=0)) (ai ((by first | omega | exact tmod_ix (by omega) (by omega) | exact tmod_ix (wrap73 (by omega) (by omega)) (by omega):0≤(((r1.p+1)-1).tmod (r1.b.length:Int))∧(((r1.p+1)-1).tmod (r1.b.length:Int))<(r1.b.length:Int))) (ai ((by omega:¬ (r1.b.length:Int)=0)) (ai ((by first | omega | exact tmod_ix (by omega) (by omega) | exact tmod_ix (wrap73 (by omega) (by omega)) (by omega):0≤((IntKind.i64.wrap ((IntKind.i64.wrap (((r1.p+1)-1)*7))+3)).tmod (r1.b.length:Int))∧((IntKind.i64.wrap ((IntKind.i64.wrap (((r1.p+1)-1)*7))+3)).tmod (r1.b.length:Int))<(r1.b.length:Int))) (ai ((by omega:¬ (r1.b.length:Int)=0)) (ai ((by omega:¬ (64:Int)=0)) (ai ((by omega:¬ n=0)) ((fun hF:(((bitI .xor .i64 (IntKind.i64.wrap ((IntKind.i64.wrap ((IntKind.i64.wrap ((IntKind.i64.wrap ((IntKind.i64.wrap ((r1.b.getD (((r1.p+1)-1).tmod (r1.b.length:Int)).toNat default)%256))*131))+(IntKind.i64.wrap ((IntKind.i64.wrap ((r1.b.getD ((IntKind.i64.wrap ((IntKind.i64.wrap (((r1.p+1)-1)*7))+3)).tmod (r1.b.length:Int)).toNat default)%256))*1117))))+(IntKind.i64.wrap (((r1.p+1)-1)*29))))+(IntKind.i64.wrap ((IntKind.i64.wrap (((r1.p+1)-1).tdiv (r1.b.length:Int)))*53)))) (IntKind.i64.wrap ((IntKind.i64.wrap ((IntKind.i64.wrap ((IntKind.i64.wrap ((IntKind.i64.wrap ((IntKind.i64.wrap ((r1.b.getD (((r1.p+1)-1).tmod (r1.b.length:Int)).toNat default)%256))*131))+(IntKind.i64.wrap ((IntKind.i64.wrap ((r1.b.getD ((IntKind.i64.wrap ((IntKind.i64.wrap (((r1.p+1)-1)*7))+3)).tmod (r1.b.length:Int)).toNat default)%256))*1117))))+(IntKind.i64.wrap (((r1.p+1)-1)*29))))+(IntKind.i64.wrap ((IntKind.i64.wrap (((r1.p+1)-1).tdiv (r1.b.length:Int)))*53)))).tdiv 64))).tmod n),(r1.p+1))=(F39 r1 n)=>ai (congrArg (fun r:Int×Int=>(.int .i64 r.1:Value)) hF) (ai (ai (Imp.refl (Dat.v (sv r1X))) (ai (Imp.of_eq (congrArg (fun r:Int×Int=>Dat.v (vI r.2)) hF)) (trivial))) (trivial))) (condF h1 (condF h2 (rfl))))))))))) (of_decide_eq_false h2)))) (of_decide_eq_false (orF1 h1))) (beqF (orF2 h1))))) hp.1 hp.2.1 hp.2.2) (by kernel_rfl)
def F36 (Qd:SV) (code:List Int):l71Rd×SV :=
 bif (decide ((code.length:Int)>2000)) then ((⟨(code.take (Int.toNat 2000)),0⟩:l71Rd),(cutSV 1 (Int.toNat 0) (code.take (Int.toNat 2000)).length Qd)) else ((⟨code,0⟩:l71Rd),Qd)
def S36 (Qd:SV) (code:List Int):Spec:=⟨[.vl (sv Qd) (.l 1 eByte code)],.pt 104 [.v (sv ((F36 Qd code).2)),.v (vI ((F36 Qd code).1).p)],True⟩
theorem ok36 (Qd:SV) (code:List Int):(S36 Qd code).ok Try.prog 36 :=
 fnG_ok mixed (fn:=Try.f36) (ct:=.seqk [(0,0)] (.no) (.seq (.seq (.no) (.cond (.reg [(1,.sv)]) (.no))) (.seq (.no) (.no)))) Try.func36 (fun (_:True)=>fun (_:code.length≤9223372036854775807)=>ai (fun h1:(decide ((code.length:Int)>2000))=true=>(fun _:(code.length:Int)>2000=>ai ((by first | omega | (simp only [lens] at*<;> omega):0≤(0:Int)∧(0:Int)≤(2000:Int)∧(2000:Int)≤(code.length:Int))) ((fun hF:((⟨(code.take (Int.toNat 2000)),0⟩:l71Rd),(cutSV 1 (Int.toNat 0) (code.take (Int.toNat 2000)).length Qd))=(F36 Qd code)=>ai (ai (Imp.of_eq (congrArg (fun r:l71Rd×SV=>Dat.v (sv r.2)) hF)) (ai (Imp.of_eq (congrArg (fun r:l71Rd×SV=>Dat.v (vI r.1.p)) hF)) (trivial))) (trivial)) (condT h1 (rfl)))) (of_decide_eq_true h1)) (fun h1:(decide ((code.length:Int)>2000))=false=>(fun _:¬ (code.length:Int)>2000=>(fun hF:((⟨code,0⟩:l71Rd),Qd)=(F36 Qd code)=>ai (ai (Imp.of_eq (congrArg (fun r:l71Rd×SV=>Dat.v (sv r.2)) hF)) (ai (Imp.of_eq (congrArg (fun r:l71Rd×SV=>Dat.v (vI r.1.p)) hF)) (trivial))) (trivial)) (condF h1 (rfl))) (of_decide_eq_false h1))) (by kernel_rfl)
def F98_s0 (list:List Int) (n:Int):Int→Lp Int Bool:=fun i40 =>
 bif (decide (i40<(list.length:Int))) then (bif ((list.getD i40.toNat default)==n) then (.ret true) else (.next (i40+1))) else (.done i40)
def F98 (list:List Int) (n:Int):Bool :=
 (runL (F98_s0 list n) (((list.length:Int)-0).toNat+1) 0).fin (fun r=>r) (fun i40=>false)
def S98 (list:List Int) (n:Int):Spec:=⟨[.r (.c (.l 1 eInt list)),.r (.c (.v (vI n)))],.v (.bool (F98 list n)),True⟩
theorem ok98 (list:List Int) (n:Int):(S98 list n).ok Try.prog 98 :=
 fnG_ok mixed (fn:=Try.f98) (ct:=.seqk [(0,0)] (.no) (.seq (.seqk [(0,0)] (.no) (.blk (.loop (ι:=Nat×Int) (fun i=>(fun (i40:Int)=>(⟨[(0,some (.h 0 0)),(1,some (.v (vI n))),(5,some (.v (vI i40)))],[(0,some (.shr none (.l 1 eInt list)))],1⟩:St)) i.2) (fun i=>runL (F98_s0 list n) i.1 i.2=(runL (F98_s0 list n) (((list.length:Int)-0).toNat+1) 0)∧(fun (i40:Int)=>(Int.toNat ((list.length:Int)-i40)<i.1∧(0:Int)≤i40)) i.2) (fun i=>i.1) ((((list.length:Int)-0).toNat+1),0) (fun i=>(fun (i40:Int)=>(.seq (.seq (.no) (.cond (.no) (.no))) (.seq (.blk (.seq (.no) (.cond (.seq (.no) (.no)) (.no)))) (.reg [(1,.bnd)])))) i.2)))) (.seq (.no) (.no)))) Try.func98 (fun (_:True)=>fun (_:list.length≤9223372036854775807)=>fun (_:list.length≤9223372036854775807)=>ai (ai (rfl) (ai (rfl) (ai (ir) ((ai (rfl:runL (F98_s0 list n) (((list.length:Int)-0).toNat+1) 0=(runL (F98_s0 list n) (((list.length:Int)-0).toNat+1) 0)) (ai ((Nat.lt_succ_self _:Int.toNat ((list.length:Int)-0)<(((list.length:Int)-0).toNat+1))) ((by omega:(0:Int)≤0))))))):((.int .i64 n:Value)=.int .i64 n)∧((.int .i64 0:Value)=.int .i64 0)∧(Imp (.l 1 eInt list) (.l 1 eInt list))∧(runL (F98_s0 list n) (((list.length:Int)-0).toNat+1) 0=(runL (F98_s0 list n) (((list.length:Int)-0).toNat+1) 0)∧Int.toNat ((list.length:Int)-0)<(((list.length:Int)-0).toNat+1)∧(0:Int)≤0)) (fun (i0:Nat×Int) (hi0:runL (F98_s0 list n) i0.1 i0.2=(runL (F98_s0 list n) (((list.length:Int)-0).toNat+1) 0)∧(fun (i40:Int)=>(Int.toNat ((list.length:Int)-i40)<i0.1∧(0:Int)≤i40)) i0.2)=>(fun (m0:Nat) (i40:Int) (hI0:runL (F98_s0 list n) (m0+1) i40=(runL (F98_s0 list n) (((list.length:Int)-0).toNat+1) 0)) (_:Int.toNat ((list.length:Int)-i40)<m0+1) (hl0:m0<i0.1) (_:(0:Int)≤i40)=>ai (fun h2:(decide (i40<(list.length:Int)))=true=>(fun _:i40<(list.length:Int)=>ai ((by omega:0≤i40∧i40<(list.length:Int))) (ai (fun h3:((list.getD i40.toNat default)==n)=true=>(fun _:(list.getD i40.toNat default)=n=>(fun hF:(true:Bool)=(F98 list n)=>ai (congrArg (fun r:Bool=>(.bool r:Value)) hF) (trivial)) (finR (runL_ret hI0 (condT h2 (condT h3 (rfl)))) rfl)) (eq_of_beq h3)) (fun h3:((list.getD i40.toNat default)==n)=false=>(fun _:¬ (list.getD i40.toNat default)=n=>ai ((by unfold i64ok; omega:i64ok (i40+1))) (Exists.intro (p:=fun j:Nat×Int=>(fun (i40_:Int)=>(((.int .i64 n:Value)=.int .i64 n)∧((.int .i64 (i40+1):Value)=.int .i64 i40_)∧(Imp (.l 1 eInt list) (.l 1 eInt list))∧((runL (F98_s0 list n) j.1 j.2=(runL (F98_s0 list n) (((list.length:Int)-0).toNat+1) 0)∧Int.toNat ((list.length:Int)-i40_)<j.1∧(0:Int)≤i40_)∧j.1<i0.1))) j.2) (m0,(i40+1)) (ai (rfl) (ai (rfl) (ai (ir) (ai (ai (runL_next hI0 (condT h2 (condF h3 (rfl)))) (ai ((by omega:Int.toNat ((list.length:Int)-(i40+1))<m0)) ((by omega:(0:Int)≤(i40+1))))) hl0)))))) (beqF h3)))) (of_decide_eq_true h2)) (fun h2:(decide (i40<(list.length:Int)))=false=>(fun _:¬ i40<(list.length:Int)=>(fun hD0_4:(runL (F98_s0 list n) (((list.length:Int)-0).toNat+1) 0)=Lp.done i40=>(fun hF:(false:Bool)=(F98 list n)=>ai (congrArg (fun r:Bool=>(.bool r:Value)) hF) (trivial)) (finD hD0_4 (rfl))) (runL_done hI0 (condF h2 (rfl)))) (of_decide_eq_false h2))) (i0.1-1) i0.2 (hd1 hi0.1 hi0.2.1) (hd2 hi0.2.1) (hd3 hi0.2.1) hi0.2.2)) (by kernel_rfl)
def F124_s0 (list:List Qg) (l:Qg):Int→Lp Int (List Qg):=fun k400 =>
 bif (bif decide (k400<(list.length:Int)) then (bif decide ((list.getD k400.toNat default).A<l.A) then true else (bif ((list.getD k400.toNat default).A==l.A) then decide ((list.getD k400.toNat default).B<l.B) else false)) else false) then (.next (k400+1)) else (.done k400)
def F124_j0 (list:List Qg) (l:Qg):Lp Int (List Qg) :=
 (runL (F124_s0 list l) (((list.length:Int)-0).toNat+1) 0).fin Lp.ret (fun k400=>.done k400)
def F124 (list:List Qg) (l:Qg):List Qg :=
 (F124_j0 list l).fin (fun r=>r) (fun k=>bif (bif decide (k<(list.length:Int)) then ((((list.getD k.toNat default).A)==l.A)&&(((list.getD k.toNat default).B)==l.B)) else false) then list else (((([]:List Qg)++(list.take k.toNat))++[l])++(list.drop k.toNat)))
def S124 (list:List Qg) (l:Qg):Spec:=⟨[.ow (.l 2 Qh list) none,.r (.g (Qh l))],.ow (.l 2 Qh (F124 list l)),list.length≤1000000000⟩
abbrev q124_1 (list:List Qg) (k:Int):=(([]:List Qg)++(list.take k.toNat))
abbrev q124_2 (list:List Qg) (l:Qg):=(runL (F124_s0 list l) (((list.length:Int)-0).toNat+1) 0)
abbrev q124_3 (list:List Qg) (k:Int):=(list.getD k.toNat default)
abbrev q124_4 (list:List Qg) (k400:Int):=(list.getD k400.toNat default)
theorem ok124 (list:List Qg) (l:Qg):(S124 list l).ok Try.prog 124 :=
 fnG_ok mixed (fn:=Try.f124) (ct:=.seqk [(0,0)] (.no) (.seqk [(0,0)] (.no) (.cut (ι:=Int) (fun j=>(fun (k:Int)=>(⟨[(0,some (.h 0 0)),(3,some (.p 1 0)),(5,some (.v (vI k)))],[(0,some (.own 0 (.l 2 Qh list))),(1,some (.box 36 [.v (vI l.A),.v (vI l.B)]))],2⟩:St)) j) (fun j=>(fun (k:Int)=>((F124_j0 list l)=Lp.done j∧0≤k∧k≤(list.length:Int))) j) (.blk (.loop (ι:=Nat×Int) (fun i=>(fun (k400:Int)=>(⟨[(0,some (.h 0 0)),(3,some (.p 1 0)),(5,some (.v (vI k400)))],[(0,some (.own 0 (.l 2 Qh list))),(1,some (.box 36 [.v (vI l.A),.v (vI l.B)]))],2⟩:St)) i.2) (fun i=>runL (F124_s0 list l) i.1 i.2=(q124_2 list l)∧(fun (k400:Int)=>(Int.toNat ((list.length:Int)-k400)<i.1∧k400≤(list.length:Int)∧(0:Int)≤k400)) i.2) (fun i=>i.1) ((((list.length:Int)-0).toNat+1),0) (fun i=>(fun (k400:Int)=>(.seq (.seq (.no) (.cond (.no) (.no))) (.blk (.reg [(1,.bnd)])))) i.2))) (fun j=>(fun (k:Int)=>(.seq (.seq (.reg [(10,.bin .eql 36 (.agg #[.int .i64 ((q124_3 list k).A),.int .i64 ((q124_3 list k).B)]) (.agg #[.int .i64 l.A,.int .i64 l.B]) (.bool ((((q124_3 list k).A)==l.A)&&(((q124_3 list k).B)==l.B))) rfl (eqlT36 ((q124_3 list k).A) l.A ((q124_3 list k).B) l.B))]) (.cond (.seq (.no) (.no)) (.no))) (.seq (.reg [(0,.dat (.l 2 Qh ([]:List Qg))),(4,.dat (.l 2 Qh (q124_1 list k))),(7,.dat (.l 2 Qh ((q124_1 list k)++[l]))),(11,.dat (.l 2 Qh (((q124_1 list k)++[l])++(list.drop k.toNat))))]) (.no)))) j)))) Try.func124 (fun (hpre0:list.length≤1000000000)=>fun (_:list.length≤9223372036854775807)=>fun (_:list.length≤9223372036854775807)=>ai (ai (ai (rfl) (ai (ir) (ai (rfl) (ai (rfl) ((ai (rfl:runL (F124_s0 list l) (((list.length:Int)-0).toNat+1) 0=(q124_2 list l)) (ai ((Nat.lt_succ_self _:Int.toNat ((list.length:Int)-0)<(((list.length:Int)-0).toNat+1))) (ai ((by first | omega | (simp only [lens] at*<;> omega):0≤(list.length:Int))) ((by first | omega | (simp only [lens] at*<;> omega):(0:Int)≤0))))))))):((.int .i64 0:Value)=.int .i64 0)∧(Imp (.l 2 Qh list) (.l 2 Qh list))∧((.int .i64 l.A:Value)=.int .i64 l.A)∧((.int .i64 l.B:Value)=.int .i64 l.B)∧(runL (F124_s0 list l) (((list.length:Int)-0).toNat+1) 0=(q124_2 list l)∧Int.toNat ((list.length:Int)-0)<(((list.length:Int)-0).toNat+1)∧0≤(list.length:Int)∧(0:Int)≤0)) (fun (i0:Nat×Int) (hi0:runL (F124_s0 list l) i0.1 i0.2=(q124_2 list l)∧(fun (k400:Int)=>(Int.toNat ((list.length:Int)-k400)<i0.1∧k400≤(list.length:Int)∧(0:Int)≤k400)) i0.2)=>(fun (m0:Nat) (k400:Int) (hI0:runL (F124_s0 list l) (m0+1) k400=(q124_2 list l)) (_:Int.toNat ((list.length:Int)-k400)<m0+1) (hl0:m0<i0.1) (_:k400≤(list.length:Int)) (_:(0:Int)≤k400)=>ai ((fun k2:(decide (k400<(list.length:Int)))=true=>(fun _:k400<(list.length:Int)=>(by first | omega | (simp only [lens] at*<;> omega):0≤k400∧k400<(list.length:Int))) (of_decide_eq_true k2))) (ai ((fun k4:(decide ((q124_4 list k400).A<l.A))=false=>(fun _:¬ (q124_4 list k400).A<l.A=>(fun k3:(decide (k400<(list.length:Int)))=true=>(fun _:k400<(list.length:Int)=>(by first | omega | (simp only [lens] at*<;> omega):0≤k400∧k400<(list.length:Int))) (of_decide_eq_true k3))) (of_decide_eq_false k4))) (ai ((fun k7:((q124_4 list k400).A==l.A)=true=>(fun _:(q124_4 list k400).A=l.A=>(fun k6:(decide ((q124_4 list k400).A<l.A))=false=>(fun _:¬ (q124_4 list k400).A<l.A=>(fun k5:(decide (k400<(list.length:Int)))=true=>(fun _:k400<(list.length:Int)=>(by first | omega | (simp only [lens] at*<;> omega):0≤k400∧k400<(list.length:Int))) (of_decide_eq_true k5))) (of_decide_eq_false k6))) (eq_of_beq k7))) (ai (fun h8:(bif decide (k400<(list.length:Int)) then (bif decide ((q124_4 list k400).A<l.A) then true else (bif ((q124_4 list k400).A==l.A) then decide ((q124_4 list k400).B<l.B) else false)) else false)=true=>(fun _:k400<(list.length:Int)=>ai ((by unfold i64ok; first | omega | (simp only [lens] at*<;> omega):i64ok (k400+1))) (Exists.intro (p:=fun j:Nat×Int=>(fun (k400_:Int)=>(((.int .i64 (k400+1):Value)=.int .i64 k400_)∧(Imp (.l 2 Qh list) (.l 2 Qh list))∧((.int .i64 l.A:Value)=.int .i64 l.A)∧((.int .i64 l.B:Value)=.int .i64 l.B)∧((runL (F124_s0 list l) j.1 j.2=(q124_2 list l)∧Int.toNat ((list.length:Int)-k400_)<j.1∧k400_≤(list.length:Int)∧(0:Int)≤k400_)∧j.1<i0.1))) j.2) (m0,(k400+1)) (ai (rfl) (ai (ir) (ai (rfl) (ai (rfl) (ai (ai (runL_next hI0 (condT h8 (rfl))) (ai ((by first | omega | (simp only [lens] at*<;> omega):Int.toNat ((list.length:Int)-(k400+1))<m0)) (ai ((by first | omega | (simp only [lens] at*<;> omega):(k400+1)≤(list.length:Int))) ((by first | omega | (simp only [lens] at*<;> omega):(0:Int)≤(k400+1)))))) hl0))))))) (of_decide_eq_true (andT1 h8))) (fun h8:(bif decide (k400<(list.length:Int)) then (bif decide ((q124_4 list k400).A<l.A) then true else (bif ((q124_4 list k400).A==l.A) then decide ((q124_4 list k400).B<l.B) else false)) else false)=false=>(fun hD0_9:(q124_2 list l)=Lp.done k400=>Exists.intro (p:=fun j:Int=>(fun (k_:Int)=>(((.int .i64 k400:Value)=.int .i64 k_)∧(Imp (.l 2 Qh list) (.l 2 Qh list))∧((.int .i64 l.A:Value)=.int .i64 l.A)∧((.int .i64 l.B:Value)=.int .i64 l.B)∧(F124_j0 list l)=Lp.done j∧0≤k_∧k_≤(list.length:Int))) j) (k400) (ai (rfl) (ai (ir) (ai (rfl) (ai (rfl) (ai (Eq.symm (finD hD0_9 (rfl))) (ai ((by first | omega | (simp only [lens] at*<;> omega):0≤k400)) ((by first | omega | (simp only [lens] at*<;> omega):k400≤(list.length:Int)))))))))) (runL_done hI0 (condF h8 (rfl)))))))) (i0.1-1) i0.2 (hd1 hi0.1 hi0.2.1) (hd2 hi0.2.1) (hd3 hi0.2.1) hi0.2.2.1 hi0.2.2.2)) (fun (j:Int) (hj:(fun (k:Int)=>((F124_j0 list l)=Lp.done j∧0≤k∧k≤(list.length:Int))) j)=>(fun (k:Int) (hJ0_10:(F124_j0 list l)=Lp.done k) (_:0≤k) (_:k≤(list.length:Int))=>ai ((fun k11:(decide (k<(list.length:Int)))=true=>(fun _:k<(list.length:Int)=>(by first | omega | (simp only [lens] at*<;> omega):0≤k∧k<(list.length:Int))) (of_decide_eq_true k11))) (ai ((fun k12:(decide (k<(list.length:Int)))=true=>(fun _:k<(list.length:Int)=>(Eq.refl (.agg #[.int .i64 ((q124_3 list k).A),.int .i64 ((q124_3 list k).B)]:Value))) (of_decide_eq_true k12))) (ai ((fun k13:(decide (k<(list.length:Int)))=true=>(fun _:k<(list.length:Int)=>(Eq.refl (.agg #[.int .i64 l.A,.int .i64 l.B]:Value))) (of_decide_eq_true k13))) (ai (fun h14:(bif decide (k<(list.length:Int)) then ((((q124_3 list k).A)==l.A)&&(((q124_3 list k).B)==l.B)) else false)=true=>(fun _:((((q124_3 list k).A)==l.A)&&(((q124_3 list k).B)==l.B))=true=>(fun _:k<(list.length:Int)=>(fun hF:(list:List Qg)=(F124 list l)=>ai (Imp.of_eq (congrArg (fun r:List Qg=>Dat.l 2 Qh r) hF)) (trivial)) (finD hJ0_10 (condT h14 (rfl)))) (of_decide_eq_true (andT1 h14))) ((andT2 h14))) (fun h14:(bif decide (k<(list.length:Int)) then ((((q124_3 list k).A)==l.A)&&(((q124_3 list k).B)==l.B)) else false)=false=>ai ((BuildOK.mk Qh ([]:List Qg) rfl (by exact trivial) (fun _=>rfl):BuildOK 0 2 [] (.l 2 Qh ([]:List Qg)))) (ai ((by first | omega | (simp only [lens] at*<;> omega):0≤(0:Int)∧(0:Int)≤k∧k≤(list.length:Int))) (ai ((AppL.mk Qh ([]:List Qg) (list.take k.toNat) (Imp.refl (.l 2 Qh ([]:List Qg))) ir (fun y=>⟨rfl,fun e he=>by simp only [Qh,List.mem_cons,List.not_mem_nil,or_false] at he; rcases he with rfl | rfl <;> exact ⟨_,rfl⟩⟩):AppL (.l 2 Qh ([]:List Qg)) (.l 2 Qh (list.take k.toNat)) 2 (.l 2 Qh (q124_1 list k)))) (ai ((by (try simp only [lens]); omega:((q124_1 list k)).length*16≤140737488355328)) (ai ((AppA.mk Qh (q124_1 list k) [l] (Imp.refl (.l 2 Qh (q124_1 list k))) rfl (by exact ai ir (ai ir (trivial))) (fun _=>rfl):AppA (.l 2 Qh (q124_1 list k)) 1 2 [.v (vI l.A),.v (vI l.B)] (.l 2 Qh ((q124_1 list k)++[l])))) (ai ((by (try simp only [lens]); omega:(((q124_1 list k)++[l])).length*16≤140737488355328)) (ai ((by first | omega | (simp only [lens] at*<;> omega):0≤k∧k≤(list.length:Int)∧(list.length:Int)≤(list.length:Int))) (ai ((AppL.mk Qh ((q124_1 list k)++[l]) (list.drop k.toNat) (Imp.refl (.l 2 Qh ((q124_1 list k)++[l]))) ir (fun y=>⟨rfl,fun e he=>by simp only [Qh,List.mem_cons,List.not_mem_nil,or_false] at he; rcases he with rfl | rfl <;> exact ⟨_,rfl⟩⟩):AppL (.l 2 Qh ((q124_1 list k)++[l])) (.l 2 Qh (list.drop k.toNat)) 2 (.l 2 Qh (((q124_1 list k)++[l])++(list.drop k.toNat))))) (ai ((by (try simp only [lens]); omega:((((q124_1 list k)++[l])++(list.drop k.toNat))).length*16≤140737488355328)) ((fun hF:((((q124_1 list k)++[l])++(list.drop k.toNat)):List Qg)=(F124 list l)=>ai (Imp.of_eq (congrArg (fun r:List Qg=>Dat.l 2 Qh r) hF)) (trivial)) (finD hJ0_10 (condF h14 (rfl))))))))))))))))) j hj.1 hj.2.1 hj.2.2)) (by kernel_rfl)
theorem pick_x {b1 b2 k q:Int} (h1:0≤b1∧b1<256) (h2:0≤b2∧b2<256) (hk:0≤k∧k≤2000000000) (hq:0≤q∧q≤2000000000) :
  IntKind.i64.wrap (IntKind.i64.wrap (IntKind.i64.wrap (IntKind.i64.wrap (IntKind.i64.wrap b1*131)+IntKind.i64.wrap (IntKind.i64.wrap b2*1117))+IntKind.i64.wrap (k*29))+IntKind.i64.wrap (IntKind.i64.wrap q*53))=b1*131+b2*1117+k*29+q*53:=by
 rw [wrap_of (n:=b1) (by omega) (by omega),wrap_of (n:=b2) (by omega) (by omega),wrap_of (n:=q) (by omega) (by omega),wrap_of (n:=b1*131) (by omega) (by omega),wrap_of (n:=b2*1117) (by omega) (by omega),wrap_of (n:=k*29) (by omega) (by omega),wrap_of (n:=q*53) (by omega) (by omega),
  wrap_of (n:=b1*131+b2*1117) (by omega) (by omega),wrap_of (n:=b1*131+b2*1117+k*29) (by omega) (by omega),wrap_of (by omega) (by omega)]
theorem pick_y {a n:Int} (h0:0≤a) (h1:a<4611686018427387904):0≤(bitI .xor .i64 a (IntKind.i64.wrap (a.tdiv 64))).tmod n∧(1≤n→(bitI .xor .i64 a (IntKind.i64.wrap (a.tdiv 64))).tmod n<n):=by
 have e:a.tdiv 64=a / 64:=Int.tdiv_eq_ediv_of_nonneg h0
 rw [e,wrap_of (by omega) (by omega)]
 exact tmod_in (xor_in h0 h1 (by omega) (by omega))
theorem tdiv_in {k n:Int} (h0:0≤k) (h1:0≤n):0≤k.tdiv n∧k.tdiv n≤k:=by
 rw [Int.tdiv_eq_ediv_of_nonneg h0]
 exact ⟨Int.ediv_nonneg h0 h1,Int.ediv_le_self _ h0⟩
theorem cond_1 (c:Bool) (x:Int):x≤(bif c then x+1 else x)∧(bif c then x+1 else x)≤x+1:=by
 cases c
 ·exact ⟨Int.le_refl _,by simp only [cond_false]; omega⟩
 ·exact ⟨by simp only [cond_true]; omega,Int.le_refl _⟩
theorem pick_p (r1:l71Rd) (n:Int):(F39 r1 n).2=r1.p+1:=by
 unfold F39
 cases (bif decide (n<1) then true else ((r1.b.length:Int)==0))
 ·simp only [cond_false]
  cases decide (((r1.p+1)-1)<(r1.b.length:Int)) <;> rfl
 ·rfl
theorem pick_in (r1:l71Rd) (n:Int) (h0:0≤r1.p) (h1:r1.p≤1000000000):0≤(F39 r1 n).1∧(1≤n→(F39 r1 n).1<n)∧(F39 r1 n).2=r1.p+1:=by
 unfold F39
 cases h2:(bif decide (n<1) then true else ((r1.b.length:Int)==0)) with
 | true=>simp only [cond_true]; exact ⟨by omega,fun h=>by omega,trivial⟩
 | false =>
  simp only [cond_false]
  cases h3:decide (((r1.p+1)-1)<(r1.b.length:Int)) with
  | true =>
   simp only [cond_true]
   have h4:0≤IntKind.i64.wrap (r1.b.getD ((r1.p+1)-1).toNat default%256):=by rw [wrap_of (by omega) (by omega)]; omega
   have:=tmod_in (n:=n) h4
   exact ⟨this.1,this.2,trivial⟩
  | false =>
   simp only [cond_false]
   have hq:=tdiv_in (k:=(r1.p+1)-1) (n:=(r1.b.length:Int)) (by omega) (by omega)
   rw [pick_x (by omega) (by omega) (by omega) (by omega)]
   have:=pick_y (n:=n) (a:=r1.b.getD (((r1.p+1)-1).tmod (r1.b.length:Int)).toNat default%256*131+r1.b.getD ((IntKind.i64.wrap ((IntKind.i64.wrap (((r1.p+1)-1)*7))+3)).tmod (r1.b.length:Int)).toNat default%256*1117+(r1.p+1-1)*29+(r1.p+1-1).tdiv (r1.b.length:Int)*53) (by omega) (by omega)
   exact ⟨this.1,this.2,trivial⟩
theorem open_b (Qd:SV) (code:List Int):(F36 Qd code).1.b.length≤2000∧(F36 Qd code).1.p=0:=by
 unfold F36
 by_cases h:(code.length:Int)>2000
 ·rw [decide_eq_true h,cond_true]; exact ⟨by simp only [List.length_take]; omega,rfl⟩
 ·rw [decide_eq_false h,cond_false]; exact ⟨by simp only; omega,rfl⟩
theorem gd36 (Qd:SV) (code:List Int):GD (sv Qd) (.l 1 eByte code) (sv (F36 Qd code).2) (.l 1 eByte (F36 Qd code).1.b):=by
 unfold F36
 intro S w h
 by_cases hl:(code.length:Int)>2000
 ·rw [decide_eq_true hl,cond_true]
  obtain ⟨a,c,e1,e2,e3,e4⟩:=h
  simp only [sv,Value.slice.injEq] at e1
  obtain ⟨rfl,-,rfl⟩:=e1
  show RdV S w (.l 1 eByte (code.take 2000)) (.slice (if Qd.c=0 then Qd.a else Qd.a.map (·.add (0*1))) (code.take 2000).length (Qd.c-0))
  have hz:(if Qd.c=0 then Qd.a else Qd.a.map (·.add (0*1)))=Qd.a:=by
   by_cases hc:Qd.c=0
   ·rw [if_pos hc]
   ·rw [if_neg hc]
    cases ha:Qd.a with
    | none=>rfl
    | some a =>
     obtain ⟨x,hx⟩:∃ x,code[0]?=some x:=⟨_,List.getElem?_eq_getElem (by omega)⟩
     obtain ⟨f1,_⟩:=e4 0 x hx
     rw [ha] at f1
     rw [f1]
     simp [Addr.add_lit,ab,ao]
  rw [hz,Nat.sub_zero]
  refine ⟨_,_,rfl,by simp only [List.length_take]; omega,by simp only [List.length_take]; omega,fun i y hy=>?_⟩
  rw [List.getElem?_take] at hy
  split at hy
  ·exact e4 i y hy
  ·cases hy
 ·rw [decide_eq_false hl,cond_false]; exact h
theorem tbl7 {k:Int} (h0:0≤k) (h1:k<7):1≤([2,3,4,5,6,8,1]:List Int).getD k.toNat default∧([2,3,4,5,6,8,1]:List Int).getD k.toNat default≤8:=by
 have hd:∀ q,q<7→1≤([2,3,4,5,6,8,1]:List Int).getD q default∧([2,3,4,5,6,8,1]:List Int).getD q default≤8:=by decide
 exact hd _ (by omega)
def lessL (x y:Qg):Bool:=bif decide (x.A<y.A) then true else (bif (x.A==y.A) then decide (x.B<y.B) else false)
def posL (t:List Qg) (l:Qg):Nat:=stopAt (fun k=>lessL (t.getD k default) l) t.length
theorem putLink_at (t:List Qg) (l:Qg):F124_j0 t l=.done ((posL t l:Nat):Int):=by
 unfold F124_j0
 have h:=whileL (ρ:=List Qg) (fun k=>lessL (t.getD k default) l) t.length (F124_s0 t l) (fun k hk=>by
  simp only [F124_s0,nn,lessL]
  have:decide ((k:Int)<(t.length:Int))=decide (k<t.length):=by rw [decide_eq_decide]; omega
  rw [this]
  cases decide (k<t.length) <;> rfl)
 rw [n0]
 rw [h]; rfl
theorem posL_le (t:List Qg) (l:Qg):posL t l≤t.length:=stopAt_le _ _
theorem putLink_eq (t:List Qg) (l:Qg):F124 t l=bif (bif decide (posL t l<t.length) then decide (t.getD (posL t l) default=l) else false) then t else t.take (posL t l)++[l]++t.drop (posL t l):=by
 unfold F124
 rw [putLink_at]
 simp only [Lp.fin,nn,List.nil_append]
 have e1:decide (((posL t l:Nat):Int)<(t.length:Int))=decide (posL t l<t.length):=by rw [decide_eq_decide]; omega
 have e2:(((t.getD (posL t l) default).A==l.A)&&((t.getD (posL t l) default).B==l.B))=decide (t.getD (posL t l) default=l):=by
  rw [Bool.eq_iff_iff,decide_eq_true_eq]
  obtain ⟨a,b⟩:=l
  generalize t.getD _ default=x
  obtain ⟨c,d⟩:=x
  simp only [Bool.and_eq_true,beq_iff_eq,Qg.mk.injEq]
 rw [e1,e2]
theorem putLink_len (t:List Qg) (l:Qg):(F124 t l).length≤t.length+1:=by
 have:=posL_le t l
 rw [putLink_eq]
 cases (bif decide (posL t l<t.length) then decide (t.getD (posL t l) default=l) else false)
 ·simp only [cond_false,List.length_append,List.length_take,List.length_drop,List.length_singleton]; omega
 ·simp only [cond_true]; omega
def F111_s0 (r1:l71Rd) (boxes:Int):(List Qg×Int×Int)→Lp (List Qg×Int×Int) (List Qg×Int):=fun (out1,a,r3) =>
 bif (decide ((a+1)<boxes)) then (bif (decide ((F39 ⟨r1.b,r3⟩ 12).1>0)) then (.next ((F124 out1 ⟨a,(a+1)⟩),(a+1),(F39 ⟨r1.b,r3⟩ 12).2)) else (.next (out1,(a+1),(F39 ⟨r1.b,r3⟩ 12).2))) else (.done (out1,a,r3))
def F111_j0 (r1:l71Rd) (boxes:Int):Lp (List Qg×Int) (List Qg×Int) :=
 (runL (F111_s0 r1 boxes) ((boxes-(0+1)).toNat+1) (([]:List Qg),0,r1.p)).fin Lp.ret (fun (out1,a,r3)=>.done (out1,r3))
def F111_j1 (r1:l71Rd) (boxes:Int) (out:List Qg) (r2:Int):Lp (List Qg) (List Qg×Int) :=
 bif (bif decide (boxes>2) then decide ((F39 ⟨r1.b,r2⟩ 3).1>0) else false) then (.done (F124 out ⟨0,(boxes-1)⟩)) else (.done out)
def F111_s1 (r1:l71Rd) (boxes:Int) (out:List Qg) (r2:Int) (out2:List Qg):(List Qg×Int×Int)→Lp (List Qg×Int×Int) (List Qg×Int):=fun (out3,n,r4) =>
 bif (bif decide (n>0) then decide (boxes>1) else false) then (bif (decide ((out3.length:Int)<14)) then (.next ((F124 out3 ⟨(F39 ⟨r1.b,r4⟩ (boxes-1)).1,((((F39 ⟨r1.b,r4⟩ (boxes-1)).1)+1)+((F39 ⟨r1.b,(F39 ⟨r1.b,r4⟩ (boxes-1)).2⟩ ((boxes-1)-((F39 ⟨r1.b,r4⟩ (boxes-1)).1))).1))⟩),(n-1),(F39 ⟨r1.b,(F39 ⟨r1.b,r4⟩ (boxes-1)).2⟩ ((boxes-1)-((F39 ⟨r1.b,r4⟩ (boxes-1)).1))).2)) else (.next (out3,(n-1),(F39 ⟨r1.b,(F39 ⟨r1.b,r4⟩ (boxes-1)).2⟩ ((boxes-1)-((F39 ⟨r1.b,r4⟩ (boxes-1)).1))).2))) else (.done (out3,n,r4))
def F111 (r1:l71Rd) (boxes:Int):List Qg×Int :=
 (F111_j0 r1 boxes).fin (fun r=>r) (fun (out,r2)=>(F111_j1 r1 boxes out r2).fin (fun r=>r) (fun out2=>(runL (F111_s1 r1 boxes out r2 out2) (((F39 ⟨r1.b,(bif (decide (boxes>2)) then ((F39 ⟨r1.b,r2⟩ 3).2) else r2)⟩ 5).1).toNat+1) (out2,(F39 ⟨r1.b,(bif (decide (boxes>2)) then ((F39 ⟨r1.b,r2⟩ 3).2) else r2)⟩ 5).1,(F39 ⟨r1.b,(bif (decide (boxes>2)) then ((F39 ⟨r1.b,r2⟩ 3).2) else r2)⟩ 5).2)).fin (fun r=>r) (fun (out3,n,r4)=>(out3,r4))))
def S111 (r1X:SV) (gr1:Nat) (r1:l71Rd) (boxes:Int):Spec:=⟨[.ptg gr1 104 (sv r1X) (.l 1 eByte r1.b) [.v (vI r1.p)] [.v (vI ((F111 r1 boxes).2))],.r (.c (.v (vI boxes)))],.ow (.l 2 Qh ((F111 r1 boxes).1)),0≤r1.p∧r1.p≤900000000∧r1.b.length≤2000∧1≤boxes∧boxes≤8⟩
abbrev q111_1 (r1:l71Rd) (r4:Int) (boxes:Int):=(F39 ⟨r1.b,(F39 ⟨r1.b,r4⟩ (boxes-1)).2⟩ ((boxes-1)-((F39 ⟨r1.b,r4⟩ (boxes-1)).1)))
abbrev q111_2 (r1:l71Rd) (r2:Int):=((F39 ⟨r1.b,r2⟩ 3).2)
abbrev q111_3 (r1:l71Rd) (r4:Int) (boxes:Int):=(⟨(F39 ⟨r1.b,r4⟩ (boxes-1)).1,((((F39 ⟨r1.b,r4⟩ (boxes-1)).1)+1)+((q111_1 r1 r4 boxes).1))⟩:Qg)
abbrev q111_4 (r1:l71Rd) (boxes:Int):=(runL (F111_s0 r1 boxes) ((boxes-(0+1)).toNat+1) (([]:List Qg),0,r1.p))
abbrev q111_5 (r1:l71Rd) (r4:Int) (boxes:Int):=(F39 ⟨r1.b,r4⟩ (boxes-1))
abbrev q111_6 (r1:l71Rd) (r3:Int):=(F39 ⟨r1.b,r3⟩ 12)
abbrev q111_7 (r1:l71Rd):=(Imp (.l 1 eByte r1.b) (.l 1 eByte r1.b))
abbrev q111_8 (boxes:Int):=(⟨0,(boxes-1)⟩:Qg)
theorem ok111 (r1X:SV) (gr1:Nat) (r1:l71Rd) (boxes:Int):(S111 r1X gr1 r1 boxes).ok Try.prog 111 :=
 fnG_ok mixed (fn:=Try.f111) (ct:=.seqk [(0,0)] (.no) (.seq (.reg [(0,.dat (.l 2 Qh ([]:List Qg)))]) (.cut (ι:=List Qg×Int) (fun j=>(fun (out:List Qg) (r2:Int)=>(⟨[(0,some (.p 0 0)),(1,some (.v (vI boxes))),(5,some (.h 2 0))],[(0,some (.box 104 [.h 1 0,.v (vI r2)])),(1,some (.vl (sv r1X) (.l 1 eByte r1.b))),(2,some (.own 2 (.l 2 Qh out)))],3⟩:St)) j.1 j.2) (fun j=>(fun (out:List Qg) (r2:Int)=>((F111_j0 r1 boxes)=Lp.done j∧0≤r2∧r2≤r1.p+8∧out.length≤8)) j.1 j.2) (.seqk [(0,0),(5,0)] (.no) (.blk (.loop (ι:=Nat×(List Qg×Int×Int)) (fun i=>(fun (out1:List Qg) (a:Int) (r3:Int)=>(⟨[(0,some (.p 0 0)),(1,some (.v (vI boxes))),(5,some (.h 2 0)),(6,some (.v (vI a)))],[(0,some (.box 104 [.h 1 0,.v (vI r3)])),(1,some (.vl (sv r1X) (.l 1 eByte r1.b))),(2,some (.own 2 (.l 2 Qh out1)))],3⟩:St)) i.2.1 i.2.2.1 i.2.2.2) (fun i=>runL (F111_s0 r1 boxes) i.1 i.2=(q111_4 r1 boxes)∧(fun (out1:List Qg) (a:Int) (r3:Int)=>(Int.toNat (boxes-(a+1))<i.1∧(0:Int)≤a∧a≤(8:Int)∧0≤r3∧r3≤r1.p+a∧(out1.length:Int)≤a∧(0:Int)≤a)) i.2.1 i.2.2.1 i.2.2.2) (fun i=>i.1) (((boxes-(0+1)).toNat+1),(([]:List Qg),0,r1.p)) (fun i=>(fun (out1:List Qg) (a:Int) (r3:Int)=>(.seq (.seq (.reg [(1,.bnd)]) (.cond (.no) (.no))) (.seq (.blk (.seq (.reg [(1,.call 39 (S39 r1X 1 (⟨r1.b,r3⟩:l71Rd) 12) (ok39 r1X 1 (⟨r1.b,r3⟩:l71Rd) 12) none)]) (.cond (.reg [(3,.bnd),(5,.call 124 (S124 out1 (⟨a,(a+1)⟩:Qg)) (ok124 out1 (⟨a,(a+1)⟩:Qg)) none)]) (.no)))) (.reg [(1,.bnd)])))) i.2.1 i.2.2.1 i.2.2.2)))) (fun j=>(fun (out:List Qg) (r2:Int)=>(.cut (ι:=List Qg) (fun j=>(fun (out2:List Qg)=>(⟨[(0,some (.p 0 0)),(1,some (.v (vI boxes))),(5,some (.h 2 0))],[(0,some (.box 104 [.h 1 0,.v (vI (bif (decide (boxes>2)) then (q111_2 r1 r2) else r2))])),(1,some (.vl (sv r1X) (.l 1 eByte r1.b))),(2,some (.own 2 (.l 2 Qh out2)))],3⟩:St)) j) (fun j=>(fun (out2:List Qg)=>((F111_j1 r1 boxes out r2)=Lp.done j∧out2.length≤9)) j) (.seq (.reg [(4,.call 39 (S39 r1X 1 (⟨r1.b,r2⟩:l71Rd) 3) (ok39 r1X 1 (⟨r1.b,r2⟩:l71Rd) 3) none)]) (.cond (.reg [(2,.bnd),(4,.call 124 (S124 out (q111_8 boxes)) (ok124 out (q111_8 boxes)) none)]) (.no))) (fun j=>(fun (out2:List Qg)=>(.seq (.seqk [(0,0),(5,0)] (.reg [(1,.call 39 (S39 r1X 1 (⟨r1.b,(bif (decide (boxes>2)) then (q111_2 r1 r2) else r2)⟩:l71Rd) 5) (ok39 r1X 1 (⟨r1.b,(bif (decide (boxes>2)) then (q111_2 r1 r2) else r2)⟩:l71Rd) 5) none)]) (.blk (.loop (ι:=Nat×(List Qg×Int×Int)) (fun i=>(fun (out3:List Qg) (n:Int) (r4:Int)=>(⟨[(0,some (.p 0 0)),(1,some (.v (vI boxes))),(5,some (.h 2 0)),(7,some (.v (vI n)))],[(0,some (.box 104 [.h 1 0,.v (vI r4)])),(1,some (.vl (sv r1X) (.l 1 eByte r1.b))),(2,some (.own 2 (.l 2 Qh out3)))],3⟩:St)) i.2.1 i.2.2.1 i.2.2.2) (fun i=>runL (F111_s1 r1 boxes out r2 out2) i.1 i.2=(runL (F111_s1 r1 boxes out r2 out2) (((F39 ⟨r1.b,(bif (decide (boxes>2)) then (q111_2 r1 r2) else r2)⟩ 5).1).toNat+1) (out2,(F39 ⟨r1.b,(bif (decide (boxes>2)) then (q111_2 r1 r2) else r2)⟩ 5).1,(F39 ⟨r1.b,(bif (decide (boxes>2)) then (q111_2 r1 r2) else r2)⟩ 5).2))∧(fun (out3:List Qg) (n:Int) (r4:Int)=>(Int.toNat n<i.1∧0≤n∧0≤r4∧r4+2*n≤r1.p+30∧out3.length≤14)) i.2.1 i.2.2.1 i.2.2.2) (fun i=>i.1) ((((F39 ⟨r1.b,(bif (decide (boxes>2)) then (q111_2 r1 r2) else r2)⟩ 5).1).toNat+1),(out2,(F39 ⟨r1.b,(bif (decide (boxes>2)) then (q111_2 r1 r2) else r2)⟩ 5).1,(F39 ⟨r1.b,(bif (decide (boxes>2)) then (q111_2 r1 r2) else r2)⟩ 5).2)) (fun i=>(fun (out3:List Qg) (n:Int) (r4:Int)=>(.seq (.seq (.no) (.cond (.no) (.no))) (.seq (.blk (.seq (.reg [(2,.bnd),(3,.call 39 (S39 r1X 1 (⟨r1.b,r4⟩:l71Rd) (boxes-1)) (ok39 r1X 1 (⟨r1.b,r4⟩:l71Rd) (boxes-1)) none)]) (.seq (.reg [(1,.bnd),(4,.bnd),(6,.bnd),(7,.call 39 (S39 r1X 1 (⟨r1.b,(q111_5 r1 r4 boxes).2⟩:l71Rd) ((boxes-1)-((q111_5 r1 r4 boxes).1))) (ok39 r1X 1 (⟨r1.b,(q111_5 r1 r4 boxes).2⟩:l71Rd) ((boxes-1)-((q111_5 r1 r4 boxes).1))) none),(8,.bnd)]) (.seq (.no) (.cond (.reg [(4,.call 124 (S124 out3 (q111_3 r1 r4 boxes)) (ok124 out3 (q111_3 r1 r4 boxes)) none)]) (.no)))))) (.reg [(1,.bnd)])))) i.2.1 i.2.2.1 i.2.2.2)))) (.seq (.no) (.no)))) j))) j.1 j.2)))) Try.func111 (fun (hp:0≤r1.p∧r1.p≤900000000∧r1.b.length≤2000∧1≤boxes∧boxes≤8)=>(fun (hpre0:0≤r1.p) (hpre1:r1.p≤900000000) (hpre2:r1.b.length≤2000) (hpre3:1≤boxes) (hpre4:boxes≤8)=>fun (_:r1.b.length≤9223372036854775807)=>ai ((BuildOK.mk Qh ([]:List Qg) rfl (by exact trivial) (fun _=>rfl):BuildOK 0 2 [] (.l 2 Qh ([]:List Qg)))) (ai (fun (_:r1.b.length≤9223372036854775807)=>fun (_:([]:List Qg).length≤9223372036854775807)=>ai (ai (rfl) (ai (rfl) (ai (rfl) (ai (rfl) (ai (ir) (ai (ir) ((ai (rfl:runL (F111_s0 r1 boxes) ((boxes-(0+1)).toNat+1) (([]:List Qg),0,r1.p)=(q111_4 r1 boxes)) (ai ((Nat.lt_succ_self _:Int.toNat (boxes-(0+1))<((boxes-(0+1)).toNat+1))) (ai ((by first | omega | (simp only [lens] at*<;> omega) | (simp only [List.length_nil]; omega):(0:Int)≤0)) (ai ((by first | omega | (simp only [lens] at*<;> omega) | (simp only [List.length_nil]; omega):0≤(8:Int))) (ai ((by first | omega | (simp only [lens] at*<;> omega) | (simp only [List.length_nil]; omega):0≤r1.p)) (ai ((by first | omega | (simp only [lens] at*<;> omega) | (simp only [List.length_nil]; omega):r1.p≤r1.p+0)) (ai ((by first | omega | (simp only [lens] at*<;> omega) | (simp only [List.length_nil]; omega):(([]:List Qg).length:Int)≤0)) ((by first | omega | (simp only [lens] at*<;> omega) | (simp only [List.length_nil]; omega):(0:Int)≤0))))))))))))))):((.int .i64 boxes:Value)=.int .i64 boxes)∧((.int .i64 0:Value)=.int .i64 0)∧((.int .i64 r1.p:Value)=.int .i64 r1.p)∧((sv r1X:Value)=sv r1X)∧(q111_7 r1)∧(Imp (.l 2 Qh ([]:List Qg)) (.l 2 Qh ([]:List Qg)))∧(runL (F111_s0 r1 boxes) ((boxes-(0+1)).toNat+1) (([]:List Qg),0,r1.p)=(q111_4 r1 boxes)∧Int.toNat (boxes-(0+1))<((boxes-(0+1)).toNat+1)∧(0:Int)≤0∧0≤(8:Int)∧0≤r1.p∧r1.p≤r1.p+0∧(([]:List Qg).length:Int)≤0∧(0:Int)≤0)) (fun (i0:Nat×(List Qg×Int×Int)) (hi0:runL (F111_s0 r1 boxes) i0.1 i0.2=(q111_4 r1 boxes)∧(fun (out1:List Qg) (a:Int) (r3:Int)=>(Int.toNat (boxes-(a+1))<i0.1∧(0:Int)≤a∧a≤(8:Int)∧0≤r3∧r3≤r1.p+a∧(out1.length:Int)≤a∧(0:Int)≤a)) i0.2.1 i0.2.2.1 i0.2.2.2)=>(fun (m0:Nat) (out1:List Qg) (a:Int) (r3:Int) (hI0:runL (F111_s0 r1 boxes) (m0+1) (out1,a,r3)=(q111_4 r1 boxes)) (_:Int.toNat (boxes-(a+1))<m0+1) (hl0:m0<i0.1) (_:(0:Int)≤a) (_:a≤(8:Int)) (_:0≤r3) (_:r3≤r1.p+a) (_:(out1.length:Int)≤a) (_:(0:Int)≤a)=>ai ((by unfold i64ok; omega:i64ok (a+1))) (ai (fun h2:(decide ((a+1)<boxes))=true=>(fun _:(a+1)<boxes=>ai ((ai ((by omega:0≤r3)) (ai ((by omega:r3≤1000000000)) ((by omega:r1.b.length≤2000))))) (ai ((Eq.refl (sv r1X))) (ai ((Imp.refl (.l 1 eByte r1.b))) (ai ((Imps.refl [.v (vI r3)])) (ai ((Imp.refl (.v (vI 12)))) ((fun gv3:0≤((q111_6 r1 r3)).1∧(1≤(12:Int)→((q111_6 r1 r3)).1<(12:Int))∧((q111_6 r1 r3)).2=r3+1=>ai (fun h4:(decide ((q111_6 r1 r3).1>0))=true=>(fun _:(q111_6 r1 r3).1>0=>ai ((by unfold i64ok; omega:i64ok (a+1))) (ai (((by omega:out1.length≤1000000000))) (ai ((Imp.refl (.l 2 Qh out1))) (ai ((Imps.refl (Qh (⟨a,(a+1)⟩:Qg)))) ((fun gv5:((F124 out1 ⟨a,(a+1)⟩)).length≤out1.length+1=>ai ((by unfold i64ok; omega:i64ok (a+1))) (Exists.intro (p:=fun j:Nat×(List Qg×Int×Int)=>(fun (out1_:List Qg) (a_:Int) (r3_:Int)=>(((.int .i64 boxes:Value)=.int .i64 boxes)∧((.int .i64 (a+1):Value)=.int .i64 a_)∧((.int .i64 ((q111_6 r1 r3).2):Value)=.int .i64 r3_)∧((sv r1X:Value)=sv r1X)∧(q111_7 r1)∧(Imp (.l 2 Qh (F124 out1 ⟨a,(a+1)⟩)) (.l 2 Qh out1_))∧((runL (F111_s0 r1 boxes) j.1 j.2=(q111_4 r1 boxes)∧Int.toNat (boxes-(a_+1))<j.1∧(0:Int)≤a_∧a_≤(8:Int)∧0≤r3_∧r3_≤r1.p+a_∧(out1_.length:Int)≤a_∧(0:Int)≤a_)∧j.1<i0.1))) j.2.1 j.2.2.1 j.2.2.2) (m0,((F124 out1 ⟨a,(a+1)⟩),(a+1),(q111_6 r1 r3).2)) (ai (rfl) (ai (rfl) (ai (rfl) (ai (rfl) (ai (ir) (ai (ir) (ai (ai (runL_next hI0 (condT h2 (condT h4 (rfl)))) (ai ((by first | omega | (simp only [lens] at*<;> omega) | (simp only [List.length_nil]; omega):Int.toNat (boxes-((a+1)+1))<m0)) (ai ((by first | omega | (simp only [lens] at*<;> omega) | (simp only [List.length_nil]; omega):(0:Int)≤(a+1))) (ai ((by first | omega | (simp only [lens] at*<;> omega) | (simp only [List.length_nil]; omega):(a+1)≤(8:Int))) (ai ((by first | omega | (simp only [lens] at*<;> omega) | (simp only [List.length_nil]; omega):0≤((q111_6 r1 r3).2))) (ai ((by first | omega | (simp only [lens] at*<;> omega) | (simp only [List.length_nil]; omega):((q111_6 r1 r3).2)≤r1.p+(a+1))) (ai ((by first | omega | (simp only [lens] at*<;> omega) | (simp only [List.length_nil]; omega):((F124 out1 ⟨a,(a+1)⟩).length:Int)≤(a+1))) ((by first | omega | (simp only [lens] at*<;> omega) | (simp only [List.length_nil]; omega):(0:Int)≤(a+1)))))))))) hl0))))))))) (putLink_len out1 (⟨a,(a+1)⟩:Qg))))))) (of_decide_eq_true h4)) (fun h4:(decide ((q111_6 r1 r3).1>0))=false=>(fun _:¬ (q111_6 r1 r3).1>0=>ai ((by unfold i64ok; omega:i64ok (a+1))) (Exists.intro (p:=fun j:Nat×(List Qg×Int×Int)=>(fun (out1_:List Qg) (a_:Int) (r3_:Int)=>(((.int .i64 boxes:Value)=.int .i64 boxes)∧((.int .i64 (a+1):Value)=.int .i64 a_)∧((.int .i64 ((q111_6 r1 r3).2):Value)=.int .i64 r3_)∧((sv r1X:Value)=sv r1X)∧(q111_7 r1)∧(Imp (.l 2 Qh out1) (.l 2 Qh out1_))∧((runL (F111_s0 r1 boxes) j.1 j.2=(q111_4 r1 boxes)∧Int.toNat (boxes-(a_+1))<j.1∧(0:Int)≤a_∧a_≤(8:Int)∧0≤r3_∧r3_≤r1.p+a_∧(out1_.length:Int)≤a_∧(0:Int)≤a_)∧j.1<i0.1))) j.2.1 j.2.2.1 j.2.2.2) (m0,(out1,(a+1),(q111_6 r1 r3).2)) (ai (rfl) (ai (rfl) (ai (rfl) (ai (rfl) (ai (ir) (ai (ir) (ai (ai (runL_next hI0 (condT h2 (condF h4 (rfl)))) (ai ((by first | omega | (simp only [lens] at*<;> omega) | (simp only [List.length_nil]; omega):Int.toNat (boxes-((a+1)+1))<m0)) (ai ((by first | omega | (simp only [lens] at*<;> omega) | (simp only [List.length_nil]; omega):(0:Int)≤(a+1))) (ai ((by first | omega | (simp only [lens] at*<;> omega) | (simp only [List.length_nil]; omega):(a+1)≤(8:Int))) (ai ((by first | omega | (simp only [lens] at*<;> omega) | (simp only [List.length_nil]; omega):0≤((q111_6 r1 r3).2))) (ai ((by first | omega | (simp only [lens] at*<;> omega) | (simp only [List.length_nil]; omega):((q111_6 r1 r3).2)≤r1.p+(a+1))) (ai ((by first | omega | (simp only [lens] at*<;> omega) | (simp only [List.length_nil]; omega):(out1.length:Int)≤(a+1))) ((by first | omega | (simp only [lens] at*<;> omega) | (simp only [List.length_nil]; omega):(0:Int)≤(a+1)))))))))) hl0))))))))) (of_decide_eq_false h4))) (pick_in ⟨r1.b,r3⟩ 12 (by omega:0≤r3) (by omega:r3≤1000000000)))))))) (of_decide_eq_true h2)) (fun h2:(decide ((a+1)<boxes))=false=>(fun _:¬ (a+1)<boxes=>(fun hD0_6:(q111_4 r1 boxes)=Lp.done (out1,a,r3)=>Exists.intro (p:=fun j:List Qg×Int=>(fun (out_:List Qg) (r2_:Int)=>(((.int .i64 boxes:Value)=.int .i64 boxes)∧((.int .i64 r3:Value)=.int .i64 r2_)∧((sv r1X:Value)=sv r1X)∧(q111_7 r1)∧(Imp (.l 2 Qh out1) (.l 2 Qh out_))∧(F111_j0 r1 boxes)=Lp.done j∧0≤r2_∧r2_≤r1.p+8∧out_.length≤8)) j.1 j.2) ((out1,r3)) (ai (rfl) (ai (rfl) (ai (rfl) (ai (ir) (ai (ir) (ai (Eq.symm (finD hD0_6 (rfl))) (ai ((by first | omega | (simp only [lens] at*<;> omega):0≤r3)) (ai ((by first | omega | (simp only [lens] at*<;> omega):r3≤r1.p+8)) ((by first | omega | (simp only [lens] at*<;> omega):out1.length≤8))))))))))) (runL_done hI0 (condF h2 (rfl)))) (of_decide_eq_false h2)))) (i0.1-1) i0.2.1 i0.2.2.1 i0.2.2.2 (hd1 hi0.1 hi0.2.1) (hd2 hi0.2.1) (hd3 hi0.2.1) hi0.2.2.1 hi0.2.2.2.1 hi0.2.2.2.2.1 hi0.2.2.2.2.2.1 hi0.2.2.2.2.2.2.1 hi0.2.2.2.2.2.2.2)) (fun (j:List Qg×Int) (hj:(fun (out:List Qg) (r2:Int)=>((F111_j0 r1 boxes)=Lp.done j∧0≤r2∧r2≤r1.p+8∧out.length≤8)) j.1 j.2)=>(fun (out:List Qg) (r2:Int) (hJ0_7:(F111_j0 r1 boxes)=Lp.done (out,r2)) (_:0≤r2) (_:r2≤r1.p+8) (_:out.length≤8)=>ai (ai ((fun k9:(decide (boxes>2))=true=>(fun _:boxes>2=>(ai ((by omega:0≤r2)) (ai ((by omega:r2≤1000000000)) ((by omega:r1.b.length≤2000))))) (of_decide_eq_true k9))) (ai ((fun k10:(decide (boxes>2))=true=>(fun _:boxes>2=>(Eq.refl (sv r1X))) (of_decide_eq_true k10))) (ai ((fun k11:(decide (boxes>2))=true=>(fun _:boxes>2=>(Imp.refl (.l 1 eByte r1.b))) (of_decide_eq_true k11))) (ai ((fun k12:(decide (boxes>2))=true=>(fun _:boxes>2=>(Imps.refl [.v (vI r2)])) (of_decide_eq_true k12))) (ai ((fun k13:(decide (boxes>2))=true=>(fun _:boxes>2=>(Imp.refl (.v (vI 3)))) (of_decide_eq_true k13))) ((fun gv8:0≤((F39 ⟨r1.b,r2⟩ 3)).1∧(1≤(3:Int)→((F39 ⟨r1.b,r2⟩ 3)).1<(3:Int))∧((F39 ⟨r1.b,r2⟩ 3)).2=r2+1=>ai (fun h14:(bif decide (boxes>2) then decide ((F39 ⟨r1.b,r2⟩ 3).1>0) else false)=true=>(fun _:(F39 ⟨r1.b,r2⟩ 3).1>0=>(fun _:boxes>2=>ai ((by unfold i64ok; omega:i64ok (boxes-1))) (ai (((by omega:out.length≤1000000000))) (ai ((Imp.refl (.l 2 Qh out))) (ai ((Imps.refl (Qh (q111_8 boxes)))) ((fun gv15:((F124 out (q111_8 boxes))).length≤out.length+1=>Exists.intro (p:=fun j:List Qg=>(fun (out2_:List Qg)=>(((.int .i64 boxes:Value)=.int .i64 boxes)∧((.int .i64 (bif (decide (boxes>2)) then (q111_2 r1 r2) else r2):Value)=.int .i64 (bif (decide (boxes>2)) then (q111_2 r1 r2) else r2))∧((sv r1X:Value)=sv r1X)∧(q111_7 r1)∧(Imp (.l 2 Qh (F124 out (q111_8 boxes))) (.l 2 Qh out2_))∧(F111_j1 r1 boxes out r2)=Lp.done j∧out2_.length≤9)) j) ((F124 out (q111_8 boxes))) (ai (rfl) (ai (rfl) (ai (rfl) (ai (ir) (ai (ir) (ai (Eq.symm (condT h14 (rfl))) ((by first | omega | (simp only [lens] at*<;> omega):(F124 out (q111_8 boxes)).length≤9))))))))) (putLink_len out (q111_8 boxes))))))) (of_decide_eq_true (andT1 h14))) (of_decide_eq_true (andT2 h14))) (fun h14:(bif decide (boxes>2) then decide ((F39 ⟨r1.b,r2⟩ 3).1>0) else false)=false=>Exists.intro (p:=fun j:List Qg=>(fun (out2_:List Qg)=>(((.int .i64 boxes:Value)=.int .i64 boxes)∧((.int .i64 (bif (decide (boxes>2)) then (q111_2 r1 r2) else r2):Value)=.int .i64 (bif (decide (boxes>2)) then (q111_2 r1 r2) else r2))∧((sv r1X:Value)=sv r1X)∧(q111_7 r1)∧(Imp (.l 2 Qh out) (.l 2 Qh out2_))∧(F111_j1 r1 boxes out r2)=Lp.done j∧out2_.length≤9)) j) (out) (ai (rfl) (ai (rfl) (ai (rfl) (ai (ir) (ai (ir) (ai (Eq.symm (condF h14 (rfl))) ((by first | omega | (simp only [lens] at*<;> omega):out.length≤9)))))))))) (pick_in ⟨r1.b,r2⟩ 3 (by omega:0≤r2) (by omega:r2≤1000000000)))))))) (fun (j:List Qg) (hj:(fun (out2:List Qg)=>((F111_j1 r1 boxes out r2)=Lp.done j∧out2.length≤9)) j)=>(fun (out2:List Qg) (hJ1_16:(F111_j1 r1 boxes out r2)=Lp.done out2) (_:out2.length≤9)=>ai ((ai ((by first | omega | (simp only [Bool.cond_eq_ite,pick_p]; split <;> omega):0≤(bif (decide (boxes>2)) then (q111_2 r1 r2) else r2))) (ai ((by first | omega | (simp only [Bool.cond_eq_ite,pick_p]; split <;> omega):(bif (decide (boxes>2)) then (q111_2 r1 r2) else r2)≤1000000000)) ((by omega:r1.b.length≤2000))))) (ai ((Eq.refl (sv r1X))) (ai ((Imp.refl (.l 1 eByte r1.b))) (ai ((Imps.refl [.v (vI (bif (decide (boxes>2)) then (q111_2 r1 r2) else r2))])) (ai ((Imp.refl (.v (vI 5)))) ((fun gv17:0≤((F39 ⟨r1.b,(bif (decide (boxes>2)) then (q111_2 r1 r2) else r2)⟩ 5)).1∧(1≤(5:Int)→((F39 ⟨r1.b,(bif (decide (boxes>2)) then (q111_2 r1 r2) else r2)⟩ 5)).1<(5:Int))∧((F39 ⟨r1.b,(bif (decide (boxes>2)) then (q111_2 r1 r2) else r2)⟩ 5)).2=(bif (decide (boxes>2)) then (q111_2 r1 r2) else r2)+1=>fun (_:r1.b.length≤9223372036854775807)=>fun (_:out2.length≤9223372036854775807)=>ai (ai (rfl) (ai (rfl) (ai (rfl) (ai (rfl) (ai (ir) (ai (ir) ((ai (rfl:runL (F111_s1 r1 boxes out r2 out2) (((F39 ⟨r1.b,(bif (decide (boxes>2)) then (q111_2 r1 r2) else r2)⟩ 5).1).toNat+1) (out2,(F39 ⟨r1.b,(bif (decide (boxes>2)) then (q111_2 r1 r2) else r2)⟩ 5).1,(F39 ⟨r1.b,(bif (decide (boxes>2)) then (q111_2 r1 r2) else r2)⟩ 5).2)=(runL (F111_s1 r1 boxes out r2 out2) (((F39 ⟨r1.b,(bif (decide (boxes>2)) then (q111_2 r1 r2) else r2)⟩ 5).1).toNat+1) (out2,(F39 ⟨r1.b,(bif (decide (boxes>2)) then (q111_2 r1 r2) else r2)⟩ 5).1,(F39 ⟨r1.b,(bif (decide (boxes>2)) then (q111_2 r1 r2) else r2)⟩ 5).2))) (ai ((Nat.lt_succ_self _:Int.toNat ((F39 ⟨r1.b,(bif (decide (boxes>2)) then (q111_2 r1 r2) else r2)⟩ 5).1)<(((F39 ⟨r1.b,(bif (decide (boxes>2)) then (q111_2 r1 r2) else r2)⟩ 5).1).toNat+1))) (ai ((by first | omega | (simp only [lens] at*<;> omega) | (simp only [pick_p] at *; have hq:=cond_1 (decide (boxes>2)) r2; omega):0≤((F39 ⟨r1.b,(bif (decide (boxes>2)) then (q111_2 r1 r2) else r2)⟩ 5).1))) (ai ((by first | omega | (simp only [lens] at*<;> omega) | (simp only [pick_p] at *; have hq:=cond_1 (decide (boxes>2)) r2; omega):0≤((F39 ⟨r1.b,(bif (decide (boxes>2)) then (q111_2 r1 r2) else r2)⟩ 5).2))) (ai ((by first | omega | (simp only [lens] at*<;> omega) | (simp only [pick_p] at *; have hq:=cond_1 (decide (boxes>2)) r2; omega):((F39 ⟨r1.b,(bif (decide (boxes>2)) then (q111_2 r1 r2) else r2)⟩ 5).2)+2*((F39 ⟨r1.b,(bif (decide (boxes>2)) then (q111_2 r1 r2) else r2)⟩ 5).1)≤r1.p+30)) ((by first | omega | (simp only [lens] at*<;> omega) | (simp only [pick_p] at *; have hq:=cond_1 (decide (boxes>2)) r2; omega):out2.length≤14))))))))))))):((.int .i64 boxes:Value)=.int .i64 boxes)∧((.int .i64 ((F39 ⟨r1.b,(bif (decide (boxes>2)) then (q111_2 r1 r2) else r2)⟩ 5).1):Value)=.int .i64 ((F39 ⟨r1.b,(bif (decide (boxes>2)) then (q111_2 r1 r2) else r2)⟩ 5).1))∧((.int .i64 ((F39 ⟨r1.b,(bif (decide (boxes>2)) then (q111_2 r1 r2) else r2)⟩ 5).2):Value)=.int .i64 ((F39 ⟨r1.b,(bif (decide (boxes>2)) then (q111_2 r1 r2) else r2)⟩ 5).2))∧((sv r1X:Value)=sv r1X)∧(q111_7 r1)∧(Imp (.l 2 Qh out2) (.l 2 Qh out2))∧(runL (F111_s1 r1 boxes out r2 out2) (((F39 ⟨r1.b,(bif (decide (boxes>2)) then (q111_2 r1 r2) else r2)⟩ 5).1).toNat+1) (out2,(F39 ⟨r1.b,(bif (decide (boxes>2)) then (q111_2 r1 r2) else r2)⟩ 5).1,(F39 ⟨r1.b,(bif (decide (boxes>2)) then (q111_2 r1 r2) else r2)⟩ 5).2)=(runL (F111_s1 r1 boxes out r2 out2) (((F39 ⟨r1.b,(bif (decide (boxes>2)) then (q111_2 r1 r2) else r2)⟩ 5).1).toNat+1) (out2,(F39 ⟨r1.b,(bif (decide (boxes>2)) then (q111_2 r1 r2) else r2)⟩ 5).1,(F39 ⟨r1.b,(bif (decide (boxes>2)) then (q111_2 r1 r2) else r2)⟩ 5).2))∧Int.toNat ((F39 ⟨r1.b,(bif (decide (boxes>2)) then (q111_2 r1 r2) else r2)⟩ 5).1)<(((F39 ⟨r1.b,(bif (decide (boxes>2)) then (q111_2 r1 r2) else r2)⟩ 5).1).toNat+1)∧0≤((F39 ⟨r1.b,(bif (decide (boxes>2)) then (q111_2 r1 r2) else r2)⟩ 5).1)∧0≤((F39 ⟨r1.b,(bif (decide (boxes>2)) then (q111_2 r1 r2) else r2)⟩ 5).2)∧((F39 ⟨r1.b,(bif (decide (boxes>2)) then (q111_2 r1 r2) else r2)⟩ 5).2)+2*((F39 ⟨r1.b,(bif (decide (boxes>2)) then (q111_2 r1 r2) else r2)⟩ 5).1)≤r1.p+30∧out2.length≤14)) (fun (i1:Nat×(List Qg×Int×Int)) (hi1:runL (F111_s1 r1 boxes out r2 out2) i1.1 i1.2=(runL (F111_s1 r1 boxes out r2 out2) (((F39 ⟨r1.b,(bif (decide (boxes>2)) then (q111_2 r1 r2) else r2)⟩ 5).1).toNat+1) (out2,(F39 ⟨r1.b,(bif (decide (boxes>2)) then (q111_2 r1 r2) else r2)⟩ 5).1,(F39 ⟨r1.b,(bif (decide (boxes>2)) then (q111_2 r1 r2) else r2)⟩ 5).2))∧(fun (out3:List Qg) (n:Int) (r4:Int)=>(Int.toNat n<i1.1∧0≤n∧0≤r4∧r4+2*n≤r1.p+30∧out3.length≤14)) i1.2.1 i1.2.2.1 i1.2.2.2)=>(fun (m1:Nat) (out3:List Qg) (n:Int) (r4:Int) (hI1:runL (F111_s1 r1 boxes out r2 out2) (m1+1) (out3,n,r4)=(runL (F111_s1 r1 boxes out r2 out2) (((F39 ⟨r1.b,(bif (decide (boxes>2)) then (q111_2 r1 r2) else r2)⟩ 5).1).toNat+1) (out2,(F39 ⟨r1.b,(bif (decide (boxes>2)) then (q111_2 r1 r2) else r2)⟩ 5).1,(F39 ⟨r1.b,(bif (decide (boxes>2)) then (q111_2 r1 r2) else r2)⟩ 5).2))) (_:Int.toNat n<m1+1) (hl1:m1<i1.1) (_:0≤n) (_:0≤r4) (_:r4+2*n≤r1.p+30) (_:out3.length≤14)=>ai (fun h19:(bif decide (n>0) then decide (boxes>1) else false)=true=>(fun _:boxes>1=>(fun _:n>0=>ai ((by unfold i64ok; omega:i64ok (boxes-1))) (ai ((ai ((by omega:0≤r4)) (ai ((by omega:r4≤1000000000)) ((by omega:r1.b.length≤2000))))) (ai ((Eq.refl (sv r1X))) (ai ((Imp.refl (.l 1 eByte r1.b))) (ai ((Imps.refl [.v (vI r4)])) (ai ((Imp.refl (.v (vI (boxes-1))))) ((fun gv20:0≤((q111_5 r1 r4 boxes)).1∧(1≤(boxes-1)→((q111_5 r1 r4 boxes)).1<(boxes-1))∧((q111_5 r1 r4 boxes)).2=r4+1=>ai ((by unfold i64ok; omega:i64ok (((q111_5 r1 r4 boxes).1)+1))) (ai ((by unfold i64ok; omega:i64ok (boxes-1))) (ai ((by unfold i64ok; omega:i64ok ((boxes-1)-((q111_5 r1 r4 boxes).1)))) (ai ((ai ((by omega:0≤((q111_5 r1 r4 boxes).2))) (ai ((by omega:((q111_5 r1 r4 boxes).2)≤1000000000)) ((by omega:r1.b.length≤2000))))) (ai ((Eq.refl (sv r1X))) (ai ((Imp.refl (.l 1 eByte r1.b))) (ai ((Imps.refl [.v (vI ((q111_5 r1 r4 boxes).2))])) (ai ((Imp.refl (.v (vI ((boxes-1)-((q111_5 r1 r4 boxes).1)))))) ((fun gv21:0≤((q111_1 r1 r4 boxes)).1∧(1≤((boxes-1)-((q111_5 r1 r4 boxes).1))→((q111_1 r1 r4 boxes)).1<((boxes-1)-((q111_5 r1 r4 boxes).1)))∧((q111_1 r1 r4 boxes)).2=((q111_5 r1 r4 boxes).2)+1=>ai ((by unfold i64ok; omega:i64ok ((((q111_5 r1 r4 boxes).1)+1)+((q111_1 r1 r4 boxes).1)))) (ai (fun h22:(decide ((out3.length:Int)<14))=true=>(fun _:(out3.length:Int)<14=>ai (((by omega:out3.length≤1000000000))) (ai ((Imp.refl (.l 2 Qh out3))) (ai ((Imps.refl (Qh (q111_3 r1 r4 boxes)))) ((fun gv23:((F124 out3 (q111_3 r1 r4 boxes))).length≤out3.length+1=>ai ((by unfold i64ok; omega:i64ok (n-1))) (Exists.intro (p:=fun j:Nat×(List Qg×Int×Int)=>(fun (out3_:List Qg) (n_:Int) (r4_:Int)=>(((.int .i64 boxes:Value)=.int .i64 boxes)∧((.int .i64 (n-1):Value)=.int .i64 n_)∧((.int .i64 ((q111_1 r1 r4 boxes).2):Value)=.int .i64 r4_)∧((sv r1X:Value)=sv r1X)∧(q111_7 r1)∧(Imp (.l 2 Qh (F124 out3 (q111_3 r1 r4 boxes))) (.l 2 Qh out3_))∧((runL (F111_s1 r1 boxes out r2 out2) j.1 j.2=(runL (F111_s1 r1 boxes out r2 out2) (((F39 ⟨r1.b,(bif (decide (boxes>2)) then (q111_2 r1 r2) else r2)⟩ 5).1).toNat+1) (out2,(F39 ⟨r1.b,(bif (decide (boxes>2)) then (q111_2 r1 r2) else r2)⟩ 5).1,(F39 ⟨r1.b,(bif (decide (boxes>2)) then (q111_2 r1 r2) else r2)⟩ 5).2))∧Int.toNat n_<j.1∧0≤n_∧0≤r4_∧r4_+2*n_≤r1.p+30∧out3_.length≤14)∧j.1<i1.1))) j.2.1 j.2.2.1 j.2.2.2) (m1,((F124 out3 (q111_3 r1 r4 boxes)),(n-1),(q111_1 r1 r4 boxes).2)) (ai (rfl) (ai (rfl) (ai (rfl) (ai (rfl) (ai (ir) (ai (ir) (ai (ai (runL_next hI1 (condT h19 (condT h22 (rfl)))) (ai ((by first | omega | (simp only [lens] at*<;> omega) | (simp only [pick_p] at *; have hq:=cond_1 (decide (boxes>2)) r2; omega):Int.toNat (n-1)<m1)) (ai ((by first | omega | (simp only [lens] at*<;> omega) | (simp only [pick_p] at *; have hq:=cond_1 (decide (boxes>2)) r2; omega):0≤(n-1))) (ai ((by first | omega | (simp only [lens] at*<;> omega) | (simp only [pick_p] at *; have hq:=cond_1 (decide (boxes>2)) r2; omega):0≤((q111_1 r1 r4 boxes).2))) (ai ((by first | omega | (simp only [lens] at*<;> omega) | (simp only [pick_p] at *; have hq:=cond_1 (decide (boxes>2)) r2; omega):((q111_1 r1 r4 boxes).2)+2*(n-1)≤r1.p+30)) ((by first | omega | (simp only [lens] at*<;> omega) | (simp only [pick_p] at *; have hq:=cond_1 (decide (boxes>2)) r2; omega):(F124 out3 (q111_3 r1 r4 boxes)).length≤14))))))) hl1))))))))) (putLink_len out3 (q111_3 r1 r4 boxes)))))) (of_decide_eq_true h22)) (fun h22:(decide ((out3.length:Int)<14))=false=>(fun _:¬ (out3.length:Int)<14=>ai ((by unfold i64ok; omega:i64ok (n-1))) (Exists.intro (p:=fun j:Nat×(List Qg×Int×Int)=>(fun (out3_:List Qg) (n_:Int) (r4_:Int)=>(((.int .i64 boxes:Value)=.int .i64 boxes)∧((.int .i64 (n-1):Value)=.int .i64 n_)∧((.int .i64 ((q111_1 r1 r4 boxes).2):Value)=.int .i64 r4_)∧((sv r1X:Value)=sv r1X)∧(q111_7 r1)∧(Imp (.l 2 Qh out3) (.l 2 Qh out3_))∧((runL (F111_s1 r1 boxes out r2 out2) j.1 j.2=(runL (F111_s1 r1 boxes out r2 out2) (((F39 ⟨r1.b,(bif (decide (boxes>2)) then (q111_2 r1 r2) else r2)⟩ 5).1).toNat+1) (out2,(F39 ⟨r1.b,(bif (decide (boxes>2)) then (q111_2 r1 r2) else r2)⟩ 5).1,(F39 ⟨r1.b,(bif (decide (boxes>2)) then (q111_2 r1 r2) else r2)⟩ 5).2))∧Int.toNat n_<j.1∧0≤n_∧0≤r4_∧r4_+2*n_≤r1.p+30∧out3_.length≤14)∧j.1<i1.1))) j.2.1 j.2.2.1 j.2.2.2) (m1,(out3,(n-1),(q111_1 r1 r4 boxes).2)) (ai (rfl) (ai (rfl) (ai (rfl) (ai (rfl) (ai (ir) (ai (ir) (ai (ai (runL_next hI1 (condT h19 (condF h22 (rfl)))) (ai ((by first | omega | (simp only [lens] at*<;> omega) | (simp only [pick_p] at *; have hq:=cond_1 (decide (boxes>2)) r2; omega):Int.toNat (n-1)<m1)) (ai ((by first | omega | (simp only [lens] at*<;> omega) | (simp only [pick_p] at *; have hq:=cond_1 (decide (boxes>2)) r2; omega):0≤(n-1))) (ai ((by first | omega | (simp only [lens] at*<;> omega) | (simp only [pick_p] at *; have hq:=cond_1 (decide (boxes>2)) r2; omega):0≤((q111_1 r1 r4 boxes).2))) (ai ((by first | omega | (simp only [lens] at*<;> omega) | (simp only [pick_p] at *; have hq:=cond_1 (decide (boxes>2)) r2; omega):((q111_1 r1 r4 boxes).2)+2*(n-1)≤r1.p+30)) ((by first | omega | (simp only [lens] at*<;> omega) | (simp only [pick_p] at *; have hq:=cond_1 (decide (boxes>2)) r2; omega):out3.length≤14))))))) hl1))))))))) (of_decide_eq_false h22)))) (pick_in ⟨r1.b,(q111_5 r1 r4 boxes).2⟩ ((boxes-1)-((q111_5 r1 r4 boxes).1)) (by omega:0≤((q111_5 r1 r4 boxes).2)) (by omega:((q111_5 r1 r4 boxes).2)≤1000000000))))))))))) (pick_in ⟨r1.b,r4⟩ (boxes-1) (by omega:0≤r4) (by omega:r4≤1000000000))))))))) (of_decide_eq_true (andT1 h19))) (of_decide_eq_true (andT2 h19))) (fun h19:(bif decide (n>0) then decide (boxes>1) else false)=false=>(fun hD1_24:(runL (F111_s1 r1 boxes out r2 out2) (((F39 ⟨r1.b,(bif (decide (boxes>2)) then (q111_2 r1 r2) else r2)⟩ 5).1).toNat+1) (out2,(F39 ⟨r1.b,(bif (decide (boxes>2)) then (q111_2 r1 r2) else r2)⟩ 5).1,(F39 ⟨r1.b,(bif (decide (boxes>2)) then (q111_2 r1 r2) else r2)⟩ 5).2))=Lp.done (out3,n,r4)=>(fun hF:(out3,r4)=(F111 r1 boxes)=>ai (Imp.of_eq (congrArg (fun r:List Qg×Int=>Dat.l 2 Qh r.1) hF)) (ai (ai (Imp.refl (Dat.v (sv r1X))) (ai (Imp.of_eq (congrArg (fun r:List Qg×Int=>Dat.v (vI r.2)) hF)) (trivial))) (trivial))) (finD hJ0_7 (finD hJ1_16 (finD hD1_24 (rfl))))) (runL_done hI1 (condF h19 (rfl))))) (i1.1-1) i1.2.1 i1.2.2.1 i1.2.2.2 (hd1 hi1.1 hi1.2.1) (hd2 hi1.2.1) (hd3 hi1.2.1) hi1.2.2.1 hi1.2.2.2.1 hi1.2.2.2.2.1 hi1.2.2.2.2.2)) (pick_in ⟨r1.b,(bif (decide (boxes>2)) then (q111_2 r1 r2) else r2)⟩ 5 (by first | omega | (simp only [Bool.cond_eq_ite,pick_p]; split <;> omega):0≤(bif (decide (boxes>2)) then (q111_2 r1 r2) else r2)) (by first | omega | (simp only [Bool.cond_eq_ite,pick_p]; split <;> omega):(bif (decide (boxes>2)) then (q111_2 r1 r2) else r2)≤1000000000)))))))) j hj.1 hj.2)) j.1 j.2 hj.1 hj.2.1 hj.2.2.1 hj.2.2.2))) hp.1 hp.2.1 hp.2.2.1 hp.2.2.2.1 hp.2.2.2.2) (by kernel_rfl)
def F60_s1 (r1:l71Rd) (n:Qe) (at':Int) (out:List Int) (k:Int) (r2:Int):(Int×Int)→Lp (Int×Int) (List Int×Int):=fun (to'1,i40) =>
 bif (bif decide (i40<(n.Qa.length:Int)) then (bif decide ((Qt n at' to'1)<0) then true else (F98 out to'1)) else false) then (.next (((IntKind.i64.wrap (to'1+1)).tmod (n.Qa.length:Int)),(i40+1))) else (.done (to'1,i40))
def F60_j2 (r1:l71Rd) (n:Qe) (at':Int) (out:List Int) (k:Int) (r2:Int):Lp Int (List Int×Int) :=
 (runL (F60_s1 r1 n at' out k r2) (((n.Qa.length:Int)-0).toNat+1) ((F39 ⟨r1.b,r2⟩ (n.Qa.length:Int)).1,0)).fin Lp.ret (fun (to'1,i40)=>.done to'1)
def F60_s0 (r1:l71Rd) (n:Qe):(Int×List Int×Int×Int)→Lp (Int×List Int×Int×Int) (List Int×Int):=fun (at',out,k,r2) =>
 bif (decide (k>0)) then ((F60_j2 r1 n at' out k r2).fin Lp.ret (fun to'=>bif (bif decide ((Qt n at' to')<0) then true else (F98 out to')) then (.ret (out,(F39 ⟨r1.b,r2⟩ (n.Qa.length:Int)).2)) else (.next (to',(out++[to']),(k-1),(F39 ⟨r1.b,r2⟩ (n.Qa.length:Int)).2)))) else (.done (at',out,k,r2))
def F60 (r1:l71Rd) (n:Qe):List Int×Int :=
 bif ((n.Qa.length:Int)==0) then (([]:List Int),r1.p) else ((runL (F60_s0 r1 n) (((2+((F39 ⟨r1.b,(F39 ⟨r1.b,r1.p⟩ (n.Qa.length:Int)).2⟩ 6).1))-0).toNat+1) ((F39 ⟨r1.b,r1.p⟩ (n.Qa.length:Int)).1,([(F39 ⟨r1.b,r1.p⟩ (n.Qa.length:Int)).1]:List Int),(2+((F39 ⟨r1.b,(F39 ⟨r1.b,r1.p⟩ (n.Qa.length:Int)).2⟩ 6).1)),(F39 ⟨r1.b,(F39 ⟨r1.b,r1.p⟩ (n.Qa.length:Int)).2⟩ 6).2)).fin (fun r=>r) (fun (at',out,k,r2)=>(out,r2)))
def S60 (r1X:SV) (gr1:Nat) (r1:l71Rd) (n:Qe):Spec:=⟨[.ptg gr1 104 (sv r1X) (.l 1 eByte r1.b) [.v (vI r1.p)] [.v (vI ((F60 r1 n).2))],.r (.g (Qf n))],.ow (.l 1 eInt ((F60 r1 n).1)),0≤r1.p∧r1.p≤900000000∧r1.b.length≤2000∧n.Qa.length≤1000⟩
abbrev q60_1 (r1:l71Rd) (n:Qe):=(F39 ⟨r1.b,r1.p⟩ (n.Qa.length:Int))
abbrev q60_2 (r1:l71Rd) (n:Qe):=(F39 ⟨r1.b,(q60_1 r1 n).2⟩ 6)
abbrev q60_3 (r1:l71Rd) (r2:Int) (n:Qe):=(F39 ⟨r1.b,r2⟩ (n.Qa.length:Int))
abbrev q60_4 (r1:l71Rd) (n:Qe):=(runL (F60_s0 r1 n) (((2+((q60_2 r1 n).1))-0).toNat+1) ((q60_1 r1 n).1,([(q60_1 r1 n).1]:List Int),(2+((q60_2 r1 n).1)),(q60_2 r1 n).2))
abbrev q60_5 (r1:l71Rd) (n:Qe) (at':Int) (out:List Int) (k:Int) (r2:Int):=(runL (F60_s1 r1 n at' out k r2) (((n.Qa.length:Int)-0).toNat+1) ((q60_3 r1 r2 n).1,0))
abbrev q60_6 (n:Qe):=(Imp (.l 2 Qh n.Qb) (.l 2 Qh n.Qb))
abbrev q60_7 (n:Qe):=(Imp (.l 2 Qj n.Qa) (.l 2 Qj n.Qa))
abbrev q60_8 (r1:l71Rd) (n:Qe):=([(q60_1 r1 n).1]:List Int)
abbrev q60_9 (r1:l71Rd):=(Imp (.l 1 eByte r1.b) (.l 1 eByte r1.b))
theorem ok60 (r1X:SV) (gr1:Nat) (r1:l71Rd) (n:Qe):(S60 r1X gr1 r1 n).ok Try.prog 60 :=
 fnG_ok mixed (fn:=Try.f60) (ct:=.seqk [(0,0)] (.no) (.seq (.seq (.no) (.cond (.seq (.reg [(0,.dat (.l 1 eInt ([]:List Int)))]) (.no)) (.no))) (.seq (.reg [(4,.call 39 (S39 r1X 0 (⟨r1.b,r1.p⟩:l71Rd) (n.Qa.length:Int)) (ok39 r1X 0 (⟨r1.b,r1.p⟩:l71Rd) (n.Qa.length:Int)) none)]) (.seq (.reg [(1,.dat (.l 1 eInt (q60_8 r1 n)))]) (.seq (.seqk [(0,0),(3,0),(3,1),(6,0)] (.reg [(1,.call 39 (S39 r1X 0 (⟨r1.b,(q60_1 r1 n).2⟩:l71Rd) 6) (ok39 r1X 0 (⟨r1.b,(q60_1 r1 n).2⟩:l71Rd) 6) none),(2,.bnd)]) (.blk (.loop (ι:=Nat×(Int×List Int×Int×Int)) (fun i=>(fun (at':Int) (out:List Int) (k:Int) (r2:Int)=>(⟨[(0,some (.p 0 0)),(3,some (.p 2 0)),(5,some (.v (vI at'))),(6,some (.h 5 0)),(7,some (.v (vI k)))],[(0,some (.box 104 [.h 1 0,.v (vI r2)])),(1,some (.vl (sv r1X) (.l 1 eByte r1.b))),(2,some (.box 26 [.h 3 0,.h 4 0])),(3,some (.shr none (.l 2 Qh n.Qb))),(4,some (.shr none (.l 2 Qj n.Qa))),(5,some (.own 5 (.l 1 eInt out)))],6⟩:St)) i.2.1 i.2.2.1 i.2.2.2.1 i.2.2.2.2) (fun i=>runL (F60_s0 r1 n) i.1 i.2=(q60_4 r1 n)∧(fun (at':Int) (out:List Int) (k:Int) (r2:Int)=>(Int.toNat (k-0)<i.1∧0≤r2∧r2+k≤r1.p+9∧0≤k∧(out.length:Int)+k≤8)) i.2.1 i.2.2.1 i.2.2.2.1 i.2.2.2.2) (fun i=>i.1) ((((2+((q60_2 r1 n).1))-0).toNat+1),((q60_1 r1 n).1,(q60_8 r1 n),(2+((q60_2 r1 n).1)),(q60_2 r1 n).2)) (fun i=>(fun (at':Int) (out:List Int) (k:Int) (r2:Int)=>(.seq (.seq (.no) (.cond (.no) (.no))) (.seq (.blk (.seq (.reg [(4,.call 39 (S39 r1X 1 (⟨r1.b,r2⟩:l71Rd) (n.Qa.length:Int)) (ok39 r1X 1 (⟨r1.b,r2⟩:l71Rd) (n.Qa.length:Int)) none)]) (.cut (ι:=Int) (fun j=>(fun (to':Int)=>(⟨[(0,some (.p 0 0)),(3,some (.p 2 0)),(5,some (.v (vI at'))),(6,some (.h 5 0)),(7,some (.v (vI k))),(8,some (.v (vI to')))],[(0,some (.box 104 [.h 1 0,.v (vI ((q60_3 r1 r2 n).2))])),(1,some (.vl (sv r1X) (.l 1 eByte r1.b))),(2,some (.box 26 [.h 3 0,.h 4 0])),(3,some (.shr none (.l 2 Qh n.Qb))),(4,some (.shr none (.l 2 Qj n.Qa))),(5,some (.own 5 (.l 1 eInt out)))],6⟩:St)) j) (fun j=>(fun (to':Int)=>((F60_j2 r1 n at' out k r2)=Lp.done j)) j) (.seqk [(3,0),(3,1),(6,0)] (.no) (.blk (.loop (ι:=Nat×(Int×Int)) (fun i=>(fun (to'1:Int) (i40:Int)=>(⟨[(0,some (.p 0 0)),(3,some (.p 2 0)),(5,some (.v (vI at'))),(6,some (.h 5 0)),(7,some (.v (vI k))),(8,some (.v (vI to'1))),(9,some (.v (vI i40)))],[(0,some (.box 104 [.h 1 0,.v (vI ((q60_3 r1 r2 n).2))])),(1,some (.vl (sv r1X) (.l 1 eByte r1.b))),(2,some (.box 26 [.h 3 0,.h 4 0])),(3,some (.shr none (.l 2 Qh n.Qb))),(4,some (.shr none (.l 2 Qj n.Qa))),(5,some (.own 5 (.l 1 eInt out)))],6⟩:St)) i.2.1 i.2.2) (fun i=>runL (F60_s1 r1 n at' out k r2) i.1 i.2=(q60_5 r1 n at' out k r2)∧(fun (to'1:Int) (i40:Int)=>(Int.toNat ((n.Qa.length:Int)-i40)<i.1∧(0:Int)≤i40)) i.2.1 i.2.2) (fun i=>i.1) ((((n.Qa.length:Int)-0).toNat+1),((q60_3 r1 r2 n).1,0)) (fun i=>(fun (to'1:Int) (i40:Int)=>(.seq (.seq (.reg [(9,.call 97 (S97 (Qt n at' to'1) n at' to'1) (oa97 n at' to'1) none),(14,.call 98 (S98 out to'1) (ok98 out to'1) none)]) (.cond (.no) (.no))) (.seq (.blk (.no)) (.reg [(1,.bnd)])))) i.2.1 i.2.2)))) (fun j=>(fun (to':Int)=>(.seq (.seq (.reg [(3,.call 97 (S97 (Qt n at' to') n at' to') (oa97 n at' to') none),(8,.call 98 (S98 out to') (ok98 out to') none)]) (.cond (.seq (.no) (.no)) (.no))) (.seq (.reg [(3,.dat (.l 1 eInt (out++[to'])))]) (.no)))) j)))) (.reg [(1,.bnd)])))) i.2.1 i.2.2.1 i.2.2.2.1 i.2.2.2.2)))) (.seq (.no) (.no))))))) Try.func60 (fun (hp:0≤r1.p∧r1.p≤900000000∧r1.b.length≤2000∧n.Qa.length≤1000)=>(fun (hpre0:0≤r1.p) (hpre1:r1.p≤900000000) (hpre2:r1.b.length≤2000) (hpre3:n.Qa.length≤1000)=>fun (_:r1.b.length≤9223372036854775807)=>ai (fun h1:((n.Qa.length:Int)==0)=true=>(fun _:(n.Qa.length:Int)=0=>ai ((BuildOK.mk eInt ([]:List Int) rfl (by exact trivial) (fun _=>rfl):BuildOK 0 1 [] (.l 1 eInt ([]:List Int)))) ((fun hF:(([]:List Int),r1.p)=(F60 r1 n)=>ai (Imp.of_eq (congrArg (fun r:List Int×Int=>Dat.l 1 eInt r.1) hF)) (ai (ai (Imp.refl (Dat.v (sv r1X))) (ai (Imp.of_eq (congrArg (fun r:List Int×Int=>Dat.v (vI r.2)) hF)) (trivial))) (trivial))) (condT h1 (rfl)))) (eq_of_beq h1)) (fun h1:((n.Qa.length:Int)==0)=false=>(fun _:¬ (n.Qa.length:Int)=0=>ai ((ai ((by first | omega | (simp only [lens] at*<;> omega):0≤r1.p)) (ai ((by first | omega | (simp only [lens] at*<;> omega):r1.p≤1000000000)) ((by first | omega | (simp only [lens] at*<;> omega):r1.b.length≤2000))))) (ai ((Eq.refl (sv r1X))) (ai ((Imp.refl (.l 1 eByte r1.b))) (ai ((Imps.refl [.v (vI r1.p)])) (ai ((Imp.refl (.v (vI (n.Qa.length:Int))))) ((fun gv2:0≤((q60_1 r1 n)).1∧(1≤(n.Qa.length:Int)→((q60_1 r1 n)).1<(n.Qa.length:Int))∧((q60_1 r1 n)).2=r1.p+1=>ai ((BuildOK.mk eInt (q60_8 r1 n) rfl (by exact ai ir (trivial)) (fun _=>rfl):BuildOK 1 1 [.v (vI ((q60_1 r1 n).1))] (.l 1 eInt (q60_8 r1 n)))) (ai ((ai ((by first | omega | (simp only [lens] at*<;> omega):0≤((q60_1 r1 n).2))) (ai ((by first | omega | (simp only [lens] at*<;> omega):((q60_1 r1 n).2)≤1000000000)) ((by first | omega | (simp only [lens] at*<;> omega):r1.b.length≤2000))))) (ai ((Eq.refl (sv r1X))) (ai ((Imp.refl (.l 1 eByte r1.b))) (ai ((Imps.refl [.v (vI ((q60_1 r1 n).2))])) (ai ((Imp.refl (.v (vI 6)))) ((fun gv3:0≤((q60_2 r1 n)).1∧(1≤(6:Int)→((q60_2 r1 n)).1<(6:Int))∧((q60_2 r1 n)).2=((q60_1 r1 n).2)+1=>ai ((by unfold i64ok; first | omega | (simp only [lens] at*<;> omega):i64ok (2+((q60_2 r1 n).1)))) (fun (_:r1.b.length≤9223372036854775807)=>fun (_:n.Qb.length≤9223372036854775807)=>fun (_:n.Qa.length≤9223372036854775807)=>fun (_:(q60_8 r1 n).length≤9223372036854775807)=>ai (ai (rfl) (ai (rfl) (ai (rfl) (ai (rfl) (ai (ir) (ai (ir) (ai (ir) (ai (ir) ((ai (rfl:runL (F60_s0 r1 n) (((2+((q60_2 r1 n).1))-0).toNat+1) ((q60_1 r1 n).1,(q60_8 r1 n),(2+((q60_2 r1 n).1)),(q60_2 r1 n).2)=(q60_4 r1 n)) (ai ((Nat.lt_succ_self _:Int.toNat ((2+((q60_2 r1 n).1))-0)<(((2+((q60_2 r1 n).1))-0).toNat+1))) (ai ((by first | omega | (simp only [lens] at*<;> omega):0≤((q60_2 r1 n).2))) (ai ((by first | omega | (simp only [lens] at*<;> omega):((q60_2 r1 n).2)+(2+((q60_2 r1 n).1))≤r1.p+9)) (ai ((by first | omega | (simp only [lens] at*<;> omega):0≤(2+((q60_2 r1 n).1)))) ((by first | omega | (simp only [lens] at*<;> omega):((q60_8 r1 n).length:Int)+(2+((q60_2 r1 n).1))≤8))))))))))))))):((.int .i64 ((q60_1 r1 n).1):Value)=.int .i64 ((q60_1 r1 n).1))∧((.int .i64 (2+((q60_2 r1 n).1)):Value)=.int .i64 (2+((q60_2 r1 n).1)))∧((.int .i64 ((q60_2 r1 n).2):Value)=.int .i64 ((q60_2 r1 n).2))∧((sv r1X:Value)=sv r1X)∧(q60_9 r1)∧(q60_6 n)∧(q60_7 n)∧(Imp (.l 1 eInt (q60_8 r1 n)) (.l 1 eInt (q60_8 r1 n)))∧(runL (F60_s0 r1 n) (((2+((q60_2 r1 n).1))-0).toNat+1) ((q60_1 r1 n).1,(q60_8 r1 n),(2+((q60_2 r1 n).1)),(q60_2 r1 n).2)=(q60_4 r1 n)∧Int.toNat ((2+((q60_2 r1 n).1))-0)<(((2+((q60_2 r1 n).1))-0).toNat+1)∧0≤((q60_2 r1 n).2)∧((q60_2 r1 n).2)+(2+((q60_2 r1 n).1))≤r1.p+9∧0≤(2+((q60_2 r1 n).1))∧((q60_8 r1 n).length:Int)+(2+((q60_2 r1 n).1))≤8)) (fun (i0:Nat×(Int×List Int×Int×Int)) (hi0:runL (F60_s0 r1 n) i0.1 i0.2=(q60_4 r1 n)∧(fun (at':Int) (out:List Int) (k:Int) (r2:Int)=>(Int.toNat (k-0)<i0.1∧0≤r2∧r2+k≤r1.p+9∧0≤k∧(out.length:Int)+k≤8)) i0.2.1 i0.2.2.1 i0.2.2.2.1 i0.2.2.2.2)=>(fun (m0:Nat) (at':Int) (out:List Int) (k:Int) (r2:Int) (hI0:runL (F60_s0 r1 n) (m0+1) (at',out,k,r2)=(q60_4 r1 n)) (_:Int.toNat (k-0)<m0+1) (hl0:m0<i0.1) (_:0≤r2) (_:r2+k≤r1.p+9) (_:0≤k) (_:(out.length:Int)+k≤8)=>ai (fun h5:(decide (k>0))=true=>(fun _:k>0=>ai ((ai ((by first | omega | (simp only [lens] at*<;> omega):0≤r2)) (ai ((by first | omega | (simp only [lens] at*<;> omega):r2≤1000000000)) ((by first | omega | (simp only [lens] at*<;> omega):r1.b.length≤2000))))) (ai ((Eq.refl (sv r1X))) (ai ((Imp.refl (.l 1 eByte r1.b))) (ai ((Imps.refl [.v (vI r2)])) (ai ((Imp.refl (.v (vI (n.Qa.length:Int))))) ((fun gv6:0≤((q60_3 r1 r2 n)).1∧(1≤(n.Qa.length:Int)→((q60_3 r1 r2 n)).1<(n.Qa.length:Int))∧((q60_3 r1 r2 n)).2=r2+1=>ai (fun (_:n.Qb.length≤9223372036854775807)=>fun (_:n.Qa.length≤9223372036854775807)=>fun (_:out.length≤9223372036854775807)=>ai (ai (rfl) (ai (rfl) (ai (rfl) (ai (rfl) (ai (rfl) (ai (rfl) (ai (ir) (ai (ir) (ai (ir) (ai (ir) ((ai (rfl:runL (F60_s1 r1 n at' out k r2) (((n.Qa.length:Int)-0).toNat+1) ((q60_3 r1 r2 n).1,0)=(q60_5 r1 n at' out k r2)) (ai ((Nat.lt_succ_self _:Int.toNat ((n.Qa.length:Int)-0)<(((n.Qa.length:Int)-0).toNat+1))) ((by first | omega | (simp only [lens] at*<;> omega):(0:Int)≤0)))))))))))))):((.int .i64 at':Value)=.int .i64 at')∧((.int .i64 k:Value)=.int .i64 k)∧((.int .i64 ((q60_3 r1 r2 n).1):Value)=.int .i64 ((q60_3 r1 r2 n).1))∧((.int .i64 0:Value)=.int .i64 0)∧((.int .i64 ((q60_3 r1 r2 n).2):Value)=.int .i64 ((q60_3 r1 r2 n).2))∧((sv r1X:Value)=sv r1X)∧(q60_9 r1)∧(q60_6 n)∧(q60_7 n)∧(Imp (.l 1 eInt out) (.l 1 eInt out))∧(runL (F60_s1 r1 n at' out k r2) (((n.Qa.length:Int)-0).toNat+1) ((q60_3 r1 r2 n).1,0)=(q60_5 r1 n at' out k r2)∧Int.toNat ((n.Qa.length:Int)-0)<(((n.Qa.length:Int)-0).toNat+1)∧(0:Int)≤0)) (fun (i1:Nat×(Int×Int)) (hi1:runL (F60_s1 r1 n at' out k r2) i1.1 i1.2=(q60_5 r1 n at' out k r2)∧(fun (to'1:Int) (i40:Int)=>(Int.toNat ((n.Qa.length:Int)-i40)<i1.1∧(0:Int)≤i40)) i1.2.1 i1.2.2)=>(fun (m1:Nat) (to'1:Int) (i40:Int) (hI1:runL (F60_s1 r1 n at' out k r2) (m1+1) (to'1,i40)=(q60_5 r1 n at' out k r2)) (_:Int.toNat ((n.Qa.length:Int)-i40)<m1+1) (hl1:m1<i1.1) (_:(0:Int)≤i40)=>ai ((fun k8:(decide (i40<(n.Qa.length:Int)))=true=>(fun _:i40<(n.Qa.length:Int)=>trivial) (of_decide_eq_true k8))) (ai ((fun k9:(decide (i40<(n.Qa.length:Int)))=true=>(fun _:i40<(n.Qa.length:Int)=>(Imps.refl (Qf n))) (of_decide_eq_true k9))) (ai ((fun k10:(decide (i40<(n.Qa.length:Int)))=true=>(fun _:i40<(n.Qa.length:Int)=>(Imp.refl (.v (vI at')))) (of_decide_eq_true k10))) (ai ((fun k11:(decide (i40<(n.Qa.length:Int)))=true=>(fun _:i40<(n.Qa.length:Int)=>(Imp.refl (.v (vI to'1)))) (of_decide_eq_true k11))) (ai ((fun k13:(decide ((Qt n at' to'1)<0))=false=>(fun _:¬ (Qt n at' to'1)<0=>(fun k12:(decide (i40<(n.Qa.length:Int)))=true=>(fun _:i40<(n.Qa.length:Int)=>trivial) (of_decide_eq_true k12))) (of_decide_eq_false k13))) (ai ((fun k15:(decide ((Qt n at' to'1)<0))=false=>(fun _:¬ (Qt n at' to'1)<0=>(fun k14:(decide (i40<(n.Qa.length:Int)))=true=>(fun _:i40<(n.Qa.length:Int)=>(Imp.refl (.l 1 eInt out))) (of_decide_eq_true k14))) (of_decide_eq_false k15))) (ai ((fun k17:(decide ((Qt n at' to'1)<0))=false=>(fun _:¬ (Qt n at' to'1)<0=>(fun k16:(decide (i40<(n.Qa.length:Int)))=true=>(fun _:i40<(n.Qa.length:Int)=>(Imp.refl (.v (vI to'1)))) (of_decide_eq_true k16))) (of_decide_eq_false k17))) (ai (fun h18:(bif decide (i40<(n.Qa.length:Int)) then (bif decide ((Qt n at' to'1)<0) then true else (F98 out to'1)) else false)=true=>(fun _:i40<(n.Qa.length:Int)=>ai ((by first | omega | (simp only [lens] at*<;> omega):¬ (n.Qa.length:Int)=0)) (ai ((by unfold i64ok; first | omega | (simp only [lens] at*<;> omega):i64ok (i40+1))) (Exists.intro (p:=fun j:Nat×(Int×Int)=>(fun (to'1_:Int) (i40_:Int)=>(((.int .i64 at':Value)=.int .i64 at')∧((.int .i64 k:Value)=.int .i64 k)∧((.int .i64 ((IntKind.i64.wrap (to'1+1)).tmod (n.Qa.length:Int)):Value)=.int .i64 to'1_)∧((.int .i64 (i40+1):Value)=.int .i64 i40_)∧((.int .i64 ((q60_3 r1 r2 n).2):Value)=.int .i64 ((q60_3 r1 r2 n).2))∧((sv r1X:Value)=sv r1X)∧(q60_9 r1)∧(q60_6 n)∧(q60_7 n)∧(Imp (.l 1 eInt out) (.l 1 eInt out))∧((runL (F60_s1 r1 n at' out k r2) j.1 j.2=(q60_5 r1 n at' out k r2)∧Int.toNat ((n.Qa.length:Int)-i40_)<j.1∧(0:Int)≤i40_)∧j.1<i1.1))) j.2.1 j.2.2) (m1,(((IntKind.i64.wrap (to'1+1)).tmod (n.Qa.length:Int)),(i40+1))) (ai (rfl) (ai (rfl) (ai (rfl) (ai (rfl) (ai (rfl) (ai (rfl) (ai (ir) (ai (ir) (ai (ir) (ai (ir) (ai (ai (runL_next hI1 (condT h18 (rfl))) (ai ((by first | omega | (simp only [lens] at*<;> omega):Int.toNat ((n.Qa.length:Int)-(i40+1))<m1)) ((by first | omega | (simp only [lens] at*<;> omega):(0:Int)≤(i40+1))))) hl1)))))))))))))) (of_decide_eq_true (andT1 h18))) (fun h18:(bif decide (i40<(n.Qa.length:Int)) then (bif decide ((Qt n at' to'1)<0) then true else (F98 out to'1)) else false)=false=>(fun hD1_19:(q60_5 r1 n at' out k r2)=Lp.done (to'1,i40)=>Exists.intro (p:=fun j:Int=>(fun (to'_:Int)=>(((.int .i64 at':Value)=.int .i64 at')∧((.int .i64 k:Value)=.int .i64 k)∧((.int .i64 to'1:Value)=.int .i64 to'_)∧((.int .i64 ((q60_3 r1 r2 n).2):Value)=.int .i64 ((q60_3 r1 r2 n).2))∧((sv r1X:Value)=sv r1X)∧(q60_9 r1)∧(q60_6 n)∧(q60_7 n)∧(Imp (.l 1 eInt out) (.l 1 eInt out))∧(F60_j2 r1 n at' out k r2)=Lp.done j)) j) (to'1) (ai (rfl) (ai (rfl) (ai (rfl) (ai (rfl) (ai (rfl) (ai (ir) (ai (ir) (ai (ir) (ai (ir) (Eq.symm (finD hD1_19 (rfl))))))))))))) (runL_done hI1 (condF h18 (rfl)))))))))))) (i1.1-1) i1.2.1 i1.2.2 (hd1 hi1.1 hi1.2.1) (hd2 hi1.2.1) (hd3 hi1.2.1) hi1.2.2)) (fun (j:Int) (hj:(fun (to':Int)=>((F60_j2 r1 n at' out k r2)=Lp.done j)) j)=>(fun (to':Int) (hJ2_20:(F60_j2 r1 n at' out k r2)=Lp.done to')=>ai (trivial) (ai ((Imps.refl (Qf n))) (ai ((Imp.refl (.v (vI at')))) (ai ((Imp.refl (.v (vI to')))) (ai ((fun k21:(decide ((Qt n at' to')<0))=false=>(fun _:¬ (Qt n at' to')<0=>trivial) (of_decide_eq_false k21))) (ai ((fun k22:(decide ((Qt n at' to')<0))=false=>(fun _:¬ (Qt n at' to')<0=>(Imp.refl (.l 1 eInt out))) (of_decide_eq_false k22))) (ai ((fun k23:(decide ((Qt n at' to')<0))=false=>(fun _:¬ (Qt n at' to')<0=>(Imp.refl (.v (vI to')))) (of_decide_eq_false k23))) (ai (fun h24:(bif decide ((Qt n at' to')<0) then true else (F98 out to'))=true=>(fun hF:(out,(q60_3 r1 r2 n).2)=(F60 r1 n)=>ai (Imp.of_eq (congrArg (fun r:List Int×Int=>Dat.l 1 eInt r.1) hF)) (ai (ai (Imp.refl (Dat.v (sv r1X))) (ai (Imp.of_eq (congrArg (fun r:List Int×Int=>Dat.v (vI r.2)) hF)) (trivial))) (trivial))) (condF h1 (finR (runL_ret hI0 (condT h5 (finD hJ2_20 (condT h24 (rfl))))) rfl))) (fun h24:(bif decide ((Qt n at' to')<0) then true else (F98 out to'))=false=>(fun _:¬ (Qt n at' to')<0=>ai ((AppA.mk eInt out [to'] (Imp.refl (.l 1 eInt out)) rfl (by exact ai ir (trivial)) (fun _=>rfl):AppA (.l 1 eInt out) 1 1 [.v (vI to')] (.l 1 eInt (out++[to'])))) (ai ((by (try simp only [lens]); omega:((out++[to'])).length*8≤140737488355328)) (ai ((by unfold i64ok; first | omega | (simp only [lens] at*<;> omega):i64ok (k-1))) (Exists.intro (p:=fun j:Nat×(Int×List Int×Int×Int)=>(fun (at'_:Int) (out_:List Int) (k_:Int) (r2_:Int)=>(((.int .i64 to':Value)=.int .i64 at'_)∧((.int .i64 (k-1):Value)=.int .i64 k_)∧((.int .i64 ((q60_3 r1 r2 n).2):Value)=.int .i64 r2_)∧((sv r1X:Value)=sv r1X)∧(q60_9 r1)∧(q60_6 n)∧(q60_7 n)∧(Imp (.l 1 eInt (out++[to'])) (.l 1 eInt out_))∧((runL (F60_s0 r1 n) j.1 j.2=(q60_4 r1 n)∧Int.toNat (k_-0)<j.1∧0≤r2_∧r2_+k_≤r1.p+9∧0≤k_∧(out_.length:Int)+k_≤8)∧j.1<i0.1))) j.2.1 j.2.2.1 j.2.2.2.1 j.2.2.2.2) (m0,(to',(out++[to']),(k-1),(q60_3 r1 r2 n).2)) (ai (rfl) (ai (rfl) (ai (rfl) (ai (rfl) (ai (ir) (ai (ir) (ai (ir) (ai (ir) (ai (ai (runL_next hI0 (condT h5 (finD hJ2_20 (condF h24 (rfl))))) (ai ((by first | omega | (simp only [lens] at*<;> omega):Int.toNat ((k-1)-0)<m0)) (ai ((by first | omega | (simp only [lens] at*<;> omega):0≤((q60_3 r1 r2 n).2))) (ai ((by first | omega | (simp only [lens] at*<;> omega):((q60_3 r1 r2 n).2)+(k-1)≤r1.p+9)) (ai ((by first | omega | (simp only [lens] at*<;> omega):0≤(k-1))) ((by first | omega | (simp only [lens] at*<;> omega):((out++[to']).length:Int)+(k-1)≤8))))))) hl0))))))))))))) (of_decide_eq_false (orF1 h24))))))))))) j hj)) (pick_in ⟨r1.b,r2⟩ (n.Qa.length:Int) (by first | omega | (simp only [lens] at*<;> omega):0≤r2) (by first | omega | (simp only [lens] at*<;> omega):r2≤1000000000)))))))) (of_decide_eq_true h5)) (fun h5:(decide (k>0))=false=>(fun _:¬ k>0=>(fun hD0_25:(q60_4 r1 n)=Lp.done (at',out,k,r2)=>(fun hF:(out,r2)=(F60 r1 n)=>ai (Imp.of_eq (congrArg (fun r:List Int×Int=>Dat.l 1 eInt r.1) hF)) (ai (ai (Imp.refl (Dat.v (sv r1X))) (ai (Imp.of_eq (congrArg (fun r:List Int×Int=>Dat.v (vI r.2)) hF)) (trivial))) (trivial))) (condF h1 (finD hD0_25 (rfl)))) (runL_done hI0 (condF h5 (rfl)))) (of_decide_eq_false h5))) (i0.1-1) i0.2.1 i0.2.2.1 i0.2.2.2.1 i0.2.2.2.2 (hd1 hi0.1 hi0.2.1) (hd2 hi0.2.1) (hd3 hi0.2.1) hi0.2.2.1 hi0.2.2.2.1 hi0.2.2.2.2.1 hi0.2.2.2.2.2))) (pick_in ⟨r1.b,(q60_1 r1 n).2⟩ 6 (by first | omega | (simp only [lens] at*<;> omega):0≤((q60_1 r1 n).2)) (by first | omega | (simp only [lens] at*<;> omega):((q60_1 r1 n).2)≤1000000000))))))))) (pick_in ⟨r1.b,r1.p⟩ (n.Qa.length:Int) (by first | omega | (simp only [lens] at*<;> omega):0≤r1.p) (by first | omega | (simp only [lens] at*<;> omega):r1.p≤1000000000)))))))) (beqF h1))) hp.1 hp.2.1 hp.2.2.1 hp.2.2.2) (by kernel_rfl)
end Go.Proofs.Ytmiolofjlfnohaa
