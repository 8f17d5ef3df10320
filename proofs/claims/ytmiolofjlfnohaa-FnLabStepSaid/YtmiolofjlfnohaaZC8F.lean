/- The statement of FnLabStep: for all arguments the law returns true, without further conditions. Texts put together: PNS, C8. -/
import Derived.Test.YtmiolofjlfnohaaRows
import Derived.Test.YtmiolofjlfnohaaZC8E
namespace Go.Proofs.Ytmiolofjlfnohaa
open Go.RowKit
set_option maxRecDepth 100000
set_option linter.unusedVariables false
set_option linter.unusedSimpArgs false
theorem labStep_same (n:Qe) (down:List Int) (p:Qp):F28 n down p=F29 n down p:=by
 unfold F28 F29 stepB
 cases netB n
 ·rfl
 ·cases packB n p <;> rfl
structure StepK (n:Qe) (down:List Int) (p x:Qp):Prop where
 one:1≤p.Qy.length
 same:∀ i:Nat,i+1<p.Qy.length→i<x.Qy.length∧x.Qy.getD i default=p.Qy.getD i default
 box:(x.Box=p.Box∧x.Qy.length<p.Qy.length)∨(x.Box≠p.Box∧p.Qy.length≤x.Qy.length∧0≤Qt n p.Box x.Box∧Qt n p.Box x.Box ∉ down)
 len:x.Qy.length≤p.Qy.length+1
theorem step_k {n:Qe} (h:Qv n) (down:List Int) (p:Qp) (hp:packB n p=true) :
  ((F55 n down p).2=0∧StepK n down p (F55 n down p).1)∨(2<(F55 n down p).2∧(F55 n down p).1=p):=by
 obtain ⟨h0,h1,h2⟩:=packB_T n p hp
 unfold F55
 by_cases hs:(p.Qy.length:Int)-1<0
 ·rw [decide_eq_true hs]; exact .inr ⟨(by decide:(2:Int)<3),rfl⟩
 ·rw [decide_eq_false hs]
  simp only [cond_false]
  generalize p.Qy.getD ((p.Qy.length:Int)-1).toNat default=top
  have hm:Int.toNat ((p.Qy.length:Int)-1)=p.Qy.length-1:=by omega
  rw [hm]
  cases e:rowIx (n.Qa.getD (Int.toNat p.Box) default) top with
  | none=>simp only [rowP,e]; exact .inr ⟨(by decide:(2:Int)<4),rfl⟩
  | some k =>
   have hk:=(first_some.1 e).1
   have hr:=(h.box (Int.toNat p.Box) (by omega)).row k hk
   have hb:((Int.toNat p.Box:Nat):Int)=p.Box:=by omega
   rw [hb] at hr
   simp only [rowP,e,cond_false,Bool.not_true]
   generalize (n.Qa.getD (Int.toNat p.Box) default).Rows.getD k default=r at *
   cases e4:(r.Next==-1)
   ·simp only [cond_false]
    have hne:¬ r.Next=-1:=beqF e4
    have hl:0≤Qt n p.Box r.Next:=by
     rcases hr.2 with h5 | h5
     ·exact absurd h5.1 hne
     ·exact h5.1
    cases hd:decide (Qt n p.Box r.Next∈down)
    ·have hin:=linkOf_in h.frame hl
     simp only [Bool.not_false,cond_true]
     refine .inl ⟨trivial,⟨by omega,fun i hi=>⟨?_,?_⟩,.inr ⟨fun he=>hin.2.2.2.2 he.symm,?_,hl,of_decide_eq_false hd⟩,?_⟩⟩
     ·simp only [List.length_set]; omega
     ·simp only [getD_set]; rw [if_neg (by omega)]
     ·simp only [List.length_set]; omega
     ·simp only [List.length_set]; omega
    ·simp only [Bool.not_true,cond_false]
     cases e5:guardIx (n.Qa.getD (Int.toNat p.Box) default) r.Next with
     | none=>simp only [guardP,e5]; exact .inr ⟨(by decide:(2:Int)<5),rfl⟩
     | some j =>
      have hj:=(first_some.1 e5).1
      have hv:=(h.box (Int.toNat p.Box) (by omega)).via j hj
      rw [hb] at hv
      simp only [guardP,e5,cond_false,Bool.not_true,Bool.not_not]
      generalize (n.Qa.getD (Int.toNat p.Box) default).Qc.getD j default=v at *
      cases hd2:decide (Qt n p.Box v.Via∈down)
      ·simp only [cond_false]
       cases e8:((p.Qy.length:Int)==8)
       ·have h9:=beqF e8
        have hin:=linkOf_in h.frame hv.2.1
        simp only [cond_false]
        refine .inl ⟨trivial,⟨by omega,fun i hi=>⟨?_,?_⟩,.inr ⟨fun he=>hin.2.2.2.2 he.symm,?_,hv.2.1,of_decide_eq_false hd2⟩,?_⟩⟩
        ·simp only [List.length_append,List.length_set,List.length_cons,List.length_nil]; omega
        ·rw [getD_app,if_pos (by simp only [List.length_set]; omega),getD_set,if_neg (by omega)]
        ·simp only [List.length_append,List.length_set,List.length_cons,List.length_nil]; omega
        ·simp only [List.length_append,List.length_set,List.length_cons,List.length_nil]; omega
       ·exact .inr ⟨(by decide:(2:Int)<7),rfl⟩
      ·exact .inr ⟨(by decide:(2:Int)<5),rfl⟩
   ·simp only [cond_true]
    refine .inl ⟨trivial,⟨by omega,fun i hi=>⟨?_,?_⟩,.inl ⟨rfl,?_⟩,?_⟩⟩
    ·simp only [List.length_take]; omega
    ·simp only [getD_take]; rw [if_pos (by omega)]
    ·simp only [List.length_take]; omega
    ·simp only [List.length_take]; omega
theorem labStep_cases (n:Qe) (down:List Int) (p:Qp):(∃ c,(c=1∨c=2)∧F29 n down p=(⟨0,[]⟩,c))∨(Qv n∧packB n p=true∧F29 n down p=F55 n down p):=by
 unfold F29
 cases hn:netB n
 ·exact .inl ⟨1,.inl rfl,rfl⟩
 ·unfold stepB
  cases hp:packB n p
  ·exact .inl ⟨2,.inr rfl,rfl⟩
  ·exact .inr ⟨netB_T n hn,rfl,rfl⟩
theorem plain_6 (Qd:SV) (code:List Int):F6 Qd code=true:=by
 unfold F6
 cases decide ((code.length:Int)>1048576) with
 | true=>rfl
 | false =>
  rw [cond_false]
  generalize hD:F27 Qd code=D
  obtain ⟨n,down,p⟩:=D
  simp only [labStep_same,bne_self_eq_false,pack_same,cond_false,Bool.not_true]
  rcases labStep_cases n down p with ⟨c,hc,e⟩ | ⟨hN,hp,e⟩
  ·rw [e]
   rcases hc with rfl | rfl <;> (simp only [pack_same]; rfl)
  ·obtain ⟨h0,h1,h2⟩:=packB_T n p hp
   have hk:=step_k hN down p hp
   rw [e]
   generalize hX:F55 n down p=X at *
   obtain ⟨x,c⟩:=X
   simp only at hk
   rcases hk with ⟨rfl,hk⟩ | ⟨hc,rfl⟩
   ·have hw:IntKind.i64.wrap (0+1)=1:=by decide
    have h8:=hk.one
    have l0:=runL_rule (step:=F6_s0 Qd code) (fun (k:Nat) (_:Unit)=>(k:Int)) (p.Qy.length-1) (fun _ _=>True) (fun _=>False)
     (fun k _ hk' _=>.inl ⟨(),by
      obtain ⟨q1,q2⟩:=hk.same k (by omega)
      have c1:decide ((k:Int)+1<(p.Qy.length:Int))=true:=decide_eq_true (by omega)
      have c2:decide ((k:Int)≥(x.Qy.length:Int))=false:=decide_eq_false (by omega)
      simp only [F6_s0,hD,labStep_same,e]
      simp only [c1,c2,nn,q2,bne_self_eq_false,cond_true,cond_false]; rfl,trivial⟩)
     (fun _ _=>by
      have c1:decide (((p.Qy.length-1:Nat):Int)+1<(p.Qy.length:Int))=false:=decide_eq_false (by omega)
      simp only [F6_s0,hD,labStep_same,e]
      rw [c1,cond_false]) (p.Qy.length-1) 0 () (by omega) trivial (Int.toNat ((p.Qy.length:Int)-(0+1))+1) (by omega)
    have l1:=runL_rule (step:=F6_s1 Qd code) (fun (k:Nat) (_:Unit)=>(k:Int)) down.length (fun _ _=>True) (fun _=>False)
     (fun k _ hk' _=>.inl ⟨(),by
      have hm:=getD_mem down hk'
      have c2:(bif (x.Box != p.Box) then (down.getD k default==Qt n p.Box x.Box) else false)=false:=by
       rcases hk.box with ⟨hb,_⟩ | ⟨_,_,_,hb⟩
       ·rw [hb,bne_self_eq_false]; rfl
       ·rw [beqD,decide_eq_false (fun he=>hb (by rw [← he]; exact hm))]
        cases (x.Box != p.Box) <;> rfl
      simp only [F6_s1,hD,labStep_same,e,ltD hk',cond_true,nn,c2,cond_false]; rfl,trivial⟩)
     (fun _ _=>by simp [F6_s1,hD]) down.length 0 () (by omega) trivial (Int.toNat ((down.length:Int)-0)+1) (by omega)
    rcases l0 with ⟨_,l0,_⟩ | ⟨_,_,l0⟩
    ·rcases l1 with ⟨_,l1,_⟩ | ⟨_,_,l1⟩
     ·have l0':runL (F6_s0 Qd code) (Int.toNat ((p.Qy.length:Int)-(0+1))+1) 0=_:=l0
      have l1':runL (F6_s1 Qd code) (Int.toNat ((down.length:Int)-0)+1) 0=_:=l1
      simp only [bne_self_eq_false,cond_false]
      rw [l0',l1']
      simp only [Lp.fin]
      have hlen:=hk.len
      have c3:decide ((x.Qy.length:Int)≤(p.Qy.length:Int)+1)=true:=decide_eq_true (by omega)
      rw [c3]
      rcases hk.box with ⟨hb,hb2⟩ | ⟨hb,hb2,hb3,_⟩
      ·rw [hb,beq_self_eq_true,decide_eq_true (by omega:(x.Qy.length:Int)<(p.Qy.length:Int))]; rfl
      ·rw [beqD,decide_eq_false hb,decide_eq_false (by omega:¬ (x.Qy.length:Int)<(p.Qy.length:Int)),decide_eq_true (by omega:Qt n p.Box x.Box≥0)]; rfl
     ·exact l1.elim
    ·exact l0.elim
   ·have c1:(c != 0)=true:=by simp only [bne_iff_ne,ne_eq]; omega
    simp only [c1,cond_true,decide_eq_false (by omega:¬ c≤2),decide_eq_true (by omega:c>2),cond_false,pack_same]
end Go.Proofs.Ytmiolofjlfnohaa
namespace Go.Proofs.Ytmiolofjlfnohaa
open Go.RowKit Go.ChangeShapes Go.WideShapes Go.ChangeAt
set_option maxRecDepth 100000
set_option linter.unusedVariables false
theorem op_5:OpD Try.prog 5 eByte:=OpD.byte Try.underlying5
theorem op_22:OpD Try.prog 22 (fun xs:List Int=>[.l 1 eByte xs]):=OpD.slice 1 Try.underlying22 op_5 (fun _=>rfl) (by kernel_rfl) (by decide)
theorem own:ownKnob Try.prog.godebug=none:=by kernel_rfl
theorem cfA:Try.prog.inPlace 6=Rows.fnLabStepRow.inPlace:=by kernel_rfl
theorem cfB:Try.prog.unfollowed 6=Rows.fnLabStepRow.unfollowed:=by kernel_rfl
theorem cfC:Try.prog.recurses 6=Rows.fnLabStepRow.recurses:=by kernel_rfl
theorem cfD:Try.prog.varsNamed 6=Rows.fnLabStepRow.named:=by kernel_rfl
set_option maxRecDepth 100000 in
theorem lifted_FnLabStep (os:Os) (started:os.Started) (H:Type) (enc:TypeId×Value→H) :
  ReturnsInHanded {} Try.checked os 6 .any (Rows.fnLabStepSpec.pre6 enc Try.prog Try.f6 Rows.fnLabStepRow.domain false) (Rows.fnLabStepSpec.post enc Try.prog Try.f6 false true false false):=by
 refine returnsInHanded_of_change (C:=Try.checked) own started (by kernel_rfl) Try.func6
  (ChangeSpec.witness6 (enc:=enc) (C:=Try.checked) false ⟨#[],#[.slice none 0 0],[]⟩ 8 (by kernel_rfl) (by kernel_rfl) (by kernel_rfl) (by kernel_rfl)) ?_
 intro W base args ds gs before hval0 hW hcnd _
 have hval:∀ (j:Nat) t v,Try.f6.params[j]?=some t→args[j]?=some v→Value.okWide Try.prog W .any base t v:=hval0
 have hW':=hW
 obtain ⟨p,q,hA0,hV,rfl,hfz,hnd⟩:=hW
 have hA:DataW.TrodAll enc Try.prog W 0 (fun _=>true) true Try.f6.params.toList args.toList ds p:=hA0
 rw [Try.params6] at hA hval
 obtain ⟨v0,vs0,d0,ds0,p0,q0,hargs,rfl,rfl,h0,r0⟩:=trodAll_cons hA
 obtain ⟨rfl,rfl,rfl⟩:=trodAll_nil r0
 obtain rfl:args=#[v0]:=by cases args; simp_all
 obtain ⟨rfl,rfl⟩:=trodVars_none hV
 obtain ⟨fu0,t0⟩:=h0
 obtain ⟨a0,n0,c0,rfl⟩:=okWide_slice Try.underlying22 (hval 0 22 v0 rfl rfl)
 obtain ⟨x0,u0,us0,e0,o0,-⟩:=op_22 H enc W fu0 _ _ t0
 obtain rfl:u0=_:=(List.cons.inj e0).1.symm
 have hc:=law_call (W:=W) (vs:=[.slice a0 n0 c0]) (ok6 (⟨a0,n0,c0⟩:SV) x0) trivial (x:=.bool (F6 (⟨a0,n0,c0⟩:SV) x0)) ⟨_,_,[],[],rfl,⟨⟨rfl,o0⟩,rfl⟩,⟨rfl,rfl⟩,rfl,List.nodup_nil⟩ rfl rfl
 rw [plain_6 (⟨a0,n0,c0⟩:SV) x0] at hc
 refine hc.mono fun e W' ⟨he,hb⟩=>?_
 subst he
 exact ⟨_,rfl,law_post rfl hW' hb rfl Try.underlying4 rfl rfl rfl laid (by decide +kernel)⟩
theorem proved_FnLabStep:Rows.FnLabStepSaid :=
 OpenClaim.holds_of_wide 6 Try.f6 rfl rfl rfl rfl rfl rfl rfl ⟨rfl,rfl,rfl,rfl,rfl⟩ rfl rfl rfl rfl rfl (by kernel_rfl) Try.func6 (by
   show joinedFacts Try.prog 6 Try.f6 Rows.fnLabStepSpec Rows.fnLabStepRow=true
   simp only [joinedFacts,laid,cfMaps,cfKeys,cfLifts,cfHeard,cfEnter,cfMake,cfA,cfB,cfC,cfD,Bool.and_true]
   kernel_rfl)
  (of_decide_eq_true (by kernel_rfl)) (by unfold Func.isWrapper; first | (rw [if_pos (by decide +kernel)]; kernel_rfl) | (rw [if_neg (by decide +kernel)]; exact ⟨rfl,rfl⟩))
  (fun os started H enc _=>lifted_FnLabStep os started H enc)
#print axioms proved_FnLabStep
end Go.Proofs.Ytmiolofjlfnohaa
