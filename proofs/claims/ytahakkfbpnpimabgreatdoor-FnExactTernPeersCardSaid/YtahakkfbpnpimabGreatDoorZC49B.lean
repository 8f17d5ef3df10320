/- A part of the proof of FnExactTernPeers. Texts put together: MC, MO, MW, MZ, MD, ME, MF, MG, MH, MI, MJ, MK, ML, MN, K3, MQ, CF, MR, MS, MT. -/
import Derived.MapKept
import Derived.WideMake
import Derived.Laws.BytesArg
import Derived.Laws.IdiomStrings
import Derived.Deep.LoopGhost
import Derived.ProofKit
import Derived.Test.YtahakkfbpnpimabGreatDoorRows
import Derived.Test.YtahakkfbpnpimabGreatDoorZC49A
namespace Go.Proofs.YtahakkfbpnpimabGreatDoor
open Go.RowKit
set_option maxRecDepth 100000
set_option linter.unusedVariables false
set_option linter.unusedSimpArgs false
def Wl:List Nat→Bool
 | []=>true
 | x :: xs=>!(xs.any (Nat.beq x))&&Wl xs
theorem Wv:∀ {l:List Nat},Wl l=true→l.Nodup
 | [],_=>List.nodup_nil
 | x :: xs,h=>by
  simp only [Wl,Bool.and_eq_true,Bool.not_eq_true'] at h
  refine List.nodup_cons.2 ⟨fun hm=>?_,Wv h.2⟩
  have:xs.any (Nat.beq x)=true:=List.any_eq_true.2 ⟨x,hm,by simp⟩
  rw [this] at h
  cases h.1
def Quv (P:Program) (fs:Nat→Option Fact) (hf:Option (FnH P)) (base:Nat) (sp:Spec) (args:List AV):Option OpR :=
 match Xf P fs hf args sp.args with
 | some m=>bif Wl m.cons&&m.reads.all (fun x=>!(m.cons.any (Nat.beq x)))&&Nat.ble (behA (resA base sp.res).2.2 args sp.args).2 (base+Qs) then
   some ⟨sp.pre :: m.vcs,(resA base sp.res).1,(m.cons.map fun i=>(i,none))++((resA base sp.res).2.1++(behA (resA base sp.res).2.2 args sp.args).1)⟩ else none
 | none=>none
section
variable {P:Program} {fs fsA:Nat→Option Fact} {β:Nat→Nat→Value} {φ:Nat→List Nat} {dom ψ IN:Nat→Prop} {w0 w w':World} {base:Nat}
theorem Ucs (hsub:∀ id f,fs id=some f→fsA id=some f) (R:Rel P fsA β φ dom ψ IN w0 w) {id:Nat} {T:TypeId} {ds:List Dat} {m:MA} (h:mPt fs id T ds=some m):∀ id∈m.cons,∃ g,fsA id=some g∧g.mod=true:=by
 simp only [mPt] at h
 split at h
 ·rename_i T0 cs hid
  cases hT:Nat.beq T T0 with
  | false=>rw [hT] at h; cases h
  | true =>
   rw [hT] at h
   simp only [cond_true] at h
   split at h
   ·rename_i d0s ids hds
    cases h
    obtain ⟨fp,q1,q2,q3,q4,q5,q6,q7⟩:=Uh R hsub hds
    intro i hi
    rcases List.mem_cons.1 hi with rfl | hi
    ·exact ⟨_,hsub _ _ hid,rfl⟩
    ·obtain ⟨V,d,hd⟩:=q5 i hi
     exact ⟨_,hd,rfl⟩
   ·cases h
 ·cases h
theorem Qtt (hsub:∀ id f,fs id=some f→fsA id=some f) (R:Rel P fsA β φ dom ψ IN w0 w) {gi id:Nat} {T:TypeId} {x:Value} {d:Dat} {ds:List Dat} {m:MA} (h:mPtg fs gi id T x d ds=some m):∀ id∈m.cons,∃ g,fsA id=some g∧g.mod=true:=by
 simp only [mPtg] at h
 split at h
 ·rename_i T0 g cs x1 d1 hid hgi
  cases hT:(Nat.beq T T0&&Nat.beq g gi) with
  | false=>rw [hT] at h; cases h
  | true =>
   rw [hT] at h
   simp only [cond_true] at h
   split at h
   ·rename_i d0s ids hds
    cases h
    obtain ⟨fp,q1,q2,q3,q4,q5,q6,q7⟩:=Uh R hsub hds
    intro i hi
    rcases List.mem_cons.1 hi with rfl | hi
    ·exact ⟨_,hsub _ _ hid,rfl⟩
    ·obtain ⟨V,d,hd⟩:=q5 i hi
     exact ⟨_,hd,rfl⟩
   ·cases h
 ·cases h
theorem Pg (hsub:∀ id f,fs id=some f→fsA id=some f) (R:Rel P fsA β φ dom ψ IN w0 w) {hf:Option (FnH P)} {av:AV} {a:Arg} {m:MA} (h:mArg P fs hf av a=some m):∀ id∈m.cons,∃ g,fsA id=some g∧g.mod=true:=by
 have how:∀ {av:AV} {d:Dat} {m:MA},mOw fs av d=some m→∀ id∈m.cons,∃ g,fsA id=some g∧g.mod=true:=by
  intro av d m h
  simp only [mOw] at h
  split at h
  ·rename_i d0 xid hx
   cases h
   cases av with
   | v x =>
    simp only [Jh] at hx
    cases hxo:x.oneCell' with
    | false=>rw [hxo] at hx; cases hx
    | true =>
     simp only [hxo,cond_true,Option.some.injEq,Prod.mk.injEq] at hx
     obtain ⟨rfl,rfl⟩:=hx
     intro id hid; cases hid
   | h X j =>
    cases j with
    | succ j=>simp [Jh] at hx
    | zero =>
     simp only [Jh] at hx
     split at hx
     ·rename_i V d1 hX
      simp only [Option.some.injEq,Prod.mk.injEq] at hx
      obtain ⟨rfl,rfl⟩:=hx
      intro id hid
      simp only [List.mem_singleton] at hid
      exact ⟨_,hid ▸ hsub _ _ hX,rfl⟩
     ·cases hx
   | _=>simp [Jh] at hx
  ·cases h
 have hro:∀ {a:Arg} {m:MA},mRo fs av a=some m→m.cons=[]:=by
  intro a m h
  cases a with
  | r a =>
   cases a with
   | c d =>
    simp only [mRo,mRoC] at h
    split at h
    ·cases h; rfl
    ·split at h
     ·split at h
      ·split at h <;> first | (cases h; rfl) | cases h
      ·cases h
     ·cases h
   | g d =>
    simp only [mRo,mRoG] at h
    split at h
    ·cases h; rfl
    ·split at h
     ·exact Qmq h
     ·cases h
  | rp ds =>
   simp only [mRo] at h
   split at h
   ·simp only [mRoP] at h
    split at h <;> first | (cases h; rfl) | cases h
   ·cases h
  | _=>simp [mRo] at h
 cases a with
 | r a =>
  have:=hro (a:=.r a) (by simpa [mArg] using h)
  rw [this]; intro id hid; cases hid
 | rp ds =>
  have:=hro (a:=.rp ds) (by simpa [mArg] using h)
  rw [this]; intro id hid; cases hid
 | pt T ds ds' =>
  simp only [mArg] at h
  split at h
  ·exact Ucs hsub R h
  ·cases h
 | ptg gi T x d ds ds' =>
  simp only [mArg] at h
  split at h
  ·exact Qtt hsub R h
  ·cases h
 | vl x d =>
  simp only [mArg] at h
  split at h
  ·simp only [mVl] at h
   split at h
   ·cases h; intro id hid; cases hid
   ·cases h
  ·cases h
 | ow d d' =>
  cases d' with
  | none=>exact how (by simpa [mArg] using h)
  | some d' =>
   simp only [mArg] at h
   split at h
   ·exact how h
   ·cases h
 | og ds ds' =>
  simp only [mArg] at h
  split at h
  ·simp only [mOg] at h
   split at h
   ·rename_i d0s ids hds
    cases h
    obtain ⟨fp,q1,q2,q3,q4,q5,q6,q7⟩:=Uh R hsub hds
    intro i hi
    obtain ⟨V,d,hd⟩:=q5 i hi
    exact ⟨_,hd,rfl⟩
   ·cases h
  ·cases h
 | ot ds =>
  simp only [mArg] at h
  split at h
  ·simp only [mOg] at h
   split at h
   ·rename_i d0s ids hds
    cases h
    obtain ⟨fp,q1,q2,q3,q4,q5,q6,q7⟩:=Uh R hsub hds
    intro i hi
    obtain ⟨V,d,hd⟩:=q5 i hi
    exact ⟨_,hd,rfl⟩
   ·cases h
  ·cases h
 | fn F D =>
  simp only [mArg] at h
  split at h
  ·simp only [mFn] at h
   split at h
   ·rename_i hh
    cases hb:(Nat.beq hh.f _&&Ub P hh.f&&(!D || hh.D)) with
    | false=>rw [hb] at h; cases h
    | true =>
     rw [hb] at h
     simp only [cond_true] at h
     split at h
     ·cases h; intro id hid; cases hid
     ·cases h
   ·cases h
  ·simp only [mFv] at h
   split at h
   ·cases D with
    | true=>cases h
    | false=>cases h; intro id hid; cases hid
   ·cases h
  ·cases h
theorem Ht (hsub:∀ id f,fs id=some f→fsA id=some f) (R:Rel P fsA β φ dom ψ IN w0 w) {hf:Option (FnH P)}:∀ {avs:List AV} {azz:List Arg} {m:MA},Xf P fs hf avs azz=some m→∀ id∈m.cons,∃ g,fsA id=some g∧g.mod=true
 | [],[],m,h=>by simp only [Xf,Option.some.injEq] at h; subst h; intro id hid; cases hid
 | av :: avs,a :: azz,m,h=>by
  simp only [Xf] at h
  split at h
  ·rename_i m1 m2 h1 h2
   cases h
   intro id hid
   rcases List.mem_append.1 hid with hid | hid
   ·exact Pg hsub R h1 id hid
   ·exact Ht hsub R h2 id hid
  ·cases h
 | [],_ :: _,m,h=>by simp [Xf] at h
 | _ :: _,[],m,h=>by simp [Xf] at h
def PairsOK (dom:Nat→Prop) (β:Nat→Nat→Value):List AV→List Arg→Prop
 | [],[]=>True
 | av :: avs,a :: azz=>Uba dom β av a∧PairsOK dom β avs azz
 | _,_=>False
theorem Qgy {fs:Nat→Option Fact}:∀ {cs:List AV} {ds:List Dat} {ids:List Nat},Us fs cs=some (ds,ids)→ogK cs=ids
 | [],ds,ids,h=>by
  simp only [Us,Option.some.injEq,Prod.mk.injEq] at h
  obtain ⟨rfl,rfl⟩:=h
  rfl
 | c :: cs,ds,ids,h=>by
  cases c with
  | v x =>
   simp only [Us] at h
   cases hx:x.oneCell' with
   | false=>rw [hx] at h; cases h
   | true =>
    rw [hx] at h
    simp only [cond_true] at h
    split at h
    ·rename_i ds' ids' h'
     simp only [Option.some.injEq,Prod.mk.injEq] at h
     obtain ⟨rfl,rfl⟩:=h
     simp only [ogK]
     exact Qgy h'
    ·cases h
  | h X j =>
   cases j with
   | succ j=>simp [Us] at h
   | zero =>
    simp only [Us] at h
    split at h
    ·split at h
     ·rename_i ds' ids' h'
      cases hb:ids'.any (Nat.beq X) with
      | true=>rw [hb] at h; cases h
      | false =>
       rw [hb] at h
       simp only [cond_false,Option.some.injEq,Prod.mk.injEq] at h
       obtain ⟨rfl,rfl⟩:=h
       simp only [ogK]
       rw [Qgy h']
     ·cases h
    ·cases h
  | cl f cap =>
   cases cap with
   | cons c cs=>simp [Us] at h
   | nil =>
    simp only [Us] at h
    split at h
    ·rename_i ds' ids' h'
     simp only [Option.some.injEq,Prod.mk.injEq] at h
     obtain ⟨rfl,rfl⟩:=h
     simp only [ogK]
     exact Qgy h'
    ·cases h
  | _=>simp [Us] at h
def Vu:AV→Arg→List Nat
 | .p id _,.pt _ _ _=>[id]
 | .p id _,.ptg _ _ _ _ _ _=>[id]
 | .h X _,.ow _ (some _)=>[X]
 | .ag cs,.og _ _=>ogK cs
 | _,_=>[]
def Yi:List AV→List Arg→List Nat
 | av :: avs,a :: azz=>Vu av a++Yi avs azz
 | _,_=>[]
theorem Uga {id:Nat} {T:TypeId} {ds:List Dat} {m:MA} (h:mPt fs id T ds=some m):List.Sublist [id] m.cons:=by
 simp only [mPt] at h
 split at h
 ·rename_i T0 cs hid
  cases hT:Nat.beq T T0 with
  | false=>rw [hT] at h; cases h
  | true =>
   rw [hT] at h
   simp only [cond_true] at h
   split at h
   ·cases h; simp
   ·cases h
 ·cases h
theorem Qzd {gi id:Nat} {T:TypeId} {x:Value} {d:Dat} {ds:List Dat} {m:MA} (h:mPtg fs gi id T x d ds=some m):List.Sublist [id] m.cons:=by
 simp only [mPtg] at h
 split at h
 ·rename_i T0 g cs x1 d1 hid hgi
  cases hT:(Nat.beq T T0&&Nat.beq g gi) with
  | false=>rw [hT] at h; cases h
  | true =>
   rw [hT] at h
   simp only [cond_true] at h
   split at h
   ·cases h; simp
   ·cases h
 ·cases h
theorem Qxy {hf:Option (FnH P)} {av:AV} {a:Arg} {m:MA} (h:mArg P fs hf av a=some m):(Vu av a).Sublist m.cons:=by
 cases a with
 | og ds ds' =>
  simp only [mArg] at h
  split at h
  ·rename_i cs
   simp only [mOg] at h
   split at h
   ·rename_i d0s ids hds
    cases h
    simp only [Vu]
    rw [Qgy hds]
    exact List.Sublist.refl _
   ·cases h
  ·cases h
 | pt T ds ds' =>
  simp only [mArg] at h
  split at h
  ·exact Uga h
  ·cases h
 | ptg gi T x d ds ds' =>
  simp only [mArg] at h
  split at h
  ·exact Qzd h
  ·cases h
 | vl x d=>cases av <;> simp [Vu]
 | ow d d' =>
  cases d' with
  | none=>cases av <;> simp [Vu]
  | some d' =>
   simp only [mArg] at h
   split at h
   ·rename_i X
    simp only [mOw,Jh] at h
    split at h
    ·rename_i d0 xid hx
     cases h
     split at hx
     ·simp only [Option.some.injEq,Prod.mk.injEq] at hx
      obtain ⟨_,rfl⟩:=hx
      simp [Vu]
     ·cases hx
    ·cases h
   ·cases h
 | r a=>cases av <;> simp [Vu]
 | ot ds=>cases av <;> simp [Vu]
 | rp ds=>cases av <;> simp [Vu]
 | fn F D=>cases av <;> simp [Vu]
theorem Qjk (R:Rel P fsA β φ dom ψ IN w0 w) (hsub:∀ id f,fs id=some f→fsA id=some f) {hf:Option (FnH P)} {CONS:List Nat} (hC:∀ id∈CONS,∃ g,fsA id=some g∧g.mod=true):∀ {avs:List AV} {azz:List Arg} {m:MA},Xf P fs hf avs azz=some m→AllP m.vcs→(∀ X∈m.reads,X ∉ CONS)→m.cons.Nodup →
  ∃ fp,ArgsOK P (Outs φ w CONS) w azz (vals β avs) fp∧(∀ b,b∈fp↔∃ id∈m.cons,b∈φ id)∧AVs.wf dom avs∧PairsOK dom β avs azz∧fp.Nodup∧(Yi avs azz).Sublist m.cons
 | [],[],m,h,hv,hn,hnd=>by
  simp only [Xf,Option.some.injEq] at h; subst h
  exact ⟨[],⟨rfl,rfl⟩,fun b=>⟨fun h=>by (cases h),fun ⟨i,h,_⟩=>by (cases h)⟩,trivial,trivial,List.nodup_nil,List.Sublist.refl _⟩
 | av :: avs,a :: azz,m,h,hv,hn,hnd=>by
  simp only [Xf] at h
  split at h
  ·rename_i m1 m2 h1 h2
   cases h
   obtain ⟨v1,v2⟩:=AllP.app hv
   obtain ⟨n1,n2,n3⟩:=List.nodup_append.1 hnd
   obtain ⟨f,k1,k2,k3,k4,k5⟩:=Qpr R hsub hC h1 v1 (fun X hX=>hn X (List.mem_append_left _ hX)) n1
   obtain ⟨g,q1,q2,q3,q4,q5,q6⟩:=Qjk R hsub hC h2 v2 (fun X hX=>hn X (List.mem_append_right _ hX)) n2
   have hnd':(f++g).Nodup:=by
    refine List.nodup_append.2 ⟨k5,q5,fun b hb b' hb' e=>?_⟩
    subst e
    obtain ⟨i,hi,hbi⟩:=(k2 b).1 hb
    obtain ⟨j,hj,hbj⟩:=(q2 b).1 hb'
    obtain ⟨g1,e1,e2⟩:=Pg hsub R h1 i hi
    obtain ⟨g2,e3,e4⟩:=Ht hsub R h2 j hj
    exact R.dis i j g1 g2 e1 e3 e2 e4 (fun e=>n3 i hi j hj e) b hbi hbj
   refine ⟨f++g,⟨_,_,f,g,rfl,k1,q1,rfl,hnd'⟩,fun b=>⟨fun hb=>?_,fun ⟨i,hi,hbi⟩=>?_⟩,⟨k3,q3⟩,⟨k4,q4⟩,hnd',List.Sublist.append (Qxy h1) q6⟩
   ·rcases List.mem_append.1 hb with hb | hb
    ·obtain ⟨i,hi,hbi⟩:=(k2 b).1 hb
     exact ⟨i,List.mem_append_left _ hi,hbi⟩
    ·obtain ⟨i,hi,hbi⟩:=(q2 b).1 hb
     exact ⟨i,List.mem_append_right _ hi,hbi⟩
   ·rcases List.mem_append.1 hi with hi | hi
    ·exact List.mem_append_left _ ((k2 b).2 ⟨i,hi,hbi⟩)
    ·exact List.mem_append_right _ ((q2 b).2 ⟨i,hi,hbi⟩)
  ·cases h
 | [],_ :: _,m,h,_,_,_=>by simp [Xf] at h
 | _ :: _,[],m,h,_,_,_=>by simp [Xf] at h
theorem RL.re {L L':List Nat} (H:RL P fs β φ dom ψ IN w0 w L) (hnd:L'.Nodup) (hs:∀ b∈L',b∈L):RL P fs β φ dom ψ IN w0 w L':=⟨H.rel,hnd,fun b hb=>H.loose.2 b (hs b hb)⟩
theorem Gj {α:Type} (f:Nat→α) (i:Nat):up f i (f i)=f:=funext fun j=>by
 by_cases h:j=i
 ·subst h; exact Qg _ _ _
 ·exact Um _ _ _ h
theorem Uz:∀ (ds:List Dat) (n:Nat) (p:Nat×Option Fact),p∈(Qp n ds).2.1→n≤p.1∧p.1<(Qp n ds).2.2
 | [],n,p,h=>by cases h
 | .v x :: ds,n,p,h=>Uz ds n p h
 | @Dat.l _ _ sz enc xs :: ds,n,p,h=>by
  have hle:=Uk ds (n+1)
  simp only [Qp] at h ⊢
  rcases List.mem_cons.1 h with rfl | h
  ·exact ⟨Nat.le_refl _,hle⟩
  ·have:=Uz ds (n+1) p h
   exact ⟨by omega,this.2⟩
 | .any :: ds,n,p,h=>by
  have hle:=Uk ds (n+1)
  simp only [Qp] at h ⊢
  rcases List.mem_cons.1 h with rfl | h
  ·exact ⟨Nat.le_refl _,hle⟩
  ·have:=Uz ds (n+1) p h
   exact ⟨by omega,this.2⟩
 | .x XX :: ds,n,p,h=>by
  have hle:=Uk ds (n+1)
  simp only [Qp] at h ⊢
  rcases List.mem_cons.1 h with rfl | h
  ·exact ⟨Nat.le_refl _,hle⟩
  ·have:=Uz ds (n+1) p h
   exact ⟨by omega,this.2⟩
 | .b DD :: ds,n,p,h=>by
  have hle:=Uk ds (n+1)
  simp only [Qp] at h ⊢
  rcases List.mem_cons.1 h with rfl | h
  ·exact ⟨Nat.le_refl _,hle⟩
  ·have:=Uz ds (n+1) p h
   exact ⟨by omega,this.2⟩
mutual
theorem Qfp:∀ (r:RT) (n:Nat) (p:Nat×Option Fact),p∈(resA n r).2.1→n≤p.1∧p.1<(resA n r).2.2
 | .v x,n,p,h=>by cases h
 | .ow d,n,p,h=>by
  simp only [resA,List.mem_singleton] at h
  subst h
  exact ⟨Nat.le_refl _,Nat.lt_succ_self _⟩
 | .ag l,n,p,h=>Xc l n p h
 | .tu l,n,p,h=>Xc l n p h
 | .cl _ l,n,p,h=>Xc l n p h
 | .pt T ds,n,p,h=>by
  simp only [resA] at h ⊢
  rcases List.mem_append.1 h with h | h
  ·have:=Uz ds n p h
   exact ⟨this.1,by omega⟩
  ·simp only [List.mem_singleton] at h
   subst h
   exact ⟨Uk ds n,Nat.lt_succ_self _⟩
theorem Xc:∀ (l:List RT) (n:Nat) (p:Nat×Option Fact),p∈(Jc n l).2.1→n≤p.1∧p.1<(Jc n l).2.2
 | [],n,p,h=>by cases h
 | r :: rs,n,p,h=>by
  have e1:=Ta r n
  have e2:=Vr rs (resA n r).2.2
  simp only [Jc] at h ⊢
  rcases List.mem_append.1 h with h | h
  ·have:=Qfp r n p h
   exact ⟨this.1,by omega⟩
  ·have:=Xc rs _ p h
   exact ⟨by omega,this.2⟩
end
theorem Zk (fs:Nat→Option Fact):∀ (l:List (Nat×Option Fact)) (i:Nat),(∀ p∈l,p.1≠i)→Ud fs l i=fs i
 | [],i,_=>rfl
 | (j,o) :: l,i,h=>by
  simp only [Ud]
  rw [Zk _ l i fun p hp=>h p (List.mem_cons_of_mem _ hp),Uw,if_neg fun e=>h _ List.mem_cons_self e.symm]
theorem Pi:∀ (cs:List AV) (ds:List Dat) (n:Nat),n≤(ogB n cs ds).2
 | [],ds,n=>by cases ds <;> exact Nat.le_refl _
 | c :: cs,[],n=>by cases c <;> first | exact Nat.le_refl _ | (rename_i X j; cases j <;> exact Nat.le_refl _)
 | c :: cs,d :: ds,n=>by
  cases c with
  | h X j =>
   cases j with
   | zero=>exact Nat.le_trans (Nat.le_succ n) (Pi cs ds (n+1))
   | succ j=>exact Pi cs ds n
  | _=>exact Pi cs ds n
theorem Gl:∀ (avs:List AV) (azz:List Arg) (n:Nat),n≤(behA n avs azz).2
 | [],azz,n=>by rw [show behA n [] azz=([],n) by (cases azz <;> rfl)]; exact Nat.le_refl _
 | av :: avs,[],n=>by rw [show behA n (av :: avs) []=([],n) by (cases av <;> first | rfl | (rename_i id j; cases j <;> rfl))]; exact Nat.le_refl _
 | av :: avs,a :: azz,n=>by
  have ih:=Gl avs azz
  unfold behA
  split
  ·rename_i e1 e2
   cases e1; cases e2
   exact Nat.le_trans (Uk _ _) (ih _)
  ·rename_i e1 e2
   cases e1; cases e2
   exact Nat.le_trans (Uk _ _) (ih _)
  ·rename_i e1 e2
   cases e1; cases e2
   exact Nat.le_trans (Nat.le_succ _) (ih _)
  ·rename_i e1 e2
   cases e1; cases e2
   exact Nat.le_trans (Pi _ _ _) (ih _)
  ·rename_i e1 e2
   cases e1; cases e2
   exact ih _
  ·exact Nat.le_refl _
theorem PairsOK.congr {β':Nat→Nat→Value} {dom':Nat→Prop} (h:∀ id,dom id→dom' id∧β' id=β id):∀ {avs:List AV} {azz:List Arg},PairsOK dom β avs azz→AVs.wf dom avs→PairsOK dom' β' avs azz
 | [],[],_,_=>trivial
 | av :: avs,a :: azz,hp,hw=>by
  refine ⟨?_,PairsOK.congr h hp.2 hw.2⟩
  have h1:=hp.1
  cases a with
  | pt T ds ds' =>
   obtain ⟨id,rfl,b,hb⟩:=h1
   exact ⟨id,rfl,b,by rw [(h id hw.1).2]; exact hb⟩
  | ptg gi T x d ds ds' =>
   obtain ⟨id,rfl,⟨b,hb⟩,h2,h3,h4⟩:=h1
   exact ⟨id,rfl,⟨b,by rw [(h id hw.1).2]; exact hb⟩,(h gi h2).1,by rw [(h gi h2).2]; exact h3,h4⟩
  | ow d d'=>cases d' <;> exact h1
  | _=>exact h1
 | [],_ :: _,hp,_=>hp.elim
 | _ :: _,[],hp,_=>hp.elim
theorem Mo:∀ (cs:List AV) (ds:List Dat) (n:Nat) (p:Nat×Option Fact),p∈(ogB n cs ds).1→p.1∈ogK cs
 | [],ds,n,p,h=>by cases ds <;> cases h
 | c :: cs,[],n,p,h=>by cases c <;> first | cases h | (rename_i X j; cases j <;> cases h)
 | c :: cs,d :: ds,n,p,h=>by
  cases c with
  | h X j =>
   cases j with
   | zero =>
    rcases List.mem_cons.1 (show p∈(X,some (.own n d)) :: (ogB (n+1) cs ds).1 from h) with rfl | h
    ·exact List.mem_cons_self
    ·exact List.mem_cons_of_mem X (Mo cs ds (n+1) p h)
   | succ j=>exact Mo cs ds n p h
  | _=>exact Mo cs ds n p h
theorem Qnv:∀ (cs:List AV) (ds:List Dat) (n:Nat) (fs:Nat→Option Fact) (φ:Nat→List Nat) (dom:Nat→Prop) (f L:List Nat),RL P fs β φ dom ψ IN w0 w (f++L)→(∀ id,n≤id→id<(ogB n cs ds).2→¬ dom id)→AVs.wf dom cs→OwVs w ds (vals β cs) f→(ogK cs).Nodup→(∀ k∈ogK cs,fs k=none∧dom k) →
  ∃ φ' dom',RL P (Ud fs (ogB n cs ds).1) β φ' dom' ψ IN w0 w L∧Ext β β dom dom' n (ogB n cs ds).2
 | [],[],n,fs,φ,dom,f,L,H,hn,hw,ho,hk,hk0=>by
  obtain ⟨_,rfl⟩:=ho
  exact ⟨φ,dom,H,Ext.refl _ _ _⟩
 | [],d :: ds,n,fs,φ,dom,f,L,H,hn,hw,ho,hk,hk0=>by
  obtain ⟨u,us,_,_,e,_⟩:=ho
  simp [vals] at e
 | c :: cs,[],n,fs,φ,dom,f,L,H,hn,hw,ho,hk,hk0=>by
  obtain ⟨e,_⟩:=ho
  simp [vals] at e
 | c :: cs,d :: ds,n,fs,φ,dom,f,L,H,hn,hw,ho,hk,hk0=>by
  obtain ⟨u,us,f1,g,e,h1,h2,rfl,h3⟩:=ho
  simp only [vals,List.cons.injEq] at e
  obtain ⟨rfl,rfl⟩:=e
  have skip:ogB n (c :: cs) (d :: ds)=ogB n cs ds→ogK (c :: cs)=ogK cs→∃ φ' dom',RL P (Ud fs (ogB n (c :: cs) (d :: ds)).1) β φ' dom' ψ IN w0 w L∧Ext β β dom dom' n (ogB n (c :: cs) (d :: ds)).2:=by
   intro hb hkk
   rw [hb] at hn ⊢
   rw [hkk] at hk hk0
   exact Qnv cs ds n fs φ dom g L (H.re (by
    have:=H.loose.1
    rw [List.append_assoc] at this
    exact (List.nodup_append.1 this).2.1) fun b hb=>by
     rw [List.append_assoc]; exact List.mem_append_right _ hb) hn hw.2 h2 hk hk0
  cases c with
  | h X j =>
   cases j with
   | succ j=>exact skip rfl rfl
   | zero =>
    have hb:ogB n (.h X 0 :: cs) (d :: ds)=((X,some (.own n d)) :: (ogB (n+1) cs ds).1,(ogB (n+1) cs ds).2):=rfl
    rw [hb] at hn ⊢
    have hle:=Pi cs ds (n+1)
    have hnn:=hn n (Nat.le_refl _) hle
    have hXd:dom X:=hw.1
    have hkc:(X :: ogK cs).Nodup:=hk
    have hk0':∀ k∈X :: ogK cs,fs k=none∧dom k:=hk0
    have ho:OwV w d (β X 0) f1:=h1
    rw [List.append_assoc] at H
    have H2:=H.add X (.own n d) (β X) (fun i=>dom i∨i=n) rfl (hk0' X List.mem_cons_self).1 (fun _=>rfl) (H.rel.one X hXd) (fun _ h=>.inl h) (.inl hXd) ⟨.inr rfl,by rw [Qg,Qg]; exact ho⟩ (fun V d e=>by cases e; exact hnn)
    rw [Gj] at H2
    obtain ⟨φ',dom',k1,k2⟩:=Qnv cs ds (n+1) _ (up φ X f1) (fun i=>dom i∨i=n) g L H2 (fun id h h' hd=>by
     rcases hd with hd | rfl
     ·exact hn id (by omega) h' hd
     ·omega) (AVs.wf_mono (fun _ h=>.inl h) _ hw.2) h2 (List.nodup_cons.1 hkc).2 (fun k hkk=>by
     have hne:k≠X:=fun e=>(List.nodup_cons.1 hkc).1 (e ▸ hkk)
     rw [Uw,if_neg hne]
     have:=hk0' k (List.mem_cons_of_mem X hkk)
     exact ⟨this.1,.inl this.2⟩)
    exact ⟨φ',dom',k1,⟨by omega,fun id h=>k2.old id (.inl h),fun id h=>by
     rcases k2.new id h with (h | rfl) | h
     ·exact .inl h
     ·exact .inr ⟨Nat.le_refl _,hle⟩
     ·exact .inr ⟨by omega,h.2⟩⟩⟩
  | _=>exact skip rfl rfl
theorem Gm:∀ (avs:List AV) (azz:List Arg) (n:Nat) (fs:Nat→Option Fact) (β:Nat→Nat→Value) (φ:Nat→List Nat) (dom:Nat→Prop) (f L:List Nat),RL P fs β φ dom ψ IN w0 w (f++L)→(∀ id,n≤id→id<(behA n avs azz).2→¬ dom id)→PairsOK dom β avs azz→AVs.wf dom avs→Ny w azz (vals β avs) f →
  (Yi avs azz).Nodup→(∀ k∈Yi avs azz,fs k=none∧dom k) →
  ∃ β' φ' dom',RL P (Ud fs (behA n avs azz).1) β' φ' dom' ψ IN w0 w L∧Ext β β' dom dom' n (behA n avs azz).2
 | [],[],n,fs,β,φ,dom,f,L,H,hn,hp,hw,hB,hk,hk0=>by
  have:f=[]:=hB
  subst this
  exact ⟨β,φ,dom,H,Ext.refl _ _ _⟩
 | [],_ :: _,n,fs,β,φ,dom,f,L,H,hn,hp,hw,hB,hk,hk0=>hp.elim
 | _ :: _,[],n,fs,β,φ,dom,f,L,H,hn,hp,hw,hB,hk,hk0=>hp.elim
 | av :: avs,a :: azz,n,fs,β,φ,dom,f,L,H,hn,hp,hw,hB,hk,hk0=>by
  obtain ⟨u,us,f1,g,e,h1,h2,rfl⟩:=hB
  simp only [vals,List.cons.injEq] at e
  obtain ⟨rfl,rfl⟩:=e
  have skip:(∀ (id:Nat) T ds ds',av=.p id 0→a=.pt T ds ds'→False)→(∀ (id:Nat) gi T x d ds ds',av=.p id 0→a=.ptg gi T x d ds ds'→False)→(∀ X d d',av=.h X 0→a=.ow d (some d')→False)→(∀ cs ds ds',av=.ag cs→a=.og ds ds'→False)→f1=[] →
    ∃ β' φ' dom',RL P (Ud fs (behA n (av :: avs) (a :: azz)).1) β' φ' dom' ψ IN w0 w L∧Ext β β' dom dom' n (behA n (av :: avs) (a :: azz)).2:=by
   intro c1 c1' c2 c3 hf1
   subst hf1
   have hb:behA n (av :: avs) (a :: azz)=behA n avs azz:=by
    conv=>lhs; unfold behA
    split
    ·rename_i e1 e2; cases e1; cases e2; exact (c1 _ _ _ _ rfl rfl).elim
    ·rename_i e1 e2; cases e1; cases e2; exact (c1' _ _ _ _ _ _ _ rfl rfl).elim
    ·rename_i e1 e2; cases e1; cases e2; exact (c2 _ _ _ rfl rfl).elim
    ·rename_i e1 e2; cases e1; cases e2; exact (c3 _ _ _ rfl rfl).elim
    ·rename_i e1 e2; cases e1; cases e2; rfl
    ·rename_i hx; exact (hx _ _ _ _ rfl rfl).elim
   rw [hb] at hn ⊢
   have hks:(Yi avs azz).Sublist (Yi (av :: avs) (a :: azz)):=by simp only [Yi]; exact List.sublist_append_right _ _
   exact Gm avs azz n fs β φ dom g L (by simpa using H) hn hp.2 hw.2 h2 (hk.sublist hks) fun k hkk=>hk0 k (hks.subset hkk)
  cases a with
  | vl x d=>exact skip (fun _ _ _ _ _ e=>by cases e) (fun _ _ _ _ _ _ _ _ e=>by cases e) (fun _ _ _ _ e=>by cases e) (fun _ _ _ _ e=>by cases e) h1
  | ot ds=>exact skip (fun _ _ _ _ _ e=>by cases e) (fun _ _ _ _ _ _ _ _ e=>by cases e) (fun _ _ _ _ e=>by cases e) (fun _ _ _ _ e=>by cases e) h1
  | r a=>exact skip (fun _ _ _ _ _ e=>by cases e) (fun _ _ _ _ _ _ _ _ e=>by cases e) (fun _ _ _ _ e=>by cases e) (fun _ _ _ _ e=>by cases e) h1
  | rp ds=>exact skip (fun _ _ _ _ _ e=>by cases e) (fun _ _ _ _ _ _ _ _ e=>by cases e) (fun _ _ _ _ e=>by cases e) (fun _ _ _ _ e=>by cases e) h1
  | fn F D=>exact skip (fun _ _ _ _ _ e=>by cases e) (fun _ _ _ _ _ _ _ _ e=>by cases e) (fun _ _ _ _ e=>by cases e) (fun _ _ _ _ e=>by cases e) h1
  | ow d d' =>
   cases d' with
   | none=>exact skip (fun _ _ _ _ _ e=>by cases e) (fun _ _ _ _ _ _ _ _ e=>by cases e) (fun _ _ _ _ e=>by cases e) (fun _ _ _ _ e=>by cases e) h1
   | some d' =>
    obtain ⟨⟨X,rfl⟩,hp2⟩:=hp
    have hb:behA n (.h X 0 :: avs) (.ow d (some d') :: azz)=(((X,some (.own n d')) :: (behA (n+1) avs azz).1),(behA (n+1) avs azz).2):=rfl
    rw [hb] at hn ⊢
    have hle:=Gl avs azz (n+1)
    have hnn:=hn n (Nat.le_refl _) hle
    have hXd:dom X:=hw.1
    have hXk:X∈Yi (.h X 0 :: avs) (.ow d (some d') :: azz):=by simp [Yi,Vu]
    have ho:OwV w d' (β X 0) f1:=h1
    rw [List.append_assoc] at H
    have H2:=H.add X (.own n d') (β X) (fun i=>dom i∨i=n) rfl (hk0 X hXk).1 (fun _=>rfl) (H.rel.one X hXd) (fun _ h=>.inl h) (.inl hXd) ⟨.inr rfl,by rw [Qg,Qg]; exact ho⟩ (fun V d e=>by cases e; exact hnn)
    rw [Gj] at H2
    have hXks:X ∉ Yi avs azz:=by
     have:(X :: Yi avs azz).Nodup:=hk
     exact (List.nodup_cons.1 this).1
    obtain ⟨β',φ',dom',k1,k2⟩:=Gm avs azz (n+1) _ β (up φ X f1) (fun i=>dom i∨i=n) g L H2 (fun id h h' hd=>by
     rcases hd with hd | rfl
     ·exact hn id (by omega) h' hd
     ·omega) (PairsOK.congr (fun _ h=>⟨.inl h,rfl⟩) hp2 hw.2) (AVs.wf_mono (fun _ h=>.inl h) _ hw.2) h2 (List.nodup_cons.1 (show (X :: Yi avs azz).Nodup from hk)).2 (fun k hkk=>by
     have hne:k≠X:=fun e=>hXks (e ▸ hkk)
     rw [Uw,if_neg hne]
     have:=hk0 k (List.mem_cons_of_mem X hkk)
     exact ⟨this.1,.inl this.2⟩)
    exact ⟨β',φ',dom',k1,⟨by omega,fun id h=>k2.old id (.inl h),fun id h=>by
     rcases k2.new id h with (h | rfl) | h
     ·exact .inl h
     ·exact .inr ⟨Nat.le_refl _,hle⟩
     ·exact .inr ⟨by omega,h.2⟩⟩⟩
  | og ds ds' =>
   obtain ⟨⟨cs,rfl⟩,hp2⟩:=hp
   have hb:behA n (.ag cs :: avs) (.og ds ds' :: azz)=((ogB n cs ds').1++(behA (ogB n cs ds').2 avs azz).1,(behA (ogB n cs ds').2 avs azz).2):=rfl
   rw [hb] at hn ⊢
   have hle:=Gl avs azz (ogB n cs ds').2
   have hle0:=Pi cs ds' n
   have hks:(ogK cs++Yi avs azz).Nodup:=hk
   have hk0':∀ k∈ogK cs++Yi avs azz,fs k=none∧dom k:=hk0
   obtain ⟨n1,n2,n3⟩:=List.nodup_append.1 hks
   obtain ⟨vs,e1,e2⟩:=h1
   have e1':vals β cs=vs:=by
    have:Value.agg (vals β cs).toArray=.agg vs.toArray:=e1
    simpa using this
   subst e1'
   rw [List.append_assoc] at H
   obtain ⟨φ1,dom1,k1,k2⟩:=Qnv cs ds' n fs φ dom f1 (g++L) H (fun id h h'=>hn id h (Nat.lt_of_lt_of_le h' hle)) hw.1 e2 n1 fun k hkk=>hk0' k (List.mem_append_left _ hkk)
   obtain ⟨β',φ',dom',m1,m2⟩:=Gm avs azz (ogB n cs ds').2 _ β φ1 dom1 g L k1 (fun id h h' hd=>by
    rcases k2.new id hd with h3 | h3
    ·exact hn id (Nat.le_trans hle0 h) h' h3
    ·omega) (PairsOK.congr (fun i h=>k2.old i h) hp2 hw.2) (AVs.wf_mono (fun i h=>(k2.old i h).1) _ hw.2) h2 n2 (fun k hkk=>by
    obtain ⟨hk1,hdk⟩:=hk0' k (List.mem_append_right _ hkk)
    rw [Zk _ _ _ fun p hp e=>n3 p.1 (Mo cs ds' n p hp) k hkk e]
    exact ⟨hk1,(k2.old k hdk).1⟩)
   refine ⟨β',φ',dom',?_,k2.trans m2⟩
   rw [Zz]
   exact m1
  | pt T ds ds' =>
   obtain ⟨⟨X,rfl,b0,hb0⟩,hp2⟩:=hp
   have hb:behA n (.p X 0 :: avs) (.pt T ds ds' :: azz)=((Qp n ds').2.1++(X,some (.box T (Qp n ds').1)) :: (behA (Qp n ds').2.2 avs azz).1,(behA (Qp n ds').2.2 avs azz).2):=rfl
   rw [hb] at hn ⊢
   have hle:=Gl avs azz (Qp n ds').2.2
   have hle0:=Uk ds' n
   have hXd:dom X:=hw.1
   have hXk:X∈Yi (.p X 0 :: avs) (.pt T ds ds' :: azz):=by simp [Yi,Vu]
   have hks:(X :: Yi avs azz).Nodup:=hk
   have hXks:=(List.nodup_cons.1 hks).1
   obtain ⟨b,vs,f2,e1,e2,e3,rfl⟩:=h1
   have hnd:=H.loose.1
   have H1:RL P fs β φ dom ψ IN w0 w (f2++(b :: (g++L))):=H.re (by
    refine (List.Perm.nodup_iff ?_).1 hnd
    simp only [List.cons_append,List.append_assoc]
    exact List.perm_middle.symm) (fun x hx=>by
    simp only [List.mem_append,List.mem_cons] at hx ⊢
    rcases hx with h | h | h | h
    ·exact .inl (.inl (.inr h))
    ·exact .inl (.inl (.inl h))
    ·exact .inl (.inr h)
    ·exact .inr h)
   obtain ⟨β1,φ1,dom1,k1,k2,k3,k4,k5⟩:=Zb ds' n fs β φ dom vs f2 _ H1 (fun id h h'=>hn id h (Nat.lt_of_lt_of_le h' hle)) e3
   obtain ⟨hX1,hβX⟩:=k2.old X hXd
   have hptr:β1 X 0=.pointer (some ⟨b,0,none⟩):=by
    rw [hβX]
    have:padd (β X 0) 0=.pointer (some ⟨b,0,none⟩):=e1
    rw [hb0] at this ⊢
    simpa [padd] using this
   have hX0:Ud fs (Qp n ds').2.1 X=none:=by
    rw [Zk _ _ _ fun p hp e=>?_]
    ·exact (hk0 X hXk).1
    ·have:=Uz ds' n p hp
     exact hn p.1 this.1 (Nat.lt_of_lt_of_le this.2 hle) (e ▸ hXd)
   have H2:=RL.add (f:=[b]) (L:=g++L) k1 X (.box T (Qp n ds').1) (β1 X) dom1 rfl hX0 (fun _=>rfl) (k1.rel.one X hX1) (fun _ h=>h) hX1 ⟨⟨k4,k5⟩,b,by rw [Qg]; exact hptr,by rw [Gj,k3]; exact e2,Qg _ _ _⟩ (fun V d e=>by cases e)
   rw [Gj] at H2
   obtain ⟨β',φ',dom',m1,m2⟩:=Gm avs azz (Qp n ds').2.2 _ β1 (up φ1 X [b]) dom1 g L H2 (fun id h h' hd=>by
    rcases k2.new id hd with h3 | h3
    ·exact hn id (Nat.le_trans hle0 h) h' h3
    ·omega) (PairsOK.congr (fun i h=>k2.old i h) hp2 hw.2) (AVs.wf_mono (fun i h=>(k2.old i h).1) _ hw.2) (by rw [Uq (β:=β) (dom:=dom) (fun i h=>(k2.old i h).2) _ hw.2]; exact h2) (List.nodup_cons.1 hks).2 (fun k hkk=>by
    have hne:k≠X:=fun e=>hXks (e ▸ hkk)
    obtain ⟨hk1,hdk⟩:=hk0 k (List.mem_cons_of_mem X hkk)
    rw [Uw,if_neg hne,Zk _ _ _ fun p hp e=>?_]
    ·exact ⟨hk1,(k2.old k hdk).1⟩
    ·have:=Uz ds' n p hp
     exact hn p.1 this.1 (Nat.lt_of_lt_of_le this.2 hle) (e ▸ hdk))
   refine ⟨β',φ',dom',?_,k2.trans m2⟩
   rw [Zz]
   exact m1
  | ptg gi T x0 d0 ds ds' =>
   obtain ⟨⟨X,rfl,⟨b0,hb0⟩,hgd,hgx,hgo⟩,hp2⟩:=hp
   have hb:behA n (.p X 0 :: avs) (.ptg gi T x0 d0 ds ds' :: azz)=((Qp n ds').2.1++(X,some (.box T (.h gi 0 :: (Qp n ds').1))) :: (behA (Qp n ds').2.2 avs azz).1,(behA (Qp n ds').2.2 avs azz).2):=rfl
   rw [hb] at hn ⊢
   have hle:=Gl avs azz (Qp n ds').2.2
   have hle0:=Uk ds' n
   have hXd:dom X:=hw.1
   have hXk:X∈Yi (.p X 0 :: avs) (.ptg gi T x0 d0 ds ds' :: azz):=by simp [Yi,Vu]
   have hks:(X :: Yi avs azz).Nodup:=hk
   have hXks:=(List.nodup_cons.1 hks).1
   obtain ⟨b,vs,f2,e1,e2,e3,rfl⟩:=h1
   have hnd:=H.loose.1
   have H1:RL P fs β φ dom ψ IN w0 w (f2++(b :: (g++L))):=H.re (by
    refine (List.Perm.nodup_iff ?_).1 hnd
    simp only [List.cons_append,List.append_assoc]
    exact List.perm_middle.symm) (fun x hx=>by
    simp only [List.mem_append,List.mem_cons] at hx ⊢
    rcases hx with h | h | h | h
    ·exact .inl (.inl (.inr h))
    ·exact .inl (.inl (.inl h))
    ·exact .inl (.inr h)
    ·exact .inr h)
   obtain ⟨β1,φ1,dom1,k1,k2,k3,k4,k5⟩:=Zb ds' n fs β φ dom vs f2 _ H1 (fun id h h'=>hn id h (Nat.lt_of_lt_of_le h' hle)) e3
   obtain ⟨hX1,hβX⟩:=k2.old X hXd
   have hptr:β1 X 0=.pointer (some ⟨b,0,none⟩):=by
    rw [hβX]
    have:padd (β X 0) 0=.pointer (some ⟨b,0,none⟩):=e1
    rw [hb0] at this ⊢
    simpa [padd] using this
   have hX0:Ud fs (Qp n ds').2.1 X=none:=by
    rw [Zk _ _ _ fun p hp e=>?_]
    ·exact (hk0 X hXk).1
    ·have:=Uz ds' n p hp
     exact hn p.1 this.1 (Nat.lt_of_lt_of_le this.2 hle) (e ▸ hXd)
   have hgb:β1 gi 0=x0:=by rw [(k2.old gi hgd).2]; exact hgx
   have H2:=RL.add (f:=[b]) (L:=g++L) k1 X (.box T (.h gi 0 :: (Qp n ds').1)) (β1 X) dom1 rfl hX0 (fun _=>rfl) (k1.rel.one X hX1) (fun _ h=>h) hX1 ⟨⟨⟨(k2.old gi hgd).1,k4⟩,by simp [AV.one,k5]⟩,b,by rw [Qg]; exact hptr,by rw [Gj]; simp only [vals,val,hgb,k3]; exact e2,Qg _ _ _⟩ (fun V d e=>by cases e)
   rw [Gj] at H2
   obtain ⟨β',φ',dom',m1,m2⟩:=Gm avs azz (Qp n ds').2.2 _ β1 (up φ1 X [b]) dom1 g L H2 (fun id h h' hd=>by
    rcases k2.new id hd with h3 | h3
    ·exact hn id (Nat.le_trans hle0 h) h' h3
    ·omega) (PairsOK.congr (fun i h=>k2.old i h) hp2 hw.2) (AVs.wf_mono (fun i h=>(k2.old i h).1) _ hw.2) (by rw [Uq (β:=β) (dom:=dom) (fun i h=>(k2.old i h).2) _ hw.2]; exact h2) (List.nodup_cons.1 hks).2 (fun k hkk=>by
    have hne:k≠X:=fun e=>hXks (e ▸ hkk)
    obtain ⟨hk1,hdk⟩:=hk0 k (List.mem_cons_of_mem X hkk)
    rw [Uw,if_neg hne,Zk _ _ _ fun p hp e=>?_]
    ·exact ⟨hk1,(k2.old k hdk).1⟩
    ·have:=Uz ds' n p hp
     exact hn p.1 this.1 (Nat.lt_of_lt_of_le this.2 hle) (e ▸ hdk))
   refine ⟨β',φ',dom',?_,k2.trans m2⟩
   rw [Zz]
   exact m1
theorem Uap (R:Rel P fsA β φ dom ψ IN w0 w) (hb:∀ id,base≤id→id<base+Qs→¬ dom id) (hsub:∀ id f,fs id=some f→fsA id=some f) {hf:Option (FnH P)} {f:FuncId} {sp:Spec} {D:Bool} (hD:D=false→w0.drawn=0) (hsp:sp.ok P f D) {args:List AV} {r:OpR} (h:Quv P fs hf base sp args=some r) (hv:AllP r.vcs)
  {run:Result Next} (hrun:run=.ok (.enter f (vals β args).toArray) w):Snd P fsA base r β φ dom ψ IN w0 run:=by
 unfold Quv at h
 split at h
 ·rename_i m hm
  cases hcc:(Wl m.cons&&m.reads.all (fun x=>!(m.cons.any (Nat.beq x)))&&Nat.ble (behA (resA base sp.res).2.2 args sp.args).2 (base+Qs)) with
  | false=>rw [hcc] at h; cases h
  | true =>
   rw [hcc] at h
   cases h
   simp only [Bool.and_eq_true] at hcc
   obtain ⟨⟨c1,c2⟩,c3⟩:=hcc
   have c1:=Wv c1
   have c3:=Nat.le_of_ble_eq_true c3
   have c2:∀ X∈m.reads,X ∉ m.cons:=fun X hX hXc=>by
    have:=List.all_eq_true.1 c2 X hX
    have h2:m.cons.any (Nat.beq X)=true:=List.any_eq_true.2 ⟨X,hXc,by simp⟩
    rw [h2] at this; cases this
   have hC:=Ht hsub R hm
   obtain ⟨fp,k1,k2,k3,k4,k5,k6⟩:=Qjk R hsub hC hm hv.2 c2 c1
   have hle1:=Ta sp.res base
   have hle2:=Gl args sp.args (resA base sp.res).2.2
   rw [hrun]
   refine Calls.mono (hsp hv.1 (Outs φ w m.cons) w _ fp (fun b hb=>⟨hb.1,fun hbf=>?_⟩) (R.gloOuts hC) k1) fun e w' ⟨rv,fr,fb,e1,e2,e3,e4,e5,e6⟩=>⟨rv,e1,?_⟩
   ·obtain ⟨i,hi,hbi⟩:=(k2 b).1 hbf
    exact hb.2 i hi hbi
   have hlk:∀ j,Ud fsA (m.cons.map fun i=>(i,none)) j=if j∈m.cons then none else fsA j:=fun j=>Hy fsA m.cons j
   have R1:Rel P (Ud fsA (m.cons.map fun i=>(i,none))) β φ dom ψ IN w0 w':=by
    refine R.step0 (NN:=(·∈m.cons)) (C:=(·∈fp)) e6.ofD (dr_le hD R.chg.drawn e6.drawn) (fun _ h=>⟨h,rfl⟩) R.all1 (fun id g hg=>?_) (fun _ _=>rfl) (fun b _ hb=>?_) (fun id g hn hg=>?_) (fun id V d hn hg=>?_) (fun id g hn hg=>?_) (fun i j g g' hi hj hg=>?_)
    ·rw [hlk] at hg
     by_cases hi:id∈m.cons
     ·exact .inl hi
     ·rw [if_neg hi] at hg; exact .inr hg
    ·obtain ⟨i,hi,hbi⟩:=(k2 b).1 hb
     obtain ⟨g,g1,g2⟩:=hC i hi
     exact ⟨i,g,hi,g1,g2,hbi⟩
    all_goals (rw [hlk,if_pos (by assumption)] at hg; cases hg)
   have hL:RL P (Ud fsA (m.cons.map fun i=>(i,none))) β φ dom ψ IN w0 w' (fr++fb):=⟨R1,e4,fun b hb=>by
    obtain ⟨h1,h2⟩:=e5 b hb
    refine ⟨h1,?_⟩
    rcases h2 with h2 | h2
    ·obtain ⟨i,hi,hbi⟩:=(k2 b).1 h2
     obtain ⟨g,g1,g2⟩:=hC i hi
     obtain ⟨_,q1,q2⟩:=R.lt i g g1 g2 b hbi
     refine ⟨q1,q2,fun id g' hg' hm' hbid=>?_⟩
     rw [hlk] at hg'
     by_cases hid:id∈m.cons
     ·rw [if_pos hid] at hg'; cases hg'
     ·rw [if_neg hid] at hg'
      exact R.dis i id g g' g1 hg' g2 hm' (fun e=>hid (e ▸ hi)) b hbi hbid
    ·refine ⟨.inl (Nat.le_trans R.chg.size h2),fun hp=>by have:=R.psi b hp; omega,fun id g' hg' hm' hbid=>?_⟩
     rw [hlk] at hg'
     by_cases hid:id∈m.cons
     ·rw [if_pos hid] at hg'; cases hg'
     ·rw [if_neg hid] at hg'
      have:=(R.lt id g' hg' hm' b hbid).1
      omega⟩
   obtain ⟨β1,φ1,dom1,q1,q2,q3,q4⟩:=Qrn sp.res base _ β φ dom rv fr fb hL (fun id h h'=>hb id h (by omega)) e2
   have hkdom:∀ k∈Yi args sp.args,k∈m.cons:=fun k hk=>k6.subset hk
   have hcd:∀ k∈m.cons,dom k:=fun k hk=>by obtain ⟨g,g1,_⟩:=hC k hk; exact (R.ok k g g1).1
   have hk0:∀ k∈Yi args sp.args,Ud (Ud fsA (m.cons.map fun i=>(i,none))) (resA base sp.res).2.1 k=none:=fun k hk=>by
    have hne:∀ p∈(resA base sp.res).2.1,p.1≠k:=fun p hp e=>by
     have:=Qfp sp.res base p hp
     exact hb p.1 this.1 (by omega) (e ▸ hcd k (hkdom k hk))
    rw [Zk _ _ _ hne,hlk,if_pos (hkdom k hk)]
   obtain ⟨β2,φ2,dom2,s1,s2⟩:=Gm args sp.args (resA base sp.res).2.2 _ β1 φ1 dom1 fb [] (by rw [List.append_nil]; exact q1) (fun id h h' hd=>by
    rcases q2.new id hd with h3 | h3
    ·exact hb id (by omega) (by omega) h3
    ·omega) (PairsOK.congr (fun i h=>q2.old i h) k4 k3) (AVs.wf_mono (fun i h=>(q2.old i h).1) _ k3) (by rw [Uq (β:=β) (dom:=dom) (fun i h=>(q2.old i h).2) _ k3]; exact e3) (c1.sublist k6) (fun k hk=>⟨hk0 k hk,(q2.old k (hcd k (hkdom k hk))).1⟩)
   ·refine ⟨β2,φ2,dom2,?_,AV.wf_mono (fun i h=>(s2.old i h).1) _ q4,fun id h=>(q2.trans s2).old id h,fun id h=>?_,?_⟩
    ·rw [Wz (dom:=dom1) (fun i h=>(s2.old i h).2) _ q4,q3]
    ·rcases (q2.trans s2).new id h with h | h
     ·exact .inl h
     ·exact .inr ⟨h.1,by omega⟩
    ·rw [Zz,Zz]
     exact s1.rel
 ·cases h
end
def Ubb (fs:Nat→Option Fact) (base:Nat) (sp:Spec) (args:List AV) (dX':Dat):Option OpR:=none
section
variable {P:Program} {fs fsA:Nat→Option Fact} {β:Nat→Nat→Value} {φ:Nat→List Nat} {dom ψ IN:Nat→Prop} {w0 w w':World} {base:Nat}
theorem Qjr {cells C:List Value} {o sz:Nat} (h:(cells.drop o).take sz=C) (hl:C.length=sz):Ue cells o C=cells:=by
 unfold Ue
 rw [hl,← h]
 rw [← List.drop_drop,List.append_assoc,List.take_append_drop,List.take_append_drop]
def Qkq:AV→Option (Bool×Nat×Nat)
 | .h id (j+1)=>some (true,id,j)
 | .ag [.h id (j+1)]=>some (false,id,j)
 | _=>none
def Pc:Bool→AV→AV
 | true,a=>a
 | false,a=>.ag [a]
theorem Qtq {a:AV} {o:Bool} {id j:Nat} (h:Qkq a=some (o,id,j)):a=Pc o (.h id (j+1)):=by
 unfold Qkq at h
 split at h <;> first | (cases h; rfl) | cases h
def Qux (P:Program) (fs:Nat→Option Fact) (base:Nat) (T:TypeId) (a:AV) (d':Dat):Option OpR :=
 match Ew P fs T a with
 | some r0=>(match Qkq r0.av with
  | some (o1,id,j)=>(match fs id with
   | some (.mem (some (X,V)) (some (Y,0,k)) ds)=>(match fs X,ds[j]? with
    | some (.own V' d),some dj=>bif Nat.beq V V'&&!(Nat.beq X base)&&Nat.beq Y X then some ⟨[SetOK d k ds (ds.take j++(.any :: ds.drop (j+1))) d'],Pc o1 (.h base 0),[(X,some (.own (base+1) d')),(base,some (.own base dj))]⟩ else none
    | _,_=>none)
   | _=>none)
  | _=>none)
 | none=>none
theorem Qzk (R:Rel P fsA β φ dom ψ IN w0 w) (hb:∀ id,base≤id→id<base+Qs→¬ dom id) (hsub:∀ id f,fs id=some f→fsA id=some f) {T:TypeId} {a:AV} {d':Dat} {r:OpR} (h:Qux P fs base T a d'=some r) (hv:AllP r.vcs) :
  Snd P fsA base r β φ dom ψ IN w0 ((do pure (Next.value (← Instr.loadAt T (val β a))):Sem Next).run P w):=by
 have hnb:¬ dom base:=hb base (Nat.le_refl _) (by unfold Qs; omega)
 have hnb1:¬ dom (base+1):=hb (base+1) (by omega) (by unfold Qs; omega)
 unfold Qux at h
 split at h
 ·rename_i r0 hl
  obtain ⟨l1,l2,_,_⟩:=Mt R hsub hl
  split at h
  ·rename_i o1 id j hav
   rw [Qtq hav] at l1 l2
   split at h
   ·rename_i X V Y k ds hf
    split at h
    ·rename_i V' d dj hX hj
     cases hcc:(Nat.beq V V'&&!(Nat.beq X base)&&Nat.beq Y X) with
     | false=>rw [hcc] at h; cases h
     | true =>
      rw [hcc] at h
      cases h
      simp only [Bool.and_eq_true] at hcc
      have c4:=(Nat.eq_of_beq_eq_true hcc.2).symm
      subst c4
      have hcc:=hcc.1
      have c1:=Nat.eq_of_beq_eq_true hcc.1
      subst c1
      obtain ⟨⟨α,inst,sz,enc,xs,α',inst',enc',ys,rfl,rfl,hyl,hold,hex,himps⟩,_⟩:=hv
      obtain ⟨hdid,hdX,hdV,hmem⟩:=R.ok id _ (hsub _ _ hf)
      obtain ⟨⟨b,o,m1,m2,m3,m4⟩,m5⟩:=hmem ⟨_,hsub _ _ hX⟩
      obtain ⟨_,b2,o2,nn,c,e1,e2,e3⟩:=m5 _ _ k rfl
      rw [m1] at e2
      simp only [Value.pointer.injEq,Option.some.injEq,Addr.mk.injEq,and_true] at e2
      obtain ⟨rfl,rfl⟩:=e2
      obtain ⟨_,_,how⟩:=R.ok X _ (hsub _ _ hX)
      have how':=how
      obtain ⟨a',c',f1,f2,f3,f4⟩:=how'
      rw [e1] at f1
      simp only [Value.slice.injEq] at f1
      obtain ⟨rfl,rfl,rfl⟩:=f1
      rcases f4 with ⟨_,hxs,_⟩ | ⟨bb,oo,T0,cells,fps,q1,q2,q3,q4,q5,q6,q7⟩
      ·rw [hxs] at e3; simp at e3
      simp only [Option.some.injEq,Addr.mk.injEq,and_true] at q1
      obtain ⟨rfl,rfl⟩:=q1
      have hxk:xs[k]?=some (xs.getD k default):=by rw [List.getD_eq_getElem?_getD,List.getElem?_eq_getElem e3]; rfl
      have hfk:fps[k]?=some (fps[k]'(by omega)):=List.getElem?_eq_getElem _
      obtain ⟨p1,p2⟩:=q5 k _ _ hxk hfk
      rw [hold] at p2
      have hdsl:ds.length=sz:=by rw [← p2.len]; exact p1
      rw [hdsl] at m1 m3
      have hcl:o2+k*sz+sz≤cells.length:=by
       rw [q3,Nat.add_assoc,← Nat.succ_mul]
       exact Nat.add_le_add_left (Nat.mul_le_mul_right _ (by omega)) _
      have hjl:j<ds.length:=(List.getElem?_eq_some_iff.1 hj).1
      have hcell:((cells.drop (o2+k*sz)).take sz)[j]?=some (β id (j+1)):=by
       have h1:=m3 j (β id (j+1)) (bv_at (by omega))
       have h2:((cells.drop (o2+k*sz)).take sz)[j]?=some (((cells.drop (o2+k*sz)).take sz)[j]'(by rw [p1]; omega)):=List.getElem?_eq_getElem _
       rw [h2]
       have h3:=q2.has (o2+k*sz) ((cells.drop (o2+k*sz)).take sz) (by rw [p1]) j _ h2
       rw [h1] at h3
       exact h3.symm ▸ rfl
      generalize hC:(cells.drop (o2+k*sz)).take sz=C at p1 p2 hcell
      generalize hF:fps[k]'(by omega)=F at hfk p2
      have hsp1:ds=ds.take j++ds.drop j:=(List.take_append_drop j ds).symm
      rw [hsp1] at p2
      obtain ⟨us,ws,F1,F2,rfl,rfl,r1,r2,rnd⟩:=OwVs.unapp _ p2
      have hdj:ds.drop j=dj :: ds.drop (j+1):=by
       rw [List.drop_eq_getElem_cons hjl]
       congr 1
       exact (List.getElem?_eq_some_iff.1 hj).2
      rw [hdj] at r2
      obtain ⟨v,ws,F3,F4,rfl,r3,r4,rfl,rnd2⟩:=r2
      have hul:us.length=j:=by rw [r1.len]; simp; omega
      have hvv:v=β id (j+1):=by
       rw [List.getElem?_append_right (by omega),hul,Nat.sub_self] at hcell
       simpa using hcell
      obtain ⟨nd1,nd2,nd3⟩:=List.nodup_append.1 rnd
      obtain ⟨nd4,nd5,nd6⟩:=List.nodup_append.1 rnd2
      have hFX:∀ b'∈F1++(F3++F4),b'∈φ X:=fun b' hb'=>by
       rw [q6]
       exact List.mem_cons_of_mem _ (List.mem_flatten.2 ⟨_,List.mem_of_getElem? hfk,hb'⟩)
      have hel':OwVs w (enc' (ys.getD k default)) (us++v :: ws) (F1++([]++F4)):=by
       refine (hex e3).ow (r1.app ⟨v,ws,[],F4,rfl,⟨r3.rd.one,rfl⟩,r4,rfl,by simpa using nd5⟩ fun b' hb' hb2=>?_)
       exact nd3 b' hb' b' (List.mem_append_right _ (by simpa using hb2)) rfl
      rw [q6] at q7
      obtain ⟨hbn,hfn⟩:=List.nodup_cons.1 q7
      have hp2:=(List.pairwise_flatten.1 hfn).2
      have hpk:∀ (i:Nat) (g:List Nat),i≠k→fps[i]?=some g→∀ b'∈g,b' ∉ F1++(F3++F4):=by
       intro i g hik hg b' hbg hbF
       rcases Nat.lt_or_gt_of_ne hik with hlt | hgt
       ·exact (List.pairwise_iff_getElem.1 hp2) i k (List.getElem?_eq_some_iff.1 hg).1 (by omega) hlt b' (by rw [(List.getElem?_eq_some_iff.1 hg).2]; exact hbg) b' (by rw [hF]; exact hbF) rfl
       ·exact (List.pairwise_iff_getElem.1 hp2) k i (by omega) (List.getElem?_eq_some_iff.1 hg).1 hgt b' (by rw [hF]; exact hbF) b' (by rw [(List.getElem?_eq_some_iff.1 hg).2]; exact hbg) rfl
      have hbF:b ∉ F1++(F3++F4):=fun hbm=>hbn (List.mem_flatten.2 ⟨_,List.mem_of_getElem? hfk,hbm⟩)
      have hsubF:∀ b'∈F1++([]++F4),b'∈F1++(F3++F4):=fun b' hb'=>by
       rcases List.mem_append.1 hb' with h | h
       ·exact List.mem_append_left _ h
       ·exact List.mem_append_right _ (List.mem_append_right _ (by simpa using h))
      have hset:=OwV.set (w:=w) (w':=w) (enc:=enc) (enc':=enc') (ys:=ys) (f:=F1++([]++F4)) (nc:=us++v :: ws) hyl himps f2 f3 q2 q3 q4 (fun i x f _=>q5 i x f) q7 e3 hel' p1
       (fun hbm=>hbF (hsubF _ hbm)) (fun b' hb' i g hik hg hbg=>hpk i g hik hg b' hbg (hsubF _ hb')) (Chg.of_below (Bel.refl _ _)) (by rw [Qjr hC p1]; exact q2)
      have hnewX:∀ b'∈b :: (fps.set k (F1++([]++F4))).flatten,b'∈φ X∧b' ∉ F3:=fun b' hb'=>by
       rcases List.mem_cons.1 hb' with rfl | hb'
       ·exact ⟨by rw [q6]; exact List.mem_cons_self,fun h3=>hbF (List.mem_append_right _ (List.mem_append_left _ h3))⟩
       ·obtain ⟨g,hg,hag⟩:=List.mem_flatten.1 hb'
        obtain ⟨i,hi⟩:=List.mem_iff_getElem?.1 hg
        by_cases hik:i=k
        ·subst hik
         rw [List.getElem?_set_self (by omega)] at hi
         cases hi
         refine ⟨hFX _ (hsubF _ hag),fun h3=>?_⟩
         rcases List.mem_append.1 hag with h | h
         ·exact nd3 b' h b' (List.mem_append_left _ h3) rfl
         ·exact nd6 b' h3 b' (by simpa using h) rfl
        ·rw [List.getElem?_set_ne (Ne.symm hik)] at hi
         exact ⟨by rw [q6]; exact List.mem_cons_of_mem _ (List.mem_flatten.2 ⟨g,List.mem_of_getElem? hi,hag⟩),fun h3=>hpk i g hik hi b' hag (List.mem_append_right _ (List.mem_append_left _ h3))⟩
      have hXb:X≠base:=fun e=>hnb (e ▸ hdX)
      let fpX:=b :: (fps.set k (F1++([]++F4))).flatten
      let φ':Nat→List Nat:=fun i=>if i=base then F3 else if i=X then fpX else φ i
      let β':Nat→Nat→Value:=up β base (fun _=>β id (j+1))
      have hlk:∀ i,Ud fsA [(X,some (.own (base+1) (.l sz enc' ys))),(base,some (.own base dj))] i=if i=base then some (.own base dj) else if i=X then some (.own (base+1) (.l sz enc' ys)) else fsA i:=fun i=>by
       simp only [Ud,Uw]
      have hφb:φ' base=F3:=if_pos rfl
      have hφX:φ' X=fpX:=by show (if X=base then F3 else if X=X then fpX else φ X)=fpX; rw [if_neg hXb,if_pos rfl]
      have hβX:β' X=β X:=Um _ _ _ hXb
      have hrun:(do pure (Next.value (← Instr.loadAt T (val β a))):Sem Next).run P w=.ok (.value (val β (Pc o1 (.h id (j+1))))) w:=by simp [l1]
      rw [hrun]
      have hb0:β' base 0=β id (j+1):=congrFun (Qg β base fun _=>β id (j+1)) 0
      refine ⟨β',φ',fun i=>dom i∨i=base∨i=base+1,?_,?_,fun i h=>⟨.inl h,Um _ _ _ fun e=>hnb (e ▸ h)⟩,fun i h=>?_,?_⟩
      ·show val β (Pc o1 (.h id (j+1)))=val β' (Pc o1 (.h base 0))
       cases o1 <;> simp only [Pc,val,vals,hb0]
      ·cases o1
       ·exact ⟨.inr (.inl rfl),trivial⟩
       ·exact .inr (.inl rfl)
      ·rcases h with h | rfl | rfl
       ·exact .inl h
       ·exact .inr ⟨Nat.le_refl _,by unfold Qs; omega⟩
       ·exact .inr ⟨by omega,by unfold Qs; omega⟩
      ·refine R.step (NN:=fun i=>i=X∨i=base) (C:=fun _=>False) (Chg.of_below (Bel.refl _ _)) (fun i h=>⟨.inl h,Um _ _ _ fun e=>hnb (e ▸ h)⟩) (fun i q=>?_) (fun i g hg=>?_) (fun i hn=>?_) (fun _ _ h=>h.elim) (fun i g hn hg=>?_) (fun i V0 d0 hn hg=>?_) (fun i g hn hg hm b' hb'=>?_) (fun i1 i2 g g' hi hj2 hg hg' _ _ hne b' hb1 hb2=>?_)
       ·by_cases hi:i=base
        ·subst hi
         show (up β i (fun _=>β id (j+1)) i q).oneCell'=true
         rw [Qg]; exact R.all1 _ _
        ·show (up β base (fun _=>β id (j+1)) i q).oneCell'=true
         rw [Um _ _ _ hi]; exact R.all1 _ _
       ·rw [hlk] at hg
        by_cases h1:i=base
        ·exact .inl (.inr h1)
        ·by_cases h2:i=X
         ·exact .inl (.inl h2)
         ·rw [if_neg h1,if_neg h2] at hg; exact .inr hg
       ·show (if i=base then F3 else if i=X then fpX else φ i)=φ i
        rw [if_neg fun e=>hn (.inr e),if_neg fun e=>hn (.inl e)]
       ·rw [hlk] at hg
        rcases hn with rfl | rfl
        ·rw [if_neg hXb,if_pos rfl] at hg
         cases hg
         exact ⟨.inl hdX,.inr (.inr rfl),by rw [hφX,hβX,e1]; exact hset⟩
        ·rw [if_pos rfl] at hg
         cases hg
         refine ⟨.inr (.inl rfl),.inr (.inl rfl),?_⟩
         rw [hφb]
         show OwV w _ (up β _ (fun _=>β id (j+1)) _ 0) F3
         rw [Qg,← hvv]; exact r3
       ·rw [hlk] at hg
        rcases hn with rfl | rfl
        ·rw [if_neg hXb,if_pos rfl] at hg
         cases hg
         exact hnb1
        ·rw [if_pos rfl] at hg
         cases hg
         exact hnb
       ·have hXlt:∀ b'∈φ X,b'<w.heap.size:=fun b' hb'=>(R.lt X _ (hsub _ _ hX) rfl b' hb').1
        have hin:b'∈φ X:=by
         rcases hn with rfl | rfl
         ·rw [hφX] at hb'; exact (hnewX b' hb').1
         ·rw [hφb] at hb'; exact hFX b' (List.mem_append_right _ (List.mem_append_left _ hb'))
        exact ⟨hXlt b' hin,.inr ⟨X,_,.inl rfl,hsub _ _ hX,rfl,hin⟩⟩
       ·rcases hi with rfl | rfl
        ·rcases hj2 with rfl | rfl
         ·exact hne rfl
         ·rw [hφX] at hb1; rw [hφb] at hb2
          exact (hnewX b' hb1).2 hb2
        ·rcases hj2 with rfl | rfl
         ·rw [hφb] at hb1; rw [hφX] at hb2
          exact (hnewX b' hb2).2 hb1
         ·exact hne rfl
    ·cases h
   ·cases h
  ·cases h
 ·cases h
theorem Qso (R:Rel P fsA β φ dom ψ IN w0 w) (hb:∀ id,base≤id→id<base+Qs→¬ dom id) (hsub:∀ id f,fs id=some f→fsA id=some f) {f:FuncId} {sp:Spec} {D:Bool} (hD:D=false→w0.drawn=0) (hsp:sp.ok P f D) {args:List AV} {dX':Dat} {r:OpR} (h:Ubb fs base sp args dX'=some r) (hv:AllP r.vcs)
  {run:Result Next} (hrun:run=.ok (.enter f (vals β args).toArray) w):Snd P fsA base r β φ dom ψ IN w0 run:=by cases (show (none:Option OpR)=some r from h)
end
def Qsg (P:Program) (fs:Nat→Option Fact) (base:Nat) (T:TypeId) (a v:AV) (dj' dX':Dat):Option OpR:=none
section
variable {P:Program} {fs fsA:Nat→Option Fact} {β:Nat→Nat→Value} {φ:Nat→List Nat} {dom ψ IN:Nat→Prop} {w0 w w':World} {base:Nat}
theorem Qnm (R:Rel P fsA β φ dom ψ IN w0 w) (hb:∀ id,base≤id→id<base+Qs→¬ dom id) (hsub:∀ id f,fs id=some f→fsA id=some f) {T:TypeId} {a v:AV} {dj' dX':Dat} {r:OpR} (h:Qsg P fs base T a v dj' dX'=some r) (hv:AllP r.vcs)
  (hw:v.wf dom):Snd P fsA base r β φ dom ψ IN w0 ((do Instr.storeAt T (val β a) (val β v); pure Next.skip:Sem Next).run P w):=by cases (show (none:Option OpR)=some r from h)
end
abbrev ML (α:Type):=List (ByteArray×α)
def putM {α:Type}:ML α→ByteArray→α→ML α
 | [],s,x=>[(s,x)]
 | p :: m,s,x=>if p.1=s then (s,x) :: m else p :: putM m s x
def MEnt {α:Type} (f:α→Value) (l:List MapEntry) (m:ML α):Prop:=l.map (fun e=>(e.key,e.val))=m.map fun p=>(Value.string p.1,f p.2)
def MX {α:Type} (f:α→Value) (m:ML α):FX where
 rd S w y:=∃ r es clock,y=.map (some r)∧S r∧w.heap[r]?=some (.map es clock)∧MEnt f es.toList m
 ow w y fp:=∃ r es clock,y=.map (some r)∧fp=[r]∧w.heap[r]?=some (.map es clock)∧MEnt f es.toList m
 mono S S' w w' y hs h:=by
  obtain ⟨r,es,c,h1,h2,h3,h4⟩:=h
  exact ⟨r,es,c,h1,(hs r h2).1,(hs r h2).2.trans h3,h4⟩
 one S w y h:=by obtain ⟨r,es,c,rfl,_⟩:=h; rfl
 keep w w' y fp hk h:=by
  obtain ⟨r,es,c,h1,rfl,h3,h4⟩:=h
  exact ⟨r,es,c,h1,rfl,(hk r (List.mem_singleton.2 rfl)).trans h3,h4⟩
 lt w y fp h b hb:=by
  obtain ⟨r,es,c,h1,rfl,h3,h4⟩:=h
  obtain rfl:=List.mem_singleton.1 hb
  exact (Array.getElem?_eq_some_iff.1 h3).1
 nd w y fp h:=by
  obtain ⟨r,es,c,h1,rfl,h3,h4⟩:=h
  exact List.nodup_cons.2 ⟨List.not_mem_nil,List.nodup_nil⟩
 rdo w y fp h:=by
  obtain ⟨r,es,c,h1,rfl,h3,h4⟩:=h
  exact ⟨r,es,c,h1,List.mem_singleton.2 rfl,h3,h4⟩
section
variable {P:Program} {fs fsA:Nat→Option Fact} {β:Nat→Nat→Value} {φ:Nat→List Nat} {dom ψ IN:Nat→Prop} {w0 w w':World} {base:Nat}
def tMap (P:Program) (T:TypeId):Option TypeId:=match P.underlying T with
 | some (.map k e)=>(match P.underlying k with | some .string=>some e | _=>none)
 | _=>none
theorem Qot {T e:TypeId} (h:tMap P T=some e):∃ k,P.underlying T=some (.map k e)∧P.underlying k=some .string:=by
 unfold tMap at h
 split at h
 ·rename_i k e' hT
  split at h
  ·rename_i hk; cases h; exact ⟨k,hT,hk⟩
  ·cases h
 ·cases h
def fidx {α:Type}:ML α→ByteArray→Nat→Option (Nat×α)
 | [],_,_=>none
 | p :: m,s,i=>if p.1=s then some (i,p.2) else fidx m s (i+1)
theorem Qfh {α:Type}:∀ (m:ML α) (s:ByteArray) (i:Nat) (x:α),fidx m s i=none→putM m s x=m++[(s,x)]
 | [],_,_,_,_=>rfl
 | p :: m,s,i,x,h=>by
  simp only [fidx] at h
  by_cases e:p.1=s
  ·rw [if_pos e] at h; cases h
  ·rw [if_neg e] at h
   simp only [putM,if_neg e,List.cons_append]
   rw [Qfh m s (i+1) x h]
theorem Qfo {α:Type}:∀ (m:ML α) (s:ByteArray) (i j:Nat) (x y:α),fidx m s i=some (j,y)→∃ k,j=i+k∧putM m s x=m.set k (s,x)∧∃ y',m[k]?=some (s,y')
 | p :: m,s,i,j,x,y,h=>by
  simp only [fidx] at h
  by_cases e:p.1=s
  ·rw [if_pos e] at h
   cases h
   exact ⟨0,rfl,by simp only [putM,if_pos e,List.set_cons_zero],p.2,by subst e; rfl⟩
  ·rw [if_neg e] at h
   obtain ⟨k,h1,h2,y',h3⟩:=Qfo m s (i+1) j x y h
   exact ⟨k+1,by omega,by simp only [putM,if_neg e,List.set_cons_succ,h2],y',by simpa using h3⟩
theorem Rm {α:Type} {f:α→Value} {s:ByteArray}:∀ (l:List MapEntry) (m:ML α) (i:Nat),MEnt f l m→Instr.findNow .string (.string s) l i=some ((fidx m s i).map fun q=>(q.1,f q.2))
 | [],[],i,_=>rfl
 | e :: l,p :: m,i,h=>by
  simp only [MEnt,List.map_cons,List.cons.injEq,Prod.mk.injEq] at h
  obtain ⟨⟨h1,h2⟩,h3⟩:=h
  have hs:Instr.sameNow .string (.string s) e.key=some (s==p.1):=by rw [h1]; rfl
  by_cases e':p.1=s
  ·have:(s==p.1)=true:=(MapKept.bytes_beq s p.1).2 e'.symm
   simp only [Instr.findNow,hs,this,fidx,if_pos e',Option.map_some,h2]
  ·have:(s==p.1)=false:=Bool.eq_false_iff.2 fun x=>e' ((MapKept.bytes_beq s p.1).1 x).symm
   simp only [Instr.findNow,hs,this,fidx,if_neg e']
   exact Rm l m (i+1) h3
 | [],_ :: _,_,h=>by simp [MEnt] at h
 | _ :: _,[],_,h=>by simp [MEnt] at h
theorem Qdn {α:Type} {f:α→Value} {m:ML α} {T e:TypeId} {r clock:Nat} {es:Array MapEntry} {s:ByteArray} {x:α} (hT:tMap P T=some e) (hr:w.heap[r]?=some (.map es clock)) (hm:MEnt f es.toList m) :
  ∃ es' clock',(Instr.mapUpdate T (.map (some r)) (.string s) (f x)).run P w=.ok () { w with heap:=w.heap.setIfInBounds r (.map es' clock') }∧MEnt f es'.toList (putM m s x):=by
 obtain ⟨k,h1,h2⟩:=Qot hT
 have hf:=MapKept.run_findKey (w:=w) (P:=P) h2 (Rm (s:=s) es.toList m 0 hm)
 have hc:=MapKept.run_checkKey (w:=w) (P:=P) (k:=.string s) h2 trivial false 9999
 cases hx:fidx m s 0 with
 | none =>
  rw [hx] at hf
  refine ⟨es.push ⟨.string s,f x,clock⟩,clock+1,?_,?_⟩
  ·simp only [Option.map_none] at hf
   simp [Instr.mapUpdate,run_underlying h1,MapKept.run_getObj_map hr,hc,hf,MapKept.run_setObj_map _ hr]
  ·rw [Qfh m s 0 x hx]
   simp only [MEnt,Array.toList_push,List.map_append,List.map_cons,List.map_nil]
   rw [show List.map (fun e=>(e.key,e.val)) es.toList=_ from hm]
 | some q =>
  obtain ⟨j,y⟩:=q
  rw [hx] at hf
  obtain ⟨j',hj,h3,y',h4⟩:=Qfo m s 0 j x y hx
  obtain rfl:j'=j:=by omega
  have hlen:es.toList.length=m.length:=by have:=congrArg List.length hm; simpa using this
  have hlt:j'<m.length:=(List.getElem?_eq_some_iff.1 h4).1
  have hej:∃ e0,es[j']?=some e0∧e0.key=.string s:=by
   have hl:j'<es.size:=by rw [← Array.length_toList]; omega
   refine ⟨es[j'],Array.getElem?_eq_getElem hl,?_⟩
   have:=congrArg (fun l=>l[j']?) hm
   simp only [List.getElem?_map,h4,Option.map_some,Array.getElem?_toList,Array.getElem?_eq_getElem hl,Option.some.injEq,Prod.mk.injEq] at this
   exact this.1
  obtain ⟨e0,he0,hk0⟩:=hej
  refine ⟨es.modify j' fun e=>{ e with key:=.string s,val:=f x },clock,?_,?_⟩
  ·simp only [Option.map_some] at hf
   have hst:(Instr.keyThatStays (.string s) (.string s)).run P w=.ok (.string s) w:=by
    have:Instr.sameBits 10000 (.string s) (.string s)=true:=by
     show (s==s)=true
     exact (MapKept.bytes_beq s s).2 rfl
    simp [Instr.keyThatStays,this]
   simp [Instr.mapUpdate,run_underlying h1,MapKept.run_getObj_map hr,hc,hf,he0,hk0,hst,MapKept.run_setObj_map _ hr]
  ·rw [h3]
   have hl:j'<es.size:=by rw [← Array.length_toList]; omega
   unfold MEnt
   apply List.ext_getElem?
   intro i
   have hmi:=congrArg (fun l=>l[i]?) hm
   simp only [List.getElem?_map,Array.getElem?_toList,Array.getElem?_modify,List.getElem?_set] at hmi ⊢
   by_cases hi:j'=i
   ·subst hi
    simp only [if_true,he0,Option.map_some,hlt]
   ·simp only [if_neg hi]; exact hmi
def Qnw (P:Program) (fs:Nat→Option Fact) (base:Nat) (T:TypeId) (a:AV):Option OpR:=match Ew P fs T a with
 | some r=>(match r.av with
  | .h id (j+1)=>(match Kk fs (.h id (j+1)) with
   | some (d,dep)=>some ⟨[],.h base 0,[(base,some (.shr dep d))]⟩
   | none=>none)
  | _=>none)
 | none=>none
theorem Qsq (R:Rel P fsA β φ dom ψ IN w0 w) (hb:∀ id,base≤id→id<base+Qs→¬ dom id) (hsub:∀ id f,fs id=some f→fsA id=some f) {T:TypeId} {a:AV} {r:OpR} (h:Qnw P fs base T a=some r) :
  Snd P fsA base r β φ dom ψ IN w0 ((do pure (Next.value (← Instr.loadAt T (val β a))):Sem Next).run P w):=by
 unfold Qnw at h
 split at h
 ·rename_i r0 hr0
  split at h
  ·rename_i id j hav
   split at h
   ·rename_i d dep hd
    cases h
    obtain ⟨e1,e2,_,_⟩:=Mt R hsub hr0
    obtain ⟨q1,q2,q3,q4⟩:=Yz R hsub hd
    have hnb:¬ dom base:=hb base (Nat.le_refl _) (by unfold Qs; omega)
    refine Snd.new1 R hb (.shr dep d) (fun _=>β id (j+1)) [] (Bel.refl _ _) (fun _=>R.all1 _ _) ?_ (fun V d e=>by cases e) (fun hm=>by cases hm) (.inr rfl) ?_
    ·cases dep with
     | none=>show RdV ψ w d (up β base _ base 0); rw [Qg]; exact q1
     | some XV =>
      obtain ⟨X,V⟩:=XV
      obtain ⟨l1,l2,l3⟩:=q2 X V rfl
      refine ⟨.inl l2,.inl l3,fun _=>?_⟩
      have hX:X≠base:=fun e=>hnb (e ▸ l2)
      rw [Qg,Um _ _ _ hX]
      exact q1
    ·have e:r0.av=.h id (j+1):=hav
     simp only [Sem.run_bind,e1,Result.andThen_ok,Sem.run_pure,val,Qg,e]
   ·cases h
  ·cases h
 ·cases h
def Qnr (P:Program) (base:Nat) (T:TypeId) {α:Type} (f:α→Value):Option OpR:=match tMap P T with
 | some _=>some ⟨[],.h base 0,[(base,some (.own base (.x (MX f []))))]⟩
 | none=>none
theorem Qte (R:Rel P fsA β φ dom ψ IN w0 w) (hb:∀ id,base≤id→id<base+Qs→¬ dom id) {T:TypeId} {α:Type} {f:α→Value} {r:OpR} (h:Qnr P base T f=some r) :
  Snd P fsA base r β φ dom ψ IN w0 ((do pure (Next.value (← Instr.makeMap T none)):Sem Next).run P w):=by
 unfold Qnr at h
 split at h
 ·cases h
  refine Snd.new1 R hb (.own base (.x (MX f []))) (fun _=>.map (some w.heap.size)) [w.heap.size] (Qdr w (.map #[] 0)) (fun _=>rfl) ⟨.inr rfl,?_⟩ (fun V d e=>by cases e; exact hb base (Nat.le_refl _) (by unfold Qs; omega)) (fun _ b hbb=>?_) (.inr rfl) ?_
  ·rw [Qg,Qg]
   exact ⟨w.heap.size,#[],0,rfl,rfl,by simp,rfl⟩
  ·obtain rfl:=List.mem_singleton.1 hbb
   simp
  ·have e:=run_makeMap_plain (P:=P) (w:=w) T
   simp only [Sem.run_bind,e,Result.andThen_ok,Sem.run_pure,val,Qg]
   rfl
 ·cases h
def Qga (P:Program) (fs:Nat→Option Fact) (base:Nat) (T:TypeId) (a k v:AV) {α:Type} (f:α→Value) (m:ML α) (x:α):Option OpR:=match a,k,v,tMap P T with
 | .h X 0,.v (.string s),.v y,some _=>(match fs X with
  | some (.own _ (.x F))=>some ⟨[F=MX f m,y=f x],.v undef,[(X,some (.own base (.x (MX f (putM m s x)))))]⟩
  | _=>none)
 | _,_,_,_=>none
theorem Qoi (R:Rel P fsA β φ dom ψ IN w0 w) (hb:∀ id,base≤id→id<base+Qs→¬ dom id) (hsub:∀ id f,fs id=some f→fsA id=some f) {T:TypeId} {a k v:AV} {α:Type} {f:α→Value} {m:ML α} {x:α} {r:OpR} (h:Qga P fs base T a k v f m x=some r) (hv:AllP r.vcs) :
  Snd P fsA base r β φ dom ψ IN w0 ((do Instr.mapUpdate T (val β a) (val β k) (val β v); pure Next.skip:Sem Next).run P w):=by
 unfold Qga at h
 split at h
 ·rename_i X s y e hT
  split at h
  ·rename_i V F hX
   cases h
   obtain ⟨rfl,rfl,_⟩:=hv
   obtain ⟨hdX,hdV,hF⟩:=R.ok X _ (hsub _ _ hX)
   obtain ⟨q,es,clock,e1,e2,e3,e4⟩:=hF
   obtain ⟨es',clock',k1,k2⟩:=Qdn (P:=P) (x:=x) (s:=s) hT e3 e4
   have hlt:q<w.heap.size:=(Array.getElem?_eq_some_iff.1 e3).1
   refine Snd.mod1 (w':={ w with heap:=w.heap.setIfInBounds q (.map es' clock') }) R hb (hsub _ _ hX) rfl (.own base (.x (MX f (putM m s x)))) [q] ⟨rfl,rfl,rfl,by simp,fun b hbl hbn=>?_,Nat.le_refl _⟩ ⟨.inr rfl,?_⟩ (fun V d e=>by cases e; exact hb base (Nat.le_refl _) (by unfold Qs; omega)) (fun _ b hbb=>?_) ?_
   ·rw [e2] at hbn
    have hne:q≠b:=fun e=>hbn (by rw [e]; exact List.mem_singleton.2 rfl)
    simp [Array.getElem?_setIfInBounds,hne]
   ·rw [Qg]
    exact ⟨q,es',clock',e1,rfl,by simp [Array.getElem?_setIfInBounds,hlt],k2⟩
   ·obtain rfl:=List.mem_singleton.1 hbb
    exact ⟨by simpa using hlt,.inr (by rw [e2]; exact List.mem_singleton.2 rfl)⟩
   ·simp only [val,e1]
    simp [k1]
  ·cases h
 ·cases h
def Qvb (P:Program) (fs:Nat→Option Fact) (T:TypeId) (a k:AV) {α:Type} (f:α→Value) (m:ML α) (z:α):Option OpR:=none
theorem Qsw (R:Rel P fsA β φ dom ψ IN w0 w) (hsub:∀ id f,fs id=some f→fsA id=some f) {T:TypeId} {a k:AV} {α:Type} {f:α→Value} {m:ML α} {z:α} {r:OpR} (h:Qvb P fs T a k f m z=some r) (hv:AllP r.vcs) :
  (Instr.lookup T (val β a) (val β k) false).run P w=.ok (val β r.av) w∧r.av.wf dom∧r.sets=[]:=by cases (show (none:Option OpR)=some r from h)
def Qvq (P:Program) (fs:Nat→Option Fact) (T:TypeId) (a:AV) {α:Type} (f:α→Value) (m:ML α):Option OpR:=match tMap P T,Kk fs a with
 | some e,some (.x F,_)=>some ⟨[F=MX f m],.v (.int .i64 (m.length:Int)),[]⟩
 | _,_=>none
theorem Qxm (R:Rel P fsA β φ dom ψ IN w0 w) (hsub:∀ id f,fs id=some f→fsA id=some f) {T ty:TypeId} {a:AV} {α:Type} {f:α→Value} {m:ML α} {r:OpR} (h:Qvq P fs T a f m=some r) (hv:AllP r.vcs) :
  (Builtin.len_ #[T] ty #[val β a]).run P w=.ok (val β r.av) w∧r.av.wf dom∧r.sets=[]:=by
 unfold Qvq at h
 split at h
 ·rename_i e F dep hT hd
  cases h
  obtain ⟨rfl,_⟩:=hv
  obtain ⟨q,es,clock,e1,e2,e3,e4⟩:=(Yz R hsub hd).1
  obtain ⟨k,h1,h2⟩:=Qot hT
  refine ⟨?_,trivial,rfl⟩
  have hlen:es.size=m.length:=by have:=congrArg List.length e4; simpa using this
  rw [e1]
  simp [Builtin.len_,val,run_underlying h1,MapKept.run_getObj_map e3,goInt,hlen]
 ·cases h
end
inductive Hint (D:Bool) (P:Program):Type 1 where
 | no
 | bnd
 | dat (d:Dat)
 | dat2 (d e:Dat)
 | own
 | ix (ds:List Dat)
 | take (d:Dat)
 | part
 | azz (gi:Nat)
 | sv
 | str (s:ByteArray)
 | call (f:FuncId) (sp:Spec) (ok:sp.ok P f D) (fh:Option (FnH P))
 | fnv (F:Uu) (i:F.ι)
 | sh
 | mpm {α:Type} (f:α→Value)
 | mpu {α:Type} (f:α→Value) (m:ML α) (x:α)
 | mpl {α:Type} (f:α→Value) (m:ML α) (z:α)
 | mpn {α:Type} (f:α→Value) (m:ML α)
 | calle (f:FuncId) (sp:Spec) (ok:sp.ok P f D) (d:Dat)
 | bin (o:BinOp) (T:TypeId) (a b v:Value) (one:v.oneCell'=true) (ok:∀ (x y:Operand) (w:World),(do eqGuard o T x y a b; binOp o T a b).run P w=.ok v w)
def Hint.datO {D:Bool} {P:Program}:Hint D P→Option Dat
 | .dat d=>some d
 | _=>none
def Hint.dat2O {D:Bool} {P:Program}:Hint D P→Option (Dat×Dat)
 | .dat2 d e=>some (d,e)
 | _=>none
def Hint.ixO {D:Bool} {P:Program}:Hint D P→Option (List Dat)
 | .ix ds=>some ds
 | _=>none
def Hint.isPart {D:Bool} {P:Program}:Hint D P→Bool
 | .part=>true
 | _=>false
def Hint.asO {D:Bool} {P:Program}:Hint D P→Option Nat
 | .azz gi=>some gi
 | _=>none
def Hint.strO {D:Bool} {P:Program}:Hint D P→Option ByteArray
 | .str s=>some s
 | _=>none
def Hint.isSv {D:Bool} {P:Program}:Hint D P→Bool
 | .sv=>true
 | _=>false
def Hint.takeO {D:Bool} {P:Program}:Hint D P→Option Dat
 | .take d=>some d
 | _=>none
def Hint.isSh {D:Bool} {P:Program}:Hint D P→Bool
 | .sh=>true
 | _=>false
def Hint.isBnd {D:Bool} {P:Program}:Hint D P→Bool
 | .bnd=>true
 | _=>false
def Hint.isOwn {D:Bool} {P:Program}:Hint D P→Bool
 | .own=>true
 | _=>false
def opA (sl:Nat→Option AV):Operand→Option AV
 | .tmp t=>sl t
 | .const v=>some (.v v)
 | .func f=>some (.cl f [])
 | .global _=>none
def opAs (sl:Nat→Option AV):List Operand→Option (List AV)
 | []=>some []
 | x :: xs=>match opA sl x,opAs sl xs with
  | some a,some azz=>some (a :: azz)
  | _,_=>none
def opPs (sl:Nat→Option AV):List (Nat×Operand)→Option (List (Nat×AV))
 | []=>some []
 | (i,x) :: xs=>match opA sl x,opPs sl xs with
  | some a,some azz=>some ((i,a) :: azz)
  | _,_=>none
def opO (sl:Nat→Option AV):Option Operand→Option (Option AV)
 | none=>some none
 | some x=>match opA sl x with
  | some a=>some (some a)
  | none=>none
def Pj:List AV→Option (List Value)
 | []=>some []
 | .v x :: azz=>(match Pj azz with | some vs=>some (x :: vs) | none=>none)
 | _ :: _=>none
def Qdz:AV→Option Value
 | .v x=>some x
 | .ag cs=>(match Pj cs with | some vs=>some (.agg vs.toArray) | none=>none)
 | _=>none
def eBin {D:Bool} (P:Program) (h:Hint D P) (o:BinOp) (T:TypeId) (x y:AV):Option OpR :=
 match h with
 | .bin o' T' a b v one ok=>(match Qdz x,Qdz y with
  | some x',some y'=>if o'=o∧T'=T then some ⟨[x'=a,y'=b],.v v,[]⟩ else none
  | _,_=>none)
 | _=>(match x,y with
  | .v (.bool a),.v (.bool b)=>(match o,P.underlying T with
   | .eql,some .bool=>some ⟨[],.v (.bool (a==b)),[]⟩
   | .neq,some .bool=>some ⟨[],.v (.bool (!(a==b))),[]⟩
   | _,_=>none)
  | .v a,.v b=>(match binV h.isBnd o a b with
   | some (vcs,v)=>bif v.oneCell' then some ⟨vcs,.v v,[]⟩ else none
   | none=>none)
  | _,_=>none)
def eLen (P:Program) (fs:Nat→Option Fact) (t:TypeId) (x:AV):Option OpR :=
 match x with
 | .v (.string s)=>(match P.underlying t with | some .string=>some ⟨[],.v (.int .i64 (s.size:Int)),[]⟩ | _=>none)
 | .v (.slice none 0 0)=>(match P.underlying t with | some (.slice _)=>some ⟨[],.v (.int .i64 0),[]⟩ | _=>none)
 | x=>(match Kk fs x,P.underlying t with
  | some (@Dat.l _ _ _ _ xs,_),some (.slice _)=>some ⟨[],.v (.int .i64 (xs.length:Int)),[]⟩
  | _,_=>none)
def Qhm (mx:Bool) (x y:AV):Option OpR:=match x,y with
 | .v (.int k a),.v (.int _ b)=>some ⟨[],.v (.int k (bif mx then (if b>a then b else a) else (if b<a then b else a))),[]⟩
 | _,_=>none
def eConv (P:Program) (src dst:TypeId):AV→Option OpR
 | .v (.int _ n)=>(match P.underlying src,P.underlying dst with | some _,some (.int k)=>some ⟨[],.v (.int k (k.wrap n)),[]⟩ | _,_=>none)
 | .v (.string s)=>(match P.underlying src,P.underlying dst with | some _,some .string=>some ⟨[],.v (.string s),[]⟩ | _,_=>none)
 | _=>none
def ConvOK (d:Dat) (s:ByteArray):Prop:=∃ (α:Type) (_:Inhabited α) (enc:α→List Dat) (xs:List α) (f:α→Int),d=.l 1 enc xs∧(∀ x,enc x=[.v (.int .u8 (f x))])∧s=strOfNums (xs.map f)
theorem ConvOK.mk {α:Type} [Inhabited α] (enc:α→List Dat) (xs:List α) (f:α→Int) (h:∀ x,enc x=[.v (.int .u8 (f x))]):ConvOK (.l 1 enc xs) (strOfNums (xs.map f)):=⟨α,inferInstance,enc,xs,f,rfl,h,rfl⟩
def Qnx (P:Program) (fs:Nat→Option Fact) (src dst:TypeId) (x:AV) (s:ByteArray):Option OpR :=
 match Kk fs x,P.underlying src,P.underlying dst with
 | some (d,_),some (.slice e),some .string=>(match P.underlying e with | some (.int .u8)=>some ⟨[ConvOK d s],.v (.string s),[]⟩ | _=>none)
 | _,_,_=>none
def Qnk (P:Program) (fs:Nat→Option Fact) (av:AV) (F:Uu):Option Prop:=match av with
 | .h id j=>(match fs id,j with
  | some (.fn F0),0=>some (F0=F)
  | _,_=>(match Kk fs (.h id j) with | some (.x X,_)=>some (X=FnX P F) | _=>none))
 | _=>none
def Qlg {D:Bool} (P:Program) (fs:Nat→Option Fact) (base:Nat) (h:Hint D P) (fv:AV) (args:List AV):Option OpR :=
 match fv,h with
 | .cl f cap,.call f' sp ok fh=>bif Nat.beq f f'&&Ub P f then Quv P fs fh base sp (args++cap) else none
 | .cl f cap,.calle f' sp ok d=>bif Nat.beq f f'&&Ub P f then Ubb fs base sp (args++cap) d else none
 | fv,.fnv F i=>(match D,Qnk P fs fv F,mRos fs args ((F.arg i).map .r) with
  | false,some p,some m=>some ⟨p :: m.vcs,.v (F.res i),[]⟩
  | _,_,_=>none)
 | _,_=>none
def Qoa {D:Bool} (P:Program) (fs:Nat→Option Fact) (sl:Nat→Option AV) (base:Nat) (h:Hint D P) (c:Call):Option OpR :=
 match c.callee with
 | .builtin b=>(match b,c.args.toList,c.argTypes.toList with
  | .len,[x],[t]=>(opA sl x).bind fun a=>(match h with | .mpn f m=>Qvq P fs t a f m | _=>eLen P fs t a)
  | .append,[x,y],[t,t']=>(opA sl x).bind fun x=>(opA sl y).bind fun y=>h.datO.bind fun d=>bif Nat.beq t t' then eApp P fs base t x y d else none
  | .min,[x,y],_=>(opA sl x).bind fun x=>(opA sl y).bind fun y=>Qhm false x y
  | .max,[x,y],_=>(opA sl x).bind fun x=>(opA sl y).bind fun y=>Qhm true x y
  | .clear,[x],[t]=>(opA sl x).bind fun a=>Qmb P fs base t a h.datO
  | _,_,_=>none)
 | .value f=>(opA sl f).bind fun f=>(opAs sl c.args.toList).bind fun azz=>Qlg P fs base h f azz
 | _=>none
def opEv {D:Bool} (P:Program) (fs:Nat→Option Fact) (sl:Nat→Option AV) (base:Nat) (h:Hint D P) (op:Op):Option OpR :=
 match op with
 | .move x=>(opA sl x).map fun a=>⟨[],a,[]⟩
 | .assign x=>(opA sl x).map fun a=>⟨[],a,[]⟩
 | .alloc T=>Qmk P base T
 | .box T x=>(opA sl x).bind fun a=>eBox base T a
 | .build T ps=>(opPs sl ps.toList).bind fun ps=>Qmm P T ps
 | .buildSlice T n ps=>(opPs sl ps.toList).bind fun ps=>Qgh P fs base T n ps h.datO
 | .load T a=>(opA sl a).bind fun a=>bif h.isSh then Qnw P fs base T a else (match h.takeO with | some d=>Qux P fs base T a d | none=>(match h.asO with | some gi=>Qpl P fs T a gi | none=>Ew P fs T a))
 | .store T a v=>(opA sl a).bind fun a=>(opA sl v).bind fun v=>(match h.dat2O with | some (d,e)=>Qsg P fs base T a v d e | none=>Qol P fs base T a v h.datO)
 | .nilCheck x=>(opA sl x).bind fun a=>eNil fs a
 | .binOp o T x y _=>(opA sl x).bind fun x=>(opA sl y).bind fun y=>eBin P h o T x y
 | .unOp o _ x=>(opA sl x).bind fun a=>match a with | .v a=>(unV o a).map fun v=>⟨[],.v v,[]⟩ | _=>none
 | .convert s d x=>(opA sl x).bind fun a=>(match h.strO with | some st=>Qnx P fs s d a st | none=>eConv P s d a)
 | .makeFunc fn first cap=>(match fn,first.toList with
  | .func f,[]=>(opAs sl cap.toList).map fun cs=>⟨[],.cl f cs,[]⟩
  | _,_=>none)
 | .makeSlice T l c=>(opA sl l).bind fun l=>(opA sl c).bind fun c=>h.datO.bind fun d=>Qyk P base T l c d
 | .slice T x lo hi mx=>(match mx with
  | none=>(opA sl x).bind fun x=>(opO sl lo).bind fun lo=>(opO sl hi).bind fun hi=>(match P.underlying T with
   | some .string=>Qhj x lo hi
   | some (.slice _)=>bif h.isPart then Qwp P fs base T x lo hi else bif h.isSv then eSlcV P fs base T x lo hi else eSlc P fs base T x lo hi h.isOwn
   | _=>none)
  | some _=>none)
 | .fieldAddr T x i=>(opA sl x).bind fun a=>Hx P fs T i a
 | .field T x i=>(opA sl x).bind fun a=>Qmz P T i a
 | .indexAddr T x i=>(opA sl x).bind fun a=>(opA sl i).bind fun i=>eIdx P fs base T a i h.ixO
 | .index T x i=>(opA sl x).bind fun a=>(opA sl i).bind fun i=>match P.underlying T with
  | some .string=>Qhs a i
  | _=>none
 | .extract x i=>(opA sl x).bind fun a=>Qaq i a
 | .makeMap T none=>(match h with | .mpm f=>Qnr P base T f | _=>none)
 | .mapUpdate T m k v=>(opA sl m).bind fun a=>(opA sl k).bind fun k=>(opA sl v).bind fun v=>(match h with | .mpu f m x=>Qga P fs base T a k v f m x | _=>none)
 | .lookup T x i c=>bif c then none else (opA sl x).bind fun a=>(opA sl i).bind fun k=>(match h with | .mpl f m z=>Qvb P fs T a k f m z | _=>none)
 | .call c=>Qoa P fs sl base h c
 | _=>none
section
variable {D:Bool} {P:Program} {fs fsA:Nat→Option Fact} {β:Nat→Nat→Value} {φ:Nat→List Nat} {dom ψ IN:Nat→Prop} {w0 w w':World} {base:Nat} {sl:Nat→Option AV} {ρ:Operand→Value}
def SlOK (sl:Nat→Option AV) (β:Nat→Nat→Value) (dom:Nat→Prop) (ρ:Operand→Value):Prop:=∀ x a,opA sl x=some a→ρ x=val β a∧a.wf dom
theorem Qhe (H:SlOK sl β dom ρ):∀ {xs:List Operand} {azz:List AV},opAs sl xs=some azz→xs.map ρ=vals β azz∧AVs.wf dom azz
 | [],azz,h=>by simp only [opAs,Option.some.injEq] at h; subst h; exact ⟨rfl,trivial⟩
 | x :: xs,azz,h=>by
  simp only [opAs] at h
  split at h
  ·rename_i a as' h1 h2
   cases h
   obtain ⟨g1,g2⟩:=Qhe H h2
   obtain ⟨k1,k2⟩:=H x a h1
   exact ⟨by simp [vals,g1,k1],k2,g2⟩
  ·cases h
theorem Qgd (H:SlOK sl β dom ρ):∀ {xs:List (Nat×Operand)} {azz:List (Nat×AV)},opPs sl xs=some azz→xs.map (fun p=>(p.1,ρ p.2))=azz.map (fun p=>(p.1,val β p.2))∧∀ p∈azz,p.2.wf dom
 | [],azz,h=>by simp only [opPs,Option.some.injEq] at h; subst h; exact ⟨rfl,fun p hp=>by cases hp⟩
 | (i,x) :: xs,azz,h=>by
  simp only [opPs] at h
  split at h
  ·rename_i a as' h1 h2
   cases h
   obtain ⟨g1,g2⟩:=Qgd H h2
   obtain ⟨k1,k2⟩:=H x a h1
   refine ⟨by simp [g1,k1],fun p hp=>?_⟩
   rcases List.mem_cons.1 hp with rfl | hp
   ·exact k2
   ·exact g2 p hp
  ·cases h
theorem Ubi (H:SlOK sl β dom ρ) {x:Option Operand} {a:Option AV} (h:opO sl x=some a):x.map ρ=a.map (val β):=by
 cases x with
 | none=>simp only [opO,Option.some.injEq] at h; subst h; rfl
 | some x =>
  simp only [opO] at h
  split at h
  ·rename_i a' h1
   cases h
   simp [(H x a' h1).1]
  ·cases h
theorem Ku (R:Rel P fsA β φ dom ψ IN w0 w) {r:OpR} {s:Sem Value} (h:s.run P w=.ok (val β r.av) w∧r.av.wf dom∧r.sets=[]):Snd P fsA base r β φ dom ψ IN w0 ((do pure (Next.value (← s)):Sem Next).run P w):=by
 obtain ⟨h1,h2,h3⟩:=h
 obtain ⟨vcs,av,sets⟩:=r
 simp only at h3
 subst h3
 exact Snd.pure R h2 (by simp [h1])
theorem Qdv:∀ {cs:List AV} {vs:List Value},Pj cs=some vs→vals β cs=vs
 | [],vs,h=>by simp only [Pj,Option.some.injEq] at h; subst h; rfl
 | c :: cs,vs,h=>by
  cases c with
  | v x =>
   simp only [Pj] at h
   split at h
   ·rename_i us hr
    cases h
    simp only [vals,val,Qdv hr]
   ·cases h
  | _=>simp [Pj] at h
theorem Qkm {a:AV} {v:Value} (h:Qdz a=some v):val β a=v:=by
 cases a with
 | v x=>simp only [Qdz,Option.some.injEq] at h; exact h
 | ag cs =>
  simp only [Qdz] at h
  split at h
  ·rename_i vs hr
   cases h
   simp only [val,Qdv hr]
  ·cases h
 | _=>simp [Qdz] at h
theorem Qhb {T:TypeId} (hT:P.underlying T=some .bool) (p q:Bool):∀ d,(Op.equalIn (d+1) T (.bool p) (.bool q)).run P w=.ok (p==q) w:=by
 intro d
 simp [Op.equalIn,run_underlying hT]
theorem Tm {T:TypeId} (hT:P.underlying T=some .bool) (p q:Bool):(Op.equal T (.bool p) (.bool q)).run P w=.ok (p==q) w:=Qhb hT p q 9999
theorem Ueh (R:Rel P fsA β φ dom ψ IN w0 w) {h:Hint D P} {o:BinOp} {T:TypeId} {a b:AV} {r:OpR} (he:eBin P h o T a b=some r) (hv:AllP r.vcs) (x y:Operand) :
  (do eqGuard o T x y (val β a) (val β b); binOp o T (val β a) (val β b)).run P w=.ok (val β r.av) w∧r.av.wf dom∧r.sets=[]:=by
 unfold eBin at he
 split at he
 ·rename_i o' T' a' b' v one ok
  split at he
  ·rename_i x' y' hx hy
   split at he
   ·rename_i hot
    obtain ⟨rfl,rfl⟩:=hot
    cases he
    obtain ⟨rfl,rfl,_⟩:=hv
    refine ⟨?_,trivial,rfl⟩
    rw [Qkm hx,Qkm hy]
    exact ok x y w
   ·cases he
  ·cases he
 ·split at he
  ·rename_i p q
   split at he
   ·rename_i hT
    cases he
    refine ⟨?_,trivial,rfl⟩
    simp [eqGuard,binOp,val,Tm hT]
   ·rename_i hT
    cases he
    refine ⟨?_,trivial,rfl⟩
    simp [eqGuard,binOp,val,Tm hT]
   ·cases he
  ·rename_i p q _
   split at he
   ·rename_i vcs v hb
    cases hone:v.oneCell' with
    | false=>rw [hone] at he; cases he
    | true =>
     rw [hone] at he
     cases he
     exact ⟨Udq hb hv T x y w,trivial,rfl⟩
   ·cases he
  ·cases he
theorem Ueo (R:Rel P fsA β φ dom ψ IN w0 w) (hsub:∀ id f,fs id=some f→fsA id=some f) {t ty:TypeId} {x:AV} {r:OpR} (h:eLen P fs t x=some r) :
  (Builtin.len_ #[t] ty #[val β x]).run P w=.ok (val β r.av) w∧r.av.wf dom∧r.sets=[]:=by
 unfold eLen at h
 split at h
 ·split at h
  ·rename_i s ht; cases h; exact ⟨by simp [Builtin.len_,val,run_underlying ht,goInt],trivial,rfl⟩
  ·cases h
 ·split at h
  ·rename_i e ht; cases h; exact ⟨by simp [Builtin.len_,val,run_underlying ht,goInt],trivial,rfl⟩
  ·cases h
 ·split at h
  ·rename_i α inst sz enc xs dep e hd ht
   cases h
   obtain ⟨⟨a,c,e1,_⟩,_⟩:=Yz R hsub hd
   exact ⟨by rw [e1]; simp [Builtin.len_,val,run_underlying ht,goInt],trivial,rfl⟩
  ·cases h
theorem Ro {f:FuncId} (h:Ub P f=true) (args:Array Value):(callFunc f args).run P w=.ok (.enter f args) w:=by
 unfold Ub at h
 split at h
 ·rename_i fn hf
  simp only [Bool.and_eq_true,Bool.not_eq_true',beq_eq_false_iff_ne] at h
  cases hb:fn.body with
  | none=>rw [hb] at h; simp at h
  | some c=>simp [callFunc,hf,h.2,hb]
 ·cases h
theorem Ri (R:Rel P fsA β φ dom ψ IN w0 w) (hsub:∀ id f,fs id=some f→fsA id=some f):∀ {azz:List AV} {ras:List RA} {m:MA},mRos fs azz (ras.map .r)=some m→AllP m.vcs→RdArgs (Outs φ w []) w ras (vals β azz)
 | azz,[],m,h,hv=>by
  cases azz with
  | nil=>rfl
  | cons a azz=>simp [mRos] at h
 | azz,ra :: ras,m,h,hv=>by
  cases azz with
  | nil=>simp [mRos] at h
  | cons a azz =>
   simp only [List.map_cons,mRos] at h
   split at h
   ·rename_i m1 m2 h1 h2
    cases h
    obtain ⟨v1,v2⟩:=AllP.app hv
    obtain ⟨⟨k1,_⟩,_⟩:=Qgu (CONS:=[]) R hsub (fun id h=>by cases h) h1 v1 fun X hX h=>by cases h
    exact ⟨_,_,rfl,k1,Ri R hsub h2 v2⟩
   ·cases h
theorem Xa (ρ:Operand→Value) {x:Operand} {args:Array Operand} {ats:Array TypeId} {d:Option Tmp} {ty:TypeId} {pos:String} {af:Array Edge} {g:Option (Nat×Bool)} {f:FuncId} {cap:Array Value} (hx:ρ x=.func (.func f) #[] cap) (hc:Ub P f=true) :
  (execOp ρ ⟨d,.call { callee:=.value x,args:=args,argTypes:=ats },ty,pos,af,g⟩).run P w=.ok (.enter f (args.map ρ++cap)) w:=by
 have:=Ro (w:=w) hc (args.map ρ++cap)
 simp [execOp,resolve,hx,Deferred.ofValue,invoke,this]
theorem Qsz (R:Rel P fsA β φ dom ψ IN w0 w) (hsub:∀ id f,fs id=some f→fsA id=some f) {av:AV} {F:Uu} {p:Prop} (h:Qnk P fs av F=some p) (hp:p):∃ S:Nat→Prop,FnOK false P S w F (val β av):=by
 unfold Qnk at h
 split at h
 ·rename_i id j
  split at h
  ·rename_i F0 hF
   cases h
   subst hp
   exact ⟨ψ,(R.ok id _ (hsub _ _ hF)).2⟩
  ·split at h
   ·rename_i X dep hd
    cases h
    subst hp
    exact ⟨_,(Yz R hsub hd).1⟩
   ·cases h
 ·cases h
theorem Qsu (R:Rel P fsA β φ dom ψ IN w0 w) (hsub:∀ id f,fs id=some f→fsA id=some f) {src dst:TypeId} {x:AV} {s:ByteArray} {r:OpR} (h:Qnx P fs src dst x s=some r) (hv:AllP r.vcs) :
  (convert src dst (val β x)).run P w=.ok (val β r.av) w∧r.av.wf dom∧r.sets=[]:=by
 unfold Qnx at h
 split at h
 ·rename_i d dep e hd hs hdst
  split at h
  ·rename_i he
   cases h
   obtain ⟨⟨α,_,enc,xs,f,rfl,henc,rfl⟩,_⟩:=hv
   refine ⟨?_,trivial,rfl⟩
   obtain ⟨⟨a,c,e1,h2,h3,h4⟩,_⟩:=Yz R hsub hd
   rw [e1]
   simp only [val]
   cases xs with
   | nil =>
    cases a with
    | none=>exact run_convert_bytes_nil _ src e hs he _ _ dst hdst
    | some ad =>
     exact run_convert_bytes_back w src dst e ad c [] hs he hdst (fun j hj=>by cases hj)
   | cons y ys =>
    obtain ⟨k1,_⟩:=h4 0 y rfl
    rw [k1]
    rw [run_convert_bytes_arg w src e hs he (ab a) (ao a) _ c ((y :: ys).map f) (by simp) (fun i hi=>?_) dst hdst]
    have hg:(y :: ys)[i]?=some ((y :: ys)[i]'hi):=List.getElem?_eq_getElem hi
    obtain ⟨_,_,cs,g1,g2,g3⟩:=h4 i _ hg
    rw [henc] at g3
    obtain ⟨u,us,rfl,⟨rfl,_⟩,rfl⟩:=g3
    have:=g2 0 _ rfl
    rw [Nat.mul_one,Nat.add_zero] at this
    rw [this,List.getD_eq_getElem?_getD,List.getElem?_map,hg]
    rfl
  ·cases h
 ·cases h
theorem Qtf (hD:D=false→w0.drawn=0) (R:Rel P fsA β φ dom ψ IN w0 w) (hb:∀ id,base≤id→id<base+Qs→¬ dom id) (hsub:∀ id f,fs id=some f→fsA id=some f) {h:Hint D P} {fv:AV} {azz:List AV} {r:OpR} (he:Qlg P fs base h fv azz=some r) (hv:AllP r.vcs) {x:Operand} {args:Array Operand} {ats:Array TypeId} {d:Option Tmp} {ty:TypeId} {pos:String} {af:Array Edge} {g:Option (Nat×Bool)}
  (hx:ρ x=val β fv) (hargs:args.toList.map ρ=vals β azz) :
  Snd P fsA base r β φ dom ψ IN w0 ((execOp ρ ⟨d,.call { callee:=.value x,args:=args,argTypes:=ats },ty,pos,af,g⟩).run P w):=by
 have hargs2:args.map ρ=(vals β azz).toArray:=by apply Array.ext'; rw [Array.toList_map,hargs]
 unfold Qlg at he
 split at he
 ·rename_i f cap f' sp ok fh
  cases hcc:(Nat.beq f f'&&Ub P f) with
  | false=>rw [hcc] at he; cases he
  | true =>
   rw [hcc] at he
   simp only [cond_true] at he
   simp only [Bool.and_eq_true] at hcc
   have hff:=Nat.eq_of_beq_eq_true hcc.1
   subst hff
   have hrun:=Xa (P:=P) (w:=w) (d:=d) (ty:=ty) (pos:=pos) (af:=af) (g:=g) (ats:=ats) (args:=args) ρ hx hcc.2
   rw [hargs2] at hrun
   refine Uap R hb hsub hD ok he hv (hrun.trans ?_)
   rw [Xt]
   simp
 ·rename_i f cap f' sp ok dX
  cases hcc:(Nat.beq f f'&&Ub P f) with
  | false=>rw [hcc] at he; cases he
  | true =>
   rw [hcc] at he
   simp only [cond_true] at he
   simp only [Bool.and_eq_true] at hcc
   have hff:=Nat.eq_of_beq_eq_true hcc.1
   subst hff
   have hrun:=Xa (P:=P) (w:=w) (d:=d) (ty:=ty) (pos:=pos) (af:=af) (g:=g) (ats:=ats) (args:=args) ρ hx hcc.2
   rw [hargs2] at hrun
   refine Qso R hb hsub hD ok he hv (hrun.trans ?_)
   rw [Xt]
   simp
 ·rename_i id F i
  split at he
  ·rename_i p m hF hm
   cases he
   obtain ⟨hv0,hv'⟩:=hv
   have hrd:=Ri R hsub hm hv'
   obtain ⟨S0,f,cap,e1,hc,e2⟩:=Qsz R hsub hF hv0
   have hrun:=Xa (P:=P) (w:=w) (d:=d) (ty:=ty) (pos:=pos) (af:=af) (g:=g) (ats:=ats) (args:=args) ρ (hx.trans e1) hc
   rw [hargs2] at hrun
   rw [hrun]
   refine Calls.mono (e2 i w (Outs φ w []) _ (fun _ _=>rfl) (R.gloOuts (CONS:=[]) (fun _ h=>by cases h)) (fun b hb=>hb.1) hrd) fun e w2 ⟨h1,h2⟩=>⟨_,h1,?_⟩
   refine ⟨β,φ,dom,rfl,trivial,fun id h=>⟨h,rfl⟩,fun id h=>.inl h,?_⟩
   exact R.step0 (NN:=fun _=>False) (C:=fun _=>False) (Chg.of_below h2).ofD (by rw [hD rfl]; exact Nat.zero_le _) (fun _ h=>⟨h,rfl⟩) R.all1 (fun _ _ h=>.inr h) (fun _ _=>rfl) (fun _ _ h=>h.elim) (fun _ _ h=>h.elim) (fun _ _ _ h=>h.elim) (fun _ _ h=>h.elim) (fun _ _ _ _ h=>h.elim)
  ·cases he
 ·cases he
theorem Qnd (ρ:Operand→Value) {x y:Operand} {t:TypeId} {d:Option Tmp} {ty:TypeId} {pos:String} {af:Array Edge} {g:Option (Nat×Bool)} :
  (execOp ρ ⟨d,.call { callee:=.builtin .append,args:=#[x,y],argTypes:=#[t,t] },ty,pos,af,g⟩).run P w=(do pure (Next.value (← Builtin.append_ #[t,t] ty #[ρ x,ρ y])):Sem Next).run P w:=by
 simp [execOp,resolve,invoke,builtin]
theorem Qky (ρ:Operand→Value) {x:Operand} {t:TypeId} {d:Option Tmp} {ty:TypeId} {pos:String} {af:Array Edge} {g:Option (Nat×Bool)} :
  (execOp ρ ⟨d,.call { callee:=.builtin .len,args:=#[x],argTypes:=#[t] },ty,pos,af,g⟩).run P w=(do pure (Next.value (← Builtin.len_ #[t] ty #[ρ x])):Sem Next).run P w:=by
 simp [execOp,resolve,invoke,builtin]
theorem Qld (ρ:Operand→Value) {x y:Operand} {ts:Array TypeId} {d:Option Tmp} {ty:TypeId} {pos:String} {af:Array Edge} {g:Option (Nat×Bool)} :
  (execOp ρ ⟨d,.call { callee:=.builtin .min,args:=#[x,y],argTypes:=ts },ty,pos,af,g⟩).run P w=(do pure (Next.value (← Builtin.min_ ts ty #[ρ x,ρ y])):Sem Next).run P w:=by
 simp [execOp,resolve,invoke,builtin]
theorem Qob (ρ:Operand→Value) {x y:Operand} {ts:Array TypeId} {d:Option Tmp} {ty:TypeId} {pos:String} {af:Array Edge} {g:Option (Nat×Bool)} :
  (execOp ρ ⟨d,.call { callee:=.builtin .max,args:=#[x,y],argTypes:=ts },ty,pos,af,g⟩).run P w=(do pure (Next.value (← Builtin.max_ ts ty #[ρ x,ρ y])):Sem Next).run P w:=by
 simp [execOp,resolve,invoke,builtin]
theorem Qhg (ρ:Operand→Value) {x:Operand} {t:TypeId} {d:Option Tmp} {ty:TypeId} {pos:String} {af:Array Edge} {g:Option (Nat×Bool)} :
  (execOp ρ ⟨d,.call { callee:=.builtin .clear,args:=#[x],argTypes:=#[t] },ty,pos,af,g⟩).run P w=(do pure (Next.value (← Builtin.clear_ #[t] ty #[ρ x])):Sem Next).run P w:=by
 simp [execOp,resolve,invoke,builtin]
theorem Qtw (hD:D=false→w0.drawn=0) (R:Rel P fsA β φ dom ψ IN w0 w) (hb:∀ id,base≤id→id<base+Qs→¬ dom id) (hsub:∀ id f,fs id=some f→fsA id=some f) (H:SlOK sl β dom ρ) {h:Hint D P} {c:Call} {r:OpR} (he:Qoa P fs sl base h c=some r) (hv:AllP r.vcs) {dst:Option Tmp} {type:TypeId} {pos:String} {after:Array Edge} {guard:Option (Nat×Bool)} :
  Snd P fsA base r β φ dom ψ IN w0 ((execOp ρ ⟨dst,.call c,type,pos,after,guard⟩).run P w):=by
 obtain ⟨callee,args,ats⟩:=c
 have lits:∀ {α:Type} {a:Array α} {l:List α},a.toList=l→a=l.toArray:=fun e=>by apply Array.ext'; rw [e]
 unfold Qoa at he
 simp only at he
 split at he
 ·split at he
  ·rename_i x t e1 e2
   obtain rfl:=lits e1
   obtain rfl:=lits e2
   obtain ⟨a,h1,h2⟩:=Option.bind_eq_some_iff.1 he
   obtain ⟨k1,k2⟩:=H x a h1
   rw [Qky,k1]
   split at h2
   ·exact Ku R (Qxm R hsub h2 hv)
   ·exact Ku R (Ueo R hsub h2)
  ·rename_i x y t t' e1 e2
   obtain rfl:=lits e1
   obtain rfl:=lits e2
   obtain ⟨a,h1,h2⟩:=Option.bind_eq_some_iff.1 he
   obtain ⟨b,h3,h4⟩:=Option.bind_eq_some_iff.1 h2
   obtain ⟨d,h5,h6⟩:=Option.bind_eq_some_iff.1 h4
   obtain ⟨k1,k2⟩:=H x a h1
   obtain ⟨k3,k4⟩:=H y b h3
   cases ht:Nat.beq t t' with
   | false=>rw [ht] at h6; cases h6
   | true =>
    rw [ht] at h6
    have ht':=Nat.eq_of_beq_eq_true ht
    subst ht'
    rw [Qnd,k1,k3]
    exact Ufc R hb hsub h6 hv
  ·rename_i x y e1
   obtain rfl:=lits e1
   obtain ⟨a,h1,h2⟩:=Option.bind_eq_some_iff.1 he
   obtain ⟨b,h3,h4⟩:=Option.bind_eq_some_iff.1 h2
   obtain ⟨k1,k2⟩:=H x a h1
   obtain ⟨k3,k4⟩:=H y b h3
   rw [Qld,k1,k3]
   unfold Qhm at h4
   split at h4
   ·cases h4
    exact Snd.pure R trivial (by simp [Builtin.min_,Builtin.min2,val])
   ·cases h4
  ·rename_i x y e1
   obtain rfl:=lits e1
   obtain ⟨a,h1,h2⟩:=Option.bind_eq_some_iff.1 he
   obtain ⟨b,h3,h4⟩:=Option.bind_eq_some_iff.1 h2
   obtain ⟨k1,k2⟩:=H x a h1
   obtain ⟨k3,k4⟩:=H y b h3
   rw [Qob,k1,k3]
   unfold Qhm at h4
   split at h4
   ·cases h4
    exact Snd.pure R trivial (by simp [Builtin.max_,Builtin.max2,val])
   ·cases h4
  ·rename_i x t e1 e2
   obtain rfl:=lits e1
   obtain rfl:=lits e2
   obtain ⟨a,h1,h2⟩:=Option.bind_eq_some_iff.1 he
   obtain ⟨k1,k2⟩:=H x a h1
   rw [Qhg,k1]
   exact Qtx R hb hsub h2 hv
  ·cases he
 ·rename_i f
  obtain ⟨a,h1,h2⟩:=Option.bind_eq_some_iff.1 he
  obtain ⟨azz,h3,h4⟩:=Option.bind_eq_some_iff.1 h2
  obtain ⟨k1,k2⟩:=H f a h1
  obtain ⟨k3,k4⟩:=Qhe H h3
  exact Qtf hD R hb hsub h4 hv k1 k3
 ·cases he
theorem Ufv (hD:D=false→w0.drawn=0) (R:Rel P fsA β φ dom ψ IN w0 w) (hb:∀ id,base≤id→id<base+Qs→¬ dom id) (hsub:∀ id f,fs id=some f→fsA id=some f) (H:SlOK sl β dom ρ) {h:Hint D P} {o:Oper} {r:OpR} (he:opEv P fs sl base h o.op=some r) (hv:AllP r.vcs) :
  Snd P fsA base r β φ dom ψ IN w0 ((execOp ρ o).run P w):=by
 obtain ⟨dst,op,type,pos,after,guard⟩:=o
 simp only at he
 cases op <;> simp only [opEv] at he <;> first | (cases he; done) | skip
 case move x =>
  obtain ⟨a,h1,rfl⟩:=Option.map_eq_some_iff.1 he
  obtain ⟨k1,k2⟩:=H x a h1
  exact Snd.pure R k2 (by simp [execOp,k1])
 case assign x =>
  obtain ⟨a,h1,rfl⟩:=Option.map_eq_some_iff.1 he
  obtain ⟨k1,k2⟩:=H x a h1
  exact Snd.pure R k2 (by simp [execOp,k1])
 case alloc T =>
  exact Qsn R hb he rfl
 case box T x =>
  obtain ⟨a,h1,h2⟩:=Option.bind_eq_some_iff.1 he
  obtain ⟨k1,k2⟩:=H x a h1
  have:=Ugf R hb h2 k2
  rw [← k1] at this
  exact this
 case build T ps =>
  obtain ⟨a,h1,h2⟩:=Option.bind_eq_some_iff.1 he
  obtain ⟨k1,k2⟩:=Qgd H h1
  have:=Qti (w:=w) R h2 k2
  have e:(ps.map fun (i,x)=>(i,ρ x))=(a.map fun p=>(p.1,val β p.2)).toArray:=by
   apply Array.ext'; rw [Array.toList_map,← k1]
  have h3:=Ku (base:=base) R ⟨this.1,this.2.1,this.2.2.1⟩
  rw [← e] at h3
  exact h3
 case buildSlice T n ps =>
  obtain ⟨a,h1,h2⟩:=Option.bind_eq_some_iff.1 he
  obtain ⟨k1,k2⟩:=Qgd H h1
  have e:(ps.map fun (i,x)=>(i,ρ x))=(a.map fun p=>(p.1,val β p.2)).toArray:=by
   apply Array.ext'; rw [Array.toList_map,← k1]
  have h3:=Qma R hb hsub h2 hv k2
  rw [← e] at h3
  exact h3
 case load T x =>
  obtain ⟨a,h1,h2⟩:=Option.bind_eq_some_iff.1 he
  obtain ⟨k1,k2⟩:=H x a h1
  cases hsh:h.isSh with
  | true =>
   rw [hsh,cond_true] at h2
   have h3:=Qsq R hb hsub h2
   rw [← k1] at h3
   exact h3
  | false =>
  rw [hsh,cond_false] at h2
  split at h2
  ·have h3:=Qzk R hb hsub h2 hv
   rw [← k1] at h3
   exact h3
  split at h2
  ·have:=Qnn R hsub h2 hv
   have h3:=Ku (base:=base) R ⟨this.1,this.2.1,this.2.2⟩
   rw [← k1] at h3
   exact h3
  have:=Mt R hsub h2
  have h3:=Ku (base:=base) R ⟨this.1,this.2.1,this.2.2.1⟩
  rw [← k1] at h3
  exact h3
 case store T x v =>
  obtain ⟨a,h1,h2⟩:=Option.bind_eq_some_iff.1 he
  obtain ⟨b,h3,h4⟩:=Option.bind_eq_some_iff.1 h2
  obtain ⟨k1,k2⟩:=H x a h1
  obtain ⟨k3,k4⟩:=H v b h3
  split at h4
  ·have:=Qnm R hb hsub h4 hv k4
   rw [← k1,← k3] at this
   exact this
  have:=Qsp R hb hsub h4 hv k4
  rw [← k1,← k3] at this
  exact this
 case nilCheck x =>
  obtain ⟨a,h1,h2⟩:=Option.bind_eq_some_iff.1 he
  obtain ⟨k1,k2⟩:=H x a h1
  cases a <;> simp only [eNil] at h2 <;> first | cases h2 | skip
  rename_i id off
  split at h2
  ·rename_i cs hcs
   cases h2
   obtain ⟨b,o,g1,g2,g3,g4,g5⟩:=Ko R hsub hcs
   refine Snd.pure R g5 ?_
   simp [execOp,k1,val,g1,padd]
  ·cases h2
 case makeMap T r' =>
  cases r' with
  | some r'=>simp at he
  | none =>
   simp only at he
   split at he
   ·exact Qte R hb he
   ·cases he
 case mapUpdate T x y z =>
  obtain ⟨a,h1,h2⟩:=Option.bind_eq_some_iff.1 he
  obtain ⟨b,h3,h4⟩:=Option.bind_eq_some_iff.1 h2
  obtain ⟨c,h5,h6⟩:=Option.bind_eq_some_iff.1 h4
  obtain ⟨k1,k2⟩:=H x a h1
  obtain ⟨k3,k4⟩:=H y b h3
  obtain ⟨k5,k6⟩:=H z c h5
  split at h6
  ·have:=Qoi R hb hsub h6 hv
   rw [← k1,← k3,← k5] at this
   exact this
  ·cases h6
 case lookup T x i c =>
  cases c with
  | true=>simp at he
  | false =>
   simp only [cond_false] at he
   obtain ⟨a,h1,h2⟩:=Option.bind_eq_some_iff.1 he
   obtain ⟨b,h3,h4⟩:=Option.bind_eq_some_iff.1 h2
   obtain ⟨k1,k2⟩:=H x a h1
   obtain ⟨k3,k4⟩:=H i b h3
   split at h4
   ·have:=Ku (base:=base) R (Qsw R hsub h4 hv)
    rw [← k1,← k3] at this
    exact this
   ·cases h4
 case binOp o T x y T' =>
  obtain ⟨a,h1,h2⟩:=Option.bind_eq_some_iff.1 he
  obtain ⟨b,h3,h4⟩:=Option.bind_eq_some_iff.1 h2
  obtain ⟨k1,k2⟩:=H x a h1
  obtain ⟨k3,k4⟩:=H y b h3
  have:=Ku (base:=base) R (Ueh (w:=w) R h4 hv x y)
  rw [← k1,← k3] at this
  exact this
 case unOp o T x =>
  obtain ⟨a,h1,h2⟩:=Option.bind_eq_some_iff.1 he
  obtain ⟨k1,k2⟩:=H x a h1
  split at h2
  ·rename_i a
   obtain ⟨v,h3,rfl⟩:=Option.map_eq_some_iff.1 h2
   refine Snd.pure R trivial ?_
   have:=unV_ok (P:=P) h3 w
   simp [execOp,k1,val,this]
  ·cases h2
 case convert s d x =>
  obtain ⟨a,h1,h2⟩:=Option.bind_eq_some_iff.1 he
  obtain ⟨k1,k2⟩:=H x a h1
  split at h2
  ·obtain ⟨q1,q2,q3⟩:=Qsu R hsub h2 hv
   have:=Ku (base:=base) R ⟨q1,q2,q3⟩
   rw [← k1] at this
   exact this
  ·unfold eConv at h2
   split at h2
   ·split at h2
    ·rename_i k n u k' hs hd
     cases h2
     refine Snd.pure R trivial ?_
     cases u <;> simp [execOp,k1,val,convert,run_underlying hs,run_underlying hd,Conv.intToInt]
    ·cases h2
   ·split at h2
    ·rename_i ss u hs hd
     cases h2
     refine Snd.pure R trivial ?_
     cases u <;> simp [execOp,k1,val,convert,run_underlying hs,run_underlying hd]
    ·cases h2
   ·cases h2
 case makeFunc fn first cap =>
  split at he
  case h_2=>cases he
  rename_i f hfirst
  have hfirst:first=#[]:=by apply Array.ext'; rw [hfirst]
  subst hfirst
  obtain ⟨a,h1,rfl⟩:=Option.map_eq_some_iff.1 he
  obtain ⟨k1,k2⟩:=Qhe H h1
  refine Snd.pure R k2 ?_
  have e:cap.map ρ=(vals β a).toArray:=by apply Array.ext'; rw [Array.toList_map,k1]
  simp [execOp,Instr.makeFunc,e,val]
 case makeSlice T l c =>
  obtain ⟨a,h1,h2⟩:=Option.bind_eq_some_iff.1 he
  obtain ⟨b,h3,h4⟩:=Option.bind_eq_some_iff.1 h2
  obtain ⟨d,h5,h6⟩:=Option.bind_eq_some_iff.1 h4
  obtain ⟨k1,k2⟩:=H l a h1
  obtain ⟨k3,k4⟩:=H c b h3
  have:=Qvg R hb h6 hv
  rw [← k1,← k3] at this
  exact this
 case slice T x lo hi mx =>
  cases mx with
  | some m=>cases he
  | none =>
  simp only at he
  obtain ⟨a,h1,h2⟩:=Option.bind_eq_some_iff.1 he
  obtain ⟨l,h3,h4⟩:=Option.bind_eq_some_iff.1 h2
  obtain ⟨hh,h5,h6⟩:=Option.bind_eq_some_iff.1 h4
  obtain ⟨k1,k2⟩:=H x a h1
  have k3:=Ubi H h3
  have k4:=Ubi H h5
  have e:(execOp ρ ⟨dst,.slice T x lo hi none,type,pos,after,guard⟩)=(do pure (Next.value (← Instr.sliceAt T (val β a) (l.map (val β)) (hh.map (val β)) none)):Sem Next):=by
   rw [← k1,← k3,← k4]; rfl
  rw [e]
  split at h6
  ·rename_i hT
   exact Ku R (Qlm hT h6 hv)
  ·rename_i U hT
   cases hp:h.isPart with
   | false =>
    rw [hp] at h6
    simp only [cond_false] at h6
    cases hp2:h.isSv with
    | false=>rw [hp2] at h6; exact Ugr R hb hsub h6 hv (by simp [Jb,hT])
    | true=>rw [hp2] at h6; exact Udd R hb hsub h6 hv (by simp [Jb,hT])
   | true=>rw [hp] at h6; exact Qur R hb hsub h6 hv (by simp [Jb,hT])
  ·cases h6
 case fieldAddr T x i =>
  obtain ⟨a,h1,h2⟩:=Option.bind_eq_some_iff.1 he
  obtain ⟨k1,k2⟩:=H x a h1
  have:=Qdj R hsub h2
  have h3:=Ku (base:=base) R ⟨this.1,this.2.1,this.2.2.1⟩
  rw [← k1] at h3
  exact h3
 case field T x i =>
  obtain ⟨a,h1,h2⟩:=Option.bind_eq_some_iff.1 he
  obtain ⟨k1,k2⟩:=H x a h1
  have:=Qtc (w:=w) (β:=β) h2 k2
  have h3:=Ku (base:=base) R ⟨this.1,this.2.1,this.2.2.1⟩
  rw [← k1] at h3
  exact h3
 case indexAddr T x i =>
  obtain ⟨a,h1,h2⟩:=Option.bind_eq_some_iff.1 he
  obtain ⟨b,h3,h4⟩:=Option.bind_eq_some_iff.1 h2
  obtain ⟨k1,k2⟩:=H x a h1
  obtain ⟨k3,k4⟩:=H i b h3
  have:=Ufe R hb hsub h4 hv
  rw [← k1,← k3] at this
  exact this
 case index T x i =>
  obtain ⟨a,h1,h2⟩:=Option.bind_eq_some_iff.1 he
  obtain ⟨b,h3,h4⟩:=Option.bind_eq_some_iff.1 h2
  obtain ⟨k1,k2⟩:=H x a h1
  obtain ⟨k3,k4⟩:=H i b h3
  split at h4
  ·rename_i hT
   have:=Ku (base:=base) R (Qll (w:=w) (β:=β) hT h4 hv)
   rw [← k1,← k3] at this
   exact this
  ·cases h4
 case extract x i =>
  obtain ⟨a,h1,h2⟩:=Option.bind_eq_some_iff.1 he
  obtain ⟨k1,k2⟩:=H x a h1
  have:=Qjy (P:=P) (w:=w) (β:=β) h2 k2
  have h3:=Ku (base:=base) R ⟨this.1,this.2.1,this.2.2.1⟩
  rw [← k1] at h3
  exact h3
 case call c=>exact Qtw hD R hb hsub H he hv
end
section
variable {D:Bool} {P:Program} {l:List Oper}
theorem Qwg {Q:Exit→Act→World→Prop} {Inv:(Nat→Prop)→Act→World→Prop} (hext:∀ S S' a w,(∀ i,i<l.length→(S i↔S' i))→Inv S a w→Inv S' a w)
  (step:∀ S a w i o,l[i]?=some o→(∀ k,S k↔k<i)→Inv S a w→wpOp P l.toArray Q i (fun a' w'=>Inv (fun k=>S k∨k=i) a' w') a w) (fin:∀ a w,Inv (fun k=>k<l.length) a w→Q .normal a w) :
  ∀ (n i:Nat),i+n=l.length→∀ a w,Inv (fun k=>k<i) a w→wpOps P l.toArray Q (List.range' i n) a w:=by
 intro n
 induction n with
 | zero =>
  intro i hi a w H
  obtain rfl:i=l.length:=by omega
  exact fin a w H
 | succ n ih =>
  intro i hi a w H
  have hlt:i<l.length:=by omega
  rw [List.range'_succ,wpOps_cons]
  refine wpOp_mono ?_ (step _ a w i _ (List.getElem?_eq_getElem hlt) (fun k=>Iff.rfl) H)
  intro a' w' H'
  exact ih (i+1) (by omega) a' w' (hext _ _ _ _ (fun k _=>by omega) H')
theorem Uel {Q:Exit→Act→World→Prop} {Inv:(Nat→Prop)→Act→World→Prop} (hext:∀ S S' a w,(∀ i,i<l.length→(S i↔S' i))→Inv S a w→Inv S' a w)
  (back:∀ i o,l[i]?=some o→∀ e∈o.after,Region.binds .any e=true→e.on<i)
  (step:∀ S a w i o,l[i]?=some o→¬ S i→(∀ e∈o.after,Region.binds .any e=true→S e.on)→(∀ k ok,l[k]?=some ok→S k→∀ e∈ok.after,Region.binds .any e=true→S e.on)→Inv S a w→wpOp P l.toArray Q i (fun a' w'=>Inv (fun k=>S k∨k=i) a' w') a w)
  (fin:∀ a w,Inv (fun k=>k<l.length) a w→Q .normal a w) :
  ∀ (fuel:Nat) (listed:Array Bool) (a:Act) (w:World),listed.size=l.length→(listed.toList.filter (!·)).length≤fuel→(∀ k ok,l[k]?=some ok→listed.getD k false=true→∀ e∈ok.after,Region.binds .any e=true→listed.getD e.on false=true) →
   Inv (fun k=>listed.getD k false=true) a w→wpAny P .any l.toArray Q fuel listed a w:=by
 have hfin:∀ (listed:Array Bool) a w,listed.size=l.length→Region.ready .any l.toArray listed=[]→(∀ k ok,l[k]?=some ok→listed.getD k false=true→∀ e∈ok.after,Region.binds .any e=true→listed.getD e.on false=true)→Inv (fun k=>listed.getD k false=true) a w→Q .normal a w:=by
  intro listed a w hsz hr hd H
  have hall:∀ i,i<l.length→listed.getD i false=true:=by
   intro i
   induction i using Nat.strongRecOn with
   | _ i ih =>
    intro hi
    cases hb:listed.getD i false with
    | true=>rfl
    | false =>
     have:i∈Region.ready .any l.toArray listed:=by
      refine mem_ready.2 ⟨?_,l[i],by simp,fun e he hbd=>ih _ (back i _ (List.getElem?_eq_getElem hi) e he hbd) (Nat.lt_trans (back i _ (List.getElem?_eq_getElem hi) e he hbd) hi)⟩
      simp only [Array.getD_eq_getD_getElem?,Array.getElem?_eq_getElem (by omega:i<listed.size),Option.getD_some] at hb ⊢
      exact hb
     rw [hr] at this; cases this
  exact fin a w (hext _ _ _ _ (fun i hi=>⟨fun _=>hi,fun _=>hall i hi⟩) H)
 intro fuel
 induction fuel with
 | zero =>
  intro listed a w hsz hf hd H
  have hr:Region.ready .any l.toArray listed=[]:=by
   refine List.eq_nil_iff_forall_not_mem.2 fun j hj=>?_
   obtain ⟨h0,o,ho,_⟩:=mem_ready.1 hj
   have hjl:j<l.length:=by have:=(Array.getElem?_eq_some_iff.1 ho).1; simpa using this
   have h0':listed.toList.filter (!·)=[]:=List.eq_nil_of_length_eq_zero (by omega)
   simp only [Array.getD_eq_getD_getElem?,Array.getElem?_eq_getElem (by omega:j<listed.size),Option.getD_some] at h0
   have:(listed[j]'(by omega))∈listed.toList.filter (!·):=List.mem_filter.2 ⟨by simp,by simp [h0]⟩
   rw [h0'] at this; cases this
  exact ⟨hr,hfin listed a w hsz hr hd H⟩
 | succ fuel ih =>
  intro listed a w hsz hf hd H
  refine ⟨fun hr=>hfin listed a w hsz hr hd H,fun i hi=>?_⟩
  obtain ⟨h0,o,ho,hpre⟩:=mem_ready.1 hi
  have ho2:l[i]?=some o:=by simpa using ho
  have hil:i<l.length:=(List.getElem?_eq_some_iff.1 ho2).1
  have hi2:listed[i]'(by omega)=false:=by
   simp only [Array.getD_eq_getD_getElem?,Array.getElem?_eq_getElem (by omega:i<listed.size),Option.getD_some] at h0
   exact h0
  have hnot:¬ listed.getD i false=true:=by
   simp only [Array.getD_eq_getD_getElem?,Array.getElem?_eq_getElem (by omega:i<listed.size),Option.getD_some]
   rw [hi2]; simp
  have hgs:∀ j,((listed.setIfInBounds i true).getD j false=true)↔(listed.getD j false=true∨j=i):=by
   intro j
   by_cases h:j=i
   ·subst h; simp [hsz,hil]
   ·simp only [Array.getD_eq_getD_getElem?]
    rw [Array.getElem?_setIfInBounds_ne (Ne.symm h)]
    simp [h]
  refine wpOp_mono ?_ (step _ a w i o ho2 hnot hpre hd H)
  intro a' w' H'
  refine ih (listed.setIfInBounds i true) a' w' (by simpa using hsz) ?_ (fun k ok hok hk e he hb=>?_) (hext _ _ _ _ (fun j _=>(hgs j).symm) H')
  ·have hspl:listed.toList=listed.toList.take i++false :: listed.toList.drop (i+1):=by
    have hil2:i<listed.toList.length:=by simp; omega
    have:=(List.take_append_drop i listed.toList).symm
    rw [List.drop_eq_getElem_cons hil2] at this
    simpa [hi2] using this
   have hset:(listed.setIfInBounds i true).toList=listed.toList.take i++true :: listed.toList.drop (i+1):=by
    have hlen2:(listed.toList.take i).length=i:=by simp; omega
    rw [Array.toList_setIfInBounds]
    conv=>lhs; rw [hspl]
    rw [List.set_append_right _ _ (by omega)]
    simp [hlen2]
   rw [hset]
   rw [hspl] at hf
   simp only [List.filter_append,List.length_append,List.filter_cons,Bool.not_false,if_true,List.length_cons,Bool.not_true,Bool.false_eq_true,if_false] at hf ⊢
   omega
  ·rw [hgs] at hk ⊢
   rcases hk with hk | rfl
   ·exact .inl (hd k ok hok hk e he hb)
   ·rw [ho2] at hok; cases hok
    exact .inl (hpre e he hb)
end
structure RI:Type 1 where
 keys:List (Nat×Bool)
 r:OpR
def Ld (ks ks':List (Nat×Bool)):Bool:=ks.all fun k=>ks'.any fun k'=>Nat.beq k.1 k'.1&&(k.2==k'.2)
def Jx (anc:Nat→Bool) (keys:List (Nat×Bool)) (t:Nat) (init:Option AV):Nat→List Oper→List RI→Option AV
 | k,o :: os,ri :: rs=>match o.dst with
  | some d=>bif Nat.beq d t then (bif anc k&&Ld ri.keys keys then some ri.r.av else none) else Jx anc keys t init (k+1) os rs
  | none=>Jx anc keys t init (k+1) os rs
 | _,_,_=>init
def Uj:List (Nat×Option Fact)→Nat→Option (Option Fact)
 | [],_=>none
 | (i,o) :: l,id=>match Uj l id with
  | some x=>some x
  | none=>bif Nat.beq i id then some o else none
def Qet (anc:Nat→Bool) (keys:List (Nat×Bool)) (id:Nat):Option Fact→Nat→List RI→Option Fact
 | acc,_,[]=>acc
 | acc,k,ri :: rs=>Qet anc keys id (match Uj ri.r.sets id with
  | none=>acc
  | some o=>bif anc k then (bif Ld ri.keys keys then o else none) else acc) (k+1) rs
def kap (rs:List RI) (k:Nat×Bool):Prop:=match rs[k.1]? with
 | some ri=>(match ri.r.av with | .v (.bool b)=>b=k.2 | _=>False)
 | none=>False
def Qmh:List Prop→Prop→Prop
 | [],p=>p
 | c :: cs,p=>c→Qmh cs p
def Qpb (l:List Oper) (anc:Nat→Bool) (done:List RI):Option (Nat×Bool)→Option (List (Nat×Bool))
 | none=>some []
 | some (j,w)=>match done[j]?,(l[j]?).bind (·.dst) with
  | some rj,some _=>(match rj.r.av with | .v (.bool _)=>bif anc j then some ((j,w) :: rj.keys) else none | _=>none)
  | _,_=>none
def whoW (t:Nat):Nat→List Oper→Option Nat
 | _,[]=>none
 | k,o :: os=>match o.dst with
  | some d=>bif Nat.beq d t then some k else whoW t (k+1) os
  | none=>whoW t (k+1) os
def eqV:AV→AV→AV→Option AV
 | .v (.bool c),.v (.bool a),.v (.bool b)=>some (.v (.bool (bif c then a else b)))
 | _,_,_=>none
def getH {D:Bool} {P:Program}:List (Nat×Hint D P)→Nat→Hint D P
 | [],_=>.no
 | (j,h) :: l,i=>bif Nat.beq j i then h else getH l i
def evI {D:Bool} (P:Program) (l:List Oper) (sl0:Nat→Option AV) (fs0:Nat→Option Fact) (nx:Nat) (anc:Nat→Nat→Bool) (cont:Nat→Nat→Bool) (hs:List (Nat×Hint D P)) (done:List RI) (i:Nat) (o:Oper):Option RI :=
 match Qpb l (anc i) done o.guard with
 | some keys =>
  (match o.op with
  | .pick (.tmp c) a b=>(match whoW c 0 (l.take i) with
   | some jc=>(match opA (fun t=>Jx (anc i) keys t (sl0 t) 0 l done) (.tmp c),opA (fun t=>Jx (anc i) ((jc,true) :: keys) t (sl0 t) 0 l done) a,opA (fun t=>Jx (anc i) ((jc,false) :: keys) t (sl0 t) 0 l done) b with
    | some x,some y,some z=>(eqV x y z).map fun v=>⟨keys,⟨[],v,[]⟩⟩
    | _,_,_=>none)
   | none=>none)
  | op=>(opEv P (fun id=>bif cont i id then none else Qet (anc i) keys id (fs0 id) 0 done) (fun t=>Jx (anc i) keys t (sl0 t) 0 l done) (nx+Qs*i) (getH hs i) op).map fun r=>⟨keys,r⟩)
 | none=>none
def runI {D:Bool} (P:Program) (l:List Oper) (sl0:Nat→Option AV) (fs0:Nat→Option Fact) (nx:Nat) (anc:Nat→Nat→Bool) (cont:Nat→Nat→Bool) (hs:List (Nat×Hint D P)):Nat→List Oper→List RI→Option (List RI)
 | _,[],done=>some done
 | i,o :: os,done=>match evI P l sl0 fs0 nx anc cont hs done i o with
  | some ri=>runI P l sl0 fs0 nx anc cont hs (i+1) os (done++[ri])
  | none=>none
def Hc (l:List Oper) (o:Oper):List Tmp:=opTmps o++(match o.guard with | some (j,_)=>((l[j]?).bind (·.dst)).toList | none=>[])
def chkI (l:List Oper) (N:Nat) (anc:Nat→Nat→Bool) (cont:Nat→Nat→Bool) (i:Nat) (o:Oper) (ri:RI):Bool :=
 Qwj N o.dst&&(match o.op with | .select _ _=>false | _=>true)&&(ri.r.sets.all fun p=>!(cont i p.1)) &&
 (l.zipIdx.all fun (ok,k)=>Nat.beq k i || (match ok.dst with
  | none=>true
  | some d=>(match o.dst with | some d'=>!Nat.beq d d' | none=>true)&&(!(Hc l o).any (fun t=>Nat.beq t d) || anc i k || anc k i)))
def Le (l:List Oper) (N:Nat) (anc:Nat→Nat→Bool) (cont:Nat→Nat→Bool):Nat→List Oper→List RI→Bool
 | i,o :: os,ri :: rs=>chkI l N anc cont i o ri&&Le l N anc cont (i+1) os rs
 | _,[],[]=>true
 | _,_,_=>false
def Qrw (anc:Nat→Nat→Bool) (X:List (List Nat)) (i id:Nat):Bool:=X.zipIdx.any fun (ids,j)=>!(Nat.beq j i)&&!(anc i j)&&!(anc j i)&&ids.any (Nat.beq id)
def Kl (rs:List RI) (ri:RI):Prop:=∀ key∈ri.keys,kap rs key
def fsP (E:Nat→Bool) (id:Nat):Nat→List RI→Option Fact→Option Fact
 | k,ri :: rs,x=>fsP E id (k+1) rs (bif E k then (Uj ri.r.sets id).getD x else x)
 | _,[],x=>x
theorem No (fs:Nat→Option Fact):∀ (l:List (Nat×Option Fact)) (id:Nat),Ud fs l id=(Uj l id).getD (fs id)
 | [],id=>rfl
 | (i,o) :: l,id=>by
  simp only [Ud,Uj]
  rw [No _ l id]
  cases hg:Uj l id with
  | some x=>rfl
  | none =>
   simp only [Option.getD_none,fupd]
   cases Nat.beq i id <;> rfl
theorem Jt:∀ {l:List (Nat×Option Fact)} {id:Nat} {o:Option Fact},Uj l id=some o→∃ p∈l,p.1=id
 | [],id,o,h=>by cases h
 | (i,o') :: l,id,o,h=>by
  simp only [Uj] at h
  cases hg:Uj l id with
  | some x =>
   obtain ⟨p,h1,h2⟩:=Jt hg
   exact ⟨p,List.mem_cons_of_mem _ h1,h2⟩
  | none =>
   rw [hg] at h
   cases hb:Nat.beq i id with
   | false=>rw [hb] at h; cases h
   | true=>exact ⟨_,List.mem_cons_self,Nat.eq_of_beq_eq_true hb⟩
theorem Re {anc:Nat→Bool} {keys:List (Nat×Bool)} {t:Nat} {init:Option AV} {av:AV}:∀ (os:List Oper) (rs:List RI) (k:Nat),Jx anc keys t init k os rs=some av →
  (∃ j o ri,os[j]?=some o∧rs[j]?=some ri∧o.dst=some t∧anc (k+j)=true∧Ld ri.keys keys=true∧av=ri.r.av)∨(init=some av∧∀ (j:Nat) (o:Oper) (ri:RI),os[j]?=some o→rs[j]?=some ri→o.dst≠some t)
 | [],rs,k,h=>by cases rs <;> exact .inr ⟨by simpa [Jx] using h,fun j o ri hj=>by simp at hj⟩
 | o :: os,[],k,h=>.inr ⟨by simpa [Jx] using h,fun j o ri _ hj=>by simp at hj⟩
 | o :: os,ri :: rs,k,h=>by
  have rest:o.dst≠some t→Jx anc keys t init (k+1) os rs=some av→(∃ j o' ri',(o :: os)[j]?=some o'∧(ri :: rs)[j]?=some ri'∧o'.dst=some t∧anc (k+j)=true∧Ld ri'.keys keys=true∧av=ri'.r.av)∨(init=some av∧∀ (j:Nat) (o':Oper) (ri':RI),(o :: os)[j]?=some o'→(ri :: rs)[j]?=some ri'→o'.dst≠some t):=fun hne h'=>by
   rcases Re os rs (k+1) h' with ⟨j,o',ri',h1,h2,h3,h4,h5,h6⟩ | ⟨h1,h2⟩
   ·exact .inl ⟨j+1,o',ri',by simpa using h1,by simpa using h2,h3,by rw [show k+(j+1)=k+1+j by omega]; exact h4,h5,h6⟩
   ·refine .inr ⟨h1,fun j o' ri' hj hr=>?_⟩
    cases j with
    | zero=>simp only [List.getElem?_cons_zero,Option.some.injEq] at hj; exact hj ▸ hne
    | succ j=>exact h2 j o' ri' (by simpa using hj) (by simpa using hr)
  simp only [Jx] at h
  cases hd:o.dst with
  | none =>
   rw [hd] at h
   exact rest (by rw [hd]; simp) h
  | some d =>
   rw [hd] at h
   simp only at h
   cases hb:Nat.beq d t with
   | false =>
    rw [hb] at h
    exact rest (by rw [hd]; intro e; simp only [Option.some.injEq] at e; subst e; simp at hb) h
   | true =>
    rw [hb] at h
    simp only [cond_true] at h
    have hdt:=Nat.eq_of_beq_eq_true hb
    subst hdt
    cases hc:(anc k&&Ld ri.keys keys) with
    | false=>rw [hc] at h; cases h
    | true =>
     rw [hc] at h
     simp only [cond_true,Option.some.injEq] at h
     simp only [Bool.and_eq_true] at hc
     exact .inl ⟨0,o,ri,rfl,rfl,hd,hc.1,hc.2,h.symm⟩
theorem Qrg {t:Nat}:∀ {os:List Oper} {k j:Nat},whoW t k os=some j→∃ i o,j=k+i∧os[i]?=some o∧o.dst=some t
 | [],k,j,h=>by cases h
 | o :: os,k,j,h=>by
  have rest:whoW t (k+1) os=some j→∃ i o',j=k+i∧(o :: os)[i]?=some o'∧o'.dst=some t:=fun h'=>by
   obtain ⟨i,o',h1,h2,h3⟩:=Qrg h'
   exact ⟨i+1,o',by omega,by simpa using h2,h3⟩
  simp only [whoW] at h
  cases hd:o.dst with
  | none=>rw [hd] at h; exact rest h
  | some d =>
   rw [hd] at h
   simp only at h
   cases hb:Nat.beq d t with
   | false=>rw [hb] at h; exact rest h
   | true =>
    rw [hb] at h
    simp only [cond_true,Option.some.injEq] at h
    exact ⟨0,o,by omega,rfl,by rw [hd,Nat.eq_of_beq_eq_true hb]⟩
theorem Qfs {rs:List RI} {ks ks':List (Nat×Bool)} (h:Ld ks ks'=true) (hk:∀ k∈ks',kap rs k):∀ k∈ks,kap rs k:=by
 intro k hk1
 have:=List.all_eq_true.1 h k hk1
 obtain ⟨k',h1,h2⟩:=List.any_eq_true.1 this
 simp only [Bool.and_eq_true] at h2
 have e1:=Nat.eq_of_beq_eq_true h2.1
 have e2:k.2=k'.2:=by simpa using h2.2
 have:k=k':=Prod.ext e1 e2
 exact this ▸ hk k' h1
section
variable {D:Bool} {P:Program} {l:List Oper} {N:Nat} {sl0:Nat→Option AV} {fs0:Nat→Option Fact} {nx:Nat} {anc:Nat→Nat→Bool} {cont:Nat→Nat→Bool} {hs:List (Nat×Hint D P)} {rs:List RI} {ψ IN:Nat→Prop} {w0:World}
structure Inv2 (P:Program) (l:List Oper) (N:Nat) (sl0:Nat→Option AV) (fs0:Nat→Option Fact) (nx:Nat) (rs:List RI) (ψ IN:Nat→Prop) (w0:World) (S:Nat→Prop) (E:Nat→Bool) (β:Nat→Nat→Value) (φ:Nat→List Nat) (dom:Nat→Prop) (a:Act) (w:World):Prop where
 exec:∀ (k:Nat) (ri:RI),rs[k]?=some ri→(E k=true↔S k∧Kl rs ri)
 size:a.tmps.size=N
 defers:a.defers=[]
 old:∀ t av,sl0 t=some av→(∀ (k:Nat) (o:Oper),l[k]?=some o→S k→o.dst≠some t)→a.tmps[t]?=some (val β av)
 oldwf:∀ t av,sl0 t=some av→av.wf dom
 new:∀ (k:Nat) (o:Oper) (ri:RI) (t:Nat),l[k]?=some o→rs[k]?=some ri→S k→o.dst=some t→Kl rs ri→a.tmps[t]?=some (val β ri.r.av)
 newwf:∀ (k:Nat) (ri:RI),rs[k]?=some ri→S k→Kl rs ri→ri.r.av.wf dom
 skip:∀ (k:Nat) (o:Oper) (ri:RI) (t:Nat),l[k]?=some o→rs[k]?=some ri→S k→o.dst=some t→¬ Kl rs ri→a.tmps[t]?=some undef
 rel:Rel P (fun id=>fsP E id 0 rs (fs0 id)) β φ dom ψ IN w0 w
 bound:∀ id,dom id→id<nx∨∃ k,(S k∧k<l.length)∧nx+Qs*k≤id∧id<nx+Qs*(k+1)
structure Reck {D:Bool} (P:Program) (l:List Oper) (N:Nat) (sl0:Nat→Option AV) (fs0:Nat→Option Fact) (nx:Nat) (anc:Nat→Nat→Bool) (cont:Nat→Nat→Bool) (hs:List (Nat×Hint D P)) (rs:List RI):Prop where
 ev:∀ (i:Nat) (o:Oper),l[i]?=some o→∃ ri,rs[i]?=some ri∧evI P l sl0 fs0 nx anc cont hs (rs.take i) i o=some ri
 chk:∀ (i:Nat) (o:Oper) (ri:RI),l[i]?=some o→rs[i]?=some ri→chkI l N anc cont i o ri=true
 len:rs.length=l.length
 lt:∀ i k,anc i k=true→k<i
 cont:∀ (i j:Nat) (rj:RI) (p:Nat×Option Fact),j≠i→rs[j]?=some rj→p∈rj.r.sets→anc i j=false→anc j i=false→cont i p.1=true
theorem Gp {E:Nat→Bool} {id:Nat}:∀ (rs:List RI) (k:Nat) (x:Option Fact),(∀ (j:Nat) (ri:RI),rs[j]?=some ri→E (k+j)=true→Uj ri.r.sets id=none)→fsP E id k rs x=x
 | [],k,x,_=>rfl
 | ri :: rs,k,x,h=>by
  simp only [fsP]
  have e:(bif E k then (Uj ri.r.sets id).getD x else x)=x:=by
   cases hE:E k with
   | true=>rw [h 0 ri rfl hE]; rfl
   | false=>rfl
  rw [e]
  exact Gp rs (k+1) x fun j rj hj hS=>h (j+1) rj (by simpa using hj) (by rw [show k+(j+1)=k+1+j by omega]; exact hS)
theorem Quw (H:Reck P l N sl0 fs0 nx anc cont hs rs) {S:Nat→Prop} {E:Nat→Bool} (hE:∀ (k:Nat) (ri:RI),rs[k]?=some ri→(E k=true↔S k∧Kl rs ri)) {i:Nat} (hi:¬ S i) (hS:∀ k,anc i k=true→S k) (hS':∀ k,S k→anc k i=false) {keys:List (Nat×Bool)} (hk:∀ key∈keys,kap rs key) {id:Nat} (hc:cont i id=false) :
  ∀ (rs2:List RI) (k:Nat) (acc x:Option Fact),(∀ j,rs2[j]?=rs[k+j]?)→(∀ f,acc=some f→x=some f)→∀ f,Qet (anc i) keys id acc k (rs2.take (i-k))=some f→fsP E id k rs2 x=some f:=by
 have hno:∀ (j:Nat) (rj:RI),rs[j]?=some rj→j≠i→anc i j=false→S j→Uj rj.r.sets id=none:=by
  intro j rj hj hne h1 hSj
  cases hg:Uj rj.r.sets id with
  | none=>rfl
  | some o =>
   obtain ⟨p,hp,e⟩:=Jt hg
   have:=H.cont i j rj p hne hj hp h1 (hS' j hSj)
   rw [e,hc] at this
   cases this
 intro rs2
 induction rs2 with
 | nil =>
  intro k acc x hsuf hax f h
  simp only [List.take_nil,Qet] at h
  exact hax f h
 | cons ri rs3 ih =>
  intro k acc x hsuf hax f h
  have hri:rs[k]?=some ri:=by have:=hsuf 0; simpa using this.symm
  by_cases hki:k<i
  ·obtain ⟨m,hm⟩:∃ m,i-k=m+1:=⟨i-k-1,by omega⟩
   rw [hm,List.take_succ_cons] at h
   simp only [Qet] at h
   simp only [fsP]
   refine ih (k+1) _ _ (fun j=>by have:=hsuf (j+1); rw [List.getElem?_cons_succ] at this; rw [this]; congr 1; omega) ?_ f (by rw [show i-(k+1)=m by omega]; exact h)
   intro f' hf'
   cases hg:Uj ri.r.sets id with
   | none =>
    rw [hg] at hf'
    simp only [Option.getD_none]
    have e:(bif E k then x else x)=x:=by cases E k <;> rfl
    rw [e]
    exact hax f' hf'
   | some o =>
    rw [hg] at hf'
    simp only at hf'
    cases ha:anc i k with
    | true =>
     rw [ha] at hf'
     simp only [cond_true] at hf'
     cases hks:Ld ri.keys keys with
     | false=>rw [hks] at hf'; cases hf'
     | true =>
      rw [hks] at hf'
      simp only [cond_true] at hf'
      rw [(hE k ri hri).2 ⟨hS k ha,Qfs hks hk⟩]
      exact hf'
    | false =>
     rw [ha] at hf'
     simp only [cond_false] at hf'
     have hnS:E k=false:=by
      cases hEk:E k with
      | false=>rfl
      | true =>
       have:=hno k ri hri (by omega) ha ((hE k ri hri).1 hEk).1
       rw [this] at hg; cases hg
     rw [hnS]
     exact hax f' hf'
  ·have hz:i-k=0:=by omega
   rw [hz,List.take_zero] at h
   simp only [Qet] at h
   rw [Gp (ri :: rs3) k x fun j rj hj hSj=>?_]
   ·exact hax f h
   ·have hrj:rs[k+j]?=some rj:=by rw [← hsuf j]; exact hj
    have hSj:=((hE _ _ hrj).1 hSj).1
    refine hno (k+j) rj hrj (fun e=>hi (e ▸ hSj)) ?_ hSj
    cases ha:anc i (k+j) with
    | false=>rfl
    | true=>have:=H.lt _ _ ha; omega
theorem Uep (H:Reck P l N sl0 fs0 nx anc cont hs rs) {S:Nat→Prop} {E:Nat→Bool} (hE:∀ (k:Nat) (ri:RI),rs[k]?=some ri→(E k=true↔S k∧Kl rs ri)) {i:Nat} (hi:¬ S i) (hS':∀ k,S k→anc k i=false) {ri:RI} (hri:rs[i]?=some ri) (hcont:∀ p∈ri.r.sets,cont i p.1=false) (id:Nat) (b:Bool) :
  ∀ (rs2:List RI) (k:Nat) (x:Option Fact),k≤i→(∀ j,rs2[j]?=rs[k+j]?)→fsP (fun j=>bif Nat.beq j i then b else E j) id k rs2 x=(bif b then (Uj ri.r.sets id).getD (fsP E id k rs2 x) else fsP E id k rs2 x):=by
 have hEi:E i=false:=by
  cases h:E i with
  | false=>rfl
  | true=>exact absurd ((hE i ri hri).1 h).1 hi
 have hne:∀ k,k≠i→(bif Nat.beq k i then b else E k)=E k:=by
  intro k hk
  have:Nat.beq k i=false:=Bool.eq_false_iff.2 fun h=>hk (Nat.eq_of_beq_eq_true h)
  rw [this]; rfl
 have hsame:∀ (rs2:List RI) (k:Nat) (x:Option Fact),i<k→fsP (fun j=>bif Nat.beq j i then b else E j) id k rs2 x=fsP E id k rs2 x:=by
  intro rs2
  induction rs2 with
  | nil=>intro k x _; rfl
  | cons r rs3 ih =>
   intro k x hk
   simp only [fsP]
   rw [ih (k+1) _ (by omega),hne k (by omega)]
 intro rs2
 induction rs2 with
 | nil =>
  intro k x hk hsuf
  have:=hsuf (i-k)
  rw [show k+(i-k)=i by omega,hri] at this
  simp at this
 | cons r rs3 ih =>
  intro k x hk hsuf
  have hr:rs[k]?=some r:=by have:=hsuf 0; simpa using this.symm
  rcases Nat.lt_or_ge k i with hlt | hge
  ·simp only [fsP]
   rw [hne k (by omega)]
   exact ih (k+1) _ (by omega) fun j=>by have:=hsuf (j+1); rw [List.getElem?_cons_succ] at this; rw [this]; congr 1; omega
  ·obtain rfl:k=i:=by omega
   rw [hri] at hr
   cases hr
   simp only [fsP]
   rw [hsame rs3 (k+1) _ (by omega),hEi]
   have hkk:Nat.beq k k=true:=by simp
   simp only [hkk,cond_true,cond_false]
   cases b with
   | false=>rfl
   | true =>
    simp only [cond_true]
    cases hg:Uj ri.r.sets id with
    | none=>rfl
    | some o =>
     simp only [Option.getD_some]
     obtain ⟨p,hp,e⟩:=Jt hg
     have hcp:=hcont p hp
     rw [e] at hcp
     refine Gp rs3 (k+1) o fun j rj hj hSj=>?_
     have hrj:rs[k+1+j]?=some rj:=by
      have:=hsuf (j+1)
      rw [show k+(j+1)=k+1+j by omega] at this
      rw [← this]; simpa using hj
     have hSj:=((hE _ _ hrj).1 hSj).1
     cases hg2:Uj rj.r.sets id with
     | none=>rfl
     | some o2 =>
      obtain ⟨q,hq,e2⟩:=Jt hg2
      have:=H.cont k (k+1+j) rj q (by omega) hrj hq (by
       cases ha:anc k (k+1+j) with
       | false=>rfl
       | true=>have:=H.lt _ _ ha; omega) (hS' _ hSj)
      rw [e2,hcp] at this
      cases this
end
section
variable {D:Bool} {P:Program} {l:List Oper} {N:Nat} {sl0:Nat→Option AV} {fs0:Nat→Option Fact} {nx:Nat} {anc:Nat→Nat→Bool} {cont:Nat→Nat→Bool} {hs:List (Nat×Hint D P)} {rs:List RI} {ψ IN:Nat→Prop} {w0:World}
theorem Qql {i:Nat} {o:Oper} {ri:RI} (h:chkI l N anc cont i o ri=true) :
  Qwj N o.dst=true∧(∀ cs b,o.op≠.select cs b)∧(∀ p∈ri.r.sets,cont i p.1=false) ∧
  (∀ (k:Nat) (ok:Oper) (d:Nat),l[k]?=some ok→k≠i→ok.dst=some d→o.dst≠some d∧(d∈Hc l o→anc i k=true∨anc k i=true)):=by
 simp only [chkI,Bool.and_eq_true] at h
 obtain ⟨⟨⟨h1,h2⟩,h3⟩,h4⟩:=h
 refine ⟨h1,fun cs b hc=>?_,fun p hp=>?_,fun k ok d hok hne hd=>?_⟩
 ·simp [hc] at h2
 ·have:=List.all_eq_true.1 h3 p hp
  simpa using this
 ·have hmem:(ok,k)∈l.zipIdx:=by rw [List.mem_zipIdx_iff_getElem?]; exact hok
  have:=List.all_eq_true.1 h4 _ hmem
  have hkb:Nat.beq k i=false:=Bool.eq_false_iff.2 fun h=>hne (Nat.eq_of_beq_eq_true h)
  simp only [hkb,Bool.false_or,hd,Bool.and_eq_true,Bool.or_eq_true,Bool.not_eq_true'] at this
  refine ⟨fun hdo=>?_,fun hmt=>?_⟩
  ·rw [hdo] at this
   have h0:=this.1
   simp at h0
  ·rcases this.2 with (h0 | h0) | h0
   ·have:(Hc l o).any (fun t=>Nat.beq t d)=true:=List.any_eq_true.2 ⟨d,hmt,by simp⟩
    rw [this] at h0; cases h0
   ·exact .inl h0
   ·exact .inr h0
theorem Ubd {a b c:Operand} {d:Option Tmp} {ty:TypeId} {pos:String} {af:Array Edge} {g:Option (Nat×Bool)} {w:World} {ρ:Operand→Value} {cb x y:Bool} (h:ρ c=.bool cb) (h1:cb=true→ρ a=.bool x) (h2:cb=false→ρ b=.bool y) :
  (execOp ρ ⟨d,.pick c a b,ty,pos,af,g⟩).run P w=.ok (.value (.bool (bif cb then x else y))) w:=by
 cases cb with
 | true=>simp [execOp,h,asBool,h1 rfl]
 | false=>simp [execOp,h,asBool,h2 rfl]
theorem Inv2.step (hD:D=false→w0.drawn=0) (H:Reck P l N sl0 fs0 nx anc cont hs rs) (hvc:∀ (i:Nat) (ri:RI),rs[i]?=some ri→Kl rs ri→AllP ri.r.vcs) {Q:Exit→Act→World→Prop} {S:Nat→Prop} {E:Nat→Bool} {β:Nat→Nat→Value} {φ:Nat→List Nat} {dom:Nat→Prop} {a:Act} {w:World}
  (V:Inv2 P l N sl0 fs0 nx rs ψ IN w0 S E β φ dom a w) {i:Nat} {o:Oper} (ho:l[i]?=some o) (hi:¬ S i) (hS:∀ k,anc i k=true→S k) (hS':∀ k,S k→anc k i=false) :
  wpOp P l.toArray Q i (fun a' w'=>∃ E' β' φ' dom',Inv2 P l N sl0 fs0 nx rs ψ IN w0 (fun k=>S k∨k=i) E' β' φ' dom' a' w') a w:=by
 obtain ⟨ri,hri,hev⟩:=H.ev i o ho
 obtain ⟨c1,c2,c3,c4⟩:=Qql (H.chk i o ri ho hri)
 have hil:i<l.length:=(List.getElem?_eq_some_iff.1 ho).1
 have hpre:∀ (j:Nat) (rj:RI),(rs.take i)[j]?=some rj↔j<i∧rs[j]?=some rj:=by
  intro j rj
  rw [List.getElem?_take]
  by_cases h:j<i
  ·simp [h]
  ·simp [h]
 have hslot:∀ (keys:List (Nat×Bool)) (t:Nat) (av:AV),(∀ key∈keys,kap rs key)→Jx (anc i) keys t (sl0 t) 0 l (rs.take i)=some av→av.wf dom∧(t∈Hc l o→a.tmps[t]?=some (val β av)) ∧
   (∀ (jc:Nat) (ojc:Oper),jc<i→l[jc]?=some ojc→ojc.dst=some t→∃ rj,rs[jc]?=some rj∧av=rj.r.av):=by
  intro keys t av hk h
  rcases Re l _ 0 h with ⟨j,oj,rj,h1,h2,h3,h4,h5,rfl⟩ | ⟨h1,h2⟩
  ·rw [Nat.zero_add] at h4
   obtain ⟨hji,h2⟩:=(hpre j rj).1 h2
   have hSj:=hS j h4
   have hcj:Kl rs rj:=Qfs h5 hk
   refine ⟨V.newwf j rj h2 hSj hcj,fun _=>V.new j oj rj t h1 h2 hSj h3 hcj,fun jc ojc hjc hojc hd=>?_⟩
   by_cases hjj:jc=j
   ·subst hjj; exact ⟨rj,h2,rfl⟩
   ·exfalso
    obtain ⟨rjc,hrjc,_⟩:=H.ev jc ojc hojc
    exact ((Qql (H.chk jc ojc rjc hojc hrjc)).2.2.2 j oj t h1 (Ne.symm hjj) h3).1 hd
  ·have hnw:∀ (k:Nat) (ok:Oper),k<i→l[k]?=some ok→ok.dst≠some t:=by
    intro k ok hki hok
    obtain ⟨rk,hrk,_⟩:=H.ev k ok hok
    exact h2 k ok rk hok ((hpre k rk).2 ⟨hki,hrk⟩)
   refine ⟨V.oldwf t av h1,fun hmt=>V.old t av h1 fun k ok hok hSk hd=>?_,fun jc ojc hjc hojc hd=>absurd hd (hnw jc ojc hjc hojc)⟩
   by_cases hki:k=i
   ·subst hki; exact hi hSk
   ·rcases (c4 k ok t hok hki hd).2 hmt with h3 | h3
    ·exact hnw k ok (H.lt i k h3) hok hd
    ·rw [hS' k hSk] at h3; cases h3
 have hget:(l.toArray)[i]?=some o:=by simpa using ho
 have hguard:∃ keys,Qpb l (anc i) (rs.take i) o.guard=some keys∧ri.keys=keys:=by
  unfold evI at hev
  split at hev
  ·rename_i keys hg
   refine ⟨keys,hg,?_⟩
   split at hev
   ·split at hev
    ·split at hev
     ·obtain ⟨v,_,rfl⟩:=Option.map_eq_some_iff.1 hev; rfl
     ·cases hev
    ·cases hev
   ·obtain ⟨v,_,rfl⟩:=Option.map_eq_some_iff.1 hev; rfl
  ·cases hev
 obtain ⟨keys,hg,hkeys⟩:=hguard
 have hwant:Region.wanted o (yielded l.toArray a.tmps)=true↔Kl rs ri:=by
  unfold Region.wanted Kl
  rw [hkeys]
  cases hgd:o.guard with
  | none =>
   rw [hgd] at hg
   simp only [Qpb,Option.some.injEq] at hg
   subst hg
   simp
  | some g =>
   obtain ⟨j,want⟩:=g
   rw [hgd] at hg
   simp only [Qpb] at hg
   split at hg
   ·rename_i rj d hrj hd
    split at hg
    ·rename_i b hb
     cases ha:anc i j with
     | false=>rw [ha] at hg; cases hg
     | true =>
      rw [ha] at hg
      simp only [cond_true,Option.some.injEq] at hg
      subst hg
      obtain ⟨hji,hrj⟩:=(hpre j rj).1 hrj
      obtain ⟨oj,hoj,hdj⟩:=Option.bind_eq_some_iff.1 hd
      have hSj:=hS j ha
      have hkap:kap rs (j,want)↔b=want:=by simp only [kap,hrj,hb]
      have hopsl:(l.toArray)[j]?=some oj:=by simpa using hoj
      by_cases hcj:Kl rs rj
      ·have hat:=V.new j oj rj d hoj hrj hSj hdj hcj
       rw [hb] at hat
       have hy:yielded l.toArray a.tmps j=some b:=by simp [yielded,hopsl,hdj,hat,val]
       simp only [hy,List.mem_cons,forall_eq_or_imp,hkap]
       constructor
       ·intro h
        exact ⟨by simpa using h,hcj⟩
       ·intro h
        simpa using h.1
      ·have hat:=V.skip j oj rj d hoj hrj hSj hdj hcj
       have hy:yielded l.toArray a.tmps j=none:=by simp [yielded,hopsl,hdj,hat,undef]
       simp only [hy,List.mem_cons,forall_eq_or_imp]
       constructor
       ·intro h; cases h
       ·intro h; exact absurd h.2 hcj
    ·cases hg
   ·cases hg
 have hputne:∀ (t:Nat) (v:Value),o.dst≠some t→(a.put o.dst v).tmps[t]?=a.tmps[t]?:=by
  intro t v hne
  cases hd:o.dst with
  | none=>rfl
  | some d =>
   have:d≠t:=fun e=>hne (by rw [hd,e])
   simp only [Act.put]
   rw [Array.getElem?_setIfInBounds_ne this]
 have hputeq:∀ (t:Nat) (v:Value),o.dst=some t→(a.put o.dst v).tmps[t]?=some v:=by
  intro t v he
  rw [he]
  have hlt:t<N:=by have:=c1; rw [he] at this; simpa [Qwj] using this
  simp [Act.put,V.size,hlt]
 have hputsz:∀ v,(a.put o.dst v).tmps.size=N∧(a.put o.dst v).defers=[]:=by
  intro v
  cases o.dst <;> simp [Act.put,V.size,V.defers]
 have huniq:∀ (k:Nat) (ok:Oper) (t:Nat),l[k]?=some ok→S k→ok.dst=some t→o.dst≠some t:=fun k ok t hok hSk hd=>(c4 k ok t hok (fun e=>hi (e ▸ hSk)) hd).1
 have hadd:=fun (b:Bool) (id:Nat)=>Uep (nx:=nx) (sl0:=sl0) (fs0:=fs0) (hs:=hs) H V.exec hi hS' hri c3 id b rs 0 (fs0 id) (Nat.zero_le _) (fun j=>by rw [Nat.zero_add])
 have hexec:∀ b:Bool,(b=true↔Kl rs ri)→∀ (k:Nat) (rk:RI),rs[k]?=some rk→((bif Nat.beq k i then b else E k)=true↔(S k∨k=i)∧Kl rs rk):=by
  intro b hb k rk hrk
  by_cases hki:k=i
  ·subst hki
   rw [hri] at hrk; cases hrk
   simp [hb]
  ·have hkb:Nat.beq k i=false:=Bool.eq_false_iff.2 fun h=>hki (Nat.eq_of_beq_eq_true h)
   rw [hkb,cond_false,V.exec k rk hrk]
   simp [hki]
 unfold wpOp
 simp only [hget]
 by_cases hc:Kl rs ri
 ·rw [if_pos (hwant.2 hc)]
  left
  unfold Oper.wp
  have hkk:∀ key∈keys,kap rs key:=hkeys ▸ hc
  have hvs:=hvc i ri hri hc
  have hout:Snd P (fun id=>fsP E id 0 rs (fs0 id)) (nx+Qs*i) ri.r β φ dom ψ IN w0 ((execOp a.eval o).run P w):=by
   unfold evI at hev
   rw [hg] at hev
   simp only at hev
   split at hev
   ·
    rename_i c x y hop
    split at hev
    ·rename_i jc hjc
     split at hev
     ·rename_i vc vx vy h1 h2 h3
      obtain ⟨v,h4,rfl⟩:=Option.map_eq_some_iff.1 hev
      obtain ⟨jj,ojc,hj1,hj2,hj3⟩:=Qrg hjc
      rw [Nat.zero_add] at hj1
      subst hj1
      rw [List.getElem?_take] at hj2
      have hjci:jc<i:=by
       rcases Nat.lt_or_ge jc i with h | h
       ·exact h
       ·rw [if_neg (by omega)] at hj2; cases hj2
      rw [if_pos hjci] at hj2
      obtain ⟨dst,op,type,pos,after,guard⟩:=o
      simp only at hop
      subst hop
      have hrd:∀ z:Operand,z∈[Operand.tmp c,x,y]→∀ t,z=.tmp t→t∈Hc l ⟨dst,.pick (.tmp c) x y,type,pos,after,guard⟩:=by
       intro z hz t ht
       subst ht
       refine List.mem_append_left _ (List.mem_filterMap.2 ⟨.tmp t,?_,rfl⟩)
       simpa [Op.operands] using hz
      have hev1:∀ (ks:List (Nat×Bool)) (z:Operand) (av:AV),z∈[Operand.tmp c,x,y]→(∀ key∈ks,kap rs key)→opA (fun t=>Jx (anc i) ks t (sl0 t) 0 l (rs.take i)) z=some av→a.eval z=val β av:=by
       intro ks z av hz hks hza
       cases z with
       | tmp t =>
        have:=(hslot ks t av hks hza).2.1 (hrd _ hz t rfl)
        simp [Act.eval,this]
       | const v=>simp only [opA,Option.some.injEq] at hza; subst hza; rfl
       | func f=>simp only [opA,Option.some.injEq] at hza; subst hza; rfl
       | global g=>simp [opA] at hza
      unfold eqV at h4
      split at h4
      ·rename_i cb xb yb
       simp only [Option.some.injEq] at h4
       subst h4
       obtain ⟨rj,hrj,hrja⟩:=(hslot keys c _ hkk h1).2.2 jc ojc hjci hj2 hj3
       have hkap:∀ want,kap rs (jc,want)↔cb=want:=by
        intro want
        simp only [kap,hrj,← hrja]
       refine Snd.pure V.rel trivial ?_
       refine Ubd (hev1 keys _ _ (by simp) hkk h1) (fun hcb=>hev1 ((jc,true) :: keys) _ _ (by simp) ?_ h2) (fun hcb=>hev1 ((jc,false) :: keys) _ _ (by simp) ?_ h3)
       ·intro key hkey
        rcases List.mem_cons.1 hkey with rfl | hkey
        ·exact (hkap true).2 hcb
        ·exact hkk key hkey
       ·intro key hkey
        rcases List.mem_cons.1 hkey with rfl | hkey
        ·exact (hkap false).2 hcb
        ·exact hkk key hkey
      ·cases h4
     ·cases hev
    ·cases hev
   ·obtain ⟨r,h1,rfl⟩:=Option.map_eq_some_iff.1 hev
    classical
    let sl:=fun t=>Jx (anc i) keys t (sl0 t) 0 l (rs.take i)
    let ρ:Operand→Value:=fun x=>if x∈o.op.operands then a.eval x else (match opA sl x with | some av=>val β av | none=>undef)
    have hρ:execOp a.eval o=execOp ρ o:=execOp_congr o c2 fun x hx=>by simp [ρ,hx]
    rw [hρ]
    have hSl:SlOK sl β dom ρ:=by
     intro x av hx
     have hwf:av.wf dom:=by
      cases x with
      | tmp t=>exact (hslot keys t av hkk hx).1
      | const v=>simp only [opA,Option.some.injEq] at hx; subst hx; trivial
      | func f=>simp only [opA,Option.some.injEq] at hx; subst hx; trivial
      | global g=>simp [opA] at hx
     refine ⟨?_,hwf⟩
     by_cases hxo:x∈o.op.operands
     ·simp only [ρ,if_pos hxo]
      cases x with
      | tmp t =>
       have hmt:t∈Hc l o:=List.mem_append_left _ (List.mem_filterMap.2 ⟨.tmp t,by simpa using hxo,rfl⟩)
       have:=(hslot keys t av hkk hx).2.1 hmt
       simp [Act.eval,this]
      | const v=>simp only [opA,Option.some.injEq] at hx; subst hx; rfl
      | func f=>simp only [opA,Option.some.injEq] at hx; subst hx; rfl
      | global g=>simp [opA] at hx
     ·simp only [ρ,if_neg hxo,hx]
    refine Ufv hD V.rel (fun id h2 h3 hd=>?_) (fun id f hf=>?_) hSl h1 hvs
    ·rcases V.bound id hd with h4 | ⟨k,⟨hSk,_⟩,h5,h6⟩
     ·unfold Qs at *; omega
     ·have hki:k≠i:=fun e=>hi (e ▸ hSk)
      unfold Qs at *
      omega
    ·cases hcn:cont i id with
     | true=>rw [hcn] at hf; cases hf
     | false =>
      rw [hcn] at hf
      exact Quw H V.exec hi hS hS' hkk hcn rs 0 _ _ (fun j=>by rw [Nat.zero_add]) (fun f h=>h) f (by rw [Nat.sub_zero]; exact hf)
  refine Out.upon hout fun v w' ⟨β',φ',dom',e1,e2,e3,e4,R'⟩=>?_
  refine ⟨fun k=>bif Nat.beq k i then true else E k,β',φ',dom',?_⟩
  have hvc':∀ (av:AV),av.wf dom→val β' av=val β av:=fun av h=>Wz (fun id hid=>(e3 id hid).2) av h
  refine ⟨hexec true (by simp [hc]),(hputsz v).1,(hputsz v).2,fun t av hs hn=>?_,fun t av hs=>AV.wf_mono (fun id h=>(e3 id h).1) _ (V.oldwf t av hs),fun k ok rk t hok hrk hSk hd hck=>?_,fun k rk hrk hSk hck=>?_,fun k ok rk t hok hrk hSk hd hck=>?_,?_,fun id hid=>?_⟩
  ·rw [hputne t v (hn i o ho (.inr rfl)),hvc' av (V.oldwf t av hs)]
   exact V.old t av hs fun k ok hok hSk=>hn k ok hok (.inl hSk)
  ·rcases hSk with hSk | rfl
   ·rw [hputne t v (huniq k ok t hok hSk hd),hvc' _ (V.newwf k rk hrk hSk hck)]
    exact V.new k ok rk t hok hrk hSk hd hck
   ·rw [ho] at hok; cases hok
    rw [hri] at hrk; cases hrk
    rw [hputeq t v hd,e1]
  ·rcases hSk with hSk | rfl
   ·exact AV.wf_mono (fun id h=>(e3 id h).1) _ (V.newwf k rk hrk hSk hck)
   ·rw [hri] at hrk; cases hrk
    exact e2
  ·rcases hSk with hSk | rfl
   ·rw [hputne t v (huniq k ok t hok hSk hd)]
    exact V.skip k ok rk t hok hrk hSk hd hck
   ·rw [hri] at hrk; cases hrk
    exact absurd hc hck
  ·have e:(fun id=>fsP (fun k=>bif Nat.beq k i then true else E k) id 0 rs (fs0 id))=Ud (fun id=>fsP E id 0 rs (fs0 id)) ri.r.sets:=by
    funext id
    rw [hadd true id,No]
    rfl
   rw [e]
   exact R'
  ·rcases e4 id hid with h | ⟨h1,h2⟩
   ·rcases V.bound id h with h | ⟨k,h1,h2⟩
    ·exact .inl h
    ·exact .inr ⟨k,⟨.inl h1.1,h1.2⟩,h2⟩
   ·exact .inr ⟨i,⟨.inr rfl,hil⟩,h1,by unfold Qs at *; omega⟩
 ·rw [if_neg fun h=>hc (hwant.1 h)]
  refine ⟨fun k=>bif Nat.beq k i then false else E k,β,φ,dom,?_⟩
  refine ⟨hexec false (by simp [hc]),(hputsz undef).1,(hputsz undef).2,fun t av hs hn=>?_,V.oldwf,fun k ok rk t hok hrk hSk hd hck=>?_,fun k rk hrk hSk hck=>?_,fun k ok rk t hok hrk hSk hd hck=>?_,?_,fun id hid=>?_⟩
  ·rw [hputne t _ (hn i o ho (.inr rfl))]
   exact V.old t av hs fun k ok hok hSk=>hn k ok hok (.inl hSk)
  ·rcases hSk with hSk | rfl
   ·rw [hputne t _ (huniq k ok t hok hSk hd)]
    exact V.new k ok rk t hok hrk hSk hd hck
   ·rw [hri] at hrk; cases hrk
    exact absurd hck hc
  ·rcases hSk with hSk | rfl
   ·exact V.newwf k rk hrk hSk hck
   ·rw [hri] at hrk; cases hrk
    exact absurd hck hc
  ·rcases hSk with hSk | rfl
   ·rw [hputne t _ (huniq k ok t hok hSk hd)]
    exact V.skip k ok rk t hok hrk hSk hd hck
   ·rw [ho] at hok; cases hok
    exact hputeq t _ hd
  ·have e:(fun id=>fsP (fun k=>bif Nat.beq k i then false else E k) id 0 rs (fs0 id))=fun id=>fsP E id 0 rs (fs0 id):=by
    funext id
    rw [hadd false id]
    rfl
   rw [e]
   exact V.rel
  ·rcases V.bound id hid with h | ⟨k,h1,h2⟩
   ·exact .inl h
   ·exact .inr ⟨k,⟨.inl h1.1,h1.2⟩,h2⟩
structure St:Type 1 where
 sl:List (Nat×Option AV)
 fs:List (Nat×Option Fact)
 nx:Nat
def slG:List (Nat×Option AV)→Nat→Option AV
 | [],_=>none
 | (k,v) :: r,t=>bif Nat.beq k t then v else slG r t
def fsG:List (Nat×Option Fact)→Nat→Option Fact
 | [],_=>none
 | (k,v) :: r,t=>bif Nat.beq k t then v else fsG r t
structure StOK (P:Program) (N:Nat) (ψ IN:Nat→Prop) (w0:World) (s:St) (a:Act) (w:World) (β:Nat→Nat→Value) (φ:Nat→List Nat) (dom:Nat→Prop):Prop where
 size:a.tmps.size=N
 defers:a.defers=[]
 has:∀ t av,slG s.sl t=some av→a.tmps[t]?=some (val β av)∧av.wf dom
 rel:Rel P (fsG s.fs) β φ dom ψ IN w0 w
 bound:∀ id,dom id→id<s.nx
def Za (P:Program) (N:Nat) (ψ IN:Nat→Prop) (w0:World) (s:St) (a:Act) (w:World):Prop:=∃ β φ dom,StOK P N ψ IN w0 s a w β φ dom
def ancT (i k:Nat):Bool:=Nat.blt k i
def ancD (ms:List Nat) (i k:Nat):Bool:=Nat.blt k i&&(ms.getD i 0).testBit k
def keepA (ks:List (Nat×Bool)) (x:AV):Option AV:=match ks with
 | []=>some x
 | _=>none
def Qaz (sl:List (Nat×Option AV)):List Oper→List RI→List (Nat×Option AV)
 | o :: os,ri :: rs=>match o.dst with
  | some d=>Qaz ((d,keepA ri.keys ri.r.av) :: sl) os rs
  | none=>Qaz sl os rs
 | _,_=>sl
def mrgV (b:Bool):Value→Value→Option Value
 | .int k x,.int k' x'=>if k=k' then some (.int k (bif b then x' else x)) else none
 | .bool x,.bool x'=>some (.bool (bif b then x' else x))
 | _,_=>none
def mrgA (b:Bool):AV→AV→Option AV
 | .v x,.v y=>(mrgV b x y).map .v
 | .h g i,.h g' i'=>bif Nat.beq g g'&&Nat.beq i i' then some (.h g i) else none
 | _,_=>none
def mrgL (b:Bool):List AV→List AV→Option (List AV)
 | [],[]=>some []
 | a :: as',c :: cs=>match mrgA b a c,mrgL b as' cs with | some x,some xs=>some (x :: xs) | _,_=>none
 | _,_=>none
def mrgF (b:Bool):Option Fact→Option Fact→Option Fact
 | some (.box T cs),some (.box T' cs')=>bif Nat.beq T T' then (mrgL b cs cs').map (.box T) else none
 | _,_=>none
def keyB (rs0:List RI):List (Nat×Bool)→Option Bool
 | [(j,w)]=>match rs0[j]? with
  | some rj=>(match rj.keys,rj.r.av with
   | [],.v (.bool b)=>some (bif w then b else !b)
   | _,_=>none)
  | none=>none
 | _=>none
def mrgS (rs0:List RI) (fs:List (Nat×Option Fact)) (ks:List (Nat×Bool)) (p:Nat×Option Fact):Option Fact:=match ks with
 | []=>p.2
 | _=>match keyB rs0 ks with
  | some b=>mrgF b (fsG fs p.1) p.2
  | none=>none
def Qep (rs0:List RI) (fs:List (Nat×Option Fact)):List RI→List (Nat×Option Fact)
 | []=>fs
 | ri :: rs=>Qep rs0 ((ri.r.sets.map fun p=>(p.1,mrgS rs0 fs ri.keys p)).reverse++fs) rs
def Mq (rs:List RI):List (List Nat):=rs.map fun ri=>ri.r.sets.map (·.1)
def Ph:List (List Nat)→List (List Nat)→Bool
 | [],_=>true
 | a :: azz,b :: bs=>(a.all fun i=>b.any (Nat.beq i))&&Ph azz bs
 | _ :: _,[]=>false
def backB (l:List Oper):Bool:=l.zipIdx.all fun (o,i)=>o.after.toList.all fun e=>!Region.binds .any e || Nat.blt e.on i
def Qie (rs:List RI):List RI→List Prop
 | []=>[]
 | ri :: r=>(ri.r.vcs.map (Qmh (ri.keys.map (kap rs))))++Qie rs r
def Qke {D:Bool} (P:Program) (N:Nat) (s:St) (l:List Oper) (draw:Bool) (hs:List (Nat×Hint D P)):Option (List Prop×St) :=
 match draw with
 | false=>(match runI P l (slG s.sl) (fsG s.fs) s.nx ancT (fun _ _=>false) hs 0 l [] with
  | some rs=>bif Le l N ancT (fun _ _=>false) 0 l rs then some (Qie rs rs,⟨Qaz s.sl l rs,Qep rs s.fs rs,s.nx+Qs*l.length⟩) else none
  | none=>none)
 | true=>(match runI P l (slG s.sl) (fsG s.fs) s.nx ancT (fun _ _=>false) hs 0 l [] with
  | some rs1=>(match runI P l (slG s.sl) (fsG s.fs) s.nx (ancD (msks l [])) (Qrw (ancD (msks l [])) (Mq rs1)) hs 0 l [] with
   | some rs=>bif backB l&&Ph (Mq rs) (Mq rs1)&&Le l N (ancD (msks l [])) (Qrw (ancD (msks l [])) (Mq rs1)) 0 l rs then some (Qie rs rs,⟨Qaz s.sl l rs,Qep rs s.fs rs,s.nx+Qs*l.length⟩) else none
   | none=>none)
  | none=>none)
end
section
variable {D:Bool} {P:Program} {fs fs':Nat→Option Fact} {β:Nat→Nat→Value} {φ:Nat→List Nat} {dom ψ IN:Nat→Prop} {w0 w w':World}
theorem Rel.sub (R:Rel P fs β φ dom ψ IN w0 w) (h:∀ id f,fs' id=some f→fs id=some f):Rel P fs' β φ dom ψ IN w0 w:=by
 refine ⟨fun id f hf=>?_,fun i j f g hi hj=>R.dis i j f g (h _ _ hi) (h _ _ hj),fun id f hf=>R.lt id f (h _ _ hf),R.psi,R.all1,R.chg,R.glo⟩
 obtain ⟨h1,h2⟩:=R.ok id f (h _ _ hf)
 refine ⟨h1,?_⟩
 have hl:∀ X V,Live fs' X V→Live fs X V:=fun X V ⟨d,hd⟩=>⟨d,h _ _ hd⟩
 cases f with
 | shr dep d =>
  cases dep with
  | none=>exact h2
  | some XV=>exact ⟨h2.1,h2.2.1,fun k=>h2.2.2 (hl _ _ k)⟩
 | mem dep el ds =>
  cases dep with
  | none=>exact h2
  | some XV=>exact ⟨h2.1,h2.2.1,fun k=>h2.2.2 (hl _ _ k)⟩
 | part X V lo sz d=>exact ⟨h2.1,h2.2.1,fun k=>h2.2.2 (hl _ _ k)⟩
 | _=>exact h2
theorem Rel.same (R:Rel P fs β φ dom ψ IN w0 w) (hc:Bel w.heap.size w w'):Rel P fs β φ dom ψ IN w0 w' :=
 R.step (NN:=fun _=>False) (C:=fun _=>False) (Chg.of_below hc) (fun _ h=>⟨h,rfl⟩) R.all1 (fun _ _ h=>.inr h) (fun _ _=>rfl) (fun _ _ h=>h.elim) (fun _ _ h=>h.elim) (fun _ _ _ h=>h.elim) (fun _ _ h=>h.elim) (fun _ _ _ _ h=>h.elim)
end
section
variable {D:Bool} {P:Program} {l:List Oper} {N:Nat} {sl0:Nat→Option AV} {fs0:Nat→Option Fact} {nx:Nat} {anc:Nat→Nat→Bool} {cont:Nat→Nat→Bool} {hs:List (Nat×Hint D P)} {rs:List RI} {ψ IN:Nat→Prop} {w0:World}
theorem Qgm:∀ (os:List Oper) (i:Nat) (done:List RI),runI P l sl0 fs0 nx anc cont hs i os done=some rs→done.length=i →
  rs.length=i+os.length∧rs.take i=done∧∀ (j:Nat) (o:Oper),os[j]?=some o→∃ ri,rs[i+j]?=some ri∧evI P l sl0 fs0 nx anc cont hs (rs.take (i+j)) (i+j) o=some ri
 | [],i,done,h,hd=>by
  simp only [runI,Option.some.injEq] at h
  subst h
  exact ⟨by simpa using hd,by rw [← hd]; exact List.take_length,fun j o hj=>by simp at hj⟩
 | o :: os,i,done,h,hd=>by
  simp only [runI] at h
  split at h
  ·rename_i ri hri
   obtain ⟨h1,h2,h3⟩:=Qgm os (i+1) (done++[ri]) h (by simp [hd])
   have ht:rs.take i=done:=by
    have:=congrArg (List.take i) h2
    rw [List.take_take,Nat.min_eq_left (by omega)] at this
    rw [this,List.take_append_of_le_length (by omega),List.take_of_length_le (by omega)]
   have hri2:rs[i]?=some ri:=by
    have:=congrArg (fun x:List RI=>x[i]?) h2
    simp only [List.getElem?_take,Nat.lt_succ_self,if_true] at this
    rw [this,List.getElem?_append_right (by omega),hd,Nat.sub_self]
    rfl
   refine ⟨by rw [h1,List.length_cons]; omega,ht,fun j o' hj=>?_⟩
   cases j with
   | zero =>
    simp only [List.getElem?_cons_zero,Option.some.injEq] at hj
    subst hj
    exact ⟨ri,hri2,by rw [Nat.add_zero,ht]; exact hri⟩
   | succ j =>
    obtain ⟨rj,g1,g2⟩:=h3 j o' (by simpa using hj)
    rw [show i+1+j=i+(j+1) by omega] at g1 g2
    exact ⟨rj,g1,g2⟩
  ·cases h
theorem Nn:∀ (os:List Oper) (rs:List RI) (i:Nat),Le l N anc cont i os rs=true→∀ (j:Nat) (o:Oper) (ri:RI),os[j]?=some o→rs[j]?=some ri→chkI l N anc cont (i+j) o ri=true
 | [],rs,i,h,j,o,ri,hj,_=>by simp at hj
 | o :: os,[],i,h,j,o',ri,_,hj=>by simp at hj
 | o :: os,ri :: rs,i,h,j,o',ri',hj,hr=>by
  simp only [Le,Bool.and_eq_true] at h
  cases j with
  | zero =>
   simp only [List.getElem?_cons_zero,Option.some.injEq] at hj hr
   subst hj; subst hr
   exact h.1
  | succ j =>
   have:=Nn os rs (i+1) h.2 j o' ri' (by simpa using hj) (by simpa using hr)
   rw [show i+(j+1)=i+1+j by omega]
   exact this
theorem Qdt:∀ {cs:List Prop} {p:Prop},Qmh cs p→(∀ c∈cs,c)→p
 | [],p,h,_=>h
 | c :: cs,p,h,hc=>Qdt (h (hc c List.mem_cons_self)) fun c' h'=>hc c' (List.mem_cons_of_mem _ h')
theorem Qjg {f:Prop→Prop}:∀ {ps:List Prop},AllP (ps.map f)→(∀ p,f p→p)→AllP ps
 | [],_,_=>trivial
 | p :: ps,h,hf=>⟨hf p h.1,Qjg h.2 hf⟩
theorem Quj:∀ (r:List RI),AllP (Qie rs r)→∀ (i:Nat) (ri:RI),r[i]?=some ri→Kl rs ri→AllP ri.r.vcs
 | [],_,i,ri,hi,_=>by simp at hi
 | r0 :: r,h,i,ri,hi,hc=>by
  obtain ⟨h1,h2⟩:=AllP.app h
  cases i with
  | zero =>
   simp only [List.getElem?_cons_zero,Option.some.injEq] at hi
   subst hi
   refine Qjg h1 fun p hp=>Qdt hp fun c hcm=>?_
   obtain ⟨key,hk,rfl⟩:=List.mem_map.1 hcm
   exact hc key hk
  | succ i=>exact Quj r h2 i ri (by simpa using hi) hc
theorem Bp {t:Nat} {av:AV}:∀ (os:List Oper) (rs:List RI) (sl:List (Nat×Option AV)),os.length=rs.length→slG (Qaz sl os rs) t=some av →
  (∃ (k:Nat) (o:Oper) (ri:RI),os[k]?=some o∧rs[k]?=some ri∧o.dst=some t∧ri.keys=[]∧av=ri.r.av)∨(slG sl t=some av∧∀ (k:Nat) (o:Oper),os[k]?=some o→o.dst≠some t)
 | [],[],sl,_,h=>.inr ⟨h,fun k o hk=>by simp at hk⟩
 | [],_ :: _,sl,hl,_=>by simp at hl
 | _ :: _,[],sl,hl,_=>by simp at hl
 | o :: os,ri :: rs,sl,hl,h=>by
  have lift:(∃ (k:Nat) (o':Oper) (ri':RI),os[k]?=some o'∧rs[k]?=some ri'∧o'.dst=some t∧ri'.keys=[]∧av=ri'.r.av)→∃ (k:Nat) (o':Oper) (ri':RI),(o :: os)[k]?=some o'∧(ri :: rs)[k]?=some ri'∧o'.dst=some t∧ri'.keys=[]∧av=ri'.r.av :=
   fun ⟨k,o',ri',h1,h2,h3⟩=>⟨k+1,o',ri',by simpa using h1,by simpa using h2,h3⟩
  have hall:o.dst≠some t→(∀ (k:Nat) (o':Oper),os[k]?=some o'→o'.dst≠some t)→∀ (k:Nat) (o':Oper),(o :: os)[k]?=some o'→o'.dst≠some t:=by
   intro hne ha k o' hk
   cases k with
   | zero=>simp only [List.getElem?_cons_zero,Option.some.injEq] at hk; exact hk ▸ hne
   | succ k=>exact ha k o' (by simpa using hk)
  simp only [Qaz] at h
  cases hd:o.dst with
  | none =>
   rw [hd] at h
   rcases Bp os rs sl (by simpa using hl) h with h1 | ⟨h1,h2⟩
   ·exact .inl (lift h1)
   ·exact .inr ⟨h1,hall (by rw [hd]; simp) h2⟩
  | some d =>
   rw [hd] at h
   rcases Bp os rs _ (by simpa using hl) h with h1 | ⟨h1,h2⟩
   ·exact .inl (lift h1)
   ·simp only [slG] at h1
    cases hb:Nat.beq d t with
    | false =>
     rw [hb] at h1
     exact .inr ⟨h1,hall (by rw [hd]; intro e; simp only [Option.some.injEq] at e; subst e; simp at hb) h2⟩
    | true =>
     rw [hb] at h1
     simp only [cond_true] at h1
     have hdt:=Nat.eq_of_beq_eq_true hb
     cases hk:ri.keys with
     | nil =>
      rw [hk] at h1
      simp only [keepA,Option.some.injEq] at h1
      exact .inl ⟨0,o,ri,rfl,rfl,by rw [hd,hdt],hk,h1.symm⟩
     | cons x xs=>rw [hk] at h1; cases h1
theorem Qhf (g:Nat×Option Fact→Option Fact) (fs:List (Nat×Option Fact)) (id:Nat):∀ (sets:List (Nat×Option Fact)),fsG ((sets.map fun p=>(p.1,g p)).reverse++fs) id=(match Uj sets id with | some o=>g (id,o) | none=>fsG fs id)
 | []=>rfl
 | (i,o) :: sets=>by
  simp only [List.map_cons,List.reverse_cons,List.append_assoc,List.singleton_append]
  rw [Qhf g ((i,g (i,o)) :: fs) id sets]
  simp only [Uj]
  cases Uj sets id with
  | some x=>rfl
  | none =>
   simp only [fsG]
   cases hb:Nat.beq i id with
   | true =>
    have:=Nat.eq_of_beq_eq_true hb
    subst this
    rfl
   | false=>rfl
theorem Ufs {b:Bool} {x y v:Value} (h:mrgV b x y=some v):v=bif b then y else x:=by
 unfold mrgV at h
 split at h
 ·split at h
  ·rename_i hk
   subst hk
   simp only [Option.some.injEq] at h
   subst h
   cases b <;> rfl
  ·cases h
 ·simp only [Option.some.injEq] at h
  subst h
  cases b <;> rfl
 ·cases h
theorem Udy {b:Bool} {x y v:AV} (h:mrgA b x y=some v):v=bif b then y else x:=by
 unfold mrgA at h
 split at h
 ·obtain ⟨v,h1,rfl⟩:=Option.map_eq_some_iff.1 h
  rw [Ufs h1]
  cases b <;> rfl
 ·rename_i g i g' i'
  cases hb:(Nat.beq g g'&&Nat.beq i i') with
  | false=>rw [hb] at h; cases h
  | true =>
   rw [hb] at h
   simp only [Bool.and_eq_true] at hb
   have e1:=Nat.eq_of_beq_eq_true hb.1
   have e2:=Nat.eq_of_beq_eq_true hb.2
   subst e1; subst e2
   simp only [cond_true,Option.some.injEq] at h
   rw [← h]
   cases b <;> rfl
 ·cases h
theorem Qpu {b:Bool}:∀ {xs ys vs:List AV},mrgL b xs ys=some vs→vs=bif b then ys else xs
 | [],[],vs,h=>by
  simp only [mrgL,Option.some.injEq] at h
  rw [← h]; cases b <;> rfl
 | a :: xs,c :: ys,vs,h=>by
  simp only [mrgL] at h
  split at h
  ·rename_i x v h1 h2
   simp only [Option.some.injEq] at h
   rw [← h,Udy h1,Qpu h2]
   cases b <;> rfl
  ·cases h
 | [],_ :: _,vs,h=>by simp [mrgL] at h
 | _ :: _,[],vs,h=>by simp [mrgL] at h
theorem Uew {b:Bool} {x y:Option Fact} {f:Fact} (h:mrgF b x y=some f):(bif b then y else x)=some f:=by
 unfold mrgF at h
 split at h
 ·rename_i T cs T' cs'
  cases hb:Nat.beq T T' with
  | false=>rw [hb] at h; cases h
  | true =>
   rw [hb] at h
   have e1:=Nat.eq_of_beq_eq_true hb
   subst e1
   simp only [cond_true] at h
   obtain ⟨ms,h1,rfl⟩:=Option.map_eq_some_iff.1 h
   rw [Qpu h1]
   cases b <;> rfl
 ·cases h
theorem Qip {E:Nat→Bool} {id:Nat} {f:Fact} {rs0:List RI}:∀ (rs:List RI) (fs:List (Nat×Option Fact)) (k:Nat) (x:Option Fact),(∀ (j:Nat) (ri:RI),rs[j]?=some ri→(ri.keys=[]→E (k+j)=true)∧∀ b,keyB rs0 ri.keys=some b→E (k+j)=b)→(∀ g,fsG fs id=some g→x=some g)→fsG (Qep rs0 fs rs) id=some f→fsP E id k rs x=some f
 | [],fs,k,x,_,hx,h=>hx f h
 | ri :: rs,fs,k,x,hE,hx,h=>by
  simp only [Qep] at h
  simp only [fsP]
  refine Qip rs _ (k+1) _ (fun j rj hj=>by have:=hE (j+1) rj (by simpa using hj); rwa [show k+(j+1)=k+1+j by omega] at this) ?_ h
  intro g hg
  rw [Qhf (mrgS rs0 fs ri.keys)] at hg
  obtain ⟨e0,e1⟩:=hE 0 ri rfl
  rw [Nat.add_zero] at e0 e1
  cases hs:Uj ri.r.sets id with
  | none =>
   rw [hs] at hg
   simp only at hg
   have e:(bif E k then Option.getD none x else x)=x:=by cases E k <;> rfl
   rw [e]
   exact hx g hg
  | some o =>
   rw [hs] at hg
   simp only at hg
   cases hk:ri.keys with
   | nil =>
    rw [hk] at hg
    rw [e0 hk]
    exact hg
   | cons y ys =>
    rw [hk] at hg e1
    unfold mrgS at hg
    simp only at hg
    cases hb:keyB rs0 (y :: ys) with
    | none=>rw [hb] at hg; cases hg
    | some b =>
     rw [hb] at hg
     simp only at hg
     have h2:=Uew hg
     rw [e1 b hb]
     cases b with
     | true=>exact h2
     | false=>exact hx g h2
theorem Ra (hD:D=false→w0.drawn=0) {s:St} (H:Reck P l N (slG s.sl) (fsG s.fs) s.nx anc cont hs rs) (hv:AllP (Qie rs rs)) (Q:Exit→Act→World→Prop) :
  (∀ S a w i o,l[i]?=some o→¬ S i→(∀ k,anc i k=true→S k)→(∀ k,S k→anc k i=false)→(∃ E β φ dom,Inv2 P l N (slG s.sl) (fsG s.fs) s.nx rs ψ IN w0 S E β φ dom a w)→wpOp P l.toArray Q i (fun a' w'=>∃ E β φ dom,Inv2 P l N (slG s.sl) (fsG s.fs) s.nx rs ψ IN w0 (fun k=>S k∨k=i) E β φ dom a' w') a w) ∧
  (∀ a w,(∃ E β φ dom,Inv2 P l N (slG s.sl) (fsG s.fs) s.nx rs ψ IN w0 (fun k=>k<l.length) E β φ dom a w)→Za P N ψ IN w0 ⟨Qaz s.sl l rs,Qep rs s.fs rs,s.nx+Qs*l.length⟩ a w) ∧
  (∀ S S' a w,(∀ i,i<l.length→(S i↔S' i))→(∃ E β φ dom,Inv2 P l N (slG s.sl) (fsG s.fs) s.nx rs ψ IN w0 S E β φ dom a w)→∃ E β φ dom,Inv2 P l N (slG s.sl) (fsG s.fs) s.nx rs ψ IN w0 S' E β φ dom a w) ∧
  (∀ a w,Za P N ψ IN w0 s a w→∃ E β φ dom,Inv2 P l N (slG s.sl) (fsG s.fs) s.nx rs ψ IN w0 (fun _=>False) E β φ dom a w):=by
 have hl:∀ (k:Nat) (o:Oper),l[k]?=some o→k<l.length:=fun k o h=>(List.getElem?_eq_some_iff.1 h).1
 have hr:∀ (k:Nat) (r:RI),rs[k]?=some r→k<l.length:=fun k o h=>by rw [← H.len]; exact (List.getElem?_eq_some_iff.1 h).1
 refine ⟨fun S a w i o ho hi hS hS' ⟨E,β,φ,dom,V⟩=>V.step hD H (Quj rs hv) ho hi hS hS',fun a w ⟨E,β,φ,dom,V⟩=>⟨β,φ,dom,V.size,V.defers,fun t av ht=>?_,V.rel.sub fun id f hf=>?_,fun id hid=>?_⟩,fun S S' a w hSS ⟨E,β,φ,dom,V⟩=>?_,fun a w ⟨β,φ,dom,V⟩=>?_⟩
 ·rcases Bp l rs s.sl H.len.symm ht with ⟨k,o,ri,h1,h2,h3,h4,rfl⟩ | ⟨h1,h2⟩
  ·have hc:Kl rs ri:=fun key hk=>by rw [h4] at hk; cases hk
   exact ⟨V.new k o ri t h1 h2 (hl k o h1) h3 hc,V.newwf k ri h2 (hl k o h1) hc⟩
  ·exact ⟨V.old t av h1 fun k o hk _=>h2 k o hk,V.oldwf t av h1⟩
 ·refine Qip rs s.fs 0 _ (fun j ri hj=>⟨fun hk=>?_,fun b hb=>?_⟩) (fun g h=>h) hf
  ·rw [Nat.zero_add]
   exact (V.exec j ri hj).2 ⟨hr j ri hj,fun key hkm=>by rw [hk] at hkm; cases hkm⟩
  ·rw [Nat.zero_add]
   have hx:=V.exec j ri hj
   unfold keyB at hb
   split at hb
   ·rename_i jk w hks
    split at hb
    ·rename_i rj hrj
     split at hb
     ·rename_i b0 hk0 ha0
      simp only [Option.some.injEq] at hb
      have hc:Kl rs ri↔b0=w:=by
       unfold Kl
       rw [hks]
       simp only [List.mem_singleton,forall_eq,kap,hrj,ha0]
      rw [hc] at hx
      have hj':=hr j ri hj
      rw [Bool.eq_iff_iff,hx,← hb]
      cases w <;> cases b0 <;> simp [hj']
     ·cases hb
    ·cases hb
   ·cases hb
 ·rcases V.bound id hid with h | ⟨k,h1,h2,h3⟩
  ·show id<s.nx+Qs*l.length
   omega
  ·show id<s.nx+Qs*l.length
   unfold Qs at *
   omega
 ·refine ⟨E,β,φ,dom,fun k ri hk=>?_,V.size,V.defers,fun t av hs hn=>V.old t av hs fun k o hk hS=>hn k o hk ((hSS k (hl k o hk)).1 hS),V.oldwf,fun k o ri t h1 h2 hS=>V.new k o ri t h1 h2 ((hSS k (hl k o h1)).2 hS),fun k ri h1 hS=>V.newwf k ri h1 ((hSS k (hr k ri h1)).2 hS),fun k o ri t h1 h2 hS=>V.skip k o ri t h1 h2 ((hSS k (hl k o h1)).2 hS),V.rel,fun id hid=>?_⟩
  ·rw [V.exec k ri hk,hSS k (hr k ri hk)]
  ·rcases V.bound id hid with h | ⟨k,h1,h2,h3⟩
   ·exact .inl h
   ·exact .inr ⟨k,⟨(hSS k h1.2).1 h1.1,h1.2⟩,h2,h3⟩
 ·refine ⟨fun _=>false,β,φ,dom,fun k ri hk=>by simp,V.size,V.defers,fun t av hs _=>(V.has t av hs).1,fun t av hs=>(V.has t av hs).2,fun _ _ _ _ _ _ h=>h.elim,fun _ _ _ h=>h.elim,fun _ _ _ _ _ _ h=>h.elim,?_,fun id hid=>.inl (V.bound id hid)⟩
  have e:(fun id=>fsP (fun _=>false) id 0 rs (fsG s.fs id))=fsG s.fs:=by
   funext id
   exact Gp rs 0 _ fun j ri hj h=>by cases h
  rw [e]
  exact V.rel
theorem Qvl {i k:Nat}:ancT i k=true↔k<i:=by simp [ancT]
theorem Qsb {i k:Nat}:ancT i k=false↔¬ k<i:=by rw [← Qvl]; simp
def Par (n:List Nat) (a a':Act):Prop:=∀ t,t∈n→a'.tmps[t]?=a.tmps[t]?
def parD (n:List Nat):Option Tmp→Bool
 | some d=>!(n.any (Nat.beq d))
 | none=>true
def parL (n:List Nat) (l:List Oper):Bool:=l.all fun o=>parD n o.dst
theorem Par.put {n:List Nat} {a0 a:Act} (h:Par n a0 a) {o:Oper} (ho:parD n o.dst=true) (v:Value):Par n a0 (a.put o.dst v):=by
 intro t ht
 rw [← h t ht]
 cases hd:o.dst with
 | none=>rfl
 | some d =>
  rw [hd] at ho
  have hne:d≠t:=fun e=>by
   have:n.any (Nat.beq d)=true:=List.any_eq_true.2 ⟨t,ht,by rw [e]; simp⟩
   simp [parD,this] at ho
  simp only [Act.put]
  rw [Array.getElem?_setIfInBounds_ne hne]
theorem Qib {n:List Nat} {i:Nat} {a0 a:Act} {w:World} {K:Act→World→Prop} {Q:Exit→Act→World→Prop} (hl:parL n l=true) (h0:Par n a0 a) (h:wpOp P l.toArray Q i K a w):wpOp P l.toArray Q i (fun a' w'=>K a' w'∧Par n a0 a') a w:=by
 unfold wpOp at h ⊢
 cases ho:l.toArray[i]? with
 | none=>rw [ho] at h; exact ⟨h,h0⟩
 | some o =>
  rw [ho] at h
  have hp:parD n o.dst=true:=List.all_eq_true.1 hl o (List.mem_of_getElem? (by simpa using ho))
  simp only at h ⊢
  split at h
  ·rename_i hw
   rw [if_pos hw]
   refine h.imp (fun h=>?_) id
   unfold Oper.wp at h ⊢
   generalize (execOp a.eval o).run P w=r at h ⊢
   cases r with
   | ok nx w' =>
    cases nx <;> simp only [Oper.upon] at h ⊢ <;> first
     | exact ⟨h,h0.put hp _⟩
     | (rename_i d; exact ⟨h,Par.put (n:=n) (a0:=a0) (a:={ a with defers:=d :: a.defers }) (fun t ht=>h0 t ht) hp undef⟩)
     | exact Calls.mono h fun e w2 hh=>by cases e <;> first | exact ⟨hh,h0.put hp _⟩ | exact hh
     | exact Rows.mono h fun v w2 hh=>⟨hh,h0.put hp _⟩
     | exact h
   | halt x w'=>cases x <;> simp only [Oper.upon] at h ⊢ <;> exact h
  ·rename_i hw
   rw [if_neg hw]
   exact ⟨h,h0.put hp _⟩
theorem Qum (hD:D=false→w0.drawn=0) (hm:P.follows .mixedOrders=true) {s s':St} {draw:Bool} {hs:List (Nat×Hint D P)} {vcs:List Prop} (h:Qke P N s l draw hs=some (vcs,s')) (hv:AllP vcs) {a:Act} {w:World} (H:Za P N ψ IN w0 s a w) {Q:Exit→Act→World→Prop} {n:List Nat} (hpar:parL n l=true)
  (hQ:∀ a' w',Za P N ψ IN w0 s' a' w'→Par n a a'→Q .normal a' w') (id:Nat):(Code.region id l.toArray draw).wp P Q a w:=by
 unfold Qke at h
 split at h
 ·
  split at h
  ·rename_i rs hrs
   cases hc:Le l N ancT (fun _ _=>false) 0 l rs with
   | false=>rw [hc] at h; cases h
   | true =>
    rw [hc] at h
    simp only [cond_true,Option.some.injEq,Prod.mk.injEq] at h
    obtain ⟨rfl,rfl⟩:=h
    obtain ⟨r1,r2,r3⟩:=Qgm l 0 [] hrs rfl
    have HR:Reck P l N (slG s.sl) (fsG s.fs) s.nx ancT (fun _ _=>false) hs rs:=by
     refine ⟨fun i o ho=>?_,fun i o ri ho hr=>?_,by omega,fun i k hk=>by simpa [ancT] using hk,fun i j rj p hne hj hp h1 h2=>?_⟩
     ·have:=r3 i o ho; rwa [Nat.zero_add] at this
     ·have:=Nn l rs 0 hc i o ri ho hr; rwa [Nat.zero_add] at this
     ·exfalso
      rw [Qsb] at h1 h2
      omega
    obtain ⟨q1,q2,q3,q4⟩:=Ra (w0:=w0) (ψ:=ψ) (IN:=IN) hD HR hv Q
    refine wp_region ?_
    rw [List.range_eq_range']
    have:=Qwg (P:=P) (l:=l) (Q:=Q) (Inv:=fun S a' w'=>(∃ E β φ dom,Inv2 P l N (slG s.sl) (fsG s.fs) s.nx rs ψ IN w0 S E β φ dom a' w')∧Par n a a') (fun S S' a w e h=>⟨q3 S S' a w e h.1,h.2⟩) (fun S a w i o ho hS hI=>Qib hpar hI.2 <| q1 S a w i o ho (fun h=>by have:=(hS i).1 h; omega) (fun k hk=>(hS k).2 (by simpa [ancT] using hk)) (fun k hk=>by
     have:=(hS k).1 hk
     rw [Qsb]; omega) hI.1) (fun a w h=>hQ a w (q2 a w h.1) h.2) l.length 0 (by omega) a w ⟨q3 _ _ a w (fun i _=>by simp) (q4 a w H),fun _ _=>rfl⟩
    simpa using this
  ·cases h
 ·
  split at h
  ·rename_i rs1 hrs1
   split at h
   ·rename_i rs hrs
    cases hc:(backB l&&Ph (Mq rs) (Mq rs1)&&Le l N (ancD (msks l [])) (Qrw (ancD (msks l [])) (Mq rs1)) 0 l rs) with
    | false=>rw [hc] at h; cases h
    | true =>
     rw [hc] at h
     simp only [cond_true,Option.some.injEq,Prod.mk.injEq] at h
     obtain ⟨rfl,rfl⟩:=h
     simp only [Bool.and_eq_true] at hc
     obtain ⟨⟨hbk,hsb⟩,hc⟩:=hc
     obtain ⟨r1,r2,r3⟩:=Qgm l 0 [] hrs rfl
     have back:∀ (i:Nat) (o:Oper),l[i]?=some o→∀ e∈o.after,Region.binds .any e=true→e.on<i:=by
      intro i o ho e he hb
      have hmem:(o,i)∈l.zipIdx:=by rw [List.mem_zipIdx_iff_getElem?]; exact ho
      have:=List.all_eq_true.1 (List.all_eq_true.1 hbk _ hmem) e (by simpa using he)
      simp only [hb,Bool.not_true,Bool.false_or] at this
      simpa using this
     have hsub:∀ (azz bs:List (List Nat)),Ph azz bs=true→∀ (j:Nat) (x:List Nat),azz[j]?=some x→∃ y,bs[j]?=some y∧∀ i∈x,i∈y:=by
      intro azz
      induction azz with
      | nil=>intro bs _ j x hj; simp at hj
      | cons a azz ih =>
       intro bs hb j x hj
       cases bs with
       | nil=>simp [Ph] at hb
       | cons b bs =>
        simp only [Ph,Bool.and_eq_true] at hb
        cases j with
        | zero =>
         simp only [List.getElem?_cons_zero,Option.some.injEq] at hj
         subst hj
         refine ⟨b,rfl,fun i hi=>?_⟩
         obtain ⟨i',h1,h2⟩:=List.any_eq_true.1 (List.all_eq_true.1 hb.1 i hi)
         exact Nat.eq_of_beq_eq_true h2 ▸ h1
        | succ j=>exact ih bs hb.2 j x (by simpa using hj)
     have HR:Reck P l N (slG s.sl) (fsG s.fs) s.nx (ancD (msks l [])) (Qrw (ancD (msks l [])) (Mq rs1)) hs rs:=by
      refine ⟨fun i o ho=>?_,fun i o ri ho hr=>?_,by omega,fun i k hk=>?_,fun i j rj p hne hj hp h1 h2=>?_⟩
      ·have:=r3 i o ho; rwa [Nat.zero_add] at this
      ·have:=Nn l rs 0 hc i o ri ho hr; rwa [Nat.zero_add] at this
      ·simp only [ancD,Bool.and_eq_true] at hk
       simpa using hk.1
      ·obtain ⟨y,hy,hin⟩:=hsub _ _ hsb j (rj.r.sets.map (·.1)) (by simp [Mq,hj])
       refine List.any_eq_true.2 ⟨(y,j),by rw [List.mem_zipIdx_iff_getElem?]; exact hy,?_⟩
       have hb:Nat.beq j i=false:=Bool.eq_false_iff.2 fun h=>hne (Nat.eq_of_beq_eq_true h)
       simp only [hb,h1,h2,Bool.not_false,Bool.true_and]
       exact List.any_eq_true.2 ⟨p.1,hin _ (List.mem_map.2 ⟨p,hp,rfl⟩),by simp⟩
     obtain ⟨q1,q2,q3,q4⟩:=Ra (w0:=w0) (ψ:=ψ) (IN:=IN) hD HR hv Q
     refine wp_region_any hm ?_
     have hfalse:∀ j,(Array.replicate l.length false).getD j false=true↔False:=by
      intro j
      simp only [Array.getD_eq_getD_getElem?,Array.getElem?_replicate]
      split <;> simp
     obtain ⟨β,φ,dom,V⟩:=H
     have H2:Za P N ψ IN w0 s a { w with drawn:=w.drawn+1 }:=⟨β,φ,dom,V.size,V.defers,V.has,V.rel.same ⟨⟨rfl,rfl,rfl,Nat.le_refl _,fun _ _=>rfl⟩,Nat.le_succ _⟩,V.bound⟩
     have:=Uel (P:=P) (l:=l) (Q:=Q) (Inv:=fun S a' w'=>(∃ E β φ dom,Inv2 P l N (slG s.sl) (fsG s.fs) s.nx rs ψ IN w0 S E β φ dom a' w')∧Par n a a') (fun S S' a w e h=>⟨q3 S S' a w e h.1,h.2⟩) back (fun S a w i o ho hn hpre hd hI=>Qib hpar hI.2 <| q1 S a w i o ho hn (fun k hk=>by
       simp only [ancD,Bool.and_eq_true] at hk
       exact Pz (l:=l) (SS:=S) (m:=l.length) (fun i o ho _=>back i o ho) (fun k ok hok hk=>hd k ok hok hk) i o (List.getElem?_eq_some_iff.1 ho).1 ho hpre k hk.2) (fun k hk=>by
       cases ha:ancD (msks l []) k i with
       | false=>rfl
       | true =>
        exfalso
        simp only [ancD,Bool.and_eq_true] at ha
        rcases Nat.lt_or_ge k l.length with hkl | hkl
        ·exact hn (Pz (l:=l) (SS:=S) (m:=l.length) (fun i o ho _=>back i o ho) (fun k ok hok hk=>hd k ok hok hk) k l[k] hkl (List.getElem?_eq_getElem hkl) (hd k l[k] (List.getElem?_eq_getElem hkl) hk) i ha.2)
        ·have hz:(msks l []).getD k 0=0:=by
          have hlen:∀ (l:List Oper) (acc:List Nat),(msks l acc).length=acc.length+l.length:=by
           intro l
           induction l with
           | nil=>intro acc; simp [msks]
           | cons o l ih=>intro acc; simp only [msks,ih]; simp; omega
          rw [List.getD_eq_getElem?_getD,List.getElem?_eq_none (by rw [hlen]; simpa using hkl)]
          rfl
         rw [hz] at ha
         simp at ha) hI.1) (fun a w h=>hQ a w (q2 a w h.1) h.2) l.length (Array.replicate l.length false) a { w with drawn:=w.drawn+1 } (by simp) (by simp) (fun k ok _ h=>((hfalse k).1 h).elim) ⟨q3 _ _ a _ (fun i _=>(hfalse i).symm) (q4 a _ H2),fun _ _=>rfl⟩
     simpa using this
   ·cases h
  ·cases h
end
inductive Src where
 | id (Y:Nat)
 | val (x:Value)
abbrev Ren:=List (Nat×Src)
def renG:Ren→Nat→Option Src
 | [],_=>none
 | (k,s) :: r,X=>bif Nat.beq k X then some s else renG r X
mutual
def mkR:AV→AV→Ren→Ren
 | .h Y _,.h X _,r=>(match renG r X with | some _=>r | none=>(X,.id Y) :: r)
 | .p Y _,.p X _,r=>(match renG r X with | some _=>r | none=>(X,.id Y) :: r)
 | .v x,.h X 0,r=>(match renG r X with | some _=>r | none=>(X,.val x) :: r)
 | .ag cs,.ag ds,r=>mkRs cs ds r
 | .tu cs,.tu ds,r=>mkRs cs ds r
 | .cl _ cs,.cl _ ds,r=>mkRs cs ds r
 | _,_,r=>r
def mkRs:List AV→List AV→Ren→Ren
 | a :: azz,b :: bs,r=>mkRs azz bs (mkR a b r)
 | _,_,r=>r
end
def mkS (sl:Nat→Option AV):List (Nat×Option AV)→Ren→Ren
 | [],r=>r
 | (t,some b) :: l,r=>mkS sl l (match sl t with | some a=>mkR a b r | none=>r)
 | (_,none) :: l,r=>mkS sl l r
def mkF (fs:Nat→Option Fact):List (Nat×Option Fact)→Ren→Ren
 | [],r=>r
 | (X,some (.box _ ds)) :: l,r=>mkF fs l (match renG r X with
  | some (.id Y)=>(match fs Y with | some (.box _ cs)=>mkRs cs ds r | _=>r)
  | _=>r)
 | (X,some (.arr _ ds)) :: l,r=>mkF fs l (match renG r X with
  | some (.id Y)=>(match fs Y with | some (.arr _ cs)=>mkRs cs ds r | _=>r)
  | _=>r)
 | (X,some (.shr (some (X1,_)) _)) :: l,r=>mkF fs l (match renG r X,renG r X1 with
  | some (.id Y),none=>(match fs Y with | some (.shr (some (Y1,_)) _)=>(X1,.id Y1) :: r | _=>r)
  | _,_=>r)
 | _ :: l,r=>mkF fs l r
mutual
def eqA (r:Ren) (nx:Nat):AV→AV→Option (List Prop)
 | .v x,.v y=>some [x=y]
 | a,.h X j=>bif Nat.blt X nx then (match renG r X,a with
  | some (.id Y),.h Y' j'=>bif Nat.beq Y Y'&&Nat.beq j j' then some [] else none
  | some (.val x),.v y=>(match j with | 0=>some [y=x] | _=>none)
  | _,_=>none) else none
 | .p Y' o,.p X o'=>bif Nat.blt X nx then (match renG r X with
  | some (.id Y)=>bif Nat.beq Y Y'&&Nat.beq o o' then some [] else none
  | _=>none) else none
 | .ag cs,.ag ds=>eqAs r nx cs ds
 | .tu cs,.tu ds=>eqAs r nx cs ds
 | .cl f cs,.cl g ds=>bif Nat.beq f g then eqAs r nx cs ds else none
 | _,_=>none
def eqAs (r:Ren) (nx:Nat):List AV→List AV→Option (List Prop)
 | [],[]=>some []
 | a :: azz,b :: bs=>match eqA r nx a b,eqAs r nx azz bs with
  | some p,some q=>some (p++q)
  | _,_=>none
 | _,_=>none
end
def Qfq (r:Ren) (nx:Nat) (sl:Nat→Option AV):List (Nat×Option AV)→Option (List Prop)
 | []=>some []
 | (t,some b) :: l=>match sl t with
  | some a=>(match eqA r nx a b,Qfq r nx sl l with
   | some p,some q=>some (p++q)
   | _,_=>none)
  | none=>none
 | (_,none) :: l=>Qfq r nx sl l
def Yy (r:Ren) (nx:Nat) (fs:Nat→Option Fact) (X:Nat):Fact→Option (List Prop)
 | .box T ds=>match renG r X with
  | some (.id Y)=>(match fs Y with
   | some (.box T' cs)=>bif Nat.beq T T'&&ds.all AV.one then eqAs r nx cs ds else none
   | _=>none)
  | _=>none
 | .own V d=>bif Nat.blt V nx then (match renG r X with
  | some (.id Y)=>(match fs Y with
   | some (.own _ d0)=>some [Imp d0 d]
   | _=>none)
  | some (.val x)=>bif x.oneCell' then some [Imp (.v x) d] else none
  | none=>none) else none
 | .shr none d=>match renG r X with
  | some (.id Y)=>(match fs Y with
   | some (.shr none d0)=>some [Imp d0 d]
   | _=>none)
  | some (.val x)=>bif x.oneCell' then some [Imp (.v x) d] else none
  | none=>none
 | .shr (some (X1,V)) d=>bif Nat.blt X1 nx&&Nat.blt V nx then (match renG r X,renG r X1 with
  | some (.id Y),some (.id Y1)=>(match fs Y with
   | some (.shr (some (Y2,V2)) d0)=>bif Nat.beq Y1 Y2&&Ji fs (some (Y2,V2)) then some [Imp d0 d] else none
   | _=>none)
  | _,_=>none) else none
 | .mem none _ ds=>match renG r X with
  | some (.id Y)=>(match fs Y with
   | some (.mem none _ ds0)=>some [Imps ds0 ds]
   | _=>none)
  | _=>none
 | .vl x d=>match renG r X with
  | some (.id Y)=>(match fs Y with
   | some (.vl x0 d0)=>some [x0=x,Imp d0 d]
   | _=>none)
  | _=>none
 | .arr n ds=>match renG r X with
  | some (.id Y)=>(match fs Y with
   | some (.arr n' cs)=>bif Nat.beq n n'&&ds.all AV.one then eqAs r nx cs ds else none
   | _=>none)
  | _=>none
 | .fn F=>match renG r X with
  | some (.id Y)=>(match fs Y with
   | some (.fn F0)=>some [F0=F]
   | _=>none)
  | _=>none
 | _=>none
def Qen (r:Ren) (nx:Nat) (fs:Nat→Option Fact):List (Nat×Option Fact)→Option (List Prop)
 | []=>some []
 | (X,some f) :: l=>bif Nat.blt X nx then (match Yy r nx fs X f,Qen r nx fs l with
  | some p,some q=>some (p++q)
  | _,_=>none) else none
 | (_,none) :: l=>Qen r nx fs l
def Kj (r:Ren):List (Nat×Option Fact)→List Nat
 | []=>[]
 | (X,some f) :: l=>bif f.mod then (match renG r X with | some (.id Y)=>Y :: Kj r l | _=>Kj r l) else Kj r l
 | (_,none) :: l=>Kj r l
def Hv:Ren→Bool
 | []=>true
 | (_,.val x) :: r=>x.oneCell'&&Hv r
 | _ :: r=>Hv r
def subV (s S:St):Option (List Prop) :=
 let r:=mkF (fsG s.fs) S.fs (mkF (fsG s.fs) S.fs (mkS (slG s.sl) S.sl []))
 bif Wl (Kj r S.fs)&&Hv r&&Wl (S.fs.map (·.1)) then (match Qfq r S.nx (slG s.sl) S.sl,Qen r S.nx (fsG s.fs) S.fs with
  | some p,some q=>some (p++q)
  | _,_=>none) else none
section
variable {P:Program} {N:Nat} {ψ IN:Nat→Prop} {w0:World}
def βR (r:Ren) (β:Nat→Nat→Value):Nat→Nat→Value:=fun X j=>match renG r X with
 | some (.id Y)=>β Y j
 | some (.val x)=>x
 | none=>.bool false
def φR (r:Ren) (φ:Nat→List Nat):Nat→List Nat:=fun X=>match renG r X with
 | some (.id Y)=>φ Y
 | _=>[]
mutual
theorem Qzh {r:Ren} {nx:Nat} {β:Nat→Nat→Value}:∀ (a b:AV) (ps:List Prop),eqA r nx a b=some ps→AllP ps→val (βR r β) b=val β a∧b.wf (·<nx)
 | a,.v y,ps,h,hv=>by
  cases a with
  | v x =>
   simp only [eqA,Option.some.injEq] at h
   subst h
   obtain ⟨rfl,_⟩:=hv
   exact ⟨rfl,trivial⟩
  | _=>simp [eqA] at h
 | a,.h X j,ps,h,hv=>by
  have key:eqA r nx a (.h X j)=(bif Nat.blt X nx then (match renG r X,a with
   | some (.id Y),.h Y' j'=>bif Nat.beq Y Y'&&Nat.beq j j' then some [] else none
   | some (.val x),.v y=>(match j with | 0=>some [y=x] | _=>none)
   | _,_=>none) else none):=by cases a <;> rfl
  rw [key] at h
  cases hx:Nat.blt X nx with
  | false=>rw [hx] at h; cases h
  | true =>
   rw [hx] at h
   simp only [cond_true] at h
   have hX:X<nx:=by simpa using hx
   split at h
   ·rename_i Y Y' j' hr
    cases hb:(Nat.beq Y Y'&&Nat.beq j j') with
    | false=>rw [hb] at h; cases h
    | true =>
     simp only [Bool.and_eq_true] at hb
     have e1:=Nat.eq_of_beq_eq_true hb.1
     have e2:=Nat.eq_of_beq_eq_true hb.2
     subst e1; subst e2
     exact ⟨by simp only [val,βR,hr],hX⟩
   ·rename_i x y hr
    split at h
    ·simp only [Option.some.injEq] at h
     subst h
     obtain ⟨rfl,_⟩:=hv
     exact ⟨by simp only [val,βR,hr],hX⟩
    ·cases h
   ·cases h
 | a,.p X o,ps,h,hv=>by
  cases a with
  | p Y' o' =>
   simp only [eqA] at h
   cases hx:Nat.blt X nx with
   | false=>rw [hx] at h; cases h
   | true =>
    rw [hx] at h
    simp only [cond_true] at h
    have hX:X<nx:=by simpa using hx
    split at h
    ·rename_i Y hr
     cases hb:(Nat.beq Y Y'&&Nat.beq o' o) with
     | false=>rw [hb] at h; cases h
     | true =>
      simp only [Bool.and_eq_true] at hb
      have e1:=Nat.eq_of_beq_eq_true hb.1
      have e2:=Nat.eq_of_beq_eq_true hb.2
      subst e1; subst e2
      exact ⟨by simp only [val,βR,hr],hX⟩
    ·cases h
  | _=>simp [eqA] at h
 | a,.ag ds,ps,h,hv=>by
  cases a with
  | ag cs =>
   simp only [eqA] at h
   obtain ⟨h1,h2⟩:=Gv (β:=β) cs ds ps h hv
   exact ⟨by simp only [val,h1],h2⟩
  | _=>simp [eqA] at h
 | a,.tu ds,ps,h,hv=>by
  cases a with
  | tu cs =>
   simp only [eqA] at h
   obtain ⟨h1,h2⟩:=Gv (β:=β) cs ds ps h hv
   exact ⟨by simp only [val,h1],h2⟩
  | _=>simp [eqA] at h
 | a,.cl g ds,ps,h,hv=>by
  cases a with
  | cl f cs =>
   simp only [eqA] at h
   cases hb:Nat.beq f g with
   | false=>rw [hb] at h; cases h
   | true =>
    rw [hb] at h
    simp only [cond_true] at h
    have e:=Nat.eq_of_beq_eq_true hb
    subst e
    obtain ⟨h1,h2⟩:=Gv (β:=β) cs ds ps h hv
    exact ⟨by simp only [val,h1],h2⟩
  | _=>simp [eqA] at h
theorem Gv {r:Ren} {nx:Nat} {β:Nat→Nat→Value}:∀ (azz bs:List AV) (ps:List Prop),eqAs r nx azz bs=some ps→AllP ps→vals (βR r β) bs=vals β azz∧AVs.wf (·<nx) bs
 | [],[],ps,h,hv=>⟨rfl,trivial⟩
 | a :: azz,b :: bs,ps,h,hv=>by
  simp only [eqAs] at h
  split at h
  ·rename_i p q h1 h2
   simp only [Option.some.injEq] at h
   subst h
   obtain ⟨v1,v2⟩:=AllP.app hv
   obtain ⟨k1,k2⟩:=Qzh (β:=β) a b p h1 v1
   obtain ⟨k3,k4⟩:=Gv (β:=β) azz bs q h2 v2
   exact ⟨by simp only [vals,k1,k3],k2,k4⟩
  ·cases h
 | [],_ :: _,ps,h,_=>by simp [eqAs] at h
 | _ :: _,[],ps,h,_=>by simp [eqAs] at h
end
theorem Tx {r:Ren} {nx:Nat} {β:Nat→Nat→Value} {sl:Nat→Option AV}:∀ (l:List (Nat×Option AV)) (ps:List Prop),Qfq r nx sl l=some ps→AllP ps→∀ t b,slG l t=some b→∃ a,sl t=some a∧val (βR r β) b=val β a∧b.wf (·<nx)
 | [],ps,_,_,t,b,h=>by cases h
 | (k,some b0) :: l,ps,h,hv,t,b,ht=>by
  simp only [Qfq] at h
  split at h
  ·rename_i a ha
   split at h
   ·rename_i p q h1 h2
    simp only [Option.some.injEq] at h
    subst h
    obtain ⟨v1,v2⟩:=AllP.app hv
    simp only [slG] at ht
    cases hb:Nat.beq k t with
    | true =>
     rw [hb] at ht
     simp only [cond_true,Option.some.injEq] at ht
     subst ht
     have e:=Nat.eq_of_beq_eq_true hb
     subst e
     exact ⟨a,ha,Qzh a b0 p h1 v1⟩
    | false =>
     rw [hb] at ht
     exact Tx l q h2 v2 t b ht
   ·cases h
  ·cases h
 | (k,none) :: l,ps,h,hv,t,b,ht=>by
  simp only [Qfq] at h
  simp only [slG] at ht
  cases hb:Nat.beq k t with
  | true=>rw [hb] at ht; cases ht
  | false=>rw [hb] at ht; exact Tx l ps h hv t b ht
theorem Mf {r:Ren} {nx:Nat} {fs:Nat→Option Fact}:∀ (l:List (Nat×Option Fact)) (ps:List Prop),Qen r nx fs l=some ps→AllP ps→∀ X f,fsG l X=some f→∃ q,Yy r nx fs X f=some q∧AllP q∧X<nx
 | [],ps,_,_,t,b,h=>by cases h
 | (k,some f0) :: l,ps,h,hv,X,f,hX=>by
  simp only [Qen] at h
  cases hk:Nat.blt k nx with
  | false=>rw [hk] at h; cases h
  | true =>
   rw [hk] at h
   simp only [cond_true] at h
   split at h
   ·rename_i p q h1 h2
    simp only [Option.some.injEq] at h
    subst h
    obtain ⟨v1,v2⟩:=AllP.app hv
    simp only [fsG] at hX
    cases hb:Nat.beq k X with
    | true =>
     rw [hb] at hX
     simp only [cond_true,Option.some.injEq] at hX
     subst hX
     have e:=Nat.eq_of_beq_eq_true hb
     subst e
     exact ⟨p,h1,v1,by simpa using hk⟩
    | false =>
     rw [hb] at hX
     exact Mf l q h2 v2 X f hX
   ·cases h
 | (k,none) :: l,ps,h,hv,X,f,hX=>by
  simp only [Qen] at h
  simp only [fsG] at hX
  cases hb:Nat.beq k X with
  | true=>rw [hb] at hX; cases hX
  | false=>rw [hb] at hX; exact Mf l ps h hv X f hX
theorem Qht:∀ {l:List (Nat×Option Fact)} {X:Nat} {f:Fact},fsG l X=some f→(X,some f)∈l
 | [],X,f,h=>by cases h
 | (k,o) :: l,X,f,h=>by
  simp only [fsG] at h
  cases hb:Nat.beq k X with
  | true =>
   rw [hb] at h
   simp only [cond_true] at h
   subst h
   have e:=Nat.eq_of_beq_eq_true hb
   subst e
   exact List.mem_cons_self
  | false=>rw [hb] at h; exact List.mem_cons_of_mem _ (Qht h)
theorem Qfe {r:Ren}:∀ {l:List (Nat×Option Fact)} {X X':Nat} {f f':Fact} {Y Y':Nat},(Kj r l).Nodup→(l.map (·.1)).Nodup→(X,some f)∈l→(X',some f')∈l→X≠X'→f.mod=true→f'.mod=true→renG r X=some (.id Y)→renG r X'=some (.id Y')→Y≠Y'
 | [],_,_,_,_,_,_,_,_,h,_,_,_,_,_,_=>by cases h
 | (k,o) :: l,X,X',f,f',Y,Y',hm,hl,h,h',hne,m1,m2,r1,r2=>by
  have hin:∀ {l:List (Nat×Option Fact)} {X:Nat} {f:Fact} {Y:Nat},(X,some f)∈l→f.mod=true→renG r X=some (.id Y)→Y∈Kj r l:=by
   intro l
   induction l with
   | nil=>intro X f Y h; cases h
   | cons p l ih =>
    intro X f Y h hm hr
    obtain ⟨k,o⟩:=p
    rcases List.mem_cons.1 h with h | h
    ·cases h
     simp only [Kj,hm,cond_true,hr]
     exact List.mem_cons_self
    ·have:=ih h hm hr
     cases o with
     | none=>exact this
     | some g =>
      simp only [Kj]
      cases g.mod with
      | false=>exact this
      | true =>
       simp only [cond_true]
       split
       ·exact List.mem_cons_of_mem _ this
       ·exact this
  have hm':(Kj r l).Nodup:=by
   cases o with
   | none=>exact hm
   | some g =>
    simp only [Kj] at hm
    cases hg:g.mod with
    | false=>rw [hg] at hm; exact hm
    | true =>
     rw [hg] at hm
     simp only [cond_true] at hm
     split at hm
     ·exact (List.nodup_cons.1 hm).2
     ·exact hm
  simp only [List.map_cons] at hl
  obtain ⟨l1,l2⟩:=List.nodup_cons.1 hl
  rcases List.mem_cons.1 h with ha | ha <;> rcases List.mem_cons.1 h' with hb | hb
  ·cases ha; cases hb; exact absurd rfl hne
  ·cases ha
   simp only [Kj,m1,cond_true,r1] at hm
   intro e
   exact (List.nodup_cons.1 hm).1 (e ▸ hin hb m2 r2)
  ·cases hb
   simp only [Kj,m2,cond_true,r2] at hm
   intro e
   exact (List.nodup_cons.1 hm).1 (e ▸ hin ha m1 r1)
  ·exact Qfe hm' l2 ha hb hne m1 m2 r1 r2
theorem Qdw:∀ {r:Ren} {X:Nat} {x:Value},Hv r=true→renG r X=some (.val x)→x.oneCell'=true
 | [],X,x,_,h=>by cases h
 | (k,s) :: r,X,x,h,hr=>by
  simp only [renG] at hr
  cases hb:Nat.beq k X with
  | true =>
   rw [hb] at hr
   simp only [cond_true,Option.some.injEq] at hr
   subst hr
   simp only [Hv,Bool.and_eq_true] at h
   exact h.1
  | false =>
   rw [hb] at hr
   refine Qdw ?_ hr
   cases s with
   | id Y=>exact h
   | val y=>simp only [Hv,Bool.and_eq_true] at h; exact h.2
theorem Ufu {s S:St} {ps:List Prop} (h:subV s S=some ps) (hv:AllP ps) {a:Act} {w:World} (H:Za P N ψ IN w0 s a w):Za P N ψ IN w0 S a w:=by
 unfold subV at h
 simp only at h
 generalize hr:mkF (fsG s.fs) S.fs (mkF (fsG s.fs) S.fs (mkS (slG s.sl) S.sl []))=r at h
 cases hc:(Wl (Kj r S.fs)&&Hv r&&Wl (S.fs.map (·.1))) with
 | false=>rw [hc] at h; cases h
 | true =>
  rw [hc] at h
  simp only [cond_true] at h
  simp only [Bool.and_eq_true] at hc
  obtain ⟨⟨c1,c2⟩,c3⟩:=hc
  have c1:=Wv c1
  have c3:=Wv c3
  split at h
  ·rename_i p q h1 h2
   simp only [Option.some.injEq] at h
   subst h
   obtain ⟨v1,v2⟩:=AllP.app hv
   obtain ⟨β,φ,dom,V⟩:=H
   have R:=V.rel
   have hmod:∀ X f,fsG S.fs X=some f→f.mod=true→(∃ Y g,renG r X=some (.id Y)∧fsG s.fs Y=some g∧g.mod=true)∨φR r φ X=[]:=by
    intro X f hX hm
    obtain ⟨q',g1,g2,g3⟩:=Mf S.fs q h2 v2 X f hX
    cases f <;> simp only [Fact.mod] at hm <;> first | cases hm | skip
    case box T ds =>
     simp only [Yy] at g1
     split at g1
     ·rename_i Y hY
      split at g1
      ·rename_i T' cs hf; exact .inl ⟨Y,_,hY,hf,rfl⟩
      ·cases g1
     ·cases g1
    case own V d =>
     simp only [Yy] at g1
     cases hV:Nat.blt V S.nx with
     | false=>rw [hV] at g1; cases g1
     | true =>
      rw [hV] at g1
      simp only [cond_true] at g1
      split at g1
      ·rename_i Y hY
       split at g1
       ·rename_i d0 hf; exact .inl ⟨Y,_,hY,hf,rfl⟩
       ·cases g1
      ·rename_i x hx; exact .inr (by simp only [φR,hx])
      ·cases g1
    case arr n ds =>
     simp only [Yy] at g1
     split at g1
     ·rename_i Y hY
      split at g1
      ·rename_i n' cs hf; exact .inl ⟨Y,_,hY,hf,rfl⟩
      ·cases g1
     ·cases g1
   refine ⟨βR r β,φR r φ,(·<S.nx),V.size,V.defers,fun t av ht=>?_,⟨fun X f hX=>?_,fun X X' f f' hX hX' m1 m2 hne b hb hb'=>?_,fun X f hX hm b hb=>?_,R.psi,fun X j=>?_,R.chg,R.glo⟩,fun id hid=>hid⟩
   ·obtain ⟨a0,k1,k2,k3⟩:=Tx (β:=β) S.sl p h1 v1 t av ht
    rw [k2]
    exact ⟨(V.has t a0 k1).1,k3⟩
   ·obtain ⟨q',g1,g2,g3⟩:=Mf S.fs q h2 v2 X f hX
    refine ⟨g3,?_⟩
    cases f with
    | box T ds =>
     simp only [Yy] at g1
     split at g1
     ·rename_i Y hY
      split at g1
      ·rename_i T' cs hf
       cases hb:(Nat.beq T T'&&ds.all AV.one) with
       | false=>rw [hb] at g1; cases g1
       | true =>
        rw [hb] at g1
        simp only [cond_true] at g1
        simp only [Bool.and_eq_true] at hb
        have e:=Nat.eq_of_beq_eq_true hb.1
        subst e
        obtain ⟨k1,k2⟩:=Gv (β:=β) cs ds q' g1 g2
        obtain ⟨_,_,b,m1,m2,m3⟩:=R.ok Y _ hf
        exact ⟨⟨k2,hb.2⟩,b,by simp only [βR,hY]; exact m1,by rw [k1]; exact m2,by simp only [φR,hY]; exact m3⟩
      ·cases g1
     ·cases g1
    | own V' d =>
     simp only [Yy] at g1
     cases hV:Nat.blt V' S.nx with
     | false=>rw [hV] at g1; cases g1
     | true =>
      rw [hV] at g1
      simp only [cond_true] at g1
      refine ⟨by simpa using hV,?_⟩
      split at g1
      ·rename_i Y hY
       split at g1
       ·rename_i V0 d0 hf
        cases g1
        obtain ⟨_,_,m1⟩:=R.ok Y _ hf
        simp only [βR,φR,hY]
        exact g2.1.ow _ _ _ m1
       ·cases g1
      ·rename_i x hx
       cases hxo:x.oneCell' with
       | false=>rw [hxo] at g1; cases g1
       | true =>
        rw [hxo] at g1
        cases g1
        simp only [βR,φR,hx]
        exact g2.1.ow _ _ _ ⟨rfl,hxo,rfl⟩
      ·cases g1
    | shr dep d =>
     cases dep with
     | none =>
      simp only [Yy] at g1
      split at g1
      ·rename_i Y hY
       split at g1
       ·rename_i d0 hf
        cases g1
        obtain ⟨_,m1⟩:=R.ok Y _ hf
        show RdV ψ w d _
        simp only [βR,hY]
        exact g2.1.rd _ _ _ m1
       ·cases g1
      ·rename_i x hx
       cases hxo:x.oneCell' with
       | false=>rw [hxo] at g1; cases g1
       | true =>
        rw [hxo] at g1
        cases g1
        show RdV ψ w d _
        simp only [βR,hx]
        exact g2.1.rd _ _ _ ⟨rfl,hxo⟩
      ·cases g1
     | some XV =>
      obtain ⟨X1,V1⟩:=XV
      simp only [Yy] at g1
      cases hb:(Nat.blt X1 S.nx&&Nat.blt V1 S.nx) with
      | false=>rw [hb] at g1; cases g1
      | true =>
       rw [hb] at g1
       simp only [cond_true] at g1
       simp only [Bool.and_eq_true] at hb
       refine ⟨by simpa using hb.1,by simpa using hb.2,fun _=>?_⟩
       split at g1
       ·rename_i Y Y1 hY hY1
        split at g1
        ·rename_i Y2 V2 d0 hf
         cases hb2:(Nat.beq Y1 Y2&&Ji (fsG s.fs) (some (Y2,V2))) with
         | false=>rw [hb2] at g1; cases g1
         | true =>
          rw [hb2] at g1
          cases g1
          simp only [Bool.and_eq_true] at hb2
          have e:=Nat.eq_of_beq_eq_true hb2.1
          subst e
          obtain ⟨_,_,_,m1⟩:=R.ok Y _ hf
          have:=m1 (Bl hb2.2)
          simp only [βR,φR,hY,hY1]
          exact g2.1.rd _ _ _ this
        ·cases g1
       ·cases g1
    | mem dep el ds =>
     cases dep with
     | none =>
      simp only [Yy] at g1
      split at g1
      ·rename_i Y hY
       split at g1
       ·rename_i el0 ds0 hf
        cases g1
        obtain ⟨_,b,o,m1,m2,m3,m4⟩:=R.ok Y _ hf
        have hl:ds.length=ds0.length:=by
         have h1:=(g2.1.rd m4).len
         have h2:=m4.len
         omega
        have hbv:bv (βR r β) X ds.length=bv β Y ds0.length:=by
         simp only [bv,βR,hY,hl]
        refine ⟨b,o,by simp only [βR,hY]; exact m1,m2,by rw [hbv]; exact m3,by rw [hbv]; exact g2.1.rd m4⟩
       ·cases g1
      ·cases g1
     | some XV=>simp [Yy] at g1
    | arr n ds =>
     simp only [Yy] at g1
     split at g1
     ·rename_i Y hY
      split at g1
      ·rename_i n' cs hf
       cases hb:(Nat.beq n n'&&ds.all AV.one) with
       | false=>rw [hb] at g1; cases g1
       | true =>
        rw [hb] at g1
        simp only [cond_true] at g1
        simp only [Bool.and_eq_true] at hb
        have e:=Nat.eq_of_beq_eq_true hb.1
        subst e
        obtain ⟨k1,k2⟩:=Gv (β:=β) cs ds q' g1 g2
        obtain ⟨_,_,b,T,m1,m2,m3⟩:=R.ok Y _ hf
        exact ⟨⟨k2,hb.2⟩,b,T,by simp only [βR,hY]; exact m1,by rw [k1]; exact m2,by simp only [φR,hY]; exact m3⟩
      ·cases g1
     ·cases g1
    | fn F =>
     simp only [Yy] at g1
     split at g1
     ·rename_i Y hY
      split at g1
      ·rename_i F0 hf
       cases g1
       obtain ⟨rfl,_⟩:=g2
       obtain ⟨_,m1⟩:=R.ok Y _ hf
       show FnOK false P ψ w F0 _
       simp only [βR,hY]
       exact m1
      ·cases g1
     ·cases g1
    | part Y V lo sz d=>simp [Yy] at g1
    | vl x d =>
     simp only [Yy] at g1
     split at g1
     ·rename_i Y hY
      split at g1
      ·rename_i x0 d0 hf
       cases g1
       obtain ⟨rfl,g3,_⟩:=g2
       obtain ⟨_,m1,m2⟩:=R.ok Y _ hf
       show βR r β X 0=x0∧RdV ψ w d x0
       simp only [βR,hY]
       exact ⟨m1,g3.rd _ _ _ m2⟩
      ·cases g1
     ·cases g1
   ·rcases hmod X f hX m1 with ⟨Y,g,y1,y2,y3⟩ | h0
    ·rcases hmod X' f' hX' m2 with ⟨Y',g',z1,z2,z3⟩ | h0
     ·simp only [φR,y1] at hb
      simp only [φR,z1] at hb'
      exact R.dis Y Y' g g' y2 z2 y3 z3 (Qfe c1 c3 (Qht hX) (Qht hX') hne m1 m2 y1 z1) b hb hb'
     ·rw [h0] at hb'; cases hb'
    ·rw [h0] at hb; cases hb
   ·rcases hmod X f hX hm with ⟨Y,g,y1,y2,y3⟩ | h0
    ·simp only [φR,y1] at hb
     exact R.lt Y g y2 y3 b hb
    ·rw [h0] at hb; cases hb
   ·simp only [βR]
    split
    ·exact R.all1 _ j
    ·rename_i x hx; exact Qdw c2 hx
    ·rfl
  ·cases h
end
inductive Ex where
 | n
 | x (id:Nat)
 | r
def Ex.to:Ex→Exit
 | .n=>.normal
 | .x id=>.exit id
 | .r=>.ret
inductive Cert (D:Bool) (P:Program):Type 1 where
 | no
 | reg (hs:List (Nat×Hint D P))
 | seq (a b:Cert D P)
 | cond (a b:Cert D P)
 | condT (a:Cert D P)
 | condF (a:Cert D P)
 | blk (a:Cert D P)
 | loop {ι:Type} (Sf:ι→St) (I:ι→Prop) (μ:ι→Nat) (i0:ι) (a:ι→Cert D P)
 | cut {ι:Type} (Sf:ι→St) (I:ι→Prop) (a:Cert D P) (b:ι→Cert D P)
 | seqk (ks:List (Nat×Nat)) (a b:Cert D P)
 | seqg (t gi g:Nat) (x:Value) (d:Dat) (a b:Cert D P)
 | hnd {ι κ:Type} (S1:ι→St) (I1:ι→Prop) (S2:κ→St) (I2:κ→Prop) (a:Cert D P) (b:κ→Cert D P)
def subP (s S:St) (K:Prop):Prop:=match subV s S with
 | some ps=>ps.foldr And K
 | none=>False
def Qyb (s:St) (t j:Nat):Option Nat:=match slG s.sl t with
 | some a=>(match Kk (fsG s.fs) (match a with | .ag cs=>cs.getD j a | .p id off=>(match Vb (fsG s.fs) id with | some cs=>cs.getD (off+j) a | none=>a) | _=>a) with
  | some (@Dat.l _ _ _ _ xs,_)=>some xs.length
  | _=>none)
 | none=>none
def knw (s:St):List (Nat×Nat)→Prop→Prop
 | [],K=>K
 | (t,j) :: ks,K=>match Qyb s t j with
  | some n=>n≤9223372036854775807→knw s ks K
  | none=>False
def Qmr (s:St) (t gi g:Nat) (x:Value) (d:Dat):Option (List Prop×St):=match slG s.sl t with
 | some (.p id 0)=>(match fsG s.fs id,fsG s.fs gi with
  | some (.box T (.v x0 :: cs)),some (.vl x1 d1)=>bif Nat.ble s.nx g then some ([x0=x,GD x1 d1 x d],⟨s.sl,(g,some (.vl x d)) :: (id,some (.box T (.h g 0 :: cs))) :: s.fs,g+1⟩) else none
  | _,_=>none)
 | _=>none
def Qmj (P:Program) (N:Nat) {ι κ:Type} (S1:ι→St) (I1:ι→Prop) (S2:κ→St) (I2:κ→Prop):Prop :=
 ∀ (ψ IN:Nat→Prop) (w0 w:World) (a:Act) (i:ι),I1 i→Za P N ψ IN w0 (S1 i) a w→∃ j,I2 j∧Za P N ψ IN w0 (S2 j) a w
def cwp {D:Bool} (P:Program) (N:Nat):Code→Cert D P→St→(Ex→St→Prop)→Prop
 | .skip,_,s,Q=>Q .n s
 | .ret,_,s,Q=>Q .r s
 | .exit id,_,s,Q=>Q (.x id) s
 | .region _ ops d,.reg hs,s,Q=>match Qke P N s ops.toList d hs with
  | some (vcs,s')=>vcs.foldr And (Q .n s')
  | none=>False
 | .region _ ops d,.no,s,Q=>match Qke P N s ops.toList d ([]:List (Nat×Hint D P)) with
  | some (vcs,s')=>vcs.foldr And (Q .n s')
  | none=>False
 | .seq a b,.seq ca cb,s,Q=>cwp P N a ca s fun e s'=>match e with
  | .n=>cwp P N b cb s' Q
  | .x id=>Q (.x id) s'
  | .r=>Q .r s'
 | .seq a b,.seqk ks ca cb,s,Q=>cwp P N a ca s fun e s'=>match e with
  | .n=>knw s' ks (cwp P N b cb s' Q)
  | .x id=>Q (.x id) s'
  | .r=>Q .r s'
 | .seq a b,.seqg t gi g x d ca cb,s,Q=>cwp P N a ca s fun e s'=>match e with
  | .n=>(match Qmr s' t gi g x d with | some (ps,s2)=>ps.foldr And (cwp P N b cb s2 Q) | none=>False)
  | .x id=>Q (.x id) s'
  | .r=>Q .r s'
 | .seq a b,.cut Sf I ca cb,s,Q=>(cwp P N a ca s fun e s'=>match e with
  | .n=>∃ j,subP s' (Sf j) (I j)
  | .x id=>Q (.x id) s'
  | .r=>Q .r s')∧∀ j,I j→cwp P N b (cb j) (Sf j) Q
 | .seq a b,.hnd S1 I1 S2 I2 ca cb,s,Q=>(cwp P N a ca s fun e s'=>match e with
  | .n=>∃ j,subP s' (S1 j) (I1 j)
  | .x id=>Q (.x id) s'
  | .r=>Q .r s')∧Qmj P N S1 I1 S2 I2∧∀ j,I2 j→cwp P N b (cb j) (S2 j) Q
 | .cond c a b,.cond ca cb,s,Q=>match opA (slG s.sl) c with
  | some (.v (.bool B))=>(B=true→cwp P N a ca s Q)∧(B=false→cwp P N b cb s Q)
  | _=>False
 | .cond c a _,.condT ca,s,Q=>match opA (slG s.sl) c with
  | some (.v (.bool B))=>B=true∧cwp P N a ca s Q
  | _=>False
 | .cond c _ b,.condF cb,s,Q=>match opA (slG s.sl) c with
  | some (.v (.bool B))=>B=false∧cwp P N b cb s Q
  | _=>False
 | .block id c,.blk cc,s,Q=>cwp P N c cc s fun e s'=>match e with
  | .n=>Q .n s'
  | .x id'=>bif Nat.beq id' id then Q .n s' else Q (.x id') s'
  | .r=>Q .r s'
 | .loop c,.loop Sf I μ i0 cc,s,Q=>subP s (Sf i0) (I i0)∧∀ i,I i→cwp P N c (cc i) (Sf i) fun e s'=>match e with
  | .n=>∃ j,subP s' (Sf j) (I j∧μ j<μ i)
  | .x id=>Q (.x id) s'
  | .r=>Q .r s'
 | _,_,_,_=>False
theorem Gx {ps:List Prop} {K:Prop} (h:ps.foldr And K):AllP ps∧K:=by
 induction ps with
 | nil=>exact ⟨trivial,h⟩
 | cons p ps ih=>exact ⟨⟨h.1,(ih h.2).1⟩,(ih h.2).2⟩
section
variable {D:Bool} {P:Program} {N:Nat} {ψ IN:Nat→Prop} {w0:World}
theorem Rw {s S:St} {K:Prop} (h:subP s S K) {a:Act} {w:World} (H:Za P N ψ IN w0 s a w):Za P N ψ IN w0 S a w∧K:=by
 unfold subP at h
 split at h
 ·rename_i ps hp
  obtain ⟨h1,h2⟩:=Gx h
  exact ⟨Ufu hp h1 H,h2⟩
 ·exact h.elim
theorem Pb {s:St} {c:Operand} {av:AV} (h:opA (slG s.sl) c=some av) {a:Act} {w:World} {β:Nat→Nat→Value} {φ:Nat→List Nat} {dom:Nat→Prop} (V:StOK P N ψ IN w0 s a w β φ dom):a.eval c=val β av:=by
 cases c with
 | tmp t=>have:=(V.has t av h).1; simp [Act.eval,this]
 | const v=>simp only [opA,Option.some.injEq] at h; subst h; rfl
 | func f=>simp only [opA,Option.some.injEq] at h; subst h; rfl
 | global g=>simp [opA] at h
theorem Qzy {s:St} {t j n:Nat} (h:Qyb s t j=some n) {a:Act} {w:World} (H:Za P N ψ IN w0 s a w):n≤9223372036854775807:=by
 obtain ⟨β,φ,dom,V⟩:=H
 unfold Qyb at h
 split at h
 ·split at h
  ·rename_i hd
   simp only [Option.some.injEq] at h
   subst h
   obtain ⟨k1,_⟩:=Yz V.rel (fun _ _ h=>h) hd
   obtain ⟨_,_,_,_,h3,_⟩:=k1
   exact h3
  ·cases h
 ·cases h
theorem Qwf {s:St} {K:Prop}:∀ {ks:List (Nat×Nat)},knw s ks K→∀ {a:Act} {w:World},Za P N ψ IN w0 s a w→K
 | [],h,_,_,_=>h
 | (t,j) :: ks,h,a,w,H=>by
  simp only [knw] at h
  split at h
  ·rename_i n hn
   exact Qwf (h (Qzy hn H)) H
  ·exact h.elim
theorem Qtg {s s2:St} {t gi g:Nat} {x:Value} {d:Dat} {ps:List Prop} (h:Qmr s t gi g x d=some (ps,s2)) (hv:AllP ps) {a:Act} {w:World} (H:Za P N ψ IN w0 s a w):Za P N ψ IN w0 s2 a w:=by
 obtain ⟨β,φ,dom,V⟩:=H
 unfold Qmr at h
 split at h
 ·rename_i id hid
  split at h
  ·rename_i T x0 cs x1 d1 hb hg
   cases hge:Nat.ble s.nx g with
   | false=>rw [hge] at h; cases h
   | true =>
   rw [hge] at h
   cases h
   have hge:=Nat.le_of_ble_eq_true hge
   obtain ⟨rfl,hgd,_⟩:=hv
   obtain ⟨hd1,⟨hw,hone⟩,b,e1,e2,e3⟩:=V.rel.ok id _ hb
   obtain ⟨hd2,m1,m2⟩:=V.rel.ok gi _ hg
   have hr:=hgd ψ w m2
   have hn:¬ dom g:=fun h=>by have:=V.bound _ h; omega
   have hne:id≠g:=fun e=>hn (e ▸ hd1)
   have hvc:vals (up β g fun _=>x0) cs=vals β cs:=Uq (β:=β) (dom:=dom) (fun i hi=>Um _ _ _ (fun e:i=g=>hn (e ▸ hi))) _ hw.2
   refine ⟨up β g (fun _=>x0),φ,fun i=>dom i∨i=g,V.size,V.defers,fun t' av ht=>?_,?_,fun i hi=>?_⟩
   ·obtain ⟨k1,k2⟩:=V.has t' av ht
    refine ⟨?_,AV.wf_mono (fun _ h=>.inl h) _ k2⟩
    rw [Wz (β:=β) (dom:=dom) (fun i hi=>Um _ _ _ (fun e:i=g=>hn (e ▸ hi))) _ k2]
    exact k1
   ·have hlk:∀ i f,fsG ((g,some (.vl x0 d)) :: (id,some (.box T (.h g 0 :: cs))) :: s.fs) i=some f→(i=g∧f=.vl x0 d)∨(i=id∧f=.box T (.h g 0 :: cs))∨(i≠g∧i≠id∧fsG s.fs i=some f):=by
     intro i f hf
     simp only [fsG] at hf
     cases h1:Nat.beq g i with
     | true =>
      rw [h1] at hf
      simp only [cond_true,Option.some.injEq] at hf
      exact .inl ⟨(Nat.eq_of_beq_eq_true h1).symm,hf.symm⟩
     | false =>
      rw [h1] at hf
      simp only [cond_false] at hf
      have n1:i≠g:=fun e=>by rw [e] at h1; simp at h1
      cases h2:Nat.beq id i with
      | true =>
       rw [h2] at hf
       simp only [cond_true,Option.some.injEq] at hf
       exact .inr (.inl ⟨(Nat.eq_of_beq_eq_true h2).symm,hf.symm⟩)
      | false =>
       rw [h2] at hf
       exact .inr (.inr ⟨n1,fun e=>by rw [e] at h2; simp at h2,by simpa using hf⟩)
    refine V.rel.step (NN:=fun i=>i=g∨i=id) (C:=fun _=>False) (Chg.of_below (Bel.refl _ _)) (fun i h=>⟨.inl h,Um _ _ _ fun e=>hn (e ▸ h)⟩) (Gu V.rel.all1 _ fun _=>hr.one) (fun i f hf=>?_) (fun _ _=>rfl) (fun _ _ h=>h.elim) (fun i f hi hf=>?_) (fun i V' d' hi hf=>?_) (fun i f hi hf hm b' hb'=>?_) (fun i j f f2 hi hj hf hg' hmf hmg hij=>?_)
    ·rcases hlk i f hf with ⟨h,_⟩ | ⟨h,_⟩ | ⟨_,_,h⟩
     ·exact .inl (.inl h)
     ·exact .inl (.inr h)
     ·exact .inr h
    ·rcases hlk i f hf with ⟨rfl,rfl⟩ | ⟨rfl,rfl⟩ | ⟨h1,h2,_⟩
     ·exact ⟨.inr rfl,by show up β i _ i 0=x0∧RdV ψ w d x0; rw [Qg]; exact ⟨rfl,hr⟩⟩
     ·refine ⟨.inl hd1,⟨⟨.inr rfl,AVs.wf_mono (fun _ h=>.inl h) _ hw.2⟩,?_⟩,b,by rw [Um _ _ _ hne]; exact e1,?_,e3⟩
      ·simp only [List.all_cons,Bool.and_eq_true] at hone ⊢
       exact ⟨rfl,hone.2⟩
      ·simp only [vals,val,Qg,hvc]
       simpa only [vals,val] using e2
     ·rcases hi with h | h
      ·exact absurd h h1
      ·exact absurd h h2
    ·rcases hlk i _ hf with ⟨_,h⟩ | ⟨_,h⟩ | ⟨h1,h2,_⟩
     ·cases h
     ·cases h
     ·rcases hi with h | h
      ·exact absurd h h1
      ·exact absurd h h2
    ·rcases hlk i f hf with ⟨_,rfl⟩ | ⟨rfl,rfl⟩ | ⟨h1,h2,_⟩
     ·cases hm
     ·exact ⟨(V.rel.lt i _ hb rfl b' hb').1,.inr ⟨i,_,.inr rfl,hb,rfl,hb'⟩⟩
     ·rcases hi with h | h
      ·exact absurd h h1
      ·exact absurd h h2
    ·rcases hlk i f hf with ⟨_,rfl⟩ | ⟨e1',rfl⟩ | ⟨h1,h2,_⟩
     ·cases hmf
     ·rcases hlk j f2 hg' with ⟨_,rfl⟩ | ⟨e2',rfl⟩ | ⟨h1,h2,_⟩
      ·cases hmg
      ·exact absurd (e1'.trans e2'.symm) hij
      ·rcases hj with h | h
       ·exact absurd h h1
       ·exact absurd h h2
     ·rcases hi with h | h
      ·exact absurd h h1
      ·exact absurd h h2
   ·rcases hi with h | h
    ·have:=V.bound i h; show i<g+1; omega
    ·show i<g+1; omega
  ·cases h
 ·cases h
def parC (n:List Nat):Code→Bool
 | .region _ ops _=>parL n ops.toList
 | .seq a b=>parC n a&&parC n b
 | .cond _ a b=>parC n a&&parC n b
 | .block _ a=>parC n a
 | .loop a=>parC n a
 | _=>true
theorem Par.trans {n:List Nat} {a b c:Act} (h:Par n a b) (h':Par n b c):Par n a c:=fun t ht=>(h' t ht).trans (h t ht)
theorem Qsa (hD:D=false→w0.drawn=0) (hm:P.follows .mixedOrders=true) {id:Nat} {ops:Array Oper} {d:Bool} {hs:List (Nat×Hint D P)} {s:St} {Q:Ex→St→Prop} (h:match Qke P N s ops.toList d hs with
  | some (vcs,s')=>vcs.foldr And (Q .n s')
  | none=>False) {a:Act} {w:World} (H:Za P N ψ IN w0 s a w) {Qm:Exit→Act→World→Prop} {n:List Nat} (hpar:parL n ops.toList=true) (hQ:∀ s' a' w',Q .n s'→Za P N ψ IN w0 s' a' w'→Par n a a'→Qm .normal a' w'):(Code.region id ops d).wp P Qm a w:=by
 split at h
 ·rename_i vcs s' hr
  obtain ⟨h1,h2⟩:=Gx h
  have:=Qum (id:=id) hD hm hr h1 H (Q:=Qm) hpar fun a' w' H' hp=>hQ s' a' w' h2 H' hp
  simpa using this
 ·exact h.elim
theorem Zh (hD:D=false→w0.drawn=0) (hm:P.follows .mixedOrders=true) {n:List Nat} (a0:Act):∀ (c:Code) (ct:Cert D P) (s:St) (Q:Ex→St→Prop),parC n c=true→cwp P N c ct s Q→∀ (a:Act) (w:World),Za P N ψ IN w0 s a w→Par n a0 a→∀ (Qm:Exit→Act→World→Prop),(∀ e s' a' w',Q e s'→Za P N ψ IN w0 s' a' w'→Par n a0 a'→Qm e.to a' w')→c.wp P Qm a w
 | .skip,ct,s,Q,hc,h,a,w,H,hp,Qm,hQ=>wp_skip (hQ .n s a w (by cases ct <;> exact h) H hp)
 | .ret,ct,s,Q,hc,h,a,w,H,hp,Qm,hQ=>wp_ret (hQ .r s a w (by cases ct <;> exact h) H hp)
 | .exit id,ct,s,Q,hc,h,a,w,H,hp,Qm,hQ=>wp_exit (hQ (.x id) s a w (by cases ct <;> exact h) H hp)
 | .region id ops d,ct,s,Q,hc,h,a,w,H,hp,Qm,hQ=>by
  cases ct with
  | reg hs=>exact Qsa hD hm h H hc fun s' a' w' h1 h2 h3=>hQ .n s' a' w' h1 h2 (hp.trans h3)
  | no=>exact Qsa hD hm h H hc fun s' a' w' h1 h2 h3=>hQ .n s' a' w' h1 h2 (hp.trans h3)
  | _=>simp [cwp] at h
 | .seq x y,ct,s,Q,hc,h,a,w,H,hp,Qm,hQ=>by
  simp only [parC,Bool.and_eq_true] at hc
  cases ct with
  | seq cx cy =>
   refine wp_seq (Zh hD hm a0 x cx s _ hc.1 h a w H hp _ fun e s' a' w' h1 h2 h3=>?_)
   cases e with
   | n=>exact Zh hD hm a0 y cy s' Q hc.2 h1 a' w' h2 h3 Qm hQ
   | x id=>exact hQ _ _ _ _ h1 h2 h3
   | r=>exact hQ _ _ _ _ h1 h2 h3
  | seqk ks cx cy =>
   refine wp_seq (Zh hD hm a0 x cx s _ hc.1 h a w H hp _ fun e s' a' w' h1 h2 h3=>?_)
   cases e with
   | n=>exact Zh hD hm a0 y cy s' Q hc.2 (Qwf h1 h2) a' w' h2 h3 Qm hQ
   | x id=>exact hQ _ _ _ _ h1 h2 h3
   | r=>exact hQ _ _ _ _ h1 h2 h3
  | seqg t gi g x d cx cy =>
   refine wp_seq (Zh hD hm a0 _ cx s _ hc.1 h a w H hp _ fun e s' a' w' h1 h2 h3=>?_)
   cases e with
   | n =>
    simp only at h1
    split at h1
    ·rename_i ps s2 hs2
     obtain ⟨q1,q2⟩:=Gx h1
     exact Zh hD hm a0 _ cy s2 Q hc.2 q2 a' w' (Qtg hs2 q1 h2) h3 Qm hQ
    ·exact h1.elim
   | x id=>exact hQ _ _ _ _ h1 h2 h3
   | r=>exact hQ _ _ _ _ h1 h2 h3
  | cut Sf I cx cy =>
   obtain ⟨h,h'⟩:=h
   refine wp_seq (Zh hD hm a0 x cx s _ hc.1 h a w H hp _ fun e s' a' w' h1 h2 h6=>?_)
   cases e with
   | n =>
    obtain ⟨j,h3⟩:=h1
    obtain ⟨h4,h5⟩:=Rw h3 h2
    exact Zh hD hm a0 y (cy j) (Sf j) Q hc.2 (h' j h5) a' w' h4 h6 Qm hQ
   | x id=>exact hQ _ _ _ _ h1 h2 h6
   | r=>exact hQ _ _ _ _ h1 h2 h6
  | hnd S1 I1 S2 I2 cx cy =>
   obtain ⟨h,hh,h'⟩:=h
   refine wp_seq (Zh hD hm a0 x cx s _ hc.1 h a w H hp _ fun e s' a' w' h1 h2 h6=>?_)
   cases e with
   | n =>
    obtain ⟨j,h3⟩:=h1
    obtain ⟨h4,h5⟩:=Rw h3 h2
    obtain ⟨k,h7,h8⟩:=hh ψ IN w0 w' a' j h5 h4
    exact Zh hD hm a0 y (cy k) (S2 k) Q hc.2 (h' k h7) a' w' h8 h6 Qm hQ
   | x id=>exact hQ _ _ _ _ h1 h2 h6
   | r=>exact hQ _ _ _ _ h1 h2 h6
  | _=>simp [cwp] at h
 | .cond c x y,ct,s,Q,hc,h,a,w,H,hp,Qm,hQ=>by
  simp only [parC,Bool.and_eq_true] at hc
  cases ct with
  | cond cx cy =>
   simp only [cwp] at h
   split at h
   ·rename_i B hB
    have hev:a.eval c=.bool B:=by
     obtain ⟨β,φ,dom,V⟩:=H
     exact Pb hB V
    exact wp_cond_split hev (fun hb=>Zh hD hm a0 x cx s Q hc.1 (h.1 hb) a w H hp Qm hQ) (fun hb=>Zh hD hm a0 y cy s Q hc.2 (h.2 hb) a w H hp Qm hQ)
   ·exact h.elim
  | condT cx =>
   simp only [cwp] at h
   split at h
   ·rename_i B hB
    have hev:a.eval c=.bool B:=by
     obtain ⟨β,φ,dom,V⟩:=H
     exact Pb hB V
    exact wp_cond_split hev (fun hb=>Zh hD hm a0 x cx s Q hc.1 h.2 a w H hp Qm hQ) (fun hb=>by rw [h.1] at hb; cases hb)
   ·exact h.elim
  | condF cy =>
   simp only [cwp] at h
   split at h
   ·rename_i B hB
    have hev:a.eval c=.bool B:=by
     obtain ⟨β,φ,dom,V⟩:=H
     exact Pb hB V
    exact wp_cond_split hev (fun hb=>by rw [h.1] at hb; cases hb) (fun hb=>Zh hD hm a0 y cy s Q hc.2 h.2 a w H hp Qm hQ)
   ·exact h.elim
  | _=>simp [cwp] at h
 | .block id c,ct,s,Q,hc,h,a,w,H,hp,Qm,hQ=>by
  cases ct with
  | blk cc =>
   refine wp_block (Zh hD hm a0 c cc s _ hc h a w H hp _ fun e s' a' w' h1 h2 h3=>?_)
   cases e with
   | n=>exact hQ .n s' a' w' h1 h2 h3
   | x id' =>
    simp only at h1
    cases hb:Nat.beq id' id with
    | true =>
     rw [hb] at h1
     have e:=Nat.eq_of_beq_eq_true hb
     subst e
     simp only [Ex.to,Exit.inBlock,if_true]
     exact hQ .n s' a' w' h1 h2 h3
    | false =>
     rw [hb] at h1
     have hne:id'≠id:=fun e=>by rw [e] at hb; simp at hb
     simp only [Ex.to,Exit.inBlock,if_neg hne]
     exact hQ (.x id') s' a' w' h1 h2 h3
   | r=>exact hQ .r s' a' w' h1 h2 h3
  | _=>simp [cwp] at h
 | .loop c,ct,s,Q,hc,h,a,w,H,hp,Qm,hQ=>by
  cases ct with
  | loop Sf I μ i0 cc =>
   obtain ⟨h,h'⟩:=h
   obtain ⟨h1,h2⟩:=Rw h H
   refine wp_loop_ghost (fun n' a w=>∃ i,μ i=n'∧Za P N ψ IN w0 (Sf i) a w∧I i∧Par n a0 a) (μ i0) ⟨i0,rfl,h1,h2,hp⟩ ?_
   rintro n' a w ⟨i,rfl,hf,hI,hp⟩
   refine Code.wp_mono ?_ (Zh hD hm a0 c (cc i) (Sf i) _ hc (h' i hI) a w hf hp (Exit.then (fun a' w'=>∃ j,Za P N ψ IN w0 (Sf j) a' w'∧I j∧μ j<μ i∧Par n a0 a') Qm) fun e s' a' w' h1 h2 h7=>?_)
   ·intro e a' w' hq
    cases e with
    | normal=>obtain ⟨j,h1,h2,h3,h4⟩:=hq; exact ⟨μ j,h3,j,rfl,h1,h2,h4⟩
    | exit id=>exact hq
    | goto l=>exact hq
    | ret=>exact hq
    | panic ch=>exact hq
    | outgrown=>exact hq
   ·cases e with
    | n =>
     obtain ⟨j,h3⟩:=h1
     obtain ⟨h4,h5,h6⟩:=Rw h3 h2
     exact ⟨j,h4,h5,h6,h7⟩
    | x id=>exact hQ _ _ _ _ h1 h2 h7
    | r=>exact hQ _ _ _ _ h1 h2 h7
  | _=>simp [cwp] at h
 | .scope _,ct,s,Q,hc,h,a,w,H,hp,Qm,hQ=>by cases ct <;> simp [cwp] at h
 | .label _,ct,s,Q,hc,h,a,w,H,hp,Qm,hQ=>by cases ct <;> simp [cwp] at h
 | .goto _,ct,s,Q,hc,h,a,w,H,hp,Qm,hQ=>by cases ct <;> simp [cwp] at h
 | .refuse _,ct,s,Q,hc,h,a,w,H,hp,Qm,hQ=>by cases ct <;> simp [cwp] at h
 | .rangeFunc ..,ct,s,Q,hc,h,a,w,H,hp,Qm,hQ=>by cases ct <;> simp [cwp] at h
end
def Wm:Nat→List Dat→List AV×List (Nat×Option Fact)×Nat
 | n,[]=>([],[],n)
 | n,.v x :: ds=>let b:=Wm n ds; (.v x :: b.1,b.2)
 | n,d :: ds=>let b:=Wm (n+1) ds; (.h n 0 :: b.1,(n,some (.shr none d)) :: b.2.1,b.2.2)
def inA (n:Nat):Arg→AV×List (Nat×Option Fact)×Nat
 | .r (.c (.v x))=>(.v x,[],n)
 | .r (.c d)=>(.h n 0,[(n,some (.shr none d))],n+1)
 | .r (.g ds)=>let c:=Wm n ds; (.ag c.1,c.2)
 | .pt T ds _=>let c:=Qp n ds; (.p c.2.2 0,c.2.1++[(c.2.2,some (.box T c.1))],c.2.2+1)
 | .rp ds=>(.p n 0,[(n,some (.mem none none ds))],n+1)
 | .ow d _=>(.h n 0,[(n,some (.own n d))],n+1)
 | .og ds _=>let c:=Qp n ds; (.ag c.1,c.2)
 | .ot ds=>let c:=Qp n ds; (.ag c.1,c.2)
 | .vl x d=>(.h n 0,[(n,some (.vl x d))],n+1)
 | .ptg _ T x d ds _=>let c:=Qp (n+1) ds; (.p c.2.2 0,(n,some (.vl x d)) :: (c.2.1++[(c.2.2,some (.box T ([.h n 0]++c.1)))]),c.2.2+1)
 | .fn F _=>(.h n 0,[(n,some (.fn F))],n+1)
def inAs:Nat→List Arg→List AV×List (Nat×Option Fact)×Nat
 | n,[]=>([],[],n)
 | n,a :: azz=>let x:=inA n a; let b:=inAs x.2.2 azz; (x.1 :: b.1,x.2.1++b.2.1,b.2.2)
def Gr:Nat→List AV→List (Nat×Option AV)
 | _,[]=>[]
 | i,a :: azz=>(i,some a) :: Gr (i+1) azz
def stIn (azz:List Arg):St:=⟨Gr 0 (inAs 0 azz).1,(inAs 0 azz).2.1.reverse,(inAs 0 azz).2.2⟩
section
variable {P:Program} {fs:Nat→Option Fact} {β:Nat→Nat→Value} {φ:Nat→List Nat} {dom ψ IN:Nat→Prop} {w0 w:World}
theorem RL.addN {L:List Nat} (H:RL P fs β φ dom ψ IN w0 w L) (n:Nat) (hn:¬ dom n) (g:Fact) (βn:Nat→Value) (hm:g.mod=false) (hone:∀ j,(βn j).oneCell'=true) (hF:∀ fs' φ' dom',Wk P fs' (up β n βn) φ' dom' ψ w n g) :
  RL P (fupd fs n (some g)) (up β n βn) φ (fun i=>dom i∨i=n) ψ IN w0 w L∧Ext β (up β n βn) dom (fun i=>dom i∨i=n) n (n+1):=by
 have hlk:∀ id g',fupd fs n (some g) id=some g'→(id=n∧g'=g)∨(id≠n∧fs id=some g'):=by
  intro id g' h
  rw [Uw] at h
  by_cases e:id=n
  ·rw [if_pos e] at h; exact .inl ⟨e,(Option.some.inj h).symm⟩
  ·rw [if_neg e] at h; exact .inr ⟨e,h⟩
 refine ⟨⟨H.rel.step (NN:=(·=n)) (C:=fun _=>False) (Chg.of_below (Bel.refl _ _)) (fun id h=>⟨.inl h,Um _ _ _ fun e=>hn (e ▸ h)⟩) (Gu H.rel.all1 _ hone) (fun id g' h=>?_) (fun _ _=>rfl) (fun b _ h=>h.elim) (fun id g' hn' h=>?_) (fun id V d hn' h=>?_) (fun id g' hn' h hm'=>?_) (fun i j g1 g2 hi hj _ _ _ _ hne=>absurd (hi.trans hj.symm) hne),H.loose.1,fun b hb=>?_⟩,⟨Nat.le_succ _,fun id h=>⟨.inl h,Um _ _ _ fun e=>hn (e ▸ h)⟩,fun id h=>?_⟩⟩
 ·rcases hlk id g' h with ⟨h,_⟩ | ⟨_,h⟩
  ·exact .inl h
  ·exact .inr h
 ·subst hn'
  rcases hlk id g' h with ⟨_,rfl⟩ | ⟨h,_⟩
  ·exact ⟨.inr rfl,hF _ _ _⟩
  ·exact absurd rfl h
 ·subst hn'
  rcases hlk id _ h with ⟨_,rfl⟩ | ⟨h,_⟩
  ·cases hm
  ·exact absurd rfl h
 ·subst hn'
  rcases hlk id _ h with ⟨_,rfl⟩ | ⟨h,_⟩
  ·rw [hm] at hm'; cases hm'
  ·exact absurd rfl h
 ·obtain ⟨k1,k2,k3,k4⟩:=H.loose.2 b hb
  refine ⟨k1,k2,k3,fun id g' h hm'=>?_⟩
  rcases hlk id g' h with ⟨_,rfl⟩ | ⟨_,h⟩
  ·rw [hm] at hm'; cases hm'
  ·exact k4 id g' h hm'
 ·rcases h with h | rfl
  ·exact .inl h
  ·exact .inr ⟨Nat.le_refl _,Nat.lt_succ_self _⟩
theorem Wx:∀ (ds:List Dat) (n:Nat) (fs:Nat→Option Fact) (β:Nat→Nat→Value) (dom:Nat→Prop) (vs:List Value) (L:List Nat),RL P fs β φ dom ψ IN w0 w L→(∀ id,n≤id→¬ dom id)→RdVs ψ w ds vs →
  ∃ β' dom',RL P (Ud fs (Wm n ds).2.1) β' φ dom' ψ IN w0 w L∧Ext β β' dom dom' n (Wm n ds).2.2∧vals β' (Wm n ds).1=vs∧AVs.wf dom' (Wm n ds).1
 | [],n,fs,β,dom,vs,L,H,hn,ho=>by
  obtain rfl:vs=[]:=ho
  exact ⟨β,dom,H,Ext.refl _ _ _,rfl,trivial⟩
 | .v x :: ds,n,fs,β,dom,vs,L,H,hn,ho=>by
  obtain ⟨u,us,rfl,h1,h2⟩:=ho
  obtain ⟨rfl,hx⟩:=h1
  obtain ⟨β',dom',k1,k2,k3,k4⟩:=Wx ds n fs β dom us L H hn h2
  exact ⟨β',dom',k1,k2,by simp only [Wm,vals,val,k3],⟨trivial,k4⟩⟩
 | @Dat.l α _ sz enc xs :: ds,n,fs,β,dom,vs,L,H,hn,ho=>by
  obtain ⟨u,us,rfl,h1,h2⟩:=ho
  obtain ⟨k1,k2⟩:=H.addN n (hn n (Nat.le_refl _)) (.shr none (.l sz enc xs)) (fun _=>u) rfl (fun _=>h1.one) (fun _ _ _=>by show RdV ψ w _ _; rw [Qg]; exact h1)
  obtain ⟨β',dom',m1,m2,m3,m4⟩:=Wx ds (n+1) _ _ _ us L k1 (fun id h hd=>by
   rcases hd with hd | rfl
   ·exact hn id (by omega) hd
   ·omega) h2
  obtain ⟨q1,q2⟩:=m2.old n (.inr rfl)
  exact ⟨β',dom',m1,k2.trans m2,by simp only [Wm,vals,val,m3]; rw [q2,Qg],⟨q1,m4⟩⟩
 | .any :: ds,n,fs,β,dom,vs,L,H,hn,ho=>by
  obtain ⟨u,us,rfl,h1,h2⟩:=ho
  obtain ⟨k1,k2⟩:=H.addN n (hn n (Nat.le_refl _)) (.shr none .any) (fun _=>u) rfl (fun _=>h1.one) (fun _ _ _=>by show RdV ψ w _ _; rw [Qg]; exact h1)
  obtain ⟨β',dom',m1,m2,m3,m4⟩:=Wx ds (n+1) _ _ _ us L k1 (fun id h hd=>by
   rcases hd with hd | rfl
   ·exact hn id (by omega) hd
   ·omega) h2
  obtain ⟨q1,q2⟩:=m2.old n (.inr rfl)
  exact ⟨β',dom',m1,k2.trans m2,by simp only [Wm,vals,val,m3]; rw [q2,Qg],⟨q1,m4⟩⟩
 | .x XX :: ds,n,fs,β,dom,vs,L,H,hn,ho=>by
  obtain ⟨u,us,rfl,h1,h2⟩:=ho
  obtain ⟨k1,k2⟩:=H.addN n (hn n (Nat.le_refl _)) (.shr none (.x XX)) (fun _=>u) rfl (fun _=>h1.one) (fun _ _ _=>by show RdV ψ w _ _; rw [Qg]; exact h1)
  obtain ⟨β',dom',m1,m2,m3,m4⟩:=Wx ds (n+1) _ _ _ us L k1 (fun id h hd=>by
   rcases hd with hd | rfl
   ·exact hn id (by omega) hd
   ·omega) h2
  obtain ⟨q1,q2⟩:=m2.old n (.inr rfl)
  exact ⟨β',dom',m1,k2.trans m2,by simp only [Wm,vals,val,m3]; rw [q2,Qg],⟨q1,m4⟩⟩
 | .b DD :: ds,n,fs,β,dom,vs,L,H,hn,ho=>by
  obtain ⟨u,us,rfl,h1,h2⟩:=ho
  obtain ⟨k1,k2⟩:=H.addN n (hn n (Nat.le_refl _)) (.shr none (.b DD)) (fun _=>u) rfl (fun _=>h1.one) (fun _ _ _=>by show RdV ψ w _ _; rw [Qg]; exact h1)
  obtain ⟨β',dom',m1,m2,m3,m4⟩:=Wx ds (n+1) _ _ _ us L k1 (fun id h hd=>by
   rcases hd with hd | rfl
   ·exact hn id (by omega) hd
   ·omega) h2
  obtain ⟨q1,q2⟩:=m2.old n (.inr rfl)
  exact ⟨β',dom',m1,k2.trans m2,by simp only [Wm,vals,val,m3]; rw [q2,Qg],⟨q1,m4⟩⟩
theorem inA_ok (hψ:∀ b,ψ b→b<w.heap.size):∀ (a:Arg) (n:Nat) (fs:Nat→Option Fact) (β:Nat→Nat→Value) (φ:Nat→List Nat) (dom:Nat→Prop) (v:Value) (f L:List Nat),RL P fs β φ dom ψ IN w0 w (f++L)→(∀ id,n≤id→¬ dom id)→ArgOK P ψ w a v f →
  ∃ β' φ' dom',RL P (Ud fs (inA n a).2.1) β' φ' dom' ψ IN w0 w L∧Ext β β' dom dom' n (inA n a).2.2∧val β' (inA n a).1=v∧(inA n a).1.wf dom':=by
 intro a n fs β φ dom v f L H hn ho
 cases a with
 | r a =>
  obtain ⟨h1,rfl⟩:=ho
  cases a with
  | c d =>
   cases d with
   | v x =>
    obtain ⟨rfl,hx⟩:=h1
    exact ⟨β,φ,dom,H,Ext.refl _ _ _,rfl,trivial⟩
   | l sz enc xs =>
    obtain ⟨k1,k2⟩:=H.addN n (hn n (Nat.le_refl _)) (.shr none (.l sz enc xs)) (fun _=>v) rfl (fun _=>RdV.one h1) (fun _ _ _=>by show RdV ψ w _ _; rw [Qg]; exact h1)
    exact ⟨_,_,_,k1,k2,by simp only [inA,val,Qg],.inr rfl⟩
   | any =>
    obtain ⟨k1,k2⟩:=H.addN n (hn n (Nat.le_refl _)) (.shr none .any) (fun _=>v) rfl (fun _=>RdV.one h1) (fun _ _ _=>by show RdV ψ w _ _; rw [Qg]; exact h1)
    exact ⟨_,_,_,k1,k2,by simp only [inA,val,Qg],.inr rfl⟩
   | x XX =>
    obtain ⟨k1,k2⟩:=H.addN n (hn n (Nat.le_refl _)) (.shr none (.x XX)) (fun _=>v) rfl (fun _=>RdV.one h1) (fun _ _ _=>by show RdV ψ w _ _; rw [Qg]; exact h1)
    exact ⟨_,_,_,k1,k2,by simp only [inA,val,Qg],.inr rfl⟩
   | b DD =>
    obtain ⟨k1,k2⟩:=H.addN n (hn n (Nat.le_refl _)) (.shr none (.b DD)) (fun _=>v) rfl (fun _=>RdV.one h1) (fun _ _ _=>by show RdV ψ w _ _; rw [Qg]; exact h1)
    exact ⟨_,_,_,k1,k2,by simp only [inA,val,Qg],.inr rfl⟩
  | g ds =>
   obtain ⟨vs,rfl,h2⟩:=h1
   obtain ⟨β',dom',k1,k2,k3,k4⟩:=Wx ds n fs β dom vs L H hn h2
   exact ⟨β',φ,dom',k1,k2,by simp only [inA,val,k3],k4⟩
 | pt T ds ds' =>
  obtain ⟨b,vs,f2,rfl,e2,e3,rfl,e4⟩:=ho
  obtain ⟨β1,φ1,dom1,k1,k2,k3,k4⟩:=RL.box (L:=L) H [] trivial rfl n (fun id h _=>hn id h) e2 e3
  exact ⟨β1,φ1,dom1,k1,k2,by simp only [inA,val,k3,padd,Nat.zero_add],k4⟩
 | vl x d =>
  obtain ⟨⟨rfl,h1⟩,rfl⟩:=ho
  obtain ⟨k1,k2⟩:=H.addN n (hn n (Nat.le_refl _)) (.vl v d) (fun _=>v) rfl (fun _=>RdV.one h1) (fun _ _ _=>by show up β n (fun _=>v) n 0=v∧RdV ψ w d v; rw [Qg]; exact ⟨rfl,h1⟩)
  exact ⟨_,_,_,k1,k2,by simp only [inA,val,Qg],.inr rfl⟩
 | ptg gi T x d ds ds' =>
  obtain ⟨⟨b,vs,f2,rfl,e2,e3,rfl,e4⟩,h1⟩:=ho
  obtain ⟨k1,k2⟩:=H.addN n (hn n (Nat.le_refl _)) (.vl x d) (fun _=>x) rfl (fun _=>RdV.one h1) (fun _ _ _=>by show up β n (fun _=>x) n 0=x∧RdV ψ w d x; rw [Qg]; exact ⟨rfl,h1⟩)
  obtain ⟨β1,φ1,dom1,m1,m2,m3,m4⟩:=RL.box (L:=L) k1 [.h n 0] ⟨.inr rfl,trivial⟩ rfl (n+1) (fun id h _ hd=>by
   rcases k2.new id hd with h3 | h3
   ·exact hn id (by omega) h3
   ·omega) (by simp only [vals,val,Qg]; exact e2) e3
  exact ⟨β1,φ1,dom1,m1,k2.trans m2,by simp only [inA,val,m3,padd,Nat.zero_add],m4⟩
 | rp ds =>
  obtain ⟨⟨b,o,vs,rfl,e2,e3,e4⟩,rfl⟩:=ho
  let βn:Nat→Value:=fun j=>match j with
   | 0=>.pointer (some ⟨b,o,none⟩)
   | j+1=>vs.getD j (.bool false)
  have hl:=e4.len
  have hone:∀ j,(βn j).oneCell'=true:=by
   intro j
   cases j with
   | zero=>rfl
   | succ j =>
    show (vs.getD j (.bool false)).oneCell'=true
    rw [List.getD_eq_getElem?_getD]
    cases hj:vs[j]? with
    | none=>rfl
    | some v=>exact List.all_eq_true.1 e4.one v (List.mem_of_getElem? hj)
  have hbv:bv (up β n βn) n ds.length=vs:=by
   refine List.ext_getElem (by simp [bv,hl]) fun j h1 h2=>?_
   simp [bv,Qg,βn,h2]
  obtain ⟨k1,k2⟩:=H.addN n (hn n (Nat.le_refl _)) (.mem none none ds) βn rfl hone (fun _ _ _=>⟨b,o,by rw [Qg],e2,by rw [hbv]; exact e3,by rw [hbv]; exact e4⟩)
  exact ⟨_,_,_,k1,k2,by simp [inA,val,Qg,padd,βn],.inr rfl⟩
 | og ds ds' =>
  obtain ⟨vs,rfl,h2⟩:=ho
  obtain ⟨β1,φ1,dom1,k1,k2,k3,k4,k5⟩:=Zb ds n fs β φ dom vs f L H (fun id h h'=>hn id h) h2
  exact ⟨β1,φ1,dom1,k1,k2,by simp only [inA,val,k3],k4⟩
 | ot ds =>
  obtain ⟨vs,rfl,h2⟩:=ho
  obtain ⟨β1,φ1,dom1,k1,k2,k3,k4,k5⟩:=Zb ds n fs β φ dom vs f L H (fun id h h'=>hn id h) h2
  exact ⟨β1,φ1,dom1,k1,k2,by simp only [inA,val,k3],k4⟩
 | ow d d' =>
  obtain ⟨β1,φ1,dom1,k1,k2,k3,k4⟩:=H.own n (hn n (Nat.le_refl _)) ho
  exact ⟨β1,φ1,dom1,k1,k2,k3,k4⟩
 | fn F D =>
  obtain ⟨h1,rfl⟩:=ho
  have h1':=h1
  obtain ⟨g,cap,rfl,_⟩:=h1'
  obtain ⟨k1,k2⟩:=H.addN n (hn n (Nat.le_refl _)) (.fn F) (fun _=>.func (.func g) #[] cap) rfl (fun _=>rfl) (fun _ _ _=>by show FnOK false P ψ w F _; rw [Qg]; exact h1.weak)
  exact ⟨_,_,_,k1,k2,by simp only [inA,val,Qg],.inr rfl⟩
theorem Qrf (hψ:∀ b,ψ b→b<w.heap.size):∀ (azz:List Arg) (n:Nat) (fs:Nat→Option Fact) (β:Nat→Nat→Value) (φ:Nat→List Nat) (dom:Nat→Prop) (vs:List Value) (f L:List Nat),RL P fs β φ dom ψ IN w0 w (f++L)→(∀ id,n≤id→¬ dom id)→ArgsOK P ψ w azz vs f →
  ∃ β' φ' dom',RL P (Ud fs (inAs n azz).2.1) β' φ' dom' ψ IN w0 w L∧Ext β β' dom dom' n (inAs n azz).2.2∧vals β' (inAs n azz).1=vs∧AVs.wf dom' (inAs n azz).1
 | [],n,fs,β,φ,dom,vs,f,L,H,hn,ho=>by
  obtain ⟨rfl,rfl⟩:=ho
  exact ⟨β,φ,dom,H,Ext.refl _ _ _,rfl,trivial⟩
 | a :: azz,n,fs,β,φ,dom,vs,f,L,H,hn,ho=>by
  obtain ⟨u,us,f1,g,rfl,h1,h2,rfl,h3⟩:=ho
  rw [List.append_assoc] at H
  obtain ⟨β1,φ1,dom1,k1,k2,k3,k4⟩:=inA_ok hψ a n fs β φ dom u f1 (g++L) H hn h1
  obtain ⟨β',φ',dom',m1,m2,m3,m4⟩:=Qrf hψ azz (inA n a).2.2 _ β1 φ1 dom1 us g L k1 (fun id h hd=>by
   rcases k2.new id hd with h3 | h3
   ·exact hn id (Nat.le_trans k2.le h) h3
   ·omega) h2
  refine ⟨β',φ',dom',by simp only [inAs]; rw [Zz]; exact m1,k2.trans m2,?_,⟨AV.wf_mono (fun id h=>(m2.old id h).1) _ k4,m4⟩⟩
  simp only [inAs,vals,m3]
  rw [Wz (dom:=dom1) (fun id h=>(m2.old id h).2) _ k4,k3]
theorem Nf:∀ (azz:List AV) (i t:Nat) (av:AV),slG (Gr i azz) t=some av→i≤t∧azz[t-i]?=some av
 | [],i,t,av,h=>by cases h
 | a :: azz,i,t,av,h=>by
  simp only [Gr,slG] at h
  cases hb:Nat.beq i t with
  | true =>
   rw [hb] at h
   simp only [cond_true,Option.some.injEq] at h
   have e:=Nat.eq_of_beq_eq_true hb
   subst e; subst h
   exact ⟨Nat.le_refl _,by simp⟩
  | false =>
   rw [hb] at h
   obtain ⟨h1,h2⟩:=Nf azz (i+1) t av h
   exact ⟨by omega,by rw [show t-i=(t-(i+1))+1 by omega]; simpa using h2⟩
theorem Ugo (D:Bool) {sp:Spec} {S:Nat→Prop} {w:World} {vs:List Value} {fp:List Nat} (hS:∀ b,S b→b<w.heap.size∧b ∉ fp) (hG:GOK S w) (h:ArgsOK P S w sp.args vs fp) (hlt:∀ b∈fp,b<w.heap.size) (hnd:fp.Nodup) {N:Nat} (hN:vs.length≤N) :
  Za P N S (·∈fp) (atD D w) (stIn sp.args) { tmps:=vs.toArray++Array.replicate (N-vs.toArray.size) undef,defers:=[] } w:=by
 have H0:RL P (fun _=>none) (fun _ _=>.bool false) (fun _=>[]) (fun _=>False) S (·∈fp) (atD D w) w (fp++[]):=by
  refine ⟨⟨fun id f hf=>(by cases hf),fun i j f g hf=>(by cases hf),fun id f hf=>(by cases hf),fun b hb=>(hS b hb).1,fun _ _=>rfl,(Chg.of_below (Bel.refl _ _)).toD D,hG⟩,by simpa using hnd,fun b hb=>?_⟩
  have hb':b∈fp:=by simpa using hb
  exact ⟨hlt b hb',.inr hb',fun hp=>(hS b hp).2 hb',fun id f hf=>by cases hf⟩
 obtain ⟨β,φ,dom,k1,k2,k3,k4⟩:=Qrf (fun b hb=>(hS b hb).1) sp.args 0 _ _ _ _ vs fp [] H0 (fun _ _ h=>h) h
 refine ⟨β,φ,dom,?_,rfl,fun t av ht=>?_,k1.rel.sub fun id f hf=>?_,fun id hid=>?_⟩
 ·simp; omega
 ·obtain ⟨_,h2⟩:=Nf _ 0 t av ht
  rw [Nat.sub_zero] at h2
  have hv:vs[t]?=some (val β av):=by rw [← k3,Wg,List.getElem?_map,h2]; rfl
  refine ⟨?_,AVs.wf_iff.1 k4 av (List.mem_of_getElem? h2)⟩
  have hlt:=(List.getElem?_eq_some_iff.1 hv).1
  rw [Array.getElem?_append_left (by simpa using hlt)]
  simpa using hv
 ·have e:fsG (stIn sp.args).fs id=(Uj (inAs 0 sp.args).2.1 id).getD none:=by
   have h3:=Qhf (fun o=>o.2) [] id (inAs 0 sp.args).2.1
   simp only [List.append_nil] at h3
   have h4:((inAs 0 sp.args).2.1.map fun p=>(p.1,p.2))=(inAs 0 sp.args).2.1:=by simp
   rw [h4] at h3
   show fsG (inAs 0 sp.args).2.1.reverse id=_
   rw [h3]
   cases Uj (inAs 0 sp.args).2.1 id <;> rfl
  rw [e] at hf
  rw [No]
  exact hf
 ·rcases k2.new id hid with h | h
  ·exact h.elim
  ·exact h.2
end
def Qxv (P:Program) (s:St):ResultVar→Option AV
 | .tmp t=>slG s.sl t
 | .cell t T=>match slG s.sl t with
  | some a=>(match Ew P (fsG s.fs) T a with | some r=>some r.av | none=>none)
  | none=>none
def Ns (P:Program) (s:St):List ResultVar→Option (List AV)
 | []=>some []
 | r :: rs=>match Qxv P s r,Ns P s rs with
  | some a,some azz=>some (a :: azz)
  | _,_=>none
def Lc (fs:Nat→Option Fact):List AV→List AV
 | .h id 0 :: cs=>(match fs id with | some (.vl x _)=>bif x.oneCell' then .v x else .h id 0 | _=>.h id 0) :: Lc fs cs
 | c :: cs=>c :: Lc fs cs
 | []=>[]
def mPtv (fs:Nat→Option Fact) (id:Nat) (T:TypeId) (ds:List Dat):Option MA:=match fs id with
 | some (.box T0 cs)=>bif Nat.beq T T0 then (match Us fs (Lc fs cs) with
  | some (d0s,ids)=>some ⟨[Imps d0s ds],id :: ids,[]⟩
  | none=>none) else none
 | _=>none
mutual
def mRes (P:Program) (fs:Nat→Option Fact):AV→RT→Option (List Prop×List Nat)
 | av,.v x=>(match av with | .v y=>bif y.oneCell' then some ([y=x],[]) else none | _=>none)
 | av,.ow d=>(match d with
  | .any=>bif av.one then some ([],[]) else none
  | d=>(match mArg P fs none av (.ow d none) with | some m=>some (m.vcs,m.cons) | none=>none))
 | av,.ag l=>(match Zl av with | some cs=>bif cs.all AV.one then Mi P fs cs l else none | none=>none)
 | av,.tu l=>(match av with | .tu cs=>Mi P fs cs l | _=>none)
 | av,.cl f l=>(match av with | .cl f' cs=>bif Nat.beq f f' then Mi P fs cs l else none | _=>none)
 | av,.pt T ds=>(match av with | .p id 0=>(match mPtv fs id T ds with | some m=>some (m.vcs,m.cons) | none=>none) | _=>none)
def Mi (P:Program) (fs:Nat→Option Fact):List AV→List RT→Option (List Prop×List Nat)
 | [],[]=>some ([],[])
 | a :: azz,r :: rs=>match mRes P fs a r,Mi P fs azz rs with
  | some m,some n=>some (m.1++n.1,m.2++n.2)
  | _,_=>none
 | _,_=>none
end
def mBeh (P:Program) (s:St) (i:Nat):Arg→Option (List Prop×List Nat)
 | .pt T _ ds'=>match slG s.sl i with
  | some av=>(match mArg P (fsG s.fs) none av (.pt T ds' ds') with | some m=>some (m.vcs,m.cons) | none=>none)
  | none=>none
 | .ptg _ T x _ _ ds'=>match slG s.sl i with
  | some av=>(match av with | .p id 0=>(match mPtv (fsG s.fs) id T (.v x :: ds') with | some m=>some (m.vcs,m.cons) | none=>none) | _=>none)
  | none=>none
 | .og _ ds'=>match slG s.sl i with
  | some av=>(match mArg P (fsG s.fs) none av (.og ds' ds') with | some m=>some (m.vcs,m.cons) | none=>none)
  | none=>none
 | .ow _ (some d')=>match slG s.sl i with
  | some av=>(match mArg P (fsG s.fs) none av (.ow d' none) with | some m=>some (m.vcs,m.cons) | none=>none)
  | none=>none
 | _=>some ([],[])
def Qjx (P:Program) (s:St):Nat→List Arg→Option (List Prop×List Nat)
 | _,[]=>some ([],[])
 | i,a :: azz=>match mBeh P s i a,Qjx P s (i+1) azz with
  | some m,some n=>some (m.1++n.1,m.2++n.2)
  | _,_=>none
def Ki:Nat→List Arg→List Nat
 | _,[]=>[]
 | i,.pt _ _ _ :: azz=>i :: Ki (i+1) azz
 | i,.ptg _ _ _ _ _ _ :: azz=>i :: Ki (i+1) azz
 | i,.ow _ (some _) :: azz=>i :: Ki (i+1) azz
 | i,.og _ _ :: azz=>i :: Ki (i+1) azz
 | i,_ :: azz=>Ki (i+1) azz
def Qfu:List AV→AV
 | [a]=>a
 | azz=>.tu azz
def finV (P:Program) (fn:Func) (sp:Spec) (s:St):Option (List Prop) :=
 match Ns P s fn.results.toList with
 | some azz=>(match mRes P (fsG s.fs) (Qfu azz) sp.res,Qjx P s 0 sp.args with
  | some m,some n=>bif Wl (m.2++n.2) then some (m.1++n.1) else none
  | _,_=>none)
 | none=>none
def finP (P:Program) (fn:Func) (sp:Spec) (s:St):Prop:=match finV P fn sp s with
 | some ps=>ps.foldr And True
 | none=>False
def fnP {D:Bool} (P:Program) (fn:Func) (c:Code) (ct:Cert D P) (sp:Spec):Prop:=cwp P fn.ntmps c ct (stIn sp.args) fun e s=>match e with
 | .x _=>False
 | _=>finP P fn sp s
section
variable {D:Bool} {P:Program} {N:Nat} {β:Nat→Nat→Value} {φ:Nat→List Nat} {dom ψ IN:Nat→Prop} {w0 w:World} {s:St} {a:Act}
theorem Ucg (V:StOK P N ψ IN w0 s a w β φ dom):∀ {r:ResultVar} {av:AV},Qxv P s r=some av→(Qew a.tmps r).run P w=.ok (val β av) w∧av.wf dom
 | .tmp t,av,h=>by
  obtain ⟨h1,h2⟩:=V.has t av h
  exact ⟨by simp [Qew,h1],h2⟩
 | .cell t T,av,h=>by
  simp only [Qxv] at h
  split at h
  ·rename_i p hp
   split at h
   ·rename_i r hr
    simp only [Option.some.injEq] at h
    subst h
    obtain ⟨h1,h2⟩:=V.has t p hp
    obtain ⟨k1,k2,_⟩:=Mt V.rel (fun _ _ h=>h) hr
    refine ⟨?_,k2⟩
    cases p <;> simp only [Ew] at hr <;> first | cases hr | skip
    rename_i id off
    split at hr
    ·rename_i cs hcs
     obtain ⟨b,o,g1,_⟩:=Ko V.rel (fun _ _ h=>h) hcs
     have e:val β (.p id off)=.pointer (some ⟨b,o+off,none⟩):=by simp [val,g1,padd]
     rw [e] at k1 h1
     simp only [Instr.loadAt,Instr.sureAddr,Sem.run_bind,Sem.run_pure,Result.andThen_ok] at k1
     simp [Qew,h1,asAddr,k1]
    ·cases hr
   ·cases h
  ·cases h
theorem Qeb (V:StOK P N ψ IN w0 s a w β φ dom):∀ {rs:List ResultVar} {azz:List AV},Ns P s rs=some azz→(rs.mapM (Qew a.tmps)).run P w=.ok (vals β azz) w∧AVs.wf dom azz
 | [],azz,h=>by
  simp only [Ns,Option.some.injEq] at h
  subst h
  exact ⟨by simp [vals],trivial⟩
 | r :: rs,azz,h=>by
  simp only [Ns] at h
  split at h
  ·rename_i av avs h1 h2
   simp only [Option.some.injEq] at h
   subst h
   obtain ⟨k1,k2⟩:=Ucg V h1
   obtain ⟨m1,m2⟩:=Qeb V h2
   exact ⟨by simp [List.mapM_cons,k1,m1,vals],k2,m2⟩
  ·cases h
theorem Qon (V:StOK P N ψ IN w0 s a w β φ dom) {fn:Func} {azz:List AV} (h:Ns P s fn.results.toList=some azz):(results fn a.tmps).run P w=.ok (val β (Qfu azz)) w∧(Qfu azz).wf dom:=by
 obtain ⟨h1,h2⟩:=Qeb V h
 rw [Qnu]
 have e:(fn.results.mapM (Qew a.tmps)).run P w=.ok (vals β azz).toArray w:=by
  rw [Array.mapM_eq_mapM_toList]
  simp [h1]
 cases azz with
 | nil=>exact ⟨by simp [e,Qfu,vals,val],trivial⟩
 | cons x azz =>
  cases azz with
  | nil=>exact ⟨by simp [e,Qfu,vals],h2.1⟩
  | cons y azz=>exact ⟨by simp [e,Qfu,vals,val],h2⟩
def FPo (φ:Nat→List Nat) (f ids:List Nat):Prop:=f.Nodup∧∀ b,b∈f↔∃ id∈ids,b∈φ id
theorem FPo.nil:FPo φ [] []:=⟨List.nodup_nil,fun b=>⟨fun h=>(by cases h),fun ⟨_,h,_⟩=>(by cases h)⟩⟩
theorem FPo.app {fs:Nat→Option Fact} (R:Rel P fs β φ dom ψ IN w0 w) {f g i j:List Nat} (hf:FPo φ f i) (hg:FPo φ g j) (hnd:(i++j).Nodup) (hm:∀ id∈i++j,∃ x,fs id=some x∧x.mod=true):FPo φ (f++g) (i++j):=by
 obtain ⟨n1,n2,n3⟩:=List.nodup_append.1 hnd
 refine ⟨List.nodup_append.2 ⟨hf.1,hg.1,fun b hb b' hb' e=>?_⟩,fun b=>?_⟩
 ·subst e
  obtain ⟨x,hx,hbx⟩:=(hf.2 b).1 hb
  obtain ⟨y,hy,hby⟩:=(hg.2 b).1 hb'
  obtain ⟨fx,ex,mx⟩:=hm x (List.mem_append_left _ hx)
  obtain ⟨fy,ey,my⟩:=hm y (List.mem_append_right _ hy)
  exact R.dis x y _ _ ex ey mx my (n3 x hx y hy) b hbx hby
 ·rw [List.mem_append,hf.2,hg.2]
  constructor
  ·rintro (⟨x,h1,h2⟩ | ⟨x,h1,h2⟩)
   ·exact ⟨x,List.mem_append_left _ h1,h2⟩
   ·exact ⟨x,List.mem_append_right _ h1,h2⟩
  ·rintro ⟨x,h1,h2⟩
   rcases List.mem_append.1 h1 with h1 | h1
   ·exact .inl ⟨x,h1,h2⟩
   ·exact .inr ⟨x,h1,h2⟩
theorem Ll {fs:Nat→Option Fact} (R:Rel P fs β φ dom ψ IN w0 w) {av:AV} {ar:Arg} {m:MA} (hk:(match ar with | .pt _ _ _=>true | .ow _ none=>true | .og _ _=>true | _=>false)=true) (h:mArg P fs none av ar=some m) (hv:AllP m.vcs) (hnd:m.cons.Nodup) :
  ∃ fp,ArgOK P (Outs φ w m.cons) w ar (val β av) fp∧FPo φ fp m.cons∧∀ id∈m.cons,∃ x,fs id=some x∧x.mod=true:=by
 have hC:=Pg (fun _ _ h=>h) R h
 have hr:m.reads=[]:=by
  cases ar with
  | pt T ds ds' =>
   simp only [mArg,mPt] at h
   split at h
   ·split at h
    ·rename_i T0 cs hid
     cases hT:Nat.beq T T0 with
     | false=>rw [hT] at h; cases h
     | true =>
      rw [hT] at h
      simp only [cond_true] at h
      split at h
      ·cases h; rfl
      ·cases h
    ·cases h
   ·cases h
  | og ds ds' =>
   simp only [mArg] at h
   split at h
   ·simp only [mOg] at h
    split at h
    ·cases h; rfl
    ·cases h
   ·cases h
  | ow d d' =>
   cases d' with
   | none =>
    simp only [mArg,mOw] at h
    split at h
    ·cases h; rfl
    ·cases h
   | some d'=>simp at hk
  | _=>simp at hk
 obtain ⟨fp,h1,h2,_,_,h5⟩:=Qpr R (fun _ _ h=>h) hC h hv (fun X hX=>by rw [hr] at hX; cases hX) hnd
 exact ⟨fp,h1,⟨h5,h2⟩,hC⟩
theorem Qjq {av:AV} {cs:List AV} (h:Zl av=some cs) (hw:av.wf dom):AVs.wf dom cs:=by
 cases av with
 | ag cs'=>simp only [Zl,Option.some.injEq] at h; subst h; exact hw
 | v x =>
  cases x <;> simp only [Zl,Option.some.injEq] at h <;> first | cases h | skip
  all_goals exact AVs.wf_v _
 | _=>simp [Zl] at h
theorem Qfz {fs:Nat→Option Fact} (R:Rel P fs β φ dom ψ IN w0 w):∀ cs:List AV,vals β (Lc fs cs)=vals β cs
 | []=>rfl
 | c :: cs=>by
  have ih:=Qfz R cs
  cases c with
  | h id j =>
   cases j with
   | zero =>
    simp only [Lc,vals,ih]
    congr 1
    split
    ·rename_i x d hf
     cases hx:x.oneCell' with
     | false=>rfl
     | true=>exact (R.ok id _ hf).2.1.symm
    ·rfl
   | succ j=>simp only [Lc,vals,ih]
  | _=>simp only [Lc,vals,ih]
theorem Qps {fs:Nat→Option Fact} (R:Rel P fs β φ dom ψ IN w0 w) {id:Nat} {T:TypeId} {ds:List Dat} {m:MA} (h:mPtv fs id T ds=some m) (hv:AllP m.vcs) (hnd:m.cons.Nodup) :
  ∃ fp,(∃ b vs f,val β (.p id 0)=.pointer (some ⟨b,0,none⟩)∧Box w b T vs∧OwVs w ds vs f∧fp=b :: f∧fp.Nodup)∧FPo φ fp m.cons∧∀ id∈m.cons,∃ x,fs id=some x∧x.mod=true:=by
 simp only [mPtv] at h
 split at h
 ·rename_i T0 cs hid
  cases hT:Nat.beq T T0 with
  | false=>rw [hT] at h; cases h
  | true =>
   rw [hT] at h
   simp only [cond_true] at h
   have hT':=Nat.eq_of_beq_eq_true hT
   subst hT'
   split at h
   ·rename_i d0s ids hds
    cases h
    obtain ⟨k1,⟨g0,g0'⟩,b,g1,g2,g3⟩:=R.ok id _ hid
    obtain ⟨fp,q1,q2,q3,q4,q5,q6,q7⟩:=Uh R (fun _ _ h=>h) hds
    rw [Qfz R] at q1
    obtain ⟨n1,n2⟩:=List.nodup_cons.1 hnd
    have hbid:b∈φ id:=by rw [g3]; exact List.mem_cons_self
    have hbf:b ∉ fp:=fun hb=>by
     obtain ⟨i,h1,h2⟩:=q2 b hb
     obtain ⟨V,d,hd⟩:=q5 i h1
     exact R.dis id i _ _ hid hd rfl rfl (fun e=>n1 (e ▸ h1)) b hbid h2
    have hfp:∀ b',(∃ i∈ids,b'∈φ i)→b'∈fp:=fun b' ⟨i,h1,h2⟩=>q7 i h1 b' h2
    refine ⟨b :: fp,⟨b,_,fp,by simp [val,g1,padd],g2,hv.1.ow q1,rfl,List.nodup_cons.2 ⟨hbf,q1.nd⟩⟩,⟨List.nodup_cons.2 ⟨hbf,q1.nd⟩,fun b'=>⟨fun hb'=>?_,fun ⟨i,h1,h2⟩=>?_⟩⟩,fun i hi=>?_⟩
    ·rcases List.mem_cons.1 hb' with rfl | hb'
     ·exact ⟨id,List.mem_cons_self,hbid⟩
     ·obtain ⟨i,h1,h2⟩:=q2 b' hb'
      exact ⟨i,List.mem_cons_of_mem _ h1,h2⟩
    ·rcases List.mem_cons.1 h1 with rfl | h1
     ·rw [g3] at h2
      simp only [List.mem_singleton] at h2
      subst h2
      exact List.mem_cons_self
     ·exact List.mem_cons_of_mem _ (hfp b' ⟨i,h1,h2⟩)
    ·rcases List.mem_cons.1 hi with rfl | hi
     ·exact ⟨_,hid,rfl⟩
     ·obtain ⟨V,d,hd⟩:=q5 i hi
      exact ⟨_,hd,rfl⟩
   ·cases h
 ·cases h
mutual
theorem Qpm {fs:Nat→Option Fact} (R:Rel P fs β φ dom ψ IN w0 w):∀ (av:AV) (rt:RT) (m:List Prop×List Nat),mRes P fs av rt=some m→AllP m.1→m.2.Nodup→av.wf dom →
  ∃ fp,RTOK w rt (val β av) fp∧FPo φ fp m.2∧∀ id∈m.2,∃ x,fs id=some x∧x.mod=true
 | av,.v x,m,h,hv,hnd,hw=>by
  unfold mRes at h
  split at h
  ·rename_i y
   cases hy:y.oneCell' with
   | false=>rw [hy] at h; cases h
   | true =>
    simp only [hy,cond_true,Option.some.injEq] at h
    subst h
    obtain ⟨rfl,_⟩:=hv
    exact ⟨[],⟨rfl,hy,rfl⟩,FPo.nil,fun id hid=>by cases hid⟩
  ·cases h
 | av,.ow d,m,h,hv,hnd,hw=>by
  unfold mRes at h
  split at h
  ·cases ho:av.one with
   | false=>rw [ho] at h; cases h
   | true =>
    rw [ho] at h
    simp only [cond_true,Option.some.injEq] at h
    subst h
    exact ⟨[],⟨AV.one_val R.one ho hw,rfl⟩,FPo.nil,fun id hid=>by cases hid⟩
  ·split at h
   ·rename_i m' hm'
    cases h
    exact Ll R rfl hm' hv hnd
   ·cases h
 | av,.ag l,m,h,hv,hnd,hw=>by
  unfold mRes at h
  split at h
  ·rename_i cs hcs
   cases ho:cs.all AV.one with
   | false=>rw [ho] at h; cases h
   | true =>
    rw [ho] at h
    obtain ⟨e1,e2'⟩:=Bj (β:=β) (dom:=dom) hcs
    have e2:=Qjq hcs hw
    obtain ⟨fp,k1,k2,k3⟩:=Ma R cs l m h hv hnd e2
    exact ⟨fp,⟨_,e1,Qar R.one ho e2,k1⟩,k2,k3⟩
  ·cases h
 | av,.tu l,m,h,hv,hnd,hw=>by
  unfold mRes at h
  split at h
  ·rename_i cs
   obtain ⟨fp,k1,k2,k3⟩:=Ma R cs l m h hv hnd hw
   exact ⟨fp,⟨_,rfl,k1⟩,k2,k3⟩
  ·cases h
 | av,.cl f l,m,h,hv,hnd,hw=>by
  unfold mRes at h
  split at h
  ·rename_i f' cs
   cases hb:Nat.beq f f' with
   | false=>rw [hb] at h; cases h
   | true =>
    rw [hb] at h
    have e:=Nat.eq_of_beq_eq_true hb
    subst e
    obtain ⟨fp,k1,k2,k3⟩:=Ma R cs l m h hv hnd hw
    exact ⟨fp,⟨_,rfl,k1⟩,k2,k3⟩
  ·cases h
 | av,.pt T ds,m,h,hv,hnd,hw=>by
  unfold mRes at h
  split at h
  ·rename_i id
   split at h
   ·rename_i m' hm'
    cases h
    obtain ⟨fp,k1,k2,k3⟩:=Qps R hm' hv hnd
    exact ⟨fp,k1,k2,k3⟩
   ·cases h
  ·cases h
theorem Ma {fs:Nat→Option Fact} (R:Rel P fs β φ dom ψ IN w0 w):∀ (azz:List AV) (rs:List RT) (m:List Prop×List Nat),Mi P fs azz rs=some m→AllP m.1→m.2.Nodup→AVs.wf dom azz →
  ∃ fp,Qex w rs (vals β azz) fp∧FPo φ fp m.2∧∀ id∈m.2,∃ x,fs id=some x∧x.mod=true
 | [],[],m,h,hv,hnd,hw=>by
  simp only [Mi,Option.some.injEq] at h
  subst h
  exact ⟨[],⟨rfl,rfl⟩,FPo.nil,fun id hid=>by cases hid⟩
 | a :: azz,r :: rs,m,h,hv,hnd,hw=>by
  simp only [Mi] at h
  split at h
  ·rename_i m1 m2 h1 h2
   cases h
   obtain ⟨v1,v2⟩:=AllP.app hv
   obtain ⟨n1,n2,n3⟩:=List.nodup_append.1 hnd
   obtain ⟨f1,k1,k2,k3⟩:=Qpm R a r m1 h1 v1 n1 hw.1
   obtain ⟨f2,q1,q2,q3⟩:=Ma R azz rs m2 h2 v2 n2 hw.2
   have hm:∀ id∈m1.2++m2.2,∃ x,fs id=some x∧x.mod=true:=fun id hid=>(List.mem_append.1 hid).elim (k3 id) (q3 id)
   exact ⟨f1++f2,⟨_,_,f1,f2,rfl,k1,q1,rfl⟩,FPo.app R k2 q2 hnd hm,hm⟩
  ·cases h
 | [],_ :: _,m,h,_,_,_=>by simp [Mi] at h
 | _ :: _,[],m,h,_,_,_=>by simp [Mi] at h
end
theorem Qjc (V:StOK P N ψ IN w0 s a w β φ dom):∀ (azz:List Arg) (i:Nat) (us:List Value) (m:List Prop×List Nat),(∀ j,i+j∈Ki i azz→a.tmps[i+j]?=us[j]?)→us.length=azz.length→Qjx P s i azz=some m→AllP m.1→m.2.Nodup →
  ∃ fp,Ny w azz us fp∧FPo φ fp m.2∧∀ id∈m.2,∃ x,fsG s.fs id=some x∧x.mod=true
 | [],i,us,m,hp,hl,h,hv,hnd=>by
  simp only [Qjx,Option.some.injEq] at h
  subst h
  exact ⟨[],rfl,FPo.nil,fun id hid=>by cases hid⟩
 | ar :: azz,i,us,m,hp,hl,h,hv,hnd=>by
  simp only [Qjx] at h
  split at h
  ·rename_i m1 m2 h1 h2
   cases h
   obtain ⟨v1,v2⟩:=AllP.app hv
   obtain ⟨n1,n2,n3⟩:=List.nodup_append.1 hnd
   cases us with
   | nil=>simp at hl
   | cons u us =>
    have hu:i∈Ki i (ar :: azz)→a.tmps[i]?=some u:=fun h=>by simpa using hp 0 (by simpa using h)
    obtain ⟨f2,q1,q2,q3⟩:=Qjc V azz (i+1) us m2 (fun j hj=>by
     have:=hp (j+1) (by
      rw [show i+(j+1)=i+1+j by omega]
      unfold Ki
      split <;> first | exact List.mem_cons_of_mem _ hj | exact hj | (rename_i e; cases e <;> first | exact List.mem_cons_of_mem _ hj | exact hj))
     rw [show i+1+j=i+(j+1) by omega]; simpa using this) (by simpa using hl) h2 v2 n2
    obtain ⟨f1,k1,k2,k3⟩:∃ f1,BehOK w ar u f1∧FPo φ f1 m1.2∧∀ id∈m1.2,∃ x,fsG s.fs id=some x∧x.mod=true:=by
     cases ar with
     | pt T ds ds' =>
      simp only [mBeh] at h1
      split at h1
      ·rename_i av hav
       split at h1
       ·rename_i m' hm'
        cases h1
        obtain ⟨fp,g1,g2,g3⟩:=Ll V.rel rfl hm' v1 n1
        have e:=(V.has i av hav).1
        rw [hu (by simp [Ki])] at e
        cases e
        obtain ⟨b,vs,f,e1,e2,e3,e4,_⟩:=g1
        exact ⟨fp,⟨b,vs,f,e1,e2,e3,e4⟩,g2,g3⟩
       ·cases h1
      ·cases h1
     | ptg gi T x d ds ds' =>
      simp only [mBeh] at h1
      split at h1
      ·rename_i av hav
       split at h1
       ·rename_i id
        split at h1
        ·rename_i m' hm'
         cases h1
         obtain ⟨fp,g1,g2,g3⟩:=Qps V.rel hm' v1 n1
         have e:=(V.has i (.p id 0) hav).1
         rw [hu (by simp [Ki])] at e
         cases e
         obtain ⟨b,vs,f,e1,e2,e3,e4,_⟩:=g1
         obtain ⟨u2,us2,f1,f2,rfl,⟨rfl,_,rfl⟩,q2,rfl,_⟩:=e3
         exact ⟨fp,⟨b,us2,_,e1,e2,q2,e4⟩,g2,g3⟩
        ·cases h1
       ·cases h1
      ·cases h1
     | og ds ds' =>
      simp only [mBeh] at h1
      split at h1
      ·rename_i av hav
       split at h1
       ·rename_i m' hm'
        cases h1
        obtain ⟨fp,g1,g2,g3⟩:=Ll V.rel rfl hm' v1 n1
        have e:=(V.has i av hav).1
        rw [hu (by simp [Ki])] at e
        cases e
        exact ⟨fp,g1,g2,g3⟩
       ·cases h1
      ·cases h1
     | ow d d' =>
      cases d' with
      | none =>
       simp only [mBeh,Option.some.injEq] at h1
       subst h1
       exact ⟨[],rfl,FPo.nil,fun id hid=>by cases hid⟩
      | some d' =>
       simp only [mBeh] at h1
       split at h1
       ·rename_i av hav
        split at h1
        ·rename_i m' hm'
         cases h1
         obtain ⟨fp,g1,g2,g3⟩:=Ll V.rel rfl hm' v1 n1
         have e:=(V.has i av hav).1
         rw [hu (by simp [Ki])] at e
         cases e
         exact ⟨fp,g1,g2,g3⟩
        ·cases h1
       ·cases h1
     | _ =>
      simp only [mBeh,Option.some.injEq] at h1
      subst h1
      exact ⟨[],rfl,FPo.nil,fun id hid=>by cases hid⟩
    have hm:∀ id∈m1.2++m2.2,∃ x,fsG s.fs id=some x∧x.mod=true:=fun id hid=>(List.mem_append.1 hid).elim (k3 id) (q3 id)
    exact ⟨f1++f2,⟨_,_,f1,f2,rfl,k1,q1,rfl⟩,FPo.app V.rel k2 q2 hnd hm,hm⟩
  ·cases h
theorem ArgsOK.len {S:Nat→Prop}:∀ {azz:List Arg} {vs:List Value} {fp:List Nat},ArgsOK P S w azz vs fp→vs.length=azz.length
 | [],vs,fp,h=>by rw [h.1]; rfl
 | a :: azz,vs,fp,h=>by
  obtain ⟨u,us,f,g,rfl,_,h2,_⟩:=h
  simp [ArgsOK.len h2]
theorem ArgOK.lt {S:Nat→Prop}:∀ {a:Arg} {v:Value} {fp:List Nat},ArgOK P S w a v fp→(∀ b∈fp,b<w.heap.size)∧fp.Nodup
 | .r a,v,fp,h=>by rw [h.2]; exact ⟨fun b hb=>(by cases hb),List.nodup_nil⟩
 | .rp ds,v,fp,h=>by rw [h.2]; exact ⟨fun b hb=>(by cases hb),List.nodup_nil⟩
 | .fn F _,v,fp,h=>by rw [h.2]; exact ⟨fun b hb=>(by cases hb),List.nodup_nil⟩
 | .ow d d',v,fp,h=>⟨OwV.lt _ _ _ h,OwV.nd h⟩
 | .og ds ds',v,fp,h=>by
  obtain ⟨vs,_,h⟩:=h
  exact ⟨OwVs.lt _ _ _ h,OwVs.nd h⟩
 | .ot ds,v,fp,h=>by
  obtain ⟨vs,_,h⟩:=h
  exact ⟨OwVs.lt _ _ _ h,OwVs.nd h⟩
 | .pt T ds ds',v,fp,h=>by
  obtain ⟨b,vs,f,rfl,h2,h3,rfl,h5⟩:=h
  refine ⟨fun b' hb=>?_,h5⟩
  rcases List.mem_cons.1 hb with rfl | hb
  ·exact h2.lt
  ·exact OwVs.lt _ _ _ h3 b' hb
 | .ptg gi T x d ds ds',v,fp,h=>by
  obtain ⟨⟨b,vs,f,rfl,h2,h3,rfl,h5⟩,_⟩:=h
  refine ⟨fun b' hb=>?_,h5⟩
  rcases List.mem_cons.1 hb with rfl | hb
  ·exact h2.lt
  ·exact OwVs.lt _ _ _ h3 b' hb
 | .vl x d,v,fp,h=>by rw [h.2]; exact ⟨fun b hb=>(by cases hb),List.nodup_nil⟩
theorem ArgsOK.lt {S:Nat→Prop}:∀ {azz:List Arg} {vs:List Value} {fp:List Nat},ArgsOK P S w azz vs fp→(∀ b∈fp,b<w.heap.size)∧fp.Nodup
 | [],vs,fp,h=>by rw [h.2]; exact ⟨fun b hb=>(by cases hb),List.nodup_nil⟩
 | a :: azz,vs,fp,h=>by
  obtain ⟨u,us,f,g,rfl,h1,h2,rfl,h4⟩:=h
  exact ⟨fun b hb=>(List.mem_append.1 hb).elim ((ArgOK.lt h1).1 b) ((ArgsOK.lt h2).1 b),h4⟩
theorem Qja:∀ (azz:List Arg) (i t:Nat),t∈Ki i azz→t<i+azz.length
 | [],i,t,h=>by cases h
 | a :: azz,i,t,h=>by
  have key:t=i∨t∈Ki (i+1) azz:=by
   unfold Ki at h
   split at h
   ·rename_i e; cases e
   ·rename_i e; cases e; exact List.mem_cons.1 h
   ·rename_i e; cases e; exact List.mem_cons.1 h
   ·rename_i e; cases e; exact List.mem_cons.1 h
   ·rename_i e; cases e; exact List.mem_cons.1 h
   ·rename_i e; cases e; exact .inr h
  rcases key with h | h
  ·subst h; simp
  ·have:=Qja azz (i+1) t h
   simp; omega
theorem fn_ok {f:FuncId} {fn:Func} {c:Code} {ct:Cert D P} {sp:Spec} (hm:P.follows .mixedOrders=true) (hf:P.funcs[f]?=some fn) (hb:fn.body=some c) (hn:Nat.ble sp.args.length fn.ntmps=true) (hpar:parC (Ki 0 sp.args) c=true) (h:sp.pre→fnP P fn c ct sp):Spec.ok P f sp D:=by
 intro hpre S w vs fp hS hG ha
 have hlen:=ArgsOK.len ha
 obtain ⟨hlt,hnd⟩:=ArgsOK.lt ha
 have hN:=Nat.le_of_ble_eq_true hn
 refine calls_of_wp hf hb ?_
 have H0:=Ugo D (N:=fn.ntmps) hS hG ha hlt hnd (by omega)
 have hD0:D=false→(atD D w).drawn=0:=fun h=>by rw [h]; rfl
 refine Zh hD0 hm (n:=Ki 0 sp.args) _ c ct _ _ hpar (h hpre) _ w H0 (fun _ _=>rfl) _ fun e s' a' w' hq hH hp=>?_
 have key:finP P fn sp s'→a'.defers=[]∧∃ v,(results fn a'.tmps).run P w'=.ok v w'∧∃ rv fr fb,Ending.returned v=.returned rv∧RTOK w' sp.res rv fr∧Ny w' sp.args vs fb∧(fr++fb).Nodup∧(∀ b∈fr++fb,b<w'.heap.size∧(b∈fp∨w.heap.size≤b))∧Chg (·∈fp) (atD D w) w':=by
  intro hfin
  obtain ⟨β,φ,dom,V⟩:=hH
  unfold finP at hfin
  split at hfin
  ·rename_i ps hps
   obtain ⟨hv,_⟩:=Gx hfin
   unfold finV at hps
   split at hps
   ·rename_i azz has
    split at hps
    ·rename_i m n h1 h2
     cases hb:Wl (m.2++n.2) with
     | false=>rw [hb] at hps; cases hps
     | true =>
      simp only [hb,cond_true,Option.some.injEq] at hps
      subst hps
      have hnn:=Wv hb
      obtain ⟨n1,n2,n3⟩:=List.nodup_append.1 hnn
      obtain ⟨v1,v2⟩:=AllP.app hv
      obtain ⟨r1,r2⟩:=Qon V has
      obtain ⟨fr,k1,k2,k3⟩:=Qpm V.rel _ _ m h1 v1 n1 r2
      obtain ⟨fb,q1,q2,q3⟩:=Qjc V sp.args 0 vs n (fun j hj=>by
       have hj':j<vs.length:=by have:=Qja sp.args 0 _ hj; omega
       rw [hp (0+j) hj,Nat.zero_add]
       simp only
       rw [Array.getElem?_append_left (by simpa using hj')]
       simp) hlen h2 v2 n2
      have hmm:∀ id∈m.2++n.2,∃ x,fsG s'.fs id=some x∧x.mod=true:=fun id hid=>(List.mem_append.1 hid).elim (k3 id) (q3 id)
      obtain ⟨g1,g2⟩:=FPo.app V.rel k2 q2 hnn hmm
      refine ⟨V.defers,_,r1,_,fr,fb,rfl,k1,q1,g1,fun b hb=>?_,V.rel.chg⟩
      obtain ⟨id,hid,hbi⟩:=(g2 b).1 hb
      obtain ⟨x,hx,hxm⟩:=hmm id hid
      obtain ⟨l1,l2,_⟩:=V.rel.lt id x hx hxm b hbi
      exact ⟨l1,l2.symm⟩
    ·cases hps
   ·cases hps
  ·exact hfin.elim
 cases e with
 | n=>exact key hq
 | r=>exact key hq
 | x id=>exact hq.elim
def fnG {D:Bool} (P:Program) (fn:Func) (ct:Cert D P) (sp:Spec):Prop:=match fn.body with
 | some c=>bif Nat.ble sp.args.length fn.ntmps&&parC (Ki 0 sp.args) c then sp.pre→fnP P fn c ct sp else False
 | none=>False
theorem Qn (hm:P.follows .mixedOrders=true) {f:FuncId} {fn:Func} {ct:Cert D P} {sp:Spec} (hf:P.funcs[f]?=some fn) {A:Prop} (h:A) (e:A=fnG P fn ct sp):Spec.ok P f sp D:=by
 rw [e] at h
 unfold fnG at h
 split at h
 ·rename_i c hc
  cases hb:(Nat.ble sp.args.length fn.ntmps&&parC (Ki 0 sp.args) c) with
  | false=>rw [hb] at h; exact h.elim
  | true =>
   rw [hb] at h
   simp only [Bool.and_eq_true] at hb
   exact fn_ok hm hf hc hb.1 hb.2 h
 ·exact h.elim
end
inductive Lp (σ ρ:Type) where
 | next (s:σ)
 | done (s:σ)
 | ret (r:ρ)
def runL {σ ρ:Type} (step:σ→Lp σ ρ):Nat→σ→Lp σ ρ
 | 0,s=>.next s
 | m+1,s=>match step s with
  | .next s'=>runL step m s'
  | .done s'=>.done s'
  | .ret r=>.ret r
def Lp.fin {σ ρ τ:Type} (x:Lp σ ρ) (f:ρ→τ) (g:σ→τ):τ:=match x with
 | .ret r=>f r
 | .done s=>g s
 | .next s=>g s
theorem Qe {σ ρ:Type} {step:σ→Lp σ ρ} {m:Nat} {s s':σ} {X:Lp σ ρ} (h:runL step (m+1) s=X) (e:Lp.next s'=step s):runL step m s'=X:=by
 rw [← h]; simp [runL,← e]
theorem Qk {σ ρ:Type} {step:σ→Lp σ ρ} {m:Nat} {s s':σ} {X:Lp σ ρ} (h:runL step (m+1) s=X) (e:Lp.done s'=step s):X=.done s':=by
 rw [← h]; simp [runL,← e]
theorem Qr {σ ρ:Type} {step:σ→Lp σ ρ} {m:Nat} {s:σ} {r:ρ} {X:Lp σ ρ} (h:runL step (m+1) s=X) (e:Lp.ret r=step s):X=.ret r:=by
 rw [← h]; simp [runL,← e]
theorem finD {σ ρ τ:Type} {x:Lp σ ρ} {f:ρ→τ} {g:σ→τ} {s:σ} {v:τ} (h:x=.done s) (e:v=g s):v=x.fin f g:=by rw [h]; exact e
theorem finR {σ ρ τ:Type} {x:Lp σ ρ} {f:ρ→τ} {g:σ→τ} {r:ρ} {v:τ} (h:x=.ret r) (e:v=f r):v=x.fin f g:=by rw [h]; exact e
theorem condT {α:Type} {c:Bool} {a b v:α} (h:c=true) (e:v=a):v=bif c then a else b:=by rw [h]; exact e
theorem condF {α:Type} {c:Bool} {a b v:α} (h:c=false) (e:v=b):v=bif c then a else b:=by rw [h]; exact e
theorem hd1 {σ ρ:Type} {step:σ→Lp σ ρ} {m k:Nat} {s:σ} {X:Lp σ ρ} (h:runL step m s=X) (h':k<m):runL step (m-1+1) s=X:=by
 rw [Nat.sub_add_cancel (by omega)]; exact h
theorem hd2 {m k:Nat} (h:k<m):k<m-1+1:=by omega
theorem hd3 {m k:Nat} (h:k<m):m-1<m:=by omega
def Lp.all {σ ρ:Type} (I:σ→Prop) (J:ρ→Prop):Lp σ ρ→Prop
 | .next s=>I s
 | .done s=>I s
 | .ret r=>J r
theorem Wb {b:Bool} (h:(!b)=true):b=false:=by simpa using h
theorem Yl {b:Bool} (h:(!b)=false):b=true:=by simpa using h
theorem beqF {a b:Int} (h:(a==b)=false):¬ a=b:=by simpa using h
theorem bneT {a b:Int} (h:(a != b)=true):¬ a=b:=by simpa using h
theorem bneF {a b:Int} (h:(a != b)=false):a=b:=by simpa using h
theorem Ql {c x:Bool} (h:(bif c then x else false)=true):c=true:=by cases c <;> simp_all
theorem Qv {c x:Bool} (h:(bif c then x else false)=true):x=true:=by cases c <;> simp_all
theorem orF1 {c x:Bool} (h:(bif c then true else x)=false):c=false:=by cases c <;> simp_all
theorem orF2 {c x:Bool} (h:(bif c then true else x)=false):x=false:=by cases c <;> simp_all
theorem lens:(∀ {α:Type} (l:List α) (i:Nat) (x:α),(l.set i x).length=l.length)∧(∀ {α:Type} (l m:List α),(l++m).length=l.length+m.length)∧(∀ {α:Type} (x:α) (l:List α),(x :: l).length=l.length+1)∧(∀ {α:Type},([]:List α).length=0) ∧
  (∀ {α:Type} (n:Nat) (x:α),(List.replicate n x).length=n)∧(∀ {α:Type} (n:Nat) (l:List α),(l.take n).length=min n l.length)∧(∀ {α:Type} (n:Nat) (l:List α),(l.drop n).length=l.length-n)∧(∀ {α β:Type} (f:α→β) (l:List α),(l.map f).length=l.length) :=
 ⟨by simp,by simp,by simp,by simp,by simp,by simp,by simp,by simp⟩
def eInt (x:Int):List Dat:=[.v (.int .i64 x)]
def Kf (x:Int):List Dat:=[.v (.int .u8 (x%256))]
def eBool (x:Bool):List Dat:=[.v (.bool x)]
def eStr (x:ByteArray):List Dat:=[.v (.string x)]
def eL {α:Type} [Inhabited α] (sz:Nat) (enc:α→List Dat) (xs:List α):List Dat:=[.l sz enc xs]
def Zj (xs:List Int):ByteArray:=strOfNums (xs.map fun x=>x%256)
theorem Zy (xs:List Int):(Zj xs).size=xs.length:=by simp [Zj,strOfNums_size]
theorem Qj (a b:ByteArray):(a++b).size=a.size+b.size:=by simp
theorem Imp.u8 {a b:Int} (h:a=b):Imp (.v (.int .u8 a)) (.v (.int .u8 b)):=Imp.of_eq (by rw [h])
theorem u8a (b:UInt8):(b.toNat:Int)=(b.toNat:Int)%256:=by have:=b.toNat_lt; omega
theorem u8m (x:Int):x%256=x%256%256:=by omega
theorem u8w (x:Int):IntKind.u8.wrap x=IntKind.u8.wrap x%256:=by
 have h1:IntKind.u8.wrap x=x%256:=by
  simp [IntKind.wrap,IntKind.signed,IntKind.bits]
 rw [h1]; omega
theorem sz0:(⟨#[]⟩:ByteArray).size=0:=rfl
end Go.Proofs.YtahakkfbpnpimabGreatDoor
namespace Go.Proofs.YtahakkfbpnpimabGreatDoor
open Go.RowKit Go.ChangeShapes Go.WideShapes Go.ChangeAt
def Opens {α:Type} (P:Program) (t:TypeId) (r:Rp α):Prop :=
 ∀ (H:Type) (enc:TypeId×Value→H) (W:World) (fuel:Nat) (cs:List Value) (y:DataW H×List MemPlace),DataW.trod enc P W 0 (fun _=>true) true fuel t cs=some y→∃ x,r.rd W cs x
section
variable {P:Program} {t:TypeId}
theorem Opens.int (hu:P.underlying t=some (.int .i64)):Opens P t rpInt:=by
 intro H enc W fuel cs y h
 cases fuel with
 | zero=>simp [DataW.trod] at h
 | succ fuel =>
  simp only [DataW.trod,hu] at h
  split at h <;> simp_all [rpInt,Rp.flat]
theorem Opens.bool (hu:P.underlying t=some .bool):Opens P t Qyj:=by
 intro H enc W fuel cs y h
 cases fuel with
 | zero=>simp [DataW.trod] at h
 | succ fuel =>
  simp only [DataW.trod,hu] at h
  split at h <;> simp_all [Qyj,Rp.flat]
theorem Opens.str (hu:P.underlying t=some .string):Opens P t rpStr:=by
 intro H enc W fuel cs y h
 cases fuel with
 | zero=>simp [DataW.trod] at h
 | succ fuel =>
  simp only [DataW.trod,hu] at h
  split at h <;> simp_all [rpStr,Rp.flat]
theorem Qhy {α β:Type} {f:α→Option β}:∀ (l:List α) (ys:List β),l.mapM f=some ys→∀ x∈l,∃ y,f x=some y
 | [],_,_,x,hx=>by cases hx
 | a :: l,ys,h,x,hx=>by
  rw [List.mapM_cons] at h
  cases hf:f a with
  | none=>rw [hf] at h; cases h
  | some b =>
   rw [hf] at h
   cases hl:l.mapM f with
   | none=>simp [hl] at h
   | some bs =>
    rcases List.mem_cons.1 hx with rfl | hx
    ·exact ⟨b,hf⟩
    ·exact Qhy l bs hl x hx
theorem Qoz {α β:Type} {f:α→Option β}:∀ (l:List α) (ys:List β),l.mapM f=some ys→ys.length=l.length∧∀ (i:Nat) (x:α),l[i]?=some x→f x=ys[i]?
 | [],ys,h=>by simp at h; subst h; simp
 | a :: l,ys,h=>by
  rw [List.mapM_cons] at h
  cases hf:f a with
  | none=>rw [hf] at h; cases h
  | some b =>
   rw [hf] at h
   cases hl:l.mapM f with
   | none=>simp [hl] at h
   | some bs =>
    simp [hl] at h
    subst h
    obtain ⟨h1,h2⟩:=Qoz l bs hl
    refine ⟨by simp [h1],fun i x hx=>?_⟩
    cases i with
    | zero=>simp at hx; subst hx; simpa using hf
    | succ i=>simpa using h2 i x (by simpa using hx)
theorem Rl {α:Type} {Q:Nat→α→Prop}:∀ n,(∀ i,i<n→∃ x,Q i x)→∃ xs:List α,xs.length=n∧∀ (i:Nat) (x:α),xs[i]?=some x→Q i x
 | 0,_=>⟨[],rfl,fun i x h=>by simp at h⟩
 | n+1,h=>by
  obtain ⟨xs,hl,hq⟩:=Rl n (fun i hi=>h i (by omega))
  obtain ⟨x,hx⟩:=h n (by omega)
  refine ⟨xs++[x],by simp [hl],fun i y hy=>?_⟩
  by_cases hi:i<n
  ·rw [List.getElem?_append_left (by omega)] at hy; exact hq i y hy
  ·have hin:i=n:=by
    have:=(List.getElem?_eq_some_iff.1 hy).1
    simp at this; omega
   subst hin
   rw [List.getElem?_append_right (by omega)] at hy
   simp [hl] at hy
   exact hy ▸ hx
theorem cells?_has {w:World} {a:Addr} {n:Nat} {cs:List Value} (h:w.cells? 0 a n=some cs):cs.length=n∧∀ (j:Nat) (v:Value),cs[j]?=some v→w.cell? (a.add j)=some v:=by
 simp only [World.cells?,Nat.zero_le,if_true] at h
 obtain ⟨h1,h2⟩:=Qoz _ _ h
 refine ⟨by simpa using h1,fun j v hj=>?_⟩
 have hlt:=(List.getElem?_eq_some_iff.1 hj).1
 have:=h2 j j (by rw [List.getElem?_range (by simpa [h1] using hlt)])
 rw [this,hj]
theorem Opens.slice {α:Type} {e:TypeId} {r:Rp α} (hu:P.underlying t=some (.slice e)) (ho:Opens P e r) (hsz:P.cellsOf e=r.sz) (hpos:0<r.sz):Opens P t r.slice:=by
 intro H enc W fuel cs y h
 cases fuel with
 | zero=>simp [DataW.trod] at h
 | succ fuel =>
  simp only [DataW.trod,hu] at h
  split at h <;> try (simp_all; done)
  ·exact ⟨[],none,0,rfl,SlR.nil r W⟩
  ·rename_i e' a len cap heq
   simp only [Option.some.injEq,TypeDesc.slice.injEq] at heq
   subst heq
   split at h
   ·rename_i hcap
    cases hm:(List.range len).mapM (fun i=>(W.cells? 0 (a.add (i*P.cellsOf e)) (P.cellsOf e)).bind (DataW.trod enc P W 0 (fun _=>true) true fuel e)) with
    | none=>rw [hm] at h; simp at h
    | some els =>
     have hat:∀ i,i<len→∃ cs,W.cells? 0 (a.add (i*r.sz)) r.sz=some cs∧∃ x,r.rd W cs x:=by
      intro i hi
      obtain ⟨z,hz⟩:=Qhy _ _ hm i (by simpa using hi)
      obtain ⟨cs,hc,hz⟩:=Option.bind_eq_some_iff.1 hz
      rw [hsz] at hc
      exact ⟨cs,hc,ho H enc W fuel cs z hz⟩
     obtain ⟨xs,hlen,hxs⟩:=Rl (Q:=fun i x=>∃ cs,W.cells? 0 (a.add (i*r.sz)) r.sz=some cs∧r.rd W cs x) len (fun i hi=>by
      obtain ⟨cs,h1,x,h2⟩:=hat i hi; exact ⟨x,cs,h1,h2⟩)
     refine ⟨xs,some a,cap,by rw [hlen],by omega,by have:=hcap.2.2; unfold maxLen at this; omega,fun i x hx=>?_⟩
     have hi:i<len:=by have:=(List.getElem?_eq_some_iff.1 hx).1; omega
     have hspot:a.spot=none:=by
      obtain ⟨c0,h1,_⟩:=hat 0 (by omega)
      obtain ⟨hl,hc⟩:=cells?_has h1
      have hz:c0[0]?=some (c0[0]'(by omega)):=List.getElem?_eq_getElem _
      have:=hc 0 _ hz
      simp only [Nat.zero_mul,Addr.add,if_true] at this
      unfold World.cell? at this
      split at this
      ·split at this
       ·cases this
       ·rename_i hs; simpa using hs
      ·cases this
     have ha:a=⟨a.block,a.off,none⟩:=by cases a; simp_all
     obtain ⟨cs',h1,h2⟩:=hxs i x hx
     obtain ⟨hl,hc⟩:=cells?_has h1
     have hhas:Has W a.block (a.off+i*r.sz) cs':=by
      intro j v hj
      have:=hc j v hj
      rw [ha] at this
      simpa [Mv] using this
     refine ⟨by simp only [ab,ao,Option.getD_some]; exact congrArg some ha,?_,cs',hl,hhas,h2⟩
     have hz:cs'[0]?=some (cs'[0]'(by omega)):=List.getElem?_eq_getElem _
     have hlt:=World.block_lt_of_cell? W _ (hhas 0 _ hz)
     simpa [ab] using hlt
   ·cases h
end
theorem Uau {H:Type} {enc:TypeId×Value→H} {P:Program} {f:Func} {s:ChangeSpec} {W W':World} {args:Array Value} {ds:List (DataW H)} {before:List MemPlace} {b:Nat}
  (hv:s.vars=[]) (hW:DataW.Whole enc P f.params.toList s.vars false W args.toList ds [] before) (hb:Below W.heap.size W W')
  (hres:f.resultTypes=#[b]) (hbt:P.underlying b=some .bool) (hsr:(s.fn H (ds++[])).results=[.lit (.bool true)]) (hsa:(s.fn H (ds++[])).args=ds) (hsv:(s.fn H (ds++[])).vars=[])
  (hl:laidOutB P=true) (hr:∀ t∈f.params.toList,P.readableRec t=true∧t<P.types.size) :
  s.post enc P f false true false false W args (.bool true) W':=by
 have hW':=hW
 obtain ⟨p,q,hA,hV,rfl,hfz,hnd⟩:=hW
 rw [hv] at hV
 have hq:q=[]:=hV
 subst hq
 refine ⟨ds,[],p++[],[],p,[],hW',?_,?_,?_,hb.frame _,fun h=>by cases h⟩
 ·rw [hsr,hres]
  refine ⟨[],[],⟨1,?_⟩,rfl,rfl⟩
  simp [Value.cells,DataW.trod,hbt]
 ·rw [hsa]
  have hlt:∀ x∈p,x.block<W.heap.size:=fun x hx=>by simpa using hW'.lt x (by simpa using hx)
  have key:∀ (ts:List TypeId) (vs:List Value) (ds:List (DataW H)) (p:List MemPlace),(∀ t∈ts,P.readableRec t=true∧t<P.types.size)→(∀ x∈p,x.block<W.heap.size) →
    DataW.TrodAll enc P W 0 (fun _=>true) true ts vs ds p→DataW.TrodAll enc P W' 0 (fun b=>decide (b<W.heap.size)) true ts vs ds p:=by
   intro ts
   induction ts with
   | nil=>intro vs ds p _ _ h; cases vs <;> cases ds <;> first | exact h | exact h.elim
   | cons t ts ih =>
    intro vs ds p hr hlt h
    cases vs with
    | nil=>exact h.elim
    | cons v vs =>
     cases ds with
     | nil=>exact h.elim
     | cons d ds =>
      obtain ⟨p1,q1,h1,h2,rfl⟩:=h
      exact ⟨p1,q1,Below.trod hl (hr t List.mem_cons_self).1 (hr t List.mem_cons_self).2 h1 hb (fun x hx=>hlt x (List.mem_append_left _ hx)),
       ih vs ds q1 (fun t ht=>hr t (List.mem_cons_of_mem _ ht)) (fun x hx=>hlt x (List.mem_append_right _ hx)) h2,rfl⟩
  exact key _ _ _ _ hr hlt hA
 ·rw [hsv,hv]; exact rfl
end Go.Proofs.YtahakkfbpnpimabGreatDoor
namespace Go.Proofs.YtahakkfbpnpimabGreatDoor
open Go.RowKit Go.ChangeShapes Go.WideShapes Go.ChangeAt
def rpD {α:Type} (enc:α→List Dat) (sz:Nat) (hl:∀ x,(enc x).length=sz):Rp α where
 sz:=sz
 rd w cs x:=RdVs (·<w.heap.size) w (enc x) cs
 mono e h:=RdVs.mono (fun b hb=>⟨Nat.lt_of_lt_of_le hb e.size,e.block b hb⟩) _ _ h
 own w cs x fp:=OwVs w (enc x) cs fp
 own_rd h:=RdVs.mono (fun b hb=>⟨OwVs.lt _ _ _ h b hb,rfl⟩) _ _ (OwVs.rd _ _ _ h)
 own_keep h hk:=OwVs.keep _ _ _ hk h
 own_lt h:=OwVs.lt _ _ _ h
 own_nd h:=OwVs.nd h
 rd_len h:=by rw [RdVs.len h]; exact hl _
 own_one h:=OwVs.one h
def OpD {α:Type} (P:Program) (t:TypeId) (enc:α→List Dat):Prop :=
 ∀ (H:Type) (en:TypeId×Value→H) (W:World) (fuel:Nat) (cs:List Value) (y:DataW H×List MemPlace),DataW.trod en P W 0 (fun _=>true) true fuel t cs=some y→∃ x,RdVs (·<W.heap.size) W (enc x) cs
theorem RdVs.app {S:Nat→Prop} {w:World}:∀ {azz bs:List Dat} {us vs:List Value},RdVs S w azz us→RdVs S w bs vs→RdVs S w (azz++bs) (us++vs)
 | [],_,us,vs,h,h'=>by
  have:us=[]:=h
  subst this
  exact h'
 | a :: azz,bs,us,vs,h,h'=>by
  obtain ⟨u,us',rfl,h1,h2⟩:=h
  exact ⟨u,us'++vs,rfl,h1,RdVs.app h2 h'⟩
section
variable {P:Program} {t:TypeId}
theorem OpD.int (hu:P.underlying t=some (.int .i64)):OpD P t eInt:=fun H e W f cs y h=>by
 obtain ⟨x,hx⟩:=Opens.int hu H e W f cs y h
 have hx:cs=[.int .i64 x]:=hx
 subst hx
 exact ⟨x,_,_,rfl,⟨rfl,rfl⟩,rfl⟩
theorem OpD.bool (hu:P.underlying t=some .bool):OpD P t eBool:=fun H e W f cs y h=>by
 obtain ⟨x,hx⟩:=Opens.bool hu H e W f cs y h
 have hx:cs=[.bool x]:=hx
 subst hx
 exact ⟨x,_,_,rfl,⟨rfl,rfl⟩,rfl⟩
theorem OpD.str (hu:P.underlying t=some .string):OpD P t eStr:=fun H e W f cs y h=>by
 obtain ⟨x,hx⟩:=Opens.str hu H e W f cs y h
 have hx:cs=[.string x]:=hx
 subst hx
 exact ⟨x,_,_,rfl,⟨rfl,rfl⟩,rfl⟩
theorem OpD.slice {α:Type} [Inhabited α] {e:TypeId} {enc:α→List Dat} (sz:Nat) (hu:P.underlying t=some (.slice e)) (ho:OpD P e enc) (hl:∀ x,(enc x).length=sz) (hsz:P.cellsOf e=sz) (hpos:0<sz):OpD P t (fun xs:List α=>[.l sz enc xs]):=fun H en W f cs y h=>by
 obtain ⟨xs,a,c,rfl,h1,h2,h3⟩:=Opens.slice (r:=rpD enc sz hl) hu ho hsz hpos H en W f cs y h
 exact ⟨xs,_,[],rfl,⟨a,c,rfl,h1,h2,fun i x hx=>h3 i x hx⟩,rfl⟩
end
theorem GP.gok {W:World} (h:GP W):GOK (·<W.heap.size) W:=⟨h,fun b hb=>by
 have key:∀ e,W.cell? ⟨b,0,none⟩=some e→b<W.heap.size:=fun e he=>by
  rcases Nat.lt_or_ge b W.heap.size with h1 | h1
  ·exact h1
  ·simp [World.cell?,Array.getElem?_eq_none h1] at he
 rcases List.mem_append.1 hb with hb | hb
 ·rcases List.mem_append.1 hb with hb | hb
  ·obtain ⟨e,he,_⟩:=h.1 b hb; exact key e he
  ·obtain ⟨m,he⟩:=h.2.1 b hb; exact key _ he
 ·obtain ⟨q,hq,rfl⟩:=List.mem_map.1 hb
  obtain ⟨T,fz,he⟩:=h.2.2 q hq
  exact (Array.getElem?_eq_some_iff.1 he).1⟩
theorem Qxx {P:Program} {f:FuncId} {sp:Spec} {D:Bool} (h:sp.ok P f D) (hp:sp.pre) {W:World} {vs:List Value} {x:Value} (hG:GP W) (ha:ArgsOK P (·<W.heap.size) W sp.args vs []) (hr:sp.res=.v x) (_:(sp.args.all fun a=>match a with | .r _=>true | .vl _ _=>true | _=>false)=true) :
  Calls P f vs.toArray W fun e W'=>e=.returned x∧Below W.heap.size W W':=by
 refine Calls.mono (h hp _ W vs [] (fun b hb=>⟨hb,fun h=>by cases h⟩) hG.gok ha) fun e W' ⟨rv,fr,fb,h1,h2,_,_,_,h6⟩=>?_
 rw [hr] at h2
 obtain ⟨rfl,_,_⟩:=h2
 exact ⟨h1,⟨h6.os,h6.tape,h6.output,h6.size,fun k hk=>h6.block k hk fun hk=>by cases hk⟩⟩
end Go.Proofs.YtahakkfbpnpimabGreatDoor
namespace Go.Proofs.YtahakkfbpnpimabGreatDoor
open Go.RowKit
set_option maxRecDepth 100000
set_option linter.unusedVariables false
set_option linter.unusedSimpArgs false
theorem laid:laidOutB Tryz.prog=true:=by kernel_rfl
theorem cfMaps:mapsRowed Tryz.prog=true:=by kernel_rfl
theorem cfKeys:Tryz.prog.plainKeys=Rows.fnExactTernPeersRow.plainKeys:=by kernel_rfl
theorem Uge:Tryz.prog.liftsFinal=Rows.fnExactTernPeersRow.lifted:=by kernel_rfl
theorem Udv:Tryz.prog.stopsHeard=true:=by kernel_rfl
theorem Qgf:∀ (a r:List Char),(a.all fun c=>c != (Char.ofNat 32))=true→wordsSigns (a++(Char.ofNat 32) :: r)=a :: wordsSigns r
 | [],r,_=>by simp [wordsSigns]
 | c :: a,r,h=>by
  simp only [List.all_cons,Bool.and_eq_true,bne_iff_ne,ne_eq] at h
  have ih:=Qgf a r h.2
  rw [List.cons_append,wordsSigns.eq_3 _ _ (fun e=>h.1 e),ih]
theorem Ubv {P:Program} {s r:List Char} (h:P.initOrder.toList= "harness".toList++(Char.ofNat 32) :: (s++(Char.ofNat 32) :: ("cut".toList++(Char.ofNat 32) :: r))) (hs:isSumSigns s=true) (h1:P.laysLater=false) (h2:P.bearsReflect=false) (h3:P.doorFits []=true):P.mayEnter=true:=by
 have hsp:(s.all fun c=>c != (Char.ofNat 32))=true:=by
  unfold isSumSigns at hs
  simp only [Bool.and_eq_true,List.all_eq_true] at hs ⊢
  intro c hc
  have:=hs.2 c hc
  rw [bne_iff_ne]
  rintro rfl
  exact absurd this (by decide)
 have hw:behindMainWord (wordsSigns P.initOrder.toList)= "cut".toList :: wordsSigns r:=by
  rw [h,Qgf _ _ (by decide),Qgf _ _ hsp,Qgf _ _ (by decide)]
  show (if (("harness".toList== "harness".toList || "harness".toList== "ownmain".toList)&&isSumSigns s)=true then "cut".toList :: wordsSigns r else _)=_
  rw [hs]; rfl
 have hst:stripLifts liftWords ("cut".toList :: wordsSigns r)=([],"cut".toList :: wordsSigns r):=by rfl
 unfold Program.mayEnter
 rw [hw]
 simp only [hst,h1,h2,h3,List.head?_cons]
 simp
theorem laysL:Tryz.prog.laysLater=false:=by kernel_rfl
theorem bearsR:Tryz.prog.bearsReflect=false:=by kernel_rfl
theorem doorF:Tryz.prog.doorFits []=true:=by kernel_rfl
theorem initO:Tryz.prog.initOrder.toList.take 77= "harness".toList++(Char.ofNat 32) :: ("a13407aeff80b9170c39225cde0b324fa9326d037bf6cab045b766428baef7f1".toList++(Char.ofNat 32) :: ("cut".toList++[Char.ofNat 32])):=by kernel_rfl
theorem Ugm:Tryz.prog.mayEnter=true:=by
 refine Ubv (s:= "a13407aeff80b9170c39225cde0b324fa9326d037bf6cab045b766428baef7f1".toList) (r:=Tryz.prog.initOrder.toList.drop 77) ?_ (by decide) laysL bearsR doorF
 have e:=(List.take_append_drop 77 Tryz.prog.initOrder.toList).symm
 rw [initO] at e
 simpa using e
theorem cfMake:Tryz.prog.make=some Rows.fnExactTernPeersRow.make:=by kernel_rfl
theorem Yj {σ ρ τ:Type} {step:τ→Lp τ ρ} (emb:Nat→σ→τ) (n:Nat) (I:Nat→σ→Prop) (R:ρ→Prop)
  (h1:∀ k s,k<n→I k s→(∃ s',step (emb k s)=.next (emb (k+1) s')∧I (k+1) s')∨∃ r,step (emb k s)=.ret r∧R r)
  (h2:∀ s,I n s→step (emb n s)=.done (emb n s)):∀ (m k:Nat) (s:σ),k+m=n→I k s→∀ M,m<M→(∃ s',runL step M (emb k s)=.done (emb n s')∧I n s')∨∃ r,runL step M (emb k s)=.ret r∧R r
 | 0,k,s,hk,hI,M,hM=>by
  obtain rfl:k=n:=by omega
  obtain ⟨M,rfl⟩:∃ M',M=M'+1:=⟨M-1,by omega⟩
  exact .inl ⟨s,by simp [runL,h2 s hI],hI⟩
 | m+1,k,s,hk,hI,M,hM=>by
  obtain ⟨M,rfl⟩:∃ M',M=M'+1:=⟨M-1,by omega⟩
  rcases h1 k s (by omega) hI with ⟨s',e,hI'⟩ | ⟨r,e,hr⟩
  ·have:=Yj emb n I R h1 h2 m (k+1) s' (by omega) hI' M (by omega)
   simp only [runL,e]
   exact this
  ·exact .inr ⟨r,by simp [runL,e],hr⟩
theorem n0 (n:Nat):Int.toNat ((n:Int)-0)=n:=by simp
theorem nn (n:Nat):Int.toNat (n:Int)=n:=by simp
theorem ltD {n:Nat} {k:Nat} (h:k<n):decide ((k:Int)<(n:Int))=true:=by simp; omega
theorem geD {n:Nat}:decide ((n:Int)<(n:Int))=false:=by simp
theorem Xg {α:Type} [Inhabited α] (x:α) (xs:List α) (k:Nat):(x :: xs).getD (k+1) default=xs.getD k default:=rfl
theorem Wu {α:Type} [Inhabited α] (xs:List α) {k:Nat} (h:xs.length≤k):xs.getD k default=default:=by
 rw [List.getD_eq_getElem?_getD,List.getElem?_eq_none h]; rfl
theorem Kz {α:Type} [Inhabited α] (xs:List α) {k:Nat} (h:k<xs.length):xs.getD k default=xs[k]:=by
 rw [List.getD_eq_getElem?_getD,List.getElem?_eq_getElem h]; rfl
theorem Kh {α:Type} [Inhabited α] (xs:List α) {k:Nat} (h:k<xs.length):xs.getD k default∈xs:=by
 rw [Kz xs h]; exact List.getElem_mem h
theorem Je {α:Type} [Inhabited α] {xs:List α} {x:α} (h:x∈xs):∃ k,k<xs.length∧xs.getD k default=x:=by
 obtain ⟨k,hk,e⟩:=List.mem_iff_getElem.1 h
 exact ⟨k,hk,by rw [Kz xs hk]; exact e⟩
theorem Qdq {α:Type} [Inhabited α] {s a:List α} {k:Nat} (hl:s.length=a.length) (h:s.take k=a.take k) (hk:k<a.length):(s.set k (a.getD k default)).take (k+1)=a.take (k+1):=by
 rw [List.take_add_one,List.take_add_one,List.take_set_of_le (Nat.le_refl _),h,List.getElem?_set_self (by omega),List.getD_eq_getElem?_getD,List.getElem?_eq_getElem hk]
 rfl
theorem Nx {α:Type} [Inhabited α] {a:List α} {k:Nat} (hk:k<a.length):a.take (k+1)=a.take k++[a.getD k default]:=by
 rw [List.take_add_one,List.getD_eq_getElem?_getD,List.getElem?_eq_getElem hk]
 rfl
theorem Rr {α:Type} [Inhabited α] {a b:List α} (hl:a.length=b.length) (h:∀ k,k<a.length→a.getD k default=b.getD k default):a=b:=by
 refine List.ext_getElem hl fun k h1 h2=>?_
 have:=h k h1
 rwa [Kz a h1,Kz b h2] at this
theorem Ugj {α:Type} [Inhabited α] (f:α→α) (hf:∀ x,f x=x) (a init:List α) (hi:init.length=a.length) (step:Int×List α→Lp (Int×List α) (List α))
  (hs:∀ i xs,step (i,xs)=bif decide (i<(a.length:Int)) then .next (i+1,xs.set (Int.toNat i) (f (a.getD (Int.toNat i) default))) else .done (i,xs)) :
  (runL step ((Int.toNat ((a.length:Int)-0))+1) (0,init)).fin (fun r=>r) (fun s=>s.2)=a:=by
 have h:=Yj (step:=step) (fun (k:Nat) (s:List α)=>((k:Int),s)) a.length (fun k s=>s.length=a.length∧s.take k=a.take k) (fun _=>False)
  (fun k s hk ⟨h1,h2⟩=>.inl ⟨s.set k (a.getD k default),by simp [hs,hf,hk],by simp [h1],Qdq h1 h2 hk⟩)
  (fun s _=>by simp [hs]) a.length 0 init (by omega) ⟨hi,by simp⟩ (a.length+1) (Nat.lt_succ_self _)
 rw [n0]
 rcases h with ⟨s',h,h1,h2⟩ | ⟨r,_,h⟩
 ·have h:runL step (a.length+1) (0,init)=.done ((a.length:Int),s'):=h
  rw [h]
  show s'=a
  rw [List.take_of_length_le (by omega),List.take_of_length_le (by omega)] at h2
  exact h2
 ·exact h.elim
theorem Qry {α:Type} [Inhabited α] [DecidableEq α] (e:α→α→Bool) (he:∀ x y,e x y=decide (x=y)) (a b:List α) (step:Int→Lp Int Bool)
  (hs:∀ i,step i=bif (decide (i<(a.length:Int))) then (bif (!(e (a.getD (Int.toNat i) default) (b.getD (Int.toNat i) default))) then (.ret false) else (.next (i+1))) else (.done i)) :
  (bif ((a.length:Int) != (b.length:Int)) then false else ((runL step ((Int.toNat ((a.length:Int)-0))+1) 0).fin (fun r=>r) (fun _=>true)))=decide (a=b):=by
 by_cases hl:a.length=b.length
 ·have hc:((a.length:Int) != (b.length:Int))=false:=by simp [hl]
  rw [hc,cond_false]
  have h:=Yj (step:=step) (fun (k:Nat) (_:Unit)=>(k:Int)) a.length (fun k _=>∀ j,j<k→a.getD j default=b.getD j default) (fun r=>r=false∧a≠b)
   (fun k _ hk hI=>by
    have hc:=ltD hk
    by_cases hx:a.getD k default=b.getD k default
    ·refine .inl ⟨(),?_,fun j hj=>?_⟩
     ·rw [hs,he,Int.toNat_natCast,hc,hx,decide_eq_true rfl]
      rfl
     ·rcases Nat.lt_succ_iff_lt_or_eq.1 hj with h | h
      ·exact hI j h
      ·exact h ▸ hx
    ·refine .inr ⟨false,?_,rfl,fun e=>hx (e ▸ rfl)⟩
     rw [hs,he,Int.toNat_natCast,hc,decide_eq_false hx]
     rfl)
   (fun s _=>by rw [hs]; simp) a.length 0 () (by omega) (fun j hj=>by omega) (a.length+1) (Nat.lt_succ_self _)
  rw [n0]
  rcases h with ⟨_,h,hI⟩ | ⟨r,h,rfl,hne⟩
  ·have h:runL step (a.length+1) 0=.done (a.length:Int):=h
   rw [h]
   have:=Rr hl hI
   simp [Lp.fin,this]
  ·have h:runL step (a.length+1) 0=.ret false:=h
   rw [h]
   simp [Lp.fin,hne]
 ·have hc:((a.length:Int) != (b.length:Int))=true:=by simp; omega
  rw [hc,cond_true]
  symm
  simp only [decide_eq_false_iff_not]
  exact fun e=>hl (e ▸ rfl)
def Mk {α:Type} (m:α→Int→Int×α) (h:α→Int→Int) (L:α→Nat):Prop :=
 ∀ x k,0≤k→k+(L x:Int)<9223372036854775807→(m x k).1=k+L x∧h (m x k).2 k=k+L x
def sumL {α:Type} (L:α→Nat) (xs:List α):Nat:=(xs.map L).foldr (·+·) 0
theorem Mc {α:Type} (L:α→Nat):sumL L []=0:=rfl
theorem Vj {α:Type} (L:α→Nat) (x:α) (xs:List α):sumL L (x :: xs)=L x+sumL L xs:=rfl
theorem Qer {α:Type} [Inhabited α] (L:α→Nat) (xs:List α) {k:Nat} (hk:k<xs.length):sumL L xs=sumL L (xs.take k)+L (xs.getD k default)+sumL L (xs.drop (k+1)):=by
 induction xs generalizing k with
 | nil=>simp at hk
 | cons x xs ih =>
  cases k with
  | zero=>simp [Vj,Mc]
  | succ k =>
   have:=ih (k:=k) (by simpa using hk)
   simp only [List.take_succ_cons,Vj,Xg,List.drop_succ_cons]
   omega
theorem Ga {α:Type} [Inhabited α] (L:α→Nat) (xs:List α) {k:Nat} (hk:k<xs.length):sumL L (xs.take (k+1))=sumL L (xs.take k)+L (xs.getD k default):=by
 induction xs generalizing k with
 | nil=>simp at hk
 | cons x xs ih =>
  cases k with
  | zero=>simp [Vj,Mc]
  | succ k =>
   have:=ih (k:=k) (by simpa using hk)
   simp only [List.take_succ_cons,Vj,Xg]
   omega
theorem Qss {α:Type} [Inhabited α] (m:α→Int→Int×α) (h:α→Int→Int) (L:α→Nat) (hm:Mk m h L) (F:List α→Int→Int×List α) (H:List α→Int→Int) (st:List α→Int→Int×Int×List α→Lp (Int×Int×List α) (Int×List α)) (sh:List α→Int→Int×Int→Lp (Int×Int) Int)
  (hF:∀ a k,F a k=(runL (st a k) ((Int.toNat ((a.length:Int)-0))+1) (k,0,a)).fin (fun r=>r) (fun s=>(s.1,s.2.2)))
  (hst:∀ a k0 k i xs,st a k0 (k,i,xs)=bif decide (i<(xs.length:Int)) then .next ((m (xs.getD (Int.toNat i) default) k).1,i+1,xs.set (Int.toNat i) (m (xs.getD (Int.toNat i) default) k).2) else .done (k,i,xs))
  (hH:∀ a k,H a k=(runL (sh a k) ((Int.toNat ((a.length:Int)-0))+1) (k,0)).fin (fun r=>r) (fun s=>s.1))
  (hsh:∀ a k0 k i,i<(a.length:Int)→0≤i→0≤h (a.getD (Int.toNat i) default) k→sh a k0 (k,i)=.next (h (a.getD (Int.toNat i) default) k,i+1))
  (hsd:∀ a k0 k,sh a k0 (k,(a.length:Int))=.done (k,(a.length:Int))):Mk F H (sumL L):=by
 intro a k hk0 hk
 have hh:=Yj (step:=st a k) (fun (i:Nat) (s:Int×List α)=>(s.1,(i:Int),s.2)) a.length
  (fun i s=>s.2.length=a.length∧s.1=k+sumL L (a.take i)∧(∀ j,i≤j→s.2.getD j default=a.getD j default)∧∀ j,j<i→s.2.getD j default=(m (a.getD j default) (k+sumL L (a.take j))).2) (fun _=>False)
  (fun i s hi ⟨h1,h2,h3,h4⟩=>by
   obtain ⟨k1,xs⟩:=s
   simp only at h1 h2 h3 h4
   refine .inl ⟨((m (xs.getD i default) k1).1,xs.set i (m (xs.getD i default) k1).2),?_,by simp [h1],?_,fun j hj=>?_,fun j hj=>?_⟩
   ·rw [hst,h1,ltD hi,Int.toNat_natCast]; rfl
   ·simp only
    rw [h3 i (Nat.le_refl _),h2,Ga L a hi]
    have hs:=Qer L a hi
    rw [(hm (a.getD i default) (k+sumL L (a.take i)) (by omega) (by omega)).1]
    omega
   ·simp only
    rw [List.getD_eq_getElem?_getD,List.getElem?_set_ne (by omega),← List.getD_eq_getElem?_getD]
    exact h3 j (by omega)
   ·simp only
    rcases Nat.lt_succ_iff_lt_or_eq.1 hj with hj | rfl
    ·rw [List.getD_eq_getElem?_getD,List.getElem?_set_ne (by omega),← List.getD_eq_getElem?_getD]
     exact h4 j hj
    ·rw [List.getD_eq_getElem?_getD,List.getElem?_set_self (by omega),h3 j (Nat.le_refl _),h2]; rfl)
  (fun s ⟨h1,_⟩=>by rw [hst,h1,geD]; rfl) a.length 0 (k,a) (by omega) ⟨rfl,by simp [Mc],fun _ _=>rfl,fun j hj=>by omega⟩ (a.length+1) (Nat.lt_succ_self _)
 rcases hh with ⟨⟨k1,xs⟩,hh,h1,h2,h3,h4⟩ | ⟨_,_,hh⟩
 case inr=>exact hh.elim
 simp only at h1 h2 h3 h4
 have hh:runL (st a k) (a.length+1) (k,0,a)=.done (k1,(a.length:Int),xs):=hh
 have eF:F a k=(k1,xs):=by rw [hF,n0,hh]; rfl
 rw [List.take_of_length_le (Nat.le_refl _)] at h2
 rw [eF]
 refine ⟨h2,?_⟩
 simp only
 have h5:=Yj (step:=sh xs k) (fun (i:Nat) (s:Int)=>(s,(i:Int))) xs.length (fun i s=>s=k+sumL L (a.take i)) (fun _=>False)
  (fun i s hi h2=>by
   have hi':i<a.length:=by omega
   have hs:=Qer L a hi'
   have hr:=(hm (a.getD i default) (k+sumL L (a.take i)) (by omega) (by omega)).2
   rw [← h4 i hi',← h2] at hr
   refine .inl ⟨h (xs.getD i default) s,?_,?_⟩
   ·have:=hsh xs k s (i:Int) (by omega) (by omega) (by rw [Int.toNat_natCast,hr]; omega)
    rw [Int.toNat_natCast] at this
    exact this
   ·rw [hr,Ga L a hi']; omega)
  (fun s _=>hsd xs k s) xs.length 0 k (by omega) (by simp [Mc]) (xs.length+1) (Nat.lt_succ_self _)
 rcases h5 with ⟨k2,h5,h6⟩ | ⟨_,_,h5⟩
 case inr=>exact h5.elim
 have h5:runL (sh xs k) (xs.length+1) (k,0)=.done (k2,(xs.length:Int)):=h5
 rw [hH,n0,h5]
 show k2=_
 rw [h6,List.take_of_length_le (by omega)]
theorem Ufj {α:Type} [Inhabited α] (sz:α→Int→Int) (P:α→Prop) (h:∀ x l,0≤l→l≤1048576→0≤sz x l→P x∧sz x l≤l) (a:List α) (step:Int×Int→Lp (Int×Int) Int) (l0:Int) (h0:0≤l0) (h1:l0≤1048576)
  (hs:∀ l i,step (l,i)=bif (decide (i<(a.length:Int))) then (bif (decide (sz (a.getD (Int.toNat i) default) l<0)) then (.ret (-1)) else (.next (sz (a.getD (Int.toNat i) default) l,i+1))) else (.done (l,i)))
  (hr:0≤(runL step ((Int.toNat ((a.length:Int)-0))+1) (l0,0)).fin (fun r=>r) (fun s=>s.1)) :
  (∀ k,k<a.length→P (a.getD k default))∧(runL step ((Int.toNat ((a.length:Int)-0))+1) (l0,0)).fin (fun r=>r) (fun s=>s.1)≤l0:=by
 rw [n0] at hr ⊢
 have hh:=Yj (step:=step) (fun (i:Nat) (l:Int)=>(l,(i:Int))) a.length (fun i l=>0≤l∧l≤l0∧∀ k,k<i→P (a.getD k default)) (fun r=>r=-1)
  (fun i l hi ⟨g1,g2,g3⟩=>by
   by_cases hx:sz (a.getD i default) l<0
   ·refine .inr ⟨-1,?_,rfl⟩
    rw [hs,ltD hi,Int.toNat_natCast,decide_eq_true hx]; rfl
   ·refine .inl ⟨sz (a.getD i default) l,?_,by omega,?_,fun k hk=>?_⟩
    ·rw [hs,ltD hi,Int.toNat_natCast,decide_eq_false hx]; rfl
    ·have:=(h (a.getD i default) l g1 (by omega) (by omega)).2; omega
    ·rcases Nat.lt_succ_iff_lt_or_eq.1 hk with hk | rfl
     ·exact g3 k hk
     ·exact (h _ l g1 (by omega) (by omega)).1)
  (fun l _=>by rw [hs,geD]; rfl) a.length 0 l0 (by omega) ⟨h0,Int.le_refl _,fun k hk=>by omega⟩ (a.length+1) (Nat.lt_succ_self _)
 rcases hh with ⟨l,hh,g1,g2,g3⟩ | ⟨r,hh,rfl⟩
 ·have hh:runL step (a.length+1) (l0,0)=.done (l,(a.length:Int)):=hh
  rw [hh]
  exact ⟨g3,g2⟩
 ·have hh:runL step (a.length+1) (l0,0)=.ret (-1):=hh
  rw [hh] at hr
  exact absurd hr (by decide)
theorem Yw {n:Int} (h1:-9223372036854775808≤n) (h2:n≤9223372036854775807):IntKind.i64.wrap n=n:=Rz h1 h2
theorem neg_lt {k:Int} (h:0≤k):decide (k<0)=false:=by simp; omega
theorem Qha {c:Bool} {v:Int} (h:0≤bif c then -1 else v):c=false∧0≤v:=by
 cases c
 ·exact ⟨rfl,h⟩
 ·have h:(0:Int)≤-1:=h
  omega
theorem neI (a b:Int):(a != b)=!decide (a=b):=by
 by_cases h:a=b <;> simp [h]
theorem neB (a b:Bool):(!(a==b))=!decide (a=b):=by
 cases a <;> cases b <;> rfl
theorem eqstep (p r:Bool):(bif (!p) then false else r)=(p&&r):=by cases p <;> rfl
theorem bandd (p q:Bool):(bif p then q else false)=(p&&q):=by cases p <;> rfl
theorem Qz (a:ByteArray):a.toList=a.data.toList:=ByteArray.toList_eq a
theorem Uaz {a b:ByteArray} (h:a.toList=b.toList):a=b:=by
 rw [Qz,Qz] at h
 cases a; cases b
 simp only [ByteArray.mk.injEq]
 exact Array.ext' h
theorem neS (a b:ByteArray):(!(a.toList==b.toList))=!decide (a=b):=by
 by_cases h:a=b
 ·simp [h]
 ·have:¬ a.toList=b.toList:=fun e=>h (Uaz e)
  simp [h,this]
def first (p:Nat→Bool) (n:Nat):Option Nat:=(List.range n).find? p
theorem first_some {p:Nat→Bool} {n k:Nat}:first p n=some k↔k<n∧p k=true∧∀ j,j<k→p j=false:=by
 unfold first
 rw [List.find?_range_eq_some]
 constructor
 ·rintro ⟨h1,h2,h3⟩
  exact ⟨by simpa using h2,h1,fun j hj=>by simpa using h3 j hj⟩
 ·rintro ⟨h1,h2,h3⟩
  exact ⟨h2,by simpa using h1,fun j hj=>by simpa using h3 j hj⟩
theorem first_none {p:Nat→Bool} {n:Nat}:first p n=none↔∀ k,k<n→p k=false:=by
 unfold first
 rw [List.find?_range_eq_none]
 simp
theorem search {ρ τ:Type} (p:Nat→Bool) (r:Nat→ρ) (n:Nat) (step:Int→Lp Int ρ) (hs:∀ k:Nat,k<n→step (k:Int)=bif p k then .ret (r k) else .next ((k:Int)+1)) (he:step (n:Int)=.done (n:Int)) (f:ρ→τ) (g:Int→τ) :
  (runL step ((Int.toNat ((n:Int)-0))+1) 0).fin f g=match first p n with | some k=>f (r k) | none=>g n:=by
 have h:=Yj (step:=step) (fun (k:Nat) (_:Unit)=>(k:Int)) n (fun k _=>∀ j,j<k→p j=false) (fun x=>∃ k,first p n=some k∧x=r k)
  (fun k _ hk hI=>by
   cases hp:p k with
   | false =>
    refine .inl ⟨(),by rw [hs k hk,hp]; rfl,fun j hj=>?_⟩
    rcases Nat.lt_succ_iff_lt_or_eq.1 hj with h | rfl
    ·exact hI j h
    ·exact hp
   | true=>exact .inr ⟨r k,by rw [hs k hk,hp]; rfl,k,first_some.2 ⟨hk,hp,hI⟩,rfl⟩)
  (fun _ _=>he) n 0 () (by omega) (fun j hj=>by omega) (n+1) (Nat.lt_succ_self _)
 rw [n0]
 rcases h with ⟨_,h,hI⟩ | ⟨x,h,k,hk,rfl⟩
 ·have h:runL step (n+1) 0=.done (n:Int):=h
  rw [h,first_none.2 hI]; rfl
 ·have h:runL step (n+1) 0=.ret (r k):=h
  rw [h,hk]; rfl
def oix:Option Nat→Int
 | some k=>(k:Int)
 | none=>-1
theorem oix_lt {p:Nat→Bool} {n:Nat}:oix (first p n)<(n:Int):=by
 cases h:first p n with
 | none=>simp only [oix]; omega
 | some k=>have:=(first_some.1 h).1; simp only [oix]; omega
theorem oix_neg {o:Option Nat}:oix o<0↔o=none:=by
 cases o with
 | none=>simp [oix]
 | some k=>simp [oix]
theorem Ucq {o:Option Nat} (h:¬ oix o<0):o=some (oix o).toNat:=by
 cases o with
 | none=>exact absurd (by decide) h
 | some k=>simp [oix]
def idxI {α:Type} [Inhabited α] (p:α→Bool) (xs:List α):Int:=oix (first (fun k=>p (xs.getD k default)) xs.length)
theorem Vo {α:Type} [Inhabited α] (p:α→Bool) (xs:List α) (step:Int→Lp Int Int)
  (hs:∀ i,step i=bif decide (i<(xs.length:Int)) then (bif p (xs.getD (Int.toNat i) default) then .ret i else .next (i+1)) else .done i) :
  (runL step ((Int.toNat ((xs.length:Int)-0))+1) 0).fin (fun r=>r) (fun _=>-1)=idxI p xs:=by
 rw [search (fun k=>p (xs.getD k default)) (fun k=>(k:Int)) xs.length step (fun k hk=>by rw [hs,ltD hk,nn]; rfl) (by rw [hs,geD]; rfl)]
 unfold idxI
 all_goals (cases first (fun k=>p (xs.getD k default)) xs.length <;> rfl)
theorem Tc {α:Type} [Inhabited α] (p:α→Bool) (xs:List α):decide (idxI p xs≥0)=xs.any p:=by
 rw [Bool.eq_iff_iff,decide_eq_true_eq,List.any_eq_true]
 constructor
 ·intro h
  have h':¬ idxI p xs<0:=by omega
  have h2:=first_some.1 (Ucq h')
  exact ⟨_,Kh xs h2.1,h2.2.1⟩
 ·rintro ⟨x,hx,hp⟩
  obtain ⟨k,hk,rfl⟩:=Je hx
  rcases Int.lt_or_le (idxI p xs) 0 with h | h
  ·have:=first_none.1 (oix_neg.1 h) k hk
   simp only [hp] at this
   cases this
  ·exact h
theorem Mp {α:Type} [Inhabited α] (p:α→Bool) (xs:List α):idxI p xs<(xs.length:Int):=oix_lt
theorem beqD (a b:Int):(a==b)=decide (a=b):=by
 by_cases h:a=b <;> simp [h]
theorem Qdp {α:Type} (xs:List α) {i:Nat} (a:α) (h:i<xs.length):(xs.set i a).take (i+1)=xs.take i++[a]:=by
 rw [List.take_add_one,List.take_set_of_le (Nat.le_refl _),List.getElem?_set_self h]; rfl
theorem Kp {α:Type} [Inhabited α] (p:α→Bool) (s:List α) {k:Nat} (h:k<s.length):(s.take (k+1)).filter p=(s.take k).filter p++(if p (s.getD k default) then [s.getD k default] else []):=by
 rw [Nx h,List.filter_append]
 congr 1
 simp only [List.filter_cons,List.filter_nil]
theorem Qkb {α:Type} [Inhabited α] (del:α→Bool) (s:List α) (z:α) (step:Int×Int×List α→Lp (Int×Int×List α) (List α))
  (hs:∀ i j xs,step (i,j,xs)=bif decide (j<(xs.length:Int)) then (bif (!(del (xs.getD (Int.toNat j) default))) then .next (i+1,j+1,xs.set (Int.toNat i) (xs.getD (Int.toNat j) default)) else .next (i,j+1,xs)) else .done (i,j,xs)) :
  (bif (idxI del s==(-1)) then s else (((runL step ((Int.toNat ((s.length:Int)-(idxI del s+1)))+1) (idxI del s,idxI del s+1,s)).fin Lp.ret (fun x=>(Lp.done (x.2.2,x.1):Lp (List α×Int) (List α)))).fin (fun r=>r) (fun x=>((x.1.take (Int.toNat x.2)++List.replicate (x.1.drop (Int.toNat x.2)).length z++x.1.drop (Int.toNat x.2+(x.1.drop (Int.toNat x.2)).length)).take (Int.toNat x.2)))))=s.filter (fun x=>!(del x)):=by
 unfold idxI
 cases e:first (fun k=>del (s.getD k default)) s.length with
 | none =>
  have hn:=first_none.1 e
  have e1:(oix (none:Option Nat)==(-1:Int))=true:=rfl
  rw [e1,cond_true]
  symm
  refine List.filter_eq_self.2 fun x hx=>?_
  obtain ⟨k,hk,rfl⟩:=Je hx
  simpa using hn k hk
 | some k0 =>
  obtain ⟨h1,h2,h3⟩:=first_some.1 e
  have e1:(oix (some k0)==(-1:Int))=false:=by rw [beqD]; exact decide_eq_false (by simp only [oix]; omega)
  rw [e1,cond_false]
  simp only [oix]
  have hpre:(s.take (k0+1)).filter (fun x=>!(del x))=s.take k0:=by
   rw [Kp _ _ h1]
   simp only [h2,Bool.not_true,Bool.false_eq_true,if_false,List.append_nil]
   refine List.filter_eq_self.2 fun x hx=>?_
   obtain ⟨k,hk,rfl⟩:=List.mem_iff_getElem.1 hx
   have hk':k<k0:=by simp at hk; omega
   have:=h3 k hk'
   rw [Kz s (by omega)] at this
   simpa using this
  have h:=Yj (step:=step) (fun (k:Nat) (x:Nat×List α)=>((x.1:Int),(k:Int),x.2)) s.length
   (fun k x=>x.1<k∧x.2.length=s.length∧x.2.take x.1=(s.take k).filter (fun x=>!(del x))∧∀ m,k≤m→x.2.getD m default=s.getD m default) (fun _=>False)
   (fun k x hk ⟨g1,g2,g3,g4⟩=>by
    obtain ⟨i,xs⟩:=x
    simp only at g1 g2 g3 g4
    have hx:=g4 k (Nat.le_refl _)
    cases hd:del (s.getD k default) with
    | false =>
     refine .inl ⟨(i+1,xs.set i (s.getD k default)),?_,by simp only; omega,by simp [g2],?_,fun m hm=>?_⟩
     ·rw [hs,g2,ltD hk,nn,hx,hd]
      simp only [cond_true,Bool.not_false,nn]
      rfl
     ·simp only
      rw [Qdp xs _ (by omega),g3,Kp _ _ hk,hd]
      rfl
     ·simp only
      rw [List.getD_eq_getElem?_getD,List.getElem?_set_ne (by omega),← List.getD_eq_getElem?_getD]
      exact g4 m (by omega)
    | true =>
     refine .inl ⟨(i,xs),?_,by simp only; omega,g2,?_,fun m hm=>g4 m (by omega)⟩
     ·rw [hs,g2,ltD hk,nn,hx,hd]
      simp only [cond_true,Bool.not_true,cond_false]
      rfl
     ·simp only
      rw [g3,Kp _ _ hk,hd]
      simp)
   (fun x ⟨_,g2,_,_⟩=>by rw [hs,g2,geD]; rfl) (s.length-(k0+1)) (k0+1) (k0,s) (by omega) ⟨Nat.lt_succ_self _,rfl,hpre.symm,fun _ _=>rfl⟩ (s.length-(k0+1)+1) (Nat.lt_succ_self _)
  have ef:Int.toNat ((s.length:Int)-((k0:Int)+1))=s.length-(k0+1):=by omega
  rw [ef]
  rcases h with ⟨⟨i,xs⟩,h,g1,g2,g3,g4⟩ | ⟨_,_,h⟩
  ·have h:runL step (s.length-(k0+1)+1) ((k0:Int),(k0:Int)+1,s)=.done ((i:Int),(s.length:Int),xs):=h
   simp only at g1 g2 g3
   rw [h]
   simp only [Lp.fin,nn]
   rw [List.take_length] at g3
   rw [← g3,List.append_assoc,List.take_append_of_le_length (by simp; omega),List.take_take,Nat.min_self]
  ·exact h.elim
end Go.Proofs.YtahakkfbpnpimabGreatDoor
