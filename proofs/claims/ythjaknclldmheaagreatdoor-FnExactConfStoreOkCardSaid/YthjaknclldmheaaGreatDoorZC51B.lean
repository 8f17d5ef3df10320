/- A part of the proof of FnExactConfStoreOk. Texts put together: MZ, MRN, MEP, MD, ME, MF, MG, MH, MI, MJ, MK, ML, MN, K3, MQ, CF, MR, MS, MT, MY, MYB, MP, MX. -/
import Derived.MapKept
import Derived.WideMake
import Derived.Maps.RangeRun
import Derived.Laws.BytesArg
import Derived.Laws.IdiomStrings
import Derived.Deep.LoopGhost
import Derived.ProofKit
import Derived.Test.YthjaknclldmheaaGreatDoorRows
import Derived.Shelf.Strings.Cut
import Derived.Shelf.Strings.Split
import Derived.Shelf.Strings.OnBuilder
import Derived.Shelf.Slices.In.SortAlone
import Derived.Shelf.Slices.In.SortNone
import Derived.Sort.EveryDepth
import Derived.Test.YthjaknclldmheaaGreatDoorZC51A
namespace Go.Proofs.YthjaknclldmheaaGreatDoor
open Go.RowKit
set_option maxRecDepth 100000
set_option linter.unusedVariables false
set_option linter.unusedSimpArgs false
abbrev ML (α:Type):=List (Za×α)
def putM {α:Type}:ML α->Za->α->ML α
 | [],s,x=>[(s,x)]
 | p :: m,s,x=>if p.1=s then (s,x) :: m else p :: putM m s x
def MEnt {α:Type} (f:α->Value) (l:List MapEntry) (m:ML α):Prop:=l.map (fun e=>(e.key,e.val))=m.map fun p=>(Value.string p.1,f p.2)
def MX {α:Type} (f:α->Value) (m:ML α):FX where
 rd S w y:=∃ r es clock,y=.map (some r)/\S r/\w.heap[r]?=some (.map es clock)/\MEnt f es.toList m/\MapKept.Stamped es clock
 ow w y fp:=∃ r es clock,y=.map (some r)/\fp=[r]/\w.heap[r]?=some (.map es clock)/\MEnt f es.toList m/\MapKept.Stamped es clock
 mono S S' w w' y hs h:=by
  obtain ⟨r,es,c,h1,h2,h3,h4⟩:=h
  exact ⟨r,es,c,h1,(hs r h2).1,(hs r h2).2.trans h3,h4⟩
 one S w y h:=by obtain ⟨r,es,c,rfl,_⟩:=h; rfl
 keep w w' y fp hk h:=by
  obtain ⟨r,es,c,h1,rfl,h3,h4⟩:=h
  exact ⟨r,es,c,h1,rfl,(hk r (Qw.2 rfl)).trans h3,h4⟩
 lt w y fp h b hb:=by
  obtain ⟨r,es,c,h1,rfl,h3,h4⟩:=h
  obtain rfl:=Qw.1 hb
  exact (Rz.1 h3).1
 nd w y fp h:=by
  obtain ⟨r,es,c,h1,rfl,h3,h4⟩:=h
  exact Q0.2 ⟨Rv,Q2⟩
 rdo w y fp h:=by
  obtain ⟨r,es,c,h1,rfl,h3,h4⟩:=h
  exact ⟨r,es,c,h1,Qw.2 rfl,h3,h4⟩
section
variable {P:Program} {fs fsA:Nat->Option Fact} {β:Nat->Nat->Value} {φ:Nat->List Nat} {dom ψ IN:Nat->Prop} {w0 w w':World} {base:Nat}
def tMap (P:Program) (T:TypeId):Option TypeId:=match P.underlying T with
 | some (.map k e)=>(match P.underlying k with | some .string=>some e | _=>none)
 | _=>none
theorem Qns {T e:TypeId} (h:tMap P T=some e):∃ k,P.underlying T=some (.map k e)/\P.underlying k=some .string:=by
 unfold tMap at h
 split at h
 ·rename_i k e' hT
  split at h
  ·rename_i hk; cases h; exact ⟨k,hT,hk⟩
  ·cases h
 ·cases h
def fidx {α:Type}:ML α->Za->Nat->Option (Nat×α)
 | [],_,_=>none
 | p :: m,s,i=>if p.1=s then some (i,p.2) else fidx m s (i+1)
theorem Qkq {α:Type}:∀ (m:ML α) (s:Za) (i:Nat) (x:α),fidx m s i=none->putM m s x=m++[(s,x)]
 | [],_,_,_,_=>rfl
 | p :: m,s,i,x,h=>by
  simp only [fidx] at h
  by_cases e:p.1=s
  ·rw [if_pos e] at h; cases h
  ·rw [if_neg e] at h
   simp only [putM,if_neg e,Tc]
   rw [Qkq m s (i+1) x h]
theorem Qyc {α:Type}:∀ (m:ML α) (s:Za) (i:Nat),fidx m s i=none->∀ p∈m,p.1≠s
 | [],_,_,_,_,hp=>by cases hp
 | q :: m,s,i,h,p,hp=>by
  simp only [fidx] at h
  by_cases e:q.1=s
  ·rw [if_pos e] at h; cases h
  ·rw [if_neg e] at h
   rcases Qu.1 hp with rfl | hp
   ·exact e
   ·exact Qyc m s (i+1) h p hp
theorem Qjr {α:Type}:∀ (m:ML α) (s:Za) (i j:Nat) (x y:α),fidx m s i=some (j,y)->∃ k,j=i+k/\putM m s x=m.set k (s,x)/\∃ y',m[k]?=some (s,y')
 | p :: m,s,i,j,x,y,h=>by
  simp only [fidx] at h
  by_cases e:p.1=s
  ·rw [if_pos e] at h
   cases h
   exact ⟨0,rfl,by simp only [putM,if_pos e,List.set_cons_zero],p.2,by subst e; rfl⟩
  ·rw [if_neg e] at h
   obtain ⟨k,h1,h2,y',h3⟩:=Qjr m s (i+1) j x y h
   exact ⟨k+1,by omega,by simp only [putM,if_neg e,List.set_cons_succ,h2],y',by simpa using h3⟩
theorem Qcp {α:Type} {f:α->Value} {s:Za}:∀ (l:List MapEntry) (m:ML α) (i:Nat),MEnt f l m->Instr.findNow .string (.string s) l i=some ((fidx m s i).map fun q=>(q.1,f q.2))
 | [],[],i,_=>rfl
 | e :: l,p :: m,i,h=>by
  simp only [MEnt,Rb,T6,Q3] at h
  obtain ⟨⟨h1,h2⟩,h3⟩:=h
  have hs:Instr.sameNow .string (.string s) e.key=some (s==p.1):=by rw [h1]; rfl
  by_cases e':p.1=s
  ·have:(s==p.1)=true:=(MapKept.bytes_beq s p.1).2 e'.symm
   simp only [Instr.findNow,hs,this,fidx,if_pos e',G2,h2]
  ·have:(s==p.1)=false:=T1.2 fun x=>e' ((MapKept.bytes_beq s p.1).1 x).symm
   simp only [Instr.findNow,hs,this,fidx,if_neg e']
   exact Qcp l m (i+1) h3
 | [],_ :: _,_,h=>by simp [MEnt] at h
 | _ :: _,[],_,h=>by simp [MEnt] at h
theorem Qid {α:Type} {f:α->Value} {m:ML α} {T e:TypeId} {r clock:Nat} {es:Array MapEntry} {s:Za} {x:α} (hT:tMap P T=some e) (hr:w.heap[r]?=some (.map es clock)) (hm:MEnt f es.toList m) (hs:MapKept.Stamped es clock) :
  ∃ es' clock',(Instr.mapUpdate T (.map (some r)) (.string s) (f x)).run P w=.ok () { w with heap:=w.heap.setIfInBounds r (.map es' clock') }/\MEnt f es'.toList (putM m s x)/\MapKept.Stamped es' clock':=by
 obtain ⟨k,h1,h2⟩:=Qns hT
 have hf:=MapKept.run_findKey (w:=w) (P:=P) h2 (Qcp (s:=s) es.toList m 0 hm)
 have hc:=MapKept.run_checkKey (w:=w) (P:=P) (k:=.string s) h2 trivial false 9999
 cases hx:fidx m s 0 with
 | none =>
  rw [hx] at hf
  refine ⟨es.push ⟨.string s,f x,clock⟩,clock+1,?_,?_,MapKept.stamped_push hs fun z hz he=>?_⟩
  ·simp only [Option.map_none] at hf
   simp [Instr.mapUpdate,run_underlying h1,MapKept.run_getObj_map hr,hc,hf,MapKept.run_setObj_map _ hr]
  ·rw [Qkq m s 0 x hx]
   simp only [MEnt,Array.toList_push,T8,Rb,G3]
   rw [show List.map (fun e=>(e.key,e.val)) es.toList=_ from hm]
  ·have hmem:(z.key,z.val)∈m.map fun p=>(Value.string p.1,f p.2):=by
    rw [<- show List.map (fun e=>(e.key,e.val)) es.toList=_ from hm]
    exact Si.2 ⟨z,hz,rfl⟩
   obtain ⟨p,hp,e⟩:=Si.1 hmem
   have h1:Value.string p.1=z.key:=Qt Prod.fst e
   rw [he] at h1
   cases h1
   exact Qyc m p.1 0 hx p hp rfl
 | some q =>
  obtain ⟨j,y⟩:=q
  rw [hx] at hf
  obtain ⟨j',hj,h3,y',h4⟩:=Qjr m s 0 j x y hx
  obtain rfl:j'=j:=by omega
  have hlen:es.toList.length=m.length:=by have:=Qt List.length hm; simpa using this
  have hlt:j'<m.length:=(Qr.1 h4).1
  have hej:∃ e0,es[j']?=some e0/\e0.key=.string s:=by
   have hl:j'<es.size:=by rw [<- Q8]; omega
   refine ⟨es[j'],R8 hl,?_⟩
   have:=Qt (fun l=>l[j']?) hm
   simp only [Tj,h4,G2,Tw,R8 hl,Qa,Q3] at this
   exact this.1
  obtain ⟨e0,he0,hk0⟩:=hej
  refine ⟨es.modify j' fun e=>{ e with key:=.string s,val:=f x },clock,?_,?_,MapKept.stamped_modify hs j' _ (fun _ _=>rfl) fun e _ hej=>by rw [he0] at hej; cases hej; exact hk0.symm⟩
  ·simp only [G2] at hf
   have hst:(Instr.keyThatStays (.string s) (.string s)).run P w=.ok (.string s) w:=by
    have:Instr.sameBits 10000 (.string s) (.string s)=true:=by
     show (s==s)=true
     exact (MapKept.bytes_beq s s).2 rfl
    simp [Instr.keyThatStays,this]
   simp [Instr.mapUpdate,run_underlying h1,MapKept.run_getObj_map hr,hc,hf,he0,hk0,hst,MapKept.run_setObj_map _ hr]
  ·rw [h3]
   have hl:j'<es.size:=by rw [<- Q8]; omega
   unfold MEnt
   apply Gd
   intro i
   have hmi:=Qt (fun l=>l[i]?) hm
   simp only [Tj,Tw,Array.getElem?_modify,List.getElem?_set] at hmi ⊢
   by_cases hi:j'=i
   ·subst hi
    simp only [Sx,he0,G2,hlt]
   ·simp only [if_neg hi]; exact hmi
def Qtf (P:Program) (fs:Nat->Option Fact) (base:Nat) (T:TypeId) (a:AV):Option OpR:=match Qhb P fs T a with
 | some r=>(match r.av with
  | .h id (j+1)=>(match Ja fs (.h id (j+1)) with
   | some (d,dep)=>some ⟨[],.h base 0,[(base,some (.shr dep d))]⟩
   | none=>none)
  | _=>none)
 | none=>none
theorem Uag (R:Rel P fsA β φ dom ψ IN w0 w) (hb:∀ id,base<=id->id<base+Ur->¬ dom id) (hsub:∀ id f,fs id=some f->fsA id=some f) {T:TypeId} {a:AV} {r:OpR} (h:Qtf P fs base T a=some r) :
  Snd P fsA base r β φ dom ψ IN w0 ((do pure (Next.value (<- Instr.loadAt T (val β a))):Sem Next).run P w):=by
 unfold Qtf at h
 split at h
 ·rename_i r0 hr0
  split at h
  ·rename_i id j hav
   split at h
   ·rename_i d dep hd
    cases h
    obtain ⟨e1,e2,_,_⟩:=Ns R hsub hr0
    obtain ⟨q1,q2,q3,q4⟩:=Kl R hsub hd
    have hnb:¬ dom base:=hb base (Qq _) (by unfold Ur; omega)
    refine Snd.new1 R hb (.shr dep d) (fun _=>β id (j+1)) [] (Bel.refl _ _) (fun _=>R.all1 _ _) ?_ (fun V d e=>by cases e) (fun hm=>by cases hm) (.inr rfl) ?_
    ·cases dep with
     | none=>show RdV ψ w d (up β base _ base 0); rw [Uf]; exact q1
     | some XV =>
      obtain ⟨X,V⟩:=XV
      obtain ⟨l1,l2,l3⟩:=q2 X V rfl
      refine ⟨.inl l2,.inl l3,fun _=>?_⟩
      have hX:X≠base:=fun e=>hnb (e ▸ l2)
      rw [Uf,Ym _ _ _ hX]
      exact q1
    ·have e:r0.av=.h id (j+1):=hav
     simp only [Sem.run_bind,e1,Result.andThen_ok,Sem.run_pure,val,Uf,e]
   ·cases h
  ·cases h
 ·cases h
def Qqx (P:Program) (base:Nat) (T:TypeId) {α:Type} (f:α->Value):Option OpR:=match tMap P T with
 | some _=>some ⟨[],.h base 0,[(base,some (.own base (.x (MX f []))))]⟩
 | none=>none
theorem Qzq (R:Rel P fsA β φ dom ψ IN w0 w) (hb:∀ id,base<=id->id<base+Ur->¬ dom id) {T:TypeId} {α:Type} {f:α->Value} {r:OpR} (h:Qqx P base T f=some r) :
  Snd P fsA base r β φ dom ψ IN w0 ((do pure (Next.value (<- Instr.makeMap T none)):Sem Next).run P w):=by
 unfold Qqx at h
 split at h
 ·cases h
  refine Snd.new1 R hb (.own base (.x (MX f []))) (fun _=>.map (some w.heap.size)) [w.heap.size] (Qex w (.map #[] 0)) (fun _=>rfl) ⟨.inr rfl,?_⟩ (fun V d e=>by cases e; exact hb base (Qq _) (by unfold Ur; omega)) (fun _ b hbb=>?_) (.inr rfl) ?_
  ·rw [Uf,Uf]
   exact ⟨w.heap.size,#[],0,rfl,rfl,by simp,rfl,MapKept.stamped_empty 0⟩
  ·obtain rfl:=Qw.1 hbb
   simp
  ·have e:=run_makeMap_plain (P:=P) (w:=w) T
   simp only [Sem.run_bind,e,Result.andThen_ok,Sem.run_pure,val,Uf]
   rfl
 ·cases h
def Qnl (P:Program) (fs:Nat->Option Fact) (base:Nat) (T:TypeId) (a k v:AV) {α:Type} (f:α->Value) (m:ML α) (x:α):Option OpR:=match a,k,v,tMap P T with
 | .h X 0,.v (.string s),.v y,some _=>(match fs X with
  | some (.own _ (.x F))=>some ⟨[F=MX f m,y=f x],.v undef,[(X,some (.own base (.x (MX f (putM m s x)))))]⟩
  | _=>none)
 | _,_,_,_=>none
theorem Qtd (R:Rel P fsA β φ dom ψ IN w0 w) (hb:∀ id,base<=id->id<base+Ur->¬ dom id) (hsub:∀ id f,fs id=some f->fsA id=some f) {T:TypeId} {a k v:AV} {α:Type} {f:α->Value} {m:ML α} {x:α} {r:OpR} (h:Qnl P fs base T a k v f m x=some r) (hv:AllP r.vcs) :
  Snd P fsA base r β φ dom ψ IN w0 ((do Instr.mapUpdate T (val β a) (val β k) (val β v); pure Next.skip:Sem Next).run P w):=by
 unfold Qnl at h
 split at h
 ·rename_i X s y e hT
  split at h
  ·rename_i V F hX
   cases h
   obtain ⟨rfl,rfl,_⟩:=hv
   obtain ⟨hdX,hdV,hF⟩:=R.ok X _ (hsub _ _ hX)
   obtain ⟨q,es,clock,e1,e2,e3,e4,e5⟩:=hF
   obtain ⟨es',clock',k1,k2⟩:=Qid (P:=P) (x:=x) (s:=s) hT e3 e4 e5
   have hlt:q<w.heap.size:=(Rz.1 e3).1
   refine Snd.mod1 (w':={ w with heap:=w.heap.setIfInBounds q (.map es' clock') }) R hb (hsub _ _ hX) rfl (.own base (.x (MX f (putM m s x)))) [q] ⟨rfl,rfl,rfl,by simp,fun b hbl hbn=>?_,Qq _⟩ ⟨.inr rfl,?_⟩ (fun V d e=>by cases e; exact hb base (Qq _) (by unfold Ur; omega)) (fun _ b hbb=>?_) ?_
   ·rw [e2] at hbn
    have hne:q≠b:=fun e=>hbn (by rw [e]; exact Qw.2 rfl)
    simp [Tb,hne]
   ·rw [Uf]
    exact ⟨q,es',clock',e1,rfl,by simp [Tb,hlt],k2⟩
   ·obtain rfl:=Qw.1 hbb
    exact ⟨by simpa using hlt,.inr (by rw [e2]; exact Qw.2 rfl)⟩
   ·simp only [val,e1]
    simp [k1]
  ·cases h
 ·cases h
def Udr (P:Program) (fs:Nat->Option Fact) (T:TypeId) (a k:AV) {α:Type} (f:α->Value) (m:ML α) (z:α):Option OpR:=none
theorem Uaz (R:Rel P fsA β φ dom ψ IN w0 w) (hsub:∀ id f,fs id=some f->fsA id=some f) {T:TypeId} {a k:AV} {α:Type} {f:α->Value} {m:ML α} {z:α} {r:OpR} (h:Udr P fs T a k f m z=some r) (hv:AllP r.vcs) :
  (Instr.lookup T (val β a) (val β k) false).run P w=.ok (val β r.av) w/\r.av.wf dom/\r.sets=[]:=by cases (show (none:Option OpR)=some r from h)
def Ucu (P:Program) (fs:Nat->Option Fact) (T:TypeId) (a:AV) {α:Type} (f:α->Value) (m:ML α):Option OpR:=match tMap P T,Ja fs a with
 | some e,some (.x F,_)=>some ⟨[F=MX f m],.v (.int .i64 (m.length:Int)),[]⟩
 | _,_=>none
theorem Ugo (R:Rel P fsA β φ dom ψ IN w0 w) (hsub:∀ id f,fs id=some f->fsA id=some f) {T ty:TypeId} {a:AV} {α:Type} {f:α->Value} {m:ML α} {r:OpR} (h:Ucu P fs T a f m=some r) (hv:AllP r.vcs) :
  (Builtin.len_ #[T] ty #[val β a]).run P w=.ok (val β r.av) w/\r.av.wf dom/\r.sets=[]:=by
 unfold Ucu at h
 split at h
 ·rename_i e F dep hT hd
  cases h
  obtain ⟨rfl,_⟩:=hv
  obtain ⟨q,es,clock,e1,e2,e3,e4,_⟩:=(Kl R hsub hd).1
  obtain ⟨k,h1,h2⟩:=Qns hT
  refine ⟨?_,trivial,rfl⟩
  have hlen:es.size=m.length:=by have:=Qt List.length e4; simpa using this
  rw [e1]
  simp [Builtin.len_,val,run_underlying h1,MapKept.run_getObj_map e3,goInt,hlen]
 ·cases h
end
def CurOK {α:Type} (f:α->Value) (es:Array MapEntry) (clock:Nat) (seen:Array Nat) (c0:Nat):Option (Za×α)->Prop
 | none=>True
 | some p=>∃ e∈es.toList,∃ sn:Array Nat,e.key=.string p.1/\e.val=f p.2/\seen=sn.push e.born/\c0=clock
def IXQ {α:Type} (f:α->Value) (m left:ML α) (cur:Option (Za×α)) (w:World) (y:Value) (r b:Nat):Prop :=
 ∃ es clock seen c0,y=.pointer (some ⟨r,0,none⟩)/\w.heap[b]?=some (.map es clock)/\w.heap[r]?=some (.mapIter (some b) clock seen c0)/\MEnt f es.toList m/\MapKept.Stamped es clock/\clock<=c0/\MEnt f (leftOf es seen).toList left/\CurOK f es clock seen c0 cur
def IX {α:Type} (f:α->Value) (m left:ML α) (cur:Option (Za×α)):FX where
 rd S w y:=∃ r b,S r/\S b/\r≠b/\IXQ f m left cur w y r b
 ow w y fp:=∃ r b,fp=[r,b]/\r≠b/\IXQ f m left cur w y r b
 mono S S' w w' y hs h:=by
  obtain ⟨r,b,h1,h2,hn,es,c,sn,c0,e1,e2,e3,e4⟩:=h
  exact ⟨r,b,(hs r h1).1,(hs b h2).1,hn,es,c,sn,c0,e1,(hs b h2).2.trans e2,(hs r h1).2.trans e3,e4⟩
 one S w y h:=by obtain ⟨r,b,_,_,_,es,c,sn,c0,rfl,_⟩:=h; rfl
 keep w w' y fp hk h:=by
  obtain ⟨r,b,rfl,hn,es,c,sn,c0,e1,e2,e3,e4⟩:=h
  exact ⟨r,b,rfl,hn,es,c,sn,c0,e1,(hk b (by simp)).trans e2,(hk r (by simp)).trans e3,e4⟩
 lt w y fp h b hb:=by
  obtain ⟨r,b',rfl,hn,es,c,sn,c0,e1,e2,e3,e4⟩:=h
  rcases Qu.1 hb with rfl | hb
  ·exact (Rz.1 e3).1
  ·obtain rfl:=Qw.1 hb
   exact (Rz.1 e2).1
 nd w y fp h:=by
  obtain ⟨r,b,rfl,hn,_⟩:=h
  exact Q0.2 ⟨by simpa using hn,Q0.2 ⟨Rv,Q2⟩⟩
 rdo w y fp h:=by
  obtain ⟨r,b,rfl,hn,h⟩:=h
  exact ⟨r,b,by simp,by simp,hn,h⟩
theorem Udq {α:Type} {f:α->Value} {A B:List MapEntry} {e:MapEntry} {left:ML α} (h:MEnt f (A++e :: B) left):∃ A' p B',left=A'++p :: B'/\MEnt f A A'/\MEnt f B B'/\e.key=.string p.1/\e.val=f p.2:=by
 unfold MEnt at h
 rw [T8,Rb] at h
 obtain ⟨A',R,rfl,h1,h2⟩:=List.map_eq_append_iff.1 h.symm
 obtain ⟨p,B',rfl,h3,h4⟩:=List.map_eq_cons_iff.1 h2
 have h5:=Prod.mk.inj h3
 exact ⟨A',p,B',rfl,h1.symm,h4.symm,h5.1.symm,h5.2.symm⟩
theorem Qqy {es:Array MapEntry} {clock:Nat} {seen:Array Nat} {e:MapEntry} (hs:MapKept.Stamped es clock) (he:e∈(leftOf es seen).toList):∃ A B,(leftOf es seen).toList=A++e :: B/\(leftOf es (seen.push e.born)).toList=A++B:=by
 obtain ⟨A,B,hAB⟩:=List.append_of_mem he
 refine ⟨A,B,hAB,?_⟩
 have hl:∀ sn,(leftOf es sn).toList=es.toList.filter fun x=>!sn.contains x.born:=fun sn=>by unfold leftOf; simp
 have h2:(leftOf es (seen.push e.born)).toList=(leftOf es seen).toList.filter fun x=>!(x.born==e.born):=by
  rw [hl,hl,List.filter_filter]
  refine List.filter_congr fun x _=>?_
  rw [show (seen.push e.born).contains x.born=(seen.contains x.born || x.born==e.born) from contains_push _ _ _]
  cases seen.contains x.born <;> cases (x.born==e.born) <;> rfl
 have hnd:((leftOf es seen).toList.map (·.born)).Nodup:=by
  rw [hl]
  exact (List.Sublist.map _ List.filter_sublist).nodup hs.2.1
 rw [hAB,T8,Rb,Rh] at hnd
 obtain ⟨_,n2,n3⟩:=hnd
 rw [Q0] at n2
 rw [h2,hAB,Tu,Sm (by simp)]
 congr 1
 ·refine List.filter_eq_self.2 fun x hx=>?_
  have:=n3 x.born (Si.2 ⟨x,hx,rfl⟩) e.born Ql
  simpa using this
 ·refine List.filter_eq_self.2 fun x hx=>?_
  have:x.born≠e.born:=fun h=>n2.1 (h ▸ Si.2 ⟨x,hx,rfl⟩)
  simpa using this
theorem IXQ.next {α:Type} {f:α->Value} {m left:ML α} {cur:Option (Za×α)} {P:Program} {w:World} {y:Value} {r b:Nat} (h:IXQ f m left cur w y r b) (hn:r≠b) (ty:TypeId) :
  (left=[]/\(Instr.next y false ty).run P w=.ok (.tuple #[.bool false]) w) \/
  ∃ p left' w',left.Perm (p :: left')/\(Instr.next y false ty).run P w=.ok (.tuple #[.bool true,.string p.1,f p.2]) w'/\IXQ f m left' (some p) w' y r b/\Chg0 (·=r) w w'/\w.drawn<=w'.drawn/\w'.heap.size=w.heap.size:=by
 obtain ⟨es,clock,seen,c0,rfl,e2,e3,e4,e5,e6,e7,e8⟩:=h
 rcases run_next_at (P:=P) w ty r b clock c0 seen es clock e3 e2 e5.1 e6 with ⟨h0,hrun⟩ | ⟨e,he,w1,hw1,hrun⟩
 ·refine .inl ⟨?_,hrun⟩
  have hl:(leftOf es seen).toList.length=left.length:=by
   have:=Qt List.length e7
   simpa [MEnt] using this
  rw [Q8,h0] at hl
  exact Rx hl.symm
 ·obtain ⟨A,B,k1,k2⟩:=Qqy e5 he
  rw [k1] at e7
  obtain ⟨A',p,B',rfl,m1,m2,m3,m4⟩:=Udq e7
  have hlt:r<w.heap.size:=(Rz.1 e3).1
  have hw:w1.heap=w.heap/\w1.os=w.os/\w1.tape=w.tape/\w1.output=w.output/\w.drawn<=w1.drawn:=by
   rcases hw1 with rfl | rfl
   ·exact ⟨rfl,rfl,rfl,rfl,Qq _⟩
   ·exact ⟨rfl,rfl,rfl,rfl,Ru _⟩
  obtain ⟨g1,g2,g3,g4,g5⟩:=hw
  refine .inr ⟨p,A'++B',_,List.perm_middle,by rw [hrun,m3,m4],⟨es,clock,seen.push e.born,clock,rfl,?_,?_,e4,e5,Qq _,?_,e,(mem_left he).1,seen,m3,m4,rfl,rfl⟩,⟨?_,?_,?_,?_,?_⟩,?_,?_⟩
  ·show (w1.heap.setIfInBounds r _)[b]?=_
   rw [g1,Sh hn]; exact e2
  ·show (w1.heap.setIfInBounds r _)[r]?=_
   rw [g1,Array.getElem?_setIfInBounds_self_of_lt hlt]
  ·rw [k2]
   unfold MEnt at *
   rw [T8,T8,m1,m2]
  ·exact g2
  ·exact g3
  ·exact g4
  ·show w.heap.size<=(w1.heap.setIfInBounds r _).size
   rw [g1]; simp
  ·intro k hk hne
   show (w1.heap.setIfInBounds r _)[k]?=_
   rw [g1,Sh (fun e=>hne e.symm)]
  ·exact g5
  ·show (w1.heap.setIfInBounds r _).size=_
   rw [g1]; simp
section
variable {P:Program} {fs fsA:Nat->Option Fact} {β:Nat->Nat->Value} {φ:Nat->List Nat} {dom ψ IN:Nat->Prop} {w0 w w':World} {base:Nat}
def Qra (P:Program) (fs:Nat->Option Fact) (base:Nat) (T:TypeId) (a:AV) {α:Type} (f:α->Value) (m:ML α):Option OpR:=match a,tMap P T with
 | .h X 0,some _=>(match fs X with
  | some (.own _ (.x F))=>some ⟨[F=MX f m],.h base 0,(base,some (.own base (.x (IX f m m none)))) :: [X].map fun i=>(i,none)⟩
  | _=>none)
 | _,_=>none
theorem Uaj (R:Rel P fsA β φ dom ψ IN w0 w) (hb:∀ id,base<=id->id<base+Ur->¬ dom id) (hsub:∀ id f,fs id=some f->fsA id=some f) {T:TypeId} {a:AV} {α:Type} {f:α->Value} {m:ML α} {r:OpR} (h:Qra P fs base T a f m=some r) (hv:AllP r.vcs) :
  Snd P fsA base r β φ dom ψ IN w0 ((do pure (Next.value (<- Instr.range T (val β a))):Sem Next).run P w):=by
 unfold Qra at h
 split at h
 ·rename_i X e hT
  split at h
  ·rename_i V F hX
   cases h
   obtain ⟨rfl,_⟩:=hv
   obtain ⟨hdX,hdV,hF⟩:=R.ok X _ (hsub _ _ hX)
   obtain ⟨q,es,clock,e1,e2,e3,e4,e5⟩:=hF
   obtain ⟨k,h1,h2⟩:=Qns hT
   have hlt:q<w.heap.size:=(Rz.1 e3).1
   refine Snd.newC R hb (.own base (.x (IX f m m none))) (fun _=>.pointer (some ⟨w.heap.size,0,none⟩)) [w.heap.size,q] [X] (fun id hid=>?_) (Chg.of_below (Qex w (.mapIter (some q) clock #[] clock))) (fun _=>rfl) ⟨.inr rfl,?_⟩ (fun V d e=>by cases e; exact hb base (Qq _) (by unfold Ur; omega)) (fun _ b hbb=>?_) (.inr rfl) ?_
   ·obtain rfl:=Qw.1 hid
    exact ⟨_,hsub _ _ hX,rfl⟩
   ·rw [Uf,Uf]
    refine ⟨w.heap.size,q,rfl,by omega,es,clock,#[],clock,rfl,?_,by simp,e4,e5,Qq _,?_,trivial⟩
    ·rw [Array.getElem?_push_lt hlt]; rw [R8 hlt] at e3; exact e3
    ·have:leftOf es #[]=es:=by unfold leftOf; simp
     rw [this]; exact e4
   ·rcases Qu.1 hbb with rfl | hbb
    ·exact ⟨by simp,.inl (Qq _)⟩
    ·obtain rfl:=Qw.1 hbb
     exact ⟨by simp; omega,.inr ⟨X,Qw.2 rfl,by rw [e2]; exact Qw.2 rfl⟩⟩
   ·have hr:=run_range_map (P:=P) w T k e q es clock h1 e3
    simp only [Sem.run_bind,val,e1,hr,Result.andThen_ok,Sem.run_pure,Uf]
    rfl
  ·cases h
 ·cases h
def Qsh (fs:Nat->Option Fact) (a:AV) {α:Type} (f:α->Value) (m left:ML α) (s:Za) (x:α):Option OpR:=match Ja fs a with
 | some (.x F,_)=>some ⟨[F=IX f m left (some (s,x))],.tu [.v (.string s),.v (f x)],[]⟩
 | _=>none
theorem Uaq (R:Rel P fsA β φ dom ψ IN w0 w) (hsub:∀ id f,fs id=some f->fsA id=some f) {a:AV} {α:Type} {f:α->Value} {m left:ML α} {s:Za} {x:α} {r:OpR} (h:Qsh fs a f m left s x=some r) (hv:AllP r.vcs) :
  (Instr.entry (val β a)).run P w=.ok (val β r.av) w/\r.av.wf dom/\r.sets=[]:=by
 unfold Qsh at h
 split at h
 ·rename_i F dep hd
  cases h
  obtain ⟨rfl,_⟩:=hv
  obtain ⟨q,b,_,_,hn,es,clock,seen,c0,e1,e2,e3,e4,e5,e6,e7,e,he,sn,k1,k2,k3,k4⟩:=(Kl R hsub hd).1
  refine ⟨?_,⟨trivial,trivial,trivial⟩,rfl⟩
  subst k3 k4
  have hr:=run_entry_at (P:=P) w q b _ sn es _ e e3 e2 he e5.2.1
  rw [e1,hr,k1,k2]
  rfl
 ·cases h
end
structure SpecM:Type 1 where
 ds:List Dat
 es:List Dat
 pre:Prop
def SpecM.ok (P:Program) (f:FuncId) (sp:SpecM) (D:Bool:=true):Prop :=
 sp.pre->∀ (S:Nat->Prop) (w:World) (b o:Nat) (vs:List Value),(∀ b,S b->b<w.heap.size)->GOK S w->S b->Has w b o vs->RdVs S w sp.ds vs ->
  Calls P f #[.pointer (some ⟨b,o,none⟩)] w fun e w'=>∃ b' o' us,e=.returned (.pointer (some ⟨b',o',none⟩))/\S b'/\Has w' b' o' us/\RdVs S w' sp.es us/\Chg (fun _=>False) (atD D w) w'
theorem SpecM.ok.to {P:Program} {f:FuncId} {sp:SpecM} (D:Bool) (h:sp.ok P f):sp.ok P f D:=fun hp S w b o vs h1 h2 h3 h4 h5=>(h hp S w b o vs h1 h2 h3 h4 h5).mono fun e w' ⟨b',o',us,e1,e2,e3,e4,e5⟩=>⟨b',o',us,e1,e2,e3,e4,Chg.toD D e5⟩
section
variable {P:Program} {fs fsA:Nat->Option Fact} {β:Nat->Nat->Value} {φ:Nat->List Nat} {dom ψ IN:Nat->Prop} {w0 w w':World} {base:Nat}
def Qrv (fs:Nat->Option Fact) (base:Nat) (sp:SpecM) (args:List AV):Option OpR:=match args with
 | [.p id 0]=>(match fs id with
  | some (.mem none _ ds0)=>some ⟨[sp.pre,Imps ds0 sp.ds],.p base 0,[(base,some (.mem none none sp.es))]⟩
  | _=>none)
 | _=>none
theorem Uar (R:Rel P fsA β φ dom ψ IN w0 w) (hb:∀ id,base<=id->id<base+Ur->¬ dom id) (hsub:∀ id f,fs id=some f->fsA id=some f) {f:FuncId} {sp:SpecM} {D:Bool} (ok:sp.ok P f D) {args:List AV} {r:OpR} (h:Qrv fs base sp args=some r) (hv:AllP r.vcs)
  (hdr:D=false->w0.drawn=0) {run:Result Next} (hrun:run=.ok (.enter f (vals β args).toArray) w):Snd P fsA base r β φ dom ψ IN w0 run:=by
 unfold Qrv at h
 split at h
 ·rename_i id
  split at h
  ·rename_i el ds0 hid
   cases h
   obtain ⟨hpre,himp,_⟩:=hv
   obtain ⟨_,b,o,e1,e2,e3,e4⟩:=R.ok id _ (hsub id _ hid)
   have hnb:¬ dom base:=hb base (Qq _) (by unfold Ur; omega)
   rw [hrun]
   have hv1:(vals β [AV.p id 0]).toArray=#[Value.pointer (some ⟨b,o,none⟩)]:=by simp [vals,val,e1,padd]
   rw [hv1]
   refine Calls.mono (ok hpre ψ w b o _ R.psi R.glo e2 e3 (himp.rd e4)) fun e w2 ⟨b',o',us,k1,k2,k3,k4,k5⟩=>⟨_,k1,?_⟩
   let βn:Nat->Value:=fun j=>match j with
    | 0=>.pointer (some ⟨b',o',none⟩)
    | j+1=>us.getD j (.bool false)
   have hl:=k4.len
   have hone:∀ j,(βn j).oneCell'=true:=by
    intro j
    cases j with
    | zero=>rfl
    | succ j =>
     show (us.getD j (.bool false)).oneCell'=true
     rw [Qd]
     cases hj:us[j]? with
     | none=>rfl
     | some v=>exact Rc.1 k4.one v (Q9 hj)
   have hbv:bv (up β base βn) base sp.es.length=us:=by
    refine List.ext_getElem (by simp [bv,hl]) fun j h1 h2=>?_
    simp [bv,Uf,βn,h2]
   refine ⟨up β base βn,φ,fun i=>dom i\/i=base,by simp [val,Uf,βn,padd],.inr rfl,fun id h=>⟨.inl h,Ym _ _ _ fun e=>hnb (e ▸ h)⟩,fun id h=>?_,?_⟩
   ·rcases h with h | rfl
    ·exact .inl h
    ·exact .inr ⟨Qq _,by unfold Ur; omega⟩
   ·refine R.step0 (NN:=(·=base)) (C:=fun _=>False) k5.ofD ?_ (fun id h=>⟨.inl h,Ym _ _ _ fun e=>hnb (e ▸ h)⟩) (Ha R.all1 _ hone) (fun id g hg=>?_) (fun _ _=>rfl) (fun b _ h=>h.elim) (fun id g hn hg=>?_) (fun id V d hn hg=>?_) (fun id g hn hg hm b hbb=>?_) (fun i j f g hi hj _ _ _ _ hne=>absurd (hi.trans hj.symm) hne)
    ·cases D with
     | false=>rw [hdr rfl]; exact Qy _
     | true=>exact Q5 R.chg.drawn k5.drawn
    ·simp only [Yc,Yo] at hg
     by_cases h:id=base
     ·exact .inl h
     ·rw [if_neg h] at hg; exact .inr hg
    ·subst hn
     simp only [Yc,Yo,Sx,Qa] at hg
     subst hg
     exact ⟨.inr rfl,b',o',by rw [Uf],k2,by rw [hbv]; exact k3,by rw [hbv]; exact k4⟩
    ·subst hn
     simp only [Yc,Yo,Sx,Qa] at hg
     cases hg
    ·subst hn
     simp only [Yc,Yo,Sx,Qa] at hg
     subst hg
     cases hm
  ·cases h
 ·cases h
end
inductive Hint (D:Bool) (P:Program):Type 1 where
 | no
 | bnd
 | dat (d:Dat)
 | dat2 (d e:Dat)
 | own
 | ix (ds:List Dat)
 | take (d:Dat)
 | part
 | azz (gi:Nat)
 | sv
 | str (s:Za)
 | call (f:FuncId) (sp:Spec) (ok:sp.ok P f D) (fh:Option (FnH P))
 | fnv (F:Zx) (i:F.ι)
 | cm (f:FuncId) (sp:SpecM) (ok:sp.ok P f D)
 | sh
 | mpm {α:Type} (f:α->Value)
 | mpu {α:Type} (f:α->Value) (m:ML α) (x:α)
 | mpl {α:Type} (f:α->Value) (m:ML α) (z:α)
 | mpn {α:Type} (f:α->Value) (m:ML α)
 | rng {α:Type} (f:α->Value) (m:ML α)
 | ent {α:Type} (f:α->Value) (m left:ML α) (s:Za) (x:α)
 | calle (f:FuncId) (sp:Spec) (ok:sp.ok P f D) (d:Dat)
 | bin (o:BinOp) (T:TypeId) (a b v:Value) (one:v.oneCell'=true) (ok:∀ (x y:Operand) (w:World),(do eqGuard o T x y a b; binOp o T a b).run P w=.ok v w)
def Hint.datO {D:Bool} {P:Program}:Hint D P->Option Dat
 | .dat d=>some d
 | _=>none
def Hint.dat2O {D:Bool} {P:Program}:Hint D P->Option (Dat×Dat)
 | .dat2 d e=>some (d,e)
 | _=>none
def Hint.ixO {D:Bool} {P:Program}:Hint D P->Option (List Dat)
 | .ix ds=>some ds
 | _=>none
def Hint.isPart {D:Bool} {P:Program}:Hint D P->Bool
 | .part=>true
 | _=>false
def Hint.asO {D:Bool} {P:Program}:Hint D P->Option Nat
 | .azz gi=>some gi
 | _=>none
def Hint.strO {D:Bool} {P:Program}:Hint D P->Option Za
 | .str s=>some s
 | _=>none
def Hint.isSv {D:Bool} {P:Program}:Hint D P->Bool
 | .sv=>true
 | _=>false
def Hint.takeO {D:Bool} {P:Program}:Hint D P->Option Dat
 | .take d=>some d
 | _=>none
def Hint.isSh {D:Bool} {P:Program}:Hint D P->Bool
 | .sh=>true
 | _=>false
def Hint.isBnd {D:Bool} {P:Program}:Hint D P->Bool
 | .bnd=>true
 | _=>false
def Hint.isOwn {D:Bool} {P:Program}:Hint D P->Bool
 | .own=>true
 | _=>false
def opA (sl:Nat->Option AV):Operand->Option AV
 | .tmp t=>sl t
 | .const v=>some (.v v)
 | .func f=>some (.cl f [])
 | .global _=>none
def opAs (sl:Nat->Option AV):List Operand->Option (List AV)
 | []=>some []
 | x :: xs=>match opA sl x,opAs sl xs with
  | some a,some azz=>some (a :: azz)
  | _,_=>none
def opPs (sl:Nat->Option AV):List (Nat×Operand)->Option (List (Nat×AV))
 | []=>some []
 | (i,x) :: xs=>match opA sl x,opPs sl xs with
  | some a,some azz=>some ((i,a) :: azz)
  | _,_=>none
def opO (sl:Nat->Option AV):Option Operand->Option (Option AV)
 | none=>some none
 | some x=>match opA sl x with
  | some a=>some (some a)
  | none=>none
def Qbt:List AV->Option (List Value)
 | []=>some []
 | .v x :: azz=>(match Qbt azz with | some vs=>some (x :: vs) | none=>none)
 | _ :: _=>none
def Qkj:AV->Option Value
 | .v x=>some x
 | .ag cs=>(match Qbt cs with | some vs=>some (.agg vs.toArray) | none=>none)
 | _=>none
def eBin {D:Bool} (P:Program) (h:Hint D P) (o:BinOp) (T:TypeId) (x y:AV):Option OpR :=
 match h with
 | .bin o' T' a b v one ok=>(match Qkj x,Qkj y with
  | some x',some y'=>if o'=o/\T'=T then some ⟨[x'=a,y'=b],.v v,[]⟩ else none
  | _,_=>none)
 | _=>(match x,y with
  | .v (.bool a),.v (.bool b)=>(match o,P.underlying T with
   | .eql,some .bool=>some ⟨[],.v (.bool (a==b)),[]⟩
   | .neq,some .bool=>some ⟨[],.v (.bool (!(a==b))),[]⟩
   | _,_=>none)
  | .v a,.v b=>(match binV h.isBnd o a b with
   | some (vcs,v)=>bif v.oneCell' then some ⟨vcs,.v v,[]⟩ else none
   | none=>none)
  | _,_=>none)
def eLen (P:Program) (fs:Nat->Option Fact) (t:TypeId) (x:AV):Option OpR :=
 match x with
 | .v (.string s)=>(match P.underlying t with | some .string=>some ⟨[],.v (.int .i64 (s.size:Int)),[]⟩ | _=>none)
 | .v (.slice none 0 0)=>(match P.underlying t with | some (.slice _)=>some ⟨[],.v (.int .i64 0),[]⟩ | _=>none)
 | x=>(match Ja fs x,P.underlying t with
  | some (@Dat.l _ _ _ _ xs,_),some (.slice _)=>some ⟨[],.v (.int .i64 (xs.length:Int)),[]⟩
  | _,_=>none)
def Qlw (mx:Bool) (x y:AV):Option OpR:=match x,y with
 | .v (.int k a),.v (.int _ b)=>some ⟨[],.v (.int k (bif mx then (if b>a then b else a) else (if b<a then b else a))),[]⟩
 | _,_=>none
def eConv (P:Program) (src dst:TypeId):AV->Option OpR
 | .v (.int _ n)=>(match P.underlying src,P.underlying dst with | some _,some (.int k)=>some ⟨[],.v (.int k (k.wrap n)),[]⟩ | _,_=>none)
 | .v (.string s)=>(match P.underlying src,P.underlying dst with | some _,some .string=>some ⟨[],.v (.string s),[]⟩ | _,_=>none)
 | _=>none
def ConvOK (d:Dat) (s:Za):Prop:=∃ (α:Type) (_:Inhabited α) (enc:α->List Dat) (xs:List α) (f:α->Int),d=.l 1 enc xs/\(∀ x,enc x=[.v (.int .u8 (f x))])/\s=strOfNums (xs.map f)
theorem ConvOK.mk {α:Type} [Inhabited α] (enc:α->List Dat) (xs:List α) (f:α->Int) (h:∀ x,enc x=[.v (.int .u8 (f x))]):ConvOK (.l 1 enc xs) (strOfNums (xs.map f)):=⟨α,inferInstance,enc,xs,f,rfl,h,rfl⟩
def Qts (P:Program) (fs:Nat->Option Fact) (src dst:TypeId) (x:AV) (s:Za):Option OpR :=
 match Ja fs x,P.underlying src,P.underlying dst with
 | some (d,_),some (.slice e),some .string=>(match P.underlying e with | some (.int .u8)=>some ⟨[ConvOK d s],.v (.string s),[]⟩ | _=>none)
 | _,_,_=>none
def Qsd (P:Program) (fs:Nat->Option Fact) (av:AV) (F:Zx):Option Prop:=match av with
 | .h id j=>(match fs id,j with
  | some (.fn F0),0=>some (F0=F)
  | _,_=>(match Ja fs (.h id j) with | some (.x X,_)=>some (X=FnX P F) | _=>none))
 | _=>none
def Qsx {D:Bool} (P:Program) (fs:Nat->Option Fact) (base:Nat) (h:Hint D P) (fv:AV) (args:List AV):Option OpR :=
 match fv,h with
 | .cl f cap,.call f' sp ok fh=>bif Nat.beq f f'&&Ux P f then Udd P fs fh base sp (args++cap) else none
 | .cl f cap,.cm f' sp ok=>bif Nat.beq f f'&&Ux P f then Qrv fs base sp (args++cap) else none
 | .cl f cap,.calle f' sp ok d=>bif Nat.beq f f'&&Ux P f then Uee fs base sp (args++cap) d else none
 | fv,.fnv F i=>(match D,Qsd P fs fv F,mRos fs args ((F.arg i).map .r) with
  | false,some p,some m=>some ⟨p :: m.vcs,.v (F.res i),[]⟩
  | _,_,_=>none)
 | _,_=>none
def Qtg {D:Bool} (P:Program) (fs:Nat->Option Fact) (sl:Nat->Option AV) (base:Nat) (h:Hint D P) (c:Call):Option OpR :=
 match c.callee with
 | .builtin b=>(match b,c.args.toList,c.argTypes.toList with
  | .len,[x],[t]=>(opA sl x).bind fun a=>(match h with | .mpn f m=>Ucu P fs t a f m | _=>eLen P fs t a)
  | .append,[x,y],[t,t']=>(opA sl x).bind fun x=>(opA sl y).bind fun y=>h.datO.bind fun d=>bif Nat.beq t t' then eApp P fs base t x y d else none
  | .min,[x,y],_=>(opA sl x).bind fun x=>(opA sl y).bind fun y=>Qlw false x y
  | .max,[x,y],_=>(opA sl x).bind fun x=>(opA sl y).bind fun y=>Qlw true x y
  | .clear,[x],[t]=>(opA sl x).bind fun a=>Qre P fs base t a h.datO
  | _,_,_=>none)
 | .value f=>(opA sl f).bind fun f=>(opAs sl c.args.toList).bind fun azz=>Qsx P fs base h f azz
 | _=>none
def opEv {D:Bool} (P:Program) (fs:Nat->Option Fact) (sl:Nat->Option AV) (base:Nat) (h:Hint D P) (op:Op):Option OpR :=
 match op with
 | .move x=>(opA sl x).map fun a=>⟨[],a,[]⟩
 | .assign x=>(opA sl x).map fun a=>⟨[],a,[]⟩
 | .alloc T=>Qtq P base T
 | .box T x=>(opA sl x).bind fun a=>eBox base T a
 | .build T ps=>(opPs sl ps.toList).bind fun ps=>Qrs P T ps
 | .buildSlice T n ps=>(opPs sl ps.toList).bind fun ps=>Qky P fs base T n ps h.datO
 | .load T a=>(opA sl a).bind fun a=>bif h.isSh then Qtf P fs base T a else (match h.takeO with | some d=>Ugb P fs base T a d | none=>(match h.asO with | some gi=>Qvy P fs T a gi | none=>Qhb P fs T a))
 | .store T a v=>(opA sl a).bind fun a=>(opA sl v).bind fun v=>(match h.dat2O with | some (d,e)=>Qzg P fs base T a v d e | none=>Qrr P fs base T a v h.datO)
 | .nilCheck x=>(opA sl x).bind fun a=>eNil fs a
 | .binOp o T x y _=>(opA sl x).bind fun x=>(opA sl y).bind fun y=>eBin P h o T x y
 | .unOp o _ x=>(opA sl x).bind fun a=>match a with | .v a=>(unV o a).map fun v=>⟨[],.v v,[]⟩ | _=>none
 | .convert s d x=>(opA sl x).bind fun a=>(match h.strO with | some st=>Qts P fs s d a st | none=>eConv P s d a)
 | .makeFunc fn first cap=>(match fn,first.toList with
  | .func f,[]=>(opAs sl cap.toList).map fun cs=>⟨[],.cl f cs,[]⟩
  | _,_=>none)
 | .makeSlice T l c=>(opA sl l).bind fun l=>(opA sl c).bind fun c=>h.datO.bind fun d=>Uca P base T l c d
 | .slice T x lo hi mx=>(match mx with
  | none=>(opA sl x).bind fun x=>(opO sl lo).bind fun lo=>(opO sl hi).bind fun hi=>(match P.underlying T with
   | some .string=>Qla x lo hi
   | some (.slice _)=>bif h.isPart then Uba P fs base T x lo hi else bif h.isSv then eSlcV P fs base T x lo hi else eSlc P fs base T x lo hi h.isOwn
   | _=>none)
  | some _=>none)
 | .fieldAddr T x i=>(opA sl x).bind fun a=>No P fs T i a
 | .field T x i=>(opA sl x).bind fun a=>Qrm P T i a
 | .indexAddr T x i=>(opA sl x).bind fun a=>(opA sl i).bind fun i=>eIdx P fs base T a i h.ixO
 | .index T x i=>(opA sl x).bind fun a=>(opA sl i).bind fun i=>match P.underlying T with
  | some .string=>Qnr a i
  | _=>none
 | .extract x i=>(opA sl x).bind fun a=>Qge i a
 | .makeMap T none=>(match h with | .mpm f=>Qqx P base T f | _=>none)
 | .mapUpdate T m k v=>(opA sl m).bind fun a=>(opA sl k).bind fun k=>(opA sl v).bind fun v=>(match h with | .mpu f m x=>Qnl P fs base T a k v f m x | _=>none)
 | .lookup T x i c=>bif c then none else (opA sl x).bind fun a=>(opA sl i).bind fun k=>(match h with | .mpl f m z=>Udr P fs T a k f m z | _=>none)
 | .range T x=>(opA sl x).bind fun a=>(match h with | .rng f m=>Qra P fs base T a f m | _=>none)
 | .entry x=>(opA sl x).bind fun a=>(match h with | .ent f m left s x=>Qsh fs a f m left s x | _=>none)
 | .call c=>Qtg P fs sl base h c
 | _=>none
section
variable {D:Bool} {P:Program} {fs fsA:Nat->Option Fact} {β:Nat->Nat->Value} {φ:Nat->List Nat} {dom ψ IN:Nat->Prop} {w0 w w':World} {base:Nat} {sl:Nat->Option AV} {ρ:Operand->Value}
def SlOK (sl:Nat->Option AV) (β:Nat->Nat->Value) (dom:Nat->Prop) (ρ:Operand->Value):Prop:=∀ x a,opA sl x=some a->ρ x=val β a/\a.wf dom
theorem Qnb (H:SlOK sl β dom ρ):∀ {xs:List Operand} {azz:List AV},opAs sl xs=some azz->xs.map ρ=vals β azz/\AVs.wf dom azz
 | [],azz,h=>by simp only [opAs,Qa] at h; subst h; exact ⟨rfl,trivial⟩
 | x :: xs,azz,h=>by
  simp only [opAs] at h
  split at h
  ·rename_i a as' h1 h2
   cases h
   obtain ⟨g1,g2⟩:=Qnb H h2
   obtain ⟨k1,k2⟩:=H x a h1
   exact ⟨by simp [vals,g1,k1],k2,g2⟩
  ·cases h
theorem Qlo (H:SlOK sl β dom ρ):∀ {xs:List (Nat×Operand)} {azz:List (Nat×AV)},opPs sl xs=some azz->xs.map (fun p=>(p.1,ρ p.2))=azz.map (fun p=>(p.1,val β p.2))/\∀ p∈azz,p.2.wf dom
 | [],azz,h=>by simp only [opPs,Qa] at h; subst h; exact ⟨rfl,fun p hp=>by cases hp⟩
 | (i,x) :: xs,azz,h=>by
  simp only [opPs] at h
  split at h
  ·rename_i a as' h1 h2
   cases h
   obtain ⟨g1,g2⟩:=Qlo H h2
   obtain ⟨k1,k2⟩:=H x a h1
   refine ⟨by simp [g1,k1],fun p hp=>?_⟩
   rcases Qu.1 hp with rfl | hp
   ·exact k2
   ·exact g2 p hp
  ·cases h
theorem Ucg (H:SlOK sl β dom ρ) {x:Option Operand} {a:Option AV} (h:opO sl x=some a):x.map ρ=a.map (val β):=by
 cases x with
 | none=>simp only [opO,Qa] at h; subst h; rfl
 | some x =>
  simp only [opO] at h
  split at h
  ·rename_i a' h1
   cases h
   simp [(H x a' h1).1]
  ·cases h
theorem Wt (R:Rel P fsA β φ dom ψ IN w0 w) {r:OpR} {s:Sem Value} (h:s.run P w=.ok (val β r.av) w/\r.av.wf dom/\r.sets=[]):Snd P fsA base r β φ dom ψ IN w0 ((do pure (Next.value (<- s)):Sem Next).run P w):=by
 obtain ⟨h1,h2,h3⟩:=h
 obtain ⟨vcs,av,sets⟩:=r
 simp only at h3
 subst h3
 exact Snd.pure R h2 (by simp [h1])
theorem Qkn:∀ {cs:List AV} {vs:List Value},Qbt cs=some vs->vals β cs=vs
 | [],vs,h=>by simp only [Qbt,Qa] at h; subst h; rfl
 | c :: cs,vs,h=>by
  cases c with
  | v x =>
   simp only [Qbt] at h
   split at h
   ·rename_i us hr
    cases h
    simp only [vals,val,Qkn hr]
   ·cases h
  | _=>simp [Qbt] at h
theorem Qqb {a:AV} {v:Value} (h:Qkj a=some v):val β a=v:=by
 cases a with
 | v x=>simp only [Qkj,Qa] at h; exact h
 | ag cs =>
  simp only [Qkj] at h
  split at h
  ·rename_i vs hr
   cases h
   simp only [val,Qkn hr]
  ·cases h
 | _=>simp [Qkj] at h
theorem Qnk {T:TypeId} (hT:P.underlying T=some .bool) (p q:Bool):∀ d,(Op.equalIn (d+1) T (.bool p) (.bool q)).run P w=.ok (p==q) w:=by
 intro d
 simp [Op.equalIn,run_underlying hT]
theorem Qeu {T:TypeId} (hT:P.underlying T=some .bool) (p q:Bool):(Op.equal T (.bool p) (.bool q)).run P w=.ok (p==q) w:=Qnk hT p q 9999
theorem Unu (R:Rel P fsA β φ dom ψ IN w0 w) {h:Hint D P} {o:BinOp} {T:TypeId} {a b:AV} {r:OpR} (he:eBin P h o T a b=some r) (hv:AllP r.vcs) (x y:Operand) :
  (do eqGuard o T x y (val β a) (val β b); binOp o T (val β a) (val β b)).run P w=.ok (val β r.av) w/\r.av.wf dom/\r.sets=[]:=by
 unfold eBin at he
 split at he
 ·rename_i o' T' a' b' v one ok
  split at he
  ·rename_i x' y' hx hy
   split at he
   ·rename_i hot
    obtain ⟨rfl,rfl⟩:=hot
    cases he
    obtain ⟨rfl,rfl,_⟩:=hv
    refine ⟨?_,trivial,rfl⟩
    rw [Qqb hx,Qqb hy]
    exact ok x y w
   ·cases he
  ·cases he
 ·split at he
  ·rename_i p q
   split at he
   ·rename_i hT
    cases he
    refine ⟨?_,trivial,rfl⟩
    simp [eqGuard,binOp,val,Qeu hT]
   ·rename_i hT
    cases he
    refine ⟨?_,trivial,rfl⟩
    simp [eqGuard,binOp,val,Qeu hT]
   ·cases he
  ·rename_i p q _
   split at he
   ·rename_i vcs v hb
    cases hone:v.oneCell' with
    | false=>rw [hone] at he; cases he
    | true =>
     rw [hone] at he
     cases he
     exact ⟨Ujd hb hv T x y w,trivial,rfl⟩
   ·cases he
  ·cases he
theorem Ulu (R:Rel P fsA β φ dom ψ IN w0 w) (hsub:∀ id f,fs id=some f->fsA id=some f) {t ty:TypeId} {x:AV} {r:OpR} (h:eLen P fs t x=some r) :
  (Builtin.len_ #[t] ty #[val β x]).run P w=.ok (val β r.av) w/\r.av.wf dom/\r.sets=[]:=by
 unfold eLen at h
 split at h
 ·split at h
  ·rename_i s ht; cases h; exact ⟨by simp [Builtin.len_,val,run_underlying ht,goInt],trivial,rfl⟩
  ·cases h
 ·split at h
  ·rename_i e ht; cases h; exact ⟨by simp [Builtin.len_,val,run_underlying ht,goInt],trivial,rfl⟩
  ·cases h
 ·split at h
  ·rename_i α inst sz enc xs dep e hd ht
   cases h
   obtain ⟨⟨a,c,e1,_⟩,_⟩:=Kl R hsub hd
   exact ⟨by rw [e1]; simp [Builtin.len_,val,run_underlying ht,goInt],trivial,rfl⟩
  ·cases h
theorem Qod {f:FuncId} (h:Ux P f=true) (args:Array Value):(callFunc f args).run P w=.ok (.enter f args) w:=by
 unfold Ux at h
 split at h
 ·rename_i fn hf
  simp only [Qo,Tl,Qz] at h
  cases hb:fn.body with
  | none=>rw [hb] at h; simp at h
  | some c=>simp [callFunc,hf,h.2,hb]
 ·cases h
theorem Qcw (R:Rel P fsA β φ dom ψ IN w0 w) (hsub:∀ id f,fs id=some f->fsA id=some f):∀ {azz:List AV} {ras:List RA} {m:MA},mRos fs azz (ras.map .r)=some m->AllP m.vcs->RdArgs (Outs φ w []) w ras (vals β azz)
 | azz,[],m,h,hv=>by
  cases azz with
  | nil=>rfl
  | cons a azz=>simp [mRos] at h
 | azz,ra :: ras,m,h,hv=>by
  cases azz with
  | nil=>simp [mRos] at h
  | cons a azz =>
   simp only [Rb,mRos] at h
   split at h
   ·rename_i m1 m2 h1 h2
    cases h
    obtain ⟨v1,v2⟩:=AllP.app hv
    obtain ⟨⟨k1,_⟩,_⟩:=Qnm (CONS:=[]) R hsub (fun id h=>by cases h) h1 v1 fun X hX h=>by cases h
    exact ⟨_,_,rfl,k1,Qcw R hsub h2 v2⟩
   ·cases h
theorem Vl (ρ:Operand->Value) {x:Operand} {args:Array Operand} {ats:Array TypeId} {d:Option Tmp} {ty:TypeId} {pos:String} {af:Array Edge} {g:Option (Nat×Bool)} {f:FuncId} {cap:Array Value} (hx:ρ x=.func (.func f) #[] cap) (hc:Ux P f=true) :
  (execOp ρ ⟨d,.call { callee:=.value x,args:=args,argTypes:=ats },ty,pos,af,g⟩).run P w=.ok (.enter f (args.map ρ++cap)) w:=by
 have:=Qod (w:=w) hc (args.map ρ++cap)
 simp [execOp,resolve,hx,Deferred.ofValue,invoke,this]
theorem Uab (R:Rel P fsA β φ dom ψ IN w0 w) (hsub:∀ id f,fs id=some f->fsA id=some f) {av:AV} {F:Zx} {p:Prop} (h:Qsd P fs av F=some p) (hp:p):∃ S:Nat->Prop,FnOK false P S w F (val β av):=by
 unfold Qsd at h
 split at h
 ·rename_i id j
  split at h
  ·rename_i F0 hF
   cases h
   subst hp
   exact ⟨ψ,(R.ok id _ (hsub _ _ hF)).2⟩
  ·split at h
   ·rename_i X dep hd
    cases h
    subst hp
    exact ⟨_,(Kl R hsub hd).1⟩
   ·cases h
 ·cases h
theorem Qzx (R:Rel P fsA β φ dom ψ IN w0 w) (hsub:∀ id f,fs id=some f->fsA id=some f) {src dst:TypeId} {x:AV} {s:Za} {r:OpR} (h:Qts P fs src dst x s=some r) (hv:AllP r.vcs) :
  (convert src dst (val β x)).run P w=.ok (val β r.av) w/\r.av.wf dom/\r.sets=[]:=by
 unfold Qts at h
 split at h
 ·rename_i d dep e hd hs hdst
  split at h
  ·rename_i he
   cases h
   obtain ⟨⟨α,_,enc,xs,f,rfl,henc,rfl⟩,_⟩:=hv
   refine ⟨?_,trivial,rfl⟩
   obtain ⟨⟨a,c,e1,h2,h3,h4⟩,_⟩:=Kl R hsub hd
   rw [e1]
   simp only [val]
   cases xs with
   | nil =>
    cases a with
    | none=>exact run_convert_bytes_nil _ src e hs he _ _ dst hdst
    | some ad =>
     exact run_convert_bytes_back w src dst e ad c [] hs he hdst (fun j hj=>by cases hj)
   | cons y ys =>
    obtain ⟨k1,_⟩:=h4 0 y rfl
    rw [k1]
    rw [run_convert_bytes_arg w src e hs he (ab a) (ao a) _ c ((y :: ys).map f) (by simp) (fun i hi=>?_) dst hdst]
    have hg:(y :: ys)[i]?=some ((y :: ys)[i]'hi):=Qh hi
    obtain ⟨_,_,cs,g1,g2,g3⟩:=h4 i _ hg
    rw [henc] at g3
    obtain ⟨u,us,rfl,⟨rfl,_⟩,rfl⟩:=g3
    have:=g2 0 _ rfl
    rw [Nat.mul_one,To] at this
    rw [this,Qd,Tj,hg]
    rfl
  ·cases h
 ·cases h
theorem Uap (hD:D=false->w0.drawn=0) (R:Rel P fsA β φ dom ψ IN w0 w) (hb:∀ id,base<=id->id<base+Ur->¬ dom id) (hsub:∀ id f,fs id=some f->fsA id=some f) {h:Hint D P} {fv:AV} {azz:List AV} {r:OpR} (he:Qsx P fs base h fv azz=some r) (hv:AllP r.vcs) {x:Operand} {args:Array Operand} {ats:Array TypeId} {d:Option Tmp} {ty:TypeId} {pos:String} {af:Array Edge} {g:Option (Nat×Bool)}
  (hx:ρ x=val β fv) (hargs:args.toList.map ρ=vals β azz) :
  Snd P fsA base r β φ dom ψ IN w0 ((execOp ρ ⟨d,.call { callee:=.value x,args:=args,argTypes:=ats },ty,pos,af,g⟩).run P w):=by
 have hargs2:args.map ρ=(vals β azz).toArray:=by apply Tt; rw [Array.toList_map,hargs]
 unfold Qsx at he
 split at he
 ·rename_i f cap f' sp ok fh
  cases hcc:(Nat.beq f f'&&Ux P f) with
  | false=>rw [hcc] at he; cases he
  | true =>
   rw [hcc] at he
   simp only [Qc] at he
   simp only [Qo] at hcc
   have hff:=Qg hcc.1
   subst hff
   have hrun:=Vl (P:=P) (w:=w) (d:=d) (ty:=ty) (pos:=pos) (af:=af) (g:=g) (ats:=ats) (args:=args) ρ hx hcc.2
   rw [hargs2] at hrun
   refine Ueb R hb hsub hD ok he hv (hrun.trans ?_)
   rw [Bi]
   simp
 ·rename_i f cap f' sp ok
  cases hcc:(Nat.beq f f'&&Ux P f) with
  | false=>rw [hcc] at he; cases he
  | true =>
   rw [hcc] at he
   simp only [Qc] at he
   simp only [Qo] at hcc
   have hff:=Qg hcc.1
   subst hff
   have hrun:=Vl (P:=P) (w:=w) (d:=d) (ty:=ty) (pos:=pos) (af:=af) (g:=g) (ats:=ats) (args:=args) ρ hx hcc.2
   rw [hargs2] at hrun
   refine Uar R hb hsub ok he hv hD (hrun.trans ?_)
   rw [Bi]
   simp
 ·rename_i f cap f' sp ok dX
  cases hcc:(Nat.beq f f'&&Ux P f) with
  | false=>rw [hcc] at he; cases he
  | true =>
   rw [hcc] at he
   simp only [Qc] at he
   simp only [Qo] at hcc
   have hff:=Qg hcc.1
   subst hff
   have hrun:=Vl (P:=P) (w:=w) (d:=d) (ty:=ty) (pos:=pos) (af:=af) (g:=g) (ats:=ats) (args:=args) ρ hx hcc.2
   rw [hargs2] at hrun
   refine Qzy R hb hsub hD ok he hv (hrun.trans ?_)
   rw [Bi]
   simp
 ·rename_i id F i
  split at he
  ·rename_i p m hF hm
   cases he
   obtain ⟨hv0,hv'⟩:=hv
   have hrd:=Qcw R hsub hm hv'
   obtain ⟨S0,f,cap,e1,hc,e2⟩:=Uab R hsub hF hv0
   have hrun:=Vl (P:=P) (w:=w) (d:=d) (ty:=ty) (pos:=pos) (af:=af) (g:=g) (ats:=ats) (args:=args) ρ (hx.trans e1) hc
   rw [hargs2] at hrun
   rw [hrun]
   refine Calls.mono (e2 i w (Outs φ w []) _ (fun _ _=>rfl) (R.gloOuts (CONS:=[]) (fun _ h=>by cases h)) (fun b hb=>hb.1) hrd) fun e w2 ⟨h1,h2⟩=>⟨_,h1,?_⟩
   refine ⟨β,φ,dom,rfl,trivial,fun id h=>⟨h,rfl⟩,fun id h=>.inl h,?_⟩
   exact R.step0 (NN:=fun _=>False) (C:=fun _=>False) (Chg.of_below h2).ofD (by rw [hD rfl]; exact Qy _) (fun _ h=>⟨h,rfl⟩) R.all1 (fun _ _ h=>.inr h) (fun _ _=>rfl) (fun _ _ h=>h.elim) (fun _ _ h=>h.elim) (fun _ _ _ h=>h.elim) (fun _ _ h=>h.elim) (fun _ _ _ _ h=>h.elim)
  ·cases he
 ·cases he
theorem Qsz (ρ:Operand->Value) {x y:Operand} {t:TypeId} {d:Option Tmp} {ty:TypeId} {pos:String} {af:Array Edge} {g:Option (Nat×Bool)} :
  (execOp ρ ⟨d,.call { callee:=.builtin .append,args:=#[x,y],argTypes:=#[t,t] },ty,pos,af,g⟩).run P w=(do pure (Next.value (<- Builtin.append_ #[t,t] ty #[ρ x,ρ y])):Sem Next).run P w:=by
 simp [execOp,resolve,invoke,builtin]
theorem Qro (ρ:Operand->Value) {x:Operand} {t:TypeId} {d:Option Tmp} {ty:TypeId} {pos:String} {af:Array Edge} {g:Option (Nat×Bool)} :
  (execOp ρ ⟨d,.call { callee:=.builtin .len,args:=#[x],argTypes:=#[t] },ty,pos,af,g⟩).run P w=(do pure (Next.value (<- Builtin.len_ #[t] ty #[ρ x])):Sem Next).run P w:=by
 simp [execOp,resolve,invoke,builtin]
theorem Qte (ρ:Operand->Value) {x y:Operand} {ts:Array TypeId} {d:Option Tmp} {ty:TypeId} {pos:String} {af:Array Edge} {g:Option (Nat×Bool)} :
  (execOp ρ ⟨d,.call { callee:=.builtin .min,args:=#[x,y],argTypes:=ts },ty,pos,af,g⟩).run P w=(do pure (Next.value (<- Builtin.min_ ts ty #[ρ x,ρ y])):Sem Next).run P w:=by
 simp [execOp,resolve,invoke,builtin]
theorem Qtm (ρ:Operand->Value) {x y:Operand} {ts:Array TypeId} {d:Option Tmp} {ty:TypeId} {pos:String} {af:Array Edge} {g:Option (Nat×Bool)} :
  (execOp ρ ⟨d,.call { callee:=.builtin .max,args:=#[x,y],argTypes:=ts },ty,pos,af,g⟩).run P w=(do pure (Next.value (<- Builtin.max_ ts ty #[ρ x,ρ y])):Sem Next).run P w:=by
 simp [execOp,resolve,invoke,builtin]
theorem Qmv (ρ:Operand->Value) {x:Operand} {t:TypeId} {d:Option Tmp} {ty:TypeId} {pos:String} {af:Array Edge} {g:Option (Nat×Bool)} :
  (execOp ρ ⟨d,.call { callee:=.builtin .clear,args:=#[x],argTypes:=#[t] },ty,pos,af,g⟩).run P w=(do pure (Next.value (<- Builtin.clear_ #[t] ty #[ρ x])):Sem Next).run P w:=by
 simp [execOp,resolve,invoke,builtin]
theorem Qzz (hD:D=false->w0.drawn=0) (R:Rel P fsA β φ dom ψ IN w0 w) (hb:∀ id,base<=id->id<base+Ur->¬ dom id) (hsub:∀ id f,fs id=some f->fsA id=some f) (H:SlOK sl β dom ρ) {h:Hint D P} {c:Call} {r:OpR} (he:Qtg P fs sl base h c=some r) (hv:AllP r.vcs) {dst:Option Tmp} {type:TypeId} {pos:String} {after:Array Edge} {guard:Option (Nat×Bool)} :
  Snd P fsA base r β φ dom ψ IN w0 ((execOp ρ ⟨dst,.call c,type,pos,after,guard⟩).run P w):=by
 obtain ⟨callee,args,ats⟩:=c
 have lits:∀ {α:Type} {a:Array α} {l:List α},a.toList=l->a=l.toArray:=fun e=>by apply Tt; rw [e]
 unfold Qtg at he
 simp only at he
 split at he
 ·split at he
  ·rename_i x t e1 e2
   obtain rfl:=lits e1
   obtain rfl:=lits e2
   obtain ⟨a,h1,h2⟩:=Qj.1 he
   obtain ⟨k1,k2⟩:=H x a h1
   rw [Qro,k1]
   split at h2
   ·exact Wt R (Ugo R hsub h2 hv)
   ·exact Wt R (Ulu R hsub h2)
  ·rename_i x y t t' e1 e2
   obtain rfl:=lits e1
   obtain rfl:=lits e2
   obtain ⟨a,h1,h2⟩:=Qj.1 he
   obtain ⟨b,h3,h4⟩:=Qj.1 h2
   obtain ⟨d,h5,h6⟩:=Qj.1 h4
   obtain ⟨k1,k2⟩:=H x a h1
   obtain ⟨k3,k4⟩:=H y b h3
   cases ht:Nat.beq t t' with
   | false=>rw [ht] at h6; cases h6
   | true =>
    rw [ht] at h6
    have ht':=Qg ht
    subst ht'
    rw [Qsz,k1,k3]
    exact Uks R hb hsub h6 hv
  ·rename_i x y e1
   obtain rfl:=lits e1
   obtain ⟨a,h1,h2⟩:=Qj.1 he
   obtain ⟨b,h3,h4⟩:=Qj.1 h2
   obtain ⟨k1,k2⟩:=H x a h1
   obtain ⟨k3,k4⟩:=H y b h3
   rw [Qte,k1,k3]
   unfold Qlw at h4
   split at h4
   ·cases h4
    exact Snd.pure R trivial (by simp [Builtin.min_,Builtin.min2,val])
   ·cases h4
  ·rename_i x y e1
   obtain rfl:=lits e1
   obtain ⟨a,h1,h2⟩:=Qj.1 he
   obtain ⟨b,h3,h4⟩:=Qj.1 h2
   obtain ⟨k1,k2⟩:=H x a h1
   obtain ⟨k3,k4⟩:=H y b h3
   rw [Qtm,k1,k3]
   unfold Qlw at h4
   split at h4
   ·cases h4
    exact Snd.pure R trivial (by simp [Builtin.max_,Builtin.max2,val])
   ·cases h4
  ·rename_i x t e1 e2
   obtain rfl:=lits e1
   obtain rfl:=lits e2
   obtain ⟨a,h1,h2⟩:=Qj.1 he
   obtain ⟨k1,k2⟩:=H x a h1
   rw [Qmv,k1]
   exact Uat R hb hsub h2 hv
  ·cases he
 ·rename_i f
  obtain ⟨a,h1,h2⟩:=Qj.1 he
  obtain ⟨azz,h3,h4⟩:=Qj.1 h2
  obtain ⟨k1,k2⟩:=H f a h1
  obtain ⟨k3,k4⟩:=Qnb H h3
  exact Uap hD R hb hsub h4 hv k1 k3
 ·cases he
theorem Unb (hD:D=false->w0.drawn=0) (R:Rel P fsA β φ dom ψ IN w0 w) (hb:∀ id,base<=id->id<base+Ur->¬ dom id) (hsub:∀ id f,fs id=some f->fsA id=some f) (H:SlOK sl β dom ρ) {h:Hint D P} {o:Oper} {r:OpR} (he:opEv P fs sl base h o.op=some r) (hv:AllP r.vcs) :
  Snd P fsA base r β φ dom ψ IN w0 ((execOp ρ o).run P w):=by
 obtain ⟨dst,op,type,pos,after,guard⟩:=o
 simp only at he
 cases op <;> simp only [opEv] at he <;> first | (cases he; done) | skip
 case move x =>
  obtain ⟨a,h1,rfl⟩:=Re.1 he
  obtain ⟨k1,k2⟩:=H x a h1
  exact Snd.pure R k2 (by simp [execOp,k1])
 case assign x =>
  obtain ⟨a,h1,rfl⟩:=Re.1 he
  obtain ⟨k1,k2⟩:=H x a h1
  exact Snd.pure R k2 (by simp [execOp,k1])
 case alloc T =>
  exact Qzu R hb he rfl
 case box T x =>
  obtain ⟨a,h1,h2⟩:=Qj.1 he
  obtain ⟨k1,k2⟩:=H x a h1
  have:=Unp R hb h2 k2
  rw [<- k1] at this
  exact this
 case build T ps =>
  obtain ⟨a,h1,h2⟩:=Qj.1 he
  obtain ⟨k1,k2⟩:=Qlo H h1
  have:=Qzw (w:=w) R h2 k2
  have e:(ps.map fun (i,x)=>(i,ρ x))=(a.map fun p=>(p.1,val β p.2)).toArray:=by
   apply Tt; rw [Array.toList_map,<- k1]
  have h3:=Wt (base:=base) R ⟨this.1,this.2.1,this.2.2.1⟩
  rw [<- e] at h3
  exact h3
 case buildSlice T n ps =>
  obtain ⟨a,h1,h2⟩:=Qj.1 he
  obtain ⟨k1,k2⟩:=Qlo H h1
  have e:(ps.map fun (i,x)=>(i,ρ x))=(a.map fun p=>(p.1,val β p.2)).toArray:=by
   apply Tt; rw [Array.toList_map,<- k1]
  have h3:=Qtn R hb hsub h2 hv k2
  rw [<- e] at h3
  exact h3
 case load T x =>
  obtain ⟨a,h1,h2⟩:=Qj.1 he
  obtain ⟨k1,k2⟩:=H x a h1
  cases hsh:h.isSh with
  | true =>
   rw [hsh,Qc] at h2
   have h3:=Uag R hb hsub h2
   rw [<- k1] at h3
   exact h3
  | false =>
  rw [hsh,Qe] at h2
  split at h2
  ·have h3:=Uev R hb hsub h2 hv
   rw [<- k1] at h3
   exact h3
  split at h2
  ·have:=Qth R hsub h2 hv
   have h3:=Wt (base:=base) R ⟨this.1,this.2.1,this.2.2⟩
   rw [<- k1] at h3
   exact h3
  have:=Ns R hsub h2
  have h3:=Wt (base:=base) R ⟨this.1,this.2.1,this.2.2.1⟩
  rw [<- k1] at h3
  exact h3
 case store T x v =>
  obtain ⟨a,h1,h2⟩:=Qj.1 he
  obtain ⟨b,h3,h4⟩:=Qj.1 h2
  obtain ⟨k1,k2⟩:=H x a h1
  obtain ⟨k3,k4⟩:=H v b h3
  split at h4
  ·have:=Qrj R hb hsub h4 hv k4
   rw [<- k1,<- k3] at this
   exact this
  have:=Uad R hb hsub h4 hv k4
  rw [<- k1,<- k3] at this
  exact this
 case nilCheck x =>
  obtain ⟨a,h1,h2⟩:=Qj.1 he
  obtain ⟨k1,k2⟩:=H x a h1
  cases a <;> simp only [eNil] at h2 <;> first | cases h2 | skip
  rename_i id off
  split at h2
  ·rename_i cs hcs
   cases h2
   obtain ⟨b,o,g1,g2,g3,g4,g5⟩:=Jj R hsub hcs
   refine Snd.pure R g5 ?_
   simp [execOp,k1,val,g1,padd]
  ·cases h2
 case makeMap T r' =>
  cases r' with
  | some r'=>simp at he
  | none =>
   simp only at he
   split at he
   ·exact Qzq R hb he
   ·cases he
 case mapUpdate T x y z =>
  obtain ⟨a,h1,h2⟩:=Qj.1 he
  obtain ⟨b,h3,h4⟩:=Qj.1 h2
  obtain ⟨c,h5,h6⟩:=Qj.1 h4
  obtain ⟨k1,k2⟩:=H x a h1
  obtain ⟨k3,k4⟩:=H y b h3
  obtain ⟨k5,k6⟩:=H z c h5
  split at h6
  ·have:=Qtd R hb hsub h6 hv
   rw [<- k1,<- k3,<- k5] at this
   exact this
  ·cases h6
 case range T x =>
  obtain ⟨a,h1,h2⟩:=Qj.1 he
  obtain ⟨k1,k2⟩:=H x a h1
  split at h2
  ·have:=Uaj R hb hsub h2 hv
   rw [<- k1] at this
   exact this
  ·cases h2
 case entry x =>
  obtain ⟨a,h1,h2⟩:=Qj.1 he
  obtain ⟨k1,k2⟩:=H x a h1
  split at h2
  ·have:=Wt (base:=base) R (Uaq R hsub h2 hv)
   rw [<- k1] at this
   exact this
  ·cases h2
 case lookup T x i c =>
  cases c with
  | true=>simp at he
  | false =>
   simp only [Qe] at he
   obtain ⟨a,h1,h2⟩:=Qj.1 he
   obtain ⟨b,h3,h4⟩:=Qj.1 h2
   obtain ⟨k1,k2⟩:=H x a h1
   obtain ⟨k3,k4⟩:=H i b h3
   split at h4
   ·have:=Wt (base:=base) R (Uaz R hsub h4 hv)
    rw [<- k1,<- k3] at this
    exact this
   ·cases h4
 case binOp o T x y T' =>
  obtain ⟨a,h1,h2⟩:=Qj.1 he
  obtain ⟨b,h3,h4⟩:=Qj.1 h2
  obtain ⟨k1,k2⟩:=H x a h1
  obtain ⟨k3,k4⟩:=H y b h3
  have:=Wt (base:=base) R (Unu (w:=w) R h4 hv x y)
  rw [<- k1,<- k3] at this
  exact this
 case unOp o T x =>
  obtain ⟨a,h1,h2⟩:=Qj.1 he
  obtain ⟨k1,k2⟩:=H x a h1
  split at h2
  ·rename_i a
   obtain ⟨v,h3,rfl⟩:=Re.1 h2
   refine Snd.pure R trivial ?_
   have:=unV_ok (P:=P) h3 w
   simp [execOp,k1,val,this]
  ·cases h2
 case convert s d x =>
  obtain ⟨a,h1,h2⟩:=Qj.1 he
  obtain ⟨k1,k2⟩:=H x a h1
  split at h2
  ·obtain ⟨q1,q2,q3⟩:=Qzx R hsub h2 hv
   have:=Wt (base:=base) R ⟨q1,q2,q3⟩
   rw [<- k1] at this
   exact this
  ·unfold eConv at h2
   split at h2
   ·split at h2
    ·rename_i k n u k' hs hd
     cases h2
     refine Snd.pure R trivial ?_
     cases u <;> simp [execOp,k1,val,convert,run_underlying hs,run_underlying hd,Conv.intToInt]
    ·cases h2
   ·split at h2
    ·rename_i ss u hs hd
     cases h2
     refine Snd.pure R trivial ?_
     cases u <;> simp [execOp,k1,val,convert,run_underlying hs,run_underlying hd]
    ·cases h2
   ·cases h2
 case makeFunc fn first cap =>
  split at he
  case h_2=>cases he
  rename_i f hfirst
  have hfirst:first=#[]:=by apply Tt; rw [hfirst]
  subst hfirst
  obtain ⟨a,h1,rfl⟩:=Re.1 he
  obtain ⟨k1,k2⟩:=Qnb H h1
  refine Snd.pure R k2 ?_
  have e:cap.map ρ=(vals β a).toArray:=by apply Tt; rw [Array.toList_map,k1]
  simp [execOp,Instr.makeFunc,e,val]
 case makeSlice T l c =>
  obtain ⟨a,h1,h2⟩:=Qj.1 he
  obtain ⟨b,h3,h4⟩:=Qj.1 h2
  obtain ⟨d,h5,h6⟩:=Qj.1 h4
  obtain ⟨k1,k2⟩:=H l a h1
  obtain ⟨k3,k4⟩:=H c b h3
  have:=Udj R hb h6 hv
  rw [<- k1,<- k3] at this
  exact this
 case slice T x lo hi mx =>
  cases mx with
  | some m=>cases he
  | none =>
  simp only at he
  obtain ⟨a,h1,h2⟩:=Qj.1 he
  obtain ⟨l,h3,h4⟩:=Qj.1 h2
  obtain ⟨hh,h5,h6⟩:=Qj.1 h4
  obtain ⟨k1,k2⟩:=H x a h1
  have k3:=Ucg H h3
  have k4:=Ucg H h5
  have e:(execOp ρ ⟨dst,.slice T x lo hi none,type,pos,after,guard⟩)=(do pure (Next.value (<- Instr.sliceAt T (val β a) (l.map (val β)) (hh.map (val β)) none)):Sem Next):=by
   rw [<- k1,<- k3,<- k4]; rfl
  rw [e]
  split at h6
  ·rename_i hT
   exact Wt R (Qsu hT h6 hv)
  ·rename_i U hT
   cases hp:h.isPart with
   | false =>
    rw [hp] at h6
    simp only [Qe] at h6
    cases hp2:h.isSv with
    | false=>rw [hp2] at h6; exact Uju R hb hsub h6 hv (by simp [Vu,hT])
    | true=>rw [hp2] at h6; exact Ubp R hb hsub h6 hv (by simp [Vu,hT])
   | true=>rw [hp] at h6; exact Uij R hb hsub h6 hv (by simp [Vu,hT])
  ·cases h6
 case fieldAddr T x i =>
  obtain ⟨a,h1,h2⟩:=Qj.1 he
  obtain ⟨k1,k2⟩:=H x a h1
  have:=Qhz R hsub h2
  have h3:=Wt (base:=base) R ⟨this.1,this.2.1,this.2.2.1⟩
  rw [<- k1] at h3
  exact h3
 case field T x i =>
  obtain ⟨a,h1,h2⟩:=Qj.1 he
  obtain ⟨k1,k2⟩:=H x a h1
  have:=Uas (w:=w) (β:=β) h2 k2
  have h3:=Wt (base:=base) R ⟨this.1,this.2.1,this.2.2.1⟩
  rw [<- k1] at h3
  exact h3
 case indexAddr T x i =>
  obtain ⟨a,h1,h2⟩:=Qj.1 he
  obtain ⟨b,h3,h4⟩:=Qj.1 h2
  obtain ⟨k1,k2⟩:=H x a h1
  obtain ⟨k3,k4⟩:=H i b h3
  have:=Ulz R hb hsub h4 hv
  rw [<- k1,<- k3] at this
  exact this
 case index T x i =>
  obtain ⟨a,h1,h2⟩:=Qj.1 he
  obtain ⟨b,h3,h4⟩:=Qj.1 h2
  obtain ⟨k1,k2⟩:=H x a h1
  obtain ⟨k3,k4⟩:=H i b h3
  split at h4
  ·rename_i hT
   have:=Wt (base:=base) R (Qrb (w:=w) (β:=β) hT h4 hv)
   rw [<- k1,<- k3] at this
   exact this
  ·cases h4
 case extract x i =>
  obtain ⟨a,h1,h2⟩:=Qj.1 he
  obtain ⟨k1,k2⟩:=H x a h1
  have:=Qpf (P:=P) (w:=w) (β:=β) h2 k2
  have h3:=Wt (base:=base) R ⟨this.1,this.2.1,this.2.2.1⟩
  rw [<- k1] at h3
  exact h3
 case call c=>exact Qzz hD R hb hsub H he hv
end
section
variable {D:Bool} {P:Program} {l:List Oper}
theorem Uhj {Q:Exit->Act->World->Prop} {Inv:(Nat->Prop)->Act->World->Prop} (hext:∀ S S' a w,(∀ i,i<l.length->(S i↔S' i))->Inv S a w->Inv S' a w)
  (step:∀ S a w i o,l[i]?=some o->(∀ k,S k↔k<i)->Inv S a w->wpOp P l.toArray Q i (fun a' w'=>Inv (fun k=>S k\/k=i) a' w') a w) (fin:∀ a w,Inv (fun k=>k<l.length) a w->Q .normal a w) :
  ∀ (n i:Nat),i+n=l.length->∀ a w,Inv (fun k=>k<i) a w->wpOps P l.toArray Q (List.range' i n) a w:=by
 intro n
 induction n with
 | zero =>
  intro i hi a w H
  obtain rfl:i=l.length:=by omega
  exact fin a w H
 | succ n ih =>
  intro i hi a w H
  have hlt:i<l.length:=by omega
  rw [Tf,wpOps_cons]
  refine wpOp_mono ?_ (step _ a w i _ (Qh hlt) (fun k=>Iff.rfl) H)
  intro a' w' H'
  exact ih (i+1) uu0 a' w' (hext _ _ _ _ (fun k _=>by omega) H')
theorem Ukq {Q:Exit->Act->World->Prop} {Inv:(Nat->Prop)->Act->World->Prop} (hext:∀ S S' a w,(∀ i,i<l.length->(S i↔S' i))->Inv S a w->Inv S' a w)
  (back:∀ i o,l[i]?=some o->∀ e∈o.after,Region.binds .any e=true->e.on<i)
  (step:∀ S a w i o,l[i]?=some o->¬ S i->(∀ e∈o.after,Region.binds .any e=true->S e.on)->(∀ k ok,l[k]?=some ok->S k->∀ e∈ok.after,Region.binds .any e=true->S e.on)->Inv S a w->wpOp P l.toArray Q i (fun a' w'=>Inv (fun k=>S k\/k=i) a' w') a w)
  (fin:∀ a w,Inv (fun k=>k<l.length) a w->Q .normal a w) :
  ∀ (fuel:Nat) (listed:Array Bool) (a:Act) (w:World),listed.size=l.length->(listed.toList.filter (!·)).length<=fuel->(∀ k ok,l[k]?=some ok->listed.getD k false=true->∀ e∈ok.after,Region.binds .any e=true->listed.getD e.on false=true) ->
   Inv (fun k=>listed.getD k false=true) a w->wpAny P .any l.toArray Q fuel listed a w:=by
 have hfin:∀ (listed:Array Bool) a w,listed.size=l.length->Region.ready .any l.toArray listed=[]->(∀ k ok,l[k]?=some ok->listed.getD k false=true->∀ e∈ok.after,Region.binds .any e=true->listed.getD e.on false=true)->Inv (fun k=>listed.getD k false=true) a w->Q .normal a w:=by
  intro listed a w hsz hr hd H
  have hall:∀ i,i<l.length->listed.getD i false=true:=by
   intro i
   induction i using Nat.strongRecOn with
   | _ i ih =>
    intro hi
    cases hb:listed.getD i false with
    | true=>rfl
    | false =>
     have:i∈Region.ready .any l.toArray listed:=by
      refine mem_ready.2 ⟨?_,l[i],by simp,fun e he hbd=>ih _ (back i _ (Qh hi) e he hbd) (Nat.lt_trans (back i _ (Qh hi) e he hbd) hi)⟩
      simp only [Sw,R8 (uu0:i<listed.size),Sd] at hb ⊢
      exact hb
     rw [hr] at this; cases this
  exact fin a w (hext _ _ _ _ (fun i hi=>⟨fun _=>hi,fun _=>hall i hi⟩) H)
 intro fuel
 induction fuel with
 | zero =>
  intro listed a w hsz hf hd H
  have hr:Region.ready .any l.toArray listed=[]:=by
   refine List.eq_nil_iff_forall_not_mem.2 fun j hj=>?_
   obtain ⟨h0,o,ho,_⟩:=mem_ready.1 hj
   have hjl:j<l.length:=by have:=(Rz.1 ho).1; simpa using this
   have h0':listed.toList.filter (!·)=[]:=Rx uu0
   simp only [Sw,R8 (uu0:j<listed.size),Sd] at h0
   have:(listed[j]'uu0)∈listed.toList.filter (!·):=Tm.2 ⟨by simp,by simp [h0]⟩
   rw [h0'] at this; cases this
  exact ⟨hr,hfin listed a w hsz hr hd H⟩
 | succ fuel ih =>
  intro listed a w hsz hf hd H
  refine ⟨fun hr=>hfin listed a w hsz hr hd H,fun i hi=>?_⟩
  obtain ⟨h0,o,ho,hpre⟩:=mem_ready.1 hi
  have ho2:l[i]?=some o:=by simpa using ho
  have hil:i<l.length:=(Qr.1 ho2).1
  have hi2:listed[i]'uu0=false:=by
   simp only [Sw,R8 (uu0:i<listed.size),Sd] at h0
   exact h0
  have hnot:¬ listed.getD i false=true:=by
   simp only [Sw,R8 (uu0:i<listed.size),Sd]
   rw [hi2]; simp
  have hgs:∀ j,((listed.setIfInBounds i true).getD j false=true)↔(listed.getD j false=true\/j=i):=by
   intro j
   by_cases h:j=i
   ·subst h; simp [hsz,hil]
   ·simp only [Sw]
    rw [Sh (Ne.symm h)]
    simp [h]
  refine wpOp_mono ?_ (step _ a w i o ho2 hnot hpre hd H)
  intro a' w' H'
  refine ih (listed.setIfInBounds i true) a' w' (by simpa using hsz) ?_ (fun k ok hok hk e he hb=>?_) (hext _ _ _ _ (fun j _=>(hgs j).symm) H')
  ·have hspl:listed.toList=listed.toList.take i++false :: listed.toList.drop (i+1):=by
    have hil2:i<listed.toList.length:=by simp; omega
    have:=(R6 i listed.toList).symm
    rw [Rg hil2] at this
    simpa [hi2] using this
   have hset:(listed.setIfInBounds i true).toList=listed.toList.take i++true :: listed.toList.drop (i+1):=by
    have hlen2:(listed.toList.take i).length=i:=by simp; omega
    rw [Array.toList_setIfInBounds]
    conv=>lhs; rw [hspl]
    rw [List.set_append_right _ _ uu0]
    simp [hlen2]
   rw [hset]
   rw [hspl] at hf
   simp only [Tu,Ri,Gy,Gh,Sx,Q4,Sv,Tr,Gx] at hf ⊢
   omega
  ·rw [hgs] at hk ⊢
   rcases hk with hk | rfl
   ·exact .inl (hd k ok hok hk e he hb)
   ·rw [ho2] at hok; cases hok
    exact .inl (hpre e he hb)
end
structure RI:Type 1 where
 keys:List (Nat×Bool)
 r:OpR
def Nl (ks ks':List (Nat×Bool)):Bool:=ks.all fun k=>ks'.any fun k'=>Nat.beq k.1 k'.1&&(k.2==k'.2)
def Bc (anc:Nat->Bool) (keys:List (Nat×Bool)) (t:Nat) (init:Option AV):Nat->List Oper->List RI->Option AV
 | k,o :: os,ri :: rs=>match o.dst with
  | some d=>bif Nat.beq d t then (bif anc k&&Nl ri.keys keys then some ri.r.av else none) else Bc anc keys t init (k+1) os rs
  | none=>Bc anc keys t init (k+1) os rs
 | _,_,_=>init
def Yn:List (Nat×Option Fact)->Nat->Option (Option Fact)
 | [],_=>none
 | (i,o) :: l,id=>match Yn l id with
  | some x=>some x
  | none=>bif Nat.beq i id then some o else none
def Qkf (anc:Nat->Bool) (keys:List (Nat×Bool)) (id:Nat):Option Fact->Nat->List RI->Option Fact
 | acc,_,[]=>acc
 | acc,k,ri :: rs=>Qkf anc keys id (match Yn ri.r.sets id with
  | none=>acc
  | some o=>bif anc k then (bif Nl ri.keys keys then o else none) else acc) (k+1) rs
def kap (rs:List RI) (k:Nat×Bool):Prop:=match rs[k.1]? with
 | some ri=>(match ri.r.av with | .v (.bool b)=>b=k.2 | _=>False)
 | none=>False
def Qtj:List Prop->Prop->Prop
 | [],p=>p
 | c :: cs,p=>c->Qtj cs p
def Quy (l:List Oper) (anc:Nat->Bool) (done:List RI):Option (Nat×Bool)->Option (List (Nat×Bool))
 | none=>some []
 | some (j,w)=>match done[j]?,(l[j]?).bind (·.dst) with
  | some rj,some _=>(match rj.r.av with | .v (.bool _)=>bif anc j then some ((j,w) :: rj.keys) else none | _=>none)
  | _,_=>none
def whoW (t:Nat):Nat->List Oper->Option Nat
 | _,[]=>none
 | k,o :: os=>match o.dst with
  | some d=>bif Nat.beq d t then some k else whoW t (k+1) os
  | none=>whoW t (k+1) os
def eqV:AV->AV->AV->Option AV
 | .v (.bool c),.v (.bool a),.v (.bool b)=>some (.v (.bool (bif c then a else b)))
 | _,_,_=>none
def getH {D:Bool} {P:Program}:List (Nat×Hint D P)->Nat->Hint D P
 | [],_=>.no
 | (j,h) :: l,i=>bif Nat.beq j i then h else getH l i
def evI {D:Bool} (P:Program) (l:List Oper) (sl0:Nat->Option AV) (fs0:Nat->Option Fact) (nx:Nat) (anc:Nat->Nat->Bool) (cont:Nat->Nat->Bool) (hs:List (Nat×Hint D P)) (done:List RI) (i:Nat) (o:Oper):Option RI :=
 match Quy l (anc i) done o.guard with
 | some keys =>
  (match o.op with
  | .pick (.tmp c) a b=>(match whoW c 0 (l.take i) with
   | some jc=>(match opA (fun t=>Bc (anc i) keys t (sl0 t) 0 l done) (.tmp c),opA (fun t=>Bc (anc i) ((jc,true) :: keys) t (sl0 t) 0 l done) a,opA (fun t=>Bc (anc i) ((jc,false) :: keys) t (sl0 t) 0 l done) b with
    | some x,some y,some z=>(eqV x y z).map fun v=>⟨keys,⟨[],v,[]⟩⟩
    | _,_,_=>none)
   | none=>none)
  | op=>(opEv P (fun id=>bif cont i id then none else Qkf (anc i) keys id (fs0 id) 0 done) (fun t=>Bc (anc i) keys t (sl0 t) 0 l done) (nx+Ur*i) (getH hs i) op).map fun r=>⟨keys,r⟩)
 | none=>none
def runI {D:Bool} (P:Program) (l:List Oper) (sl0:Nat->Option AV) (fs0:Nat->Option Fact) (nx:Nat) (anc:Nat->Nat->Bool) (cont:Nat->Nat->Bool) (hs:List (Nat×Hint D P)):Nat->List Oper->List RI->Option (List RI)
 | _,[],done=>some done
 | i,o :: os,done=>match evI P l sl0 fs0 nx anc cont hs done i o with
  | some ri=>runI P l sl0 fs0 nx anc cont hs (i+1) os (done++[ri])
  | none=>none
def Ml (l:List Oper) (o:Oper):List Tmp:=opTmps o++(match o.guard with | some (j,_)=>((l[j]?).bind (·.dst)).toList | none=>[])
def chkI (l:List Oper) (N:Nat) (anc:Nat->Nat->Bool) (cont:Nat->Nat->Bool) (i:Nat) (o:Oper) (ri:RI):Bool :=
 Ucz N o.dst&&(match o.op with | .select _ _=>false | _=>true)&&(ri.r.sets.all fun p=>!(cont i p.1)) &&
 (l.zipIdx.all fun (ok,k)=>Nat.beq k i || (match ok.dst with
  | none=>true
  | some d=>(match o.dst with | some d'=>!Nat.beq d d' | none=>true)&&(!(Ml l o).any (fun t=>Nat.beq t d) || anc i k || anc k i)))
def Lo (l:List Oper) (N:Nat) (anc:Nat->Nat->Bool) (cont:Nat->Nat->Bool):Nat->List Oper->List RI->Bool
 | i,o :: os,ri :: rs=>chkI l N anc cont i o ri&&Lo l N anc cont (i+1) os rs
 | _,[],[]=>true
 | _,_,_=>false
def Qug (anc:Nat->Nat->Bool) (X:List (List Nat)) (i id:Nat):Bool:=X.zipIdx.any fun (ids,j)=>!(Nat.beq j i)&&!(anc i j)&&!(anc j i)&&ids.any (Nat.beq id)
def Jd (rs:List RI) (ri:RI):Prop:=∀ key∈ri.keys,kap rs key
def fsP (E:Nat->Bool) (id:Nat):Nat->List RI->Option Fact->Option Fact
 | k,ri :: rs,x=>fsP E id (k+1) rs (bif E k then (Yn ri.r.sets id).getD x else x)
 | _,[],x=>x
theorem Qbj (fs:Nat->Option Fact):∀ (l:List (Nat×Option Fact)) (id:Nat),Yc fs l id=(Yn l id).getD (fs id)
 | [],id=>rfl
 | (i,o) :: l,id=>by
  simp only [Yc,Yn]
  rw [Qbj _ l id]
  cases hg:Yn l id with
  | some x=>rfl
  | none =>
   simp only [Option.getD_none,fupd]
   cases Nat.beq i id <;> rfl
theorem Xc:∀ {l:List (Nat×Option Fact)} {id:Nat} {o:Option Fact},Yn l id=some o->∃ p∈l,p.1=id
 | [],id,o,h=>by cases h
 | (i,o') :: l,id,o,h=>by
  simp only [Yn] at h
  cases hg:Yn l id with
  | some x =>
   obtain ⟨p,h1,h2⟩:=Xc hg
   exact ⟨p,Qi _ h1,h2⟩
  | none =>
   rw [hg] at h
   cases hb:Nat.beq i id with
   | false=>rw [hb] at h; cases h
   | true=>exact ⟨_,Ql,Qg hb⟩
theorem Qcr {anc:Nat->Bool} {keys:List (Nat×Bool)} {t:Nat} {init:Option AV} {av:AV}:∀ (os:List Oper) (rs:List RI) (k:Nat),Bc anc keys t init k os rs=some av ->
  (∃ j o ri,os[j]?=some o/\rs[j]?=some ri/\o.dst=some t/\anc (k+j)=true/\Nl ri.keys keys=true/\av=ri.r.av)\/(init=some av/\∀ (j:Nat) (o:Oper) (ri:RI),os[j]?=some o->rs[j]?=some ri->o.dst≠some t)
 | [],rs,k,h=>by cases rs <;> exact .inr ⟨by simpa [Bc] using h,fun j o ri hj=>by simp at hj⟩
 | o :: os,[],k,h=>.inr ⟨by simpa [Bc] using h,fun j o ri _ hj=>by simp at hj⟩
 | o :: os,ri :: rs,k,h=>by
  have rest:o.dst≠some t->Bc anc keys t init (k+1) os rs=some av->(∃ j o' ri',(o :: os)[j]?=some o'/\(ri :: rs)[j]?=some ri'/\o'.dst=some t/\anc (k+j)=true/\Nl ri'.keys keys=true/\av=ri'.r.av)\/(init=some av/\∀ (j:Nat) (o':Oper) (ri':RI),(o :: os)[j]?=some o'->(ri :: rs)[j]?=some ri'->o'.dst≠some t):=fun hne h'=>by
   rcases Qcr os rs (k+1) h' with ⟨j,o',ri',h1,h2,h3,h4,h5,h6⟩ | ⟨h1,h2⟩
   ·exact .inl ⟨j+1,o',ri',by simpa using h1,by simpa using h2,h3,by rw [show k+(j+1)=k+1+j by omega]; exact h4,h5,h6⟩
   ·refine .inr ⟨h1,fun j o' ri' hj hr=>?_⟩
    cases j with
    | zero=>simp only [Ro,Qa] at hj; exact hj ▸ hne
    | succ j=>exact h2 j o' ri' (by simpa using hj) (by simpa using hr)
  simp only [Bc] at h
  cases hd:o.dst with
  | none =>
   rw [hd] at h
   exact rest (by rw [hd]; simp) h
  | some d =>
   rw [hd] at h
   simp only at h
   cases hb:Nat.beq d t with
   | false =>
    rw [hb] at h
    exact rest (by rw [hd]; intro e; simp only [Qa] at e; subst e; simp at hb) h
   | true =>
    rw [hb] at h
    simp only [Qc] at h
    have hdt:=Qg hb
    subst hdt
    cases hc:(anc k&&Nl ri.keys keys) with
    | false=>rw [hc] at h; cases h
    | true =>
     rw [hc] at h
     simp only [Qc,Qa] at h
     simp only [Qo] at hc
     exact .inl ⟨0,o,ri,rfl,rfl,hd,hc.1,hc.2,h.symm⟩
theorem Qxc {t:Nat}:∀ {os:List Oper} {k j:Nat},whoW t k os=some j->∃ i o,j=k+i/\os[i]?=some o/\o.dst=some t
 | [],k,j,h=>by cases h
 | o :: os,k,j,h=>by
  have rest:whoW t (k+1) os=some j->∃ i o',j=k+i/\(o :: os)[i]?=some o'/\o'.dst=some t:=fun h'=>by
   obtain ⟨i,o',h1,h2,h3⟩:=Qxc h'
   exact ⟨i+1,o',by omega,by simpa using h2,h3⟩
  simp only [whoW] at h
  cases hd:o.dst with
  | none=>rw [hd] at h; exact rest h
  | some d =>
   rw [hd] at h
   simp only at h
   cases hb:Nat.beq d t with
   | false=>rw [hb] at h; exact rest h
   | true =>
    rw [hb] at h
    simp only [Qc,Qa] at h
    exact ⟨0,o,by omega,rfl,by rw [hd,Qg hb]⟩
theorem Qkp {rs:List RI} {ks ks':List (Nat×Bool)} (h:Nl ks ks'=true) (hk:∀ k∈ks',kap rs k):∀ k∈ks,kap rs k:=by
 intro k hk1
 have:=Rc.1 h k hk1
 obtain ⟨k',h1,h2⟩:=R5.1 this
 simp only [Qo] at h2
 have e1:=Qg h2.1
 have e2:k.2=k'.2:=by simpa using h2.2
 have:k=k':=Prod.ext e1 e2
 exact this ▸ hk k' h1
section
variable {D:Bool} {P:Program} {l:List Oper} {N:Nat} {sl0:Nat->Option AV} {fs0:Nat->Option Fact} {nx:Nat} {anc:Nat->Nat->Bool} {cont:Nat->Nat->Bool} {hs:List (Nat×Hint D P)} {rs:List RI} {ψ IN:Nat->Prop} {w0:World}
structure Inv2 (P:Program) (l:List Oper) (N:Nat) (sl0:Nat->Option AV) (fs0:Nat->Option Fact) (nx:Nat) (rs:List RI) (ψ IN:Nat->Prop) (w0:World) (S:Nat->Prop) (E:Nat->Bool) (β:Nat->Nat->Value) (φ:Nat->List Nat) (dom:Nat->Prop) (a:Act) (w:World):Prop where
 exec:∀ (k:Nat) (ri:RI),rs[k]?=some ri->(E k=true↔S k/\Jd rs ri)
 size:a.tmps.size=N
 defers:a.defers=[]
 old:∀ t av,sl0 t=some av->(∀ (k:Nat) (o:Oper),l[k]?=some o->S k->o.dst≠some t)->a.tmps[t]?=some (val β av)
 oldwf:∀ t av,sl0 t=some av->av.wf dom
 new:∀ (k:Nat) (o:Oper) (ri:RI) (t:Nat),l[k]?=some o->rs[k]?=some ri->S k->o.dst=some t->Jd rs ri->a.tmps[t]?=some (val β ri.r.av)
 newwf:∀ (k:Nat) (ri:RI),rs[k]?=some ri->S k->Jd rs ri->ri.r.av.wf dom
 skip:∀ (k:Nat) (o:Oper) (ri:RI) (t:Nat),l[k]?=some o->rs[k]?=some ri->S k->o.dst=some t->¬ Jd rs ri->a.tmps[t]?=some undef
 rel:Rel P (fun id=>fsP E id 0 rs (fs0 id)) β φ dom ψ IN w0 w
 bound:∀ id,dom id->id<nx\/∃ k,(S k/\k<l.length)/\nx+Ur*k<=id/\id<nx+Ur*(k+1)
structure Reck {D:Bool} (P:Program) (l:List Oper) (N:Nat) (sl0:Nat->Option AV) (fs0:Nat->Option Fact) (nx:Nat) (anc:Nat->Nat->Bool) (cont:Nat->Nat->Bool) (hs:List (Nat×Hint D P)) (rs:List RI):Prop where
 ev:∀ (i:Nat) (o:Oper),l[i]?=some o->∃ ri,rs[i]?=some ri/\evI P l sl0 fs0 nx anc cont hs (rs.take i) i o=some ri
 chk:∀ (i:Nat) (o:Oper) (ri:RI),l[i]?=some o->rs[i]?=some ri->chkI l N anc cont i o ri=true
 len:rs.length=l.length
 lt:∀ i k,anc i k=true->k<i
 cont:∀ (i j:Nat) (rj:RI) (p:Nat×Option Fact),j≠i->rs[j]?=some rj->p∈rj.r.sets->anc i j=false->anc j i=false->cont i p.1=true
theorem Mf {E:Nat->Bool} {id:Nat}:∀ (rs:List RI) (k:Nat) (x:Option Fact),(∀ (j:Nat) (ri:RI),rs[j]?=some ri->E (k+j)=true->Yn ri.r.sets id=none)->fsP E id k rs x=x
 | [],k,x,_=>rfl
 | ri :: rs,k,x,h=>by
  simp only [fsP]
  have e:(bif E k then (Yn ri.r.sets id).getD x else x)=x:=by
   cases hE:E k with
   | true=>rw [h 0 ri rfl hE]; rfl
   | false=>rfl
  rw [e]
  exact Mf rs (k+1) x fun j rj hj hS=>h (j+1) rj (by simpa using hj) (by rw [show k+(j+1)=k+1+j by omega]; exact hS)
theorem Uhz (H:Reck P l N sl0 fs0 nx anc cont hs rs) {S:Nat->Prop} {E:Nat->Bool} (hE:∀ (k:Nat) (ri:RI),rs[k]?=some ri->(E k=true↔S k/\Jd rs ri)) {i:Nat} (hi:¬ S i) (hS:∀ k,anc i k=true->S k) (hS':∀ k,S k->anc k i=false) {keys:List (Nat×Bool)} (hk:∀ key∈keys,kap rs key) {id:Nat} (hc:cont i id=false) :
  ∀ (rs2:List RI) (k:Nat) (acc x:Option Fact),(∀ j,rs2[j]?=rs[k+j]?)->(∀ f,acc=some f->x=some f)->∀ f,Qkf (anc i) keys id acc k (rs2.take (i-k))=some f->fsP E id k rs2 x=some f:=by
 have hno:∀ (j:Nat) (rj:RI),rs[j]?=some rj->j≠i->anc i j=false->S j->Yn rj.r.sets id=none:=by
  intro j rj hj hne h1 hSj
  cases hg:Yn rj.r.sets id with
  | none=>rfl
  | some o =>
   obtain ⟨p,hp,e⟩:=Xc hg
   have:=H.cont i j rj p hne hj hp h1 (hS' j hSj)
   rw [e,hc] at this
   cases this
 intro rs2
 induction rs2 with
 | nil =>
  intro k acc x hsuf hax f h
  simp only [List.take_nil,Qkf] at h
  exact hax f h
 | cons ri rs3 ih =>
  intro k acc x hsuf hax f h
  have hri:rs[k]?=some ri:=by have:=hsuf 0; simpa using this.symm
  by_cases hki:k<i
  ·obtain ⟨m,hm⟩:∃ m,i-k=m+1:=⟨i-k-1,by omega⟩
   rw [hm,List.take_succ_cons] at h
   simp only [Qkf] at h
   simp only [fsP]
   refine ih (k+1) _ _ (fun j=>by have:=hsuf (j+1); rw [List.getElem?_cons_succ] at this; rw [this]; congr 1; omega) ?_ f (by rw [show i-(k+1)=m by omega]; exact h)
   intro f' hf'
   cases hg:Yn ri.r.sets id with
   | none =>
    rw [hg] at hf'
    simp only [Option.getD_none]
    have e:(bif E k then x else x)=x:=by cases E k <;> rfl
    rw [e]
    exact hax f' hf'
   | some o =>
    rw [hg] at hf'
    simp only at hf'
    cases ha:anc i k with
    | true =>
     rw [ha] at hf'
     simp only [Qc] at hf'
     cases hks:Nl ri.keys keys with
     | false=>rw [hks] at hf'; cases hf'
     | true =>
      rw [hks] at hf'
      simp only [Qc] at hf'
      rw [(hE k ri hri).2 ⟨hS k ha,Qkp hks hk⟩]
      exact hf'
    | false =>
     rw [ha] at hf'
     simp only [Qe] at hf'
     have hnS:E k=false:=by
      cases hEk:E k with
      | false=>rfl
      | true =>
       have:=hno k ri hri uu0 ha ((hE k ri hri).1 hEk).1
       rw [this] at hg; cases hg
     rw [hnS]
     exact hax f' hf'
  ·have hz:i-k=0:=by omega
   rw [hz,Tv] at h
   simp only [Qkf] at h
   rw [Mf (ri :: rs3) k x fun j rj hj hSj=>?_]
   ·exact hax f h
   ·have hrj:rs[k+j]?=some rj:=by rw [<- hsuf j]; exact hj
    have hSj:=((hE _ _ hrj).1 hSj).1
    refine hno (k+j) rj hrj (fun e=>hi (e ▸ hSj)) ?_ hSj
    cases ha:anc i (k+j) with
    | false=>rfl
    | true=>have:=H.lt _ _ ha; omega
theorem Uko (H:Reck P l N sl0 fs0 nx anc cont hs rs) {S:Nat->Prop} {E:Nat->Bool} (hE:∀ (k:Nat) (ri:RI),rs[k]?=some ri->(E k=true↔S k/\Jd rs ri)) {i:Nat} (hi:¬ S i) (hS':∀ k,S k->anc k i=false) {ri:RI} (hri:rs[i]?=some ri) (hcont:∀ p∈ri.r.sets,cont i p.1=false) (id:Nat) (b:Bool) :
  ∀ (rs2:List RI) (k:Nat) (x:Option Fact),k<=i->(∀ j,rs2[j]?=rs[k+j]?)->fsP (fun j=>bif Nat.beq j i then b else E j) id k rs2 x=(bif b then (Yn ri.r.sets id).getD (fsP E id k rs2 x) else fsP E id k rs2 x):=by
 have hEi:E i=false:=by
  cases h:E i with
  | false=>rfl
  | true=>exact absurd ((hE i ri hri).1 h).1 hi
 have hne:∀ k,k≠i->(bif Nat.beq k i then b else E k)=E k:=by
  intro k hk
  have:Nat.beq k i=false:=T1.2 fun h=>hk (Qg h)
  rw [this]; rfl
 have hsame:∀ (rs2:List RI) (k:Nat) (x:Option Fact),i<k->fsP (fun j=>bif Nat.beq j i then b else E j) id k rs2 x=fsP E id k rs2 x:=by
  intro rs2
  induction rs2 with
  | nil=>intro k x _; rfl
  | cons r rs3 ih =>
   intro k x hk
   simp only [fsP]
   rw [ih (k+1) _ uu0,hne k uu0]
 intro rs2
 induction rs2 with
 | nil =>
  intro k x hk hsuf
  have:=hsuf (i-k)
  rw [show k+(i-k)=i by omega,hri] at this
  simp at this
 | cons r rs3 ih =>
  intro k x hk hsuf
  have hr:rs[k]?=some r:=by have:=hsuf 0; simpa using this.symm
  rcases Gm k i with hlt | hge
  ·simp only [fsP]
   rw [hne k uu0]
   exact ih (k+1) _ uu0 fun j=>by have:=hsuf (j+1); rw [List.getElem?_cons_succ] at this; rw [this]; congr 1; omega
  ·obtain rfl:k=i:=by omega
   rw [hri] at hr
   cases hr
   simp only [fsP]
   rw [hsame rs3 (k+1) _ uu0,hEi]
   have hkk:Nat.beq k k=true:=by simp
   simp only [hkk,Qc,Qe]
   cases b with
   | false=>rfl
   | true =>
    simp only [Qc]
    cases hg:Yn ri.r.sets id with
    | none=>rfl
    | some o =>
     simp only [Sd]
     obtain ⟨p,hp,e⟩:=Xc hg
     have hcp:=hcont p hp
     rw [e] at hcp
     refine Mf rs3 (k+1) o fun j rj hj hSj=>?_
     have hrj:rs[k+1+j]?=some rj:=by
      have:=hsuf (j+1)
      rw [show k+(j+1)=k+1+j by omega] at this
      rw [<- this]; simpa using hj
     have hSj:=((hE _ _ hrj).1 hSj).1
     cases hg2:Yn rj.r.sets id with
     | none=>rfl
     | some o2 =>
      obtain ⟨q,hq,e2⟩:=Xc hg2
      have:=H.cont k (k+1+j) rj q uu0 hrj hq (by
       cases ha:anc k (k+1+j) with
       | false=>rfl
       | true=>have:=H.lt _ _ ha; omega) (hS' _ hSj)
      rw [e2,hcp] at this
      cases this
end
section
variable {D:Bool} {P:Program} {l:List Oper} {N:Nat} {sl0:Nat->Option AV} {fs0:Nat->Option Fact} {nx:Nat} {anc:Nat->Nat->Bool} {cont:Nat->Nat->Bool} {hs:List (Nat×Hint D P)} {rs:List RI} {ψ IN:Nat->Prop} {w0:World}
theorem Qwz {i:Nat} {o:Oper} {ri:RI} (h:chkI l N anc cont i o ri=true) :
  Ucz N o.dst=true/\(∀ cs b,o.op≠.select cs b)/\(∀ p∈ri.r.sets,cont i p.1=false) /\
  (∀ (k:Nat) (ok:Oper) (d:Nat),l[k]?=some ok->k≠i->ok.dst=some d->o.dst≠some d/\(d∈Ml l o->anc i k=true\/anc k i=true)):=by
 simp only [chkI,Qo] at h
 obtain ⟨⟨⟨h1,h2⟩,h3⟩,h4⟩:=h
 refine ⟨h1,fun cs b hc=>?_,fun p hp=>?_,fun k ok d hok hne hd=>?_⟩
 ·simp [hc] at h2
 ·have:=Rc.1 h3 p hp
  simpa using this
 ·have hmem:(ok,k)∈l.zipIdx:=by rw [T9]; exact hok
  have:=Rc.1 h4 _ hmem
  have hkb:Nat.beq k i=false:=T1.2 fun h=>hne (Qg h)
  simp only [hkb,Ga,hd,Qo,Ta,Tl] at this
  refine ⟨fun hdo=>?_,fun hmt=>?_⟩
  ·rw [hdo] at this
   have h0:=this.1
   simp at h0
  ·rcases this.2 with (h0 | h0) | h0
   ·have:(Ml l o).any (fun t=>Nat.beq t d)=true:=R5.2 ⟨d,hmt,by simp⟩
    rw [this] at h0; cases h0
   ·exact .inl h0
   ·exact .inr h0
theorem Ufo {a b c:Operand} {d:Option Tmp} {ty:TypeId} {pos:String} {af:Array Edge} {g:Option (Nat×Bool)} {w:World} {ρ:Operand->Value} {cb x y:Bool} (h:ρ c=.bool cb) (h1:cb=true->ρ a=.bool x) (h2:cb=false->ρ b=.bool y) :
  (execOp ρ ⟨d,.pick c a b,ty,pos,af,g⟩).run P w=.ok (.value (.bool (bif cb then x else y))) w:=by
 cases cb with
 | true=>simp [execOp,h,asBool,h1 rfl]
 | false=>simp [execOp,h,asBool,h2 rfl]
theorem Inv2.step (hD:D=false->w0.drawn=0) (H:Reck P l N sl0 fs0 nx anc cont hs rs) (hvc:∀ (i:Nat) (ri:RI),rs[i]?=some ri->Jd rs ri->AllP ri.r.vcs) {Q:Exit->Act->World->Prop} {S:Nat->Prop} {E:Nat->Bool} {β:Nat->Nat->Value} {φ:Nat->List Nat} {dom:Nat->Prop} {a:Act} {w:World}
  (V:Inv2 P l N sl0 fs0 nx rs ψ IN w0 S E β φ dom a w) {i:Nat} {o:Oper} (ho:l[i]?=some o) (hi:¬ S i) (hS:∀ k,anc i k=true->S k) (hS':∀ k,S k->anc k i=false) :
  wpOp P l.toArray Q i (fun a' w'=>∃ E' β' φ' dom',Inv2 P l N sl0 fs0 nx rs ψ IN w0 (fun k=>S k\/k=i) E' β' φ' dom' a' w') a w:=by
 obtain ⟨ri,hri,hev⟩:=H.ev i o ho
 obtain ⟨c1,c2,c3,c4⟩:=Qwz (H.chk i o ri ho hri)
 have hil:i<l.length:=(Qr.1 ho).1
 have hpre:∀ (j:Nat) (rj:RI),(rs.take i)[j]?=some rj↔j<i/\rs[j]?=some rj:=by
  intro j rj
  rw [Rd]
  by_cases h:j<i
  ·simp [h]
  ·simp [h]
 have hslot:∀ (keys:List (Nat×Bool)) (t:Nat) (av:AV),(∀ key∈keys,kap rs key)->Bc (anc i) keys t (sl0 t) 0 l (rs.take i)=some av->av.wf dom/\(t∈Ml l o->a.tmps[t]?=some (val β av)) /\
   (∀ (jc:Nat) (ojc:Oper),jc<i->l[jc]?=some ojc->ojc.dst=some t->∃ rj,rs[jc]?=some rj/\av=rj.r.av):=by
  intro keys t av hk h
  rcases Qcr l _ 0 h with ⟨j,oj,rj,h1,h2,h3,h4,h5,rfl⟩ | ⟨h1,h2⟩
  ·rw [Rs] at h4
   obtain ⟨hji,h2⟩:=(hpre j rj).1 h2
   have hSj:=hS j h4
   have hcj:Jd rs rj:=Qkp h5 hk
   refine ⟨V.newwf j rj h2 hSj hcj,fun _=>V.new j oj rj t h1 h2 hSj h3 hcj,fun jc ojc hjc hojc hd=>?_⟩
   by_cases hjj:jc=j
   ·subst hjj; exact ⟨rj,h2,rfl⟩
   ·exfalso
    obtain ⟨rjc,hrjc,_⟩:=H.ev jc ojc hojc
    exact ((Qwz (H.chk jc ojc rjc hojc hrjc)).2.2.2 j oj t h1 (Ne.symm hjj) h3).1 hd
  ·have hnw:∀ (k:Nat) (ok:Oper),k<i->l[k]?=some ok->ok.dst≠some t:=by
    intro k ok hki hok
    obtain ⟨rk,hrk,_⟩:=H.ev k ok hok
    exact h2 k ok rk hok ((hpre k rk).2 ⟨hki,hrk⟩)
   refine ⟨V.oldwf t av h1,fun hmt=>V.old t av h1 fun k ok hok hSk hd=>?_,fun jc ojc hjc hojc hd=>absurd hd (hnw jc ojc hjc hojc)⟩
   by_cases hki:k=i
   ·subst hki; exact hi hSk
   ·rcases (c4 k ok t hok hki hd).2 hmt with h3 | h3
    ·exact hnw k ok (H.lt i k h3) hok hd
    ·rw [hS' k hSk] at h3; cases h3
 have hget:(l.toArray)[i]?=some o:=by simpa using ho
 have hguard:∃ keys,Quy l (anc i) (rs.take i) o.guard=some keys/\ri.keys=keys:=by
  unfold evI at hev
  split at hev
  ·rename_i keys hg
   refine ⟨keys,hg,?_⟩
   split at hev
   ·split at hev
    ·split at hev
     ·obtain ⟨v,_,rfl⟩:=Re.1 hev; rfl
     ·cases hev
    ·cases hev
   ·obtain ⟨v,_,rfl⟩:=Re.1 hev; rfl
  ·cases hev
 obtain ⟨keys,hg,hkeys⟩:=hguard
 have hwant:Region.wanted o (yielded l.toArray a.tmps)=true↔Jd rs ri:=by
  unfold Region.wanted Jd
  rw [hkeys]
  cases hgd:o.guard with
  | none =>
   rw [hgd] at hg
   simp only [Quy,Qa] at hg
   subst hg
   simp
  | some g =>
   obtain ⟨j,want⟩:=g
   rw [hgd] at hg
   simp only [Quy] at hg
   split at hg
   ·rename_i rj d hrj hd
    split at hg
    ·rename_i b hb
     cases ha:anc i j with
     | false=>rw [ha] at hg; cases hg
     | true =>
      rw [ha] at hg
      simp only [Qc,Qa] at hg
      subst hg
      obtain ⟨hji,hrj⟩:=(hpre j rj).1 hrj
      obtain ⟨oj,hoj,hdj⟩:=Qj.1 hd
      have hSj:=hS j ha
      have hkap:kap rs (j,want)↔b=want:=by simp only [kap,hrj,hb]
      have hopsl:(l.toArray)[j]?=some oj:=by simpa using hoj
      by_cases hcj:Jd rs rj
      ·have hat:=V.new j oj rj d hoj hrj hSj hdj hcj
       rw [hb] at hat
       have hy:yielded l.toArray a.tmps j=some b:=by simp [yielded,hopsl,hdj,hat,val]
       simp only [hy,Qu,forall_eq_or_imp,hkap]
       constructor
       ·intro h
        exact ⟨by simpa using h,hcj⟩
       ·intro h
        simpa using h.1
      ·have hat:=V.skip j oj rj d hoj hrj hSj hdj hcj
       have hy:yielded l.toArray a.tmps j=none:=by simp [yielded,hopsl,hdj,hat,undef]
       simp only [hy,Qu,forall_eq_or_imp]
       constructor
       ·intro h; cases h
       ·intro h; exact absurd h.2 hcj
    ·cases hg
   ·cases hg
 have hputne:∀ (t:Nat) (v:Value),o.dst≠some t->(a.put o.dst v).tmps[t]?=a.tmps[t]?:=by
  intro t v hne
  cases hd:o.dst with
  | none=>rfl
  | some d =>
   have:d≠t:=fun e=>hne (by rw [hd,e])
   simp only [Act.put]
   rw [Sh this]
 have hputeq:∀ (t:Nat) (v:Value),o.dst=some t->(a.put o.dst v).tmps[t]?=some v:=by
  intro t v he
  rw [he]
  have hlt:t<N:=by have:=c1; rw [he] at this; simpa [Ucz] using this
  simp [Act.put,V.size,hlt]
 have hputsz:∀ v,(a.put o.dst v).tmps.size=N/\(a.put o.dst v).defers=[]:=by
  intro v
  cases o.dst <;> simp [Act.put,V.size,V.defers]
 have huniq:∀ (k:Nat) (ok:Oper) (t:Nat),l[k]?=some ok->S k->ok.dst=some t->o.dst≠some t:=fun k ok t hok hSk hd=>(c4 k ok t hok (fun e=>hi (e ▸ hSk)) hd).1
 have hadd:=fun (b:Bool) (id:Nat)=>Uko (nx:=nx) (sl0:=sl0) (fs0:=fs0) (hs:=hs) H V.exec hi hS' hri c3 id b rs 0 (fs0 id) (Qy _) (fun j=>by rw [Rs])
 have hexec:∀ b:Bool,(b=true↔Jd rs ri)->∀ (k:Nat) (rk:RI),rs[k]?=some rk->((bif Nat.beq k i then b else E k)=true↔(S k\/k=i)/\Jd rs rk):=by
  intro b hb k rk hrk
  by_cases hki:k=i
  ·subst hki
   rw [hri] at hrk; cases hrk
   simp [hb]
  ·have hkb:Nat.beq k i=false:=T1.2 fun h=>hki (Qg h)
   rw [hkb,Qe,V.exec k rk hrk]
   simp [hki]
 unfold wpOp
 simp only [hget]
 by_cases hc:Jd rs ri
 ·rw [if_pos (hwant.2 hc)]
  left
  unfold Oper.wp
  have hkk:∀ key∈keys,kap rs key:=hkeys ▸ hc
  have hvs:=hvc i ri hri hc
  have hout:Snd P (fun id=>fsP E id 0 rs (fs0 id)) (nx+Ur*i) ri.r β φ dom ψ IN w0 ((execOp a.eval o).run P w):=by
   unfold evI at hev
   rw [hg] at hev
   simp only at hev
   split at hev
   ·
    rename_i c x y hop
    split at hev
    ·rename_i jc hjc
     split at hev
     ·rename_i vc vx vy h1 h2 h3
      obtain ⟨v,h4,rfl⟩:=Re.1 hev
      obtain ⟨jj,ojc,hj1,hj2,hj3⟩:=Qxc hjc
      rw [Rs] at hj1
      subst hj1
      rw [Rd] at hj2
      have hjci:jc<i:=by
       rcases Gm jc i with h | h
       ·exact h
       ·rw [if_neg uu0] at hj2; cases hj2
      rw [if_pos hjci] at hj2
      obtain ⟨dst,op,type,pos,after,guard⟩:=o
      simp only at hop
      subst hop
      have hrd:∀ z:Operand,z∈[Operand.tmp c,x,y]->∀ t,z=.tmp t->t∈Ml l ⟨dst,.pick (.tmp c) x y,type,pos,after,guard⟩:=by
       intro z hz t ht
       subst ht
       refine Qx _ (List.mem_filterMap.2 ⟨.tmp t,?_,rfl⟩)
       simpa [Op.operands] using hz
      have hev1:∀ (ks:List (Nat×Bool)) (z:Operand) (av:AV),z∈[Operand.tmp c,x,y]->(∀ key∈ks,kap rs key)->opA (fun t=>Bc (anc i) ks t (sl0 t) 0 l (rs.take i)) z=some av->a.eval z=val β av:=by
       intro ks z av hz hks hza
       cases z with
       | tmp t =>
        have:=(hslot ks t av hks hza).2.1 (hrd _ hz t rfl)
        simp [Act.eval,this]
       | const v=>simp only [opA,Qa] at hza; subst hza; rfl
       | func f=>simp only [opA,Qa] at hza; subst hza; rfl
       | global g=>simp [opA] at hza
      unfold eqV at h4
      split at h4
      ·rename_i cb xb yb
       simp only [Qa] at h4
       subst h4
       obtain ⟨rj,hrj,hrja⟩:=(hslot keys c _ hkk h1).2.2 jc ojc hjci hj2 hj3
       have hkap:∀ want,kap rs (jc,want)↔cb=want:=by
        intro want
        simp only [kap,hrj,<- hrja]
       refine Snd.pure V.rel trivial ?_
       refine Ufo (hev1 keys _ _ (by simp) hkk h1) (fun hcb=>hev1 ((jc,true) :: keys) _ _ (by simp) ?_ h2) (fun hcb=>hev1 ((jc,false) :: keys) _ _ (by simp) ?_ h3)
       ·intro key hkey
        rcases Qu.1 hkey with rfl | hkey
        ·exact (hkap true).2 hcb
        ·exact hkk key hkey
       ·intro key hkey
        rcases Qu.1 hkey with rfl | hkey
        ·exact (hkap false).2 hcb
        ·exact hkk key hkey
      ·cases h4
     ·cases hev
    ·cases hev
   ·obtain ⟨r,h1,rfl⟩:=Re.1 hev
    classical
    let sl:=fun t=>Bc (anc i) keys t (sl0 t) 0 l (rs.take i)
    let ρ:Operand->Value:=fun x=>if x∈o.op.operands then a.eval x else (match opA sl x with | some av=>val β av | none=>undef)
    have hρ:execOp a.eval o=execOp ρ o:=execOp_congr o c2 fun x hx=>by simp [ρ,hx]
    rw [hρ]
    have hSl:SlOK sl β dom ρ:=by
     intro x av hx
     have hwf:av.wf dom:=by
      cases x with
      | tmp t=>exact (hslot keys t av hkk hx).1
      | const v=>simp only [opA,Qa] at hx; subst hx; trivial
      | func f=>simp only [opA,Qa] at hx; subst hx; trivial
      | global g=>simp [opA] at hx
     refine ⟨?_,hwf⟩
     by_cases hxo:x∈o.op.operands
     ·simp only [ρ,if_pos hxo]
      cases x with
      | tmp t =>
       have hmt:t∈Ml l o:=Qx _ (List.mem_filterMap.2 ⟨.tmp t,by simpa using hxo,rfl⟩)
       have:=(hslot keys t av hkk hx).2.1 hmt
       simp [Act.eval,this]
      | const v=>simp only [opA,Qa] at hx; subst hx; rfl
      | func f=>simp only [opA,Qa] at hx; subst hx; rfl
      | global g=>simp [opA] at hx
     ·simp only [ρ,if_neg hxo,hx]
    refine Unb hD V.rel (fun id h2 h3 hd=>?_) (fun id f hf=>?_) hSl h1 hvs
    ·rcases V.bound id hd with h4 | ⟨k,⟨hSk,_⟩,h5,h6⟩
     ·unfold Ur at *; omega
     ·have hki:k≠i:=fun e=>hi (e ▸ hSk)
      unfold Ur at *
      omega
    ·cases hcn:cont i id with
     | true=>rw [hcn] at hf; cases hf
     | false =>
      rw [hcn] at hf
      exact Uhz H V.exec hi hS hS' hkk hcn rs 0 _ _ (fun j=>by rw [Rs]) (fun f h=>h) f (by rw [Nat.sub_zero]; exact hf)
  refine Out.upon hout fun v w' ⟨β',φ',dom',e1,e2,e3,e4,R'⟩=>?_
  refine ⟨fun k=>bif Nat.beq k i then true else E k,β',φ',dom',?_⟩
  have hvc':∀ (av:AV),av.wf dom->val β' av=val β av:=fun av h=>Vq (fun id hid=>(e3 id hid).2) av h
  refine ⟨hexec true (by simp [hc]),(hputsz v).1,(hputsz v).2,fun t av hs hn=>?_,fun t av hs=>AV.wf_mono (fun id h=>(e3 id h).1) _ (V.oldwf t av hs),fun k ok rk t hok hrk hSk hd hck=>?_,fun k rk hrk hSk hck=>?_,fun k ok rk t hok hrk hSk hd hck=>?_,?_,fun id hid=>?_⟩
  ·rw [hputne t v (hn i o ho (.inr rfl)),hvc' av (V.oldwf t av hs)]
   exact V.old t av hs fun k ok hok hSk=>hn k ok hok (.inl hSk)
  ·rcases hSk with hSk | rfl
   ·rw [hputne t v (huniq k ok t hok hSk hd),hvc' _ (V.newwf k rk hrk hSk hck)]
    exact V.new k ok rk t hok hrk hSk hd hck
   ·rw [ho] at hok; cases hok
    rw [hri] at hrk; cases hrk
    rw [hputeq t v hd,e1]
  ·rcases hSk with hSk | rfl
   ·exact AV.wf_mono (fun id h=>(e3 id h).1) _ (V.newwf k rk hrk hSk hck)
   ·rw [hri] at hrk; cases hrk
    exact e2
  ·rcases hSk with hSk | rfl
   ·rw [hputne t v (huniq k ok t hok hSk hd)]
    exact V.skip k ok rk t hok hrk hSk hd hck
   ·rw [hri] at hrk; cases hrk
    exact absurd hc hck
  ·have e:(fun id=>fsP (fun k=>bif Nat.beq k i then true else E k) id 0 rs (fs0 id))=Yc (fun id=>fsP E id 0 rs (fs0 id)) ri.r.sets:=by
    funext id
    rw [hadd true id,Qbj]
    rfl
   rw [e]
   exact R'
  ·rcases e4 id hid with h | ⟨h1,h2⟩
   ·rcases V.bound id h with h | ⟨k,h1,h2⟩
    ·exact .inl h
    ·exact .inr ⟨k,⟨.inl h1.1,h1.2⟩,h2⟩
   ·exact .inr ⟨i,⟨.inr rfl,hil⟩,h1,by unfold Ur at *; omega⟩
 ·rw [if_neg fun h=>hc (hwant.1 h)]
  refine ⟨fun k=>bif Nat.beq k i then false else E k,β,φ,dom,?_⟩
  refine ⟨hexec false (by simp [hc]),(hputsz undef).1,(hputsz undef).2,fun t av hs hn=>?_,V.oldwf,fun k ok rk t hok hrk hSk hd hck=>?_,fun k rk hrk hSk hck=>?_,fun k ok rk t hok hrk hSk hd hck=>?_,?_,fun id hid=>?_⟩
  ·rw [hputne t _ (hn i o ho (.inr rfl))]
   exact V.old t av hs fun k ok hok hSk=>hn k ok hok (.inl hSk)
  ·rcases hSk with hSk | rfl
   ·rw [hputne t _ (huniq k ok t hok hSk hd)]
    exact V.new k ok rk t hok hrk hSk hd hck
   ·rw [hri] at hrk; cases hrk
    exact absurd hck hc
  ·rcases hSk with hSk | rfl
   ·exact V.newwf k rk hrk hSk hck
   ·rw [hri] at hrk; cases hrk
    exact absurd hck hc
  ·rcases hSk with hSk | rfl
   ·rw [hputne t _ (huniq k ok t hok hSk hd)]
    exact V.skip k ok rk t hok hrk hSk hd hck
   ·rw [ho] at hok; cases hok
    exact hputeq t _ hd
  ·have e:(fun id=>fsP (fun k=>bif Nat.beq k i then false else E k) id 0 rs (fs0 id))=fun id=>fsP E id 0 rs (fs0 id):=by
    funext id
    rw [hadd false id]
    rfl
   rw [e]
   exact V.rel
  ·rcases V.bound id hid with h | ⟨k,h1,h2⟩
   ·exact .inl h
   ·exact .inr ⟨k,⟨.inl h1.1,h1.2⟩,h2⟩
structure St:Type 1 where
 sl:List (Nat×Option AV)
 fs:List (Nat×Option Fact)
 nx:Nat
def slG:List (Nat×Option AV)->Nat->Option AV
 | [],_=>none
 | (k,v) :: r,t=>bif Nat.beq k t then v else slG r t
def fsG:List (Nat×Option Fact)->Nat->Option Fact
 | [],_=>none
 | (k,v) :: r,t=>bif Nat.beq k t then v else fsG r t
structure StOK (P:Program) (N:Nat) (ψ IN:Nat->Prop) (w0:World) (s:St) (a:Act) (w:World) (β:Nat->Nat->Value) (φ:Nat->List Nat) (dom:Nat->Prop):Prop where
 size:a.tmps.size=N
 defers:a.defers=[]
 has:∀ t av,slG s.sl t=some av->a.tmps[t]?=some (val β av)/\av.wf dom
 rel:Rel P (fsG s.fs) β φ dom ψ IN w0 w
 bound:∀ id,dom id->id<s.nx
def Zw (P:Program) (N:Nat) (ψ IN:Nat->Prop) (w0:World) (s:St) (a:Act) (w:World):Prop:=∃ β φ dom,StOK P N ψ IN w0 s a w β φ dom
def ancT (i k:Nat):Bool:=Nat.blt k i
def ancD (ms:List Nat) (i k:Nat):Bool:=Nat.blt k i&&(ms.getD i 0).testBit k
def keepA (ks:List (Nat×Bool)) (x:AV):Option AV:=match ks with
 | []=>some x
 | _=>none
def Qgd (sl:List (Nat×Option AV)):List Oper->List RI->List (Nat×Option AV)
 | o :: os,ri :: rs=>match o.dst with
  | some d=>Qgd ((d,keepA ri.keys ri.r.av) :: sl) os rs
  | none=>Qgd sl os rs
 | _,_=>sl
def mrgV (b:Bool):Value->Value->Option Value
 | .int k x,.int k' x'=>if k=k' then some (.int k (bif b then x' else x)) else none
 | .bool x,.bool x'=>some (.bool (bif b then x' else x))
 | _,_=>none
def mrgA (b:Bool):AV->AV->Option AV
 | .v x,.v y=>(mrgV b x y).map .v
 | .h g i,.h g' i'=>bif Nat.beq g g'&&Nat.beq i i' then some (.h g i) else none
 | _,_=>none
def mrgL (b:Bool):List AV->List AV->Option (List AV)
 | [],[]=>some []
 | a :: as',c :: cs=>match mrgA b a c,mrgL b as' cs with | some x,some xs=>some (x :: xs) | _,_=>none
 | _,_=>none
def mrgF (b:Bool):Option Fact->Option Fact->Option Fact
 | some (.box T cs),some (.box T' cs')=>bif Nat.beq T T' then (mrgL b cs cs').map (.box T) else none
 | _,_=>none
def keyB (rs0:List RI):List (Nat×Bool)->Option Bool
 | [(j,w)]=>match rs0[j]? with
  | some rj=>(match rj.keys,rj.r.av with
   | [],.v (.bool b)=>some (bif w then b else !b)
   | _,_=>none)
  | none=>none
 | _=>none
def mrgS (rs0:List RI) (fs:List (Nat×Option Fact)) (ks:List (Nat×Bool)) (p:Nat×Option Fact):Option Fact:=match ks with
 | []=>p.2
 | _=>match keyB rs0 ks with
  | some b=>mrgF b (fsG fs p.1) p.2
  | none=>none
def Qiz (rs0:List RI) (fs:List (Nat×Option Fact)):List RI->List (Nat×Option Fact)
 | []=>fs
 | ri :: rs=>Qiz rs0 ((ri.r.sets.map fun p=>(p.1,mrgS rs0 fs ri.keys p)).reverse++fs) rs
def Ey (rs:List RI):List (List Nat):=rs.map fun ri=>ri.r.sets.map (·.1)
def Qbu:List (List Nat)->List (List Nat)->Bool
 | [],_=>true
 | a :: azz,b :: bs=>(a.all fun i=>b.any (Nat.beq i))&&Qbu azz bs
 | _ :: _,[]=>false
def backB (l:List Oper):Bool:=l.zipIdx.all fun (o,i)=>o.after.toList.all fun e=>!Region.binds .any e || Nat.blt e.on i
def Qpy (rs:List RI):List RI->List Prop
 | []=>[]
 | ri :: r=>(ri.r.vcs.map (Qtj (ri.keys.map (kap rs))))++Qpy rs r
def Ph {D:Bool} (P:Program) (N:Nat) (s:St) (l:List Oper) (draw:Bool) (hs:List (Nat×Hint D P)):Option (List Prop×St) :=
 match draw with
 | false=>(match runI P l (slG s.sl) (fsG s.fs) s.nx ancT (fun _ _=>false) hs 0 l [] with
  | some rs=>bif Lo l N ancT (fun _ _=>false) 0 l rs then some (Qpy rs rs,⟨Qgd s.sl l rs,Qiz rs s.fs rs,s.nx+Ur*l.length⟩) else none
  | none=>none)
 | true=>(match runI P l (slG s.sl) (fsG s.fs) s.nx ancT (fun _ _=>false) hs 0 l [] with
  | some rs1=>(match runI P l (slG s.sl) (fsG s.fs) s.nx (ancD (msks l [])) (Qug (ancD (msks l [])) (Ey rs1)) hs 0 l [] with
   | some rs=>bif backB l&&Qbu (Ey rs) (Ey rs1)&&Lo l N (ancD (msks l [])) (Qug (ancD (msks l [])) (Ey rs1)) 0 l rs then some (Qpy rs rs,⟨Qgd s.sl l rs,Qiz rs s.fs rs,s.nx+Ur*l.length⟩) else none
   | none=>none)
  | none=>none)
end
section
variable {D:Bool} {P:Program} {fs fs':Nat->Option Fact} {β:Nat->Nat->Value} {φ:Nat->List Nat} {dom ψ IN:Nat->Prop} {w0 w w':World}
theorem Rel.sub (R:Rel P fs β φ dom ψ IN w0 w) (h:∀ id f,fs' id=some f->fs id=some f):Rel P fs' β φ dom ψ IN w0 w:=by
 refine ⟨fun id f hf=>?_,fun i j f g hi hj=>R.dis i j f g (h _ _ hi) (h _ _ hj),fun id f hf=>R.lt id f (h _ _ hf),R.psi,R.all1,R.chg,R.glo⟩
 obtain ⟨h1,h2⟩:=R.ok id f (h _ _ hf)
 refine ⟨h1,?_⟩
 have hl:∀ X V,Live fs' X V->Live fs X V:=fun X V ⟨d,hd⟩=>⟨d,h _ _ hd⟩
 cases f with
 | shr dep d =>
  cases dep with
  | none=>exact h2
  | some XV=>exact ⟨h2.1,h2.2.1,fun k=>h2.2.2 (hl _ _ k)⟩
 | mem dep el ds =>
  cases dep with
  | none=>exact h2
  | some XV=>exact ⟨h2.1,h2.2.1,fun k=>h2.2.2 (hl _ _ k)⟩
 | part X V lo sz d=>exact ⟨h2.1,h2.2.1,fun k=>h2.2.2 (hl _ _ k)⟩
 | _=>exact h2
theorem Rel.same (R:Rel P fs β φ dom ψ IN w0 w) (hc:Bel w.heap.size w w'):Rel P fs β φ dom ψ IN w0 w' :=
 R.step (NN:=fun _=>False) (C:=fun _=>False) (Chg.of_below hc) (fun _ h=>⟨h,rfl⟩) R.all1 (fun _ _ h=>.inr h) (fun _ _=>rfl) (fun _ _ h=>h.elim) (fun _ _ h=>h.elim) (fun _ _ _ h=>h.elim) (fun _ _ h=>h.elim) (fun _ _ _ _ h=>h.elim)
end
section
variable {D:Bool} {P:Program} {l:List Oper} {N:Nat} {sl0:Nat->Option AV} {fs0:Nat->Option Fact} {nx:Nat} {anc:Nat->Nat->Bool} {cont:Nat->Nat->Bool} {hs:List (Nat×Hint D P)} {rs:List RI} {ψ IN:Nat->Prop} {w0:World}
theorem Qdp:∀ (os:List Oper) (i:Nat) (done:List RI),runI P l sl0 fs0 nx anc cont hs i os done=some rs->done.length=i ->
  rs.length=i+os.length/\rs.take i=done/\∀ (j:Nat) (o:Oper),os[j]?=some o->∃ ri,rs[i+j]?=some ri/\evI P l sl0 fs0 nx anc cont hs (rs.take (i+j)) (i+j) o=some ri
 | [],i,done,h,hd=>by
  simp only [runI,Qa] at h
  subst h
  exact ⟨by simpa using hd,by rw [<- hd]; exact List.take_length,fun j o hj=>by simp at hj⟩
 | o :: os,i,done,h,hd=>by
  simp only [runI] at h
  split at h
  ·rename_i ri hri
   obtain ⟨h1,h2,h3⟩:=Qdp os (i+1) (done++[ri]) h (by simp [hd])
   have ht:rs.take i=done:=by
    have:=Qt (List.take i) h2
    rw [Ge,Td uu0] at this
    rw [this,Sg uu0,Sb uu0]
   have hri2:rs[i]?=some ri:=by
    have:=Qt (fun x:List RI=>x[i]?) h2
    simp only [Rd,Qn,Sx] at this
    rw [this,Rl uu0,hd,Gl]
    rfl
   refine ⟨by rw [h1,Q4]; omega,ht,fun j o' hj=>?_⟩
   cases j with
   | zero =>
    simp only [Ro,Qa] at hj
    subst hj
    exact ⟨ri,hri2,by rw [To,ht]; exact hri⟩
   | succ j =>
    obtain ⟨rj,g1,g2⟩:=h3 j o' (by simpa using hj)
    rw [show i+1+j=i+(j+1) by omega] at g1 g2
    exact ⟨rj,g1,g2⟩
  ·cases h
theorem Lu:∀ (os:List Oper) (rs:List RI) (i:Nat),Lo l N anc cont i os rs=true->∀ (j:Nat) (o:Oper) (ri:RI),os[j]?=some o->rs[j]?=some ri->chkI l N anc cont (i+j) o ri=true
 | [],rs,i,h,j,o,ri,hj,_=>by simp at hj
 | o :: os,[],i,h,j,o',ri,_,hj=>by simp at hj
 | o :: os,ri :: rs,i,h,j,o',ri',hj,hr=>by
  simp only [Lo,Qo] at h
  cases j with
  | zero =>
   simp only [Ro,Qa] at hj hr
   subst hj; subst hr
   exact h.1
  | succ j =>
   have:=Lu os rs (i+1) h.2 j o' ri' (by simpa using hj) (by simpa using hr)
   rw [show i+(j+1)=i+1+j by omega]
   exact this
theorem Qkg:∀ {cs:List Prop} {p:Prop},Qtj cs p->(∀ c∈cs,c)->p
 | [],p,h,_=>h
 | c :: cs,p,h,hc=>Qkg (h (hc c Ql)) fun c' h'=>hc c' (Qi _ h')
theorem Qpm {f:Prop->Prop}:∀ {ps:List Prop},AllP (ps.map f)->(∀ p,f p->p)->AllP ps
 | [],_,_=>trivial
 | p :: ps,h,hf=>⟨hf p h.1,Qpm h.2 hf⟩
theorem Uhp:∀ (r:List RI),AllP (Qpy rs r)->∀ (i:Nat) (ri:RI),r[i]?=some ri->Jd rs ri->AllP ri.r.vcs
 | [],_,i,ri,hi,_=>by simp at hi
 | r0 :: r,h,i,ri,hi,hc=>by
  obtain ⟨h1,h2⟩:=AllP.app h
  cases i with
  | zero =>
   simp only [Ro,Qa] at hi
   subst hi
   refine Qpm h1 fun p hp=>Qkg hp fun c hcm=>?_
   obtain ⟨key,hk,rfl⟩:=Si.1 hcm
   exact hc key hk
  | succ i=>exact Uhp r h2 i ri (by simpa using hi) hc
theorem Hv {t:Nat} {av:AV}:∀ (os:List Oper) (rs:List RI) (sl:List (Nat×Option AV)),os.length=rs.length->slG (Qgd sl os rs) t=some av ->
  (∃ (k:Nat) (o:Oper) (ri:RI),os[k]?=some o/\rs[k]?=some ri/\o.dst=some t/\ri.keys=[]/\av=ri.r.av)\/(slG sl t=some av/\∀ (k:Nat) (o:Oper),os[k]?=some o->o.dst≠some t)
 | [],[],sl,_,h=>.inr ⟨h,fun k o hk=>by simp at hk⟩
 | [],_ :: _,sl,hl,_=>by simp at hl
 | _ :: _,[],sl,hl,_=>by simp at hl
 | o :: os,ri :: rs,sl,hl,h=>by
  have lift:(∃ (k:Nat) (o':Oper) (ri':RI),os[k]?=some o'/\rs[k]?=some ri'/\o'.dst=some t/\ri'.keys=[]/\av=ri'.r.av)->∃ (k:Nat) (o':Oper) (ri':RI),(o :: os)[k]?=some o'/\(ri :: rs)[k]?=some ri'/\o'.dst=some t/\ri'.keys=[]/\av=ri'.r.av :=
   fun ⟨k,o',ri',h1,h2,h3⟩=>⟨k+1,o',ri',by simpa using h1,by simpa using h2,h3⟩
  have hall:o.dst≠some t->(∀ (k:Nat) (o':Oper),os[k]?=some o'->o'.dst≠some t)->∀ (k:Nat) (o':Oper),(o :: os)[k]?=some o'->o'.dst≠some t:=by
   intro hne ha k o' hk
   cases k with
   | zero=>simp only [Ro,Qa] at hk; exact hk ▸ hne
   | succ k=>exact ha k o' (by simpa using hk)
  simp only [Qgd] at h
  cases hd:o.dst with
  | none =>
   rw [hd] at h
   rcases Hv os rs sl (by simpa using hl) h with h1 | ⟨h1,h2⟩
   ·exact .inl (lift h1)
   ·exact .inr ⟨h1,hall (by rw [hd]; simp) h2⟩
  | some d =>
   rw [hd] at h
   rcases Hv os rs _ (by simpa using hl) h with h1 | ⟨h1,h2⟩
   ·exact .inl (lift h1)
   ·simp only [slG] at h1
    cases hb:Nat.beq d t with
    | false =>
     rw [hb] at h1
     exact .inr ⟨h1,hall (by rw [hd]; intro e; simp only [Qa] at e; subst e; simp at hb) h2⟩
    | true =>
     rw [hb] at h1
     simp only [Qc] at h1
     have hdt:=Qg hb
     cases hk:ri.keys with
     | nil =>
      rw [hk] at h1
      simp only [keepA,Qa] at h1
      exact .inl ⟨0,o,ri,rfl,rfl,by rw [hd,hdt],hk,h1.symm⟩
     | cons x xs=>rw [hk] at h1; cases h1
theorem Qlj (g:Nat×Option Fact->Option Fact) (fs:List (Nat×Option Fact)) (id:Nat):∀ (sets:List (Nat×Option Fact)),fsG ((sets.map fun p=>(p.1,g p)).reverse++fs) id=(match Yn sets id with | some o=>g (id,o) | none=>fsG fs id)
 | []=>rfl
 | (i,o) :: sets=>by
  simp only [Rb,List.reverse_cons,Q1,List.singleton_append]
  rw [Qlj g ((i,g (i,o)) :: fs) id sets]
  simp only [Yn]
  cases Yn sets id with
  | some x=>rfl
  | none =>
   simp only [fsG]
   cases hb:Nat.beq i id with
   | true =>
    have:=Qg hb
    subst this
    rfl
   | false=>rfl
theorem Uiw {b:Bool} {x y v:Value} (h:mrgV b x y=some v):v=bif b then y else x:=by
 unfold mrgV at h
 split at h
 ·split at h
  ·rename_i hk
   subst hk
   simp only [Qa] at h
   subst h
   cases b <;> rfl
  ·cases h
 ·simp only [Qa] at h
  subst h
  cases b <;> rfl
 ·cases h
theorem Uiy {b:Bool} {x y v:AV} (h:mrgA b x y=some v):v=bif b then y else x:=by
 unfold mrgA at h
 split at h
 ·obtain ⟨v,h1,rfl⟩:=Re.1 h
  rw [Uiw h1]
  cases b <;> rfl
 ·rename_i g i g' i'
  cases hb:(Nat.beq g g'&&Nat.beq i i') with
  | false=>rw [hb] at h; cases h
  | true =>
   rw [hb] at h
   simp only [Qo] at hb
   have e1:=Qg hb.1
   have e2:=Qg hb.2
   subst e1; subst e2
   simp only [Qc,Qa] at h
   rw [<- h]
   cases b <;> rfl
 ·cases h
theorem Qwp {b:Bool}:∀ {xs ys vs:List AV},mrgL b xs ys=some vs->vs=bif b then ys else xs
 | [],[],vs,h=>by
  simp only [mrgL,Qa] at h
  rw [<- h]; cases b <;> rfl
 | a :: xs,c :: ys,vs,h=>by
  simp only [mrgL] at h
  split at h
  ·rename_i x v h1 h2
   simp only [Qa] at h
   rw [<- h,Uiy h1,Qwp h2]
   cases b <;> rfl
  ·cases h
 | [],_ :: _,vs,h=>by simp [mrgL] at h
 | _ :: _,[],vs,h=>by simp [mrgL] at h
theorem Ukv {b:Bool} {x y:Option Fact} {f:Fact} (h:mrgF b x y=some f):(bif b then y else x)=some f:=by
 unfold mrgF at h
 split at h
 ·rename_i T cs T' cs'
  cases hb:Nat.beq T T' with
  | false=>rw [hb] at h; cases h
  | true =>
   rw [hb] at h
   have e1:=Qg hb
   subst e1
   simp only [Qc] at h
   obtain ⟨ms,h1,rfl⟩:=Re.1 h
   rw [Qwp h1]
   cases b <;> rfl
 ·cases h
theorem Qok {E:Nat->Bool} {id:Nat} {f:Fact} {rs0:List RI}:∀ (rs:List RI) (fs:List (Nat×Option Fact)) (k:Nat) (x:Option Fact),(∀ (j:Nat) (ri:RI),rs[j]?=some ri->(ri.keys=[]->E (k+j)=true)/\∀ b,keyB rs0 ri.keys=some b->E (k+j)=b)->(∀ g,fsG fs id=some g->x=some g)->fsG (Qiz rs0 fs rs) id=some f->fsP E id k rs x=some f
 | [],fs,k,x,_,hx,h=>hx f h
 | ri :: rs,fs,k,x,hE,hx,h=>by
  simp only [Qiz] at h
  simp only [fsP]
  refine Qok rs _ (k+1) _ (fun j rj hj=>by have:=hE (j+1) rj (by simpa using hj); rwa [show k+(j+1)=k+1+j by omega] at this) ?_ h
  intro g hg
  rw [Qlj (mrgS rs0 fs ri.keys)] at hg
  obtain ⟨e0,e1⟩:=hE 0 ri rfl
  rw [To] at e0 e1
  cases hs:Yn ri.r.sets id with
  | none =>
   rw [hs] at hg
   simp only at hg
   have e:(bif E k then Option.getD none x else x)=x:=by cases E k <;> rfl
   rw [e]
   exact hx g hg
  | some o =>
   rw [hs] at hg
   simp only at hg
   cases hk:ri.keys with
   | nil =>
    rw [hk] at hg
    rw [e0 hk]
    exact hg
   | cons y ys =>
    rw [hk] at hg e1
    unfold mrgS at hg
    simp only at hg
    cases hb:keyB rs0 (y :: ys) with
    | none=>rw [hb] at hg; cases hg
    | some b =>
     rw [hb] at hg
     simp only at hg
     have h2:=Ukv hg
     rw [e1 b hb]
     cases b with
     | true=>exact h2
     | false=>exact hx g h2
theorem Hm (hD:D=false->w0.drawn=0) {s:St} (H:Reck P l N (slG s.sl) (fsG s.fs) s.nx anc cont hs rs) (hv:AllP (Qpy rs rs)) (Q:Exit->Act->World->Prop) :
  (∀ S a w i o,l[i]?=some o->¬ S i->(∀ k,anc i k=true->S k)->(∀ k,S k->anc k i=false)->(∃ E β φ dom,Inv2 P l N (slG s.sl) (fsG s.fs) s.nx rs ψ IN w0 S E β φ dom a w)->wpOp P l.toArray Q i (fun a' w'=>∃ E β φ dom,Inv2 P l N (slG s.sl) (fsG s.fs) s.nx rs ψ IN w0 (fun k=>S k\/k=i) E β φ dom a' w') a w) /\
  (∀ a w,(∃ E β φ dom,Inv2 P l N (slG s.sl) (fsG s.fs) s.nx rs ψ IN w0 (fun k=>k<l.length) E β φ dom a w)->Zw P N ψ IN w0 ⟨Qgd s.sl l rs,Qiz rs s.fs rs,s.nx+Ur*l.length⟩ a w) /\
  (∀ S S' a w,(∀ i,i<l.length->(S i↔S' i))->(∃ E β φ dom,Inv2 P l N (slG s.sl) (fsG s.fs) s.nx rs ψ IN w0 S E β φ dom a w)->∃ E β φ dom,Inv2 P l N (slG s.sl) (fsG s.fs) s.nx rs ψ IN w0 S' E β φ dom a w) /\
  (∀ a w,Zw P N ψ IN w0 s a w->∃ E β φ dom,Inv2 P l N (slG s.sl) (fsG s.fs) s.nx rs ψ IN w0 (fun _=>False) E β φ dom a w):=by
 have hl:∀ (k:Nat) (o:Oper),l[k]?=some o->k<l.length:=fun k o h=>(Qr.1 h).1
 have hr:∀ (k:Nat) (r:RI),rs[k]?=some r->k<l.length:=fun k o h=>by rw [<- H.len]; exact (Qr.1 h).1
 refine ⟨fun S a w i o ho hi hS hS' ⟨E,β,φ,dom,V⟩=>V.step hD H (Uhp rs hv) ho hi hS hS',fun a w ⟨E,β,φ,dom,V⟩=>⟨β,φ,dom,V.size,V.defers,fun t av ht=>?_,V.rel.sub fun id f hf=>?_,fun id hid=>?_⟩,fun S S' a w hSS ⟨E,β,φ,dom,V⟩=>?_,fun a w ⟨β,φ,dom,V⟩=>?_⟩
 ·rcases Hv l rs s.sl H.len.symm ht with ⟨k,o,ri,h1,h2,h3,h4,rfl⟩ | ⟨h1,h2⟩
  ·have hc:Jd rs ri:=fun key hk=>by rw [h4] at hk; cases hk
   exact ⟨V.new k o ri t h1 h2 (hl k o h1) h3 hc,V.newwf k ri h2 (hl k o h1) hc⟩
  ·exact ⟨V.old t av h1 fun k o hk _=>h2 k o hk,V.oldwf t av h1⟩
 ·refine Qok rs s.fs 0 _ (fun j ri hj=>⟨fun hk=>?_,fun b hb=>?_⟩) (fun g h=>h) hf
  ·rw [Rs]
   exact (V.exec j ri hj).2 ⟨hr j ri hj,fun key hkm=>by rw [hk] at hkm; cases hkm⟩
  ·rw [Rs]
   have hx:=V.exec j ri hj
   unfold keyB at hb
   split at hb
   ·rename_i jk w hks
    split at hb
    ·rename_i rj hrj
     split at hb
     ·rename_i b0 hk0 ha0
      simp only [Qa] at hb
      have hc:Jd rs ri↔b0=w:=by
       unfold Jd
       rw [hks]
       simp only [Qw,forall_eq,kap,hrj,ha0]
      rw [hc] at hx
      have hj':=hr j ri hj
      rw [Gu,hx,<- hb]
      cases w <;> cases b0 <;> simp [hj']
     ·cases hb
    ·cases hb
   ·cases hb
 ·rcases V.bound id hid with h | ⟨k,h1,h2,h3⟩
  ·show id<s.nx+Ur*l.length
   omega
  ·show id<s.nx+Ur*l.length
   unfold Ur at *
   omega
 ·refine ⟨E,β,φ,dom,fun k ri hk=>?_,V.size,V.defers,fun t av hs hn=>V.old t av hs fun k o hk hS=>hn k o hk ((hSS k (hl k o hk)).1 hS),V.oldwf,fun k o ri t h1 h2 hS=>V.new k o ri t h1 h2 ((hSS k (hl k o h1)).2 hS),fun k ri h1 hS=>V.newwf k ri h1 ((hSS k (hr k ri h1)).2 hS),fun k o ri t h1 h2 hS=>V.skip k o ri t h1 h2 ((hSS k (hl k o h1)).2 hS),V.rel,fun id hid=>?_⟩
  ·rw [V.exec k ri hk,hSS k (hr k ri hk)]
  ·rcases V.bound id hid with h | ⟨k,h1,h2,h3⟩
   ·exact .inl h
   ·exact .inr ⟨k,⟨(hSS k h1.2).1 h1.1,h1.2⟩,h2,h3⟩
 ·refine ⟨fun _=>false,β,φ,dom,fun k ri hk=>by simp,V.size,V.defers,fun t av hs _=>(V.has t av hs).1,fun t av hs=>(V.has t av hs).2,fun _ _ _ _ _ _ h=>h.elim,fun _ _ _ h=>h.elim,fun _ _ _ _ _ _ h=>h.elim,?_,fun id hid=>.inl (V.bound id hid)⟩
  have e:(fun id=>fsP (fun _=>false) id 0 rs (fsG s.fs id))=fsG s.fs:=by
   funext id
   exact Mf rs 0 _ fun j ri hj h=>by cases h
  rw [e]
  exact V.rel
theorem Ugy {i k:Nat}:ancT i k=true↔k<i:=by simp [ancT]
theorem Qdo {i k:Nat}:ancT i k=false↔¬ k<i:=by rw [<- Ugy]; simp
def Par (n:List Nat) (a a':Act):Prop:=∀ t,t∈n->a'.tmps[t]?=a.tmps[t]?
def parD (n:List Nat):Option Tmp->Bool
 | some d=>!(n.any (Nat.beq d))
 | none=>true
def parL (n:List Nat) (l:List Oper):Bool:=l.all fun o=>parD n o.dst
theorem Par.put {n:List Nat} {a0 a:Act} (h:Par n a0 a) {o:Oper} (ho:parD n o.dst=true) (v:Value):Par n a0 (a.put o.dst v):=by
 intro t ht
 rw [<- h t ht]
 cases hd:o.dst with
 | none=>rfl
 | some d =>
  rw [hd] at ho
  have hne:d≠t:=fun e=>by
   have:n.any (Nat.beq d)=true:=R5.2 ⟨t,ht,by rw [e]; simp⟩
   simp [parD,this] at ho
  simp only [Act.put]
  rw [Sh hne]
theorem Qft {n:List Nat} {i:Nat} {a0 a:Act} {w:World} {K:Act->World->Prop} {Q:Exit->Act->World->Prop} (hl:parL n l=true) (h0:Par n a0 a) (h:wpOp P l.toArray Q i K a w):wpOp P l.toArray Q i (fun a' w'=>K a' w'/\Par n a0 a') a w:=by
 unfold wpOp at h ⊢
 cases ho:l.toArray[i]? with
 | none=>rw [ho] at h; exact ⟨h,h0⟩
 | some o =>
  rw [ho] at h
  have hp:parD n o.dst=true:=Rc.1 hl o (Q9 (by simpa using ho))
  simp only at h ⊢
  split at h
  ·rename_i hw
   rw [if_pos hw]
   refine h.imp (fun h=>?_) id
   unfold Oper.wp at h ⊢
   generalize (execOp a.eval o).run P w=r at h ⊢
   cases r with
   | ok nx w' =>
    cases nx <;> simp only [Oper.upon] at h ⊢ <;> first
     | exact ⟨h,h0.put hp _⟩
     | (rename_i d; exact ⟨h,Par.put (n:=n) (a0:=a0) (a:={ a with defers:=d :: a.defers }) (fun t ht=>h0 t ht) hp undef⟩)
     | exact Calls.mono h fun e w2 hh=>by cases e <;> first | exact ⟨hh,h0.put hp _⟩ | exact hh
     | exact Rows.mono h fun v w2 hh=>⟨hh,h0.put hp _⟩
     | exact h
   | halt x w'=>cases x <;> simp only [Oper.upon] at h ⊢ <;> exact h
  ·rename_i hw
   rw [if_neg hw]
   exact ⟨h,h0.put hp _⟩
theorem Ufm (hD:D=false->w0.drawn=0) (hm:P.follows .mixedOrders=true) {s s':St} {draw:Bool} {hs:List (Nat×Hint D P)} {vcs:List Prop} (h:Ph P N s l draw hs=some (vcs,s')) (hv:AllP vcs) {a:Act} {w:World} (H:Zw P N ψ IN w0 s a w) {Q:Exit->Act->World->Prop} {n:List Nat} (hpar:parL n l=true)
  (hQ:∀ a' w',Zw P N ψ IN w0 s' a' w'->Par n a a'->Q .normal a' w') (id:Nat):(Code.region id l.toArray draw).wp P Q a w:=by
 unfold Ph at h
 split at h
 ·
  split at h
  ·rename_i rs hrs
   cases hc:Lo l N ancT (fun _ _=>false) 0 l rs with
   | false=>rw [hc] at h; cases h
   | true =>
    rw [hc] at h
    simp only [Qc,Qa,Q3] at h
    obtain ⟨rfl,rfl⟩:=h
    obtain ⟨r1,r2,r3⟩:=Qdp l 0 [] hrs rfl
    have HR:Reck P l N (slG s.sl) (fsG s.fs) s.nx ancT (fun _ _=>false) hs rs:=by
     refine ⟨fun i o ho=>?_,fun i o ri ho hr=>?_,by omega,fun i k hk=>by simpa [ancT] using hk,fun i j rj p hne hj hp h1 h2=>?_⟩
     ·have:=r3 i o ho; rwa [Rs] at this
     ·have:=Lu l rs 0 hc i o ri ho hr; rwa [Rs] at this
     ·exfalso
      rw [Qdo] at h1 h2
      omega
    obtain ⟨q1,q2,q3,q4⟩:=Hm (w0:=w0) (ψ:=ψ) (IN:=IN) hD HR hv Q
    refine wp_region ?_
    rw [List.range_eq_range']
    have:=Uhj (P:=P) (l:=l) (Q:=Q) (Inv:=fun S a' w'=>(∃ E β φ dom,Inv2 P l N (slG s.sl) (fsG s.fs) s.nx rs ψ IN w0 S E β φ dom a' w')/\Par n a a') (fun S S' a w e h=>⟨q3 S S' a w e h.1,h.2⟩) (fun S a w i o ho hS hI=>Qft hpar hI.2 <| q1 S a w i o ho (fun h=>by have:=(hS i).1 h; omega) (fun k hk=>(hS k).2 (by simpa [ancT] using hk)) (fun k hk=>by
     have:=(hS k).1 hk
     rw [Qdo]; omega) hI.1) (fun a w h=>hQ a w (q2 a w h.1) h.2) l.length 0 uu0 a w ⟨q3 _ _ a w (fun i _=>by simp) (q4 a w H),fun _ _=>rfl⟩
    simpa using this
  ·cases h
 ·
  split at h
  ·rename_i rs1 hrs1
   split at h
   ·rename_i rs hrs
    cases hc:(backB l&&Qbu (Ey rs) (Ey rs1)&&Lo l N (ancD (msks l [])) (Qug (ancD (msks l [])) (Ey rs1)) 0 l rs) with
    | false=>rw [hc] at h; cases h
    | true =>
     rw [hc] at h
     simp only [Qc,Qa,Q3] at h
     obtain ⟨rfl,rfl⟩:=h
     simp only [Qo] at hc
     obtain ⟨⟨hbk,hsb⟩,hc⟩:=hc
     obtain ⟨r1,r2,r3⟩:=Qdp l 0 [] hrs rfl
     have back:∀ (i:Nat) (o:Oper),l[i]?=some o->∀ e∈o.after,Region.binds .any e=true->e.on<i:=by
      intro i o ho e he hb
      have hmem:(o,i)∈l.zipIdx:=by rw [T9]; exact ho
      have:=Rc.1 (Rc.1 hbk _ hmem) e (by simpa using he)
      simp only [hb,Sv,Ga] at this
      simpa using this
     have hsub:∀ (azz bs:List (List Nat)),Qbu azz bs=true->∀ (j:Nat) (x:List Nat),azz[j]?=some x->∃ y,bs[j]?=some y/\∀ i∈x,i∈y:=by
      intro azz
      induction azz with
      | nil=>intro bs _ j x hj; simp at hj
      | cons a azz ih =>
       intro bs hb j x hj
       cases bs with
       | nil=>simp [Qbu] at hb
       | cons b bs =>
        simp only [Qbu,Qo] at hb
        cases j with
        | zero =>
         simp only [Ro,Qa] at hj
         subst hj
         refine ⟨b,rfl,fun i hi=>?_⟩
         obtain ⟨i',h1,h2⟩:=R5.1 (Rc.1 hb.1 i hi)
         exact Qg h2 ▸ h1
        | succ j=>exact ih bs hb.2 j x (by simpa using hj)
     have HR:Reck P l N (slG s.sl) (fsG s.fs) s.nx (ancD (msks l [])) (Qug (ancD (msks l [])) (Ey rs1)) hs rs:=by
      refine ⟨fun i o ho=>?_,fun i o ri ho hr=>?_,by omega,fun i k hk=>?_,fun i j rj p hne hj hp h1 h2=>?_⟩
      ·have:=r3 i o ho; rwa [Rs] at this
      ·have:=Lu l rs 0 hc i o ri ho hr; rwa [Rs] at this
      ·simp only [ancD,Qo] at hk
       simpa using hk.1
      ·obtain ⟨y,hy,hin⟩:=hsub _ _ hsb j (rj.r.sets.map (·.1)) (by simp [Ey,hj])
       refine R5.2 ⟨(y,j),by rw [T9]; exact hy,?_⟩
       have hb:Nat.beq j i=false:=T1.2 fun h=>hne (Qg h)
       simp only [hb,h1,h2,Gh,Sc]
       exact R5.2 ⟨p.1,hin _ (Si.2 ⟨p,hp,rfl⟩),by simp⟩
     obtain ⟨q1,q2,q3,q4⟩:=Hm (w0:=w0) (ψ:=ψ) (IN:=IN) hD HR hv Q
     refine wp_region_any hm ?_
     have hfalse:∀ j,(Array.replicate l.length false).getD j false=true↔False:=by
      intro j
      simp only [Sw,Array.getElem?_replicate]
      split <;> simp
     obtain ⟨β,φ,dom,V⟩:=H
     have H2:Zw P N ψ IN w0 s a { w with drawn:=w.drawn+1 }:=⟨β,φ,dom,V.size,V.defers,V.has,V.rel.same ⟨⟨rfl,rfl,rfl,Qq _,fun _ _=>rfl⟩,Ru _⟩,V.bound⟩
     have:=Ukq (P:=P) (l:=l) (Q:=Q) (Inv:=fun S a' w'=>(∃ E β φ dom,Inv2 P l N (slG s.sl) (fsG s.fs) s.nx rs ψ IN w0 S E β φ dom a' w')/\Par n a a') (fun S S' a w e h=>⟨q3 S S' a w e h.1,h.2⟩) back (fun S a w i o ho hn hpre hd hI=>Qft hpar hI.2 <| q1 S a w i o ho hn (fun k hk=>by
       simp only [ancD,Qo] at hk
       exact Qde (l:=l) (SS:=S) (m:=l.length) (fun i o ho _=>back i o ho) (fun k ok hok hk=>hd k ok hok hk) i o (Qr.1 ho).1 ho hpre k hk.2) (fun k hk=>by
       cases ha:ancD (msks l []) k i with
       | false=>rfl
       | true =>
        exfalso
        simp only [ancD,Qo] at ha
        rcases Gm k l.length with hkl | hkl
        ·exact hn (Qde (l:=l) (SS:=S) (m:=l.length) (fun i o ho _=>back i o ho) (fun k ok hok hk=>hd k ok hok hk) k l[k] hkl (Qh hkl) (hd k l[k] (Qh hkl) hk) i ha.2)
        ·have hz:(msks l []).getD k 0=0:=by
          have hlen:∀ (l:List Oper) (acc:List Nat),(msks l acc).length=acc.length+l.length:=by
           intro l
           induction l with
           | nil=>intro acc; simp [msks]
           | cons o l ih=>intro acc; simp only [msks,ih]; simp; omega
          rw [Qd,Tx (by rw [hlen]; simpa using hkl)]
          rfl
         rw [hz] at ha
         simp at ha) hI.1) (fun a w h=>hQ a w (q2 a w h.1) h.2) l.length (Array.replicate l.length false) a { w with drawn:=w.drawn+1 } (by simp) (by simp) (fun k ok _ h=>((hfalse k).1 h).elim) ⟨q3 _ _ a _ (fun i _=>(hfalse i).symm) (q4 a _ H2),fun _ _=>rfl⟩
     simpa using this
   ·cases h
  ·cases h
end
inductive Src where
 | id (Y:Nat)
 | val (x:Value)
abbrev Ren:=List (Nat×Src)
def renG:Ren->Nat->Option Src
 | [],_=>none
 | (k,s) :: r,X=>bif Nat.beq k X then some s else renG r X
mutual
def mkR:AV->AV->Ren->Ren
 | .h Y _,.h X _,r=>(match renG r X with | some _=>r | none=>(X,.id Y) :: r)
 | .p Y _,.p X _,r=>(match renG r X with | some _=>r | none=>(X,.id Y) :: r)
 | .v x,.h X 0,r=>(match renG r X with | some _=>r | none=>(X,.val x) :: r)
 | .ag cs,.ag ds,r=>mkRs cs ds r
 | .tu cs,.tu ds,r=>mkRs cs ds r
 | .cl _ cs,.cl _ ds,r=>mkRs cs ds r
 | _,_,r=>r
def mkRs:List AV->List AV->Ren->Ren
 | a :: azz,b :: bs,r=>mkRs azz bs (mkR a b r)
 | _,_,r=>r
end
def mkS (sl:Nat->Option AV):List (Nat×Option AV)->Ren->Ren
 | [],r=>r
 | (t,some b) :: l,r=>mkS sl l (match sl t with | some a=>mkR a b r | none=>r)
 | (_,none) :: l,r=>mkS sl l r
def mkF (fs:Nat->Option Fact):List (Nat×Option Fact)->Ren->Ren
 | [],r=>r
 | (X,some (.box _ ds)) :: l,r=>mkF fs l (match renG r X with
  | some (.id Y)=>(match fs Y with | some (.box _ cs)=>mkRs cs ds r | _=>r)
  | _=>r)
 | (X,some (.arr _ ds)) :: l,r=>mkF fs l (match renG r X with
  | some (.id Y)=>(match fs Y with | some (.arr _ cs)=>mkRs cs ds r | _=>r)
  | _=>r)
 | (X,some (.shr (some (X1,_)) _)) :: l,r=>mkF fs l (match renG r X,renG r X1 with
  | some (.id Y),none=>(match fs Y with | some (.shr (some (Y1,_)) _)=>(X1,.id Y1) :: r | _=>r)
  | _,_=>r)
 | _ :: l,r=>mkF fs l r
mutual
def eqA (r:Ren) (nx:Nat):AV->AV->Option (List Prop)
 | .v x,.v y=>some [x=y]
 | a,.h X j=>bif Nat.blt X nx then (match renG r X,a with
  | some (.id Y),.h Y' j'=>bif Nat.beq Y Y'&&Nat.beq j j' then some [] else none
  | some (.val x),.v y=>(match j with | 0=>some [y=x] | _=>none)
  | _,_=>none) else none
 | .p Y' o,.p X o'=>bif Nat.blt X nx then (match renG r X with
  | some (.id Y)=>bif Nat.beq Y Y'&&Nat.beq o o' then some [] else none
  | _=>none) else none
 | .ag cs,.ag ds=>eqAs r nx cs ds
 | .tu cs,.tu ds=>eqAs r nx cs ds
 | .cl f cs,.cl g ds=>bif Nat.beq f g then eqAs r nx cs ds else none
 | _,_=>none
def eqAs (r:Ren) (nx:Nat):List AV->List AV->Option (List Prop)
 | [],[]=>some []
 | a :: azz,b :: bs=>match eqA r nx a b,eqAs r nx azz bs with
  | some p,some q=>some (p++q)
  | _,_=>none
 | _,_=>none
end
def Qjv (r:Ren) (nx:Nat) (sl:Nat->Option AV):List (Nat×Option AV)->Option (List Prop)
 | []=>some []
 | (t,some b) :: l=>match sl t with
  | some a=>(match eqA r nx a b,Qjv r nx sl l with
   | some p,some q=>some (p++q)
   | _,_=>none)
  | none=>none
 | (_,none) :: l=>Qjv r nx sl l
def Kp (r:Ren) (nx:Nat) (fs:Nat->Option Fact) (X:Nat):Fact->Option (List Prop)
 | .box T ds=>match renG r X with
  | some (.id Y)=>(match fs Y with
   | some (.box T' cs)=>bif Nat.beq T T'&&ds.all AV.one then eqAs r nx cs ds else none
   | _=>none)
  | _=>none
 | .own V d=>bif Nat.blt V nx then (match renG r X with
  | some (.id Y)=>(match fs Y with
   | some (.own _ d0)=>some [Imp d0 d]
   | _=>none)
  | some (.val x)=>bif x.oneCell' then some [Imp (.v x) d] else none
  | none=>none) else none
 | .shr none d=>match renG r X with
  | some (.id Y)=>(match fs Y with
   | some (.shr none d0)=>some [Imp d0 d]
   | _=>none)
  | some (.val x)=>bif x.oneCell' then some [Imp (.v x) d] else none
  | none=>none
 | .shr (some (X1,V)) d=>bif Nat.blt X1 nx&&Nat.blt V nx then (match renG r X,renG r X1 with
  | some (.id Y),some (.id Y1)=>(match fs Y with
   | some (.shr (some (Y2,V2)) d0)=>bif Nat.beq Y1 Y2&&Vz fs (some (Y2,V2)) then some [Imp d0 d] else none
   | _=>none)
  | _,_=>none) else none
 | .mem none _ ds=>match renG r X with
  | some (.id Y)=>(match fs Y with
   | some (.mem none _ ds0)=>some [Imps ds0 ds]
   | _=>none)
  | _=>none
 | .vl x d=>match renG r X with
  | some (.id Y)=>(match fs Y with
   | some (.vl x0 d0)=>some [x0=x,Imp d0 d]
   | _=>none)
  | _=>none
 | .arr n ds=>match renG r X with
  | some (.id Y)=>(match fs Y with
   | some (.arr n' cs)=>bif Nat.beq n n'&&ds.all AV.one then eqAs r nx cs ds else none
   | _=>none)
  | _=>none
 | .fn F=>match renG r X with
  | some (.id Y)=>(match fs Y with
   | some (.fn F0)=>some [F0=F]
   | _=>none)
  | _=>none
 | _=>none
def Qji (r:Ren) (nx:Nat) (fs:Nat->Option Fact):List (Nat×Option Fact)->Option (List Prop)
 | []=>some []
 | (X,some f) :: l=>bif Nat.blt X nx then (match Kp r nx fs X f,Qji r nx fs l with
  | some p,some q=>some (p++q)
  | _,_=>none) else none
 | (_,none) :: l=>Qji r nx fs l
def Wu (r:Ren):List (Nat×Option Fact)->List Nat
 | []=>[]
 | (X,some f) :: l=>bif f.mod then (match renG r X with | some (.id Y)=>Y :: Wu r l | _=>Wu r l) else Wu r l
 | (_,none) :: l=>Wu r l
def Nd:Ren->Bool
 | []=>true
 | (_,.val x) :: r=>x.oneCell'&&Nd r
 | _ :: r=>Nd r
def subV (s S:St):Option (List Prop) :=
 let r:=mkF (fsG s.fs) S.fs (mkF (fsG s.fs) S.fs (mkS (slG s.sl) S.sl []))
 bif Jy (Wu r S.fs)&&Nd r&&Jy (S.fs.map (·.1)) then (match Qjv r S.nx (slG s.sl) S.sl,Qji r S.nx (fsG s.fs) S.fs with
  | some p,some q=>some (p++q)
  | _,_=>none) else none
section
variable {P:Program} {N:Nat} {ψ IN:Nat->Prop} {w0:World}
def βR (r:Ren) (β:Nat->Nat->Value):Nat->Nat->Value:=fun X j=>match renG r X with
 | some (.id Y)=>β Y j
 | some (.val x)=>x
 | none=>.bool false
def φR (r:Ren) (φ:Nat->List Nat):Nat->List Nat:=fun X=>match renG r X with
 | some (.id Y)=>φ Y
 | _=>[]
mutual
theorem Ugc {r:Ren} {nx:Nat} {β:Nat->Nat->Value}:∀ (a b:AV) (ps:List Prop),eqA r nx a b=some ps->AllP ps->val (βR r β) b=val β a/\b.wf (·<nx)
 | a,.v y,ps,h,hv=>by
  cases a with
  | v x =>
   simp only [eqA,Qa] at h
   subst h
   obtain ⟨rfl,_⟩:=hv
   exact ⟨rfl,trivial⟩
  | _=>simp [eqA] at h
 | a,.h X j,ps,h,hv=>by
  have key:eqA r nx a (.h X j)=(bif Nat.blt X nx then (match renG r X,a with
   | some (.id Y),.h Y' j'=>bif Nat.beq Y Y'&&Nat.beq j j' then some [] else none
   | some (.val x),.v y=>(match j with | 0=>some [y=x] | _=>none)
   | _,_=>none) else none):=by cases a <;> rfl
  rw [key] at h
  cases hx:Nat.blt X nx with
  | false=>rw [hx] at h; cases h
  | true =>
   rw [hx] at h
   simp only [Qc] at h
   have hX:X<nx:=by simpa using hx
   split at h
   ·rename_i Y Y' j' hr
    cases hb:(Nat.beq Y Y'&&Nat.beq j j') with
    | false=>rw [hb] at h; cases h
    | true =>
     simp only [Qo] at hb
     have e1:=Qg hb.1
     have e2:=Qg hb.2
     subst e1; subst e2
     exact ⟨by simp only [val,βR,hr],hX⟩
   ·rename_i x y hr
    split at h
    ·simp only [Qa] at h
     subst h
     obtain ⟨rfl,_⟩:=hv
     exact ⟨by simp only [val,βR,hr],hX⟩
    ·cases h
   ·cases h
 | a,.p X o,ps,h,hv=>by
  cases a with
  | p Y' o' =>
   simp only [eqA] at h
   cases hx:Nat.blt X nx with
   | false=>rw [hx] at h; cases h
   | true =>
    rw [hx] at h
    simp only [Qc] at h
    have hX:X<nx:=by simpa using hx
    split at h
    ·rename_i Y hr
     cases hb:(Nat.beq Y Y'&&Nat.beq o' o) with
     | false=>rw [hb] at h; cases h
     | true =>
      simp only [Qo] at hb
      have e1:=Qg hb.1
      have e2:=Qg hb.2
      subst e1; subst e2
      exact ⟨by simp only [val,βR,hr],hX⟩
    ·cases h
  | _=>simp [eqA] at h
 | a,.ag ds,ps,h,hv=>by
  cases a with
  | ag cs =>
   simp only [eqA] at h
   obtain ⟨h1,h2⟩:=Mi (β:=β) cs ds ps h hv
   exact ⟨by simp only [val,h1],h2⟩
  | _=>simp [eqA] at h
 | a,.tu ds,ps,h,hv=>by
  cases a with
  | tu cs =>
   simp only [eqA] at h
   obtain ⟨h1,h2⟩:=Mi (β:=β) cs ds ps h hv
   exact ⟨by simp only [val,h1],h2⟩
  | _=>simp [eqA] at h
 | a,.cl g ds,ps,h,hv=>by
  cases a with
  | cl f cs =>
   simp only [eqA] at h
   cases hb:Nat.beq f g with
   | false=>rw [hb] at h; cases h
   | true =>
    rw [hb] at h
    simp only [Qc] at h
    have e:=Qg hb
    subst e
    obtain ⟨h1,h2⟩:=Mi (β:=β) cs ds ps h hv
    exact ⟨by simp only [val,h1],h2⟩
  | _=>simp [eqA] at h
theorem Mi {r:Ren} {nx:Nat} {β:Nat->Nat->Value}:∀ (azz bs:List AV) (ps:List Prop),eqAs r nx azz bs=some ps->AllP ps->vals (βR r β) bs=vals β azz/\AVs.wf (·<nx) bs
 | [],[],ps,h,hv=>⟨rfl,trivial⟩
 | a :: azz,b :: bs,ps,h,hv=>by
  simp only [eqAs] at h
  split at h
  ·rename_i p q h1 h2
   simp only [Qa] at h
   subst h
   obtain ⟨v1,v2⟩:=AllP.app hv
   obtain ⟨k1,k2⟩:=Ugc (β:=β) a b p h1 v1
   obtain ⟨k3,k4⟩:=Mi (β:=β) azz bs q h2 v2
   exact ⟨by simp only [vals,k1,k3],k2,k4⟩
  ·cases h
 | [],_ :: _,ps,h,_=>by simp [eqAs] at h
 | _ :: _,[],ps,h,_=>by simp [eqAs] at h
end
theorem Qfl {r:Ren} {nx:Nat} {β:Nat->Nat->Value} {sl:Nat->Option AV}:∀ (l:List (Nat×Option AV)) (ps:List Prop),Qjv r nx sl l=some ps->AllP ps->∀ t b,slG l t=some b->∃ a,sl t=some a/\val (βR r β) b=val β a/\b.wf (·<nx)
 | [],ps,_,_,t,b,h=>by cases h
 | (k,some b0) :: l,ps,h,hv,t,b,ht=>by
  simp only [Qjv] at h
  split at h
  ·rename_i a ha
   split at h
   ·rename_i p q h1 h2
    simp only [Qa] at h
    subst h
    obtain ⟨v1,v2⟩:=AllP.app hv
    simp only [slG] at ht
    cases hb:Nat.beq k t with
    | true =>
     rw [hb] at ht
     simp only [Qc,Qa] at ht
     subst ht
     have e:=Qg hb
     subst e
     exact ⟨a,ha,Ugc a b0 p h1 v1⟩
    | false =>
     rw [hb] at ht
     exact Qfl l q h2 v2 t b ht
   ·cases h
  ·cases h
 | (k,none) :: l,ps,h,hv,t,b,ht=>by
  simp only [Qjv] at h
  simp only [slG] at ht
  cases hb:Nat.beq k t with
  | true=>rw [hb] at ht; cases ht
  | false=>rw [hb] at ht; exact Qfl l ps h hv t b ht
theorem Ed {r:Ren} {nx:Nat} {fs:Nat->Option Fact}:∀ (l:List (Nat×Option Fact)) (ps:List Prop),Qji r nx fs l=some ps->AllP ps->∀ X f,fsG l X=some f->∃ q,Kp r nx fs X f=some q/\AllP q/\X<nx
 | [],ps,_,_,t,b,h=>by cases h
 | (k,some f0) :: l,ps,h,hv,X,f,hX=>by
  simp only [Qji] at h
  cases hk:Nat.blt k nx with
  | false=>rw [hk] at h; cases h
  | true =>
   rw [hk] at h
   simp only [Qc] at h
   split at h
   ·rename_i p q h1 h2
    simp only [Qa] at h
    subst h
    obtain ⟨v1,v2⟩:=AllP.app hv
    simp only [fsG] at hX
    cases hb:Nat.beq k X with
    | true =>
     rw [hb] at hX
     simp only [Qc,Qa] at hX
     subst hX
     have e:=Qg hb
     subst e
     exact ⟨p,h1,v1,by simpa using hk⟩
    | false =>
     rw [hb] at hX
     exact Ed l q h2 v2 X f hX
   ·cases h
 | (k,none) :: l,ps,h,hv,X,f,hX=>by
  simp only [Qji] at h
  simp only [fsG] at hX
  cases hb:Nat.beq k X with
  | true=>rw [hb] at hX; cases hX
  | false=>rw [hb] at hX; exact Ed l ps h hv X f hX
theorem Qly:∀ {l:List (Nat×Option Fact)} {X:Nat} {f:Fact},fsG l X=some f->(X,some f)∈l
 | [],X,f,h=>by cases h
 | (k,o) :: l,X,f,h=>by
  simp only [fsG] at h
  cases hb:Nat.beq k X with
  | true =>
   rw [hb] at h
   simp only [Qc] at h
   subst h
   have e:=Qg hb
   subst e
   exact Ql
  | false=>rw [hb] at h; exact Qi _ (Qly h)
theorem Qjp {r:Ren}:∀ {l:List (Nat×Option Fact)} {X X':Nat} {f f':Fact} {Y Y':Nat},(Wu r l).Nodup->(l.map (·.1)).Nodup->(X,some f)∈l->(X',some f')∈l->X≠X'->f.mod=true->f'.mod=true->renG r X=some (.id Y)->renG r X'=some (.id Y')->Y≠Y'
 | [],_,_,_,_,_,_,_,_,h,_,_,_,_,_,_=>by cases h
 | (k,o) :: l,X,X',f,f',Y,Y',hm,hl,h,h',hne,m1,m2,r1,r2=>by
  have hin:∀ {l:List (Nat×Option Fact)} {X:Nat} {f:Fact} {Y:Nat},(X,some f)∈l->f.mod=true->renG r X=some (.id Y)->Y∈Wu r l:=by
   intro l
   induction l with
   | nil=>intro X f Y h; cases h
   | cons p l ih =>
    intro X f Y h hm hr
    obtain ⟨k,o⟩:=p
    rcases Qu.1 h with h | h
    ·cases h
     simp only [Wu,hm,Qc,hr]
     exact Ql
    ·have:=ih h hm hr
     cases o with
     | none=>exact this
     | some g =>
      simp only [Wu]
      cases g.mod with
      | false=>exact this
      | true =>
       simp only [Qc]
       split
       ·exact Qi _ this
       ·exact this
  have hm':(Wu r l).Nodup:=by
   cases o with
   | none=>exact hm
   | some g =>
    simp only [Wu] at hm
    cases hg:g.mod with
    | false=>rw [hg] at hm; exact hm
    | true =>
     rw [hg] at hm
     simp only [Qc] at hm
     split at hm
     ·exact (Q0.1 hm).2
     ·exact hm
  simp only [Rb] at hl
  obtain ⟨l1,l2⟩:=Q0.1 hl
  rcases Qu.1 h with ha | ha <;> rcases Qu.1 h' with hb | hb
  ·cases ha; cases hb; exact absurd rfl hne
  ·cases ha
   simp only [Wu,m1,Qc,r1] at hm
   intro e
   exact (Q0.1 hm).1 (e ▸ hin hb m2 r2)
  ·cases hb
   simp only [Wu,m2,Qc,r2] at hm
   intro e
   exact (Q0.1 hm).1 (e ▸ hin ha m1 r1)
  ·exact Qjp hm' l2 ha hb hne m1 m2 r1 r2
theorem Qip:∀ {r:Ren} {X:Nat} {x:Value},Nd r=true->renG r X=some (.val x)->x.oneCell'=true
 | [],X,x,_,h=>by cases h
 | (k,s) :: r,X,x,h,hr=>by
  simp only [renG] at hr
  cases hb:Nat.beq k X with
  | true =>
   rw [hb] at hr
   simp only [Qc,Qa] at hr
   subst hr
   simp only [Nd,Qo] at h
   exact h.1
  | false =>
   rw [hb] at hr
   refine Qip ?_ hr
   cases s with
   | id Y=>exact h
   | val y=>simp only [Nd,Qo] at h; exact h.2
theorem Unc {s S:St} {ps:List Prop} (h:subV s S=some ps) (hv:AllP ps) {a:Act} {w:World} (H:Zw P N ψ IN w0 s a w):Zw P N ψ IN w0 S a w:=by
 unfold subV at h
 simp only at h
 generalize hr:mkF (fsG s.fs) S.fs (mkF (fsG s.fs) S.fs (mkS (slG s.sl) S.sl []))=r at h
 cases hc:(Jy (Wu r S.fs)&&Nd r&&Jy (S.fs.map (·.1))) with
 | false=>rw [hc] at h; cases h
 | true =>
  rw [hc] at h
  simp only [Qc] at h
  simp only [Qo] at hc
  obtain ⟨⟨c1,c2⟩,c3⟩:=hc
  have c1:=Vo c1
  have c3:=Vo c3
  split at h
  ·rename_i p q h1 h2
   simp only [Qa] at h
   subst h
   obtain ⟨v1,v2⟩:=AllP.app hv
   obtain ⟨β,φ,dom,V⟩:=H
   have R:=V.rel
   have hmod:∀ X f,fsG S.fs X=some f->f.mod=true->(∃ Y g,renG r X=some (.id Y)/\fsG s.fs Y=some g/\g.mod=true)\/φR r φ X=[]:=by
    intro X f hX hm
    obtain ⟨q',g1,g2,g3⟩:=Ed S.fs q h2 v2 X f hX
    cases f <;> simp only [Fact.mod] at hm <;> first | cases hm | skip
    case box T ds =>
     simp only [Kp] at g1
     split at g1
     ·rename_i Y hY
      split at g1
      ·rename_i T' cs hf; exact .inl ⟨Y,_,hY,hf,rfl⟩
      ·cases g1
     ·cases g1
    case own V d =>
     simp only [Kp] at g1
     cases hV:Nat.blt V S.nx with
     | false=>rw [hV] at g1; cases g1
     | true =>
      rw [hV] at g1
      simp only [Qc] at g1
      split at g1
      ·rename_i Y hY
       split at g1
       ·rename_i d0 hf; exact .inl ⟨Y,_,hY,hf,rfl⟩
       ·cases g1
      ·rename_i x hx; exact .inr (by simp only [φR,hx])
      ·cases g1
    case arr n ds =>
     simp only [Kp] at g1
     split at g1
     ·rename_i Y hY
      split at g1
      ·rename_i n' cs hf; exact .inl ⟨Y,_,hY,hf,rfl⟩
      ·cases g1
     ·cases g1
   refine ⟨βR r β,φR r φ,(·<S.nx),V.size,V.defers,fun t av ht=>?_,⟨fun X f hX=>?_,fun X X' f f' hX hX' m1 m2 hne b hb hb'=>?_,fun X f hX hm b hb=>?_,R.psi,fun X j=>?_,R.chg,R.glo⟩,fun id hid=>hid⟩
   ·obtain ⟨a0,k1,k2,k3⟩:=Qfl (β:=β) S.sl p h1 v1 t av ht
    rw [k2]
    exact ⟨(V.has t a0 k1).1,k3⟩
   ·obtain ⟨q',g1,g2,g3⟩:=Ed S.fs q h2 v2 X f hX
    refine ⟨g3,?_⟩
    cases f with
    | box T ds =>
     simp only [Kp] at g1
     split at g1
     ·rename_i Y hY
      split at g1
      ·rename_i T' cs hf
       cases hb:(Nat.beq T T'&&ds.all AV.one) with
       | false=>rw [hb] at g1; cases g1
       | true =>
        rw [hb] at g1
        simp only [Qc] at g1
        simp only [Qo] at hb
        have e:=Qg hb.1
        subst e
        obtain ⟨k1,k2⟩:=Mi (β:=β) cs ds q' g1 g2
        obtain ⟨_,_,b,m1,m2,m3⟩:=R.ok Y _ hf
        exact ⟨⟨k2,hb.2⟩,b,by simp only [βR,hY]; exact m1,by rw [k1]; exact m2,by simp only [φR,hY]; exact m3⟩
      ·cases g1
     ·cases g1
    | own V' d =>
     simp only [Kp] at g1
     cases hV:Nat.blt V' S.nx with
     | false=>rw [hV] at g1; cases g1
     | true =>
      rw [hV] at g1
      simp only [Qc] at g1
      refine ⟨by simpa using hV,?_⟩
      split at g1
      ·rename_i Y hY
       split at g1
       ·rename_i V0 d0 hf
        cases g1
        obtain ⟨_,_,m1⟩:=R.ok Y _ hf
        simp only [βR,φR,hY]
        exact g2.1.ow _ _ _ m1
       ·cases g1
      ·rename_i x hx
       cases hxo:x.oneCell' with
       | false=>rw [hxo] at g1; cases g1
       | true =>
        rw [hxo] at g1
        cases g1
        simp only [βR,φR,hx]
        exact g2.1.ow _ _ _ ⟨rfl,hxo,rfl⟩
      ·cases g1
    | shr dep d =>
     cases dep with
     | none =>
      simp only [Kp] at g1
      split at g1
      ·rename_i Y hY
       split at g1
       ·rename_i d0 hf
        cases g1
        obtain ⟨_,m1⟩:=R.ok Y _ hf
        show RdV ψ w d _
        simp only [βR,hY]
        exact g2.1.rd _ _ _ m1
       ·cases g1
      ·rename_i x hx
       cases hxo:x.oneCell' with
       | false=>rw [hxo] at g1; cases g1
       | true =>
        rw [hxo] at g1
        cases g1
        show RdV ψ w d _
        simp only [βR,hx]
        exact g2.1.rd _ _ _ ⟨rfl,hxo⟩
      ·cases g1
     | some XV =>
      obtain ⟨X1,V1⟩:=XV
      simp only [Kp] at g1
      cases hb:(Nat.blt X1 S.nx&&Nat.blt V1 S.nx) with
      | false=>rw [hb] at g1; cases g1
      | true =>
       rw [hb] at g1
       simp only [Qc] at g1
       simp only [Qo] at hb
       refine ⟨by simpa using hb.1,by simpa using hb.2,fun _=>?_⟩
       split at g1
       ·rename_i Y Y1 hY hY1
        split at g1
        ·rename_i Y2 V2 d0 hf
         cases hb2:(Nat.beq Y1 Y2&&Vz (fsG s.fs) (some (Y2,V2))) with
         | false=>rw [hb2] at g1; cases g1
         | true =>
          rw [hb2] at g1
          cases g1
          simp only [Qo] at hb2
          have e:=Qg hb2.1
          subst e
          obtain ⟨_,_,_,m1⟩:=R.ok Y _ hf
          have:=m1 (Lq hb2.2)
          simp only [βR,φR,hY,hY1]
          exact g2.1.rd _ _ _ this
        ·cases g1
       ·cases g1
    | mem dep el ds =>
     cases dep with
     | none =>
      simp only [Kp] at g1
      split at g1
      ·rename_i Y hY
       split at g1
       ·rename_i el0 ds0 hf
        cases g1
        obtain ⟨_,b,o,m1,m2,m3,m4⟩:=R.ok Y _ hf
        have hl:ds.length=ds0.length:=by
         have h1:=(g2.1.rd m4).len
         have h2:=m4.len
         omega
        have hbv:bv (βR r β) X ds.length=bv β Y ds0.length:=by
         simp only [bv,βR,hY,hl]
        refine ⟨b,o,by simp only [βR,hY]; exact m1,m2,by rw [hbv]; exact m3,by rw [hbv]; exact g2.1.rd m4⟩
       ·cases g1
      ·cases g1
     | some XV=>simp [Kp] at g1
    | arr n ds =>
     simp only [Kp] at g1
     split at g1
     ·rename_i Y hY
      split at g1
      ·rename_i n' cs hf
       cases hb:(Nat.beq n n'&&ds.all AV.one) with
       | false=>rw [hb] at g1; cases g1
       | true =>
        rw [hb] at g1
        simp only [Qc] at g1
        simp only [Qo] at hb
        have e:=Qg hb.1
        subst e
        obtain ⟨k1,k2⟩:=Mi (β:=β) cs ds q' g1 g2
        obtain ⟨_,_,b,T,m1,m2,m3⟩:=R.ok Y _ hf
        exact ⟨⟨k2,hb.2⟩,b,T,by simp only [βR,hY]; exact m1,by rw [k1]; exact m2,by simp only [φR,hY]; exact m3⟩
      ·cases g1
     ·cases g1
    | fn F =>
     simp only [Kp] at g1
     split at g1
     ·rename_i Y hY
      split at g1
      ·rename_i F0 hf
       cases g1
       obtain ⟨rfl,_⟩:=g2
       obtain ⟨_,m1⟩:=R.ok Y _ hf
       show FnOK false P ψ w F0 _
       simp only [βR,hY]
       exact m1
      ·cases g1
     ·cases g1
    | part Y V lo sz d=>simp [Kp] at g1
    | vl x d =>
     simp only [Kp] at g1
     split at g1
     ·rename_i Y hY
      split at g1
      ·rename_i x0 d0 hf
       cases g1
       obtain ⟨rfl,g3,_⟩:=g2
       obtain ⟨_,m1,m2⟩:=R.ok Y _ hf
       show βR r β X 0=x0/\RdV ψ w d x0
       simp only [βR,hY]
       exact ⟨m1,g3.rd _ _ _ m2⟩
      ·cases g1
     ·cases g1
   ·rcases hmod X f hX m1 with ⟨Y,g,y1,y2,y3⟩ | h0
    ·rcases hmod X' f' hX' m2 with ⟨Y',g',z1,z2,z3⟩ | h0
     ·simp only [φR,y1] at hb
      simp only [φR,z1] at hb'
      exact R.dis Y Y' g g' y2 z2 y3 z3 (Qjp c1 c3 (Qly hX) (Qly hX') hne m1 m2 y1 z1) b hb hb'
     ·rw [h0] at hb'; cases hb'
    ·rw [h0] at hb; cases hb
   ·rcases hmod X f hX hm with ⟨Y,g,y1,y2,y3⟩ | h0
    ·simp only [φR,y1] at hb
     exact R.lt Y g y2 y3 b hb
    ·rw [h0] at hb; cases hb
   ·simp only [βR]
    split
    ·exact R.all1 _ j
    ·rename_i x hx; exact Qip c2 hx
    ·rfl
  ·cases h
end
inductive Ex where
 | n
 | x (id:Nat)
 | r
def Ex.to:Ex->Exit
 | .n=>.normal
 | .x id=>.exit id
 | .r=>.ret
inductive Cert (D:Bool) (P:Program):Type 1 where
 | no
 | reg (hs:List (Nat×Hint D P))
 | seq (a b:Cert D P)
 | cond (a b:Cert D P)
 | condT (a:Cert D P)
 | condF (a:Cert D P)
 | blk (a:Cert D P)
 | loop {ι:Type} (Sf:ι->St) (I:ι->Prop) (μ:ι->Nat) (i0:ι) (a:ι->Cert D P)
 | cut {ι:Type} (Sf:ι->St) (I:ι->Prop) (a:Cert D P) (b:ι->Cert D P)
 | seqk (ks:List (Nat×Nat)) (a b:Cert D P)
 | seqg (t gi g:Nat) (x:Value) (d:Dat) (a b:Cert D P)
 | seqa (t n:Nat) (a b1 b2:Cert D P)
 | rgs (k:Nat) (hs1:List (Nat×Hint D P)) (t gi g:Nat) (x:Value) (d:Dat) (hs2:List (Nat×Hint D P))
 | nx {α:Type} (f:α->Value) (m left:ML α) (cur:Option (Za×α)) (x0:α) (b:Bool->Za×α->ML α->Cert D P)
 | hnd {ι κ:Type} (S1:ι->St) (I1:ι->Prop) (S2:κ->St) (I2:κ->Prop) (a:Cert D P) (b:κ->Cert D P)
def subP (s S:St) (K:Prop):Prop:=match subV s S with
 | some ps=>ps.foldr And K
 | none=>False
def Ucj (s:St) (t j:Nat):Option Nat:=match slG s.sl t with
 | some a=>(match Ja (fsG s.fs) (match a with | .ag cs=>cs.getD j a | .p id off=>(match Ba (fsG s.fs) id with | some cs=>cs.getD (off+j) a | none=>a) | _=>a) with
  | some (@Dat.l _ _ _ _ xs,_)=>some xs.length
  | _=>none)
 | none=>none
def knw (s:St):List (Nat×Nat)->Prop->Prop
 | [],K=>K
 | (t,j) :: ks,K=>match Ucj s t j with
  | some n=>n<=9223372036854775807->knw s ks K
  | none=>False
def Qms (s:St) (t gi g:Nat) (x:Value) (d:Dat):Option (List Prop×St):=match slG s.sl t with
 | some (.p id 0)=>(match fsG s.fs id,fsG s.fs gi with
  | some (.box T (.v x0 :: cs)),some (.vl x1 d1)=>bif Nat.ble s.nx g then some ([x0=x,GD x1 d1 x d],⟨s.sl,(g,some (.vl x d)) :: (id,some (.box T (.h g 0 :: cs))) :: s.fs,g+1⟩) else none
  | _,_=>none)
 | _=>none
def Qto (P:Program) (N:Nat) {ι κ:Type} (S1:ι->St) (I1:ι->Prop) (S2:κ->St) (I2:κ->Prop):Prop :=
 ∀ (ψ IN:Nat->Prop) (w0 w:World) (a:Act) (i:ι),I1 i->Zw P N ψ IN w0 (S1 i) a w->∃ j,I2 j/\Zw P N ψ IN w0 (S2 j) a w
def Qnq:List Oper->Option (Nat×Nat×Nat)
 | [o1,o2]=>(match o1.op,o2.op,o1.guard,o2.guard,o1.dst,o2.dst with
  | .next (.tmp t) false,.extract (.tmp k) 0,none,none,some d1,some d2=>bif Nat.beq k d1 then some (t,d1,d2) else none
  | _,_,_,_,_,_=>none)
 | _=>none
theorem Qrf {l:List Oper} {t d1 d2:Nat} (h:Qnq l=some (t,d1,d2)):∃ o1 o2,l=[o1,o2]/\o1.guard=none/\o2.guard=none/\o1.op=.next (.tmp t) false/\o2.op=.extract (.tmp d1) 0/\o1.dst=some d1/\o2.dst=some d2:=by
 unfold Qnq at h
 split at h
 ·rename_i o1 o2
  split at h
  ·rename_i t' k e1 e2 h1 h2 h3 h4 h5 h6
   cases hk:Nat.beq k e1 with
   | false=>rw [hk] at h; cases h
   | true =>
    rw [hk] at h
    cases h
    have:=Qg hk
    subst this
    exact ⟨o1,o2,rfl,h3,h4,h1,h2,h5,h6⟩
  ·cases h
 ·cases h
def nxP (N:Nat) {α:Type} (f:α->Value) (m left:ML α) (cur:Option (Za×α)) (s:St) (c:Code) (K:Bool->Za×α->ML α->St->Prop):Prop:=match c with
 | .region _ ops d=>bif d then False else (match Qnq ops.toList with
  | some (t,d1,d2)=>(match slG s.sl t with
   | some (.h X 0)=>(match fsG s.fs X with
    | some (.own _ (.x F))=>F=IX f m left cur/\(Nat.blt d1 N&&Nat.blt d2 N)=true/\∀ (B:Bool) (p:Za×α) (left':ML α),(B=false->left=[])->(B=true->left.Perm (p :: left')) ->
     K B p left' ⟨(d2,some (.v (.bool B))) :: (d1,none) :: s.sl,(X,some (.own s.nx (.x (IX f m (bif B then left' else left) (bif B then some p else cur))))) :: s.fs,s.nx+1⟩
    | _=>False)
   | _=>False)
  | none=>False)
 | _=>False
def cwp {D:Bool} (P:Program) (N:Nat):Code->Cert D P->St->(Ex->St->Prop)->Prop
 | .skip,_,s,Q=>Q .n s
 | .ret,_,s,Q=>Q .r s
 | .exit id,_,s,Q=>Q (.x id) s
 | .region _ ops d,.rgs k hs1 t gi g x dd hs2,s,Q=>bif !d&&ops.toList.all (fun o=>o.guard.isNone) then (match Ph P N s (ops.toList.take k) false hs1 with
  | some (vcs,s1)=>vcs.foldr And (match Qms s1 t gi g x dd with
   | some (ps,s2)=>ps.foldr And (match Ph P N s2 (ops.toList.drop k) false hs2 with
    | some (vcs',s')=>vcs'.foldr And (Q .n s')
    | none=>False)
   | none=>False)
  | none=>False) else False
 | .region _ ops d,.reg hs,s,Q=>match Ph P N s ops.toList d hs with
  | some (vcs,s')=>vcs.foldr And (Q .n s')
  | none=>False
 | .region _ ops d,.no,s,Q=>match Ph P N s ops.toList d ([]:List (Nat×Hint D P)) with
  | some (vcs,s')=>vcs.foldr And (Q .n s')
  | none=>False
 | .seq a b,.seq ca cb,s,Q=>cwp P N a ca s fun e s'=>match e with
  | .n=>cwp P N b cb s' Q
  | .x id=>Q (.x id) s'
  | .r=>Q .r s'
 | .seq a b,.seqk ks ca cb,s,Q=>cwp P N a ca s fun e s'=>match e with
  | .n=>knw s' ks (cwp P N b cb s' Q)
  | .x id=>Q (.x id) s'
  | .r=>Q .r s'
 | .seq a b,.seqa t n ca cb1 cb2,s,Q=>cwp P N a ca s fun e s'=>match e with
  | .n=>(match slG s'.sl t with | some (.h g _)=>bif Nat.beq g n then cwp P N b cb1 s' Q else cwp P N b cb2 s' Q | _=>False)
  | .x id=>Q (.x id) s'
  | .r=>Q .r s'
 | .seq a b,.seqg t gi g x d ca cb,s,Q=>cwp P N a ca s fun e s'=>match e with
  | .n=>(match Qms s' t gi g x d with | some (ps,s2)=>ps.foldr And (cwp P N b cb s2 Q) | none=>False)
  | .x id=>Q (.x id) s'
  | .r=>Q .r s'
 | .seq a b,.cut Sf I ca cb,s,Q=>(cwp P N a ca s fun e s'=>match e with
  | .n=>∃ j,subP s' (Sf j) (I j)
  | .x id=>Q (.x id) s'
  | .r=>Q .r s')/\∀ j,I j->cwp P N b (cb j) (Sf j) Q
 | .seq a b,.nx f m left cur x0 cb,s,Q=>nxP N f m left cur s a fun B p l s'=>cwp P N b (cb B p l) s' Q
 | .seq a b,.hnd S1 I1 S2 I2 ca cb,s,Q=>(cwp P N a ca s fun e s'=>match e with
  | .n=>∃ j,subP s' (S1 j) (I1 j)
  | .x id=>Q (.x id) s'
  | .r=>Q .r s')/\Qto P N S1 I1 S2 I2/\∀ j,I2 j->cwp P N b (cb j) (S2 j) Q
 | .cond c a b,.cond ca cb,s,Q=>match opA (slG s.sl) c with
  | some (.v (.bool B))=>(B=true->cwp P N a ca s Q)/\(B=false->cwp P N b cb s Q)
  | _=>False
 | .cond c a _,.condT ca,s,Q=>match opA (slG s.sl) c with
  | some (.v (.bool B))=>B=true/\cwp P N a ca s Q
  | _=>False
 | .cond c _ b,.condF cb,s,Q=>match opA (slG s.sl) c with
  | some (.v (.bool B))=>B=false/\cwp P N b cb s Q
  | _=>False
 | .block id c,.blk cc,s,Q=>cwp P N c cc s fun e s'=>match e with
  | .n=>Q .n s'
  | .x id'=>bif Nat.beq id' id then Q .n s' else Q (.x id') s'
  | .r=>Q .r s'
 | .loop c,.loop Sf I μ i0 cc,s,Q=>subP s (Sf i0) (I i0)/\∀ i,I i->cwp P N c (cc i) (Sf i) fun e s'=>match e with
  | .n=>∃ j,subP s' (Sf j) (I j/\μ j<μ i)
  | .x id=>Q (.x id) s'
  | .r=>Q .r s'
 | _,_,_,_=>False
theorem Ji {ps:List Prop} {K:Prop} (h:ps.foldr And K):AllP ps/\K:=by
 induction ps with
 | nil=>exact ⟨trivial,h⟩
 | cons p ps ih=>exact ⟨⟨h.1,(ih h.2).1⟩,(ih h.2).2⟩
section
variable {D:Bool} {P:Program} {N:Nat} {ψ IN:Nat->Prop} {w0:World}
theorem Qdr {s S:St} {K:Prop} (h:subP s S K) {a:Act} {w:World} (H:Zw P N ψ IN w0 s a w):Zw P N ψ IN w0 S a w/\K:=by
 unfold subP at h
 split at h
 ·rename_i ps hp
  obtain ⟨h1,h2⟩:=Ji h
  exact ⟨Unc hp h1 H,h2⟩
 ·exact h.elim
theorem Qbp {s:St} {c:Operand} {av:AV} (h:opA (slG s.sl) c=some av) {a:Act} {w:World} {β:Nat->Nat->Value} {φ:Nat->List Nat} {dom:Nat->Prop} (V:StOK P N ψ IN w0 s a w β φ dom):a.eval c=val β av:=by
 cases c with
 | tmp t=>have:=(V.has t av h).1; simp [Act.eval,this]
 | const v=>simp only [opA,Qa] at h; subst h; rfl
 | func f=>simp only [opA,Qa] at h; subst h; rfl
 | global g=>simp [opA] at h
theorem Ucv {s:St} {t j n:Nat} (h:Ucj s t j=some n) {a:Act} {w:World} (H:Zw P N ψ IN w0 s a w):n<=9223372036854775807:=by
 obtain ⟨β,φ,dom,V⟩:=H
 unfold Ucj at h
 split at h
 ·split at h
  ·rename_i hd
   simp only [Qa] at h
   subst h
   obtain ⟨k1,_⟩:=Kl V.rel (fun _ _ h=>h) hd
   obtain ⟨_,_,_,_,h3,_⟩:=k1
   exact h3
  ·cases h
 ·cases h
theorem Uef {s:St} {K:Prop}:∀ {ks:List (Nat×Nat)},knw s ks K->∀ {a:Act} {w:World},Zw P N ψ IN w0 s a w->K
 | [],h,_,_,_=>h
 | (t,j) :: ks,h,a,w,H=>by
  simp only [knw] at h
  split at h
  ·rename_i n hn
   exact Uef (h (Ucv hn H)) H
  ·exact h.elim
theorem Qjt {s s2:St} {t gi g:Nat} {x:Value} {d:Dat} {ps:List Prop} (h:Qms s t gi g x d=some (ps,s2)) (hv:AllP ps) {a:Act} {w:World} (H:Zw P N ψ IN w0 s a w):Zw P N ψ IN w0 s2 a w:=by
 obtain ⟨β,φ,dom,V⟩:=H
 unfold Qms at h
 split at h
 ·rename_i id hid
  split at h
  ·rename_i T x0 cs x1 d1 hb hg
   cases hge:Nat.ble s.nx g with
   | false=>rw [hge] at h; cases h
   | true =>
   rw [hge] at h
   cases h
   have hge:=Rw hge
   obtain ⟨rfl,hgd,_⟩:=hv
   obtain ⟨hd1,⟨hw,hone⟩,b,e1,e2,e3⟩:=V.rel.ok id _ hb
   obtain ⟨hd2,m1,m2⟩:=V.rel.ok gi _ hg
   have hr:=hgd ψ w m2
   have hn:¬ dom g:=fun h=>by have:=V.bound _ h; omega
   have hne:id≠g:=fun e=>hn (e ▸ hd1)
   have hvc:vals (up β g fun _=>x0) cs=vals β cs:=Yr (β:=β) (dom:=dom) (fun i hi=>Ym _ _ _ (fun e:i=g=>hn (e ▸ hi))) _ hw.2
   refine ⟨up β g (fun _=>x0),φ,fun i=>dom i\/i=g,V.size,V.defers,fun t' av ht=>?_,?_,fun i hi=>?_⟩
   ·obtain ⟨k1,k2⟩:=V.has t' av ht
    refine ⟨?_,AV.wf_mono (fun _ h=>.inl h) _ k2⟩
    rw [Vq (β:=β) (dom:=dom) (fun i hi=>Ym _ _ _ (fun e:i=g=>hn (e ▸ hi))) _ k2]
    exact k1
   ·have hlk:∀ i f,fsG ((g,some (.vl x0 d)) :: (id,some (.box T (.h g 0 :: cs))) :: s.fs) i=some f->(i=g/\f=.vl x0 d)\/(i=id/\f=.box T (.h g 0 :: cs))\/(i≠g/\i≠id/\fsG s.fs i=some f):=by
     intro i f hf
     simp only [fsG] at hf
     cases h1:Nat.beq g i with
     | true =>
      rw [h1] at hf
      simp only [Qc,Qa] at hf
      exact .inl ⟨(Qg h1).symm,hf.symm⟩
     | false =>
      rw [h1] at hf
      simp only [Qe] at hf
      have n1:i≠g:=fun e=>by rw [e] at h1; simp at h1
      cases h2:Nat.beq id i with
      | true =>
       rw [h2] at hf
       simp only [Qc,Qa] at hf
       exact .inr (.inl ⟨(Qg h2).symm,hf.symm⟩)
      | false =>
       rw [h2] at hf
       exact .inr (.inr ⟨n1,fun e=>by rw [e] at h2; simp at h2,by simpa using hf⟩)
    refine V.rel.step (NN:=fun i=>i=g\/i=id) (C:=fun _=>False) (Chg.of_below (Bel.refl _ _)) (fun i h=>⟨.inl h,Ym _ _ _ fun e=>hn (e ▸ h)⟩) (Ha V.rel.all1 _ fun _=>hr.one) (fun i f hf=>?_) (fun _ _=>rfl) (fun _ _ h=>h.elim) (fun i f hi hf=>?_) (fun i V' d' hi hf=>?_) (fun i f hi hf hm b' hb'=>?_) (fun i j f f2 hi hj hf hg' hmf hmg hij=>?_)
    ·rcases hlk i f hf with ⟨h,_⟩ | ⟨h,_⟩ | ⟨_,_,h⟩
     ·exact .inl (.inl h)
     ·exact .inl (.inr h)
     ·exact .inr h
    ·rcases hlk i f hf with ⟨rfl,rfl⟩ | ⟨rfl,rfl⟩ | ⟨h1,h2,_⟩
     ·exact ⟨.inr rfl,by show up β i _ i 0=x0/\RdV ψ w d x0; rw [Uf]; exact ⟨rfl,hr⟩⟩
     ·refine ⟨.inl hd1,⟨⟨.inr rfl,AVs.wf_mono (fun _ h=>.inl h) _ hw.2⟩,?_⟩,b,by rw [Ym _ _ _ hne]; exact e1,?_,e3⟩
      ·simp only [Rr,Qo] at hone ⊢
       exact ⟨rfl,hone.2⟩
      ·simp only [vals,val,Uf,hvc]
       simpa only [vals,val] using e2
     ·rcases hi with h | h
      ·exact absurd h h1
      ·exact absurd h h2
    ·rcases hlk i _ hf with ⟨_,h⟩ | ⟨_,h⟩ | ⟨h1,h2,_⟩
     ·cases h
     ·cases h
     ·rcases hi with h | h
      ·exact absurd h h1
      ·exact absurd h h2
    ·rcases hlk i f hf with ⟨_,rfl⟩ | ⟨rfl,rfl⟩ | ⟨h1,h2,_⟩
     ·cases hm
     ·exact ⟨(V.rel.lt i _ hb rfl b' hb').1,.inr ⟨i,_,.inr rfl,hb,rfl,hb'⟩⟩
     ·rcases hi with h | h
      ·exact absurd h h1
      ·exact absurd h h2
    ·rcases hlk i f hf with ⟨_,rfl⟩ | ⟨e1',rfl⟩ | ⟨h1,h2,_⟩
     ·cases hmf
     ·rcases hlk j f2 hg' with ⟨_,rfl⟩ | ⟨e2',rfl⟩ | ⟨h1,h2,_⟩
      ·cases hmg
      ·exact absurd (e1'.trans e2'.symm) hij
      ·rcases hj with h | h
       ·exact absurd h h1
       ·exact absurd h h2
     ·rcases hi with h | h
      ·exact absurd h h1
      ·exact absurd h h2
   ·rcases hi with h | h
    ·have:=V.bound i h; show i<g+1; omega
    ·show i<g+1; omega
  ·cases h
 ·cases h
def parC (n:List Nat):Code->Bool
 | .region _ ops _=>parL n ops.toList
 | .seq a b=>parC n a&&parC n b
 | .cond _ a b=>parC n a&&parC n b
 | .block _ a=>parC n a
 | .loop a=>parC n a
 | _=>true
theorem Par.trans {n:List Nat} {a b c:Act} (h:Par n a b) (h':Par n b c):Par n a c:=fun t ht=>(h' t ht).trans (h t ht)
theorem Ufb {Q:Exit->Act->World->Prop} {l:List Oper} {Inv:(Nat->Prop)->Act->World->Prop} {L:Array Oper} {off:Nat} {rest:List Nat} (hL:∀ i o,l[i]?=some o->L[off+i]?=some o/\o.guard.isNone=true) (hext:∀ S S' a w,(∀ i,i<l.length->(S i↔S' i))->Inv S a w->Inv S' a w)
  (step:∀ S a w i o,l[i]?=some o->(∀ k,S k↔k<i)->Inv S a w->wpOp P l.toArray Q i (fun a' w'=>Inv (fun k=>S k\/k=i) a' w') a w) (fin:∀ a w,Inv (fun k=>k<l.length) a w->wpOps P L Q rest a w) :
  ∀ (n i:Nat),i+n=l.length->∀ a w,Inv (fun k=>k<i) a w->wpOps P L Q (List.range' (off+i) n++rest) a w:=by
 intro n
 induction n with
 | zero =>
  intro i hi a w H
  obtain rfl:i=l.length:=by omega
  exact fin a w H
 | succ n ih =>
  intro i hi a w H
  have hlt:i<l.length:=by omega
  have hi1:l[i]?=some l[i]:=Qh hlt
  obtain ⟨g1,g2⟩:=hL i _ hi1
  rw [Tf,Tc,wpOps_cons]
  have hs:wpOp P l.toArray Q i (wpOps P L Q (List.range' (off+i+1) n++rest)) a w:=wpOp_mono (fun a' w' H'=>ih (i+1) uu0 a' w' (hext _ _ _ _ (fun k _=>by omega) H')) (step _ a w i _ hi1 (fun k=>Iff.rfl) H)
  have hw:∀ y,Region.wanted l[i] y=true:=fun y=>by
   unfold Region.wanted
   cases hg:l[i].guard with
   | none=>rfl
   | some z=>rw [hg] at g2; cases g2
  unfold wpOp at hs ⊢
  rw [show l.toArray[i]?=some l[i] by rw [List.getElem?_toArray]; exact hi1] at hs
  rw [g1]
  simp only [hw,Sx] at hs ⊢
  exact hs
theorem Qgy (hD:D=false->w0.drawn=0) {s s':St} {l:List Oper} {hs:List (Nat×Hint D P)} {vcs:List Prop} (h:Ph P N s l false hs=some (vcs,s')) (hv:AllP vcs) {a:Act} {w:World} (H:Zw P N ψ IN w0 s a w) {Q:Exit->Act->World->Prop} {n:List Nat} (hpar:parL n l=true)
  {L:Array Oper} {off:Nat} {rest:List Nat} (hL:∀ i o,l[i]?=some o->L[off+i]?=some o/\o.guard.isNone=true) (hQ:∀ a' w',Zw P N ψ IN w0 s' a' w'->Par n a a'->wpOps P L Q rest a' w'):wpOps P L Q (List.range' off l.length++rest) a w:=by
 unfold Ph at h
 simp only at h
 split at h
 ·rename_i rs hrs
  cases hc:Lo l N ancT (fun _ _=>false) 0 l rs with
  | false=>rw [hc] at h; cases h
  | true =>
   rw [hc] at h
   simp only [Qc,Qa,Q3] at h
   obtain ⟨rfl,rfl⟩:=h
   obtain ⟨r1,r2,r3⟩:=Qdp l 0 [] hrs rfl
   have HR:Reck P l N (slG s.sl) (fsG s.fs) s.nx ancT (fun _ _=>false) hs rs:=by
    refine ⟨fun i o ho=>?_,fun i o ri ho hr=>?_,by omega,fun i k hk=>by simpa [ancT] using hk,fun i j rj p hne hj hp h1 h2=>?_⟩
    ·have:=r3 i o ho; rwa [Rs] at this
    ·have:=Lu l rs 0 hc i o ri ho hr; rwa [Rs] at this
    ·exfalso
     rw [Qdo] at h1 h2
     omega
   obtain ⟨q1,q2,q3,q4⟩:=Hm (w0:=w0) (ψ:=ψ) (IN:=IN) hD HR hv Q
   have:=Ufb (P:=P) (l:=l) (Q:=Q) (rest:=rest) hL (Inv:=fun S a' w'=>(∃ E β φ dom,Inv2 P l N (slG s.sl) (fsG s.fs) s.nx rs ψ IN w0 S E β φ dom a' w')/\Par n a a') (fun S S' a w e h=>⟨q3 S S' a w e h.1,h.2⟩) (fun S a w i o ho hS hI=>Qft hpar hI.2 <| q1 S a w i o ho (fun h=>by have:=(hS i).1 h; omega) (fun k hk=>(hS k).2 (by simpa [ancT] using hk)) (fun k hk=>by
    have:=(hS k).1 hk
    rw [Qdo]; omega) hI.1) (fun a w h=>hQ a w (q2 a w h.1) h.2) l.length 0 uu0 a w ⟨q3 _ _ a w (fun i _=>by simp) (q4 a w H),fun _ _=>rfl⟩
   simpa using this
 ·cases h
theorem Uah {n:List Nat} {l l':List Oper} (h:parL n l=true) (hs:∀ o∈l',o∈l):parL n l'=true:=by
 unfold parL at *
 rw [Rc] at *
 exact fun o ho=>h o (hs o ho)
theorem Ulk (hD:D=false->w0.drawn=0) {id:Nat} {ops:Array Oper} {d:Bool} {k:Nat} {hs1 hs2:List (Nat×Hint D P)} {t gi g:Nat} {x:Value} {dd:Dat} {s:St} {Q:Ex->St->Prop} (h:cwp P N (.region id ops d) (.rgs k hs1 t gi g x dd hs2) s Q) {a:Act} {w:World} (H:Zw P N ψ IN w0 s a w) {Qm:Exit->Act->World->Prop} {n:List Nat} (hpar:parL n ops.toList=true) (hQ:∀ s' a' w',Q .n s'->Zw P N ψ IN w0 s' a' w'->Par n a a'->Qm .normal a' w'):(Code.region id ops d).wp P Qm a w:=by
 simp only [cwp] at h
 cases hb:(!d&&ops.toList.all (fun o=>o.guard.isNone)) with
 | false=>rw [hb] at h; exact h.elim
 | true =>
  rw [hb,Qc] at h
  rw [Qo,Rc] at hb
  obtain ⟨hd,hg⟩:=hb
  have hd:d=false:=by cases d <;> first | rfl | cases hd
  subst hd
  split at h
  ·rename_i vcs s1 h1
   obtain ⟨v1,h⟩:=Ji h
   split at h
   ·rename_i ps s2 h2
    obtain ⟨v2,h⟩:=Ji h
    split at h
    ·rename_i vcs' s' h3
     obtain ⟨v3,hq⟩:=Ji h
     refine wp_region ?_
     have hlen:ops.size=(ops.toList.take k).length+(ops.toList.drop k).length:=by
      rw [<- Ri,R6,Q8]
     have hall:∀ l':List Oper,(∀ o∈l',o∈ops.toList)->parL n l'=true:=fun l' hl=>Uah hpar hl
     have:=Qgy (Q:=Qm) (L:=ops) (off:=0) (rest:=List.range' (ops.toList.take k).length (ops.toList.drop k).length) hD h1 v1 H (hall _ fun o ho=>Gf ho) (fun i o ho=>by
      rw [Rd] at ho
      split at ho
      ·rw [Rs]
       exact ⟨by simpa using ho,hg o (Q9 ho)⟩
      ·cases ho) (fun a1 w1 H1 p1=>by
      have:=Qgy (Q:=Qm) (L:=ops) (off:=(ops.toList.take k).length) (rest:=[]) hD h3 v3 (Qjt h2 v2 H1) (hall _ fun o ho=>G1 ho) (fun i o ho=>by
       have hlt:i<(ops.toList.drop k).length:=(Qr.1 ho).1
       have hk:(ops.toList.take k).length=k:=by
        rw [R4]; rw [Tq] at hlt; omega
       rw [Rt] at ho
       rw [hk]
       exact ⟨by simpa using ho,hg o (Q9 ho)⟩) (fun a2 w2 H2 p2=>hQ s' a2 w2 hq H2 (p1.trans p2))
      simpa using this)
     rw [List.range_eq_range',hlen,<- List.range'_append_1]
     rw [Rs]
     exact this
    ·exact h.elim
   ·exact h.elim
  ·exact h.elim
theorem Quh (hD:D=false->w0.drawn=0) (hm:P.follows .mixedOrders=true) {id:Nat} {ops:Array Oper} {d:Bool} {hs:List (Nat×Hint D P)} {s:St} {Q:Ex->St->Prop} (h:match Ph P N s ops.toList d hs with
  | some (vcs,s')=>vcs.foldr And (Q .n s')
  | none=>False) {a:Act} {w:World} (H:Zw P N ψ IN w0 s a w) {Qm:Exit->Act->World->Prop} {n:List Nat} (hpar:parL n ops.toList=true) (hQ:∀ s' a' w',Q .n s'->Zw P N ψ IN w0 s' a' w'->Par n a a'->Qm .normal a' w'):(Code.region id ops d).wp P Qm a w:=by
 split at h
 ·rename_i vcs s' hr
  obtain ⟨h1,h2⟩:=Ji h
  have:=Ufm (id:=id) hD hm hr h1 H (Q:=Qm) hpar fun a' w' H' hp=>hQ s' a' w' h2 H' hp
  simpa using this
 ·exact h.elim
theorem nxP_ok {id:Nat} {ops:Array Oper} {d:Bool} {α:Type} {f:α->Value} {m left:ML α} {cur:Option (Za×α)} (x0:α) {s:St} {K:Bool->Za×α->ML α->St->Prop} (h:nxP N f m left cur s (.region id ops d) K) {a:Act} {w:World} (H:Zw P N ψ IN w0 s a w) {Qm:Exit->Act->World->Prop} {n:List Nat} (hpar:parL n ops.toList=true) (hQ:∀ B p l s' a' w',K B p l s'->Zw P N ψ IN w0 s' a' w'->Par n a a'->Qm .normal a' w'):(Code.region id ops d).wp P Qm a w:=by
 simp only [nxP] at h
 cases d with
 | true=>exact h.elim
 | false =>
 rw [Qe] at h
 split at h
 ·rename_i t d1 d2 hsh
  split at h
  ·rename_i X ht
   split at h
   ·rename_i V F hX
    obtain ⟨rfl,hN,h1⟩:=h
    rw [Qo] at hN
    have hN1:d1<N:=by have:=hN.1; simpa [Nat.blt_eq] using this
    have hN2:d2<N:=by have:=hN.2; simpa [Nat.blt_eq] using this
    obtain ⟨β,φ,dom,V0⟩:=H
    obtain ⟨hdX,hdV,hF⟩:=V0.rel.ok X _ hX
    obtain ⟨r,b,hfp,hn,hq⟩:=hF
    obtain ⟨k1,_⟩:=V0.has t _ ht
    obtain ⟨o1,o2,hops,g1,g2,p1,p2,q1,q2⟩:=Qrf hsh
    obtain ⟨L⟩:=ops
    simp only at hops
    subst hops
    have hw:∀ (o:Oper) y,o.guard=none->Region.wanted o y=true:=fun o y hg=>by unfold Region.wanted; rw [hg]
    have hev:a.eval (.tmp t)=β X 0:=show a.eval (.tmp t)=val β (.h X 0) by simp [Act.eval,k1]
    have hp1:d1 ∉ n/\d2 ∉ n:=by
     have hD':∀ d,parD n (some d)=true->d ∉ n:=fun d h hm=>by
      have h:(!(n.any (Nat.beq d)))=true:=h
      rw [Tl] at h
      have:=List.any_eq_false.1 h d hm
      simp at this
     unfold parL at hpar
     have hpar:(parD n o1.dst&&(parD n o2.dst&&true))=true:=hpar
     rw [q1,q2,R7,Qo] at hpar
     exact ⟨hD' _ hpar.1,hD' _ hpar.2⟩
    have both:∀ (v:Value) (B:Bool) (w':World),(∃ vs:Array Value,v=.tuple vs/\vs[0]?=some (.bool B))->(Instr.next (β X 0) false o1.type).run P w=.ok v w' ->
      Qm .normal ((a.put (some d1) v).put (some d2) (.bool B)) w'->(Code.region id ⟨[o1,o2]⟩ false).wp P Qm a w:=by
     rintro v B w' ⟨vs,rfl,hB⟩ hrun hq'
     refine wp_region ?_
     rw [show List.range (⟨[o1,o2]⟩:Array Oper).size=[0,1] from rfl,wpOps_cons]
     unfold wpOp
     rw [show (⟨[o1,o2]⟩:Array Oper)[0]?=some o1 from rfl]
     simp only [hw o1 _ g1,Sx]
     refine .inl ?_
     have e1:(execOp a.eval o1).run P w=.ok (.value (.tuple vs)) w':=by
      simp [execOp,p1,hev,hrun,Result.andThen]
     unfold Oper.wp
     rw [e1,Oper.upon_value,q1,wpOps_cons]
     unfold wpOp
     rw [show (⟨[o1,o2]⟩:Array Oper)[1]?=some o2 from rfl]
     simp only [hw o2 _ g2,Sx]
     refine .inl ?_
     have hev2:(a.put (some d1) (.tuple vs)).eval (.tmp d1)=.tuple vs:=by
      have:d1<a.tmps.size:=by rw [V0.size]; exact hN1
      simp [Act.eval,Act.put,this]
     have e2:(execOp (a.put (some d1) (.tuple vs)).eval o2).run P w'=.ok (.value (.bool B)) w':=by
      simp [execOp,p2,hev2,Instr.extract,hB,Result.andThen]
     unfold Oper.wp
     rw [e2,Oper.upon_value,q2]
     exact hq'
    have hpa:∀ v B,Par n a ((a.put (some d1) v).put (some d2) (.bool B)):=fun v B t' ht'=>by
     have n1:t'≠d1:=fun e=>hp1.1 (e ▸ ht')
     have n2:t'≠d2:=fun e=>hp1.2 (e ▸ ht')
     simp [Act.put,Tb,Ne.symm n1,Ne.symm n2]
    have hhas:∀ (dom':Nat->Prop) v B t' av,(∀ i,dom i->dom' i)->slG ((d2,some (.v (.bool B))) :: (d1,none) :: s.sl) t'=some av->((a.put (some d1) v).put (some d2) (.bool B)).tmps[t']?=some (val β av)/\av.wf dom':=fun dom' v B t' av hdm hs'=>by
     simp only [slG] at hs'
     cases c2:Nat.beq d2 t' with
     | true =>
      rw [c2] at hs'
      simp only [Qc,Qa] at hs'
      subst hs'
      have:=Qg c2
      subst this
      have hz:d2<a.tmps.size:=by rw [V0.size]; exact hN2
      exact ⟨by simp [Act.put,hz,val],trivial⟩
     | false =>
      rw [c2] at hs'
      simp only [Qe] at hs'
      cases c1:Nat.beq d1 t' with
      | true=>rw [c1] at hs'; cases hs'
      | false =>
       rw [c1] at hs'
       simp only [Qe] at hs'
       obtain ⟨j1,j2⟩:=V0.has t' av hs'
       have n1:d1≠t':=fun e=>by rw [e] at c1; simp at c1
       have n2:d2≠t':=fun e=>by rw [e] at c2; simp at c2
       refine ⟨?_,AV.wf_mono hdm _ j2⟩
       simp [Act.put,Tb,n1,n2,j1]
    have hsz:∀ v B,((a.put (some d1) v).put (some d2) (.bool B)).tmps.size=N:=fun v B=>by simp [Act.put,V0.size]
    have fin:∀ (B:Bool) (p:Za×α) (left':ML α) (vs:Array Value) (w':World),(B=false->left=[])->(B=true->left.Perm (p :: left'))->vs[0]?=some (.bool B)->(Instr.next (β X 0) false o1.type).run P w=.ok (.tuple vs) w' ->
      IXQ f m (bif B then left' else left) (bif B then some p else cur) w' (β X 0) r b->Chg0 (·=r) w w'->w.drawn<=w'.drawn->w'.heap.size=w.heap.size->(Code.region id ⟨[o1,o2]⟩ false).wp P Qm a w:=by
     intro B p left' vs w' hB0 hB1 hvs hrun hq' hc hdr hws
     have hlk:∀ i g,fsG ((X,some (.own s.nx (.x (IX f m (bif B then left' else left) (bif B then some p else cur))))) :: s.fs) i=some g->(i=X/\g=.own s.nx (.x (IX f m (bif B then left' else left) (bif B then some p else cur))))\/(i≠X/\fsG s.fs i=some g):=by
      intro i g hg
      simp only [fsG] at hg
      cases c:Nat.beq X i with
      | true =>
       rw [c] at hg
       simp only [Qc,Qa] at hg
       exact .inl ⟨(Qg c).symm,hg.symm⟩
      | false =>
       rw [c] at hg
       exact .inr ⟨fun e=>by rw [e] at c; simp at c,by simpa using hg⟩
     have hrel:Rel P (fsG ((X,some (.own s.nx (.x (IX f m (bif B then left' else left) (bif B then some p else cur))))) :: s.fs)) β φ (fun i=>dom i\/i=s.nx) ψ IN w0 w':=by
      refine V0.rel.step0 (NN:=fun i=>i=X) (C:=fun b=>b=r) hc (Q5 V0.rel.chg.drawn hdr) (fun i h=>⟨.inl h,rfl⟩) V0.rel.all1 (fun i g hg=>?_) (fun _ _=>rfl) (fun b' _ h=>?_) (fun i g hi hg=>?_) (fun i V' d' hi hg=>?_) (fun i g hi hg hm b' hb'=>?_) (fun i j g g' hi hj hg hg' _ _ hne=>?_)
      ·rcases hlk i g hg with ⟨h,_⟩ | ⟨_,h⟩
       ·exact .inl h
       ·exact .inr h
      ·exact ⟨X,_,rfl,hX,rfl,by rw [hfp,h]; exact Ql⟩
      ·rcases hlk i g hg with ⟨rfl,rfl⟩ | ⟨h,_⟩
       ·exact ⟨.inl hdX,.inr rfl,r,b,hfp,hn,hq'⟩
       ·exact absurd hi h
      ·rcases hlk i _ hg with ⟨_,h⟩ | ⟨h,_⟩
       ·cases h
        intro hd'
        exact absurd (V0.bound _ hd') (Nat.lt_irrefl _)
       ·exact absurd hi h
      ·have hi':i=X:=hi
       subst hi'
       exact ⟨by rw [hws]; exact (V0.rel.lt i _ hX rfl b' hb').1,.inr ⟨i,_,rfl,hX,rfl,hb'⟩⟩
      ·exact absurd (hi.trans hj.symm) hne
     refine both _ B w' ⟨_,rfl,hvs⟩ hrun (hQ _ _ _ _ _ _ (h1 B p left' hB0 hB1) ⟨β,φ,fun i=>dom i\/i=s.nx,hsz _ _,V0.defers,fun t' av h=>hhas _ _ _ t' av (fun _ h=>.inl h) h,hrel,fun i hi=>?_⟩ (hpa _ _))
     rcases hi with h | h
     ·have:=V0.bound i h; show i<s.nx+1; omega
     ·show i<s.nx+1; omega
    rcases IXQ.next hq hn o1.type with ⟨hl,hrun⟩ | ⟨p,left',w',hp,hrun,hq',hc,hdr,hws⟩
    ·exact fin false (Zi,x0) [] _ w (fun _=>hl) (fun h=>by cases h) rfl hrun hq ⟨rfl,rfl,rfl,Qq _,fun _ _ _=>rfl⟩ (Qq _) rfl
    ·exact fin true p left' _ w' (fun h=>by cases h) (fun _=>hp) rfl hrun hq' hc hdr hws
   ·exact h.elim
  ·exact h.elim
 ·exact h.elim
theorem Kd (hD:D=false->w0.drawn=0) (hm:P.follows .mixedOrders=true) {n:List Nat} (a0:Act):∀ (c:Code) (ct:Cert D P) (s:St) (Q:Ex->St->Prop),parC n c=true->cwp P N c ct s Q->∀ (a:Act) (w:World),Zw P N ψ IN w0 s a w->Par n a0 a->∀ (Qm:Exit->Act->World->Prop),(∀ e s' a' w',Q e s'->Zw P N ψ IN w0 s' a' w'->Par n a0 a'->Qm e.to a' w')->c.wp P Qm a w
 | .skip,ct,s,Q,hc,h,a,w,H,hp,Qm,hQ=>wp_skip (hQ .n s a w (by cases ct <;> exact h) H hp)
 | .ret,ct,s,Q,hc,h,a,w,H,hp,Qm,hQ=>wp_ret (hQ .r s a w (by cases ct <;> exact h) H hp)
 | .exit id,ct,s,Q,hc,h,a,w,H,hp,Qm,hQ=>wp_exit (hQ (.x id) s a w (by cases ct <;> exact h) H hp)
 | .region id ops d,ct,s,Q,hc,h,a,w,H,hp,Qm,hQ=>by
  cases ct with
  | reg hs=>exact Quh hD hm h H hc fun s' a' w' h1 h2 h3=>hQ .n s' a' w' h1 h2 (hp.trans h3)
  | no=>exact Quh hD hm h H hc fun s' a' w' h1 h2 h3=>hQ .n s' a' w' h1 h2 (hp.trans h3)
  | rgs k hs1 t gi g x dd hs2=>exact Ulk hD h H hc fun s' a' w' h1 h2 h3=>hQ .n s' a' w' h1 h2 (hp.trans h3)
  | _=>simp [cwp] at h
 | .seq x y,ct,s,Q,hc,h,a,w,H,hp,Qm,hQ=>by
  simp only [parC,Qo] at hc
  cases ct with
  | seq cx cy =>
   refine wp_seq (Kd hD hm a0 x cx s _ hc.1 h a w H hp _ fun e s' a' w' h1 h2 h3=>?_)
   cases e with
   | n=>exact Kd hD hm a0 y cy s' Q hc.2 h1 a' w' h2 h3 Qm hQ
   | x id=>exact hQ _ _ _ _ h1 h2 h3
   | r=>exact hQ _ _ _ _ h1 h2 h3
  | seqk ks cx cy =>
   refine wp_seq (Kd hD hm a0 x cx s _ hc.1 h a w H hp _ fun e s' a' w' h1 h2 h3=>?_)
   cases e with
   | n=>exact Kd hD hm a0 y cy s' Q hc.2 (Uef h1 h2) a' w' h2 h3 Qm hQ
   | x id=>exact hQ _ _ _ _ h1 h2 h3
   | r=>exact hQ _ _ _ _ h1 h2 h3
  | seqa t n cx cy1 cy2 =>
   refine wp_seq (Kd hD hm a0 x cx s _ hc.1 h a w H hp _ fun e s' a' w' h1 h2 h3=>?_)
   cases e with
   | n =>
    simp only at h1
    split at h1
    ·rename_i g _ _
     cases hb:Nat.beq g n with
     | true=>rw [hb] at h1; exact Kd hD hm a0 y cy1 s' Q hc.2 h1 a' w' h2 h3 Qm hQ
     | false=>rw [hb] at h1; exact Kd hD hm a0 y cy2 s' Q hc.2 h1 a' w' h2 h3 Qm hQ
    ·exact h1.elim
   | x id=>exact hQ _ _ _ _ h1 h2 h3
   | r=>exact hQ _ _ _ _ h1 h2 h3
  | seqg t gi g x d cx cy =>
   refine wp_seq (Kd hD hm a0 _ cx s _ hc.1 h a w H hp _ fun e s' a' w' h1 h2 h3=>?_)
   cases e with
   | n =>
    simp only at h1
    split at h1
    ·rename_i ps s2 hs2
     obtain ⟨q1,q2⟩:=Ji h1
     exact Kd hD hm a0 _ cy s2 Q hc.2 q2 a' w' (Qjt hs2 q1 h2) h3 Qm hQ
    ·exact h1.elim
   | x id=>exact hQ _ _ _ _ h1 h2 h3
   | r=>exact hQ _ _ _ _ h1 h2 h3
  | nx f m left cur x0 cy =>
   simp only [cwp] at h
   cases x with
   | region id ops d=>exact wp_seq (nxP_ok x0 h H (n:=n) hc.1 fun B p l s' a' w' h1 h2 h3=>Kd hD hm a0 y (cy B p l) s' Q hc.2 h1 a' w' h2 (hp.trans h3) Qm hQ)
   | _=>exact h.elim
  | cut Sf I cx cy =>
   obtain ⟨h,h'⟩:=h
   refine wp_seq (Kd hD hm a0 x cx s _ hc.1 h a w H hp _ fun e s' a' w' h1 h2 h6=>?_)
   cases e with
   | n =>
    obtain ⟨j,h3⟩:=h1
    obtain ⟨h4,h5⟩:=Qdr h3 h2
    exact Kd hD hm a0 y (cy j) (Sf j) Q hc.2 (h' j h5) a' w' h4 h6 Qm hQ
   | x id=>exact hQ _ _ _ _ h1 h2 h6
   | r=>exact hQ _ _ _ _ h1 h2 h6
  | hnd S1 I1 S2 I2 cx cy =>
   obtain ⟨h,hh,h'⟩:=h
   refine wp_seq (Kd hD hm a0 x cx s _ hc.1 h a w H hp _ fun e s' a' w' h1 h2 h6=>?_)
   cases e with
   | n =>
    obtain ⟨j,h3⟩:=h1
    obtain ⟨h4,h5⟩:=Qdr h3 h2
    obtain ⟨k,h7,h8⟩:=hh ψ IN w0 w' a' j h5 h4
    exact Kd hD hm a0 y (cy k) (S2 k) Q hc.2 (h' k h7) a' w' h8 h6 Qm hQ
   | x id=>exact hQ _ _ _ _ h1 h2 h6
   | r=>exact hQ _ _ _ _ h1 h2 h6
  | _=>simp [cwp] at h
 | .cond c x y,ct,s,Q,hc,h,a,w,H,hp,Qm,hQ=>by
  simp only [parC,Qo] at hc
  cases ct with
  | cond cx cy =>
   simp only [cwp] at h
   split at h
   ·rename_i B hB
    have hev:a.eval c=.bool B:=by
     obtain ⟨β,φ,dom,V⟩:=H
     exact Qbp hB V
    exact wp_cond_split hev (fun hb=>Kd hD hm a0 x cx s Q hc.1 (h.1 hb) a w H hp Qm hQ) (fun hb=>Kd hD hm a0 y cy s Q hc.2 (h.2 hb) a w H hp Qm hQ)
   ·exact h.elim
  | condT cx =>
   simp only [cwp] at h
   split at h
   ·rename_i B hB
    have hev:a.eval c=.bool B:=by
     obtain ⟨β,φ,dom,V⟩:=H
     exact Qbp hB V
    exact wp_cond_split hev (fun hb=>Kd hD hm a0 x cx s Q hc.1 h.2 a w H hp Qm hQ) (fun hb=>by rw [h.1] at hb; cases hb)
   ·exact h.elim
  | condF cy =>
   simp only [cwp] at h
   split at h
   ·rename_i B hB
    have hev:a.eval c=.bool B:=by
     obtain ⟨β,φ,dom,V⟩:=H
     exact Qbp hB V
    exact wp_cond_split hev (fun hb=>by rw [h.1] at hb; cases hb) (fun hb=>Kd hD hm a0 y cy s Q hc.2 h.2 a w H hp Qm hQ)
   ·exact h.elim
  | _=>simp [cwp] at h
 | .block id c,ct,s,Q,hc,h,a,w,H,hp,Qm,hQ=>by
  cases ct with
  | blk cc =>
   refine wp_block (Kd hD hm a0 c cc s _ hc h a w H hp _ fun e s' a' w' h1 h2 h3=>?_)
   cases e with
   | n=>exact hQ .n s' a' w' h1 h2 h3
   | x id' =>
    simp only at h1
    cases hb:Nat.beq id' id with
    | true =>
     rw [hb] at h1
     have e:=Qg hb
     subst e
     simp only [Ex.to,Exit.inBlock,Sx]
     exact hQ .n s' a' w' h1 h2 h3
    | false =>
     rw [hb] at h1
     have hne:id'≠id:=fun e=>by rw [e] at hb; simp at hb
     simp only [Ex.to,Exit.inBlock,if_neg hne]
     exact hQ (.x id') s' a' w' h1 h2 h3
   | r=>exact hQ .r s' a' w' h1 h2 h3
  | _=>simp [cwp] at h
 | .loop c,ct,s,Q,hc,h,a,w,H,hp,Qm,hQ=>by
  cases ct with
  | loop Sf I μ i0 cc =>
   obtain ⟨h,h'⟩:=h
   obtain ⟨h1,h2⟩:=Qdr h H
   refine wp_loop_ghost (fun n' a w=>∃ i,μ i=n'/\Zw P N ψ IN w0 (Sf i) a w/\I i/\Par n a0 a) (μ i0) ⟨i0,rfl,h1,h2,hp⟩ ?_
   rintro n' a w ⟨i,rfl,hf,hI,hp⟩
   refine Code.wp_mono ?_ (Kd hD hm a0 c (cc i) (Sf i) _ hc (h' i hI) a w hf hp (Exit.then (fun a' w'=>∃ j,Zw P N ψ IN w0 (Sf j) a' w'/\I j/\μ j<μ i/\Par n a0 a') Qm) fun e s' a' w' h1 h2 h7=>?_)
   ·intro e a' w' hq
    cases e with
    | normal=>obtain ⟨j,h1,h2,h3,h4⟩:=hq; exact ⟨μ j,h3,j,rfl,h1,h2,h4⟩
    | exit id=>exact hq
    | goto l=>exact hq
    | ret=>exact hq
    | panic ch=>exact hq
    | outgrown=>exact hq
   ·cases e with
    | n =>
     obtain ⟨j,h3⟩:=h1
     obtain ⟨h4,h5,h6⟩:=Qdr h3 h2
     exact ⟨j,h4,h5,h6,h7⟩
    | x id=>exact hQ _ _ _ _ h1 h2 h7
    | r=>exact hQ _ _ _ _ h1 h2 h7
  | _=>simp [cwp] at h
 | .scope _,ct,s,Q,hc,h,a,w,H,hp,Qm,hQ=>by cases ct <;> simp [cwp] at h
 | .label _,ct,s,Q,hc,h,a,w,H,hp,Qm,hQ=>by cases ct <;> simp [cwp] at h
 | .goto _,ct,s,Q,hc,h,a,w,H,hp,Qm,hQ=>by cases ct <;> simp [cwp] at h
 | .refuse _,ct,s,Q,hc,h,a,w,H,hp,Qm,hQ=>by cases ct <;> simp [cwp] at h
 | .rangeFunc ..,ct,s,Q,hc,h,a,w,H,hp,Qm,hQ=>by cases ct <;> simp [cwp] at h
end
def Va:Nat->List Dat->List AV×List (Nat×Option Fact)×Nat
 | n,[]=>([],[],n)
 | n,.v x :: ds=>let b:=Va n ds; (.v x :: b.1,b.2)
 | n,d :: ds=>let b:=Va (n+1) ds; (.h n 0 :: b.1,(n,some (.shr none d)) :: b.2.1,b.2.2)
def inA (n:Nat):Arg->AV×List (Nat×Option Fact)×Nat
 | .r (.c (.v x))=>(.v x,[],n)
 | .r (.c d)=>(.h n 0,[(n,some (.shr none d))],n+1)
 | .r (.g ds)=>let c:=Va n ds; (.ag c.1,c.2)
 | .pt T ds _=>let c:=Un n ds; (.p c.2.2 0,c.2.1++[(c.2.2,some (.box T c.1))],c.2.2+1)
 | .rp ds=>(.p n 0,[(n,some (.mem none none ds))],n+1)
 | .ow d _=>(.h n 0,[(n,some (.own n d))],n+1)
 | .og ds _=>let c:=Un n ds; (.ag c.1,c.2)
 | .ot ds=>let c:=Un n ds; (.ag c.1,c.2)
 | .vl x d=>(.h n 0,[(n,some (.vl x d))],n+1)
 | .ptg _ T x d ds _=>let c:=Un (n+1) ds; (.p c.2.2 0,(n,some (.vl x d)) :: (c.2.1++[(c.2.2,some (.box T ([.h n 0]++c.1)))]),c.2.2+1)
 | .fn F _=>(.h n 0,[(n,some (.fn F))],n+1)
def inAs:Nat->List Arg->List AV×List (Nat×Option Fact)×Nat
 | n,[]=>([],[],n)
 | n,a :: azz=>let x:=inA n a; let b:=inAs x.2.2 azz; (x.1 :: b.1,x.2.1++b.2.1,b.2.2)
def Lv:Nat->List AV->List (Nat×Option AV)
 | _,[]=>[]
 | i,a :: azz=>(i,some a) :: Lv (i+1) azz
def stIn (azz:List Arg):St:=⟨Lv 0 (inAs 0 azz).1,(inAs 0 azz).2.1.reverse,(inAs 0 azz).2.2⟩
section
variable {P:Program} {fs:Nat->Option Fact} {β:Nat->Nat->Value} {φ:Nat->List Nat} {dom ψ IN:Nat->Prop} {w0 w:World}
theorem RL.addN {L:List Nat} (H:RL P fs β φ dom ψ IN w0 w L) (n:Nat) (hn:¬ dom n) (g:Fact) (βn:Nat->Value) (hm:g.mod=false) (hone:∀ j,(βn j).oneCell'=true) (hF:∀ fs' φ' dom',Jz P fs' (up β n βn) φ' dom' ψ w n g) :
  RL P (fupd fs n (some g)) (up β n βn) φ (fun i=>dom i\/i=n) ψ IN w0 w L/\Ext β (up β n βn) dom (fun i=>dom i\/i=n) n (n+1):=by
 have hlk:∀ id g',fupd fs n (some g) id=some g'->(id=n/\g'=g)\/(id≠n/\fs id=some g'):=by
  intro id g' h
  rw [Yo] at h
  by_cases e:id=n
  ·rw [if_pos e] at h; exact .inl ⟨e,(Sj h).symm⟩
  ·rw [if_neg e] at h; exact .inr ⟨e,h⟩
 refine ⟨⟨H.rel.step (NN:=(·=n)) (C:=fun _=>False) (Chg.of_below (Bel.refl _ _)) (fun id h=>⟨.inl h,Ym _ _ _ fun e=>hn (e ▸ h)⟩) (Ha H.rel.all1 _ hone) (fun id g' h=>?_) (fun _ _=>rfl) (fun b _ h=>h.elim) (fun id g' hn' h=>?_) (fun id V d hn' h=>?_) (fun id g' hn' h hm'=>?_) (fun i j g1 g2 hi hj _ _ _ _ hne=>absurd (hi.trans hj.symm) hne),H.loose.1,fun b hb=>?_⟩,⟨Ru _,fun id h=>⟨.inl h,Ym _ _ _ fun e=>hn (e ▸ h)⟩,fun id h=>?_⟩⟩
 ·rcases hlk id g' h with ⟨h,_⟩ | ⟨_,h⟩
  ·exact .inl h
  ·exact .inr h
 ·subst hn'
  rcases hlk id g' h with ⟨_,rfl⟩ | ⟨h,_⟩
  ·exact ⟨.inr rfl,hF _ _ _⟩
  ·exact absurd rfl h
 ·subst hn'
  rcases hlk id _ h with ⟨_,rfl⟩ | ⟨h,_⟩
  ·cases hm
  ·exact absurd rfl h
 ·subst hn'
  rcases hlk id _ h with ⟨_,rfl⟩ | ⟨h,_⟩
  ·rw [hm] at hm'; cases hm'
  ·exact absurd rfl h
 ·obtain ⟨k1,k2,k3,k4⟩:=H.loose.2 b hb
  refine ⟨k1,k2,k3,fun id g' h hm'=>?_⟩
  rcases hlk id g' h with ⟨_,rfl⟩ | ⟨_,h⟩
  ·rw [hm] at hm'; cases hm'
  ·exact k4 id g' h hm'
 ·rcases h with h | rfl
  ·exact .inl h
  ·exact .inr ⟨Qq _,Qn _⟩
theorem Vn:∀ (ds:List Dat) (n:Nat) (fs:Nat->Option Fact) (β:Nat->Nat->Value) (dom:Nat->Prop) (vs:List Value) (L:List Nat),RL P fs β φ dom ψ IN w0 w L->(∀ id,n<=id->¬ dom id)->RdVs ψ w ds vs ->
  ∃ β' dom',RL P (Yc fs (Va n ds).2.1) β' φ dom' ψ IN w0 w L/\Ext β β' dom dom' n (Va n ds).2.2/\vals β' (Va n ds).1=vs/\AVs.wf dom' (Va n ds).1
 | [],n,fs,β,dom,vs,L,H,hn,ho=>by
  obtain rfl:vs=[]:=ho
  exact ⟨β,dom,H,Ext.refl _ _ _,rfl,trivial⟩
 | .v x :: ds,n,fs,β,dom,vs,L,H,hn,ho=>by
  obtain ⟨u,us,rfl,h1,h2⟩:=ho
  obtain ⟨rfl,hx⟩:=h1
  obtain ⟨β',dom',k1,k2,k3,k4⟩:=Vn ds n fs β dom us L H hn h2
  exact ⟨β',dom',k1,k2,by simp only [Va,vals,val,k3],⟨trivial,k4⟩⟩
 | @Dat.l α _ sz enc xs :: ds,n,fs,β,dom,vs,L,H,hn,ho=>by
  obtain ⟨u,us,rfl,h1,h2⟩:=ho
  obtain ⟨k1,k2⟩:=H.addN n (hn n (Qq _)) (.shr none (.l sz enc xs)) (fun _=>u) rfl (fun _=>h1.one) (fun _ _ _=>by show RdV ψ w _ _; rw [Uf]; exact h1)
  obtain ⟨β',dom',m1,m2,m3,m4⟩:=Vn ds (n+1) _ _ _ us L k1 (fun id h hd=>by
   rcases hd with hd | rfl
   ·exact hn id uu0 hd
   ·omega) h2
  obtain ⟨q1,q2⟩:=m2.old n (.inr rfl)
  exact ⟨β',dom',m1,k2.trans m2,by simp only [Va,vals,val,m3]; rw [q2,Uf],⟨q1,m4⟩⟩
 | .any :: ds,n,fs,β,dom,vs,L,H,hn,ho=>by
  obtain ⟨u,us,rfl,h1,h2⟩:=ho
  obtain ⟨k1,k2⟩:=H.addN n (hn n (Qq _)) (.shr none .any) (fun _=>u) rfl (fun _=>h1.one) (fun _ _ _=>by show RdV ψ w _ _; rw [Uf]; exact h1)
  obtain ⟨β',dom',m1,m2,m3,m4⟩:=Vn ds (n+1) _ _ _ us L k1 (fun id h hd=>by
   rcases hd with hd | rfl
   ·exact hn id uu0 hd
   ·omega) h2
  obtain ⟨q1,q2⟩:=m2.old n (.inr rfl)
  exact ⟨β',dom',m1,k2.trans m2,by simp only [Va,vals,val,m3]; rw [q2,Uf],⟨q1,m4⟩⟩
 | .x XX :: ds,n,fs,β,dom,vs,L,H,hn,ho=>by
  obtain ⟨u,us,rfl,h1,h2⟩:=ho
  obtain ⟨k1,k2⟩:=H.addN n (hn n (Qq _)) (.shr none (.x XX)) (fun _=>u) rfl (fun _=>h1.one) (fun _ _ _=>by show RdV ψ w _ _; rw [Uf]; exact h1)
  obtain ⟨β',dom',m1,m2,m3,m4⟩:=Vn ds (n+1) _ _ _ us L k1 (fun id h hd=>by
   rcases hd with hd | rfl
   ·exact hn id uu0 hd
   ·omega) h2
  obtain ⟨q1,q2⟩:=m2.old n (.inr rfl)
  exact ⟨β',dom',m1,k2.trans m2,by simp only [Va,vals,val,m3]; rw [q2,Uf],⟨q1,m4⟩⟩
 | .b DD :: ds,n,fs,β,dom,vs,L,H,hn,ho=>by
  obtain ⟨u,us,rfl,h1,h2⟩:=ho
  obtain ⟨k1,k2⟩:=H.addN n (hn n (Qq _)) (.shr none (.b DD)) (fun _=>u) rfl (fun _=>h1.one) (fun _ _ _=>by show RdV ψ w _ _; rw [Uf]; exact h1)
  obtain ⟨β',dom',m1,m2,m3,m4⟩:=Vn ds (n+1) _ _ _ us L k1 (fun id h hd=>by
   rcases hd with hd | rfl
   ·exact hn id uu0 hd
   ·omega) h2
  obtain ⟨q1,q2⟩:=m2.old n (.inr rfl)
  exact ⟨β',dom',m1,k2.trans m2,by simp only [Va,vals,val,m3]; rw [q2,Uf],⟨q1,m4⟩⟩
theorem inA_ok (hψ:∀ b,ψ b->b<w.heap.size):∀ (a:Arg) (n:Nat) (fs:Nat->Option Fact) (β:Nat->Nat->Value) (φ:Nat->List Nat) (dom:Nat->Prop) (v:Value) (f L:List Nat),RL P fs β φ dom ψ IN w0 w (f++L)->(∀ id,n<=id->¬ dom id)->ArgOK P ψ w a v f ->
  ∃ β' φ' dom',RL P (Yc fs (inA n a).2.1) β' φ' dom' ψ IN w0 w L/\Ext β β' dom dom' n (inA n a).2.2/\val β' (inA n a).1=v/\(inA n a).1.wf dom':=by
 intro a n fs β φ dom v f L H hn ho
 cases a with
 | r a =>
  obtain ⟨h1,rfl⟩:=ho
  cases a with
  | c d =>
   cases d with
   | v x =>
    obtain ⟨rfl,hx⟩:=h1
    exact ⟨β,φ,dom,H,Ext.refl _ _ _,rfl,trivial⟩
   | l sz enc xs =>
    obtain ⟨k1,k2⟩:=H.addN n (hn n (Qq _)) (.shr none (.l sz enc xs)) (fun _=>v) rfl (fun _=>RdV.one h1) (fun _ _ _=>by show RdV ψ w _ _; rw [Uf]; exact h1)
    exact ⟨_,_,_,k1,k2,by simp only [inA,val,Uf],.inr rfl⟩
   | any =>
    obtain ⟨k1,k2⟩:=H.addN n (hn n (Qq _)) (.shr none .any) (fun _=>v) rfl (fun _=>RdV.one h1) (fun _ _ _=>by show RdV ψ w _ _; rw [Uf]; exact h1)
    exact ⟨_,_,_,k1,k2,by simp only [inA,val,Uf],.inr rfl⟩
   | x XX =>
    obtain ⟨k1,k2⟩:=H.addN n (hn n (Qq _)) (.shr none (.x XX)) (fun _=>v) rfl (fun _=>RdV.one h1) (fun _ _ _=>by show RdV ψ w _ _; rw [Uf]; exact h1)
    exact ⟨_,_,_,k1,k2,by simp only [inA,val,Uf],.inr rfl⟩
   | b DD =>
    obtain ⟨k1,k2⟩:=H.addN n (hn n (Qq _)) (.shr none (.b DD)) (fun _=>v) rfl (fun _=>RdV.one h1) (fun _ _ _=>by show RdV ψ w _ _; rw [Uf]; exact h1)
    exact ⟨_,_,_,k1,k2,by simp only [inA,val,Uf],.inr rfl⟩
  | g ds =>
   obtain ⟨vs,rfl,h2⟩:=h1
   obtain ⟨β',dom',k1,k2,k3,k4⟩:=Vn ds n fs β dom vs L H hn h2
   exact ⟨β',φ,dom',k1,k2,by simp only [inA,val,k3],k4⟩
 | pt T ds ds' =>
  obtain ⟨b,vs,f2,rfl,e2,e3,rfl,e4⟩:=ho
  obtain ⟨β1,φ1,dom1,k1,k2,k3,k4⟩:=RL.box (L:=L) H [] trivial rfl n (fun id h _=>hn id h) e2 e3
  exact ⟨β1,φ1,dom1,k1,k2,by simp only [inA,val,k3,padd,Rs],k4⟩
 | vl x d =>
  obtain ⟨⟨rfl,h1⟩,rfl⟩:=ho
  obtain ⟨k1,k2⟩:=H.addN n (hn n (Qq _)) (.vl v d) (fun _=>v) rfl (fun _=>RdV.one h1) (fun _ _ _=>by show up β n (fun _=>v) n 0=v/\RdV ψ w d v; rw [Uf]; exact ⟨rfl,h1⟩)
  exact ⟨_,_,_,k1,k2,by simp only [inA,val,Uf],.inr rfl⟩
 | ptg gi T x d ds ds' =>
  obtain ⟨⟨b,vs,f2,rfl,e2,e3,rfl,e4⟩,h1⟩:=ho
  obtain ⟨k1,k2⟩:=H.addN n (hn n (Qq _)) (.vl x d) (fun _=>x) rfl (fun _=>RdV.one h1) (fun _ _ _=>by show up β n (fun _=>x) n 0=x/\RdV ψ w d x; rw [Uf]; exact ⟨rfl,h1⟩)
  obtain ⟨β1,φ1,dom1,m1,m2,m3,m4⟩:=RL.box (L:=L) k1 [.h n 0] ⟨.inr rfl,trivial⟩ rfl (n+1) (fun id h _ hd=>by
   rcases k2.new id hd with h3 | h3
   ·exact hn id uu0 h3
   ·omega) (by simp only [vals,val,Uf]; exact e2) e3
  exact ⟨β1,φ1,dom1,m1,k2.trans m2,by simp only [inA,val,m3,padd,Rs],m4⟩
 | rp ds =>
  obtain ⟨⟨b,o,vs,rfl,e2,e3,e4⟩,rfl⟩:=ho
  let βn:Nat->Value:=fun j=>match j with
   | 0=>.pointer (some ⟨b,o,none⟩)
   | j+1=>vs.getD j (.bool false)
  have hl:=e4.len
  have hone:∀ j,(βn j).oneCell'=true:=by
   intro j
   cases j with
   | zero=>rfl
   | succ j =>
    show (vs.getD j (.bool false)).oneCell'=true
    rw [Qd]
    cases hj:vs[j]? with
    | none=>rfl
    | some v=>exact Rc.1 e4.one v (Q9 hj)
  have hbv:bv (up β n βn) n ds.length=vs:=by
   refine List.ext_getElem (by simp [bv,hl]) fun j h1 h2=>?_
   simp [bv,Uf,βn,h2]
  obtain ⟨k1,k2⟩:=H.addN n (hn n (Qq _)) (.mem none none ds) βn rfl hone (fun _ _ _=>⟨b,o,by rw [Uf],e2,by rw [hbv]; exact e3,by rw [hbv]; exact e4⟩)
  exact ⟨_,_,_,k1,k2,by simp [inA,val,Uf,padd,βn],.inr rfl⟩
 | og ds ds' =>
  obtain ⟨vs,rfl,h2⟩:=ho
  obtain ⟨β1,φ1,dom1,k1,k2,k3,k4,k5⟩:=Kx ds n fs β φ dom vs f L H (fun id h h'=>hn id h) h2
  exact ⟨β1,φ1,dom1,k1,k2,by simp only [inA,val,k3],k4⟩
 | ot ds =>
  obtain ⟨vs,rfl,h2⟩:=ho
  obtain ⟨β1,φ1,dom1,k1,k2,k3,k4,k5⟩:=Kx ds n fs β φ dom vs f L H (fun id h h'=>hn id h) h2
  exact ⟨β1,φ1,dom1,k1,k2,by simp only [inA,val,k3],k4⟩
 | ow d d' =>
  obtain ⟨β1,φ1,dom1,k1,k2,k3,k4⟩:=H.own n (hn n (Qq _)) ho
  exact ⟨β1,φ1,dom1,k1,k2,k3,k4⟩
 | fn F D =>
  obtain ⟨h1,rfl⟩:=ho
  have h1':=h1
  obtain ⟨g,cap,rfl,_⟩:=h1'
  obtain ⟨k1,k2⟩:=H.addN n (hn n (Qq _)) (.fn F) (fun _=>.func (.func g) #[] cap) rfl (fun _=>rfl) (fun _ _ _=>by show FnOK false P ψ w F _; rw [Uf]; exact h1.weak)
  exact ⟨_,_,_,k1,k2,by simp only [inA,val,Uf],.inr rfl⟩
theorem Qtz (hψ:∀ b,ψ b->b<w.heap.size):∀ (azz:List Arg) (n:Nat) (fs:Nat->Option Fact) (β:Nat->Nat->Value) (φ:Nat->List Nat) (dom:Nat->Prop) (vs:List Value) (f L:List Nat),RL P fs β φ dom ψ IN w0 w (f++L)->(∀ id,n<=id->¬ dom id)->ArgsOK P ψ w azz vs f ->
  ∃ β' φ' dom',RL P (Yc fs (inAs n azz).2.1) β' φ' dom' ψ IN w0 w L/\Ext β β' dom dom' n (inAs n azz).2.2/\vals β' (inAs n azz).1=vs/\AVs.wf dom' (inAs n azz).1
 | [],n,fs,β,φ,dom,vs,f,L,H,hn,ho=>by
  obtain ⟨rfl,rfl⟩:=ho
  exact ⟨β,φ,dom,H,Ext.refl _ _ _,rfl,trivial⟩
 | a :: azz,n,fs,β,φ,dom,vs,f,L,H,hn,ho=>by
  obtain ⟨u,us,f1,g,rfl,h1,h2,rfl,h3⟩:=ho
  rw [Q1] at H
  obtain ⟨β1,φ1,dom1,k1,k2,k3,k4⟩:=inA_ok hψ a n fs β φ dom u f1 (g++L) H hn h1
  obtain ⟨β',φ',dom',m1,m2,m3,m4⟩:=Qtz hψ azz (inA n a).2.2 _ β1 φ1 dom1 us g L k1 (fun id h hd=>by
   rcases k2.new id hd with h3 | h3
   ·exact hn id (Q5 k2.le h) h3
   ·omega) h2
  refine ⟨β',φ',dom',by simp only [inAs]; rw [Wo]; exact m1,k2.trans m2,?_,⟨AV.wf_mono (fun id h=>(m2.old id h).1) _ k4,m4⟩⟩
  simp only [inAs,vals,m3]
  rw [Vq (dom:=dom1) (fun id h=>(m2.old id h).2) _ k4,k3]
theorem Qan:∀ (azz:List AV) (i t:Nat) (av:AV),slG (Lv i azz) t=some av->i<=t/\azz[t-i]?=some av
 | [],i,t,av,h=>by cases h
 | a :: azz,i,t,av,h=>by
  simp only [Lv,slG] at h
  cases hb:Nat.beq i t with
  | true =>
   rw [hb] at h
   simp only [Qc,Qa] at h
   have e:=Qg hb
   subst e; subst h
   exact ⟨Qq _,by simp⟩
  | false =>
   rw [hb] at h
   obtain ⟨h1,h2⟩:=Qan azz (i+1) t av h
   exact ⟨by omega,by rw [show t-i=(t-(i+1))+1 by omega]; simpa using h2⟩
theorem Qur (D:Bool) {sp:Spec} {S:Nat->Prop} {w:World} {vs:List Value} {fp:List Nat} (hS:∀ b,S b->b<w.heap.size/\b ∉ fp) (hG:GOK S w) (h:ArgsOK P S w sp.args vs fp) (hlt:∀ b∈fp,b<w.heap.size) (hnd:fp.Nodup) {N:Nat} (hN:vs.length<=N) :
  Zw P N S (·∈fp) (atD D w) (stIn sp.args) { tmps:=vs.toArray++Array.replicate (N-vs.toArray.size) undef,defers:=[] } w:=by
 have H0:RL P (fun _=>none) (fun _ _=>.bool false) (fun _=>[]) (fun _=>False) S (·∈fp) (atD D w) w (fp++[]):=by
  refine ⟨⟨fun id f hf=>(by cases hf),fun i j f g hf=>(by cases hf),fun id f hf=>(by cases hf),fun b hb=>(hS b hb).1,fun _ _=>rfl,(Chg.of_below (Bel.refl _ _)).toD D,hG⟩,by simpa using hnd,fun b hb=>?_⟩
  have hb':b∈fp:=by simpa using hb
  exact ⟨hlt b hb',.inr hb',fun hp=>(hS b hp).2 hb',fun id f hf=>by cases hf⟩
 obtain ⟨β,φ,dom,k1,k2,k3,k4⟩:=Qtz (fun b hb=>(hS b hb).1) sp.args 0 _ _ _ _ vs fp [] H0 (fun _ _ h=>h) h
 refine ⟨β,φ,dom,?_,rfl,fun t av ht=>?_,k1.rel.sub fun id f hf=>?_,fun id hid=>?_⟩
 ·simp; omega
 ·obtain ⟨_,h2⟩:=Qan _ 0 t av ht
  rw [Nat.sub_zero] at h2
  have hv:vs[t]?=some (val β av):=by rw [<- k3,Jt,Tj,h2]; rfl
  refine ⟨?_,AVs.wf_iff.1 k4 av (Q9 h2)⟩
  have hlt:=(Qr.1 hv).1
  rw [Gi (by simpa using hlt)]
  simpa using hv
 ·have e:fsG (stIn sp.args).fs id=(Yn (inAs 0 sp.args).2.1 id).getD none:=by
   have h3:=Qlj (fun o=>o.2) [] id (inAs 0 sp.args).2.1
   simp only [So] at h3
   have h4:((inAs 0 sp.args).2.1.map fun p=>(p.1,p.2))=(inAs 0 sp.args).2.1:=by simp
   rw [h4] at h3
   show fsG (inAs 0 sp.args).2.1.reverse id=_
   rw [h3]
   cases Yn (inAs 0 sp.args).2.1 id <;> rfl
  rw [e] at hf
  rw [Qbj]
  exact hf
 ·rcases k2.new id hid with h | h
  ·exact h.elim
  ·exact h.2
end
def Ucr (P:Program) (s:St):ResultVar->Option AV
 | .tmp t=>slG s.sl t
 | .cell t T=>match slG s.sl t with
  | some a=>(match Qhb P (fsG s.fs) T a with | some r=>some r.av | none=>none)
  | none=>none
def Mu (P:Program) (s:St):List ResultVar->Option (List AV)
 | []=>some []
 | r :: rs=>match Ucr P s r,Mu P s rs with
  | some a,some azz=>some (a :: azz)
  | _,_=>none
def Mz (fs:Nat->Option Fact):List AV->List AV
 | .h id 0 :: cs=>(match fs id with | some (.vl x _)=>bif x.oneCell' then .v x else .h id 0 | _=>.h id 0) :: Mz fs cs
 | c :: cs=>c :: Mz fs cs
 | []=>[]
def mPtv (fs:Nat->Option Fact) (id:Nat) (T:TypeId) (ds:List Dat):Option MA:=match fs id with
 | some (.box T0 cs)=>bif Nat.beq T T0 then (match Yt fs (Mz fs cs) with
  | some (d0s,ids)=>some ⟨[Imps d0s ds],id :: ids,[]⟩
  | none=>none) else none
 | _=>none
mutual
def mRes (P:Program) (fs:Nat->Option Fact):AV->RT->Option (List Prop×List Nat)
 | av,.v x=>(match av with | .v y=>bif y.oneCell' then some ([y=x],[]) else none | _=>none)
 | av,.ow d=>(match d with
  | .any=>bif av.one then some ([],[]) else none
  | d=>(match mArg P fs none av (.ow d none) with | some m=>some (m.vcs,m.cons) | none=>none))
 | av,.ag l=>(match Kz av with | some cs=>bif cs.all AV.one then Ei P fs cs l else none | none=>none)
 | av,.tu l=>(match av with | .tu cs=>Ei P fs cs l | _=>none)
 | av,.cl f l=>(match av with | .cl f' cs=>bif Nat.beq f f' then Ei P fs cs l else none | _=>none)
 | av,.pt T ds=>(match av with | .p id 0=>(match mPtv fs id T ds with | some m=>some (m.vcs,m.cons) | none=>none) | _=>none)
def Ei (P:Program) (fs:Nat->Option Fact):List AV->List RT->Option (List Prop×List Nat)
 | [],[]=>some ([],[])
 | a :: azz,r :: rs=>match mRes P fs a r,Ei P fs azz rs with
  | some m,some n=>some (m.1++n.1,m.2++n.2)
  | _,_=>none
 | _,_=>none
end
def mBeh (P:Program) (s:St) (i:Nat):Arg->Option (List Prop×List Nat)
 | .pt T _ ds'=>match slG s.sl i with
  | some av=>(match mArg P (fsG s.fs) none av (.pt T ds' ds') with | some m=>some (m.vcs,m.cons) | none=>none)
  | none=>none
 | .ptg _ T x _ _ ds'=>match slG s.sl i with
  | some av=>(match av with | .p id 0=>(match mPtv (fsG s.fs) id T (.v x :: ds') with | some m=>some (m.vcs,m.cons) | none=>none) | _=>none)
  | none=>none
 | .og _ ds'=>match slG s.sl i with
  | some av=>(match mArg P (fsG s.fs) none av (.og ds' ds') with | some m=>some (m.vcs,m.cons) | none=>none)
  | none=>none
 | .ow _ (some d')=>match slG s.sl i with
  | some av=>(match mArg P (fsG s.fs) none av (.ow d' none) with | some m=>some (m.vcs,m.cons) | none=>none)
  | none=>none
 | _=>some ([],[])
def Qqf (P:Program) (s:St):Nat->List Arg->Option (List Prop×List Nat)
 | _,[]=>some ([],[])
 | i,a :: azz=>match mBeh P s i a,Qqf P s (i+1) azz with
  | some m,some n=>some (m.1++n.1,m.2++n.2)
  | _,_=>none
def Jc:Nat->List Arg->List Nat
 | _,[]=>[]
 | i,.pt _ _ _ :: azz=>i :: Jc (i+1) azz
 | i,.ptg _ _ _ _ _ _ :: azz=>i :: Jc (i+1) azz
 | i,.ow _ (some _) :: azz=>i :: Jc (i+1) azz
 | i,.og _ _ :: azz=>i :: Jc (i+1) azz
 | i,_ :: azz=>Jc (i+1) azz
def Qhx:List AV->AV
 | [a]=>a
 | azz=>.tu azz
def finV (P:Program) (fn:Func) (sp:Spec) (s:St):Option (List Prop) :=
 match Mu P s fn.results.toList with
 | some azz=>(match mRes P (fsG s.fs) (Qhx azz) sp.res,Qqf P s 0 sp.args with
  | some m,some n=>bif Jy (m.2++n.2) then some (m.1++n.1) else none
  | _,_=>none)
 | none=>none
def finP (P:Program) (fn:Func) (sp:Spec) (s:St):Prop:=match finV P fn sp s with
 | some ps=>ps.foldr And True
 | none=>False
def fnP {D:Bool} (P:Program) (fn:Func) (c:Code) (ct:Cert D P) (sp:Spec):Prop:=cwp P fn.ntmps c ct (stIn sp.args) fun e s=>match e with
 | .x _=>False
 | _=>finP P fn sp s
section
variable {D:Bool} {P:Program} {N:Nat} {β:Nat->Nat->Value} {φ:Nat->List Nat} {dom ψ IN:Nat->Prop} {w0 w:World} {s:St} {a:Act}
theorem Uci (V:StOK P N ψ IN w0 s a w β φ dom):∀ {r:ResultVar} {av:AV},Ucr P s r=some av->(Qjo a.tmps r).run P w=.ok (val β av) w/\av.wf dom
 | .tmp t,av,h=>by
  obtain ⟨h1,h2⟩:=V.has t av h
  exact ⟨by simp [Qjo,h1],h2⟩
 | .cell t T,av,h=>by
  simp only [Ucr] at h
  split at h
  ·rename_i p hp
   split at h
   ·rename_i r hr
    simp only [Qa] at h
    subst h
    obtain ⟨h1,h2⟩:=V.has t p hp
    obtain ⟨k1,k2,_⟩:=Ns V.rel (fun _ _ h=>h) hr
    refine ⟨?_,k2⟩
    cases p <;> simp only [Qhb] at hr <;> first | cases hr | skip
    rename_i id off
    split at hr
    ·rename_i cs hcs
     obtain ⟨b,o,g1,_⟩:=Jj V.rel (fun _ _ h=>h) hcs
     have e:val β (.p id off)=.pointer (some ⟨b,o+off,none⟩):=by simp [val,g1,padd]
     rw [e] at k1 h1
     simp only [Instr.loadAt,Instr.sureAddr,Sem.run_bind,Sem.run_pure,Result.andThen_ok] at k1
     simp [Qjo,h1,asAddr,k1]
    ·cases hr
   ·cases h
  ·cases h
theorem Qix (V:StOK P N ψ IN w0 s a w β φ dom):∀ {rs:List ResultVar} {azz:List AV},Mu P s rs=some azz->(rs.mapM (Qjo a.tmps)).run P w=.ok (vals β azz) w/\AVs.wf dom azz
 | [],azz,h=>by
  simp only [Mu,Qa] at h
  subst h
  exact ⟨by simp [vals],trivial⟩
 | r :: rs,azz,h=>by
  simp only [Mu] at h
  split at h
  ·rename_i av avs h1 h2
   simp only [Qa] at h
   subst h
   obtain ⟨k1,k2⟩:=Uci V h1
   obtain ⟨m1,m2⟩:=Qix V h2
   exact ⟨by simp [List.mapM_cons,k1,m1,vals],k2,m2⟩
  ·cases h
theorem Qfj (V:StOK P N ψ IN w0 s a w β φ dom) {fn:Func} {azz:List AV} (h:Mu P s fn.results.toList=some azz):(results fn a.tmps).run P w=.ok (val β (Qhx azz)) w/\(Qhx azz).wf dom:=by
 obtain ⟨h1,h2⟩:=Qix V h
 rw [Qqk]
 have e:(fn.results.mapM (Qjo a.tmps)).run P w=.ok (vals β azz).toArray w:=by
  rw [Array.mapM_eq_mapM_toList]
  simp [h1]
 cases azz with
 | nil=>exact ⟨by simp [e,Qhx,vals,val],trivial⟩
 | cons x azz =>
  cases azz with
  | nil=>exact ⟨by simp [e,Qhx,vals],h2.1⟩
  | cons y azz=>exact ⟨by simp [e,Qhx,vals,val],h2⟩
def FPo (φ:Nat->List Nat) (f ids:List Nat):Prop:=f.Nodup/\∀ b,b∈f↔∃ id∈ids,b∈φ id
theorem FPo.nil:FPo φ [] []:=⟨Q2,fun b=>⟨fun h=>(by cases h),fun ⟨_,h,_⟩=>(by cases h)⟩⟩
theorem FPo.app {fs:Nat->Option Fact} (R:Rel P fs β φ dom ψ IN w0 w) {f g i j:List Nat} (hf:FPo φ f i) (hg:FPo φ g j) (hnd:(i++j).Nodup) (hm:∀ id∈i++j,∃ x,fs id=some x/\x.mod=true):FPo φ (f++g) (i++j):=by
 obtain ⟨n1,n2,n3⟩:=Rh.1 hnd
 refine ⟨Rh.2 ⟨hf.1,hg.1,fun b hb b' hb' e=>?_⟩,fun b=>?_⟩
 ·subst e
  obtain ⟨x,hx,hbx⟩:=(hf.2 b).1 hb
  obtain ⟨y,hy,hby⟩:=(hg.2 b).1 hb'
  obtain ⟨fx,ex,mx⟩:=hm x (Qx _ hx)
  obtain ⟨fy,ey,my⟩:=hm y (Qv _ hy)
  exact R.dis x y _ _ ex ey mx my (n3 x hx y hy) b hbx hby
 ·rw [Q6,hf.2,hg.2]
  constructor
  ·rintro (⟨x,h1,h2⟩ | ⟨x,h1,h2⟩)
   ·exact ⟨x,Qx _ h1,h2⟩
   ·exact ⟨x,Qv _ h1,h2⟩
  ·rintro ⟨x,h1,h2⟩
   rcases Q6.1 h1 with h1 | h1
   ·exact .inl ⟨x,h1,h2⟩
   ·exact .inr ⟨x,h1,h2⟩
theorem Pt {fs:Nat->Option Fact} (R:Rel P fs β φ dom ψ IN w0 w) {av:AV} {ar:Arg} {m:MA} (hk:(match ar with | .pt _ _ _=>true | .ow _ none=>true | .og _ _=>true | _=>false)=true) (h:mArg P fs none av ar=some m) (hv:AllP m.vcs) (hnd:m.cons.Nodup) :
  ∃ fp,ArgOK P (Outs φ w m.cons) w ar (val β av) fp/\FPo φ fp m.cons/\∀ id∈m.cons,∃ x,fs id=some x/\x.mod=true:=by
 have hC:=Qbf (fun _ _ h=>h) R h
 have hr:m.reads=[]:=by
  cases ar with
  | pt T ds ds' =>
   simp only [mArg,mPt] at h
   split at h
   ·split at h
    ·rename_i T0 cs hid
     cases hT:Nat.beq T T0 with
     | false=>rw [hT] at h; cases h
     | true =>
      rw [hT] at h
      simp only [Qc] at h
      split at h
      ·cases h; rfl
      ·cases h
    ·cases h
   ·cases h
  | og ds ds' =>
   simp only [mArg] at h
   split at h
   ·simp only [mOg] at h
    split at h
    ·cases h; rfl
    ·cases h
   ·cases h
  | ow d d' =>
   cases d' with
   | none =>
    simp only [mArg,mOw] at h
    split at h
    ·cases h; rfl
    ·cases h
   | some d'=>simp at hk
  | _=>simp at hk
 obtain ⟨fp,h1,h2,_,_,h5⟩:=Qvo R (fun _ _ h=>h) hC h hv (fun X hX=>by rw [hr] at hX; cases hX) hnd
 exact ⟨fp,h1,⟨h5,h2⟩,hC⟩
theorem Qpc {av:AV} {cs:List AV} (h:Kz av=some cs) (hw:av.wf dom):AVs.wf dom cs:=by
 cases av with
 | ag cs'=>simp only [Kz,Qa] at h; subst h; exact hw
 | v x =>
  cases x <;> simp only [Kz,Qa] at h <;> first | cases h | skip
  all_goals exact AVs.wf_v _
 | _=>simp [Kz] at h
theorem Qjf {fs:Nat->Option Fact} (R:Rel P fs β φ dom ψ IN w0 w):∀ cs:List AV,vals β (Mz fs cs)=vals β cs
 | []=>rfl
 | c :: cs=>by
  have ih:=Qjf R cs
  cases c with
  | h id j =>
   cases j with
   | zero =>
    simp only [Mz,vals,ih]
    congr 1
    split
    ·rename_i x d hf
     cases hx:x.oneCell' with
     | false=>rfl
     | true=>exact (R.ok id _ hf).2.1.symm
    ·rfl
   | succ j=>simp only [Mz,vals,ih]
  | _=>simp only [Mz,vals,ih]
theorem Qwr {fs:Nat->Option Fact} (R:Rel P fs β φ dom ψ IN w0 w) {id:Nat} {T:TypeId} {ds:List Dat} {m:MA} (h:mPtv fs id T ds=some m) (hv:AllP m.vcs) (hnd:m.cons.Nodup) :
  ∃ fp,(∃ b vs f,val β (.p id 0)=.pointer (some ⟨b,0,none⟩)/\Box w b T vs/\OwVs w ds vs f/\fp=b :: f/\fp.Nodup)/\FPo φ fp m.cons/\∀ id∈m.cons,∃ x,fs id=some x/\x.mod=true:=by
 simp only [mPtv] at h
 split at h
 ·rename_i T0 cs hid
  cases hT:Nat.beq T T0 with
  | false=>rw [hT] at h; cases h
  | true =>
   rw [hT] at h
   simp only [Qc] at h
   have hT':=Qg hT
   subst hT'
   split at h
   ·rename_i d0s ids hds
    cases h
    obtain ⟨k1,⟨g0,g0'⟩,b,g1,g2,g3⟩:=R.ok id _ hid
    obtain ⟨fp,q1,q2,q3,q4,q5,q6,q7⟩:=Yj R (fun _ _ h=>h) hds
    rw [Qjf R] at q1
    obtain ⟨n1,n2⟩:=Q0.1 hnd
    have hbid:b∈φ id:=by rw [g3]; exact Ql
    have hbf:b ∉ fp:=fun hb=>by
     obtain ⟨i,h1,h2⟩:=q2 b hb
     obtain ⟨V,d,hd⟩:=q5 i h1
     exact R.dis id i _ _ hid hd rfl rfl (fun e=>n1 (e ▸ h1)) b hbid h2
    have hfp:∀ b',(∃ i∈ids,b'∈φ i)->b'∈fp:=fun b' ⟨i,h1,h2⟩=>q7 i h1 b' h2
    refine ⟨b :: fp,⟨b,_,fp,by simp [val,g1,padd],g2,hv.1.ow q1,rfl,Q0.2 ⟨hbf,q1.nd⟩⟩,⟨Q0.2 ⟨hbf,q1.nd⟩,fun b'=>⟨fun hb'=>?_,fun ⟨i,h1,h2⟩=>?_⟩⟩,fun i hi=>?_⟩
    ·rcases Qu.1 hb' with rfl | hb'
     ·exact ⟨id,Ql,hbid⟩
     ·obtain ⟨i,h1,h2⟩:=q2 b' hb'
      exact ⟨i,Qi _ h1,h2⟩
    ·rcases Qu.1 h1 with rfl | h1
     ·rw [g3] at h2
      simp only [Qw] at h2
      subst h2
      exact Ql
     ·exact Qi _ (hfp b' ⟨i,h1,h2⟩)
    ·rcases Qu.1 hi with rfl | hi
     ·exact ⟨_,hid,rfl⟩
     ·obtain ⟨V,d,hd⟩:=q5 i hi
      exact ⟨_,hd,rfl⟩
   ·cases h
 ·cases h
mutual
theorem Qzn {fs:Nat->Option Fact} (R:Rel P fs β φ dom ψ IN w0 w):∀ (av:AV) (rt:RT) (m:List Prop×List Nat),mRes P fs av rt=some m->AllP m.1->m.2.Nodup->av.wf dom ->
  ∃ fp,RTOK w rt (val β av) fp/\FPo φ fp m.2/\∀ id∈m.2,∃ x,fs id=some x/\x.mod=true
 | av,.v x,m,h,hv,hnd,hw=>by
  unfold mRes at h
  split at h
  ·rename_i y
   cases hy:y.oneCell' with
   | false=>rw [hy] at h; cases h
   | true =>
    simp only [hy,Qc,Qa] at h
    subst h
    obtain ⟨rfl,_⟩:=hv
    exact ⟨[],⟨rfl,hy,rfl⟩,FPo.nil,fun id hid=>by cases hid⟩
  ·cases h
 | av,.ow d,m,h,hv,hnd,hw=>by
  unfold mRes at h
  split at h
  ·cases ho:av.one with
   | false=>rw [ho] at h; cases h
   | true =>
    rw [ho] at h
    simp only [Qc,Qa] at h
    subst h
    exact ⟨[],⟨AV.one_val R.one ho hw,rfl⟩,FPo.nil,fun id hid=>by cases hid⟩
  ·split at h
   ·rename_i m' hm'
    cases h
    exact Pt R rfl hm' hv hnd
   ·cases h
 | av,.ag l,m,h,hv,hnd,hw=>by
  unfold mRes at h
  split at h
  ·rename_i cs hcs
   cases ho:cs.all AV.one with
   | false=>rw [ho] at h; cases h
   | true =>
    rw [ho] at h
    obtain ⟨e1,e2'⟩:=Lr (β:=β) (dom:=dom) hcs
    have e2:=Qpc hcs hw
    obtain ⟨fp,k1,k2,k3⟩:=Qad R cs l m h hv hnd e2
    exact ⟨fp,⟨_,e1,Qew R.one ho e2,k1⟩,k2,k3⟩
  ·cases h
 | av,.tu l,m,h,hv,hnd,hw=>by
  unfold mRes at h
  split at h
  ·rename_i cs
   obtain ⟨fp,k1,k2,k3⟩:=Qad R cs l m h hv hnd hw
   exact ⟨fp,⟨_,rfl,k1⟩,k2,k3⟩
  ·cases h
 | av,.cl f l,m,h,hv,hnd,hw=>by
  unfold mRes at h
  split at h
  ·rename_i f' cs
   cases hb:Nat.beq f f' with
   | false=>rw [hb] at h; cases h
   | true =>
    rw [hb] at h
    have e:=Qg hb
    subst e
    obtain ⟨fp,k1,k2,k3⟩:=Qad R cs l m h hv hnd hw
    exact ⟨fp,⟨_,rfl,k1⟩,k2,k3⟩
  ·cases h
 | av,.pt T ds,m,h,hv,hnd,hw=>by
  unfold mRes at h
  split at h
  ·rename_i id
   split at h
   ·rename_i m' hm'
    cases h
    obtain ⟨fp,k1,k2,k3⟩:=Qwr R hm' hv hnd
    exact ⟨fp,k1,k2,k3⟩
   ·cases h
  ·cases h
theorem Qad {fs:Nat->Option Fact} (R:Rel P fs β φ dom ψ IN w0 w):∀ (azz:List AV) (rs:List RT) (m:List Prop×List Nat),Ei P fs azz rs=some m->AllP m.1->m.2.Nodup->AVs.wf dom azz ->
  ∃ fp,Qki w rs (vals β azz) fp/\FPo φ fp m.2/\∀ id∈m.2,∃ x,fs id=some x/\x.mod=true
 | [],[],m,h,hv,hnd,hw=>by
  simp only [Ei,Qa] at h
  subst h
  exact ⟨[],⟨rfl,rfl⟩,FPo.nil,fun id hid=>by cases hid⟩
 | a :: azz,r :: rs,m,h,hv,hnd,hw=>by
  simp only [Ei] at h
  split at h
  ·rename_i m1 m2 h1 h2
   cases h
   obtain ⟨v1,v2⟩:=AllP.app hv
   obtain ⟨n1,n2,n3⟩:=Rh.1 hnd
   obtain ⟨f1,k1,k2,k3⟩:=Qzn R a r m1 h1 v1 n1 hw.1
   obtain ⟨f2,q1,q2,q3⟩:=Qad R azz rs m2 h2 v2 n2 hw.2
   have hm:∀ id∈m1.2++m2.2,∃ x,fs id=some x/\x.mod=true:=fun id hid=>(Q6.1 hid).elim (k3 id) (q3 id)
   exact ⟨f1++f2,⟨_,_,f1,f2,rfl,k1,q1,rfl⟩,FPo.app R k2 q2 hnd hm,hm⟩
  ·cases h
 | [],_ :: _,m,h,_,_,_=>by simp [Ei] at h
 | _ :: _,[],m,h,_,_,_=>by simp [Ei] at h
end
theorem Qoi (V:StOK P N ψ IN w0 s a w β φ dom):∀ (azz:List Arg) (i:Nat) (us:List Value) (m:List Prop×List Nat),(∀ j,i+j∈Jc i azz->a.tmps[i+j]?=us[j]?)->us.length=azz.length->Qqf P s i azz=some m->AllP m.1->m.2.Nodup ->
  ∃ fp,Qcf w azz us fp/\FPo φ fp m.2/\∀ id∈m.2,∃ x,fsG s.fs id=some x/\x.mod=true
 | [],i,us,m,hp,hl,h,hv,hnd=>by
  simp only [Qqf,Qa] at h
  subst h
  exact ⟨[],rfl,FPo.nil,fun id hid=>by cases hid⟩
 | ar :: azz,i,us,m,hp,hl,h,hv,hnd=>by
  simp only [Qqf] at h
  split at h
  ·rename_i m1 m2 h1 h2
   cases h
   obtain ⟨v1,v2⟩:=AllP.app hv
   obtain ⟨n1,n2,n3⟩:=Rh.1 hnd
   cases us with
   | nil=>simp at hl
   | cons u us =>
    have hu:i∈Jc i (ar :: azz)->a.tmps[i]?=some u:=fun h=>by simpa using hp 0 (by simpa using h)
    obtain ⟨f2,q1,q2,q3⟩:=Qoi V azz (i+1) us m2 (fun j hj=>by
     have:=hp (j+1) (by
      rw [show i+(j+1)=i+1+j by omega]
      unfold Jc
      split <;> first | exact Qi _ hj | exact hj | (rename_i e; cases e <;> first | exact Qi _ hj | exact hj))
     rw [show i+1+j=i+(j+1) by omega]; simpa using this) (by simpa using hl) h2 v2 n2
    obtain ⟨f1,k1,k2,k3⟩:∃ f1,BehOK w ar u f1/\FPo φ f1 m1.2/\∀ id∈m1.2,∃ x,fsG s.fs id=some x/\x.mod=true:=by
     cases ar with
     | pt T ds ds' =>
      simp only [mBeh] at h1
      split at h1
      ·rename_i av hav
       split at h1
       ·rename_i m' hm'
        cases h1
        obtain ⟨fp,g1,g2,g3⟩:=Pt V.rel rfl hm' v1 n1
        have e:=(V.has i av hav).1
        rw [hu (by simp [Jc])] at e
        cases e
        obtain ⟨b,vs,f,e1,e2,e3,e4,_⟩:=g1
        exact ⟨fp,⟨b,vs,f,e1,e2,e3,e4⟩,g2,g3⟩
       ·cases h1
      ·cases h1
     | ptg gi T x d ds ds' =>
      simp only [mBeh] at h1
      split at h1
      ·rename_i av hav
       split at h1
       ·rename_i id
        split at h1
        ·rename_i m' hm'
         cases h1
         obtain ⟨fp,g1,g2,g3⟩:=Qwr V.rel hm' v1 n1
         have e:=(V.has i (.p id 0) hav).1
         rw [hu (by simp [Jc])] at e
         cases e
         obtain ⟨b,vs,f,e1,e2,e3,e4,_⟩:=g1
         obtain ⟨u2,us2,f1,f2,rfl,⟨rfl,_,rfl⟩,q2,rfl,_⟩:=e3
         exact ⟨fp,⟨b,us2,_,e1,e2,q2,e4⟩,g2,g3⟩
        ·cases h1
       ·cases h1
      ·cases h1
     | og ds ds' =>
      simp only [mBeh] at h1
      split at h1
      ·rename_i av hav
       split at h1
       ·rename_i m' hm'
        cases h1
        obtain ⟨fp,g1,g2,g3⟩:=Pt V.rel rfl hm' v1 n1
        have e:=(V.has i av hav).1
        rw [hu (by simp [Jc])] at e
        cases e
        exact ⟨fp,g1,g2,g3⟩
       ·cases h1
      ·cases h1
     | ow d d' =>
      cases d' with
      | none =>
       simp only [mBeh,Qa] at h1
       subst h1
       exact ⟨[],rfl,FPo.nil,fun id hid=>by cases hid⟩
      | some d' =>
       simp only [mBeh] at h1
       split at h1
       ·rename_i av hav
        split at h1
        ·rename_i m' hm'
         cases h1
         obtain ⟨fp,g1,g2,g3⟩:=Pt V.rel rfl hm' v1 n1
         have e:=(V.has i av hav).1
         rw [hu (by simp [Jc])] at e
         cases e
         exact ⟨fp,g1,g2,g3⟩
        ·cases h1
       ·cases h1
     | _ =>
      simp only [mBeh,Qa] at h1
      subst h1
      exact ⟨[],rfl,FPo.nil,fun id hid=>by cases hid⟩
    have hm:∀ id∈m1.2++m2.2,∃ x,fsG s.fs id=some x/\x.mod=true:=fun id hid=>(Q6.1 hid).elim (k3 id) (q3 id)
    exact ⟨f1++f2,⟨_,_,f1,f2,rfl,k1,q1,rfl⟩,FPo.app V.rel k2 q2 hnd hm,hm⟩
  ·cases h
theorem ArgsOK.len {S:Nat->Prop}:∀ {azz:List Arg} {vs:List Value} {fp:List Nat},ArgsOK P S w azz vs fp->vs.length=azz.length
 | [],vs,fp,h=>by rw [h.1]; rfl
 | a :: azz,vs,fp,h=>by
  obtain ⟨u,us,f,g,rfl,_,h2,_⟩:=h
  simp [ArgsOK.len h2]
theorem ArgOK.lt {S:Nat->Prop}:∀ {a:Arg} {v:Value} {fp:List Nat},ArgOK P S w a v fp->(∀ b∈fp,b<w.heap.size)/\fp.Nodup
 | .r a,v,fp,h=>by rw [h.2]; exact ⟨fun b hb=>(by cases hb),Q2⟩
 | .rp ds,v,fp,h=>by rw [h.2]; exact ⟨fun b hb=>(by cases hb),Q2⟩
 | .fn F _,v,fp,h=>by rw [h.2]; exact ⟨fun b hb=>(by cases hb),Q2⟩
 | .ow d d',v,fp,h=>⟨OwV.lt _ _ _ h,OwV.nd h⟩
 | .og ds ds',v,fp,h=>by
  obtain ⟨vs,_,h⟩:=h
  exact ⟨OwVs.lt _ _ _ h,OwVs.nd h⟩
 | .ot ds,v,fp,h=>by
  obtain ⟨vs,_,h⟩:=h
  exact ⟨OwVs.lt _ _ _ h,OwVs.nd h⟩
 | .pt T ds ds',v,fp,h=>by
  obtain ⟨b,vs,f,rfl,h2,h3,rfl,h5⟩:=h
  refine ⟨fun b' hb=>?_,h5⟩
  rcases Qu.1 hb with rfl | hb
  ·exact h2.lt
  ·exact OwVs.lt _ _ _ h3 b' hb
 | .ptg gi T x d ds ds',v,fp,h=>by
  obtain ⟨⟨b,vs,f,rfl,h2,h3,rfl,h5⟩,_⟩:=h
  refine ⟨fun b' hb=>?_,h5⟩
  rcases Qu.1 hb with rfl | hb
  ·exact h2.lt
  ·exact OwVs.lt _ _ _ h3 b' hb
 | .vl x d,v,fp,h=>by rw [h.2]; exact ⟨fun b hb=>(by cases hb),Q2⟩
theorem ArgsOK.lt {S:Nat->Prop}:∀ {azz:List Arg} {vs:List Value} {fp:List Nat},ArgsOK P S w azz vs fp->(∀ b∈fp,b<w.heap.size)/\fp.Nodup
 | [],vs,fp,h=>by rw [h.2]; exact ⟨fun b hb=>(by cases hb),Q2⟩
 | a :: azz,vs,fp,h=>by
  obtain ⟨u,us,f,g,rfl,h1,h2,rfl,h4⟩:=h
  exact ⟨fun b hb=>(Q6.1 hb).elim ((ArgOK.lt h1).1 b) ((ArgsOK.lt h2).1 b),h4⟩
theorem Qpi:∀ (azz:List Arg) (i t:Nat),t∈Jc i azz->t<i+azz.length
 | [],i,t,h=>by cases h
 | a :: azz,i,t,h=>by
  have key:t=i\/t∈Jc (i+1) azz:=by
   unfold Jc at h
   split at h
   ·rename_i e; cases e
   ·rename_i e; cases e; exact Qu.1 h
   ·rename_i e; cases e; exact Qu.1 h
   ·rename_i e; cases e; exact Qu.1 h
   ·rename_i e; cases e; exact Qu.1 h
   ·rename_i e; cases e; exact .inr h
  rcases key with h | h
  ·subst h; simp
  ·have:=Qpi azz (i+1) t h
   simp; omega
theorem fn_ok {f:FuncId} {fn:Func} {c:Code} {ct:Cert D P} {sp:Spec} (hm:P.follows .mixedOrders=true) (hf:P.funcs[f]?=some fn) (hb:fn.body=some c) (hn:Nat.ble sp.args.length fn.ntmps=true) (hpar:parC (Jc 0 sp.args) c=true) (h:sp.pre->fnP P fn c ct sp):Spec.ok P f sp D:=by
 intro hpre S w vs fp hS hG ha
 have hlen:=ArgsOK.len ha
 obtain ⟨hlt,hnd⟩:=ArgsOK.lt ha
 have hN:=Rw hn
 refine calls_of_wp hf hb ?_
 have H0:=Qur D (N:=fn.ntmps) hS hG ha hlt hnd uu0
 have hD0:D=false->(atD D w).drawn=0:=fun h=>by rw [h]; rfl
 refine Kd hD0 hm (n:=Jc 0 sp.args) _ c ct _ _ hpar (h hpre) _ w H0 (fun _ _=>rfl) _ fun e s' a' w' hq hH hp=>?_
 have key:finP P fn sp s'->a'.defers=[]/\∃ v,(results fn a'.tmps).run P w'=.ok v w'/\∃ rv fr fb,Ending.returned v=.returned rv/\RTOK w' sp.res rv fr/\Qcf w' sp.args vs fb/\(fr++fb).Nodup/\(∀ b∈fr++fb,b<w'.heap.size/\(b∈fp\/w.heap.size<=b))/\Chg (·∈fp) (atD D w) w':=by
  intro hfin
  obtain ⟨β,φ,dom,V⟩:=hH
  unfold finP at hfin
  split at hfin
  ·rename_i ps hps
   obtain ⟨hv,_⟩:=Ji hfin
   unfold finV at hps
   split at hps
   ·rename_i azz has
    split at hps
    ·rename_i m n h1 h2
     cases hb:Jy (m.2++n.2) with
     | false=>rw [hb] at hps; cases hps
     | true =>
      simp only [hb,Qc,Qa] at hps
      subst hps
      have hnn:=Vo hb
      obtain ⟨n1,n2,n3⟩:=Rh.1 hnn
      obtain ⟨v1,v2⟩:=AllP.app hv
      obtain ⟨r1,r2⟩:=Qfj V has
      obtain ⟨fr,k1,k2,k3⟩:=Qzn V.rel _ _ m h1 v1 n1 r2
      obtain ⟨fb,q1,q2,q3⟩:=Qoi V sp.args 0 vs n (fun j hj=>by
       have hj':j<vs.length:=by have:=Qpi sp.args 0 _ hj; omega
       rw [hp (0+j) hj,Rs]
       simp only
       rw [Gi (by simpa using hj')]
       simp) hlen h2 v2 n2
      have hmm:∀ id∈m.2++n.2,∃ x,fsG s'.fs id=some x/\x.mod=true:=fun id hid=>(Q6.1 hid).elim (k3 id) (q3 id)
      obtain ⟨g1,g2⟩:=FPo.app V.rel k2 q2 hnn hmm
      refine ⟨V.defers,_,r1,_,fr,fb,rfl,k1,q1,g1,fun b hb=>?_,V.rel.chg⟩
      obtain ⟨id,hid,hbi⟩:=(g2 b).1 hb
      obtain ⟨x,hx,hxm⟩:=hmm id hid
      obtain ⟨l1,l2,_⟩:=V.rel.lt id x hx hxm b hbi
      exact ⟨l1,l2.symm⟩
    ·cases hps
   ·cases hps
  ·exact hfin.elim
 cases e with
 | n=>exact key hq
 | r=>exact key hq
 | x id=>exact hq.elim
def fnG {D:Bool} (P:Program) (fn:Func) (ct:Cert D P) (sp:Spec):Prop:=match fn.body with
 | some c=>bif Nat.ble sp.args.length fn.ntmps&&parC (Jc 0 sp.args) c then sp.pre->fnP P fn c ct sp else False
 | none=>False
theorem Ue (hm:P.follows .mixedOrders=true) {f:FuncId} {fn:Func} {ct:Cert D P} {sp:Spec} (hf:P.funcs[f]?=some fn) {A:Prop} (h:A) (e:A=fnG P fn ct sp):Spec.ok P f sp D:=by
 rw [e] at h
 unfold fnG at h
 split at h
 ·rename_i c hc
  cases hb:(Nat.ble sp.args.length fn.ntmps&&parC (Jc 0 sp.args) c) with
  | false=>rw [hb] at h; exact h.elim
  | true =>
   rw [hb] at h
   simp only [Qo] at hb
   exact fn_ok hm hf hc hb.1 hb.2 h
 ·exact h.elim
def finM (P:Program) (fn:Func) (sp:SpecM) (s:St):Prop:=match Mu P s fn.results.toList with
 | some [.p id 0]=>(match fsG s.fs id with
  | some (.mem none _ es)=>Imps es sp.es
  | _=>False)
 | _=>False
def fnM {D:Bool} (P:Program) (fn:Func) (ct:Cert D P) (sp:SpecM):Prop:=match fn.body with
 | some c=>bif Nat.ble 1 fn.ntmps&&parC [] c then sp.pre->cwp P fn.ntmps c ct (stIn [.rp sp.ds]) (fun e s=>match e with
  | .x _=>False
  | _=>finM P fn sp s) else False
 | none=>False
theorem Ugg (hm:P.follows .mixedOrders=true) {f:FuncId} {fn:Func} {ct:Cert D P} {sp:SpecM} (hf:P.funcs[f]?=some fn) {A:Prop} (h:A) (e:A=fnM P fn ct sp):SpecM.ok P f sp D:=by
 rw [e] at h
 unfold fnM at h
 split at h
 ·rename_i c hc
  cases hb:(Nat.ble 1 fn.ntmps&&parC [] c) with
  | false=>rw [hb] at h; exact h.elim
  | true =>
   rw [hb,Qc] at h
   simp only [Qo] at hb
   intro hpre S w b o vs hS hG hSb hH hR
   refine calls_of_wp hf hc ?_
   have hA:ArgsOK P S w [.rp sp.ds] [.pointer (some ⟨b,o,none⟩)] []:=by
    refine ⟨.pointer (some ⟨b,o,none⟩),[],[],[],rfl,?_,⟨rfl,rfl⟩,rfl,Q2⟩
    exact ⟨⟨b,o,vs,rfl,hSb,hH,hR⟩,rfl⟩
   have H0:=Qur D (N:=fn.ntmps) (sp:=⟨[.rp sp.ds],.v (.bool true),True⟩) (S:=S) (w:=w) (vs:=[.pointer (some ⟨b,o,none⟩)]) (fp:=[]) (fun b hb=>⟨hS b hb,Rv⟩) hG hA (fun b hb=>by cases hb) Q2 (Rw hb.1)
   have hD0:D=false->(atD D w).drawn=0:=fun h=>by rw [h]; rfl
   refine Kd hD0 hm (n:=[]) _ c ct _ _ hb.2 (h hpre) _ w H0 (fun _ _=>rfl) _ fun e s' a' w' hq hH hp=>?_
   have key:finM P fn sp s'->a'.defers=[]/\∃ v,(results fn a'.tmps).run P w'=.ok v w'/\∃ b' o' us,Ending.returned v=.returned (.pointer (some ⟨b',o',none⟩))/\S b'/\Has w' b' o' us/\RdVs S w' sp.es us/\Chg (fun _=>False) (atD D w) w':=by
    intro hfin
    obtain ⟨β,φ,dom,V⟩:=hH
    unfold finM at hfin
    split at hfin
    ·rename_i id has
     split at hfin
     ·rename_i el es hid
      obtain ⟨r1,r2⟩:=Qfj V has
      obtain ⟨_,b',o',k1,k2,k3,k4⟩:=V.rel.ok id _ hid
      refine ⟨V.defers,_,r1,b',o',_,?_,k2,k3,hfin.rd k4,?_⟩
      ·simp [Qhx,val,k1,padd]
      ·have hc:=V.rel.chg
       exact ⟨hc.os,hc.tape,hc.output,hc.size,fun k hk _=>hc.block k hk (fun h=>by cases h),hc.drawn⟩
     ·exact hfin.elim
    ·exact hfin.elim
   cases e with
   | n=>exact key hq
   | r=>exact key hq
   | x id=>exact hq.elim
 ·exact h.elim
end
inductive Lp (σ ρ:Type) where
 | next (s:σ)
 | done (s:σ)
 | ret (r:ρ)
def runL {σ ρ:Type} (step:σ->Lp σ ρ):Nat->σ->Lp σ ρ
 | 0,s=>.next s
 | m+1,s=>match step s with
  | .next s'=>runL step m s'
  | .done s'=>.done s'
  | .ret r=>.ret r
def Lp.fin {σ ρ τ:Type} (x:Lp σ ρ) (f:ρ->τ) (g:σ->τ):τ:=match x with
 | .ret r=>f r
 | .done s=>g s
 | .next s=>g s
theorem Ud {σ ρ:Type} {step:σ->Lp σ ρ} {m:Nat} {s s':σ} {X:Lp σ ρ} (h:runL step (m+1) s=X) (e:Lp.next s'=step s):runL step m s'=X:=by
 rw [<- h]; simp [runL,<- e]
theorem Uh {σ ρ:Type} {step:σ->Lp σ ρ} {m:Nat} {s s':σ} {X:Lp σ ρ} (h:runL step (m+1) s=X) (e:Lp.done s'=step s):X=.done s':=by
 rw [<- h]; simp [runL,<- e]
theorem Um {σ ρ:Type} {step:σ->Lp σ ρ} {m:Nat} {s:σ} {r:ρ} {X:Lp σ ρ} (h:runL step (m+1) s=X) (e:Lp.ret r=step s):X=.ret r:=by
 rw [<- h]; simp [runL,<- e]
theorem finD {σ ρ τ:Type} {x:Lp σ ρ} {f:ρ->τ} {g:σ->τ} {s:σ} {v:τ} (h:x=.done s) (e:v=g s):v=x.fin f g:=by rw [h]; exact e
theorem finR {σ ρ τ:Type} {x:Lp σ ρ} {f:ρ->τ} {g:σ->τ} {r:ρ} {v:τ} (h:x=.ret r) (e:v=f r):v=x.fin f g:=by rw [h]; exact e
theorem condT {α:Type} {c:Bool} {a b v:α} (h:c=true) (e:v=a):v=bif c then a else b:=by rw [h]; exact e
theorem condF {α:Type} {c:Bool} {a b v:α} (h:c=false) (e:v=b):v=bif c then a else b:=by rw [h]; exact e
theorem hd1 {σ ρ:Type} {step:σ->Lp σ ρ} {m k:Nat} {s:σ} {X:Lp σ ρ} (h:runL step m s=X) (h':k<m):runL step (m-1+1) s=X:=by
 rw [Nat.sub_add_cancel uu0]; exact h
theorem hd2 {m k:Nat} (h:k<m):k<m-1+1:=by omega
theorem hd3 {m k:Nat} (h:k<m):m-1<m:=by omega
def Lp.all {σ ρ:Type} (I:σ->Prop) (J:ρ->Prop):Lp σ ρ->Prop
 | .next s=>I s
 | .done s=>I s
 | .ret r=>J r
theorem Yq {b:Bool} (h:(!b)=true):b=false:=by simpa using h
theorem Uw {b:Bool} (h:(!b)=false):b=true:=by simpa using h
theorem beqF {a b:Int} (h:(a==b)=false):¬ a=b:=by simpa using h
theorem bneT {a b:Int} (h:(a != b)=true):¬ a=b:=by simpa using h
theorem bneF {a b:Int} (h:(a != b)=false):a=b:=by simpa using h
theorem Uc {c x:Bool} (h:(bif c then x else false)=true):c=true:=by cases c <;> simp_all
theorem Ut {c x:Bool} (h:(bif c then x else false)=true):x=true:=by cases c <;> simp_all
theorem orF1 {c x:Bool} (h:(bif c then true else x)=false):c=false:=by cases c <;> simp_all
theorem orF2 {c x:Bool} (h:(bif c then true else x)=false):x=false:=by cases c <;> simp_all
theorem lens:(∀ {α:Type} (l:List α) (i:Nat) (x:α),(l.set i x).length=l.length)/\(∀ {α:Type} (l m:List α),(l++m).length=l.length+m.length)/\(∀ {α:Type} (x:α) (l:List α),(x :: l).length=l.length+1)/\(∀ {α:Type},([]:List α).length=0) /\
  (∀ {α:Type} (n:Nat) (x:α),(List.replicate n x).length=n)/\(∀ {α:Type} (n:Nat) (l:List α),(l.take n).length=min n l.length)/\(∀ {α:Type} (n:Nat) (l:List α),(l.drop n).length=l.length-n)/\(∀ {α β:Type} (f:α->β) (l:List α),(l.map f).length=l.length) :=
 ⟨by simp,by simp,by simp,by simp,by simp,by simp,by simp,by simp⟩
def eInt (x:Int):List Dat:=[.v (.int .i64 x)]
def Xr (x:Int):List Dat:=[.v (.int .u8 (x%256))]
def eBool (x:Bool):List Dat:=[.v (.bool x)]
def eStr (x:Za):List Dat:=[.v (.string x)]
def eL {α:Type} [Inhabited α] (sz:Nat) (enc:α->List Dat) (xs:List α):List Dat:=[.l sz enc xs]
def Bf (xs:List Int):Za:=strOfNums (xs.map fun x=>x%256)
theorem Qaq (a b:Za):(a++b).size=a.size+b.size:=by simp
theorem Imp.u8 {a b:Int} (h:a=b):Imp (.v (.int .u8 a)) (.v (.int .u8 b)):=Imp.of_eq (by rw [h])
theorem u8a (b:UInt8):(b.toNat:Int)=(b.toNat:Int)%256:=by have:=b.toNat_lt; omega
theorem u8m (x:Int):x%256=x%256%256:=by omega
theorem u8w (x:Int):IntKind.u8.wrap x=IntKind.u8.wrap x%256:=by
 have h1:IntKind.u8.wrap x=x%256:=by
  simp [IntKind.wrap,IntKind.signed,IntKind.bits]
 rw [h1]; omega
theorem sz0:Zi.size=0:=rfl
end Go.Proofs.YthjaknclldmheaaGreatDoor
namespace Go.Proofs.YthjaknclldmheaaGreatDoor
open Go.RowKit Go.ChangeShapes Go.WideShapes Go.ChangeAt
def Opens {α:Type} (P:Program) (t:TypeId) (r:Rp α):Prop :=
 ∀ (H:Type) (enc:TypeId×Value->H) (W:World) (fuel:Nat) (cs:List Value) (y:DataW H×List MemPlace),DataW.trod enc P W 0 (fun _=>true) true fuel t cs=some y->∃ x,r.rd W cs x
section
variable {P:Program} {t:TypeId}
theorem Opens.int (hu:P.underlying t=some (.int .i64)):Opens P t rpInt:=by
 intro H enc W fuel cs y h
 cases fuel with
 | zero=>simp [DataW.trod] at h
 | succ fuel =>
  simp only [DataW.trod,hu] at h
  split at h <;> simp_all [rpInt,Rp.flat]
theorem Opens.bool (hu:P.underlying t=some .bool):Opens P t Ucp:=by
 intro H enc W fuel cs y h
 cases fuel with
 | zero=>simp [DataW.trod] at h
 | succ fuel =>
  simp only [DataW.trod,hu] at h
  split at h <;> simp_all [Ucp,Rp.flat]
theorem Opens.str (hu:P.underlying t=some .string):Opens P t rpStr:=by
 intro H enc W fuel cs y h
 cases fuel with
 | zero=>simp [DataW.trod] at h
 | succ fuel =>
  simp only [DataW.trod,hu] at h
  split at h <;> simp_all [rpStr,Rp.flat]
theorem Qer {α β:Type} {f:α->Option β}:∀ (l:List α) (ys:List β),l.mapM f=some ys->∀ x∈l,∃ y,f x=some y
 | [],_,_,x,hx=>by cases hx
 | a :: l,ys,h,x,hx=>by
  rw [List.mapM_cons] at h
  cases hf:f a with
  | none=>rw [hf] at h; cases h
  | some b =>
   rw [hf] at h
   cases hl:l.mapM f with
   | none=>simp [hl] at h
   | some bs =>
    rcases Qu.1 hx with rfl | hx
    ·exact ⟨b,hf⟩
    ·exact Qer l bs hl x hx
theorem Qyy {α β:Type} {f:α->Option β}:∀ (l:List α) (ys:List β),l.mapM f=some ys->ys.length=l.length/\∀ (i:Nat) (x:α),l[i]?=some x->f x=ys[i]?
 | [],ys,h=>by simp at h; subst h; simp
 | a :: l,ys,h=>by
  rw [List.mapM_cons] at h
  cases hf:f a with
  | none=>rw [hf] at h; cases h
  | some b =>
   rw [hf] at h
   cases hl:l.mapM f with
   | none=>simp [hl] at h
   | some bs =>
    simp [hl] at h
    subst h
    obtain ⟨h1,h2⟩:=Qyy l bs hl
    refine ⟨by simp [h1],fun i x hx=>?_⟩
    cases i with
    | zero=>simp at hx; subst hx; simpa using hf
    | succ i=>simpa using h2 i x (by simpa using hx)
theorem Zu {H:Type} {enc:TypeId×Value->H} {W:World} {fs:Array Field} (hu:P.underlying t=some (.struct fs)) {fuel:Nat} {cs:List Value} {y:DataW H×List MemPlace}
  (h:DataW.trod enc P W 0 (fun _=>true) true fuel t cs=some y):cs.length=P.cellsOf t/\∀ (i:Nat) (f:Field),fs[i]?=some f->∃ n z,DataW.trod enc P W 0 (fun _=>true) true n f.type ((cs.drop f.offset).take (P.cellsOf f.type))=some z:=by
 cases fuel with
 | zero=>simp [DataW.trod] at h
 | succ fuel =>
  have e:DataW.trod enc P W 0 (fun _=>true) true (fuel+1) t cs=if cs.length=P.cellsOf t then (fs.toList.mapM fun f=>DataW.trod enc P W 0 (fun _=>true) true fuel f.type ((cs.drop f.offset).take (P.cellsOf f.type))).map fun xs=>(.agg (xs.map (·.1)),xs.flatMap (·.2)) else none:=by
   have e0:P.underlying t=some (.struct fs):=hu
   rw [DataW.trod.eq_def]
   simp only [e0]
  rw [e] at h
  split at h
  ·rename_i hlen
   refine ⟨hlen,fun i f hf=>?_⟩
   obtain ⟨xs,hx,_⟩:=Re.1 h
   obtain ⟨z,hz⟩:=Qer _ _ hx f (Array.mem_toList_iff.2 (Array.mem_of_getElem? hf))
   exact ⟨fuel,z,hz⟩
  ·cases h
theorem Qcs {α:Type} {Q:Nat->α->Prop}:∀ n,(∀ i,i<n->∃ x,Q i x)->∃ xs:List α,xs.length=n/\∀ (i:Nat) (x:α),xs[i]?=some x->Q i x
 | 0,_=>⟨[],rfl,fun i x h=>by simp at h⟩
 | n+1,h=>by
  obtain ⟨xs,hl,hq⟩:=Qcs n (fun i hi=>h i uu0)
  obtain ⟨x,hx⟩:=h n uu0
  refine ⟨xs++[x],by simp [hl],fun i y hy=>?_⟩
  by_cases hi:i<n
  ·rw [R9 uu0] at hy; exact hq i y hy
  ·have hin:i=n:=by
    have:=(Qr.1 hy).1
    simp at this; omega
   subst hin
   rw [Rl uu0] at hy
   simp [hl] at hy
   exact hy ▸ hx
theorem cells?_has {w:World} {a:Addr} {n:Nat} {cs:List Value} (h:w.cells? 0 a n=some cs):cs.length=n/\∀ (j:Nat) (v:Value),cs[j]?=some v->w.cell? (a.add j)=some v:=by
 simp only [World.cells?,Qy,Sx] at h
 obtain ⟨h1,h2⟩:=Qyy _ _ h
 refine ⟨by simpa using h1,fun j v hj=>?_⟩
 have hlt:=(Qr.1 hj).1
 have:=h2 j j (by rw [List.getElem?_range (by simpa [h1] using hlt)])
 rw [this,hj]
theorem Opens.slice {α:Type} {e:TypeId} {r:Rp α} (hu:P.underlying t=some (.slice e)) (ho:Opens P e r) (hsz:P.cellsOf e=r.sz) (hpos:0<r.sz):Opens P t r.slice:=by
 intro H enc W fuel cs y h
 cases fuel with
 | zero=>simp [DataW.trod] at h
 | succ fuel =>
  simp only [DataW.trod,hu] at h
  split at h <;> try (simp_all; done)
  ·exact ⟨[],none,0,rfl,SlR.nil r W⟩
  ·rename_i e' a len cap heq
   simp only [Qa,TypeDesc.slice.injEq] at heq
   subst heq
   split at h
   ·rename_i hcap
    cases hm:(List.range len).mapM (fun i=>(W.cells? 0 (a.add (i*P.cellsOf e)) (P.cellsOf e)).bind (DataW.trod enc P W 0 (fun _=>true) true fuel e)) with
    | none=>rw [hm] at h; simp at h
    | some els =>
     have hat:∀ i,i<len->∃ cs,W.cells? 0 (a.add (i*r.sz)) r.sz=some cs/\∃ x,r.rd W cs x:=by
      intro i hi
      obtain ⟨z,hz⟩:=Qer _ _ hm i (by simpa using hi)
      obtain ⟨cs,hc,hz⟩:=Qj.1 hz
      rw [hsz] at hc
      exact ⟨cs,hc,ho H enc W fuel cs z hz⟩
     obtain ⟨xs,hlen,hxs⟩:=Qcs (Q:=fun i x=>∃ cs,W.cells? 0 (a.add (i*r.sz)) r.sz=some cs/\r.rd W cs x) len (fun i hi=>by
      obtain ⟨cs,h1,x,h2⟩:=hat i hi; exact ⟨x,cs,h1,h2⟩)
     refine ⟨xs,some a,cap,by rw [hlen],by omega,by have:=hcap.2.2; unfold maxLen at this; omega,fun i x hx=>?_⟩
     have hi:i<len:=by have:=(Qr.1 hx).1; omega
     have hspot:a.spot=none:=by
      obtain ⟨c0,h1,_⟩:=hat 0 uu0
      obtain ⟨hl,hc⟩:=cells?_has h1
      have hz:c0[0]?=some (c0[0]'uu0):=Qh _
      have:=hc 0 _ hz
      simp only [Nat.zero_mul,Addr.add,Sx] at this
      unfold World.cell? at this
      split at this
      ·split at this
       ·cases this
       ·rename_i hs; simpa using hs
      ·cases this
     have ha:a=⟨a.block,a.off,none⟩:=by cases a; simp_all
     obtain ⟨cs',h1,h2⟩:=hxs i x hx
     obtain ⟨hl,hc⟩:=cells?_has h1
     have hhas:Has W a.block (a.off+i*r.sz) cs':=by
      intro j v hj
      have:=hc j v hj
      rw [ha] at this
      simpa [Pf] using this
     refine ⟨by simp only [ab,ao,Sd]; exact Qt some ha,?_,cs',hl,hhas,h2⟩
     have hz:cs'[0]?=some (cs'[0]'uu0):=Qh _
     have hlt:=World.block_lt_of_cell? W _ (hhas 0 _ hz)
     simpa [ab] using hlt
   ·cases h
end
theorem Uhf {H:Type} {enc:TypeId×Value->H} {P:Program} {f:Func} {s:ChangeSpec} {W W':World} {args:Array Value} {ds:List (DataW H)} {before:List MemPlace} {b:Nat}
  (hv:s.vars=[]) (hW:DataW.Whole enc P f.params.toList s.vars false W args.toList ds [] before) (hb:Below W.heap.size W W')
  (hres:f.resultTypes=#[b]) (hbt:P.underlying b=some .bool) (hsr:(s.fn H (ds++[])).results=[.lit (.bool true)]) (hsa:(s.fn H (ds++[])).args=ds) (hsv:(s.fn H (ds++[])).vars=[])
  (hl:laidOutB P=true) (hr:∀ t∈f.params.toList,P.readableRec t=true/\t<P.types.size) :
  s.post enc P f false true false false W args (.bool true) W':=by
 have hW':=hW
 obtain ⟨p,q,hA,hV,rfl,hfz,hnd⟩:=hW
 rw [hv] at hV
 have hq:q=[]:=hV
 subst hq
 refine ⟨ds,[],p++[],[],p,[],hW',?_,?_,?_,hb.frame _,fun h=>by cases h⟩
 ·rw [hsr,hres]
  refine ⟨[],[],⟨1,?_⟩,rfl,rfl⟩
  simp [Value.cells,DataW.trod,hbt]
 ·rw [hsa]
  have hlt:∀ x∈p,x.block<W.heap.size:=fun x hx=>by simpa using hW'.lt x (by simpa using hx)
  have key:∀ (ts:List TypeId) (vs:List Value) (ds:List (DataW H)) (p:List MemPlace),(∀ t∈ts,P.readableRec t=true/\t<P.types.size)->(∀ x∈p,x.block<W.heap.size) ->
    DataW.TrodAll enc P W 0 (fun _=>true) true ts vs ds p->DataW.TrodAll enc P W' 0 (fun b=>decide (b<W.heap.size)) true ts vs ds p:=by
   intro ts
   induction ts with
   | nil=>intro vs ds p _ _ h; cases vs <;> cases ds <;> first | exact h | exact h.elim
   | cons t ts ih =>
    intro vs ds p hr hlt h
    cases vs with
    | nil=>exact h.elim
    | cons v vs =>
     cases ds with
     | nil=>exact h.elim
     | cons d ds =>
      obtain ⟨p1,q1,h1,h2,rfl⟩:=h
      exact ⟨p1,q1,Below.trod hl (hr t Ql).1 (hr t Ql).2 h1 hb (fun x hx=>hlt x (Qx _ hx)),
       ih vs ds q1 (fun t ht=>hr t (Qi _ ht)) (fun x hx=>hlt x (Qv _ hx)) h2,rfl⟩
  exact key _ _ _ _ hr hlt hA
 ·rw [hsv,hv]; exact rfl
end Go.Proofs.YthjaknclldmheaaGreatDoor
namespace Go.Proofs.YthjaknclldmheaaGreatDoor
open Go.RowKit Go.ChangeShapes Go.WideShapes Go.ChangeAt
def rpD {α:Type} (enc:α->List Dat) (sz:Nat) (hl:∀ x,(enc x).length=sz):Rp α where
 sz:=sz
 rd w cs x:=RdVs (·<w.heap.size) w (enc x) cs
 mono e h:=RdVs.mono (fun b hb=>⟨Rq hb e.size,e.block b hb⟩) _ _ h
 own w cs x fp:=OwVs w (enc x) cs fp
 own_rd h:=RdVs.mono (fun b hb=>⟨OwVs.lt _ _ _ h b hb,rfl⟩) _ _ (OwVs.rd _ _ _ h)
 own_keep h hk:=OwVs.keep _ _ _ hk h
 own_lt h:=OwVs.lt _ _ _ h
 own_nd h:=OwVs.nd h
 rd_len h:=by rw [RdVs.len h]; exact hl _
 own_one h:=OwVs.one h
def OpD {α:Type} (P:Program) (t:TypeId) (enc:α->List Dat):Prop :=
 ∀ (H:Type) (en:TypeId×Value->H) (W:World) (fuel:Nat) (cs:List Value) (y:DataW H×List MemPlace),DataW.trod en P W 0 (fun _=>true) true fuel t cs=some y->∃ x,RdVs (·<W.heap.size) W (enc x) cs
theorem RdVs.app {S:Nat->Prop} {w:World}:∀ {azz bs:List Dat} {us vs:List Value},RdVs S w azz us->RdVs S w bs vs->RdVs S w (azz++bs) (us++vs)
 | [],_,us,vs,h,h'=>by
  have:us=[]:=h
  subst this
  exact h'
 | a :: azz,bs,us,vs,h,h'=>by
  obtain ⟨u,us',rfl,h1,h2⟩:=h
  exact ⟨u,us'++vs,rfl,h1,RdVs.app h2 h'⟩
section
variable {P:Program} {t:TypeId}
theorem OpD.int (hu:P.underlying t=some (.int .i64)):OpD P t eInt:=fun H e W f cs y h=>by
 obtain ⟨x,hx⟩:=Opens.int hu H e W f cs y h
 have hx:cs=[.int .i64 x]:=hx
 subst hx
 exact ⟨x,_,_,rfl,⟨rfl,rfl⟩,rfl⟩
theorem OpD.bool (hu:P.underlying t=some .bool):OpD P t eBool:=fun H e W f cs y h=>by
 obtain ⟨x,hx⟩:=Opens.bool hu H e W f cs y h
 have hx:cs=[.bool x]:=hx
 subst hx
 exact ⟨x,_,_,rfl,⟨rfl,rfl⟩,rfl⟩
theorem OpD.str (hu:P.underlying t=some .string):OpD P t eStr:=fun H e W f cs y h=>by
 obtain ⟨x,hx⟩:=Opens.str hu H e W f cs y h
 have hx:cs=[.string x]:=hx
 subst hx
 exact ⟨x,_,_,rfl,⟨rfl,rfl⟩,rfl⟩
theorem OpD.slice {α:Type} [Inhabited α] {e:TypeId} {enc:α->List Dat} (sz:Nat) (hu:P.underlying t=some (.slice e)) (ho:OpD P e enc) (hl:∀ x,(enc x).length=sz) (hsz:P.cellsOf e=sz) (hpos:0<sz):OpD P t (fun xs:List α=>[.l sz enc xs]):=fun H en W f cs y h=>by
 obtain ⟨xs,a,c,rfl,h1,h2,h3⟩:=Opens.slice (r:=rpD enc sz hl) hu ho hsz hpos H en W f cs y h
 exact ⟨xs,_,[],rfl,⟨a,c,rfl,h1,h2,fun i x hx=>h3 i x hx⟩,rfl⟩
end
def OpDB {α:Type} (P:Program) (t:TypeId) (enc:α->List Dat) (B:α->Prop):Prop :=
 ∀ (H:Type) (en:TypeId×Value->H) (W:World) (fuel:Nat) (cs:List Value) (y:DataW H×List MemPlace),DataW.trod en P W 0 (fun _=>true) true fuel t cs=some y->∃ x,RdVs (·<W.heap.size) W (enc x) cs/\B x
theorem OpD.b {α:Type} {P:Program} {t:TypeId} {enc:α->List Dat} (h:OpD P t enc):OpDB P t enc fun _=>True:=fun H en W f cs y k=>by
 obtain ⟨x,hx⟩:=h H en W f cs y k; exact ⟨x,hx,trivial⟩
theorem OpDB.str {P:Program} {t:TypeId} (hu:P.underlying t=some .string):OpDB P t eStr fun s=>s.size<=9223372036854775807:=fun H e W f cs y h=>by
 obtain ⟨s,rfl,_,hs⟩:=DataW.trod_string hu h
 exact ⟨s,⟨_,_,rfl,⟨rfl,rfl⟩,rfl⟩,hs⟩
def rpDB {α:Type} (enc:α->List Dat) (B:α->Prop) (sz:Nat) (hl:∀ x,(enc x).length=sz):Rp α where
 sz:=sz
 rd w cs x:=RdVs (·<w.heap.size) w (enc x) cs/\B x
 mono e h:=⟨RdVs.mono (fun b hb=>⟨Rq hb e.size,e.block b hb⟩) _ _ h.1,h.2⟩
 own w cs x fp:=OwVs w (enc x) cs fp/\B x
 own_rd h:=⟨RdVs.mono (fun b hb=>⟨OwVs.lt _ _ _ h.1 b hb,rfl⟩) _ _ (OwVs.rd _ _ _ h.1),h.2⟩
 own_keep h hk:=⟨OwVs.keep _ _ _ hk h.1,h.2⟩
 own_lt h:=OwVs.lt _ _ _ h.1
 own_nd h:=OwVs.nd h.1
 rd_len h:=by rw [RdVs.len h.1]; exact hl _
 own_one h:=OwVs.one h.1
theorem OpDB.slice {P:Program} {t:TypeId} {α:Type} [Inhabited α] {e:TypeId} {enc:α->List Dat} {B:α->Prop} (sz:Nat) (hu:P.underlying t=some (.slice e)) (ho:OpDB P e enc B) (hl:∀ x,(enc x).length=sz) (hsz:P.cellsOf e=sz) (hpos:0<sz) (h0:B default):OpDB P t (fun xs:List α=>[.l sz enc xs]) (fun xs=>∀ k:Nat,B (xs.getD k default)):=fun H en W f cs y h=>by
 obtain ⟨xs,a,c,rfl,h1,h2,h3⟩:=Opens.slice (r:=rpDB enc B sz hl) hu ho hsz hpos H en W f cs y h
 refine ⟨xs,⟨_,[],rfl,⟨a,c,rfl,h1,h2,fun i x hx=>?_⟩,rfl⟩,fun k=>?_⟩
 ·obtain ⟨k1,k2,cs,k3,k4,k5⟩:=h3 i x hx
  exact ⟨k1,k2,cs,k3,k4,k5.1⟩
 ·rw [Qd]
  cases hx:xs[k]? with
  | none=>exact h0
  | some x =>
   obtain ⟨k1,k2,cs,k3,k4,k5⟩:=h3 k x hx
   exact k5.2
theorem GP.gok {W:World} (h:GP W):GOK (·<W.heap.size) W:=⟨h,fun b hb=>by
 have key:∀ e,W.cell? ⟨b,0,none⟩=some e->b<W.heap.size:=fun e he=>by
  rcases Gm b W.heap.size with h1 | h1
  ·exact h1
  ·simp [World.cell?,Array.getElem?_eq_none h1] at he
 rcases Q6.1 hb with hb | hb
 ·rcases Q6.1 hb with hb | hb
  ·obtain ⟨e,he,_⟩:=h.1 b hb; exact key e he
  ·obtain ⟨m,he⟩:=h.2.1 b hb; exact key _ he
 ·obtain ⟨q,hq,rfl⟩:=Si.1 hb
  obtain ⟨T,fz,he⟩:=h.2.2 q hq
  exact (Rz.1 he).1⟩
theorem Ubm {P:Program} {f:FuncId} {sp:Spec} {D:Bool} (h:sp.ok P f D) (hp:sp.pre) {W:World} {vs:List Value} {x:Value} (hG:GP W) (ha:ArgsOK P (·<W.heap.size) W sp.args vs []) (hr:sp.res=.v x) (_:(sp.args.all fun a=>match a with | .r _=>true | .vl _ _=>true | _=>false)=true) :
  Calls P f vs.toArray W fun e W'=>e=.returned x/\Below W.heap.size W W':=by
 refine Calls.mono (h hp _ W vs [] (fun b hb=>⟨hb,fun h=>by cases h⟩) hG.gok ha) fun e W' ⟨rv,fr,fb,h1,h2,_,_,_,h6⟩=>?_
 rw [hr] at h2
 obtain ⟨rfl,_,_⟩:=h2
 exact ⟨h1,⟨h6.os,h6.tape,h6.output,h6.size,fun k hk=>h6.block k hk fun hk=>by cases hk⟩⟩
end Go.Proofs.YthjaknclldmheaaGreatDoor
namespace Go.Proofs.YthjaknclldmheaaGreatDoor
open Go.RowKit
set_option maxRecDepth 100000
set_option linter.unusedVariables false
set_option linter.unusedSimpArgs false
theorem laid:laidOutB Tryz.prog=true:=by kernel_rfl
theorem cfMaps:mapsRowed Tryz.prog=true:=by kernel_rfl
theorem cfKeys:Tryz.prog.plainKeys=Rows.fnExactConfMayRow.plainKeys:=by kernel_rfl
theorem Ulm:Tryz.prog.liftsFinal=Rows.fnExactConfMayRow.lifted:=by kernel_rfl
theorem Unr:Tryz.prog.stopsHeard=true:=by kernel_rfl
theorem Qmj:∀ (a r:List Char),(a.all fun c=>c != (Char.ofNat 32))=true->wordsSigns (a++(Char.ofNat 32) :: r)=a :: wordsSigns r
 | [],r,_=>by simp [wordsSigns]
 | c :: a,r,h=>by
  simp only [Rr,Qo,Gw,ne_eq] at h
  have ih:=Qmj a r h.2
  rw [Tc,wordsSigns.eq_3 _ _ (fun e=>h.1 e),ih]
theorem Udi {P:Program} {s r:List Char} (h:P.initOrder.toList= "harness".toList++(Char.ofNat 32) :: (s++(Char.ofNat 32) :: ("cut".toList++(Char.ofNat 32) :: r))) (hs:isSumSigns s=true) (h1:P.laysLater=false) (h2:P.bearsReflect=false) (h3:P.doorFits []=true):P.mayEnter=true:=by
 have hsp:(s.all fun c=>c != (Char.ofNat 32))=true:=by
  unfold isSumSigns at hs
  simp only [Qo,Rc] at hs ⊢
  intro c hc
  have:=hs.2 c hc
  rw [Gw]
  rintro rfl
  exact absurd this uu2
 have hw:behindMainWord (wordsSigns P.initOrder.toList)= "cut".toList :: wordsSigns r:=by
  rw [h,Qmj _ _ uu2,Qmj _ _ hsp,Qmj _ _ uu2]
  show (if (("harness".toList== "harness".toList || "harness".toList== "ownmain".toList)&&isSumSigns s)=true then "cut".toList :: wordsSigns r else _)=_
  rw [hs]; rfl
 have hst:stripLifts liftWords ("cut".toList :: wordsSigns r)=([],"cut".toList :: wordsSigns r):=by rfl
 unfold Program.mayEnter
 rw [hw]
 simp only [hst,h1,h2,h3,List.head?_cons]
 simp
theorem laysL:Tryz.prog.laysLater=false:=by kernel_rfl
theorem bearsR:Tryz.prog.bearsReflect=false:=by kernel_rfl
theorem doorF:Tryz.prog.doorFits []=true:=by kernel_rfl
theorem initO:Tryz.prog.initOrder.toList.take 77= "harness".toList++(Char.ofNat 32) :: ("15a610af689f9a58b53d43f0323c8bf9531cef24e15499f2b85c69767026ebf9".toList++(Char.ofNat 32) :: ("cut".toList++[Char.ofNat 32])):=by kernel_rfl
theorem Uje:Tryz.prog.mayEnter=true:=by
 refine Udi (s:= "15a610af689f9a58b53d43f0323c8bf9531cef24e15499f2b85c69767026ebf9".toList) (r:=Tryz.prog.initOrder.toList.drop 77) ?_ uu2 laysL bearsR doorF
 have e:=(R6 77 Tryz.prog.initOrder.toList).symm
 rw [initO] at e
 simpa using e
theorem cfMake:Tryz.prog.make=some Rows.fnExactConfMayRow.make:=by kernel_rfl
theorem Vp {σ ρ τ:Type} {step:τ->Lp τ ρ} (emb:Nat->σ->τ) (n:Nat) (I:Nat->σ->Prop) (R:ρ->Prop)
  (h1:∀ k s,k<n->I k s->(∃ s',step (emb k s)=.next (emb (k+1) s')/\I (k+1) s')\/∃ r,step (emb k s)=.ret r/\R r)
  (h2:∀ s,I n s->step (emb n s)=.done (emb n s)):∀ (m k:Nat) (s:σ),k+m=n->I k s->∀ M,m<M->(∃ s',runL step M (emb k s)=.done (emb n s')/\I n s')\/∃ r,runL step M (emb k s)=.ret r/\R r
 | 0,k,s,hk,hI,M,hM=>by
  obtain rfl:k=n:=by omega
  obtain ⟨M,rfl⟩:∃ M',M=M'+1:=⟨M-1,by omega⟩
  exact .inl ⟨s,by simp [runL,h2 s hI],hI⟩
 | m+1,k,s,hk,hI,M,hM=>by
  obtain ⟨M,rfl⟩:∃ M',M=M'+1:=⟨M-1,by omega⟩
  rcases h1 k s uu0 hI with ⟨s',e,hI'⟩ | ⟨r,e,hr⟩
  ·have:=Vp emb n I R h1 h2 m (k+1) s' uu0 hI' M uu0
   simp only [runL,e]
   exact this
  ·exact .inr ⟨r,by simp [runL,e],hr⟩
theorem n0 (n:Nat):Int.toNat ((n:Int)-0)=n:=by simp
theorem nn (n:Nat):Int.toNat (n:Int)=n:=by simp
theorem ltD {n:Nat} {k:Nat} (h:k<n):decide ((k:Int)<(n:Int))=true:=by simp; omega
theorem geD {n:Nat}:decide ((n:Int)<(n:Int))=false:=by simp
theorem Kq {α:Type} [Inhabited α] (xs:List α) {k:Nat} (h:xs.length<=k):xs.getD k default=default:=by
 rw [Qd,Tx h]; rfl
theorem Jo {α:Type} [Inhabited α] (xs:List α) {k:Nat} (h:k<xs.length):xs.getD k default=xs[k]:=by
 rw [Qd,Qh h]; rfl
theorem Vy {α:Type} [Inhabited α] (xs:List α) {k:Nat} (h:k<xs.length):xs.getD k default∈xs:=by
 rw [Jo xs h]; exact Gp h
theorem Pq {α:Type} [Inhabited α] {xs:List α} {x:α} (h:x∈xs):∃ k,k<xs.length/\xs.getD k default=x:=by
 obtain ⟨k,hk,e⟩:=List.mem_iff_getElem.1 h
 exact ⟨k,hk,by rw [Jo xs hk]; exact e⟩
theorem Qih {α:Type} [Inhabited α] {s a:List α} {k:Nat} (hl:s.length=a.length) (h:s.take k=a.take k) (hk:k<a.length):(s.set k (a.getD k default)).take (k+1)=a.take (k+1):=by
 rw [List.take_add_one,List.take_add_one,List.take_set_of_le (Qq _),h,Tp uu0,Qd,Qh hk]
 rfl
theorem Qci {α:Type} [Inhabited α] {a:List α} {k:Nat} (hk:k<a.length):a.take (k+1)=a.take k++[a.getD k default]:=by
 rw [List.take_add_one,Qd,Qh hk]
 rfl
theorem Qdf {α:Type} [Inhabited α] {a b:List α} (hl:a.length=b.length) (h:∀ k,k<a.length->a.getD k default=b.getD k default):a=b:=by
 refine List.ext_getElem hl fun k h1 h2=>?_
 have:=h k h1
 rwa [Jo a h1,Jo b h2] at this
theorem Qln {α:Type} [Inhabited α] (f:α->α) (hf:∀ x,f x=x) (a init:List α) (hi:init.length=a.length) (step:Int×List α->Lp (Int×List α) (List α))
  (hs:∀ i xs,step (i,xs)=bif decide (i<(a.length:Int)) then .next (i+1,xs.set (Int.toNat i) (f (a.getD (Int.toNat i) default))) else .done (i,xs)) :
  (runL step ((Int.toNat ((a.length:Int)-0))+1) (0,init)).fin (fun r=>r) (fun s=>s.2)=a:=by
 have h:=Vp (step:=step) (fun (k:Nat) (s:List α)=>((k:Int),s)) a.length (fun k s=>s.length=a.length/\s.take k=a.take k) (fun _=>False)
  (fun k s hk ⟨h1,h2⟩=>.inl ⟨s.set k (a.getD k default),by simp [hs,hf,hk],by simp [h1],Qih h1 h2 hk⟩)
  (fun s _=>by simp [hs]) a.length 0 init uu0 ⟨hi,by simp⟩ (a.length+1) (Qn _)
 rw [n0]
 rcases h with ⟨s',h,h1,h2⟩ | ⟨r,_,h⟩
 ·have h:runL step (a.length+1) (0,init)=.done ((a.length:Int),s'):=h
  rw [h]
  show s'=a
  rw [Sb uu0,Sb uu0] at h2
  exact h2
 ·exact h.elim
theorem Qmn {α:Type} [Inhabited α] [DecidableEq α] (e:α->α->Bool) (he:∀ x y,e x y=decide (x=y)) (a b:List α) (step:Int->Lp Int Bool)
  (hs:∀ i,step i=bif (decide (i<(a.length:Int))) then (bif (!(e (a.getD (Int.toNat i) default) (b.getD (Int.toNat i) default))) then (.ret false) else (.next (i+1))) else (.done i)) :
  (bif ((a.length:Int) != (b.length:Int)) then false else ((runL step ((Int.toNat ((a.length:Int)-0))+1) 0).fin (fun r=>r) (fun _=>true)))=decide (a=b):=by
 by_cases hl:a.length=b.length
 ·have hc:((a.length:Int) != (b.length:Int))=false:=by simp [hl]
  rw [hc,Qe]
  have h:=Vp (step:=step) (fun (k:Nat) (_:Unit)=>(k:Int)) a.length (fun k _=>∀ j,j<k->a.getD j default=b.getD j default) (fun r=>r=false/\a≠b)
   (fun k _ hk hI=>by
    have hc:=ltD hk
    by_cases hx:a.getD k default=b.getD k default
    ·refine .inl ⟨(),?_,fun j hj=>?_⟩
     ·rw [hs,he,Rk,hc,hx,Qs rfl]
      rfl
     ·rcases Nat.lt_succ_iff_lt_or_eq.1 hj with h | h
      ·exact hI j h
      ·exact h ▸ hx
    ·refine .inr ⟨false,?_,rfl,fun e=>hx (e ▸ rfl)⟩
     rw [hs,he,Rk,hc,Qk hx]
     rfl)
   (fun s _=>by rw [hs]; simp) a.length 0 () uu0 (fun j hj=>by omega) (a.length+1) (Qn _)
  rw [n0]
  rcases h with ⟨_,h,hI⟩ | ⟨r,h,rfl,hne⟩
  ·have h:runL step (a.length+1) 0=.done (a.length:Int):=h
   rw [h]
   have:=Qdf hl hI
   simp [Lp.fin,this]
  ·have h:runL step (a.length+1) 0=.ret false:=h
   rw [h]
   simp [Lp.fin,hne]
 ·have hc:((a.length:Int) != (b.length:Int))=true:=by simp; omega
  rw [hc,Qc]
  symm
  simp only [decide_eq_false_iff_not]
  exact fun e=>hl (e ▸ rfl)
theorem Qmd {α:Type} [Inhabited α] (sz:α->Int->Int) (P:α->Prop) (h:∀ x l,0<=l->l<=1048576->0<=sz x l->P x/\sz x l<=l) (a:List α) (step:Int×Int->Lp (Int×Int) Int) (l0:Int) (h0:0<=l0) (h1:l0<=1048576)
  (hs:∀ l i,step (l,i)=bif (decide (i<(a.length:Int))) then (bif (decide (sz (a.getD (Int.toNat i) default) l<0)) then (.ret (-1)) else (.next (sz (a.getD (Int.toNat i) default) l,i+1))) else (.done (l,i)))
  (hr:0<=(runL step ((Int.toNat ((a.length:Int)-0))+1) (l0,0)).fin (fun r=>r) (fun s=>s.1)) :
  (∀ k,k<a.length->P (a.getD k default))/\(runL step ((Int.toNat ((a.length:Int)-0))+1) (l0,0)).fin (fun r=>r) (fun s=>s.1)<=l0:=by
 rw [n0] at hr ⊢
 have hh:=Vp (step:=step) (fun (i:Nat) (l:Int)=>(l,(i:Int))) a.length (fun i l=>0<=l/\l<=l0/\∀ k,k<i->P (a.getD k default)) (fun r=>r=-1)
  (fun i l hi ⟨g1,g2,g3⟩=>by
   by_cases hx:sz (a.getD i default) l<0
   ·refine .inr ⟨-1,?_,rfl⟩
    rw [hs,ltD hi,Rk,Qs hx]; rfl
   ·refine .inl ⟨sz (a.getD i default) l,?_,by omega,?_,fun k hk=>?_⟩
    ·rw [hs,ltD hi,Rk,Qk hx]; rfl
    ·have:=(h (a.getD i default) l g1 uu0 uu0).2; omega
    ·rcases Nat.lt_succ_iff_lt_or_eq.1 hk with hk | rfl
     ·exact g3 k hk
     ·exact (h _ l g1 uu0 uu0).1)
  (fun l _=>by rw [hs,geD]; rfl) a.length 0 l0 uu0 ⟨h0,Int.le_refl _,fun k hk=>by omega⟩ (a.length+1) (Qn _)
 rcases hh with ⟨l,hh,g1,g2,g3⟩ | ⟨r,hh,rfl⟩
 ·have hh:runL step (a.length+1) (l0,0)=.done (l,(a.length:Int)):=hh
  rw [hh]
  exact ⟨g3,g2⟩
 ·have hh:runL step (a.length+1) (l0,0)=.ret (-1):=hh
  rw [hh] at hr
  exact absurd hr uu2
theorem Wg {n:Int} (h1:-9223372036854775808<=n) (h2:n<=9223372036854775807):IntKind.i64.wrap n=n:=Qdj h1 h2
theorem neI (a b:Int):(a != b)=!decide (a=b):=by
 by_cases h:a=b <;> simp [h]
theorem neB (a b:Bool):(!(a==b))=!decide (a=b):=by
 cases a <;> cases b <;> rfl
theorem Qhm (p r:Bool):(bif (!p) then false else r)=(p&&r):=by cases p <;> rfl
theorem bandd (p q:Bool):(bif p then q else false)=(p&&q):=by cases p <;> rfl
theorem Yd (a:Za):a.toList=a.data.toList:=ByteArray.toList_eq a
theorem Uem {a b:Za} (h:a.toList=b.toList):a=b:=by
 rw [Yd,Yd] at h
 cases a; cases b
 simp only [ByteArray.mk.injEq]
 exact Tt h
theorem neS (a b:Za):(!(a.toList==b.toList))=!decide (a=b):=by
 by_cases h:a=b
 ·simp [h]
 ·have:¬ a.toList=b.toList:=fun e=>h (Uem e)
  simp [h,this]
def first (p:Nat->Bool) (n:Nat):Option Nat:=(List.range n).find? p
theorem first_some {p:Nat->Bool} {n k:Nat}:first p n=some k↔k<n/\p k=true/\∀ j,j<k->p j=false:=by
 unfold first
 rw [List.find?_range_eq_some]
 constructor
 ·rintro ⟨h1,h2,h3⟩
  exact ⟨by simpa using h2,h1,fun j hj=>by simpa using h3 j hj⟩
 ·rintro ⟨h1,h2,h3⟩
  exact ⟨h2,by simpa using h1,fun j hj=>by simpa using h3 j hj⟩
theorem first_none {p:Nat->Bool} {n:Nat}:first p n=none↔∀ k,k<n->p k=false:=by
 unfold first
 rw [List.find?_range_eq_none]
 simp
theorem search {ρ τ:Type} (p:Nat->Bool) (r:Nat->ρ) (n:Nat) (step:Int->Lp Int ρ) (hs:∀ k:Nat,k<n->step (k:Int)=bif p k then .ret (r k) else .next ((k:Int)+1)) (he:step (n:Int)=.done (n:Int)) (f:ρ->τ) (g:Int->τ) :
  (runL step ((Int.toNat ((n:Int)-0))+1) 0).fin f g=match first p n with | some k=>f (r k) | none=>g n:=by
 have h:=Vp (step:=step) (fun (k:Nat) (_:Unit)=>(k:Int)) n (fun k _=>∀ j,j<k->p j=false) (fun x=>∃ k,first p n=some k/\x=r k)
  (fun k _ hk hI=>by
   cases hp:p k with
   | false =>
    refine .inl ⟨(),by rw [hs k hk,hp]; rfl,fun j hj=>?_⟩
    rcases Nat.lt_succ_iff_lt_or_eq.1 hj with h | rfl
    ·exact hI j h
    ·exact hp
   | true=>exact .inr ⟨r k,by rw [hs k hk,hp]; rfl,k,first_some.2 ⟨hk,hp,hI⟩,rfl⟩)
  (fun _ _=>he) n 0 () uu0 (fun j hj=>by omega) (n+1) (Qn _)
 rw [n0]
 rcases h with ⟨_,h,hI⟩ | ⟨x,h,k,hk,rfl⟩
 ·have h:runL step (n+1) 0=.done (n:Int):=h
  rw [h,first_none.2 hI]; rfl
 ·have h:runL step (n+1) 0=.ret (r k):=h
  rw [h,hk]; rfl
def oix:Option Nat->Int
 | some k=>(k:Int)
 | none=>-1
theorem oix_lt {p:Nat->Bool} {n:Nat}:oix (first p n)<(n:Int):=by
 cases h:first p n with
 | none=>simp only [oix]; omega
 | some k=>have:=(first_some.1 h).1; simp only [oix]; omega
theorem oix_neg {o:Option Nat}:oix o<0↔o=none:=by
 cases o with
 | none=>simp [oix]
 | some k=>simp [oix]
theorem Ugl {o:Option Nat} (h:¬ oix o<0):o=some (oix o).toNat:=by
 cases o with
 | none=>exact absurd uu2 h
 | some k=>simp [oix]
def idxI {α:Type} [Inhabited α] (p:α->Bool) (xs:List α):Int:=oix (first (fun k=>p (xs.getD k default)) xs.length)
theorem Bu {α:Type} [Inhabited α] (p:α->Bool) (xs:List α) (step:Int->Lp Int Int)
  (hs:∀ i,step i=bif decide (i<(xs.length:Int)) then (bif p (xs.getD (Int.toNat i) default) then .ret i else .next (i+1)) else .done i) :
  (runL step ((Int.toNat ((xs.length:Int)-0))+1) 0).fin (fun r=>r) (fun _=>-1)=idxI p xs:=by
 rw [search (fun k=>p (xs.getD k default)) (fun k=>(k:Int)) xs.length step (fun k hk=>by rw [hs,ltD hk,nn]; rfl) (by rw [hs,geD]; rfl)]
 unfold idxI
 all_goals (cases first (fun k=>p (xs.getD k default)) xs.length <;> rfl)
theorem Qdm {α:Type} [Inhabited α] (p:α->Bool) (xs:List α):decide (idxI p xs>=0)=xs.any p:=by
 rw [Gu,Ry,R5]
 constructor
 ·intro h
  have h':¬ idxI p xs<0:=by omega
  have h2:=first_some.1 (Ugl h')
  exact ⟨_,Vy xs h2.1,h2.2.1⟩
 ·rintro ⟨x,hx,hp⟩
  obtain ⟨k,hk,rfl⟩:=Pq hx
  rcases Int.lt_or_le (idxI p xs) 0 with h | h
  ·have:=first_none.1 (oix_neg.1 h) k hk
   simp only [hp] at this
   cases this
  ·exact h
theorem Qai {α:Type} [Inhabited α] (p:α->Bool) (xs:List α):idxI p xs<(xs.length:Int):=oix_lt
theorem beqD (a b:Int):(a==b)=decide (a=b):=by
 by_cases h:a=b <;> simp [h]
theorem Qig {α:Type} (xs:List α) {i:Nat} (a:α) (h:i<xs.length):(xs.set i a).take (i+1)=xs.take i++[a]:=by
 rw [List.take_add_one,List.take_set_of_le (Qq _),Tp h]; rfl
theorem Jf {α:Type} [Inhabited α] (p:α->Bool) (s:List α) {k:Nat} (h:k<s.length):(s.take (k+1)).filter p=(s.take k).filter p++(if p (s.getD k default) then [s.getD k default] else []):=by
 rw [Qci h,Tu]
 congr 1
 simp only [Gy,List.filter_nil]
theorem Qpp {α:Type} [Inhabited α] (del:α->Bool) (s:List α) (z:α) (step:Int×Int×List α->Lp (Int×Int×List α) (List α))
  (hs:∀ i j xs,step (i,j,xs)=bif decide (j<(xs.length:Int)) then (bif (!(del (xs.getD (Int.toNat j) default))) then .next (i+1,j+1,xs.set (Int.toNat i) (xs.getD (Int.toNat j) default)) else .next (i,j+1,xs)) else .done (i,j,xs)) :
  (bif (idxI del s==(-1)) then s else (((runL step ((Int.toNat ((s.length:Int)-(idxI del s+1)))+1) (idxI del s,idxI del s+1,s)).fin Lp.ret (fun x=>(Lp.done (x.2.2,x.1):Lp (List α×Int) (List α)))).fin (fun r=>r) (fun x=>((x.1.take (Int.toNat x.2)++List.replicate (x.1.drop (Int.toNat x.2)).length z++x.1.drop (Int.toNat x.2+(x.1.drop (Int.toNat x.2)).length)).take (Int.toNat x.2)))))=s.filter (fun x=>!(del x)):=by
 unfold idxI
 cases e:first (fun k=>del (s.getD k default)) s.length with
 | none =>
  have hn:=first_none.1 e
  have e1:(oix (none:Option Nat)==(-1:Int))=true:=rfl
  rw [e1,Qc]
  symm
  refine List.filter_eq_self.2 fun x hx=>?_
  obtain ⟨k,hk,rfl⟩:=Pq hx
  simpa using hn k hk
 | some k0 =>
  obtain ⟨h1,h2,h3⟩:=first_some.1 e
  have e1:(oix (some k0)==(-1:Int))=false:=by rw [beqD]; exact Qk (by simp only [oix]; omega)
  rw [e1,Qe]
  simp only [oix]
  have hpre:(s.take (k0+1)).filter (fun x=>!(del x))=s.take k0:=by
   rw [Jf _ _ h1]
   simp only [h2,Sv,Tr,Gx,So]
   refine List.filter_eq_self.2 fun x hx=>?_
   obtain ⟨k,hk,rfl⟩:=List.mem_iff_getElem.1 hx
   have hk':k<k0:=by simp at hk; omega
   have:=h3 k hk'
   rw [Jo s uu0] at this
   simpa using this
  have h:=Vp (step:=step) (fun (k:Nat) (x:Nat×List α)=>((x.1:Int),(k:Int),x.2)) s.length
   (fun k x=>x.1<k/\x.2.length=s.length/\x.2.take x.1=(s.take k).filter (fun x=>!(del x))/\∀ m,k<=m->x.2.getD m default=s.getD m default) (fun _=>False)
   (fun k x hk ⟨g1,g2,g3,g4⟩=>by
    obtain ⟨i,xs⟩:=x
    simp only at g1 g2 g3 g4
    have hx:=g4 k (Qq _)
    cases hd:del (s.getD k default) with
    | false =>
     refine .inl ⟨(i+1,xs.set i (s.getD k default)),?_,by simp only; omega,by simp [g2],?_,fun m hm=>?_⟩
     ·rw [hs,g2,ltD hk,nn,hx,hd]
      simp only [Qc,Gh,nn]
      rfl
     ·simp only
      rw [Qig xs _ uu0,g3,Jf _ _ hk,hd]
      rfl
     ·simp only
      rw [Qd,Gg uu0,<- Qd]
      exact g4 m uu0
    | true =>
     refine .inl ⟨(i,xs),?_,by simp only; omega,g2,?_,fun m hm=>g4 m uu0⟩
     ·rw [hs,g2,ltD hk,nn,hx,hd]
      simp only [Qc,Sv,Qe]
      rfl
     ·simp only
      rw [g3,Jf _ _ hk,hd]
      simp)
   (fun x ⟨_,g2,_,_⟩=>by rw [hs,g2,geD]; rfl) (s.length-(k0+1)) (k0+1) (k0,s) uu0 ⟨Qn _,rfl,hpre.symm,fun _ _=>rfl⟩ (s.length-(k0+1)+1) (Qn _)
  have ef:Int.toNat ((s.length:Int)-((k0:Int)+1))=s.length-(k0+1):=by omega
  rw [ef]
  rcases h with ⟨⟨i,xs⟩,h,g1,g2,g3,g4⟩ | ⟨_,_,h⟩
  ·have h:runL step (s.length-(k0+1)+1) ((k0:Int),(k0:Int)+1,s)=.done ((i:Int),(s.length:Int),xs):=h
   simp only at g1 g2 g3
   rw [h]
   simp only [Lp.fin,nn]
   rw [List.take_length] at g3
   rw [<- g3,Q1,Sg (by simp; omega),Ge,Nat.min_self]
  ·exact h.elim
def RdAll (S:Nat->Prop) (w:World):List (Value×Dat)->Prop
 | []=>True
 | p :: r=>RdV S w p.2 p.1/\RdAll S w r
theorem RdAll.mono {S S':Nat->Prop} {w w':World} (hs:∀ b,S b->S' b/\w'.heap[b]?=w.heap[b]?):∀ {ds:List (Value×Dat)},RdAll S w ds->RdAll S' w' ds
 | [],_=>trivial
 | p :: r,h=>⟨RdV.mono hs p.2 p.1 h.1,RdAll.mono hs h.2⟩
def LX (ds:List (Value×Dat)):FX where
 rd S w y:=y.oneCell'=true/\RdAll S w ds
 ow w y fp:=(y.oneCell'=true/\RdAll (·∈fp) w ds)/\fp.Nodup/\∀ b∈fp,b<w.heap.size
 mono S S' w w' y hs h:=⟨h.1,h.2.mono hs⟩
 one S w y h:=h.1
 keep w w' y fp hk h:=⟨⟨h.1.1,h.1.2.mono fun b hb=>⟨hb,hk b hb⟩⟩,h.2.1,fun b hb=>Mv (h.2.2 b hb) (hk b hb)⟩
 lt w y fp h:=h.2.2
 nd w y fp h:=h.2.1
 rdo w y fp h:=h.1
def BX (s:Za) (n:Nat):FX where
 rd S w y:=y=.string s/\s.size<=n
 ow w y fp:=(y=.string s/\s.size<=n)/\fp=[]
 mono S S' w w' y hs h:=h
 one S w y h:=by rw [h.1]; rfl
 keep w w' y fp hk h:=h
 lt w y fp h b hb:=by rw [h.2] at hb; cases hb
 nd w y fp h:=by rw [h.2]; exact Q2
 rdo w y fp h:=h.1
theorem Imp.bx {s:Za} {n:Nat} (h:s.size<=n):Imp (.v (.string s)) (.x (BX s n)):=⟨fun S w y hy=>⟨hy.1,h⟩,fun w y fp hy=>⟨⟨hy.1,h⟩,hy.2.2⟩⟩
theorem Qjg {P:Program} {f:FuncId} {i:Za} {n:Nat} {cap:List Arg} {r:RT} {D:Bool} (h:Spec.ok P f ⟨.r (.c (.v (.string i))) :: cap,r,i.size<=n⟩ D):Spec.ok P f ⟨.r (.c (.x (BX i n))) :: cap,r,True⟩ D:=by
 intro _ S w vs fp hS hG ha
 obtain ⟨u,us,f1,g1,rfl,⟨h1,h1'⟩,h2,rfl,h3⟩:=ha
 obtain ⟨rfl,hn⟩:u=.string i/\i.size<=n:=h1
 have:=h hn S w (.string i :: us) (f1++g1) hS hG ⟨_,us,f1,g1,rfl,⟨⟨rfl,rfl⟩,h1'⟩,h2,rfl,h3⟩
 refine this.mono fun e w' ⟨rv,fr,fb,e1,e2,e3,e4⟩=>⟨rv,fr,fb,e1,e2,?_,e4⟩
 obtain ⟨u',us',f',g',k1,k2,k3,k4⟩:=e3
 simp only [T6] at k1
 obtain ⟨rfl,rfl⟩:=k1
 exact ⟨_,_,f',g',rfl,k2,k3,k4⟩
def PX (d:Dat) (Q:Prop):FX where
 rd S w y:=RdV S w d y/\Q
 ow w y fp:=OwV w d y fp/\Q
 mono S S' w w' y hs h:=⟨RdV.mono hs d y h.1,h.2⟩
 one S w y h:=h.1.one
 keep w w' y fp hk h:=⟨OwV.keep d y fp hk h.1,h.2⟩
 lt w y fp h:=OwV.lt d y fp h.1
 nd w y fp h:=h.1.nd
 rdo w y fp h:=⟨OwV.rd d y fp h.1,h.2⟩
theorem Imp.px {d:Dat} {Q:Prop} (h:Q):Imp d (.x (PX d Q)):=⟨fun S w y hy=>⟨hy,h⟩,fun w y fp hy=>⟨hy,h⟩⟩
def pxH:List Dat->Prop->List Dat
 | [],_=>[]
 | d :: ds,Q=>.x (PX d Q) :: ds
theorem Imps.pxH {ds:List Dat} {Q:Prop} (h:Q):Imps ds (pxH ds Q):=by
 cases ds with
 | nil=>trivial
 | cons d ds=>exact ⟨Imp.px h,Imps.refl ds⟩
theorem Uet {P:Program} {f:FuncId} {a b:RA} {Q:Prop} {cap:List Arg} {r:RT} {D:Bool} (hab:∀ S w v,Qub S w b v->Qub S w a v/\Q) (h:Spec.ok P f ⟨.r a :: cap,r,Q⟩ D):Spec.ok P f ⟨.r b :: cap,r,True⟩ D:=by
 intro _ S w vs fp hS hG ha
 obtain ⟨u,us,f1,g1,rfl,⟨h1,h1'⟩,h2,rfl,h3⟩:=ha
 obtain ⟨k1,hn⟩:=hab S w u h1
 have:=h hn S w (u :: us) (f1++g1) hS hG ⟨_,us,f1,g1,rfl,⟨k1,h1'⟩,h2,rfl,h3⟩
 refine this.mono fun e w' ⟨rv,fr,fb,e1,e2,e3,e4⟩=>⟨rv,fr,fb,e1,e2,?_,e4⟩
 obtain ⟨u',us',f',g',k1,k2,k3,k4⟩:=e3
 simp only [T6] at k1
 obtain ⟨rfl,rfl⟩:=k1
 exact ⟨_,_,f',g',rfl,k2,k3,k4⟩
theorem Lh {P:Program} {f:FuncId} {d:Dat} {Q:Prop} {cap:List Arg} {r:RT} {D:Bool} (h:Spec.ok P f ⟨.r (.c d) :: cap,r,Q⟩ D):Spec.ok P f ⟨.r (.c (.x (PX d Q))) :: cap,r,True⟩ D :=
 Uet (a:=.c d) (Q:=Q) (fun S w v hv=>hv) h
theorem Ugv {P:Program} {f:FuncId} {d:Dat} {ds:List Dat} {Q:Prop} {cap:List Arg} {r:RT} {D:Bool} (h:Spec.ok P f ⟨.r (.g (d :: ds)) :: cap,r,Q⟩ D):Spec.ok P f ⟨.r (.g (pxH (d :: ds) Q)) :: cap,r,True⟩ D :=
 Uet (fun S w v hv=>by
  obtain ⟨vs,e,u,us,rfl,h1,h2⟩:=hv
  exact ⟨⟨_,e,u,us,rfl,h1.1,h2⟩,h1.2⟩) h
def toSV:Value->SV
 | .slice a n c=>⟨a,n,c⟩
 | _=>default
theorem RdV.at_sv {S:Nat->Prop} {w:World} {d:Dat} {v:Value} {x:SV} (e:v=sv x) (h:RdV S w d v):RdV S w d (sv x):=e ▸ h
theorem row3 {S:Nat->Prop} {w:World} {a b c:Value} {d:Dat} (h:RdV S w d c):∀ cs,RdVs S w [.v a,.v b,.v c] cs->RdVs S w [.v a,.v b,d] cs:=fun cs hc=>by
 obtain ⟨u,us,rfl,h1,v,vs,rfl,h2,x,xs,rfl,h3,rfl⟩:=hc
 obtain ⟨rfl,_⟩:=h3
 exact ⟨u,_,rfl,h1,v,_,rfl,h2,_,_,rfl,h,rfl⟩
section
variable {P:Program} {N:Nat} {fs fs':Nat->Option Fact} {β:Nat->Nat->Value} {φ φ':Nat->List Nat} {dom ψ IN:Nat->Prop} {w0 w:World}
theorem Rel.pack (R:Rel P fs β φ dom ψ IN w0 w) (src:Nat->List Nat)
  (hok:∀ X f,fs' X=some f->dom X/\Jz P fs' β φ' dom ψ w X f)
  (hsrc:∀ X f,fs' X=some f->f.mod=true->∀ b∈φ' X,∃ Y∈src X,(∃ g,fs Y=some g/\g.mod=true)/\b∈φ Y)
  (hd:∀ X X',X≠X'->(∃ f,fs' X=some f)->(∃ f,fs' X'=some f)->∀ Y∈src X,Y ∉ src X'):Rel P fs' β φ' dom ψ IN w0 w where
 ok:=hok
 dis i j f g hi hj mi mj hne b hb hb':=by
  obtain ⟨Y,h1,⟨g1,h2,h3⟩,h4⟩:=hsrc i f hi mi b hb
  obtain ⟨Y',k1,⟨g2,k2,k3⟩,k4⟩:=hsrc j g hj mj b hb'
  have hne':Y≠Y':=fun e=>hd i j hne ⟨_,hi⟩ ⟨_,hj⟩ Y h1 (e ▸ k1)
  exact R.dis Y Y' g1 g2 h2 k2 h3 k3 hne' b h4 k4
 lt id f hf hm b hb:=by
  obtain ⟨Y,h1,⟨g1,h2,h3⟩,h4⟩:=hsrc id f hf hm b hb
  exact R.lt Y g1 h2 h3 b h4
 psi:=R.psi
 all1:=R.all1
 chg:=R.chg
 glo:=R.glo
theorem Rel.fpnd (R:Rel P fs β φ dom ψ IN w0 w) {id:Nat} {g:Fact} (h:fs id=some g) (hm:g.mod=true):(φ id).Nodup:=by
 have h2:=(R.ok id g h).2
 cases g <;> simp only [Fact.mod] at hm <;> first | cases hm | skip
 case box T cs=>obtain ⟨_,b,_,_,e⟩:=h2; rw [e]; exact (Q0.2 ⟨Rv,Q2⟩)
 case own V d=>exact (h2.2:OwV w d _ _).nd
 case arr n cs=>obtain ⟨_,b,T,_,_,e⟩:=h2; rw [e]; exact (Q0.2 ⟨Rv,Q2⟩)
def Qss (fs:Nat->Option Fact) (ids:List Nat):Bool:=ids.all fun id=>match fs id with | some g=>g.mod | none=>false
theorem Qjy {ids:List Nat} (h:Qss fs ids=true):∀ id∈ids,∃ g,fs id=some g/\g.mod=true:=fun id hid=>by
 have:=Rc.1 h id hid
 split at this
 ·rename_i g e; exact ⟨g,e,this⟩
 ·cases this
theorem Rel.flat_nd (R:Rel P fs β φ dom ψ IN w0 w):∀ {ids:List Nat},ids.Nodup->(∀ id∈ids,∃ g,fs id=some g/\g.mod=true)->(ids.flatMap φ).Nodup
 | [],_,_=>Q2
 | id :: ids,hn,hm=>by
  obtain ⟨n1,n2⟩:=Q0.1 hn
  obtain ⟨g,h1,h2⟩:=hm id Ql
  simp only [List.flatMap_cons]
  refine Rh.2 ⟨R.fpnd h1 h2,R.flat_nd n2 fun x hx=>hm x (Qi _ hx),fun b hb b' hb' e=>?_⟩
  subst e
  obtain ⟨Y,hY,hbY⟩:=List.mem_flatMap.1 hb'
  obtain ⟨g',h3,h4⟩:=hm Y (Qi _ hY)
  exact R.dis id Y g g' h1 h3 h2 h4 (fun e=>n1 (e ▸ hY)) b hb hbY
theorem Rel.flat_lt (R:Rel P fs β φ dom ψ IN w0 w) {ids:List Nat} (hm:∀ id∈ids,∃ g,fs id=some g/\g.mod=true):∀ b∈ids.flatMap φ,b<w.heap.size:=fun b hb=>by
 obtain ⟨Y,hY,hbY⟩:=List.mem_flatMap.1 hb
 obtain ⟨g,h1,h2⟩:=hm Y hY
 exact (R.lt Y g h1 h2 b hbY).1
theorem Kr (h:FnH P) (hcap:h.cap=[]) (hp:h.pre) {S:Nat->Prop} (hlt:∀ b,S b->b<w.heap.size) (hcl:Ux P h.f=true) {F:Zx} (hF:h.F=F):FnOK false P S w F (val β (.cl h.f [])) :=
 hF ▸ FnOK.weak (h.fnOK hp hlt (cap:=[]) (by rw [hcap]; exact ⟨rfl,rfl⟩) hcl)
theorem Qno (R:Rel P fs β φ dom ψ IN w0 w) {a:Nat} {T:TypeId} {cs:List AV} (ha:fs a=some (.box T cs)):∃ b,val β (.p a 0)=.pointer (some ⟨b,0,none⟩)/\Box w b T (vals β cs)/\φ a=[b]:=by
 obtain ⟨_,_,b,e1,e2,e3⟩:=R.ok a _ ha
 exact ⟨b,by simp only [val,e1,padd,To],e2,e3⟩
theorem Xb (R:Rel P fs β φ dom ψ IN w0 w) (h:FnH P) {a c:Nat} {T U:TypeId} {x y:Value} (ha:fs a=some (.box T [.v x])) (hc:fs c=some (.box U [.v y])) (hcap:h.cap=[.rp [.v x],.rp [.v y]]) (hp:h.pre)
  {S:Nat->Prop} (h1:∀ b∈φ a,S b) (h2:∀ b∈φ c,S b) (hlt:∀ b,S b->b<w.heap.size) (hcl:Ux P h.f=true) (hx:x.oneCell'=true) (hy:y.oneCell'=true) {F:Zx} (hF:h.F=F):FnOK false P S w F (val β (.cl h.f [.p a 0,.p c 0])):=by
 obtain ⟨b,e1,e2,e3⟩:=Qno R ha
 obtain ⟨b',k1,k2,k3⟩:=Qno R hc
 have:=FnOK.weak (h.fnOK hp hlt (cap:=[val β (.p a 0),val β (.p c 0)]) (by
  rw [hcap]
  refine ⟨_,_,[],[],rfl,⟨⟨b,0,[x],e1,h1 b (by rw [e3]; exact Qw.2 rfl),e2.has 0 [x] rfl,x,[],rfl,⟨rfl,hx⟩,rfl⟩,rfl⟩,?_,rfl,Q2⟩
  exact ⟨_,_,[],[],rfl,⟨⟨b',0,[y],k1,h2 b' (by rw [k3]; exact Qw.2 rfl),k2.has 0 [y] rfl,y,[],rfl,⟨rfl,hy⟩,rfl⟩,rfl⟩,⟨rfl,rfl⟩,rfl,Q2⟩) hcl)
 rw [<- hF]
 exact this
theorem Uhh (R:Rel P fs β φ dom ψ IN w0 w) (h:FnH P) {a o V:Nat} {T:TypeId} {d:Dat} (ha:fs a=some (.box T [.h o 0])) (ho:fs o=some (.own V d)) (hcap:h.cap=[.rp [d]]) (hp:h.pre)
  {S:Nat->Prop} (h1:∀ b∈φ a,S b) (h2:∀ b∈φ o,S b) (hlt:∀ b,S b->b<w.heap.size) (hcl:Ux P h.f=true) {F:Zx} (hF:h.F=F):FnOK false P S w F (val β (.cl h.f [.p a 0])):=by
 obtain ⟨b,e1,e2,e3⟩:=Qno R ha
 obtain ⟨_,_,k1⟩:=R.ok o _ ho
 have:=FnOK.weak (h.fnOK hp hlt (cap:=[val β (.p a 0)]) (by
  rw [hcap]
  exact ⟨_,_,[],[],rfl,⟨⟨b,0,[β o 0],e1,h1 b (by rw [e3]; exact Qw.2 rfl),e2.has 0 [β o 0] rfl,β o 0,[],rfl,RdV.mono (fun b hb=>⟨h2 b hb,rfl⟩) _ _ (OwV.rd _ _ _ k1),rfl⟩,rfl⟩,⟨rfl,rfl⟩,rfl,Q2⟩) hcl)
 rw [<- hF]
 exact this
def FnsOK (P:Program) (S:Nat->Prop) (w:World) {α:Type} (F:α->Zx):List α->List Value->Prop
 | [],vs=>vs=[]
 | p :: ps,vs=>∃ u us,vs=u :: us/\FnOK false P S w (F p) u/\FnsOK P S w F ps us
theorem FnsOK.at {S:Nat->Prop} {α:Type} {F:α->Zx}:∀ {ps:List α} {vs:List Value},FnsOK P S w F ps vs->vs.length=ps.length/\∀ (i:Nat) (p:α),ps[i]?=some p->∃ u,vs[i]?=some u/\FnOK false P S w (F p) u
 | [],vs,h=>by rw [h]; exact ⟨rfl,fun i p hp=>by simp at hp⟩
 | p :: ps,vs,h=>by
  obtain ⟨u,us,rfl,h1,h2⟩:=h
  obtain ⟨e,h3⟩:=FnsOK.at h2
  refine ⟨by simp [e],fun i q hq=>?_⟩
  cases i with
  | zero=>simp only [Ro,Qa] at hq; subst hq; exact ⟨u,rfl,h1⟩
  | succ i=>simpa using h3 i q (by simpa using hq)
theorem Vh (R:Rel P fs β φ dom ψ IN w0 w) {α:Type} [Inhabited α] {o n:Nat} {cs:List AV} {ps:List α} {F:α->Zx} {enc:α->List Dat} (ho:fs o=some (.arr n cs)) (hn:n=ps.length) (hm:n<=9223372036854775807) (he:∀ p,enc p=[.x (FnX P (F p))])
  {S:Nat->Prop} (h1:∀ b∈φ o,S b) (hF:FnsOK P S w F ps (vals β cs)):RdV S w (.l 1 enc ps) (β o 0):=by
 obtain ⟨_,_,b,T,e1,e2,e3⟩:=R.ok o _ ho
 obtain ⟨_,hF⟩:=hF.at
 subst hn
 refine ⟨some ⟨b,0,none⟩,ps.length,e1,Qq _,hm,fun i p hp=>⟨rfl,h1 b (by rw [e3]; exact Qw.2 rfl),?_⟩⟩
 obtain ⟨u,hu,hf⟩:=hF i p hp
 refine ⟨[u],rfl,?_,?_⟩
 ·refine e2.has _ _ ?_
  simp only [ao,Sd,Rs,Nat.mul_one,List.length_singleton]
  apply Gd
  intro j
  rw [Rd]
  cases j with
  | zero=>simpa using hu
  | succ j=>simp
 ·rw [he]
  exact ⟨u,[],rfl,hf,rfl⟩
theorem Hb (R:Rel P fs β φ dom ψ IN w0 w) {o n:Nat} {cs:List AV} (ho:fs o=some (.arr n cs)):β o 0=sv (toSV (β o 0)):=by
 obtain ⟨_,_,b,T,e1,_⟩:=R.ok o _ ho
 rw [e1]; rfl
theorem Uiv (R:Rel P fs β φ dom ψ IN w0 w) {α:Type} [Inhabited α] {o n sz:Nat} {cs:List AV} {ys:List α} {enc:α->List Dat} (ho:fs o=some (.arr n cs)) (hn:n=ys.length) (hm:n<=9223372036854775807) (hl:∀ y,(enc y).length=sz)
  (he:(ys.map enc).flatten=(vals β cs).map .v):OwV w (.l sz enc ys) (β o 0) (φ o):=by
 obtain ⟨_,⟨hw,hone⟩,b,T,e1,e2,e3⟩:=R.ok o _ ho
 have h1:OwVs w (ys.map enc).flatten (vals β cs) []:=by
  rw [he]; exact OwVs.flat (Qew R.one hone hw)
 obtain ⟨gs,g1,g2,g3,g4⟩:=h1.split (sz:=sz) (fun y _=>hl y)
 subst hn
 have hlen:(vals β cs).length=ys.length*sz:=g2
 refine ⟨some ⟨b,0,none⟩,ys.length,e1,Qq _,hm,.inr ⟨b,0,T,vals β cs,gs,rfl,e2,by omega,g1,fun i y g hy hg=>?_,by rw [e3,<- g3],?_⟩⟩
 ·obtain ⟨k1,k2⟩:=g4 i y g hy hg
  have hi:i<ys.length:=(Qr.1 hy).1
  have hfit:i*sz+sz<=(vals β cs).length:=by
   rw [hlen]
   calc i*sz+sz=(i+1)*sz:=by rw [R0]
    _<=ys.length*sz:=Ra _ hi
  refine ⟨by simp; omega,?_⟩
  simpa using k2
 ·rw [e3]; exact (Q0.2 ⟨Rv,Q2⟩)
def Rel2 {α γ:Type} (Q:α->γ->Prop):List α->List γ->Prop
 | [],[]=>True
 | a :: azz,c :: cs=>Q a c/\Rel2 Q azz cs
 | _,_=>False
theorem Rel2.filter {α γ:Type} {Q:α->γ->Prop} {p:α->Bool} {q:γ->Bool} (hpq:∀ a c,Q a c->p a=q c):∀ {azz:List α} {cs:List γ},Rel2 Q azz cs->Rel2 Q (azz.filter p) (cs.filter q)
 | [],[],_=>trivial
 | a :: azz,c :: cs,h=>by
  have e:=hpq a c h.1
  cases hp:p a with
  | true=>rw [Sn hp,Sn (e ▸ hp)]; exact ⟨h.1,Rel2.filter hpq h.2⟩
  | false=>rw [Sm (by simp [hp]),Sm (by simp [<- e,hp])]; exact Rel2.filter hpq h.2
 | [],_ :: _,h=>h.elim
 | _ :: _,[],h=>h.elim
theorem Rel2.at {α γ:Type} {Q:α->γ->Prop}:∀ {azz:List α} {cs:List γ},Rel2 Q azz cs->azz.length=cs.length/\∀ (i:Nat) (c:γ),cs[i]?=some c->∃ a,azz[i]?=some a/\Q a c
 | [],[],_=>⟨rfl,fun i c h=>by simp at h⟩
 | a :: azz,c :: cs,h=>by
  obtain ⟨e,k⟩:=Rel2.at h.2
  refine ⟨by simp [e],fun i x hx=>?_⟩
  cases i with
  | zero=>simp only [Ro,Qa] at hx; subst hx; exact ⟨a,rfl,h.1⟩
  | succ i=>simpa using k i x (by simpa using hx)
 | [],_ :: _,h=>h.elim
 | _ :: _,[],h=>h.elim
theorem Rel2.mono {α γ:Type} {Q Q':α->γ->Prop} (hq:∀ a c,Q a c->Q' a c):∀ {azz:List α} {cs:List γ},Rel2 Q azz cs->Rel2 Q' azz cs
 | [],[],_=>trivial
 | a :: azz,c :: cs,h=>⟨hq _ _ h.1,Rel2.mono hq h.2⟩
 | [],_ :: _,h=>h.elim
 | _ :: _,[],h=>h.elim
theorem Uak {α γ:Type} [Inhabited α] [Inhabited γ] {sz:Nat} {enc:α->List Dat} {enc':γ->List Dat} {ys:List α} {zs:List γ} {v:Value} {fp:List Nat} {S:Nat->Prop} (h:OwV w (.l sz enc ys) v fp) (hS:∀ b∈fp,S b)
  (hr:Rel2 (fun y z=>∀ cs,RdVs S w (enc y) cs->RdVs S w (enc' z) cs) ys zs):RdV S w (.l sz enc' zs) v:=by
 obtain ⟨a,c,e1,e2,e3,e4⟩:=RdV.mono (fun b hb=>⟨hS b hb,rfl⟩) _ _ (OwV.rd _ _ _ h)
 obtain ⟨hl,hr⟩:=hr.at
 refine ⟨a,c,by rw [<- hl]; exact e1,by omega,by omega,fun i z hz=>?_⟩
 obtain ⟨y,hy,hq⟩:=hr i z hz
 obtain ⟨g1,g2,cs,g3,g4,g5⟩:=e4 i y hy
 exact ⟨g1,g2,cs,g3,g4,hq cs g5⟩
end
theorem fsG1 {a:Fact} {X:Nat} {f:Fact} (h:fsG [(0,some a)] X=some f):X=0/\f=a:=by
 simp only [fsG] at h
 cases hb:Nat.beq 0 X with
 | true=>rw [hb] at h; cases h; exact ⟨(Qg hb).symm,rfl⟩
 | false=>rw [hb] at h; cases h
theorem fsG3 {a b c:Fact} {X:Nat} {f:Fact} (h:fsG [(0,some a),(1,some b),(2,some c)] X=some f):(X=0/\f=a)\/(X=1/\f=b)\/(X=2/\f=c):=by
 simp only [fsG] at h
 cases h0:Nat.beq 0 X with
 | true=>rw [h0] at h; cases h; exact .inl ⟨(Qg h0).symm,rfl⟩
 | false =>
  rw [h0] at h
  cases h1:Nat.beq 1 X with
  | true=>rw [h1] at h; cases h; exact .inr (.inl ⟨(Qg h1).symm,rfl⟩)
  | false =>
   rw [h1] at h
   cases h2:Nat.beq 2 X with
   | true=>rw [h2] at h; cases h; exact .inr (.inr ⟨(Qg h2).symm,rfl⟩)
   | false=>rw [h2] at h; cases h
section
variable {P:Program} {N:Nat} {ψ IN:Nat->Prop} {w0 w:World} {a:Act}
theorem pack3 {s:St} {T:TypeId} {bx:List Value} {α:Type} [Inhabited α] {sz:Nat} {enc:α->List Dat} {ys:List α} {X:FX} {rest:List Nat} {β:Nat->Nat->Value} {φ:Nat->List Nat} {dom:Nat->Prop} (V:StOK P N ψ IN w0 s a w β φ dom)
  (h0:fsG s.fs 0=some (.box T (bx.map .v))) (h1:∃ g,fsG s.fs 1=some g/\g.mod=true) (hr:Qss (fsG s.fs) rest=true) (hnd:Jy (0 :: 1 :: rest)=true) (hd2:dom 2)
  (ho:OwV w (.l sz enc ys) (β 1 0) (φ 1)) (hx:(rest.flatMap φ).Nodup->(∀ b∈rest.flatMap φ,b<w.heap.size)->X.ow w (β 2 0) (rest.flatMap φ)) :
  Zw P N ψ IN w0 ⟨s.sl,[(0,some (.box T (bx.map .v))),(1,some (.own 1 (.l sz enc ys))),(2,some (.own 2 (.x X)))],s.nx⟩ a w:=by
 have R:=V.rel
 have hnn:=Vo hnd
 have hm:=Qjy hr
 obtain ⟨n1,n2⟩:=Q0.1 hnn
 obtain ⟨n3,n4⟩:=Q0.1 n2
 obtain ⟨g1,h1,h1m⟩:=h1
 refine ⟨β,fun X=>if X=2 then rest.flatMap φ else φ X,dom,V.size,V.defers,V.has,?_,V.bound⟩
 refine R.pack (fun X=>if X=2 then rest else [X]) (fun Y f hY=>?_) (fun Y f hY hmod b hb=>?_) (fun Y Y' hne hY hY' Z hZ hZ'=>?_)
 ·rcases fsG3 hY with ⟨rfl,rfl⟩ | ⟨rfl,rfl⟩ | ⟨rfl,rfl⟩
  ·exact ⟨(R.ok 0 _ h0).1,(R.ok 0 _ h0).2⟩
  ·exact ⟨(R.ok 1 _ h1).1,(R.ok 1 _ h1).1,ho⟩
  ·exact ⟨hd2,hd2,by simp only [Sx]; exact hx (R.flat_nd n4 hm) (R.flat_lt hm)⟩
 ·rcases fsG3 hY with ⟨rfl,rfl⟩ | ⟨rfl,rfl⟩ | ⟨rfl,rfl⟩
  ·exact ⟨0,Qw.2 rfl,⟨_,h0,rfl⟩,hb⟩
  ·exact ⟨1,Qw.2 rfl,⟨_,h1,h1m⟩,hb⟩
  ·simp only [Sx] at hb ⊢
   obtain ⟨Z,k1,k2⟩:=List.mem_flatMap.1 hb
   exact ⟨Z,k1,hm Z k1,k2⟩
 ·obtain ⟨f,hf⟩:=hY
  obtain ⟨f',hf'⟩:=hY'
  have n1':(0:Nat) ∉ rest:=fun h=>n1 (Qi _ h)
  rcases fsG3 hf with ⟨rfl,_⟩ | ⟨rfl,_⟩ | ⟨rfl,_⟩ <;> rcases fsG3 hf' with ⟨rfl,_⟩ | ⟨rfl,_⟩ | ⟨rfl,_⟩ <;> simp only [Sx,if_neg (show ¬ (0:Nat)=2 by decide),if_neg (show ¬ (1:Nat)=2 by decide),Qw] at hZ hZ'
  all_goals first | exact hne rfl | (subst hZ; exact n1' hZ') | (subst hZ; exact n3 hZ') | (subst hZ'; exact n1' hZ) | (subst hZ'; exact n3 hZ) | (subst hZ; cases hZ')
theorem pack1 {s:St} {t:Nat} {d:Dat} {X:FX} {e:Dat} {nx:Nat} (hfs:s.fs=[(0,some (.own 0 d)),(1,some (.own 1 (.x X)))]) (hnx:s.nx=nx) (hsl:slG s.sl t=some (.h 0 0))
  (hr:∀ (v y:Value) (f g:List Nat),OwV w d v f->X.ow w y g->RdV (fun b=>b∈f++g) w e v) (H:Zw P N ψ IN w0 s a w) :
  Zw P N ψ IN w0 ⟨[(t,some (.h 0 0))],[(0,some (.own 0 (.b e)))],nx⟩ a w:=by
 obtain ⟨β,φ,dom,V⟩:=H
 have R:=V.rel
 have h0:fsG s.fs 0=some (.own 0 d):=by rw [hfs]; rfl
 have h1:fsG s.fs 1=some (.own 1 (.x X)):=by rw [hfs]; rfl
 obtain ⟨k1,_,k2⟩:=R.ok 0 _ h0
 obtain ⟨q1,_,q2⟩:=R.ok 1 _ h1
 have hm:∀ id∈[0,1],∃ g,fsG s.fs id=some g/\g.mod=true:=fun id hid=>by
  rcases Qu.1 hid with rfl | hid
  ·exact ⟨_,h0,rfl⟩
  ·obtain rfl:=Qw.1 hid; exact ⟨_,h1,rfl⟩
 have hfm:[0,1].flatMap φ=φ 0++φ 1:=by simp
 have hnd:=R.flat_nd (ids:=[0,1]) uu2 hm
 have hlt:=R.flat_lt (ids:=[0,1]) hm
 rw [hfm] at hnd hlt
 refine ⟨β,fun X=>if X=0 then φ 0++φ 1 else φ X,dom,V.size,V.defers,fun t' av ht=>?_,?_,fun id hid=>hnx ▸ V.bound id hid⟩
 ·simp only [slG] at ht
  cases hb:Nat.beq t t' with
  | true =>
   rw [hb] at ht
   cases ht
   have e:=Qg hb
   subst e
   exact V.has t _ hsl
  | false=>rw [hb] at ht; cases ht
 ·refine R.pack (fun X=>if X=0 then [0,1] else [X]) (fun Y f hY=>?_) (fun Y f hY hmod b hb=>?_) (fun Y Y' hne hY hY' Z hZ hZ'=>?_)
  ·obtain ⟨rfl,rfl⟩:=fsG1 hY
   exact ⟨k1,k1,by simp only [Sx]; exact ⟨hr _ _ _ _ k2 q2,hnd,hlt⟩⟩
  ·obtain ⟨rfl,rfl⟩:=fsG1 hY
   simp only [Sx] at hb ⊢
   rcases Q6.1 hb with hb | hb
   ·exact ⟨0,by simp,hm 0 (by simp),hb⟩
   ·exact ⟨1,by simp,hm 1 (by simp),hb⟩
  ·obtain ⟨f,hf⟩:=hY
   obtain ⟨f',hf'⟩:=hY'
   exact hne ((fsG1 hf).1.trans (fsG1 hf').1.symm)
end
theorem ifb (c:Bool) {A B:Prop} (a:c=true->A) (b:c=false->B):(c=true->A)/\(c=false->B):=⟨a,b⟩
theorem ifd (p:Prop) [Decidable p] {A B:Prop} (a:decide p=true->p->A) (b:decide p=false->¬ p->B):(decide p=true->A)/\(decide p=false->B) :=
 ⟨fun h=>a h (Qb h),fun h=>b h (Qp h)⟩
theorem ife (x y:Int) {A B:Prop} (a:(x==y)=true->x=y->A) (b:(x==y)=false->¬ x=y->B):((x==y)=true->A)/\((x==y)=false->B) :=
 ⟨fun h=>a h (eq_of_beq h),fun h=>b h (beqF h)⟩
theorem ifn (x y:Int) {A B:Prop} (a:(x != y)=true->¬ x=y->A) (b:(x != y)=false->x=y->B):((x != y)=true->A)/\((x != y)=false->B) :=
 ⟨fun h=>a h (bneT h),fun h=>b h (bneF h)⟩
theorem kn {α:Type} (xs:List α) {K:Prop} (k:xs.length<=9223372036854775807->K):xs.length<=9223372036854775807->K:=k
abbrev ib (k:Int) {α:Type} (l:List α):Prop:=0<=k/\k<(l.length:Int)
theorem fiB (r c:Bool) (h:r=c):(.bool r:Value)=.bool c/\True:=⟨h ▸ rfl,trivial⟩
theorem fiS (r c:Za) (h:r=c):(.string r:Value)=.string c/\True:=⟨h ▸ rfl,trivial⟩
theorem fiI (r c:Int) (h:r=c):(.int .i64 r:Value)=.int .i64 c/\True:=⟨h ▸ rfl,trivial⟩
abbrev Rf (x:Value):Prop:=x=x
abbrev Im (x:Dat):Prop:=Imp x x
abbrev Ims (x:List Dat):Prop:=Imps x x
abbrev LpX {σ ρ:Type} (step:σ->Lp σ ρ) (N:Nat×σ):Lp σ ρ:=runL step N.1 N.2
abbrev LpJ {σ ρ:Type} (step:σ->Lp σ ρ) (N i:Nat×σ) (I:Prop):Prop:=runL step i.1 i.2=runL step N.1 N.2/\I
abbrev LpH {σ ρ:Type} (step:σ->Lp σ ρ) (N i:Nat×σ) (m:Nat) (v:σ) (I:Prop):Prop:=runL step (m+1) v=runL step N.1 N.2/\m<i.1/\I
theorem iok (x:Int) (h:-9223372036854775808<=x/\x<=9223372036854775807):i64ok x:=h
theorem bokr {α:Type} [Inhabited α] (sz:Nat) (enc:α->List Dat) (ys:List α) (hl:∀ y,(enc y).length=sz):BuildOK ys.length sz (ys.map enc).flatten (.l sz enc ys):=BuildOK.mk enc ys rfl (Imps.refl _) hl
theorem appr {α:Type} [Inhabited α] (sz:Nat) (enc:α->List Dat) (xs ys:List α) (hl:∀ y,(enc y).length=sz):AppA (.l sz enc xs) ys.length sz (ys.map enc).flatten (.l sz enc (xs++ys)):=AppA.mk enc xs ys (Imp.refl _) rfl (Imps.refl _) hl
theorem setr {α:Type} [Inhabited α] (sz:Nat) (enc:α->List Dat) (xs:List α) (k:Nat) (x:α):SetOK (.l sz enc xs) k (enc (xs.getD k default)) (enc x) (.l sz enc (xs.set k x)):=SetOK.mk enc xs x rfl (Imps.refl _)
def datV:Dat->Value
 | .v x=>x
 | _=>default
def Plain {α:Type} (k:Nat) (e:α->List Dat):Prop:=∀ x,(e x).length=k/\∀ d∈e x,∃ v,d=.v v/\v.oneCell'=true
def encV {α:Type} (e:α->List Dat) (x:α):List Value:=(e x).map datV
theorem Plain.len {α:Type} {k:Nat} {e:α->List Dat} (h:Plain k e) (x:α):(encV e x).length=k:=by rw [encV,Sk,(h x).1]
theorem Plain.one {α:Type} {k:Nat} {e:α->List Dat} (h:Plain k e) (x:α):∀ v∈encV e x,v.oneCell'=true:=fun v hv=>by
 obtain ⟨d,hd,rfl⟩:=Si.1 hv
 obtain ⟨v,rfl,h1⟩:=(h x).2 d hd
 exact h1
end Go.Proofs.YthjaknclldmheaaGreatDoor
namespace Go.Proofs.YthjaknclldmheaaGreatDoor
open Go.RowKit Go.Shelf
set_option linter.unusedVariables false
set_option linter.unusedSimpArgs false
section
variable {P:Program} {ρ:Go.Shelf.Ren}
theorem Qzt (SS:Nat->Prop) (w:World) (n:Nat):Chg SS w (w.drewN n):=⟨rfl,rfl,rfl,Qq _,fun _ _ _=>rfl,Nat.le_add_right _ _⟩
theorem Uai (SS:Nat->Prop) (w:World) (o:Obj):Chg SS w (w.alloc o):=Chg.of_below (Qex w o)
def cut3 (s sep:Za):Za×Za×Bool:=(⟨(Lib.cut s.data.toList sep.data.toList).1.toArray⟩,⟨(Lib.cut s.data.toList sep.data.toList).2.1.toArray⟩,(Lib.cut s.data.toList sep.data.toList).2.2)
theorem cut_ok (L:Lays.n145 P ρ) (hg:ρ.g 1∈GBi) (s sep:Za):Spec.ok P (ρ.f 145) ⟨[.r (.c (.v (.string s))),.r (.c (.v (.string sep)))],.tu [.v (.string (cut3 s sep).1),.v (.string (cut3 s sep).2.1),.v (.bool (cut3 s sep).2.2)],s.size<=4294967280⟩:=by
 intro hs S w vs fp hS hG hA
 obtain ⟨u,us,f,g,rfl,⟨⟨rfl,_⟩,rfl⟩,⟨u2,us2,f2,g2,rfl,⟨⟨rfl,_⟩,rfl⟩,⟨rfl,rfl⟩,rfl,_⟩,rfl,_⟩:=hA
 obtain ⟨m,hm⟩:=hG.1.2.1 _ hg
 have hs:s.size<=4294967280:=hs
 refine (Any.strings_Cut L s sep m w uu0 hm).mono fun e w' ⟨h1,n,h2⟩=>?_
 subst h2
 exact ⟨_,[],[],h1,⟨[_,_,_],rfl,_,_,[],[],rfl,⟨rfl,rfl,rfl⟩,⟨_,_,[],[],rfl,⟨rfl,rfl,rfl⟩,⟨_,_,[],[],rfl,⟨rfl,rfl,rfl⟩,⟨rfl,rfl⟩,rfl⟩,rfl⟩,rfl⟩,
  ⟨_,_,[],[],rfl,rfl,⟨_,_,[],[],rfl,rfl,rfl,rfl⟩,rfl⟩,Q2,fun b hb=>by simp at hb,Qzt _ w n⟩
def Uv (s sep:Za):List Za:=Lib.splitB sep 0 (Lib.countB s sep) s
theorem Qyq (w:World):∀ ys:List Za,OwVs w (ys.map eStr).flatten (ys.map Value.string) []
 | []=>⟨rfl,rfl⟩
 | y :: ys=>⟨.string y,ys.map Value.string,[],[],rfl,⟨rfl,rfl,rfl⟩,Qyq w ys,rfl,Q2⟩
theorem Mw (s sep:Za) (h1:1<=sep.size):(Uv s sep).length=Lib.countB s sep+1:=Lib.splitB_all sep h1 0 _ s rfl
theorem Ubf (L:Lays.n146 P ρ) (hi9:(P.info? (ρ.t 9)).map (fun i=>(i.zero,i.size,i.bytes))=some (some (.string ByteArray.empty),1,16)) (hg:ρ.g 1∈GBi) (s sep:Za) :
  Spec.ok P (ρ.f 146) ⟨[.r (.c (.v (.string s))),.r (.c (.v (.string sep)))],.ow (.l 1 eStr (Uv s sep)),s.size<=4294967280/\1<=sep.size⟩:=by
 intro ⟨hs,h1⟩ S w vs fp hS hG hA
 obtain ⟨u,us,f,g,rfl,⟨⟨rfl,_⟩,rfl⟩,⟨u2,us2,f2,g2,rfl,⟨⟨rfl,_⟩,rfl⟩,⟨rfl,rfl⟩,rfl,_⟩,rfl,_⟩:=hA
 obtain ⟨m,hm⟩:=hG.1.2.1 _ hg
 have hle:=Lib.countB_le sep h1 s.size s (Qq _)
 have hlen:=Mw s sep h1
 refine (Any.strings_Split L hi9 s sep m w uu0 hm h1).mono fun e w' ⟨h2,h3⟩=>?_
 subst h3
 refine ⟨_,[w.heap.size],[],h2,?_,⟨_,_,[],[],rfl,rfl,⟨_,_,[],[],rfl,rfl,rfl,rfl⟩,rfl⟩,by simp,fun b hb=>?_,(Uai _ w _).toD _⟩
 ·rw [<- hlen]
  refine Eh (ys:=Uv s sep) (vs:=(Uv s sep).map Value.string) (rest:=[]) (c:=(Uv s sep).length) (T:=ρ.t 9) (Qyq _ _) (fun y _=>rfl) (Qex w _) (by simp) ?_ (by simp) (Qq _) uu0
  simp only [So]
  exact heap_alloc_new w _
 ·have hb:b=w.heap.size:=by simpa using hb
  subst hb
  exact ⟨by simp,.inr (Qq _)⟩
theorem Qqz (s sep:Za) (h1:1<=sep.size):1<=(Uv s sep).length:=(Mw s sep h1).symm ▸ Nat.le_add_left 1 _
theorem Qzo (s sep:Za) (h1:1<=sep.size):(Uv s sep).length<=s.size+1:=by
 rw [Mw s sep h1]
 have:=Lib.countB_le sep h1 s.size s (Qq _)
 omega
theorem Qep (s sep:Za):((cut3 s sep).1.size:Int)<=(s.size:Int):=by
 have:(cut3 s sep).1.size<=s.size:=by
  show (Lib.cut s.data.toList sep.data.toList).1.toArray.size<=s.data.size
  unfold Lib.cut
  split
  ·simp only [List.size_toArray,R4,Tq]
   have:s.data.toList.length=s.data.size:=by simp
   omega
  ·simp
 omega
theorem Ufc (s sep:Za):((cut3 s sep).2.1.size:Int)<=(s.size:Int):=by
 have:(cut3 s sep).2.1.size<=s.size:=by
  show (Lib.cut s.data.toList sep.data.toList).2.1.toArray.size<=s.data.size
  unfold Lib.cut
  split
  ·simp only [List.size_toArray,R4,Tq]
   have:s.data.toList.length=s.data.size:=by simp
   omega
  ·simp
 omega
def Ku (xs:List Za) (sep:Za):Za:=⟨(Lib.join (xs.map (·.data.toList)) sep.data.toList).toArray⟩
theorem Umw (L:Lays.n156 P ρ) (X:Builder.Extra P ρ) (xs:List Za) (sep:Za) :
  Spec.ok P (ρ.f 156) ⟨[.r (.c (.l 1 eStr xs)),.r (.c (.v (.string sep)))],.v (.string (Ku xs sep)),xs.length<=140737488355328/\(Ku xs sep).size<=140737488355328⟩ false:=by
 intro ⟨hl,hj⟩ S w vs fp hS hG hA
 obtain ⟨u,us,f,g,rfl,⟨⟨a,c,rfl,hc,h63,hx⟩,rfl⟩,⟨u2,us2,f2,g2,rfl,⟨⟨rfl,_⟩,rfl⟩,⟨rfl,rfl⟩,rfl,_⟩,rfl,_⟩:=hA
 have fin:∀ (e:Ending) (w':World),e=.returned (.string (Ku xs sep))->Below w.heap.size w w'->∃ rv fr fb,e=.returned rv/\RTOK w' (.v (.string (Ku xs sep))) rv fr/\Qcf w' [.r (.c (.l 1 eStr xs)),.r (.c (.v (.string sep)))] [.slice a xs.length c,.string sep] fb/\(fr++fb).Nodup/\(∀ b∈fr++fb,b<w'.heap.size/\(b∈([]++([]++[]):List Nat)\/w.heap.size<=b))/\Chg (·∈([]++([]++[]):List Nat)) (atD false w) w' :=
  fun e w' h1 h2=>⟨_,[],[],h1,⟨rfl,rfl,rfl⟩,⟨_,_,[],[],rfl,rfl,⟨_,_,[],[],rfl,rfl,rfl,rfl⟩,rfl⟩,Q2,fun b hb=>by simp at hb,⟨h2.os,h2.tape,h2.output,h2.size,fun k hk _=>h2.block k hk,Qy _⟩⟩
 cases xs with
 | nil =>
  refine (Any.strings_Join_none L X a c sep w).mono fun e w' ⟨h1,h2⟩=>fin e w' ?_ (h2 ▸ Below.refl _ _)
  rw [h1]; rfl
 | cons x xs =>
  obtain ⟨ha,hSb,_⟩:=hx 0 x rfl
  rw [ha]
  refine (Any.strings_Join L X (ab a) (ao a) c (x :: xs) sep w (fun j y hy=>?_) (hS _ hSb).1 hl hc (by simpa [Ku,ByteArray.size] using hj)).mono fun e w' ⟨h1,h2⟩=>?_
  ·obtain ⟨_,_,cs,h1,h2,h3⟩:=hx j y hy
   obtain ⟨u,us,rfl,⟨rfl,_⟩,_⟩:=h3
   have:=h2 0 _ rfl
   simpa using this
  ·have:=fin e w' h1 h2
   rw [ha] at this
   exact this
open Go.Sort in
end
end Go.Proofs.YthjaknclldmheaaGreatDoor
