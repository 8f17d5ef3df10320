/- The card's statement of FnExactConfStoreOk: for all arguments the law returns true, without further conditions. Texts put together: PCH, VSZ, PSZ, PSO, VJO, PJO, VST1, VST2, POS1, VST3, POS2, VST4, POS3, VSTL, POSL, C51. -/
import Derived.Test.YthjaknclldmheaaGreatDoorRows
import Derived.Test.YthjaknclldmheaaGreatDoorCards
import Derived.Test.YthjaknclldmheaaGreatDoorTie
import Derived.Deep.DeepHandedRow
import Derived.Deep.DeepLaidRun
import Derived.JoinedCond
import Derived.Lib.LaidU8
import Derived.Test.YthjaknclldmheaaGreatDoorZC51D
namespace Go.Proofs.YthjaknclldmheaaGreatDoor
open Go.RowKit
set_option maxRecDepth 100000
set_option linter.unusedVariables false
set_option linter.unusedSimpArgs false
theorem Qdw (lines:List Za):F85 lines=F118 lines:=by
 unfold F85 F118
 rw [Qbm]
 cases hn:(F23 lines != 0) with
 | true=>rfl
 | false =>
  have h0:F23 lines=0:=by simpa using hn
  rw [Qe,Qe]
  have e:(lines.map (fun l=>(⟨(F64 l).1⟩:l52Cut)))=(wsL lines).map l52Cut.mk:=by
   unfold wsL
   rw [Gn]; rfl
  rw [e]
  have k1:=Qlm lines h0
  have k2:=Qdg lines h0
  have k3:=Qng lines h0
  have k4:=Qdh lines h0
  have k5:=Qia lines h0
  rw [<- k1,<- k2,<- k3,<- k4,<- k5]
  have s0:Vd lines 0=bif F121 lines then .ret 5 else .next 1:=rfl
  have s1:Vd lines 1=bif F122 lines then .ret 6 else .next 2:=rfl
  have s2:Vd lines 2=bif F123 lines then .ret 7 else .next 3:=rfl
  have s3:Vd lines 3=bif F124 lines then .ret 8 else .next 4:=rfl
  have s4:Vd lines 4=bif F125 lines then .ret 9 else .next 5:=rfl
  have s5:Vd lines 5=.done 5:=rfl
  show (runL (Vd lines) 6 0).fin _ _=_
  cases b0:F121 lines with
  | true=>rw [b0,Qc] at s0; rw [Wm _ s0]; rfl
  | false =>
  rw [b0,Qe] at s0; rw [Kc _ s0]
  cases b1:F122 lines with
  | true=>rw [b1,Qc] at s1; rw [Wm _ s1]; rfl
  | false =>
  rw [b1,Qe] at s1; rw [Kc _ s1]
  cases b2:F123 lines with
  | true=>rw [b2,Qc] at s2; rw [Wm _ s2]; rfl
  | false =>
  rw [b2,Qe] at s2; rw [Kc _ s2]
  cases b3:F124 lines with
  | true=>rw [b3,Qc] at s3; rw [Wm _ s3]; rfl
  | false =>
  rw [b3,Qe] at s3; rw [Kc _ s3]
  cases b4:F125 lines with
  | true=>rw [b4,Qc] at s4; rw [Wm _ s4]; rfl
  | false =>
  rw [b4,Qe] at s4; rw [Kc _ s4,Vb _ s5]; rfl
def Qjh (a:List Za) (left':Int):(Int×Int)->Lp (Int×Int) Int:=fun (left'1,i40) =>
 bif (decide (i40<(a.length:Int))) then (bif (decide ((left'1-((a.getD i40.toNat default).size:Int))<0)) then (.ret (-1)) else (.next ((left'1-((a.getD i40.toNat default).size:Int)),(i40+1)))) else (.done (left'1,i40))
def F7 (a:List Za) (left':Int):Int :=
 bif (decide ((left'-(a.length:Int))<0)) then (-1) else ((runL (Qjh a left') (((a.length:Int)-0).toNat+1) ((left'-(a.length:Int)),0)).fin (fun r=>r) (fun (left'1,i40)=>left'1))
abbrev Qoh (a:List Za) (left':Int):Nat×(Int×Int):=((((a.length:Int)-0).toNat+1),((left'-(a.length:Int)),0))
abbrev Uds (a:List Za) (m39:Nat) (left'1:Int) (i40:Int):Prop:=Int.toNat ((a.length:Int)-i40)<m39/\(0:Int)<=left'1/\left'1<=1048576/\(0:Int)<=i40
abbrev lX7_0 (a:List Za) (left':Int):Lp (Int×Int) Int:=LpX (Qjh a left') (Qoh a left')
abbrev Qph (a:List Za) (left':Int) (i:Nat×(Int×Int)):Prop:=LpJ (Qjh a left') (Qoh a left') i (Uds a i.1 i.2.1 i.2.2)
abbrev lH7_0 (a:List Za) (left':Int) (i:Nat×(Int×Int)) (m39:Nat) (left'1:Int) (i40:Int):Prop:=LpH (Qjh a left') (Qoh a left') i m39 (left'1,i40) (Uds a (m39+1) left'1 i40)
abbrev lE7_0 (a:List Za) (left'1:Int) (i40:Int) (left'1_:Int) (i40_:Int) (K39:Prop):Prop:=((.int .i64 left'1:Value)=.int .i64 left'1_)/\((.int .i64 i40:Value)=.int .i64 i40_)/\(Im (.l 1 eStr a))/\K39
theorem un7_0 (a:List Za) (left':Int) (i:Nat×(Int×Int)) (h:Qph a left' i):lH7_0 a left' i (i.1-1) i.2.1 i.2.2:=⟨hd1 h.1 h.2.1,hd3 h.2.1,hd2 h.2.1,h.2.2⟩
theorem bk7_0 (a:List Za) (left':Int) (i:Nat×(Int×Int)) (m39:Nat) (left'1:Int) (i40:Int) (hl:m39<i.1) (e:runL (Qjh a left') m39 (left'1,i40)=lX7_0 a left') (h:Uds a m39 left'1 i40):∃ j:Nat×(Int×Int),lE7_0 a left'1 i40 j.2.1 j.2.2 (Qph a left' j/\j.1<i.1):=⟨(m39,(left'1,i40)),rfl,rfl,Imp.refl _,⟨e,h⟩,hl⟩
theorem en7_0 (a:List Za) (left':Int) (h:(0:Int)<=(left'-(a.length:Int))/\(left'-(a.length:Int))<=1048576/\(0:Int)<=0):lE7_0 a (left'-(a.length:Int)) 0 (left'-(a.length:Int)) 0 (Qph a left' (Qoh a left')):=⟨rfl,rfl,Imp.refl _,rfl,Qn _,h⟩
def S7 (a:List Za) (left':Int):Spec:=⟨[.r (.c (.l 1 eStr a)),.r (.c (.v (vI left')))],.v (vI (F7 a left')),0<=left'/\left'<=1048576/\(∀ k:Nat,(a.getD k default).size<=9223372036854775807)⟩
theorem ok7 (a:List Za) (left':Int):(S7 a left').ok Tryz.prog 7 :=
 Ue mixed (fn:=Tryz.f7) (ct:=.seqk [(0,0)] .no (.seq (.reg [(3,.bnd)]) (.seq (.seq .no (.cond (.seq .no .no) .no)) (.seq (.seqk [(0,0)] .no (.blk (.loop (ι:=Nat×(Int×Int)) (fun i=>(fun (left'1:Int) (i40:Int)=>(⟨[(0,some (.h 0 0)),(1,some (.v (vI left'1))),(5,some (.v (vI i40)))],[(0,some (.shr none (.l 1 eStr a)))],1⟩:St)) i.2.1 i.2.2) (Qph a left') (fun i=>i.1) (Qoh a left') (fun i=>(fun (left'1:Int) (i40:Int)=>(.seq (.seq .no (.cond .no .no)) (.seq (.blk (.seq (.reg [(6,.bnd)]) (.seq .no (.cond (.seq .no .no) .no)))) (.reg [(1,.bnd)])))) i.2.1 i.2.2)))) (.seq .no .no))))) Tryz.func7 (fun (hp:0<=left'/\left'<=1048576/\(∀ k:Nat,(a.getD k default).size<=9223372036854775807))=>have hpre0:=hp.1; have hpre1:=hp.2.1; have hpre2:=hp.2.2; kn a fun _=>ai (iok (left'-(a.length:Int)) uu51) (ifd ((left'-(a.length:Int))<0) (fun h1 _=>fiI (-1) (F7 a left') (condT h1 rfl)) (fun h1 _=>kn a fun _=>ai (en7_0 a left' uu39) (fun (i0:Nat×(Int×Int)) (hi0:Qph a left' i0)=>(fun (m0:Nat) (left'1:Int) (i40:Int) (hh0:lH7_0 a left' i0 m0 left'1 i40)=>have hI0:=hh0.1; have hl0:=hh0.2.1; have _:=hh0.2.2.1; have _:=hh0.2.2.2; ifd (i40<(a.length:Int)) (fun h3 _=>ai (uu0:ib i40 a) (ai (iok (left'1-((a.getD i40.toNat default).size:Int)) uu51) (ifd ((left'1-((a.getD i40.toNat default).size:Int))<0) (fun h4 _=>fiI (-1) (F7 a left') (condF h1 (finR (Um hI0 (condT h3 (condT h4 rfl))) rfl))) (fun h4 _=>ai (iok (i40+1) uu51) (bk7_0 a left' i0 m0 (left'1-((a.getD i40.toNat default).size:Int)) (i40+1) hl0 (Ud hI0 (condT h3 (condF h4 rfl))) uu25))))) (fun h3 _=>have hD0_5:lX7_0 a left'=Lp.done (left'1,i40):=Uh hI0 (condF h3 rfl); fiI left'1 (F7 a left') (condF h1 (finD hD0_5 rfl)))) (i0.1-1) i0.2.1 i0.2.2 (un7_0 a left' i0 hi0))))) uu1
theorem gb7 (a:List Za) (left':Int):0<=left'->left'<=1048576->0<=(F7 a left')->(F7 a left')<=left'/\(a.length<=1048576)/\(∀ k:Nat,(a.getD k default).size<=1048576):=by
 intro h0 h1 h2
 simp only [F7] at h2 ⊢
 cases h:decide (left'-(a.length:Int)<0)
 ·simp only [h,Qe] at h2 ⊢
  have hc:=Qp h
  obtain ⟨hall,hle⟩:=Qmd (fun (x:Za) (l:Int)=>l-(x.size:Int)) (fun x=>(x.size<=1048576)) (fun x l g0 g1 g2=>⟨by omega,by omega⟩) a (Qjh a left') (left'-(a.length:Int)) uu0 uu0 (fun l i=>rfl) h2
  exact ⟨Int.le_trans hle uu0,by omega,fun k=>by
   by_cases hk:k<a.length
   ·exact (hall k hk)
   ·rw [Kq a uu0]; first | exact Qy _ | (intro k'; exact Qy _) | (intro k' k''; exact Qy _)⟩
 ·simp only [h,Qc] at h2
  exact absurd h2 uu2
theorem g7_0 (a:List Za) (left':Int):0<=left'->left'<=1048576->0<=(F7 a left')->(F7 a left')<=left':=by
 intro h0 h1 h2; exact (gb7 a left' h0 h1 h2).1
theorem g7_1 (a:List Za) (left':Int):0<=left'->left'<=1048576->0<=(F7 a left')->a.length<=1048576:=by
 intro h0 h1 h2; exact (gb7 a left' h0 h1 h2).2.1
theorem g7_2 (a:List Za) (left':Int):0<=left'->left'<=1048576->0<=(F7 a left')->∀ k:Nat,(a.getD k default).size<=1048576:=by
 intro h0 h1 h2; exact (gb7 a left' h0 h1 h2).2.2

theorem Qvn {p:Nat->Bool}:∀ (m i:Nat),anyF p i m=false->∀ k,i<=k->k<i+m->p k=false
 | 0,i,_,k,h1,h2=>by omega
 | m+1,i,h,k,h1,h2=>by
  rw [anyF,Bool.or_eq_false_iff] at h
  rcases Nat.eq_or_lt_of_le h1 with rfl | hlt
  ·exact h.1
  ·exact Qvn m (i+1) h.2 k hlt uu0
def F24 (lines:List Za):Bool :=
 ((F60 lines)==0)
def S24 (lines:List Za):Spec:=⟨[.r (.c (.l 1 eStr lines))],.v (.bool (F24 lines)),lines.length<=1048576/\(∀ k:Nat,(lines.getD k default).size<=1048576)⟩
theorem ok24 (lines:List Za):(S24 lines).ok Tryz.prog 24 false :=
 Ue mixed (fn:=Tryz.f24) (ct:=.seqk [(0,0)] .no (.seq (.reg [(1,kh60 lines)]) .no)) Tryz.func24 (fun (hp:lines.length<=1048576/\(∀ k:Nat,(lines.getD k default).size<=1048576))=>have hpre0:=hp.1; have hpre1:=hp.2; kn lines fun _=>kc60 lines uu27 (fiB ((F60 lines)==0) (F24 lines) rfl)) uu1

structure ConfCand where
 User:Za
 Base:Int
 From:List Za
 Lines:List Za
 deriving DecidableEq,Inhabited
def Uj (x:ConfCand):List Dat:=[.v (.string x.User),.v (vI x.Base),.l 1 eStr x.From,.l 1 eStr x.Lines]
structure ConfBox where
 Edition:Int
 Lines:List Za
 Trial:Int
 Back:List Za
 Cands:List ConfCand
 deriving DecidableEq,Inhabited
def Yk (x:ConfBox):List Dat:=[.v (vI x.Edition),.l 1 eStr x.Lines,.v (vI x.Trial),.l 1 eStr x.Back,.l 4 Uj x.Cands]
structure ConfSlot where
 Whole:Bool
 Edition:Int
 Trial:Bool
 Lines:List Za
 deriving DecidableEq,Inhabited
def Uk (x:ConfSlot):List Dat:=[.v (.bool x.Whole),.v (vI x.Edition),.v (.bool x.Trial),.l 1 eStr x.Lines]
structure ConfJob where
 Kind:Int
 Step:Int
 Edition:Int
 Ticks:Int
 Lines:List Za
 deriving DecidableEq,Inhabited
def Ya (x:ConfJob):List Dat:=[.v (vI x.Kind),.v (vI x.Step),.v (vI x.Edition),.v (vI x.Ticks),.l 1 eStr x.Lines]
structure ConfStore where
 Up:Bool
 Box:ConfBox
 Slots:List ConfSlot
 Live:Int
 Last:Int
 Job:ConfJob
 deriving DecidableEq,Inhabited
def Ug (x:ConfStore):List Dat:=[.v (.bool x.Up),.v (vI x.Box.Edition),.l 1 eStr x.Box.Lines,.v (vI x.Box.Trial),.l 1 eStr x.Box.Back,.l 4 Uj x.Box.Cands,.l 4 Uk x.Slots,.v (vI x.Live),.v (vI x.Last),.v (vI x.Job.Kind),.v (vI x.Job.Step),.v (vI x.Job.Edition),.v (vI x.Job.Ticks),.l 1 eStr x.Job.Lines]
def F86 (s:ConfStore):ConfSlot :=
 (s.Slots.getD (Int.toNat s.Live) default)
def S86 (s:ConfStore):SpecM:=⟨Ug s,Uk (F86 s),0<=s.Live/\s.Live<=1/\s.Slots.length=2⟩
theorem ok86 (s:ConfStore):(S86 s).ok Tryz.prog 86 :=
 Ugg mixed (fn:=Tryz.f86) (ct:=.seqk [(0,2),(0,4),(0,5),(0,6),(0,13)] .no (.seq .no .no)) Tryz.func86 (fun (hp:0<=s.Live/\s.Live<=1/\s.Slots.length=2)=>have hpre0:=hp.1; have hpre1:=hp.2.1; have hpre2:=hp.2.2; kn s.Box.Lines fun _=>kn s.Box.Back fun _=>kn s.Box.Cands fun _=>kn s.Slots fun _=>kn s.Job.Lines fun _=>ai (uu0:ib s.Live s.Slots) ((fun hF:(s.Slots.getD (Int.toNat s.Live) default)=(F86 s)=>Imps.of_eq (Qt Uk hF)) rfl)) uu1
def F87 (s:ConfStore):ConfSlot :=
 (s.Slots.getD (1-s.Live).toNat default)
def S87 (s:ConfStore):SpecM:=⟨Ug s,Uk (F87 s),0<=s.Live/\s.Live<=1/\s.Slots.length=2⟩
theorem ok87 (s:ConfStore):(S87 s).ok Tryz.prog 87 :=
 Ugg mixed (fn:=Tryz.f87) (ct:=.seqk [(0,2),(0,4),(0,5),(0,6),(0,13)] .no (.seq (.reg [(8,.bnd)]) .no)) Tryz.func87 (fun (hp:0<=s.Live/\s.Live<=1/\s.Slots.length=2)=>have hpre0:=hp.1; have hpre1:=hp.2.1; have hpre2:=hp.2.2; kn s.Box.Lines fun _=>kn s.Box.Back fun _=>kn s.Box.Cands fun _=>kn s.Slots fun _=>kn s.Job.Lines fun _=>ai (iok (1-s.Live) uu0) (ai (uu0:ib (1-s.Live) s.Slots) ((fun hF:(s.Slots.getD (1-s.Live).toNat default)=(F87 s)=>Imps.of_eq (Qt Uk hF)) rfl))) uu1
abbrev kh85 (lines:List Za):Hint false Tryz.prog:=.call 85 (S85 lines) (ok85 lines) none
abbrev kh24 (lines:List Za):Hint false Tryz.prog:=.call 24 (S24 lines) (ok24 lines) none
def Hp (s:ConfStore):Int->Lp Int Bool:=fun v34 =>
 bif (decide (v34<(s.Slots.length:Int))) then (bif (bif (s.Slots.getD v34.toNat default).Whole then (bif (!(decide (0<=(s.Slots.getD v34.toNat default).Edition/\(s.Slots.getD v34.toNat default).Edition<=s.Last))) then true else ((F85 (s.Slots.getD v34.toNat default).Lines) != 0)) else false) then (.ret false) else (bif (bif (!(s.Slots.getD v34.toNat default).Whole) then (bif (bif ((s.Slots.getD v34.toNat default).Edition != 0) then true else (s.Slots.getD v34.toNat default).Trial) then true else (!(F24 (s.Slots.getD v34.toNat default).Lines))) else false) then (.ret false) else (.next (v34+1)))) else (.done v34)
def F52 (s:ConfStore):Bool :=
 bif (bif (bif ((s.Slots.length:Int) != 2) then true else (!(decide (0<=s.Live/\s.Live<=1)))) then true else (!(decide (0<=s.Last/\s.Last<=1000000)))) then false else ((runL (Hp s) (((s.Slots.length:Int)-0).toNat+1) 0).fin (fun r=>r) (fun v34=>bif (!(F86 s).Whole) then false else (bif (!(F86 s).Trial) then true else (bif (bif (bif ((F86 s).Edition==s.Last) then (F87 s).Whole else false) then (!(F87 s).Trial) else false) then decide ((F87 s).Edition<(F86 s).Edition) else false))))
abbrev Qhq (s:ConfStore):Nat×Int:=((((s.Slots.length:Int)-0).toNat+1),0)
abbrev Qsp (s:ConfStore) (m39:Nat) (v34:Int):Prop:=Int.toNat ((s.Slots.length:Int)-v34)<m39/\(0:Int)<=v34
abbrev Uew (s:ConfStore):Lp Int Bool:=LpX (Hp s) (Qhq s)
abbrev Qgo (s:ConfStore) (i:Nat×Int):Prop:=LpJ (Hp s) (Qhq s) i (Qsp s i.1 i.2)
abbrev Uco (s:ConfStore) (i:Nat×Int) (m39:Nat) (v34:Int):Prop:=LpH (Hp s) (Qhq s) i m39 v34 (Qsp s (m39+1) v34)
abbrev Ubd (s:ConfStore) (v34:Int) (v34_:Int) (K39:Prop):Prop:=(Rf (.int .i64 (s.Slots.length:Int)))/\((.int .i64 v34:Value)=.int .i64 v34_)/\(Ims (Ug s))/\K39
theorem un52_0 (s:ConfStore) (i:Nat×Int) (h:Qgo s i):Uco s i (i.1-1) i.2:=⟨hd1 h.1 h.2.1,hd3 h.2.1,hd2 h.2.1,h.2.2⟩
theorem bk52_0 (s:ConfStore) (i:Nat×Int) (m39:Nat) (v34:Int) (hl:m39<i.1) (e:runL (Hp s) m39 v34=Uew s) (h:Qsp s m39 v34):∃ j:Nat×Int,Ubd s v34 j.2 (Qgo s j/\j.1<i.1):=⟨(m39,v34),rfl,rfl,Imps.refl _,⟨e,h⟩,hl⟩
theorem en52_0 (s:ConfStore) (h:(0:Int)<=0):Ubd s 0 0 (Qgo s (Qhq s)):=⟨rfl,rfl,Imps.refl _,rfl,Qn _,h⟩
def S52 (s:ConfStore):Spec:=⟨[.rp (Ug s)],.v (.bool (F52 s)),(∀ k:Nat,(s.Slots.getD k default).Lines.length<=1048576)/\(∀ k:Nat,∀ k':Nat,((s.Slots.getD k default).Lines.getD k' default).size<=1048576)⟩
abbrev Zy (s:ConfStore) (v34:Int):=(s.Slots.getD v34.toNat default)
theorem ok52 (s:ConfStore):(S52 s).ok Tryz.prog 52 false :=
 Ue mixed (fn:=Tryz.f52) (ct:=.seqk [(0,2),(0,4),(0,5),(0,6),(0,13)] .no (.seq (.seq (.reg [(11,Vc s.Live 0 1),(19,Vc s.Last 0 1000000)]) (.cond (.seq .no .no) .no)) (.seq (.seqk [(0,2),(0,4),(0,5),(0,6),(0,13),(32,0)] .no (.blk (.loop (ι:=Nat×Int) (fun i=>(fun (v34:Int)=>(⟨[(0,some (.p 0 0)),(32,some (.h 0 7)),(33,some (.v (vI (s.Slots.length:Int)))),(34,some (.v (vI v34)))],[(0,some (.mem none none (Ug s)))],1⟩:St)) i.2) (Qgo s) (fun i=>i.1) (Qhq s) (fun i=>(fun (v34:Int)=>(.seq .no (.seq (.cond .no .no) (.seq (.blk (.seq .no (.seq (.seq (.reg [(9,Vc (Zy s v34).Edition 0 s.Last),(14,kh85 (Zy s v34).Lines)]) (.cond (.seq .no .no) .no)) (.seq (.reg [(14,kh24 (Zy s v34).Lines)]) (.cond (.seq .no .no) .no))))) (.reg [(0,.bnd)]))))) i.2)))) (.seq (.reg [(1,.cm 86 (S86 s) ((ok86 s).to false)),(3,.cm 87 (S87 s) ((ok87 s).to false))]) (.seq (.seq .no (.cond (.seq .no .no) .no)) (.seq .no .no)))))) Tryz.func52 (fun (hp:(∀ k:Nat,(s.Slots.getD k default).Lines.length<=1048576)/\(∀ k:Nat,∀ k':Nat,((s.Slots.getD k default).Lines.getD k' default).size<=1048576))=>have hpre0:=hp.1; have hpre1:=hp.2; kn s.Box.Lines fun _=>kn s.Box.Back fun _=>kn s.Box.Cands fun _=>kn s.Slots fun _=>kn s.Job.Lines fun _=>Mm ((s.Slots.length:Int) != 2) false s.Live 0 1 (Mm (bif ((s.Slots.length:Int) != 2) then true else (!(decide (0<=s.Live/\s.Live<=1)))) false s.Last 0 1000000 (ifb (bif (bif ((s.Slots.length:Int) != 2) then true else (!(decide (0<=s.Live/\s.Live<=1)))) then true else (!(decide (0<=s.Last/\s.Last<=1000000)))) (fun h3=>fiB false (F52 s) (condT h3 rfl)) (fun h3=>have _:=bneF (orF1 (orF1 h3)); have _:=Qb (Uw (orF2 (orF1 h3))); have _:=Qb (Uw (orF2 h3)); kn s.Box.Lines fun _=>kn s.Box.Back fun _=>kn s.Box.Cands fun _=>kn s.Slots fun _=>kn s.Job.Lines fun _=>kn s.Slots fun _=>ai (en52_0 s uu0) (fun (i0:Nat×Int) (hi0:Qgo s i0)=>(fun (m0:Nat) (v34:Int) (hh0:Uco s i0 m0 v34)=>have hI0:=hh0.1; have hl0:=hh0.2.1; have _:=hh0.2.2.1; have _:=hh0.2.2.2; ifd (v34<(s.Slots.length:Int)) (fun h5 _=>ai (uu0:ib v34 s.Slots) (Mm (Zy s v34).Whole true (Zy s v34).Edition 0 s.Last (ai (fun k8:(!(decide (0<=(Zy s v34).Edition/\(Zy s v34).Edition<=s.Last)))=false=>have _:=Qb (Uw k8); (fun k7:(Zy s v34).Whole=true=>(ai (uu18:(Zy s v34).Lines.length<=1048576) (uu18:∀ k:Nat,((Zy s v34).Lines.getD k default).size<=1048576)))) (ai (fun k10:(!(decide (0<=(Zy s v34).Edition/\(Zy s v34).Edition<=s.Last)))=false=>have _:=Qb (Uw k10); (fun k9:(Zy s v34).Whole=true=>(Imp.refl (.l 1 eStr (Zy s v34).Lines)))) (ifb (bif (Zy s v34).Whole then (bif (!(decide (0<=(Zy s v34).Edition/\(Zy s v34).Edition<=s.Last))) then true else ((F85 (Zy s v34).Lines) != 0)) else false) (fun h11=>have _:=(Uc h11); fiB false (F52 s) (condF h3 (finR (Um hI0 (condT h5 (condT h11 rfl))) rfl))) (fun h11=>ai (fun k13:(bif ((Zy s v34).Edition != 0) then true else (Zy s v34).Trial)=false=>have _:=bneF (orF1 k13); have _:=(orF2 k13); (fun k12:(!(Zy s v34).Whole)=true=>have _:=(Yq k12); (ai (uu18:(Zy s v34).Lines.length<=1048576) (uu18:∀ k:Nat,((Zy s v34).Lines.getD k default).size<=1048576)))) (ai (fun k15:(bif ((Zy s v34).Edition != 0) then true else (Zy s v34).Trial)=false=>have _:=bneF (orF1 k15); have _:=(orF2 k15); (fun k14:(!(Zy s v34).Whole)=true=>have _:=(Yq k14); (Imp.refl (.l 1 eStr (Zy s v34).Lines)))) (ifb (bif (!(Zy s v34).Whole) then (bif (bif ((Zy s v34).Edition != 0) then true else (Zy s v34).Trial) then true else (!(F24 (Zy s v34).Lines))) else false) (fun h16=>have _:=(Yq (Uc h16)); fiB false (F52 s) (condF h3 (finR (Um hI0 (condT h5 (condF h11 (condT h16 rfl)))) rfl))) (fun h16=>ai (iok (v34+1) uu0) (bk52_0 s i0 m0 (v34+1) hl0 (Ud hI0 (condT h5 (condF h11 (condF h16 rfl)))) uu5)))))))))) (fun h5 _=>have hD0_17:Uew s=Lp.done v34:=Uh hI0 (condF h5 rfl); ai (ai (uu0:0<=s.Live) (ai (uu0:s.Live<=1) (uu0:s.Slots.length=2))) (ai (Imps.refl (Ug s)) (ai (ai (uu0:0<=s.Live) (ai (uu0:s.Live<=1) (uu0:s.Slots.length=2))) (ai (Imps.refl (Ug s)) (ifb (!(F86 s).Whole) (fun h18=>have _:=(Yq h18); fiB false (F52 s) (condF h3 (finD hD0_17 (condT h18 rfl)))) (fun h18=>have _:=(Uw h18); fiB (bif (!(F86 s).Trial) then true else (bif (bif (bif ((F86 s).Edition==s.Last) then (F87 s).Whole else false) then (!(F87 s).Trial) else false) then decide ((F87 s).Edition<(F86 s).Edition) else false)) (F52 s) (condF h3 (finD hD0_17 (condF h18 rfl)))))))))) (i0.1-1) i0.2 (un52_0 s i0 hi0)))))) uu1
def F53 (j1:ConfJob) (kind:Int):Bool :=
 (bif (bif (bif (bif (j1.Kind==kind) then (j1.Step==0) else false) then (j1.Edition==0) else false) then (j1.Ticks==0) else false) then ((j1.Lines.length:Int)==0) else false)
def S53 (j1:ConfJob) (kind:Int):Spec:=⟨[.r (.g (Ya j1)),.r (.c (.v (vI kind)))],.v (.bool (F53 j1 kind)),True⟩
theorem ok53 (j1:ConfJob) (kind:Int):(S53 j1 kind).ok Tryz.prog 53 :=
 Ue mixed (fn:=Tryz.f53) (ct:=.seq .no (.seq .no .no)) Tryz.func53 (fun (_:True)=>fiB (bif (bif (bif (bif (j1.Kind==kind) then (j1.Step==0) else false) then (j1.Edition==0) else false) then (j1.Ticks==0) else false) then ((j1.Lines.length:Int)==0) else false) (F53 j1 kind) rfl) uu1
theorem kc88 (word:Za) {K_:Prop} (p0_:word.size<=1048576) (k_:K_):(word.size<=1048576)/\(Imp (.v (.string word)) (.v (.string word)))/\K_:=⟨p0_,Imp.refl _,k_⟩
theorem kg24 {K_:Prop} (c_ b_:Bool) (lines:List Za) (p_:c_=b_->lines.length<=1048576/\(∀ k:Nat,(lines.getD k default).size<=1048576)) (k_:K_):(c_=b_->lines.length<=1048576/\(∀ k:Nat,(lines.getD k default).size<=1048576))/\(c_=b_->Imp (.l 1 eStr lines) (.l 1 eStr lines))/\K_:=⟨p_,fun _=>Imp.refl _,k_⟩
abbrev kh88f (word:Za):Hint false Tryz.prog:=.call 88 (S88 word) ((ok88 word).to false) none
def Np (b:ConfBox):Int->Lp Int Bool:=fun v8 =>
 bif (decide (v8<(b.Cands.length:Int))) then (bif (bif (bif (bif (bif (!(F88 (b.Cands.getD v8.toNat default).User)) then true else (bif decide (v8>0) then (!(Op.bytesLess (b.Cands.getD (v8-1).toNat default).User.toList (b.Cands.getD v8.toNat default).User.toList)) else false)) then true else (!(decide (0<=(b.Cands.getD v8.toNat default).Base/\(b.Cands.getD v8.toNat default).Base<=b.Edition)))) then true else (!(F24 (b.Cands.getD v8.toNat default).From))) then true else (!(F24 (b.Cands.getD v8.toNat default).Lines))) then (.ret false) else (.next (v8+1))) else (.done v8)
def F54 (b:ConfBox):Bool :=
 (runL (Np b) (((b.Cands.length:Int)-0).toNat+1) 0).fin (fun r=>r) (fun v8=>decide ((b.Cands.length:Int)<=3))
abbrev Qeo (b:ConfBox):Nat×Int:=((((b.Cands.length:Int)-0).toNat+1),0)
abbrev Qqn (b:ConfBox) (m39:Nat) (v8:Int):Prop:=Int.toNat ((b.Cands.length:Int)-v8)<m39/\(0:Int)<=v8
abbrev Ucm (b:ConfBox):Lp Int Bool:=LpX (Np b) (Qeo b)
abbrev Qgw (b:ConfBox) (i:Nat×Int):Prop:=LpJ (Np b) (Qeo b) i (Qqn b i.1 i.2)
abbrev Ufi (b:ConfBox) (i:Nat×Int) (m39:Nat) (v8:Int):Prop:=LpH (Np b) (Qeo b) i m39 v8 (Qqn b (m39+1) v8)
abbrev Ubt (b:ConfBox) (v8:Int) (v8_:Int) (K39:Prop):Prop:=(Rf (.int .i64 (b.Cands.length:Int)))/\((.int .i64 v8:Value)=.int .i64 v8_)/\(Rf (.int .i64 b.Edition))/\(Rf (.int .i64 b.Trial))/\(Im (.l 1 eStr b.Lines))/\(Im (.l 1 eStr b.Back))/\(Im (.l 4 Uj b.Cands))/\K39
theorem un54_0 (b:ConfBox) (i:Nat×Int) (h:Qgw b i):Ufi b i (i.1-1) i.2:=⟨hd1 h.1 h.2.1,hd3 h.2.1,hd2 h.2.1,h.2.2⟩
theorem bk54_0 (b:ConfBox) (i:Nat×Int) (m39:Nat) (v8:Int) (hl:m39<i.1) (e:runL (Np b) m39 v8=Ucm b) (h:Qqn b m39 v8):∃ j:Nat×Int,Ubt b v8 j.2 (Qgw b j/\j.1<i.1):=⟨(m39,v8),rfl,rfl,rfl,rfl,Imp.refl _,Imp.refl _,Imp.refl _,⟨e,h⟩,hl⟩
theorem en54_0 (b:ConfBox) (h:(0:Int)<=0):Ubt b 0 0 (Qgw b (Qeo b)):=⟨rfl,rfl,rfl,rfl,Imp.refl _,Imp.refl _,Imp.refl _,rfl,Qn _,h⟩
def S54 (b:ConfBox):Spec:=⟨[.r (.g (Yk b))],.v (.bool (F54 b)),(∀ k:Nat,(b.Cands.getD k default).User.size<=1048576)/\(∀ k:Nat,(b.Cands.getD k default).From.length<=1048576)/\(∀ k:Nat,∀ k':Nat,((b.Cands.getD k default).From.getD k' default).size<=1048576)/\(∀ k:Nat,(b.Cands.getD k default).Lines.length<=1048576)/\(∀ k:Nat,∀ k':Nat,((b.Cands.getD k default).Lines.getD k' default).size<=1048576)⟩
abbrev Km (b:ConfBox) (v8:Int):=(b.Cands.getD v8.toNat default)
theorem ok54 (b:ConfBox):(S54 b).ok Tryz.prog 54 false :=
 Ue mixed (fn:=Tryz.f54) (ct:=.seq .no (.seq (.seqk [(1,1),(1,3),(1,4),(6,0)] .no (.blk (.loop (ι:=Nat×Int) (fun i=>(fun (v8:Int)=>(⟨[(1,some (.p 0 0)),(6,some (.h 3 0)),(7,some (.v (vI (b.Cands.length:Int)))),(8,some (.v (vI v8)))],[(0,some (.box 43 [.v (vI b.Edition),.h 1 0,.v (vI b.Trial),.h 2 0,.h 3 0])),(1,some (.shr none (.l 1 eStr b.Lines))),(2,some (.shr none (.l 1 eStr b.Back))),(3,some (.shr none (.l 4 Uj b.Cands)))],4⟩:St)) i.2) (Qgw b) (fun i=>i.1) (Qeo b) (fun i=>(fun (v8:Int)=>(.seq .no (.seq (.cond .no .no) (.seq (.blk (.seq .no (.seq (.reg [(2,kh88f (Km b v8).User),(11,.bnd),(25,Vc (Km b v8).Base 0 b.Edition),(31,kh24 (Km b v8).From),(37,kh24 (Km b v8).Lines)]) (.cond (.seq .no .no) .no)))) (.reg [(0,.bnd)]))))) i.2)))) (.seq .no .no))) Tryz.func54 (fun (hp:(∀ k:Nat,(b.Cands.getD k default).User.size<=1048576)/\(∀ k:Nat,(b.Cands.getD k default).From.length<=1048576)/\(∀ k:Nat,∀ k':Nat,((b.Cands.getD k default).From.getD k' default).size<=1048576)/\(∀ k:Nat,(b.Cands.getD k default).Lines.length<=1048576)/\(∀ k:Nat,∀ k':Nat,((b.Cands.getD k default).Lines.getD k' default).size<=1048576))=>have hpre0:=hp.1; have hpre1:=hp.2.1; have hpre2:=hp.2.2.1; have hpre3:=hp.2.2.2.1; have hpre4:=hp.2.2.2.2; kn b.Lines fun _=>kn b.Back fun _=>kn b.Cands fun _=>kn b.Cands fun _=>ai (en54_0 b uu0) (fun (i0:Nat×Int) (hi0:Qgw b i0)=>(fun (m0:Nat) (v8:Int) (hh0:Ufi b i0 m0 v8)=>have hI0:=hh0.1; have hl0:=hh0.2.1; have _:=hh0.2.2.1; have _:=hh0.2.2.2; ifd (v8<(b.Cands.length:Int)) (fun h2 _=>ai (uu0:ib v8 b.Cands) (kc88 (Km b v8).User uu18 (ai (fun k4:(decide (v8>0))=true=>have _:=Qb k4; (fun k3:(!(F88 (Km b v8).User))=false=>iok (v8-1) uu0)) (ai (fun k6:(decide (v8>0))=true=>have _:=Qb k6; (fun k5:(!(F88 (Km b v8).User))=false=>(uu0:ib (v8-1) b.Cands))) (Mm (bif (!(F88 (Km b v8).User)) then true else (bif decide (v8>0) then (!(Op.bytesLess (b.Cands.getD (v8-1).toNat default).User.toList (Km b v8).User.toList)) else false)) false (Km b v8).Base 0 b.Edition (kg24 (bif (bif (!(F88 (Km b v8).User)) then true else (bif decide (v8>0) then (!(Op.bytesLess (b.Cands.getD (v8-1).toNat default).User.toList (Km b v8).User.toList)) else false)) then true else (!(decide (0<=(Km b v8).Base/\(Km b v8).Base<=b.Edition)))) false (Km b v8).From (fun k8=>have _:=Qb (Uw (orF2 k8)); ⟨uu18,uu18⟩) (kg24 (bif (bif (bif (!(F88 (Km b v8).User)) then true else (bif decide (v8>0) then (!(Op.bytesLess (b.Cands.getD (v8-1).toNat default).User.toList (Km b v8).User.toList)) else false)) then true else (!(decide (0<=(Km b v8).Base/\(Km b v8).Base<=b.Edition)))) then true else (!(F24 (Km b v8).From))) false (Km b v8).Lines (fun k9=>have _:=Qb (Uw (orF2 (orF1 k9))); ⟨uu18,uu18⟩) (ifb (bif (bif (bif (bif (!(F88 (Km b v8).User)) then true else (bif decide (v8>0) then (!(Op.bytesLess (b.Cands.getD (v8-1).toNat default).User.toList (Km b v8).User.toList)) else false)) then true else (!(decide (0<=(Km b v8).Base/\(Km b v8).Base<=b.Edition)))) then true else (!(F24 (Km b v8).From))) then true else (!(F24 (Km b v8).Lines))) (fun h10=>fiB false (F54 b) (finR (Um hI0 (condT h2 (condT h10 rfl))) rfl)) (fun h10=>have _:=Qb (Uw (orF2 (orF1 (orF1 h10)))); ai (iok (v8+1) uu0) (bk54_0 b i0 m0 (v8+1) hl0 (Ud hI0 (condT h2 (condF h10 rfl))) uu5)))))))))) (fun h2 _=>have hD0_11:Ucm b=Lp.done v8:=Uh hI0 (condF h2 rfl); fiB (decide ((b.Cands.length:Int)<=3)) (F54 b) (finD hD0_11 rfl))) (i0.1-1) i0.2 (un54_0 b i0 hi0))) uu1
def F90 (s:ConfStore) (edition:Int):Bool :=
 (bif (edition==(IntKind.i64.wrap (s.Last+1))) then true else (bif (edition==s.Last) then (edition==(F86 s).Edition) else false))
def S90 (s:ConfStore) (edition:Int):Spec:=⟨[.rp (Ug s),.r (.c (.v (vI edition)))],.v (.bool (F90 s edition)),0<=s.Live/\s.Live<=1/\s.Slots.length=2⟩
theorem ok90 (s:ConfStore) (edition:Int):(S90 s edition).ok Tryz.prog 90 :=
 Ue mixed (fn:=Tryz.f90) (ct:=.seqk [(0,2),(0,4),(0,5),(0,6),(0,13)] .no (.seq (.reg [(17,.cm 86 (S86 s) (ok86 s))]) .no)) Tryz.func90 (fun (hp:0<=s.Live/\s.Live<=1/\s.Slots.length=2)=>have hpre0:=hp.1; have hpre1:=hp.2.1; have hpre2:=hp.2.2; kn s.Box.Lines fun _=>kn s.Box.Back fun _=>kn s.Box.Cands fun _=>kn s.Slots fun _=>kn s.Job.Lines fun _=>ai (fun k2:(edition==s.Last)=true=>have _:=eq_of_beq k2; (fun k1:(edition==(IntKind.i64.wrap (s.Last+1)))=false=>have _:=beqF k1; (ai (uu0:0<=s.Live) (ai (uu0:s.Live<=1) (uu0:s.Slots.length=2))))) (ai (fun k4:(edition==s.Last)=true=>have _:=eq_of_beq k4; (fun k3:(edition==(IntKind.i64.wrap (s.Last+1)))=false=>have _:=beqF k3; (Imps.refl (Ug s)))) (fiB (bif (edition==(IntKind.i64.wrap (s.Last+1))) then true else (bif (edition==s.Last) then (edition==(F86 s).Edition) else false)) (F90 s edition) rfl))) uu1
theorem kg23 {K_:Prop} (c_ b_:Bool) (lines:List Za) (p_:c_=b_->(∀ k:Nat,(lines.getD k default).size<=1048576)) (k_:K_):(c_=b_->(∀ k:Nat,(lines.getD k default).size<=1048576))/\(c_=b_->Imp (.l 1 eStr lines) (.l 1 eStr lines))/\K_:=⟨p_,fun _=>Imp.refl _,k_⟩
theorem kg118 {K_:Prop} (c_ b_:Bool) (lines:List Za) (p_:c_=b_->lines.length<=1048576/\(∀ k:Nat,(lines.getD k default).size<=1048576)) (k_:K_):(c_=b_->lines.length<=1048576/\(∀ k:Nat,(lines.getD k default).size<=1048576))/\(c_=b_->Imp (.l 1 eStr lines) (.l 1 eStr lines))/\K_:=⟨p_,fun _=>Imp.refl _,k_⟩
abbrev kh118 (lines:List Za):Hint true Tryz.prog:=.call 118 (S118 lines) (ok118 lines) none
def F77 (s:ConfStore) (p:ConfSlot):Bool :=
 bif (!p.Whole) then (bif (bif (p.Edition==0) then (!p.Trial) else false) then ((F23 p.Lines)==0) else false) else (bif (decide (0<=p.Edition/\p.Edition<=s.Last)) then ((F118 p.Lines)==0) else false)
def S77 (s:ConfStore) (p:ConfSlot):Spec:=⟨[.r (.g (Ug s)),.r (.g (Uk p))],.v (.bool (F77 s p)),p.Lines.length<=1048576/\(∀ k:Nat,(p.Lines.getD k default).size<=1048576)⟩
theorem ok77 (s:ConfStore) (p:ConfSlot):(S77 s p).ok Tryz.prog 77 :=
 Ue mixed (fn:=Tryz.f77) (ct:=.seq .no (.seq (.seq .no (.cond (.seq (.reg [(11,kh23 p.Lines)]) .no) .no)) (.seq (.reg [(4,Hk p.Edition 0 s.Last),(8,kh118 p.Lines)]) .no))) Tryz.func77 (fun (hp:p.Lines.length<=1048576/\(∀ k:Nat,(p.Lines.getD k default).size<=1048576))=>have hpre0:=hp.1; have hpre1:=hp.2; ifb (!p.Whole) (fun h1=>have _:=(Yq h1); kg23 (bif (p.Edition==0) then (!p.Trial) else false) true p.Lines (fun k2=>have _:=eq_of_beq (Uc k2); have _:=(Yq (Ut k2)); uu6) (fiB (bif (bif (p.Edition==0) then (!p.Trial) else false) then ((F23 p.Lines)==0) else false) (F77 s p) (condT h1 rfl))) (fun h1=>have _:=(Uw h1); Qkv p.Edition 0 s.Last (kg118 (decide (0<=p.Edition/\p.Edition<=s.Last)) true p.Lines (fun k3=>have _:=Qb k3; ⟨uu43,uu43⟩) (fiB (bif (decide (0<=p.Edition/\p.Edition<=s.Last)) then ((F118 p.Lines)==0) else false) (F77 s p) (condF h1 rfl))))) uu1
theorem kg77 {K_:Prop} (c_ b_:Bool) (s:ConfStore) (p:ConfSlot) (p_:c_=b_->p.Lines.length<=1048576/\(∀ k:Nat,(p.Lines.getD k default).size<=1048576)) (k_:K_):(c_=b_->p.Lines.length<=1048576/\(∀ k:Nat,(p.Lines.getD k default).size<=1048576))/\(c_=b_->Imps (Ug s) (Ug s))/\(c_=b_->Imps (Uk p) (Uk p))/\K_:=⟨p_,fun _=>Imps.refl _,fun _=>Imps.refl _,k_⟩
abbrev kh77 (s:ConfStore) (p:ConfSlot):Hint true Tryz.prog:=.call 77 (S77 s p) (ok77 s p) none
def F45 (s:ConfStore):Bool :=
 bif (bif (bif (bif (bif ((s.Slots.length:Int) != 2) then true else (!(decide (0<=s.Live/\s.Live<=1)))) then true else (!(decide (0<=s.Last/\s.Last<=1000000)))) then true else (!(F77 s (s.Slots.getD (Int.toNat 0) default)))) then true else (!(F77 s (s.Slots.getD (Int.toNat 1) default)))) then false else (bif (s.Slots.getD (Int.toNat s.Live) default).Whole then (bif (!(s.Slots.getD (Int.toNat s.Live) default).Trial) then true else (bif (bif (bif (s.Slots.getD (1-s.Live).toNat default).Whole then (!(s.Slots.getD (1-s.Live).toNat default).Trial) else false) then ((s.Slots.getD (Int.toNat s.Live) default).Edition==s.Last) else false) then decide ((s.Slots.getD (1-s.Live).toNat default).Edition<s.Last) else false)) else false)
def S45 (s:ConfStore):Spec:=⟨[.r (.g (Ug s))],.v (.bool (F45 s)),(∀ k:Nat,(s.Slots.getD k default).Lines.length<=1048576)/\(∀ k:Nat,∀ k':Nat,((s.Slots.getD k default).Lines.getD k' default).size<=1048576)⟩
theorem ok45 (s:ConfStore):(S45 s).ok Tryz.prog 45 :=
 Ue mixed (fn:=Tryz.f45) (ct:=.seq .no (.seq (.seq (.reg [(7,Hk s.Live 0 1),(13,Hk s.Last 0 1000000),(22,kh77 s (s.Slots.getD (Int.toNat 0) default)),(31,kh77 s (s.Slots.getD (Int.toNat 1) default))]) (.cond (.seq .no .no) .no)) (.seq .no (.seq (.reg [(4,.bnd)]) (.seq .no .no))))) Tryz.func45 (fun (hp:(∀ k:Nat,(s.Slots.getD k default).Lines.length<=1048576)/\(∀ k:Nat,∀ k':Nat,((s.Slots.getD k default).Lines.getD k' default).size<=1048576))=>have hpre0:=hp.1; have hpre1:=hp.2; Qiy ((s.Slots.length:Int) != 2) false s.Live 0 1 (Qiy (bif ((s.Slots.length:Int) != 2) then true else (!(decide (0<=s.Live/\s.Live<=1)))) false s.Last 0 1000000 (ai (fun k3:(bif (bif ((s.Slots.length:Int) != 2) then true else (!(decide (0<=s.Live/\s.Live<=1)))) then true else (!(decide (0<=s.Last/\s.Last<=1000000))))=false=>have _:=bneF (orF1 (orF1 k3)); have _:=Qb (Uw (orF2 (orF1 k3))); have _:=Qb (Uw (orF2 k3)); (uu0:ib 0 s.Slots)) (kg77 (bif (bif ((s.Slots.length:Int) != 2) then true else (!(decide (0<=s.Live/\s.Live<=1)))) then true else (!(decide (0<=s.Last/\s.Last<=1000000)))) false s (s.Slots.getD (Int.toNat 0) default) (fun k4=>have _:=bneF (orF1 (orF1 k4)); have _:=Qb (Uw (orF2 (orF1 k4))); have _:=Qb (Uw (orF2 k4)); ⟨uu44,uu44⟩) (ai (fun k5:(bif (bif (bif ((s.Slots.length:Int) != 2) then true else (!(decide (0<=s.Live/\s.Live<=1)))) then true else (!(decide (0<=s.Last/\s.Last<=1000000)))) then true else (!(F77 s (s.Slots.getD (Int.toNat 0) default))))=false=>have _:=bneF (orF1 (orF1 (orF1 k5))); have _:=Qb (Uw (orF2 (orF1 (orF1 k5)))); have _:=Qb (Uw (orF2 (orF1 k5))); (uu0:ib 1 s.Slots)) (kg77 (bif (bif (bif ((s.Slots.length:Int) != 2) then true else (!(decide (0<=s.Live/\s.Live<=1)))) then true else (!(decide (0<=s.Last/\s.Last<=1000000)))) then true else (!(F77 s (s.Slots.getD (Int.toNat 0) default)))) false s (s.Slots.getD (Int.toNat 1) default) (fun k6=>have _:=bneF (orF1 (orF1 (orF1 k6))); have _:=Qb (Uw (orF2 (orF1 (orF1 k6)))); have _:=Qb (Uw (orF2 (orF1 k6))); ⟨uu44,uu44⟩) (ifb (bif (bif (bif (bif ((s.Slots.length:Int) != 2) then true else (!(decide (0<=s.Live/\s.Live<=1)))) then true else (!(decide (0<=s.Last/\s.Last<=1000000)))) then true else (!(F77 s (s.Slots.getD (Int.toNat 0) default)))) then true else (!(F77 s (s.Slots.getD (Int.toNat 1) default)))) (fun h7=>fiB false (F45 s) (condT h7 rfl)) (fun h7=>have _:=bneF (orF1 (orF1 (orF1 (orF1 h7)))); have _:=Qb (Uw (orF2 (orF1 (orF1 (orF1 h7))))); have _:=Qb (Uw (orF2 (orF1 (orF1 h7)))); ai (uu0:ib s.Live s.Slots) (ai (iok (1-s.Live) uu0) (ai (uu0:ib (1-s.Live) s.Slots) (fiB (bif (s.Slots.getD (Int.toNat s.Live) default).Whole then (bif (!(s.Slots.getD (Int.toNat s.Live) default).Trial) then true else (bif (bif (bif (s.Slots.getD (1-s.Live).toNat default).Whole then (!(s.Slots.getD (1-s.Live).toNat default).Trial) else false) then ((s.Slots.getD (Int.toNat s.Live) default).Edition==s.Last) else false) then decide ((s.Slots.getD (1-s.Live).toNat default).Edition<s.Last) else false)) else false) (F45 s) (condF h7 rfl)))))))))))) uu1
def Bz (b:ConfBox):Int->Lp Int Bool:=fun i40 =>
 bif (decide (i40<(b.Cands.length:Int))) then (bif (bif (bif (bif (bif (!(F28 (b.Cands.getD i40.toNat default).User)) then true else (!(decide (0<=(b.Cands.getD i40.toNat default).Base/\(b.Cands.getD i40.toNat default).Base<=b.Edition)))) then true else ((F23 (b.Cands.getD i40.toNat default).From) != 0)) then true else ((F23 (b.Cands.getD i40.toNat default).Lines) != 0)) then true else (bif decide (i40>0) then (!(Op.bytesLess (b.Cands.getD (i40-1).toNat default).User.toList (b.Cands.getD i40.toNat default).User.toList)) else false)) then (.ret false) else (.next (i40+1))) else (.done i40)
def F48 (b:ConfBox):Bool :=
 bif (decide ((b.Cands.length:Int)>3)) then false else ((runL (Bz b) (((b.Cands.length:Int)-0).toNat+1) 0).fin (fun r=>r) (fun i40=>true))
abbrev Qee (b:ConfBox):Nat×Int:=((((b.Cands.length:Int)-0).toNat+1),0)
abbrev Qtt (b:ConfBox) (m39:Nat) (i40:Int):Prop:=Int.toNat ((b.Cands.length:Int)-i40)<m39/\(0:Int)<=i40
abbrev Uct (b:ConfBox):Lp Int Bool:=LpX (Bz b) (Qee b)
abbrev Qeb (b:ConfBox) (i:Nat×Int):Prop:=LpJ (Bz b) (Qee b) i (Qtt b i.1 i.2)
abbrev Ufp (b:ConfBox) (i:Nat×Int) (m39:Nat) (i40:Int):Prop:=LpH (Bz b) (Qee b) i m39 i40 (Qtt b (m39+1) i40)
abbrev Ugr (b:ConfBox) (i40:Int) (i40_:Int) (K39:Prop):Prop:=((.int .i64 i40:Value)=.int .i64 i40_)/\(Rf (.int .i64 b.Edition))/\(Rf (.int .i64 b.Trial))/\(Im (.l 1 eStr b.Lines))/\(Im (.l 1 eStr b.Back))/\(Im (.l 4 Uj b.Cands))/\K39
theorem un48_0 (b:ConfBox) (i:Nat×Int) (h:Qeb b i):Ufp b i (i.1-1) i.2:=⟨hd1 h.1 h.2.1,hd3 h.2.1,hd2 h.2.1,h.2.2⟩
theorem bk48_0 (b:ConfBox) (i:Nat×Int) (m39:Nat) (i40:Int) (hl:m39<i.1) (e:runL (Bz b) m39 i40=Uct b) (h:Qtt b m39 i40):∃ j:Nat×Int,Ugr b i40 j.2 (Qeb b j/\j.1<i.1):=⟨(m39,i40),rfl,rfl,rfl,Imp.refl _,Imp.refl _,Imp.refl _,⟨e,h⟩,hl⟩
theorem en48_0 (b:ConfBox) (h:(0:Int)<=0):Ugr b 0 0 (Qeb b (Qee b)):=⟨rfl,rfl,rfl,Imp.refl _,Imp.refl _,Imp.refl _,rfl,Qn _,h⟩
def S48 (b:ConfBox):Spec:=⟨[.r (.g (Yk b))],.v (.bool (F48 b)),(∀ k:Nat,(b.Cands.getD k default).User.size<=1048576)/\(∀ k:Nat,(b.Cands.getD k default).From.length<=1048576)/\(∀ k:Nat,∀ k':Nat,((b.Cands.getD k default).From.getD k' default).size<=1048576)/\(∀ k:Nat,(b.Cands.getD k default).Lines.length<=1048576)/\(∀ k:Nat,∀ k':Nat,((b.Cands.getD k default).Lines.getD k' default).size<=1048576)⟩
abbrev Yw (b:ConfBox) (i40:Int):=(b.Cands.getD i40.toNat default)
theorem ok48 (b:ConfBox):(S48 b).ok Tryz.prog 48 :=
 Ue mixed (fn:=Tryz.f48) (ct:=.seq .no (.seq (.seq .no (.cond (.seq .no .no) .no)) (.seq (.seqk [(1,1),(1,3),(1,4)] .no (.blk (.loop (ι:=Nat×Int) (fun i=>(fun (i40:Int)=>(⟨[(1,some (.p 0 0)),(3,some (.v (vI i40)))],[(0,some (.box 43 [.v (vI b.Edition),.h 1 0,.v (vI b.Trial),.h 2 0,.h 3 0])),(1,some (.shr none (.l 1 eStr b.Lines))),(2,some (.shr none (.l 1 eStr b.Back))),(3,some (.shr none (.l 4 Uj b.Cands)))],4⟩:St)) i.2) (Qeb b) (fun i=>i.1) (Qee b) (fun i=>(fun (i40:Int)=>(.seq (.seq .no (.cond .no .no)) (.seq (.blk (.seq .no (.seq (.reg [(2,kh28 (Yw b i40).User),(9,Hk (Yw b i40).Base 0 b.Edition),(15,kh23 (Yw b i40).From),(21,kh23 (Yw b i40).Lines),(31,.bnd)]) (.cond (.seq .no .no) .no)))) (.reg [(1,.bnd)])))) i.2)))) (.seq .no .no)))) Tryz.func48 (fun (hp:(∀ k:Nat,(b.Cands.getD k default).User.size<=1048576)/\(∀ k:Nat,(b.Cands.getD k default).From.length<=1048576)/\(∀ k:Nat,∀ k':Nat,((b.Cands.getD k default).From.getD k' default).size<=1048576)/\(∀ k:Nat,(b.Cands.getD k default).Lines.length<=1048576)/\(∀ k:Nat,∀ k':Nat,((b.Cands.getD k default).Lines.getD k' default).size<=1048576))=>have hpre0:=hp.1; have hpre1:=hp.2.1; have hpre2:=hp.2.2.1; have hpre3:=hp.2.2.2.1; have hpre4:=hp.2.2.2.2; ifd ((b.Cands.length:Int)>3) (fun h1 _=>fiB false (F48 b) (condT h1 rfl)) (fun h1 _=>kn b.Lines fun _=>kn b.Back fun _=>kn b.Cands fun _=>ai (en48_0 b uu0) (fun (i0:Nat×Int) (hi0:Qeb b i0)=>(fun (m0:Nat) (i40:Int) (hh0:Ufp b i0 m0 i40)=>have hI0:=hh0.1; have hl0:=hh0.2.1; have _:=hh0.2.2.1; have _:=hh0.2.2.2; ifd (i40<(b.Cands.length:Int)) (fun h3 _=>ai (uu0:ib i40 b.Cands) (kc28 (Yw b i40).User uu18 (Qiy (!(F28 (Yw b i40).User)) false (Yw b i40).Base 0 b.Edition (kg23 (bif (!(F28 (Yw b i40).User)) then true else (!(decide (0<=(Yw b i40).Base/\(Yw b i40).Base<=b.Edition)))) false (Yw b i40).From (fun k5=>have _:=Qb (Uw (orF2 k5)); uu18) (kg23 (bif (bif (!(F28 (Yw b i40).User)) then true else (!(decide (0<=(Yw b i40).Base/\(Yw b i40).Base<=b.Edition)))) then true else ((F23 (Yw b i40).From) != 0)) false (Yw b i40).Lines (fun k6=>have _:=Qb (Uw (orF2 (orF1 k6))); have _:=bneF (orF2 k6); uu18) (ai (fun k8:(decide (i40>0))=true=>have _:=Qb k8; (fun k7:(bif (bif (bif (!(F28 (Yw b i40).User)) then true else (!(decide (0<=(Yw b i40).Base/\(Yw b i40).Base<=b.Edition)))) then true else ((F23 (Yw b i40).From) != 0)) then true else ((F23 (Yw b i40).Lines) != 0))=false=>have _:=Qb (Uw (orF2 (orF1 (orF1 k7)))); have _:=bneF (orF2 (orF1 k7)); have _:=bneF (orF2 k7); iok (i40-1) uu0)) (ai (fun k10:(decide (i40>0))=true=>have _:=Qb k10; (fun k9:(bif (bif (bif (!(F28 (Yw b i40).User)) then true else (!(decide (0<=(Yw b i40).Base/\(Yw b i40).Base<=b.Edition)))) then true else ((F23 (Yw b i40).From) != 0)) then true else ((F23 (Yw b i40).Lines) != 0))=false=>have _:=Qb (Uw (orF2 (orF1 (orF1 k9)))); have _:=bneF (orF2 (orF1 k9)); have _:=bneF (orF2 k9); (uu0:ib (i40-1) b.Cands))) (ifb (bif (bif (bif (bif (!(F28 (Yw b i40).User)) then true else (!(decide (0<=(Yw b i40).Base/\(Yw b i40).Base<=b.Edition)))) then true else ((F23 (Yw b i40).From) != 0)) then true else ((F23 (Yw b i40).Lines) != 0)) then true else (bif decide (i40>0) then (!(Op.bytesLess (b.Cands.getD (i40-1).toNat default).User.toList (Yw b i40).User.toList)) else false)) (fun h11=>fiB false (F48 b) (condF h1 (finR (Um hI0 (condT h3 (condT h11 rfl))) rfl))) (fun h11=>have _:=Qb (Uw (orF2 (orF1 (orF1 (orF1 h11))))); have _:=bneF (orF2 (orF1 (orF1 h11))); have _:=bneF (orF2 (orF1 h11)); ai (iok (i40+1) uu0) (bk48_0 b i0 m0 (i40+1) hl0 (Ud hI0 (condT h3 (condF h11 rfl))) uu5)))))))))) (fun h3 _=>have hD0_12:Uct b=Lp.done i40:=Uh hI0 (condF h3 rfl); fiB true (F48 b) (condF h1 (finD hD0_12 rfl)))) (i0.1-1) i0.2 (un48_0 b i0 hi0)))) uu1
theorem Qfz {s:ConfStore} {c:Bool} (hc:(bif (bif ((s.Slots.length:Int) != 2) then true else (!(decide (0<=s.Live/\s.Live<=1)))) then true else c)=false):0<=s.Live/\s.Live<=1/\s.Slots.length=2:=by
 simp only [Bool.cond_true_left,Bool.or_eq_false_iff,bne_eq_false_iff_eq,Bool.not_eq_false',Ry] at hc
 obtain ⟨⟨h1,h2⟩,_⟩:=hc
 omega
theorem Qbs {s:ConfStore} (h:(!F52 s)=false):0<=s.Live/\s.Live<=1/\s.Slots.length=2:=by
 unfold F52 at h
 cases hc:(bif (bif ((s.Slots.length:Int) != 2) then true else (!(decide (0<=s.Live/\s.Live<=1)))) then true else (!(decide (0<=s.Last/\s.Last<=1000000)))) with
 | true=>rw [hc] at h; cases h
 | false=>exact Qfz hc
theorem Qgt {s:ConfStore} (h:(!F45 s)=false):0<=s.Live/\s.Live<=1/\s.Slots.length=2:=by
 unfold F45 at h
 cases h1:(bif ((s.Slots.length:Int) != 2) then true else (!(decide (0<=s.Live/\s.Live<=1)))) with
 | true=>rw [h1] at h; cases h
 | false=>exact Qfz (c:=false) (by rw [h1]; rfl)
def Qck (s1:List Za) (s2:List Za):Int->Lp Int Bool:=fun v13 =>
 bif (decide (v13<(s1.length:Int))) then (bif (!((s1.getD v13.toNat default).toList==(s2.getD v13.toNat default).toList)) then (.ret false) else (.next (v13+1))) else (.done v13)
def F89 (s1:List Za) (s2:List Za):Bool :=
 bif ((s1.length:Int) != (s2.length:Int)) then false else ((runL (Qck s1 s2) (((s1.length:Int)-0).toNat+1) 0).fin (fun r=>r) (fun v13=>true))
abbrev Qgl (s1:List Za):Nat×Int:=((((s1.length:Int)-0).toNat+1),0)
abbrev Qsw (s1:List Za) (m39:Nat) (v13:Int):Prop:=Int.toNat ((s1.length:Int)-v13)<m39/\(0:Int)<=v13
abbrev Uia (s1:List Za) (s2:List Za):Lp Int Bool:=LpX (Qck s1 s2) (Qgl s1)
abbrev Qgv (s1:List Za) (s2:List Za) (i:Nat×Int):Prop:=LpJ (Qck s1 s2) (Qgl s1) i (Qsw s1 i.1 i.2)
abbrev Uio (s1:List Za) (s2:List Za) (i:Nat×Int) (m39:Nat) (v13:Int):Prop:=LpH (Qck s1 s2) (Qgl s1) i m39 v13 (Qsw s1 (m39+1) v13)
abbrev Ufk (s1:List Za) (s2:List Za) (v13:Int) (v13_:Int) (K39:Prop):Prop:=(Rf (.int .i64 (s1.length:Int)))/\((.int .i64 v13:Value)=.int .i64 v13_)/\(Im (.l 1 eStr s1))/\(Im (.l 1 eStr s2))/\K39
theorem un89_0 (s1:List Za) (s2:List Za) (i:Nat×Int) (h:Qgv s1 s2 i):Uio s1 s2 i (i.1-1) i.2:=⟨hd1 h.1 h.2.1,hd3 h.2.1,hd2 h.2.1,h.2.2⟩
theorem bk89_0 (s1:List Za) (s2:List Za) (i:Nat×Int) (m39:Nat) (v13:Int) (hl:m39<i.1) (e:runL (Qck s1 s2) m39 v13=Uia s1 s2) (h:Qsw s1 m39 v13):∃ j:Nat×Int,Ufk s1 s2 v13 j.2 (Qgv s1 s2 j/\j.1<i.1):=⟨(m39,v13),rfl,rfl,Imp.refl _,Imp.refl _,⟨e,h⟩,hl⟩
theorem en89_0 (s1:List Za) (s2:List Za) (h:(0:Int)<=0):Ufk s1 s2 0 0 (Qgv s1 s2 (Qgl s1)):=⟨rfl,rfl,Imp.refl _,Imp.refl _,rfl,Qn _,h⟩
def S89 (s1:List Za) (s2:List Za):Spec:=⟨[.r (.c (.l 1 eStr s1)),.r (.c (.l 1 eStr s2))],.v (.bool (F89 s1 s2)),True⟩
theorem ok89 (s1:List Za) (s2:List Za):(S89 s1 s2).ok Tryz.prog 89 :=
 Ue mixed (fn:=Tryz.f89) (ct:=.seqk [(0,0),(1,0)] .no (.seq (.seq .no (.cond (.seq .no .no) .no)) (.seq (.seqk [(0,0),(1,0)] .no (.blk (.loop (ι:=Nat×Int) (fun i=>(fun (v13:Int)=>(⟨[(0,some (.h 0 0)),(1,some (.h 1 0)),(12,some (.v (vI (s1.length:Int)))),(13,some (.v (vI v13)))],[(0,some (.shr none (.l 1 eStr s1))),(1,some (.shr none (.l 1 eStr s2)))],2⟩:St)) i.2) (Qgv s1 s2) (fun i=>i.1) (Qgl s1) (fun i=>(fun (v13:Int)=>(.seq .no (.seq (.cond .no .no) (.seq (.blk (.seq .no (.seq .no (.cond (.seq .no .no) .no)))) (.reg [(0,.bnd)]))))) i.2)))) (.seq .no .no)))) Tryz.func89 (fun (_:True)=>kn s1 fun _=>kn s2 fun _=>ifn (s1.length:Int) (s2.length:Int) (fun h1 _=>fiB false (F89 s1 s2) (condT h1 rfl)) (fun h1 _=>kn s1 fun _=>kn s2 fun _=>ai (en89_0 s1 s2 uu0) (fun (i0:Nat×Int) (hi0:Qgv s1 s2 i0)=>(fun (m0:Nat) (v13:Int) (hh0:Uio s1 s2 i0 m0 v13)=>have hI0:=hh0.1; have hl0:=hh0.2.1; have _:=hh0.2.2.1; have _:=hh0.2.2.2; ifd (v13<(s1.length:Int)) (fun h3 _=>ai (uu0:ib v13 s1) (ai (uu0:ib v13 s2) (ifb (!((s1.getD v13.toNat default).toList==(s2.getD v13.toNat default).toList)) (fun h4=>fiB false (F89 s1 s2) (condF h1 (finR (Um hI0 (condT h3 (condT h4 rfl))) rfl))) (fun h4=>ai (iok (v13+1) uu0) (bk89_0 s1 s2 i0 m0 (v13+1) hl0 (Ud hI0 (condT h3 (condF h4 rfl))) uu5))))) (fun h3 _=>have hD0_5:Uia s1 s2=Lp.done v13:=Uh hI0 (condF h3 rfl); fiB true (F89 s1 s2) (condF h1 (finD hD0_5 rfl)))) (i0.1-1) i0.2 (un89_0 s1 s2 i0 hi0)))) uu1
theorem kg85 {K_:Prop} (c_ b_:Bool) (lines:List Za) (p_:c_=b_->lines.length<=1048576/\(∀ k:Nat,(lines.getD k default).size<=1048576)) (k_:K_):(c_=b_->lines.length<=1048576/\(∀ k:Nat,(lines.getD k default).size<=1048576))/\(c_=b_->Imp (.l 1 eStr lines) (.l 1 eStr lines))/\K_:=⟨p_,fun _=>Imp.refl _,k_⟩
theorem kc90 (s:ConfStore) (edition:Int) {K_:Prop} (p0_:0<=s.Live) (p1_:s.Live<=1) (p2_:s.Slots.length=2) (k_:K_):(0<=s.Live/\s.Live<=1/\s.Slots.length=2)/\(Imps (Ug s) (Ug s))/\(Imp (.v (vI edition)) (.v (vI edition)))/\K_:=⟨⟨p0_,p1_,p2_⟩,Imps.refl _,Imp.refl _,k_⟩
abbrev kh90f (s:ConfStore) (edition:Int):Hint false Tryz.prog:=.call 90 (S90 s edition) ((ok90 s edition).to false) none
theorem kc89 (s1:List Za) (s2:List Za) {K_:Prop} (k_:K_):(True)/\(Imp (.l 1 eStr s1) (.l 1 eStr s1))/\(Imp (.l 1 eStr s2) (.l 1 eStr s2))/\K_:=⟨trivial,Imp.refl _,Imp.refl _,k_⟩
theorem kg89 {K_:Prop} (c_ b_:Bool) (s1:List Za) (s2:List Za) (k_:K_):(c_=b_->True)/\(c_=b_->Imp (.l 1 eStr s1) (.l 1 eStr s1))/\(c_=b_->Imp (.l 1 eStr s2) (.l 1 eStr s2))/\K_:=⟨fun _=>trivial,fun _=>Imp.refl _,fun _=>Imp.refl _,k_⟩
abbrev Qkl (s1:List Za) (s2:List Za):Hint false Tryz.prog:=.call 89 (S89 s1 s2) ((ok89 s1 s2).to false) none
def F91 (s:ConfStore):Bool :=
 bif (bif (bif (bif (bif (bif (s.Job.Kind != 1) then true else ((F85 s.Job.Lines) != 0)) then true else (!(decide (0<=s.Job.Ticks/\s.Job.Ticks<=9)))) then true else (s.Job.Edition != (IntKind.i64.wrap (s.Box.Edition+1)))) then true else decide (s.Job.Edition>1000000)) then true else (!(decide (0<=s.Job.Step/\s.Job.Step<=((s.Job.Lines.length:Int)+2))))) then false else (bif (s.Job.Step==0) then (F90 s s.Box.Edition) else (bif (s.Job.Edition != s.Last) then false else (bif (s.Job.Step==((s.Job.Lines.length:Int)+2)) then (bif (bif (bif (F87 s).Whole then ((F87 s).Edition==s.Job.Edition) else false) then (F89 (F87 s).Lines s.Job.Lines) else false) then ((F87 s).Trial==decide (s.Job.Ticks>0)) else false) else (bif (!(F87 s).Whole) then (F89 (F87 s).Lines (s.Job.Lines.take (s.Job.Step-1).toNat)) else false))))
def S91 (s:ConfStore):Spec:=⟨[.rp (Ug s)],.v (.bool (F91 s)),0<=s.Live/\s.Live<=1/\s.Slots.length=2/\s.Job.Lines.length<=1048576/\(∀ k:Nat,(s.Job.Lines.getD k default).size<=1048576)⟩
theorem ok91 (s:ConfStore):(S91 s).ok Tryz.prog 91 false :=
 Ue mixed (fn:=Tryz.f91) (ct:=.seqk [(0,2),(0,4),(0,5),(0,6),(0,13)] .no (.seq .no (.seq (.seq (.reg [(6,kh85 s.Job.Lines),(12,Vc s.Job.Ticks 0 9),(35,.bnd),(36,Vc s.Job.Step 0 ((s.Job.Lines.length:Int)+2))]) (.cond (.seq .no .no) .no)) (.seq (.seq .no (.cond (.seq (.reg [(6,kh90f s s.Box.Edition)]) .no) .no)) (.seq (.reg [(1,.cm 87 (S87 s) ((ok87 s).to false))]) (.seq (.seq .no (.cond (.seq .no .no) .no)) (.seq (.seq (.reg [(3,.bnd)]) (.cond (.seq (.reg [(20,Qkl (F87 s).Lines s.Job.Lines)]) .no) .no)) (.seq (.reg [(14,.bnd),(16,Qkl (F87 s).Lines (s.Job.Lines.take (s.Job.Step-1).toNat))]) .no)))))))) Tryz.func91 (fun (hp:0<=s.Live/\s.Live<=1/\s.Slots.length=2/\s.Job.Lines.length<=1048576/\(∀ k:Nat,(s.Job.Lines.getD k default).size<=1048576))=>have hpre0:=hp.1; have hpre1:=hp.2.1; have hpre2:=hp.2.2.1; have hpre3:=hp.2.2.2.1; have hpre4:=hp.2.2.2.2; kn s.Box.Lines fun _=>kn s.Box.Back fun _=>kn s.Box.Cands fun _=>kn s.Slots fun _=>kn s.Job.Lines fun _=>kg85 (s.Job.Kind != 1) false s.Job.Lines (fun k1=>have _:=bneF k1; ⟨uu6,uu6⟩) (Mm (bif (s.Job.Kind != 1) then true else ((F85 s.Job.Lines) != 0)) false s.Job.Ticks 0 9 (ai (fun k3:(bif (bif (bif (bif (s.Job.Kind != 1) then true else ((F85 s.Job.Lines) != 0)) then true else (!(decide (0<=s.Job.Ticks/\s.Job.Ticks<=9)))) then true else (s.Job.Edition != (IntKind.i64.wrap (s.Box.Edition+1)))) then true else decide (s.Job.Edition>1000000))=false=>have _:=bneF (orF1 (orF1 (orF1 (orF1 k3)))); have _:=bneF (orF2 (orF1 (orF1 (orF1 k3)))); have _:=Qb (Uw (orF2 (orF1 (orF1 k3)))); have _:=bneF (orF2 (orF1 k3)); have _:=Qp (orF2 k3); iok ((s.Job.Lines.length:Int)+2) uu3) (Mm (bif (bif (bif (bif (s.Job.Kind != 1) then true else ((F85 s.Job.Lines) != 0)) then true else (!(decide (0<=s.Job.Ticks/\s.Job.Ticks<=9)))) then true else (s.Job.Edition != (IntKind.i64.wrap (s.Box.Edition+1)))) then true else decide (s.Job.Edition>1000000)) false s.Job.Step 0 ((s.Job.Lines.length:Int)+2) (ifb (bif (bif (bif (bif (bif (s.Job.Kind != 1) then true else ((F85 s.Job.Lines) != 0)) then true else (!(decide (0<=s.Job.Ticks/\s.Job.Ticks<=9)))) then true else (s.Job.Edition != (IntKind.i64.wrap (s.Box.Edition+1)))) then true else decide (s.Job.Edition>1000000)) then true else (!(decide (0<=s.Job.Step/\s.Job.Step<=((s.Job.Lines.length:Int)+2))))) (fun h5=>fiB false (F91 s) (condT h5 rfl)) (fun h5=>have _:=bneF (orF1 (orF1 (orF1 (orF1 (orF1 h5))))); have _:=bneF (orF2 (orF1 (orF1 (orF1 (orF1 h5))))); have _:=Qb (Uw (orF2 (orF1 (orF1 (orF1 h5))))); have _:=bneF (orF2 (orF1 (orF1 h5))); have _:=Qp (orF2 (orF1 h5)); have _:=Qb (Uw (orF2 h5)); ife s.Job.Step 0 (fun h6 _=>kc90 s s.Box.Edition uu3 uu3 uu3 (fiB (F90 s s.Box.Edition) (F91 s) (condF h5 (condT h6 rfl)))) (fun h6 _=>ai (ai (uu3:0<=s.Live) (ai (uu3:s.Live<=1) (uu3:s.Slots.length=2))) (ai (Imps.refl (Ug s)) (ifn s.Job.Edition s.Last (fun h7 _=>fiB false (F91 s) (condF h5 (condF h6 (condT h7 rfl)))) (fun h7 _=>ai (iok ((s.Job.Lines.length:Int)+2) uu3) (ife s.Job.Step ((s.Job.Lines.length:Int)+2) (fun h8 _=>kg89 (bif (F87 s).Whole then ((F87 s).Edition==s.Job.Edition) else false) true (F87 s).Lines s.Job.Lines (fiB (bif (bif (bif (F87 s).Whole then ((F87 s).Edition==s.Job.Edition) else false) then (F89 (F87 s).Lines s.Job.Lines) else false) then ((F87 s).Trial==decide (s.Job.Ticks>0)) else false) (F91 s) (condF h5 (condF h6 (condF h7 (condT h8 rfl)))))) (fun h8 _=>ai (fun k10:(!(F87 s).Whole)=true=>have _:=(Yq k10); iok (s.Job.Step-1) uu3) (ai (fun k11:(!(F87 s).Whole)=true=>have _:=(Yq k11); (uu3:0<=(0:Int)/\(0:Int)<=(s.Job.Step-1)/\(s.Job.Step-1)<=(s.Job.Lines.length:Int))) (kg89 (!(F87 s).Whole) true (F87 s).Lines (s.Job.Lines.take (s.Job.Step-1).toNat) (fiB (bif (!(F87 s).Whole) then (F89 (F87 s).Lines (s.Job.Lines.take (s.Job.Step-1).toNat)) else false) (F91 s) (condF h5 (condF h6 (condF h7 (condF h8 rfl))))))))))))))))))) uu1
theorem kg53 {K_:Prop} (c_ b_:Bool) (j1:ConfJob) (kind:Int) (k_:K_):(c_=b_->True)/\(c_=b_->Imps (Ya j1) (Ya j1))/\(c_=b_->Imp (.v (vI kind)) (.v (vI kind)))/\K_:=⟨fun _=>trivial,fun _=>Imps.refl _,fun _=>Imp.refl _,k_⟩
abbrev Qof (j1:ConfJob) (kind:Int):Hint false Tryz.prog:=.call 53 (S53 j1 kind) ((ok53 j1 kind).to false) none
abbrev kh91 (s:ConfStore):Hint false Tryz.prog:=.call 91 (S91 s) (ok91 s) none
def F55 (s:ConfStore):Bool :=
 bif (s.Box.Trial != 0) then (bif (bif (bif (bif (bif (decide (1<=s.Box.Trial/\s.Box.Trial<=9)) then (F86 s).Trial else false) then (F89 (F86 s).Lines s.Box.Lines) else false) then (F89 (F87 s).Lines s.Box.Back) else false) then (s.Box.Edition==s.Last) else false) then (bif (F53 s.Job 0) then true else (F53 s.Job 2)) else false) else (bif (decide ((s.Box.Back.length:Int)>0)) then false else (bif (F86 s).Trial then (bif (bif (F89 (F87 s).Lines s.Box.Lines) then (s.Box.Edition==(IntKind.i64.wrap (s.Last+1))) else false) then (F53 s.Job 3) else false) else (bif (F89 (F86 s).Lines s.Box.Lines) then (bif (bif (F53 s.Job 0) then (F90 s s.Box.Edition) else false) then true else (F91 s)) else false)))
def S55 (s:ConfStore):Spec:=⟨[.rp (Ug s)],.v (.bool (F55 s)),0<=s.Live/\s.Live<=1/\s.Slots.length=2/\s.Job.Lines.length<=1048576/\(∀ k:Nat,(s.Job.Lines.getD k default).size<=1048576)⟩
abbrev Bn (s:ConfStore):=(F89 (F86 s).Lines s.Box.Lines)
theorem ok55 (s:ConfStore):(S55 s).ok Tryz.prog 55 false :=
 Ue mixed (fn:=Tryz.f55) (ct:=.seqk [(0,2),(0,4),(0,5),(0,6),(0,13)] .no (.seq .no (.seq (.reg [(1,.cm 86 (S86 s) ((ok86 s).to false)),(3,.cm 87 (S87 s) ((ok87 s).to false))]) (.seq (.seq .no (.cond (.seq (.reg [(2,Vc s.Box.Trial 1 9),(16,Qkl (F86 s).Lines s.Box.Lines),(25,Qkl (F87 s).Lines s.Box.Back),(41,Qof s.Job 0),(47,Qof s.Job 2)]) .no) .no)) (.seq (.seq .no (.cond (.seq .no .no) .no)) (.seq (.seq .no (.cond (.seq (.reg [(6,Qkl (F87 s).Lines s.Box.Lines),(22,Qof s.Job 3)]) .no) .no)) (.seq (.reg [(6,Qkl (F86 s).Lines s.Box.Lines),(12,Qof s.Job 0),(17,kh90f s s.Box.Edition),(21,kh91 s)]) .no))))))) Tryz.func55 (fun (hp:0<=s.Live/\s.Live<=1/\s.Slots.length=2/\s.Job.Lines.length<=1048576/\(∀ k:Nat,(s.Job.Lines.getD k default).size<=1048576))=>have hpre0:=hp.1; have hpre1:=hp.2.1; have hpre2:=hp.2.2.1; have hpre3:=hp.2.2.2.1; have hpre4:=hp.2.2.2.2; kn s.Box.Lines fun _=>kn s.Box.Back fun _=>kn s.Box.Cands fun _=>kn s.Slots fun _=>kn s.Job.Lines fun _=>ai (ai (uu0:0<=s.Live) (ai (uu0:s.Live<=1) (uu0:s.Slots.length=2))) (ai (Imps.refl (Ug s)) (ai (ai (uu0:0<=s.Live) (ai (uu0:s.Live<=1) (uu0:s.Slots.length=2))) (ai (Imps.refl (Ug s)) (ifn s.Box.Trial 0 (fun h1 _=>Qis s.Box.Trial 1 9 (kg89 (bif (decide (1<=s.Box.Trial/\s.Box.Trial<=9)) then (F86 s).Trial else false) true (F86 s).Lines s.Box.Lines (kg89 (bif (bif (decide (1<=s.Box.Trial/\s.Box.Trial<=9)) then (F86 s).Trial else false) then (Bn s) else false) true (F87 s).Lines s.Box.Back (kg53 (bif (bif (bif (bif (decide (1<=s.Box.Trial/\s.Box.Trial<=9)) then (F86 s).Trial else false) then (Bn s) else false) then (F89 (F87 s).Lines s.Box.Back) else false) then (s.Box.Edition==s.Last) else false) true s.Job 0 (ai (fun k6:(F53 s.Job 0)=false=>(fun k5:(bif (bif (bif (bif (decide (1<=s.Box.Trial/\s.Box.Trial<=9)) then (F86 s).Trial else false) then (Bn s) else false) then (F89 (F87 s).Lines s.Box.Back) else false) then (s.Box.Edition==s.Last) else false)=true=>have _:=Qb (Uc (Uc (Uc (Uc k5)))); have _:=(Ut (Uc (Uc (Uc k5)))); have _:=eq_of_beq (Ut k5); trivial)) (ai (fun k8:(F53 s.Job 0)=false=>(fun k7:(bif (bif (bif (bif (decide (1<=s.Box.Trial/\s.Box.Trial<=9)) then (F86 s).Trial else false) then (Bn s) else false) then (F89 (F87 s).Lines s.Box.Back) else false) then (s.Box.Edition==s.Last) else false)=true=>have _:=Qb (Uc (Uc (Uc (Uc k7)))); have _:=(Ut (Uc (Uc (Uc k7)))); have _:=eq_of_beq (Ut k7); (Imps.refl (Ya s.Job)))) (ai (fun k10:(F53 s.Job 0)=false=>(fun k9:(bif (bif (bif (bif (decide (1<=s.Box.Trial/\s.Box.Trial<=9)) then (F86 s).Trial else false) then (Bn s) else false) then (F89 (F87 s).Lines s.Box.Back) else false) then (s.Box.Edition==s.Last) else false)=true=>have _:=Qb (Uc (Uc (Uc (Uc k9)))); have _:=(Ut (Uc (Uc (Uc k9)))); have _:=eq_of_beq (Ut k9); (Imp.refl (.v (vI 2))))) (fiB (bif (bif (bif (bif (bif (decide (1<=s.Box.Trial/\s.Box.Trial<=9)) then (F86 s).Trial else false) then (Bn s) else false) then (F89 (F87 s).Lines s.Box.Back) else false) then (s.Box.Edition==s.Last) else false) then (bif (F53 s.Job 0) then true else (F53 s.Job 2)) else false) (F55 s) (condT h1 rfl))))))))) (fun h1 _=>ifd ((s.Box.Back.length:Int)>0) (fun h11 _=>fiB false (F55 s) (condF h1 (condT h11 rfl))) (fun h11 _=>ifb (F86 s).Trial (fun h12=>kc89 (F87 s).Lines s.Box.Lines (kg53 (bif (F89 (F87 s).Lines s.Box.Lines) then (s.Box.Edition==(IntKind.i64.wrap (s.Last+1))) else false) true s.Job 3 (fiB (bif (bif (F89 (F87 s).Lines s.Box.Lines) then (s.Box.Edition==(IntKind.i64.wrap (s.Last+1))) else false) then (F53 s.Job 3) else false) (F55 s) (condF h1 (condF h11 (condT h12 rfl)))))) (fun h12=>kc89 (F86 s).Lines s.Box.Lines (kg53 (Bn s) true s.Job 0 (ai (fun k16:(F53 s.Job 0)=true=>(fun k15:(Bn s)=true=>(ai (uu0:0<=s.Live) (ai (uu0:s.Live<=1) (uu0:s.Slots.length=2))))) (ai (fun k18:(F53 s.Job 0)=true=>(fun k17:(Bn s)=true=>(Imps.refl (Ug s)))) (ai (fun k20:(F53 s.Job 0)=true=>(fun k19:(Bn s)=true=>(Imp.refl (.v (vI s.Box.Edition))))) (ai (fun k22:(bif (F53 s.Job 0) then (F90 s s.Box.Edition) else false)=false=>(fun k21:(Bn s)=true=>(ai (uu12:0<=s.Live) (ai (uu12:s.Live<=1) (ai (uu12:s.Slots.length=2) (ai (uu12:s.Job.Lines.length<=1048576) (uu12:∀ k:Nat,(s.Job.Lines.getD k default).size<=1048576))))))) (ai (fun k24:(bif (F53 s.Job 0) then (F90 s s.Box.Edition) else false)=false=>(fun k23:(Bn s)=true=>(Imps.refl (Ug s)))) (fiB (bif (Bn s) then (bif (bif (F53 s.Job 0) then (F90 s s.Box.Edition) else false) then true else (F91 s)) else false) (F55 s) (condF h1 (condF h11 (condF h12 rfl)))))))))))))))))) uu1
theorem kc52 (s:ConfStore) {K_:Prop} (p0_:∀ k:Nat,(s.Slots.getD k default).Lines.length<=1048576) (p1_:∀ k:Nat,∀ k':Nat,((s.Slots.getD k default).Lines.getD k' default).size<=1048576) (k_:K_):((∀ k:Nat,(s.Slots.getD k default).Lines.length<=1048576)/\(∀ k:Nat,∀ k':Nat,((s.Slots.getD k default).Lines.getD k' default).size<=1048576))/\(Imps (Ug s) (Ug s))/\K_:=⟨⟨p0_,p1_⟩,Imps.refl _,k_⟩
abbrev kh52 (s:ConfStore):Hint false Tryz.prog:=.call 52 (S52 s) (ok52 s) none
theorem kc54 (b:ConfBox) {K_:Prop} (p0_:∀ k:Nat,(b.Cands.getD k default).User.size<=1048576) (p1_:∀ k:Nat,(b.Cands.getD k default).From.length<=1048576) (p2_:∀ k:Nat,∀ k':Nat,((b.Cands.getD k default).From.getD k' default).size<=1048576) (p3_:∀ k:Nat,(b.Cands.getD k default).Lines.length<=1048576) (p4_:∀ k:Nat,∀ k':Nat,((b.Cands.getD k default).Lines.getD k' default).size<=1048576) (k_:K_):((∀ k:Nat,(b.Cands.getD k default).User.size<=1048576)/\(∀ k:Nat,(b.Cands.getD k default).From.length<=1048576)/\(∀ k:Nat,∀ k':Nat,((b.Cands.getD k default).From.getD k' default).size<=1048576)/\(∀ k:Nat,(b.Cands.getD k default).Lines.length<=1048576)/\(∀ k:Nat,∀ k':Nat,((b.Cands.getD k default).Lines.getD k' default).size<=1048576))/\(Imps (Yk b) (Yk b))/\K_:=⟨⟨p0_,p1_,p2_,p3_,p4_⟩,Imps.refl _,k_⟩
abbrev kh54 (b:ConfBox):Hint false Tryz.prog:=.call 54 (S54 b) (ok54 b) none
theorem kg55 {K_:Prop} (c_ b_:Bool) (s:ConfStore) (p_:c_=b_->0<=s.Live/\s.Live<=1/\s.Slots.length=2/\s.Job.Lines.length<=1048576/\(∀ k:Nat,(s.Job.Lines.getD k default).size<=1048576)) (k_:K_):(c_=b_->0<=s.Live/\s.Live<=1/\s.Slots.length=2/\s.Job.Lines.length<=1048576/\(∀ k:Nat,(s.Job.Lines.getD k default).size<=1048576))/\(c_=b_->Imps (Ug s) (Ug s))/\K_:=⟨p_,fun _=>Imps.refl _,k_⟩
abbrev kh55 (s:ConfStore):Hint false Tryz.prog:=.call 55 (S55 s) (ok55 s) none
def F21 (s:ConfStore):Bool :=
 bif (!(F52 s)) then false else (bif (!s.Up) then (bif (bif (bif (bif (bif (s.Box.Edition==0) then ((s.Box.Lines.length:Int)==0) else false) then (s.Box.Trial==0) else false) then ((s.Box.Back.length:Int)==0) else false) then ((s.Box.Cands.length:Int)==0) else false) then (F53 s.Job 0) else false) else (bif (F54 s.Box) then (F55 s) else false))
def S21 (s:ConfStore):Spec:=⟨[.r (.g (Ug s))],.v (.bool (F21 s)),(∀ k:Nat,(s.Slots.getD k default).Lines.length<=1048576)/\(∀ k:Nat,∀ k':Nat,((s.Slots.getD k default).Lines.getD k' default).size<=1048576)/\s.Job.Lines.length<=1048576/\(∀ k:Nat,(s.Job.Lines.getD k default).size<=1048576)/\(∀ k:Nat,(s.Box.Cands.getD k default).User.size<=1048576)/\(∀ k:Nat,(s.Box.Cands.getD k default).From.length<=1048576)/\(∀ k:Nat,∀ k':Nat,((s.Box.Cands.getD k default).From.getD k' default).size<=1048576)/\(∀ k:Nat,(s.Box.Cands.getD k default).Lines.length<=1048576)/\(∀ k:Nat,∀ k':Nat,((s.Box.Cands.getD k default).Lines.getD k' default).size<=1048576)⟩
theorem ok21 (s:ConfStore):(S21 s).ok Tryz.prog 21 false :=
 Ue mixed (fn:=Tryz.f21) (ct:=.seq .no (.seq (.seq (.reg [(0,kh52 s)]) (.cond (.seq .no .no) .no)) (.seq (.seq .no (.cond (.seq .no (.seq (.reg [(29,Qof s.Job 0)]) .no)) .no)) (.seq (.reg [(2,kh54 s.Box),(4,kh55 s)]) .no)))) Tryz.func21 (fun (hp:(∀ k:Nat,(s.Slots.getD k default).Lines.length<=1048576)/\(∀ k:Nat,∀ k':Nat,((s.Slots.getD k default).Lines.getD k' default).size<=1048576)/\s.Job.Lines.length<=1048576/\(∀ k:Nat,(s.Job.Lines.getD k default).size<=1048576)/\(∀ k:Nat,(s.Box.Cands.getD k default).User.size<=1048576)/\(∀ k:Nat,(s.Box.Cands.getD k default).From.length<=1048576)/\(∀ k:Nat,∀ k':Nat,((s.Box.Cands.getD k default).From.getD k' default).size<=1048576)/\(∀ k:Nat,(s.Box.Cands.getD k default).Lines.length<=1048576)/\(∀ k:Nat,∀ k':Nat,((s.Box.Cands.getD k default).Lines.getD k' default).size<=1048576))=>have hpre0:=hp.1; have hpre1:=hp.2.1; have hpre2:=hp.2.2.1; have hpre3:=hp.2.2.2.1; have hpre4:=hp.2.2.2.2.1; have hpre5:=hp.2.2.2.2.2.1; have hpre6:=hp.2.2.2.2.2.2.1; have hpre7:=hp.2.2.2.2.2.2.2.1; have hpre8:=hp.2.2.2.2.2.2.2.2; kc52 s uu6 uu6 (ifb (!(F52 s)) (fun h1=>fiB false (F21 s) (condT h1 rfl)) (fun h1=>ifb (!s.Up) (fun h2=>have _:=(Yq h2); kg53 (bif (bif (bif (bif (s.Box.Edition==0) then ((s.Box.Lines.length:Int)==0) else false) then (s.Box.Trial==0) else false) then ((s.Box.Back.length:Int)==0) else false) then ((s.Box.Cands.length:Int)==0) else false) true s.Job 0 (fiB (bif (bif (bif (bif (bif (s.Box.Edition==0) then ((s.Box.Lines.length:Int)==0) else false) then (s.Box.Trial==0) else false) then ((s.Box.Back.length:Int)==0) else false) then ((s.Box.Cands.length:Int)==0) else false) then (F53 s.Job 0) else false) (F21 s) (condF h1 (condT h2 rfl)))) (fun h2=>have _:=(Uw h2); kc54 s.Box uu6 uu6 uu6 uu6 uu6 (kg55 (F54 s.Box) true s (fun k4=>⟨uu34,uu34,uu34,uu34,uu34⟩) (fiB (bif (F54 s.Box) then (F55 s) else false) (F21 s) (condF h1 (condF h2 rfl)))))))) uu1
def Qch (a:List Za) (b:List Za):Int->Lp Int Bool:=fun i40 =>
 bif (decide (i40<(a.length:Int))) then (bif (!((a.getD i40.toNat default).toList==(b.getD i40.toNat default).toList)) then (.ret false) else (.next (i40+1))) else (.done i40)
def F78 (a:List Za) (b:List Za):Bool :=
 bif ((a.length:Int) != (b.length:Int)) then false else ((runL (Qch a b) (((a.length:Int)-0).toNat+1) 0).fin (fun r=>r) (fun i40=>true))
abbrev Qfw (a:List Za):Nat×Int:=((((a.length:Int)-0).toNat+1),0)
abbrev Qrp (a:List Za) (m39:Nat) (i40:Int):Prop:=Int.toNat ((a.length:Int)-i40)<m39/\(0:Int)<=i40
abbrev Uhr (a:List Za) (b:List Za):Lp Int Bool:=LpX (Qch a b) (Qfw a)
abbrev Qgu (a:List Za) (b:List Za) (i:Nat×Int):Prop:=LpJ (Qch a b) (Qfw a) i (Qrp a i.1 i.2)
abbrev Udb (a:List Za) (b:List Za) (i:Nat×Int) (m39:Nat) (i40:Int):Prop:=LpH (Qch a b) (Qfw a) i m39 i40 (Qrp a (m39+1) i40)
abbrev Ubg (a:List Za) (b:List Za) (i40:Int) (i40_:Int) (K39:Prop):Prop:=((.int .i64 i40:Value)=.int .i64 i40_)/\(Im (.l 1 eStr a))/\(Im (.l 1 eStr b))/\K39
theorem un78_0 (a:List Za) (b:List Za) (i:Nat×Int) (h:Qgu a b i):Udb a b i (i.1-1) i.2:=⟨hd1 h.1 h.2.1,hd3 h.2.1,hd2 h.2.1,h.2.2⟩
theorem bk78_0 (a:List Za) (b:List Za) (i:Nat×Int) (m39:Nat) (i40:Int) (hl:m39<i.1) (e:runL (Qch a b) m39 i40=Uhr a b) (h:Qrp a m39 i40):∃ j:Nat×Int,Ubg a b i40 j.2 (Qgu a b j/\j.1<i.1):=⟨(m39,i40),rfl,Imp.refl _,Imp.refl _,⟨e,h⟩,hl⟩
theorem en78_0 (a:List Za) (b:List Za) (h:(0:Int)<=0):Ubg a b 0 0 (Qgu a b (Qfw a)):=⟨rfl,Imp.refl _,Imp.refl _,rfl,Qn _,h⟩
def S78 (a:List Za) (b:List Za):Spec:=⟨[.r (.c (.l 1 eStr a)),.r (.c (.l 1 eStr b))],.v (.bool (F78 a b)),True⟩
theorem ok78 (a:List Za) (b:List Za):(S78 a b).ok Tryz.prog 78 :=
 Ue mixed (fn:=Tryz.f78) (ct:=.seqk [(0,0),(1,0)] .no (.seq (.seq .no (.cond (.seq .no .no) .no)) (.seq (.seqk [(0,0),(1,0)] .no (.blk (.loop (ι:=Nat×Int) (fun i=>(fun (i40:Int)=>(⟨[(0,some (.h 0 0)),(1,some (.h 1 0)),(5,some (.v (vI i40)))],[(0,some (.shr none (.l 1 eStr a))),(1,some (.shr none (.l 1 eStr b)))],2⟩:St)) i.2) (Qgu a b) (fun i=>i.1) (Qfw a) (fun i=>(fun (i40:Int)=>(.seq (.seq .no (.cond .no .no)) (.seq (.blk (.seq .no (.cond (.seq .no .no) .no))) (.reg [(1,.bnd)])))) i.2)))) (.seq .no .no)))) Tryz.func78 (fun (_:True)=>kn a fun _=>kn b fun _=>ifn (a.length:Int) (b.length:Int) (fun h1 _=>fiB false (F78 a b) (condT h1 rfl)) (fun h1 _=>kn a fun _=>kn b fun _=>ai (en78_0 a b uu0) (fun (i0:Nat×Int) (hi0:Qgu a b i0)=>(fun (m0:Nat) (i40:Int) (hh0:Udb a b i0 m0 i40)=>have hI0:=hh0.1; have hl0:=hh0.2.1; have _:=hh0.2.2.1; have _:=hh0.2.2.2; ifd (i40<(a.length:Int)) (fun h3 _=>ai (uu0:ib i40 a) (ai (uu0:ib i40 b) (ifb (!((a.getD i40.toNat default).toList==(b.getD i40.toNat default).toList)) (fun h4=>fiB false (F78 a b) (condF h1 (finR (Um hI0 (condT h3 (condT h4 rfl))) rfl))) (fun h4=>ai (iok (i40+1) uu0) (bk78_0 a b i0 m0 (i40+1) hl0 (Ud hI0 (condT h3 (condF h4 rfl))) uu5))))) (fun h3 _=>have hD0_5:Uhr a b=Lp.done i40:=Uh hI0 (condF h3 rfl); fiB true (F78 a b) (condF h1 (finD hD0_5 rfl)))) (i0.1-1) i0.2 (un78_0 a b i0 hi0)))) uu1
def F46 (j1:ConfJob):Bool :=
 (bif (bif (bif (bif (j1.Kind==0) then (j1.Step==0) else false) then (j1.Edition==0) else false) then (j1.Ticks==0) else false) then ((j1.Lines.length:Int)==0) else false)
def S46 (j1:ConfJob):Spec:=⟨[.r (.g (Ya j1))],.v (.bool (F46 j1)),True⟩
theorem ok46 (j1:ConfJob):(S46 j1).ok Tryz.prog 46 :=
 Ue mixed (fn:=Tryz.f46) (ct:=.seq .no (.seq .no .no)) Tryz.func46 (fun (_:True)=>fiB (bif (bif (bif (bif (j1.Kind==0) then (j1.Step==0) else false) then (j1.Edition==0) else false) then (j1.Ticks==0) else false) then ((j1.Lines.length:Int)==0) else false) (F46 j1) rfl) uu1
def F79 (j1:ConfJob) (kind:Int):Bool :=
 (bif (bif (bif (bif (j1.Kind==kind) then (j1.Step==0) else false) then (j1.Edition==0) else false) then (j1.Ticks==0) else false) then ((j1.Lines.length:Int)==0) else false)
def S79 (j1:ConfJob) (kind:Int):Spec:=⟨[.r (.g (Ya j1)),.r (.c (.v (vI kind)))],.v (.bool (F79 j1 kind)),True⟩
theorem ok79 (j1:ConfJob) (kind:Int):(S79 j1 kind).ok Tryz.prog 79 :=
 Ue mixed (fn:=Tryz.f79) (ct:=.seq .no (.seq .no .no)) Tryz.func79 (fun (_:True)=>fiB (bif (bif (bif (bif (j1.Kind==kind) then (j1.Step==0) else false) then (j1.Edition==0) else false) then (j1.Ticks==0) else false) then ((j1.Lines.length:Int)==0) else false) (F79 j1 kind) rfl) uu1
def F80 (s:ConfStore):Bool :=
 (bif (s.Box.Edition==(IntKind.i64.wrap (s.Last+1))) then true else (bif (s.Box.Edition==s.Last) then ((s.Slots.getD (Int.toNat s.Live) default).Edition==s.Last) else false))
def S80 (s:ConfStore):Spec:=⟨[.r (.g (Ug s))],.v (.bool (F80 s)),0<=s.Live/\s.Live<=1/\s.Slots.length=2⟩
theorem ok80 (s:ConfStore):(S80 s).ok Tryz.prog 80 :=
 Ue mixed (fn:=Tryz.f80) (ct:=.seq .no (.seq .no .no)) Tryz.func80 (fun (hp:0<=s.Live/\s.Live<=1/\s.Slots.length=2)=>have hpre0:=hp.1; have hpre1:=hp.2.1; have hpre2:=hp.2.2; ai (fun k2:(s.Box.Edition==s.Last)=true=>have _:=eq_of_beq k2; (fun k1:(s.Box.Edition==(IntKind.i64.wrap (s.Last+1)))=false=>have _:=beqF k1; (uu0:ib s.Live s.Slots))) (fiB (bif (s.Box.Edition==(IntKind.i64.wrap (s.Last+1))) then true else (bif (s.Box.Edition==s.Last) then ((s.Slots.getD (Int.toNat s.Live) default).Edition==s.Last) else false)) (F80 s) rfl)) uu1
theorem kc78 (a:List Za) (b:List Za) {K_:Prop} (k_:K_):(True)/\(Imp (.l 1 eStr a) (.l 1 eStr a))/\(Imp (.l 1 eStr b) (.l 1 eStr b))/\K_:=⟨trivial,Imp.refl _,Imp.refl _,k_⟩
theorem kg78 {K_:Prop} (c_ b_:Bool) (a:List Za) (b:List Za) (k_:K_):(c_=b_->True)/\(c_=b_->Imp (.l 1 eStr a) (.l 1 eStr a))/\(c_=b_->Imp (.l 1 eStr b) (.l 1 eStr b))/\K_:=⟨fun _=>trivial,fun _=>Imp.refl _,fun _=>Imp.refl _,k_⟩
abbrev kh78 (a:List Za) (b:List Za):Hint true Tryz.prog:=.call 78 (S78 a b) (ok78 a b) none
def F119 (s:ConfStore):Bool :=
 bif (s.Last != s.Job.Edition) then false else (bif (s.Job.Step==((s.Job.Lines.length:Int)+2)) then (bif (bif (bif (s.Slots.getD (1-s.Live).toNat default).Whole then ((s.Slots.getD (1-s.Live).toNat default).Edition==s.Job.Edition) else false) then ((s.Slots.getD (1-s.Live).toNat default).Trial==decide (s.Job.Ticks>0)) else false) then (F78 (s.Slots.getD (1-s.Live).toNat default).Lines s.Job.Lines) else false) else (bif (!(s.Slots.getD (1-s.Live).toNat default).Whole) then (F78 (s.Slots.getD (1-s.Live).toNat default).Lines (s.Job.Lines.take (s.Job.Step-1).toNat)) else false))
def S119 (s:ConfStore):Spec:=⟨[.r (.g (Ug s))],.v (.bool (F119 s)),0<=s.Live/\s.Live<=1/\s.Slots.length=2/\s.Job.Lines.length<=1048576/\1<=s.Job.Step/\s.Job.Step<=(s.Job.Lines.length:Int)+2⟩
theorem ok119 (s:ConfStore):(S119 s).ok Tryz.prog 119 :=
 Ue mixed (fn:=Tryz.f119) (ct:=.seq .no (.seq .no (.seq (.reg [(4,.bnd)]) (.seq (.seq .no (.cond (.seq .no .no) .no)) (.seq (.seq (.reg [(5,.bnd)]) (.cond (.seq (.reg [(22,kh78 (s.Slots.getD (1-s.Live).toNat default).Lines s.Job.Lines)]) .no) .no)) (.seq (.reg [(10,.bnd),(12,kh78 (s.Slots.getD (1-s.Live).toNat default).Lines (s.Job.Lines.take (s.Job.Step-1).toNat))]) .no)))))) Tryz.func119 (fun (hp:0<=s.Live/\s.Live<=1/\s.Slots.length=2/\s.Job.Lines.length<=1048576/\1<=s.Job.Step/\s.Job.Step<=(s.Job.Lines.length:Int)+2)=>have hpre0:=hp.1; have hpre1:=hp.2.1; have hpre2:=hp.2.2.1; have hpre3:=hp.2.2.2.1; have hpre4:=hp.2.2.2.2.1; have hpre5:=hp.2.2.2.2.2; ai (iok (1-s.Live) uu3) (ai (uu3:ib (1-s.Live) s.Slots) (ifn s.Last s.Job.Edition (fun h1 _=>fiB false (F119 s) (condT h1 rfl)) (fun h1 _=>ai (iok ((s.Job.Lines.length:Int)+2) uu3) (ife s.Job.Step ((s.Job.Lines.length:Int)+2) (fun h2 _=>kg78 (bif (bif (s.Slots.getD (1-s.Live).toNat default).Whole then ((s.Slots.getD (1-s.Live).toNat default).Edition==s.Job.Edition) else false) then ((s.Slots.getD (1-s.Live).toNat default).Trial==decide (s.Job.Ticks>0)) else false) true (s.Slots.getD (1-s.Live).toNat default).Lines s.Job.Lines (fiB (bif (bif (bif (s.Slots.getD (1-s.Live).toNat default).Whole then ((s.Slots.getD (1-s.Live).toNat default).Edition==s.Job.Edition) else false) then ((s.Slots.getD (1-s.Live).toNat default).Trial==decide (s.Job.Ticks>0)) else false) then (F78 (s.Slots.getD (1-s.Live).toNat default).Lines s.Job.Lines) else false) (F119 s) (condF h1 (condT h2 rfl)))) (fun h2 _=>ai (fun k4:(!(s.Slots.getD (1-s.Live).toNat default).Whole)=true=>have _:=(Yq k4); iok (s.Job.Step-1) uu3) (ai (fun k5:(!(s.Slots.getD (1-s.Live).toNat default).Whole)=true=>have _:=(Yq k5); (uu3:0<=(0:Int)/\(0:Int)<=(s.Job.Step-1)/\(s.Job.Step-1)<=(s.Job.Lines.length:Int))) (kg78 (!(s.Slots.getD (1-s.Live).toNat default).Whole) true (s.Slots.getD (1-s.Live).toNat default).Lines (s.Job.Lines.take (s.Job.Step-1).toNat) (fiB (bif (!(s.Slots.getD (1-s.Live).toNat default).Whole) then (F78 (s.Slots.getD (1-s.Live).toNat default).Lines (s.Job.Lines.take (s.Job.Step-1).toNat)) else false) (F119 s) (condF h1 (condF h2 rfl))))))))))) uu1
theorem kg119 {K_:Prop} (c_ b_:Bool) (s:ConfStore) (p_:c_=b_->0<=s.Live/\s.Live<=1/\s.Slots.length=2/\s.Job.Lines.length<=1048576/\1<=s.Job.Step/\s.Job.Step<=(s.Job.Lines.length:Int)+2) (k_:K_):(c_=b_->0<=s.Live/\s.Live<=1/\s.Slots.length=2/\s.Job.Lines.length<=1048576/\1<=s.Job.Step/\s.Job.Step<=(s.Job.Lines.length:Int)+2)/\(c_=b_->Imps (Ug s) (Ug s))/\K_:=⟨p_,fun _=>Imps.refl _,k_⟩
abbrev kh119 (s:ConfStore):Hint true Tryz.prog:=.call 119 (S119 s) (ok119 s) none
def F81 (s:ConfStore):Bool :=
 bif (bif (bif (bif (bif (bif (s.Job.Kind != 1) then true else ((F118 s.Job.Lines) != 0)) then true else (!(decide (0<=s.Job.Step/\s.Job.Step<=((s.Job.Lines.length:Int)+2))))) then true else (!(decide (0<=s.Job.Ticks/\s.Job.Ticks<=9)))) then true else (s.Job.Edition != (IntKind.i64.wrap (s.Box.Edition+1)))) then true else decide (s.Job.Edition>1000000)) then false else (bif (s.Job.Step==0) then true else (F119 s))
def S81 (s:ConfStore):Spec:=⟨[.r (.g (Ug s))],.v (.bool (F81 s)),0<=s.Live/\s.Live<=1/\s.Slots.length=2/\s.Job.Lines.length<=1048576/\(∀ k:Nat,(s.Job.Lines.getD k default).size<=1048576)⟩
theorem ok81 (s:ConfStore):(S81 s).ok Tryz.prog 81 :=
 Ue mixed (fn:=Tryz.f81) (ct:=.seq .no (.seq .no (.seq (.seq (.reg [(6,kh118 s.Job.Lines),(15,.bnd),(16,Hk s.Job.Step 0 ((s.Job.Lines.length:Int)+2)),(22,Hk s.Job.Ticks 0 9)]) (.cond (.seq .no .no) .no)) (.seq (.reg [(5,kh119 s)]) .no)))) Tryz.func81 (fun (hp:0<=s.Live/\s.Live<=1/\s.Slots.length=2/\s.Job.Lines.length<=1048576/\(∀ k:Nat,(s.Job.Lines.getD k default).size<=1048576))=>have hpre0:=hp.1; have hpre1:=hp.2.1; have hpre2:=hp.2.2.1; have hpre3:=hp.2.2.2.1; have hpre4:=hp.2.2.2.2; kg118 (s.Job.Kind != 1) false s.Job.Lines (fun k1=>have _:=bneF k1; ⟨uu43,uu43⟩) (ai (fun k2:(bif (s.Job.Kind != 1) then true else ((F118 s.Job.Lines) != 0))=false=>have _:=bneF (orF1 k2); have _:=bneF (orF2 k2); iok ((s.Job.Lines.length:Int)+2) uu0) (Qiy (bif (s.Job.Kind != 1) then true else ((F118 s.Job.Lines) != 0)) false s.Job.Step 0 ((s.Job.Lines.length:Int)+2) (Qiy (bif (bif (s.Job.Kind != 1) then true else ((F118 s.Job.Lines) != 0)) then true else (!(decide (0<=s.Job.Step/\s.Job.Step<=((s.Job.Lines.length:Int)+2))))) false s.Job.Ticks 0 9 (ifb (bif (bif (bif (bif (bif (s.Job.Kind != 1) then true else ((F118 s.Job.Lines) != 0)) then true else (!(decide (0<=s.Job.Step/\s.Job.Step<=((s.Job.Lines.length:Int)+2))))) then true else (!(decide (0<=s.Job.Ticks/\s.Job.Ticks<=9)))) then true else (s.Job.Edition != (IntKind.i64.wrap (s.Box.Edition+1)))) then true else decide (s.Job.Edition>1000000)) (fun h5=>fiB false (F81 s) (condT h5 rfl)) (fun h5=>have _:=bneF (orF1 (orF1 (orF1 (orF1 (orF1 h5))))); have _:=bneF (orF2 (orF1 (orF1 (orF1 (orF1 h5))))); have _:=Qb (Uw (orF2 (orF1 (orF1 (orF1 h5))))); have _:=Qb (Uw (orF2 (orF1 (orF1 h5)))); have _:=bneF (orF2 (orF1 h5)); have _:=Qp (orF2 h5); kg119 (s.Job.Step==0) false s (fun k6=>have _:=beqF k6; ⟨uu12,uu12,uu12,uu12,uu12,uu12⟩) (fiB (bif (s.Job.Step==0) then true else (F119 s)) (F81 s) (condF h5 rfl)))))))) uu1
theorem kc46 (j1:ConfJob) {K_:Prop} (k_:K_):(True)/\(Imps (Ya j1) (Ya j1))/\K_:=⟨trivial,Imps.refl _,k_⟩
theorem kg46 {K_:Prop} (c_ b_:Bool) (j1:ConfJob) (k_:K_):(c_=b_->True)/\(c_=b_->Imps (Ya j1) (Ya j1))/\K_:=⟨fun _=>trivial,fun _=>Imps.refl _,k_⟩
abbrev kh46 (j1:ConfJob):Hint true Tryz.prog:=.call 46 (S46 j1) (ok46 j1) none
abbrev kh79 (j1:ConfJob) (kind:Int):Hint true Tryz.prog:=.call 79 (S79 j1 kind) (ok79 j1 kind) none
theorem kg79 {K_:Prop} (c_ b_:Bool) (j1:ConfJob) (kind:Int) (k_:K_):(c_=b_->True)/\(c_=b_->Imps (Ya j1) (Ya j1))/\(c_=b_->Imp (.v (vI kind)) (.v (vI kind)))/\K_:=⟨fun _=>trivial,fun _=>Imps.refl _,fun _=>Imp.refl _,k_⟩
theorem kc80 (s:ConfStore) {K_:Prop} (p0_:0<=s.Live) (p1_:s.Live<=1) (p2_:s.Slots.length=2) (k_:K_):(0<=s.Live/\s.Live<=1/\s.Slots.length=2)/\(Imps (Ug s) (Ug s))/\K_:=⟨⟨p0_,p1_,p2_⟩,Imps.refl _,k_⟩
abbrev kh80 (s:ConfStore):Hint true Tryz.prog:=.call 80 (S80 s) (ok80 s) none
theorem kc81 (s:ConfStore) {K_:Prop} (p0_:0<=s.Live) (p1_:s.Live<=1) (p2_:s.Slots.length=2) (p3_:s.Job.Lines.length<=1048576) (p4_:∀ k:Nat,(s.Job.Lines.getD k default).size<=1048576) (k_:K_):(0<=s.Live/\s.Live<=1/\s.Slots.length=2/\s.Job.Lines.length<=1048576/\(∀ k:Nat,(s.Job.Lines.getD k default).size<=1048576))/\(Imps (Ug s) (Ug s))/\K_:=⟨⟨p0_,p1_,p2_,p3_,p4_⟩,Imps.refl _,k_⟩
abbrev kh81 (s:ConfStore):Hint true Tryz.prog:=.call 81 (S81 s) (ok81 s) none
def F47 (s:ConfStore):Bool :=
 bif (decide (s.Box.Trial>0)) then (bif (bif (bif (bif (bif decide (s.Box.Trial<=9) then (s.Slots.getD (Int.toNat s.Live) default).Trial else false) then (F78 s.Box.Lines (s.Slots.getD (Int.toNat s.Live) default).Lines) else false) then (F78 s.Box.Back (s.Slots.getD (1-s.Live).toNat default).Lines) else false) then (s.Box.Edition==s.Last) else false) then (bif (F46 s.Job) then true else (F79 s.Job 2)) else false) else (bif (bif decide (s.Box.Trial<0) then true else decide ((s.Box.Back.length:Int)>0)) then false else (bif (s.Slots.getD (Int.toNat s.Live) default).Trial then (bif (bif (F78 s.Box.Lines (s.Slots.getD (1-s.Live).toNat default).Lines) then (s.Box.Edition==(IntKind.i64.wrap (s.Last+1))) else false) then (F79 s.Job 3) else false) else (bif (!(F78 s.Box.Lines (s.Slots.getD (Int.toNat s.Live) default).Lines)) then false else (bif (F46 s.Job) then (F80 s) else (bif (F81 s) then (bif decide (s.Job.Step>0) then true else (F80 s)) else false)))))
def S47 (s:ConfStore):Spec:=⟨[.r (.g (Ug s))],.v (.bool (F47 s)),0<=s.Live/\s.Live<=1/\s.Slots.length=2/\s.Job.Lines.length<=1048576/\(∀ k:Nat,(s.Job.Lines.getD k default).size<=1048576)⟩
abbrev Bp (s:ConfStore):=(s.Slots.getD (Int.toNat s.Live) default)
abbrev Ls (s:ConfStore):=(s.Slots.getD (1-s.Live).toNat default)
abbrev Qds (s:ConfStore):=(F78 s.Box.Lines (Bp s).Lines)
theorem ok47 (s:ConfStore):(S47 s).ok Tryz.prog 47 :=
 Ue mixed (fn:=Tryz.f47) (ct:=.seq .no (.seq .no (.seq .no (.seq (.reg [(4,.bnd)]) (.seq (.seq .no (.cond (.seq (.reg [(12,kh78 s.Box.Lines (Bp s).Lines),(19,kh78 s.Box.Back (Ls s).Lines),(31,kh46 s.Job),(35,kh79 s.Job 2)]) .no) .no)) (.seq (.seq .no (.cond (.seq .no .no) .no)) (.seq (.seq .no (.cond (.seq (.reg [(4,kh78 s.Box.Lines (Ls s).Lines),(16,kh79 s.Job 3)]) .no) .no)) (.seq (.seq (.reg [(4,kh78 s.Box.Lines (Bp s).Lines)]) (.cond (.seq .no .no) .no)) (.seq (.seq (.reg [(2,kh46 s.Job)]) (.cond (.seq (.reg [(1,kh80 s)]) .no) .no)) (.seq (.reg [(1,kh81 s),(9,kh80 s)]) .no)))))))))) Tryz.func47 (fun (hp:0<=s.Live/\s.Live<=1/\s.Slots.length=2/\s.Job.Lines.length<=1048576/\(∀ k:Nat,(s.Job.Lines.getD k default).size<=1048576))=>have hpre0:=hp.1; have hpre1:=hp.2.1; have hpre2:=hp.2.2.1; have hpre3:=hp.2.2.2.1; have hpre4:=hp.2.2.2.2; ai (uu0:ib s.Live s.Slots) (ai (iok (1-s.Live) uu0) (ai (uu0:ib (1-s.Live) s.Slots) (ifd (s.Box.Trial>0) (fun h1 _=>kg78 (bif decide (s.Box.Trial<=9) then (Bp s).Trial else false) true s.Box.Lines (Bp s).Lines (kg78 (bif (bif decide (s.Box.Trial<=9) then (Bp s).Trial else false) then (Qds s) else false) true s.Box.Back (Ls s).Lines (kg46 (bif (bif (bif (bif decide (s.Box.Trial<=9) then (Bp s).Trial else false) then (Qds s) else false) then (F78 s.Box.Back (Ls s).Lines) else false) then (s.Box.Edition==s.Last) else false) true s.Job (ai (fun k6:(F46 s.Job)=false=>(fun k5:(bif (bif (bif (bif decide (s.Box.Trial<=9) then (Bp s).Trial else false) then (Qds s) else false) then (F78 s.Box.Back (Ls s).Lines) else false) then (s.Box.Edition==s.Last) else false)=true=>have _:=Qb (Uc (Uc (Uc (Uc k5)))); have _:=(Ut (Uc (Uc (Uc k5)))); have _:=eq_of_beq (Ut k5); trivial)) (ai (fun k8:(F46 s.Job)=false=>(fun k7:(bif (bif (bif (bif decide (s.Box.Trial<=9) then (Bp s).Trial else false) then (Qds s) else false) then (F78 s.Box.Back (Ls s).Lines) else false) then (s.Box.Edition==s.Last) else false)=true=>have _:=Qb (Uc (Uc (Uc (Uc k7)))); have _:=(Ut (Uc (Uc (Uc k7)))); have _:=eq_of_beq (Ut k7); (Imps.refl (Ya s.Job)))) (ai (fun k10:(F46 s.Job)=false=>(fun k9:(bif (bif (bif (bif decide (s.Box.Trial<=9) then (Bp s).Trial else false) then (Qds s) else false) then (F78 s.Box.Back (Ls s).Lines) else false) then (s.Box.Edition==s.Last) else false)=true=>have _:=Qb (Uc (Uc (Uc (Uc k9)))); have _:=(Ut (Uc (Uc (Uc k9)))); have _:=eq_of_beq (Ut k9); (Imp.refl (.v (vI 2))))) (fiB (bif (bif (bif (bif (bif decide (s.Box.Trial<=9) then (Bp s).Trial else false) then (Qds s) else false) then (F78 s.Box.Back (Ls s).Lines) else false) then (s.Box.Edition==s.Last) else false) then (bif (F46 s.Job) then true else (F79 s.Job 2)) else false) (F47 s) (condT h1 rfl)))))))) (fun h1 _=>ifb (bif decide (s.Box.Trial<0) then true else decide ((s.Box.Back.length:Int)>0)) (fun h11=>fiB false (F47 s) (condF h1 (condT h11 rfl))) (fun h11=>have _:=Qp (orF1 h11); have _:=Qp (orF2 h11); ifb (Bp s).Trial (fun h12=>kc78 s.Box.Lines (Ls s).Lines (kg79 (bif (F78 s.Box.Lines (Ls s).Lines) then (s.Box.Edition==(IntKind.i64.wrap (s.Last+1))) else false) true s.Job 3 (fiB (bif (bif (F78 s.Box.Lines (Ls s).Lines) then (s.Box.Edition==(IntKind.i64.wrap (s.Last+1))) else false) then (F79 s.Job 3) else false) (F47 s) (condF h1 (condF h11 (condT h12 rfl)))))) (fun h12=>kc78 s.Box.Lines (Bp s).Lines (ifb (!(Qds s)) (fun h14=>fiB false (F47 s) (condF h1 (condF h11 (condF h12 (condT h14 rfl))))) (fun h14=>kc46 s.Job (ifb (F46 s.Job) (fun h15=>kc80 s uu0 uu0 uu0 (fiB (F80 s) (F47 s) (condF h1 (condF h11 (condF h12 (condF h14 (condT h15 rfl))))))) (fun h15=>kc81 s uu12 uu12 uu12 uu12 uu12 (ai (fun k17:(decide (s.Job.Step>0))=false=>have _:=Qp k17; (fun k16:(F81 s)=true=>(ai (uu0:0<=s.Live) (ai (uu0:s.Live<=1) (uu0:s.Slots.length=2))))) (ai (fun k19:(decide (s.Job.Step>0))=false=>have _:=Qp k19; (fun k18:(F81 s)=true=>(Imps.refl (Ug s)))) (fiB (bif (F81 s) then (bif decide (s.Job.Step>0) then true else (F80 s)) else false) (F47 s) (condF h1 (condF h11 (condF h12 (condF h14 (condF h15 rfl))))))))))))))))))) uu1
theorem kc45 (s:ConfStore) {K_:Prop} (p0_:∀ k:Nat,(s.Slots.getD k default).Lines.length<=1048576) (p1_:∀ k:Nat,∀ k':Nat,((s.Slots.getD k default).Lines.getD k' default).size<=1048576) (k_:K_):((∀ k:Nat,(s.Slots.getD k default).Lines.length<=1048576)/\(∀ k:Nat,∀ k':Nat,((s.Slots.getD k default).Lines.getD k' default).size<=1048576))/\(Imps (Ug s) (Ug s))/\K_:=⟨⟨p0_,p1_⟩,Imps.refl _,k_⟩
abbrev kh45 (s:ConfStore):Hint true Tryz.prog:=.call 45 (S45 s) (ok45 s) none
theorem kc47 (s:ConfStore) {K_:Prop} (p0_:0<=s.Live) (p1_:s.Live<=1) (p2_:s.Slots.length=2) (p3_:s.Job.Lines.length<=1048576) (p4_:∀ k:Nat,(s.Job.Lines.getD k default).size<=1048576) (k_:K_):(0<=s.Live/\s.Live<=1/\s.Slots.length=2/\s.Job.Lines.length<=1048576/\(∀ k:Nat,(s.Job.Lines.getD k default).size<=1048576))/\(Imps (Ug s) (Ug s))/\K_:=⟨⟨p0_,p1_,p2_,p3_,p4_⟩,Imps.refl _,k_⟩
abbrev kh47 (s:ConfStore):Hint true Tryz.prog:=.call 47 (S47 s) (ok47 s) none
theorem kg48 {K_:Prop} (c_ b_:Bool) (b:ConfBox) (p_:c_=b_->(∀ k:Nat,(b.Cands.getD k default).User.size<=1048576)/\(∀ k:Nat,(b.Cands.getD k default).From.length<=1048576)/\(∀ k:Nat,∀ k':Nat,((b.Cands.getD k default).From.getD k' default).size<=1048576)/\(∀ k:Nat,(b.Cands.getD k default).Lines.length<=1048576)/\(∀ k:Nat,∀ k':Nat,((b.Cands.getD k default).Lines.getD k' default).size<=1048576)) (k_:K_):(c_=b_->(∀ k:Nat,(b.Cands.getD k default).User.size<=1048576)/\(∀ k:Nat,(b.Cands.getD k default).From.length<=1048576)/\(∀ k:Nat,∀ k':Nat,((b.Cands.getD k default).From.getD k' default).size<=1048576)/\(∀ k:Nat,(b.Cands.getD k default).Lines.length<=1048576)/\(∀ k:Nat,∀ k':Nat,((b.Cands.getD k default).Lines.getD k' default).size<=1048576))/\(c_=b_->Imps (Yk b) (Yk b))/\K_:=⟨p_,fun _=>Imps.refl _,k_⟩
abbrev kh48 (b:ConfBox):Hint true Tryz.prog:=.call 48 (S48 b) (ok48 b) none
def F19 (s:ConfStore):Bool :=
 bif (!(F45 s)) then false else (bif (!s.Up) then (bif (bif (bif (bif (bif (s.Box.Edition==0) then ((s.Box.Lines.length:Int)==0) else false) then (s.Box.Trial==0) else false) then ((s.Box.Back.length:Int)==0) else false) then ((s.Box.Cands.length:Int)==0) else false) then (F46 s.Job) else false) else (bif (F47 s) then (F48 s.Box) else false))
def S19 (s:ConfStore):Spec:=⟨[.r (.g (Ug s))],.v (.bool (F19 s)),(∀ k:Nat,(s.Slots.getD k default).Lines.length<=1048576)/\(∀ k:Nat,∀ k':Nat,((s.Slots.getD k default).Lines.getD k' default).size<=1048576)/\s.Job.Lines.length<=1048576/\(∀ k:Nat,(s.Job.Lines.getD k default).size<=1048576)/\(∀ k:Nat,(s.Box.Cands.getD k default).User.size<=1048576)/\(∀ k:Nat,(s.Box.Cands.getD k default).From.length<=1048576)/\(∀ k:Nat,∀ k':Nat,((s.Box.Cands.getD k default).From.getD k' default).size<=1048576)/\(∀ k:Nat,(s.Box.Cands.getD k default).Lines.length<=1048576)/\(∀ k:Nat,∀ k':Nat,((s.Box.Cands.getD k default).Lines.getD k' default).size<=1048576)⟩
theorem ok19 (s:ConfStore):(S19 s).ok Tryz.prog 19 :=
 Ue mixed (fn:=Tryz.f19) (ct:=.seq .no (.seq (.seq (.reg [(1,kh45 s)]) (.cond (.seq .no .no) .no)) (.seq (.seq .no (.cond (.seq (.reg [(34,kh46 s.Job)]) .no) .no)) (.seq (.reg [(1,kh47 s),(5,kh48 s.Box)]) .no)))) Tryz.func19 (fun (hp:(∀ k:Nat,(s.Slots.getD k default).Lines.length<=1048576)/\(∀ k:Nat,∀ k':Nat,((s.Slots.getD k default).Lines.getD k' default).size<=1048576)/\s.Job.Lines.length<=1048576/\(∀ k:Nat,(s.Job.Lines.getD k default).size<=1048576)/\(∀ k:Nat,(s.Box.Cands.getD k default).User.size<=1048576)/\(∀ k:Nat,(s.Box.Cands.getD k default).From.length<=1048576)/\(∀ k:Nat,∀ k':Nat,((s.Box.Cands.getD k default).From.getD k' default).size<=1048576)/\(∀ k:Nat,(s.Box.Cands.getD k default).Lines.length<=1048576)/\(∀ k:Nat,∀ k':Nat,((s.Box.Cands.getD k default).Lines.getD k' default).size<=1048576))=>have hpre0:=hp.1; have hpre1:=hp.2.1; have hpre2:=hp.2.2.1; have hpre3:=hp.2.2.2.1; have hpre4:=hp.2.2.2.2.1; have hpre5:=hp.2.2.2.2.2.1; have hpre6:=hp.2.2.2.2.2.2.1; have hpre7:=hp.2.2.2.2.2.2.2.1; have hpre8:=hp.2.2.2.2.2.2.2.2; kc45 s uu6 uu6 (ifb (!(F45 s)) (fun h1=>fiB false (F19 s) (condT h1 rfl)) (fun h1=>ifb (!s.Up) (fun h2=>have _:=(Yq h2); kg46 (bif (bif (bif (bif (s.Box.Edition==0) then ((s.Box.Lines.length:Int)==0) else false) then (s.Box.Trial==0) else false) then ((s.Box.Back.length:Int)==0) else false) then ((s.Box.Cands.length:Int)==0) else false) true s.Job (fiB (bif (bif (bif (bif (bif (s.Box.Edition==0) then ((s.Box.Lines.length:Int)==0) else false) then (s.Box.Trial==0) else false) then ((s.Box.Back.length:Int)==0) else false) then ((s.Box.Cands.length:Int)==0) else false) then (F46 s.Job) else false) (F19 s) (condF h1 (condT h2 rfl)))) (fun h2=>have _:=(Uw h2); kc47 s uu35 uu35 uu35 uu35 uu35 (kg48 (F47 s) true s.Box (fun k4=>⟨uu6,uu6,uu6,uu6,uu6⟩) (fiB (bif (F47 s) then (F48 s.Box) else false) (F19 s) (condF h1 (condF h2 rfl)))))))) uu1
theorem Qpt {p:Nat->Bool} (h:∀ k,p k=false):∀ (m i:Nat),anyF p i m=false
 | 0,_=>rfl
 | m+1,i=>by rw [anyF,h i,Qpt h m (i+1)]; rfl
theorem Qyp (n:Nat) (C:Int->Bool) (step:Int->Lp Int Bool) (hs:∀ k:Int,step k=bif decide (k<(n:Int)) then (bif C k then .ret false else .next (k+1)) else .done k) (y:Bool) :
  (runL step (((n:Int)-0).toNat+1) 0).fin (fun r=>r) (fun _=>y)=(!(anyF (fun k=>C (k:Int)) 0 n)&&y):=by
 have h:=Kg step n (fun k=>C (k:Int)) false (fun r=>r) y (fun i hi=>by
  rw [hs]; simp only [ltD hi,Qc]; rfl) (by rw [hs]; simp only [geD,Qe]) n 0 uu0 (Int.toNat ((n:Int)-0)+1) uu0
 refine Eq.trans h ?_
 cases anyF (fun k=>C (k:Int)) 0 n <;> rfl
theorem sameL (xs ys:List Za) (step:Int->Lp Int Bool) (hs:∀ k:Int,step k=bif (decide (k<(xs.length:Int))) then (bif (!((xs.getD k.toNat default).toList==(ys.getD k.toNat default).toList)) then (.ret false) else (.next (k+1))) else (.done k)) :
  (bif ((xs.length:Int) != (ys.length:Int)) then false else ((runL step (((xs.length:Int)-0).toNat+1) 0).fin (fun r=>r) (fun _=>true)))=decide (xs=ys):=by
 cases hl:((xs.length:Int) != (ys.length:Int)) with
 | true =>
  rw [Qc]
  have hne:(xs.length:Int)≠(ys.length:Int):=by simpa using hl
  exact (Qk (fun e=>hne (by rw [e]))).symm
 | false =>
  rw [Qe]
  have hc:(xs.length:Int)=(ys.length:Int):=by simpa using hl
  have he:xs.length=ys.length:=by omega
  have h:=Kg step xs.length (fun k=>!((xs.getD k default).toList==(ys.getD k default).toList)) false (fun r=>r) true (fun i hi=>by
   rw [hs]; simp only [ltD hi,Qc,nn]; rfl) (by rw [hs]; simp only [geD,Qe]) xs.length 0 uu0 (Int.toNat ((xs.length:Int)-0)+1) uu0
  refine Eq.trans h ?_
  by_cases e:xs=ys
  ·rw [Qs e]
   subst e
   rw [Qpt fun k=>by rw [Qcb,Qs rfl]; rfl]; rfl
  ·rw [Qk e]
   have:anyF (fun k=>!((xs.getD k default).toList==(ys.getD k default).toList)) 0 xs.length=true:=by
    cases hc:anyF (fun k=>!((xs.getD k default).toList==(ys.getD k default).toList)) 0 xs.length with
    | true=>rfl
    | false =>
     refine absurd (List.ext_getElem he fun i h1 h2=>?_) e
     have:=Qvn _ _ hc i (Qy _) uu0
     rw [Bool.not_eq_false',Qcb,Ry,Qd,Qd,Qh h1,Qh h2] at this
     exact this
   rw [this]; rfl
theorem Qgz (xs ys:List Za):F89 xs ys=decide (xs=ys):=sameL xs ys (Qck xs ys) fun k=>rfl
theorem Qsk (xs ys:List Za):F78 xs ys=decide (xs=ys):=sameL xs ys (Qch xs ys) fun k=>rfl
theorem Uaf (a b:Int):(a != b)=(b != a):=by
 by_cases h:a=b
 ·subst h; rfl
 ·rw [Gw.2 h,Gw.2 (Ne.symm h)]
theorem Hq (xs ys:List Za):decide (xs=ys)=decide (ys=xs):=S4.2 ⟨G6,G6⟩
theorem Ucx (ls:List Za):F24 ls=(F23 ls==0):=by unfold F24; rw [Qbm]
theorem Ueh (s:ConfStore) (p:ConfSlot):(!F77 s p)=((bif p.Whole then (bif (!(decide (0<=p.Edition/\p.Edition<=s.Last))) then true else ((F85 p.Lines) != 0)) else false) || (bif (!p.Whole) then (bif (bif (p.Edition != 0) then true else p.Trial) then true else (!(F24 p.Lines))) else false)):=by
 unfold F77
 rw [Qdw,Ucx,bne,bne]
 cases p.Whole <;> cases decide (0<=p.Edition/\p.Edition<=s.Last) <;> cases (F118 p.Lines==0) <;> cases (p.Edition==0) <;> cases p.Trial <;> cases (F23 p.Lines==0) <;> rfl
theorem Qsa (s:ConfStore):F52 s=F45 s:=by
 unfold F52 F45
 cases h1:(bif (bif ((s.Slots.length:Int) != 2) then true else (!(decide (0<=s.Live/\s.Live<=1)))) then true else (!(decide (0<=s.Last/\s.Last<=1000000)))) with
 | true=>rfl
 | false =>
 rw [Qe,Qe]
 obtain ⟨_,_,hl⟩:=Qfz h1
 have ha:=anyL s.Slots (fun p=>!F77 s p) false (Hp s) (fun i hi=>by
  simp only [Hp,ltD hi,Qc,nn,Ueh]
  generalize (bif (s.Slots.getD i default).Whole then (bif (!(decide (0<=(s.Slots.getD i default).Edition/\(s.Slots.getD i default).Edition<=s.Last))) then true else ((F85 (s.Slots.getD i default).Lines) != 0)) else false)=A
  generalize (bif (!(s.Slots.getD i default).Whole) then (bif (bif ((s.Slots.getD i default).Edition != 0) then true else (s.Slots.getD i default).Trial) then true else (!(F24 (s.Slots.getD i default).Lines))) else false)=B
  cases A <;> cases B <;> rfl) (by simp only [Hp,geD,Qe]) (fun r=>r)
  (fun _=>bif (!((F86 s).Whole)) then false else (bif (!((F86 s).Trial)) then true else (bif (bif (bif ((F86 s).Edition==s.Last) then (F87 s).Whole else false) then (!((F87 s).Trial)) else false) then decide ((F87 s).Edition<(F86 s).Edition) else false))) _ (fun _=>rfl)
 refine Eq.trans ha ?_
 have hs:s.Slots=[s.Slots.getD 0 default,s.Slots.getD 1 default]:=by
  rcases hS:s.Slots with _ | ⟨x,_ | ⟨y,_ | ⟨z,r⟩⟩⟩
  ·rw [hS] at hl; cases hl
  ·rw [hS] at hl; cases hl
  ·rfl
  ·rw [hS] at hl; simp at hl
 have hany:s.Slots.any (fun p=>!F77 s p)=((!F77 s (s.Slots.getD (Int.toNat 0) default)) || (!F77 s (s.Slots.getD (Int.toNat 1) default))):=by
  rw [show Int.toNat 0=0 from rfl,show Int.toNat 1=1 from rfl]
  generalize s.Slots.getD 0 default=p0 at hs ⊢
  generalize s.Slots.getD 1 default=p1 at hs ⊢
  rw [hs]
  simp only [Th,List.any_nil,Bool.or_false]
 rw [hany]
 unfold F86 F87
 generalize F77 s (s.Slots.getD (Int.toNat 0) default)=x
 generalize F77 s (s.Slots.getD (Int.toNat 1) default)=y
 generalize s.Slots.getD (Int.toNat s.Live) default=a
 generalize s.Slots.getD (1-s.Live).toNat default=b
 cases x
 ·rfl
 cases y
 ·rfl
 show _=bif a.Whole then _ else _
 cases a.Whole
 ·rfl
 cases a.Trial
 ·rfl
 cases he:(a.Edition==s.Last) with
 | false=>cases b.Whole <;> cases b.Trial <;> rfl
 | true =>
  have he:=eq_of_beq he
  rw [he]
  cases b.Whole <;> cases b.Trial <;> rfl
theorem Qrx (b:ConfBox):F54 b=F48 b:=by
 unfold F54 F48
 have hs:Np b=Bz b:=funext fun v=>by
  simp only [Np,Bz,Wf,Ucx,bne]
  generalize F28 (b.Cands.getD v.toNat default).User=x1
  generalize (bif decide (v>0) then (!(Op.bytesLess ((b.Cands.getD (v-1).toNat default).User).toList ((b.Cands.getD v.toNat default).User).toList)) else false)=x2
  generalize decide (0<=(b.Cands.getD v.toNat default).Base/\(b.Cands.getD v.toNat default).Base<=b.Edition)=x3
  generalize (F23 (b.Cands.getD v.toNat default).From==0)=x4
  generalize (F23 (b.Cands.getD v.toNat default).Lines==0)=x5
  cases x1 <;> cases x2 <;> cases x3 <;> cases x4 <;> cases x5 <;> rfl
 rw [hs]
 rw [Qyp b.Cands.length _ (Bz b) (fun k=>rfl),Qyp b.Cands.length _ (Bz b) (fun k=>rfl)]
 rcases Rn ((b.Cands.length:Int)>3) with h | h
 ·rw [Qs h,Qk (show ¬ (b.Cands.length:Int)<=3 by omega),Qc,Sa]
 ·rw [Qk h,Qs (show (b.Cands.length:Int)<=3 by omega),Qe]
theorem noJob (j:ConfJob):F46 j=F53 j 0:=rfl
theorem bare (j:ConfJob) (k:Int):F79 j k=F53 j k:=rfl
theorem Qxp (s:ConfStore):F86 s=s.Slots.getD (Int.toNat s.Live) default:=rfl
theorem Qot (s:ConfStore):F87 s=s.Slots.getD (1-s.Live).toNat default:=rfl
theorem Qhn (s:ConfStore):F90 s s.Box.Edition=F80 s:=by
 unfold F90 F80
 rw [Qxp]
 cases (s.Box.Edition==IntKind.i64.wrap (s.Last+1))
 ·rw [Qe,Qe]
  cases he:(s.Box.Edition==s.Last) with
  | false=>rfl
  | true =>
   rw [Qc,Qc,eq_of_beq he]
   exact Bool.beq_comm (a:=s.Last) |>.symm ▸ rfl
 ·rfl
theorem Ues (s:ConfStore):(bif (s.Job.Edition != s.Last) then false else (bif (s.Job.Step==((s.Job.Lines.length:Int)+2)) then (bif (bif (bif (F87 s).Whole then ((F87 s).Edition==s.Job.Edition) else false) then (F89 ((F87 s).Lines) s.Job.Lines) else false) then ((F87 s).Trial==decide (s.Job.Ticks>0)) else false) else (bif (!((F87 s).Whole)) then (F89 ((F87 s).Lines) (s.Job.Lines.take (s.Job.Step-1).toNat)) else false)))=F119 s:=by
 unfold F119
 rw [Qot,Qgz,Qgz,Qsk,Qsk,Uaf s.Job.Edition s.Last]
 generalize s.Slots.getD (1-s.Live).toNat default=o
 cases (s.Last != s.Job.Edition)
 ·rw [Qe,Qe]
  cases (s.Job.Step==((s.Job.Lines.length:Int)+2))
  ·rfl
  ·rw [Qc,Qc]
   cases o.Whole <;> cases (o.Edition==s.Job.Edition) <;> cases (o.Trial==decide (s.Job.Ticks>0)) <;> cases decide (o.Lines=s.Job.Lines) <;> rfl
 ·rfl
theorem Qpd (s:ConfStore):F91 s=(bif F81 s then (bif decide (s.Job.Step>0) then true else F80 s) else false):=by
 unfold F91 F81
 rw [Qhn,Ues,Qdw]
 cases h1:(s.Job.Kind != 1)
 case true=>rfl
 cases h2:(F118 s.Job.Lines != 0)
 case true=>rfl
 cases h3:decide (0<=s.Job.Ticks/\s.Job.Ticks<=9)
 case false=>cases decide (0<=s.Job.Step/\s.Job.Step<=(s.Job.Lines.length:Int)+2) <;> rfl
 cases h4:(s.Job.Edition != IntKind.i64.wrap (s.Box.Edition+1))
 case true=>cases decide (0<=s.Job.Step/\s.Job.Step<=(s.Job.Lines.length:Int)+2) <;> rfl
 cases h5:decide (s.Job.Edition>1000000)
 case true=>cases decide (0<=s.Job.Step/\s.Job.Step<=(s.Job.Lines.length:Int)+2) <;> rfl
 cases h6:decide (0<=s.Job.Step/\s.Job.Step<=(s.Job.Lines.length:Int)+2)
 case false=>rfl
 have h6:=Qb h6
 simp only [Sv,Qe]
 cases h7:(s.Job.Step==0) with
 | true =>
  have h7:=eq_of_beq h7
  rw [Qk (show ¬ s.Job.Step>0 by omega)]
  rfl
 | false =>
  have h7:s.Job.Step≠0:=by simpa using h7
  rw [Qs (show s.Job.Step>0 by omega),Qe,Qe,Qc]
  cases F119 s <;> rfl
theorem Ucb (s:ConfStore):F55 s=F47 s:=by
 unfold F55 F47
 rw [Qxp,Qot,Qhn,Qpd,noJob,bare,bare]
 simp only [Qgz,Qsk]
 generalize s.Slots.getD (Int.toNat s.Live) default=a
 generalize s.Slots.getD (1-s.Live).toNat default=o
 rw [Hq a.Lines s.Box.Lines,Hq o.Lines s.Box.Back,Hq o.Lines s.Box.Lines]
 rcases Int.lt_trichotomy s.Box.Trial 0 with h | h | h
 ·rw [show (s.Box.Trial != 0)=true by simp; omega,Qk (show ¬ s.Box.Trial>0 by omega),Qs h,Qk (show ¬ (1<=s.Box.Trial/\s.Box.Trial<=9) by omega)]
  rfl
 ·rw [h]
  simp only [bne_self_eq_false,Qe,Int.lt_irrefl,gt_iff_lt,decide_false]
  cases decide (0<(s.Box.Back.length:Int))
  case true=>rfl
  cases a.Trial
  case true=>rfl
  simp only [Qe]
  cases decide (s.Box.Lines=a.Lines)
  case false=>rfl
  simp only [Qc,Sv,Qe]
  cases hk:F53 s.Job 0 with
  | false=>rfl
  | true =>
   have hk1:s.Job.Kind=0:=by
    unfold F53 at hk
    cases hq:(s.Job.Kind==0) with
    | true=>exact eq_of_beq hq
    | false=>rw [hq] at hk; cases hk
   have hc:F81 s=false:=by
    unfold F81
    rw [hk1]; rfl
   rw [hc]
   cases F80 s <;> rfl
 ·rw [show (s.Box.Trial != 0)=true by simp; omega,Qs (show s.Box.Trial>0 from h)]
  have e:decide (1<=s.Box.Trial/\s.Box.Trial<=9)=decide (s.Box.Trial<=9):=S4.2 ⟨fun h=>h.2,fun h2=>⟨by omega,h2⟩⟩
  rw [e]
  rfl
theorem Qsi (s:ConfStore):F21 s=F19 s:=by
 unfold F21 F19
 rw [Qsa,Qrx,Ucb,noJob]
 cases F45 s
 ·rfl
 cases s.Up
 ·rfl
 simp only [Sv,Qe]
 cases F48 s.Box <;> cases F47 s <;> rfl
abbrev Ke (x:ConfCand):Prop:=(x.User.size<=9223372036854775807)/\(∀ k:Nat,(x.From.getD k default).size<=9223372036854775807)/\(∀ k:Nat,(x.Lines.getD k default).size<=9223372036854775807)
theorem kc7 (a:List Za) (left':Int) {K_:Prop} (p0_:0<=left') (p1_:left'<=1048576) (p2_:∀ k:Nat,(a.getD k default).size<=9223372036854775807) (k_:(0<=left'->left'<=1048576->0<=(F7 a left')->(F7 a left')<=left')->(0<=left'->left'<=1048576->0<=(F7 a left')->a.length<=1048576)->(0<=left'->left'<=1048576->0<=(F7 a left')->∀ k:Nat,(a.getD k default).size<=1048576)->K_):(0<=left'/\left'<=1048576/\(∀ k:Nat,(a.getD k default).size<=9223372036854775807))/\(Imp (.l 1 eStr a) (.l 1 eStr a))/\(Imp (.v (vI left')) (.v (vI left')))/\K_:=⟨⟨p0_,p1_,p2_⟩,Imp.refl _,Imp.refl _,k_ (g7_0 a left') (g7_1 a left') (g7_2 a left')⟩
abbrev kh7 (a:List Za) (left':Int):Hint true Tryz.prog:=.call 7 (S7 a left') (ok7 a left') none
def F117 (a:ConfCand) (left':Int):Int :=
 bif (decide ((left'-(a.User.size:Int))<0)) then (-1) else (bif (decide ((F7 a.From (left'-(a.User.size:Int)))<0)) then (-1) else (bif (decide ((F7 a.Lines (F7 a.From (left'-(a.User.size:Int))))<0)) then (-1) else (F7 a.Lines (F7 a.From (left'-(a.User.size:Int))))))
def S117 (a:ConfCand) (left':Int):Spec:=⟨[.r (.g (Uj a)),.r (.c (.v (vI left')))],.v (vI (F117 a left')),0<=left'/\left'<=1048576/\Ke a⟩
theorem ok117 (a:ConfCand) (left':Int):(S117 a left').ok Tryz.prog 117 :=
 Ue mixed (fn:=Tryz.f117) (ct:=.seq .no (.seq (.reg [(4,.bnd)]) (.seq (.seq .no (.cond (.seq .no .no) .no)) (.seq (.reg [(3,kh7 a.From (left'-(a.User.size:Int)))]) (.seq (.seq .no (.cond (.seq .no .no) .no)) (.seq (.reg [(3,kh7 a.Lines (F7 a.From (left'-(a.User.size:Int))))]) (.seq (.seq .no (.cond (.seq .no .no) .no)) (.seq .no .no)))))))) Tryz.func117 (fun (hp:0<=left'/\left'<=1048576/\Ke a)=>have hpre0:=hp.1; have hpre1:=hp.2.1; have hpre2:=hp.2.2; ai (iok (left'-(a.User.size:Int)) (by first | omega | (have h9:=hpre2.1; omega) | (have h9:=hpre2; omega) | (have h9:=hpre2.2.1; omega) | (have h9:=hpre2.2; omega) | (have h9:=hpre2.2.2.1; omega) | (have h9:=hpre2.2.2; omega) | (have h9:=hpre2.2.2.2.1; omega) | (have h9:=hpre2.2.2.2; omega) | (have h9:=hpre2.2.2.2.2.1; omega) | (have h9:=hpre2.2.2.2.2; omega) | (have h9:=hpre2.2.2.2.2.2.1; omega) | (have h9:=hpre2.2.2.2.2.2; omega))) (ifd ((left'-(a.User.size:Int))<0) (fun h1 _=>fiI (-1) (F117 a left') (condT h1 rfl)) (fun h1 _=>kc7 a.From (left'-(a.User.size:Int)) uu7 uu7 uu7 (fun gv2 gv3 gv4=>ifd ((F7 a.From (left'-(a.User.size:Int)))<0) (fun h5 _=>fiI (-1) (F117 a left') (condF h1 (condT h5 rfl))) (fun h5 _=>kc7 a.Lines (F7 a.From (left'-(a.User.size:Int))) uu7 uu7 uu7 (fun gv6 gv7 gv8=>ifd ((F7 a.Lines (F7 a.From (left'-(a.User.size:Int))))<0) (fun h9 _=>fiI (-1) (F117 a left') (condF h1 (condF h5 (condT h9 rfl)))) (fun h9 _=>fiI (F7 a.Lines (F7 a.From (left'-(a.User.size:Int)))) (F117 a left') (condF h1 (condF h5 (condF h9 rfl)))))))))) uu1
theorem Qdc (a:ConfCand) (left':Int):0<=left'->left'<=1048576->0<=(F117 a left')->(F117 a left')<=left'/\(a.User.size<=1048576)/\(a.From.length<=1048576)/\(∀ k:Nat,(a.From.getD k default).size<=1048576)/\(a.Lines.length<=1048576)/\(∀ k:Nat,(a.Lines.getD k default).size<=1048576):=by
 intro h0 h1 h2
 simp only [F117] at h2 ⊢
 rcases Rn ((left'-(a.User.size:Int))<0) with hq0 | hq0
 ·rw [Qs hq0,Qc] at h2; exact absurd h2 uu2
 rw [Qk hq0,Qe] at h2 ⊢
 rcases Rn ((F7 a.From (left'-(a.User.size:Int)))<0) with hq1 | hq1
 ·rw [Qs hq1,Qc] at h2; exact absurd h2 uu2
 rw [Qk hq1,Qe] at h2 ⊢
 have gq1:=gb7 a.From (left'-(a.User.size:Int)) uu0 uu0 uu0
 have lq1:=gq1.1
 rcases Rn ((F7 a.Lines (F7 a.From (left'-(a.User.size:Int))))<0) with hq2 | hq2
 ·rw [Qs hq2,Qc] at h2; exact absurd h2 uu2
 rw [Qk hq2,Qe] at h2 ⊢
 have gq2:=gb7 a.Lines (F7 a.From (left'-(a.User.size:Int))) uu0 uu0 uu0
 have lq2:=gq2.1
 exact ⟨by omega,by omega,gq1.2.1,gq1.2.2,gq2.2.1,gq2.2.2⟩
theorem g117_0 (a:ConfCand) (left':Int):0<=left'->left'<=1048576->0<=(F117 a left')->(F117 a left')<=left':=by
 intro h0 h1 h2; exact (Qdc a left' h0 h1 h2).1
theorem g117_1 (a:ConfCand) (left':Int):0<=left'->left'<=1048576->0<=(F117 a left')->a.User.size<=1048576:=by
 intro h0 h1 h2; exact (Qdc a left' h0 h1 h2).2.1
theorem g117_2 (a:ConfCand) (left':Int):0<=left'->left'<=1048576->0<=(F117 a left')->a.From.length<=1048576:=by
 intro h0 h1 h2; exact (Qdc a left' h0 h1 h2).2.2.1
theorem g117_3 (a:ConfCand) (left':Int):0<=left'->left'<=1048576->0<=(F117 a left')->∀ k:Nat,(a.From.getD k default).size<=1048576:=by
 intro h0 h1 h2; exact (Qdc a left' h0 h1 h2).2.2.2.1
theorem g117_4 (a:ConfCand) (left':Int):0<=left'->left'<=1048576->0<=(F117 a left')->a.Lines.length<=1048576:=by
 intro h0 h1 h2; exact (Qdc a left' h0 h1 h2).2.2.2.2.1
theorem g117_5 (a:ConfCand) (left':Int):0<=left'->left'<=1048576->0<=(F117 a left')->∀ k:Nat,(a.Lines.getD k default).size<=1048576:=by
 intro h0 h1 h2; exact (Qdc a left' h0 h1 h2).2.2.2.2.2
theorem kc117 (a:ConfCand) (left':Int) {K_:Prop} (p0_:0<=left') (p1_:left'<=1048576) (p2_:Ke a) (k_:(0<=left'->left'<=1048576->0<=(F117 a left')->(F117 a left')<=left')->(0<=left'->left'<=1048576->0<=(F117 a left')->a.User.size<=1048576)->(0<=left'->left'<=1048576->0<=(F117 a left')->a.From.length<=1048576)->(0<=left'->left'<=1048576->0<=(F117 a left')->∀ k:Nat,(a.From.getD k default).size<=1048576)->(0<=left'->left'<=1048576->0<=(F117 a left')->a.Lines.length<=1048576)->(0<=left'->left'<=1048576->0<=(F117 a left')->∀ k:Nat,(a.Lines.getD k default).size<=1048576)->K_):(0<=left'/\left'<=1048576/\Ke a)/\(Imps (Uj a) (Uj a))/\(Imp (.v (vI left')) (.v (vI left')))/\K_:=⟨⟨p0_,p1_,p2_⟩,Imps.refl _,Imp.refl _,k_ (g117_0 a left') (g117_1 a left') (g117_2 a left') (g117_3 a left') (g117_4 a left') (g117_5 a left')⟩
abbrev kh117 (a:ConfCand) (left':Int):Hint true Tryz.prog:=.call 117 (S117 a left') (ok117 a left') none
def Qbg (a:List ConfCand) (left':Int):(Int×Int)->Lp (Int×Int) Int:=fun (left'1,i40) =>
 bif (decide (i40<(a.length:Int))) then (bif (decide ((F117 (a.getD i40.toNat default) left'1)<0)) then (.ret (-1)) else (.next ((F117 (a.getD i40.toNat default) left'1),(i40+1)))) else (.done (left'1,i40))
def F75 (a:List ConfCand) (left':Int):Int :=
 bif (decide ((left'-(a.length:Int))<0)) then (-1) else ((runL (Qbg a left') (((a.length:Int)-0).toNat+1) ((left'-(a.length:Int)),0)).fin (fun r=>r) (fun (left'1,i40)=>left'1))
abbrev Qec (a:List ConfCand) (left':Int):Nat×(Int×Int):=((((a.length:Int)-0).toNat+1),((left'-(a.length:Int)),0))
abbrev Qrw (a:List ConfCand) (m39:Nat) (left'1:Int) (i40:Int):Prop:=Int.toNat ((a.length:Int)-i40)<m39/\0<=left'1/\left'1<=1048576/\(0:Int)<=i40
abbrev Uel (a:List ConfCand) (left':Int):Lp (Int×Int) Int:=LpX (Qbg a left') (Qec a left')
abbrev Qek (a:List ConfCand) (left':Int) (i:Nat×(Int×Int)):Prop:=LpJ (Qbg a left') (Qec a left') i (Qrw a i.1 i.2.1 i.2.2)
abbrev Uhn (a:List ConfCand) (left':Int) (i:Nat×(Int×Int)) (m39:Nat) (left'1:Int) (i40:Int):Prop:=LpH (Qbg a left') (Qec a left') i m39 (left'1,i40) (Qrw a (m39+1) left'1 i40)
abbrev Ufz (a:List ConfCand) (left'1:Int) (i40:Int) (left'1_:Int) (i40_:Int) (K39:Prop):Prop:=((.int .i64 left'1:Value)=.int .i64 left'1_)/\((.int .i64 i40:Value)=.int .i64 i40_)/\(Im (.l 4 Uj a))/\K39
theorem un75_0 (a:List ConfCand) (left':Int) (i:Nat×(Int×Int)) (h:Qek a left' i):Uhn a left' i (i.1-1) i.2.1 i.2.2:=⟨hd1 h.1 h.2.1,hd3 h.2.1,hd2 h.2.1,h.2.2⟩
theorem bk75_0 (a:List ConfCand) (left':Int) (i:Nat×(Int×Int)) (m39:Nat) (left'1:Int) (i40:Int) (hl:m39<i.1) (e:runL (Qbg a left') m39 (left'1,i40)=Uel a left') (h:Qrw a m39 left'1 i40):∃ j:Nat×(Int×Int),Ufz a left'1 i40 j.2.1 j.2.2 (Qek a left' j/\j.1<i.1):=⟨(m39,(left'1,i40)),rfl,rfl,Imp.refl _,⟨e,h⟩,hl⟩
theorem en75_0 (a:List ConfCand) (left':Int) (h:0<=(left'-(a.length:Int))/\(left'-(a.length:Int))<=1048576/\(0:Int)<=0):Ufz a (left'-(a.length:Int)) 0 (left'-(a.length:Int)) 0 (Qek a left' (Qec a left')):=⟨rfl,rfl,Imp.refl _,rfl,Qn _,h⟩
def S75 (a:List ConfCand) (left':Int):Spec:=⟨[.r (.c (.l 4 Uj a)),.r (.c (.v (vI left')))],.v (vI (F75 a left')),0<=left'/\left'<=1048576/\(∀ k:Nat,Ke (a.getD k default))⟩
theorem ok75 (a:List ConfCand) (left':Int):(S75 a left').ok Tryz.prog 75 :=
 Ue mixed (fn:=Tryz.f75) (ct:=.seqk [(0,0)] .no (.seq (.reg [(3,.bnd)]) (.seq (.seq .no (.cond (.seq .no .no) .no)) (.seq (.seqk [(0,0)] .no (.blk (.loop (ι:=Nat×(Int×Int)) (fun i=>(fun (left'1:Int) (i40:Int)=>(⟨[(0,some (.h 0 0)),(1,some (.v (vI left'1))),(5,some (.v (vI i40)))],[(0,some (.shr none (.l 4 Uj a)))],1⟩:St)) i.2.1 i.2.2) (Qek a left') (fun i=>i.1) (Qec a left') (fun i=>(fun (left'1:Int) (i40:Int)=>(.seq (.seq .no (.cond .no .no)) (.seq (.blk (.seq (.reg [(5,kh117 (a.getD i40.toNat default) left'1)]) (.seq .no (.cond (.seq .no .no) .no)))) (.reg [(1,.bnd)])))) i.2.1 i.2.2)))) (.seq .no .no))))) Tryz.func75 (fun (hp:0<=left'/\left'<=1048576/\(∀ k:Nat,Ke (a.getD k default)))=>have hpre0:=hp.1; have hpre1:=hp.2.1; have hpre2:=hp.2.2; kn a fun _=>ai (iok (left'-(a.length:Int)) uu45) (ifd ((left'-(a.length:Int))<0) (fun h1 _=>fiI (-1) (F75 a left') (condT h1 rfl)) (fun h1 _=>kn a fun _=>ai (en75_0 a left' uu39) (fun (i0:Nat×(Int×Int)) (hi0:Qek a left' i0)=>(fun (m0:Nat) (left'1:Int) (i40:Int) (hh0:Uhn a left' i0 m0 left'1 i40)=>have hI0:=hh0.1; have hl0:=hh0.2.1; have _:=hh0.2.2.1; have _:=hh0.2.2.2; ifd (i40<(a.length:Int)) (fun h3 _=>ai (uu0:ib i40 a) (kc117 (a.getD i40.toNat default) left'1 uu31 uu31 uu31 (fun gv4 gv5 gv6 gv7 gv8 gv9=>ifd ((F117 (a.getD i40.toNat default) left'1)<0) (fun h10 _=>fiI (-1) (F75 a left') (condF h1 (finR (Um hI0 (condT h3 (condT h10 rfl))) rfl))) (fun h10 _=>ai (iok (i40+1) uu45) (bk75_0 a left' i0 m0 (F117 (a.getD i40.toNat default) left'1) (i40+1) hl0 (Ud hI0 (condT h3 (condF h10 rfl))) uu25))))) (fun h3 _=>have hD0_11:Uel a left'=Lp.done (left'1,i40):=Uh hI0 (condF h3 rfl); fiI left'1 (F75 a left') (condF h1 (finD hD0_11 rfl)))) (i0.1-1) i0.2.1 i0.2.2 (un75_0 a left' i0 hi0))))) uu1
theorem gb75 (a:List ConfCand) (left':Int):0<=left'->left'<=1048576->0<=(F75 a left')->(F75 a left')<=left'/\(a.length<=1048576)/\(∀ k:Nat,(a.getD k default).User.size<=1048576)/\(∀ k:Nat,(a.getD k default).From.length<=1048576)/\(∀ k:Nat,∀ k':Nat,((a.getD k default).From.getD k' default).size<=1048576)/\(∀ k:Nat,(a.getD k default).Lines.length<=1048576)/\(∀ k:Nat,∀ k':Nat,((a.getD k default).Lines.getD k' default).size<=1048576):=by
 intro h0 h1 h2
 simp only [F75] at h2 ⊢
 cases h:decide (left'-(a.length:Int)<0)
 ·simp only [h,Qe] at h2 ⊢
  have hc:=Qp h
  obtain ⟨hall,hle⟩:=Qmd F117 (fun x=>(x.User.size<=1048576)/\(x.From.length<=1048576)/\(∀ k:Nat,(x.From.getD k default).size<=1048576)/\(x.Lines.length<=1048576)/\(∀ k:Nat,(x.Lines.getD k default).size<=1048576)) (fun x l g0 g1 g2=>⟨(Qdc x l g0 g1 g2).2,(Qdc x l g0 g1 g2).1⟩) a (Qbg a left') (left'-(a.length:Int)) uu0 uu0 (fun l i=>rfl) h2
  exact ⟨Int.le_trans hle uu0,by omega,fun k=>by
   by_cases hk:k<a.length
   ·exact (hall k hk).1
   ·rw [Kq a uu0]; first | exact Qy _ | (intro k'; exact Qy _) | (intro k' k''; exact Qy _),fun k=>by
   by_cases hk:k<a.length
   ·exact (hall k hk).2.1
   ·rw [Kq a uu0]; first | exact Qy _ | (intro k'; exact Qy _) | (intro k' k''; exact Qy _),fun k=>by
   by_cases hk:k<a.length
   ·exact (hall k hk).2.2.1
   ·rw [Kq a uu0]; first | exact Qy _ | (intro k'; exact Qy _) | (intro k' k''; exact Qy _),fun k=>by
   by_cases hk:k<a.length
   ·exact (hall k hk).2.2.2.1
   ·rw [Kq a uu0]; first | exact Qy _ | (intro k'; exact Qy _) | (intro k' k''; exact Qy _),fun k=>by
   by_cases hk:k<a.length
   ·exact (hall k hk).2.2.2.2
   ·rw [Kq a uu0]; first | exact Qy _ | (intro k'; exact Qy _) | (intro k' k''; exact Qy _)⟩
 ·simp only [h,Qc] at h2
  exact absurd h2 uu2
theorem g75_0 (a:List ConfCand) (left':Int):0<=left'->left'<=1048576->0<=(F75 a left')->(F75 a left')<=left':=by
 intro h0 h1 h2; exact (gb75 a left' h0 h1 h2).1
theorem g75_1 (a:List ConfCand) (left':Int):0<=left'->left'<=1048576->0<=(F75 a left')->a.length<=1048576:=by
 intro h0 h1 h2; exact (gb75 a left' h0 h1 h2).2.1
theorem g75_2 (a:List ConfCand) (left':Int):0<=left'->left'<=1048576->0<=(F75 a left')->∀ k:Nat,(a.getD k default).User.size<=1048576:=by
 intro h0 h1 h2; exact (gb75 a left' h0 h1 h2).2.2.1
theorem g75_3 (a:List ConfCand) (left':Int):0<=left'->left'<=1048576->0<=(F75 a left')->∀ k:Nat,(a.getD k default).From.length<=1048576:=by
 intro h0 h1 h2; exact (gb75 a left' h0 h1 h2).2.2.2.1
theorem g75_4 (a:List ConfCand) (left':Int):0<=left'->left'<=1048576->0<=(F75 a left')->∀ k:Nat,∀ k':Nat,((a.getD k default).From.getD k' default).size<=1048576:=by
 intro h0 h1 h2; exact (gb75 a left' h0 h1 h2).2.2.2.2.1
theorem g75_5 (a:List ConfCand) (left':Int):0<=left'->left'<=1048576->0<=(F75 a left')->∀ k:Nat,(a.getD k default).Lines.length<=1048576:=by
 intro h0 h1 h2; exact (gb75 a left' h0 h1 h2).2.2.2.2.2.1
theorem g75_6 (a:List ConfCand) (left':Int):0<=left'->left'<=1048576->0<=(F75 a left')->∀ k:Nat,∀ k':Nat,((a.getD k default).Lines.getD k' default).size<=1048576:=by
 intro h0 h1 h2; exact (gb75 a left' h0 h1 h2).2.2.2.2.2.2
abbrev Br (x:ConfBox):Prop:=(∀ k:Nat,(x.Lines.getD k default).size<=9223372036854775807)/\(∀ k:Nat,(x.Back.getD k default).size<=9223372036854775807)/\(∀ k:Nat,Ke (x.Cands.getD k default))
theorem kc75 (a:List ConfCand) (left':Int) {K_:Prop} (p0_:0<=left') (p1_:left'<=1048576) (p2_:∀ k:Nat,Ke (a.getD k default)) (k_:(0<=left'->left'<=1048576->0<=(F75 a left')->(F75 a left')<=left')->(0<=left'->left'<=1048576->0<=(F75 a left')->a.length<=1048576)->(0<=left'->left'<=1048576->0<=(F75 a left')->∀ k:Nat,(a.getD k default).User.size<=1048576)->(0<=left'->left'<=1048576->0<=(F75 a left')->∀ k:Nat,(a.getD k default).From.length<=1048576)->(0<=left'->left'<=1048576->0<=(F75 a left')->∀ k:Nat,∀ k':Nat,((a.getD k default).From.getD k' default).size<=1048576)->(0<=left'->left'<=1048576->0<=(F75 a left')->∀ k:Nat,(a.getD k default).Lines.length<=1048576)->(0<=left'->left'<=1048576->0<=(F75 a left')->∀ k:Nat,∀ k':Nat,((a.getD k default).Lines.getD k' default).size<=1048576)->K_):(0<=left'/\left'<=1048576/\(∀ k:Nat,Ke (a.getD k default)))/\(Imp (.l 4 Uj a) (.l 4 Uj a))/\(Imp (.v (vI left')) (.v (vI left')))/\K_:=⟨⟨p0_,p1_,p2_⟩,Imp.refl _,Imp.refl _,k_ (g75_0 a left') (g75_1 a left') (g75_2 a left') (g75_3 a left') (g75_4 a left') (g75_5 a left') (g75_6 a left')⟩
abbrev kh75 (a:List ConfCand) (left':Int):Hint true Tryz.prog:=.call 75 (S75 a left') (ok75 a left') none
def F42 (a:ConfBox) (left':Int):Int :=
 bif (decide ((F7 a.Lines left')<0)) then (-1) else (bif (decide ((F7 a.Back (F7 a.Lines left'))<0)) then (-1) else (bif (decide ((F75 a.Cands (F7 a.Back (F7 a.Lines left')))<0)) then (-1) else (F75 a.Cands (F7 a.Back (F7 a.Lines left')))))
def S42 (a:ConfBox) (left':Int):Spec:=⟨[.r (.g (Yk a)),.r (.c (.v (vI left')))],.v (vI (F42 a left')),0<=left'/\left'<=1048576/\Br a⟩
theorem ok42 (a:ConfBox) (left':Int):(S42 a left').ok Tryz.prog 42 :=
 Ue mixed (fn:=Tryz.f42) (ct:=.seq .no (.seq (.reg [(3,kh7 a.Lines left')]) (.seq (.seq .no (.cond (.seq .no .no) .no)) (.seq (.reg [(3,kh7 a.Back (F7 a.Lines left'))]) (.seq (.seq .no (.cond (.seq .no .no) .no)) (.seq (.reg [(3,kh75 a.Cands (F7 a.Back (F7 a.Lines left')))]) (.seq (.seq .no (.cond (.seq .no .no) .no)) (.seq .no .no)))))))) Tryz.func42 (fun (hp:0<=left'/\left'<=1048576/\Br a)=>have hpre0:=hp.1; have hpre1:=hp.2.1; have hpre2:=hp.2.2; kc7 a.Lines left' uu7 uu7 uu7 (fun gv1 gv2 gv3=>ifd ((F7 a.Lines left')<0) (fun h4 _=>fiI (-1) (F42 a left') (condT h4 rfl)) (fun h4 _=>kc7 a.Back (F7 a.Lines left') uu7 uu7 uu7 (fun gv5 gv6 gv7=>ifd ((F7 a.Back (F7 a.Lines left'))<0) (fun h8 _=>fiI (-1) (F42 a left') (condF h4 (condT h8 rfl))) (fun h8 _=>kc75 a.Cands (F7 a.Back (F7 a.Lines left')) uu7 uu7 uu7 (fun gv9 gv10 gv11 gv12 gv13 gv14 gv15=>ifd ((F75 a.Cands (F7 a.Back (F7 a.Lines left')))<0) (fun h16 _=>fiI (-1) (F42 a left') (condF h4 (condF h8 (condT h16 rfl)))) (fun h16 _=>fiI (F75 a.Cands (F7 a.Back (F7 a.Lines left'))) (F42 a left') (condF h4 (condF h8 (condF h16 rfl)))))))))) uu1
theorem gb42 (a:ConfBox) (left':Int):0<=left'->left'<=1048576->0<=(F42 a left')->(F42 a left')<=left'/\(a.Lines.length<=1048576)/\(∀ k:Nat,(a.Lines.getD k default).size<=1048576)/\(a.Back.length<=1048576)/\(∀ k:Nat,(a.Back.getD k default).size<=1048576)/\(a.Cands.length<=1048576)/\(∀ k:Nat,(a.Cands.getD k default).User.size<=1048576)/\(∀ k:Nat,(a.Cands.getD k default).From.length<=1048576)/\(∀ k:Nat,∀ k':Nat,((a.Cands.getD k default).From.getD k' default).size<=1048576)/\(∀ k:Nat,(a.Cands.getD k default).Lines.length<=1048576)/\(∀ k:Nat,∀ k':Nat,((a.Cands.getD k default).Lines.getD k' default).size<=1048576):=by
 intro h0 h1 h2
 simp only [F42] at h2 ⊢
 rcases Rn ((F7 a.Lines left')<0) with hq0 | hq0
 ·rw [Qs hq0,Qc] at h2; exact absurd h2 uu2
 rw [Qk hq0,Qe] at h2 ⊢
 have gq0:=gb7 a.Lines left' uu0 uu0 uu0
 have lq0:=gq0.1
 rcases Rn ((F7 a.Back (F7 a.Lines left'))<0) with hq1 | hq1
 ·rw [Qs hq1,Qc] at h2; exact absurd h2 uu2
 rw [Qk hq1,Qe] at h2 ⊢
 have gq1:=gb7 a.Back (F7 a.Lines left') uu0 uu0 uu0
 have lq1:=gq1.1
 rcases Rn ((F75 a.Cands (F7 a.Back (F7 a.Lines left')))<0) with hq2 | hq2
 ·rw [Qs hq2,Qc] at h2; exact absurd h2 uu2
 rw [Qk hq2,Qe] at h2 ⊢
 have gq2:=gb75 a.Cands (F7 a.Back (F7 a.Lines left')) uu0 uu0 uu0
 have lq2:=gq2.1
 exact ⟨by omega,gq0.2.1,gq0.2.2,gq1.2.1,gq1.2.2,gq2.2.1,gq2.2.2.1,gq2.2.2.2.1,gq2.2.2.2.2.1,gq2.2.2.2.2.2.1,gq2.2.2.2.2.2.2⟩
theorem g42_0 (a:ConfBox) (left':Int):0<=left'->left'<=1048576->0<=(F42 a left')->(F42 a left')<=left':=by
 intro h0 h1 h2; exact (gb42 a left' h0 h1 h2).1
theorem g42_1 (a:ConfBox) (left':Int):0<=left'->left'<=1048576->0<=(F42 a left')->a.Lines.length<=1048576:=by
 intro h0 h1 h2; exact (gb42 a left' h0 h1 h2).2.1
theorem g42_2 (a:ConfBox) (left':Int):0<=left'->left'<=1048576->0<=(F42 a left')->∀ k:Nat,(a.Lines.getD k default).size<=1048576:=by
 intro h0 h1 h2; exact (gb42 a left' h0 h1 h2).2.2.1
theorem g42_3 (a:ConfBox) (left':Int):0<=left'->left'<=1048576->0<=(F42 a left')->a.Back.length<=1048576:=by
 intro h0 h1 h2; exact (gb42 a left' h0 h1 h2).2.2.2.1
theorem g42_4 (a:ConfBox) (left':Int):0<=left'->left'<=1048576->0<=(F42 a left')->∀ k:Nat,(a.Back.getD k default).size<=1048576:=by
 intro h0 h1 h2; exact (gb42 a left' h0 h1 h2).2.2.2.2.1
theorem g42_5 (a:ConfBox) (left':Int):0<=left'->left'<=1048576->0<=(F42 a left')->a.Cands.length<=1048576:=by
 intro h0 h1 h2; exact (gb42 a left' h0 h1 h2).2.2.2.2.2.1
theorem g42_6 (a:ConfBox) (left':Int):0<=left'->left'<=1048576->0<=(F42 a left')->∀ k:Nat,(a.Cands.getD k default).User.size<=1048576:=by
 intro h0 h1 h2; exact (gb42 a left' h0 h1 h2).2.2.2.2.2.2.1
theorem g42_7 (a:ConfBox) (left':Int):0<=left'->left'<=1048576->0<=(F42 a left')->∀ k:Nat,(a.Cands.getD k default).From.length<=1048576:=by
 intro h0 h1 h2; exact (gb42 a left' h0 h1 h2).2.2.2.2.2.2.2.1
theorem g42_8 (a:ConfBox) (left':Int):0<=left'->left'<=1048576->0<=(F42 a left')->∀ k:Nat,∀ k':Nat,((a.Cands.getD k default).From.getD k' default).size<=1048576:=by
 intro h0 h1 h2; exact (gb42 a left' h0 h1 h2).2.2.2.2.2.2.2.2.1
theorem g42_9 (a:ConfBox) (left':Int):0<=left'->left'<=1048576->0<=(F42 a left')->∀ k:Nat,(a.Cands.getD k default).Lines.length<=1048576:=by
 intro h0 h1 h2; exact (gb42 a left' h0 h1 h2).2.2.2.2.2.2.2.2.2.1
theorem g42_10 (a:ConfBox) (left':Int):0<=left'->left'<=1048576->0<=(F42 a left')->∀ k:Nat,∀ k':Nat,((a.Cands.getD k default).Lines.getD k' default).size<=1048576:=by
 intro h0 h1 h2; exact (gb42 a left' h0 h1 h2).2.2.2.2.2.2.2.2.2.2
abbrev Kf (x:ConfSlot):Prop:=(∀ k:Nat,(x.Lines.getD k default).size<=9223372036854775807)
def F76 (a:ConfSlot) (left':Int):Int :=
 bif (decide ((F7 a.Lines left')<0)) then (-1) else (F7 a.Lines left')
def S76 (a:ConfSlot) (left':Int):Spec:=⟨[.r (.g (Uk a)),.r (.c (.v (vI left')))],.v (vI (F76 a left')),0<=left'/\left'<=1048576/\Kf a⟩
theorem ok76 (a:ConfSlot) (left':Int):(S76 a left').ok Tryz.prog 76 :=
 Ue mixed (fn:=Tryz.f76) (ct:=.seq .no (.seq (.reg [(3,kh7 a.Lines left')]) (.seq (.seq .no (.cond (.seq .no .no) .no)) (.seq .no .no)))) Tryz.func76 (fun (hp:0<=left'/\left'<=1048576/\Kf a)=>have hpre0:=hp.1; have hpre1:=hp.2.1; have hpre2:=hp.2.2; kc7 a.Lines left' uu7 uu7 uu7 (fun gv1 gv2 gv3=>ifd ((F7 a.Lines left')<0) (fun h4 _=>fiI (-1) (F76 a left') (condT h4 rfl)) (fun h4 _=>fiI (F7 a.Lines left') (F76 a left') (condF h4 rfl)))) uu1
theorem gb76 (a:ConfSlot) (left':Int):0<=left'->left'<=1048576->0<=(F76 a left')->(F76 a left')<=left'/\(a.Lines.length<=1048576)/\(∀ k:Nat,(a.Lines.getD k default).size<=1048576):=by
 intro h0 h1 h2
 simp only [F76] at h2 ⊢
 rcases Rn ((F7 a.Lines left')<0) with hq0 | hq0
 ·rw [Qs hq0,Qc] at h2; exact absurd h2 uu2
 rw [Qk hq0,Qe] at h2 ⊢
 have gq0:=gb7 a.Lines left' uu0 uu0 uu0
 have lq0:=gq0.1
 exact ⟨by omega,gq0.2.1,gq0.2.2⟩
theorem g76_0 (a:ConfSlot) (left':Int):0<=left'->left'<=1048576->0<=(F76 a left')->(F76 a left')<=left':=by
 intro h0 h1 h2; exact (gb76 a left' h0 h1 h2).1
theorem g76_1 (a:ConfSlot) (left':Int):0<=left'->left'<=1048576->0<=(F76 a left')->a.Lines.length<=1048576:=by
 intro h0 h1 h2; exact (gb76 a left' h0 h1 h2).2.1
theorem g76_2 (a:ConfSlot) (left':Int):0<=left'->left'<=1048576->0<=(F76 a left')->∀ k:Nat,(a.Lines.getD k default).size<=1048576:=by
 intro h0 h1 h2; exact (gb76 a left' h0 h1 h2).2.2
theorem kc76 (a:ConfSlot) (left':Int) {K_:Prop} (p0_:0<=left') (p1_:left'<=1048576) (p2_:Kf a) (k_:(0<=left'->left'<=1048576->0<=(F76 a left')->(F76 a left')<=left')->(0<=left'->left'<=1048576->0<=(F76 a left')->a.Lines.length<=1048576)->(0<=left'->left'<=1048576->0<=(F76 a left')->∀ k:Nat,(a.Lines.getD k default).size<=1048576)->K_):(0<=left'/\left'<=1048576/\Kf a)/\(Imps (Uk a) (Uk a))/\(Imp (.v (vI left')) (.v (vI left')))/\K_:=⟨⟨p0_,p1_,p2_⟩,Imps.refl _,Imp.refl _,k_ (g76_0 a left') (g76_1 a left') (g76_2 a left')⟩
abbrev kh76 (a:ConfSlot) (left':Int):Hint true Tryz.prog:=.call 76 (S76 a left') (ok76 a left') none
def Qbe (a:List ConfSlot) (left':Int):(Int×Int)->Lp (Int×Int) Int:=fun (left'1,i40) =>
 bif (decide (i40<(a.length:Int))) then (bif (decide ((F76 (a.getD i40.toNat default) left'1)<0)) then (.ret (-1)) else (.next ((F76 (a.getD i40.toNat default) left'1),(i40+1)))) else (.done (left'1,i40))
def F43 (a:List ConfSlot) (left':Int):Int :=
 bif (decide ((left'-(a.length:Int))<0)) then (-1) else ((runL (Qbe a left') (((a.length:Int)-0).toNat+1) ((left'-(a.length:Int)),0)).fin (fun r=>r) (fun (left'1,i40)=>left'1))
abbrev Qfx (a:List ConfSlot) (left':Int):Nat×(Int×Int):=((((a.length:Int)-0).toNat+1),((left'-(a.length:Int)),0))
abbrev Qtc (a:List ConfSlot) (m39:Nat) (left'1:Int) (i40:Int):Prop:=Int.toNat ((a.length:Int)-i40)<m39/\0<=left'1/\left'1<=1048576/\(0:Int)<=i40
abbrev Ugs (a:List ConfSlot) (left':Int):Lp (Int×Int) Int:=LpX (Qbe a left') (Qfx a left')
abbrev Qgc (a:List ConfSlot) (left':Int) (i:Nat×(Int×Int)):Prop:=LpJ (Qbe a left') (Qfx a left') i (Qtc a i.1 i.2.1 i.2.2)
abbrev Ued (a:List ConfSlot) (left':Int) (i:Nat×(Int×Int)) (m39:Nat) (left'1:Int) (i40:Int):Prop:=LpH (Qbe a left') (Qfx a left') i m39 (left'1,i40) (Qtc a (m39+1) left'1 i40)
abbrev Uhw (a:List ConfSlot) (left'1:Int) (i40:Int) (left'1_:Int) (i40_:Int) (K39:Prop):Prop:=((.int .i64 left'1:Value)=.int .i64 left'1_)/\((.int .i64 i40:Value)=.int .i64 i40_)/\(Im (.l 4 Uk a))/\K39
theorem un43_0 (a:List ConfSlot) (left':Int) (i:Nat×(Int×Int)) (h:Qgc a left' i):Ued a left' i (i.1-1) i.2.1 i.2.2:=⟨hd1 h.1 h.2.1,hd3 h.2.1,hd2 h.2.1,h.2.2⟩
theorem bk43_0 (a:List ConfSlot) (left':Int) (i:Nat×(Int×Int)) (m39:Nat) (left'1:Int) (i40:Int) (hl:m39<i.1) (e:runL (Qbe a left') m39 (left'1,i40)=Ugs a left') (h:Qtc a m39 left'1 i40):∃ j:Nat×(Int×Int),Uhw a left'1 i40 j.2.1 j.2.2 (Qgc a left' j/\j.1<i.1):=⟨(m39,(left'1,i40)),rfl,rfl,Imp.refl _,⟨e,h⟩,hl⟩
theorem en43_0 (a:List ConfSlot) (left':Int) (h:0<=(left'-(a.length:Int))/\(left'-(a.length:Int))<=1048576/\(0:Int)<=0):Uhw a (left'-(a.length:Int)) 0 (left'-(a.length:Int)) 0 (Qgc a left' (Qfx a left')):=⟨rfl,rfl,Imp.refl _,rfl,Qn _,h⟩
def S43 (a:List ConfSlot) (left':Int):Spec:=⟨[.r (.c (.l 4 Uk a)),.r (.c (.v (vI left')))],.v (vI (F43 a left')),0<=left'/\left'<=1048576/\(∀ k:Nat,Kf (a.getD k default))⟩
theorem ok43 (a:List ConfSlot) (left':Int):(S43 a left').ok Tryz.prog 43 :=
 Ue mixed (fn:=Tryz.f43) (ct:=.seqk [(0,0)] .no (.seq (.reg [(3,.bnd)]) (.seq (.seq .no (.cond (.seq .no .no) .no)) (.seq (.seqk [(0,0)] .no (.blk (.loop (ι:=Nat×(Int×Int)) (fun i=>(fun (left'1:Int) (i40:Int)=>(⟨[(0,some (.h 0 0)),(1,some (.v (vI left'1))),(5,some (.v (vI i40)))],[(0,some (.shr none (.l 4 Uk a)))],1⟩:St)) i.2.1 i.2.2) (Qgc a left') (fun i=>i.1) (Qfx a left') (fun i=>(fun (left'1:Int) (i40:Int)=>(.seq (.seq .no (.cond .no .no)) (.seq (.blk (.seq (.reg [(5,kh76 (a.getD i40.toNat default) left'1)]) (.seq .no (.cond (.seq .no .no) .no)))) (.reg [(1,.bnd)])))) i.2.1 i.2.2)))) (.seq .no .no))))) Tryz.func43 (fun (hp:0<=left'/\left'<=1048576/\(∀ k:Nat,Kf (a.getD k default)))=>have hpre0:=hp.1; have hpre1:=hp.2.1; have hpre2:=hp.2.2; kn a fun _=>ai (iok (left'-(a.length:Int)) uu45) (ifd ((left'-(a.length:Int))<0) (fun h1 _=>fiI (-1) (F43 a left') (condT h1 rfl)) (fun h1 _=>kn a fun _=>ai (en43_0 a left' uu39) (fun (i0:Nat×(Int×Int)) (hi0:Qgc a left' i0)=>(fun (m0:Nat) (left'1:Int) (i40:Int) (hh0:Ued a left' i0 m0 left'1 i40)=>have hI0:=hh0.1; have hl0:=hh0.2.1; have _:=hh0.2.2.1; have _:=hh0.2.2.2; ifd (i40<(a.length:Int)) (fun h3 _=>ai (uu0:ib i40 a) (kc76 (a.getD i40.toNat default) left'1 uu31 uu31 uu31 (fun gv4 gv5 gv6=>ifd ((F76 (a.getD i40.toNat default) left'1)<0) (fun h7 _=>fiI (-1) (F43 a left') (condF h1 (finR (Um hI0 (condT h3 (condT h7 rfl))) rfl))) (fun h7 _=>ai (iok (i40+1) uu45) (bk43_0 a left' i0 m0 (F76 (a.getD i40.toNat default) left'1) (i40+1) hl0 (Ud hI0 (condT h3 (condF h7 rfl))) uu25))))) (fun h3 _=>have hD0_8:Ugs a left'=Lp.done (left'1,i40):=Uh hI0 (condF h3 rfl); fiI left'1 (F43 a left') (condF h1 (finD hD0_8 rfl)))) (i0.1-1) i0.2.1 i0.2.2 (un43_0 a left' i0 hi0))))) uu1
theorem gb43 (a:List ConfSlot) (left':Int):0<=left'->left'<=1048576->0<=(F43 a left')->(F43 a left')<=left'/\(a.length<=1048576)/\(∀ k:Nat,(a.getD k default).Lines.length<=1048576)/\(∀ k:Nat,∀ k':Nat,((a.getD k default).Lines.getD k' default).size<=1048576):=by
 intro h0 h1 h2
 simp only [F43] at h2 ⊢
 cases h:decide (left'-(a.length:Int)<0)
 ·simp only [h,Qe] at h2 ⊢
  have hc:=Qp h
  obtain ⟨hall,hle⟩:=Qmd F76 (fun x=>(x.Lines.length<=1048576)/\(∀ k:Nat,(x.Lines.getD k default).size<=1048576)) (fun x l g0 g1 g2=>⟨(gb76 x l g0 g1 g2).2,(gb76 x l g0 g1 g2).1⟩) a (Qbe a left') (left'-(a.length:Int)) uu0 uu0 (fun l i=>rfl) h2
  exact ⟨Int.le_trans hle uu0,by omega,fun k=>by
   by_cases hk:k<a.length
   ·exact (hall k hk).1
   ·rw [Kq a uu0]; first | exact Qy _ | (intro k'; exact Qy _) | (intro k' k''; exact Qy _),fun k=>by
   by_cases hk:k<a.length
   ·exact (hall k hk).2
   ·rw [Kq a uu0]; first | exact Qy _ | (intro k'; exact Qy _) | (intro k' k''; exact Qy _)⟩
 ·simp only [h,Qc] at h2
  exact absurd h2 uu2
theorem g43_0 (a:List ConfSlot) (left':Int):0<=left'->left'<=1048576->0<=(F43 a left')->(F43 a left')<=left':=by
 intro h0 h1 h2; exact (gb43 a left' h0 h1 h2).1
theorem g43_1 (a:List ConfSlot) (left':Int):0<=left'->left'<=1048576->0<=(F43 a left')->a.length<=1048576:=by
 intro h0 h1 h2; exact (gb43 a left' h0 h1 h2).2.1
theorem g43_2 (a:List ConfSlot) (left':Int):0<=left'->left'<=1048576->0<=(F43 a left')->∀ k:Nat,(a.getD k default).Lines.length<=1048576:=by
 intro h0 h1 h2; exact (gb43 a left' h0 h1 h2).2.2.1
theorem g43_3 (a:List ConfSlot) (left':Int):0<=left'->left'<=1048576->0<=(F43 a left')->∀ k:Nat,∀ k':Nat,((a.getD k default).Lines.getD k' default).size<=1048576:=by
 intro h0 h1 h2; exact (gb43 a left' h0 h1 h2).2.2.2
abbrev Bo (x:ConfJob):Prop:=(∀ k:Nat,(x.Lines.getD k default).size<=9223372036854775807)
def F44 (a:ConfJob) (left':Int):Int :=
 bif (decide ((F7 a.Lines left')<0)) then (-1) else (F7 a.Lines left')
def S44 (a:ConfJob) (left':Int):Spec:=⟨[.r (.g (Ya a)),.r (.c (.v (vI left')))],.v (vI (F44 a left')),0<=left'/\left'<=1048576/\Bo a⟩
theorem ok44 (a:ConfJob) (left':Int):(S44 a left').ok Tryz.prog 44 :=
 Ue mixed (fn:=Tryz.f44) (ct:=.seq .no (.seq (.reg [(3,kh7 a.Lines left')]) (.seq (.seq .no (.cond (.seq .no .no) .no)) (.seq .no .no)))) Tryz.func44 (fun (hp:0<=left'/\left'<=1048576/\Bo a)=>have hpre0:=hp.1; have hpre1:=hp.2.1; have hpre2:=hp.2.2; kc7 a.Lines left' uu7 uu7 uu7 (fun gv1 gv2 gv3=>ifd ((F7 a.Lines left')<0) (fun h4 _=>fiI (-1) (F44 a left') (condT h4 rfl)) (fun h4 _=>fiI (F7 a.Lines left') (F44 a left') (condF h4 rfl)))) uu1
theorem gb44 (a:ConfJob) (left':Int):0<=left'->left'<=1048576->0<=(F44 a left')->(F44 a left')<=left'/\(a.Lines.length<=1048576)/\(∀ k:Nat,(a.Lines.getD k default).size<=1048576):=by
 intro h0 h1 h2
 simp only [F44] at h2 ⊢
 rcases Rn ((F7 a.Lines left')<0) with hq0 | hq0
 ·rw [Qs hq0,Qc] at h2; exact absurd h2 uu2
 rw [Qk hq0,Qe] at h2 ⊢
 have gq0:=gb7 a.Lines left' uu0 uu0 uu0
 have lq0:=gq0.1
 exact ⟨by omega,gq0.2.1,gq0.2.2⟩
theorem g44_0 (a:ConfJob) (left':Int):0<=left'->left'<=1048576->0<=(F44 a left')->(F44 a left')<=left':=by
 intro h0 h1 h2; exact (gb44 a left' h0 h1 h2).1
theorem g44_1 (a:ConfJob) (left':Int):0<=left'->left'<=1048576->0<=(F44 a left')->a.Lines.length<=1048576:=by
 intro h0 h1 h2; exact (gb44 a left' h0 h1 h2).2.1
theorem g44_2 (a:ConfJob) (left':Int):0<=left'->left'<=1048576->0<=(F44 a left')->∀ k:Nat,(a.Lines.getD k default).size<=1048576:=by
 intro h0 h1 h2; exact (gb44 a left' h0 h1 h2).2.2
abbrev Wl (x:ConfStore):Prop:=(Br x.Box)/\(∀ k:Nat,Kf (x.Slots.getD k default))/\(Bo x.Job)
theorem kc42 (a:ConfBox) (left':Int) {K_:Prop} (p0_:0<=left') (p1_:left'<=1048576) (p2_:Br a) (k_:(0<=left'->left'<=1048576->0<=(F42 a left')->(F42 a left')<=left')->(0<=left'->left'<=1048576->0<=(F42 a left')->a.Lines.length<=1048576)->(0<=left'->left'<=1048576->0<=(F42 a left')->∀ k:Nat,(a.Lines.getD k default).size<=1048576)->(0<=left'->left'<=1048576->0<=(F42 a left')->a.Back.length<=1048576)->(0<=left'->left'<=1048576->0<=(F42 a left')->∀ k:Nat,(a.Back.getD k default).size<=1048576)->(0<=left'->left'<=1048576->0<=(F42 a left')->a.Cands.length<=1048576)->(0<=left'->left'<=1048576->0<=(F42 a left')->∀ k:Nat,(a.Cands.getD k default).User.size<=1048576)->(0<=left'->left'<=1048576->0<=(F42 a left')->∀ k:Nat,(a.Cands.getD k default).From.length<=1048576)->(0<=left'->left'<=1048576->0<=(F42 a left')->∀ k:Nat,∀ k':Nat,((a.Cands.getD k default).From.getD k' default).size<=1048576)->(0<=left'->left'<=1048576->0<=(F42 a left')->∀ k:Nat,(a.Cands.getD k default).Lines.length<=1048576)->(0<=left'->left'<=1048576->0<=(F42 a left')->∀ k:Nat,∀ k':Nat,((a.Cands.getD k default).Lines.getD k' default).size<=1048576)->K_):(0<=left'/\left'<=1048576/\Br a)/\(Imps (Yk a) (Yk a))/\(Imp (.v (vI left')) (.v (vI left')))/\K_:=⟨⟨p0_,p1_,p2_⟩,Imps.refl _,Imp.refl _,k_ (g42_0 a left') (g42_1 a left') (g42_2 a left') (g42_3 a left') (g42_4 a left') (g42_5 a left') (g42_6 a left') (g42_7 a left') (g42_8 a left') (g42_9 a left') (g42_10 a left')⟩
abbrev kh42 (a:ConfBox) (left':Int):Hint true Tryz.prog:=.call 42 (S42 a left') (ok42 a left') none
theorem kc43 (a:List ConfSlot) (left':Int) {K_:Prop} (p0_:0<=left') (p1_:left'<=1048576) (p2_:∀ k:Nat,Kf (a.getD k default)) (k_:(0<=left'->left'<=1048576->0<=(F43 a left')->(F43 a left')<=left')->(0<=left'->left'<=1048576->0<=(F43 a left')->a.length<=1048576)->(0<=left'->left'<=1048576->0<=(F43 a left')->∀ k:Nat,(a.getD k default).Lines.length<=1048576)->(0<=left'->left'<=1048576->0<=(F43 a left')->∀ k:Nat,∀ k':Nat,((a.getD k default).Lines.getD k' default).size<=1048576)->K_):(0<=left'/\left'<=1048576/\(∀ k:Nat,Kf (a.getD k default)))/\(Imp (.l 4 Uk a) (.l 4 Uk a))/\(Imp (.v (vI left')) (.v (vI left')))/\K_:=⟨⟨p0_,p1_,p2_⟩,Imp.refl _,Imp.refl _,k_ (g43_0 a left') (g43_1 a left') (g43_2 a left') (g43_3 a left')⟩
abbrev kh43 (a:List ConfSlot) (left':Int):Hint true Tryz.prog:=.call 43 (S43 a left') (ok43 a left') none
theorem kc44 (a:ConfJob) (left':Int) {K_:Prop} (p0_:0<=left') (p1_:left'<=1048576) (p2_:Bo a) (k_:(0<=left'->left'<=1048576->0<=(F44 a left')->(F44 a left')<=left')->(0<=left'->left'<=1048576->0<=(F44 a left')->a.Lines.length<=1048576)->(0<=left'->left'<=1048576->0<=(F44 a left')->∀ k:Nat,(a.Lines.getD k default).size<=1048576)->K_):(0<=left'/\left'<=1048576/\Bo a)/\(Imps (Ya a) (Ya a))/\(Imp (.v (vI left')) (.v (vI left')))/\K_:=⟨⟨p0_,p1_,p2_⟩,Imps.refl _,Imp.refl _,k_ (g44_0 a left') (g44_1 a left') (g44_2 a left')⟩
abbrev kh44 (a:ConfJob) (left':Int):Hint true Tryz.prog:=.call 44 (S44 a left') (ok44 a left') none
def F18 (a:ConfStore) (left':Int):Int :=
 bif (decide ((F42 a.Box left')<0)) then (-1) else (bif (decide ((F43 a.Slots (F42 a.Box left'))<0)) then (-1) else (bif (decide ((F44 a.Job (F43 a.Slots (F42 a.Box left')))<0)) then (-1) else (F44 a.Job (F43 a.Slots (F42 a.Box left')))))
def S18 (a:ConfStore) (left':Int):Spec:=⟨[.r (.g (Ug a)),.r (.c (.v (vI left')))],.v (vI (F18 a left')),0<=left'/\left'<=1048576/\Wl a⟩
theorem ok18 (a:ConfStore) (left':Int):(S18 a left').ok Tryz.prog 18 :=
 Ue mixed (fn:=Tryz.f18) (ct:=.seq .no (.seq (.reg [(3,kh42 a.Box left')]) (.seq (.seq .no (.cond (.seq .no .no) .no)) (.seq (.reg [(3,kh43 a.Slots (F42 a.Box left'))]) (.seq (.seq .no (.cond (.seq .no .no) .no)) (.seq (.reg [(3,kh44 a.Job (F43 a.Slots (F42 a.Box left')))]) (.seq (.seq .no (.cond (.seq .no .no) .no)) (.seq .no .no)))))))) Tryz.func18 (fun (hp:0<=left'/\left'<=1048576/\Wl a)=>have hpre0:=hp.1; have hpre1:=hp.2.1; have hpre2:=hp.2.2; kc42 a.Box left' uu7 uu7 uu7 (fun gv1 gv2 gv3 gv4 gv5 gv6 gv7 gv8 gv9 gv10 gv11=>ifd ((F42 a.Box left')<0) (fun h12 _=>fiI (-1) (F18 a left') (condT h12 rfl)) (fun h12 _=>kc43 a.Slots (F42 a.Box left') uu7 uu7 uu7 (fun gv13 gv14 gv15 gv16=>ifd ((F43 a.Slots (F42 a.Box left'))<0) (fun h17 _=>fiI (-1) (F18 a left') (condF h12 (condT h17 rfl))) (fun h17 _=>kc44 a.Job (F43 a.Slots (F42 a.Box left')) uu7 uu7 uu7 (fun gv18 gv19 gv20=>ifd ((F44 a.Job (F43 a.Slots (F42 a.Box left')))<0) (fun h21 _=>fiI (-1) (F18 a left') (condF h12 (condF h17 (condT h21 rfl)))) (fun h21 _=>fiI (F44 a.Job (F43 a.Slots (F42 a.Box left'))) (F18 a left') (condF h12 (condF h17 (condF h21 rfl)))))))))) uu1
theorem gb18 (a:ConfStore) (left':Int):0<=left'->left'<=1048576->0<=(F18 a left')->(F18 a left')<=left'/\(a.Box.Lines.length<=1048576)/\(∀ k:Nat,(a.Box.Lines.getD k default).size<=1048576)/\(a.Box.Back.length<=1048576)/\(∀ k:Nat,(a.Box.Back.getD k default).size<=1048576)/\(a.Box.Cands.length<=1048576)/\(∀ k:Nat,(a.Box.Cands.getD k default).User.size<=1048576)/\(∀ k:Nat,(a.Box.Cands.getD k default).From.length<=1048576)/\(∀ k:Nat,∀ k':Nat,((a.Box.Cands.getD k default).From.getD k' default).size<=1048576)/\(∀ k:Nat,(a.Box.Cands.getD k default).Lines.length<=1048576)/\(∀ k:Nat,∀ k':Nat,((a.Box.Cands.getD k default).Lines.getD k' default).size<=1048576)/\(a.Slots.length<=1048576)/\(∀ k:Nat,(a.Slots.getD k default).Lines.length<=1048576)/\(∀ k:Nat,∀ k':Nat,((a.Slots.getD k default).Lines.getD k' default).size<=1048576)/\(a.Job.Lines.length<=1048576)/\(∀ k:Nat,(a.Job.Lines.getD k default).size<=1048576):=by
 intro h0 h1 h2
 simp only [F18] at h2 ⊢
 rcases Rn ((F42 a.Box left')<0) with hq0 | hq0
 ·rw [Qs hq0,Qc] at h2; exact absurd h2 uu2
 rw [Qk hq0,Qe] at h2 ⊢
 have gq0:=gb42 a.Box left' uu0 uu0 uu0
 have lq0:=gq0.1
 rcases Rn ((F43 a.Slots (F42 a.Box left'))<0) with hq1 | hq1
 ·rw [Qs hq1,Qc] at h2; exact absurd h2 uu2
 rw [Qk hq1,Qe] at h2 ⊢
 have gq1:=gb43 a.Slots (F42 a.Box left') uu0 uu0 uu0
 have lq1:=gq1.1
 rcases Rn ((F44 a.Job (F43 a.Slots (F42 a.Box left')))<0) with hq2 | hq2
 ·rw [Qs hq2,Qc] at h2; exact absurd h2 uu2
 rw [Qk hq2,Qe] at h2 ⊢
 have gq2:=gb44 a.Job (F43 a.Slots (F42 a.Box left')) uu0 uu0 uu0
 have lq2:=gq2.1
 exact ⟨by omega,gq0.2.1,gq0.2.2.1,gq0.2.2.2.1,gq0.2.2.2.2.1,gq0.2.2.2.2.2.1,gq0.2.2.2.2.2.2.1,gq0.2.2.2.2.2.2.2.1,gq0.2.2.2.2.2.2.2.2.1,gq0.2.2.2.2.2.2.2.2.2.1,gq0.2.2.2.2.2.2.2.2.2.2,gq1.2.1,gq1.2.2.1,gq1.2.2.2,gq2.2.1,gq2.2.2⟩
theorem g18_0 (a:ConfStore) (left':Int):0<=left'->left'<=1048576->0<=(F18 a left')->(F18 a left')<=left':=by
 intro h0 h1 h2; exact (gb18 a left' h0 h1 h2).1
theorem g18_1 (a:ConfStore) (left':Int):0<=left'->left'<=1048576->0<=(F18 a left')->a.Box.Lines.length<=1048576:=by
 intro h0 h1 h2; exact (gb18 a left' h0 h1 h2).2.1
theorem g18_2 (a:ConfStore) (left':Int):0<=left'->left'<=1048576->0<=(F18 a left')->∀ k:Nat,(a.Box.Lines.getD k default).size<=1048576:=by
 intro h0 h1 h2; exact (gb18 a left' h0 h1 h2).2.2.1
theorem g18_3 (a:ConfStore) (left':Int):0<=left'->left'<=1048576->0<=(F18 a left')->a.Box.Back.length<=1048576:=by
 intro h0 h1 h2; exact (gb18 a left' h0 h1 h2).2.2.2.1
theorem g18_4 (a:ConfStore) (left':Int):0<=left'->left'<=1048576->0<=(F18 a left')->∀ k:Nat,(a.Box.Back.getD k default).size<=1048576:=by
 intro h0 h1 h2; exact (gb18 a left' h0 h1 h2).2.2.2.2.1
theorem g18_5 (a:ConfStore) (left':Int):0<=left'->left'<=1048576->0<=(F18 a left')->a.Box.Cands.length<=1048576:=by
 intro h0 h1 h2; exact (gb18 a left' h0 h1 h2).2.2.2.2.2.1
theorem g18_6 (a:ConfStore) (left':Int):0<=left'->left'<=1048576->0<=(F18 a left')->∀ k:Nat,(a.Box.Cands.getD k default).User.size<=1048576:=by
 intro h0 h1 h2; exact (gb18 a left' h0 h1 h2).2.2.2.2.2.2.1
theorem g18_7 (a:ConfStore) (left':Int):0<=left'->left'<=1048576->0<=(F18 a left')->∀ k:Nat,(a.Box.Cands.getD k default).From.length<=1048576:=by
 intro h0 h1 h2; exact (gb18 a left' h0 h1 h2).2.2.2.2.2.2.2.1
theorem g18_8 (a:ConfStore) (left':Int):0<=left'->left'<=1048576->0<=(F18 a left')->∀ k:Nat,∀ k':Nat,((a.Box.Cands.getD k default).From.getD k' default).size<=1048576:=by
 intro h0 h1 h2; exact (gb18 a left' h0 h1 h2).2.2.2.2.2.2.2.2.1
theorem g18_9 (a:ConfStore) (left':Int):0<=left'->left'<=1048576->0<=(F18 a left')->∀ k:Nat,(a.Box.Cands.getD k default).Lines.length<=1048576:=by
 intro h0 h1 h2; exact (gb18 a left' h0 h1 h2).2.2.2.2.2.2.2.2.2.1
theorem g18_10 (a:ConfStore) (left':Int):0<=left'->left'<=1048576->0<=(F18 a left')->∀ k:Nat,∀ k':Nat,((a.Box.Cands.getD k default).Lines.getD k' default).size<=1048576:=by
 intro h0 h1 h2; exact (gb18 a left' h0 h1 h2).2.2.2.2.2.2.2.2.2.2.1
theorem g18_11 (a:ConfStore) (left':Int):0<=left'->left'<=1048576->0<=(F18 a left')->a.Slots.length<=1048576:=by
 intro h0 h1 h2; exact (gb18 a left' h0 h1 h2).2.2.2.2.2.2.2.2.2.2.2.1
theorem g18_12 (a:ConfStore) (left':Int):0<=left'->left'<=1048576->0<=(F18 a left')->∀ k:Nat,(a.Slots.getD k default).Lines.length<=1048576:=by
 intro h0 h1 h2; exact (gb18 a left' h0 h1 h2).2.2.2.2.2.2.2.2.2.2.2.2.1
theorem g18_13 (a:ConfStore) (left':Int):0<=left'->left'<=1048576->0<=(F18 a left')->∀ k:Nat,∀ k':Nat,((a.Slots.getD k default).Lines.getD k' default).size<=1048576:=by
 intro h0 h1 h2; exact (gb18 a left' h0 h1 h2).2.2.2.2.2.2.2.2.2.2.2.2.2.1
theorem g18_14 (a:ConfStore) (left':Int):0<=left'->left'<=1048576->0<=(F18 a left')->a.Job.Lines.length<=1048576:=by
 intro h0 h1 h2; exact (gb18 a left' h0 h1 h2).2.2.2.2.2.2.2.2.2.2.2.2.2.2.1
theorem g18_15 (a:ConfStore) (left':Int):0<=left'->left'<=1048576->0<=(F18 a left')->∀ k:Nat,(a.Job.Lines.getD k default).size<=1048576:=by
 intro h0 h1 h2; exact (gb18 a left' h0 h1 h2).2.2.2.2.2.2.2.2.2.2.2.2.2.2.2
theorem Vi (a:ConfStore) (h:0<=F18 a 1048576):(∀ k:Nat,(a.Slots.getD k default).Lines.length<=1048576)/\(∀ k:Nat,∀ k':Nat,((a.Slots.getD k default).Lines.getD k' default).size<=1048576)/\a.Job.Lines.length<=1048576/\(∀ k:Nat,(a.Job.Lines.getD k default).size<=1048576)/\(∀ k:Nat,(a.Box.Cands.getD k default).User.size<=1048576)/\(∀ k:Nat,(a.Box.Cands.getD k default).From.length<=1048576)/\(∀ k:Nat,∀ k':Nat,((a.Box.Cands.getD k default).From.getD k' default).size<=1048576)/\(∀ k:Nat,(a.Box.Cands.getD k default).Lines.length<=1048576)/\(∀ k:Nat,∀ k':Nat,((a.Box.Cands.getD k default).Lines.getD k' default).size<=1048576):=by
 obtain ⟨_,_,_,_,_,_,h1,h2,h3,h4,h5,_,h6,h7,h8,h9⟩:=gb18 a 1048576 uu2 uu2 h
 exact ⟨h6,h7,h8,h9,h1,h2,h3,h4,h5⟩
def Qjw (a:List Za):(Int×List Za)->Lp (Int×List Za) (List Za):=fun (i40,xs) =>
 bif (decide (i40<(a.length:Int))) then (.next ((i40+1),(xs.set (i40).toNat (a.getD i40.toNat default)))) else (.done (i40,xs))
def F9 (a:List Za):List Za :=
 (runL (Qjw a) (((a.length:Int)-0).toNat+1) (0,(List.replicate (a.length:Int).toNat (Zi:Za)))).fin (fun r=>r) (fun (i40,xs)=>xs)
abbrev Qps (a:List Za):Nat×(Int×List Za):=((((a.length:Int)-0).toNat+1),(0,(List.replicate (a.length:Int).toNat (Zi:Za))))
abbrev Ucq (a:List Za) (m39:Nat) (i40:Int) (xs:List Za):Prop:=Int.toNat ((a.length:Int)-i40)<m39/\(0:Int)<=i40/\xs.length=(List.replicate (a.length:Int).toNat (Zi:Za)).length
abbrev lX9_0 (a:List Za):Lp (Int×List Za) (List Za):=LpX (Qjw a) (Qps a)
abbrev Qpe (a:List Za) (i:Nat×(Int×List Za)):Prop:=LpJ (Qjw a) (Qps a) i (Ucq a i.1 i.2.1 i.2.2)
abbrev lH9_0 (a:List Za) (i:Nat×(Int×List Za)) (m39:Nat) (i40:Int) (xs:List Za):Prop:=LpH (Qjw a) (Qps a) i m39 (i40,xs) (Ucq a (m39+1) i40 xs)
abbrev lE9_0 (a:List Za) (i40:Int) (xs:List Za) (i40_:Int) (xs_:List Za) (K39:Prop):Prop:=((.int .i64 i40:Value)=.int .i64 i40_)/\(Im (.l 1 eStr a))/\(Imp (.l 1 eStr xs) (.l 1 eStr xs_))/\K39
theorem un9_0 (a:List Za) (i:Nat×(Int×List Za)) (h:Qpe a i):lH9_0 a i (i.1-1) i.2.1 i.2.2:=⟨hd1 h.1 h.2.1,hd3 h.2.1,hd2 h.2.1,h.2.2⟩
theorem bk9_0 (a:List Za) (i:Nat×(Int×List Za)) (m39:Nat) (i40:Int) (xs:List Za) (hl:m39<i.1) (e:runL (Qjw a) m39 (i40,xs)=lX9_0 a) (h:Ucq a m39 i40 xs):∃ j:Nat×(Int×List Za),lE9_0 a i40 xs j.2.1 j.2.2 (Qpe a j/\j.1<i.1):=⟨(m39,(i40,xs)),rfl,Imp.refl _,Imp.refl _,⟨e,h⟩,hl⟩
theorem en9_0 (a:List Za) (h:(0:Int)<=0/\(List.replicate (a.length:Int).toNat (Zi:Za)).length=(List.replicate (a.length:Int).toNat (Zi:Za)).length):lE9_0 a 0 (List.replicate (a.length:Int).toNat (Zi:Za)) 0 (List.replicate (a.length:Int).toNat (Zi:Za)) (Qpe a (Qps a)):=⟨rfl,Imp.refl _,Imp.refl _,rfl,Qn _,h⟩
theorem fi9 (a:List Za) (r:List Za) (hF:r=(F9 a)):(Imp (.l 1 eStr r) (.l 1 eStr (F9 a)))/\True:=by cases hF; exact ⟨Imp.refl _,trivial⟩
def S9 (R:List Za) (a:List Za):Spec:=⟨[.r (.c (.l 1 eStr a))],.ow (.l 1 eStr R),a.length<=1048576/\(∀ k:Nat,(a.getD k default).size<=1048576)⟩
theorem ok9 (a:List Za):(S9 (F9 a) a).ok Tryz.prog 9 :=
 Ue mixed (fn:=Tryz.f9) (ct:=.seqk [(0,0)] .no (.seq (.reg [(2,.dat (.l 1 eStr (List.replicate (a.length:Int).toNat (Zi:Za))))]) (.seq (.seqk [(0,0),(3,0)] .no (.blk (.loop (ι:=Nat×(Int×List Za)) (fun i=>(fun (i40:Int) (xs:List Za)=>(⟨[(0,some (.h 0 0)),(3,some (.h 1 0)),(4,some (.v (vI i40)))],[(0,some (.shr none (.l 1 eStr a))),(1,some (.own 1 (.l 1 eStr xs)))],2⟩:St)) i.2.1 i.2.2) (Qpe a) (fun i=>i.1) (Qps a) (fun i=>(fun (i40:Int) (xs:List Za)=>(.seq (.seq .no (.cond .no .no)) (.seq (.blk (.reg [(7,.dat (.l 1 eStr (xs.set (i40).toNat (a.getD i40.toNat default))))])) (.reg [(1,.bnd)])))) i.2.1 i.2.2)))) (.seq .no .no)))) Tryz.func9 (fun (hp:a.length<=1048576/\(∀ k:Nat,(a.getD k default).size<=1048576))=>have hpre0:=hp.1; have hpre1:=hp.2; kn a fun _=>ai (uu3:0<=(a.length:Int)/\(a.length:Int)<=(a.length:Int)/\(16:Int)*(a.length:Int)<=281474976710656) (ai (MakeOK.mk eStr (Zi:Za) (by exact ai ir trivial):MakeOK 1 [.v (.string Zi)] (a.length:Int).toNat (.l 1 eStr (List.replicate (a.length:Int).toNat (Zi:Za)))) (kn a fun _=>kn (List.replicate (a.length:Int).toNat (Zi:Za)) fun _=>ai (en9_0 a uu17) (fun (i0:Nat×(Int×List Za)) (hi0:Qpe a i0)=>(fun (m0:Nat) (i40:Int) (xs:List Za) (hh0:lH9_0 a i0 m0 i40 xs)=>have hI0:=hh0.1; have hl0:=hh0.2.1; have _:=hh0.2.2.1; have _:=hh0.2.2.2; ifd (i40<(a.length:Int)) (fun h2 _=>ai (uu3:ib i40 a) (ai (uu3:ib i40 xs) (ai (setr 1 eStr xs (i40).toNat (a.getD i40.toNat default)) (ai (iok (i40+1) uu3) (bk9_0 a i0 m0 (i40+1) (xs.set (i40).toNat (a.getD i40.toNat default)) hl0 (Ud hI0 (condT h2 rfl)) uu20))))) (fun h2 _=>have hD0_3:lX9_0 a=Lp.done (i40,xs):=Uh hI0 (condF h2 rfl); fi9 a xs (finD hD0_3 rfl))) (i0.1-1) i0.2.1 i0.2.2 (un9_0 a i0 hi0))))) uu1
theorem as9 (a:List Za):F9 a=(a):=by
 exact Qln (fun x=>x) (fun _=>rfl) a _ uu16 (Qjw a) (fun i xs=>rfl)
theorem oa9 (a:List Za):(S9 (a) a).ok Tryz.prog 9:=by
 intro hp; have h:=ok9 a hp; rw [as9 a] at h; exact h
theorem kc9a (a:List Za) {K_:Prop} (p0_:a.length<=1048576) (p1_:∀ k:Nat,(a.getD k default).size<=1048576) (k_:K_):(a.length<=1048576/\(∀ k:Nat,(a.getD k default).size<=1048576))/\(Imp (.l 1 eStr a) (.l 1 eStr a))/\K_:=⟨⟨p0_,p1_⟩,Imp.refl _,k_⟩
abbrev kh9a (a:List Za):Hint true Tryz.prog:=.call 9 (S9 a a) (oa9 a) none
def F120 (a:ConfCand):ConfCand :=
 a
theorem fi120 (a:ConfCand) (r:ConfCand) (hF:r=(F120 a)):((.string r.User:Value)=.string (F120 a).User)/\((.int .i64 r.Base:Value)=.int .i64 (F120 a).Base)/\(Imp (.l 1 eStr r.From) (.l 1 eStr (F120 a).From))/\(Imp (.l 1 eStr r.Lines) (.l 1 eStr (F120 a).Lines))/\True:=by cases hF; exact ⟨rfl,rfl,Imp.refl _,Imp.refl _,trivial⟩
def S120 (R:ConfCand) (a:ConfCand):Spec:=⟨[.r (.g (Uj a))],.ag [.v (.string R.User),.v (vI R.Base),.ow (.l 1 eStr R.From),.ow (.l 1 eStr R.Lines)],a.User.size<=1048576/\a.From.length<=1048576/\(∀ k:Nat,(a.From.getD k default).size<=1048576)/\a.Lines.length<=1048576/\(∀ k:Nat,(a.Lines.getD k default).size<=1048576)⟩
theorem ok120 (a:ConfCand):(S120 (F120 a) a).ok Tryz.prog 120 :=
 Ue mixed (fn:=Tryz.f120) (ct:=.seq .no (.seq .no (.seq .no (.seq .no (.seq (.reg [(2,kh9a a.From)]) (.seq (.reg [(2,kh9a a.Lines)]) (.seq .no .no))))))) Tryz.func120 (fun (hp:a.User.size<=1048576/\a.From.length<=1048576/\(∀ k:Nat,(a.From.getD k default).size<=1048576)/\a.Lines.length<=1048576/\(∀ k:Nat,(a.Lines.getD k default).size<=1048576))=>have hpre0:=hp.1; have hpre1:=hp.2.1; have hpre2:=hp.2.2.1; have hpre3:=hp.2.2.2.1; have hpre4:=hp.2.2.2.2; kc9a a.From uu0 uu63 (kc9a a.Lines uu0 uu63 (fi120 a a rfl))) uu1
theorem as120 (a:ConfCand):F120 a=(a):=by
 rfl
theorem oa120 (a:ConfCand):(S120 (a) a).ok Tryz.prog 120:=by
 intro hp; have h:=ok120 a hp; rw [as120 a] at h; exact h
theorem kc120a (a:ConfCand) {K_:Prop} (p0_:a.User.size<=1048576) (p1_:a.From.length<=1048576) (p2_:∀ k:Nat,(a.From.getD k default).size<=1048576) (p3_:a.Lines.length<=1048576) (p4_:∀ k:Nat,(a.Lines.getD k default).size<=1048576) (k_:K_):(a.User.size<=1048576/\a.From.length<=1048576/\(∀ k:Nat,(a.From.getD k default).size<=1048576)/\a.Lines.length<=1048576/\(∀ k:Nat,(a.Lines.getD k default).size<=1048576))/\(Imps (Uj a) (Uj a))/\K_:=⟨⟨p0_,p1_,p2_,p3_,p4_⟩,Imps.refl _,k_⟩
abbrev kh120a (a:ConfCand):Hint true Tryz.prog:=.call 120 (S120 a a) (oa120 a) none
def Qca (a:List ConfCand):(Int×List ConfCand)->Lp (Int×List ConfCand) (List ConfCand):=fun (i40,xs) =>
 bif (decide (i40<(a.length:Int))) then (.next ((i40+1),(xs.set (i40).toNat (a.getD i40.toNat default)))) else (.done (i40,xs))
def F82 (a:List ConfCand):List ConfCand :=
 (runL (Qca a) (((a.length:Int)-0).toNat+1) (0,(List.replicate (a.length:Int).toNat ((⟨Zi,0,[],[]⟩:ConfCand):ConfCand)))).fin (fun r=>r) (fun (i40,xs)=>xs)
abbrev Qeg (a:List ConfCand):Nat×(Int×List ConfCand):=((((a.length:Int)-0).toNat+1),(0,(List.replicate (a.length:Int).toNat ((⟨Zi,0,[],[]⟩:ConfCand):ConfCand))))
abbrev Qsf (a:List ConfCand) (m39:Nat) (i40:Int) (xs:List ConfCand):Prop:=Int.toNat ((a.length:Int)-i40)<m39/\(0:Int)<=i40/\xs.length=(List.replicate (a.length:Int).toNat ((⟨Zi,0,[],[]⟩:ConfCand):ConfCand)).length
abbrev Ugx (a:List ConfCand):Lp (Int×List ConfCand) (List ConfCand):=LpX (Qca a) (Qeg a)
abbrev Qhe (a:List ConfCand) (i:Nat×(Int×List ConfCand)):Prop:=LpJ (Qca a) (Qeg a) i (Qsf a i.1 i.2.1 i.2.2)
abbrev Uim (a:List ConfCand) (i:Nat×(Int×List ConfCand)) (m39:Nat) (i40:Int) (xs:List ConfCand):Prop:=LpH (Qca a) (Qeg a) i m39 (i40,xs) (Qsf a (m39+1) i40 xs)
abbrev Ubs (a:List ConfCand) (i40:Int) (xs:List ConfCand) (i40_:Int) (xs_:List ConfCand) (K39:Prop):Prop:=((.int .i64 i40:Value)=.int .i64 i40_)/\(Im (.l 4 Uj a))/\(Imp (.l 4 Uj xs) (.l 4 Uj xs_))/\K39
theorem un82_0 (a:List ConfCand) (i:Nat×(Int×List ConfCand)) (h:Qhe a i):Uim a i (i.1-1) i.2.1 i.2.2:=⟨hd1 h.1 h.2.1,hd3 h.2.1,hd2 h.2.1,h.2.2⟩
theorem bk82_0 (a:List ConfCand) (i:Nat×(Int×List ConfCand)) (m39:Nat) (i40:Int) (xs:List ConfCand) (hl:m39<i.1) (e:runL (Qca a) m39 (i40,xs)=Ugx a) (h:Qsf a m39 i40 xs):∃ j:Nat×(Int×List ConfCand),Ubs a i40 xs j.2.1 j.2.2 (Qhe a j/\j.1<i.1):=⟨(m39,(i40,xs)),rfl,Imp.refl _,Imp.refl _,⟨e,h⟩,hl⟩
theorem en82_0 (a:List ConfCand) (h:(0:Int)<=0/\(List.replicate (a.length:Int).toNat ((⟨Zi,0,[],[]⟩:ConfCand):ConfCand)).length=(List.replicate (a.length:Int).toNat ((⟨Zi,0,[],[]⟩:ConfCand):ConfCand)).length):Ubs a 0 (List.replicate (a.length:Int).toNat ((⟨Zi,0,[],[]⟩:ConfCand):ConfCand)) 0 (List.replicate (a.length:Int).toNat ((⟨Zi,0,[],[]⟩:ConfCand):ConfCand)) (Qhe a (Qeg a)):=⟨rfl,Imp.refl _,Imp.refl _,rfl,Qn _,h⟩
theorem fi82 (a:List ConfCand) (r:List ConfCand) (hF:r=(F82 a)):(Imp (.l 4 Uj r) (.l 4 Uj (F82 a)))/\True:=by cases hF; exact ⟨Imp.refl _,trivial⟩
def S82 (R:List ConfCand) (a:List ConfCand):Spec:=⟨[.r (.c (.l 4 Uj a))],.ow (.l 4 Uj R),a.length<=1048576/\(∀ k:Nat,(a.getD k default).User.size<=1048576)/\(∀ k:Nat,(a.getD k default).From.length<=1048576)/\(∀ k:Nat,∀ k':Nat,((a.getD k default).From.getD k' default).size<=1048576)/\(∀ k:Nat,(a.getD k default).Lines.length<=1048576)/\(∀ k:Nat,∀ k':Nat,((a.getD k default).Lines.getD k' default).size<=1048576)⟩
theorem ok82 (a:List ConfCand):(S82 (F82 a) a).ok Tryz.prog 82 :=
 Ue mixed (fn:=Tryz.f82) (ct:=.seqk [(0,0)] .no (.seq (.reg [(2,.dat (.l 4 Uj (List.replicate (a.length:Int).toNat ((⟨Zi,0,[],[]⟩:ConfCand):ConfCand))))]) (.seq (.seqk [(0,0),(3,0)] .no (.blk (.loop (ι:=Nat×(Int×List ConfCand)) (fun i=>(fun (i40:Int) (xs:List ConfCand)=>(⟨[(0,some (.h 0 0)),(3,some (.h 1 0)),(4,some (.v (vI i40)))],[(0,some (.shr none (.l 4 Uj a))),(1,some (.own 1 (.l 4 Uj xs)))],2⟩:St)) i.2.1 i.2.2) (Qhe a) (fun i=>i.1) (Qeg a) (fun i=>(fun (i40:Int) (xs:List ConfCand)=>(.seq (.seq .no (.cond .no .no)) (.seq (.blk (.reg [(6,kh120a (a.getD i40.toNat default)),(8,.dat (.l 4 Uj (xs.set (i40).toNat (a.getD i40.toNat default))))])) (.reg [(1,.bnd)])))) i.2.1 i.2.2)))) (.seq .no .no)))) Tryz.func82 (fun (hp:a.length<=1048576/\(∀ k:Nat,(a.getD k default).User.size<=1048576)/\(∀ k:Nat,(a.getD k default).From.length<=1048576)/\(∀ k:Nat,∀ k':Nat,((a.getD k default).From.getD k' default).size<=1048576)/\(∀ k:Nat,(a.getD k default).Lines.length<=1048576)/\(∀ k:Nat,∀ k':Nat,((a.getD k default).Lines.getD k' default).size<=1048576))=>have hpre0:=hp.1; have hpre1:=hp.2.1; have hpre2:=hp.2.2.1; have hpre3:=hp.2.2.2.1; have hpre4:=hp.2.2.2.2.1; have hpre5:=hp.2.2.2.2.2; kn a fun _=>ai (uu3:0<=(a.length:Int)/\(a.length:Int)<=(a.length:Int)/\(72:Int)*(a.length:Int)<=281474976710656) (ai (MakeOK.mk Uj ((⟨Zi,0,[],[]⟩:ConfCand):ConfCand) (by exact ai ir (ai ir (ai (Imp.nil _ _) (ai (Imp.nil _ _) trivial)))):MakeOK 4 [.v (.string Zi),.v (vI 0),.v (.slice none 0 0),.v (.slice none 0 0)] (a.length:Int).toNat (.l 4 Uj (List.replicate (a.length:Int).toNat ((⟨Zi,0,[],[]⟩:ConfCand):ConfCand)))) (kn a fun _=>kn (List.replicate (a.length:Int).toNat ((⟨Zi,0,[],[]⟩:ConfCand):ConfCand)) fun _=>ai (en82_0 a uu17) (fun (i0:Nat×(Int×List ConfCand)) (hi0:Qhe a i0)=>(fun (m0:Nat) (i40:Int) (xs:List ConfCand) (hh0:Uim a i0 m0 i40 xs)=>have hI0:=hh0.1; have hl0:=hh0.2.1; have _:=hh0.2.2.1; have _:=hh0.2.2.2; ifd (i40<(a.length:Int)) (fun h2 _=>ai (uu3:ib i40 a) (kc120a (a.getD i40.toNat default) uu52 uu52 uu64 uu52 uu64 (ai (uu3:ib i40 xs) (ai (setr 4 Uj xs (i40).toNat (a.getD i40.toNat default)) (ai (iok (i40+1) uu3) (bk82_0 a i0 m0 (i40+1) (xs.set (i40).toNat (a.getD i40.toNat default)) hl0 (Ud hI0 (condT h2 rfl)) uu20)))))) (fun h2 _=>have hD0_3:Ugx a=Lp.done (i40,xs):=Uh hI0 (condF h2 rfl); fi82 a xs (finD hD0_3 rfl))) (i0.1-1) i0.2.1 i0.2.2 (un82_0 a i0 hi0))))) uu1
theorem as82 (a:List ConfCand):F82 a=(a):=by
 exact Qln (fun x=>x) (fun _=>rfl) a _ uu16 (Qca a) (fun i xs=>rfl)
theorem oa82 (a:List ConfCand):(S82 (a) a).ok Tryz.prog 82:=by
 intro hp; have h:=ok82 a hp; rw [as82 a] at h; exact h
theorem kc82a (a:List ConfCand) {K_:Prop} (p0_:a.length<=1048576) (p1_:∀ k:Nat,(a.getD k default).User.size<=1048576) (p2_:∀ k:Nat,(a.getD k default).From.length<=1048576) (p3_:∀ k:Nat,∀ k':Nat,((a.getD k default).From.getD k' default).size<=1048576) (p4_:∀ k:Nat,(a.getD k default).Lines.length<=1048576) (p5_:∀ k:Nat,∀ k':Nat,((a.getD k default).Lines.getD k' default).size<=1048576) (k_:K_):(a.length<=1048576/\(∀ k:Nat,(a.getD k default).User.size<=1048576)/\(∀ k:Nat,(a.getD k default).From.length<=1048576)/\(∀ k:Nat,∀ k':Nat,((a.getD k default).From.getD k' default).size<=1048576)/\(∀ k:Nat,(a.getD k default).Lines.length<=1048576)/\(∀ k:Nat,∀ k':Nat,((a.getD k default).Lines.getD k' default).size<=1048576))/\(Imp (.l 4 Uj a) (.l 4 Uj a))/\K_:=⟨⟨p0_,p1_,p2_,p3_,p4_,p5_⟩,Imp.refl _,k_⟩
abbrev kh82a (a:List ConfCand):Hint true Tryz.prog:=.call 82 (S82 a a) (oa82 a) none
def F49 (a:ConfBox):ConfBox :=
 a
theorem fi49 (a:ConfBox) (r:ConfBox) (hF:r=(F49 a)):((.int .i64 r.Edition:Value)=.int .i64 (F49 a).Edition)/\(Imp (.l 1 eStr r.Lines) (.l 1 eStr (F49 a).Lines))/\((.int .i64 r.Trial:Value)=.int .i64 (F49 a).Trial)/\(Imp (.l 1 eStr r.Back) (.l 1 eStr (F49 a).Back))/\(Imp (.l 4 Uj r.Cands) (.l 4 Uj (F49 a).Cands))/\True:=by cases hF; exact ⟨rfl,Imp.refl _,rfl,Imp.refl _,Imp.refl _,trivial⟩
def S49 (R:ConfBox) (a:ConfBox):Spec:=⟨[.r (.g (Yk a))],.ag [.v (vI R.Edition),.ow (.l 1 eStr R.Lines),.v (vI R.Trial),.ow (.l 1 eStr R.Back),.ow (.l 4 Uj R.Cands)],a.Lines.length<=1048576/\(∀ k:Nat,(a.Lines.getD k default).size<=1048576)/\a.Back.length<=1048576/\(∀ k:Nat,(a.Back.getD k default).size<=1048576)/\a.Cands.length<=1048576/\(∀ k:Nat,(a.Cands.getD k default).User.size<=1048576)/\(∀ k:Nat,(a.Cands.getD k default).From.length<=1048576)/\(∀ k:Nat,∀ k':Nat,((a.Cands.getD k default).From.getD k' default).size<=1048576)/\(∀ k:Nat,(a.Cands.getD k default).Lines.length<=1048576)/\(∀ k:Nat,∀ k':Nat,((a.Cands.getD k default).Lines.getD k' default).size<=1048576)⟩
theorem ok49 (a:ConfBox):(S49 (F49 a) a).ok Tryz.prog 49 :=
 Ue mixed (fn:=Tryz.f49) (ct:=.seq .no (.seq .no (.seq .no (.seq (.reg [(2,kh9a a.Lines)]) (.seq .no (.seq (.reg [(2,kh9a a.Back)]) (.seq (.reg [(2,kh82a a.Cands)]) (.seq .no .no)))))))) Tryz.func49 (fun (hp:a.Lines.length<=1048576/\(∀ k:Nat,(a.Lines.getD k default).size<=1048576)/\a.Back.length<=1048576/\(∀ k:Nat,(a.Back.getD k default).size<=1048576)/\a.Cands.length<=1048576/\(∀ k:Nat,(a.Cands.getD k default).User.size<=1048576)/\(∀ k:Nat,(a.Cands.getD k default).From.length<=1048576)/\(∀ k:Nat,∀ k':Nat,((a.Cands.getD k default).From.getD k' default).size<=1048576)/\(∀ k:Nat,(a.Cands.getD k default).Lines.length<=1048576)/\(∀ k:Nat,∀ k':Nat,((a.Cands.getD k default).Lines.getD k' default).size<=1048576))=>have hpre0:=hp.1; have hpre1:=hp.2.1; have hpre2:=hp.2.2.1; have hpre3:=hp.2.2.2.1; have hpre4:=hp.2.2.2.2.1; have hpre5:=hp.2.2.2.2.2.1; have hpre6:=hp.2.2.2.2.2.2.1; have hpre7:=hp.2.2.2.2.2.2.2.1; have hpre8:=hp.2.2.2.2.2.2.2.2.1; have hpre9:=hp.2.2.2.2.2.2.2.2.2; kc9a a.Lines uu0 uu26 (kc9a a.Back uu0 uu26 (kc82a a.Cands uu0 uu26 uu26 uu26 uu26 uu26 (fi49 a a rfl)))) uu1
theorem as49 (a:ConfBox):F49 a=(a):=by
 rfl
theorem oa49 (a:ConfBox):(S49 (a) a).ok Tryz.prog 49:=by
 intro hp; have h:=ok49 a hp; rw [as49 a] at h; exact h
def F83 (a:ConfSlot):ConfSlot :=
 a
theorem fi83 (a:ConfSlot) (r:ConfSlot) (hF:r=(F83 a)):((.bool r.Whole:Value)=.bool (F83 a).Whole)/\((.int .i64 r.Edition:Value)=.int .i64 (F83 a).Edition)/\((.bool r.Trial:Value)=.bool (F83 a).Trial)/\(Imp (.l 1 eStr r.Lines) (.l 1 eStr (F83 a).Lines))/\True:=by cases hF; exact ⟨rfl,rfl,rfl,Imp.refl _,trivial⟩
def S83 (R:ConfSlot) (a:ConfSlot):Spec:=⟨[.r (.g (Uk a))],.ag [.v (.bool R.Whole),.v (vI R.Edition),.v (.bool R.Trial),.ow (.l 1 eStr R.Lines)],a.Lines.length<=1048576/\(∀ k:Nat,(a.Lines.getD k default).size<=1048576)⟩
theorem ok83 (a:ConfSlot):(S83 (F83 a) a).ok Tryz.prog 83 :=
 Ue mixed (fn:=Tryz.f83) (ct:=.seq .no (.seq .no (.seq .no (.seq .no (.seq .no (.seq (.reg [(2,kh9a a.Lines)]) (.seq .no .no))))))) Tryz.func83 (fun (hp:a.Lines.length<=1048576/\(∀ k:Nat,(a.Lines.getD k default).size<=1048576))=>have hpre0:=hp.1; have hpre1:=hp.2; kc9a a.Lines uu0 uu27 (fi83 a a rfl)) uu1
theorem as83 (a:ConfSlot):F83 a=(a):=by
 rfl
theorem oa83 (a:ConfSlot):(S83 (a) a).ok Tryz.prog 83:=by
 intro hp; have h:=ok83 a hp; rw [as83 a] at h; exact h
theorem kc83a (a:ConfSlot) {K_:Prop} (p0_:a.Lines.length<=1048576) (p1_:∀ k:Nat,(a.Lines.getD k default).size<=1048576) (k_:K_):(a.Lines.length<=1048576/\(∀ k:Nat,(a.Lines.getD k default).size<=1048576))/\(Imps (Uk a) (Uk a))/\K_:=⟨⟨p0_,p1_⟩,Imps.refl _,k_⟩
abbrev kh83a (a:ConfSlot):Hint true Tryz.prog:=.call 83 (S83 a a) (oa83 a) none
def Qbk (a:List ConfSlot):(Int×List ConfSlot)->Lp (Int×List ConfSlot) (List ConfSlot):=fun (i40,xs) =>
 bif (decide (i40<(a.length:Int))) then (.next ((i40+1),(xs.set (i40).toNat (a.getD i40.toNat default)))) else (.done (i40,xs))
def F50 (a:List ConfSlot):List ConfSlot :=
 (runL (Qbk a) (((a.length:Int)-0).toNat+1) (0,(List.replicate (a.length:Int).toNat ((⟨false,0,false,[]⟩:ConfSlot):ConfSlot)))).fin (fun r=>r) (fun (i40,xs)=>xs)
abbrev Qem (a:List ConfSlot):Nat×(Int×List ConfSlot):=((((a.length:Int)-0).toNat+1),(0,(List.replicate (a.length:Int).toNat ((⟨false,0,false,[]⟩:ConfSlot):ConfSlot))))
abbrev Qse (a:List ConfSlot) (m39:Nat) (i40:Int) (xs:List ConfSlot):Prop:=Int.toNat ((a.length:Int)-i40)<m39/\(0:Int)<=i40/\xs.length=(List.replicate (a.length:Int).toNat ((⟨false,0,false,[]⟩:ConfSlot):ConfSlot)).length
abbrev Ugu (a:List ConfSlot):Lp (Int×List ConfSlot) (List ConfSlot):=LpX (Qbk a) (Qem a)
abbrev Qhi (a:List ConfSlot) (i:Nat×(Int×List ConfSlot)):Prop:=LpJ (Qbk a) (Qem a) i (Qse a i.1 i.2.1 i.2.2)
abbrev Ugp (a:List ConfSlot) (i:Nat×(Int×List ConfSlot)) (m39:Nat) (i40:Int) (xs:List ConfSlot):Prop:=LpH (Qbk a) (Qem a) i m39 (i40,xs) (Qse a (m39+1) i40 xs)
abbrev Ugh (a:List ConfSlot) (i40:Int) (xs:List ConfSlot) (i40_:Int) (xs_:List ConfSlot) (K39:Prop):Prop:=((.int .i64 i40:Value)=.int .i64 i40_)/\(Im (.l 4 Uk a))/\(Imp (.l 4 Uk xs) (.l 4 Uk xs_))/\K39
theorem un50_0 (a:List ConfSlot) (i:Nat×(Int×List ConfSlot)) (h:Qhi a i):Ugp a i (i.1-1) i.2.1 i.2.2:=⟨hd1 h.1 h.2.1,hd3 h.2.1,hd2 h.2.1,h.2.2⟩
theorem bk50_0 (a:List ConfSlot) (i:Nat×(Int×List ConfSlot)) (m39:Nat) (i40:Int) (xs:List ConfSlot) (hl:m39<i.1) (e:runL (Qbk a) m39 (i40,xs)=Ugu a) (h:Qse a m39 i40 xs):∃ j:Nat×(Int×List ConfSlot),Ugh a i40 xs j.2.1 j.2.2 (Qhi a j/\j.1<i.1):=⟨(m39,(i40,xs)),rfl,Imp.refl _,Imp.refl _,⟨e,h⟩,hl⟩
theorem en50_0 (a:List ConfSlot) (h:(0:Int)<=0/\(List.replicate (a.length:Int).toNat ((⟨false,0,false,[]⟩:ConfSlot):ConfSlot)).length=(List.replicate (a.length:Int).toNat ((⟨false,0,false,[]⟩:ConfSlot):ConfSlot)).length):Ugh a 0 (List.replicate (a.length:Int).toNat ((⟨false,0,false,[]⟩:ConfSlot):ConfSlot)) 0 (List.replicate (a.length:Int).toNat ((⟨false,0,false,[]⟩:ConfSlot):ConfSlot)) (Qhi a (Qem a)):=⟨rfl,Imp.refl _,Imp.refl _,rfl,Qn _,h⟩
theorem fi50 (a:List ConfSlot) (r:List ConfSlot) (hF:r=(F50 a)):(Imp (.l 4 Uk r) (.l 4 Uk (F50 a)))/\True:=by cases hF; exact ⟨Imp.refl _,trivial⟩
def S50 (R:List ConfSlot) (a:List ConfSlot):Spec:=⟨[.r (.c (.l 4 Uk a))],.ow (.l 4 Uk R),a.length<=1048576/\(∀ k:Nat,(a.getD k default).Lines.length<=1048576)/\(∀ k:Nat,∀ k':Nat,((a.getD k default).Lines.getD k' default).size<=1048576)⟩
abbrev Udo (a:List ConfSlot):=(List.replicate (a.length:Int).toNat ((⟨false,0,false,[]⟩:ConfSlot):ConfSlot))
theorem ok50 (a:List ConfSlot):(S50 (F50 a) a).ok Tryz.prog 50 :=
 Ue mixed (fn:=Tryz.f50) (ct:=.seqk [(0,0)] .no (.seq (.reg [(2,.dat (.l 4 Uk (Udo a)))]) (.seq (.seqk [(0,0),(3,0)] .no (.blk (.loop (ι:=Nat×(Int×List ConfSlot)) (fun i=>(fun (i40:Int) (xs:List ConfSlot)=>(⟨[(0,some (.h 0 0)),(3,some (.h 1 0)),(4,some (.v (vI i40)))],[(0,some (.shr none (.l 4 Uk a))),(1,some (.own 1 (.l 4 Uk xs)))],2⟩:St)) i.2.1 i.2.2) (Qhi a) (fun i=>i.1) (Qem a) (fun i=>(fun (i40:Int) (xs:List ConfSlot)=>(.seq (.seq .no (.cond .no .no)) (.seq (.blk (.reg [(6,kh83a (a.getD i40.toNat default)),(8,.dat (.l 4 Uk (xs.set (i40).toNat (a.getD i40.toNat default))))])) (.reg [(1,.bnd)])))) i.2.1 i.2.2)))) (.seq .no .no)))) Tryz.func50 (fun (hp:a.length<=1048576/\(∀ k:Nat,(a.getD k default).Lines.length<=1048576)/\(∀ k:Nat,∀ k':Nat,((a.getD k default).Lines.getD k' default).size<=1048576))=>have hpre0:=hp.1; have hpre1:=hp.2.1; have hpre2:=hp.2.2; kn a fun _=>ai (uu3:0<=(a.length:Int)/\(a.length:Int)<=(a.length:Int)/\(48:Int)*(a.length:Int)<=281474976710656) (ai (MakeOK.mk Uk ((⟨false,0,false,[]⟩:ConfSlot):ConfSlot) (by exact ai ir (ai ir (ai ir (ai (Imp.nil _ _) trivial)))):MakeOK 4 [.v (.bool false),.v (vI 0),.v (.bool false),.v (.slice none 0 0)] (a.length:Int).toNat (.l 4 Uk (Udo a))) (kn a fun _=>kn (Udo a) fun _=>ai (en50_0 a uu17) (fun (i0:Nat×(Int×List ConfSlot)) (hi0:Qhi a i0)=>(fun (m0:Nat) (i40:Int) (xs:List ConfSlot) (hh0:Ugp a i0 m0 i40 xs)=>have hI0:=hh0.1; have hl0:=hh0.2.1; have _:=hh0.2.2.1; have _:=hh0.2.2.2; ifd (i40<(a.length:Int)) (fun h2 _=>ai (uu3:ib i40 a) (kc83a (a.getD i40.toNat default) (by first | omega | exact hpre1 _ | exact hpre2 _ | exact hpre2 _ _ | (intros; exact trivial) | (intros; exact Qy _)) (by first | assumption | exact hpre1 _ | exact fun k _=>hpre1 k | exact hpre2 _ | exact fun k _=>hpre2 k | exact hpre2 _ _ | (intros; exact trivial) | (intros; exact Qy _)) (ai (uu3:ib i40 xs) (ai (setr 4 Uk xs (i40).toNat (a.getD i40.toNat default)) (ai (iok (i40+1) uu3) (bk50_0 a i0 m0 (i40+1) (xs.set (i40).toNat (a.getD i40.toNat default)) hl0 (Ud hI0 (condT h2 rfl)) uu20)))))) (fun h2 _=>have hD0_3:Ugu a=Lp.done (i40,xs):=Uh hI0 (condF h2 rfl); fi50 a xs (finD hD0_3 rfl))) (i0.1-1) i0.2.1 i0.2.2 (un50_0 a i0 hi0))))) uu1
theorem as50 (a:List ConfSlot):F50 a=(a):=by
 exact Qln (fun x=>x) (fun _=>rfl) a _ uu16 (Qbk a) (fun i xs=>rfl)
theorem oa50 (a:List ConfSlot):(S50 (a) a).ok Tryz.prog 50:=by
 intro hp; have h:=ok50 a hp; rw [as50 a] at h; exact h
def F51 (a:ConfJob):ConfJob :=
 a
theorem fi51 (a:ConfJob) (r:ConfJob) (hF:r=(F51 a)):((.int .i64 r.Kind:Value)=.int .i64 (F51 a).Kind)/\((.int .i64 r.Step:Value)=.int .i64 (F51 a).Step)/\((.int .i64 r.Edition:Value)=.int .i64 (F51 a).Edition)/\((.int .i64 r.Ticks:Value)=.int .i64 (F51 a).Ticks)/\(Imp (.l 1 eStr r.Lines) (.l 1 eStr (F51 a).Lines))/\True:=by cases hF; exact ⟨rfl,rfl,rfl,rfl,Imp.refl _,trivial⟩
def S51 (R:ConfJob) (a:ConfJob):Spec:=⟨[.r (.g (Ya a))],.ag [.v (vI R.Kind),.v (vI R.Step),.v (vI R.Edition),.v (vI R.Ticks),.ow (.l 1 eStr R.Lines)],a.Lines.length<=1048576/\(∀ k:Nat,(a.Lines.getD k default).size<=1048576)⟩
theorem ok51 (a:ConfJob):(S51 (F51 a) a).ok Tryz.prog 51 :=
 Ue mixed (fn:=Tryz.f51) (ct:=.seq .no (.seq .no (.seq .no (.seq .no (.seq .no (.seq .no (.seq (.reg [(2,kh9a a.Lines)]) (.seq .no .no)))))))) Tryz.func51 (fun (hp:a.Lines.length<=1048576/\(∀ k:Nat,(a.Lines.getD k default).size<=1048576))=>have hpre0:=hp.1; have hpre1:=hp.2; kc9a a.Lines uu0 uu27 (fi51 a a rfl)) uu1
theorem as51 (a:ConfJob):F51 a=(a):=by
 rfl
theorem oa51 (a:ConfJob):(S51 (a) a).ok Tryz.prog 51:=by
 intro hp; have h:=ok51 a hp; rw [as51 a] at h; exact h
theorem kc49a (a:ConfBox) {K_:Prop} (p0_:a.Lines.length<=1048576) (p1_:∀ k:Nat,(a.Lines.getD k default).size<=1048576) (p2_:a.Back.length<=1048576) (p3_:∀ k:Nat,(a.Back.getD k default).size<=1048576) (p4_:a.Cands.length<=1048576) (p5_:∀ k:Nat,(a.Cands.getD k default).User.size<=1048576) (p6_:∀ k:Nat,(a.Cands.getD k default).From.length<=1048576) (p7_:∀ k:Nat,∀ k':Nat,((a.Cands.getD k default).From.getD k' default).size<=1048576) (p8_:∀ k:Nat,(a.Cands.getD k default).Lines.length<=1048576) (p9_:∀ k:Nat,∀ k':Nat,((a.Cands.getD k default).Lines.getD k' default).size<=1048576) (k_:K_):(a.Lines.length<=1048576/\(∀ k:Nat,(a.Lines.getD k default).size<=1048576)/\a.Back.length<=1048576/\(∀ k:Nat,(a.Back.getD k default).size<=1048576)/\a.Cands.length<=1048576/\(∀ k:Nat,(a.Cands.getD k default).User.size<=1048576)/\(∀ k:Nat,(a.Cands.getD k default).From.length<=1048576)/\(∀ k:Nat,∀ k':Nat,((a.Cands.getD k default).From.getD k' default).size<=1048576)/\(∀ k:Nat,(a.Cands.getD k default).Lines.length<=1048576)/\(∀ k:Nat,∀ k':Nat,((a.Cands.getD k default).Lines.getD k' default).size<=1048576))/\(Imps (Yk a) (Yk a))/\K_:=⟨⟨p0_,p1_,p2_,p3_,p4_,p5_,p6_,p7_,p8_,p9_⟩,Imps.refl _,k_⟩
abbrev kh49a (a:ConfBox):Hint true Tryz.prog:=.call 49 (S49 a a) (oa49 a) none
theorem kc50a (a:List ConfSlot) {K_:Prop} (p0_:a.length<=1048576) (p1_:∀ k:Nat,(a.getD k default).Lines.length<=1048576) (p2_:∀ k:Nat,∀ k':Nat,((a.getD k default).Lines.getD k' default).size<=1048576) (k_:K_):(a.length<=1048576/\(∀ k:Nat,(a.getD k default).Lines.length<=1048576)/\(∀ k:Nat,∀ k':Nat,((a.getD k default).Lines.getD k' default).size<=1048576))/\(Imp (.l 4 Uk a) (.l 4 Uk a))/\K_:=⟨⟨p0_,p1_,p2_⟩,Imp.refl _,k_⟩
abbrev kh50a (a:List ConfSlot):Hint true Tryz.prog:=.call 50 (S50 a a) (oa50 a) none
theorem kc51a (a:ConfJob) {K_:Prop} (p0_:a.Lines.length<=1048576) (p1_:∀ k:Nat,(a.Lines.getD k default).size<=1048576) (k_:K_):(a.Lines.length<=1048576/\(∀ k:Nat,(a.Lines.getD k default).size<=1048576))/\(Imps (Ya a) (Ya a))/\K_:=⟨⟨p0_,p1_⟩,Imps.refl _,k_⟩
abbrev kh51a (a:ConfJob):Hint true Tryz.prog:=.call 51 (S51 a a) (oa51 a) none
def F20 (a:ConfStore):ConfStore :=
 a
theorem fi20 (a:ConfStore) (r:ConfStore) (hF:r=(F20 a)):((.bool r.Up:Value)=.bool (F20 a).Up)/\((.int .i64 r.Box.Edition:Value)=.int .i64 (F20 a).Box.Edition)/\(Imp (.l 1 eStr r.Box.Lines) (.l 1 eStr (F20 a).Box.Lines))/\((.int .i64 r.Box.Trial:Value)=.int .i64 (F20 a).Box.Trial)/\(Imp (.l 1 eStr r.Box.Back) (.l 1 eStr (F20 a).Box.Back))/\(Imp (.l 4 Uj r.Box.Cands) (.l 4 Uj (F20 a).Box.Cands))/\(Imp (.l 4 Uk r.Slots) (.l 4 Uk (F20 a).Slots))/\((.int .i64 r.Live:Value)=.int .i64 (F20 a).Live)/\((.int .i64 r.Last:Value)=.int .i64 (F20 a).Last)/\((.int .i64 r.Job.Kind:Value)=.int .i64 (F20 a).Job.Kind)/\((.int .i64 r.Job.Step:Value)=.int .i64 (F20 a).Job.Step)/\((.int .i64 r.Job.Edition:Value)=.int .i64 (F20 a).Job.Edition)/\((.int .i64 r.Job.Ticks:Value)=.int .i64 (F20 a).Job.Ticks)/\(Imp (.l 1 eStr r.Job.Lines) (.l 1 eStr (F20 a).Job.Lines))/\True:=by cases hF; exact ⟨rfl,rfl,Imp.refl _,rfl,Imp.refl _,Imp.refl _,Imp.refl _,rfl,rfl,rfl,rfl,rfl,rfl,Imp.refl _,trivial⟩
def S20 (R:ConfStore) (a:ConfStore):Spec:=⟨[.r (.g (Ug a))],.ag [.v (.bool R.Up),.v (vI R.Box.Edition),.ow (.l 1 eStr R.Box.Lines),.v (vI R.Box.Trial),.ow (.l 1 eStr R.Box.Back),.ow (.l 4 Uj R.Box.Cands),.ow (.l 4 Uk R.Slots),.v (vI R.Live),.v (vI R.Last),.v (vI R.Job.Kind),.v (vI R.Job.Step),.v (vI R.Job.Edition),.v (vI R.Job.Ticks),.ow (.l 1 eStr R.Job.Lines)],a.Box.Lines.length<=1048576/\(∀ k:Nat,(a.Box.Lines.getD k default).size<=1048576)/\a.Box.Back.length<=1048576/\(∀ k:Nat,(a.Box.Back.getD k default).size<=1048576)/\a.Box.Cands.length<=1048576/\(∀ k:Nat,(a.Box.Cands.getD k default).User.size<=1048576)/\(∀ k:Nat,(a.Box.Cands.getD k default).From.length<=1048576)/\(∀ k:Nat,∀ k':Nat,((a.Box.Cands.getD k default).From.getD k' default).size<=1048576)/\(∀ k:Nat,(a.Box.Cands.getD k default).Lines.length<=1048576)/\(∀ k:Nat,∀ k':Nat,((a.Box.Cands.getD k default).Lines.getD k' default).size<=1048576)/\a.Slots.length<=1048576/\(∀ k:Nat,(a.Slots.getD k default).Lines.length<=1048576)/\(∀ k:Nat,∀ k':Nat,((a.Slots.getD k default).Lines.getD k' default).size<=1048576)/\a.Job.Lines.length<=1048576/\(∀ k:Nat,(a.Job.Lines.getD k default).size<=1048576)⟩
theorem ok20 (a:ConfStore):(S20 (F20 a) a).ok Tryz.prog 20 :=
 Ue mixed (fn:=Tryz.f20) (ct:=.seq .no (.seq .no (.seq .no (.seq (.reg [(2,kh49a a.Box)]) (.seq (.reg [(2,kh50a a.Slots)]) (.seq .no (.seq .no (.seq (.reg [(2,kh51a a.Job)]) (.seq .no .no))))))))) Tryz.func20 (fun (hp:a.Box.Lines.length<=1048576/\(∀ k:Nat,(a.Box.Lines.getD k default).size<=1048576)/\a.Box.Back.length<=1048576/\(∀ k:Nat,(a.Box.Back.getD k default).size<=1048576)/\a.Box.Cands.length<=1048576/\(∀ k:Nat,(a.Box.Cands.getD k default).User.size<=1048576)/\(∀ k:Nat,(a.Box.Cands.getD k default).From.length<=1048576)/\(∀ k:Nat,∀ k':Nat,((a.Box.Cands.getD k default).From.getD k' default).size<=1048576)/\(∀ k:Nat,(a.Box.Cands.getD k default).Lines.length<=1048576)/\(∀ k:Nat,∀ k':Nat,((a.Box.Cands.getD k default).Lines.getD k' default).size<=1048576)/\a.Slots.length<=1048576/\(∀ k:Nat,(a.Slots.getD k default).Lines.length<=1048576)/\(∀ k:Nat,∀ k':Nat,((a.Slots.getD k default).Lines.getD k' default).size<=1048576)/\a.Job.Lines.length<=1048576/\(∀ k:Nat,(a.Job.Lines.getD k default).size<=1048576))=>have hpre0:=hp.1; have hpre1:=hp.2.1; have hpre2:=hp.2.2.1; have hpre3:=hp.2.2.2.1; have hpre4:=hp.2.2.2.2.1; have hpre5:=hp.2.2.2.2.2.1; have hpre6:=hp.2.2.2.2.2.2.1; have hpre7:=hp.2.2.2.2.2.2.2.1; have hpre8:=hp.2.2.2.2.2.2.2.2.1; have hpre9:=hp.2.2.2.2.2.2.2.2.2.1; have hpre10:=hp.2.2.2.2.2.2.2.2.2.2.1; have hpre11:=hp.2.2.2.2.2.2.2.2.2.2.2.1; have hpre12:=hp.2.2.2.2.2.2.2.2.2.2.2.2.1; have hpre13:=hp.2.2.2.2.2.2.2.2.2.2.2.2.2.1; have hpre14:=hp.2.2.2.2.2.2.2.2.2.2.2.2.2.2; kc49a a.Box uu0 uu22 uu0 uu22 uu0 uu22 uu22 uu22 uu22 uu22 (kc50a a.Slots uu0 uu22 uu22 (kc51a a.Job uu0 uu22 (fi20 a a rfl)))) uu1
theorem as20 (a:ConfStore):F20 a=(a):=by
 rfl
theorem oa20 (a:ConfStore):(S20 (a) a).ok Tryz.prog 20:=by
 intro hp; have h:=ok20 a hp; rw [as20 a] at h; exact h
def My (a:List Za) (b:List Za):Int->Lp Int Bool:=fun i40 =>
 bif (decide (i40<(a.length:Int))) then (bif (!((a.getD i40.toNat default).toList==(b.getD i40.toNat default).toList)) then (.ret false) else (.next (i40+1))) else (.done i40)
def F11 (a:List Za) (b:List Za):Bool :=
 bif ((a.length:Int) != (b.length:Int)) then false else ((runL (My a b) (((a.length:Int)-0).toNat+1) 0).fin (fun r=>r) (fun i40=>true))
abbrev Qhr (a:List Za):Nat×Int:=((((a.length:Int)-0).toNat+1),0)
abbrev Qsn (a:List Za) (m39:Nat) (i40:Int):Prop:=Int.toNat ((a.length:Int)-i40)<m39/\(0:Int)<=i40
abbrev Uha (a:List Za) (b:List Za):Lp Int Bool:=LpX (My a b) (Qhr a)
abbrev Qgx (a:List Za) (b:List Za) (i:Nat×Int):Prop:=LpJ (My a b) (Qhr a) i (Qsn a i.1 i.2)
abbrev Ugd (a:List Za) (b:List Za) (i:Nat×Int) (m39:Nat) (i40:Int):Prop:=LpH (My a b) (Qhr a) i m39 i40 (Qsn a (m39+1) i40)
abbrev Ucc (a:List Za) (b:List Za) (i40:Int) (i40_:Int) (K39:Prop):Prop:=((.int .i64 i40:Value)=.int .i64 i40_)/\(Im (.l 1 eStr a))/\(Im (.l 1 eStr b))/\K39
theorem un11_0 (a:List Za) (b:List Za) (i:Nat×Int) (h:Qgx a b i):Ugd a b i (i.1-1) i.2:=⟨hd1 h.1 h.2.1,hd3 h.2.1,hd2 h.2.1,h.2.2⟩
theorem bk11_0 (a:List Za) (b:List Za) (i:Nat×Int) (m39:Nat) (i40:Int) (hl:m39<i.1) (e:runL (My a b) m39 i40=Uha a b) (h:Qsn a m39 i40):∃ j:Nat×Int,Ucc a b i40 j.2 (Qgx a b j/\j.1<i.1):=⟨(m39,i40),rfl,Imp.refl _,Imp.refl _,⟨e,h⟩,hl⟩
theorem en11_0 (a:List Za) (b:List Za) (h:(0:Int)<=0):Ucc a b 0 0 (Qgx a b (Qhr a)):=⟨rfl,Imp.refl _,Imp.refl _,rfl,Qn _,h⟩
def S11 (R:Bool) (a:List Za) (b:List Za):Spec:=⟨[.r (.c (.l 1 eStr a)),.r (.c (.l 1 eStr b))],.v (.bool R),True⟩
theorem ok11 (a:List Za) (b:List Za):(S11 (F11 a b) a b).ok Tryz.prog 11 :=
 Ue mixed (fn:=Tryz.f11) (ct:=.seqk [(0,0),(1,0)] .no (.seq (.seq .no (.cond (.seq .no .no) .no)) (.seq (.seqk [(0,0),(1,0)] .no (.blk (.loop (ι:=Nat×Int) (fun i=>(fun (i40:Int)=>(⟨[(0,some (.h 0 0)),(1,some (.h 1 0)),(5,some (.v (vI i40)))],[(0,some (.shr none (.l 1 eStr a))),(1,some (.shr none (.l 1 eStr b)))],2⟩:St)) i.2) (Qgx a b) (fun i=>i.1) (Qhr a) (fun i=>(fun (i40:Int)=>(.seq (.seq .no (.cond .no .no)) (.seq (.blk (.seq .no (.cond (.seq .no .no) .no))) (.reg [(1,.bnd)])))) i.2)))) (.seq .no .no)))) Tryz.func11 (fun (_:True)=>kn a fun _=>kn b fun _=>ifn (a.length:Int) (b.length:Int) (fun h1 _=>fiB false (F11 a b) (condT h1 rfl)) (fun h1 _=>kn a fun _=>kn b fun _=>ai (en11_0 a b uu0) (fun (i0:Nat×Int) (hi0:Qgx a b i0)=>(fun (m0:Nat) (i40:Int) (hh0:Ugd a b i0 m0 i40)=>have hI0:=hh0.1; have hl0:=hh0.2.1; have _:=hh0.2.2.1; have _:=hh0.2.2.2; ifd (i40<(a.length:Int)) (fun h3 _=>ai (uu0:ib i40 a) (ai (uu0:ib i40 b) (ifb (!((a.getD i40.toNat default).toList==(b.getD i40.toNat default).toList)) (fun h4=>fiB false (F11 a b) (condF h1 (finR (Um hI0 (condT h3 (condT h4 rfl))) rfl))) (fun h4=>ai (iok (i40+1) uu0) (bk11_0 a b i0 m0 (i40+1) hl0 (Ud hI0 (condT h3 (condF h4 rfl))) uu5))))) (fun h3 _=>have hD0_5:Uha a b=Lp.done i40:=Uh hI0 (condF h3 rfl); fiB true (F11 a b) (condF h1 (finD hD0_5 rfl)))) (i0.1-1) i0.2 (un11_0 a b i0 hi0)))) uu1
theorem as11 (a:List Za) (b:List Za):F11 a b=(decide (a=b)):=by
 exact Qmn (fun x y=>decide (x=y)) (fun _ _=>rfl) a b (My a b) (fun i=>by simp only [My,neI,neB,neS])
theorem oa11 (a:List Za) (b:List Za):(S11 (decide (a=b)) a b).ok Tryz.prog 11:=by
 intro hp; have h:=ok11 a b hp; rw [as11 a b] at h; exact h
theorem Qkt (a:List Za) (b:List Za) {K_:Prop} (k_:K_):(True)/\(Imp (.l 1 eStr a) (.l 1 eStr a))/\(Imp (.l 1 eStr b) (.l 1 eStr b))/\K_:=⟨trivial,Imp.refl _,Imp.refl _,k_⟩
abbrev Qjl (a:List Za) (b:List Za):Hint true Tryz.prog:=.call 11 (S11 (decide (a=b)) a b) (oa11 a b) none
def F126 (a:ConfCand) (b:ConfCand):Bool :=
 bif (!(a.User.toList==b.User.toList)) then false else (bif (a.Base != b.Base) then false else (bif (!(decide (a.From=b.From))) then false else (bif (!(decide (a.Lines=b.Lines))) then false else true)))
def S126 (R:Bool) (a:ConfCand) (b:ConfCand):Spec:=⟨[.r (.g (Uj a)),.r (.g (Uj b))],.v (.bool R),True⟩
theorem ok126 (a:ConfCand) (b:ConfCand):(S126 (F126 a b) a b).ok Tryz.prog 126 :=
 Ue mixed (fn:=Tryz.f126) (ct:=.seq .no (.seq (.seq .no (.cond (.seq .no .no) .no)) (.seq (.seq .no (.cond (.seq .no .no) .no)) (.seq (.seq (.reg [(4,Qjl a.From b.From)]) (.cond (.seq .no .no) .no)) (.seq (.seq (.reg [(4,Qjl a.Lines b.Lines)]) (.cond (.seq .no .no) .no)) (.seq .no .no)))))) Tryz.func126 (fun (_:True)=>ifb (!(a.User.toList==b.User.toList)) (fun h1=>fiB false (F126 a b) (condT h1 rfl)) (fun h1=>ifn a.Base b.Base (fun h2 _=>fiB false (F126 a b) (condF h1 (condT h2 rfl))) (fun h2 _=>Qkt a.From b.From (ifb (!(decide (a.From=b.From))) (fun h3=>have _:=Qp (Yq h3); fiB false (F126 a b) (condF h1 (condF h2 (condT h3 rfl)))) (fun h3=>have _:=Qb (Uw h3); Qkt a.Lines b.Lines (ifb (!(decide (a.Lines=b.Lines))) (fun h4=>have _:=Qp (Yq h4); fiB false (F126 a b) (condF h1 (condF h2 (condF h3 (condT h4 rfl))))) (fun h4=>have _:=Qb (Uw h4); fiB true (F126 a b) (condF h1 (condF h2 (condF h3 (condF h4 rfl))))))))))) uu1
theorem as126 (a:ConfCand) (b:ConfCand):F126 a b=(decide (a=b)):=by
 cases a; cases b
 simp only [F126,ConfCand.mk.injEq,neI,neB,neS,Qhm,Sp,R7]
theorem oa126 (a:ConfCand) (b:ConfCand):(S126 (decide (a=b)) a b).ok Tryz.prog 126:=by
 intro hp; have h:=ok126 a b hp; rw [as126 a b] at h; exact h
theorem kc126a (a:ConfCand) (b:ConfCand) {K_:Prop} (k_:K_):(True)/\(Imps (Uj a) (Uj a))/\(Imps (Uj b) (Uj b))/\K_:=⟨trivial,Imps.refl _,Imps.refl _,k_⟩
abbrev kh126a (a:ConfCand) (b:ConfCand):Hint true Tryz.prog:=.call 126 (S126 (decide (a=b)) a b) (oa126 a b) none
def Qce (a:List ConfCand) (b:List ConfCand):Int->Lp Int Bool:=fun i40 =>
 bif (decide (i40<(a.length:Int))) then (bif (!(decide ((a.getD i40.toNat default)=(b.getD i40.toNat default)))) then (.ret false) else (.next (i40+1))) else (.done i40)
def F92 (a:List ConfCand) (b:List ConfCand):Bool :=
 bif ((a.length:Int) != (b.length:Int)) then false else ((runL (Qce a b) (((a.length:Int)-0).toNat+1) 0).fin (fun r=>r) (fun i40=>true))
abbrev Qgj (a:List ConfCand):Nat×Int:=((((a.length:Int)-0).toNat+1),0)
abbrev Qso (a:List ConfCand) (m39:Nat) (i40:Int):Prop:=Int.toNat ((a.length:Int)-i40)<m39/\(0:Int)<=i40
abbrev Ubw (a:List ConfCand) (b:List ConfCand):Lp Int Bool:=LpX (Qce a b) (Qgj a)
abbrev Qgq (a:List ConfCand) (b:List ConfCand) (i:Nat×Int):Prop:=LpJ (Qce a b) (Qgj a) i (Qso a i.1 i.2)
abbrev Uft (a:List ConfCand) (b:List ConfCand) (i:Nat×Int) (m39:Nat) (i40:Int):Prop:=LpH (Qce a b) (Qgj a) i m39 i40 (Qso a (m39+1) i40)
abbrev Uea (a:List ConfCand) (b:List ConfCand) (i40:Int) (i40_:Int) (K39:Prop):Prop:=((.int .i64 i40:Value)=.int .i64 i40_)/\(Im (.l 4 Uj a))/\(Im (.l 4 Uj b))/\K39
theorem un92_0 (a:List ConfCand) (b:List ConfCand) (i:Nat×Int) (h:Qgq a b i):Uft a b i (i.1-1) i.2:=⟨hd1 h.1 h.2.1,hd3 h.2.1,hd2 h.2.1,h.2.2⟩
theorem bk92_0 (a:List ConfCand) (b:List ConfCand) (i:Nat×Int) (m39:Nat) (i40:Int) (hl:m39<i.1) (e:runL (Qce a b) m39 i40=Ubw a b) (h:Qso a m39 i40):∃ j:Nat×Int,Uea a b i40 j.2 (Qgq a b j/\j.1<i.1):=⟨(m39,i40),rfl,Imp.refl _,Imp.refl _,⟨e,h⟩,hl⟩
theorem en92_0 (a:List ConfCand) (b:List ConfCand) (h:(0:Int)<=0):Uea a b 0 0 (Qgq a b (Qgj a)):=⟨rfl,Imp.refl _,Imp.refl _,rfl,Qn _,h⟩
def S92 (R:Bool) (a:List ConfCand) (b:List ConfCand):Spec:=⟨[.r (.c (.l 4 Uj a)),.r (.c (.l 4 Uj b))],.v (.bool R),True⟩
theorem ok92 (a:List ConfCand) (b:List ConfCand):(S92 (F92 a b) a b).ok Tryz.prog 92 :=
 Ue mixed (fn:=Tryz.f92) (ct:=.seqk [(0,0),(1,0)] .no (.seq (.seq .no (.cond (.seq .no .no) .no)) (.seq (.seqk [(0,0),(1,0)] .no (.blk (.loop (ι:=Nat×Int) (fun i=>(fun (i40:Int)=>(⟨[(0,some (.h 0 0)),(1,some (.h 1 0)),(5,some (.v (vI i40)))],[(0,some (.shr none (.l 4 Uj a))),(1,some (.shr none (.l 4 Uj b)))],2⟩:St)) i.2) (Qgq a b) (fun i=>i.1) (Qgj a) (fun i=>(fun (i40:Int)=>(.seq (.seq .no (.cond .no .no)) (.seq (.blk (.seq (.reg [(8,kh126a (a.getD i40.toNat default) (b.getD i40.toNat default))]) (.cond (.seq .no .no) .no))) (.reg [(1,.bnd)])))) i.2)))) (.seq .no .no)))) Tryz.func92 (fun (_:True)=>kn a fun _=>kn b fun _=>ifn (a.length:Int) (b.length:Int) (fun h1 _=>fiB false (F92 a b) (condT h1 rfl)) (fun h1 _=>kn a fun _=>kn b fun _=>ai (en92_0 a b uu0) (fun (i0:Nat×Int) (hi0:Qgq a b i0)=>(fun (m0:Nat) (i40:Int) (hh0:Uft a b i0 m0 i40)=>have hI0:=hh0.1; have hl0:=hh0.2.1; have _:=hh0.2.2.1; have _:=hh0.2.2.2; ifd (i40<(a.length:Int)) (fun h3 _=>ai (uu0:ib i40 a) (ai (uu0:ib i40 b) (kc126a (a.getD i40.toNat default) (b.getD i40.toNat default) (ifb (!(decide ((a.getD i40.toNat default)=(b.getD i40.toNat default)))) (fun h4=>have _:=Qp (Yq h4); fiB false (F92 a b) (condF h1 (finR (Um hI0 (condT h3 (condT h4 rfl))) rfl))) (fun h4=>have _:=Qb (Uw h4); ai (iok (i40+1) uu0) (bk92_0 a b i0 m0 (i40+1) hl0 (Ud hI0 (condT h3 (condF h4 rfl))) uu5)))))) (fun h3 _=>have hD0_5:Ubw a b=Lp.done i40:=Uh hI0 (condF h3 rfl); fiB true (F92 a b) (condF h1 (finD hD0_5 rfl)))) (i0.1-1) i0.2 (un92_0 a b i0 hi0)))) uu1
theorem as92 (a:List ConfCand) (b:List ConfCand):F92 a b=(decide (a=b)):=by
 exact Qmn (fun x y=>decide (x=y)) (fun _ _=>rfl) a b (Qce a b) (fun i=>rfl)
theorem oa92 (a:List ConfCand) (b:List ConfCand):(S92 (decide (a=b)) a b).ok Tryz.prog 92:=by
 intro hp; have h:=ok92 a b hp; rw [as92 a b] at h; exact h
theorem kc92a (a:List ConfCand) (b:List ConfCand) {K_:Prop} (k_:K_):(True)/\(Imp (.l 4 Uj a) (.l 4 Uj a))/\(Imp (.l 4 Uj b) (.l 4 Uj b))/\K_:=⟨trivial,Imp.refl _,Imp.refl _,k_⟩
abbrev kh92a (a:List ConfCand) (b:List ConfCand):Hint true Tryz.prog:=.call 92 (S92 (decide (a=b)) a b) (oa92 a b) none
def F56 (a:ConfBox) (b:ConfBox):Bool :=
 bif (a.Edition != b.Edition) then false else (bif (!(decide (a.Lines=b.Lines))) then false else (bif (a.Trial != b.Trial) then false else (bif (!(decide (a.Back=b.Back))) then false else (bif (!(decide (a.Cands=b.Cands))) then false else true))))
def S56 (R:Bool) (a:ConfBox) (b:ConfBox):Spec:=⟨[.r (.g (Yk a)),.r (.g (Yk b))],.v (.bool R),True⟩
theorem ok56 (a:ConfBox) (b:ConfBox):(S56 (F56 a b) a b).ok Tryz.prog 56 :=
 Ue mixed (fn:=Tryz.f56) (ct:=.seq .no (.seq (.seq .no (.cond (.seq .no .no) .no)) (.seq (.seq (.reg [(4,Qjl a.Lines b.Lines)]) (.cond (.seq .no .no) .no)) (.seq (.seq .no (.cond (.seq .no .no) .no)) (.seq (.seq (.reg [(4,Qjl a.Back b.Back)]) (.cond (.seq .no .no) .no)) (.seq (.seq (.reg [(4,kh92a a.Cands b.Cands)]) (.cond (.seq .no .no) .no)) (.seq .no .no))))))) Tryz.func56 (fun (_:True)=>ifn a.Edition b.Edition (fun h1 _=>fiB false (F56 a b) (condT h1 rfl)) (fun h1 _=>Qkt a.Lines b.Lines (ifb (!(decide (a.Lines=b.Lines))) (fun h2=>have _:=Qp (Yq h2); fiB false (F56 a b) (condF h1 (condT h2 rfl))) (fun h2=>have _:=Qb (Uw h2); ifn a.Trial b.Trial (fun h3 _=>fiB false (F56 a b) (condF h1 (condF h2 (condT h3 rfl)))) (fun h3 _=>Qkt a.Back b.Back (ifb (!(decide (a.Back=b.Back))) (fun h4=>have _:=Qp (Yq h4); fiB false (F56 a b) (condF h1 (condF h2 (condF h3 (condT h4 rfl))))) (fun h4=>have _:=Qb (Uw h4); kc92a a.Cands b.Cands (ifb (!(decide (a.Cands=b.Cands))) (fun h5=>have _:=Qp (Yq h5); fiB false (F56 a b) (condF h1 (condF h2 (condF h3 (condF h4 (condT h5 rfl)))))) (fun h5=>have _:=Qb (Uw h5); fiB true (F56 a b) (condF h1 (condF h2 (condF h3 (condF h4 (condF h5 rfl)))))))))))))) uu1
theorem as56 (a:ConfBox) (b:ConfBox):F56 a b=(decide (a=b)):=by
 cases a; cases b
 simp only [F56,ConfBox.mk.injEq,neI,neB,neS,Qhm,Sp,R7]
theorem oa56 (a:ConfBox) (b:ConfBox):(S56 (decide (a=b)) a b).ok Tryz.prog 56:=by
 intro hp; have h:=ok56 a b hp; rw [as56 a b] at h; exact h
def F93 (a:ConfSlot) (b:ConfSlot):Bool :=
 bif (!(a.Whole==b.Whole)) then false else (bif (a.Edition != b.Edition) then false else (bif (!(a.Trial==b.Trial)) then false else (bif (!(decide (a.Lines=b.Lines))) then false else true)))
def S93 (R:Bool) (a:ConfSlot) (b:ConfSlot):Spec:=⟨[.r (.g (Uk a)),.r (.g (Uk b))],.v (.bool R),True⟩
theorem ok93 (a:ConfSlot) (b:ConfSlot):(S93 (F93 a b) a b).ok Tryz.prog 93 :=
 Ue mixed (fn:=Tryz.f93) (ct:=.seq .no (.seq (.seq .no (.cond (.seq .no .no) .no)) (.seq (.seq .no (.cond (.seq .no .no) .no)) (.seq (.seq .no (.cond (.seq .no .no) .no)) (.seq (.seq (.reg [(4,Qjl a.Lines b.Lines)]) (.cond (.seq .no .no) .no)) (.seq .no .no)))))) Tryz.func93 (fun (_:True)=>ifb (!(a.Whole==b.Whole)) (fun h1=>fiB false (F93 a b) (condT h1 rfl)) (fun h1=>ifn a.Edition b.Edition (fun h2 _=>fiB false (F93 a b) (condF h1 (condT h2 rfl))) (fun h2 _=>ifb (!(a.Trial==b.Trial)) (fun h3=>fiB false (F93 a b) (condF h1 (condF h2 (condT h3 rfl)))) (fun h3=>Qkt a.Lines b.Lines (ifb (!(decide (a.Lines=b.Lines))) (fun h4=>have _:=Qp (Yq h4); fiB false (F93 a b) (condF h1 (condF h2 (condF h3 (condT h4 rfl))))) (fun h4=>have _:=Qb (Uw h4); fiB true (F93 a b) (condF h1 (condF h2 (condF h3 (condF h4 rfl)))))))))) uu1
theorem as93 (a:ConfSlot) (b:ConfSlot):F93 a b=(decide (a=b)):=by
 cases a; cases b
 simp only [F93,ConfSlot.mk.injEq,neI,neB,neS,Qhm,Sp,R7]
theorem oa93 (a:ConfSlot) (b:ConfSlot):(S93 (decide (a=b)) a b).ok Tryz.prog 93:=by
 intro hp; have h:=ok93 a b hp; rw [as93 a b] at h; exact h
theorem kc93a (a:ConfSlot) (b:ConfSlot) {K_:Prop} (k_:K_):(True)/\(Imps (Uk a) (Uk a))/\(Imps (Uk b) (Uk b))/\K_:=⟨trivial,Imps.refl _,Imps.refl _,k_⟩
abbrev kh93a (a:ConfSlot) (b:ConfSlot):Hint true Tryz.prog:=.call 93 (S93 (decide (a=b)) a b) (oa93 a b) none
def Qcl (a:List ConfSlot) (b:List ConfSlot):Int->Lp Int Bool:=fun i40 =>
 bif (decide (i40<(a.length:Int))) then (bif (!(decide ((a.getD i40.toNat default)=(b.getD i40.toNat default)))) then (.ret false) else (.next (i40+1))) else (.done i40)
def F57 (a:List ConfSlot) (b:List ConfSlot):Bool :=
 bif ((a.length:Int) != (b.length:Int)) then false else ((runL (Qcl a b) (((a.length:Int)-0).toNat+1) 0).fin (fun r=>r) (fun i40=>true))
abbrev Qfr (a:List ConfSlot):Nat×Int:=((((a.length:Int)-0).toNat+1),0)
abbrev Qtb (a:List ConfSlot) (m39:Nat) (i40:Int):Prop:=Int.toNat ((a.length:Int)-i40)<m39/\(0:Int)<=i40
abbrev Udx (a:List ConfSlot) (b:List ConfSlot):Lp Int Bool:=LpX (Qcl a b) (Qfr a)
abbrev Qfc (a:List ConfSlot) (b:List ConfSlot) (i:Nat×Int):Prop:=LpJ (Qcl a b) (Qfr a) i (Qtb a i.1 i.2)
abbrev Ufd (a:List ConfSlot) (b:List ConfSlot) (i:Nat×Int) (m39:Nat) (i40:Int):Prop:=LpH (Qcl a b) (Qfr a) i m39 i40 (Qtb a (m39+1) i40)
abbrev Udk (a:List ConfSlot) (b:List ConfSlot) (i40:Int) (i40_:Int) (K39:Prop):Prop:=((.int .i64 i40:Value)=.int .i64 i40_)/\(Im (.l 4 Uk a))/\(Im (.l 4 Uk b))/\K39
theorem un57_0 (a:List ConfSlot) (b:List ConfSlot) (i:Nat×Int) (h:Qfc a b i):Ufd a b i (i.1-1) i.2:=⟨hd1 h.1 h.2.1,hd3 h.2.1,hd2 h.2.1,h.2.2⟩
theorem bk57_0 (a:List ConfSlot) (b:List ConfSlot) (i:Nat×Int) (m39:Nat) (i40:Int) (hl:m39<i.1) (e:runL (Qcl a b) m39 i40=Udx a b) (h:Qtb a m39 i40):∃ j:Nat×Int,Udk a b i40 j.2 (Qfc a b j/\j.1<i.1):=⟨(m39,i40),rfl,Imp.refl _,Imp.refl _,⟨e,h⟩,hl⟩
theorem en57_0 (a:List ConfSlot) (b:List ConfSlot) (h:(0:Int)<=0):Udk a b 0 0 (Qfc a b (Qfr a)):=⟨rfl,Imp.refl _,Imp.refl _,rfl,Qn _,h⟩
def S57 (R:Bool) (a:List ConfSlot) (b:List ConfSlot):Spec:=⟨[.r (.c (.l 4 Uk a)),.r (.c (.l 4 Uk b))],.v (.bool R),True⟩
theorem ok57 (a:List ConfSlot) (b:List ConfSlot):(S57 (F57 a b) a b).ok Tryz.prog 57 :=
 Ue mixed (fn:=Tryz.f57) (ct:=.seqk [(0,0),(1,0)] .no (.seq (.seq .no (.cond (.seq .no .no) .no)) (.seq (.seqk [(0,0),(1,0)] .no (.blk (.loop (ι:=Nat×Int) (fun i=>(fun (i40:Int)=>(⟨[(0,some (.h 0 0)),(1,some (.h 1 0)),(5,some (.v (vI i40)))],[(0,some (.shr none (.l 4 Uk a))),(1,some (.shr none (.l 4 Uk b)))],2⟩:St)) i.2) (Qfc a b) (fun i=>i.1) (Qfr a) (fun i=>(fun (i40:Int)=>(.seq (.seq .no (.cond .no .no)) (.seq (.blk (.seq (.reg [(8,kh93a (a.getD i40.toNat default) (b.getD i40.toNat default))]) (.cond (.seq .no .no) .no))) (.reg [(1,.bnd)])))) i.2)))) (.seq .no .no)))) Tryz.func57 (fun (_:True)=>kn a fun _=>kn b fun _=>ifn (a.length:Int) (b.length:Int) (fun h1 _=>fiB false (F57 a b) (condT h1 rfl)) (fun h1 _=>kn a fun _=>kn b fun _=>ai (en57_0 a b uu0) (fun (i0:Nat×Int) (hi0:Qfc a b i0)=>(fun (m0:Nat) (i40:Int) (hh0:Ufd a b i0 m0 i40)=>have hI0:=hh0.1; have hl0:=hh0.2.1; have _:=hh0.2.2.1; have _:=hh0.2.2.2; ifd (i40<(a.length:Int)) (fun h3 _=>ai (uu0:ib i40 a) (ai (uu0:ib i40 b) (kc93a (a.getD i40.toNat default) (b.getD i40.toNat default) (ifb (!(decide ((a.getD i40.toNat default)=(b.getD i40.toNat default)))) (fun h4=>have _:=Qp (Yq h4); fiB false (F57 a b) (condF h1 (finR (Um hI0 (condT h3 (condT h4 rfl))) rfl))) (fun h4=>have _:=Qb (Uw h4); ai (iok (i40+1) uu0) (bk57_0 a b i0 m0 (i40+1) hl0 (Ud hI0 (condT h3 (condF h4 rfl))) uu5)))))) (fun h3 _=>have hD0_5:Udx a b=Lp.done i40:=Uh hI0 (condF h3 rfl); fiB true (F57 a b) (condF h1 (finD hD0_5 rfl)))) (i0.1-1) i0.2 (un57_0 a b i0 hi0)))) uu1
theorem as57 (a:List ConfSlot) (b:List ConfSlot):F57 a b=(decide (a=b)):=by
 exact Qmn (fun x y=>decide (x=y)) (fun _ _=>rfl) a b (Qcl a b) (fun i=>rfl)
theorem oa57 (a:List ConfSlot) (b:List ConfSlot):(S57 (decide (a=b)) a b).ok Tryz.prog 57:=by
 intro hp; have h:=ok57 a b hp; rw [as57 a b] at h; exact h
def F58 (a:ConfJob) (b:ConfJob):Bool :=
 bif (a.Kind != b.Kind) then false else (bif (a.Step != b.Step) then false else (bif (a.Edition != b.Edition) then false else (bif (a.Ticks != b.Ticks) then false else (bif (!(decide (a.Lines=b.Lines))) then false else true))))
def S58 (R:Bool) (a:ConfJob) (b:ConfJob):Spec:=⟨[.r (.g (Ya a)),.r (.g (Ya b))],.v (.bool R),True⟩
theorem ok58 (a:ConfJob) (b:ConfJob):(S58 (F58 a b) a b).ok Tryz.prog 58 :=
 Ue mixed (fn:=Tryz.f58) (ct:=.seq .no (.seq (.seq .no (.cond (.seq .no .no) .no)) (.seq (.seq .no (.cond (.seq .no .no) .no)) (.seq (.seq .no (.cond (.seq .no .no) .no)) (.seq (.seq .no (.cond (.seq .no .no) .no)) (.seq (.seq (.reg [(4,Qjl a.Lines b.Lines)]) (.cond (.seq .no .no) .no)) (.seq .no .no))))))) Tryz.func58 (fun (_:True)=>ifn a.Kind b.Kind (fun h1 _=>fiB false (F58 a b) (condT h1 rfl)) (fun h1 _=>ifn a.Step b.Step (fun h2 _=>fiB false (F58 a b) (condF h1 (condT h2 rfl))) (fun h2 _=>ifn a.Edition b.Edition (fun h3 _=>fiB false (F58 a b) (condF h1 (condF h2 (condT h3 rfl)))) (fun h3 _=>ifn a.Ticks b.Ticks (fun h4 _=>fiB false (F58 a b) (condF h1 (condF h2 (condF h3 (condT h4 rfl))))) (fun h4 _=>Qkt a.Lines b.Lines (ifb (!(decide (a.Lines=b.Lines))) (fun h5=>have _:=Qp (Yq h5); fiB false (F58 a b) (condF h1 (condF h2 (condF h3 (condF h4 (condT h5 rfl)))))) (fun h5=>have _:=Qb (Uw h5); fiB true (F58 a b) (condF h1 (condF h2 (condF h3 (condF h4 (condF h5 rfl)))))))))))) uu1
theorem as58 (a:ConfJob) (b:ConfJob):F58 a b=(decide (a=b)):=by
 cases a; cases b
 simp only [F58,ConfJob.mk.injEq,neI,neB,neS,Qhm,Sp,R7]
theorem oa58 (a:ConfJob) (b:ConfJob):(S58 (decide (a=b)) a b).ok Tryz.prog 58:=by
 intro hp; have h:=ok58 a b hp; rw [as58 a b] at h; exact h
theorem kc56a (a:ConfBox) (b:ConfBox) {K_:Prop} (k_:K_):(True)/\(Imps (Yk a) (Yk a))/\(Imps (Yk b) (Yk b))/\K_:=⟨trivial,Imps.refl _,Imps.refl _,k_⟩
abbrev kh56a (a:ConfBox) (b:ConfBox):Hint true Tryz.prog:=.call 56 (S56 (decide (a=b)) a b) (oa56 a b) none
theorem kc57a (a:List ConfSlot) (b:List ConfSlot) {K_:Prop} (k_:K_):(True)/\(Imp (.l 4 Uk a) (.l 4 Uk a))/\(Imp (.l 4 Uk b) (.l 4 Uk b))/\K_:=⟨trivial,Imp.refl _,Imp.refl _,k_⟩
abbrev kh57a (a:List ConfSlot) (b:List ConfSlot):Hint true Tryz.prog:=.call 57 (S57 (decide (a=b)) a b) (oa57 a b) none
theorem kc58a (a:ConfJob) (b:ConfJob) {K_:Prop} (k_:K_):(True)/\(Imps (Ya a) (Ya a))/\(Imps (Ya b) (Ya b))/\K_:=⟨trivial,Imps.refl _,Imps.refl _,k_⟩
abbrev kh58a (a:ConfJob) (b:ConfJob):Hint true Tryz.prog:=.call 58 (S58 (decide (a=b)) a b) (oa58 a b) none
def F22 (a:ConfStore) (b:ConfStore):Bool :=
 bif (!(a.Up==b.Up)) then false else (bif (!(decide (a.Box=b.Box))) then false else (bif (!(decide (a.Slots=b.Slots))) then false else (bif (a.Live != b.Live) then false else (bif (a.Last != b.Last) then false else (bif (!(decide (a.Job=b.Job))) then false else true)))))
def S22 (R:Bool) (a:ConfStore) (b:ConfStore):Spec:=⟨[.r (.g (Ug a)),.r (.g (Ug b))],.v (.bool R),True⟩
theorem ok22 (a:ConfStore) (b:ConfStore):(S22 (F22 a b) a b).ok Tryz.prog 22 :=
 Ue mixed (fn:=Tryz.f22) (ct:=.seq .no (.seq (.seq .no (.cond (.seq .no .no) .no)) (.seq (.seq (.reg [(4,kh56a a.Box b.Box)]) (.cond (.seq .no .no) .no)) (.seq (.seq (.reg [(4,kh57a a.Slots b.Slots)]) (.cond (.seq .no .no) .no)) (.seq (.seq .no (.cond (.seq .no .no) .no)) (.seq (.seq .no (.cond (.seq .no .no) .no)) (.seq (.seq (.reg [(4,kh58a a.Job b.Job)]) (.cond (.seq .no .no) .no)) (.seq .no .no)))))))) Tryz.func22 (fun (_:True)=>ifb (!(a.Up==b.Up)) (fun h1=>fiB false (F22 a b) (condT h1 rfl)) (fun h1=>kc56a a.Box b.Box (ifb (!(decide (a.Box=b.Box))) (fun h2=>have _:=Qp (Yq h2); fiB false (F22 a b) (condF h1 (condT h2 rfl))) (fun h2=>have _:=Qb (Uw h2); kc57a a.Slots b.Slots (ifb (!(decide (a.Slots=b.Slots))) (fun h3=>have _:=Qp (Yq h3); fiB false (F22 a b) (condF h1 (condF h2 (condT h3 rfl)))) (fun h3=>have _:=Qb (Uw h3); ifn a.Live b.Live (fun h4 _=>fiB false (F22 a b) (condF h1 (condF h2 (condF h3 (condT h4 rfl))))) (fun h4 _=>ifn a.Last b.Last (fun h5 _=>fiB false (F22 a b) (condF h1 (condF h2 (condF h3 (condF h4 (condT h5 rfl)))))) (fun h5 _=>kc58a a.Job b.Job (ifb (!(decide (a.Job=b.Job))) (fun h6=>have _:=Qp (Yq h6); fiB false (F22 a b) (condF h1 (condF h2 (condF h3 (condF h4 (condF h5 (condT h6 rfl))))))) (fun h6=>have _:=Qb (Uw h6); fiB true (F22 a b) (condF h1 (condF h2 (condF h3 (condF h4 (condF h5 (condF h6 rfl)))))))))))))))) uu1
theorem as22 (a:ConfStore) (b:ConfStore):F22 a b=(decide (a=b)):=by
 cases a; cases b
 simp only [F22,ConfStore.mk.injEq,neI,neB,neS,Qhm,Sp,R7]
theorem oa22 (a:ConfStore) (b:ConfStore):(S22 (decide (a=b)) a b).ok Tryz.prog 22:=by
 intro hp; have h:=ok22 a b hp; rw [as22 a b] at h; exact h
theorem kc18 (a:ConfStore) (left':Int) {K_:Prop} (p0_:0<=left') (p1_:left'<=1048576) (p2_:Wl a) (k_:(0<=left'->left'<=1048576->0<=(F18 a left')->(F18 a left')<=left')->(0<=left'->left'<=1048576->0<=(F18 a left')->a.Box.Lines.length<=1048576)->(0<=left'->left'<=1048576->0<=(F18 a left')->∀ k:Nat,(a.Box.Lines.getD k default).size<=1048576)->(0<=left'->left'<=1048576->0<=(F18 a left')->a.Box.Back.length<=1048576)->(0<=left'->left'<=1048576->0<=(F18 a left')->∀ k:Nat,(a.Box.Back.getD k default).size<=1048576)->(0<=left'->left'<=1048576->0<=(F18 a left')->a.Box.Cands.length<=1048576)->(0<=left'->left'<=1048576->0<=(F18 a left')->∀ k:Nat,(a.Box.Cands.getD k default).User.size<=1048576)->(0<=left'->left'<=1048576->0<=(F18 a left')->∀ k:Nat,(a.Box.Cands.getD k default).From.length<=1048576)->(0<=left'->left'<=1048576->0<=(F18 a left')->∀ k:Nat,∀ k':Nat,((a.Box.Cands.getD k default).From.getD k' default).size<=1048576)->(0<=left'->left'<=1048576->0<=(F18 a left')->∀ k:Nat,(a.Box.Cands.getD k default).Lines.length<=1048576)->(0<=left'->left'<=1048576->0<=(F18 a left')->∀ k:Nat,∀ k':Nat,((a.Box.Cands.getD k default).Lines.getD k' default).size<=1048576)->(0<=left'->left'<=1048576->0<=(F18 a left')->a.Slots.length<=1048576)->(0<=left'->left'<=1048576->0<=(F18 a left')->∀ k:Nat,(a.Slots.getD k default).Lines.length<=1048576)->(0<=left'->left'<=1048576->0<=(F18 a left')->∀ k:Nat,∀ k':Nat,((a.Slots.getD k default).Lines.getD k' default).size<=1048576)->(0<=left'->left'<=1048576->0<=(F18 a left')->a.Job.Lines.length<=1048576)->(0<=left'->left'<=1048576->0<=(F18 a left')->∀ k:Nat,(a.Job.Lines.getD k default).size<=1048576)->K_):(0<=left'/\left'<=1048576/\Wl a)/\(Imps (Ug a) (Ug a))/\(Imp (.v (vI left')) (.v (vI left')))/\K_:=⟨⟨p0_,p1_,p2_⟩,Imps.refl _,Imp.refl _,k_ (g18_0 a left') (g18_1 a left') (g18_2 a left') (g18_3 a left') (g18_4 a left') (g18_5 a left') (g18_6 a left') (g18_7 a left') (g18_8 a left') (g18_9 a left') (g18_10 a left') (g18_11 a left') (g18_12 a left') (g18_13 a left') (g18_14 a left') (g18_15 a left')⟩
theorem Uhu (a:ConfStore) {K_:Prop} (p0_:a.Box.Lines.length<=1048576) (p1_:∀ k:Nat,(a.Box.Lines.getD k default).size<=1048576) (p2_:a.Box.Back.length<=1048576) (p3_:∀ k:Nat,(a.Box.Back.getD k default).size<=1048576) (p4_:a.Box.Cands.length<=1048576) (p5_:∀ k:Nat,(a.Box.Cands.getD k default).User.size<=1048576) (p6_:∀ k:Nat,(a.Box.Cands.getD k default).From.length<=1048576) (p7_:∀ k:Nat,∀ k':Nat,((a.Box.Cands.getD k default).From.getD k' default).size<=1048576) (p8_:∀ k:Nat,(a.Box.Cands.getD k default).Lines.length<=1048576) (p9_:∀ k:Nat,∀ k':Nat,((a.Box.Cands.getD k default).Lines.getD k' default).size<=1048576) (p10_:a.Slots.length<=1048576) (p11_:∀ k:Nat,(a.Slots.getD k default).Lines.length<=1048576) (p12_:∀ k:Nat,∀ k':Nat,((a.Slots.getD k default).Lines.getD k' default).size<=1048576) (p13_:a.Job.Lines.length<=1048576) (p14_:∀ k:Nat,(a.Job.Lines.getD k default).size<=1048576) (k_:K_):(a.Box.Lines.length<=1048576/\(∀ k:Nat,(a.Box.Lines.getD k default).size<=1048576)/\a.Box.Back.length<=1048576/\(∀ k:Nat,(a.Box.Back.getD k default).size<=1048576)/\a.Box.Cands.length<=1048576/\(∀ k:Nat,(a.Box.Cands.getD k default).User.size<=1048576)/\(∀ k:Nat,(a.Box.Cands.getD k default).From.length<=1048576)/\(∀ k:Nat,∀ k':Nat,((a.Box.Cands.getD k default).From.getD k' default).size<=1048576)/\(∀ k:Nat,(a.Box.Cands.getD k default).Lines.length<=1048576)/\(∀ k:Nat,∀ k':Nat,((a.Box.Cands.getD k default).Lines.getD k' default).size<=1048576)/\a.Slots.length<=1048576/\(∀ k:Nat,(a.Slots.getD k default).Lines.length<=1048576)/\(∀ k:Nat,∀ k':Nat,((a.Slots.getD k default).Lines.getD k' default).size<=1048576)/\a.Job.Lines.length<=1048576/\(∀ k:Nat,(a.Job.Lines.getD k default).size<=1048576))/\(Imps (Ug a) (Ug a))/\K_:=⟨⟨p0_,p1_,p2_,p3_,p4_,p5_,p6_,p7_,p8_,p9_,p10_,p11_,p12_,p13_,p14_⟩,Imps.refl _,k_⟩
theorem kc19 (s:ConfStore) {K_:Prop} (p0_:∀ k:Nat,(s.Slots.getD k default).Lines.length<=1048576) (p1_:∀ k:Nat,∀ k':Nat,((s.Slots.getD k default).Lines.getD k' default).size<=1048576) (p2_:s.Job.Lines.length<=1048576) (p3_:∀ k:Nat,(s.Job.Lines.getD k default).size<=1048576) (p4_:∀ k:Nat,(s.Box.Cands.getD k default).User.size<=1048576) (p5_:∀ k:Nat,(s.Box.Cands.getD k default).From.length<=1048576) (p6_:∀ k:Nat,∀ k':Nat,((s.Box.Cands.getD k default).From.getD k' default).size<=1048576) (p7_:∀ k:Nat,(s.Box.Cands.getD k default).Lines.length<=1048576) (p8_:∀ k:Nat,∀ k':Nat,((s.Box.Cands.getD k default).Lines.getD k' default).size<=1048576) (k_:K_):((∀ k:Nat,(s.Slots.getD k default).Lines.length<=1048576)/\(∀ k:Nat,∀ k':Nat,((s.Slots.getD k default).Lines.getD k' default).size<=1048576)/\s.Job.Lines.length<=1048576/\(∀ k:Nat,(s.Job.Lines.getD k default).size<=1048576)/\(∀ k:Nat,(s.Box.Cands.getD k default).User.size<=1048576)/\(∀ k:Nat,(s.Box.Cands.getD k default).From.length<=1048576)/\(∀ k:Nat,∀ k':Nat,((s.Box.Cands.getD k default).From.getD k' default).size<=1048576)/\(∀ k:Nat,(s.Box.Cands.getD k default).Lines.length<=1048576)/\(∀ k:Nat,∀ k':Nat,((s.Box.Cands.getD k default).Lines.getD k' default).size<=1048576))/\(Imps (Ug s) (Ug s))/\K_:=⟨⟨p0_,p1_,p2_,p3_,p4_,p5_,p6_,p7_,p8_⟩,Imps.refl _,k_⟩
theorem kc21 (s:ConfStore) {K_:Prop} (p0_:∀ k:Nat,(s.Slots.getD k default).Lines.length<=1048576) (p1_:∀ k:Nat,∀ k':Nat,((s.Slots.getD k default).Lines.getD k' default).size<=1048576) (p2_:s.Job.Lines.length<=1048576) (p3_:∀ k:Nat,(s.Job.Lines.getD k default).size<=1048576) (p4_:∀ k:Nat,(s.Box.Cands.getD k default).User.size<=1048576) (p5_:∀ k:Nat,(s.Box.Cands.getD k default).From.length<=1048576) (p6_:∀ k:Nat,∀ k':Nat,((s.Box.Cands.getD k default).From.getD k' default).size<=1048576) (p7_:∀ k:Nat,(s.Box.Cands.getD k default).Lines.length<=1048576) (p8_:∀ k:Nat,∀ k':Nat,((s.Box.Cands.getD k default).Lines.getD k' default).size<=1048576) (k_:K_):((∀ k:Nat,(s.Slots.getD k default).Lines.length<=1048576)/\(∀ k:Nat,∀ k':Nat,((s.Slots.getD k default).Lines.getD k' default).size<=1048576)/\s.Job.Lines.length<=1048576/\(∀ k:Nat,(s.Job.Lines.getD k default).size<=1048576)/\(∀ k:Nat,(s.Box.Cands.getD k default).User.size<=1048576)/\(∀ k:Nat,(s.Box.Cands.getD k default).From.length<=1048576)/\(∀ k:Nat,∀ k':Nat,((s.Box.Cands.getD k default).From.getD k' default).size<=1048576)/\(∀ k:Nat,(s.Box.Cands.getD k default).Lines.length<=1048576)/\(∀ k:Nat,∀ k':Nat,((s.Box.Cands.getD k default).Lines.getD k' default).size<=1048576))/\(Imps (Ug s) (Ug s))/\K_:=⟨⟨p0_,p1_,p2_,p3_,p4_,p5_,p6_,p7_,p8_⟩,Imps.refl _,k_⟩
abbrev kh18f (a:ConfStore) (left':Int):Hint false Tryz.prog:=.call 18 (S18 a left') ((ok18 a left').to false) none
abbrev Qsg (a:ConfStore):Hint false Tryz.prog:=.call 20 (S20 a a) ((oa20 a).to false) none
abbrev kh19f (s:ConfStore):Hint false Tryz.prog:=.call 19 (S19 s) ((ok19 s).to false) none
abbrev kh21 (s:ConfStore):Hint false Tryz.prog:=.call 21 (S21 s) (ok21 s) none
theorem kc22a (a:ConfStore) (b:ConfStore) {K_:Prop} (k_:K_):(True)/\(Imps (Ug a) (Ug a))/\(Imps (Ug b) (Ug b))/\K_:=⟨trivial,Imps.refl _,Imps.refl _,k_⟩
abbrev kh22af (a:ConfStore) (b:ConfStore):Hint false Tryz.prog:=.call 22 (S22 (decide (a=b)) a b) ((oa22 a b).to false) none
def F6 (aS:ConfStore):Bool :=
 bif (decide ((F18 aS 1048576)<0)) then true else (bif (!((F21 aS)==(F19 aS))) then false else (bif (!(decide (aS=aS))) then false else true))
def S6 (aS:ConfStore):Spec:=⟨[.r (.g (Ug aS))],.v (.bool (F6 aS)),Wl aS⟩
theorem ok6 (aS:ConfStore):(S6 aS).ok Tryz.prog 6 false :=
 Ue mixed (fn:=Tryz.f6) (ct:=.seq .no (.seq .no (.seq (.reg [(2,kh18f aS 1048576)]) (.seq (.seq .no (.cond (.seq .no .no) .no)) (.seq (.reg [(1,Qsg aS),(2,kh19f aS)]) (.seq (.reg [(1,Qsg aS)]) (.seq (.reg [(1,kh21 aS)]) (.seq (.seq .no (.cond (.seq .no .no) .no)) (.seq (.seq (.reg [(2,Qsg aS),(3,kh22af aS aS)]) (.cond (.seq .no .no) .no)) (.seq .no .no)))))))))) Tryz.func6 (fun (hpre0:Wl aS)=>kc18 aS 1048576 uu12 uu12 uu12 (fun gv1 gv2 gv3 gv4 gv5 gv6 gv7 gv8 gv9 gv10 gv11 gv12 gv13 gv14 gv15 gv16=>ifd ((F18 aS 1048576)<0) (fun h17 _=>fiB true (F6 aS) (condT h17 rfl)) (fun h17 _=>Uhu aS uu0 uu8 uu0 uu8 uu0 uu8 uu8 uu8 uu8 uu8 uu0 uu8 uu8 uu0 uu8 (kc19 aS uu15 uu15 uu15 uu15 uu15 uu15 uu15 uu15 uu15 (Uhu aS uu0 uu8 uu0 uu8 uu0 uu8 uu8 uu8 uu8 uu8 uu0 uu8 uu8 uu0 uu8 (kc21 aS uu15 uu15 uu15 uu15 uu15 uu15 uu15 uu15 uu15 (ifb (!((F21 aS)==(F19 aS))) (fun h18=>fiB false (F6 aS) (condF h17 (condT h18 rfl))) (fun h18=>Uhu aS uu0 uu8 uu0 uu8 uu0 uu8 uu8 uu8 uu8 uu8 uu0 uu8 uu8 uu0 uu8 (kc22a aS aS (ifb (!(decide (aS=aS))) (fun h19=>have _:=Qp (Yq h19); fiB false (F6 aS) (condF h17 (condF h18 (condT h19 rfl)))) (fun h19=>have _:=Qb (Uw h19); fiB true (F6 aS) (condF h17 (condF h18 (condF h19 rfl)))))))))))))) uu1
theorem Unj (a:ConfStore):F6 a=true:=by
 unfold F6
 rw [Qsi]
 simp
end Go.Proofs.YthjaknclldmheaaGreatDoor
namespace Go.Proofs.YthjaknclldmheaaGreatDoor
open Go Go.RowKit Go.ChangeShapes Go.WideShapes Go.ChangeAt
set_option maxRecDepth 100000
set_option linter.unusedVariables false
theorem op_4:OpD Tryz.prog 4 eBool:=OpD.bool Tryz.underlying4
theorem op_3:OpD Tryz.prog 3 eInt:=OpD.int Tryz.underlying3
theorem op_9:OpD Tryz.prog 9 eStr:=OpD.str Tryz.underlying9
theorem Qks:OpD Tryz.prog 22 (fun xs:List Za=>[.l 1 eStr xs]):=OpD.slice 1 Tryz.underlying22 op_9 (fun _=>rfl) uu1 uu2
theorem op_144:OpD Tryz.prog 144 Uj:=by
 intro H en W fuel cs y h
 obtain ⟨hl,hf⟩:=Zu Tryz.underlying144 h
 have hn:Tryz.prog.cellsOf 144=4:=by kernel_rfl
 rw [hn] at hl
 obtain ⟨c0,cs0,rfl⟩:∃ c r,cs=c :: r:=by cases cs with | nil=>simp at hl | cons a b=>exact ⟨a,b,rfl⟩
 obtain ⟨c1,cs1,rfl⟩:∃ c r,cs0=c :: r:=by cases cs0 with | nil=>simp at hl | cons a b=>exact ⟨a,b,rfl⟩
 obtain ⟨c2,cs2,rfl⟩:∃ c r,cs1=c :: r:=by cases cs1 with | nil=>simp at hl | cons a b=>exact ⟨a,b,rfl⟩
 obtain ⟨c3,cs3,rfl⟩:∃ c r,cs2=c :: r:=by cases cs2 with | nil=>simp at hl | cons a b=>exact ⟨a,b,rfl⟩
 obtain rfl:cs3=[]:=by simpa using hl
 obtain ⟨n0,z0,g0⟩:=hf 0 _ rfl
 have g0:DataW.trod en Tryz.prog W 0 (fun _=>true) true n0 9 [c0]=some z0:=g0
 obtain ⟨x0,r0⟩:=op_9 H en W n0 [c0] z0 g0
 obtain ⟨n1,z1,g1⟩:=hf 1 _ rfl
 have g1:DataW.trod en Tryz.prog W 0 (fun _=>true) true n1 3 [c1]=some z1:=g1
 obtain ⟨x1,r1⟩:=op_3 H en W n1 [c1] z1 g1
 obtain ⟨n2,z2,g2⟩:=hf 2 _ rfl
 have g2:DataW.trod en Tryz.prog W 0 (fun _=>true) true n2 22 [c2]=some z2:=g2
 obtain ⟨x2,r2⟩:=Qks H en W n2 [c2] z2 g2
 obtain ⟨n3,z3,g3⟩:=hf 3 _ rfl
 have g3:DataW.trod en Tryz.prog W 0 (fun _=>true) true n3 22 [c3]=some z3:=g3
 obtain ⟨x3,r3⟩:=Qks H en W n3 [c3] z3 g3
 exact ⟨⟨x0,x1,x2,x3⟩,(RdVs.app r0 (RdVs.app r1 (RdVs.app r2 r3)))⟩
theorem op_31:OpD Tryz.prog 31 (fun xs:List ConfCand=>[.l 4 Uj xs]):=OpD.slice 4 Tryz.underlying31 op_144 (fun _=>rfl) uu1 uu2
theorem op_33:OpD Tryz.prog 33 Yk:=by
 intro H en W fuel cs y h
 obtain ⟨hl,hf⟩:=Zu Tryz.underlying33 h
 have hn:Tryz.prog.cellsOf 33=5:=by kernel_rfl
 rw [hn] at hl
 obtain ⟨c0,cs0,rfl⟩:∃ c r,cs=c :: r:=by cases cs with | nil=>simp at hl | cons a b=>exact ⟨a,b,rfl⟩
 obtain ⟨c1,cs1,rfl⟩:∃ c r,cs0=c :: r:=by cases cs0 with | nil=>simp at hl | cons a b=>exact ⟨a,b,rfl⟩
 obtain ⟨c2,cs2,rfl⟩:∃ c r,cs1=c :: r:=by cases cs1 with | nil=>simp at hl | cons a b=>exact ⟨a,b,rfl⟩
 obtain ⟨c3,cs3,rfl⟩:∃ c r,cs2=c :: r:=by cases cs2 with | nil=>simp at hl | cons a b=>exact ⟨a,b,rfl⟩
 obtain ⟨c4,cs4,rfl⟩:∃ c r,cs3=c :: r:=by cases cs3 with | nil=>simp at hl | cons a b=>exact ⟨a,b,rfl⟩
 obtain rfl:cs4=[]:=by simpa using hl
 obtain ⟨n0,z0,g0⟩:=hf 0 _ rfl
 have g0:DataW.trod en Tryz.prog W 0 (fun _=>true) true n0 3 [c0]=some z0:=g0
 obtain ⟨x0,r0⟩:=op_3 H en W n0 [c0] z0 g0
 obtain ⟨n1,z1,g1⟩:=hf 1 _ rfl
 have g1:DataW.trod en Tryz.prog W 0 (fun _=>true) true n1 22 [c1]=some z1:=g1
 obtain ⟨x1,r1⟩:=Qks H en W n1 [c1] z1 g1
 obtain ⟨n2,z2,g2⟩:=hf 2 _ rfl
 have g2:DataW.trod en Tryz.prog W 0 (fun _=>true) true n2 3 [c2]=some z2:=g2
 obtain ⟨x2,r2⟩:=op_3 H en W n2 [c2] z2 g2
 obtain ⟨n3,z3,g3⟩:=hf 3 _ rfl
 have g3:DataW.trod en Tryz.prog W 0 (fun _=>true) true n3 22 [c3]=some z3:=g3
 obtain ⟨x3,r3⟩:=Qks H en W n3 [c3] z3 g3
 obtain ⟨n4,z4,g4⟩:=hf 4 _ rfl
 have g4:DataW.trod en Tryz.prog W 0 (fun _=>true) true n4 31 [c4]=some z4:=g4
 obtain ⟨x4,r4⟩:=op_31 H en W n4 [c4] z4 g4
 exact ⟨⟨x0,x1,x2,x3,x4⟩,(RdVs.app r0 (RdVs.app r1 (RdVs.app r2 (RdVs.app r3 r4))))⟩
theorem op_102:OpD Tryz.prog 102 Uk:=by
 intro H en W fuel cs y h
 obtain ⟨hl,hf⟩:=Zu Tryz.underlying102 h
 have hn:Tryz.prog.cellsOf 102=4:=by kernel_rfl
 rw [hn] at hl
 obtain ⟨c0,cs0,rfl⟩:∃ c r,cs=c :: r:=by cases cs with | nil=>simp at hl | cons a b=>exact ⟨a,b,rfl⟩
 obtain ⟨c1,cs1,rfl⟩:∃ c r,cs0=c :: r:=by cases cs0 with | nil=>simp at hl | cons a b=>exact ⟨a,b,rfl⟩
 obtain ⟨c2,cs2,rfl⟩:∃ c r,cs1=c :: r:=by cases cs1 with | nil=>simp at hl | cons a b=>exact ⟨a,b,rfl⟩
 obtain ⟨c3,cs3,rfl⟩:∃ c r,cs2=c :: r:=by cases cs2 with | nil=>simp at hl | cons a b=>exact ⟨a,b,rfl⟩
 obtain rfl:cs3=[]:=by simpa using hl
 obtain ⟨n0,z0,g0⟩:=hf 0 _ rfl
 have g0:DataW.trod en Tryz.prog W 0 (fun _=>true) true n0 4 [c0]=some z0:=g0
 obtain ⟨x0,r0⟩:=op_4 H en W n0 [c0] z0 g0
 obtain ⟨n1,z1,g1⟩:=hf 1 _ rfl
 have g1:DataW.trod en Tryz.prog W 0 (fun _=>true) true n1 3 [c1]=some z1:=g1
 obtain ⟨x1,r1⟩:=op_3 H en W n1 [c1] z1 g1
 obtain ⟨n2,z2,g2⟩:=hf 2 _ rfl
 have g2:DataW.trod en Tryz.prog W 0 (fun _=>true) true n2 4 [c2]=some z2:=g2
 obtain ⟨x2,r2⟩:=op_4 H en W n2 [c2] z2 g2
 obtain ⟨n3,z3,g3⟩:=hf 3 _ rfl
 have g3:DataW.trod en Tryz.prog W 0 (fun _=>true) true n3 22 [c3]=some z3:=g3
 obtain ⟨x3,r3⟩:=Qks H en W n3 [c3] z3 g3
 exact ⟨⟨x0,x1,x2,x3⟩,(RdVs.app r0 (RdVs.app r1 (RdVs.app r2 r3)))⟩
theorem op_34:OpD Tryz.prog 34 (fun xs:List ConfSlot=>[.l 4 Uk xs]):=OpD.slice 4 Tryz.underlying34 op_102 (fun _=>rfl) uu1 uu2
theorem op_36:OpD Tryz.prog 36 Ya:=by
 intro H en W fuel cs y h
 obtain ⟨hl,hf⟩:=Zu Tryz.underlying36 h
 have hn:Tryz.prog.cellsOf 36=5:=by kernel_rfl
 rw [hn] at hl
 obtain ⟨c0,cs0,rfl⟩:∃ c r,cs=c :: r:=by cases cs with | nil=>simp at hl | cons a b=>exact ⟨a,b,rfl⟩
 obtain ⟨c1,cs1,rfl⟩:∃ c r,cs0=c :: r:=by cases cs0 with | nil=>simp at hl | cons a b=>exact ⟨a,b,rfl⟩
 obtain ⟨c2,cs2,rfl⟩:∃ c r,cs1=c :: r:=by cases cs1 with | nil=>simp at hl | cons a b=>exact ⟨a,b,rfl⟩
 obtain ⟨c3,cs3,rfl⟩:∃ c r,cs2=c :: r:=by cases cs2 with | nil=>simp at hl | cons a b=>exact ⟨a,b,rfl⟩
 obtain ⟨c4,cs4,rfl⟩:∃ c r,cs3=c :: r:=by cases cs3 with | nil=>simp at hl | cons a b=>exact ⟨a,b,rfl⟩
 obtain rfl:cs4=[]:=by simpa using hl
 obtain ⟨n0,z0,g0⟩:=hf 0 _ rfl
 have g0:DataW.trod en Tryz.prog W 0 (fun _=>true) true n0 3 [c0]=some z0:=g0
 obtain ⟨x0,r0⟩:=op_3 H en W n0 [c0] z0 g0
 obtain ⟨n1,z1,g1⟩:=hf 1 _ rfl
 have g1:DataW.trod en Tryz.prog W 0 (fun _=>true) true n1 3 [c1]=some z1:=g1
 obtain ⟨x1,r1⟩:=op_3 H en W n1 [c1] z1 g1
 obtain ⟨n2,z2,g2⟩:=hf 2 _ rfl
 have g2:DataW.trod en Tryz.prog W 0 (fun _=>true) true n2 3 [c2]=some z2:=g2
 obtain ⟨x2,r2⟩:=op_3 H en W n2 [c2] z2 g2
 obtain ⟨n3,z3,g3⟩:=hf 3 _ rfl
 have g3:DataW.trod en Tryz.prog W 0 (fun _=>true) true n3 3 [c3]=some z3:=g3
 obtain ⟨x3,r3⟩:=op_3 H en W n3 [c3] z3 g3
 obtain ⟨n4,z4,g4⟩:=hf 4 _ rfl
 have g4:DataW.trod en Tryz.prog W 0 (fun _=>true) true n4 22 [c4]=some z4:=g4
 obtain ⟨x4,r4⟩:=Qks H en W n4 [c4] z4 g4
 exact ⟨⟨x0,x1,x2,x3,x4⟩,(RdVs.app r0 (RdVs.app r1 (RdVs.app r2 (RdVs.app r3 r4))))⟩
theorem op_38:OpD Tryz.prog 38 Ug:=by
 intro H en W fuel cs y h
 obtain ⟨hl,hf⟩:=Zu Tryz.underlying38 h
 have hn:Tryz.prog.cellsOf 38=14:=by kernel_rfl
 rw [hn] at hl
 obtain ⟨c0,cs0,rfl⟩:∃ c r,cs=c :: r:=by cases cs with | nil=>simp at hl | cons a b=>exact ⟨a,b,rfl⟩
 obtain ⟨c1,cs1,rfl⟩:∃ c r,cs0=c :: r:=by cases cs0 with | nil=>simp at hl | cons a b=>exact ⟨a,b,rfl⟩
 obtain ⟨c2,cs2,rfl⟩:∃ c r,cs1=c :: r:=by cases cs1 with | nil=>simp at hl | cons a b=>exact ⟨a,b,rfl⟩
 obtain ⟨c3,cs3,rfl⟩:∃ c r,cs2=c :: r:=by cases cs2 with | nil=>simp at hl | cons a b=>exact ⟨a,b,rfl⟩
 obtain ⟨c4,cs4,rfl⟩:∃ c r,cs3=c :: r:=by cases cs3 with | nil=>simp at hl | cons a b=>exact ⟨a,b,rfl⟩
 obtain ⟨c5,cs5,rfl⟩:∃ c r,cs4=c :: r:=by cases cs4 with | nil=>simp at hl | cons a b=>exact ⟨a,b,rfl⟩
 obtain ⟨c6,cs6,rfl⟩:∃ c r,cs5=c :: r:=by cases cs5 with | nil=>simp at hl | cons a b=>exact ⟨a,b,rfl⟩
 obtain ⟨c7,cs7,rfl⟩:∃ c r,cs6=c :: r:=by cases cs6 with | nil=>simp at hl | cons a b=>exact ⟨a,b,rfl⟩
 obtain ⟨c8,cs8,rfl⟩:∃ c r,cs7=c :: r:=by cases cs7 with | nil=>simp at hl | cons a b=>exact ⟨a,b,rfl⟩
 obtain ⟨c9,cs9,rfl⟩:∃ c r,cs8=c :: r:=by cases cs8 with | nil=>simp at hl | cons a b=>exact ⟨a,b,rfl⟩
 obtain ⟨c10,cs10,rfl⟩:∃ c r,cs9=c :: r:=by cases cs9 with | nil=>simp at hl | cons a b=>exact ⟨a,b,rfl⟩
 obtain ⟨c11,cs11,rfl⟩:∃ c r,cs10=c :: r:=by cases cs10 with | nil=>simp at hl | cons a b=>exact ⟨a,b,rfl⟩
 obtain ⟨c12,cs12,rfl⟩:∃ c r,cs11=c :: r:=by cases cs11 with | nil=>simp at hl | cons a b=>exact ⟨a,b,rfl⟩
 obtain ⟨c13,cs13,rfl⟩:∃ c r,cs12=c :: r:=by cases cs12 with | nil=>simp at hl | cons a b=>exact ⟨a,b,rfl⟩
 obtain rfl:cs13=[]:=by simpa using hl
 obtain ⟨n0,z0,g0⟩:=hf 0 _ rfl
 have g0:DataW.trod en Tryz.prog W 0 (fun _=>true) true n0 4 [c0]=some z0:=g0
 obtain ⟨x0,r0⟩:=op_4 H en W n0 [c0] z0 g0
 obtain ⟨n1,z1,g1⟩:=hf 1 _ rfl
 have g1:DataW.trod en Tryz.prog W 0 (fun _=>true) true n1 33 [c1,c2,c3,c4,c5]=some z1:=g1
 obtain ⟨x1,r1⟩:=op_33 H en W n1 [c1,c2,c3,c4,c5] z1 g1
 obtain ⟨n2,z2,g2⟩:=hf 2 _ rfl
 have g2:DataW.trod en Tryz.prog W 0 (fun _=>true) true n2 34 [c6]=some z2:=g2
 obtain ⟨x2,r2⟩:=op_34 H en W n2 [c6] z2 g2
 obtain ⟨n3,z3,g3⟩:=hf 3 _ rfl
 have g3:DataW.trod en Tryz.prog W 0 (fun _=>true) true n3 3 [c7]=some z3:=g3
 obtain ⟨x3,r3⟩:=op_3 H en W n3 [c7] z3 g3
 obtain ⟨n4,z4,g4⟩:=hf 4 _ rfl
 have g4:DataW.trod en Tryz.prog W 0 (fun _=>true) true n4 3 [c8]=some z4:=g4
 obtain ⟨x4,r4⟩:=op_3 H en W n4 [c8] z4 g4
 obtain ⟨n5,z5,g5⟩:=hf 5 _ rfl
 have g5:DataW.trod en Tryz.prog W 0 (fun _=>true) true n5 36 [c9,c10,c11,c12,c13]=some z5:=g5
 obtain ⟨x5,r5⟩:=op_36 H en W n5 [c9,c10,c11,c12,c13] z5 g5
 exact ⟨⟨x0,x1,x2,x3,x4,x5⟩,(RdVs.app r0 (RdVs.app r1 (RdVs.app r2 (RdVs.app r3 (RdVs.app r4 r5)))))⟩
theorem ob_9:OpDB Tryz.prog 9 eStr (fun s=>s.size<=9223372036854775807):=OpDB.str Tryz.underlying9
theorem Qir:OpDB Tryz.prog 22 (fun xs:List Za=>[.l 1 eStr xs]) (fun a=>∀ k:Nat,(a.getD k default).size<=9223372036854775807):=OpDB.slice 1 Tryz.underlying22 ob_9 (fun _=>rfl) uu1 uu2 uu2
theorem ob_144:OpDB Tryz.prog 144 Uj Ke:=by
 intro H en W fuel cs y h
 obtain ⟨hl,hf⟩:=Zu Tryz.underlying144 h
 have hn:Tryz.prog.cellsOf 144=4:=by kernel_rfl
 rw [hn] at hl
 obtain ⟨c0,cs0,rfl⟩:∃ c r,cs=c :: r:=by cases cs with | nil=>simp at hl | cons a b=>exact ⟨a,b,rfl⟩
 obtain ⟨c1,cs1,rfl⟩:∃ c r,cs0=c :: r:=by cases cs0 with | nil=>simp at hl | cons a b=>exact ⟨a,b,rfl⟩
 obtain ⟨c2,cs2,rfl⟩:∃ c r,cs1=c :: r:=by cases cs1 with | nil=>simp at hl | cons a b=>exact ⟨a,b,rfl⟩
 obtain ⟨c3,cs3,rfl⟩:∃ c r,cs2=c :: r:=by cases cs2 with | nil=>simp at hl | cons a b=>exact ⟨a,b,rfl⟩
 obtain rfl:cs3=[]:=by simpa using hl
 obtain ⟨n0,z0,g0⟩:=hf 0 _ rfl
 have g0:DataW.trod en Tryz.prog W 0 (fun _=>true) true n0 9 [c0]=some z0:=g0
 obtain ⟨x0,r0,b0⟩:=ob_9 H en W n0 [c0] z0 g0
 obtain ⟨n1,z1,g1⟩:=hf 1 _ rfl
 have g1:DataW.trod en Tryz.prog W 0 (fun _=>true) true n1 3 [c1]=some z1:=g1
 obtain ⟨x1,r1⟩:=op_3 H en W n1 [c1] z1 g1
 obtain ⟨n2,z2,g2⟩:=hf 2 _ rfl
 have g2:DataW.trod en Tryz.prog W 0 (fun _=>true) true n2 22 [c2]=some z2:=g2
 obtain ⟨x2,r2,b2⟩:=Qir H en W n2 [c2] z2 g2
 obtain ⟨n3,z3,g3⟩:=hf 3 _ rfl
 have g3:DataW.trod en Tryz.prog W 0 (fun _=>true) true n3 22 [c3]=some z3:=g3
 obtain ⟨x3,r3,b3⟩:=Qir H en W n3 [c3] z3 g3
 exact ⟨⟨x0,x1,x2,x3⟩,(RdVs.app r0 (RdVs.app r1 (RdVs.app r2 r3))),⟨b0,b2,b3⟩⟩
theorem ob_31:OpDB Tryz.prog 31 (fun xs:List ConfCand=>[.l 4 Uj xs]) (fun a=>∀ k:Nat,Ke (a.getD k default)):=OpDB.slice 4 Tryz.underlying31 ob_144 (fun _=>rfl) uu1 uu2 (by simp [Ke,default,instInhabitedConfCand.default])
theorem ob_33:OpDB Tryz.prog 33 Yk Br:=by
 intro H en W fuel cs y h
 obtain ⟨hl,hf⟩:=Zu Tryz.underlying33 h
 have hn:Tryz.prog.cellsOf 33=5:=by kernel_rfl
 rw [hn] at hl
 obtain ⟨c0,cs0,rfl⟩:∃ c r,cs=c :: r:=by cases cs with | nil=>simp at hl | cons a b=>exact ⟨a,b,rfl⟩
 obtain ⟨c1,cs1,rfl⟩:∃ c r,cs0=c :: r:=by cases cs0 with | nil=>simp at hl | cons a b=>exact ⟨a,b,rfl⟩
 obtain ⟨c2,cs2,rfl⟩:∃ c r,cs1=c :: r:=by cases cs1 with | nil=>simp at hl | cons a b=>exact ⟨a,b,rfl⟩
 obtain ⟨c3,cs3,rfl⟩:∃ c r,cs2=c :: r:=by cases cs2 with | nil=>simp at hl | cons a b=>exact ⟨a,b,rfl⟩
 obtain ⟨c4,cs4,rfl⟩:∃ c r,cs3=c :: r:=by cases cs3 with | nil=>simp at hl | cons a b=>exact ⟨a,b,rfl⟩
 obtain rfl:cs4=[]:=by simpa using hl
 obtain ⟨n0,z0,g0⟩:=hf 0 _ rfl
 have g0:DataW.trod en Tryz.prog W 0 (fun _=>true) true n0 3 [c0]=some z0:=g0
 obtain ⟨x0,r0⟩:=op_3 H en W n0 [c0] z0 g0
 obtain ⟨n1,z1,g1⟩:=hf 1 _ rfl
 have g1:DataW.trod en Tryz.prog W 0 (fun _=>true) true n1 22 [c1]=some z1:=g1
 obtain ⟨x1,r1,b1⟩:=Qir H en W n1 [c1] z1 g1
 obtain ⟨n2,z2,g2⟩:=hf 2 _ rfl
 have g2:DataW.trod en Tryz.prog W 0 (fun _=>true) true n2 3 [c2]=some z2:=g2
 obtain ⟨x2,r2⟩:=op_3 H en W n2 [c2] z2 g2
 obtain ⟨n3,z3,g3⟩:=hf 3 _ rfl
 have g3:DataW.trod en Tryz.prog W 0 (fun _=>true) true n3 22 [c3]=some z3:=g3
 obtain ⟨x3,r3,b3⟩:=Qir H en W n3 [c3] z3 g3
 obtain ⟨n4,z4,g4⟩:=hf 4 _ rfl
 have g4:DataW.trod en Tryz.prog W 0 (fun _=>true) true n4 31 [c4]=some z4:=g4
 obtain ⟨x4,r4,b4⟩:=ob_31 H en W n4 [c4] z4 g4
 exact ⟨⟨x0,x1,x2,x3,x4⟩,(RdVs.app r0 (RdVs.app r1 (RdVs.app r2 (RdVs.app r3 r4)))),⟨b1,b3,b4⟩⟩
theorem ob_102:OpDB Tryz.prog 102 Uk Kf:=by
 intro H en W fuel cs y h
 obtain ⟨hl,hf⟩:=Zu Tryz.underlying102 h
 have hn:Tryz.prog.cellsOf 102=4:=by kernel_rfl
 rw [hn] at hl
 obtain ⟨c0,cs0,rfl⟩:∃ c r,cs=c :: r:=by cases cs with | nil=>simp at hl | cons a b=>exact ⟨a,b,rfl⟩
 obtain ⟨c1,cs1,rfl⟩:∃ c r,cs0=c :: r:=by cases cs0 with | nil=>simp at hl | cons a b=>exact ⟨a,b,rfl⟩
 obtain ⟨c2,cs2,rfl⟩:∃ c r,cs1=c :: r:=by cases cs1 with | nil=>simp at hl | cons a b=>exact ⟨a,b,rfl⟩
 obtain ⟨c3,cs3,rfl⟩:∃ c r,cs2=c :: r:=by cases cs2 with | nil=>simp at hl | cons a b=>exact ⟨a,b,rfl⟩
 obtain rfl:cs3=[]:=by simpa using hl
 obtain ⟨n0,z0,g0⟩:=hf 0 _ rfl
 have g0:DataW.trod en Tryz.prog W 0 (fun _=>true) true n0 4 [c0]=some z0:=g0
 obtain ⟨x0,r0⟩:=op_4 H en W n0 [c0] z0 g0
 obtain ⟨n1,z1,g1⟩:=hf 1 _ rfl
 have g1:DataW.trod en Tryz.prog W 0 (fun _=>true) true n1 3 [c1]=some z1:=g1
 obtain ⟨x1,r1⟩:=op_3 H en W n1 [c1] z1 g1
 obtain ⟨n2,z2,g2⟩:=hf 2 _ rfl
 have g2:DataW.trod en Tryz.prog W 0 (fun _=>true) true n2 4 [c2]=some z2:=g2
 obtain ⟨x2,r2⟩:=op_4 H en W n2 [c2] z2 g2
 obtain ⟨n3,z3,g3⟩:=hf 3 _ rfl
 have g3:DataW.trod en Tryz.prog W 0 (fun _=>true) true n3 22 [c3]=some z3:=g3
 obtain ⟨x3,r3,b3⟩:=Qir H en W n3 [c3] z3 g3
 exact ⟨⟨x0,x1,x2,x3⟩,(RdVs.app r0 (RdVs.app r1 (RdVs.app r2 r3))),b3⟩
theorem ob_34:OpDB Tryz.prog 34 (fun xs:List ConfSlot=>[.l 4 Uk xs]) (fun a=>∀ k:Nat,Kf (a.getD k default)):=OpDB.slice 4 Tryz.underlying34 ob_102 (fun _=>rfl) uu1 uu2 (by simp [Kf,default,instInhabitedConfSlot.default])
theorem ob_36:OpDB Tryz.prog 36 Ya Bo:=by
 intro H en W fuel cs y h
 obtain ⟨hl,hf⟩:=Zu Tryz.underlying36 h
 have hn:Tryz.prog.cellsOf 36=5:=by kernel_rfl
 rw [hn] at hl
 obtain ⟨c0,cs0,rfl⟩:∃ c r,cs=c :: r:=by cases cs with | nil=>simp at hl | cons a b=>exact ⟨a,b,rfl⟩
 obtain ⟨c1,cs1,rfl⟩:∃ c r,cs0=c :: r:=by cases cs0 with | nil=>simp at hl | cons a b=>exact ⟨a,b,rfl⟩
 obtain ⟨c2,cs2,rfl⟩:∃ c r,cs1=c :: r:=by cases cs1 with | nil=>simp at hl | cons a b=>exact ⟨a,b,rfl⟩
 obtain ⟨c3,cs3,rfl⟩:∃ c r,cs2=c :: r:=by cases cs2 with | nil=>simp at hl | cons a b=>exact ⟨a,b,rfl⟩
 obtain ⟨c4,cs4,rfl⟩:∃ c r,cs3=c :: r:=by cases cs3 with | nil=>simp at hl | cons a b=>exact ⟨a,b,rfl⟩
 obtain rfl:cs4=[]:=by simpa using hl
 obtain ⟨n0,z0,g0⟩:=hf 0 _ rfl
 have g0:DataW.trod en Tryz.prog W 0 (fun _=>true) true n0 3 [c0]=some z0:=g0
 obtain ⟨x0,r0⟩:=op_3 H en W n0 [c0] z0 g0
 obtain ⟨n1,z1,g1⟩:=hf 1 _ rfl
 have g1:DataW.trod en Tryz.prog W 0 (fun _=>true) true n1 3 [c1]=some z1:=g1
 obtain ⟨x1,r1⟩:=op_3 H en W n1 [c1] z1 g1
 obtain ⟨n2,z2,g2⟩:=hf 2 _ rfl
 have g2:DataW.trod en Tryz.prog W 0 (fun _=>true) true n2 3 [c2]=some z2:=g2
 obtain ⟨x2,r2⟩:=op_3 H en W n2 [c2] z2 g2
 obtain ⟨n3,z3,g3⟩:=hf 3 _ rfl
 have g3:DataW.trod en Tryz.prog W 0 (fun _=>true) true n3 3 [c3]=some z3:=g3
 obtain ⟨x3,r3⟩:=op_3 H en W n3 [c3] z3 g3
 obtain ⟨n4,z4,g4⟩:=hf 4 _ rfl
 have g4:DataW.trod en Tryz.prog W 0 (fun _=>true) true n4 22 [c4]=some z4:=g4
 obtain ⟨x4,r4,b4⟩:=Qir H en W n4 [c4] z4 g4
 exact ⟨⟨x0,x1,x2,x3,x4⟩,(RdVs.app r0 (RdVs.app r1 (RdVs.app r2 (RdVs.app r3 r4)))),b4⟩
theorem ob_38:OpDB Tryz.prog 38 Ug Wl:=by
 intro H en W fuel cs y h
 obtain ⟨hl,hf⟩:=Zu Tryz.underlying38 h
 have hn:Tryz.prog.cellsOf 38=14:=by kernel_rfl
 rw [hn] at hl
 obtain ⟨c0,cs0,rfl⟩:∃ c r,cs=c :: r:=by cases cs with | nil=>simp at hl | cons a b=>exact ⟨a,b,rfl⟩
 obtain ⟨c1,cs1,rfl⟩:∃ c r,cs0=c :: r:=by cases cs0 with | nil=>simp at hl | cons a b=>exact ⟨a,b,rfl⟩
 obtain ⟨c2,cs2,rfl⟩:∃ c r,cs1=c :: r:=by cases cs1 with | nil=>simp at hl | cons a b=>exact ⟨a,b,rfl⟩
 obtain ⟨c3,cs3,rfl⟩:∃ c r,cs2=c :: r:=by cases cs2 with | nil=>simp at hl | cons a b=>exact ⟨a,b,rfl⟩
 obtain ⟨c4,cs4,rfl⟩:∃ c r,cs3=c :: r:=by cases cs3 with | nil=>simp at hl | cons a b=>exact ⟨a,b,rfl⟩
 obtain ⟨c5,cs5,rfl⟩:∃ c r,cs4=c :: r:=by cases cs4 with | nil=>simp at hl | cons a b=>exact ⟨a,b,rfl⟩
 obtain ⟨c6,cs6,rfl⟩:∃ c r,cs5=c :: r:=by cases cs5 with | nil=>simp at hl | cons a b=>exact ⟨a,b,rfl⟩
 obtain ⟨c7,cs7,rfl⟩:∃ c r,cs6=c :: r:=by cases cs6 with | nil=>simp at hl | cons a b=>exact ⟨a,b,rfl⟩
 obtain ⟨c8,cs8,rfl⟩:∃ c r,cs7=c :: r:=by cases cs7 with | nil=>simp at hl | cons a b=>exact ⟨a,b,rfl⟩
 obtain ⟨c9,cs9,rfl⟩:∃ c r,cs8=c :: r:=by cases cs8 with | nil=>simp at hl | cons a b=>exact ⟨a,b,rfl⟩
 obtain ⟨c10,cs10,rfl⟩:∃ c r,cs9=c :: r:=by cases cs9 with | nil=>simp at hl | cons a b=>exact ⟨a,b,rfl⟩
 obtain ⟨c11,cs11,rfl⟩:∃ c r,cs10=c :: r:=by cases cs10 with | nil=>simp at hl | cons a b=>exact ⟨a,b,rfl⟩
 obtain ⟨c12,cs12,rfl⟩:∃ c r,cs11=c :: r:=by cases cs11 with | nil=>simp at hl | cons a b=>exact ⟨a,b,rfl⟩
 obtain ⟨c13,cs13,rfl⟩:∃ c r,cs12=c :: r:=by cases cs12 with | nil=>simp at hl | cons a b=>exact ⟨a,b,rfl⟩
 obtain rfl:cs13=[]:=by simpa using hl
 obtain ⟨n0,z0,g0⟩:=hf 0 _ rfl
 have g0:DataW.trod en Tryz.prog W 0 (fun _=>true) true n0 4 [c0]=some z0:=g0
 obtain ⟨x0,r0⟩:=op_4 H en W n0 [c0] z0 g0
 obtain ⟨n1,z1,g1⟩:=hf 1 _ rfl
 have g1:DataW.trod en Tryz.prog W 0 (fun _=>true) true n1 33 [c1,c2,c3,c4,c5]=some z1:=g1
 obtain ⟨x1,r1,b1⟩:=ob_33 H en W n1 [c1,c2,c3,c4,c5] z1 g1
 obtain ⟨n2,z2,g2⟩:=hf 2 _ rfl
 have g2:DataW.trod en Tryz.prog W 0 (fun _=>true) true n2 34 [c6]=some z2:=g2
 obtain ⟨x2,r2,b2⟩:=ob_34 H en W n2 [c6] z2 g2
 obtain ⟨n3,z3,g3⟩:=hf 3 _ rfl
 have g3:DataW.trod en Tryz.prog W 0 (fun _=>true) true n3 3 [c7]=some z3:=g3
 obtain ⟨x3,r3⟩:=op_3 H en W n3 [c7] z3 g3
 obtain ⟨n4,z4,g4⟩:=hf 4 _ rfl
 have g4:DataW.trod en Tryz.prog W 0 (fun _=>true) true n4 3 [c8]=some z4:=g4
 obtain ⟨x4,r4⟩:=op_3 H en W n4 [c8] z4 g4
 obtain ⟨n5,z5,g5⟩:=hf 5 _ rfl
 have g5:DataW.trod en Tryz.prog W 0 (fun _=>true) true n5 36 [c9,c10,c11,c12,c13]=some z5:=g5
 obtain ⟨x5,r5,b5⟩:=ob_36 H en W n5 [c9,c10,c11,c12,c13] z5 g5
 exact ⟨⟨x0,x1,x2,x3,x4,x5⟩,(RdVs.app r0 (RdVs.app r1 (RdVs.app r2 (RdVs.app r3 (RdVs.app r4 r5))))),⟨b1,b2,b5⟩⟩
theorem own:ownKnob Tryz.prog.godebug=none:=by kernel_rfl
theorem cfA:Tryz.prog.inPlace 6=Rows.fnExactConfStoreOkRow.inPlace:=by kernel_rfl
theorem cfB:Tryz.prog.unfollowed 6=Rows.fnExactConfStoreOkRow.unfollowed:=by kernel_rfl
theorem cfC:Tryz.prog.recurses 6=Rows.fnExactConfStoreOkRow.recurses:=by kernel_rfl
theorem cfD:Tryz.prog.varsNamed 6=Rows.fnExactConfStoreOkRow.named:=by kernel_rfl
set_option maxRecDepth 100000 in
def putC (cs:Array Value):Obj->Obj
 | .cells _ t fz=>.cells cs t fz
 | o=>o
noncomputable def Qcj (os:Os):World :=
 let w:=World.holding Tryz.prog os ⟨#[.cells #[.string ⟨#[118,97,108,117,101,32,111,117,116,32,111,102,32,114,97,110,103,101]⟩] 224,.cells #[.string ⟨#[105,110,118,97,108,105,100,32,115,121,110,116,97,120]⟩] 224],#[],[]⟩
 { w with heap:=(((((((w.heap.modify ((Tryz.prog.globalNamed "math/bits.deBruijn32tab").getD 0) (putC #[(.int .u8 0),(.int .u8 1),(.int .u8 28),(.int .u8 2),(.int .u8 29),(.int .u8 14),(.int .u8 24),(.int .u8 3),(.int .u8 30),(.int .u8 22),(.int .u8 20),(.int .u8 15),(.int .u8 25),(.int .u8 17),(.int .u8 4),(.int .u8 8),(.int .u8 31),(.int .u8 27),(.int .u8 13),(.int .u8 23),(.int .u8 21),(.int .u8 19),(.int .u8 16),(.int .u8 7),(.int .u8 26),(.int .u8 12),(.int .u8 18),(.int .u8 6),(.int .u8 11),(.int .u8 5),(.int .u8 10),(.int .u8 9)])).modify ((Tryz.prog.globalNamed "math/bits.deBruijn64tab").getD 0) (putC #[(.int .u8 0),(.int .u8 1),(.int .u8 56),(.int .u8 2),(.int .u8 57),(.int .u8 49),(.int .u8 28),(.int .u8 3),(.int .u8 61),(.int .u8 58),(.int .u8 42),(.int .u8 50),(.int .u8 38),(.int .u8 29),(.int .u8 17),(.int .u8 4),(.int .u8 62),(.int .u8 47),(.int .u8 59),(.int .u8 36),(.int .u8 45),(.int .u8 43),(.int .u8 51),(.int .u8 22),(.int .u8 53),(.int .u8 39),(.int .u8 33),(.int .u8 30),(.int .u8 24),(.int .u8 18),(.int .u8 12),(.int .u8 5),(.int .u8 63),(.int .u8 55),(.int .u8 48),(.int .u8 27),(.int .u8 60),(.int .u8 41),(.int .u8 37),(.int .u8 16),(.int .u8 46),(.int .u8 35),(.int .u8 44),(.int .u8 21),(.int .u8 52),(.int .u8 32),(.int .u8 23),(.int .u8 11),(.int .u8 54),(.int .u8 26),(.int .u8 40),(.int .u8 15),(.int .u8 34),(.int .u8 20),(.int .u8 31),(.int .u8 10),(.int .u8 25),(.int .u8 14),(.int .u8 19),(.int .u8 9),(.int .u8 13),(.int .u8 8),(.int .u8 7),(.int .u8 6)])).modify ((Tryz.prog.globalNamed "internal/strconv.uint64pow10").getD 0) (putC #[(.int .u64 1),(.int .u64 10),(.int .u64 100),(.int .u64 1000),(.int .u64 10000),(.int .u64 100000),(.int .u64 1000000),(.int .u64 10000000),(.int .u64 100000000),(.int .u64 1000000000),(.int .u64 10000000000),(.int .u64 100000000000),(.int .u64 1000000000000),(.int .u64 10000000000000),(.int .u64 100000000000000),(.int .u64 1000000000000000),(.int .u64 10000000000000000),(.int .u64 100000000000000000),(.int .u64 1000000000000000000),(.int .u64 10000000000000000000)])).modify ((Tryz.prog.globalNamed "unicode/utf8.acceptRanges").getD 0) (putC #[(.int .u8 128),(.int .u8 191),(.int .u8 160),(.int .u8 191),(.int .u8 128),(.int .u8 159),(.int .u8 144),(.int .u8 191),(.int .u8 128),(.int .u8 143),(.int .u8 0),(.int .u8 0),(.int .u8 0),(.int .u8 0),(.int .u8 0),(.int .u8 0),(.int .u8 0),(.int .u8 0),(.int .u8 0),(.int .u8 0),(.int .u8 0),(.int .u8 0),(.int .u8 0),(.int .u8 0),(.int .u8 0),(.int .u8 0),(.int .u8 0),(.int .u8 0),(.int .u8 0),(.int .u8 0),(.int .u8 0),(.int .u8 0)])).modify ((Tryz.prog.globalNamed "strconv.ErrRange").getD 0) (putC #[.iface 222 (.pointer (some ⟨Tryz.prog.low+0,0,none⟩))])).modify ((Tryz.prog.globalNamed "strconv.ErrSyntax").getD 0) (putC #[.iface 222 (.pointer (some ⟨Tryz.prog.low+1,0,none⟩))])).modify ((Tryz.prog.globalNamed "unicode/utf8.first").getD 0) (putC ((Go.Pinned.utf8FirstZ.map fun n=>Value.int .u8 (n:Nat)).toArray))) }
theorem Uce (os:Os):laidMet Tryz.prog Rows.fnExactConfStoreOkRow.laid ((Qcj os).forCall (fun _ _=>0) ⟨#[],#[.agg #[.bool false,.int .i64 0,.slice none 0 0,.int .i64 0,.slice none 0 0,.slice none 0 0,.slice none 0 0,.int .i64 0,.int .i64 0,.int .i64 0,.int .i64 0,.int .i64 0,.int .i64 0,.slice none 0 0]],[]⟩).memory :=
 laidMet_of_run3 8 uu1 uu1 uu1
theorem reads (os:Os) {H:Type} (enc:TypeId×Value->H):∃ Hs,DataW.whole enc Tryz.prog ((Qcj os).forCall (fun _ _=>0) ⟨#[],#[.agg #[.bool false,.int .i64 0,.slice none 0 0,.int .i64 0,.slice none 0 0,.slice none 0 0,.slice none 0 0,.int .i64 0,.int .i64 0,.int .i64 0,.int .i64 0,.int .i64 0,.int .i64 0,.slice none 0 0]],[]⟩).memory Tryz.f6.params.toList Rows.fnExactConfStoreOkSpec.vars false #[.agg #[.bool false,.int .i64 0,.slice none 0 0,.int .i64 0,.slice none 0 0,.slice none 0 0,.slice none 0 0,.int .i64 0,.int .i64 0,.int .i64 0,.int .i64 0,.int .i64 0,.int .i64 0,.slice none 0 0]].toList 8=some ([.agg [.lit (.bool false),.agg [.lit (.int .i64 0),.nil,.lit (.int .i64 0),.nil,.nil],.nil,.lit (.int .i64 0),.lit (.int .i64 0),.agg [.lit (.int .i64 0),.lit (.int .i64 0),.lit (.int .i64 0),.lit (.int .i64 0),.nil]]],[],Hs) :=
 ⟨[],by kernel_rfl⟩
theorem Qqh {W:World} {l:List (String×DataW Unit)} (h:laidMet Tryz.prog l W) {n tn:String} {d:DataW Unit} (hm:(n,.iface tn d)∈l) {g:Nat} (hg:Tryz.prog.globalNamed n=some g) (ht:(Tryz.prog.globals[g]?).map (·.type)=some 126) :
  ∃ e,W.cell? ⟨g,0,none⟩=some e/\(e=.nilIface\/∃ te pe,e=.iface te pe):=by
 obtain ⟨g',t',cs,fuel,p,h1,h2,h3,h4⟩:=Lib.laidMet.reads h hm
 obtain rfl:=Sj (hg.symm.trans h1)
 obtain rfl:=Sj (ht.symm.trans h2)
 have hc:∀ i,W.cell? ⟨g,i,none⟩=cs[i]?:=fun i=>by
  unfold World.var? at h3
  rw [hg] at h3
  simp only [Option.bind_some] at h3
  split at h3
  ·rename_i c _ _ hh
   simp only [Qa] at h3
   subst h3
   simp [World.cell?,hh]
  ·cases h3
 cases fuel with
 | zero=>simp [DataW.trod] at h4
 | succ fuel =>
  simp only [DataW.trod,Tryz.underlying126] at h4
  split at h4 <;> first
   | (cases h4; done)
   | (rename_i hcs; refine ⟨_,(hc 0).trans (by rw [<- Tw,hcs]; rfl),?_⟩; first | exact .inl rfl | exact .inr ⟨_,_,rfl⟩)
   | (simp at h4; done)
   | (exfalso; simp_all; done)
theorem lifted (os:Os) (started:os.Started) (H:Type) (enc:TypeId×Value->H) (F:Stop.Interp) :
  ReturnsInHanded {} Tryz.checked os 6 .any ((OpenSpec.ofChange Rows.fnExactConfStoreOkSpec).preRow enc Tryz.prog Tryz.f6 Rows.fnExactConfStoreOkRow.domain false Rows.fnExactConfStoreOkRow.laid) (((OpenSpec.ofChange Rows.fnExactConfStoreOkSpec).at F).post enc Tryz.prog Tryz.f6 false true false false):=by
 obtain ⟨Hs,hx⟩:=reads os enc
 refine returnsInHanded_of_row (C:=Tryz.checked) (s:=OpenSpec.ofChange Rows.fnExactConfStoreOkSpec) own started uu1 Tryz.func6
  (witness_row_at (enc:=enc) (C:=Tryz.checked) false (Qcj os) #[.agg #[.bool false,.int .i64 0,.slice none 0 0,.int .i64 0,.slice none 0 0,.slice none 0 0,.slice none 0 0,.int .i64 0,.int .i64 0,.int .i64 0,.int .i64 0,.int .i64 0,.int .i64 0,.slice none 0 0]] rfl uu1 uu1 uu1
   (OpenSpec.preRow_of_cond 8 hx uu1 (fun k hk=>by cases hk) uu1 (Uce os))) ?_
 intro W base args ds gs before hval0 hW hcnd _ _ hL hsh _
 have hL':laidMet Tryz.prog Rows.fnExactConfStoreOkRow.laid W:=by
  have h0:=hL
  unfold laidMetH at h0
  rw [show (Rows.fnExactConfStoreOkRow.laid.filter fun x=>x.2.handleName?.isSome)=[] from by kernel_rfl] at h0
  exact h0
 have hval:∀ (j:Nat) t v,Tryz.f6.params[j]?=some t->args[j]?=some v->Value.okWide Tryz.prog W .any base t v:=hval0
 have hW':=hW
 obtain ⟨p,q,hA0,hV,rfl,hfz,hnd⟩:=hW
 have hA:DataW.TrodAll enc Tryz.prog W 0 (fun _=>true) true Tryz.f6.params.toList args.toList ds p:=hA0
 rw [Tryz.params6] at hA hval
 obtain ⟨v0,vs0,d0,ds0,p0,q0,hargs,rfl,rfl,h0,r0⟩:=trodAll_cons hA
 obtain ⟨rfl,rfl,rfl⟩:=trodAll_nil r0
 obtain rfl:args=#[v0]:=by cases args; simp_all
 obtain ⟨rfl,rfl⟩:=trodVars_none hV
 obtain ⟨fu0,t0⟩:=h0
 obtain ⟨cs0,rfl,-⟩:=okWide_struct Tryz.underlying38 (hval 0 38 v0 rfl rfl)
 obtain ⟨x0,o0,b0⟩:=ob_38 H enc W fu0 cs0.toList _ t0
 have hG:GP W:=⟨fun b hb=>by
  simp only [GBe,R3,Tc,Qu,Rv,G4] at hb
  rcases hb with rfl | rfl
  ·exact Qqh hL' (n:= "strconv.ErrSyntax") (by unfold Rows.fnExactConfStoreOkRow; exact Qi _ (Qi _ (Qi _ (Qi _ (Qi _ (Ql)))))) (show Tryz.prog.globalNamed "strconv.ErrSyntax"=some ((Tryz.prog.globalNamed "strconv.ErrSyntax").getD 0) from by kernel_rfl) uu1
  ·exact Qqh hL' (n:= "strconv.ErrRange") (by unfold Rows.fnExactConfStoreOkRow; exact Qi _ (Qi _ (Qi _ (Qi _ (Ql))))) (show Tryz.prog.globalNamed "strconv.ErrRange"=some ((Tryz.prog.globalNamed "strconv.ErrRange").getD 0) from by kernel_rfl) uu1,fun b hb=>by simp only [GBi,R3,Qu,Rv,G4] at hb; subst hb; exact layCutM.s1_3 W hsh,fun q hq=>by
  simp only [GBt,R3,Qu,Rv,G4] at hq
  subst hq
  obtain ⟨g',t',cs,fuel,p,h1,h2,h3,h4⟩:=Lib.laidMet.reads hL' (n:= "internal/strconv.uint64pow10") (by unfold Rows.fnExactConfStoreOkRow; exact Qi _ (Qi _ (Ql)))
  obtain rfl:=Sj ((show Tryz.prog.globalNamed "internal/strconv.uint64pow10"=some ((Tryz.prog.globalNamed "internal/strconv.uint64pow10").getD 0) from by kernel_rfl).symm.trans h1)
  obtain rfl:=Sj ((show (Tryz.prog.globals[(Tryz.prog.globalNamed "internal/strconv.uint64pow10").getD 0]?).map (·.type)=some 226 from by kernel_rfl).symm.trans h2)
  have hc:=Lib.cells_of_tab (k:=.u64) (zs:=Lib.pow10Tab) Tryz.underlying226 Tryz.underlying142 uu1 uu1 h4
  unfold World.var? at h3
  rw [(show Tryz.prog.globalNamed "internal/strconv.uint64pow10"=some ((Tryz.prog.globalNamed "internal/strconv.uint64pow10").getD 0) from by kernel_rfl)] at h3
  simp only [Option.bind_some] at h3
  split at h3
  ·rename_i c T fz hh
   simp only [Qa] at h3
   subst h3
   exact ⟨T,fz,hh.trans (by congr 1; congr 1; exact Tt (by simpa using hc))⟩
  ·cases h3⟩
 have hc:=Ubm (W:=W) (vs:=[.agg cs0]) (ok6 x0) (b0) (x:=.bool (F6 x0)) hG ⟨_,_,[],[],rfl,⟨⟨cs0.toList,by simp,o0⟩,rfl⟩,⟨rfl,rfl⟩,rfl,Q2⟩ rfl rfl
 rw [Unj x0] at hc
 refine hc.mono fun e W' ⟨he,hb⟩=>?_
 subst he
 exact ⟨_,rfl,Uhf rfl hW' hb rfl Tryz.underlying4 rfl rfl rfl laid (by decide +kernel)⟩
theorem said_FnExactConfStoreOk:Rows.FnExactConfStoreOkSaid :=
 OpenClaim.holds_of_cond 6 Tryz.f6 rfl rfl rfl rfl rfl rfl rfl ⟨rfl,rfl,rfl,rfl,rfl⟩ rfl rfl rfl rfl rfl uu1 Tryz.func6 (by
   show joinedFacts Tryz.prog 6 Tryz.f6 (OpenSpec.ofChange Rows.fnExactConfStoreOkSpec).bare Rows.fnExactConfStoreOkRow=true
   simp only [joinedFacts,laid,cfMaps,cfKeys,Ulm,Unr,Uje,cfMake,cfA,cfB,cfC,cfD,R7]
   kernel_rfl)
  (Qb uu1) (by unfold Func.isWrapper; first | (rw [if_pos (by decide +kernel)]; kernel_rfl) | (rw [if_neg (by decide +kernel)]; exact ⟨rfl,rfl⟩))
  (fun os started H enc _ F=>by rw [OpenClaim.pre_eq_preRow]; exact lifted os started H enc F)
theorem Uay (f:FuncId) (fn:Func) (hf:Tryz.pinned.checked.prog.funcNamed "loop.example/tern/laws.FnExactConfStoreOk"=some f) (hfn:Tryz.pinned.checked.prog.funcs[f]?=some fn) :
  true=Tryz.pinned.checked.prog.looks []/\∀ (j:Nat) t,fn.params[j]?=some t->Tryz.pinned.checked.prog.wantsStandIn t=false:=by
 obtain rfl:f=6:=Sj ((show Tryz.prog.funcNamed "loop.example/tern/laws.FnExactConfStoreOk"=some 6 by kernel_rfl).symm.trans hf) |>.symm
 obtain rfl:fn=Tryz.f6:=(Sj (Tryz.func6.symm.trans hfn)).symm
 refine ⟨by kernel_rfl,fun j t ht=>?_⟩
 rw [Tryz.params6] at ht
 have hm:=Array.mem_of_getElem? ht
 simp only [List.mem_toArray,Qu,Rv,G4] at hm
 first | (obtain rfl:=hm; exact (show Tryz.prog.wantsStandIn 38=false by kernel_rfl))
theorem card_wf:Rows.fnExactConfStoreOkRow.wfByText (OpenSpec.ofChange Rows.fnExactConfStoreOkSpec)=true:=by kernel_rfl
theorem card_main:Tryz.prog.mainIs=some (Rows.fnExactConfStoreOkCard.stood.harness.1,Rows.fnExactConfStoreOkCard.stood.harness.2.toList):=by kernel_rfl
theorem card_goes:false=Rows.fnExactConfStoreOkRow.goesBy Tryz.prog:=by kernel_rfl
theorem proved_FnExactConfStoreOk:Rows.FnExactConfStoreOkCardSaid :=
 Claim7.holds_tied_plain_at .later [] _ _ _ _ said_FnExactConfStoreOk (fun _ h=>by cases h) card_wf (fun _ h=>by cases h) fnExactConfStoreOk_row_tie rfl ⟨rfl,rfl⟩ card_main rfl Uay card_goes
#print axioms proved_FnExactConfStoreOk
end Go.Proofs.YthjaknclldmheaaGreatDoor
