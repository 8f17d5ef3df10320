/- The card's statement of FnExactConfOpen: for all arguments the law returns true, without further conditions. Texts put together: VOQ2, POQ2, VOQ3, POQ3, VOPL, POPL, C41. -/
import Derived.Test.YtbaholefcgacpabGreatDoorRows
import Derived.Test.YtbaholefcgacpabGreatDoorCards
import Derived.Test.YtbaholefcgacpabGreatDoorTie
import Derived.Deep.DeepHandedRow
import Derived.Deep.DeepLaidRun
import Derived.JoinedCond
import Derived.Lib.LaidU8
import Derived.Test.YtbaholefcgacpabGreatDoorZC41E
namespace Go.Proofs.YtbaholefcgacpabGreatDoor
open Go.RowKit
set_option maxRecDepth 100000
set_option linter.unusedVariables false
set_option linter.unusedSimpArgs false
theorem kc10 (a:List ByteArray) (k:Int) {K_:Prop} (p0_:0≤k) (p1_:k+(a.length:Int)≤1000000000) (k_:((F10 a k).1=k+(a.length:Int))→((F10 a k).2.length=a.length)→K_):(0≤k∧k+(a.length:Int)≤1000000000)∧(Imp (.l 1 eStr a) (.l 1 eStr a))∧(Imp (.v (vI k)) (.v (vI k)))∧K_:=⟨⟨p0_,p1_⟩,Imp.refl _,Imp.refl _,k_ (Ys a k) (Qiz a k)⟩
abbrev kh10 (a:List ByteArray) (k:Int):Hint true Tryz.prog:=.call 10 (S10 a k) (ok10 a k) none
theorem kc43l (a:List ConfCand) (k:Int) {K_:Prop} (p0_:0≤k) (p1_:k≤1000000000) (p2_:a.length=0) (q0_:a.length=0) (q1_:a.length=0) (k_:((F43 a k).1=k)→((F43 a k).2.length=0)→K_):(0≤k∧k≤1000000000∧a.length=0)∧(Imp (.l 4 Qc a) (.l 4 Qc a))∧(Imp (.v (vI k)) (.v (vI k)))∧K_:=⟨⟨p0_,p1_,p2_⟩,Imp.refl _,Imp.refl _,k_ (candM a k q0_) (Qzs a k q1_)⟩
abbrev kh43l (a:List ConfCand) (k:Int):Hint true Tryz.prog:=.call 43 (S43 a k) (ok43 a k) none
def F21 (a:ConfBox) (k:Int):Int×ConfBox :=
 ((F43 a.Cands (F10 a.Back (F10 a.Lines k).1).1).1,(⟨a.Edition,(F10 a.Lines k).2,a.Trial,(F10 a.Back (F10 a.Lines k).1).2,(F43 a.Cands (F10 a.Back (F10 a.Lines k).1).1).2⟩:ConfBox))
theorem fi21 (a:ConfBox) (k:Int) (r:Int×ConfBox) (hF:r=(F21 a k)):((.int .i64 r.1:Value)=.int .i64 (F21 a k).1)∧((Imp (.v (vI r.2.Edition)) (.v (vI (F21 a k).2.Edition)))∧(Imp (.l 1 eStr r.2.Lines) (.l 1 eStr (F21 a k).2.Lines))∧(Imp (.v (vI r.2.Trial)) (.v (vI (F21 a k).2.Trial)))∧(Imp (.l 1 eStr r.2.Back) (.l 1 eStr (F21 a k).2.Back))∧(Imp (.l 4 Qc r.2.Cands) (.l 4 Qc (F21 a k).2.Cands))∧True)∧True:=ai (congrArg (fun r:Int×ConfBox=>(.int .i64 r.1:Value)) hF) (ai (ai (Imp.of_eq (congrArg (fun r:Int×ConfBox=>Dat.v (vI r.2.Edition)) hF)) (ai (Imp.of_eq (congrArg (fun r:Int×ConfBox=>Dat.l 1 eStr r.2.Lines) hF)) (ai (Imp.of_eq (congrArg (fun r:Int×ConfBox=>Dat.v (vI r.2.Trial)) hF)) (ai (Imp.of_eq (congrArg (fun r:Int×ConfBox=>Dat.l 1 eStr r.2.Back) hF)) (ai (Imp.of_eq (congrArg (fun r:Int×ConfBox=>Dat.l 4 Qc r.2.Cands) hF)) trivial))))) trivial)
def S21 (a:ConfBox) (k:Int):Spec:=⟨[.og (Yr a) (Yr (F21 a k).2),.r (.c (.v (vI k)))],.v (vI (F21 a k).1),0≤k∧k+(a.Lines.length:Int)+(a.Back.length:Int)≤1000000000∧(a.Cands:List ConfCand).length=0⟩
theorem ok21 (a:ConfBox) (k:Int):(S21 a k).ok Tryz.prog 21 :=
 Qi mixed (fn:=Tryz.f21) (ct:=.seqk [(0,1),(0,3),(0,4)] .no (.seq (.reg [(3,kh10 a.Lines k)]) (.seq (.reg [(3,kh10 a.Back (F10 a.Lines k).1)]) (.seq (.reg [(3,kh43l a.Cands (F10 a.Back (F10 a.Lines k).1).1)]) (.seq .no .no))))) Tryz.func21 (fun (hp:0≤k∧k+(a.Lines.length:Int)+(a.Back.length:Int)≤1000000000∧(a.Cands:List ConfCand).length=0)=>have hpre0:=hp.1; have hpre1:=hp.2.1; have hpre2:=hp.2.2; kn a.Lines fun _=>kn a.Back fun _=>kn a.Cands fun _=>kc10 a.Lines k (by omega) (by omega) (fun gv1 gv2=>kc10 a.Back (F10 a.Lines k).1 (by omega) (by omega) (fun gv3 gv4=>kc43l a.Cands (F10 a.Back (F10 a.Lines k).1).1 (by omega) (by omega) (by omega) (by omega) (by omega) (fun gv5 gv6=>fi21 a k ((F43 a.Cands (F10 a.Back (F10 a.Lines k).1).1).1,(⟨a.Edition,(F10 a.Lines k).2,a.Trial,(F10 a.Back (F10 a.Lines k).1).2,(F43 a.Cands (F10 a.Back (F10 a.Lines k).1).1).2⟩:ConfBox)) rfl)))) (by kernel_rfl)
theorem Qpr (a:List ByteArray) (k:Int) {K_:Prop} (p0_:0≤k) (p1_:k+(a.length:Int)≤1000000000) (q0_:0≤k) (k_:((F44 a k)≤k+(a.length:Int))→K_):(0≤k∧k+(a.length:Int)≤1000000000)∧(Imp (.l 1 eStr a) (.l 1 eStr a))∧(Imp (.v (vI k)) (.v (vI k)))∧K_:=⟨⟨p0_,p1_⟩,Imp.refl _,Imp.refl _,k_ (Py a k q0_)⟩
abbrev Qqe (a:List ByteArray) (k:Int):Hint true Tryz.prog:=.call 44 (S44 a k) (ok44 a k) none
theorem kc45l (a:List ConfCand) (k:Int) {K_:Prop} (p0_:a.length=0) (q0_:a.length=0) (k_:((F45 a k)=k)→K_):(a.length=0)∧(Imp (.l 4 Qc a) (.l 4 Qc a))∧(Imp (.v (vI k)) (.v (vI k)))∧K_:=⟨p0_,Imp.refl _,Imp.refl _,k_ (Qxc a k q0_)⟩
abbrev kh45l (a:List ConfCand) (k:Int):Hint true Tryz.prog:=.call 45 (S45 a k) (ok45 a k) none
def F24 (a:ConfBox) (k:Int):Int :=
 bif (decide ((F44 a.Lines k)<0)) then (-1) else (bif (decide ((F44 a.Back (F44 a.Lines k))<0)) then (-1) else (bif (decide ((F45 a.Cands (F44 a.Back (F44 a.Lines k)))<0)) then (-1) else (F45 a.Cands (F44 a.Back (F44 a.Lines k)))))
def S24 (a:ConfBox) (k:Int):Spec:=⟨[.r (.g (Yr a)),.r (.c (.v (vI k)))],.v (vI (F24 a k)),0≤k∧k+(a.Lines.length:Int)+(a.Back.length:Int)≤1000000000∧(a.Cands:List ConfCand).length=0⟩
theorem ok24 (a:ConfBox) (k:Int):(S24 a k).ok Tryz.prog 24 :=
 Qi mixed (fn:=Tryz.f24) (ct:=.seq .no (.seq (.reg [(3,Qqe a.Lines k)]) (.seq (.seq .no (.cond (.seq .no .no) .no)) (.seq (.reg [(3,Qqe a.Back (F44 a.Lines k))]) (.seq (.seq .no (.cond (.seq .no .no) .no)) (.seq (.reg [(3,kh45l a.Cands (F44 a.Back (F44 a.Lines k)))]) (.seq (.seq .no (.cond (.seq .no .no) .no)) (.seq .no .no)))))))) Tryz.func24 (fun (hp:0≤k∧k+(a.Lines.length:Int)+(a.Back.length:Int)≤1000000000∧(a.Cands:List ConfCand).length=0)=>have hpre0:=hp.1; have hpre1:=hp.2.1; have hpre2:=hp.2.2; Qpr a.Lines k (by omega) (by omega) (by omega) (fun gv1=>ifd ((F44 a.Lines k)<0) (fun h2 _=>fiI (-1) (F24 a k) (condT h2 rfl)) (fun h2 _=>Qpr a.Back (F44 a.Lines k) (by omega) (by omega) (by omega) (fun gv3=>ifd ((F44 a.Back (F44 a.Lines k))<0) (fun h4 _=>fiI (-1) (F24 a k) (condF h2 (condT h4 rfl))) (fun h4 _=>kc45l a.Cands (F44 a.Back (F44 a.Lines k)) (by omega) (by omega) (fun gv5=>ifd ((F45 a.Cands (F44 a.Back (F44 a.Lines k)))<0) (fun h6 _=>fiI (-1) (F24 a k) (condF h2 (condF h4 (condT h6 rfl)))) (fun h6 _=>fiI (F45 a.Cands (F44 a.Back (F44 a.Lines k))) (F24 a k) (condF h2 (condF h4 (condF h6 rfl)))))))))) (by kernel_rfl)
def F23 (a:ConfJob) (k:Int):Int×ConfJob :=
 ((F10 a.Lines k).1,(⟨a.Kind,a.Step,a.Edition,a.Ticks,(F10 a.Lines k).2⟩:ConfJob))
theorem fi23 (a:ConfJob) (k:Int) (r:Int×ConfJob) (hF:r=(F23 a k)):((.int .i64 r.1:Value)=.int .i64 (F23 a k).1)∧((Imp (.v (vI r.2.Kind)) (.v (vI (F23 a k).2.Kind)))∧(Imp (.v (vI r.2.Step)) (.v (vI (F23 a k).2.Step)))∧(Imp (.v (vI r.2.Edition)) (.v (vI (F23 a k).2.Edition)))∧(Imp (.v (vI r.2.Ticks)) (.v (vI (F23 a k).2.Ticks)))∧(Imp (.l 1 eStr r.2.Lines) (.l 1 eStr (F23 a k).2.Lines))∧True)∧True:=ai (congrArg (fun r:Int×ConfJob=>(.int .i64 r.1:Value)) hF) (ai (ai (Imp.of_eq (congrArg (fun r:Int×ConfJob=>Dat.v (vI r.2.Kind)) hF)) (ai (Imp.of_eq (congrArg (fun r:Int×ConfJob=>Dat.v (vI r.2.Step)) hF)) (ai (Imp.of_eq (congrArg (fun r:Int×ConfJob=>Dat.v (vI r.2.Edition)) hF)) (ai (Imp.of_eq (congrArg (fun r:Int×ConfJob=>Dat.v (vI r.2.Ticks)) hF)) (ai (Imp.of_eq (congrArg (fun r:Int×ConfJob=>Dat.l 1 eStr r.2.Lines) hF)) trivial))))) trivial)
def S23 (a:ConfJob) (k:Int):Spec:=⟨[.og (Yt a) (Yt (F23 a k).2),.r (.c (.v (vI k)))],.v (vI (F23 a k).1),0≤k∧k+(a.Lines.length:Int)≤1000000000⟩
theorem ok23 (a:ConfJob) (k:Int):(S23 a k).ok Tryz.prog 23 :=
 Qi mixed (fn:=Tryz.f23) (ct:=.seqk [(0,4)] .no (.seq (.reg [(3,kh10 a.Lines k)]) (.seq .no .no))) Tryz.func23 (fun (hp:0≤k∧k+(a.Lines.length:Int)≤1000000000)=>have hpre0:=hp.1; have hpre1:=hp.2; kn a.Lines fun _=>kc10 a.Lines k (by omega) (by omega) (fun gv1 gv2=>fi23 a k ((F10 a.Lines k).1,(⟨a.Kind,a.Step,a.Edition,a.Ticks,(F10 a.Lines k).2⟩:ConfJob)) rfl)) (by kernel_rfl)
def F26 (a:ConfJob) (k:Int):Int :=
 bif (decide ((F44 a.Lines k)<0)) then (-1) else (F44 a.Lines k)
def S26 (a:ConfJob) (k:Int):Spec:=⟨[.r (.g (Yt a)),.r (.c (.v (vI k)))],.v (vI (F26 a k)),0≤k∧k+(a.Lines.length:Int)≤1000000000⟩
theorem ok26 (a:ConfJob) (k:Int):(S26 a k).ok Tryz.prog 26 :=
 Qi mixed (fn:=Tryz.f26) (ct:=.seq .no (.seq (.reg [(3,Qqe a.Lines k)]) (.seq (.seq .no (.cond (.seq .no .no) .no)) (.seq .no .no)))) Tryz.func26 (fun (hp:0≤k∧k+(a.Lines.length:Int)≤1000000000)=>have hpre0:=hp.1; have hpre1:=hp.2; Qpr a.Lines k (by omega) (by omega) (by omega) (fun gv1=>ifd ((F44 a.Lines k)<0) (fun h2 _=>fiI (-1) (F26 a k) (condT h2 rfl)) (fun h2 _=>fiI (F44 a.Lines k) (F26 a k) (condF h2 rfl)))) (by kernel_rfl)
def Vw (a:List ConfSlot) (k:Int):(Int×Int×List ConfSlot)→Lp (Int×Int×List ConfSlot) (Int×List ConfSlot):=fun (k400,i40,xs) =>
 bif (decide (i40<(xs.length:Int))) then (.next ((F10 (xs.getD i40.toNat default).Lines (((k400+1)+1)+1)).1,(i40+1),(xs.set (i40).toNat (⟨((k400.tmod 3)==0),(k400+1),((((k400+1)+1).tmod 3)==0),(F10 (xs.getD i40.toNat default).Lines (((k400+1)+1)+1)).2⟩:ConfSlot)))) else (.done (k400,i40,xs))
def F22 (a:List ConfSlot) (k:Int):Int×List ConfSlot :=
 (runL (Vw a k) (((a.length:Int)-0).toNat+1) (k,0,a)).fin (fun r=>r) (fun (k400,i40,xs)=>(k400,xs))
abbrev Eh (a:List ConfSlot) (k:Int):Nat×(Int×Int×List ConfSlot):=((((a.length:Int)-0).toNat+1),(k,0,a))
abbrev Qmy (a:List ConfSlot) (m39:Nat) (k400:Int) (i40:Int) (xs:List ConfSlot):Prop:=Int.toNat ((xs.length:Int)-i40)<m39∧(0:Int)≤k400∧k400+1003*((xs.length:Int)-i40)≤1000000000∧(∀ q:Nat,i40≤(q:Int)→(xs.getD q default).Lines.length≤1000)∧(0:Int)≤i40∧xs.length=a.length
abbrev Uaa (a:List ConfSlot) (k:Int):Lp (Int×Int×List ConfSlot) (Int×List ConfSlot):=LpX (Vw a k) (Eh a k)
abbrev Qaz (a:List ConfSlot) (k:Int) (i:Nat×(Int×Int×List ConfSlot)):Prop:=LpJ (Vw a k) (Eh a k) i (Qmy a i.1 i.2.1 i.2.2.1 i.2.2.2)
abbrev Qvb (a:List ConfSlot) (k:Int) (i:Nat×(Int×Int×List ConfSlot)) (m39:Nat) (k400:Int) (i40:Int) (xs:List ConfSlot):Prop:=LpH (Vw a k) (Eh a k) i m39 (k400,i40,xs) (Qmy a (m39+1) k400 i40 xs)
abbrev Uag (k400:Int) (i40:Int) (xs:List ConfSlot) (k400_:Int) (i40_:Int) (xs_:List ConfSlot) (K39:Prop):Prop:=((.int .i64 k400:Value)=.int .i64 k400_)∧((.int .i64 i40:Value)=.int .i64 i40_)∧(Imp (.l 4 Qe xs) (.l 4 Qe xs_))∧K39
theorem un22_0 (a:List ConfSlot) (k:Int) (i:Nat×(Int×Int×List ConfSlot)) (h:Qaz a k i):Qvb a k i (i.1-1) i.2.1 i.2.2.1 i.2.2.2:=⟨hd1 h.1 h.2.1,hd3 h.2.1,hd2 h.2.1,h.2.2⟩
theorem bk22_0 (a:List ConfSlot) (k:Int) (i:Nat×(Int×Int×List ConfSlot)) (m39:Nat) (k400:Int) (i40:Int) (xs:List ConfSlot) (hl:m39<i.1) (e:runL (Vw a k) m39 (k400,i40,xs)=Uaa a k) (h:Qmy a m39 k400 i40 xs):∃ j:Nat×(Int×Int×List ConfSlot),Uag k400 i40 xs j.2.1 j.2.2.1 j.2.2.2 (Qaz a k j∧j.1<i.1):=⟨(m39,(k400,i40,xs)),rfl,rfl,Imp.refl _,⟨e,h⟩,hl⟩
theorem en22_0 (a:List ConfSlot) (k:Int) (h:(0:Int)≤k∧k+1003*((a.length:Int)-0)≤1000000000∧(∀ q:Nat,0≤(q:Int)→(a.getD q default).Lines.length≤1000)∧(0:Int)≤0∧a.length=a.length):Uag k 0 a k 0 a (Qaz a k (Eh a k)):=⟨rfl,rfl,Imp.refl _,rfl,Nat.lt_succ_self _,h⟩
theorem fi22 (a:List ConfSlot) (k:Int) (r:Int×List ConfSlot) (hF:r=(F22 a k)):((.int .i64 r.1:Value)=.int .i64 (F22 a k).1)∧(Imp (.l 4 Qe r.2) (.l 4 Qe (F22 a k).2))∧True:=by cases hF; exact ⟨rfl,Imp.refl _,trivial⟩
def S22 (a:List ConfSlot) (k:Int):Spec:=⟨[.ow (.l 4 Qe a) (some (.l 4 Qe (F22 a k).2)),.r (.c (.v (vI k)))],.v (vI (F22 a k).1),0≤k∧k+1003*(a.length:Int)≤1000000000∧(∀ q:Nat,(a.getD q default).Lines.length≤1000)⟩
abbrev Pm (k400:Int) (xs:List ConfSlot) (i40:Int):=(⟨((k400.tmod 3)==0),(xs.getD i40.toNat default).Edition,(xs.getD i40.toNat default).Trial,(xs.getD i40.toNat default).Lines⟩:ConfSlot)
abbrev Lx (k400:Int) (xs:List ConfSlot) (i40:Int):=(⟨((k400.tmod 3)==0),(k400+1),(xs.getD i40.toNat default).Trial,(xs.getD i40.toNat default).Lines⟩:ConfSlot)
abbrev Mm (k400:Int) (xs:List ConfSlot) (i40:Int):=(⟨((k400.tmod 3)==0),(k400+1),((((k400+1)+1).tmod 3)==0),(xs.getD i40.toNat default).Lines⟩:ConfSlot)
abbrev Qom (k400:Int) (xs:List ConfSlot) (i40:Int):=(⟨((k400.tmod 3)==0),(k400+1),((((k400+1)+1).tmod 3)==0),(F10 (xs.getD i40.toNat default).Lines (((k400+1)+1)+1)).2⟩:ConfSlot)
theorem ok22 (a:List ConfSlot) (k:Int):(S22 a k).ok Tryz.prog 22 :=
 Qi mixed (fn:=Tryz.f22) (ct:=.seqk [(0,0)] .no (.seq (.seqk [(0,0)] .no (.blk (.loop (ι:=Nat×(Int×Int×List ConfSlot)) (fun i=>(fun (k400:Int) (i40:Int) (xs:List ConfSlot)=>(⟨[(0,some (.h 0 0)),(1,some (.v (vI k400))),(5,some (.v (vI i40)))],[(0,some (.own 0 (.l 4 Qe xs)))],1⟩:St)) i.2.1 i.2.2.1 i.2.2.2) (Qaz a k) (fun i=>i.1) (Eh a k) (fun i=>(fun (k400:Int) (i40:Int) (xs:List ConfSlot)=>(.seq (.seq .no (.cond .no .no)) (.seq (.blk (.seq (.reg [(7,.dat (.l 4 Qe (xs.set (i40).toNat (Pm k400 xs i40))))]) (.seq (.reg [(1,.bnd)]) (.seq (.reg [(3,.ix (Qe (Pm k400 xs i40))),(5,.dat (.l 4 Qe (xs.set (i40).toNat (Lx k400 xs i40))))]) (.seq (.reg [(1,.bnd)]) (.seq (.reg [(5,.ix (Qe (Lx k400 xs i40))),(7,.dat (.l 4 Qe (xs.set (i40).toNat (Mm k400 xs i40))))]) (.seq (.reg [(1,.bnd)]) (.reg [(2,.ix (Qe (Mm k400 xs i40))),(6,.calle 10 (S10 (xs.getD i40.toNat default).Lines (((k400+1)+1)+1)) (ok10 (xs.getD i40.toNat default).Lines (((k400+1)+1)+1)) (.l 4 Qe (xs.set (i40).toNat (Qom k400 xs i40))))])))))))) (.reg [(1,.bnd)])))) i.2.1 i.2.2.1 i.2.2.2)))) (.seq .no .no))) Tryz.func22 (fun (hp:0≤k∧k+1003*(a.length:Int)≤1000000000∧(∀ q:Nat,(a.getD q default).Lines.length≤1000))=>have hpre0:=hp.1; have hpre1:=hp.2.1; have hpre2:=hp.2.2; kn a fun _=>kn a fun _=>ai (en22_0 a k (by refine ⟨?_,?_,?_,?_,?_⟩ <;> first | omega | (simp only [lens,ib] at*<;> omega) | (have h9:=(by assumption:∀ q:Nat,i40≤(q:Int)→(xs.getD q default).Lines.length≤1000) i40.toNat (by first | omega | (simp only [lens,ib] at*<;> omega)); simp only [Ys,List.length_set] at *; omega) | (intro q hq; first | exact (by assumption:∀ q:Nat,(a.getD q default).Lines.length≤1000) q | exact (by assumption:∀ q:Nat,i40≤(q:Int)→(xs.getD q default).Lines.length≤1000) q (by first | omega | (simp only [lens,ib] at*<;> omega)) | (rw [Ux _ _ _ _ (by first | omega | (simp only [lens,ib] at*<;> omega))]; exact (by assumption:∀ q:Nat,i40≤(q:Int)→(xs.getD q default).Lines.length≤1000) q (by first | omega | (simp only [lens,ib] at*<;> omega)))))) (fun (i0:Nat×(Int×Int×List ConfSlot)) (hi0:Qaz a k i0)=>(fun (m0:Nat) (k400:Int) (i40:Int) (xs:List ConfSlot) (hh0:Qvb a k i0 m0 k400 i40 xs)=>have hI0:=hh0.1; have hl0:=hh0.2.1; have _:=hh0.2.2.1; have _:=hh0.2.2.2.1; have _:=hh0.2.2.2.2.1; have _:=hh0.2.2.2.2.2.1; have _:=hh0.2.2.2.2.2.2.1; have _:=hh0.2.2.2.2.2.2.2; ifd (i40<(xs.length:Int)) (fun h2 _=>ai (by first | omega | (simp only [lens,ib] at*<;> omega):¬ (3:Int)=0) (ai (by first | omega | (simp only [lens,ib] at*<;> omega):ib i40 xs) (ai (setr 4 Qe xs (i40).toNat (Pm k400 xs i40)) (ai (iok (k400+1) (by first | omega | (simp only [lens,ib] at*<;> omega))) (ai (by first | omega | (simp only [lens,ib] at*<;> omega):0≤i40∧i40<((xs.set (i40).toNat (Pm k400 xs i40)).length:Int)) (ai (Imps.of_eq (congrArg Qe (Uy xs (i40).toNat (Pm k400 xs i40) (by first | omega | (simp only [lens,ib] at*<;> omega):(i40).toNat<xs.length)))) (ai (SetOK.mk2 Qe xs (Pm k400 xs i40) (Lx k400 xs i40) (by first | omega | (simp only [lens,ib] at*<;> omega):(i40).toNat<xs.length) (by exact ai ir (ai ir (ai ir (ai ir trivial)))):SetOK (.l 4 Qe (xs.set (i40).toNat (Pm k400 xs i40))) (i40).toNat (Qe (Pm k400 xs i40)) [.v (.bool ((k400.tmod 3)==0)),.v (vI (k400+1)),.v (.bool (xs.getD i40.toNat default).Trial),.l 1 eStr (xs.getD i40.toNat default).Lines] (.l 4 Qe (xs.set (i40).toNat (Lx k400 xs i40)))) (ai (iok ((k400+1)+1) (by first | omega | (simp only [lens,ib] at*<;> omega))) (ai (by first | omega | (simp only [lens,ib] at*<;> omega):¬ (3:Int)=0) (ai (by first | omega | (simp only [lens,ib] at*<;> omega):0≤i40∧i40<((xs.set (i40).toNat (Lx k400 xs i40)).length:Int)) (ai (Imps.of_eq (congrArg Qe (Uy xs (i40).toNat (Lx k400 xs i40) (by first | omega | (simp only [lens,ib] at*<;> omega):(i40).toNat<xs.length)))) (ai (SetOK.mk2 Qe xs (Lx k400 xs i40) (Mm k400 xs i40) (by first | omega | (simp only [lens,ib] at*<;> omega):(i40).toNat<xs.length) (by exact ai ir (ai ir (ai ir (ai ir trivial)))):SetOK (.l 4 Qe (xs.set (i40).toNat (Lx k400 xs i40))) (i40).toNat (Qe (Lx k400 xs i40)) [.v (.bool ((k400.tmod 3)==0)),.v (vI (k400+1)),.v (.bool ((((k400+1)+1).tmod 3)==0)),.l 1 eStr (xs.getD i40.toNat default).Lines] (.l 4 Qe (xs.set (i40).toNat (Mm k400 xs i40)))) (ai (iok (((k400+1)+1)+1) (by first | omega | (simp only [lens,ib] at*<;> omega))) (ai (by first | omega | (simp only [lens,ib] at*<;> omega):0≤i40∧i40<((xs.set (i40).toNat (Mm k400 xs i40)).length:Int)) (ai (Imps.of_eq (congrArg Qe (Uy xs (i40).toNat (Mm k400 xs i40) (by first | omega | (simp only [lens,ib] at*<;> omega):(i40).toNat<xs.length)))) (ai (ai (by (have h9:=(by assumption:∀ q:Nat,i40≤(q:Int)→(xs.getD q default).Lines.length≤1000) i40.toNat (by first | omega | (simp only [lens,ib] at*<;> omega)); omega):0≤(((k400+1)+1)+1)) (by (have h9:=(by assumption:∀ q:Nat,i40≤(q:Int)→(xs.getD q default).Lines.length≤1000) i40.toNat (by first | omega | (simp only [lens,ib] at*<;> omega)); omega):(((k400+1)+1)+1)+((xs.getD i40.toNat default).Lines.length:Int)≤1000000000)) (ai (Imp.refl (.l 1 eStr (xs.getD i40.toNat default).Lines)) (ai (SetOK.mk2 Qe xs (Mm k400 xs i40) (Qom k400 xs i40) (by first | omega | (simp only [lens,ib] at*<;> omega):(i40).toNat<xs.length) (by exact ai ir (ai ir (ai ir (ai ir trivial)))):SetOK (.l 4 Qe (xs.set (i40).toNat (Mm k400 xs i40))) (i40).toNat (Qe (Mm k400 xs i40)) [.v (.bool ((k400.tmod 3)==0)),.v (vI (k400+1)),.v (.bool ((((k400+1)+1).tmod 3)==0)),.l 1 eStr (F10 (xs.getD i40.toNat default).Lines (((k400+1)+1)+1)).2] (.l 4 Qe (xs.set (i40).toNat (Qom k400 xs i40)))) (ai (Imp.refl (.v (vI (((k400+1)+1)+1)))) (ai (iok (i40+1) (by first | omega | (simp only [lens,ib] at*<;> omega))) (bk22_0 a k i0 m0 (F10 (xs.getD i40.toNat default).Lines (((k400+1)+1)+1)).1 (i40+1) (xs.set (i40).toNat (Qom k400 xs i40)) hl0 (Qg hI0 (condT h2 rfl)) (by refine ⟨?_,?_,?_,?_,?_,?_⟩ <;> first | omega | (simp only [lens,ib] at*<;> omega) | (have h9:=(by assumption:∀ q:Nat,i40≤(q:Int)→(xs.getD q default).Lines.length≤1000) i40.toNat (by first | omega | (simp only [lens,ib] at*<;> omega)); simp only [Ys,List.length_set] at *; omega) | (intro q hq; first | exact (by assumption:∀ q:Nat,(a.getD q default).Lines.length≤1000) q | exact (by assumption:∀ q:Nat,i40≤(q:Int)→(xs.getD q default).Lines.length≤1000) q (by first | omega | (simp only [lens,ib] at*<;> omega)) | (rw [Ux _ _ _ _ (by first | omega | (simp only [lens,ib] at*<;> omega))]; exact (by assumption:∀ q:Nat,i40≤(q:Int)→(xs.getD q default).Lines.length≤1000) q (by first | omega | (simp only [lens,ib] at*<;> omega)))))))))))))))))))))))))) (fun h2 _=>have hD0_3:Uaa a k=Lp.done (k400,i40,xs):=Qj hI0 (condF h2 rfl); fi22 a k (k400,xs) (finD hD0_3 rfl))) (i0.1-1) i0.2.1 i0.2.2.1 i0.2.2.2 (un22_0 a k i0 hi0))) (by kernel_rfl)
def Wn (a:List ConfSlot) (k:Int):(Int×Int)→Lp (Int×Int) Int:=fun (k400,i40) =>
 bif (decide (i40<(a.length:Int))) then (bif (!((a.getD i40.toNat default).Whole==((k400.tmod 3)==0))) then (.ret (-1)) else (bif ((a.getD i40.toNat default).Edition != (k400+1)) then (.ret (-1)) else (bif (!((a.getD i40.toNat default).Trial==((((k400+1)+1).tmod 3)==0))) then (.ret (-1)) else (bif (decide ((F44 (a.getD i40.toNat default).Lines (((k400+1)+1)+1))<0)) then (.ret (-1)) else (.next ((F44 (a.getD i40.toNat default).Lines (((k400+1)+1)+1)),(i40+1))))))) else (.done (k400,i40))
def F25 (a:List ConfSlot) (k:Int):Int :=
 (runL (Wn a k) (((a.length:Int)-0).toNat+1) (k,0)).fin (fun r=>r) (fun (k400,i40)=>k400)
abbrev Tp (a:List ConfSlot) (k:Int):Nat×(Int×Int):=((((a.length:Int)-0).toNat+1),(k,0))
abbrev Qkt (a:List ConfSlot) (m39:Nat) (k400:Int) (i40:Int):Prop:=Int.toNat ((a.length:Int)-i40)<m39∧(0:Int)≤k400∧k400+1003*((a.length:Int)-i40)≤1000000000∧(0:Int)≤i40
abbrev Qxq (a:List ConfSlot) (k:Int):Lp (Int×Int) Int:=LpX (Wn a k) (Tp a k)
abbrev Ee (a:List ConfSlot) (k:Int) (i:Nat×(Int×Int)):Prop:=LpJ (Wn a k) (Tp a k) i (Qkt a i.1 i.2.1 i.2.2)
abbrev Uco (a:List ConfSlot) (k:Int) (i:Nat×(Int×Int)) (m39:Nat) (k400:Int) (i40:Int):Prop:=LpH (Wn a k) (Tp a k) i m39 (k400,i40) (Qkt a (m39+1) k400 i40)
abbrev Ucf (a:List ConfSlot) (k400:Int) (i40:Int) (k400_:Int) (i40_:Int) (K39:Prop):Prop:=((.int .i64 k400:Value)=.int .i64 k400_)∧((.int .i64 i40:Value)=.int .i64 i40_)∧(Im (.l 4 Qe a))∧K39
theorem un25_0 (a:List ConfSlot) (k:Int) (i:Nat×(Int×Int)) (h:Ee a k i):Uco a k i (i.1-1) i.2.1 i.2.2:=⟨hd1 h.1 h.2.1,hd3 h.2.1,hd2 h.2.1,h.2.2⟩
theorem bk25_0 (a:List ConfSlot) (k:Int) (i:Nat×(Int×Int)) (m39:Nat) (k400:Int) (i40:Int) (hl:m39<i.1) (e:runL (Wn a k) m39 (k400,i40)=Qxq a k) (h:Qkt a m39 k400 i40):∃ j:Nat×(Int×Int),Ucf a k400 i40 j.2.1 j.2.2 (Ee a k j∧j.1<i.1):=⟨(m39,(k400,i40)),rfl,rfl,Imp.refl _,⟨e,h⟩,hl⟩
theorem en25_0 (a:List ConfSlot) (k:Int) (h:(0:Int)≤k∧k+1003*((a.length:Int)-0)≤1000000000∧(0:Int)≤0):Ucf a k 0 k 0 (Ee a k (Tp a k)):=⟨rfl,rfl,Imp.refl _,rfl,Nat.lt_succ_self _,h⟩
def S25 (a:List ConfSlot) (k:Int):Spec:=⟨[.r (.c (.l 4 Qe a)),.r (.c (.v (vI k)))],.v (vI (F25 a k)),0≤k∧k+1003*(a.length:Int)≤1000000000∧(∀ q:Nat,(a.getD q default).Lines.length≤1000)⟩
theorem ok25 (a:List ConfSlot) (k:Int):(S25 a k).ok Tryz.prog 25 :=
 Qi mixed (fn:=Tryz.f25) (ct:=.seqk [(0,0)] .no (.seq (.seqk [(0,0)] .no (.blk (.loop (ι:=Nat×(Int×Int)) (fun i=>(fun (k400:Int) (i40:Int)=>(⟨[(0,some (.h 0 0)),(1,some (.v (vI k400))),(5,some (.v (vI i40)))],[(0,some (.shr none (.l 4 Qe a)))],1⟩:St)) i.2.1 i.2.2) (Ee a k) (fun i=>i.1) (Tp a k) (fun i=>(fun (k400:Int) (i40:Int)=>(.seq (.seq .no (.cond .no .no)) (.seq (.blk (.seq (.seq .no (.cond (.seq .no .no) .no)) (.seq (.reg [(1,.bnd)]) (.seq (.seq .no (.cond (.seq .no .no) .no)) (.seq (.reg [(1,.bnd)]) (.seq (.seq .no (.cond (.seq .no .no) .no)) (.seq (.reg [(1,.bnd)]) (.seq (.reg [(6,Qqe (a.getD i40.toNat default).Lines (((k400+1)+1)+1))]) (.seq .no (.cond (.seq .no .no) .no)))))))))) (.reg [(1,.bnd)])))) i.2.1 i.2.2)))) (.seq .no .no))) Tryz.func25 (fun (hp:0≤k∧k+1003*(a.length:Int)≤1000000000∧(∀ q:Nat,(a.getD q default).Lines.length≤1000))=>have hpre0:=hp.1; have hpre1:=hp.2.1; have hpre2:=hp.2.2; kn a fun _=>kn a fun _=>ai (en25_0 a k (by refine ⟨?_,?_,?_⟩ <;> first | omega | (simp only [lens,ib] at*<;> omega) | (have h9:=(by assumption:∀ q:Nat,(a.getD q default).Lines.length≤1000) i40.toNat; omega))) (fun (i0:Nat×(Int×Int)) (hi0:Ee a k i0)=>(fun (m0:Nat) (k400:Int) (i40:Int) (hh0:Uco a k i0 m0 k400 i40)=>have hI0:=hh0.1; have hl0:=hh0.2.1; have _:=hh0.2.2.1; have _:=hh0.2.2.2; ifd (i40<(a.length:Int)) (fun h2 _=>ai (by omega:ib i40 a) (ai (by omega:¬ (3:Int)=0) (ifb (!((a.getD i40.toNat default).Whole==((k400.tmod 3)==0))) (fun h3=>fiI (-1) (F25 a k) (finR (Qp hI0 (condT h2 (condT h3 rfl))) rfl)) (fun h3=>ai (iok (k400+1) (by omega)) (ai (by omega:ib i40 a) (ifn (a.getD i40.toNat default).Edition (k400+1) (fun h4 _=>fiI (-1) (F25 a k) (finR (Qp hI0 (condT h2 (condF h3 (condT h4 rfl)))) rfl)) (fun h4 _=>ai (iok ((k400+1)+1) (by omega)) (ai (by omega:ib i40 a) (ai (by omega:¬ (3:Int)=0) (ifb (!((a.getD i40.toNat default).Trial==((((k400+1)+1).tmod 3)==0))) (fun h5=>fiI (-1) (F25 a k) (finR (Qp hI0 (condT h2 (condF h3 (condF h4 (condT h5 rfl))))) rfl)) (fun h5=>ai (iok (((k400+1)+1)+1) (by omega)) (ai (by omega:ib i40 a) (Qpr (a.getD i40.toNat default).Lines (((k400+1)+1)+1) (by (have h9:=(by assumption:∀ q:Nat,(a.getD q default).Lines.length≤1000) i40.toNat; omega)) (by (have h9:=(by assumption:∀ q:Nat,(a.getD q default).Lines.length≤1000) i40.toNat; omega)) (by (have h9:=(by assumption:∀ q:Nat,(a.getD q default).Lines.length≤1000) i40.toNat; omega)) (fun gv6=>ifd ((F44 (a.getD i40.toNat default).Lines (((k400+1)+1)+1))<0) (fun h7 _=>fiI (-1) (F25 a k) (finR (Qp hI0 (condT h2 (condF h3 (condF h4 (condF h5 (condT h7 rfl)))))) rfl)) (fun h7 _=>ai (iok (i40+1) (by omega)) (bk25_0 a k i0 m0 (F44 (a.getD i40.toNat default).Lines (((k400+1)+1)+1)) (i40+1) hl0 (Qg hI0 (condT h2 (condF h3 (condF h4 (condF h5 (condF h7 rfl)))))) (by refine ⟨?_,?_,?_,?_⟩ <;> first | omega | (simp only [lens,ib] at*<;> omega) | (have h9:=(by assumption:∀ q:Nat,(a.getD q default).Lines.length≤1000) i40.toNat; omega)))))))))))))))))) (fun h2 _=>have hD0_8:Qxq a k=Lp.done (k400,i40):=Qj hI0 (condF h2 rfl); fiI k400 (F25 a k) (finD hD0_8 rfl))) (i0.1-1) i0.2.1 i0.2.2 (un25_0 a k i0 hi0))) (by kernel_rfl)
def Ku (x:ConfSlot):Nat:=3+(sumL (fun _=>1)) x.Lines
theorem mk22:Mk F22 F25 (sumL Ku) :=
 Qei (fun (x:ConfSlot) (k:Int)=>((F10 x.Lines (((k+1)+1)+1)).1,(⟨((k.tmod 3)==0),(k+1),((((k+1)+1).tmod 3)==0),(F10 x.Lines (((k+1)+1)+1)).2⟩:ConfSlot))) (fun (x:ConfSlot) (k:Int)=>(bif (!(x.Whole==((k.tmod 3)==0))) then (-1) else (bif (x.Edition != (k+1)) then (-1) else (bif (!(x.Trial==((((k+1)+1).tmod 3)==0))) then (-1) else (bif (decide ((F44 x.Lines (((k+1)+1)+1))<0)) then (-1) else (F44 x.Lines (((k+1)+1)+1))))))) Ku
  (fun x k h0 h1=>by
   simp only [Ku] at h1 ⊢
   simp (discharger:=omega) only [Za,bne_self_eq_false,beq_self_eq_true,cond_false,cond_true,Bool.not_true,Bool.not_false,mk10a,mk10b,Qzq,and_self] <;> omega)
  F22 F25 Vw Wn (fun a k=>rfl) (fun a k0 k i xs=>rfl) (fun a k=>rfl)
  (fun a k0 k i hi h0 hh=>by
   obtain ⟨c0,hh⟩:=Ls hh
   obtain ⟨c1,hh⟩:=Ls hh
   obtain ⟨c2,hh⟩:=Ls hh
   obtain ⟨c3,hh⟩:=Ls hh
   simp only [Wn,decide_eq_true hi,cond_true,c0,cond_false,c1,cond_false,c2,cond_false,c3,cond_false])
  (fun a k0 k=>by simp only [Wn,geD,cond_false])
theorem boxM (a:ConfBox) (k:Int) (h:(a.Cands:List ConfCand).length=0):(F21 a k).1=k+(a.Lines.length:Int)+(a.Back.length:Int):=by
 unfold F21
 simp only [candM _ _ h,Ys]
theorem boxL (a:ConfBox) (k:Int) (h:(a.Cands:List ConfCand).length=0):(F21 a k).2.Lines.length=a.Lines.length∧(F21 a k).2.Back.length=a.Back.length∧((F21 a k).2.Cands:List ConfCand).length=0 :=
 ⟨Qiz _ _,Qiz _ _,Qzs _ _ h⟩
theorem boxH (a:ConfBox) (k:Int) (h0:0≤k) (h:(a.Cands:List ConfCand).length=0):F24 a k≤k+(a.Lines.length:Int)+(a.Back.length:Int):=by
 unfold F24
 have h1:=Py a.Lines k h0
 by_cases c1:F44 a.Lines k<0
 ·rw [decide_eq_true c1,cond_true]; omega
 ·have h2:=Py a.Back (F44 a.Lines k) (by omega)
  rw [decide_eq_false c1,cond_false,Qxc _ _ h]
  by_cases c2:F44 a.Back (F44 a.Lines k)<0
  ·rw [decide_eq_true c2,cond_true]; omega
  ·rw [decide_eq_false c2,cond_false,cond_false]; omega
theorem jobM (a:ConfJob) (k:Int):(F23 a k).1=k+(a.Lines.length:Int)∧(F23 a k).2.Lines.length=a.Lines.length:=⟨Ys _ _,Qiz _ _⟩
theorem Qpe (a:List ConfSlot) (k:Int) (hz:∀ q:Nat,(a.getD q default).Lines.length≤1000):((F22 a k).1≤k+1003*(a.length:Int)∧k≤(F22 a k).1)∧(F22 a k).2.length=a.length∧∀ q:Nat,((F22 a k).2.getD q default).Lines.length≤1000:=by
 have h:=Yf (step:=Vw a k) (fun i (s:Int×List ConfSlot)=>(s.1,(i:Int),s.2)) a.length (fun i s=>s.2.length=a.length∧k≤s.1∧s.1≤k+1003*(i:Int)∧∀ q:Nat,(s.2.getD q default).Lines.length≤1000) (fun _=>False) (fun i s hi ⟨h1,h2,h3,h4⟩=>.inl ⟨((F10 (s.2.getD i default).Lines (s.1+1+1+1)).1,s.2.set i (⟨((s.1).tmod 3==0),s.1+1,((s.1+1+1).tmod 3==0),(F10 (s.2.getD i default).Lines (s.1+1+1+1)).2⟩:ConfSlot)),by
   simp only [Vw,h1,decide_eq_true (show (i:Int)<(a.length:Int) by omega),cond_true,Int.toNat_natCast]; rfl,by
   refine ⟨by simpa using h1,?_,?_,fun q=>?_⟩
   ·show k≤(F10 _ _).1; rw [Ys]; omega
   ·show (F10 _ _).1≤_; rw [Ys]; have:=h4 i; omega
   ·by_cases hq:q=i
    ·subst hq
     show ((s.2.set q _).getD q default).Lines.length≤1000
     rw [Uy _ _ _ (by omega)]
     show (F10 _ _).2.length≤1000
     rw [Qiz]; exact h4 q
    ·show ((s.2.set i _).getD q default).Lines.length≤1000
     rw [Ux _ _ _ _ hq]; exact h4 q⟩)
  (fun s hs=>by simp only [Vw,hs.1,decide_eq_false (show ¬ (a.length:Int)<(a.length:Int) by omega),cond_false]) a.length 0 (k,a) (by omega) ⟨rfl,Int.le_refl _,by show k≤_; omega,hz⟩ (Int.toNat ((a.length:Int)-0)+1) (by omega)
 rcases h with ⟨s,e,h1,h2,h3,h4⟩ | ⟨r,_,hr⟩
 ·have ee:F22 a k=(s.1,s.2):=by
   unfold F22
   rw [show (k,(0:Int),a)=((k,a).1,((0:Nat):Int),(k,a).2) from rfl,e]; rfl
  rw [ee]
  exact ⟨⟨h3,h2⟩,h1,h4⟩
 ·exact hr.elim
theorem slotH (a:List ConfSlot) (k:Int) (h0:0≤k) (hz:∀ q:Nat,(a.getD q default).Lines.length≤1000):F25 a k≤k+1003*(a.length:Int):=by
 have h:=Yf (step:=Wn a k) (fun i (s:Int)=>(s,(i:Int))) a.length (fun i s=>0≤s∧s≤k+1003*(i:Int)) (fun r=>r=-1) (fun i s hi hs=>by
  simp only [Wn,decide_eq_true (show (i:Int)<(a.length:Int) by omega),cond_true,Int.toNat_natCast]
  cases (!((a.getD i default).Whole==(s.tmod 3==0))) with
  | true=>exact .inr ⟨-1,rfl,rfl⟩
  | false=>cases ((a.getD i default).Edition != s+1) with
   | true=>exact .inr ⟨-1,rfl,rfl⟩
   | false=>cases (!((a.getD i default).Trial==((s+1+1).tmod 3==0))) with
    | true=>exact .inr ⟨-1,rfl,rfl⟩
    | false =>
     have h1:=Py (a.getD i default).Lines (s+1+1+1) (by omega)
     have h2:=hz i
     by_cases c:F44 (a.getD i default).Lines (s+1+1+1)<0
     ·rw [decide_eq_true c]; exact .inr ⟨-1,rfl,rfl⟩
     ·rw [decide_eq_false c]; exact .inl ⟨_,rfl,by omega,by omega⟩) (fun s hs=>by simp only [Wn,decide_eq_false (show ¬ (a.length:Int)<(a.length:Int) by omega),cond_false]) a.length 0 k (by omega) ⟨h0,by omega⟩ (Int.toNat ((a.length:Int)-0)+1) (by omega)
 show (runL (Wn a k) (Int.toNat ((a.length:Int)-0)+1) (k,0)).fin (fun r=>r) (fun (k400,i40)=>k400)≤_
 rcases h with ⟨s,e,hs⟩ | ⟨r,e,hr⟩
 ·rw [show (k,(0:Int))=(k,((0:Nat):Int)) from rfl,e]; show s≤_; omega
 ·rw [show (k,(0:Int))=(k,((0:Nat):Int)) from rfl,e]; show r≤_; omega
theorem kc21l (a:ConfBox) (k:Int) {K_:Prop} (p0_:0≤k) (p1_:k+(a.Lines.length:Int)+(a.Back.length:Int)≤1000000000) (p2_:(a.Cands:List ConfCand).length=0) (q0_:(a.Cands:List ConfCand).length=0) (k_:((F21 a k).1=k+(a.Lines.length:Int)+(a.Back.length:Int))→K_):(0≤k∧k+(a.Lines.length:Int)+(a.Back.length:Int)≤1000000000∧(a.Cands:List ConfCand).length=0)∧(Imps (Yr a) (Yr a))∧(Imp (.v (vI k)) (.v (vI k)))∧K_:=⟨⟨p0_,p1_,p2_⟩,Imps.refl _,Imp.refl _,k_ (boxM a k q0_)⟩
abbrev kh21l (a:ConfBox) (k:Int):Hint true Tryz.prog:=.call 21 (S21 a k) (ok21 a k) none
theorem kc22l (a:List ConfSlot) (k:Int) {K_:Prop} (p0_:0≤k) (p1_:k+1003*(a.length:Int)≤1000000000) (p2_:∀ q:Nat,(a.getD q default).Lines.length≤1000) (q0_:∀ q:Nat,(a.getD q default).Lines.length≤1000) (k_:(((F22 a k).1≤k+1003*(a.length:Int)∧k≤(F22 a k).1)∧(F22 a k).2.length=a.length∧∀ q:Nat,((F22 a k).2.getD q default).Lines.length≤1000)→K_):(0≤k∧k+1003*(a.length:Int)≤1000000000∧(∀ q:Nat,(a.getD q default).Lines.length≤1000))∧(Imp (.l 4 Qe a) (.l 4 Qe a))∧(Imp (.v (vI k)) (.v (vI k)))∧K_:=⟨⟨p0_,p1_,p2_⟩,Imp.refl _,Imp.refl _,k_ (Qpe a k q0_)⟩
abbrev kh22l (a:List ConfSlot) (k:Int):Hint true Tryz.prog:=.call 22 (S22 a k) (ok22 a k) none
theorem kc23l (a:ConfJob) (k:Int) {K_:Prop} (p0_:0≤k) (p1_:k+(a.Lines.length:Int)≤1000000000) (k_:K_):(0≤k∧k+(a.Lines.length:Int)≤1000000000)∧(Imps (Yt a) (Yt a))∧(Imp (.v (vI k)) (.v (vI k)))∧K_:=⟨⟨p0_,p1_⟩,Imps.refl _,Imp.refl _,k_⟩
abbrev kh23l (a:ConfJob) (k:Int):Hint true Tryz.prog:=.call 23 (S23 a k) (ok23 a k) none
def F11 (a:ConfStore) (k:Int):Int×ConfStore :=
 ((F23 a.Job (F22 a.Slots (F21 a.Box k).1).1).1,(⟨a.Up,(⟨a.Box.Edition,(F21 a.Box k).2.Lines,a.Box.Trial,(F21 a.Box k).2.Back,(F21 a.Box k).2.Cands⟩:ConfBox),(F22 a.Slots (F21 a.Box k).1).2,a.Live,a.Last,(⟨a.Job.Kind,a.Job.Step,a.Job.Edition,a.Job.Ticks,(F23 a.Job (F22 a.Slots (F21 a.Box k).1).1).2.Lines⟩:ConfJob)⟩:ConfStore))
theorem fi11 (a:ConfStore) (k:Int) (r:Int×ConfStore) (hF:r=(F11 a k)):((.int .i64 r.1:Value)=.int .i64 (F11 a k).1)∧((Imp (.v (.bool r.2.Up)) (.v (.bool (F11 a k).2.Up)))∧(Imp (.v (vI r.2.Box.Edition)) (.v (vI (F11 a k).2.Box.Edition)))∧(Imp (.l 1 eStr r.2.Box.Lines) (.l 1 eStr (F11 a k).2.Box.Lines))∧(Imp (.v (vI r.2.Box.Trial)) (.v (vI (F11 a k).2.Box.Trial)))∧(Imp (.l 1 eStr r.2.Box.Back) (.l 1 eStr (F11 a k).2.Box.Back))∧(Imp (.l 4 Qc r.2.Box.Cands) (.l 4 Qc (F11 a k).2.Box.Cands))∧(Imp (.l 4 Qe r.2.Slots) (.l 4 Qe (F11 a k).2.Slots))∧(Imp (.v (vI r.2.Live)) (.v (vI (F11 a k).2.Live)))∧(Imp (.v (vI r.2.Last)) (.v (vI (F11 a k).2.Last)))∧(Imp (.v (vI r.2.Job.Kind)) (.v (vI (F11 a k).2.Job.Kind)))∧(Imp (.v (vI r.2.Job.Step)) (.v (vI (F11 a k).2.Job.Step)))∧(Imp (.v (vI r.2.Job.Edition)) (.v (vI (F11 a k).2.Job.Edition)))∧(Imp (.v (vI r.2.Job.Ticks)) (.v (vI (F11 a k).2.Job.Ticks)))∧(Imp (.l 1 eStr r.2.Job.Lines) (.l 1 eStr (F11 a k).2.Job.Lines))∧True)∧True:=ai (congrArg (fun r:Int×ConfStore=>(.int .i64 r.1:Value)) hF) (ai (ai (Imp.of_eq (congrArg (fun r:Int×ConfStore=>Dat.v (.bool r.2.Up)) hF)) (ai (Imp.of_eq (congrArg (fun r:Int×ConfStore=>Dat.v (vI r.2.Box.Edition)) hF)) (ai (Imp.of_eq (congrArg (fun r:Int×ConfStore=>Dat.l 1 eStr r.2.Box.Lines) hF)) (ai (Imp.of_eq (congrArg (fun r:Int×ConfStore=>Dat.v (vI r.2.Box.Trial)) hF)) (ai (Imp.of_eq (congrArg (fun r:Int×ConfStore=>Dat.l 1 eStr r.2.Box.Back) hF)) (ai (Imp.of_eq (congrArg (fun r:Int×ConfStore=>Dat.l 4 Qc r.2.Box.Cands) hF)) (ai (Imp.of_eq (congrArg (fun r:Int×ConfStore=>Dat.l 4 Qe r.2.Slots) hF)) (ai (Imp.of_eq (congrArg (fun r:Int×ConfStore=>Dat.v (vI r.2.Live)) hF)) (ai (Imp.of_eq (congrArg (fun r:Int×ConfStore=>Dat.v (vI r.2.Last)) hF)) (ai (Imp.of_eq (congrArg (fun r:Int×ConfStore=>Dat.v (vI r.2.Job.Kind)) hF)) (ai (Imp.of_eq (congrArg (fun r:Int×ConfStore=>Dat.v (vI r.2.Job.Step)) hF)) (ai (Imp.of_eq (congrArg (fun r:Int×ConfStore=>Dat.v (vI r.2.Job.Edition)) hF)) (ai (Imp.of_eq (congrArg (fun r:Int×ConfStore=>Dat.v (vI r.2.Job.Ticks)) hF)) (ai (Imp.of_eq (congrArg (fun r:Int×ConfStore=>Dat.l 1 eStr r.2.Job.Lines) hF)) trivial)))))))))))))) trivial)
def S11 (a:ConfStore) (k:Int):Spec:=⟨[.og (Uf a) (Uf (F11 a k).2),.r (.c (.v (vI k)))],.v (vI (F11 a k).1),0≤k∧(a.Box.Cands:List ConfCand).length=0∧(∀ q:Nat,(a.Slots.getD q default).Lines.length≤1000)∧k+(a.Box.Lines.length:Int)+(a.Box.Back.length:Int)+1003*(a.Slots.length:Int)+(a.Job.Lines.length:Int)≤1000000000⟩
theorem ok11 (a:ConfStore) (k:Int):(S11 a k).ok Tryz.prog 11 :=
 Qi mixed (fn:=Tryz.f11) (ct:=.seqk [(0,2),(0,4),(0,5),(0,6),(0,13)] .no (.seq (.reg [(3,kh21l a.Box k)]) (.seq (.reg [(3,kh22l a.Slots (F21 a.Box k).1)]) (.seq (.reg [(3,kh23l a.Job (F22 a.Slots (F21 a.Box k).1).1)]) (.seq .no .no))))) Tryz.func11 (fun (hp:0≤k∧(a.Box.Cands:List ConfCand).length=0∧(∀ q:Nat,(a.Slots.getD q default).Lines.length≤1000)∧k+(a.Box.Lines.length:Int)+(a.Box.Back.length:Int)+1003*(a.Slots.length:Int)+(a.Job.Lines.length:Int)≤1000000000)=>have hpre0:=hp.1; have hpre1:=hp.2.1; have hpre2:=hp.2.2.1; have hpre3:=hp.2.2.2; kn a.Box.Lines fun _=>kn a.Box.Back fun _=>kn a.Box.Cands fun _=>kn a.Slots fun _=>kn a.Job.Lines fun _=>kc21l a.Box k (by omega) (by omega) (by omega) (by omega) (fun gv1=>kc22l a.Slots (F21 a.Box k).1 (by omega) (by omega) (by first | assumption | exact hpre2 _ | exact fun k _=>hpre2 k | (intros; exact trivial) | (intros; exact Nat.zero_le _)) (by first | assumption | exact hpre2 _ | exact fun k _=>hpre2 k | (intros; exact trivial) | (intros; exact Nat.zero_le _)) (fun gv2=>kc23l a.Job (F22 a.Slots (F21 a.Box k).1).1 (by omega) (by omega) (fi11 a k ((F23 a.Job (F22 a.Slots (F21 a.Box k).1).1).1,(⟨a.Up,(⟨a.Box.Edition,(F21 a.Box k).2.Lines,a.Box.Trial,(F21 a.Box k).2.Back,(F21 a.Box k).2.Cands⟩:ConfBox),(F22 a.Slots (F21 a.Box k).1).2,a.Live,a.Last,(⟨a.Job.Kind,a.Job.Step,a.Job.Edition,a.Job.Ticks,(F23 a.Job (F22 a.Slots (F21 a.Box k).1).1).2.Lines⟩:ConfJob)⟩:ConfStore)) rfl)))) (by kernel_rfl)
theorem kc24l (a:ConfBox) (k:Int) {K_:Prop} (p0_:0≤k) (p1_:k+(a.Lines.length:Int)+(a.Back.length:Int)≤1000000000) (p2_:(a.Cands:List ConfCand).length=0) (q0_:0≤k) (q1_:(a.Cands:List ConfCand).length=0) (k_:((F24 a k)≤k+(a.Lines.length:Int)+(a.Back.length:Int))→K_):(0≤k∧k+(a.Lines.length:Int)+(a.Back.length:Int)≤1000000000∧(a.Cands:List ConfCand).length=0)∧(Imps (Yr a) (Yr a))∧(Imp (.v (vI k)) (.v (vI k)))∧K_:=⟨⟨p0_,p1_,p2_⟩,Imps.refl _,Imp.refl _,k_ (boxH a k q0_ q1_)⟩
abbrev kh24l (a:ConfBox) (k:Int):Hint true Tryz.prog:=.call 24 (S24 a k) (ok24 a k) none
theorem kc25l (a:List ConfSlot) (k:Int) {K_:Prop} (p0_:0≤k) (p1_:k+1003*(a.length:Int)≤1000000000) (p2_:∀ q:Nat,(a.getD q default).Lines.length≤1000) (q0_:0≤k) (q1_:∀ q:Nat,(a.getD q default).Lines.length≤1000) (k_:((F25 a k)≤k+1003*(a.length:Int))→K_):(0≤k∧k+1003*(a.length:Int)≤1000000000∧(∀ q:Nat,(a.getD q default).Lines.length≤1000))∧(Imp (.l 4 Qe a) (.l 4 Qe a))∧(Imp (.v (vI k)) (.v (vI k)))∧K_:=⟨⟨p0_,p1_,p2_⟩,Imp.refl _,Imp.refl _,k_ (slotH a k q0_ q1_)⟩
abbrev kh25l (a:List ConfSlot) (k:Int):Hint true Tryz.prog:=.call 25 (S25 a k) (ok25 a k) none
theorem kc26l (a:ConfJob) (k:Int) {K_:Prop} (p0_:0≤k) (p1_:k+(a.Lines.length:Int)≤1000000000) (k_:K_):(0≤k∧k+(a.Lines.length:Int)≤1000000000)∧(Imps (Yt a) (Yt a))∧(Imp (.v (vI k)) (.v (vI k)))∧K_:=⟨⟨p0_,p1_⟩,Imps.refl _,Imp.refl _,k_⟩
abbrev kh26l (a:ConfJob) (k:Int):Hint true Tryz.prog:=.call 26 (S26 a k) (ok26 a k) none
def F12 (a:ConfStore) (k:Int):Int :=
 bif (decide ((F24 a.Box k)<0)) then (-1) else (bif (decide ((F25 a.Slots (F24 a.Box k))<0)) then (-1) else (bif (decide ((F26 a.Job (F25 a.Slots (F24 a.Box k)))<0)) then (-1) else (F26 a.Job (F25 a.Slots (F24 a.Box k)))))
def S12 (a:ConfStore) (k:Int):Spec:=⟨[.r (.g (Uf a)),.r (.c (.v (vI k)))],.v (vI (F12 a k)),0≤k∧(a.Box.Cands:List ConfCand).length=0∧(∀ q:Nat,(a.Slots.getD q default).Lines.length≤1000)∧k+(a.Box.Lines.length:Int)+(a.Box.Back.length:Int)+1003*(a.Slots.length:Int)+(a.Job.Lines.length:Int)≤1000000000⟩
theorem ok12 (a:ConfStore) (k:Int):(S12 a k).ok Tryz.prog 12 :=
 Qi mixed (fn:=Tryz.f12) (ct:=.seq .no (.seq (.reg [(3,kh24l a.Box k)]) (.seq (.seq .no (.cond (.seq .no .no) .no)) (.seq (.reg [(3,kh25l a.Slots (F24 a.Box k))]) (.seq (.seq .no (.cond (.seq .no .no) .no)) (.seq (.reg [(3,kh26l a.Job (F25 a.Slots (F24 a.Box k)))]) (.seq (.seq .no (.cond (.seq .no .no) .no)) (.seq .no .no)))))))) Tryz.func12 (fun (hp:0≤k∧(a.Box.Cands:List ConfCand).length=0∧(∀ q:Nat,(a.Slots.getD q default).Lines.length≤1000)∧k+(a.Box.Lines.length:Int)+(a.Box.Back.length:Int)+1003*(a.Slots.length:Int)+(a.Job.Lines.length:Int)≤1000000000)=>have hpre0:=hp.1; have hpre1:=hp.2.1; have hpre2:=hp.2.2.1; have hpre3:=hp.2.2.2; kc24l a.Box k (by omega) (by omega) (by omega) (by omega) (by omega) (fun gv1=>ifd ((F24 a.Box k)<0) (fun h2 _=>fiI (-1) (F12 a k) (condT h2 rfl)) (fun h2 _=>kc25l a.Slots (F24 a.Box k) (by omega) (by omega) (by first | assumption | exact hpre2 _ | exact fun k _=>hpre2 k | (intros; exact trivial) | (intros; exact Nat.zero_le _)) (by omega) (by first | assumption | exact hpre2 _ | exact fun k _=>hpre2 k | (intros; exact trivial) | (intros; exact Nat.zero_le _)) (fun gv3=>ifd ((F25 a.Slots (F24 a.Box k))<0) (fun h4 _=>fiI (-1) (F12 a k) (condF h2 (condT h4 rfl))) (fun h4 _=>kc26l a.Job (F25 a.Slots (F24 a.Box k)) (by omega) (by omega) (ifd ((F26 a.Job (F25 a.Slots (F24 a.Box k)))<0) (fun h5 _=>fiI (-1) (F12 a k) (condF h2 (condF h4 (condT h5 rfl)))) (fun h5 _=>fiI (F26 a.Job (F25 a.Slots (F24 a.Box k))) (F12 a k) (condF h2 (condF h4 (condF h5 rfl)))))))))) (by kernel_rfl)
theorem storeL (a:ConfStore) (k:Int) (h:(a.Box.Cands:List ConfCand).length=0) (hz:∀ q:Nat,(a.Slots.getD q default).Lines.length≤1000):(F11 a k).2.Box.Lines.length=a.Box.Lines.length∧(F11 a k).2.Box.Back.length=a.Box.Back.length∧((F11 a k).2.Box.Cands:List ConfCand).length=0∧(F11 a k).2.Slots.length=a.Slots.length∧(F11 a k).2.Job.Lines.length=a.Job.Lines.length :=
 ⟨(boxL _ _ h).1,(boxL _ _ h).2.1,(boxL _ _ h).2.2,(Qpe _ _ hz).2.1,(jobM _ _).2⟩
theorem storeZ (a:ConfStore) (k:Int) (hz:∀ q:Nat,(a.Slots.getD q default).Lines.length≤1000):∀ q:Nat,((F11 a k).2.Slots.getD q default).Lines.length≤1000:=(Qpe _ _ hz).2.2
theorem Ew (lines:List ByteArray):(((F7 lines).1.Box.Cands:List ConfCand).length=0∧(F7 lines).1.Box.Lines.length≤16∧(F7 lines).1.Box.Back.length=0∧(F7 lines).1.Slots.length≤2∧(F7 lines).1.Job.Lines.length=0)∧∀ q:Nat,((F7 lines).1.Slots.getD q default).Lines.length≤1000:=by
 unfold F7
 cases h:(F15 lines != 0) with
 | true=>exact ⟨⟨rfl,Nat.zero_le _,rfl,Nat.zero_le _,rfl⟩,fun q=>Nat.zero_le _⟩
 | false =>
  have h0:F15 lines=0:=by simpa using h
  have hl:=Qkf lines h0
  refine ⟨⟨rfl,hl,rfl,Nat.le_refl _,rfl⟩,fun q=>?_⟩
  cases q with
  | zero=>exact Nat.le_trans hl (by decide)
  | succ q=>cases q with
   | zero=>exact Nat.zero_le _
   | succ q=>exact Nat.zero_le _
theorem Uej (a:ConfStore) (h:(a.Box.Cands:List ConfCand).length=0) (hb:a.Box.Lines.length≤1000) (hk:a.Box.Back.length≤1000) (hs:a.Slots.length≤1000) (hj:a.Job.Lines.length≤1000) (hz:∀ q:Nat,(a.Slots.getD q default).Lines.length≤1000):F12 (F11 a 1).2 1=(F11 a 1).1∧0≤(F11 a 1).1:=by
 have c1:(F43 (a.Box.Cands:List ConfCand))=fun k=>(k,[]):=by
  have e:(a.Box.Cands:List ConfCand)=[]:=List.eq_nil_of_length_eq_zero h
  rw [e]; rfl
 have m1:=mk10 a.Box.Lines 1 (by omega) (by rw [Bt]; omega)
 have m2:=mk10 a.Box.Back (F10 a.Box.Lines 1).1 (by rw [Ys]; omega) (by rw [Ys,Bt]; omega)
 have eb:(F21 a.Box 1).1=1+(a.Box.Lines.length:Int)+(a.Box.Back.length:Int):=boxM a.Box 1 h
 have hsl:=Qpe a.Slots (F21 a.Box 1).1 hz
 have hsu:(sumL Ku a.Slots:Int)≤1003*(a.Slots.length:Int):=by
  have:=Qqu Ku 1003 a.Slots (fun x hx=>by
   obtain ⟨i,hi,rfl⟩:=Gd hx
   have:=hz i
   unfold Ku
   rw [Bt]; omega)
  omega
 have m3:=mk22 a.Slots (F21 a.Box 1).1 (by omega) (by omega)
 have m4:=mk10 a.Job.Lines (F22 a.Slots (F21 a.Box 1).1).1 (by omega) (by rw [Bt]; omega)
 have k1:=Ys a.Box.Lines 1
 have k2:=Ys a.Box.Back (F10 a.Box.Lines 1).1
 have k4:=Ys a.Job.Lines (F22 a.Slots (F21 a.Box 1).1).1
 have hB:F24 (F11 a 1).2.Box 1=(F21 a.Box 1).1:=by
  show F24 (⟨a.Box.Edition,(F10 a.Box.Lines 1).2,a.Box.Trial,(F10 a.Box.Back (F10 a.Box.Lines 1).1).2,(F43 (a.Box.Cands:List ConfCand) (F10 a.Box.Back (F10 a.Box.Lines 1).1).1).2⟩:ConfBox) 1=_
  rw [c1]
  unfold F24
  simp only
  rw [m1.2,← m1.1,m2.2,← m2.1,Qxc _ _ rfl,k2,k1,eb,decide_eq_false (show ¬ 1+(a.Box.Lines.length:Int)<0 by omega),decide_eq_false (show ¬ 1+(a.Box.Lines.length:Int)+(a.Box.Back.length:Int)<0 by omega)]
  rfl
 have e4:(F11 a 1).1=(F10 a.Job.Lines (F22 a.Slots (F21 a.Box 1).1).1).1:=rfl
 have hS:F25 (F11 a 1).2.Slots (F21 a.Box 1).1=(F22 a.Slots (F21 a.Box 1).1).1:=m3.2.trans m3.1.symm
 have hJ:F26 (F11 a 1).2.Job (F22 a.Slots (F21 a.Box 1).1).1=(F11 a 1).1:=by
  show (bif (decide (F44 (F10 a.Job.Lines (F22 a.Slots (F21 a.Box 1).1).1).2 (F22 a.Slots (F21 a.Box 1).1).1<0)) then (-1) else F44 (F10 a.Job.Lines (F22 a.Slots (F21 a.Box 1).1).1).2 (F22 a.Slots (F21 a.Box 1).1).1)=_
  rw [m4.2,← m4.1,e4,decide_eq_false (by omega)]; rfl
 refine ⟨?_,by omega⟩
 unfold F12
 rw [hB,hS,hJ,decide_eq_false (show ¬ (F21 a.Box 1).1<0 by omega),decide_eq_false (show ¬ (F22 a.Slots (F21 a.Box 1).1).1<0 by omega),decide_eq_false (show ¬ (F11 a 1).1<0 by omega)]
 rfl
def Qfo (a:List ByteArray):(Int×List ByteArray)→Lp (Int×List ByteArray) (List ByteArray):=fun (i40,xs) =>
 bif (decide (i40<(a.length:Int))) then (.next ((i40+1),(xs.set (i40).toNat (a.getD i40.toNat default)))) else (.done (i40,xs))
def F6 (a:List ByteArray):List ByteArray :=
 (runL (Qfo a) (((a.length:Int)-0).toNat+1) (0,(List.replicate (a.length:Int).toNat ((⟨#[]⟩:ByteArray):ByteArray)))).fin (fun r=>r) (fun (i40,xs)=>xs)
abbrev Qjy (a:List ByteArray):Nat×(Int×List ByteArray):=((((a.length:Int)-0).toNat+1),(0,(List.replicate (a.length:Int).toNat (w13_:ByteArray))))
abbrev Qtg (a:List ByteArray) (m39:Nat) (i40:Int) (xs:List ByteArray):Prop:=Int.toNat ((a.length:Int)-i40)<m39∧(0:Int)≤i40∧xs.length=(List.replicate (a.length:Int).toNat (w13_:ByteArray)).length
abbrev lX6_0 (a:List ByteArray):Lp (Int×List ByteArray) (List ByteArray):=LpX (Qfo a) (Qjy a)
abbrev Qhr (a:List ByteArray) (i:Nat×(Int×List ByteArray)):Prop:=LpJ (Qfo a) (Qjy a) i (Qtg a i.1 i.2.1 i.2.2)
abbrev lH6_0 (a:List ByteArray) (i:Nat×(Int×List ByteArray)) (m39:Nat) (i40:Int) (xs:List ByteArray):Prop:=LpH (Qfo a) (Qjy a) i m39 (i40,xs) (Qtg a (m39+1) i40 xs)
abbrev lE6_0 (a:List ByteArray) (i40:Int) (xs:List ByteArray) (i40_:Int) (xs_:List ByteArray) (K39:Prop):Prop:=((.int .i64 i40:Value)=.int .i64 i40_)∧(Im (.l 1 eStr a))∧(Imp (.l 1 eStr xs) (.l 1 eStr xs_))∧K39
theorem un6_0 (a:List ByteArray) (i:Nat×(Int×List ByteArray)) (h:Qhr a i):lH6_0 a i (i.1-1) i.2.1 i.2.2:=⟨hd1 h.1 h.2.1,hd3 h.2.1,hd2 h.2.1,h.2.2⟩
theorem bk6_0 (a:List ByteArray) (i:Nat×(Int×List ByteArray)) (m39:Nat) (i40:Int) (xs:List ByteArray) (hl:m39<i.1) (e:runL (Qfo a) m39 (i40,xs)=lX6_0 a) (h:Qtg a m39 i40 xs):∃ j:Nat×(Int×List ByteArray),lE6_0 a i40 xs j.2.1 j.2.2 (Qhr a j∧j.1<i.1):=⟨(m39,(i40,xs)),rfl,Imp.refl _,Imp.refl _,⟨e,h⟩,hl⟩
theorem en6_0 (a:List ByteArray) (h:(0:Int)≤0∧(List.replicate (a.length:Int).toNat (w13_:ByteArray)).length=(List.replicate (a.length:Int).toNat (w13_:ByteArray)).length):lE6_0 a 0 (List.replicate (a.length:Int).toNat (w13_:ByteArray)) 0 (List.replicate (a.length:Int).toNat (w13_:ByteArray)) (Qhr a (Qjy a)):=⟨rfl,Imp.refl _,Imp.refl _,rfl,Nat.lt_succ_self _,h⟩
theorem fi6 (a:List ByteArray) (r:List ByteArray) (hF:r=(F6 a)):(Imp (.l 1 eStr r) (.l 1 eStr (F6 a)))∧True:=by cases hF; exact ⟨Imp.refl _,trivial⟩
def S6 (R:List ByteArray) (a:List ByteArray):Spec:=⟨[.r (.c (.l 1 eStr a))],.ow (.l 1 eStr R),a.length≤1000000000∧(∀ k:Nat,(a.getD k default).size≤1000000000)⟩
theorem ok6 (a:List ByteArray):(S6 (F6 a) a).ok Tryz.prog 6 :=
 Qi mixed (fn:=Tryz.f6) (ct:=.seqk [(0,0)] .no (.seq (.reg [(2,.dat (.l 1 eStr (List.replicate (a.length:Int).toNat (w13_:ByteArray))))]) (.seq (.seqk [(0,0),(3,0)] .no (.blk (.loop (ι:=Nat×(Int×List ByteArray)) (fun i=>(fun (i40:Int) (xs:List ByteArray)=>(⟨[(0,some (.h 0 0)),(3,some (.h 1 0)),(4,some (.v (vI i40)))],[(0,some (.shr none (.l 1 eStr a))),(1,some (.own 1 (.l 1 eStr xs)))],2⟩:St)) i.2.1 i.2.2) (Qhr a) (fun i=>i.1) (Qjy a) (fun i=>(fun (i40:Int) (xs:List ByteArray)=>(.seq (.seq .no (.cond .no .no)) (.seq (.blk (.reg [(7,.dat (.l 1 eStr (xs.set (i40).toNat (a.getD i40.toNat default))))])) (.reg [(1,.bnd)])))) i.2.1 i.2.2)))) (.seq .no .no)))) Tryz.func6 (fun (hp:a.length≤1000000000∧(∀ k:Nat,(a.getD k default).size≤1000000000))=>have hpre0:=hp.1; have hpre1:=hp.2; kn a fun _=>ai (by first | omega | (simp only [lens,ib] at*<;> omega):0≤(a.length:Int)∧(a.length:Int)≤(a.length:Int)∧(16:Int)*(a.length:Int)≤281474976710656) (ai (MakeOK.mk eStr (w13_:ByteArray) (by exact ai ir trivial):MakeOK 1 [.v (.string w13_)] (a.length:Int).toNat (.l 1 eStr (List.replicate (a.length:Int).toNat (w13_:ByteArray)))) (kn a fun _=>kn (List.replicate (a.length:Int).toNat (w13_:ByteArray)) fun _=>ai (en6_0 a (by refine ⟨?_,?_⟩ <;> first | omega | (simp only [lens,ib] at*<;> omega))) (fun (i0:Nat×(Int×List ByteArray)) (hi0:Qhr a i0)=>(fun (m0:Nat) (i40:Int) (xs:List ByteArray) (hh0:lH6_0 a i0 m0 i40 xs)=>have hI0:=hh0.1; have hl0:=hh0.2.1; have _:=hh0.2.2.1; have _:=hh0.2.2.2; ifd (i40<(a.length:Int)) (fun h2 _=>ai (by first | omega | (simp only [lens,ib] at*<;> omega):ib i40 a) (ai (by first | omega | (simp only [lens,ib] at*<;> omega):ib i40 xs) (ai (setr 1 eStr xs (i40).toNat (a.getD i40.toNat default)) (ai (iok (i40+1) (by first | omega | (simp only [lens,ib] at*<;> omega))) (bk6_0 a i0 m0 (i40+1) (xs.set (i40).toNat (a.getD i40.toNat default)) hl0 (Qg hI0 (condT h2 rfl)) (by refine ⟨?_,?_,?_⟩ <;> first | omega | (simp only [lens,ib] at*<;> omega))))))) (fun h2 _=>have hD0_3:lX6_0 a=Lp.done (i40,xs):=Qj hI0 (condF h2 rfl); fi6 a xs (finD hD0_3 rfl))) (i0.1-1) i0.2.1 i0.2.2 (un6_0 a i0 hi0))))) (by kernel_rfl)
theorem as6 (a:List ByteArray):F6 a=(a):=by
 exact Uei (fun x=>x) (fun _=>rfl) a _ (by simp) (Qfo a) (fun i xs=>rfl)
theorem oa6 (a:List ByteArray):(S6 (a) a).ok Tryz.prog 6:=by
 intro hp; have h:=ok6 a hp; rw [as6 a] at h; exact h
def Qbr (a:List ByteArray) (b:List ByteArray):Int→Lp Int Bool:=fun i40 =>
 bif (decide (i40<(a.length:Int))) then (bif (!((a.getD i40.toNat default).toList==(b.getD i40.toNat default).toList)) then (.ret false) else (.next (i40+1))) else (.done i40)
def F9 (a:List ByteArray) (b:List ByteArray):Bool :=
 bif ((a.length:Int) != (b.length:Int)) then false else ((runL (Qbr a b) (((a.length:Int)-0).toNat+1) 0).fin (fun r=>r) (fun i40=>true))
abbrev Qit (a:List ByteArray):Nat×Int:=((((a.length:Int)-0).toNat+1),0)
abbrev Qze (a:List ByteArray) (m39:Nat) (i40:Int):Prop:=Int.toNat ((a.length:Int)-i40)<m39∧(0:Int)≤i40
abbrev lX9_0 (a:List ByteArray) (b:List ByteArray):Lp Int Bool:=LpX (Qbr a b) (Qit a)
abbrev Qjt (a:List ByteArray) (b:List ByteArray) (i:Nat×Int):Prop:=LpJ (Qbr a b) (Qit a) i (Qze a i.1 i.2)
abbrev lH9_0 (a:List ByteArray) (b:List ByteArray) (i:Nat×Int) (m39:Nat) (i40:Int):Prop:=LpH (Qbr a b) (Qit a) i m39 i40 (Qze a (m39+1) i40)
abbrev lE9_0 (a:List ByteArray) (b:List ByteArray) (i40:Int) (i40_:Int) (K39:Prop):Prop:=((.int .i64 i40:Value)=.int .i64 i40_)∧(Im (.l 1 eStr a))∧(Im (.l 1 eStr b))∧K39
theorem un9_0 (a:List ByteArray) (b:List ByteArray) (i:Nat×Int) (h:Qjt a b i):lH9_0 a b i (i.1-1) i.2:=⟨hd1 h.1 h.2.1,hd3 h.2.1,hd2 h.2.1,h.2.2⟩
theorem bk9_0 (a:List ByteArray) (b:List ByteArray) (i:Nat×Int) (m39:Nat) (i40:Int) (hl:m39<i.1) (e:runL (Qbr a b) m39 i40=lX9_0 a b) (h:Qze a m39 i40):∃ j:Nat×Int,lE9_0 a b i40 j.2 (Qjt a b j∧j.1<i.1):=⟨(m39,i40),rfl,Imp.refl _,Imp.refl _,⟨e,h⟩,hl⟩
theorem en9_0 (a:List ByteArray) (b:List ByteArray) (h:(0:Int)≤0):lE9_0 a b 0 0 (Qjt a b (Qit a)):=⟨rfl,Imp.refl _,Imp.refl _,rfl,Nat.lt_succ_self _,h⟩
def S9 (R:Bool) (a:List ByteArray) (b:List ByteArray):Spec:=⟨[.r (.c (.l 1 eStr a)),.r (.c (.l 1 eStr b))],.v (.bool R),True⟩
theorem ok9 (a:List ByteArray) (b:List ByteArray):(S9 (F9 a b) a b).ok Tryz.prog 9 :=
 Qi mixed (fn:=Tryz.f9) (ct:=.seqk [(0,0),(1,0)] .no (.seq (.seq .no (.cond (.seq .no .no) .no)) (.seq (.seqk [(0,0),(1,0)] .no (.blk (.loop (ι:=Nat×Int) (fun i=>(fun (i40:Int)=>(⟨[(0,some (.h 0 0)),(1,some (.h 1 0)),(5,some (.v (vI i40)))],[(0,some (.shr none (.l 1 eStr a))),(1,some (.shr none (.l 1 eStr b)))],2⟩:St)) i.2) (Qjt a b) (fun i=>i.1) (Qit a) (fun i=>(fun (i40:Int)=>(.seq (.seq .no (.cond .no .no)) (.seq (.blk (.seq .no (.cond (.seq .no .no) .no))) (.reg [(1,.bnd)])))) i.2)))) (.seq .no .no)))) Tryz.func9 (fun (_:True)=>kn a fun _=>kn b fun _=>ifn (a.length:Int) (b.length:Int) (fun h1 _=>fiB false (F9 a b) (condT h1 rfl)) (fun h1 _=>kn a fun _=>kn b fun _=>ai (en9_0 a b (by omega)) (fun (i0:Nat×Int) (hi0:Qjt a b i0)=>(fun (m0:Nat) (i40:Int) (hh0:lH9_0 a b i0 m0 i40)=>have hI0:=hh0.1; have hl0:=hh0.2.1; have _:=hh0.2.2.1; have _:=hh0.2.2.2; ifd (i40<(a.length:Int)) (fun h3 _=>ai (by omega:ib i40 a) (ai (by omega:ib i40 b) (ifb (!((a.getD i40.toNat default).toList==(b.getD i40.toNat default).toList)) (fun h4=>fiB false (F9 a b) (condF h1 (finR (Qp hI0 (condT h3 (condT h4 rfl))) rfl))) (fun h4=>ai (iok (i40+1) (by omega)) (bk9_0 a b i0 m0 (i40+1) hl0 (Qg hI0 (condT h3 (condF h4 rfl))) (by refine ⟨?_,?_⟩ <;> omega)))))) (fun h3 _=>have hD0_5:lX9_0 a b=Lp.done i40:=Qj hI0 (condF h3 rfl); fiB true (F9 a b) (condF h1 (finD hD0_5 rfl)))) (i0.1-1) i0.2 (un9_0 a b i0 hi0)))) (by kernel_rfl)
theorem as9 (a:List ByteArray) (b:List ByteArray):F9 a b=(decide (a=b)):=by
 exact Qgb (fun x y=>decide (x=y)) (fun _ _=>rfl) a b (Qbr a b) (fun i=>by simp only [Qbr,neI,neB,neS])
theorem oa9 (a:List ByteArray) (b:List ByteArray):(S9 (decide (a=b)) a b).ok Tryz.prog 9:=by
 intro hp; have h:=ok9 a b hp; rw [as9 a b] at h; exact h
theorem kc9a (a:List ByteArray) (b:List ByteArray) {K_:Prop} (k_:K_):(True)∧(Imp (.l 1 eStr a) (.l 1 eStr a))∧(Imp (.l 1 eStr b) (.l 1 eStr b))∧K_:=⟨trivial,Imp.refl _,Imp.refl _,k_⟩
abbrev kh9a (a:List ByteArray) (b:List ByteArray):Hint true Tryz.prog:=.call 9 (S9 (decide (a=b)) a b) (oa9 a b) none
def F76 (a:ConfCand) (b:ConfCand):Bool :=
 bif (!(a.User.toList==b.User.toList)) then false else (bif (a.Base != b.Base) then false else (bif (!(decide (a.From=b.From))) then false else (bif (!(decide (a.Lines=b.Lines))) then false else true)))
def S76 (R:Bool) (a:ConfCand) (b:ConfCand):Spec:=⟨[.r (.g (Qc a)),.r (.g (Qc b))],.v (.bool R),True⟩
theorem ok76 (a:ConfCand) (b:ConfCand):(S76 (F76 a b) a b).ok Tryz.prog 76 :=
 Qi mixed (fn:=Tryz.f76) (ct:=.seq .no (.seq (.seq .no (.cond (.seq .no .no) .no)) (.seq (.seq .no (.cond (.seq .no .no) .no)) (.seq (.seq (.reg [(4,kh9a a.From b.From)]) (.cond (.seq .no .no) .no)) (.seq (.seq (.reg [(4,kh9a a.Lines b.Lines)]) (.cond (.seq .no .no) .no)) (.seq .no .no)))))) Tryz.func76 (fun (_:True)=>ifb (!(a.User.toList==b.User.toList)) (fun h1=>fiB false (F76 a b) (condT h1 rfl)) (fun h1=>ifn a.Base b.Base (fun h2 _=>fiB false (F76 a b) (condF h1 (condT h2 rfl))) (fun h2 _=>kc9a a.From b.From (ifb (!(decide (a.From=b.From))) (fun h3=>have _:=of_decide_eq_false (Yv h3); fiB false (F76 a b) (condF h1 (condF h2 (condT h3 rfl)))) (fun h3=>have _:=of_decide_eq_true (Ul h3); kc9a a.Lines b.Lines (ifb (!(decide (a.Lines=b.Lines))) (fun h4=>have _:=of_decide_eq_false (Yv h4); fiB false (F76 a b) (condF h1 (condF h2 (condF h3 (condT h4 rfl))))) (fun h4=>have _:=of_decide_eq_true (Ul h4); fiB true (F76 a b) (condF h1 (condF h2 (condF h3 (condF h4 rfl))))))))))) (by kernel_rfl)
theorem as76 (a:ConfCand) (b:ConfCand):F76 a b=(decide (a=b)):=by
 cases a; cases b
 simp only [F76,ConfCand.mk.injEq,neI,neB,neS,Qau,Bool.decide_and,Bool.and_true]
theorem oa76 (a:ConfCand) (b:ConfCand):(S76 (decide (a=b)) a b).ok Tryz.prog 76:=by
 intro hp; have h:=ok76 a b hp; rw [as76 a b] at h; exact h
theorem kc76a (a:ConfCand) (b:ConfCand) {K_:Prop} (k_:K_):(True)∧(Imps (Qc a) (Qc a))∧(Imps (Qc b) (Qc b))∧K_:=⟨trivial,Imps.refl _,Imps.refl _,k_⟩
abbrev kh76a (a:ConfCand) (b:ConfCand):Hint true Tryz.prog:=.call 76 (S76 (decide (a=b)) a b) (oa76 a b) none
def Mu (a:List ConfCand) (b:List ConfCand):Int→Lp Int Bool:=fun i40 =>
 bif (decide (i40<(a.length:Int))) then (bif (!(decide ((a.getD i40.toNat default)=(b.getD i40.toNat default)))) then (.ret false) else (.next (i40+1))) else (.done i40)
def F41 (a:List ConfCand) (b:List ConfCand):Bool :=
 bif ((a.length:Int) != (b.length:Int)) then false else ((runL (Mu a b) (((a.length:Int)-0).toNat+1) 0).fin (fun r=>r) (fun i40=>true))
abbrev Tb (a:List ConfCand):Nat×Int:=((((a.length:Int)-0).toNat+1),0)
abbrev Qmo (a:List ConfCand) (m39:Nat) (i40:Int):Prop:=Int.toNat ((a.length:Int)-i40)<m39∧(0:Int)≤i40
abbrev Qyr (a:List ConfCand) (b:List ConfCand):Lp Int Bool:=LpX (Mu a b) (Tb a)
abbrev Ro (a:List ConfCand) (b:List ConfCand) (i:Nat×Int):Prop:=LpJ (Mu a b) (Tb a) i (Qmo a i.1 i.2)
abbrev Qua (a:List ConfCand) (b:List ConfCand) (i:Nat×Int) (m39:Nat) (i40:Int):Prop:=LpH (Mu a b) (Tb a) i m39 i40 (Qmo a (m39+1) i40)
abbrev Qts (a:List ConfCand) (b:List ConfCand) (i40:Int) (i40_:Int) (K39:Prop):Prop:=((.int .i64 i40:Value)=.int .i64 i40_)∧(Im (.l 4 Qc a))∧(Im (.l 4 Qc b))∧K39
theorem un41_0 (a:List ConfCand) (b:List ConfCand) (i:Nat×Int) (h:Ro a b i):Qua a b i (i.1-1) i.2:=⟨hd1 h.1 h.2.1,hd3 h.2.1,hd2 h.2.1,h.2.2⟩
theorem bk41_0 (a:List ConfCand) (b:List ConfCand) (i:Nat×Int) (m39:Nat) (i40:Int) (hl:m39<i.1) (e:runL (Mu a b) m39 i40=Qyr a b) (h:Qmo a m39 i40):∃ j:Nat×Int,Qts a b i40 j.2 (Ro a b j∧j.1<i.1):=⟨(m39,i40),rfl,Imp.refl _,Imp.refl _,⟨e,h⟩,hl⟩
theorem en41_0 (a:List ConfCand) (b:List ConfCand) (h:(0:Int)≤0):Qts a b 0 0 (Ro a b (Tb a)):=⟨rfl,Imp.refl _,Imp.refl _,rfl,Nat.lt_succ_self _,h⟩
def S41 (R:Bool) (a:List ConfCand) (b:List ConfCand):Spec:=⟨[.r (.c (.l 4 Qc a)),.r (.c (.l 4 Qc b))],.v (.bool R),True⟩
theorem ok41 (a:List ConfCand) (b:List ConfCand):(S41 (F41 a b) a b).ok Tryz.prog 41 :=
 Qi mixed (fn:=Tryz.f41) (ct:=.seqk [(0,0),(1,0)] .no (.seq (.seq .no (.cond (.seq .no .no) .no)) (.seq (.seqk [(0,0),(1,0)] .no (.blk (.loop (ι:=Nat×Int) (fun i=>(fun (i40:Int)=>(⟨[(0,some (.h 0 0)),(1,some (.h 1 0)),(5,some (.v (vI i40)))],[(0,some (.shr none (.l 4 Qc a))),(1,some (.shr none (.l 4 Qc b)))],2⟩:St)) i.2) (Ro a b) (fun i=>i.1) (Tb a) (fun i=>(fun (i40:Int)=>(.seq (.seq .no (.cond .no .no)) (.seq (.blk (.seq (.reg [(8,kh76a (a.getD i40.toNat default) (b.getD i40.toNat default))]) (.cond (.seq .no .no) .no))) (.reg [(1,.bnd)])))) i.2)))) (.seq .no .no)))) Tryz.func41 (fun (_:True)=>kn a fun _=>kn b fun _=>ifn (a.length:Int) (b.length:Int) (fun h1 _=>fiB false (F41 a b) (condT h1 rfl)) (fun h1 _=>kn a fun _=>kn b fun _=>ai (en41_0 a b (by omega)) (fun (i0:Nat×Int) (hi0:Ro a b i0)=>(fun (m0:Nat) (i40:Int) (hh0:Qua a b i0 m0 i40)=>have hI0:=hh0.1; have hl0:=hh0.2.1; have _:=hh0.2.2.1; have _:=hh0.2.2.2; ifd (i40<(a.length:Int)) (fun h3 _=>ai (by omega:ib i40 a) (ai (by omega:ib i40 b) (kc76a (a.getD i40.toNat default) (b.getD i40.toNat default) (ifb (!(decide ((a.getD i40.toNat default)=(b.getD i40.toNat default)))) (fun h4=>have _:=of_decide_eq_false (Yv h4); fiB false (F41 a b) (condF h1 (finR (Qp hI0 (condT h3 (condT h4 rfl))) rfl))) (fun h4=>have _:=of_decide_eq_true (Ul h4); ai (iok (i40+1) (by omega)) (bk41_0 a b i0 m0 (i40+1) hl0 (Qg hI0 (condT h3 (condF h4 rfl))) (by refine ⟨?_,?_⟩ <;> omega))))))) (fun h3 _=>have hD0_5:Qyr a b=Lp.done i40:=Qj hI0 (condF h3 rfl); fiB true (F41 a b) (condF h1 (finD hD0_5 rfl)))) (i0.1-1) i0.2 (un41_0 a b i0 hi0)))) (by kernel_rfl)
theorem as41 (a:List ConfCand) (b:List ConfCand):F41 a b=(decide (a=b)):=by
 exact Qgb (fun x y=>decide (x=y)) (fun _ _=>rfl) a b (Mu a b) (fun i=>rfl)
theorem oa41 (a:List ConfCand) (b:List ConfCand):(S41 (decide (a=b)) a b).ok Tryz.prog 41:=by
 intro hp; have h:=ok41 a b hp; rw [as41 a b] at h; exact h
theorem kc41a (a:List ConfCand) (b:List ConfCand) {K_:Prop} (k_:K_):(True)∧(Imp (.l 4 Qc a) (.l 4 Qc a))∧(Imp (.l 4 Qc b) (.l 4 Qc b))∧K_:=⟨trivial,Imp.refl _,Imp.refl _,k_⟩
abbrev kh41a (a:List ConfCand) (b:List ConfCand):Hint true Tryz.prog:=.call 41 (S41 (decide (a=b)) a b) (oa41 a b) none
def F17 (a:ConfBox) (b:ConfBox):Bool :=
 bif (a.Edition != b.Edition) then false else (bif (!(decide (a.Lines=b.Lines))) then false else (bif (a.Trial != b.Trial) then false else (bif (!(decide (a.Back=b.Back))) then false else (bif (!(decide (a.Cands=b.Cands))) then false else true))))
def S17 (R:Bool) (a:ConfBox) (b:ConfBox):Spec:=⟨[.r (.g (Yr a)),.r (.g (Yr b))],.v (.bool R),True⟩
theorem ok17 (a:ConfBox) (b:ConfBox):(S17 (F17 a b) a b).ok Tryz.prog 17 :=
 Qi mixed (fn:=Tryz.f17) (ct:=.seq .no (.seq (.seq .no (.cond (.seq .no .no) .no)) (.seq (.seq (.reg [(4,kh9a a.Lines b.Lines)]) (.cond (.seq .no .no) .no)) (.seq (.seq .no (.cond (.seq .no .no) .no)) (.seq (.seq (.reg [(4,kh9a a.Back b.Back)]) (.cond (.seq .no .no) .no)) (.seq (.seq (.reg [(4,kh41a a.Cands b.Cands)]) (.cond (.seq .no .no) .no)) (.seq .no .no))))))) Tryz.func17 (fun (_:True)=>ifn a.Edition b.Edition (fun h1 _=>fiB false (F17 a b) (condT h1 rfl)) (fun h1 _=>kc9a a.Lines b.Lines (ifb (!(decide (a.Lines=b.Lines))) (fun h2=>have _:=of_decide_eq_false (Yv h2); fiB false (F17 a b) (condF h1 (condT h2 rfl))) (fun h2=>have _:=of_decide_eq_true (Ul h2); ifn a.Trial b.Trial (fun h3 _=>fiB false (F17 a b) (condF h1 (condF h2 (condT h3 rfl)))) (fun h3 _=>kc9a a.Back b.Back (ifb (!(decide (a.Back=b.Back))) (fun h4=>have _:=of_decide_eq_false (Yv h4); fiB false (F17 a b) (condF h1 (condF h2 (condF h3 (condT h4 rfl))))) (fun h4=>have _:=of_decide_eq_true (Ul h4); kc41a a.Cands b.Cands (ifb (!(decide (a.Cands=b.Cands))) (fun h5=>have _:=of_decide_eq_false (Yv h5); fiB false (F17 a b) (condF h1 (condF h2 (condF h3 (condF h4 (condT h5 rfl)))))) (fun h5=>have _:=of_decide_eq_true (Ul h5); fiB true (F17 a b) (condF h1 (condF h2 (condF h3 (condF h4 (condF h5 rfl)))))))))))))) (by kernel_rfl)
theorem as17 (a:ConfBox) (b:ConfBox):F17 a b=(decide (a=b)):=by
 cases a; cases b
 simp only [F17,ConfBox.mk.injEq,neI,neB,neS,Qau,Bool.decide_and,Bool.and_true]
theorem oa17 (a:ConfBox) (b:ConfBox):(S17 (decide (a=b)) a b).ok Tryz.prog 17:=by
 intro hp; have h:=ok17 a b hp; rw [as17 a b] at h; exact h
def F42 (a:ConfSlot) (b:ConfSlot):Bool :=
 bif (!(a.Whole==b.Whole)) then false else (bif (a.Edition != b.Edition) then false else (bif (!(a.Trial==b.Trial)) then false else (bif (!(decide (a.Lines=b.Lines))) then false else true)))
def S42 (R:Bool) (a:ConfSlot) (b:ConfSlot):Spec:=⟨[.r (.g (Qe a)),.r (.g (Qe b))],.v (.bool R),True⟩
theorem ok42 (a:ConfSlot) (b:ConfSlot):(S42 (F42 a b) a b).ok Tryz.prog 42 :=
 Qi mixed (fn:=Tryz.f42) (ct:=.seq .no (.seq (.seq .no (.cond (.seq .no .no) .no)) (.seq (.seq .no (.cond (.seq .no .no) .no)) (.seq (.seq .no (.cond (.seq .no .no) .no)) (.seq (.seq (.reg [(4,kh9a a.Lines b.Lines)]) (.cond (.seq .no .no) .no)) (.seq .no .no)))))) Tryz.func42 (fun (_:True)=>ifb (!(a.Whole==b.Whole)) (fun h1=>fiB false (F42 a b) (condT h1 rfl)) (fun h1=>ifn a.Edition b.Edition (fun h2 _=>fiB false (F42 a b) (condF h1 (condT h2 rfl))) (fun h2 _=>ifb (!(a.Trial==b.Trial)) (fun h3=>fiB false (F42 a b) (condF h1 (condF h2 (condT h3 rfl)))) (fun h3=>kc9a a.Lines b.Lines (ifb (!(decide (a.Lines=b.Lines))) (fun h4=>have _:=of_decide_eq_false (Yv h4); fiB false (F42 a b) (condF h1 (condF h2 (condF h3 (condT h4 rfl))))) (fun h4=>have _:=of_decide_eq_true (Ul h4); fiB true (F42 a b) (condF h1 (condF h2 (condF h3 (condF h4 rfl)))))))))) (by kernel_rfl)
theorem as42 (a:ConfSlot) (b:ConfSlot):F42 a b=(decide (a=b)):=by
 cases a; cases b
 simp only [F42,ConfSlot.mk.injEq,neI,neB,neS,Qau,Bool.decide_and,Bool.and_true]
theorem oa42 (a:ConfSlot) (b:ConfSlot):(S42 (decide (a=b)) a b).ok Tryz.prog 42:=by
 intro hp; have h:=ok42 a b hp; rw [as42 a b] at h; exact h
theorem kc42a (a:ConfSlot) (b:ConfSlot) {K_:Prop} (k_:K_):(True)∧(Imps (Qe a) (Qe a))∧(Imps (Qe b) (Qe b))∧K_:=⟨trivial,Imps.refl _,Imps.refl _,k_⟩
abbrev kh42a (a:ConfSlot) (b:ConfSlot):Hint true Tryz.prog:=.call 42 (S42 (decide (a=b)) a b) (oa42 a b) none
def Nw (a:List ConfSlot) (b:List ConfSlot):Int→Lp Int Bool:=fun i40 =>
 bif (decide (i40<(a.length:Int))) then (bif (!(decide ((a.getD i40.toNat default)=(b.getD i40.toNat default)))) then (.ret false) else (.next (i40+1))) else (.done i40)
def F18 (a:List ConfSlot) (b:List ConfSlot):Bool :=
 bif ((a.length:Int) != (b.length:Int)) then false else ((runL (Nw a b) (((a.length:Int)-0).toNat+1) 0).fin (fun r=>r) (fun i40=>true))
abbrev Qaw (a:List ConfSlot):Nat×Int:=((((a.length:Int)-0).toNat+1),0)
abbrev Qkl (a:List ConfSlot) (m39:Nat) (i40:Int):Prop:=Int.toNat ((a.length:Int)-i40)<m39∧(0:Int)≤i40
abbrev Qyg (a:List ConfSlot) (b:List ConfSlot):Lp Int Bool:=LpX (Nw a b) (Qaw a)
abbrev Qap (a:List ConfSlot) (b:List ConfSlot) (i:Nat×Int):Prop:=LpJ (Nw a b) (Qaw a) i (Qkl a i.1 i.2)
abbrev Ubd (a:List ConfSlot) (b:List ConfSlot) (i:Nat×Int) (m39:Nat) (i40:Int):Prop:=LpH (Nw a b) (Qaw a) i m39 i40 (Qkl a (m39+1) i40)
abbrev Qvz (a:List ConfSlot) (b:List ConfSlot) (i40:Int) (i40_:Int) (K39:Prop):Prop:=((.int .i64 i40:Value)=.int .i64 i40_)∧(Im (.l 4 Qe a))∧(Im (.l 4 Qe b))∧K39
theorem un18_0 (a:List ConfSlot) (b:List ConfSlot) (i:Nat×Int) (h:Qap a b i):Ubd a b i (i.1-1) i.2:=⟨hd1 h.1 h.2.1,hd3 h.2.1,hd2 h.2.1,h.2.2⟩
theorem bk18_0 (a:List ConfSlot) (b:List ConfSlot) (i:Nat×Int) (m39:Nat) (i40:Int) (hl:m39<i.1) (e:runL (Nw a b) m39 i40=Qyg a b) (h:Qkl a m39 i40):∃ j:Nat×Int,Qvz a b i40 j.2 (Qap a b j∧j.1<i.1):=⟨(m39,i40),rfl,Imp.refl _,Imp.refl _,⟨e,h⟩,hl⟩
theorem en18_0 (a:List ConfSlot) (b:List ConfSlot) (h:(0:Int)≤0):Qvz a b 0 0 (Qap a b (Qaw a)):=⟨rfl,Imp.refl _,Imp.refl _,rfl,Nat.lt_succ_self _,h⟩
def S18 (R:Bool) (a:List ConfSlot) (b:List ConfSlot):Spec:=⟨[.r (.c (.l 4 Qe a)),.r (.c (.l 4 Qe b))],.v (.bool R),True⟩
theorem ok18 (a:List ConfSlot) (b:List ConfSlot):(S18 (F18 a b) a b).ok Tryz.prog 18 :=
 Qi mixed (fn:=Tryz.f18) (ct:=.seqk [(0,0),(1,0)] .no (.seq (.seq .no (.cond (.seq .no .no) .no)) (.seq (.seqk [(0,0),(1,0)] .no (.blk (.loop (ι:=Nat×Int) (fun i=>(fun (i40:Int)=>(⟨[(0,some (.h 0 0)),(1,some (.h 1 0)),(5,some (.v (vI i40)))],[(0,some (.shr none (.l 4 Qe a))),(1,some (.shr none (.l 4 Qe b)))],2⟩:St)) i.2) (Qap a b) (fun i=>i.1) (Qaw a) (fun i=>(fun (i40:Int)=>(.seq (.seq .no (.cond .no .no)) (.seq (.blk (.seq (.reg [(8,kh42a (a.getD i40.toNat default) (b.getD i40.toNat default))]) (.cond (.seq .no .no) .no))) (.reg [(1,.bnd)])))) i.2)))) (.seq .no .no)))) Tryz.func18 (fun (_:True)=>kn a fun _=>kn b fun _=>ifn (a.length:Int) (b.length:Int) (fun h1 _=>fiB false (F18 a b) (condT h1 rfl)) (fun h1 _=>kn a fun _=>kn b fun _=>ai (en18_0 a b (by omega)) (fun (i0:Nat×Int) (hi0:Qap a b i0)=>(fun (m0:Nat) (i40:Int) (hh0:Ubd a b i0 m0 i40)=>have hI0:=hh0.1; have hl0:=hh0.2.1; have _:=hh0.2.2.1; have _:=hh0.2.2.2; ifd (i40<(a.length:Int)) (fun h3 _=>ai (by omega:ib i40 a) (ai (by omega:ib i40 b) (kc42a (a.getD i40.toNat default) (b.getD i40.toNat default) (ifb (!(decide ((a.getD i40.toNat default)=(b.getD i40.toNat default)))) (fun h4=>have _:=of_decide_eq_false (Yv h4); fiB false (F18 a b) (condF h1 (finR (Qp hI0 (condT h3 (condT h4 rfl))) rfl))) (fun h4=>have _:=of_decide_eq_true (Ul h4); ai (iok (i40+1) (by omega)) (bk18_0 a b i0 m0 (i40+1) hl0 (Qg hI0 (condT h3 (condF h4 rfl))) (by refine ⟨?_,?_⟩ <;> omega))))))) (fun h3 _=>have hD0_5:Qyg a b=Lp.done i40:=Qj hI0 (condF h3 rfl); fiB true (F18 a b) (condF h1 (finD hD0_5 rfl)))) (i0.1-1) i0.2 (un18_0 a b i0 hi0)))) (by kernel_rfl)
theorem as18 (a:List ConfSlot) (b:List ConfSlot):F18 a b=(decide (a=b)):=by
 exact Qgb (fun x y=>decide (x=y)) (fun _ _=>rfl) a b (Nw a b) (fun i=>rfl)
theorem oa18 (a:List ConfSlot) (b:List ConfSlot):(S18 (decide (a=b)) a b).ok Tryz.prog 18:=by
 intro hp; have h:=ok18 a b hp; rw [as18 a b] at h; exact h
def F19 (a:ConfJob) (b:ConfJob):Bool :=
 bif (a.Kind != b.Kind) then false else (bif (a.Step != b.Step) then false else (bif (a.Edition != b.Edition) then false else (bif (a.Ticks != b.Ticks) then false else (bif (!(decide (a.Lines=b.Lines))) then false else true))))
def S19 (R:Bool) (a:ConfJob) (b:ConfJob):Spec:=⟨[.r (.g (Yt a)),.r (.g (Yt b))],.v (.bool R),True⟩
theorem ok19 (a:ConfJob) (b:ConfJob):(S19 (F19 a b) a b).ok Tryz.prog 19 :=
 Qi mixed (fn:=Tryz.f19) (ct:=.seq .no (.seq (.seq .no (.cond (.seq .no .no) .no)) (.seq (.seq .no (.cond (.seq .no .no) .no)) (.seq (.seq .no (.cond (.seq .no .no) .no)) (.seq (.seq .no (.cond (.seq .no .no) .no)) (.seq (.seq (.reg [(4,kh9a a.Lines b.Lines)]) (.cond (.seq .no .no) .no)) (.seq .no .no))))))) Tryz.func19 (fun (_:True)=>ifn a.Kind b.Kind (fun h1 _=>fiB false (F19 a b) (condT h1 rfl)) (fun h1 _=>ifn a.Step b.Step (fun h2 _=>fiB false (F19 a b) (condF h1 (condT h2 rfl))) (fun h2 _=>ifn a.Edition b.Edition (fun h3 _=>fiB false (F19 a b) (condF h1 (condF h2 (condT h3 rfl)))) (fun h3 _=>ifn a.Ticks b.Ticks (fun h4 _=>fiB false (F19 a b) (condF h1 (condF h2 (condF h3 (condT h4 rfl))))) (fun h4 _=>kc9a a.Lines b.Lines (ifb (!(decide (a.Lines=b.Lines))) (fun h5=>have _:=of_decide_eq_false (Yv h5); fiB false (F19 a b) (condF h1 (condF h2 (condF h3 (condF h4 (condT h5 rfl)))))) (fun h5=>have _:=of_decide_eq_true (Ul h5); fiB true (F19 a b) (condF h1 (condF h2 (condF h3 (condF h4 (condF h5 rfl)))))))))))) (by kernel_rfl)
theorem as19 (a:ConfJob) (b:ConfJob):F19 a b=(decide (a=b)):=by
 cases a; cases b
 simp only [F19,ConfJob.mk.injEq,neI,neB,neS,Qau,Bool.decide_and,Bool.and_true]
theorem oa19 (a:ConfJob) (b:ConfJob):(S19 (decide (a=b)) a b).ok Tryz.prog 19:=by
 intro hp; have h:=ok19 a b hp; rw [as19 a b] at h; exact h
theorem kc17a (a:ConfBox) (b:ConfBox) {K_:Prop} (k_:K_):(True)∧(Imps (Yr a) (Yr a))∧(Imps (Yr b) (Yr b))∧K_:=⟨trivial,Imps.refl _,Imps.refl _,k_⟩
abbrev kh17a (a:ConfBox) (b:ConfBox):Hint true Tryz.prog:=.call 17 (S17 (decide (a=b)) a b) (oa17 a b) none
theorem kc18a (a:List ConfSlot) (b:List ConfSlot) {K_:Prop} (k_:K_):(True)∧(Imp (.l 4 Qe a) (.l 4 Qe a))∧(Imp (.l 4 Qe b) (.l 4 Qe b))∧K_:=⟨trivial,Imp.refl _,Imp.refl _,k_⟩
abbrev kh18a (a:List ConfSlot) (b:List ConfSlot):Hint true Tryz.prog:=.call 18 (S18 (decide (a=b)) a b) (oa18 a b) none
theorem kc19a (a:ConfJob) (b:ConfJob) {K_:Prop} (k_:K_):(True)∧(Imps (Yt a) (Yt a))∧(Imps (Yt b) (Yt b))∧K_:=⟨trivial,Imps.refl _,Imps.refl _,k_⟩
abbrev kh19a (a:ConfJob) (b:ConfJob):Hint true Tryz.prog:=.call 19 (S19 (decide (a=b)) a b) (oa19 a b) none
def F8 (a:ConfStore) (b:ConfStore):Bool :=
 bif (!(a.Up==b.Up)) then false else (bif (!(decide (a.Box=b.Box))) then false else (bif (!(decide (a.Slots=b.Slots))) then false else (bif (a.Live != b.Live) then false else (bif (a.Last != b.Last) then false else (bif (!(decide (a.Job=b.Job))) then false else true)))))
def S8 (R:Bool) (a:ConfStore) (b:ConfStore):Spec:=⟨[.r (.g (Uf a)),.r (.g (Uf b))],.v (.bool R),True⟩
theorem ok8 (a:ConfStore) (b:ConfStore):(S8 (F8 a b) a b).ok Tryz.prog 8 :=
 Qi mixed (fn:=Tryz.f8) (ct:=.seq .no (.seq (.seq .no (.cond (.seq .no .no) .no)) (.seq (.seq (.reg [(4,kh17a a.Box b.Box)]) (.cond (.seq .no .no) .no)) (.seq (.seq (.reg [(4,kh18a a.Slots b.Slots)]) (.cond (.seq .no .no) .no)) (.seq (.seq .no (.cond (.seq .no .no) .no)) (.seq (.seq .no (.cond (.seq .no .no) .no)) (.seq (.seq (.reg [(4,kh19a a.Job b.Job)]) (.cond (.seq .no .no) .no)) (.seq .no .no)))))))) Tryz.func8 (fun (_:True)=>ifb (!(a.Up==b.Up)) (fun h1=>fiB false (F8 a b) (condT h1 rfl)) (fun h1=>kc17a a.Box b.Box (ifb (!(decide (a.Box=b.Box))) (fun h2=>have _:=of_decide_eq_false (Yv h2); fiB false (F8 a b) (condF h1 (condT h2 rfl))) (fun h2=>have _:=of_decide_eq_true (Ul h2); kc18a a.Slots b.Slots (ifb (!(decide (a.Slots=b.Slots))) (fun h3=>have _:=of_decide_eq_false (Yv h3); fiB false (F8 a b) (condF h1 (condF h2 (condT h3 rfl)))) (fun h3=>have _:=of_decide_eq_true (Ul h3); ifn a.Live b.Live (fun h4 _=>fiB false (F8 a b) (condF h1 (condF h2 (condF h3 (condT h4 rfl))))) (fun h4 _=>ifn a.Last b.Last (fun h5 _=>fiB false (F8 a b) (condF h1 (condF h2 (condF h3 (condF h4 (condT h5 rfl)))))) (fun h5 _=>kc19a a.Job b.Job (ifb (!(decide (a.Job=b.Job))) (fun h6=>have _:=of_decide_eq_false (Yv h6); fiB false (F8 a b) (condF h1 (condF h2 (condF h3 (condF h4 (condF h5 (condT h6 rfl))))))) (fun h6=>have _:=of_decide_eq_true (Ul h6); fiB true (F8 a b) (condF h1 (condF h2 (condF h3 (condF h4 (condF h5 (condF h6 rfl)))))))))))))))) (by kernel_rfl)
theorem as8 (a:ConfStore) (b:ConfStore):F8 a b=(decide (a=b)):=by
 cases a; cases b
 simp only [F8,ConfStore.mk.injEq,neI,neB,neS,Qau,Bool.decide_and,Bool.and_true]
theorem oa8 (a:ConfStore) (b:ConfStore):(S8 (decide (a=b)) a b).ok Tryz.prog 8:=by
 intro hp; have h:=ok8 a b hp; rw [as8 a b] at h; exact h
theorem kc4 (a:List ByteArray) (left':Int) {K_:Prop} (p0_:0≤left') (p1_:left'≤1048576) (p2_:∀ k:Nat,(a.getD k default).size≤9223372036854775807) (k_:(0≤left'→left'≤1048576→0≤(F4 a left')→(F4 a left')≤left')→(0≤left'→left'≤1048576→0≤(F4 a left')→a.length≤1000000000)→(0≤left'→left'≤1048576→0≤(F4 a left')→∀ k:Nat,(a.getD k default).size≤1000000000)→K_):(0≤left'∧left'≤1048576∧(∀ k:Nat,(a.getD k default).size≤9223372036854775807))∧(Imp (.l 1 eStr a) (.l 1 eStr a))∧(Imp (.v (vI left')) (.v (vI left')))∧K_:=⟨⟨p0_,p1_,p2_⟩,Imp.refl _,Imp.refl _,k_ (g4_0 a left') (g4_1 a left') (g4_2 a left')⟩
theorem kc6a (a:List ByteArray) {K_:Prop} (p0_:a.length≤1000000000) (p1_:∀ k:Nat,(a.getD k default).size≤1000000000) (k_:K_):(a.length≤1000000000∧(∀ k:Nat,(a.getD k default).size≤1000000000))∧(Imp (.l 1 eStr a) (.l 1 eStr a))∧K_:=⟨⟨p0_,p1_⟩,Imp.refl _,k_⟩
theorem kc5 (lines:List ByteArray) {K_:Prop} (p0_:lines.length≤1048576) (p1_:∀ k:Nat,(lines.getD k default).size≤1048576) (k_:K_):(lines.length≤1048576∧(∀ k:Nat,(lines.getD k default).size≤1048576))∧(Imp (.l 1 eStr lines) (.l 1 eStr lines))∧K_:=⟨⟨p0_,p1_⟩,Imp.refl _,k_⟩
theorem kc7 (lines:List ByteArray) {K_:Prop} (p0_:lines.length≤1048576) (p1_:∀ k:Nat,(lines.getD k default).size≤1048576) (k_:K_):(lines.length≤1048576∧(∀ k:Nat,(lines.getD k default).size≤1048576))∧(Imp (.l 1 eStr lines) (.l 1 eStr lines))∧K_:=⟨⟨p0_,p1_⟩,Imp.refl _,k_⟩
abbrev kh4f (a:List ByteArray) (left':Int):Hint false Tryz.prog:=.call 4 (S4 a left') ((ok4 a left').to false) none
abbrev Qrh (a:List ByteArray):Hint false Tryz.prog:=.call 6 (S6 a a) ((oa6 a).to false) none
abbrev kh5f (lines:List ByteArray):Hint false Tryz.prog:=.call 5 (S5 lines) ((ok5 lines).to false) none
abbrev kh7 (lines:List ByteArray):Hint false Tryz.prog:=.call 7 (S7 lines) (ok7 lines) none
theorem kc8a (a:ConfStore) (b:ConfStore) {K_:Prop} (k_:K_):(True)∧(Imps (Uf a) (Uf a))∧(Imps (Uf b) (Uf b))∧K_:=⟨trivial,Imps.refl _,Imps.refl _,k_⟩
abbrev Qyn (a:ConfStore) (b:ConfStore):Hint false Tryz.prog:=.call 8 (S8 (decide (a=b)) a b) ((oa8 a b).to false) none
abbrev kh9af (a:List ByteArray) (b:List ByteArray):Hint false Tryz.prog:=.call 9 (S9 (decide (a=b)) a b) ((oa9 a b).to false) none
abbrev kh10f (a:List ByteArray) (k:Int):Hint false Tryz.prog:=.call 10 (S10 a k) ((ok10 a k).to false) none
theorem kg8a {K_:Prop} (c_ b_:Bool) (a:ConfStore) (b:ConfStore) (k_:K_):(c_=b_→True)∧(c_=b_→Imps (Uf a) (Uf a))∧(c_=b_→Imps (Uf b) (Uf b))∧K_:=⟨fun _=>trivial,fun _=>Imps.refl _,fun _=>Imps.refl _,k_⟩
theorem kc11l (a:ConfStore) (k:Int) {K_:Prop} (p0_:0≤k) (p1_:(a.Box.Cands:List ConfCand).length=0) (p2_:∀ q:Nat,(a.Slots.getD q default).Lines.length≤1000) (p3_:k+(a.Box.Lines.length:Int)+(a.Box.Back.length:Int)+1003*(a.Slots.length:Int)+(a.Job.Lines.length:Int)≤1000000000) (q0_:(a.Box.Cands:List ConfCand).length=0) (q1_:∀ q:Nat,(a.Slots.getD q default).Lines.length≤1000) (q2_:∀ q:Nat,(a.Slots.getD q default).Lines.length≤1000) (k_:((F11 a k).2.Box.Lines.length=a.Box.Lines.length∧(F11 a k).2.Box.Back.length=a.Box.Back.length∧((F11 a k).2.Box.Cands:List ConfCand).length=0∧(F11 a k).2.Slots.length=a.Slots.length∧(F11 a k).2.Job.Lines.length=a.Job.Lines.length)→(∀ q:Nat,((F11 a k).2.Slots.getD q default).Lines.length≤1000)→K_):(0≤k∧(a.Box.Cands:List ConfCand).length=0∧(∀ q:Nat,(a.Slots.getD q default).Lines.length≤1000)∧k+(a.Box.Lines.length:Int)+(a.Box.Back.length:Int)+1003*(a.Slots.length:Int)+(a.Job.Lines.length:Int)≤1000000000)∧(Imps (Uf a) (Uf a))∧(Imp (.v (vI k)) (.v (vI k)))∧K_:=⟨⟨p0_,p1_,p2_,p3_⟩,Imps.refl _,Imp.refl _,k_ (storeL a k q0_ q1_) (storeZ a k q2_)⟩
abbrev kh11lf (a:ConfStore) (k:Int):Hint false Tryz.prog:=.call 11 (S11 a k) ((ok11 a k).to false) none
def F3 (aLines:List ByteArray):Bool :=
 bif (decide ((F4 aLines 1048576)<0)) then true else (bif (bif (!(decide ((F7 aLines).1=(F5 aLines).1))) then true else (!((F7 aLines).2==(F5 aLines).2))) then false else (bif (!(decide (aLines=aLines))) then false else (bif (bif (bif decide ((F10 aLines 1).1<0) then true else (!(decide ((F7 aLines).1=(F5 aLines).1)))) then true else (!((F7 aLines).2==(F5 aLines).2))) then false else (bif (decide ((F12 ⟨(F7 aLines).1.Up,(⟨(F7 aLines).1.Box.Edition,(F11 (F7 aLines).1 1).2.Box.Lines,(F7 aLines).1.Box.Trial,(F11 (F7 aLines).1 1).2.Box.Back,(F11 (F7 aLines).1 1).2.Box.Cands⟩:ConfBox),(F11 (F7 aLines).1 1).2.Slots,(F7 aLines).1.Live,(F7 aLines).1.Last,(⟨(F7 aLines).1.Job.Kind,(F7 aLines).1.Job.Step,(F7 aLines).1.Job.Edition,(F7 aLines).1.Job.Ticks,(F11 (F7 aLines).1 1).2.Job.Lines⟩:ConfJob)⟩ 1)<0)) then false else (bif ((F12 ⟨(F7 aLines).1.Up,(⟨(F7 aLines).1.Box.Edition,(F11 (F7 aLines).1 1).2.Box.Lines,(F7 aLines).1.Box.Trial,(F11 (F7 aLines).1 1).2.Box.Back,(F11 (F7 aLines).1 1).2.Box.Cands⟩:ConfBox),(F11 (F7 aLines).1 1).2.Slots,(F7 aLines).1.Live,(F7 aLines).1.Last,(⟨(F7 aLines).1.Job.Kind,(F7 aLines).1.Job.Step,(F7 aLines).1.Job.Edition,(F7 aLines).1.Job.Ticks,(F11 (F7 aLines).1 1).2.Job.Lines⟩:ConfJob)⟩ 1) != (F11 (F7 aLines).1 1).1) then false else (bif (bif (!(decide ((F7 aLines).1=(F5 aLines).1))) then true else (!((F7 aLines).2==(F5 aLines).2))) then false else (bif (decide ((F12 ⟨(F7 aLines).1.Up,(⟨(F7 aLines).1.Box.Edition,(F11 (F7 aLines).1 1).2.Box.Lines,(F7 aLines).1.Box.Trial,(F11 (F7 aLines).1 1).2.Box.Back,(F11 (F7 aLines).1 1).2.Box.Cands⟩:ConfBox),(F11 (F7 aLines).1 1).2.Slots,(F7 aLines).1.Live,(F7 aLines).1.Last,(⟨(F7 aLines).1.Job.Kind,(F7 aLines).1.Job.Step,(F7 aLines).1.Job.Edition,(F7 aLines).1.Job.Ticks,(F11 (F7 aLines).1 1).2.Job.Lines⟩:ConfJob)⟩ 1)<0)) then false else (bif ((F12 ⟨(F7 aLines).1.Up,(⟨(F7 aLines).1.Box.Edition,(F11 (F7 aLines).1 1).2.Box.Lines,(F7 aLines).1.Box.Trial,(F11 (F7 aLines).1 1).2.Box.Back,(F11 (F7 aLines).1 1).2.Box.Cands⟩:ConfBox),(F11 (F7 aLines).1 1).2.Slots,(F7 aLines).1.Live,(F7 aLines).1.Last,(⟨(F7 aLines).1.Job.Kind,(F7 aLines).1.Job.Step,(F7 aLines).1.Job.Edition,(F7 aLines).1.Job.Ticks,(F11 (F7 aLines).1 1).2.Job.Lines⟩:ConfJob)⟩ 1) != (F11 (F7 aLines).1 1).1) then false else true))))))))
def S3 (aLines:List ByteArray):Spec:=⟨[.r (.c (.l 1 eStr aLines))],.v (.bool (F3 aLines)),(∀ k:Nat,(aLines.getD k default).size≤9223372036854775807)⟩
abbrev q3_1 (aLines:List ByteArray):=(⟨(F7 aLines).1.Up,(⟨(F7 aLines).1.Box.Edition,(F11 (F7 aLines).1 1).2.Box.Lines,(F7 aLines).1.Box.Trial,(F11 (F7 aLines).1 1).2.Box.Back,(F11 (F7 aLines).1 1).2.Box.Cands⟩:ConfBox),(F11 (F7 aLines).1 1).2.Slots,(F7 aLines).1.Live,(F7 aLines).1.Last,(⟨(F7 aLines).1.Job.Kind,(F7 aLines).1.Job.Step,(F7 aLines).1.Job.Edition,(F7 aLines).1.Job.Ticks,(F11 (F7 aLines).1 1).2.Job.Lines⟩:ConfJob)⟩:ConfStore)
theorem ok3 (aLines:List ByteArray):(S3 aLines).ok Tryz.prog 3 false :=
 Qi mixed (fn:=Tryz.f3) (ct:=.seqk [(0,0)] .no (.seq .no (.seq (.reg [(2,kh4f aLines 1048576)]) (.seq (.seq .no (.cond (.seq .no .no) .no)) (.seq (.reg [(1,Qrh aLines),(2,kh5f aLines)]) (.seq (.reg [(1,Qrh aLines)]) (.seq (.reg [(1,kh7 aLines)]) (.seq (.seq (.reg [(2,Qyn (F7 aLines).1 (F5 aLines).1)]) (.cond (.seq .no .no) .no)) (.seq (.seq (.reg [(2,Qrh aLines),(3,kh9af aLines aLines)]) (.cond (.seq .no .no) .no)) (.seq .no (.seq (.reg [(2,kh10f aLines 1)]) (.seq (.seq (.reg [(5,Qyn (F7 aLines).1 (F5 aLines).1)]) (.cond (.seq .no .no) .no)) (.seq .no (.seq (.reg [(2,kh11lf (F7 aLines).1 1)]) (.seq .no (.seq (.reg [(2,.call 12 (S12 (q3_1 aLines) 1) ((ok12 (q3_1 aLines) 1).to false) none)]) (.seq (.seq .no (.cond (.seq .no .no) .no)) (.seq (.seq .no (.cond (.seq .no .no) .no)) (.seq (.reg [(1,Qrh aLines),(2,kh7 aLines)]) (.seq (.seq (.reg [(2,Qyn (F7 aLines).1 (F5 aLines).1)]) (.cond (.seq .no .no) .no)) (.seq .no (.seq (.reg [(2,.call 12 (S12 (q3_1 aLines) 1) ((ok12 (q3_1 aLines) 1).to false) none)]) (.seq (.seq .no (.cond (.seq .no .no) .no)) (.seq (.seq .no (.cond (.seq .no .no) .no)) (.seq .no .no))))))))))))))))))))))))) Tryz.func3 (fun (hpre0:∀ k:Nat,(aLines.getD k default).size≤9223372036854775807)=>kn aLines fun _=>kc4 aLines 1048576 (by omega) (by omega) (by first | assumption | exact hpre0 _ | exact fun k _=>hpre0 k | (intros; exact trivial) | (intros; exact Nat.zero_le _)) (fun gv1 gv2 gv3=>ifd ((F4 aLines 1048576)<0) (fun h4 _=>fiB true (F3 aLines) (condT h4 rfl)) (fun h4 _=>kc6a aLines (by omega) (by first | assumption | exact hpre0 _ | exact fun k _=>hpre0 k | exact gv3 (by omega) (by omega) (by omega) | (intros; exact trivial) | (intros; exact Nat.zero_le _)) (kc5 aLines (by first | omega | exact Xj aLines (l:=1048576) (by omega) (by omega) | exact Gq aLines (l:=1048576) (by omega) (by omega)) (by first | omega | exact Xj aLines (l:=1048576) (by omega) (by omega) | exact Gq aLines (l:=1048576) (by omega) (by omega)) (kc6a aLines (by omega) (by first | assumption | exact hpre0 _ | exact fun k _=>hpre0 k | exact gv3 (by omega) (by omega) (by omega) | (intros; exact trivial) | (intros; exact Nat.zero_le _)) (kc7 aLines (by first | omega | exact Xj aLines (l:=1048576) (by omega) (by omega) | exact Gq aLines (l:=1048576) (by omega) (by omega)) (by first | omega | exact Xj aLines (l:=1048576) (by omega) (by omega) | exact Gq aLines (l:=1048576) (by omega) (by omega)) (have gv5:((F7 aLines).1.Box.Cands:List ConfCand).length=0∧(F7 aLines).1.Box.Lines.length≤16∧(F7 aLines).1.Box.Back.length=0∧(F7 aLines).1.Slots.length≤2∧(F7 aLines).1.Job.Lines.length=0:=(by exact (Ew _).1); have gv6:∀ q:Nat,((F7 aLines).1.Slots.getD q default).Lines.length≤1000:=(by exact (Ew _).2); kc8a (F7 aLines).1 (F5 aLines).1 (ifb (bif (!(decide ((F7 aLines).1=(F5 aLines).1))) then true else (!((F7 aLines).2==(F5 aLines).2))) (fun h7=>fiB false (F3 aLines) (condF h4 (condT h7 rfl))) (fun h7=>have _:=of_decide_eq_true (Ul (orF1 h7)); have _:=(orF2 h7); kc6a aLines (by omega) (by first | assumption | exact hpre0 _ | exact fun k _=>hpre0 k | exact gv3 (by omega) (by omega) (by omega) | exact gv6 | (intros; exact trivial) | (intros; exact Nat.zero_le _)) (kc9a aLines aLines (ifb (!(decide (aLines=aLines))) (fun h8=>have _:=of_decide_eq_false (Yv h8); fiB false (F3 aLines) (condF h4 (condF h7 (condT h8 rfl)))) (fun h8=>have _:=of_decide_eq_true (Ul h8); kc10 aLines 1 (by first | omega | (have ha:=Xj aLines (l:=1048576) (by omega) (by omega); omega)) (by first | omega | (have ha:=Xj aLines (l:=1048576) (by omega) (by omega); omega)) (fun gv9 gv10=>kg8a (decide ((F10 aLines 1).1<0)) false (F7 aLines).1 (F5 aLines).1 (ifb (bif (bif decide ((F10 aLines 1).1<0) then true else (!(decide ((F7 aLines).1=(F5 aLines).1)))) then true else (!((F7 aLines).2==(F5 aLines).2))) (fun h12=>fiB false (F3 aLines) (condF h4 (condF h7 (condF h8 (condT h12 rfl))))) (fun h12=>have _:=of_decide_eq_false (orF1 (orF1 h12)); have _:=of_decide_eq_true (Ul (orF2 (orF1 h12))); have _:=(orF2 h12); kc11l (F7 aLines).1 1 (by omega) (by omega) (by first | assumption | exact hpre0 _ | exact fun k _=>hpre0 k | exact gv3 (by omega) (by omega) (by omega) | exact gv6 | (intros; exact trivial) | (intros; exact Nat.zero_le _)) (by omega) (by omega) (by first | assumption | exact hpre0 _ | exact fun k _=>hpre0 k | exact gv3 (by omega) (by omega) (by omega) | exact gv6 | (intros; exact trivial) | (intros; exact Nat.zero_le _)) (by first | assumption | exact hpre0 _ | exact fun k _=>hpre0 k | exact gv3 (by omega) (by omega) (by omega) | exact gv6 | (intros; exact trivial) | (intros; exact Nat.zero_le _)) (fun gv13 gv14=>ai (ai (by omega:0≤(1:Int)) (ai (by omega:((F11 (F7 aLines).1 1).2.Box.Cands:List ConfCand).length=0) (ai (by first | assumption | exact hpre0 _ | exact fun k _=>hpre0 k | exact gv3 (by omega) (by omega) (by omega) | exact gv6 | exact gv14 | (intros; exact trivial) | (intros; exact Nat.zero_le _):∀ q:Nat,((F11 (F7 aLines).1 1).2.Slots.getD q default).Lines.length≤1000) (by omega:(1:Int)+((F11 (F7 aLines).1 1).2.Box.Lines.length:Int)+((F11 (F7 aLines).1 1).2.Box.Back.length:Int)+1003*((F11 (F7 aLines).1 1).2.Slots.length:Int)+((F11 (F7 aLines).1 1).2.Job.Lines.length:Int)≤1000000000)))) (ai (Imps.refl (Uf (q3_1 aLines))) (ai (Imp.refl (.v (vI 1))) (ifd ((F12 (q3_1 aLines) 1)<0) (fun h15 _=>fiB false (F3 aLines) (condF h4 (condF h7 (condF h8 (condF h12 (condT h15 rfl)))))) (fun h15 _=>ifn (F12 (q3_1 aLines) 1) (F11 (F7 aLines).1 1).1 (fun h16 _=>fiB false (F3 aLines) (condF h4 (condF h7 (condF h8 (condF h12 (condF h15 (condT h16 rfl))))))) (fun h16 _=>kc6a aLines (by omega) (by first | assumption | exact hpre0 _ | exact fun k _=>hpre0 k | exact gv3 (by omega) (by omega) (by omega) | exact gv6 | exact gv14 | (intros; exact trivial) | (intros; exact Nat.zero_le _)) (kc7 aLines (by first | omega | exact Xj aLines (l:=1048576) (by omega) (by omega) | exact Gq aLines (l:=1048576) (by omega) (by omega)) (by first | omega | exact Xj aLines (l:=1048576) (by omega) (by omega) | exact Gq aLines (l:=1048576) (by omega) (by omega)) (have gv17:((F7 aLines).1.Box.Cands:List ConfCand).length=0∧(F7 aLines).1.Box.Lines.length≤16∧(F7 aLines).1.Box.Back.length=0∧(F7 aLines).1.Slots.length≤2∧(F7 aLines).1.Job.Lines.length=0:=(by exact (Ew _).1); have gv18:∀ q:Nat,((F7 aLines).1.Slots.getD q default).Lines.length≤1000:=(by exact (Ew _).2); kc8a (F7 aLines).1 (F5 aLines).1 (ifb (bif (!(decide ((F7 aLines).1=(F5 aLines).1))) then true else (!((F7 aLines).2==(F5 aLines).2))) (fun h19=>fiB false (F3 aLines) (condF h4 (condF h7 (condF h8 (condF h12 (condF h15 (condF h16 (condT h19 rfl)))))))) (fun h19=>have _:=of_decide_eq_true (Ul (orF1 h19)); have _:=(orF2 h19); ai (ai (by omega:0≤(1:Int)) (ai (by omega:((F11 (F7 aLines).1 1).2.Box.Cands:List ConfCand).length=0) (ai (by first | assumption | exact hpre0 _ | exact fun k _=>hpre0 k | exact gv3 (by omega) (by omega) (by omega) | exact gv6 | exact gv14 | exact gv18 | (intros; exact trivial) | (intros; exact Nat.zero_le _):∀ q:Nat,((F11 (F7 aLines).1 1).2.Slots.getD q default).Lines.length≤1000) (by omega:(1:Int)+((F11 (F7 aLines).1 1).2.Box.Lines.length:Int)+((F11 (F7 aLines).1 1).2.Box.Back.length:Int)+1003*((F11 (F7 aLines).1 1).2.Slots.length:Int)+((F11 (F7 aLines).1 1).2.Job.Lines.length:Int)≤1000000000)))) (ai (Imps.refl (Uf (q3_1 aLines))) (ai (Imp.refl (.v (vI 1))) (ifd ((F12 (q3_1 aLines) 1)<0) (fun h20 _=>fiB false (F3 aLines) (condF h4 (condF h7 (condF h8 (condF h12 (condF h15 (condF h16 (condF h19 (condT h20 rfl))))))))) (fun h20 _=>ifn (F12 (q3_1 aLines) 1) (F11 (F7 aLines).1 1).1 (fun h21 _=>fiB false (F3 aLines) (condF h4 (condF h7 (condF h8 (condF h12 (condF h15 (condF h16 (condF h19 (condF h20 (condT h21 rfl)))))))))) (fun h21 _=>fiB true (F3 aLines) (condF h4 (condF h7 (condF h8 (condF h12 (condF h15 (condF h16 (condF h19 (condF h20 (condF h21 rfl))))))))))))))))))))))))))))))))))))))) (by kernel_rfl)
theorem Udb (lines:List ByteArray):F3 lines=true:=by
 unfold F3
 cases h1:decide (F4 lines 1048576<0) with
 | true=>rfl
 | false =>
 obtain ⟨⟨b1,b2,b3,b4,b5⟩,b6⟩:=Ew lines
 obtain ⟨m1,m2⟩:=Uej (F7 lines).1 b1 (by omega) (by omega) (by omega) (by omega) b6
 rw [cond_false,← Qsl]
 generalize F7 lines=p at m1 m2
 have e:(⟨p.1.Up,(⟨p.1.Box.Edition,(F11 p.1 1).2.Box.Lines,p.1.Box.Trial,(F11 p.1 1).2.Box.Back,(F11 p.1 1).2.Box.Cands⟩:ConfBox),(F11 p.1 1).2.Slots,p.1.Live,p.1.Last,(⟨p.1.Job.Kind,p.1.Job.Step,p.1.Job.Edition,p.1.Job.Ticks,(F11 p.1 1).2.Job.Lines⟩:ConfJob)⟩:ConfStore)=(F11 p.1 1).2:=rfl
 simp only [e,m1,Ys,decide_eq_false (show ¬ 1+(lines.length:Int)<0 by omega),decide_eq_false (show ¬ (F11 p.1 1).1<0 by omega)]
 simp
end Go.Proofs.YtbaholefcgacpabGreatDoor
namespace Go.Proofs.YtbaholefcgacpabGreatDoor
open Go Go.RowKit Go.ChangeShapes Go.WideShapes Go.ChangeAt
set_option maxRecDepth 100000
set_option linter.unusedVariables false
theorem op_9:OpD Tryz.prog 9 eStr:=OpD.str Tryz.underlying9
theorem op_22:OpD Tryz.prog 22 (fun xs:List ByteArray=>[.l 1 eStr xs]):=OpD.slice 1 Tryz.underlying22 op_9 (fun _=>rfl) (by kernel_rfl) (by decide)
def Qsy (s:ByteArray):List Dat:=[.x (BX s 9223372036854775807)]
theorem Ufd:OpD Tryz.prog 9 Qsy:=fun H e W f cs y h=>by
 obtain ⟨s,rfl,_,hs⟩:=DataW.trod_string Tryz.underlying9 h
 exact ⟨s,_,_,rfl,⟨rfl,hs⟩,rfl⟩
theorem Ueg {S:Nat→Prop} {W:World} {xs:List ByteArray} {v:Value} (h:RdV S W (.l 1 Qsy xs) v):RdV S W (.l 1 eStr xs) v∧∀ k:Nat,(xs.getD k default).size≤9223372036854775807:=by
 obtain ⟨a,c,e,h1,h2,h3⟩:=h
 refine ⟨⟨a,c,e,h1,h2,fun i x hx=>?_⟩,fun k=>?_⟩
 ·obtain ⟨k1,k2,cs,k3,k4,k5⟩:=h3 i x hx
  obtain ⟨u,us,rfl,⟨k6,k7⟩,k8⟩:=k5
  exact ⟨k1,k2,_,k3,k4,u,us,rfl,⟨k6,rfl⟩,k8⟩
 ·rw [List.getD_eq_getElem?_getD]
  cases hx:xs[k]? with
  | none=>exact Nat.zero_le _
  | some x =>
   obtain ⟨k1,k2,cs,k3,k4,k5⟩:=h3 k x hx
   obtain ⟨u,us,rfl,⟨k6,k7⟩,k8⟩:=k5
   exact k7
theorem op_M22:OpD Tryz.prog 22 (fun xs:List ByteArray=>[.l 1 Qsy xs]):=OpD.slice 1 Tryz.underlying22 Ufd (fun _=>rfl) (by kernel_rfl) (by decide)
theorem own:ownKnob Tryz.prog.godebug=none:=by kernel_rfl
theorem cfA:Tryz.prog.inPlace 3=Rows.fnExactConfOpenRow.inPlace:=by kernel_rfl
theorem cfB:Tryz.prog.unfollowed 3=Rows.fnExactConfOpenRow.unfollowed:=by kernel_rfl
theorem cfC:Tryz.prog.recurses 3=Rows.fnExactConfOpenRow.recurses:=by kernel_rfl
theorem cfD:Tryz.prog.varsNamed 3=Rows.fnExactConfOpenRow.named:=by kernel_rfl
set_option maxRecDepth 100000 in
def putC (cs:Array Value):Obj→Obj
 | .cells _ t fz=>.cells cs t fz
 | o=>o
noncomputable def Nk (os:Os):World :=
 let w:=World.holding Tryz.prog os ⟨#[.cells #[.string ⟨#[118,97,108,117,101,32,111,117,116,32,111,102,32,114,97,110,103,101]⟩] 167,.cells #[.string ⟨#[105,110,118,97,108,105,100,32,115,121,110,116,97,120]⟩] 167],#[],[]⟩
 { w with heap:=(((((((w.heap.modify ((Tryz.prog.globalNamed "math/bits.deBruijn32tab").getD 0) (putC #[(.int .u8 0),(.int .u8 1),(.int .u8 28),(.int .u8 2),(.int .u8 29),(.int .u8 14),(.int .u8 24),(.int .u8 3),(.int .u8 30),(.int .u8 22),(.int .u8 20),(.int .u8 15),(.int .u8 25),(.int .u8 17),(.int .u8 4),(.int .u8 8),(.int .u8 31),(.int .u8 27),(.int .u8 13),(.int .u8 23),(.int .u8 21),(.int .u8 19),(.int .u8 16),(.int .u8 7),(.int .u8 26),(.int .u8 12),(.int .u8 18),(.int .u8 6),(.int .u8 11),(.int .u8 5),(.int .u8 10),(.int .u8 9)])).modify ((Tryz.prog.globalNamed "math/bits.deBruijn64tab").getD 0) (putC #[(.int .u8 0),(.int .u8 1),(.int .u8 56),(.int .u8 2),(.int .u8 57),(.int .u8 49),(.int .u8 28),(.int .u8 3),(.int .u8 61),(.int .u8 58),(.int .u8 42),(.int .u8 50),(.int .u8 38),(.int .u8 29),(.int .u8 17),(.int .u8 4),(.int .u8 62),(.int .u8 47),(.int .u8 59),(.int .u8 36),(.int .u8 45),(.int .u8 43),(.int .u8 51),(.int .u8 22),(.int .u8 53),(.int .u8 39),(.int .u8 33),(.int .u8 30),(.int .u8 24),(.int .u8 18),(.int .u8 12),(.int .u8 5),(.int .u8 63),(.int .u8 55),(.int .u8 48),(.int .u8 27),(.int .u8 60),(.int .u8 41),(.int .u8 37),(.int .u8 16),(.int .u8 46),(.int .u8 35),(.int .u8 44),(.int .u8 21),(.int .u8 52),(.int .u8 32),(.int .u8 23),(.int .u8 11),(.int .u8 54),(.int .u8 26),(.int .u8 40),(.int .u8 15),(.int .u8 34),(.int .u8 20),(.int .u8 31),(.int .u8 10),(.int .u8 25),(.int .u8 14),(.int .u8 19),(.int .u8 9),(.int .u8 13),(.int .u8 8),(.int .u8 7),(.int .u8 6)])).modify ((Tryz.prog.globalNamed "internal/strconv.uint64pow10").getD 0) (putC #[(.int .u64 1),(.int .u64 10),(.int .u64 100),(.int .u64 1000),(.int .u64 10000),(.int .u64 100000),(.int .u64 1000000),(.int .u64 10000000),(.int .u64 100000000),(.int .u64 1000000000),(.int .u64 10000000000),(.int .u64 100000000000),(.int .u64 1000000000000),(.int .u64 10000000000000),(.int .u64 100000000000000),(.int .u64 1000000000000000),(.int .u64 10000000000000000),(.int .u64 100000000000000000),(.int .u64 1000000000000000000),(.int .u64 10000000000000000000)])).modify ((Tryz.prog.globalNamed "unicode/utf8.acceptRanges").getD 0) (putC #[(.int .u8 128),(.int .u8 191),(.int .u8 160),(.int .u8 191),(.int .u8 128),(.int .u8 159),(.int .u8 144),(.int .u8 191),(.int .u8 128),(.int .u8 143),(.int .u8 0),(.int .u8 0),(.int .u8 0),(.int .u8 0),(.int .u8 0),(.int .u8 0),(.int .u8 0),(.int .u8 0),(.int .u8 0),(.int .u8 0),(.int .u8 0),(.int .u8 0),(.int .u8 0),(.int .u8 0),(.int .u8 0),(.int .u8 0),(.int .u8 0),(.int .u8 0),(.int .u8 0),(.int .u8 0),(.int .u8 0),(.int .u8 0)])).modify ((Tryz.prog.globalNamed "strconv.ErrRange").getD 0) (putC #[.iface 165 (.pointer (some ⟨Tryz.prog.low+0,0,none⟩))])).modify ((Tryz.prog.globalNamed "strconv.ErrSyntax").getD 0) (putC #[.iface 165 (.pointer (some ⟨Tryz.prog.low+1,0,none⟩))])).modify ((Tryz.prog.globalNamed "unicode/utf8.first").getD 0) (putC ((Go.Pinned.utf8FirstZ.map fun n=>Value.int .u8 (n:Nat)).toArray))) }
theorem Uck (os:Os):laidMet Tryz.prog Rows.fnExactConfOpenRow.laid ((Nk os).forCall (fun _ _=>0) ⟨#[],#[.slice none 0 0],[]⟩).memory :=
 laidMet_of_run3 8 (by kernel_rfl) (by kernel_rfl) (by kernel_rfl)
theorem reads (os:Os) {H:Type} (enc:TypeId×Value→H):∃ Xn,DataW.whole enc Tryz.prog ((Nk os).forCall (fun _ _=>0) ⟨#[],#[.slice none 0 0],[]⟩).memory Tryz.f3.params.toList Rows.fnExactConfOpenSpec.vars false #[.slice none 0 0].toList 8=some ([.nil],[],Xn) :=
 ⟨[],by kernel_rfl⟩
theorem Qix {W:World} {l:List (String×DataW Unit)} (h:laidMet Tryz.prog l W) {n tn:String} {d:DataW Unit} (hm:(n,.iface tn d)∈l) {g:Nat} (hg:Tryz.prog.globalNamed n=some g) (ht:(Tryz.prog.globals[g]?).map (·.type)=some 117) :
  ∃ e,W.cell? ⟨g,0,none⟩=some e∧(e=.nilIface∨∃ te pe,e=.iface te pe):=by
 obtain ⟨g',t',cs,fuel,p,h1,h2,h3,h4⟩:=Lib.laidMet.reads h hm
 obtain rfl:=Option.some.inj (hg.symm.trans h1)
 obtain rfl:=Option.some.inj (ht.symm.trans h2)
 have hc:∀ i,W.cell? ⟨g,i,none⟩=cs[i]?:=fun i=>by
  unfold World.var? at h3
  rw [hg] at h3
  simp only [Option.bind_some] at h3
  split at h3
  ·rename_i c _ _ hh
   simp only [Option.some.injEq] at h3
   subst h3
   simp [World.cell?,hh]
  ·cases h3
 cases fuel with
 | zero=>simp [DataW.trod] at h4
 | succ fuel =>
  simp only [DataW.trod,Tryz.underlying117] at h4
  split at h4 <;> first
   | (cases h4; done)
   | (rename_i hcs; refine ⟨_,(hc 0).trans (by rw [← Array.getElem?_toList,hcs]; rfl),?_⟩; first | exact .inl rfl | exact .inr ⟨_,_,rfl⟩)
   | (simp at h4; done)
   | (exfalso; simp_all; done)
theorem lifted (os:Os) (started:os.Started) (H:Type) (enc:TypeId×Value→H) (F:Stop.Interp) :
  ReturnsInHanded {} Tryz.checked os 3 .any ((OpenSpec.ofChange Rows.fnExactConfOpenSpec).preRow enc Tryz.prog Tryz.f3 Rows.fnExactConfOpenRow.domain false Rows.fnExactConfOpenRow.laid) (((OpenSpec.ofChange Rows.fnExactConfOpenSpec).at F).post enc Tryz.prog Tryz.f3 false true false false):=by
 obtain ⟨Xn,hx⟩:=reads os enc
 refine returnsInHanded_of_row (C:=Tryz.checked) (s:=OpenSpec.ofChange Rows.fnExactConfOpenSpec) own started (by kernel_rfl) Tryz.func3
  (witness_row_at (enc:=enc) (C:=Tryz.checked) false (Nk os) #[.slice none 0 0] rfl (by kernel_rfl) (by kernel_rfl) (by kernel_rfl)
   (OpenSpec.preRow_of_cond 8 hx (by kernel_rfl) (fun k hk=>by cases hk) (by kernel_rfl) (Uck os))) ?_
 intro W base args ds gs before hval0 hW hcnd _ _ hL hsh _
 have hL':laidMet Tryz.prog Rows.fnExactConfOpenRow.laid W:=by
  have h0:=hL
  unfold laidMetH at h0
  rw [show (Rows.fnExactConfOpenRow.laid.filter fun x=>x.2.handleName?.isSome)=[] from by kernel_rfl] at h0
  exact h0
 have hval:∀ (j:Nat) t v,Tryz.f3.params[j]?=some t→args[j]?=some v→Value.okWide Tryz.prog W .any base t v:=hval0
 have hW':=hW
 obtain ⟨p,q,hA0,hV,rfl,hfz,hnd⟩:=hW
 have hA:DataW.TrodAll enc Tryz.prog W 0 (fun _=>true) true Tryz.f3.params.toList args.toList ds p:=hA0
 rw [Tryz.params3] at hA hval
 obtain ⟨v0,vs0,d0,ds0,p0,q0,hargs,rfl,rfl,h0,r0⟩:=trodAll_cons hA
 obtain ⟨rfl,rfl,rfl⟩:=trodAll_nil r0
 obtain rfl:args=#[v0]:=by cases args; simp_all
 obtain ⟨rfl,rfl⟩:=trodVars_none hV
 obtain ⟨fu0,t0⟩:=h0
 obtain ⟨a0,n0,c0,rfl⟩:=okWide_slice Tryz.underlying22 (hval 0 22 v0 rfl rfl)
 obtain ⟨x0,u0,us0,e0,o0,-⟩:=op_M22 H enc W fu0 _ _ t0
 obtain ⟨o0,b0⟩:=Ueg o0
 obtain rfl:u0=_:=(List.cons.inj e0).1.symm
 have hG:GP W:=⟨fun b hb=>by
  simp only [GBe,List.nil_append,List.cons_append,List.mem_cons,List.not_mem_nil,or_false] at hb
  rcases hb with rfl | rfl
  ·exact Qix hL' (n:= "strconv.ErrSyntax") (by unfold Rows.fnExactConfOpenRow; exact List.mem_cons_of_mem _ (List.mem_cons_of_mem _ (List.mem_cons_of_mem _ (List.mem_cons_of_mem _ (List.mem_cons_of_mem _ (List.mem_cons_self)))))) (show Tryz.prog.globalNamed "strconv.ErrSyntax"=some ((Tryz.prog.globalNamed "strconv.ErrSyntax").getD 0) from by kernel_rfl) (by kernel_rfl)
  ·exact Qix hL' (n:= "strconv.ErrRange") (by unfold Rows.fnExactConfOpenRow; exact List.mem_cons_of_mem _ (List.mem_cons_of_mem _ (List.mem_cons_of_mem _ (List.mem_cons_of_mem _ (List.mem_cons_self))))) (show Tryz.prog.globalNamed "strconv.ErrRange"=some ((Tryz.prog.globalNamed "strconv.ErrRange").getD 0) from by kernel_rfl) (by kernel_rfl),fun b hb=>by simp only [GBi,List.nil_append,List.mem_cons,List.not_mem_nil,or_false] at hb; subst hb; exact layCutM.s1_3 W hsh,fun q hq=>by
  simp only [GBt,List.nil_append,List.mem_cons,List.not_mem_nil,or_false] at hq
  subst hq
  obtain ⟨g',t',cs,fuel,p,h1,h2,h3,h4⟩:=Lib.laidMet.reads hL' (n:= "internal/strconv.uint64pow10") (by unfold Rows.fnExactConfOpenRow; exact List.mem_cons_of_mem _ (List.mem_cons_of_mem _ (List.mem_cons_self)))
  obtain rfl:=Option.some.inj ((show Tryz.prog.globalNamed "internal/strconv.uint64pow10"=some ((Tryz.prog.globalNamed "internal/strconv.uint64pow10").getD 0) from by kernel_rfl).symm.trans h1)
  obtain rfl:=Option.some.inj ((show (Tryz.prog.globals[(Tryz.prog.globalNamed "internal/strconv.uint64pow10").getD 0]?).map (·.type)=some 169 from by kernel_rfl).symm.trans h2)
  have hc:=Lib.cells_of_tab (k:=.u64) (zs:=Lib.pow10Tab) Tryz.underlying169 Tryz.underlying148 (by kernel_rfl) (by kernel_rfl) h4
  unfold World.var? at h3
  rw [(show Tryz.prog.globalNamed "internal/strconv.uint64pow10"=some ((Tryz.prog.globalNamed "internal/strconv.uint64pow10").getD 0) from by kernel_rfl)] at h3
  simp only [Option.bind_some] at h3
  split at h3
  ·rename_i c T fz hh
   simp only [Option.some.injEq] at h3
   subst h3
   exact ⟨T,fz,hh.trans (by congr 1; congr 1; exact Array.ext' (by simpa using hc))⟩
  ·cases h3⟩
 have hc:=Ubn (W:=W) (vs:=[.slice a0 n0 c0]) (ok3 x0) (b0) (x:=.bool (F3 x0)) hG ⟨_,_,[],[],rfl,⟨o0,rfl⟩,⟨rfl,rfl⟩,rfl,List.nodup_nil⟩ rfl rfl
 rw [Udb x0] at hc
 refine hc.mono fun e W' ⟨he,hb⟩=>?_
 subst he
 exact ⟨_,rfl,Qwb rfl hW' hb rfl Tryz.underlying4 rfl rfl rfl laid (by decide +kernel)⟩
theorem said_FnExactConfOpen:Rows.FnExactConfOpenSaid :=
 OpenClaim.holds_of_cond 3 Tryz.f3 rfl rfl rfl rfl rfl rfl rfl ⟨rfl,rfl,rfl,rfl,rfl⟩ rfl rfl rfl rfl rfl (by kernel_rfl) Tryz.func3 (by
   show joinedFacts Tryz.prog 3 Tryz.f3 (OpenSpec.ofChange Rows.fnExactConfOpenSpec).bare Rows.fnExactConfOpenRow=true
   simp only [joinedFacts,laid,cfMaps,cfKeys,Uel,Ucz,Udq,cfMake,cfA,cfB,cfC,cfD,Bool.and_true]
   kernel_rfl)
  (of_decide_eq_true (by kernel_rfl)) (by unfold Func.isWrapper; first | (rw [if_pos (by decide +kernel)]; kernel_rfl) | (rw [if_neg (by decide +kernel)]; exact ⟨rfl,rfl⟩))
  (fun os started H enc _ F=>by rw [OpenClaim.pre_eq_preRow]; exact lifted os started H enc F)
theorem Qsb (f:FuncId) (fn:Func) (hf:Tryz.pinned.checked.prog.funcNamed "loop.example/tern/laws.FnExactConfOpen"=some f) (hfn:Tryz.pinned.checked.prog.funcs[f]?=some fn) :
  true=Tryz.pinned.checked.prog.looks []∧∀ (j:Nat) t,fn.params[j]?=some t→Tryz.pinned.checked.prog.wantsStandIn t=false:=by
 obtain rfl:f=3:=Option.some.inj ((show Tryz.prog.funcNamed "loop.example/tern/laws.FnExactConfOpen"=some 3 by kernel_rfl).symm.trans hf) |>.symm
 obtain rfl:fn=Tryz.f3:=(Option.some.inj (Tryz.func3.symm.trans hfn)).symm
 refine ⟨by kernel_rfl,fun j t ht=>?_⟩
 rw [Tryz.params3] at ht
 have hm:=Array.mem_of_getElem? ht
 simp only [List.mem_toArray,List.mem_cons,List.not_mem_nil,or_false] at hm
 first | (obtain rfl:=hm; exact (show Tryz.prog.wantsStandIn 22=false by kernel_rfl))
theorem card_wf:Rows.fnExactConfOpenRow.wfByText (OpenSpec.ofChange Rows.fnExactConfOpenSpec)=true:=by kernel_rfl
theorem card_main:Tryz.prog.mainIs=some (Rows.fnExactConfOpenCard.stood.harness.1,Rows.fnExactConfOpenCard.stood.harness.2.toList):=by kernel_rfl
theorem card_goes:false=Rows.fnExactConfOpenRow.goesBy Tryz.prog:=by kernel_rfl
theorem proved_FnExactConfOpen:Rows.FnExactConfOpenCardSaid :=
 Claim7.holds_tied_plain_at .later [] _ _ _ _ said_FnExactConfOpen (fun _ h=>by cases h) card_wf (fun _ h=>by cases h) fnExactConfOpen_row_tie rfl ⟨rfl,rfl⟩ card_main rfl Qsb card_goes
#print axioms proved_FnExactConfOpen
end Go.Proofs.YtbaholefcgacpabGreatDoor
