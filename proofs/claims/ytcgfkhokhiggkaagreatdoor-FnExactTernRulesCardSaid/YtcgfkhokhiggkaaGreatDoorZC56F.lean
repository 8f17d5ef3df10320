/- The card's statement of FnExactTernRules: for all arguments the law returns true, without further conditions. Texts put together: PTR1, VTR, PTR, VMKU, PMKU, VTRL, PTRL, C56. -/
import Derived.Test.YtcgfkhokhiggkaaGreatDoorRows
import Derived.Test.YtcgfkhokhiggkaaGreatDoorCards
import Derived.Test.YtcgfkhokhiggkaaGreatDoorTie
import Derived.Deep.DeepHandedRow
import Derived.Deep.DeepLaidRun
import Derived.JoinedCond
import Derived.Lib.LaidU8
import Derived.Test.YtcgfkhokhiggkaaGreatDoorZC56E
namespace Go.Proofs.YtcgfkhokhiggkaaGreatDoor
open Go.RowKit
set_option maxRecDepth 100000
set_option linter.unusedVariables false
set_option linter.unusedSimpArgs false
abbrev Kl (lines:List ByteArray) (list:ByteArray):List (List ByteArray):=F59 (Qr lines (⟨#[114,117,108,101]⟩:ByteArray)) (fun (x0:List ByteArray)=>F60 x0 list)
abbrev Gt (lines:List ByteArray) (list:ByteArray):List (List ByteArray):=F61 (Kl lines list) (fun (x0:List ByteArray) (x1:List ByteArray)=>F62 x0 x1)
theorem Wa {lines:List ByteArray} {list:ByteArray} {w:List ByteArray} (h:w∈Kl lines list):w∈Qr lines (⟨#[114,117,108,101]⟩:ByteArray)∧w.getD 1 default=list:=by
 obtain ⟨h1,h2⟩:=List.mem_filter.1 (show w∈(Qr lines (⟨#[114,117,108,101]⟩:ByteArray)).filter (fun x=>!(F60 x list)) from h)
 refine ⟨h1,Ww ?_⟩
 rw [F60,Bool.not_not] at h2
 have h3:=eq_of_beq h2
 rw [Qy,Qy] at h3
 exact h3
theorem Jo (lines:List ByteArray) (list:ByteArray):(Gt lines list).Perm (Kl lines list):=Xp _ _
theorem Qwq {lines:List ByteArray} {list:ByteArray} {w:List ByteArray} (h:w∈Gt lines list):Yi w:=Wc (Wa ((Jo lines list).subset h)).1
theorem Uee (lines:List ByteArray) (list:ByteArray):(Gt lines list).length≤16:=by
 rw [(Jo lines list).length_eq]
 exact Nat.le_trans (List.length_filter_le _ _) (Tz lines _)
theorem Mv (lines:List ByteArray) (list:ByteArray) {k:Nat} (hk:k<(Gt lines list).length) {j:Int} (hj:0≤j∧j≤6):0≤j∧j<(((Gt lines list).getD k default).length:Int):=by
 have h:=Qwq (Zr _ hk)
 unfold Yi at h
 omega
theorem Qjs (lines:List ByteArray) (list:ByteArray) (k j:Nat):(((Gt lines list).getD k default).getD j default).size≤1048576:=by
 by_cases hk:k<(Gt lines list).length
 ·have hm:=(Wa ((Jo lines list).subset (Zr _ hk))).1
  obtain ⟨i,hi,e⟩:=Wp hm
  rw [← e]
  exact Qlv lines _ i j
 ·rw [Wh (Gt lines list) (by omega)]; exact Nat.zero_le _
theorem Gs {w:List ByteArray} (h:Yi w):0≤F44 (w.getD 2 default)∧F44 (w.getD 2 default)≤99:=by
 unfold Yi at h
 rw [Wm]
 omega
theorem Ke {a b:List ByteArray} (ha:Yi a) (hb:Yi b):F62 a b=F44 (a.getD 2 default)-F44 (b.getD 2 default):=by
 have h1:=Gs ha
 have h2:=Gs hb
 exact Yx (n:=F44 (a.getD 2 default)-F44 (b.getD 2 default)) (by omega) (by omega)
theorem Ufg {lines:List ByteArray} {list:ByteArray} {w1 w2:List ByteArray} (h1:w1∈Kl lines list) (h2:w2∈Kl lines list) (e:F44 (w1.getD 2 default)=F44 (w2.getD 2 default)):w1=w2:=by
 obtain ⟨m1,l1⟩:=Wa h1
 obtain ⟨m2,l2⟩:=Wa h2
 have p1:=Wc m1
 have p2:=Wc m2
 rcases Vs lines (⟨#[114,117,108,101]⟩:ByteArray) with ⟨_,h,e0⟩ | e0
 ·rw [e0] at m1 m2
  refine Qwn h (n:=3) rfl m1 m2 ?_
  unfold Yi at p1 p2
  simp only [Jj] at p1 p2
  rw [Tj,Tj] at e
  rw [Ba w1 (by omega),Ba w2 (by omega)]
  have a0:w1.getD 0 default=w2.getD 0 default:=Ww (p1.1.trans p2.1.symm)
  have a2:w1.getD 2 default=w2.getD 2 default:=Ww (Uhq e (by omega))
  rw [a0,l1,l2,a2]
 ·rw [e0] at m1; cases m1
theorem Qfz (lines:List ByteArray) (list:ByteArray):Gz (fun (x0:List ByteArray) (x1:List ByteArray)=>F62 x0 x1) (Kl lines list):=by
 have hb:∀ x∈Kl lines list,Yi x:=fun x hx=>Wc (Wa hx).1
 refine ⟨fun x hx=>?_,fun x hx y hy z hz=>?_,fun x hx y hy z hz=>?_,fun x hx y hy=>?_⟩
 ·rw [Ke (hb x hx) (hb x hx)]; omega
 ·rw [Ke (hb x hx) (hb y hy),Ke (hb y hy) (hb z hz),Ke (hb x hx) (hb z hz)]; omega
 ·rw [Ke (hb x hx) (hb y hy),Ke (hb y hy) (hb z hz),Ke (hb x hx) (hb z hz)]; omega
 ·rw [Ke (hb x hx) (hb y hy),Ke (hb y hy) (hb x hx)]
  intro k1 k2
  exact Ufg hx hy (by omega)
theorem Qml (lines:List ByteArray) (list:ByteArray):Gz (fun (x0:List ByteArray) (x1:List ByteArray)=>F62 x0 x1) (Kl lines list)∧∀ x∈Kl lines list,(fun (x0:List ByteArray)=>(3≤x0.length∧(x0.getD 2 default).size≤1048576∧0≤decN (x0.getD 2 default))) x :=
 ⟨Qfz lines list,fun x hx=>by
  have hm:=(Wa hx).1
  have hp:=Wc hm
  obtain ⟨i,hi,e⟩:=Wp hm
  refine ⟨?_,?_,(Ulp (Gs hp).1).1⟩
  ·unfold Yi at hp; omega
  ·rw [← e]; exact Qlv lines _ i 2⟩
structure AclRule where
 Permit:Bool
 From:NetPrefix
 To:NetPrefix
 Kind:Int
 deriving DecidableEq,Inhabited
def Qd (x:AclRule):List Dat:=[.v (.bool x.Permit),.v (vI x.From.Addr),.v (vI x.From.Len),.v (vI x.To.Addr),.v (vI x.To.Len),.v (vI x.Kind)]
theorem kc41a (lines:List ByteArray) (word:ByteArray) {K_:Prop} (p0_:lines.length≤1048576) (p1_:∀ k:Nat,(lines.getD k default).size≤1048576) (k_:((Qr lines word).length≤16)→K_):(lines.length≤1048576∧(∀ k:Nat,(lines.getD k default).size≤1048576))∧(Imp (.l 1 eStr lines) (.l 1 eStr lines))∧(Imp (.v (.string word)) (.v (.string word)))∧K_:=⟨⟨p0_,p1_⟩,Imp.refl _,Imp.refl _,k_ (Tz lines word)⟩
abbrev kh41a (lines:List ByteArray) (word:ByteArray):Hint false Tryz.prog:=.call 41 (T41 (Qr lines word) lines word) (oa41 lines word) none
theorem kc42 (word:ByteArray) {K_:Prop} (p0_:word.size≤1048576) (k_:K_):(word.size≤1048576)∧(Imp (.v (.string word)) (.v (.string word)))∧K_:=⟨p0_,Imp.refl _,k_⟩
abbrev kh42 (word:ByteArray):Hint false Tryz.prog:=.call 42 (S42 word) (ok42 word) none
def Gu (lines:List ByteArray) (list:ByteArray):(List AclRule×Int)→Lp (List AclRule×Int) (List AclRule):=fun (out,v18) =>
 bif (decide (v18<((F61 (F59 (Qr lines (⟨#[114,117,108,101]⟩:ByteArray)) (fun (x0:List ByteArray)=>F60 x0 list)) (fun (x0:List ByteArray) (x1:List ByteArray)=>F62 x0 x1)).length:Int))) then (.next ((out++[(⟨((((F61 (F59 (Qr lines (⟨#[114,117,108,101]⟩:ByteArray)) (fun (x0:List ByteArray)=>F60 x0 list)) (fun (x0:List ByteArray) (x1:List ByteArray)=>F62 x0 x1)).getD v18.toNat default).getD (Int.toNat 3) default).toList==(⟨#[112,101,114,109,105,116]⟩:ByteArray).toList),(F42 (((F61 (F59 (Qr lines (⟨#[114,117,108,101]⟩:ByteArray)) (fun (x0:List ByteArray)=>F60 x0 list)) (fun (x0:List ByteArray) (x1:List ByteArray)=>F62 x0 x1)).getD v18.toNat default).getD (Int.toNat 4) default)),(F42 (((F61 (F59 (Qr lines (⟨#[114,117,108,101]⟩:ByteArray)) (fun (x0:List ByteArray)=>F60 x0 list)) (fun (x0:List ByteArray) (x1:List ByteArray)=>F62 x0 x1)).getD v18.toNat default).getD (Int.toNat 5) default)),(F44 (((F61 (F59 (Qr lines (⟨#[114,117,108,101]⟩:ByteArray)) (fun (x0:List ByteArray)=>F60 x0 list)) (fun (x0:List ByteArray) (x1:List ByteArray)=>F62 x0 x1)).getD v18.toNat default).getD (Int.toNat 6) default))⟩:AclRule)]),(v18+1))) else (.done (out,v18))
def F27 (lines:List ByteArray) (list:ByteArray):List AclRule :=
 (runL (Gu lines list) ((((F61 (F59 (Qr lines (⟨#[114,117,108,101]⟩:ByteArray)) (fun (x0:List ByteArray)=>F60 x0 list)) (fun (x0:List ByteArray) (x1:List ByteArray)=>F62 x0 x1)).length:Int)-0).toNat+1) (([]:List AclRule),0)).fin (fun r=>r) (fun (out,v18)=>out)
abbrev Qbf (lines:List ByteArray) (list:ByteArray):Nat×(List AclRule×Int):=(((((F61 (F59 (Qr lines (⟨#[114,117,108,101]⟩:ByteArray)) (fun (x0:List ByteArray)=>F60 x0 list)) (fun (x0:List ByteArray) (x1:List ByteArray)=>F62 x0 x1)).length:Int)-0).toNat+1),(([]:List AclRule),0))
abbrev Qnv (lines:List ByteArray) (list:ByteArray) (m39:Nat) (out:List AclRule) (v18:Int):Prop:=Int.toNat (((F61 (F59 (Qr lines (⟨#[114,117,108,101]⟩:ByteArray)) (fun (x0:List ByteArray)=>F60 x0 list)) (fun (x0:List ByteArray) (x1:List ByteArray)=>F62 x0 x1)).length:Int)-v18)<m39∧(out.length:Int)≤v18∧v18≤((F61 (F59 (Qr lines (⟨#[114,117,108,101]⟩:ByteArray)) (fun (x0:List ByteArray)=>F60 x0 list)) (fun (x0:List ByteArray) (x1:List ByteArray)=>F62 x0 x1)).length:Int)∧(0:Int)≤v18
abbrev Ued (lines:List ByteArray) (list:ByteArray):Lp (List AclRule×Int) (List AclRule):=LpX (Gu lines list) (Qbf lines list)
abbrev Qbc (lines:List ByteArray) (list:ByteArray) (i:Nat×(List AclRule×Int)):Prop:=LpJ (Gu lines list) (Qbf lines list) i (Qnv lines list i.1 i.2.1 i.2.2)
abbrev Uah (lines:List ByteArray) (list:ByteArray) (i:Nat×(List AclRule×Int)) (m39:Nat) (out:List AclRule) (v18:Int):Prop:=LpH (Gu lines list) (Qbf lines list) i m39 (out,v18) (Qnv lines list (m39+1) out v18)
abbrev Uej (lines:List ByteArray) (list:ByteArray) (out:List AclRule) (v18:Int) (out_:List AclRule) (v18_:Int) (K39:Prop):Prop:=(Rf (.int .i64 ((F61 (F59 (Qr lines (⟨#[114,117,108,101]⟩:ByteArray)) (fun (x0:List ByteArray)=>F60 x0 list)) (fun (x0:List ByteArray) (x1:List ByteArray)=>F62 x0 x1)).length:Int)))∧((.int .i64 v18:Value)=.int .i64 v18_)∧(Imp (.l 6 Qd out) (.l 6 Qd out_))∧(Im (.l 1 (eL 1 eStr) (F61 (F59 (Qr lines (⟨#[114,117,108,101]⟩:ByteArray)) (fun (x0:List ByteArray)=>F60 x0 list)) (fun (x0:List ByteArray) (x1:List ByteArray)=>F62 x0 x1))))∧K39
theorem un27_0 (lines:List ByteArray) (list:ByteArray) (i:Nat×(List AclRule×Int)) (h:Qbc lines list i):Uah lines list i (i.1-1) i.2.1 i.2.2:=⟨hd1 h.1 h.2.1,hd3 h.2.1,hd2 h.2.1,h.2.2⟩
theorem bk27_0 (lines:List ByteArray) (list:ByteArray) (i:Nat×(List AclRule×Int)) (m39:Nat) (out:List AclRule) (v18:Int) (hl:m39<i.1) (e:runL (Gu lines list) m39 (out,v18)=Ued lines list) (h:Qnv lines list m39 out v18):∃ j:Nat×(List AclRule×Int),Uej lines list out v18 j.2.1 j.2.2 (Qbc lines list j∧j.1<i.1):=⟨(m39,(out,v18)),rfl,rfl,Imp.refl _,Imp.refl _,⟨e,h⟩,hl⟩
theorem en27_0 (lines:List ByteArray) (list:ByteArray) (h:(([]:List AclRule).length:Int)≤0∧0≤((F61 (F59 (Qr lines (⟨#[114,117,108,101]⟩:ByteArray)) (fun (x0:List ByteArray)=>F60 x0 list)) (fun (x0:List ByteArray) (x1:List ByteArray)=>F62 x0 x1)).length:Int)∧(0:Int)≤0):Uej lines list ([]:List AclRule) 0 ([]:List AclRule) 0 (Qbc lines list (Qbf lines list)):=⟨rfl,rfl,Imp.refl _,Imp.refl _,rfl,Nat.lt_succ_self _,h⟩
theorem fi27 (lines:List ByteArray) (list:ByteArray) (r:List AclRule) (hF:r=(F27 lines list)):(Imp (.l 6 Qd r) (.l 6 Qd (F27 lines list)))∧True:=by cases hF; exact ⟨Imp.refl _,trivial⟩
def S27 (lines:List ByteArray) (list:ByteArray):Spec:=⟨[.r (.c (.l 1 eStr lines)),.r (.c (.v (.string list)))],.ow (.l 6 Qd (F27 lines list)),lines.length≤1048576∧(∀ k:Nat,(lines.getD k default).size≤1048576)⟩
theorem ok27 (lines:List ByteArray) (list:ByteArray):(S27 lines list).ok Tryz.prog 27 false :=
 Qg mixed (fn:=Tryz.f27) (ct:=.seqk [(0,0)] .no (.seq (.reg [(1,kh41a lines (⟨#[114,117,108,101]⟩:ByteArray)),(3,.call 59 (S59 (Qr lines (⟨#[114,117,108,101]⟩:ByteArray)) (fun (x0:List ByteArray)=>F60 x0 list) (fun (x0:List ByteArray)=>2≤x0.length)) (ok59 (Qr lines (⟨#[114,117,108,101]⟩:ByteArray)) (fun (x0:List ByteArray)=>F60 x0 list) (fun (x0:List ByteArray)=>2≤x0.length)) (some ⟨true,60,Wy (fun (x0:List ByteArray)=>2≤x0.length) (fun (x0:List ByteArray)=>F60 x0 list),[.rp ([.v (.string list)])],rfl,True,fun i=>Bf (ok60 i list)⟩))]) (.seq (.reg [(1,.call 61 (S61 (F59 (Qr lines (⟨#[114,117,108,101]⟩:ByteArray)) (fun (x0:List ByteArray)=>F60 x0 list)) (fun (x0:List ByteArray) (x1:List ByteArray)=>F62 x0 x1) (fun (x0:List ByteArray)=>(3≤x0.length∧(x0.getD 2 default).size≤1048576∧0≤decN (x0.getD 2 default)))) ((ok61 (F59 (Qr lines (⟨#[114,117,108,101]⟩:ByteArray)) (fun (x0:List ByteArray)=>F60 x0 list)) (fun (x0:List ByteArray) (x1:List ByteArray)=>F62 x0 x1) (fun (x0:List ByteArray)=>(3≤x0.length∧(x0.getD 2 default).size≤1048576∧0≤decN (x0.getD 2 default)))).to false) (some ⟨true,62,Qzq (fun (x0:List ByteArray)=>(3≤x0.length∧(x0.getD 2 default).size≤1048576∧0≤decN (x0.getD 2 default))) (fun (x0:List ByteArray) (x1:List ByteArray)=>F62 x0 x1),[],rfl,True,fun i=>ok_px2 (ok62 i.1 i.2)⟩))]) (.seq (.reg [(0,.dat (.l 6 Qd ([]:List AclRule)))]) (.seq (.seqk [(6,0),(16,0)] .no (.blk (.loop (ι:=Nat×(List AclRule×Int)) (fun i=>(fun (out:List AclRule) (v18:Int)=>(⟨[(6,some (.h 0 0)),(16,some (.h 1 0)),(17,some (.v (vI ((F61 (F59 (Qr lines (⟨#[114,117,108,101]⟩:ByteArray)) (fun (x0:List ByteArray)=>F60 x0 list)) (fun (x0:List ByteArray) (x1:List ByteArray)=>F62 x0 x1)).length:Int)))),(18,some (.v (vI v18)))],[(0,some (.own 0 (.l 6 Qd out))),(1,some (.own 1 (.l 1 (eL 1 eStr) (F61 (F59 (Qr lines (⟨#[114,117,108,101]⟩:ByteArray)) (fun (x0:List ByteArray)=>F60 x0 list)) (fun (x0:List ByteArray) (x1:List ByteArray)=>F62 x0 x1)))))],2⟩:St)) i.2.1 i.2.2) (Qbc lines list) (fun i=>i.1) (Qbf lines list) (fun i=>(fun (out:List AclRule) (v18:Int)=>(.seq .no (.seq (.cond .no .no) (.seq (.blk (.seq .no (.reg [(8,kh42 (((F61 (F59 (Qr lines (⟨#[114,117,108,101]⟩:ByteArray)) (fun (x0:List ByteArray)=>F60 x0 list)) (fun (x0:List ByteArray) (x1:List ByteArray)=>F62 x0 x1)).getD v18.toNat default).getD (Int.toNat 4) default)),(12,kh42 (((F61 (F59 (Qr lines (⟨#[114,117,108,101]⟩:ByteArray)) (fun (x0:List ByteArray)=>F60 x0 list)) (fun (x0:List ByteArray) (x1:List ByteArray)=>F62 x0 x1)).getD v18.toNat default).getD (Int.toNat 5) default)),(16,kh44 (((F61 (F59 (Qr lines (⟨#[114,117,108,101]⟩:ByteArray)) (fun (x0:List ByteArray)=>F60 x0 list)) (fun (x0:List ByteArray) (x1:List ByteArray)=>F62 x0 x1)).getD v18.toNat default).getD (Int.toNat 6) default)),(19,.dat (.l 6 Qd (out++[(⟨((((F61 (F59 (Qr lines (⟨#[114,117,108,101]⟩:ByteArray)) (fun (x0:List ByteArray)=>F60 x0 list)) (fun (x0:List ByteArray) (x1:List ByteArray)=>F62 x0 x1)).getD v18.toNat default).getD (Int.toNat 3) default).toList==(⟨#[112,101,114,109,105,116]⟩:ByteArray).toList),(F42 (((F61 (F59 (Qr lines (⟨#[114,117,108,101]⟩:ByteArray)) (fun (x0:List ByteArray)=>F60 x0 list)) (fun (x0:List ByteArray) (x1:List ByteArray)=>F62 x0 x1)).getD v18.toNat default).getD (Int.toNat 4) default)),(F42 (((F61 (F59 (Qr lines (⟨#[114,117,108,101]⟩:ByteArray)) (fun (x0:List ByteArray)=>F60 x0 list)) (fun (x0:List ByteArray) (x1:List ByteArray)=>F62 x0 x1)).getD v18.toNat default).getD (Int.toNat 5) default)),(F44 (((F61 (F59 (Qr lines (⟨#[114,117,108,101]⟩:ByteArray)) (fun (x0:List ByteArray)=>F60 x0 list)) (fun (x0:List ByteArray) (x1:List ByteArray)=>F62 x0 x1)).getD v18.toNat default).getD (Int.toNat 6) default))⟩:AclRule)])))]))) (.reg [(0,.bnd)]))))) i.2.1 i.2.2)))) (.seq .no .no)))))) Tryz.func27 (fun (hp:lines.length≤1048576∧(∀ k:Nat,(lines.getD k default).size≤1048576))=>have hpre0:=hp.1; have hpre1:=hp.2; kn lines fun _=>kc41a lines (⟨#[114,117,108,101]⟩:ByteArray) (by first | omega | (simp only [lens,ib] at*<;> omega)) (by first | assumption | exact hpre1 _ | exact fun k _=>hpre1 k | (intros; exact trivial) | (intros; exact Nat.zero_le _)) (fun gv1=>ai (ai (by first | omega | exact Qmn lines:(Qr lines (⟨#[114,117,108,101]⟩:ByteArray)).length≤1000000000) (by first | omega | exact Qmn lines:∀ k:Nat,k<(Qr lines (⟨#[114,117,108,101]⟩:ByteArray)).length→(fun (x0:List ByteArray)=>2≤x0.length) ((Qr lines (⟨#[114,117,108,101]⟩:ByteArray)).getD k default))) (ai (Imp.refl (.l 1 (eL 1 eStr) (Qr lines (⟨#[114,117,108,101]⟩:ByteArray)))) (ai (Eq.refl (Wy (fun (x0:List ByteArray)=>2≤x0.length) (fun (x0:List ByteArray)=>F60 x0 list))) (ai trivial (ai (Imps.refl [.v (.string list)]) (have gv2:(F59 (Qr lines (⟨#[114,117,108,101]⟩:ByteArray)) (fun (x0:List ByteArray)=>F60 x0 list)).length≤(Qr lines (⟨#[114,117,108,101]⟩:ByteArray)).length:=g59_0 (Qr lines (⟨#[114,117,108,101]⟩:ByteArray)) (fun (x0:List ByteArray)=>F60 x0 list); ai (ai (by first | omega | exact Qml lines list:Gz (fun (x0:List ByteArray) (x1:List ByteArray)=>F62 x0 x1) (F59 (Qr lines (⟨#[114,117,108,101]⟩:ByteArray)) (fun (x0:List ByteArray)=>F60 x0 list))∧∀ x∈(F59 (Qr lines (⟨#[114,117,108,101]⟩:ByteArray)) (fun (x0:List ByteArray)=>F60 x0 list)),(fun (x0:List ByteArray)=>(3≤x0.length∧(x0.getD 2 default).size≤1048576∧0≤decN (x0.getD 2 default))) x) (by first | omega | exact Qml lines list:(F59 (Qr lines (⟨#[114,117,108,101]⟩:ByteArray)) (fun (x0:List ByteArray)=>F60 x0 list)).length≤4000000000000000000)) (ai (Imp.refl (.l 1 (eL 1 eStr) (F59 (Qr lines (⟨#[114,117,108,101]⟩:ByteArray)) (fun (x0:List ByteArray)=>F60 x0 list)))) (ai (Eq.refl (Qzq (fun (x0:List ByteArray)=>(3≤x0.length∧(x0.getD 2 default).size≤1048576∧0≤decN (x0.getD 2 default))) (fun (x0:List ByteArray) (x1:List ByteArray)=>F62 x0 x1))) (ai trivial (have gv3:(F61 (F59 (Qr lines (⟨#[114,117,108,101]⟩:ByteArray)) (fun (x0:List ByteArray)=>F60 x0 list)) (fun (x0:List ByteArray) (x1:List ByteArray)=>F62 x0 x1)).length≤16:=(by exact Uee lines list); ai (bokr 6 Qd ([]:List AclRule) fun _=>rfl) (kn ([]:List AclRule) fun _=>kn (F61 (F59 (Qr lines (⟨#[114,117,108,101]⟩:ByteArray)) (fun (x0:List ByteArray)=>F60 x0 list)) (fun (x0:List ByteArray) (x1:List ByteArray)=>F62 x0 x1)) fun _=>ai (en27_0 lines list (by refine ⟨?_,?_,?_⟩ <;> first | omega | (simp only [lens,ib] at*<;> omega))) (fun (i0:Nat×(List AclRule×Int)) (hi0:Qbc lines list i0)=>(fun (m0:Nat) (out:List AclRule) (v18:Int) (hh0:Uah lines list i0 m0 out v18)=>have hI0:=hh0.1; have hl0:=hh0.2.1; have _:=hh0.2.2.1; have _:=hh0.2.2.2; ifd (v18<((F61 (F59 (Qr lines (⟨#[114,117,108,101]⟩:ByteArray)) (fun (x0:List ByteArray)=>F60 x0 list)) (fun (x0:List ByteArray) (x1:List ByteArray)=>F62 x0 x1)).length:Int)) (fun h5 _=>ai (by (first | omega | exact Mv lines list (show Int.toNat v18<(F61 (F59 (Qr lines (⟨#[114,117,108,101]⟩:ByteArray)) (fun (x0:List ByteArray)=>F60 x0 list)) (fun (x0:List ByteArray) (x1:List ByteArray)=>F62 x0 x1)).length by omega) (by first | omega | (simp only [lens,ib] at*<;> omega))):0≤v18∧v18<((F61 (F59 (Qr lines (⟨#[114,117,108,101]⟩:ByteArray)) (fun (x0:List ByteArray)=>F60 x0 list)) (fun (x0:List ByteArray) (x1:List ByteArray)=>F62 x0 x1)).length:Int)) (ai (by (first | omega | exact Mv lines list (show Int.toNat v18<(F61 (F59 (Qr lines (⟨#[114,117,108,101]⟩:ByteArray)) (fun (x0:List ByteArray)=>F60 x0 list)) (fun (x0:List ByteArray) (x1:List ByteArray)=>F62 x0 x1)).length by omega) (by first | omega | (simp only [lens,ib] at*<;> omega))):0≤(3:Int)∧(3:Int)<(((F61 (F59 (Qr lines (⟨#[114,117,108,101]⟩:ByteArray)) (fun (x0:List ByteArray)=>F60 x0 list)) (fun (x0:List ByteArray) (x1:List ByteArray)=>F62 x0 x1)).getD v18.toNat default).length:Int)) (ai (by (first | omega | exact Mv lines list (show Int.toNat v18<(F61 (F59 (Qr lines (⟨#[114,117,108,101]⟩:ByteArray)) (fun (x0:List ByteArray)=>F60 x0 list)) (fun (x0:List ByteArray) (x1:List ByteArray)=>F62 x0 x1)).length by omega) (by first | omega | (simp only [lens,ib] at*<;> omega))):0≤(4:Int)∧(4:Int)<(((F61 (F59 (Qr lines (⟨#[114,117,108,101]⟩:ByteArray)) (fun (x0:List ByteArray)=>F60 x0 list)) (fun (x0:List ByteArray) (x1:List ByteArray)=>F62 x0 x1)).getD v18.toNat default).length:Int)) (kc42 (((F61 (F59 (Qr lines (⟨#[114,117,108,101]⟩:ByteArray)) (fun (x0:List ByteArray)=>F60 x0 list)) (fun (x0:List ByteArray) (x1:List ByteArray)=>F62 x0 x1)).getD v18.toNat default).getD (Int.toNat 4) default) (by exact Qjs lines list _ _) (ai (by (first | omega | exact Mv lines list (show Int.toNat v18<(F61 (F59 (Qr lines (⟨#[114,117,108,101]⟩:ByteArray)) (fun (x0:List ByteArray)=>F60 x0 list)) (fun (x0:List ByteArray) (x1:List ByteArray)=>F62 x0 x1)).length by omega) (by first | omega | (simp only [lens,ib] at*<;> omega))):0≤(5:Int)∧(5:Int)<(((F61 (F59 (Qr lines (⟨#[114,117,108,101]⟩:ByteArray)) (fun (x0:List ByteArray)=>F60 x0 list)) (fun (x0:List ByteArray) (x1:List ByteArray)=>F62 x0 x1)).getD v18.toNat default).length:Int)) (kc42 (((F61 (F59 (Qr lines (⟨#[114,117,108,101]⟩:ByteArray)) (fun (x0:List ByteArray)=>F60 x0 list)) (fun (x0:List ByteArray) (x1:List ByteArray)=>F62 x0 x1)).getD v18.toNat default).getD (Int.toNat 5) default) (by exact Qjs lines list _ _) (ai (by (first | omega | exact Mv lines list (show Int.toNat v18<(F61 (F59 (Qr lines (⟨#[114,117,108,101]⟩:ByteArray)) (fun (x0:List ByteArray)=>F60 x0 list)) (fun (x0:List ByteArray) (x1:List ByteArray)=>F62 x0 x1)).length by omega) (by first | omega | (simp only [lens,ib] at*<;> omega))):0≤(6:Int)∧(6:Int)<(((F61 (F59 (Qr lines (⟨#[114,117,108,101]⟩:ByteArray)) (fun (x0:List ByteArray)=>F60 x0 list)) (fun (x0:List ByteArray) (x1:List ByteArray)=>F62 x0 x1)).getD v18.toNat default).length:Int)) (kc44 (((F61 (F59 (Qr lines (⟨#[114,117,108,101]⟩:ByteArray)) (fun (x0:List ByteArray)=>F60 x0 list)) (fun (x0:List ByteArray) (x1:List ByteArray)=>F62 x0 x1)).getD v18.toNat default).getD (Int.toNat 6) default) (by exact Qjs lines list _ _) (ai (appr 6 Qd out [(⟨((((F61 (F59 (Qr lines (⟨#[114,117,108,101]⟩:ByteArray)) (fun (x0:List ByteArray)=>F60 x0 list)) (fun (x0:List ByteArray) (x1:List ByteArray)=>F62 x0 x1)).getD v18.toNat default).getD (Int.toNat 3) default).toList==(⟨#[112,101,114,109,105,116]⟩:ByteArray).toList),(F42 (((F61 (F59 (Qr lines (⟨#[114,117,108,101]⟩:ByteArray)) (fun (x0:List ByteArray)=>F60 x0 list)) (fun (x0:List ByteArray) (x1:List ByteArray)=>F62 x0 x1)).getD v18.toNat default).getD (Int.toNat 4) default)),(F42 (((F61 (F59 (Qr lines (⟨#[114,117,108,101]⟩:ByteArray)) (fun (x0:List ByteArray)=>F60 x0 list)) (fun (x0:List ByteArray) (x1:List ByteArray)=>F62 x0 x1)).getD v18.toNat default).getD (Int.toNat 5) default)),(F44 (((F61 (F59 (Qr lines (⟨#[114,117,108,101]⟩:ByteArray)) (fun (x0:List ByteArray)=>F60 x0 list)) (fun (x0:List ByteArray) (x1:List ByteArray)=>F62 x0 x1)).getD v18.toNat default).getD (Int.toNat 6) default))⟩:AclRule)] fun _=>rfl) (ai (by (try simp only [lens]); omega:(out++[(⟨((((F61 (F59 (Qr lines (⟨#[114,117,108,101]⟩:ByteArray)) (fun (x0:List ByteArray)=>F60 x0 list)) (fun (x0:List ByteArray) (x1:List ByteArray)=>F62 x0 x1)).getD v18.toNat default).getD (Int.toNat 3) default).toList==(⟨#[112,101,114,109,105,116]⟩:ByteArray).toList),(F42 (((F61 (F59 (Qr lines (⟨#[114,117,108,101]⟩:ByteArray)) (fun (x0:List ByteArray)=>F60 x0 list)) (fun (x0:List ByteArray) (x1:List ByteArray)=>F62 x0 x1)).getD v18.toNat default).getD (Int.toNat 4) default)),(F42 (((F61 (F59 (Qr lines (⟨#[114,117,108,101]⟩:ByteArray)) (fun (x0:List ByteArray)=>F60 x0 list)) (fun (x0:List ByteArray) (x1:List ByteArray)=>F62 x0 x1)).getD v18.toNat default).getD (Int.toNat 5) default)),(F44 (((F61 (F59 (Qr lines (⟨#[114,117,108,101]⟩:ByteArray)) (fun (x0:List ByteArray)=>F60 x0 list)) (fun (x0:List ByteArray) (x1:List ByteArray)=>F62 x0 x1)).getD v18.toNat default).getD (Int.toNat 6) default))⟩:AclRule)]).length*48≤140737488355328) (ai (iok (v18+1) (by first | omega | (simp only [lens,ib] at*<;> omega))) (bk27_0 lines list i0 m0 (out++[(⟨((((F61 (F59 (Qr lines (⟨#[114,117,108,101]⟩:ByteArray)) (fun (x0:List ByteArray)=>F60 x0 list)) (fun (x0:List ByteArray) (x1:List ByteArray)=>F62 x0 x1)).getD v18.toNat default).getD (Int.toNat 3) default).toList==(⟨#[112,101,114,109,105,116]⟩:ByteArray).toList),(F42 (((F61 (F59 (Qr lines (⟨#[114,117,108,101]⟩:ByteArray)) (fun (x0:List ByteArray)=>F60 x0 list)) (fun (x0:List ByteArray) (x1:List ByteArray)=>F62 x0 x1)).getD v18.toNat default).getD (Int.toNat 4) default)),(F42 (((F61 (F59 (Qr lines (⟨#[114,117,108,101]⟩:ByteArray)) (fun (x0:List ByteArray)=>F60 x0 list)) (fun (x0:List ByteArray) (x1:List ByteArray)=>F62 x0 x1)).getD v18.toNat default).getD (Int.toNat 5) default)),(F44 (((F61 (F59 (Qr lines (⟨#[114,117,108,101]⟩:ByteArray)) (fun (x0:List ByteArray)=>F60 x0 list)) (fun (x0:List ByteArray) (x1:List ByteArray)=>F62 x0 x1)).getD v18.toNat default).getD (Int.toNat 6) default))⟩:AclRule)]) (v18+1) hl0 (Qc hI0 (condT h5 rfl)) (by refine ⟨?_,?_,?_,?_⟩ <;> first | omega | (simp only [lens,ib] at*<;> omega)))))))))))))) (fun h5 _=>have hD0_6:Ued lines list=Lp.done (out,v18):=Qi hI0 (condF h5 rfl); fi27 lines list out (finD hD0_6 rfl))) (i0.1-1) i0.2.1 i0.2.2 (un27_0 lines list i0 hi0)))))))))))))) (by kernel_rfl)
theorem kc75a (lines:List ByteArray) (head:ByteArray) {K_:Prop} (p0_:lines.length≤16) (p1_:∀ k:Nat,(lines.getD k default).size≤1048576) (q0_:lines.length≤16) (k_:((ofL lines head).length≤16)→K_):(lines.length≤16∧(∀ k:Nat,(lines.getD k default).size≤1048576))∧(Imp (.l 1 eStr lines) (.l 1 eStr lines))∧(Imp (.v (.string head)) (.v (.string head)))∧K_:=⟨⟨p0_,p1_⟩,Imp.refl _,Imp.refl _,k_ (Uia lines head q0_)⟩
abbrev kh75a (lines:List ByteArray) (head:ByteArray):Hint true Tryz.prog:=.call 75 (T75 (ofL lines head) lines head) (oa75 lines head) none
theorem kc76 (word:ByteArray) {K_:Prop} (p0_:word.size≤1048576) (k_:K_):(word.size≤1048576)∧(Imp (.v (.string word)) (.v (.string word)))∧K_:=⟨p0_,Imp.refl _,k_⟩
abbrev kh76 (word:ByteArray):Hint true Tryz.prog:=.call 76 (S76 word) (ok76 word) none
def Gi (lines:List ByteArray) (list:ByteArray) (out:List AclRule) (n:Int):(List AclRule×Int)→Lp (List AclRule×Int) (List AclRule):=fun (out1,i40) =>
 bif (decide (i40<((ofL lines (⟨#[114,117,108,101]⟩:ByteArray)).length:Int))) then (bif (bif ((F77 ((ofL lines (⟨#[114,117,108,101]⟩:ByteArray)).getD i40.toNat default) 1).toList==list.toList) then ((F79 (F77 ((ofL lines (⟨#[114,117,108,101]⟩:ByteArray)).getD i40.toNat default) 2))==n) else false) then (.next ((out1++[(⟨((F77 ((ofL lines (⟨#[114,117,108,101]⟩:ByteArray)).getD i40.toNat default) 3).toList==(⟨#[112,101,114,109,105,116]⟩:ByteArray).toList),(F76 (F77 ((ofL lines (⟨#[114,117,108,101]⟩:ByteArray)).getD i40.toNat default) 4)),(F76 (F77 ((ofL lines (⟨#[114,117,108,101]⟩:ByteArray)).getD i40.toNat default) 5)),(F79 (F77 ((ofL lines (⟨#[114,117,108,101]⟩:ByteArray)).getD i40.toNat default) 6))⟩:AclRule)]),(i40+1))) else (.next (out1,(i40+1)))) else (.done (out1,i40))
def Xv (lines:List ByteArray) (list:ByteArray):(List AclRule×Int)→Lp (List AclRule×Int) (List AclRule):=fun (out,n) =>
 bif (decide (n≤99)) then ((runL (Gi lines list out n) ((((ofL lines (⟨#[114,117,108,101]⟩:ByteArray)).length:Int)-0).toNat+1) (out,0)).fin Lp.ret (fun (out1,i40)=>.next (out1,(n+1)))) else (.done (out,n))
def F58 (lines:List ByteArray) (list:ByteArray):List AclRule :=
 (runL (Xv lines list) ((Int.toNat (99-0+1))+1) (([]:List AclRule),0)).fin (fun r=>r) (fun (out,n)=>out)
abbrev Qef (lines:List ByteArray) (out:List AclRule):Nat×(List AclRule×Int):=(((((ofL lines w9_).length:Int)-0).toNat+1),(out,0))
abbrev Qnm (lines:List ByteArray) (n:Int) (m39:Nat) (out1:List AclRule) (i40:Int):Prop:=Int.toNat (((ofL lines w9_).length:Int)-i40)<m39∧(out1.length:Int)≤16*n+i40∧i40≤((ofL lines w9_).length:Int)∧(0:Int)≤i40
abbrev Udc (lines:List ByteArray) (list:ByteArray) (out:List AclRule) (n:Int):Lp (List AclRule×Int) (List AclRule):=LpX (Gi lines list out n) (Qef lines out)
abbrev Qep (lines:List ByteArray) (list:ByteArray) (out:List AclRule) (n:Int) (i:Nat×(List AclRule×Int)):Prop:=LpJ (Gi lines list out n) (Qef lines out) i (Qnm lines n i.1 i.2.1 i.2.2)
abbrev Ucw (lines:List ByteArray) (list:ByteArray) (out:List AclRule) (n:Int) (i:Nat×(List AclRule×Int)) (m39:Nat) (out1:List AclRule) (i40:Int):Prop:=LpH (Gi lines list out n) (Qef lines out) i m39 (out1,i40) (Qnm lines n (m39+1) out1 i40)
abbrev Qzh (lines:List ByteArray) (list:ByteArray) (n:Int) (out1:List AclRule) (i40:Int) (out1_:List AclRule) (i40_:Int) (K39:Prop):Prop:=(Rf (.string list))∧(Rf (.int .i64 n))∧((.int .i64 i40:Value)=.int .i64 i40_)∧(Im (.l 1 Qj (ofL lines w9_)))∧(Imp (.l 6 Qd out1) (.l 6 Qd out1_))∧K39
theorem un58_1 (lines:List ByteArray) (list:ByteArray) (out:List AclRule) (n:Int) (i:Nat×(List AclRule×Int)) (h:Qep lines list out n i):Ucw lines list out n i (i.1-1) i.2.1 i.2.2:=⟨hd1 h.1 h.2.1,hd3 h.2.1,hd2 h.2.1,h.2.2⟩
theorem Ueo (lines:List ByteArray) (list:ByteArray) (out:List AclRule) (n:Int) (i:Nat×(List AclRule×Int)) (m39:Nat) (out1:List AclRule) (i40:Int) (hl:m39<i.1) (e:runL (Gi lines list out n) m39 (out1,i40)=Udc lines list out n) (h:Qnm lines n m39 out1 i40):∃ j:Nat×(List AclRule×Int),Qzh lines list n out1 i40 j.2.1 j.2.2 (Qep lines list out n j∧j.1<i.1):=⟨(m39,(out1,i40)),rfl,rfl,rfl,Imp.refl _,Imp.refl _,⟨e,h⟩,hl⟩
theorem en58_1 (lines:List ByteArray) (list:ByteArray) (out:List AclRule) (n:Int) (h:(out.length:Int)≤16*n+0∧0≤((ofL lines w9_).length:Int)∧(0:Int)≤0):Qzh lines list n out 0 out 0 (Qep lines list out n (Qef lines out)):=⟨rfl,rfl,rfl,Imp.refl _,Imp.refl _,rfl,Nat.lt_succ_self _,h⟩
abbrev Qbk:Nat×(List AclRule×Int):=(((Int.toNat (99-0+1))+1),(([]:List AclRule),0))
abbrev Qon (m39:Nat) (out:List AclRule) (n:Int):Prop:=Int.toNat (99-n+1)<m39∧(0:Int)≤n∧(out.length:Int)≤16*n∧(0:Int)≤n
abbrev Ueb (lines:List ByteArray) (list:ByteArray):Lp (List AclRule×Int) (List AclRule):=LpX (Xv lines list) (Qbk)
abbrev Qdw (lines:List ByteArray) (list:ByteArray) (i:Nat×(List AclRule×Int)):Prop:=LpJ (Xv lines list) (Qbk) i (Qon i.1 i.2.1 i.2.2)
abbrev Qyy (lines:List ByteArray) (list:ByteArray) (i:Nat×(List AclRule×Int)) (m39:Nat) (out:List AclRule) (n:Int):Prop:=LpH (Xv lines list) (Qbk) i m39 (out,n) (Qon (m39+1) out n)
abbrev Uaz (lines:List ByteArray) (list:ByteArray) (out:List AclRule) (n:Int) (out_:List AclRule) (n_:Int) (K39:Prop):Prop:=(Rf (.string list))∧((.int .i64 n:Value)=.int .i64 n_)∧(Im (.l 1 Qj (ofL lines w9_)))∧(Imp (.l 6 Qd out) (.l 6 Qd out_))∧K39
theorem un58_0 (lines:List ByteArray) (list:ByteArray) (i:Nat×(List AclRule×Int)) (h:Qdw lines list i):Qyy lines list i (i.1-1) i.2.1 i.2.2:=⟨hd1 h.1 h.2.1,hd3 h.2.1,hd2 h.2.1,h.2.2⟩
theorem bk58_0 (lines:List ByteArray) (list:ByteArray) (i:Nat×(List AclRule×Int)) (m39:Nat) (out:List AclRule) (n:Int) (hl:m39<i.1) (e:runL (Xv lines list) m39 (out,n)=Ueb lines list) (h:Qon m39 out n):∃ j:Nat×(List AclRule×Int),Uaz lines list out n j.2.1 j.2.2 (Qdw lines list j∧j.1<i.1):=⟨(m39,(out,n)),rfl,rfl,Imp.refl _,Imp.refl _,⟨e,h⟩,hl⟩
theorem en58_0 (lines:List ByteArray) (list:ByteArray) (h:(0:Int)≤0∧(([]:List AclRule).length:Int)≤16*0∧(0:Int)≤0):Uaz lines list ([]:List AclRule) 0 ([]:List AclRule) 0 (Qdw lines list (Qbk)):=⟨rfl,rfl,Imp.refl _,Imp.refl _,rfl,Nat.lt_succ_self _,h⟩
theorem fi58 (lines:List ByteArray) (list:ByteArray) (r:List AclRule) (hF:r=(F58 lines list)):(Imp (.l 6 Qd r) (.l 6 Qd (F58 lines list)))∧True:=by cases hF; exact ⟨Imp.refl _,trivial⟩
def S58 (lines:List ByteArray) (list:ByteArray):Spec:=⟨[.r (.c (.l 1 eStr lines)),.r (.c (.v (.string list)))],.ow (.l 6 Qd (F58 lines list)),lines.length≤16∧(∀ k:Nat,(lines.getD k default).size≤1048576)⟩
theorem ok58 (lines:List ByteArray) (list:ByteArray):(S58 lines list).ok Tryz.prog 58 :=
 Qg mixed (fn:=Tryz.f58) (ct:=.seqk [(0,0)] .no (.seq (.reg [(1,kh75a lines w9_)]) (.seq (.reg [(0,.dat (.l 6 Qd ([]:List AclRule)))]) (.seq (.seqk [(5,0),(6,0)] .no (.blk (.loop (ι:=Nat×(List AclRule×Int)) (fun i=>(fun (out:List AclRule) (n:Int)=>(⟨[(1,some (.v (.string list))),(5,some (.h 0 0)),(6,some (.h 1 0)),(7,some (.v (vI n)))],[(0,some (.own 0 (.l 1 Qj (ofL lines w9_)))),(1,some (.own 1 (.l 6 Qd out)))],2⟩:St)) i.2.1 i.2.2) (Qdw lines list) (fun i=>i.1) (Qbk) (fun i=>(fun (out:List AclRule) (n:Int)=>(.seq (.seq .no (.cond .no .no)) (.seq (.blk (.seqk [(5,0),(6,0)] .no (.blk (.loop (ι:=Nat×(List AclRule×Int)) (fun i=>(fun (out1:List AclRule) (i40:Int)=>(⟨[(1,some (.v (.string list))),(5,some (.h 0 0)),(6,some (.h 1 0)),(7,some (.v (vI n))),(8,some (.v (vI i40)))],[(0,some (.own 0 (.l 1 Qj (ofL lines w9_)))),(1,some (.own 1 (.l 6 Qd out1)))],2⟩:St)) i.2.1 i.2.2) (Qep lines list out n) (fun i=>i.1) (Qef lines out) (fun i=>(fun (out1:List AclRule) (i40:Int)=>(.seq (.seq .no (.cond .no .no)) (.seq (.blk (.seq (.reg [(4,kh77 ((ofL lines w9_).getD i40.toNat default) 1),(12,kh77 ((ofL lines w9_).getD i40.toNat default) 2),(13,kh79 (F77 ((ofL lines w9_).getD i40.toNat default) 2))]) (.cond (.reg [(5,kh77 ((ofL lines w9_).getD i40.toNat default) 3),(11,kh77 ((ofL lines w9_).getD i40.toNat default) 4),(12,kh76 (F77 ((ofL lines w9_).getD i40.toNat default) 4)),(17,kh77 ((ofL lines w9_).getD i40.toNat default) 5),(18,kh76 (F77 ((ofL lines w9_).getD i40.toNat default) 5)),(23,kh77 ((ofL lines w9_).getD i40.toNat default) 6),(24,kh79 (F77 ((ofL lines w9_).getD i40.toNat default) 6)),(27,.dat (.l 6 Qd (out1++[(⟨((F77 ((ofL lines w9_).getD i40.toNat default) 3).toList==w19_.toList),(F76 (F77 ((ofL lines w9_).getD i40.toNat default) 4)),(F76 (F77 ((ofL lines w9_).getD i40.toNat default) 5)),(F79 (F77 ((ofL lines w9_).getD i40.toNat default) 6))⟩:AclRule)])))]) .no))) (.reg [(1,.bnd)])))) i.2.1 i.2.2))))) (.reg [(1,.bnd)])))) i.2.1 i.2.2)))) (.seq .no .no))))) Tryz.func58 (fun (hp:lines.length≤16∧(∀ k:Nat,(lines.getD k default).size≤1048576))=>have hpre0:=hp.1; have hpre1:=hp.2; kn lines fun _=>kc75a lines w9_ (by first | omega | (simp only [lens,ib] at*<;> omega)) (by first | assumption | exact hpre1 _ | exact fun k _=>hpre1 k | (intros; exact trivial) | (intros; exact Nat.zero_le _)) (by first | omega | (simp only [lens,ib] at*<;> omega)) (fun gv1=>ai (bokr 6 Qd ([]:List AclRule) fun _=>rfl) (kn (ofL lines w9_) fun _=>kn ([]:List AclRule) fun _=>ai (en58_0 lines list (by refine ⟨?_,?_,?_⟩ <;> first | omega | (simp only [lens,ib] at*<;> omega) | (simp only [lens] at *; omega))) (fun (i0:Nat×(List AclRule×Int)) (hi0:Qdw lines list i0)=>(fun (m0:Nat) (out:List AclRule) (n:Int) (hh0:Qyy lines list i0 m0 out n)=>have hI0:=hh0.1; have hl0:=hh0.2.1; have _:=hh0.2.2.1; have _:=hh0.2.2.2; ifd (n≤99) (fun h3 _=>kn (ofL lines w9_) fun _=>kn out fun _=>ai (en58_1 lines list out n (by refine ⟨?_,?_,?_⟩ <;> first | omega | (simp only [lens,ib] at*<;> omega) | (simp only [lens] at *; omega))) (fun (i1:Nat×(List AclRule×Int)) (hi1:Qep lines list out n i1)=>(fun (m1:Nat) (out1:List AclRule) (i40:Int) (hh1:Ucw lines list out n i1 m1 out1 i40)=>have hI1:=hh1.1; have hl1:=hh1.2.1; have _:=hh1.2.2.1; have _:=hh1.2.2.2; ifd (i40<((ofL lines w9_).length:Int)) (fun h5 _=>ai (by first | omega | (simp only [lens,ib] at*<;> omega):ib i40 (ofL lines w9_)) (kc77 ((ofL lines w9_).getD i40.toNat default) 1 (by first | omega | (simp only [lens,ib] at*<;> omega)) (ai (fun k6:((F77 ((ofL lines w9_).getD i40.toNat default) 1).toList==list.toList)=true=>(by first | omega | (simp only [lens,ib] at*<;> omega):ib i40 (ofL lines w9_))) (kg77 ((F77 ((ofL lines w9_).getD i40.toNat default) 1).toList==list.toList) true ((ofL lines w9_).getD i40.toNat default) 2 (fun k7=>(by first | omega | (simp only [lens,ib] at*<;> omega))) (kg79 ((F77 ((ofL lines w9_).getD i40.toNat default) 1).toList==list.toList) true (F77 ((ofL lines w9_).getD i40.toNat default) 2) (fun k8=>(by exact Ju _ (Qjl lines _ (by assumption)) _ _)) (ifb (bif ((F77 ((ofL lines w9_).getD i40.toNat default) 1).toList==list.toList) then ((F79 (F77 ((ofL lines w9_).getD i40.toNat default) 2))==n) else false) (fun h9=>have _:((F77 ((ofL lines w9_).getD i40.toNat default) 1).toList==list.toList)=true:=(Ql h9); have _:(F79 (F77 ((ofL lines w9_).getD i40.toNat default) 2))=n:=eq_of_beq (Qw h9); ai (by first | omega | (simp only [lens,ib] at*<;> omega):ib i40 (ofL lines w9_)) (kc77 ((ofL lines w9_).getD i40.toNat default) 3 (by first | omega | (simp only [lens,ib] at*<;> omega)) (ai (by first | omega | (simp only [lens,ib] at*<;> omega):ib i40 (ofL lines w9_)) (kc77 ((ofL lines w9_).getD i40.toNat default) 4 (by first | omega | (simp only [lens,ib] at*<;> omega)) (kc76 (F77 ((ofL lines w9_).getD i40.toNat default) 4) (by exact Ju _ (Qjl lines _ (by assumption)) _ _) (ai (by first | omega | (simp only [lens,ib] at*<;> omega):ib i40 (ofL lines w9_)) (kc77 ((ofL lines w9_).getD i40.toNat default) 5 (by first | omega | (simp only [lens,ib] at*<;> omega)) (kc76 (F77 ((ofL lines w9_).getD i40.toNat default) 5) (by exact Ju _ (Qjl lines _ (by assumption)) _ _) (ai (by first | omega | (simp only [lens,ib] at*<;> omega):ib i40 (ofL lines w9_)) (kc77 ((ofL lines w9_).getD i40.toNat default) 6 (by first | omega | (simp only [lens,ib] at*<;> omega)) (kc79 (F77 ((ofL lines w9_).getD i40.toNat default) 6) (by exact Ju _ (Qjl lines _ (by assumption)) _ _) (ai (appr 6 Qd out1 [(⟨((F77 ((ofL lines w9_).getD i40.toNat default) 3).toList==w19_.toList),(F76 (F77 ((ofL lines w9_).getD i40.toNat default) 4)),(F76 (F77 ((ofL lines w9_).getD i40.toNat default) 5)),(F79 (F77 ((ofL lines w9_).getD i40.toNat default) 6))⟩:AclRule)] fun _=>rfl) (ai (by (try simp only [lens]); omega:(out1++[(⟨((F77 ((ofL lines w9_).getD i40.toNat default) 3).toList==w19_.toList),(F76 (F77 ((ofL lines w9_).getD i40.toNat default) 4)),(F76 (F77 ((ofL lines w9_).getD i40.toNat default) 5)),(F79 (F77 ((ofL lines w9_).getD i40.toNat default) 6))⟩:AclRule)]).length*48≤140737488355328) (ai (iok (i40+1) (by first | omega | (simp only [lens,ib] at*<;> omega))) (Ueo lines list out n i1 m1 (out1++[(⟨((F77 ((ofL lines w9_).getD i40.toNat default) 3).toList==w19_.toList),(F76 (F77 ((ofL lines w9_).getD i40.toNat default) 4)),(F76 (F77 ((ofL lines w9_).getD i40.toNat default) 5)),(F79 (F77 ((ofL lines w9_).getD i40.toNat default) 6))⟩:AclRule)]) (i40+1) hl1 (Qc hI1 (condT h5 (condT h9 rfl))) (by refine ⟨?_,?_,?_,?_⟩ <;> first | omega | (simp only [lens,ib] at*<;> omega) | (simp only [lens] at *; omega))))))))))))))))) (fun h9=>ai (iok (i40+1) (by first | omega | (simp only [lens,ib] at*<;> omega))) (Ueo lines list out n i1 m1 out1 (i40+1) hl1 (Qc hI1 (condT h5 (condF h9 rfl))) (by refine ⟨?_,?_,?_,?_⟩ <;> first | omega | (simp only [lens,ib] at*<;> omega) | (simp only [lens] at *; omega)))))))))) (fun h5 _=>have hD1_10:Udc lines list out n=Lp.done (out1,i40):=Qi hI1 (condF h5 rfl); ai (iok (n+1) (by first | omega | (simp only [lens,ib] at*<;> omega))) (bk58_0 lines list i0 m0 out1 (n+1) hl0 (Qc hI0 (condT h3 (finD hD1_10 rfl))) (by refine ⟨?_,?_,?_,?_⟩ <;> first | omega | (simp only [lens,ib] at*<;> omega) | (simp only [lens] at *; omega))))) (i1.1-1) i1.2.1 i1.2.2 (un58_1 lines list out n i1 hi1))) (fun h3 _=>have hD0_11:Ueb lines list=Lp.done (out,n):=Qi hI0 (condF h3 rfl); fi58 lines list out (finD hD0_11 rfl))) (i0.1-1) i0.2.1 i0.2.2 (un58_0 lines list i0 hi0))))) (by kernel_rfl)
theorem kc31 (lines:List ByteArray) {K_:Prop} (p0_:lines.length≤1048576) (p1_:∀ k:Nat,(lines.getD k default).size≤1048576) (k_:K_):(lines.length≤1048576∧(∀ k:Nat,(lines.getD k default).size≤1048576))∧(Imp (.l 1 eStr lines) (.l 1 eStr lines))∧K_:=⟨⟨p0_,p1_⟩,Imp.refl _,k_⟩
abbrev kh31 (lines:List ByteArray):Hint true Tryz.prog:=.call 31 (S31 lines) (ok31 lines) none
theorem kc58 (lines:List ByteArray) (list:ByteArray) {K_:Prop} (p0_:lines.length≤16) (p1_:∀ k:Nat,(lines.getD k default).size≤1048576) (k_:K_):(lines.length≤16∧(∀ k:Nat,(lines.getD k default).size≤1048576))∧(Imp (.l 1 eStr lines) (.l 1 eStr lines))∧(Imp (.v (.string list)) (.v (.string list)))∧K_:=⟨⟨p0_,p1_⟩,Imp.refl _,Imp.refl _,k_⟩
abbrev kh58 (lines:List ByteArray) (list:ByteArray):Hint true Tryz.prog:=.call 58 (S58 lines list) (ok58 lines list) none
def F26 (lines:List ByteArray) (list:ByteArray):List AclRule :=
 bif ((F31 lines) != 0) then ([]:List AclRule) else (F58 lines list)
theorem fi26 (lines:List ByteArray) (list:ByteArray) (r:List AclRule) (hF:r=(F26 lines list)):(Imp (.l 6 Qd r) (.l 6 Qd (F26 lines list)))∧True:=by cases hF; exact ⟨Imp.refl _,trivial⟩
def S26 (lines:List ByteArray) (list:ByteArray):Spec:=⟨[.r (.c (.l 1 eStr lines)),.r (.c (.v (.string list)))],.ow (.l 6 Qd (F26 lines list)),lines.length≤1048576∧(∀ k:Nat,(lines.getD k default).size≤1048576)⟩
theorem ok26 (lines:List ByteArray) (list:ByteArray):(S26 lines list).ok Tryz.prog 26 :=
 Qg mixed (fn:=Tryz.f26) (ct:=.seqk [(0,0)] .no (.seq (.seq (.reg [(1,kh31 lines)]) (.cond (.seq (.reg [(0,.dat (.l 6 Qd ([]:List AclRule)))]) .no) .no)) (.seq (.reg [(2,kh58 lines list)]) .no))) Tryz.func26 (fun (hp:lines.length≤1048576∧(∀ k:Nat,(lines.getD k default).size≤1048576))=>have hpre0:=hp.1; have hpre1:=hp.2; kn lines fun _=>kc31 lines (by omega) (by first | assumption | exact hpre1 _ | exact fun k _=>hpre1 k | (intros; exact trivial) | (intros; exact Nat.zero_le _)) (ifn (F31 lines) 0 (fun h1 _=>ai (bokr 6 Qd ([]:List AclRule) fun _=>rfl) (fi26 lines list ([]:List AclRule) (condT h1 rfl))) (fun h1 _=>kc58 lines list (by first | assumption | exact Ee lines (by omega)) (by first | assumption | exact Ee lines (by omega)) (fi26 lines list (F58 lines list) (condF h1 rfl))))) (by kernel_rfl)
def Qff (w:List ByteArray):AclRule:=⟨((w.getD 3 default).toList==(⟨#[112,101,114,109,105,116]⟩:ByteArray).toList),F42 (w.getD 4 default),F42 (w.getD 5 default),F44 (w.getD 6 default)⟩
theorem Qgy (lines:List ByteArray) (list:ByteArray):F27 lines list=(Gt lines list).map Qff:=by
 unfold F27
 have:=Yc (Gt lines list) (fun (s:List AclRule) w=>s++[Qff w]) (fun s i=>(s,i)) (Gu lines list) (fun i s hi=>by
  simp only [Gu]
  rw [ltD hi,cond_true,nn]; rfl) (fun s=>by
  simp only [Gu]
  rw [geD,cond_false]) (fun r=>r) (fun (out,v18)=>out) []
 refine this.trans ?_
 rw [Zv,List.nil_append]
def Eh (c:l52Cut):AclRule:=⟨((F77 c 3).toList==(⟨#[112,101,114,109,105,116]⟩:ByteArray).toList),F76 (F77 c 4),F76 (F77 c 5),F79 (F77 c 6)⟩
theorem at5 (c:l52Cut):F77 c 5=c.w.getD 5 default:=at_n c 5
theorem at6 (c:l52Cut):F77 c 6=c.w.getD 6 default:=at_n c 6
theorem Qlp (s:ByteArray):F76 s=F42 s:=by
 unfold F76 F42
 rw [Qpk]
theorem Qzp (w:List ByteArray):Eh ⟨w⟩=Qff w:=by
 unfold Eh Qff
 rw [at3,at4,at5,at6,Qlp,Qlp,Wm]
def Jw (list:ByteArray) (n:Int) (c:l52Cut):Bool:=bif ((F77 c 1).toList==list.toList) then ((F79 (F77 c 2))==n) else false
theorem Xn {α β:Type} (p:α→Bool) (f:α→β):∀ (xs:List α) (s:List β),xs.foldl (fun s x=>bif p x then s++[f x] else s) s=s++(xs.filter p).map f
 | [],s=>by simp
 | x :: xs,s=>by
  rw [List.foldl_cons,Xn p f xs]
  cases h:p x with
  | true=>rw [List.filter_cons_of_pos h,cond_true,List.map_cons,List.append_assoc]; rfl
  | false=>rw [List.filter_cons_of_neg (by simp [h]),cond_false]
theorem Qwj (lines:List ByteArray) (list:ByteArray) (out:List AclRule) (n:Int) (h:n≤99):Xv lines list (out,n)=.next (out++((ofL lines (⟨#[114,117,108,101]⟩:ByteArray)).filter (Jw list n)).map Eh,n+1):=by
 simp only [Xv]
 rw [decide_eq_true h,cond_true]
 have:=Yc (ofL lines (⟨#[114,117,108,101]⟩:ByteArray)) (fun (s:List AclRule) c=>bif Jw list n c then s++[Eh c] else s) (fun s i=>(s,i)) (Gi lines list out n) (fun i s hi=>by
  simp only [Gi,ltD hi,cond_true,nn]
  show (bif Jw list n ((ofL lines (⟨#[114,117,108,101]⟩:ByteArray)).getD i default) then _ else _)=_
  cases Jw list n ((ofL lines (⟨#[114,117,108,101]⟩:ByteArray)).getD i default) <;> rfl) (fun s=>by
  simp only [Gi,geD,cond_false]) (Lp.ret (σ:=List AclRule×Int)) (fun (out1,i40)=>.next (out1,(n+1))) out
 refine this.trans ?_
 show Lp.next (_,n+1)=_
 rw [Xn]
theorem Qxc (lines:List ByteArray) (list:ByteArray):F58 lines list=(List.range 100).flatMap fun (n:Nat)=>((ofL lines (⟨#[114,117,108,101]⟩:ByteArray)).filter (Jw list (n:Int))).map Eh:=by
 unfold F58
 have h:=Yk (step:=Xv lines list) (fun (k:Nat) (s:List AclRule)=>(s,(k:Int))) 100
  (fun k s=>s=(List.range k).flatMap fun (n:Nat)=>((ofL lines (⟨#[114,117,108,101]⟩:ByteArray)).filter (Jw list (n:Int))).map Eh) (fun _=>False)
  (fun k s hk hs=>.inl ⟨_,Qwj lines list s (k:Int) (by omega),by rw [hs,List.range_succ,List.flatMap_append,List.flatMap_singleton]⟩)
  (fun s hs=>by simp only [Xv]; rw [decide_eq_false (by omega),cond_false]) 100 0 [] (by omega) rfl (Int.toNat (99-0+1)+1) (by decide)
 rcases h with ⟨s',e1,h1⟩ | ⟨r,_,hr⟩
 ·rw [show (([]:List AclRule),(0:Int))=(([]:List AclRule),((0:Nat):Int)) from rfl,e1]
  exact h1
 ·exact hr.elim
theorem Qwi {α:Type} (f:α→Int) (W:List α) (m:Nat):((W.filter fun w=>decide (f w<m))++W.filter fun w=>f w==(m:Int)).Perm (W.filter fun w=>decide (f w<(m+1:Nat))):=by
 have h:=List.filter_append_perm (fun w=>decide (f w<m)) (W.filter fun w=>decide (f w<(m+1:Nat)))
 rw [List.filter_filter,List.filter_filter] at h
 have e1:(W.filter fun w=>decide (f w<m)&&decide (f w<(m+1:Nat)))=W.filter fun w=>decide (f w<m):=List.filter_congr fun w _=>by
  by_cases h1:f w<m
  ·rw [decide_eq_true h1,decide_eq_true (by omega)]; rfl
  ·rw [decide_eq_false h1]; rfl
 have e2:(W.filter fun w=>(!decide (f w<m))&&decide (f w<(m+1:Nat)))=W.filter fun w=>f w==(m:Int):=List.filter_congr fun w _=>by
  by_cases h1:f w<m
  ·rw [decide_eq_true h1,beq_eq_false_iff_ne.2 (by omega)]; rfl
  ·rw [decide_eq_false h1]
   by_cases h2:f w=m
   ·rw [h2,decide_eq_true (by omega),beq_self_eq_true]; rfl
   ·rw [decide_eq_false (by omega),beq_eq_false_iff_ne.2 h2]; rfl
 rw [e1,e2] at h
 exact h
theorem Em {α:Type} (f:α→Int) (W:List α) (h0:∀ w∈W,0≤f w):∀ m:Nat,((List.range m).flatMap fun (n:Nat)=>W.filter fun w=>f w==(n:Int)).Perm (W.filter fun w=>decide (f w<m))
 | 0=>by
  have:(W.filter fun w=>decide (f w<(0:Nat)))=[]:=List.filter_eq_nil_iff.2 fun w hw=>by have:=h0 w hw; simp; omega
  rw [this]; exact List.Perm.refl _
 | m+1=>by
  rw [List.range_succ,List.flatMap_append,List.flatMap_singleton]
  exact ((Em f W h0 m).append_right _).trans (Qwi f W m)
theorem Qcx (lines:List ByteArray) (list:ByteArray):F27 lines list=F26 lines list:=by
 rw [Qgy]
 unfold F26
 rw [← Lf]
 cases h:(F119 lines==0) with
 | false =>
  rw [show (F119 lines != 0)=true by simp only [bne,h,Bool.not_false],cond_true]
  have e:Qr lines (⟨#[114,117,108,101]⟩:ByteArray)=[]:=by unfold Qr; rw [h]; rfl
  have:Gt lines list=[]:=List.eq_nil_of_length_eq_zero (by rw [(Jo lines list).length_eq,Kl,e]; rfl)
  rw [this]; rfl
 | true =>
  have h0:=eq_of_beq h
  rw [show (F119 lines != 0)=false by simp only [bne,h,Bool.not_true],cond_false,Qxc,Uhn lines (Eo lines h0)]
  have ec:Qr lines (⟨#[114,117,108,101]⟩:ByteArray)=Qa lines (⟨#[114,117,108,101]⟩:ByteArray):=by unfold Qr; rw [h]; rfl
  rw [← ec]
  have e1:∀ n:Nat,(((Qr lines (⟨#[114,117,108,101]⟩:ByteArray)).map l52Cut.mk).filter (Jw list (n:Int))).map Eh=((Kl lines list).filter fun w=>F44 (w.getD 2 default)==(n:Int)).map Qff:=fun n=>by
   rw [List.filter_map,List.map_map]
   have ed:Kl lines list=(Qr lines (⟨#[114,117,108,101]⟩:ByteArray)).filter fun w=>((w.getD 1 default).toList==list.toList):=by
    show (Qr lines (⟨#[114,117,108,101]⟩:ByteArray)).filter (fun x=>!(F60 x list))=_
    refine List.filter_congr fun w _=>?_
    rw [F60,Bool.not_not]; rfl
   rw [ed,List.filter_filter]
   have ef:((Qr lines (⟨#[114,117,108,101]⟩:ByteArray)).filter (Jw list (n:Int) ∘ l52Cut.mk))=(Qr lines (⟨#[114,117,108,101]⟩:ByteArray)).filter fun w=>(F44 (w.getD 2 default)==(n:Int))&&((w.getD 1 default).toList==list.toList):=List.filter_congr fun w _=>by
    show Jw list (n:Int) ⟨w⟩=_
    unfold Jw
    rw [at1,at2,Wm]
    show (bif ((w.getD 1 default).toList==list.toList) then (F79 (w.getD 2 default)==(n:Int)) else false)=((F79 (w.getD 2 default)==(n:Int))&&((w.getD 1 default).toList==list.toList))
    cases ((w.getD 1 default).toList==list.toList) <;> simp
   rw [ef]
   refine List.map_congr_left fun w _=>?_
   exact Qzp w
  have e2:((List.range 100).flatMap fun (n:Nat)=>(((Qr lines (⟨#[114,117,108,101]⟩:ByteArray)).map l52Cut.mk).filter (Jw list (n:Int))).map Eh)=((List.range 100).flatMap fun (n:Nat)=>(Kl lines list).filter fun w=>F44 (w.getD 2 default)==(n:Int)).map Qff:=by
   rw [List.map_flatMap]
   exact congrArg (fun f=>(List.range 100).flatMap f) (funext fun n=>e1 n)
  rw [e2]
  congr 1
  have hb:∀ x∈Kl lines list,Yi x:=fun x hx=>Wc (Wa hx).1
  refine (Lz (Qfz lines list) ?_ ?_).symm
  ·refine (Em (fun w:List ByteArray=>F44 (w.getD 2 default)) (Kl lines list) (fun w hw=>(Gs (hb w hw)).1) 100).trans ?_
   have:((Kl lines list).filter fun w=>decide (F44 (w.getD 2 default)<(100:Nat)))=Kl lines list:=List.filter_eq_self.2 fun w hw=>decide_eq_true (by have:=(Gs (hb w hw)).2; omega)
   rw [this]
  ·refine List.pairwise_flatMap.2 ⟨fun n _=>?_,?_⟩
   ·refine List.pairwise_iff_getElem.2 fun i j hi hj _=>?_
    have hx:=List.getElem_mem hi
    have hy:=List.getElem_mem hj
    revert hx hy
    generalize ((Kl lines list).filter fun w=>F44 (w.getD 2 default)==(n:Int))[i]=x
    generalize ((Kl lines list).filter fun w=>F44 (w.getD 2 default)==(n:Int))[j]=y
    intro hx hy
    obtain ⟨x1,x2⟩:=List.mem_filter.1 hx
    obtain ⟨y1,y2⟩:=List.mem_filter.1 hy
    rw [Ke (hb y y1) (hb x x1)]
    have:=eq_of_beq x2
    have:=eq_of_beq y2
    omega
   ·refine List.pairwise_lt_range.imp ?_
    intro a b hab x hx y hy
    obtain ⟨x1,x2⟩:=List.mem_filter.1 hx
    obtain ⟨y1,y2⟩:=List.mem_filter.1 hy
    rw [Ke (hb y y1) (hb x x1)]
    have:=eq_of_beq x2
    have:=eq_of_beq y2
    omega
theorem Qxb (lines:List ByteArray) (list:ByteArray):(F27 lines list).length≤16:=by
 rw [Qgy,List.length_map,(Jo lines list).length_eq]
 exact Nat.le_trans (List.length_filter_le _ _) (Tz lines _)
theorem kc39 (k:Int) {K_:Prop} (p0_:k≤1000000000) (k_:K_):(k≤1000000000)∧(Imp (.v (vI k)) (.v (vI k)))∧K_:=⟨p0_,Imp.refl _,k_⟩
abbrev kh39 (k:Int):Hint true Tryz.prog:=.call 39 (S39 k) (ok39 k) none
def We (a:List ByteArray) (k:Int):(Int×Int×List ByteArray)→Lp (Int×Int×List ByteArray) (Int×List ByteArray):=fun (k400,i40,xs) =>
 bif (decide (i40<(xs.length:Int))) then (.next ((k400+1),(i40+1),(xs.set (i40).toNat (F39 k400)))) else (.done (k400,i40,xs))
def F13 (a:List ByteArray) (k:Int):Int×List ByteArray :=
 (runL (We a k) ((Int.toNat ((a.length:Int)-0))+1) (k,0,a)).fin (fun r=>r) (fun (k400,i40,xs)=>(k400,xs))
abbrev Qbi (a:List ByteArray) (k:Int):Nat×(Int×Int×List ByteArray):=(((Int.toNat ((a.length:Int)-0))+1),(k,0,a))
abbrev Qqe (a:List ByteArray) (m39:Nat) (k400:Int) (i40:Int) (xs:List ByteArray):Prop:=Int.toNat ((xs.length:Int)-i40)<m39∧(0:Int)≤k400∧k400+((xs.length:Int)-i40)≤1000000000∧(0:Int)≤i40∧xs.length=a.length
abbrev Uba (a:List ByteArray) (k:Int):Lp (Int×Int×List ByteArray) (Int×List ByteArray):=LpX (We a k) (Qbi a k)
abbrev Qcf (a:List ByteArray) (k:Int) (i:Nat×(Int×Int×List ByteArray)):Prop:=LpJ (We a k) (Qbi a k) i (Qqe a i.1 i.2.1 i.2.2.1 i.2.2.2)
abbrev Ubk (a:List ByteArray) (k:Int) (i:Nat×(Int×Int×List ByteArray)) (m39:Nat) (k400:Int) (i40:Int) (xs:List ByteArray):Prop:=LpH (We a k) (Qbi a k) i m39 (k400,i40,xs) (Qqe a (m39+1) k400 i40 xs)
abbrev Ude (k400:Int) (i40:Int) (xs:List ByteArray) (k400_:Int) (i40_:Int) (xs_:List ByteArray) (K39:Prop):Prop:=((.int .i64 k400:Value)=.int .i64 k400_)∧((.int .i64 i40:Value)=.int .i64 i40_)∧(Imp (.l 1 eStr xs) (.l 1 eStr xs_))∧K39
theorem un13_0 (a:List ByteArray) (k:Int) (i:Nat×(Int×Int×List ByteArray)) (h:Qcf a k i):Ubk a k i (i.1-1) i.2.1 i.2.2.1 i.2.2.2:=⟨hd1 h.1 h.2.1,hd3 h.2.1,hd2 h.2.1,h.2.2⟩
theorem bk13_0 (a:List ByteArray) (k:Int) (i:Nat×(Int×Int×List ByteArray)) (m39:Nat) (k400:Int) (i40:Int) (xs:List ByteArray) (hl:m39<i.1) (e:runL (We a k) m39 (k400,i40,xs)=Uba a k) (h:Qqe a m39 k400 i40 xs):∃ j:Nat×(Int×Int×List ByteArray),Ude k400 i40 xs j.2.1 j.2.2.1 j.2.2.2 (Qcf a k j∧j.1<i.1):=⟨(m39,(k400,i40,xs)),rfl,rfl,Imp.refl _,⟨e,h⟩,hl⟩
theorem en13_0 (a:List ByteArray) (k:Int) (h:(0:Int)≤k∧k+((a.length:Int)-0)≤1000000000∧(0:Int)≤0∧a.length=a.length):Ude k 0 a k 0 a (Qcf a k (Qbi a k)):=⟨rfl,rfl,Imp.refl _,rfl,Nat.lt_succ_self _,h⟩
theorem fi13 (a:List ByteArray) (k:Int) (r:Int×List ByteArray) (hF:r=(F13 a k)):((.int .i64 r.1:Value)=.int .i64 (F13 a k).1)∧(Imp (.l 1 eStr r.2) (.l 1 eStr (F13 a k).2))∧True:=by cases hF; exact ⟨rfl,Imp.refl _,trivial⟩
def S13 (a:List ByteArray) (k:Int):Spec:=⟨[.ow (.l 1 eStr a) (some (.l 1 eStr (F13 a k).2)),.r (.c (.v (vI k)))],.v (vI (F13 a k).1),0≤k∧k+(a.length:Int)≤1000000000⟩
theorem ok13 (a:List ByteArray) (k:Int):(S13 a k).ok Tryz.prog 13 :=
 Qg mixed (fn:=Tryz.f13) (ct:=.seqk [(0,0)] .no (.seq (.seqk [(0,0)] .no (.blk (.loop (ι:=Nat×(Int×Int×List ByteArray)) (fun i=>(fun (k400:Int) (i40:Int) (xs:List ByteArray)=>(⟨[(0,some (.h 0 0)),(1,some (.v (vI k400))),(5,some (.v (vI i40)))],[(0,some (.own 0 (.l 1 eStr xs)))],1⟩:St)) i.2.1 i.2.2.1 i.2.2.2) (Qcf a k) (fun i=>i.1) (Qbi a k) (fun i=>(fun (k400:Int) (i40:Int) (xs:List ByteArray)=>(.seq (.seq .no (.cond .no .no)) (.seq (.blk (.seq (.reg [(3,kh39 k400),(5,.dat (.l 1 eStr (xs.set (i40).toNat (F39 k400))))]) (.reg [(1,.bnd)]))) (.reg [(1,.bnd)])))) i.2.1 i.2.2.1 i.2.2.2)))) (.seq .no .no))) Tryz.func13 (fun (hp:0≤k∧k+(a.length:Int)≤1000000000)=>have hpre0:=hp.1; have hpre1:=hp.2; kn a fun _=>kn a fun _=>ai (en13_0 a k (by refine ⟨?_,?_,?_,?_⟩ <;> first | omega | (simp only [lens,ib] at*<;> omega))) (fun (i0:Nat×(Int×Int×List ByteArray)) (hi0:Qcf a k i0)=>(fun (m0:Nat) (k400:Int) (i40:Int) (xs:List ByteArray) (hh0:Ubk a k i0 m0 k400 i40 xs)=>have hI0:=hh0.1; have hl0:=hh0.2.1; have _:=hh0.2.2.1; have _:=hh0.2.2.2; ifd (i40<(xs.length:Int)) (fun h2 _=>kc39 k400 (by first | omega | (simp only [lens,ib] at*<;> omega)) (ai (by first | omega | (simp only [lens,ib] at*<;> omega):ib i40 xs) (ai (setr 1 eStr xs (i40).toNat (F39 k400)) (ai (iok (k400+1) (by first | omega | (simp only [lens,ib] at*<;> omega))) (ai (iok (i40+1) (by first | omega | (simp only [lens,ib] at*<;> omega))) (bk13_0 a k i0 m0 (k400+1) (i40+1) (xs.set (i40).toNat (F39 k400)) hl0 (Qc hI0 (condT h2 rfl)) (by refine ⟨?_,?_,?_,?_,?_⟩ <;> first | omega | (simp only [lens,ib] at*<;> omega)))))))) (fun h2 _=>have hD0_3:Uba a k=Lp.done (k400,i40,xs):=Qi hI0 (condF h2 rfl); fi13 a k (k400,xs) (finD hD0_3 rfl))) (i0.1-1) i0.2.1 i0.2.2.1 i0.2.2.2 (un13_0 a k i0 hi0))) (by kernel_rfl)
theorem g13_0 (a:List ByteArray) (k:Int):(F13 a k).2.length=a.length:=by
 have h:=Yk (step:=We a k) (fun i (s:Int×List ByteArray)=>(s.1,(i:Int),s.2)) a.length (fun _ s=>s.2.length=a.length) (fun _=>False) (fun i s hi hs=>.inl ⟨(s.1+1,s.2.set i (F39 s.1)),by simp only [We,hs,decide_eq_true (show (i:Int)<(a.length:Int) by omega),cond_true,Int.toNat_natCast]; rfl,by simpa using hs⟩) (fun s hs=>by simp only [We,hs,decide_eq_false (show ¬ (a.length:Int)<(a.length:Int) by omega),cond_false]) a.length 0 (k,a) (by omega) rfl (Int.toNat ((a.length:Int)-0)+1) (by omega)
 show ((runL (We a k) (Int.toNat ((a.length:Int)-0)+1) (k,0,a)).fin (fun r=>r) (fun (k400,i40,xs)=>(k400,xs))).2.length=a.length
 rcases h with ⟨s,e,hs⟩ | ⟨r,_,hr⟩
 ·rw [show (k,(0:Int),a)=((k,a).1,((0:Nat):Int),(k,a).2) from rfl,e]; exact hs
 ·exact hr.elim
theorem Qkp (a:List ByteArray) (k:Int):(F13 a k).1=k+(a.length:Int):=by
 have h:=Yk (step:=We a k) (fun i (s:Int×List ByteArray)=>(s.1,(i:Int),s.2)) a.length (fun i s=>s.2.length=a.length∧s.1=k+(i:Int)) (fun _=>False) (fun i s hi hs=>.inl ⟨(s.1+1,s.2.set i (F39 s.1)),by simp only [We,hs.1,decide_eq_true (show (i:Int)<(a.length:Int) by omega),cond_true,Int.toNat_natCast]; rfl,by
   refine ⟨by simpa using hs.1,?_⟩
   have:=hs.2
   show s.1+1=k+((i+1:Nat):Int)
   omega⟩) (fun s hs=>by simp only [We,hs.1,decide_eq_false (show ¬ (a.length:Int)<(a.length:Int) by omega),cond_false]) a.length 0 (k,a) (by omega) ⟨rfl,by simp⟩ (Int.toNat ((a.length:Int)-0)+1) (by omega)
 show ((runL (We a k) (Int.toNat ((a.length:Int)-0)+1) (k,0,a)).fin (fun r=>r) (fun (k400,i40,xs)=>(k400,xs))).1=k+(a.length:Int)
 rcases h with ⟨s,e,hs⟩ | ⟨r,_,hr⟩
 ·rw [show (k,(0:Int),a)=((k,a).1,((0:Nat):Int),(k,a).2) from rfl,e]; exact hs.2
 ·exact hr.elim
theorem Qkx {α:Type} (L:α→Nat) (c:Nat) (h:∀ x,L x=c):∀ xs:List α,sumL L xs=xs.length*c
 | []=>(Nat.zero_mul c).symm
 | x :: xs=>by rw [Xo,Qkx L c h xs,List.length_cons,Nat.add_one_mul,h x,Nat.add_comm]
def Qfu (a:List ByteArray):(Int×List ByteArray)→Lp (Int×List ByteArray) (List ByteArray):=fun (i40,xs) =>
 bif (decide (i40<(a.length:Int))) then (.next ((i40+1),(xs.set (i40).toNat (a.getD i40.toNat default)))) else (.done (i40,xs))
def F9 (a:List ByteArray):List ByteArray :=
 (runL (Qfu a) (((a.length:Int)-0).toNat+1) (0,(List.replicate (a.length:Int).toNat ((⟨#[]⟩:ByteArray):ByteArray)))).fin (fun r=>r) (fun (i40,xs)=>xs)
abbrev Qmj (a:List ByteArray):Nat×(Int×List ByteArray):=((((a.length:Int)-0).toNat+1),(0,(List.replicate (a.length:Int).toNat (w13_:ByteArray))))
abbrev Ufe (a:List ByteArray) (m39:Nat) (i40:Int) (xs:List ByteArray):Prop:=Int.toNat ((a.length:Int)-i40)<m39∧(0:Int)≤i40∧xs.length=(List.replicate (a.length:Int).toNat (w13_:ByteArray)).length
abbrev lX9_0 (a:List ByteArray):Lp (Int×List ByteArray) (List ByteArray):=LpX (Qfu a) (Qmj a)
abbrev Qmd (a:List ByteArray) (i:Nat×(Int×List ByteArray)):Prop:=LpJ (Qfu a) (Qmj a) i (Ufe a i.1 i.2.1 i.2.2)
abbrev lH9_0 (a:List ByteArray) (i:Nat×(Int×List ByteArray)) (m39:Nat) (i40:Int) (xs:List ByteArray):Prop:=LpH (Qfu a) (Qmj a) i m39 (i40,xs) (Ufe a (m39+1) i40 xs)
abbrev lE9_0 (a:List ByteArray) (i40:Int) (xs:List ByteArray) (i40_:Int) (xs_:List ByteArray) (K39:Prop):Prop:=((.int .i64 i40:Value)=.int .i64 i40_)∧(Im (.l 1 eStr a))∧(Imp (.l 1 eStr xs) (.l 1 eStr xs_))∧K39
theorem un9_0 (a:List ByteArray) (i:Nat×(Int×List ByteArray)) (h:Qmd a i):lH9_0 a i (i.1-1) i.2.1 i.2.2:=⟨hd1 h.1 h.2.1,hd3 h.2.1,hd2 h.2.1,h.2.2⟩
theorem bk9_0 (a:List ByteArray) (i:Nat×(Int×List ByteArray)) (m39:Nat) (i40:Int) (xs:List ByteArray) (hl:m39<i.1) (e:runL (Qfu a) m39 (i40,xs)=lX9_0 a) (h:Ufe a m39 i40 xs):∃ j:Nat×(Int×List ByteArray),lE9_0 a i40 xs j.2.1 j.2.2 (Qmd a j∧j.1<i.1):=⟨(m39,(i40,xs)),rfl,Imp.refl _,Imp.refl _,⟨e,h⟩,hl⟩
theorem en9_0 (a:List ByteArray) (h:(0:Int)≤0∧(List.replicate (a.length:Int).toNat (w13_:ByteArray)).length=(List.replicate (a.length:Int).toNat (w13_:ByteArray)).length):lE9_0 a 0 (List.replicate (a.length:Int).toNat (w13_:ByteArray)) 0 (List.replicate (a.length:Int).toNat (w13_:ByteArray)) (Qmd a (Qmj a)):=⟨rfl,Imp.refl _,Imp.refl _,rfl,Nat.lt_succ_self _,h⟩
theorem fi9 (a:List ByteArray) (r:List ByteArray) (hF:r=(F9 a)):(Imp (.l 1 eStr r) (.l 1 eStr (F9 a)))∧True:=by cases hF; exact ⟨Imp.refl _,trivial⟩
def S9 (R:List ByteArray) (a:List ByteArray):Spec:=⟨[.r (.c (.l 1 eStr a))],.ow (.l 1 eStr R),a.length≤1000000000∧(∀ k:Nat,(a.getD k default).size≤1000000000)⟩
theorem ok9 (a:List ByteArray):(S9 (F9 a) a).ok Tryz.prog 9 :=
 Qg mixed (fn:=Tryz.f9) (ct:=.seqk [(0,0)] .no (.seq (.reg [(2,.dat (.l 1 eStr (List.replicate (a.length:Int).toNat (w13_:ByteArray))))]) (.seq (.seqk [(0,0),(3,0)] .no (.blk (.loop (ι:=Nat×(Int×List ByteArray)) (fun i=>(fun (i40:Int) (xs:List ByteArray)=>(⟨[(0,some (.h 0 0)),(3,some (.h 1 0)),(4,some (.v (vI i40)))],[(0,some (.shr none (.l 1 eStr a))),(1,some (.own 1 (.l 1 eStr xs)))],2⟩:St)) i.2.1 i.2.2) (Qmd a) (fun i=>i.1) (Qmj a) (fun i=>(fun (i40:Int) (xs:List ByteArray)=>(.seq (.seq .no (.cond .no .no)) (.seq (.blk (.reg [(7,.dat (.l 1 eStr (xs.set (i40).toNat (a.getD i40.toNat default))))])) (.reg [(1,.bnd)])))) i.2.1 i.2.2)))) (.seq .no .no)))) Tryz.func9 (fun (hp:a.length≤1000000000∧(∀ k:Nat,(a.getD k default).size≤1000000000))=>have hpre0:=hp.1; have hpre1:=hp.2; kn a fun _=>ai (by first | omega | (simp only [lens,ib] at*<;> omega):0≤(a.length:Int)∧(a.length:Int)≤(a.length:Int)∧(16:Int)*(a.length:Int)≤281474976710656) (ai (MakeOK.mk eStr (w13_:ByteArray) (by exact ai ir trivial):MakeOK 1 [.v (.string w13_)] (a.length:Int).toNat (.l 1 eStr (List.replicate (a.length:Int).toNat (w13_:ByteArray)))) (kn a fun _=>kn (List.replicate (a.length:Int).toNat (w13_:ByteArray)) fun _=>ai (en9_0 a (by refine ⟨?_,?_⟩ <;> first | omega | (simp only [lens,ib] at*<;> omega))) (fun (i0:Nat×(Int×List ByteArray)) (hi0:Qmd a i0)=>(fun (m0:Nat) (i40:Int) (xs:List ByteArray) (hh0:lH9_0 a i0 m0 i40 xs)=>have hI0:=hh0.1; have hl0:=hh0.2.1; have _:=hh0.2.2.1; have _:=hh0.2.2.2; ifd (i40<(a.length:Int)) (fun h2 _=>ai (by first | omega | (simp only [lens,ib] at*<;> omega):ib i40 a) (ai (by first | omega | (simp only [lens,ib] at*<;> omega):ib i40 xs) (ai (setr 1 eStr xs (i40).toNat (a.getD i40.toNat default)) (ai (iok (i40+1) (by first | omega | (simp only [lens,ib] at*<;> omega))) (bk9_0 a i0 m0 (i40+1) (xs.set (i40).toNat (a.getD i40.toNat default)) hl0 (Qc hI0 (condT h2 rfl)) (by refine ⟨?_,?_,?_⟩ <;> first | omega | (simp only [lens,ib] at*<;> omega))))))) (fun h2 _=>have hD0_3:lX9_0 a=Lp.done (i40,xs):=Qi hI0 (condF h2 rfl); fi9 a xs (finD hD0_3 rfl))) (i0.1-1) i0.2.1 i0.2.2 (un9_0 a i0 hi0))))) (by kernel_rfl)
theorem as9 (a:List ByteArray):F9 a=(a):=by
 exact Uie (fun x=>x) (fun _=>rfl) a _ (by simp) (Qfu a) (fun i xs=>rfl)
theorem oa9 (a:List ByteArray):(S9 (a) a).ok Tryz.prog 9:=by
 intro hp; have h:=ok9 a hp; rw [as9 a] at h; exact h
def F94 (a:NetPrefix) (b:NetPrefix):Bool :=
 bif (a.Addr != b.Addr) then false else (bif (a.Len != b.Len) then false else true)
def S94 (R:Bool) (a:NetPrefix) (b:NetPrefix):Spec:=⟨[.r (.g (Qe a)),.r (.g (Qe b))],.v (.bool R),True⟩
theorem ok94 (a:NetPrefix) (b:NetPrefix):(S94 (F94 a b) a b).ok Tryz.prog 94 :=
 Qg mixed (fn:=Tryz.f94) (ct:=.seq .no (.seq (.seq .no (.cond (.seq .no .no) .no)) (.seq (.seq .no (.cond (.seq .no .no) .no)) (.seq .no .no)))) Tryz.func94 (fun (_:True)=>ifn a.Addr b.Addr (fun h1 _=>fiB false (F94 a b) (condT h1 rfl)) (fun h1 _=>ifn a.Len b.Len (fun h2 _=>fiB false (F94 a b) (condF h1 (condT h2 rfl))) (fun h2 _=>fiB true (F94 a b) (condF h1 (condF h2 rfl))))) (by kernel_rfl)
theorem as94 (a:NetPrefix) (b:NetPrefix):F94 a b=(decide (a=b)):=by
 cases a; cases b
 simp only [F94,NetPrefix.mk.injEq,neI,neB,neS,Uan,Bool.decide_and,Bool.and_true]
theorem oa94 (a:NetPrefix) (b:NetPrefix):(S94 (decide (a=b)) a b).ok Tryz.prog 94:=by
 intro hp; have h:=ok94 a b hp; rw [as94 a b] at h; exact h
def F63 (a:AclRule) (b:AclRule):Bool :=
 bif (!(a.Permit==b.Permit)) then false else (bif (!(decide ((⟨a.From.Addr,a.From.Len⟩:NetPrefix)=(⟨b.From.Addr,b.From.Len⟩:NetPrefix)))) then false else (bif (!(decide ((⟨a.To.Addr,a.To.Len⟩:NetPrefix)=(⟨b.To.Addr,b.To.Len⟩:NetPrefix)))) then false else (bif (a.Kind != b.Kind) then false else true)))
def S63 (R:Bool) (a:AclRule) (b:AclRule):Spec:=⟨[.r (.g (Qd a)),.r (.g (Qd b))],.v (.bool R),True⟩
theorem ok63 (a:AclRule) (b:AclRule):(S63 (F63 a b) a b).ok Tryz.prog 63 :=
 Qg mixed (fn:=Tryz.f63) (ct:=.seq .no (.seq (.seq .no (.cond (.seq .no .no) .no)) (.seq (.seq (.reg [(4,.call 94 (S94 (decide ((⟨a.From.Addr,a.From.Len⟩:NetPrefix)=(⟨b.From.Addr,b.From.Len⟩:NetPrefix))) (⟨a.From.Addr,a.From.Len⟩:NetPrefix) (⟨b.From.Addr,b.From.Len⟩:NetPrefix)) (oa94 (⟨a.From.Addr,a.From.Len⟩:NetPrefix) (⟨b.From.Addr,b.From.Len⟩:NetPrefix)) none)]) (.cond (.seq .no .no) .no)) (.seq (.seq (.reg [(4,.call 94 (S94 (decide ((⟨a.To.Addr,a.To.Len⟩:NetPrefix)=(⟨b.To.Addr,b.To.Len⟩:NetPrefix))) (⟨a.To.Addr,a.To.Len⟩:NetPrefix) (⟨b.To.Addr,b.To.Len⟩:NetPrefix)) (oa94 (⟨a.To.Addr,a.To.Len⟩:NetPrefix) (⟨b.To.Addr,b.To.Len⟩:NetPrefix)) none)]) (.cond (.seq .no .no) .no)) (.seq (.seq .no (.cond (.seq .no .no) .no)) (.seq .no .no)))))) Tryz.func63 (fun (_:True)=>ifb (!(a.Permit==b.Permit)) (fun h1=>fiB false (F63 a b) (condT h1 rfl)) (fun h1=>ai trivial (ai (Imps.refl (Qe (⟨a.From.Addr,a.From.Len⟩:NetPrefix))) (ai (Imps.refl (Qe (⟨b.From.Addr,b.From.Len⟩:NetPrefix))) (ifb (!(decide ((⟨a.From.Addr,a.From.Len⟩:NetPrefix)=(⟨b.From.Addr,b.From.Len⟩:NetPrefix)))) (fun h2=>have _:=of_decide_eq_false (Kd h2); fiB false (F63 a b) (condF h1 (condT h2 rfl))) (fun h2=>have _:=of_decide_eq_true (Uq h2); ai trivial (ai (Imps.refl (Qe (⟨a.To.Addr,a.To.Len⟩:NetPrefix))) (ai (Imps.refl (Qe (⟨b.To.Addr,b.To.Len⟩:NetPrefix))) (ifb (!(decide ((⟨a.To.Addr,a.To.Len⟩:NetPrefix)=(⟨b.To.Addr,b.To.Len⟩:NetPrefix)))) (fun h3=>have _:=of_decide_eq_false (Kd h3); fiB false (F63 a b) (condF h1 (condF h2 (condT h3 rfl)))) (fun h3=>have _:=of_decide_eq_true (Uq h3); ifn a.Kind b.Kind (fun h4 _=>fiB false (F63 a b) (condF h1 (condF h2 (condF h3 (condT h4 rfl))))) (fun h4 _=>fiB true (F63 a b) (condF h1 (condF h2 (condF h3 (condF h4 rfl))))))))))))))) (by kernel_rfl)
theorem as63 (a:AclRule) (b:AclRule):F63 a b=(decide (a=b)):=by
 cases a; cases b
 simp only [F63,AclRule.mk.injEq,neI,neB,neS,Uan,Bool.decide_and,Bool.and_true]
theorem oa63 (a:AclRule) (b:AclRule):(S63 (decide (a=b)) a b).ok Tryz.prog 63:=by
 intro hp; have h:=ok63 a b hp; rw [as63 a b] at h; exact h
def Tv (a:List AclRule) (b:List AclRule):Int→Lp Int Bool:=fun i40 =>
 bif (decide (i40<(a.length:Int))) then (bif (!(decide ((⟨(a.getD i40.toNat default).Permit,(⟨(a.getD i40.toNat default).From.Addr,(a.getD i40.toNat default).From.Len⟩:NetPrefix),(⟨(a.getD i40.toNat default).To.Addr,(a.getD i40.toNat default).To.Len⟩:NetPrefix),(a.getD i40.toNat default).Kind⟩:AclRule)=(⟨(b.getD i40.toNat default).Permit,(⟨(b.getD i40.toNat default).From.Addr,(b.getD i40.toNat default).From.Len⟩:NetPrefix),(⟨(b.getD i40.toNat default).To.Addr,(b.getD i40.toNat default).To.Len⟩:NetPrefix),(b.getD i40.toNat default).Kind⟩:AclRule)))) then (.ret false) else (.next (i40+1))) else (.done i40)
def F28 (a:List AclRule) (b:List AclRule):Bool :=
 bif ((a.length:Int) != (b.length:Int)) then false else ((runL (Tv a b) (((a.length:Int)-0).toNat+1) 0).fin (fun r=>r) (fun i40=>true))
abbrev Qds (a:List AclRule):Nat×Int:=((((a.length:Int)-0).toNat+1),0)
abbrev Qom (a:List AclRule) (m39:Nat) (i40:Int):Prop:=Int.toNat ((a.length:Int)-i40)<m39∧(0:Int)≤i40
abbrev Uci (a:List AclRule) (b:List AclRule):Lp Int Bool:=LpX (Tv a b) (Qds a)
abbrev Qby (a:List AclRule) (b:List AclRule) (i:Nat×Int):Prop:=LpJ (Tv a b) (Qds a) i (Qom a i.1 i.2)
abbrev Ubu (a:List AclRule) (b:List AclRule) (i:Nat×Int) (m39:Nat) (i40:Int):Prop:=LpH (Tv a b) (Qds a) i m39 i40 (Qom a (m39+1) i40)
abbrev Qyp (a:List AclRule) (b:List AclRule) (i40:Int) (i40_:Int) (K39:Prop):Prop:=((.int .i64 i40:Value)=.int .i64 i40_)∧(Im (.l 6 Qd a))∧(Im (.l 6 Qd b))∧K39
theorem un28_0 (a:List AclRule) (b:List AclRule) (i:Nat×Int) (h:Qby a b i):Ubu a b i (i.1-1) i.2:=⟨hd1 h.1 h.2.1,hd3 h.2.1,hd2 h.2.1,h.2.2⟩
theorem bk28_0 (a:List AclRule) (b:List AclRule) (i:Nat×Int) (m39:Nat) (i40:Int) (hl:m39<i.1) (e:runL (Tv a b) m39 i40=Uci a b) (h:Qom a m39 i40):∃ j:Nat×Int,Qyp a b i40 j.2 (Qby a b j∧j.1<i.1):=⟨(m39,i40),rfl,Imp.refl _,Imp.refl _,⟨e,h⟩,hl⟩
theorem en28_0 (a:List AclRule) (b:List AclRule) (h:(0:Int)≤0):Qyp a b 0 0 (Qby a b (Qds a)):=⟨rfl,Imp.refl _,Imp.refl _,rfl,Nat.lt_succ_self _,h⟩
def S28 (R:Bool) (a:List AclRule) (b:List AclRule):Spec:=⟨[.r (.c (.l 6 Qd a)),.r (.c (.l 6 Qd b))],.v (.bool R),True⟩
abbrev Qms (a:List AclRule) (i40:Int):=(⟨(a.getD i40.toNat default).Permit,(⟨(a.getD i40.toNat default).From.Addr,(a.getD i40.toNat default).From.Len⟩:NetPrefix),(⟨(a.getD i40.toNat default).To.Addr,(a.getD i40.toNat default).To.Len⟩:NetPrefix),(a.getD i40.toNat default).Kind⟩:AclRule)
abbrev Qku (b:List AclRule) (i40:Int):=(⟨(b.getD i40.toNat default).Permit,(⟨(b.getD i40.toNat default).From.Addr,(b.getD i40.toNat default).From.Len⟩:NetPrefix),(⟨(b.getD i40.toNat default).To.Addr,(b.getD i40.toNat default).To.Len⟩:NetPrefix),(b.getD i40.toNat default).Kind⟩:AclRule)
theorem ok28 (a:List AclRule) (b:List AclRule):(S28 (F28 a b) a b).ok Tryz.prog 28 :=
 Qg mixed (fn:=Tryz.f28) (ct:=.seqk [(0,0),(1,0)] .no (.seq (.seq .no (.cond (.seq .no .no) .no)) (.seq (.seqk [(0,0),(1,0)] .no (.blk (.loop (ι:=Nat×Int) (fun i=>(fun (i40:Int)=>(⟨[(0,some (.h 0 0)),(1,some (.h 1 0)),(5,some (.v (vI i40)))],[(0,some (.shr none (.l 6 Qd a))),(1,some (.shr none (.l 6 Qd b)))],2⟩:St)) i.2) (Qby a b) (fun i=>i.1) (Qds a) (fun i=>(fun (i40:Int)=>(.seq (.seq .no (.cond .no .no)) (.seq (.blk (.seq (.reg [(8,.call 63 (S63 (decide ((Qms a i40)=(Qku b i40))) (Qms a i40) (Qku b i40)) (oa63 (Qms a i40) (Qku b i40)) none)]) (.cond (.seq .no .no) .no))) (.reg [(1,.bnd)])))) i.2)))) (.seq .no .no)))) Tryz.func28 (fun (_:True)=>kn a fun _=>kn b fun _=>ifn (a.length:Int) (b.length:Int) (fun h1 _=>fiB false (F28 a b) (condT h1 rfl)) (fun h1 _=>kn a fun _=>kn b fun _=>ai (en28_0 a b (by omega)) (fun (i0:Nat×Int) (hi0:Qby a b i0)=>(fun (m0:Nat) (i40:Int) (hh0:Ubu a b i0 m0 i40)=>have hI0:=hh0.1; have hl0:=hh0.2.1; have _:=hh0.2.2.1; have _:=hh0.2.2.2; ifd (i40<(a.length:Int)) (fun h3 _=>ai (by omega:ib i40 a) (ai (by omega:ib i40 b) (ai trivial (ai (Imps.refl (Qd (Qms a i40))) (ai (Imps.refl (Qd (Qku b i40))) (ifb (!(decide ((Qms a i40)=(Qku b i40)))) (fun h4=>have _:=of_decide_eq_false (Kd h4); fiB false (F28 a b) (condF h1 (finR (Qp hI0 (condT h3 (condT h4 rfl))) rfl))) (fun h4=>have _:=of_decide_eq_true (Uq h4); ai (iok (i40+1) (by omega)) (bk28_0 a b i0 m0 (i40+1) hl0 (Qc hI0 (condT h3 (condF h4 rfl))) (by refine ⟨?_,?_⟩ <;> omega))))))))) (fun h3 _=>have hD0_5:Uci a b=Lp.done i40:=Qi hI0 (condF h3 rfl); fiB true (F28 a b) (condF h1 (finD hD0_5 rfl)))) (i0.1-1) i0.2 (un28_0 a b i0 hi0)))) (by kernel_rfl)
theorem as28 (a:List AclRule) (b:List AclRule):F28 a b=(decide (a=b)):=by
 exact Qrb (fun x y=>decide (x=y)) (fun _ _=>rfl) a b (Tv a b) (fun i=>rfl)
theorem oa28 (a:List AclRule) (b:List AclRule):(S28 (decide (a=b)) a b).ok Tryz.prog 28:=by
 intro hp; have h:=ok28 a b hp; rw [as28 a b] at h; exact h
def Lq (a:List ByteArray) (b:List ByteArray):Int→Lp Int Bool:=fun i40 =>
 bif (decide (i40<(a.length:Int))) then (bif (!((a.getD i40.toNat default).toList==(b.getD i40.toNat default).toList)) then (.ret false) else (.next (i40+1))) else (.done i40)
def F12 (a:List ByteArray) (b:List ByteArray):Bool :=
 bif ((a.length:Int) != (b.length:Int)) then false else ((runL (Lq a b) (((a.length:Int)-0).toNat+1) 0).fin (fun r=>r) (fun i40=>true))
abbrev Qdy (a:List ByteArray):Nat×Int:=((((a.length:Int)-0).toNat+1),0)
abbrev Qnw (a:List ByteArray) (m39:Nat) (i40:Int):Prop:=Int.toNat ((a.length:Int)-i40)<m39∧(0:Int)≤i40
abbrev Qze (a:List ByteArray) (b:List ByteArray):Lp Int Bool:=LpX (Lq a b) (Qdy a)
abbrev Qcp (a:List ByteArray) (b:List ByteArray) (i:Nat×Int):Prop:=LpJ (Lq a b) (Qdy a) i (Qnw a i.1 i.2)
abbrev Ubj (a:List ByteArray) (b:List ByteArray) (i:Nat×Int) (m39:Nat) (i40:Int):Prop:=LpH (Lq a b) (Qdy a) i m39 i40 (Qnw a (m39+1) i40)
abbrev Ucl (a:List ByteArray) (b:List ByteArray) (i40:Int) (i40_:Int) (K39:Prop):Prop:=((.int .i64 i40:Value)=.int .i64 i40_)∧(Im (.l 1 eStr a))∧(Im (.l 1 eStr b))∧K39
theorem un12_0 (a:List ByteArray) (b:List ByteArray) (i:Nat×Int) (h:Qcp a b i):Ubj a b i (i.1-1) i.2:=⟨hd1 h.1 h.2.1,hd3 h.2.1,hd2 h.2.1,h.2.2⟩
theorem bk12_0 (a:List ByteArray) (b:List ByteArray) (i:Nat×Int) (m39:Nat) (i40:Int) (hl:m39<i.1) (e:runL (Lq a b) m39 i40=Qze a b) (h:Qnw a m39 i40):∃ j:Nat×Int,Ucl a b i40 j.2 (Qcp a b j∧j.1<i.1):=⟨(m39,i40),rfl,Imp.refl _,Imp.refl _,⟨e,h⟩,hl⟩
theorem en12_0 (a:List ByteArray) (b:List ByteArray) (h:(0:Int)≤0):Ucl a b 0 0 (Qcp a b (Qdy a)):=⟨rfl,Imp.refl _,Imp.refl _,rfl,Nat.lt_succ_self _,h⟩
def S12 (R:Bool) (a:List ByteArray) (b:List ByteArray):Spec:=⟨[.r (.c (.l 1 eStr a)),.r (.c (.l 1 eStr b))],.v (.bool R),True⟩
theorem ok12 (a:List ByteArray) (b:List ByteArray):(S12 (F12 a b) a b).ok Tryz.prog 12 :=
 Qg mixed (fn:=Tryz.f12) (ct:=.seqk [(0,0),(1,0)] .no (.seq (.seq .no (.cond (.seq .no .no) .no)) (.seq (.seqk [(0,0),(1,0)] .no (.blk (.loop (ι:=Nat×Int) (fun i=>(fun (i40:Int)=>(⟨[(0,some (.h 0 0)),(1,some (.h 1 0)),(5,some (.v (vI i40)))],[(0,some (.shr none (.l 1 eStr a))),(1,some (.shr none (.l 1 eStr b)))],2⟩:St)) i.2) (Qcp a b) (fun i=>i.1) (Qdy a) (fun i=>(fun (i40:Int)=>(.seq (.seq .no (.cond .no .no)) (.seq (.blk (.seq .no (.cond (.seq .no .no) .no))) (.reg [(1,.bnd)])))) i.2)))) (.seq .no .no)))) Tryz.func12 (fun (_:True)=>kn a fun _=>kn b fun _=>ifn (a.length:Int) (b.length:Int) (fun h1 _=>fiB false (F12 a b) (condT h1 rfl)) (fun h1 _=>kn a fun _=>kn b fun _=>ai (en12_0 a b (by omega)) (fun (i0:Nat×Int) (hi0:Qcp a b i0)=>(fun (m0:Nat) (i40:Int) (hh0:Ubj a b i0 m0 i40)=>have hI0:=hh0.1; have hl0:=hh0.2.1; have _:=hh0.2.2.1; have _:=hh0.2.2.2; ifd (i40<(a.length:Int)) (fun h3 _=>ai (by omega:ib i40 a) (ai (by omega:ib i40 b) (ifb (!((a.getD i40.toNat default).toList==(b.getD i40.toNat default).toList)) (fun h4=>fiB false (F12 a b) (condF h1 (finR (Qp hI0 (condT h3 (condT h4 rfl))) rfl))) (fun h4=>ai (iok (i40+1) (by omega)) (bk12_0 a b i0 m0 (i40+1) hl0 (Qc hI0 (condT h3 (condF h4 rfl))) (by refine ⟨?_,?_⟩ <;> omega)))))) (fun h3 _=>have hD0_5:Qze a b=Lp.done i40:=Qi hI0 (condF h3 rfl); fiB true (F12 a b) (condF h1 (finD hD0_5 rfl)))) (i0.1-1) i0.2 (un12_0 a b i0 hi0)))) (by kernel_rfl)
theorem as12 (a:List ByteArray) (b:List ByteArray):F12 a b=(decide (a=b)):=by
 exact Qrb (fun x y=>decide (x=y)) (fun _ _=>rfl) a b (Lq a b) (fun i=>by simp only [Lq,neI,neB,neS])
theorem oa12 (a:List ByteArray) (b:List ByteArray):(S12 (decide (a=b)) a b).ok Tryz.prog 12:=by
 intro hp; have h:=ok12 a b hp; rw [as12 a b] at h; exact h
def Rw (a:List AclRule) (k:Int):(Int×Int×List AclRule)→Lp (Int×Int×List AclRule) (Int×List AclRule):=fun (k400,i40,xs) =>
 bif (decide (i40<(xs.length:Int))) then (.next ((IntKind.i64.wrap ((IntKind.i64.wrap ((IntKind.i64.wrap ((IntKind.i64.wrap ((IntKind.i64.wrap ((IntKind.i64.wrap (k400+1))+1))+1))+1))+1))+1)),(i40+1),(xs.set (i40).toNat (⟨((k400.tmod 3)==0),(⟨(IntKind.i64.wrap (k400+1)),(IntKind.i64.wrap ((IntKind.i64.wrap (k400+1))+1))⟩:NetPrefix),(⟨(IntKind.i64.wrap ((IntKind.i64.wrap ((IntKind.i64.wrap (k400+1))+1))+1)),(IntKind.i64.wrap ((IntKind.i64.wrap ((IntKind.i64.wrap ((IntKind.i64.wrap (k400+1))+1))+1))+1))⟩:NetPrefix),(IntKind.i64.wrap ((IntKind.i64.wrap ((IntKind.i64.wrap ((IntKind.i64.wrap ((IntKind.i64.wrap (k400+1))+1))+1))+1))+1))⟩:AclRule)))) else (.done (k400,i40,xs))
def F29 (a:List AclRule) (k:Int):Int×List AclRule :=
 (runL (Rw a k) (((a.length:Int)-0).toNat+1) (k,0,a)).fin (fun r=>r) (fun (k400,i40,xs)=>(k400,xs))
abbrev Qcu (a:List AclRule) (k:Int):Nat×(Int×Int×List AclRule):=((((a.length:Int)-0).toNat+1),(k,0,a))
abbrev Qpj (a:List AclRule) (m39:Nat) (k400:Int) (i40:Int) (xs:List AclRule):Prop:=Int.toNat ((xs.length:Int)-i40)<m39∧(0:Int)≤i40∧xs.length=a.length
abbrev Ucu (a:List AclRule) (k:Int):Lp (Int×Int×List AclRule) (Int×List AclRule):=LpX (Rw a k) (Qcu a k)
abbrev Qba (a:List AclRule) (k:Int) (i:Nat×(Int×Int×List AclRule)):Prop:=LpJ (Rw a k) (Qcu a k) i (Qpj a i.1 i.2.1 i.2.2.1 i.2.2.2)
abbrev Udb (a:List AclRule) (k:Int) (i:Nat×(Int×Int×List AclRule)) (m39:Nat) (k400:Int) (i40:Int) (xs:List AclRule):Prop:=LpH (Rw a k) (Qcu a k) i m39 (k400,i40,xs) (Qpj a (m39+1) k400 i40 xs)
abbrev Uai (k400:Int) (i40:Int) (xs:List AclRule) (k400_:Int) (i40_:Int) (xs_:List AclRule) (K39:Prop):Prop:=((.int .i64 k400:Value)=.int .i64 k400_)∧((.int .i64 i40:Value)=.int .i64 i40_)∧(Imp (.l 6 Qd xs) (.l 6 Qd xs_))∧K39
theorem un29_0 (a:List AclRule) (k:Int) (i:Nat×(Int×Int×List AclRule)) (h:Qba a k i):Udb a k i (i.1-1) i.2.1 i.2.2.1 i.2.2.2:=⟨hd1 h.1 h.2.1,hd3 h.2.1,hd2 h.2.1,h.2.2⟩
theorem bk29_0 (a:List AclRule) (k:Int) (i:Nat×(Int×Int×List AclRule)) (m39:Nat) (k400:Int) (i40:Int) (xs:List AclRule) (hl:m39<i.1) (e:runL (Rw a k) m39 (k400,i40,xs)=Ucu a k) (h:Qpj a m39 k400 i40 xs):∃ j:Nat×(Int×Int×List AclRule),Uai k400 i40 xs j.2.1 j.2.2.1 j.2.2.2 (Qba a k j∧j.1<i.1):=⟨(m39,(k400,i40,xs)),rfl,rfl,Imp.refl _,⟨e,h⟩,hl⟩
theorem en29_0 (a:List AclRule) (k:Int) (h:(0:Int)≤0∧a.length=a.length):Uai k 0 a k 0 a (Qba a k (Qcu a k)):=⟨rfl,rfl,Imp.refl _,rfl,Nat.lt_succ_self _,h⟩
theorem fi29 (a:List AclRule) (k:Int) (r:Int×List AclRule) (hF:r=(F29 a k)):((.int .i64 r.1:Value)=.int .i64 (F29 a k).1)∧(Imp (.l 6 Qd r.2) (.l 6 Qd (F29 a k).2))∧True:=by cases hF; exact ⟨rfl,Imp.refl _,trivial⟩
def S29 (a:List AclRule) (k:Int):Spec:=⟨[.ow (.l 6 Qd a) (some (.l 6 Qd (F29 a k).2)),.r (.c (.v (vI k)))],.v (vI (F29 a k).1),True⟩
abbrev Kj (xs:List AclRule) (i40:Int):=(⟨(xs.getD i40.toNat default).To.Addr,(xs.getD i40.toNat default).To.Len⟩:NetPrefix)
abbrev Qab (k400:Int) (xs:List AclRule) (i40:Int):=(⟨((k400.tmod 3)==0),(⟨(xs.getD i40.toNat default).From.Addr,(xs.getD i40.toNat default).From.Len⟩:NetPrefix),(Kj xs i40),(xs.getD i40.toNat default).Kind⟩:AclRule)
abbrev Qz (xs:List AclRule) (i40:Int):=(xs.getD i40.toNat default)
theorem ok29 (a:List AclRule) (k:Int):(S29 a k).ok Tryz.prog 29 :=
 Qg mixed (fn:=Tryz.f29) (ct:=.seqk [(0,0)] .no (.seq (.seqk [(0,0)] .no (.blk (.loop (ι:=Nat×(Int×Int×List AclRule)) (fun i=>(fun (k400:Int) (i40:Int) (xs:List AclRule)=>(⟨[(0,some (.h 0 0)),(1,some (.v (vI k400))),(5,some (.v (vI i40)))],[(0,some (.own 0 (.l 6 Qd xs)))],1⟩:St)) i.2.1 i.2.2.1 i.2.2.2) (Qba a k) (fun i=>i.1) (Qcu a k) (fun i=>(fun (k400:Int) (i40:Int) (xs:List AclRule)=>(.seq (.seq .no (.cond .no .no)) (.seq (.blk (.seq (.reg [(7,.dat (.l 6 Qd (xs.set (i40).toNat (Qab k400 xs i40))))]) (.seq .no (.seq (.reg [(3,.ix (Qd (Qab k400 xs i40))),(6,.dat (.l 6 Qd (xs.set (i40).toNat (⟨((k400.tmod 3)==0),(⟨(IntKind.i64.wrap (k400+1)),(Qz xs i40).From.Len⟩:NetPrefix),(Kj xs i40),(Qz xs i40).Kind⟩:AclRule))))]) (.seq .no (.seq (.reg [(3,.ix (Qd (⟨((k400.tmod 3)==0),(⟨(IntKind.i64.wrap (k400+1)),(Qz xs i40).From.Len⟩:NetPrefix),(Kj xs i40),(Qz xs i40).Kind⟩:AclRule))),(6,.dat (.l 6 Qd (xs.set (i40).toNat (⟨((k400.tmod 3)==0),(⟨(IntKind.i64.wrap (k400+1)),(IntKind.i64.wrap ((IntKind.i64.wrap (k400+1))+1))⟩:NetPrefix),(Kj xs i40),(Qz xs i40).Kind⟩:AclRule))))]) (.seq .no (.seq (.reg [(3,.ix (Qd (⟨((k400.tmod 3)==0),(⟨(IntKind.i64.wrap (k400+1)),(IntKind.i64.wrap ((IntKind.i64.wrap (k400+1))+1))⟩:NetPrefix),(Kj xs i40),(Qz xs i40).Kind⟩:AclRule))),(6,.dat (.l 6 Qd (xs.set (i40).toNat (⟨((k400.tmod 3)==0),(⟨(IntKind.i64.wrap (k400+1)),(IntKind.i64.wrap ((IntKind.i64.wrap (k400+1))+1))⟩:NetPrefix),(⟨(IntKind.i64.wrap ((IntKind.i64.wrap ((IntKind.i64.wrap (k400+1))+1))+1)),(Qz xs i40).To.Len⟩:NetPrefix),(Qz xs i40).Kind⟩:AclRule))))]) (.seq .no (.seq (.reg [(3,.ix (Qd (⟨((k400.tmod 3)==0),(⟨(IntKind.i64.wrap (k400+1)),(IntKind.i64.wrap ((IntKind.i64.wrap (k400+1))+1))⟩:NetPrefix),(⟨(IntKind.i64.wrap ((IntKind.i64.wrap ((IntKind.i64.wrap (k400+1))+1))+1)),(Qz xs i40).To.Len⟩:NetPrefix),(Qz xs i40).Kind⟩:AclRule))),(6,.dat (.l 6 Qd (xs.set (i40).toNat (⟨((k400.tmod 3)==0),(⟨(IntKind.i64.wrap (k400+1)),(IntKind.i64.wrap ((IntKind.i64.wrap (k400+1))+1))⟩:NetPrefix),(⟨(IntKind.i64.wrap ((IntKind.i64.wrap ((IntKind.i64.wrap (k400+1))+1))+1)),(IntKind.i64.wrap ((IntKind.i64.wrap ((IntKind.i64.wrap ((IntKind.i64.wrap (k400+1))+1))+1))+1))⟩:NetPrefix),(Qz xs i40).Kind⟩:AclRule))))]) (.seq .no (.seq (.reg [(3,.ix (Qd (⟨((k400.tmod 3)==0),(⟨(IntKind.i64.wrap (k400+1)),(IntKind.i64.wrap ((IntKind.i64.wrap (k400+1))+1))⟩:NetPrefix),(⟨(IntKind.i64.wrap ((IntKind.i64.wrap ((IntKind.i64.wrap (k400+1))+1))+1)),(IntKind.i64.wrap ((IntKind.i64.wrap ((IntKind.i64.wrap ((IntKind.i64.wrap (k400+1))+1))+1))+1))⟩:NetPrefix),(Qz xs i40).Kind⟩:AclRule))),(5,.dat (.l 6 Qd (xs.set (i40).toNat (⟨((k400.tmod 3)==0),(⟨(IntKind.i64.wrap (k400+1)),(IntKind.i64.wrap ((IntKind.i64.wrap (k400+1))+1))⟩:NetPrefix),(⟨(IntKind.i64.wrap ((IntKind.i64.wrap ((IntKind.i64.wrap (k400+1))+1))+1)),(IntKind.i64.wrap ((IntKind.i64.wrap ((IntKind.i64.wrap ((IntKind.i64.wrap (k400+1))+1))+1))+1))⟩:NetPrefix),(IntKind.i64.wrap ((IntKind.i64.wrap ((IntKind.i64.wrap ((IntKind.i64.wrap ((IntKind.i64.wrap (k400+1))+1))+1))+1))+1))⟩:AclRule))))]) .no)))))))))))) (.reg [(1,.bnd)])))) i.2.1 i.2.2.1 i.2.2.2)))) (.seq .no .no))) Tryz.func29 (fun (_:True)=>kn a fun _=>kn a fun _=>ai (en29_0 a k (by refine ⟨?_,?_⟩ <;> first | omega | (simp only [lens,ib] at*<;> omega))) (fun (i0:Nat×(Int×Int×List AclRule)) (hi0:Qba a k i0)=>(fun (m0:Nat) (k400:Int) (i40:Int) (xs:List AclRule) (hh0:Udb a k i0 m0 k400 i40 xs)=>have hI0:=hh0.1; have hl0:=hh0.2.1; have _:=hh0.2.2.1; have _:=hh0.2.2.2; ifd (i40<(xs.length:Int)) (fun h2 _=>ai (by first | omega | (simp only [lens,ib] at*<;> omega):¬ (3:Int)=0) (ai (by first | omega | (simp only [lens,ib] at*<;> omega):ib i40 xs) (ai (setr 6 Qd xs (i40).toNat (Qab k400 xs i40)) (ai (by first | omega | (simp only [lens,ib] at*<;> omega):0≤i40∧i40<((xs.set (i40).toNat (Qab k400 xs i40)).length:Int)) (ai (Imps.of_eq (congrArg Qd (Ya xs (i40).toNat (Qab k400 xs i40) (by first | omega | (simp only [lens,ib] at*<;> omega):(i40).toNat<xs.length)))) (ai (SetOK.mk2 Qd xs (Qab k400 xs i40) (⟨((k400.tmod 3)==0),(⟨(IntKind.i64.wrap (k400+1)),(Qz xs i40).From.Len⟩:NetPrefix),(Kj xs i40),(Qz xs i40).Kind⟩:AclRule) (by first | omega | (simp only [lens,ib] at*<;> omega):(i40).toNat<xs.length) (by exact ai ir (ai ir (ai ir (ai ir (ai ir (ai ir trivial)))))):SetOK (.l 6 Qd (xs.set (i40).toNat (Qab k400 xs i40))) (i40).toNat (Qd (Qab k400 xs i40)) [.v (.bool ((k400.tmod 3)==0)),.v (vI (IntKind.i64.wrap (k400+1))),.v (vI (Qz xs i40).From.Len),.v (vI (Qz xs i40).To.Addr),.v (vI (Qz xs i40).To.Len),.v (vI (Qz xs i40).Kind)] (.l 6 Qd (xs.set (i40).toNat (⟨((k400.tmod 3)==0),(⟨(IntKind.i64.wrap (k400+1)),(Qz xs i40).From.Len⟩:NetPrefix),(Kj xs i40),(Qz xs i40).Kind⟩:AclRule)))) (ai (by first | omega | (simp only [lens,ib] at*<;> omega):0≤i40∧i40<((xs.set (i40).toNat (⟨((k400.tmod 3)==0),(⟨(IntKind.i64.wrap (k400+1)),(Qz xs i40).From.Len⟩:NetPrefix),(Kj xs i40),(Qz xs i40).Kind⟩:AclRule)).length:Int)) (ai (Imps.of_eq (congrArg Qd (Ya xs (i40).toNat (⟨((k400.tmod 3)==0),(⟨(IntKind.i64.wrap (k400+1)),(Qz xs i40).From.Len⟩:NetPrefix),(Kj xs i40),(Qz xs i40).Kind⟩:AclRule) (by first | omega | (simp only [lens,ib] at*<;> omega):(i40).toNat<xs.length)))) (ai (SetOK.mk2 Qd xs (⟨((k400.tmod 3)==0),(⟨(IntKind.i64.wrap (k400+1)),(Qz xs i40).From.Len⟩:NetPrefix),(Kj xs i40),(Qz xs i40).Kind⟩:AclRule) (⟨((k400.tmod 3)==0),(⟨(IntKind.i64.wrap (k400+1)),(IntKind.i64.wrap ((IntKind.i64.wrap (k400+1))+1))⟩:NetPrefix),(Kj xs i40),(Qz xs i40).Kind⟩:AclRule) (by first | omega | (simp only [lens,ib] at*<;> omega):(i40).toNat<xs.length) (by exact ai ir (ai ir (ai ir (ai ir (ai ir (ai ir trivial)))))):SetOK (.l 6 Qd (xs.set (i40).toNat (⟨((k400.tmod 3)==0),(⟨(IntKind.i64.wrap (k400+1)),(Qz xs i40).From.Len⟩:NetPrefix),(Kj xs i40),(Qz xs i40).Kind⟩:AclRule))) (i40).toNat (Qd (⟨((k400.tmod 3)==0),(⟨(IntKind.i64.wrap (k400+1)),(Qz xs i40).From.Len⟩:NetPrefix),(Kj xs i40),(Qz xs i40).Kind⟩:AclRule)) [.v (.bool ((k400.tmod 3)==0)),.v (vI (IntKind.i64.wrap (k400+1))),.v (vI (IntKind.i64.wrap ((IntKind.i64.wrap (k400+1))+1))),.v (vI (Qz xs i40).To.Addr),.v (vI (Qz xs i40).To.Len),.v (vI (Qz xs i40).Kind)] (.l 6 Qd (xs.set (i40).toNat (⟨((k400.tmod 3)==0),(⟨(IntKind.i64.wrap (k400+1)),(IntKind.i64.wrap ((IntKind.i64.wrap (k400+1))+1))⟩:NetPrefix),(Kj xs i40),(Qz xs i40).Kind⟩:AclRule)))) (ai (by first | omega | (simp only [lens,ib] at*<;> omega):0≤i40∧i40<((xs.set (i40).toNat (⟨((k400.tmod 3)==0),(⟨(IntKind.i64.wrap (k400+1)),(IntKind.i64.wrap ((IntKind.i64.wrap (k400+1))+1))⟩:NetPrefix),(Kj xs i40),(Qz xs i40).Kind⟩:AclRule)).length:Int)) (ai (Imps.of_eq (congrArg Qd (Ya xs (i40).toNat (⟨((k400.tmod 3)==0),(⟨(IntKind.i64.wrap (k400+1)),(IntKind.i64.wrap ((IntKind.i64.wrap (k400+1))+1))⟩:NetPrefix),(Kj xs i40),(Qz xs i40).Kind⟩:AclRule) (by first | omega | (simp only [lens,ib] at*<;> omega):(i40).toNat<xs.length)))) (ai (SetOK.mk2 Qd xs (⟨((k400.tmod 3)==0),(⟨(IntKind.i64.wrap (k400+1)),(IntKind.i64.wrap ((IntKind.i64.wrap (k400+1))+1))⟩:NetPrefix),(Kj xs i40),(Qz xs i40).Kind⟩:AclRule) (⟨((k400.tmod 3)==0),(⟨(IntKind.i64.wrap (k400+1)),(IntKind.i64.wrap ((IntKind.i64.wrap (k400+1))+1))⟩:NetPrefix),(⟨(IntKind.i64.wrap ((IntKind.i64.wrap ((IntKind.i64.wrap (k400+1))+1))+1)),(Qz xs i40).To.Len⟩:NetPrefix),(Qz xs i40).Kind⟩:AclRule) (by first | omega | (simp only [lens,ib] at*<;> omega):(i40).toNat<xs.length) (by exact ai ir (ai ir (ai ir (ai ir (ai ir (ai ir trivial)))))):SetOK (.l 6 Qd (xs.set (i40).toNat (⟨((k400.tmod 3)==0),(⟨(IntKind.i64.wrap (k400+1)),(IntKind.i64.wrap ((IntKind.i64.wrap (k400+1))+1))⟩:NetPrefix),(Kj xs i40),(Qz xs i40).Kind⟩:AclRule))) (i40).toNat (Qd (⟨((k400.tmod 3)==0),(⟨(IntKind.i64.wrap (k400+1)),(IntKind.i64.wrap ((IntKind.i64.wrap (k400+1))+1))⟩:NetPrefix),(Kj xs i40),(Qz xs i40).Kind⟩:AclRule)) [.v (.bool ((k400.tmod 3)==0)),.v (vI (IntKind.i64.wrap (k400+1))),.v (vI (IntKind.i64.wrap ((IntKind.i64.wrap (k400+1))+1))),.v (vI (IntKind.i64.wrap ((IntKind.i64.wrap ((IntKind.i64.wrap (k400+1))+1))+1))),.v (vI (Qz xs i40).To.Len),.v (vI (Qz xs i40).Kind)] (.l 6 Qd (xs.set (i40).toNat (⟨((k400.tmod 3)==0),(⟨(IntKind.i64.wrap (k400+1)),(IntKind.i64.wrap ((IntKind.i64.wrap (k400+1))+1))⟩:NetPrefix),(⟨(IntKind.i64.wrap ((IntKind.i64.wrap ((IntKind.i64.wrap (k400+1))+1))+1)),(Qz xs i40).To.Len⟩:NetPrefix),(Qz xs i40).Kind⟩:AclRule)))) (ai (by first | omega | (simp only [lens,ib] at*<;> omega):0≤i40∧i40<((xs.set (i40).toNat (⟨((k400.tmod 3)==0),(⟨(IntKind.i64.wrap (k400+1)),(IntKind.i64.wrap ((IntKind.i64.wrap (k400+1))+1))⟩:NetPrefix),(⟨(IntKind.i64.wrap ((IntKind.i64.wrap ((IntKind.i64.wrap (k400+1))+1))+1)),(Qz xs i40).To.Len⟩:NetPrefix),(Qz xs i40).Kind⟩:AclRule)).length:Int)) (ai (Imps.of_eq (congrArg Qd (Ya xs (i40).toNat (⟨((k400.tmod 3)==0),(⟨(IntKind.i64.wrap (k400+1)),(IntKind.i64.wrap ((IntKind.i64.wrap (k400+1))+1))⟩:NetPrefix),(⟨(IntKind.i64.wrap ((IntKind.i64.wrap ((IntKind.i64.wrap (k400+1))+1))+1)),(Qz xs i40).To.Len⟩:NetPrefix),(Qz xs i40).Kind⟩:AclRule) (by first | omega | (simp only [lens,ib] at*<;> omega):(i40).toNat<xs.length)))) (ai (SetOK.mk2 Qd xs (⟨((k400.tmod 3)==0),(⟨(IntKind.i64.wrap (k400+1)),(IntKind.i64.wrap ((IntKind.i64.wrap (k400+1))+1))⟩:NetPrefix),(⟨(IntKind.i64.wrap ((IntKind.i64.wrap ((IntKind.i64.wrap (k400+1))+1))+1)),(Qz xs i40).To.Len⟩:NetPrefix),(Qz xs i40).Kind⟩:AclRule) (⟨((k400.tmod 3)==0),(⟨(IntKind.i64.wrap (k400+1)),(IntKind.i64.wrap ((IntKind.i64.wrap (k400+1))+1))⟩:NetPrefix),(⟨(IntKind.i64.wrap ((IntKind.i64.wrap ((IntKind.i64.wrap (k400+1))+1))+1)),(IntKind.i64.wrap ((IntKind.i64.wrap ((IntKind.i64.wrap ((IntKind.i64.wrap (k400+1))+1))+1))+1))⟩:NetPrefix),(Qz xs i40).Kind⟩:AclRule) (by first | omega | (simp only [lens,ib] at*<;> omega):(i40).toNat<xs.length) (by exact ai ir (ai ir (ai ir (ai ir (ai ir (ai ir trivial)))))):SetOK (.l 6 Qd (xs.set (i40).toNat (⟨((k400.tmod 3)==0),(⟨(IntKind.i64.wrap (k400+1)),(IntKind.i64.wrap ((IntKind.i64.wrap (k400+1))+1))⟩:NetPrefix),(⟨(IntKind.i64.wrap ((IntKind.i64.wrap ((IntKind.i64.wrap (k400+1))+1))+1)),(Qz xs i40).To.Len⟩:NetPrefix),(Qz xs i40).Kind⟩:AclRule))) (i40).toNat (Qd (⟨((k400.tmod 3)==0),(⟨(IntKind.i64.wrap (k400+1)),(IntKind.i64.wrap ((IntKind.i64.wrap (k400+1))+1))⟩:NetPrefix),(⟨(IntKind.i64.wrap ((IntKind.i64.wrap ((IntKind.i64.wrap (k400+1))+1))+1)),(Qz xs i40).To.Len⟩:NetPrefix),(Qz xs i40).Kind⟩:AclRule)) [.v (.bool ((k400.tmod 3)==0)),.v (vI (IntKind.i64.wrap (k400+1))),.v (vI (IntKind.i64.wrap ((IntKind.i64.wrap (k400+1))+1))),.v (vI (IntKind.i64.wrap ((IntKind.i64.wrap ((IntKind.i64.wrap (k400+1))+1))+1))),.v (vI (IntKind.i64.wrap ((IntKind.i64.wrap ((IntKind.i64.wrap ((IntKind.i64.wrap (k400+1))+1))+1))+1))),.v (vI (Qz xs i40).Kind)] (.l 6 Qd (xs.set (i40).toNat (⟨((k400.tmod 3)==0),(⟨(IntKind.i64.wrap (k400+1)),(IntKind.i64.wrap ((IntKind.i64.wrap (k400+1))+1))⟩:NetPrefix),(⟨(IntKind.i64.wrap ((IntKind.i64.wrap ((IntKind.i64.wrap (k400+1))+1))+1)),(IntKind.i64.wrap ((IntKind.i64.wrap ((IntKind.i64.wrap ((IntKind.i64.wrap (k400+1))+1))+1))+1))⟩:NetPrefix),(Qz xs i40).Kind⟩:AclRule)))) (ai (by first | omega | (simp only [lens,ib] at*<;> omega):0≤i40∧i40<((xs.set (i40).toNat (⟨((k400.tmod 3)==0),(⟨(IntKind.i64.wrap (k400+1)),(IntKind.i64.wrap ((IntKind.i64.wrap (k400+1))+1))⟩:NetPrefix),(⟨(IntKind.i64.wrap ((IntKind.i64.wrap ((IntKind.i64.wrap (k400+1))+1))+1)),(IntKind.i64.wrap ((IntKind.i64.wrap ((IntKind.i64.wrap ((IntKind.i64.wrap (k400+1))+1))+1))+1))⟩:NetPrefix),(Qz xs i40).Kind⟩:AclRule)).length:Int)) (ai (Imps.of_eq (congrArg Qd (Ya xs (i40).toNat (⟨((k400.tmod 3)==0),(⟨(IntKind.i64.wrap (k400+1)),(IntKind.i64.wrap ((IntKind.i64.wrap (k400+1))+1))⟩:NetPrefix),(⟨(IntKind.i64.wrap ((IntKind.i64.wrap ((IntKind.i64.wrap (k400+1))+1))+1)),(IntKind.i64.wrap ((IntKind.i64.wrap ((IntKind.i64.wrap ((IntKind.i64.wrap (k400+1))+1))+1))+1))⟩:NetPrefix),(Qz xs i40).Kind⟩:AclRule) (by first | omega | (simp only [lens,ib] at*<;> omega):(i40).toNat<xs.length)))) (ai (SetOK.mk2 Qd xs (⟨((k400.tmod 3)==0),(⟨(IntKind.i64.wrap (k400+1)),(IntKind.i64.wrap ((IntKind.i64.wrap (k400+1))+1))⟩:NetPrefix),(⟨(IntKind.i64.wrap ((IntKind.i64.wrap ((IntKind.i64.wrap (k400+1))+1))+1)),(IntKind.i64.wrap ((IntKind.i64.wrap ((IntKind.i64.wrap ((IntKind.i64.wrap (k400+1))+1))+1))+1))⟩:NetPrefix),(Qz xs i40).Kind⟩:AclRule) (⟨((k400.tmod 3)==0),(⟨(IntKind.i64.wrap (k400+1)),(IntKind.i64.wrap ((IntKind.i64.wrap (k400+1))+1))⟩:NetPrefix),(⟨(IntKind.i64.wrap ((IntKind.i64.wrap ((IntKind.i64.wrap (k400+1))+1))+1)),(IntKind.i64.wrap ((IntKind.i64.wrap ((IntKind.i64.wrap ((IntKind.i64.wrap (k400+1))+1))+1))+1))⟩:NetPrefix),(IntKind.i64.wrap ((IntKind.i64.wrap ((IntKind.i64.wrap ((IntKind.i64.wrap ((IntKind.i64.wrap (k400+1))+1))+1))+1))+1))⟩:AclRule) (by first | omega | (simp only [lens,ib] at*<;> omega):(i40).toNat<xs.length) (by exact ai ir (ai ir (ai ir (ai ir (ai ir (ai ir trivial)))))):SetOK (.l 6 Qd (xs.set (i40).toNat (⟨((k400.tmod 3)==0),(⟨(IntKind.i64.wrap (k400+1)),(IntKind.i64.wrap ((IntKind.i64.wrap (k400+1))+1))⟩:NetPrefix),(⟨(IntKind.i64.wrap ((IntKind.i64.wrap ((IntKind.i64.wrap (k400+1))+1))+1)),(IntKind.i64.wrap ((IntKind.i64.wrap ((IntKind.i64.wrap ((IntKind.i64.wrap (k400+1))+1))+1))+1))⟩:NetPrefix),(Qz xs i40).Kind⟩:AclRule))) (i40).toNat (Qd (⟨((k400.tmod 3)==0),(⟨(IntKind.i64.wrap (k400+1)),(IntKind.i64.wrap ((IntKind.i64.wrap (k400+1))+1))⟩:NetPrefix),(⟨(IntKind.i64.wrap ((IntKind.i64.wrap ((IntKind.i64.wrap (k400+1))+1))+1)),(IntKind.i64.wrap ((IntKind.i64.wrap ((IntKind.i64.wrap ((IntKind.i64.wrap (k400+1))+1))+1))+1))⟩:NetPrefix),(Qz xs i40).Kind⟩:AclRule)) [.v (.bool ((k400.tmod 3)==0)),.v (vI (IntKind.i64.wrap (k400+1))),.v (vI (IntKind.i64.wrap ((IntKind.i64.wrap (k400+1))+1))),.v (vI (IntKind.i64.wrap ((IntKind.i64.wrap ((IntKind.i64.wrap (k400+1))+1))+1))),.v (vI (IntKind.i64.wrap ((IntKind.i64.wrap ((IntKind.i64.wrap ((IntKind.i64.wrap (k400+1))+1))+1))+1))),.v (vI (IntKind.i64.wrap ((IntKind.i64.wrap ((IntKind.i64.wrap ((IntKind.i64.wrap ((IntKind.i64.wrap (k400+1))+1))+1))+1))+1)))] (.l 6 Qd (xs.set (i40).toNat (⟨((k400.tmod 3)==0),(⟨(IntKind.i64.wrap (k400+1)),(IntKind.i64.wrap ((IntKind.i64.wrap (k400+1))+1))⟩:NetPrefix),(⟨(IntKind.i64.wrap ((IntKind.i64.wrap ((IntKind.i64.wrap (k400+1))+1))+1)),(IntKind.i64.wrap ((IntKind.i64.wrap ((IntKind.i64.wrap ((IntKind.i64.wrap (k400+1))+1))+1))+1))⟩:NetPrefix),(IntKind.i64.wrap ((IntKind.i64.wrap ((IntKind.i64.wrap ((IntKind.i64.wrap ((IntKind.i64.wrap (k400+1))+1))+1))+1))+1))⟩:AclRule)))) (ai (iok (i40+1) (by first | omega | (simp only [lens,ib] at*<;> omega))) (bk29_0 a k i0 m0 (IntKind.i64.wrap ((IntKind.i64.wrap ((IntKind.i64.wrap ((IntKind.i64.wrap ((IntKind.i64.wrap ((IntKind.i64.wrap (k400+1))+1))+1))+1))+1))+1)) (i40+1) (xs.set (i40).toNat (⟨((k400.tmod 3)==0),(⟨(IntKind.i64.wrap (k400+1)),(IntKind.i64.wrap ((IntKind.i64.wrap (k400+1))+1))⟩:NetPrefix),(⟨(IntKind.i64.wrap ((IntKind.i64.wrap ((IntKind.i64.wrap (k400+1))+1))+1)),(IntKind.i64.wrap ((IntKind.i64.wrap ((IntKind.i64.wrap ((IntKind.i64.wrap (k400+1))+1))+1))+1))⟩:NetPrefix),(IntKind.i64.wrap ((IntKind.i64.wrap ((IntKind.i64.wrap ((IntKind.i64.wrap ((IntKind.i64.wrap (k400+1))+1))+1))+1))+1))⟩:AclRule)) hl0 (Qc hI0 (condT h2 rfl)) (by refine ⟨?_,?_,?_⟩ <;> first | omega | (simp only [lens,ib] at*<;> omega)))))))))))))))))))))) (fun h2 _=>have hD0_3:Ucu a k=Lp.done (k400,i40,xs):=Qi hI0 (condF h2 rfl); fi29 a k (k400,xs) (finD hD0_3 rfl))) (i0.1-1) i0.2.1 i0.2.2.1 i0.2.2.2 (un29_0 a k i0 hi0))) (by kernel_rfl)
def Bj (a:List AclRule) (k:Int):(Int×Int)→Lp (Int×Int) Int:=fun (k400,i40) =>
 bif (decide (i40<(a.length:Int))) then (bif (!((a.getD i40.toNat default).Permit==((k400.tmod 3)==0))) then (.ret (-1)) else (bif ((a.getD i40.toNat default).From.Addr != (IntKind.i64.wrap (k400+1))) then (.ret (-1)) else (bif ((a.getD i40.toNat default).From.Len != (IntKind.i64.wrap ((IntKind.i64.wrap (k400+1))+1))) then (.ret (-1)) else (bif ((a.getD i40.toNat default).To.Addr != (IntKind.i64.wrap ((IntKind.i64.wrap ((IntKind.i64.wrap (k400+1))+1))+1))) then (.ret (-1)) else (bif ((a.getD i40.toNat default).To.Len != (IntKind.i64.wrap ((IntKind.i64.wrap ((IntKind.i64.wrap ((IntKind.i64.wrap (k400+1))+1))+1))+1))) then (.ret (-1)) else (bif ((a.getD i40.toNat default).Kind != (IntKind.i64.wrap ((IntKind.i64.wrap ((IntKind.i64.wrap ((IntKind.i64.wrap ((IntKind.i64.wrap (k400+1))+1))+1))+1))+1))) then (.ret (-1)) else (.next ((IntKind.i64.wrap ((IntKind.i64.wrap ((IntKind.i64.wrap ((IntKind.i64.wrap ((IntKind.i64.wrap ((IntKind.i64.wrap (k400+1))+1))+1))+1))+1))+1)),(i40+1))))))))) else (.done (k400,i40))
def F30 (a:List AclRule) (k:Int):Int :=
 (runL (Bj a k) (((a.length:Int)-0).toNat+1) (k,0)).fin (fun r=>r) (fun (k400,i40)=>k400)
abbrev Qdl (a:List AclRule) (k:Int):Nat×(Int×Int):=((((a.length:Int)-0).toNat+1),(k,0))
abbrev Qnk (a:List AclRule) (m39:Nat) (k400:Int) (i40:Int):Prop:=Int.toNat ((a.length:Int)-i40)<m39∧(0:Int)≤i40
abbrev Qyv (a:List AclRule) (k:Int):Lp (Int×Int) Int:=LpX (Bj a k) (Qdl a k)
abbrev Qbo (a:List AclRule) (k:Int) (i:Nat×(Int×Int)):Prop:=LpJ (Bj a k) (Qdl a k) i (Qnk a i.1 i.2.1 i.2.2)
abbrev Ubq (a:List AclRule) (k:Int) (i:Nat×(Int×Int)) (m39:Nat) (k400:Int) (i40:Int):Prop:=LpH (Bj a k) (Qdl a k) i m39 (k400,i40) (Qnk a (m39+1) k400 i40)
abbrev Qyr (a:List AclRule) (k400:Int) (i40:Int) (k400_:Int) (i40_:Int) (K39:Prop):Prop:=((.int .i64 k400:Value)=.int .i64 k400_)∧((.int .i64 i40:Value)=.int .i64 i40_)∧(Im (.l 6 Qd a))∧K39
theorem un30_0 (a:List AclRule) (k:Int) (i:Nat×(Int×Int)) (h:Qbo a k i):Ubq a k i (i.1-1) i.2.1 i.2.2:=⟨hd1 h.1 h.2.1,hd3 h.2.1,hd2 h.2.1,h.2.2⟩
theorem bk30_0 (a:List AclRule) (k:Int) (i:Nat×(Int×Int)) (m39:Nat) (k400:Int) (i40:Int) (hl:m39<i.1) (e:runL (Bj a k) m39 (k400,i40)=Qyv a k) (h:Qnk a m39 k400 i40):∃ j:Nat×(Int×Int),Qyr a k400 i40 j.2.1 j.2.2 (Qbo a k j∧j.1<i.1):=⟨(m39,(k400,i40)),rfl,rfl,Imp.refl _,⟨e,h⟩,hl⟩
theorem en30_0 (a:List AclRule) (k:Int) (h:(0:Int)≤0):Qyr a k 0 k 0 (Qbo a k (Qdl a k)):=⟨rfl,rfl,Imp.refl _,rfl,Nat.lt_succ_self _,h⟩
def S30 (a:List AclRule) (k:Int):Spec:=⟨[.r (.c (.l 6 Qd a)),.r (.c (.v (vI k)))],.v (vI (F30 a k)),True⟩
theorem ok30 (a:List AclRule) (k:Int):(S30 a k).ok Tryz.prog 30 :=
 Qg mixed (fn:=Tryz.f30) (ct:=.seqk [(0,0)] .no (.seq (.seqk [(0,0)] .no (.blk (.loop (ι:=Nat×(Int×Int)) (fun i=>(fun (k400:Int) (i40:Int)=>(⟨[(0,some (.h 0 0)),(1,some (.v (vI k400))),(5,some (.v (vI i40)))],[(0,some (.shr none (.l 6 Qd a)))],1⟩:St)) i.2.1 i.2.2) (Qbo a k) (fun i=>i.1) (Qdl a k) (fun i=>(fun (k400:Int) (i40:Int)=>(.seq (.seq .no (.cond .no .no)) (.seq (.blk (.seq (.seq .no (.cond (.seq .no .no) .no)) (.seq .no (.seq (.seq .no (.cond (.seq .no .no) .no)) (.seq .no (.seq (.seq .no (.cond (.seq .no .no) .no)) (.seq .no (.seq (.seq .no (.cond (.seq .no .no) .no)) (.seq .no (.seq (.seq .no (.cond (.seq .no .no) .no)) (.seq .no (.seq (.seq .no (.cond (.seq .no .no) .no)) .no)))))))))))) (.reg [(1,.bnd)])))) i.2.1 i.2.2)))) (.seq .no .no))) Tryz.func30 (fun (_:True)=>kn a fun _=>kn a fun _=>ai (en30_0 a k (by omega)) (fun (i0:Nat×(Int×Int)) (hi0:Qbo a k i0)=>(fun (m0:Nat) (k400:Int) (i40:Int) (hh0:Ubq a k i0 m0 k400 i40)=>have hI0:=hh0.1; have hl0:=hh0.2.1; have _:=hh0.2.2.1; have _:=hh0.2.2.2; ifd (i40<(a.length:Int)) (fun h2 _=>ai (by omega:ib i40 a) (ai (by omega:¬ (3:Int)=0) (ifb (!((a.getD i40.toNat default).Permit==((k400.tmod 3)==0))) (fun h3=>fiI (-1) (F30 a k) (finR (Qp hI0 (condT h2 (condT h3 rfl))) rfl)) (fun h3=>ai (by omega:ib i40 a) (ifn (a.getD i40.toNat default).From.Addr (IntKind.i64.wrap (k400+1)) (fun h4 _=>fiI (-1) (F30 a k) (finR (Qp hI0 (condT h2 (condF h3 (condT h4 rfl)))) rfl)) (fun h4 _=>ai (by omega:ib i40 a) (ifn (a.getD i40.toNat default).From.Len (IntKind.i64.wrap ((IntKind.i64.wrap (k400+1))+1)) (fun h5 _=>fiI (-1) (F30 a k) (finR (Qp hI0 (condT h2 (condF h3 (condF h4 (condT h5 rfl))))) rfl)) (fun h5 _=>ai (by omega:ib i40 a) (ifn (a.getD i40.toNat default).To.Addr (IntKind.i64.wrap ((IntKind.i64.wrap ((IntKind.i64.wrap (k400+1))+1))+1)) (fun h6 _=>fiI (-1) (F30 a k) (finR (Qp hI0 (condT h2 (condF h3 (condF h4 (condF h5 (condT h6 rfl)))))) rfl)) (fun h6 _=>ai (by omega:ib i40 a) (ifn (a.getD i40.toNat default).To.Len (IntKind.i64.wrap ((IntKind.i64.wrap ((IntKind.i64.wrap ((IntKind.i64.wrap (k400+1))+1))+1))+1)) (fun h7 _=>fiI (-1) (F30 a k) (finR (Qp hI0 (condT h2 (condF h3 (condF h4 (condF h5 (condF h6 (condT h7 rfl))))))) rfl)) (fun h7 _=>ai (by omega:ib i40 a) (ifn (a.getD i40.toNat default).Kind (IntKind.i64.wrap ((IntKind.i64.wrap ((IntKind.i64.wrap ((IntKind.i64.wrap ((IntKind.i64.wrap (k400+1))+1))+1))+1))+1)) (fun h8 _=>fiI (-1) (F30 a k) (finR (Qp hI0 (condT h2 (condF h3 (condF h4 (condF h5 (condF h6 (condF h7 (condT h8 rfl)))))))) rfl)) (fun h8 _=>ai (iok (i40+1) (by omega)) (bk30_0 a k i0 m0 (IntKind.i64.wrap ((IntKind.i64.wrap ((IntKind.i64.wrap ((IntKind.i64.wrap ((IntKind.i64.wrap ((IntKind.i64.wrap (k400+1))+1))+1))+1))+1))+1)) (i40+1) hl0 (Qc hI0 (condT h2 (condF h3 (condF h4 (condF h5 (condF h6 (condF h7 (condF h8 rfl)))))))) (by refine ⟨?_,?_⟩ <;> omega)))))))))))))))) (fun h2 _=>have hD0_9:Qyv a k=Lp.done (k400,i40):=Qi hI0 (condF h2 rfl); fiI k400 (F30 a k) (finD hD0_9 rfl))) (i0.1-1) i0.2.1 i0.2.2 (un30_0 a k i0 hi0))) (by kernel_rfl)
theorem kc7 (a:List ByteArray) (left':Int) {K_:Prop} (p0_:0≤left') (p1_:left'≤1048576) (p2_:∀ k:Nat,(a.getD k default).size≤9223372036854775807) (k_:(0≤left'→left'≤1048576→0≤(F7 a left')→(F7 a left')≤left')→(0≤left'→left'≤1048576→0≤(F7 a left')→a.length≤1000000000)→(0≤left'→left'≤1048576→0≤(F7 a left')→∀ k:Nat,(a.getD k default).size≤1000000000)→K_):(0≤left'∧left'≤1048576∧(∀ k:Nat,(a.getD k default).size≤9223372036854775807))∧(Imp (.l 1 eStr a) (.l 1 eStr a))∧(Imp (.v (vI left')) (.v (vI left')))∧K_:=⟨⟨p0_,p1_,p2_⟩,Imp.refl _,Imp.refl _,k_ (g7_0 a left') (g7_1 a left') (g7_2 a left')⟩
theorem kc9a (a:List ByteArray) {K_:Prop} (p0_:a.length≤1000000000) (p1_:∀ k:Nat,(a.getD k default).size≤1000000000) (k_:K_):(a.length≤1000000000∧(∀ k:Nat,(a.getD k default).size≤1000000000))∧(Imp (.l 1 eStr a) (.l 1 eStr a))∧K_:=⟨⟨p0_,p1_⟩,Imp.refl _,k_⟩
theorem kc26 (lines:List ByteArray) (list:ByteArray) {K_:Prop} (p0_:lines.length≤1048576) (p1_:∀ k:Nat,(lines.getD k default).size≤1048576) (k_:K_):(lines.length≤1048576∧(∀ k:Nat,(lines.getD k default).size≤1048576))∧(Imp (.l 1 eStr lines) (.l 1 eStr lines))∧(Imp (.v (.string list)) (.v (.string list)))∧K_:=⟨⟨p0_,p1_⟩,Imp.refl _,Imp.refl _,k_⟩
theorem kc27 (lines:List ByteArray) (list:ByteArray) {K_:Prop} (p0_:lines.length≤1048576) (p1_:∀ k:Nat,(lines.getD k default).size≤1048576) (k_:K_):(lines.length≤1048576∧(∀ k:Nat,(lines.getD k default).size≤1048576))∧(Imp (.l 1 eStr lines) (.l 1 eStr lines))∧(Imp (.v (.string list)) (.v (.string list)))∧K_:=⟨⟨p0_,p1_⟩,Imp.refl _,Imp.refl _,k_⟩
abbrev kh7f (a:List ByteArray) (left':Int):Hint false Tryz.prog:=.call 7 (S7 a left') ((ok7 a left').to false) none
abbrev Qqv (a:List ByteArray):Hint false Tryz.prog:=.call 9 (S9 a a) ((oa9 a).to false) none
abbrev kh26f (lines:List ByteArray) (list:ByteArray):Hint false Tryz.prog:=.call 26 (S26 lines list) ((ok26 lines list).to false) none
abbrev kh27 (lines:List ByteArray) (list:ByteArray):Hint false Tryz.prog:=.call 27 (S27 lines list) (ok27 lines list) none
theorem kc28a (a:List AclRule) (b:List AclRule) {K_:Prop} (k_:K_):(True)∧(Imp (.l 6 Qd a) (.l 6 Qd a))∧(Imp (.l 6 Qd b) (.l 6 Qd b))∧K_:=⟨trivial,Imp.refl _,Imp.refl _,k_⟩
abbrev Qnn (a:List AclRule) (b:List AclRule):Hint false Tryz.prog:=.call 28 (S28 (decide (a=b)) a b) ((oa28 a b).to false) none
theorem kc12a (a:List ByteArray) (b:List ByteArray) {K_:Prop} (k_:K_):(True)∧(Imp (.l 1 eStr a) (.l 1 eStr a))∧(Imp (.l 1 eStr b) (.l 1 eStr b))∧K_:=⟨trivial,Imp.refl _,Imp.refl _,k_⟩
abbrev kh12af (a:List ByteArray) (b:List ByteArray):Hint false Tryz.prog:=.call 12 (S12 (decide (a=b)) a b) ((oa12 a b).to false) none
theorem kc13 (a:List ByteArray) (k:Int) {K_:Prop} (p0_:0≤k) (p1_:k+(a.length:Int)≤1000000000) (k_:((F13 a k).1=k+(a.length:Int))→((F13 a k).2.length=a.length)→K_):(0≤k∧k+(a.length:Int)≤1000000000)∧(Imp (.l 1 eStr a) (.l 1 eStr a))∧(Imp (.v (vI k)) (.v (vI k)))∧K_:=⟨⟨p0_,p1_⟩,Imp.refl _,Imp.refl _,k_ (Qkp a k) (g13_0 a k)⟩
abbrev kh13f (a:List ByteArray) (k:Int):Hint false Tryz.prog:=.call 13 (S13 a k) ((ok13 a k).to false) none
theorem kg28a {K_:Prop} (c_ b_:Bool) (a:List AclRule) (b:List AclRule) (k_:K_):(c_=b_→True)∧(c_=b_→Imp (.l 6 Qd a) (.l 6 Qd a))∧(c_=b_→Imp (.l 6 Qd b) (.l 6 Qd b))∧K_:=⟨fun _=>trivial,fun _=>Imp.refl _,fun _=>Imp.refl _,k_⟩
theorem kc29 (a:List AclRule) (k:Int) {K_:Prop} (k_:K_):(True)∧(Imp (.l 6 Qd a) (.l 6 Qd a))∧(Imp (.v (vI k)) (.v (vI k)))∧K_:=⟨trivial,Imp.refl _,Imp.refl _,k_⟩
abbrev kh29f (a:List AclRule) (k:Int):Hint false Tryz.prog:=.call 29 (S29 a k) ((ok29 a k).to false) none
theorem kc30 (a:List AclRule) (k:Int) {K_:Prop} (k_:K_):(True)∧(Imp (.l 6 Qd a) (.l 6 Qd a))∧(Imp (.v (vI k)) (.v (vI k)))∧K_:=⟨trivial,Imp.refl _,Imp.refl _,k_⟩
abbrev kh30f (a:List AclRule) (k:Int):Hint false Tryz.prog:=.call 30 (S30 a k) ((ok30 a k).to false) none
def F6 (aLines:List ByteArray) (aList:ByteArray):Bool :=
 bif (decide ((aList.size:Int)>1048576)) then true else (bif (decide ((F7 aLines 1048576)<0)) then true else (bif (!(decide ((F27 aLines aList)=(F26 aLines aList)))) then false else (bif (!(decide (aLines=aLines))) then false else (bif (bif decide ((F13 aLines 1).1<0) then true else (!(decide ((F27 aLines aList)=(F26 aLines aList))))) then false else (bif (decide ((F30 (F29 (F27 aLines aList) 1).2 1)<0)) then false else (bif ((F30 (F29 (F27 aLines aList) 1).2 1) != (F29 (F27 aLines aList) 1).1) then false else (bif (!(decide ((F27 aLines aList)=(F26 aLines aList)))) then false else (bif (decide ((F30 (F29 (F27 aLines aList) 1).2 1)<0)) then false else (bif ((F30 (F29 (F27 aLines aList) 1).2 1) != (F29 (F27 aLines aList) 1).1) then false else true)))))))))
def S6 (aLines:List ByteArray) (aList:ByteArray):Spec:=⟨[.r (.c (.l 1 eStr aLines)),.r (.c (.v (.string aList)))],.v (.bool (F6 aLines aList)),(∀ k:Nat,(aLines.getD k default).size≤9223372036854775807)⟩
theorem ok6 (aLines:List ByteArray) (aList:ByteArray):(S6 aLines aList).ok Tryz.prog 6 false :=
 Qg mixed (fn:=Tryz.f6) (ct:=.seqk [(0,0)] .no (.seq (.seq .no (.cond (.seq .no .no) .no)) (.seq .no (.seq (.reg [(2,kh7f aLines 1048576)]) (.seq (.seq .no (.cond (.seq .no .no) .no)) (.seq (.reg [(1,Qqv aLines),(3,kh26f aLines aList)]) (.seq (.reg [(1,Qqv aLines)]) (.seq (.reg [(2,kh27 aLines aList)]) (.seq (.seq (.reg [(2,Qnn (F27 aLines aList) (F26 aLines aList))]) (.cond (.seq .no .no) .no)) (.seq (.seq (.reg [(2,Qqv aLines),(3,kh12af aLines aLines)]) (.cond (.seq .no .no) .no)) (.seq .no (.seq (.reg [(2,kh13f aLines 1)]) (.seq (.seq (.reg [(5,Qnn (F27 aLines aList) (F26 aLines aList))]) (.cond (.seq .no .no) .no)) (.seq .no (.seq (.reg [(2,kh29f (F27 aLines aList) 1)]) (.seq .no (.seq (.reg [(2,kh30f (F29 (F27 aLines aList) 1).2 1)]) (.seq (.seq .no (.cond (.seq .no .no) .no)) (.seq (.seq .no (.cond (.seq .no .no) .no)) (.seq (.reg [(1,Qqv aLines),(3,kh27 aLines aList)]) (.seq (.seq (.reg [(2,Qnn (F27 aLines aList) (F26 aLines aList))]) (.cond (.seq .no .no) .no)) (.seq .no (.seq (.reg [(2,kh30f (F29 (F27 aLines aList) 1).2 1)]) (.seq (.seq .no (.cond (.seq .no .no) .no)) (.seq (.seq .no (.cond (.seq .no .no) .no)) (.seq .no .no)))))))))))))))))))))))))) Tryz.func6 (fun (hpre0:∀ k:Nat,(aLines.getD k default).size≤9223372036854775807)=>kn aLines fun _=>ifd ((aList.size:Int)>1048576) (fun h1 _=>fiB true (F6 aLines aList) (condT h1 rfl)) (fun h1 _=>kc7 aLines 1048576 (by omega) (by omega) (by first | assumption | exact hpre0 _ | exact fun k _=>hpre0 k | (intros; exact trivial) | (intros; exact Nat.zero_le _)) (fun gv2 gv3 gv4=>ifd ((F7 aLines 1048576)<0) (fun h5 _=>fiB true (F6 aLines aList) (condF h1 (condT h5 rfl))) (fun h5 _=>kc9a aLines (by omega) (by first | assumption | exact hpre0 _ | exact fun k _=>hpre0 k | exact gv4 (by omega) (by omega) (by omega) | (intros; exact trivial) | (intros; exact Nat.zero_le _)) (kc26 aLines aList (by first | omega | exact Bi aLines (l:=1048576) (by omega) (by omega) | exact Hu aLines (l:=1048576) (by omega) (by omega)) (by first | omega | exact Bi aLines (l:=1048576) (by omega) (by omega) | exact Hu aLines (l:=1048576) (by omega) (by omega)) (kc9a aLines (by omega) (by first | assumption | exact hpre0 _ | exact fun k _=>hpre0 k | exact gv4 (by omega) (by omega) (by omega) | (intros; exact trivial) | (intros; exact Nat.zero_le _)) (kc27 aLines aList (by first | omega | exact Bi aLines (l:=1048576) (by omega) (by omega) | exact Hu aLines (l:=1048576) (by omega) (by omega)) (by first | omega | exact Bi aLines (l:=1048576) (by omega) (by omega) | exact Hu aLines (l:=1048576) (by omega) (by omega)) (kc28a (F27 aLines aList) (F26 aLines aList) (ifb (!(decide ((F27 aLines aList)=(F26 aLines aList)))) (fun h6=>have _:=of_decide_eq_false (Kd h6); fiB false (F6 aLines aList) (condF h1 (condF h5 (condT h6 rfl)))) (fun h6=>have _:=of_decide_eq_true (Uq h6); kc9a aLines (by omega) (by first | assumption | exact hpre0 _ | exact fun k _=>hpre0 k | exact gv4 (by omega) (by omega) (by omega) | (intros; exact trivial) | (intros; exact Nat.zero_le _)) (kc12a aLines aLines (ifb (!(decide (aLines=aLines))) (fun h7=>have _:=of_decide_eq_false (Kd h7); fiB false (F6 aLines aList) (condF h1 (condF h5 (condF h6 (condT h7 rfl))))) (fun h7=>have _:=of_decide_eq_true (Uq h7); kc13 aLines 1 (by first | omega | (have ha:=Bi aLines (l:=1048576) (by omega) (by omega); omega)) (by first | omega | (have ha:=Bi aLines (l:=1048576) (by omega) (by omega); omega)) (fun gv8 gv9=>kg28a (decide ((F13 aLines 1).1<0)) false (F27 aLines aList) (F26 aLines aList) (ifb (bif decide ((F13 aLines 1).1<0) then true else (!(decide ((F27 aLines aList)=(F26 aLines aList))))) (fun h11=>fiB false (F6 aLines aList) (condF h1 (condF h5 (condF h6 (condF h7 (condT h11 rfl)))))) (fun h11=>have _:=of_decide_eq_false (orF1 h11); have _:=of_decide_eq_true (Uq (orF2 h11)); kc29 (F27 aLines aList) 1 (kc30 (F29 (F27 aLines aList) 1).2 1 (ifd ((F30 (F29 (F27 aLines aList) 1).2 1)<0) (fun h12 _=>fiB false (F6 aLines aList) (condF h1 (condF h5 (condF h6 (condF h7 (condF h11 (condT h12 rfl))))))) (fun h12 _=>ifn (F30 (F29 (F27 aLines aList) 1).2 1) (F29 (F27 aLines aList) 1).1 (fun h13 _=>fiB false (F6 aLines aList) (condF h1 (condF h5 (condF h6 (condF h7 (condF h11 (condF h12 (condT h13 rfl)))))))) (fun h13 _=>kc9a aLines (by omega) (by first | assumption | exact hpre0 _ | exact fun k _=>hpre0 k | exact gv4 (by omega) (by omega) (by omega) | (intros; exact trivial) | (intros; exact Nat.zero_le _)) (kc27 aLines aList (by first | omega | exact Bi aLines (l:=1048576) (by omega) (by omega) | exact Hu aLines (l:=1048576) (by omega) (by omega)) (by first | omega | exact Bi aLines (l:=1048576) (by omega) (by omega) | exact Hu aLines (l:=1048576) (by omega) (by omega)) (kc28a (F27 aLines aList) (F26 aLines aList) (ifb (!(decide ((F27 aLines aList)=(F26 aLines aList)))) (fun h14=>have _:=of_decide_eq_false (Kd h14); fiB false (F6 aLines aList) (condF h1 (condF h5 (condF h6 (condF h7 (condF h11 (condF h12 (condF h13 (condT h14 rfl))))))))) (fun h14=>have _:=of_decide_eq_true (Uq h14); kc30 (F29 (F27 aLines aList) 1).2 1 (ifd ((F30 (F29 (F27 aLines aList) 1).2 1)<0) (fun h15 _=>fiB false (F6 aLines aList) (condF h1 (condF h5 (condF h6 (condF h7 (condF h11 (condF h12 (condF h13 (condF h14 (condT h15 rfl)))))))))) (fun h15 _=>ifn (F30 (F29 (F27 aLines aList) 1).2 1) (F29 (F27 aLines aList) 1).1 (fun h16 _=>fiB false (F6 aLines aList) (condF h1 (condF h5 (condF h6 (condF h7 (condF h11 (condF h12 (condF h13 (condF h14 (condF h15 (condT h16 rfl))))))))))) (fun h16 _=>fiB true (F6 aLines aList) (condF h1 (condF h5 (condF h6 (condF h7 (condF h11 (condF h12 (condF h13 (condF h14 (condF h15 (condF h16 rfl))))))))))))))))))))))))))))))))))))) (by kernel_rfl)
def Kb (x:AclRule):Nat:=6
theorem mk29:Mk F29 F30 (sumL Kb) :=
 Qwm (fun (x:AclRule) (k:Int)=>((IntKind.i64.wrap ((IntKind.i64.wrap ((IntKind.i64.wrap ((IntKind.i64.wrap ((IntKind.i64.wrap ((IntKind.i64.wrap (k+1))+1))+1))+1))+1))+1)),(⟨((k.tmod 3)==0),(⟨(IntKind.i64.wrap (k+1)),(IntKind.i64.wrap ((IntKind.i64.wrap (k+1))+1))⟩:NetPrefix),(⟨(IntKind.i64.wrap ((IntKind.i64.wrap ((IntKind.i64.wrap (k+1))+1))+1)),(IntKind.i64.wrap ((IntKind.i64.wrap ((IntKind.i64.wrap ((IntKind.i64.wrap (k+1))+1))+1))+1))⟩:NetPrefix),(IntKind.i64.wrap ((IntKind.i64.wrap ((IntKind.i64.wrap ((IntKind.i64.wrap ((IntKind.i64.wrap (k+1))+1))+1))+1))+1))⟩:AclRule))) (fun (x:AclRule) (k:Int)=>(bif (!(x.Permit==((k.tmod 3)==0))) then (-1) else (bif (x.From.Addr != (IntKind.i64.wrap (k+1))) then (-1) else (bif (x.From.Len != (IntKind.i64.wrap ((IntKind.i64.wrap (k+1))+1))) then (-1) else (bif (x.To.Addr != (IntKind.i64.wrap ((IntKind.i64.wrap ((IntKind.i64.wrap (k+1))+1))+1))) then (-1) else (bif (x.To.Len != (IntKind.i64.wrap ((IntKind.i64.wrap ((IntKind.i64.wrap ((IntKind.i64.wrap (k+1))+1))+1))+1))) then (-1) else (bif (x.Kind != (IntKind.i64.wrap ((IntKind.i64.wrap ((IntKind.i64.wrap ((IntKind.i64.wrap ((IntKind.i64.wrap (k+1))+1))+1))+1))+1))) then (-1) else (IntKind.i64.wrap ((IntKind.i64.wrap ((IntKind.i64.wrap ((IntKind.i64.wrap ((IntKind.i64.wrap ((IntKind.i64.wrap (k+1))+1))+1))+1))+1))+1))))))))) Kb
  (fun x k h0 h1=>by
   simp only [Kb] at h1 ⊢
   simp (discharger:=omega) only [Yx,bne_self_eq_false,beq_self_eq_true,cond_false,cond_true,Bool.not_true,Bool.not_false,neg_lt,and_self] <;> omega)
  F29 F30 Rw Bj (fun a k=>rfl) (fun a k0 k i xs=>rfl) (fun a k=>rfl)
  (fun a k0 k i hi h0 hh=>by
   obtain ⟨c0,hh⟩:=Hg hh
   obtain ⟨c1,hh⟩:=Hg hh
   obtain ⟨c2,hh⟩:=Hg hh
   obtain ⟨c3,hh⟩:=Hg hh
   obtain ⟨c4,hh⟩:=Hg hh
   obtain ⟨c5,hh⟩:=Hg hh
   simp only [Bj,decide_eq_true hi,cond_true,c0,cond_false,c1,cond_false,c2,cond_false,c3,cond_false,c4,cond_false,c5,cond_false])
  (fun a k0 k=>by simp only [Bj,geD,cond_false])
theorem mk29a (x:List AclRule) (k:Int) (h0:0≤k) (h1:k+((sumL Kb) x:Int)<9223372036854775807):(F29 x k).1=k+(sumL Kb) x:=(mk29 x k h0 h1).1
theorem mk29b (x:List AclRule) (k:Int) (h0:0≤k) (h1:k+((sumL Kb) x:Int)<9223372036854775807):F30 (F29 x k).2 k=k+(sumL Kb) x:=(mk29 x k h0 h1).2
theorem Ulc (lines:List ByteArray) (list:ByteArray):F6 lines list=true:=by
 unfold F6
 cases h0:decide ((list.size:Int)>1048576) with
 | true=>rfl
 | false =>
 rw [cond_false]
 cases h1:decide (F7 lines 1048576<0) with
 | true=>rfl
 | false =>
 have hl:=Qxb lines list
 rw [Qcx] at hl
 rw [cond_false,Qcx]
 generalize F26 lines list=w at hl
 have hs:=Qkx (fun x:AclRule=>Kb x) 6 (fun _=>rfl) w
 have m1:=mk29a w 1 (by omega) (by rw [hs]; omega)
 have m2:=mk29b w 1 (by omega) (by rw [hs]; omega)
 rw [hs] at m1 m2
 rw [m1,m2,Qkp,decide_eq_false (show ¬ 1+(lines.length:Int)<0 by omega),decide_eq_false (show ¬ 1+((w.length*6:Nat):Int)<0 by omega)]
 simp
end Go.Proofs.YtcgfkhokhiggkaaGreatDoor
namespace Go.Proofs.YtcgfkhokhiggkaaGreatDoor
open Go Go.RowKit Go.ChangeShapes Go.WideShapes Go.ChangeAt
set_option maxRecDepth 100000
set_option linter.unusedVariables false
theorem op_9:OpD Tryz.prog 9 eStr:=OpD.str Tryz.underlying9
theorem op_22:OpD Tryz.prog 22 (fun xs:List ByteArray=>[.l 1 eStr xs]):=OpD.slice 1 Tryz.underlying22 op_9 (fun _=>rfl) (by kernel_rfl) (by decide)
def Qyk (s:ByteArray):List Dat:=[.x (BX s 9223372036854775807)]
theorem Uks:OpD Tryz.prog 9 Qyk:=fun H e W f cs y h=>by
 obtain ⟨s,rfl,_,hs⟩:=DataW.trod_string Tryz.underlying9 h
 exact ⟨s,_,_,rfl,⟨rfl,hs⟩,rfl⟩
theorem Ugd {S:Nat→Prop} {W:World} {xs:List ByteArray} {v:Value} (h:RdV S W (.l 1 Qyk xs) v):RdV S W (.l 1 eStr xs) v∧∀ k:Nat,(xs.getD k default).size≤9223372036854775807:=by
 obtain ⟨a,c,e,h1,h2,h3⟩:=h
 refine ⟨⟨a,c,e,h1,h2,fun i x hx=>?_⟩,fun k=>?_⟩
 ·obtain ⟨k1,k2,cs,k3,k4,k5⟩:=h3 i x hx
  obtain ⟨u,us,rfl,⟨k6,k7⟩,k8⟩:=k5
  exact ⟨k1,k2,_,k3,k4,u,us,rfl,⟨k6,rfl⟩,k8⟩
 ·rw [List.getD_eq_getElem?_getD]
  cases hx:xs[k]? with
  | none=>exact Nat.zero_le _
  | some x =>
   obtain ⟨k1,k2,cs,k3,k4,k5⟩:=h3 k x hx
   obtain ⟨u,us,rfl,⟨k6,k7⟩,k8⟩:=k5
   exact k7
theorem op_M22:OpD Tryz.prog 22 (fun xs:List ByteArray=>[.l 1 Qyk xs]):=OpD.slice 1 Tryz.underlying22 Uks (fun _=>rfl) (by kernel_rfl) (by decide)
theorem own:ownKnob Tryz.prog.godebug=none:=by kernel_rfl
theorem cfA:Tryz.prog.inPlace 6=Rows.fnExactTernRulesRow.inPlace:=by kernel_rfl
theorem cfB:Tryz.prog.unfollowed 6=Rows.fnExactTernRulesRow.unfollowed:=by kernel_rfl
theorem cfC:Tryz.prog.recurses 6=Rows.fnExactTernRulesRow.recurses:=by kernel_rfl
theorem cfD:Tryz.prog.varsNamed 6=Rows.fnExactTernRulesRow.named:=by kernel_rfl
set_option maxRecDepth 100000 in
def putC (cs:Array Value):Obj→Obj
 | .cells _ t fz=>.cells cs t fz
 | o=>o
noncomputable def Tb (os:Os):World :=
 let w:=World.holding Tryz.prog os ⟨#[.cells #[.string ⟨#[118,97,108,117,101,32,111,117,116,32,111,102,32,114,97,110,103,101]⟩] 234,.cells #[.string ⟨#[105,110,118,97,108,105,100,32,115,121,110,116,97,120]⟩] 234],#[],[]⟩
 { w with heap:=(((((((w.heap.modify ((Tryz.prog.globalNamed "math/bits.deBruijn32tab").getD 0) (putC #[(.int .u8 0),(.int .u8 1),(.int .u8 28),(.int .u8 2),(.int .u8 29),(.int .u8 14),(.int .u8 24),(.int .u8 3),(.int .u8 30),(.int .u8 22),(.int .u8 20),(.int .u8 15),(.int .u8 25),(.int .u8 17),(.int .u8 4),(.int .u8 8),(.int .u8 31),(.int .u8 27),(.int .u8 13),(.int .u8 23),(.int .u8 21),(.int .u8 19),(.int .u8 16),(.int .u8 7),(.int .u8 26),(.int .u8 12),(.int .u8 18),(.int .u8 6),(.int .u8 11),(.int .u8 5),(.int .u8 10),(.int .u8 9)])).modify ((Tryz.prog.globalNamed "math/bits.deBruijn64tab").getD 0) (putC #[(.int .u8 0),(.int .u8 1),(.int .u8 56),(.int .u8 2),(.int .u8 57),(.int .u8 49),(.int .u8 28),(.int .u8 3),(.int .u8 61),(.int .u8 58),(.int .u8 42),(.int .u8 50),(.int .u8 38),(.int .u8 29),(.int .u8 17),(.int .u8 4),(.int .u8 62),(.int .u8 47),(.int .u8 59),(.int .u8 36),(.int .u8 45),(.int .u8 43),(.int .u8 51),(.int .u8 22),(.int .u8 53),(.int .u8 39),(.int .u8 33),(.int .u8 30),(.int .u8 24),(.int .u8 18),(.int .u8 12),(.int .u8 5),(.int .u8 63),(.int .u8 55),(.int .u8 48),(.int .u8 27),(.int .u8 60),(.int .u8 41),(.int .u8 37),(.int .u8 16),(.int .u8 46),(.int .u8 35),(.int .u8 44),(.int .u8 21),(.int .u8 52),(.int .u8 32),(.int .u8 23),(.int .u8 11),(.int .u8 54),(.int .u8 26),(.int .u8 40),(.int .u8 15),(.int .u8 34),(.int .u8 20),(.int .u8 31),(.int .u8 10),(.int .u8 25),(.int .u8 14),(.int .u8 19),(.int .u8 9),(.int .u8 13),(.int .u8 8),(.int .u8 7),(.int .u8 6)])).modify ((Tryz.prog.globalNamed "internal/strconv.uint64pow10").getD 0) (putC #[(.int .u64 1),(.int .u64 10),(.int .u64 100),(.int .u64 1000),(.int .u64 10000),(.int .u64 100000),(.int .u64 1000000),(.int .u64 10000000),(.int .u64 100000000),(.int .u64 1000000000),(.int .u64 10000000000),(.int .u64 100000000000),(.int .u64 1000000000000),(.int .u64 10000000000000),(.int .u64 100000000000000),(.int .u64 1000000000000000),(.int .u64 10000000000000000),(.int .u64 100000000000000000),(.int .u64 1000000000000000000),(.int .u64 10000000000000000000)])).modify ((Tryz.prog.globalNamed "unicode/utf8.acceptRanges").getD 0) (putC #[(.int .u8 128),(.int .u8 191),(.int .u8 160),(.int .u8 191),(.int .u8 128),(.int .u8 159),(.int .u8 144),(.int .u8 191),(.int .u8 128),(.int .u8 143),(.int .u8 0),(.int .u8 0),(.int .u8 0),(.int .u8 0),(.int .u8 0),(.int .u8 0),(.int .u8 0),(.int .u8 0),(.int .u8 0),(.int .u8 0),(.int .u8 0),(.int .u8 0),(.int .u8 0),(.int .u8 0),(.int .u8 0),(.int .u8 0),(.int .u8 0),(.int .u8 0),(.int .u8 0),(.int .u8 0),(.int .u8 0),(.int .u8 0)])).modify ((Tryz.prog.globalNamed "strconv.ErrRange").getD 0) (putC #[.iface 232 (.pointer (some ⟨Tryz.prog.low+0,0,none⟩))])).modify ((Tryz.prog.globalNamed "strconv.ErrSyntax").getD 0) (putC #[.iface 232 (.pointer (some ⟨Tryz.prog.low+1,0,none⟩))])).modify ((Tryz.prog.globalNamed "unicode/utf8.first").getD 0) (putC ((Go.Pinned.utf8FirstZ.map fun n=>Value.int .u8 (n:Nat)).toArray))) }
theorem Qyf (os:Os):laidMet Tryz.prog Rows.fnExactTernRulesRow.laid ((Tb os).forCall (fun _ _=>0) ⟨#[],#[.slice none 0 0,.string (⟨#[]⟩:ByteArray)],[]⟩).memory :=
 laidMet_of_run3 8 (by kernel_rfl) (by kernel_rfl) (by kernel_rfl)
theorem reads (os:Os) {H:Type} (enc:TypeId×Value→H):∃ Gp,DataW.whole enc Tryz.prog ((Tb os).forCall (fun _ _=>0) ⟨#[],#[.slice none 0 0,.string (⟨#[]⟩:ByteArray)],[]⟩).memory Tryz.f6.params.toList Rows.fnExactTernRulesSpec.vars false #[.slice none 0 0,.string (⟨#[]⟩:ByteArray)].toList 8=some ([.nil,.lit (.string [])],[],Gp) :=
 ⟨[],by kernel_rfl⟩
theorem Qlc {W:World} {l:List (String×DataW Unit)} (h:laidMet Tryz.prog l W) {n tn:String} {d:DataW Unit} (hm:(n,.iface tn d)∈l) {g:Nat} (hg:Tryz.prog.globalNamed n=some g) (ht:(Tryz.prog.globals[g]?).map (·.type)=some 140) :
  ∃ e,W.cell? ⟨g,0,none⟩=some e∧(e=.nilIface∨∃ te pe,e=.iface te pe):=by
 obtain ⟨g',t',cs,fuel,p,h1,h2,h3,h4⟩:=Lib.laidMet.reads h hm
 obtain rfl:=Option.some.inj (hg.symm.trans h1)
 obtain rfl:=Option.some.inj (ht.symm.trans h2)
 have hc:∀ i,W.cell? ⟨g,i,none⟩=cs[i]?:=fun i=>by
  unfold World.var? at h3
  rw [hg] at h3
  simp only [Option.bind_some] at h3
  split at h3
  ·rename_i c _ _ hh
   simp only [Option.some.injEq] at h3
   subst h3
   simp [World.cell?,hh]
  ·cases h3
 cases fuel with
 | zero=>simp [DataW.trod] at h4
 | succ fuel =>
  simp only [DataW.trod,Tryz.underlying140] at h4
  split at h4 <;> first
   | (cases h4; done)
   | (rename_i hcs; refine ⟨_,(hc 0).trans (by rw [← Array.getElem?_toList,hcs]; rfl),?_⟩; first | exact .inl rfl | exact .inr ⟨_,_,rfl⟩)
   | (simp at h4; done)
   | (exfalso; simp_all; done)
theorem lifted (os:Os) (started:os.Started) (H:Type) (enc:TypeId×Value→H) (F:Stop.Interp) :
  ReturnsInHanded {} Tryz.checked os 6 .any ((OpenSpec.ofChange Rows.fnExactTernRulesSpec).preRow enc Tryz.prog Tryz.f6 Rows.fnExactTernRulesRow.domain false Rows.fnExactTernRulesRow.laid) (((OpenSpec.ofChange Rows.fnExactTernRulesSpec).at F).post enc Tryz.prog Tryz.f6 false true false false):=by
 obtain ⟨Gp,hx⟩:=reads os enc
 refine returnsInHanded_of_row (C:=Tryz.checked) (s:=OpenSpec.ofChange Rows.fnExactTernRulesSpec) own started (by kernel_rfl) Tryz.func6
  (witness_row_at (enc:=enc) (C:=Tryz.checked) false (Tb os) #[.slice none 0 0,.string (⟨#[]⟩:ByteArray)] rfl (by kernel_rfl) (by kernel_rfl) (by kernel_rfl)
   (OpenSpec.preRow_of_cond 8 hx (by kernel_rfl) (fun k hk=>by cases hk) (by kernel_rfl) (Qyf os))) ?_
 intro W base args ds gs before hval0 hW hcnd _ _ hL hsh _
 have hL':laidMet Tryz.prog Rows.fnExactTernRulesRow.laid W:=by
  have h0:=hL
  unfold laidMetH at h0
  rw [show (Rows.fnExactTernRulesRow.laid.filter fun x=>x.2.handleName?.isSome)=[] from by kernel_rfl] at h0
  exact h0
 have hval:∀ (j:Nat) t v,Tryz.f6.params[j]?=some t→args[j]?=some v→Value.okWide Tryz.prog W .any base t v:=hval0
 have hW':=hW
 obtain ⟨p,q,hA0,hV,rfl,hfz,hnd⟩:=hW
 have hA:DataW.TrodAll enc Tryz.prog W 0 (fun _=>true) true Tryz.f6.params.toList args.toList ds p:=hA0
 rw [Tryz.params6] at hA hval
 obtain ⟨v0,vs0,d0,ds0,p0,q0,hargs,rfl,rfl,h0,r0⟩:=trodAll_cons hA
 obtain ⟨v1,vs1,d1,ds1,p1,q1,rfl,rfl,rfl,h1,r1⟩:=trodAll_cons r0
 obtain ⟨rfl,rfl,rfl⟩:=trodAll_nil r1
 obtain rfl:args=#[v0,v1]:=by cases args; simp_all
 obtain ⟨rfl,rfl⟩:=trodVars_none hV
 obtain ⟨fu0,t0⟩:=h0
 obtain ⟨a0,n0,c0,rfl⟩:=okWide_slice Tryz.underlying22 (hval 0 22 v0 rfl rfl)
 obtain ⟨x0,u0,us0,e0,o0,-⟩:=op_M22 H enc W fu0 _ _ t0
 obtain ⟨o0,b0⟩:=Ugd o0
 obtain rfl:u0=_:=(List.cons.inj e0).1.symm
 obtain ⟨fu1,t1⟩:=h1
 obtain ⟨x1,rfl⟩:=okWide_string Tryz.underlying9 (hval 1 9 v1 rfl rfl)
 have hG:GP W:=⟨fun b hb=>by
  simp only [GBe,List.nil_append,List.cons_append,List.mem_cons,List.not_mem_nil,or_false] at hb
  rcases hb with rfl | rfl
  ·exact Qlc hL' (n:= "strconv.ErrSyntax") (by unfold Rows.fnExactTernRulesRow; exact List.mem_cons_of_mem _ (List.mem_cons_of_mem _ (List.mem_cons_of_mem _ (List.mem_cons_of_mem _ (List.mem_cons_of_mem _ (List.mem_cons_self)))))) (show Tryz.prog.globalNamed "strconv.ErrSyntax"=some ((Tryz.prog.globalNamed "strconv.ErrSyntax").getD 0) from by kernel_rfl) (by kernel_rfl)
  ·exact Qlc hL' (n:= "strconv.ErrRange") (by unfold Rows.fnExactTernRulesRow; exact List.mem_cons_of_mem _ (List.mem_cons_of_mem _ (List.mem_cons_of_mem _ (List.mem_cons_of_mem _ (List.mem_cons_self))))) (show Tryz.prog.globalNamed "strconv.ErrRange"=some ((Tryz.prog.globalNamed "strconv.ErrRange").getD 0) from by kernel_rfl) (by kernel_rfl),fun b hb=>by simp only [GBi,List.nil_append,List.mem_cons,List.not_mem_nil,or_false] at hb; subst hb; exact layCutM.s1_3 W hsh,fun q hq=>by
  simp only [GBt,List.nil_append,List.mem_cons,List.not_mem_nil,or_false] at hq
  subst hq
  obtain ⟨g',t',cs,fuel,p,h1,h2,h3,h4⟩:=Lib.laidMet.reads hL' (n:= "internal/strconv.uint64pow10") (by unfold Rows.fnExactTernRulesRow; exact List.mem_cons_of_mem _ (List.mem_cons_of_mem _ (List.mem_cons_self)))
  obtain rfl:=Option.some.inj ((show Tryz.prog.globalNamed "internal/strconv.uint64pow10"=some ((Tryz.prog.globalNamed "internal/strconv.uint64pow10").getD 0) from by kernel_rfl).symm.trans h1)
  obtain rfl:=Option.some.inj ((show (Tryz.prog.globals[(Tryz.prog.globalNamed "internal/strconv.uint64pow10").getD 0]?).map (·.type)=some 236 from by kernel_rfl).symm.trans h2)
  have hc:=Lib.cells_of_tab (k:=.u64) (zs:=Lib.pow10Tab) Tryz.underlying236 Tryz.underlying134 (by kernel_rfl) (by kernel_rfl) h4
  unfold World.var? at h3
  rw [(show Tryz.prog.globalNamed "internal/strconv.uint64pow10"=some ((Tryz.prog.globalNamed "internal/strconv.uint64pow10").getD 0) from by kernel_rfl)] at h3
  simp only [Option.bind_some] at h3
  split at h3
  ·rename_i c T fz hh
   simp only [Option.some.injEq] at h3
   subst h3
   exact ⟨T,fz,hh.trans (by congr 1; congr 1; exact Array.ext' (by simpa using hc))⟩
  ·cases h3⟩
 have hc:=Udd (W:=W) (vs:=[.slice a0 n0 c0,.string x1]) (ok6 x0 x1) (b0) (x:=.bool (F6 x0 x1)) hG ⟨_,_,[],[],rfl,⟨o0,rfl⟩,⟨_,_,[],[],rfl,⟨⟨rfl,rfl⟩,rfl⟩,⟨rfl,rfl⟩,rfl,List.nodup_nil⟩,rfl,List.nodup_nil⟩ rfl rfl
 rw [Ulc x0 x1] at hc
 refine hc.mono fun e W' ⟨he,hb⟩=>?_
 subst he
 exact ⟨_,rfl,Ufb rfl hW' hb rfl Tryz.underlying4 rfl rfl rfl laid (by decide +kernel)⟩
theorem said_FnExactTernRules:Rows.FnExactTernRulesSaid :=
 OpenClaim.holds_of_cond 6 Tryz.f6 rfl rfl rfl rfl rfl rfl rfl ⟨rfl,rfl,rfl,rfl,rfl⟩ rfl rfl rfl rfl rfl (by kernel_rfl) Tryz.func6 (by
   show joinedFacts Tryz.prog 6 Tryz.f6 (OpenSpec.ofChange Rows.fnExactTernRulesSpec).bare Rows.fnExactTernRulesRow=true
   simp only [joinedFacts,laid,cfMaps,cfKeys,Uij,Ujl,Uhc,cfMake,cfA,cfB,cfC,cfD,Bool.and_true]
   kernel_rfl)
  (of_decide_eq_true (by kernel_rfl)) (by unfold Func.isWrapper; first | (rw [if_pos (by decide +kernel)]; kernel_rfl) | (rw [if_neg (by decide +kernel)]; exact ⟨rfl,rfl⟩))
  (fun os started H enc _ F=>by rw [OpenClaim.pre_eq_preRow]; exact lifted os started H enc F)
theorem Qxa (f:FuncId) (fn:Func) (hf:Tryz.pinned.checked.prog.funcNamed "loop.example/tern/laws.FnExactTernRules"=some f) (hfn:Tryz.pinned.checked.prog.funcs[f]?=some fn) :
  true=Tryz.pinned.checked.prog.looks []∧∀ (j:Nat) t,fn.params[j]?=some t→Tryz.pinned.checked.prog.wantsStandIn t=false:=by
 obtain rfl:f=6:=Option.some.inj ((show Tryz.prog.funcNamed "loop.example/tern/laws.FnExactTernRules"=some 6 by kernel_rfl).symm.trans hf) |>.symm
 obtain rfl:fn=Tryz.f6:=(Option.some.inj (Tryz.func6.symm.trans hfn)).symm
 refine ⟨by kernel_rfl,fun j t ht=>?_⟩
 rw [Tryz.params6] at ht
 have hm:=Array.mem_of_getElem? ht
 simp only [List.mem_toArray,List.mem_cons,List.not_mem_nil,or_false] at hm
 rcases hm with rfl | rfl
 ·exact (show Tryz.prog.wantsStandIn 22=false by kernel_rfl)
 ·exact (show Tryz.prog.wantsStandIn 9=false by kernel_rfl)
theorem card_wf:Rows.fnExactTernRulesRow.wfByText (OpenSpec.ofChange Rows.fnExactTernRulesSpec)=true:=by kernel_rfl
theorem card_main:Tryz.prog.mainIs=some (Rows.fnExactTernRulesCard.stood.harness.1,Rows.fnExactTernRulesCard.stood.harness.2.toList):=by kernel_rfl
theorem card_goes:false=Rows.fnExactTernRulesRow.goesBy Tryz.prog:=by kernel_rfl
theorem proved_FnExactTernRules:Rows.FnExactTernRulesCardSaid :=
 Claim7.holds_tied_plain_at .later [] _ _ _ _ said_FnExactTernRules (fun _ h=>by cases h) card_wf (fun _ h=>by cases h) fnExactTernRules_row_tie rfl ⟨rfl,rfl⟩ card_main rfl Qxa card_goes
#print axioms proved_FnExactTernRules
end Go.Proofs.YtcgfkhokhiggkaaGreatDoor
