/- The card's statement of FnExactTernPortOf: for all arguments the law returns true, without further conditions. Texts put together: VTDL, PTDL, C43. -/
import Derived.Test.YtbaholefcgacpaeGreatDoorRows
import Derived.Test.YtbaholefcgacpaeGreatDoorCards
import Derived.Test.YtbaholefcgacpaeGreatDoorTie
import Derived.Deep.DeepHandedRow
import Derived.Deep.DeepLaidRun
import Derived.JoinedCond
import Derived.Lib.LaidU8
import Derived.Test.YtbaholefcgacpaeGreatDoorZC43E
namespace Go.Proofs.YtbaholefcgacpaeGreatDoor
open Go.RowKit
set_option maxRecDepth 100000
set_option linter.unusedVariables false
set_option linter.unusedSimpArgs false
def Qdb (a:List ByteArray):(Int×List ByteArray)→Lp (Int×List ByteArray) (List ByteArray):=fun (i40,xs) =>
 bif (decide (i40<(a.length:Int))) then (.next ((i40+1),(xs.set (i40).toNat (a.getD i40.toNat default)))) else (.done (i40,xs))
def F6 (a:List ByteArray):List ByteArray :=
 (runL (Qdb a) (((a.length:Int)-0).toNat+1) (0,(List.replicate (a.length:Int).toNat ((⟨#[]⟩:ByteArray):ByteArray)))).fin (fun r=>r) (fun (i40,xs)=>xs)
abbrev Qjj (a:List ByteArray):Nat×(Int×List ByteArray):=((((a.length:Int)-0).toNat+1),(0,(List.replicate (a.length:Int).toNat (w13_:ByteArray))))
abbrev Qxd (a:List ByteArray) (m39:Nat) (i40:Int) (xs:List ByteArray):Prop:=Int.toNat ((a.length:Int)-i40)<m39∧(0:Int)≤i40∧xs.length=(List.replicate (a.length:Int).toNat (w13_:ByteArray)).length
abbrev lX6_0 (a:List ByteArray):Lp (Int×List ByteArray) (List ByteArray):=LpX (Qdb a) (Qjj a)
abbrev Qhg (a:List ByteArray) (i:Nat×(Int×List ByteArray)):Prop:=LpJ (Qdb a) (Qjj a) i (Qxd a i.1 i.2.1 i.2.2)
abbrev lH6_0 (a:List ByteArray) (i:Nat×(Int×List ByteArray)) (m39:Nat) (i40:Int) (xs:List ByteArray):Prop:=LpH (Qdb a) (Qjj a) i m39 (i40,xs) (Qxd a (m39+1) i40 xs)
abbrev lE6_0 (a:List ByteArray) (i40:Int) (xs:List ByteArray) (i40_:Int) (xs_:List ByteArray) (K39:Prop):Prop:=((.int .i64 i40:Value)=.int .i64 i40_)∧(Im (.l 1 eStr a))∧(Imp (.l 1 eStr xs) (.l 1 eStr xs_))∧K39
theorem un6_0 (a:List ByteArray) (i:Nat×(Int×List ByteArray)) (h:Qhg a i):lH6_0 a i (i.1-1) i.2.1 i.2.2:=⟨hd1 h.1 h.2.1,hd3 h.2.1,hd2 h.2.1,h.2.2⟩
theorem bk6_0 (a:List ByteArray) (i:Nat×(Int×List ByteArray)) (m39:Nat) (i40:Int) (xs:List ByteArray) (hl:m39<i.1) (e:runL (Qdb a) m39 (i40,xs)=lX6_0 a) (h:Qxd a m39 i40 xs):∃ j:Nat×(Int×List ByteArray),lE6_0 a i40 xs j.2.1 j.2.2 (Qhg a j∧j.1<i.1):=⟨(m39,(i40,xs)),rfl,Imp.refl _,Imp.refl _,⟨e,h⟩,hl⟩
theorem en6_0 (a:List ByteArray) (h:(0:Int)≤0∧(List.replicate (a.length:Int).toNat (w13_:ByteArray)).length=(List.replicate (a.length:Int).toNat (w13_:ByteArray)).length):lE6_0 a 0 (List.replicate (a.length:Int).toNat (w13_:ByteArray)) 0 (List.replicate (a.length:Int).toNat (w13_:ByteArray)) (Qhg a (Qjj a)):=⟨rfl,Imp.refl _,Imp.refl _,rfl,Nat.lt_succ_self _,h⟩
theorem fi6 (a:List ByteArray) (r:List ByteArray) (hF:r=(F6 a)):(Imp (.l 1 eStr r) (.l 1 eStr (F6 a)))∧True:=by cases hF; exact ⟨Imp.refl _,trivial⟩
def S6 (R:List ByteArray) (a:List ByteArray):Spec:=⟨[.r (.c (.l 1 eStr a))],.ow (.l 1 eStr R),a.length≤1000000000∧(∀ k:Nat,(a.getD k default).size≤1000000000)⟩
theorem ok6 (a:List ByteArray):(S6 (F6 a) a).ok Tryz.prog 6 :=
 Qi mixed (fn:=Tryz.f6) (ct:=.seqk [(0,0)] .no (.seq (.reg [(2,.dat (.l 1 eStr (List.replicate (a.length:Int).toNat (w13_:ByteArray))))]) (.seq (.seqk [(0,0),(3,0)] .no (.blk (.loop (ι:=Nat×(Int×List ByteArray)) (fun i=>(fun (i40:Int) (xs:List ByteArray)=>(⟨[(0,some (.h 0 0)),(3,some (.h 1 0)),(4,some (.v (vI i40)))],[(0,some (.shr none (.l 1 eStr a))),(1,some (.own 1 (.l 1 eStr xs)))],2⟩:St)) i.2.1 i.2.2) (Qhg a) (fun i=>i.1) (Qjj a) (fun i=>(fun (i40:Int) (xs:List ByteArray)=>(.seq (.seq .no (.cond .no .no)) (.seq (.blk (.reg [(7,.dat (.l 1 eStr (xs.set (i40).toNat (a.getD i40.toNat default))))])) (.reg [(1,.bnd)])))) i.2.1 i.2.2)))) (.seq .no .no)))) Tryz.func6 (fun (hp:a.length≤1000000000∧(∀ k:Nat,(a.getD k default).size≤1000000000))=>have hpre0:=hp.1; have hpre1:=hp.2; kn a fun _=>ai (by first | omega | (simp only [lens,ib] at*<;> omega):0≤(a.length:Int)∧(a.length:Int)≤(a.length:Int)∧(16:Int)*(a.length:Int)≤281474976710656) (ai (MakeOK.mk eStr (w13_:ByteArray) (by exact ai ir trivial):MakeOK 1 [.v (.string w13_)] (a.length:Int).toNat (.l 1 eStr (List.replicate (a.length:Int).toNat (w13_:ByteArray)))) (kn a fun _=>kn (List.replicate (a.length:Int).toNat (w13_:ByteArray)) fun _=>ai (en6_0 a (by refine ⟨?_,?_⟩ <;> first | omega | (simp only [lens,ib] at*<;> omega))) (fun (i0:Nat×(Int×List ByteArray)) (hi0:Qhg a i0)=>(fun (m0:Nat) (i40:Int) (xs:List ByteArray) (hh0:lH6_0 a i0 m0 i40 xs)=>have hI0:=hh0.1; have hl0:=hh0.2.1; have _:=hh0.2.2.1; have _:=hh0.2.2.2; ifd (i40<(a.length:Int)) (fun h2 _=>ai (by first | omega | (simp only [lens,ib] at*<;> omega):ib i40 a) (ai (by first | omega | (simp only [lens,ib] at*<;> omega):ib i40 xs) (ai (setr 1 eStr xs (i40).toNat (a.getD i40.toNat default)) (ai (iok (i40+1) (by first | omega | (simp only [lens,ib] at*<;> omega))) (bk6_0 a i0 m0 (i40+1) (xs.set (i40).toNat (a.getD i40.toNat default)) hl0 (Qe hI0 (condT h2 rfl)) (by refine ⟨?_,?_,?_⟩ <;> first | omega | (simp only [lens,ib] at*<;> omega))))))) (fun h2 _=>have hD0_3:lX6_0 a=Lp.done (i40,xs):=Ql hI0 (condF h2 rfl); fi6 a xs (finD hD0_3 rfl))) (i0.1-1) i0.2.1 i0.2.2 (un6_0 a i0 hi0))))) (by kernel_rfl)
theorem as6 (a:List ByteArray):F6 a=(a):=by
 exact Uca (fun x=>x) (fun _=>rfl) a _ (by simp) (Qdb a) (fun i xs=>rfl)
theorem oa6 (a:List ByteArray):(S6 (a) a).ok Tryz.prog 6:=by
 intro hp; have h:=ok6 a hp; rw [as6 a] at h; exact h
def Ez (a:List ByteArray) (b:List ByteArray):Int→Lp Int Bool:=fun i40 =>
 bif (decide (i40<(a.length:Int))) then (bif (!((a.getD i40.toNat default).toList==(b.getD i40.toNat default).toList)) then (.ret false) else (.next (i40+1))) else (.done i40)
def F8 (a:List ByteArray) (b:List ByteArray):Bool :=
 bif ((a.length:Int) != (b.length:Int)) then false else ((runL (Ez a b) (((a.length:Int)-0).toNat+1) 0).fin (fun r=>r) (fun i40=>true))
abbrev Qjm (a:List ByteArray):Nat×Int:=((((a.length:Int)-0).toNat+1),0)
abbrev Qsz (a:List ByteArray) (m39:Nat) (i40:Int):Prop:=Int.toNat ((a.length:Int)-i40)<m39∧(0:Int)≤i40
abbrev lX8_0 (a:List ByteArray) (b:List ByteArray):Lp Int Bool:=LpX (Ez a b) (Qjm a)
abbrev Qih (a:List ByteArray) (b:List ByteArray) (i:Nat×Int):Prop:=LpJ (Ez a b) (Qjm a) i (Qsz a i.1 i.2)
abbrev lH8_0 (a:List ByteArray) (b:List ByteArray) (i:Nat×Int) (m39:Nat) (i40:Int):Prop:=LpH (Ez a b) (Qjm a) i m39 i40 (Qsz a (m39+1) i40)
abbrev lE8_0 (a:List ByteArray) (b:List ByteArray) (i40:Int) (i40_:Int) (K39:Prop):Prop:=((.int .i64 i40:Value)=.int .i64 i40_)∧(Im (.l 1 eStr a))∧(Im (.l 1 eStr b))∧K39
theorem un8_0 (a:List ByteArray) (b:List ByteArray) (i:Nat×Int) (h:Qih a b i):lH8_0 a b i (i.1-1) i.2:=⟨hd1 h.1 h.2.1,hd3 h.2.1,hd2 h.2.1,h.2.2⟩
theorem bk8_0 (a:List ByteArray) (b:List ByteArray) (i:Nat×Int) (m39:Nat) (i40:Int) (hl:m39<i.1) (e:runL (Ez a b) m39 i40=lX8_0 a b) (h:Qsz a m39 i40):∃ j:Nat×Int,lE8_0 a b i40 j.2 (Qih a b j∧j.1<i.1):=⟨(m39,i40),rfl,Imp.refl _,Imp.refl _,⟨e,h⟩,hl⟩
theorem en8_0 (a:List ByteArray) (b:List ByteArray) (h:(0:Int)≤0):lE8_0 a b 0 0 (Qih a b (Qjm a)):=⟨rfl,Imp.refl _,Imp.refl _,rfl,Nat.lt_succ_self _,h⟩
def S8 (R:Bool) (a:List ByteArray) (b:List ByteArray):Spec:=⟨[.r (.c (.l 1 eStr a)),.r (.c (.l 1 eStr b))],.v (.bool R),True⟩
theorem ok8 (a:List ByteArray) (b:List ByteArray):(S8 (F8 a b) a b).ok Tryz.prog 8 :=
 Qi mixed (fn:=Tryz.f8) (ct:=.seqk [(0,0),(1,0)] .no (.seq (.seq .no (.cond (.seq .no .no) .no)) (.seq (.seqk [(0,0),(1,0)] .no (.blk (.loop (ι:=Nat×Int) (fun i=>(fun (i40:Int)=>(⟨[(0,some (.h 0 0)),(1,some (.h 1 0)),(5,some (.v (vI i40)))],[(0,some (.shr none (.l 1 eStr a))),(1,some (.shr none (.l 1 eStr b)))],2⟩:St)) i.2) (Qih a b) (fun i=>i.1) (Qjm a) (fun i=>(fun (i40:Int)=>(.seq (.seq .no (.cond .no .no)) (.seq (.blk (.seq .no (.cond (.seq .no .no) .no))) (.reg [(1,.bnd)])))) i.2)))) (.seq .no .no)))) Tryz.func8 (fun (_:True)=>kn a fun _=>kn b fun _=>ifn (a.length:Int) (b.length:Int) (fun h1 _=>fiB false (F8 a b) (condT h1 rfl)) (fun h1 _=>kn a fun _=>kn b fun _=>ai (en8_0 a b (by omega)) (fun (i0:Nat×Int) (hi0:Qih a b i0)=>(fun (m0:Nat) (i40:Int) (hh0:lH8_0 a b i0 m0 i40)=>have hI0:=hh0.1; have hl0:=hh0.2.1; have _:=hh0.2.2.1; have _:=hh0.2.2.2; ifd (i40<(a.length:Int)) (fun h3 _=>ai (by omega:ib i40 a) (ai (by omega:ib i40 b) (ifb (!((a.getD i40.toNat default).toList==(b.getD i40.toNat default).toList)) (fun h4=>fiB false (F8 a b) (condF h1 (finR (Qr hI0 (condT h3 (condT h4 rfl))) rfl))) (fun h4=>ai (iok (i40+1) (by omega)) (bk8_0 a b i0 m0 (i40+1) hl0 (Qe hI0 (condT h3 (condF h4 rfl))) (by refine ⟨?_,?_⟩ <;> omega)))))) (fun h3 _=>have hD0_5:lX8_0 a b=Lp.done i40:=Ql hI0 (condF h3 rfl); fiB true (F8 a b) (condF h1 (finD hD0_5 rfl)))) (i0.1-1) i0.2 (un8_0 a b i0 hi0)))) (by kernel_rfl)
theorem as8 (a:List ByteArray) (b:List ByteArray):F8 a b=(decide (a=b)):=by
 exact Ucu (fun x y=>decide (x=y)) (fun _ _=>rfl) a b (Ez a b) (fun i=>by simp only [Ez,neI,neB,neS])
theorem oa8 (a:List ByteArray) (b:List ByteArray):(S8 (decide (a=b)) a b).ok Tryz.prog 8:=by
 intro hp; have h:=ok8 a b hp; rw [as8 a b] at h; exact h
theorem kc4 (a:List ByteArray) (left':Int) {K_:Prop} (p0_:0≤left') (p1_:left'≤1048576) (p2_:∀ k:Nat,(a.getD k default).size≤9223372036854775807) (k_:(0≤left'→left'≤1048576→0≤(F4 a left')→(F4 a left')≤left')→(0≤left'→left'≤1048576→0≤(F4 a left')→a.length≤1000000000)→(0≤left'→left'≤1048576→0≤(F4 a left')→∀ k:Nat,(a.getD k default).size≤1000000000)→K_):(0≤left'∧left'≤1048576∧(∀ k:Nat,(a.getD k default).size≤9223372036854775807))∧(Imp (.l 1 eStr a) (.l 1 eStr a))∧(Imp (.v (vI left')) (.v (vI left')))∧K_:=⟨⟨p0_,p1_,p2_⟩,Imp.refl _,Imp.refl _,k_ (g4_0 a left') (g4_1 a left') (g4_2 a left')⟩
theorem kc6a (a:List ByteArray) {K_:Prop} (p0_:a.length≤1000000000) (p1_:∀ k:Nat,(a.getD k default).size≤1000000000) (k_:K_):(a.length≤1000000000∧(∀ k:Nat,(a.getD k default).size≤1000000000))∧(Imp (.l 1 eStr a) (.l 1 eStr a))∧K_:=⟨⟨p0_,p1_⟩,Imp.refl _,k_⟩
theorem kc5 (lines:List ByteArray) (addr:Int) {K_:Prop} (p0_:lines.length≤1048576) (p1_:∀ k:Nat,(lines.getD k default).size≤1048576) (k_:K_):(lines.length≤1048576∧(∀ k:Nat,(lines.getD k default).size≤1048576))∧(Imp (.l 1 eStr lines) (.l 1 eStr lines))∧(Imp (.v (vI addr)) (.v (vI addr)))∧K_:=⟨⟨p0_,p1_⟩,Imp.refl _,Imp.refl _,k_⟩
theorem kc7 (lines:List ByteArray) (addr:Int) {K_:Prop} (p0_:lines.length≤1048576) (p1_:∀ k:Nat,(lines.getD k default).size≤1048576) (k_:K_):(lines.length≤1048576∧(∀ k:Nat,(lines.getD k default).size≤1048576))∧(Imp (.l 1 eStr lines) (.l 1 eStr lines))∧(Imp (.v (vI addr)) (.v (vI addr)))∧K_:=⟨⟨p0_,p1_⟩,Imp.refl _,Imp.refl _,k_⟩
abbrev kh4f (a:List ByteArray) (left':Int):Hint false Tryz.prog:=.call 4 (S4 a left') ((ok4 a left').to false) none
abbrev Ubo (a:List ByteArray):Hint false Tryz.prog:=.call 6 (S6 a a) ((oa6 a).to false) none
abbrev kh5f (lines:List ByteArray) (addr:Int):Hint false Tryz.prog:=.call 5 (S5 lines addr) ((ok5 lines addr).to false) none
abbrev kh7 (lines:List ByteArray) (addr:Int):Hint false Tryz.prog:=.call 7 (S7 lines addr) (ok7 lines addr) none
theorem kc8a (a:List ByteArray) (b:List ByteArray) {K_:Prop} (k_:K_):(True)∧(Imp (.l 1 eStr a) (.l 1 eStr a))∧(Imp (.l 1 eStr b) (.l 1 eStr b))∧K_:=⟨trivial,Imp.refl _,Imp.refl _,k_⟩
abbrev kh8af (a:List ByteArray) (b:List ByteArray):Hint false Tryz.prog:=.call 8 (S8 (decide (a=b)) a b) ((oa8 a b).to false) none
def F3 (aLines:List ByteArray) (aAddr:Int):Bool :=
 bif (decide ((F4 aLines 1048576)<0)) then true else (bif ((F7 aLines aAddr) != (F5 aLines aAddr)) then false else (bif (!(decide (aLines=aLines))) then false else true))
def S3 (aLines:List ByteArray) (aAddr:Int):Spec:=⟨[.r (.c (.l 1 eStr aLines)),.r (.c (.v (vI aAddr)))],.v (.bool (F3 aLines aAddr)),(∀ k:Nat,(aLines.getD k default).size≤9223372036854775807)⟩
theorem ok3 (aLines:List ByteArray) (aAddr:Int):(S3 aLines aAddr).ok Tryz.prog 3 false :=
 Qi mixed (fn:=Tryz.f3) (ct:=.seqk [(0,0)] .no (.seq .no (.seq (.reg [(2,kh4f aLines 1048576)]) (.seq (.seq .no (.cond (.seq .no .no) .no)) (.seq (.reg [(1,Ubo aLines),(3,kh5f aLines aAddr)]) (.seq (.reg [(1,Ubo aLines)]) (.seq (.reg [(2,kh7 aLines aAddr)]) (.seq (.seq .no (.cond (.seq .no .no) .no)) (.seq (.seq (.reg [(2,Ubo aLines),(3,kh8af aLines aLines)]) (.cond (.seq .no .no) .no)) (.seq .no .no)))))))))) Tryz.func3 (fun (hpre0:∀ k:Nat,(aLines.getD k default).size≤9223372036854775807)=>kn aLines fun _=>kc4 aLines 1048576 (by omega) (by omega) (by first | assumption | exact hpre0 _ | exact fun k _=>hpre0 k | (intros; exact trivial) | (intros; exact Nat.zero_le _)) (fun gv1 gv2 gv3=>ifd ((F4 aLines 1048576)<0) (fun h4 _=>fiB true (F3 aLines aAddr) (condT h4 rfl)) (fun h4 _=>kc6a aLines (by omega) (by first | assumption | exact hpre0 _ | exact fun k _=>hpre0 k | exact gv3 (by omega) (by omega) (by omega) | (intros; exact trivial) | (intros; exact Nat.zero_le _)) (kc5 aLines aAddr (by first | omega | exact Qgs aLines (l:=1048576) (by omega) (by omega) | exact Py aLines (l:=1048576) (by omega) (by omega)) (by first | omega | exact Qgs aLines (l:=1048576) (by omega) (by omega) | exact Py aLines (l:=1048576) (by omega) (by omega)) (kc6a aLines (by omega) (by first | assumption | exact hpre0 _ | exact fun k _=>hpre0 k | exact gv3 (by omega) (by omega) (by omega) | (intros; exact trivial) | (intros; exact Nat.zero_le _)) (kc7 aLines aAddr (by first | omega | exact Qgs aLines (l:=1048576) (by omega) (by omega) | exact Py aLines (l:=1048576) (by omega) (by omega)) (by first | omega | exact Qgs aLines (l:=1048576) (by omega) (by omega) | exact Py aLines (l:=1048576) (by omega) (by omega)) (ifn (F7 aLines aAddr) (F5 aLines aAddr) (fun h5 _=>fiB false (F3 aLines aAddr) (condF h4 (condT h5 rfl))) (fun h5 _=>kc6a aLines (by omega) (by first | assumption | exact hpre0 _ | exact fun k _=>hpre0 k | exact gv3 (by omega) (by omega) (by omega) | (intros; exact trivial) | (intros; exact Nat.zero_le _)) (kc8a aLines aLines (ifb (!(decide (aLines=aLines))) (fun h6=>have _:=of_decide_eq_false (Jk h6); fiB false (F3 aLines aAddr) (condF h4 (condF h5 (condT h6 rfl)))) (fun h6=>have _:=of_decide_eq_true (Yi h6); fiB true (F3 aLines aAddr) (condF h4 (condF h5 (condF h6 rfl)))))))))))))) (by kernel_rfl)
theorem Uct (lines:List ByteArray) (addr:Int):F3 lines addr=true:=by
 unfold F3
 rw [Qjo]
 simp
end Go.Proofs.YtbaholefcgacpaeGreatDoor
namespace Go.Proofs.YtbaholefcgacpaeGreatDoor
open Go Go.RowKit Go.ChangeShapes Go.WideShapes Go.ChangeAt
set_option maxRecDepth 100000
set_option linter.unusedVariables false
theorem op_9:OpD Tryz.prog 9 eStr:=OpD.str Tryz.underlying9
theorem op_22:OpD Tryz.prog 22 (fun xs:List ByteArray=>[.l 1 eStr xs]):=OpD.slice 1 Tryz.underlying22 op_9 (fun _=>rfl) (by kernel_rfl) (by decide)
theorem op_3:OpD Tryz.prog 3 eInt:=OpD.int Tryz.underlying3
def Qvw (s:ByteArray):List Dat:=[.x (BX s 9223372036854775807)]
theorem Udl:OpD Tryz.prog 9 Qvw:=fun H e W f cs y h=>by
 obtain ⟨s,rfl,_,hs⟩:=DataW.trod_string Tryz.underlying9 h
 exact ⟨s,_,_,rfl,⟨rfl,hs⟩,rfl⟩
theorem Uea {S:Nat→Prop} {W:World} {xs:List ByteArray} {v:Value} (h:RdV S W (.l 1 Qvw xs) v):RdV S W (.l 1 eStr xs) v∧∀ k:Nat,(xs.getD k default).size≤9223372036854775807:=by
 obtain ⟨a,c,e,h1,h2,h3⟩:=h
 refine ⟨⟨a,c,e,h1,h2,fun i x hx=>?_⟩,fun k=>?_⟩
 ·obtain ⟨k1,k2,cs,k3,k4,k5⟩:=h3 i x hx
  obtain ⟨u,us,rfl,⟨k6,k7⟩,k8⟩:=k5
  exact ⟨k1,k2,_,k3,k4,u,us,rfl,⟨k6,rfl⟩,k8⟩
 ·rw [List.getD_eq_getElem?_getD]
  cases hx:xs[k]? with
  | none=>exact Nat.zero_le _
  | some x =>
   obtain ⟨k1,k2,cs,k3,k4,k5⟩:=h3 k x hx
   obtain ⟨u,us,rfl,⟨k6,k7⟩,k8⟩:=k5
   exact k7
theorem op_M22:OpD Tryz.prog 22 (fun xs:List ByteArray=>[.l 1 Qvw xs]):=OpD.slice 1 Tryz.underlying22 Udl (fun _=>rfl) (by kernel_rfl) (by decide)
theorem own:ownKnob Tryz.prog.godebug=none:=by kernel_rfl
theorem cfA:Tryz.prog.inPlace 3=Rows.fnExactTernPortOfRow.inPlace:=by kernel_rfl
theorem cfB:Tryz.prog.unfollowed 3=Rows.fnExactTernPortOfRow.unfollowed:=by kernel_rfl
theorem cfC:Tryz.prog.recurses 3=Rows.fnExactTernPortOfRow.recurses:=by kernel_rfl
theorem cfD:Tryz.prog.varsNamed 3=Rows.fnExactTernPortOfRow.named:=by kernel_rfl
set_option maxRecDepth 100000 in
def putC (cs:Array Value):Obj→Obj
 | .cells _ t fz=>.cells cs t fz
 | o=>o
noncomputable def Nl (os:Os):World :=
 let w:=World.holding Tryz.prog os ⟨#[.cells #[.string ⟨#[118,97,108,117,101,32,111,117,116,32,111,102,32,114,97,110,103,101]⟩] 135,.cells #[.string ⟨#[105,110,118,97,108,105,100,32,115,121,110,116,97,120]⟩] 135],#[],[]⟩
 { w with heap:=(((((((w.heap.modify ((Tryz.prog.globalNamed "math/bits.deBruijn32tab").getD 0) (putC #[(.int .u8 0),(.int .u8 1),(.int .u8 28),(.int .u8 2),(.int .u8 29),(.int .u8 14),(.int .u8 24),(.int .u8 3),(.int .u8 30),(.int .u8 22),(.int .u8 20),(.int .u8 15),(.int .u8 25),(.int .u8 17),(.int .u8 4),(.int .u8 8),(.int .u8 31),(.int .u8 27),(.int .u8 13),(.int .u8 23),(.int .u8 21),(.int .u8 19),(.int .u8 16),(.int .u8 7),(.int .u8 26),(.int .u8 12),(.int .u8 18),(.int .u8 6),(.int .u8 11),(.int .u8 5),(.int .u8 10),(.int .u8 9)])).modify ((Tryz.prog.globalNamed "math/bits.deBruijn64tab").getD 0) (putC #[(.int .u8 0),(.int .u8 1),(.int .u8 56),(.int .u8 2),(.int .u8 57),(.int .u8 49),(.int .u8 28),(.int .u8 3),(.int .u8 61),(.int .u8 58),(.int .u8 42),(.int .u8 50),(.int .u8 38),(.int .u8 29),(.int .u8 17),(.int .u8 4),(.int .u8 62),(.int .u8 47),(.int .u8 59),(.int .u8 36),(.int .u8 45),(.int .u8 43),(.int .u8 51),(.int .u8 22),(.int .u8 53),(.int .u8 39),(.int .u8 33),(.int .u8 30),(.int .u8 24),(.int .u8 18),(.int .u8 12),(.int .u8 5),(.int .u8 63),(.int .u8 55),(.int .u8 48),(.int .u8 27),(.int .u8 60),(.int .u8 41),(.int .u8 37),(.int .u8 16),(.int .u8 46),(.int .u8 35),(.int .u8 44),(.int .u8 21),(.int .u8 52),(.int .u8 32),(.int .u8 23),(.int .u8 11),(.int .u8 54),(.int .u8 26),(.int .u8 40),(.int .u8 15),(.int .u8 34),(.int .u8 20),(.int .u8 31),(.int .u8 10),(.int .u8 25),(.int .u8 14),(.int .u8 19),(.int .u8 9),(.int .u8 13),(.int .u8 8),(.int .u8 7),(.int .u8 6)])).modify ((Tryz.prog.globalNamed "internal/strconv.uint64pow10").getD 0) (putC #[(.int .u64 1),(.int .u64 10),(.int .u64 100),(.int .u64 1000),(.int .u64 10000),(.int .u64 100000),(.int .u64 1000000),(.int .u64 10000000),(.int .u64 100000000),(.int .u64 1000000000),(.int .u64 10000000000),(.int .u64 100000000000),(.int .u64 1000000000000),(.int .u64 10000000000000),(.int .u64 100000000000000),(.int .u64 1000000000000000),(.int .u64 10000000000000000),(.int .u64 100000000000000000),(.int .u64 1000000000000000000),(.int .u64 10000000000000000000)])).modify ((Tryz.prog.globalNamed "unicode/utf8.acceptRanges").getD 0) (putC #[(.int .u8 128),(.int .u8 191),(.int .u8 160),(.int .u8 191),(.int .u8 128),(.int .u8 159),(.int .u8 144),(.int .u8 191),(.int .u8 128),(.int .u8 143),(.int .u8 0),(.int .u8 0),(.int .u8 0),(.int .u8 0),(.int .u8 0),(.int .u8 0),(.int .u8 0),(.int .u8 0),(.int .u8 0),(.int .u8 0),(.int .u8 0),(.int .u8 0),(.int .u8 0),(.int .u8 0),(.int .u8 0),(.int .u8 0),(.int .u8 0),(.int .u8 0),(.int .u8 0),(.int .u8 0),(.int .u8 0),(.int .u8 0)])).modify ((Tryz.prog.globalNamed "strconv.ErrRange").getD 0) (putC #[.iface 133 (.pointer (some ⟨Tryz.prog.low+0,0,none⟩))])).modify ((Tryz.prog.globalNamed "strconv.ErrSyntax").getD 0) (putC #[.iface 133 (.pointer (some ⟨Tryz.prog.low+1,0,none⟩))])).modify ((Tryz.prog.globalNamed "unicode/utf8.first").getD 0) (putC ((Go.Pinned.utf8FirstZ.map fun n=>Value.int .u8 (n:Nat)).toArray))) }
theorem Qxh (os:Os):laidMet Tryz.prog Rows.fnExactTernPortOfRow.laid ((Nl os).forCall (fun _ _=>0) ⟨#[],#[.slice none 0 0,.int .i64 0],[]⟩).memory :=
 laidMet_of_run3 8 (by kernel_rfl) (by kernel_rfl) (by kernel_rfl)
theorem reads (os:Os) {H:Type} (enc:TypeId×Value→H):∃ Xu,DataW.whole enc Tryz.prog ((Nl os).forCall (fun _ _=>0) ⟨#[],#[.slice none 0 0,.int .i64 0],[]⟩).memory Tryz.f3.params.toList Rows.fnExactTernPortOfSpec.vars false #[.slice none 0 0,.int .i64 0].toList 8=some ([.nil,.lit (.int .i64 0)],[],Xu) :=
 ⟨[],by kernel_rfl⟩
theorem Qiv {W:World} {l:List (String×DataW Unit)} (h:laidMet Tryz.prog l W) {n tn:String} {d:DataW Unit} (hm:(n,.iface tn d)∈l) {g:Nat} (hg:Tryz.prog.globalNamed n=some g) (ht:(Tryz.prog.globals[g]?).map (·.type)=some 68) :
  ∃ e,W.cell? ⟨g,0,none⟩=some e∧(e=.nilIface∨∃ te pe,e=.iface te pe):=by
 obtain ⟨g',t',cs,fuel,p,h1,h2,h3,h4⟩:=Lib.laidMet.reads h hm
 obtain rfl:=Option.some.inj (hg.symm.trans h1)
 obtain rfl:=Option.some.inj (ht.symm.trans h2)
 have hc:∀ i,W.cell? ⟨g,i,none⟩=cs[i]?:=fun i=>by
  unfold World.var? at h3
  rw [hg] at h3
  simp only [Option.bind_some] at h3
  split at h3
  ·rename_i c _ _ hh
   simp only [Option.some.injEq] at h3
   subst h3
   simp [World.cell?,hh]
  ·cases h3
 cases fuel with
 | zero=>simp [DataW.trod] at h4
 | succ fuel =>
  simp only [DataW.trod,Tryz.underlying68] at h4
  split at h4 <;> first
   | (cases h4; done)
   | (rename_i hcs; refine ⟨_,(hc 0).trans (by rw [← Array.getElem?_toList,hcs]; rfl),?_⟩; first | exact .inl rfl | exact .inr ⟨_,_,rfl⟩)
   | (simp at h4; done)
   | (exfalso; simp_all; done)
theorem lifted (os:Os) (started:os.Started) (H:Type) (enc:TypeId×Value→H) (F:Stop.Interp) :
  ReturnsInHanded {} Tryz.checked os 3 .any ((OpenSpec.ofChange Rows.fnExactTernPortOfSpec).preRow enc Tryz.prog Tryz.f3 Rows.fnExactTernPortOfRow.domain false Rows.fnExactTernPortOfRow.laid) (((OpenSpec.ofChange Rows.fnExactTernPortOfSpec).at F).post enc Tryz.prog Tryz.f3 false true false false):=by
 obtain ⟨Xu,hx⟩:=reads os enc
 refine returnsInHanded_of_row (C:=Tryz.checked) (s:=OpenSpec.ofChange Rows.fnExactTernPortOfSpec) own started (by kernel_rfl) Tryz.func3
  (witness_row_at (enc:=enc) (C:=Tryz.checked) false (Nl os) #[.slice none 0 0,.int .i64 0] rfl (by kernel_rfl) (by kernel_rfl) (by kernel_rfl)
   (OpenSpec.preRow_of_cond 8 hx (by kernel_rfl) (fun k hk=>by cases hk) (by kernel_rfl) (Qxh os))) ?_
 intro W base args ds gs before hval0 hW hcnd _ _ hL hsh _
 have hL':laidMet Tryz.prog Rows.fnExactTernPortOfRow.laid W:=by
  have h0:=hL
  unfold laidMetH at h0
  rw [show (Rows.fnExactTernPortOfRow.laid.filter fun x=>x.2.handleName?.isSome)=[] from by kernel_rfl] at h0
  exact h0
 have hval:∀ (j:Nat) t v,Tryz.f3.params[j]?=some t→args[j]?=some v→Value.okWide Tryz.prog W .any base t v:=hval0
 have hW':=hW
 obtain ⟨p,q,hA0,hV,rfl,hfz,hnd⟩:=hW
 have hA:DataW.TrodAll enc Tryz.prog W 0 (fun _=>true) true Tryz.f3.params.toList args.toList ds p:=hA0
 rw [Tryz.params3] at hA hval
 obtain ⟨v0,vs0,d0,ds0,p0,q0,hargs,rfl,rfl,h0,r0⟩:=trodAll_cons hA
 obtain ⟨v1,vs1,d1,ds1,p1,q1,rfl,rfl,rfl,h1,r1⟩:=trodAll_cons r0
 obtain ⟨rfl,rfl,rfl⟩:=trodAll_nil r1
 obtain rfl:args=#[v0,v1]:=by cases args; simp_all
 obtain ⟨rfl,rfl⟩:=trodVars_none hV
 obtain ⟨fu0,t0⟩:=h0
 obtain ⟨a0,n0,c0,rfl⟩:=okWide_slice Tryz.underlying22 (hval 0 22 v0 rfl rfl)
 obtain ⟨x0,u0,us0,e0,o0,-⟩:=op_M22 H enc W fu0 _ _ t0
 obtain ⟨o0,b0⟩:=Uea o0
 obtain rfl:u0=_:=(List.cons.inj e0).1.symm
 obtain ⟨fu1,t1⟩:=h1
 obtain ⟨x1,rfl⟩:=okWide_int Tryz.underlying3 (hval 1 3 v1 rfl rfl)
 have hG:GP W:=⟨fun b hb=>by
  simp only [GBe,List.nil_append,List.cons_append,List.mem_cons,List.not_mem_nil,or_false] at hb
  rcases hb with rfl | rfl
  ·exact Qiv hL' (n:= "strconv.ErrSyntax") (by unfold Rows.fnExactTernPortOfRow; exact List.mem_cons_of_mem _ (List.mem_cons_of_mem _ (List.mem_cons_of_mem _ (List.mem_cons_of_mem _ (List.mem_cons_of_mem _ (List.mem_cons_self)))))) (show Tryz.prog.globalNamed "strconv.ErrSyntax"=some ((Tryz.prog.globalNamed "strconv.ErrSyntax").getD 0) from by kernel_rfl) (by kernel_rfl)
  ·exact Qiv hL' (n:= "strconv.ErrRange") (by unfold Rows.fnExactTernPortOfRow; exact List.mem_cons_of_mem _ (List.mem_cons_of_mem _ (List.mem_cons_of_mem _ (List.mem_cons_of_mem _ (List.mem_cons_self))))) (show Tryz.prog.globalNamed "strconv.ErrRange"=some ((Tryz.prog.globalNamed "strconv.ErrRange").getD 0) from by kernel_rfl) (by kernel_rfl),fun b hb=>by simp only [GBi,List.nil_append,List.mem_cons,List.not_mem_nil,or_false] at hb; subst hb; exact layCutM.s1_3 W hsh,fun q hq=>by
  simp only [GBt,List.nil_append,List.mem_cons,List.not_mem_nil,or_false] at hq
  subst hq
  obtain ⟨g',t',cs,fuel,p,h1,h2,h3,h4⟩:=Lib.laidMet.reads hL' (n:= "internal/strconv.uint64pow10") (by unfold Rows.fnExactTernPortOfRow; exact List.mem_cons_of_mem _ (List.mem_cons_of_mem _ (List.mem_cons_self)))
  obtain rfl:=Option.some.inj ((show Tryz.prog.globalNamed "internal/strconv.uint64pow10"=some ((Tryz.prog.globalNamed "internal/strconv.uint64pow10").getD 0) from by kernel_rfl).symm.trans h1)
  obtain rfl:=Option.some.inj ((show (Tryz.prog.globals[(Tryz.prog.globalNamed "internal/strconv.uint64pow10").getD 0]?).map (·.type)=some 137 from by kernel_rfl).symm.trans h2)
  have hc:=Lib.cells_of_tab (k:=.u64) (zs:=Lib.pow10Tab) Tryz.underlying137 Tryz.underlying110 (by kernel_rfl) (by kernel_rfl) h4
  unfold World.var? at h3
  rw [(show Tryz.prog.globalNamed "internal/strconv.uint64pow10"=some ((Tryz.prog.globalNamed "internal/strconv.uint64pow10").getD 0) from by kernel_rfl)] at h3
  simp only [Option.bind_some] at h3
  split at h3
  ·rename_i c T fz hh
   simp only [Option.some.injEq] at h3
   subst h3
   exact ⟨T,fz,hh.trans (by congr 1; congr 1; exact Array.ext' (by simpa using hc))⟩
  ·cases h3⟩
 have hc:=Qxu (W:=W) (vs:=[.slice a0 n0 c0,.int .i64 x1]) (ok3 x0 x1) (b0) (x:=.bool (F3 x0 x1)) hG ⟨_,_,[],[],rfl,⟨o0,rfl⟩,⟨_,_,[],[],rfl,⟨⟨rfl,rfl⟩,rfl⟩,⟨rfl,rfl⟩,rfl,List.nodup_nil⟩,rfl,List.nodup_nil⟩ rfl rfl
 rw [Uct x0 x1] at hc
 refine hc.mono fun e W' ⟨he,hb⟩=>?_
 subst he
 exact ⟨_,rfl,Qvv rfl hW' hb rfl Tryz.underlying4 rfl rfl rfl laid (by decide +kernel)⟩
theorem said_FnExactTernPortOf:Rows.FnExactTernPortOfSaid :=
 OpenClaim.holds_of_cond 3 Tryz.f3 rfl rfl rfl rfl rfl rfl rfl ⟨rfl,rfl,rfl,rfl,rfl⟩ rfl rfl rfl rfl rfl (by kernel_rfl) Tryz.func3 (by
   show joinedFacts Tryz.prog 3 Tryz.f3 (OpenSpec.ofChange Rows.fnExactTernPortOfSpec).bare Rows.fnExactTernPortOfRow=true
   simp only [joinedFacts,laid,cfMaps,cfKeys,Uch,Uet,Udt,cfMake,cfA,cfB,cfC,cfD,Bool.and_true]
   kernel_rfl)
  (of_decide_eq_true (by kernel_rfl)) (by unfold Func.isWrapper; first | (rw [if_pos (by decide +kernel)]; kernel_rfl) | (rw [if_neg (by decide +kernel)]; exact ⟨rfl,rfl⟩))
  (fun os started H enc _ F=>by rw [OpenClaim.pre_eq_preRow]; exact lifted os started H enc F)
theorem Qrj (f:FuncId) (fn:Func) (hf:Tryz.pinned.checked.prog.funcNamed "loop.example/tern/laws.FnExactTernPortOf"=some f) (hfn:Tryz.pinned.checked.prog.funcs[f]?=some fn) :
  true=Tryz.pinned.checked.prog.looks []∧∀ (j:Nat) t,fn.params[j]?=some t→Tryz.pinned.checked.prog.wantsStandIn t=false:=by
 obtain rfl:f=3:=Option.some.inj ((show Tryz.prog.funcNamed "loop.example/tern/laws.FnExactTernPortOf"=some 3 by kernel_rfl).symm.trans hf) |>.symm
 obtain rfl:fn=Tryz.f3:=(Option.some.inj (Tryz.func3.symm.trans hfn)).symm
 refine ⟨by kernel_rfl,fun j t ht=>?_⟩
 rw [Tryz.params3] at ht
 have hm:=Array.mem_of_getElem? ht
 simp only [List.mem_toArray,List.mem_cons,List.not_mem_nil,or_false] at hm
 rcases hm with rfl | rfl
 ·exact (show Tryz.prog.wantsStandIn 22=false by kernel_rfl)
 ·exact (show Tryz.prog.wantsStandIn 3=false by kernel_rfl)
theorem card_wf:Rows.fnExactTernPortOfRow.wfByText (OpenSpec.ofChange Rows.fnExactTernPortOfSpec)=true:=by kernel_rfl
theorem card_main:Tryz.prog.mainIs=some (Rows.fnExactTernPortOfCard.stood.harness.1,Rows.fnExactTernPortOfCard.stood.harness.2.toList):=by kernel_rfl
theorem card_goes:false=Rows.fnExactTernPortOfRow.goesBy Tryz.prog:=by kernel_rfl
theorem proved_FnExactTernPortOf:Rows.FnExactTernPortOfCardSaid :=
 Claim7.holds_tied_plain_at .later [] _ _ _ _ said_FnExactTernPortOf (fun _ h=>by cases h) card_wf (fun _ h=>by cases h) fnExactTernPortOf_row_tie rfl ⟨rfl,rfl⟩ card_main rfl Qrj card_goes
#print axioms proved_FnExactTernPortOf
end Go.Proofs.YtbaholefcgacpaeGreatDoor
