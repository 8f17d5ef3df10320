/- The card's statement of FnExactTernVias: for all arguments the law returns true, without further conditions. Texts put together: VTV, PTV, VMKV, PMKV, VTVL, PTVL, C55. -/
import Derived.Test.YtcgfkhokhiggkaaGreatDoorRows
import Derived.Test.YtcgfkhokhiggkaaGreatDoorCards
import Derived.Test.YtcgfkhokhiggkaaGreatDoorTie
import Derived.Deep.DeepHandedRow
import Derived.Deep.DeepLaidRun
import Derived.JoinedCond
import Derived.Lib.LaidU8
import Derived.Test.YtcgfkhokhiggkaaGreatDoorZC55E
namespace Go.Proofs.YtcgfkhokhiggkaaGreatDoor
open Go.RowKit
set_option maxRecDepth 100000
set_option linter.unusedVariables false
set_option linter.unusedSimpArgs false
def fs79 (p:TernVia→TernVia→Int):Uw:=⟨TernVia×TernVia,fun i=>[.g (Qc i.1),.g (Qc i.2)],fun i=>.int .i64 (p i.1 i.2)⟩
def F55 (x9:List TernVia) (cmp:TernVia→TernVia→Int):List TernVia :=
 Zv cmp x9
def S55 (x9:List TernVia) (cmp:TernVia→TernVia→Int):Spec:=⟨[.ow (.l 3 Qc x9) (some (.l 3 Qc (F55 x9 cmp))),.fn (fs79 cmp) true],.tu [],Vi cmp x9∧x9.length≤4000000000000000000⟩
theorem ok55 (x9:List TernVia) (cmp:TernVia→TernVia→Int):(S55 x9 cmp).ok Tryz.prog 55 :=
 Uit lay55 lay55a lay55z Qc (fun x=>⟨rfl,fun d hd=>by simp only [Qc,List.mem_cons,List.not_mem_nil,or_false] at hd; rcases hd with rfl | rfl | rfl <;> exact ⟨_,rfl,rfl⟩⟩) cmp x9
theorem kc41a (lines:List ByteArray) (word:ByteArray) {K_:Prop} (p0_:lines.length≤1048576) (p1_:∀ k:Nat,(lines.getD k default).size≤1048576) (k_:((Uc lines word).length≤16)→K_):(lines.length≤1048576∧(∀ k:Nat,(lines.getD k default).size≤1048576))∧(Imp (.l 1 eStr lines) (.l 1 eStr lines))∧(Imp (.v (.string word)) (.v (.string word)))∧K_:=⟨⟨p0_,p1_⟩,Imp.refl _,Imp.refl _,k_ (Qfi lines word)⟩
abbrev kh41a (lines:List ByteArray) (word:ByteArray):Hint false Tryz.prog:=.call 41 (T41 (Uc lines word) lines word) (oa41 lines word) none
theorem kc42 (word:ByteArray) {K_:Prop} (p0_:word.size≤1048576) (k_:K_):(word.size≤1048576)∧(Imp (.v (.string word)) (.v (.string word)))∧K_:=⟨p0_,Imp.refl _,k_⟩
abbrev kh42 (word:ByteArray):Hint false Tryz.prog:=.call 42 (S42 word) (ok42 word) none
def Xu (lines:List ByteArray):(List TernVia×Int)→Lp (List TernVia×Int) (List TernVia):=fun (out1,v11) =>
 bif (decide (v11<((Uc lines (⟨#[114,111,117,116,101]⟩:ByteArray)).length:Int))) then (.next ((out1++[(⟨(F42 (((Uc lines (⟨#[114,111,117,116,101]⟩:ByteArray)).getD v11.toNat default).getD (Int.toNat 1) default)).Addr,(F42 (((Uc lines (⟨#[114,111,117,116,101]⟩:ByteArray)).getD v11.toNat default).getD (Int.toNat 1) default)).Len,(F43 (((Uc lines (⟨#[114,111,117,116,101]⟩:ByteArray)).getD v11.toNat default).getD (Int.toNat 2) default))⟩:TernVia)]),(v11+1))) else (.done (out1,v11))
def Rl (lines:List ByteArray):Lp (List TernVia) (List TernVia) :=
 (runL (Xu lines) ((((Uc lines (⟨#[114,111,117,116,101]⟩:ByteArray)).length:Int)-0).toNat+1) (([]:List TernVia),0)).fin Lp.ret (fun (out1,v11)=>.done out1)
def F22 (lines:List ByteArray):List TernVia :=
 (Rl lines).fin (fun r=>r) (fun out=>(F55 out (fun (x0:TernVia) (x1:TernVia)=>F56 x0 x1)))
abbrev Qdq (lines:List ByteArray):Nat×(List TernVia×Int):=(((((Uc lines (⟨#[114,111,117,116,101]⟩:ByteArray)).length:Int)-0).toNat+1),(([]:List TernVia),0))
abbrev Qok (lines:List ByteArray) (m39:Nat) (out1:List TernVia) (v11:Int):Prop:=Int.toNat (((Uc lines (⟨#[114,111,117,116,101]⟩:ByteArray)).length:Int)-v11)<m39∧(out1.length:Int)≤v11∧v11≤((Uc lines (⟨#[114,111,117,116,101]⟩:ByteArray)).length:Int)∧(∃ ws:List (List ByteArray),out1=ws.map viaT)∧(0:Int)≤v11
abbrev Qza (lines:List ByteArray):Lp (List TernVia×Int) (List TernVia):=LpX (Xu lines) (Qdq lines)
abbrev Qce (lines:List ByteArray) (i:Nat×(List TernVia×Int)):Prop:=LpJ (Xu lines) (Qdq lines) i (Qok lines i.1 i.2.1 i.2.2)
abbrev Ucb (lines:List ByteArray) (i:Nat×(List TernVia×Int)) (m39:Nat) (out1:List TernVia) (v11:Int):Prop:=LpH (Xu lines) (Qdq lines) i m39 (out1,v11) (Qok lines (m39+1) out1 v11)
abbrev Ubh (lines:List ByteArray) (out1:List TernVia) (v11:Int) (out1_:List TernVia) (v11_:Int) (K39:Prop):Prop:=(Rf (.int .i64 ((Uc lines (⟨#[114,111,117,116,101]⟩:ByteArray)).length:Int)))∧((.int .i64 v11:Value)=.int .i64 v11_)∧(Imp (.l 3 Qc out1) (.l 3 Qc out1_))∧(Im (.l 1 (eL 1 eStr) (Uc lines (⟨#[114,111,117,116,101]⟩:ByteArray))))∧K39
theorem un22_0 (lines:List ByteArray) (i:Nat×(List TernVia×Int)) (h:Qce lines i):Ucb lines i (i.1-1) i.2.1 i.2.2:=⟨hd1 h.1 h.2.1,hd3 h.2.1,hd2 h.2.1,h.2.2⟩
theorem bk22_0 (lines:List ByteArray) (i:Nat×(List TernVia×Int)) (m39:Nat) (out1:List TernVia) (v11:Int) (hl:m39<i.1) (e:runL (Xu lines) m39 (out1,v11)=Qza lines) (h:Qok lines m39 out1 v11):∃ j:Nat×(List TernVia×Int),Ubh lines out1 v11 j.2.1 j.2.2 (Qce lines j∧j.1<i.1):=⟨(m39,(out1,v11)),rfl,rfl,Imp.refl _,Imp.refl _,⟨e,h⟩,hl⟩
theorem en22_0 (lines:List ByteArray) (h:(([]:List TernVia).length:Int)≤0∧0≤((Uc lines (⟨#[114,111,117,116,101]⟩:ByteArray)).length:Int)∧(∃ ws:List (List ByteArray),([]:List TernVia)=ws.map viaT)∧(0:Int)≤0):Ubh lines ([]:List TernVia) 0 ([]:List TernVia) 0 (Qce lines (Qdq lines)):=⟨rfl,rfl,Imp.refl _,Imp.refl _,rfl,Nat.lt_succ_self _,h⟩
abbrev Qpn (lines:List ByteArray) (out:List TernVia):Prop:=out.length≤16∧(∃ ws:List (List ByteArray),out=ws.map viaT)
abbrev Qny (lines:List ByteArray) (j:List TernVia):Prop:=(Rl lines)=Lp.done j∧Qpn lines j
theorem jn22_0 (lines:List ByteArray) (out:List TernVia) (e:(Rl lines)=Lp.done out) (h:Qpn lines out):∃ j:List TernVia,(Imp (.l 3 Qc out) (.l 3 Qc j))∧Qny lines j:=⟨out,Imp.refl _,e,h⟩
theorem fi22 (lines:List ByteArray) (r:List TernVia) (hF:r=(F22 lines)):(Imp (.l 3 Qc r) (.l 3 Qc (F22 lines)))∧True:=by cases hF; exact ⟨Imp.refl _,trivial⟩
def S22 (lines:List ByteArray):Spec:=⟨[.r (.c (.l 1 eStr lines))],.ow (.l 3 Qc (F22 lines)),lines.length≤1048576∧(∀ k:Nat,(lines.getD k default).size≤1048576)⟩
theorem ok22 (lines:List ByteArray):(S22 lines).ok Tryz.prog 22 false :=
 Qi mixed (fn:=Tryz.f22) (ct:=.seqk [(0,0)] .no (.seq (.reg [(0,.dat (.l 3 Qc ([]:List TernVia)))]) (.cut (ι:=List TernVia) (fun j=>(fun (out:List TernVia)=>(⟨[(3,some (.h 0 0))],[(0,some (.own 0 (.l 3 Qc out)))],1⟩:St)) j) (Qny lines) (.seqk [(3,0),(9,0)] (.reg [(1,kh41a lines (⟨#[114,111,117,116,101]⟩:ByteArray))]) (.blk (.loop (ι:=Nat×(List TernVia×Int)) (fun i=>(fun (out1:List TernVia) (v11:Int)=>(⟨[(3,some (.h 0 0)),(9,some (.h 1 0)),(10,some (.v (vI ((Uc lines (⟨#[114,111,117,116,101]⟩:ByteArray)).length:Int)))),(11,some (.v (vI v11)))],[(0,some (.own 0 (.l 3 Qc out1))),(1,some (.own 1 (.l 1 (eL 1 eStr) (Uc lines (⟨#[114,111,117,116,101]⟩:ByteArray)))))],2⟩:St)) i.2.1 i.2.2) (Qce lines) (fun i=>i.1) (Qdq lines) (fun i=>(fun (out1:List TernVia) (v11:Int)=>(.seq .no (.seq (.cond .no .no) (.seq (.blk (.seq .no (.seq (.reg [(3,kh42 (((Uc lines (⟨#[114,111,117,116,101]⟩:ByteArray)).getD v11.toNat default).getD (Int.toNat 1) default))]) (.reg [(8,kh43 (((Uc lines (⟨#[114,111,117,116,101]⟩:ByteArray)).getD v11.toNat default).getD (Int.toNat 2) default)),(11,.dat (.l 3 Qc (out1++[(⟨(F42 (((Uc lines (⟨#[114,111,117,116,101]⟩:ByteArray)).getD v11.toNat default).getD (Int.toNat 1) default)).Addr,(F42 (((Uc lines (⟨#[114,111,117,116,101]⟩:ByteArray)).getD v11.toNat default).getD (Int.toNat 1) default)).Len,(F43 (((Uc lines (⟨#[114,111,117,116,101]⟩:ByteArray)).getD v11.toNat default).getD (Int.toNat 2) default))⟩:TernVia)])))])))) (.reg [(0,.bnd)]))))) i.2.1 i.2.2)))) (fun j=>(fun (out:List TernVia)=>(.seq (.reg [(1,.call 55 (S55 out (fun (x0:TernVia) (x1:TernVia)=>F56 x0 x1)) ((ok55 out (fun (x0:TernVia) (x1:TernVia)=>F56 x0 x1)).to false) (some ⟨true,56,fs79 (fun (x0:TernVia) (x1:TernVia)=>F56 x0 x1),[],rfl,True,fun i=>(ok56 i.1 i.2)⟩))]) (.seq .no .no))) j)))) Tryz.func22 (fun (hp:lines.length≤1048576∧(∀ k:Nat,(lines.getD k default).size≤1048576))=>have hpre0:=hp.1; have hpre1:=hp.2; kn lines fun _=>ai (bokr 3 Qc ([]:List TernVia) fun _=>rfl) (ai (kc41a lines (⟨#[114,111,117,116,101]⟩:ByteArray) (by first | omega | (simp only [lens,ib] at*<;> omega)) (by first | assumption | exact hpre1 _ | exact fun k _=>hpre1 k | (intros; exact trivial) | (intros; exact Nat.zero_le _)) (fun gv1=>kn ([]:List TernVia) fun _=>kn (Uc lines (⟨#[114,111,117,116,101]⟩:ByteArray)) fun _=>ai (en22_0 lines (by refine ⟨?_,?_,?_,?_⟩ <;> first | omega | (simp only [lens,ib] at*<;> omega) | exact Qsh | exact Qtg (by assumption) ((Uc lines (⟨#[114,111,117,116,101]⟩:ByteArray)).getD v11.toNat default))) (fun (i0:Nat×(List TernVia×Int)) (hi0:Qce lines i0)=>(fun (m0:Nat) (out1:List TernVia) (v11:Int) (hh0:Ucb lines i0 m0 out1 v11)=>have hI0:=hh0.1; have hl0:=hh0.2.1; have _:=hh0.2.2.1; have _:=hh0.2.2.2.1; have _:=hh0.2.2.2.2.1; have _:=hh0.2.2.2.2.2.1; have _:=hh0.2.2.2.2.2.2; ifd (v11<((Uc lines (⟨#[114,111,117,116,101]⟩:ByteArray)).length:Int)) (fun h3 _=>ai (by (first | omega | (have h9:=Ho lines v11.toNat (by first | omega | (simp only [lens,ib] at*<;> omega)); unfold Kg at h9; omega)):0≤v11∧v11<((Uc lines (⟨#[114,111,117,116,101]⟩:ByteArray)).length:Int)) (ai (by (first | omega | (have h9:=Ho lines v11.toNat (by first | omega | (simp only [lens,ib] at*<;> omega)); unfold Kg at h9; omega)):0≤(1:Int)∧(1:Int)<(((Uc lines (⟨#[114,111,117,116,101]⟩:ByteArray)).getD v11.toNat default).length:Int)) (kc42 (((Uc lines (⟨#[114,111,117,116,101]⟩:ByteArray)).getD v11.toNat default).getD (Int.toNat 1) default) (by exact Qjy lines _ _ _) (ai (by (first | omega | (have h9:=Ho lines v11.toNat (by first | omega | (simp only [lens,ib] at*<;> omega)); unfold Kg at h9; omega)):0≤(2:Int)∧(2:Int)<(((Uc lines (⟨#[114,111,117,116,101]⟩:ByteArray)).getD v11.toNat default).length:Int)) (kc43 (((Uc lines (⟨#[114,111,117,116,101]⟩:ByteArray)).getD v11.toNat default).getD (Int.toNat 2) default) (by exact Qjy lines _ _ _) (ai (appr 3 Qc out1 [(⟨(F42 (((Uc lines (⟨#[114,111,117,116,101]⟩:ByteArray)).getD v11.toNat default).getD (Int.toNat 1) default)).Addr,(F42 (((Uc lines (⟨#[114,111,117,116,101]⟩:ByteArray)).getD v11.toNat default).getD (Int.toNat 1) default)).Len,(F43 (((Uc lines (⟨#[114,111,117,116,101]⟩:ByteArray)).getD v11.toNat default).getD (Int.toNat 2) default))⟩:TernVia)] fun _=>rfl) (ai (by (try simp only [lens]); omega:(out1++[(⟨(F42 (((Uc lines (⟨#[114,111,117,116,101]⟩:ByteArray)).getD v11.toNat default).getD (Int.toNat 1) default)).Addr,(F42 (((Uc lines (⟨#[114,111,117,116,101]⟩:ByteArray)).getD v11.toNat default).getD (Int.toNat 1) default)).Len,(F43 (((Uc lines (⟨#[114,111,117,116,101]⟩:ByteArray)).getD v11.toNat default).getD (Int.toNat 2) default))⟩:TernVia)]).length*24≤140737488355328) (ai (iok (v11+1) (by first | omega | (simp only [lens,ib] at*<;> omega))) (bk22_0 lines i0 m0 (out1++[(⟨(F42 (((Uc lines (⟨#[114,111,117,116,101]⟩:ByteArray)).getD v11.toNat default).getD (Int.toNat 1) default)).Addr,(F42 (((Uc lines (⟨#[114,111,117,116,101]⟩:ByteArray)).getD v11.toNat default).getD (Int.toNat 1) default)).Len,(F43 (((Uc lines (⟨#[114,111,117,116,101]⟩:ByteArray)).getD v11.toNat default).getD (Int.toNat 2) default))⟩:TernVia)]) (v11+1) hl0 (Qe hI0 (condT h3 rfl)) (by refine ⟨?_,?_,?_,?_,?_⟩ <;> first | omega | (simp only [lens,ib] at*<;> omega) | exact Qsh | exact Qtg (by assumption) ((Uc lines (⟨#[114,111,117,116,101]⟩:ByteArray)).getD v11.toNat default))))))))))) (fun h3 _=>have hD0_4:Qza lines=Lp.done (out1,v11):=Qj hI0 (condF h3 rfl); jn22_0 lines out1 (Eq.symm (finD hD0_4 rfl)) (by refine ⟨?_,?_⟩ <;> first | omega | (simp only [lens,ib] at*<;> omega) | assumption))) (i0.1-1) i0.2.1 i0.2.2 (un22_0 lines i0 hi0)))) (fun (j:List TernVia) (hj:Qny lines j)=>(fun (out:List TernVia) (hJ0_5:(Rl lines)=Lp.done out) (hw:Qpn lines out)=>have _:=hw.1; have _:=hw.2; ai (ai (by first | omega | exact Qsp (by assumption):Vi (fun (x0:TernVia) (x1:TernVia)=>F56 x0 x1) out) (by first | omega | exact Qsp (by assumption):out.length≤4000000000000000000)) (ai (Imp.refl (.l 3 Qc out)) (ai (Eq.refl (fs79 (fun (x0:TernVia) (x1:TernVia)=>F56 x0 x1))) (ai trivial (fi22 lines (F55 out (fun (x0:TernVia) (x1:TernVia)=>F56 x0 x1)) (finD hJ0_5 rfl)))))) j hj.1 hj.2))) (by kernel_rfl)
theorem kc115 (text:ByteArray) {K_:Prop} (p0_:text.size≤1048576) (k_:K_):(text.size≤1048576)∧(Imp (.v (.string text)) (.v (.string text)))∧K_:=⟨p0_,Imp.refl _,k_⟩
abbrev kh115 (text:ByteArray):Hint true Tryz.prog:=.call 115 (S115 text) (ok115 text) none
def F76 (word:ByteArray):Qb :=
 (⟨(F115 word).1.Addr,(F115 word).1.Len⟩:Qb)
theorem fi76 (word:ByteArray) (r:Qb) (hF:r=(F76 word)):((.int .i64 r.Addr:Value)=.int .i64 (F76 word).Addr)∧((.int .i64 r.Len:Value)=.int .i64 (F76 word).Len)∧True:=by cases hF; exact ⟨rfl,rfl,trivial⟩
def S76 (word:ByteArray):Spec:=⟨[.r (.c (.v (.string word)))],.ag [.v (vI (F76 word).Addr),.v (vI (F76 word).Len)],word.size≤1048576⟩
theorem ok76 (word:ByteArray):(S76 word).ok Tryz.prog 76 :=
 Qi mixed (fn:=Tryz.f76) (ct:=.seq .no (.seq (.reg [(1,kh115 word)]) (.seq .no .no))) Tryz.func76 (fun (hpre0:word.size≤1048576)=>kc115 word (by omega) (fi76 word (⟨(F115 word).1.Addr,(F115 word).1.Len⟩:Qb) rfl)) (by kernel_rfl)
def F90 (a:TernVia) (b:TernVia):Bool :=
 bif (a.Addr != b.Addr) then (decide (a.Addr<b.Addr)) else (bif (a.Len != b.Len) then (decide (a.Len<b.Len)) else (decide (a.Next<b.Next)))
def S90 (a:TernVia) (b:TernVia):Spec:=⟨[.r (.g (Qc a)),.r (.g (Qc b))],.v (.bool (F90 a b)),True⟩
theorem ok90 (a:TernVia) (b:TernVia):(S90 a b).ok Tryz.prog 90 :=
 Qi mixed (fn:=Tryz.f90) (ct:=.seq .no (.seq (.seq .no (.cond (.seq .no .no) .no)) (.seq (.seq .no (.cond (.seq .no .no) .no)) (.seq .no .no)))) Tryz.func90 (fun (_:True)=>ifn a.Addr b.Addr (fun h1 _=>fiB (decide (a.Addr<b.Addr)) (F90 a b) (condT h1 rfl)) (fun h1 _=>ifn a.Len b.Len (fun h2 _=>fiB (decide (a.Len<b.Len)) (F90 a b) (condF h1 (condT h2 rfl))) (fun h2 _=>fiB (decide (a.Next<b.Next)) (F90 a b) (condF h1 (condF h2 rfl))))) (by kernel_rfl)
theorem kc75a (lines:List ByteArray) (head:ByteArray) {K_:Prop} (p0_:lines.length≤16) (p1_:∀ k:Nat,(lines.getD k default).size≤1048576) (q0_:lines.length≤16) (k_:((ofL lines head).length≤16)→K_):(lines.length≤16∧(∀ k:Nat,(lines.getD k default).size≤1048576))∧(Imp (.l 1 eStr lines) (.l 1 eStr lines))∧(Imp (.v (.string head)) (.v (.string head)))∧K_:=⟨⟨p0_,p1_⟩,Imp.refl _,Imp.refl _,k_ (Ugp lines head q0_)⟩
abbrev kh75a (lines:List ByteArray) (head:ByteArray):Hint true Tryz.prog:=.call 75 (T75 (ofL lines head) lines head) (oa75 lines head) none
theorem kc76 (word:ByteArray) {K_:Prop} (p0_:word.size≤1048576) (k_:K_):(word.size≤1048576)∧(Imp (.v (.string word)) (.v (.string word)))∧K_:=⟨p0_,Imp.refl _,k_⟩
abbrev kh76 (word:ByteArray):Hint true Tryz.prog:=.call 76 (S76 word) (ok76 word) none
def Hw (lines:List ByteArray) (out:List TernVia) (i40:Int):Int→Lp Int (List TernVia):=fun k400 =>
 bif (bif decide (k400<(out.length:Int)) then (F90 (out.getD k400.toNat default) ⟨(F76 (F77 ((ofL lines (⟨#[114,111,117,116,101]⟩:ByteArray)).getD i40.toNat default) 1)).Addr,(F76 (F77 ((ofL lines (⟨#[114,111,117,116,101]⟩:ByteArray)).getD i40.toNat default) 1)).Len,(F78 (F77 ((ofL lines (⟨#[114,111,117,116,101]⟩:ByteArray)).getD i40.toNat default) 2))⟩) else false) then (.next (k400+1)) else (.done k400)
def To (lines:List ByteArray) (out:List TernVia) (i40:Int):Lp Int (List TernVia) :=
 (runL (Hw lines out i40) (((out.length:Int)-0).toNat+1) 0).fin Lp.ret (fun k400=>.done k400)
def Bj (lines:List ByteArray):(List TernVia×Int)→Lp (List TernVia×Int) (List TernVia):=fun (out,i40) =>
 bif (decide (i40<((ofL lines (⟨#[114,111,117,116,101]⟩:ByteArray)).length:Int))) then ((To lines out i40).fin Lp.ret (fun k=>.next ((((([]:List TernVia)++(out.take k.toNat))++[(⟨(F76 (F77 ((ofL lines (⟨#[114,111,117,116,101]⟩:ByteArray)).getD i40.toNat default) 1)).Addr,(F76 (F77 ((ofL lines (⟨#[114,111,117,116,101]⟩:ByteArray)).getD i40.toNat default) 1)).Len,(F78 (F77 ((ofL lines (⟨#[114,111,117,116,101]⟩:ByteArray)).getD i40.toNat default) 2))⟩:TernVia)])++(out.drop k.toNat)),(i40+1)))) else (.done (out,i40))
def F54 (lines:List ByteArray):List TernVia :=
 (runL (Bj lines) ((((ofL lines (⟨#[114,111,117,116,101]⟩:ByteArray)).length:Int)-0).toNat+1) (([]:List TernVia),0)).fin (fun r=>r) (fun (out,i40)=>out)
abbrev Qca (out:List TernVia):Nat×Int:=((((out.length:Int)-0).toNat+1),0)
abbrev Qoy (out:List TernVia) (m39:Nat) (k400:Int):Prop:=Int.toNat ((out.length:Int)-k400)<m39∧(0:Int)≤k400∧k400≤(out.length:Int)∧(0:Int)≤k400
abbrev Qyn (lines:List ByteArray) (out:List TernVia) (i40:Int):Lp Int (List TernVia):=LpX (Hw lines out i40) (Qca out)
abbrev Qbt (lines:List ByteArray) (out:List TernVia) (i40:Int) (i:Nat×Int):Prop:=LpJ (Hw lines out i40) (Qca out) i (Qoy out i.1 i.2)
abbrev Uey (lines:List ByteArray) (out:List TernVia) (i40:Int) (i:Nat×Int) (m39:Nat) (k400:Int):Prop:=LpH (Hw lines out i40) (Qca out) i m39 k400 (Qoy out (m39+1) k400)
abbrev Ueo (lines:List ByteArray) (out:List TernVia) (i40:Int) (k400:Int) (k400_:Int) (K39:Prop):Prop:=(Rf (.int .i64 i40))∧((.int .i64 k400:Value)=.int .i64 k400_)∧(Im (.l 1 Qh (ofL lines w8_)))∧(Im (.l 3 Qc out))∧(Rf (.int .i64 (F76 (F77 ((ofL lines w8_).getD i40.toNat default) 1)).Addr))∧(Rf (.int .i64 (F76 (F77 ((ofL lines w8_).getD i40.toNat default) 1)).Len))∧(Rf (.int .i64 (F78 (F77 ((ofL lines w8_).getD i40.toNat default) 2))))∧K39
theorem un54_1 (lines:List ByteArray) (out:List TernVia) (i40:Int) (i:Nat×Int) (h:Qbt lines out i40 i):Uey lines out i40 i (i.1-1) i.2:=⟨hd1 h.1 h.2.1,hd3 h.2.1,hd2 h.2.1,h.2.2⟩
theorem bk54_1 (lines:List ByteArray) (out:List TernVia) (i40:Int) (i:Nat×Int) (m39:Nat) (k400:Int) (hl:m39<i.1) (e:runL (Hw lines out i40) m39 k400=Qyn lines out i40) (h:Qoy out m39 k400):∃ j:Nat×Int,Ueo lines out i40 k400 j.2 (Qbt lines out i40 j∧j.1<i.1):=⟨(m39,k400),rfl,rfl,Imp.refl _,Imp.refl _,rfl,rfl,rfl,⟨e,h⟩,hl⟩
theorem en54_1 (lines:List ByteArray) (out:List TernVia) (i40:Int) (h:(0:Int)≤0∧0≤(out.length:Int)∧(0:Int)≤0):Ueo lines out i40 0 0 (Qbt lines out i40 (Qca out)):=⟨rfl,rfl,Imp.refl _,Imp.refl _,rfl,rfl,rfl,rfl,Nat.lt_succ_self _,h⟩
abbrev Qmm (lines:List ByteArray) (out:List TernVia) (i40:Int) (k:Int):Prop:=(0:Int)≤k∧k≤(out.length:Int)
abbrev Qpq (lines:List ByteArray) (out:List TernVia) (i40:Int) (j:Int):Prop:=(To lines out i40)=Lp.done j∧Qmm lines out i40 j
theorem jn54_2 (lines:List ByteArray) (out:List TernVia) (i40:Int) (k:Int) (e:(To lines out i40)=Lp.done k) (h:Qmm lines out i40 k):∃ j:Int,((.int .i64 i40:Value)=.int .i64 i40)∧((.int .i64 k:Value)=.int .i64 j)∧(Imp (.l 1 Qh (ofL lines w8_)) (.l 1 Qh (ofL lines w8_)))∧(Imp (.l 3 Qc out) (.l 3 Qc out))∧((.int .i64 (F76 (F77 ((ofL lines w8_).getD i40.toNat default) 1)).Addr:Value)=.int .i64 (F76 (F77 ((ofL lines w8_).getD i40.toNat default) 1)).Addr)∧((.int .i64 (F76 (F77 ((ofL lines w8_).getD i40.toNat default) 1)).Len:Value)=.int .i64 (F76 (F77 ((ofL lines w8_).getD i40.toNat default) 1)).Len)∧((.int .i64 (F78 (F77 ((ofL lines w8_).getD i40.toNat default) 2)):Value)=.int .i64 (F78 (F77 ((ofL lines w8_).getD i40.toNat default) 2)))∧Qpq lines out i40 j:=⟨k,rfl,rfl,Imp.refl _,Imp.refl _,rfl,rfl,rfl,e,h⟩
abbrev Qdw (lines:List ByteArray):Nat×(List TernVia×Int):=(((((ofL lines w8_).length:Int)-0).toNat+1),(([]:List TernVia),0))
abbrev Qng (lines:List ByteArray) (m39:Nat) (out:List TernVia) (i40:Int):Prop:=Int.toNat (((ofL lines w8_).length:Int)-i40)<m39∧(out.length:Int)≤i40∧(0:Int)≤i40
abbrev Qxo (lines:List ByteArray):Lp (List TernVia×Int) (List TernVia):=LpX (Bj lines) (Qdw lines)
abbrev Qcw (lines:List ByteArray) (i:Nat×(List TernVia×Int)):Prop:=LpJ (Bj lines) (Qdw lines) i (Qng lines i.1 i.2.1 i.2.2)
abbrev Ucu (lines:List ByteArray) (i:Nat×(List TernVia×Int)) (m39:Nat) (out:List TernVia) (i40:Int):Prop:=LpH (Bj lines) (Qdw lines) i m39 (out,i40) (Qng lines (m39+1) out i40)
abbrev Qyw (lines:List ByteArray) (out:List TernVia) (i40:Int) (out_:List TernVia) (i40_:Int) (K39:Prop):Prop:=((.int .i64 i40:Value)=.int .i64 i40_)∧(Im (.l 1 Qh (ofL lines w8_)))∧(Imp (.l 3 Qc out) (.l 3 Qc out_))∧K39
theorem un54_0 (lines:List ByteArray) (i:Nat×(List TernVia×Int)) (h:Qcw lines i):Ucu lines i (i.1-1) i.2.1 i.2.2:=⟨hd1 h.1 h.2.1,hd3 h.2.1,hd2 h.2.1,h.2.2⟩
theorem bk54_0 (lines:List ByteArray) (i:Nat×(List TernVia×Int)) (m39:Nat) (out:List TernVia) (i40:Int) (hl:m39<i.1) (e:runL (Bj lines) m39 (out,i40)=Qxo lines) (h:Qng lines m39 out i40):∃ j:Nat×(List TernVia×Int),Qyw lines out i40 j.2.1 j.2.2 (Qcw lines j∧j.1<i.1):=⟨(m39,(out,i40)),rfl,Imp.refl _,Imp.refl _,⟨e,h⟩,hl⟩
theorem en54_0 (lines:List ByteArray) (h:(([]:List TernVia).length:Int)≤0∧(0:Int)≤0):Qyw lines ([]:List TernVia) 0 ([]:List TernVia) 0 (Qcw lines (Qdw lines)):=⟨rfl,Imp.refl _,Imp.refl _,rfl,Nat.lt_succ_self _,h⟩
theorem fi54 (lines:List ByteArray) (r:List TernVia) (hF:r=(F54 lines)):(Imp (.l 3 Qc r) (.l 3 Qc (F54 lines)))∧True:=by cases hF; exact ⟨Imp.refl _,trivial⟩
def S54 (lines:List ByteArray):Spec:=⟨[.r (.c (.l 1 eStr lines))],.ow (.l 3 Qc (F54 lines)),lines.length≤16∧(∀ k:Nat,(lines.getD k default).size≤1048576)⟩
theorem ok54 (lines:List ByteArray):(S54 lines).ok Tryz.prog 54 :=
 Qi mixed (fn:=Tryz.f54) (ct:=.seqk [(0,0)] .no (.seq (.reg [(1,kh75a lines w8_)]) (.seq (.reg [(0,.dat (.l 3 Qc ([]:List TernVia)))]) (.seq (.seqk [(3,0),(4,0)] .no (.blk (.loop (ι:=Nat×(List TernVia×Int)) (fun i=>(fun (out:List TernVia) (i40:Int)=>(⟨[(3,some (.h 0 0)),(4,some (.h 1 0)),(5,some (.v (vI i40)))],[(0,some (.own 0 (.l 1 Qh (ofL lines w8_)))),(1,some (.own 1 (.l 3 Qc out)))],2⟩:St)) i.2.1 i.2.2) (Qcw lines) (fun i=>i.1) (Qdw lines) (fun i=>(fun (out:List TernVia) (i40:Int)=>(.seq (.seq .no (.cond .no .no)) (.seq (.blk (.seq (.reg [(4,kh77 ((ofL lines w8_).getD i40.toNat default) 1),(5,kh76 (F77 ((ofL lines w8_).getD i40.toNat default) 1))]) (.seq (.reg [(8,kh77 ((ofL lines w8_).getD i40.toNat default) 2),(9,kh78 (F77 ((ofL lines w8_).getD i40.toNat default) 2))]) (.seqk [(4,0)] .no (.cut (ι:=Int) (fun j=>(fun (k:Int)=>(⟨[(3,some (.h 0 0)),(4,some (.h 1 0)),(5,some (.v (vI i40))),(7,some (.p 2 0)),(8,some (.v (vI k)))],[(0,some (.own 0 (.l 1 Qh (ofL lines w8_)))),(1,some (.own 1 (.l 3 Qc out))),(2,some (.box 77 [.v (vI (F76 (F77 ((ofL lines w8_).getD i40.toNat default) 1)).Addr),.v (vI (F76 (F77 ((ofL lines w8_).getD i40.toNat default) 1)).Len),.v (vI (F78 (F77 ((ofL lines w8_).getD i40.toNat default) 2)))]))],3⟩:St)) j) (Qpq lines out i40) (.blk (.loop (ι:=Nat×Int) (fun i=>(fun (k400:Int)=>(⟨[(3,some (.h 0 0)),(4,some (.h 1 0)),(5,some (.v (vI i40))),(7,some (.p 2 0)),(8,some (.v (vI k400)))],[(0,some (.own 0 (.l 1 Qh (ofL lines w8_)))),(1,some (.own 1 (.l 3 Qc out))),(2,some (.box 77 [.v (vI (F76 (F77 ((ofL lines w8_).getD i40.toNat default) 1)).Addr),.v (vI (F76 (F77 ((ofL lines w8_).getD i40.toNat default) 1)).Len),.v (vI (F78 (F77 ((ofL lines w8_).getD i40.toNat default) 2)))]))],3⟩:St)) i.2) (Qbt lines out i40) (fun i=>i.1) (Qca out) (fun i=>(fun (k400:Int)=>(.seq (.seq (.reg [(10,.call 90 (S90 (out.getD k400.toNat default) (⟨(F76 (F77 ((ofL lines w8_).getD i40.toNat default) 1)).Addr,(F76 (F77 ((ofL lines w8_).getD i40.toNat default) 1)).Len,(F78 (F77 ((ofL lines w8_).getD i40.toNat default) 2))⟩:TernVia)) (ok90 (out.getD k400.toNat default) (⟨(F76 (F77 ((ofL lines w8_).getD i40.toNat default) 1)).Addr,(F76 (F77 ((ofL lines w8_).getD i40.toNat default) 1)).Len,(F78 (F77 ((ofL lines w8_).getD i40.toNat default) 2))⟩:TernVia)) none)]) (.cond .no .no)) (.blk (.reg [(1,.bnd)])))) i.2))) (fun j=>(fun (k:Int)=>(.reg [(0,.dat (.l 3 Qc ([]:List TernVia))),(4,.dat (.l 3 Qc (([]:List TernVia)++(out.take k.toNat)))),(7,.dat (.l 3 Qc ((([]:List TernVia)++(out.take k.toNat))++[(⟨(F76 (F77 ((ofL lines w8_).getD i40.toNat default) 1)).Addr,(F76 (F77 ((ofL lines w8_).getD i40.toNat default) 1)).Len,(F78 (F77 ((ofL lines w8_).getD i40.toNat default) 2))⟩:TernVia)]))),(11,.dat (.l 3 Qc (((([]:List TernVia)++(out.take k.toNat))++[(⟨(F76 (F77 ((ofL lines w8_).getD i40.toNat default) 1)).Addr,(F76 (F77 ((ofL lines w8_).getD i40.toNat default) 1)).Len,(F78 (F77 ((ofL lines w8_).getD i40.toNat default) 2))⟩:TernVia)])++(out.drop k.toNat))))])) j)))))) (.reg [(1,.bnd)])))) i.2.1 i.2.2)))) (.seq .no .no))))) Tryz.func54 (fun (hp:lines.length≤16∧(∀ k:Nat,(lines.getD k default).size≤1048576))=>have hpre0:=hp.1; have hpre1:=hp.2; kn lines fun _=>kc75a lines w8_ (by first | omega | (simp only [lens,ib] at*<;> omega)) (by first | assumption | exact hpre1 _ | exact fun k _=>hpre1 k | (intros; exact trivial) | (intros; exact Nat.zero_le _)) (by first | omega | (simp only [lens,ib] at*<;> omega)) (fun gv1=>ai (bokr 3 Qc ([]:List TernVia) fun _=>rfl) (kn (ofL lines w8_) fun _=>kn ([]:List TernVia) fun _=>ai (en54_0 lines (by refine ⟨?_,?_⟩ <;> first | omega | (simp only [lens,ib] at*<;> omega) | (simp only [lens] at *; omega))) (fun (i0:Nat×(List TernVia×Int)) (hi0:Qcw lines i0)=>(fun (m0:Nat) (out:List TernVia) (i40:Int) (hh0:Ucu lines i0 m0 out i40)=>have hI0:=hh0.1; have hl0:=hh0.2.1; have _:=hh0.2.2.1; have _:=hh0.2.2.2; ifd (i40<((ofL lines w8_).length:Int)) (fun h3 _=>ai (by first | omega | (simp only [lens,ib] at*<;> omega):ib i40 (ofL lines w8_)) (kc77 ((ofL lines w8_).getD i40.toNat default) 1 (by first | omega | (simp only [lens,ib] at*<;> omega)) (kc76 (F77 ((ofL lines w8_).getD i40.toNat default) 1) (by exact Vn _ (Qzt lines _ (by assumption)) _ _) (ai (by first | omega | (simp only [lens,ib] at*<;> omega):ib i40 (ofL lines w8_)) (kc77 ((ofL lines w8_).getD i40.toNat default) 2 (by first | omega | (simp only [lens,ib] at*<;> omega)) (kc78 (F77 ((ofL lines w8_).getD i40.toNat default) 2) (by exact Vn _ (Qzt lines _ (by assumption)) _ _) (kn out fun _=>ai (ai (en54_1 lines out i40 (by refine ⟨?_,?_,?_⟩ <;> first | omega | (simp only [lens,ib] at*<;> omega))) (fun (i1:Nat×Int) (hi1:Qbt lines out i40 i1)=>(fun (m1:Nat) (k400:Int) (hh1:Uey lines out i40 i1 m1 k400)=>have hI1:=hh1.1; have hl1:=hh1.2.1; have _:=hh1.2.2.1; have _:=hh1.2.2.2; ai (fun k5:(decide (k400<(out.length:Int)))=true=>have _:=of_decide_eq_true k5; (by first | omega | (simp only [lens,ib] at*<;> omega):ib k400 out)) (ai (fun k6:(decide (k400<(out.length:Int)))=true=>have _:=of_decide_eq_true k6; trivial) (ai (fun k7:(decide (k400<(out.length:Int)))=true=>have _:=of_decide_eq_true k7; (Imps.refl (Qc (out.getD k400.toNat default)))) (ai (fun k8:(decide (k400<(out.length:Int)))=true=>have _:=of_decide_eq_true k8; (Imps.refl (Qc (⟨(F76 (F77 ((ofL lines w8_).getD i40.toNat default) 1)).Addr,(F76 (F77 ((ofL lines w8_).getD i40.toNat default) 1)).Len,(F78 (F77 ((ofL lines w8_).getD i40.toNat default) 2))⟩:TernVia)))) (ifb (bif decide (k400<(out.length:Int)) then (F90 (out.getD k400.toNat default) ⟨(F76 (F77 ((ofL lines w8_).getD i40.toNat default) 1)).Addr,(F76 (F77 ((ofL lines w8_).getD i40.toNat default) 1)).Len,(F78 (F77 ((ofL lines w8_).getD i40.toNat default) 2))⟩) else false) (fun h9=>have _:=of_decide_eq_true (Qn h9); ai (iok (k400+1) (by first | omega | (simp only [lens,ib] at*<;> omega))) (bk54_1 lines out i40 i1 m1 (k400+1) hl1 (Qe hI1 (condT h9 rfl)) (by refine ⟨?_,?_,?_,?_⟩ <;> first | omega | (simp only [lens,ib] at*<;> omega)))) (fun h9=>have hD1_10:Qyn lines out i40=Lp.done k400:=Qj hI1 (condF h9 rfl); jn54_2 lines out i40 k400 (Eq.symm (finD hD1_10 rfl)) (by refine ⟨?_,?_⟩ <;> first | omega | (simp only [lens,ib] at*<;> omega)))))))) (i1.1-1) i1.2 (un54_1 lines out i40 i1 hi1))) (fun (j:Int) (hj:Qpq lines out i40 j)=>(fun (k:Int) (hJ2_11:(To lines out i40)=Lp.done k) (hw:Qmm lines out i40 k)=>have _:=hw.1; have _:=hw.2; ai (bokr 3 Qc ([]:List TernVia) fun _=>rfl) (ai (by first | omega | (simp only [lens,ib] at*<;> omega):0≤(0:Int)∧(0:Int)≤k∧k≤(out.length:Int)) (ai (AppL.mk Qc ([]:List TernVia) (out.take k.toNat) (Imp.refl (.l 3 Qc ([]:List TernVia))) ir (fun y=>⟨rfl,fun e he=>by simp only [Qc,List.mem_cons,List.not_mem_nil,or_false] at he; rcases he with rfl | rfl | rfl <;> exact ⟨_,rfl⟩⟩):AppL (.l 3 Qc ([]:List TernVia)) (.l 3 Qc (out.take k.toNat)) 3 (.l 3 Qc (([]:List TernVia)++(out.take k.toNat)))) (ai (by (try simp only [lens]); omega:(([]:List TernVia)++(out.take k.toNat)).length*24≤140737488355328) (ai (appr 3 Qc (([]:List TernVia)++(out.take k.toNat)) [(⟨(F76 (F77 ((ofL lines w8_).getD i40.toNat default) 1)).Addr,(F76 (F77 ((ofL lines w8_).getD i40.toNat default) 1)).Len,(F78 (F77 ((ofL lines w8_).getD i40.toNat default) 2))⟩:TernVia)] fun _=>rfl) (ai (by (try simp only [lens]); omega:((([]:List TernVia)++(out.take k.toNat))++[(⟨(F76 (F77 ((ofL lines w8_).getD i40.toNat default) 1)).Addr,(F76 (F77 ((ofL lines w8_).getD i40.toNat default) 1)).Len,(F78 (F77 ((ofL lines w8_).getD i40.toNat default) 2))⟩:TernVia)]).length*24≤140737488355328) (ai (by first | omega | (simp only [lens,ib] at*<;> omega):0≤k∧k≤(out.length:Int)∧(out.length:Int)≤(out.length:Int)) (ai (AppL.mk Qc ((([]:List TernVia)++(out.take k.toNat))++[(⟨(F76 (F77 ((ofL lines w8_).getD i40.toNat default) 1)).Addr,(F76 (F77 ((ofL lines w8_).getD i40.toNat default) 1)).Len,(F78 (F77 ((ofL lines w8_).getD i40.toNat default) 2))⟩:TernVia)]) (out.drop k.toNat) (Imp.refl (.l 3 Qc ((([]:List TernVia)++(out.take k.toNat))++[(⟨(F76 (F77 ((ofL lines w8_).getD i40.toNat default) 1)).Addr,(F76 (F77 ((ofL lines w8_).getD i40.toNat default) 1)).Len,(F78 (F77 ((ofL lines w8_).getD i40.toNat default) 2))⟩:TernVia)]))) ir (fun y=>⟨rfl,fun e he=>by simp only [Qc,List.mem_cons,List.not_mem_nil,or_false] at he; rcases he with rfl | rfl | rfl <;> exact ⟨_,rfl⟩⟩):AppL (.l 3 Qc ((([]:List TernVia)++(out.take k.toNat))++[(⟨(F76 (F77 ((ofL lines w8_).getD i40.toNat default) 1)).Addr,(F76 (F77 ((ofL lines w8_).getD i40.toNat default) 1)).Len,(F78 (F77 ((ofL lines w8_).getD i40.toNat default) 2))⟩:TernVia)])) (.l 3 Qc (out.drop k.toNat)) 3 (.l 3 Qc (((([]:List TernVia)++(out.take k.toNat))++[(⟨(F76 (F77 ((ofL lines w8_).getD i40.toNat default) 1)).Addr,(F76 (F77 ((ofL lines w8_).getD i40.toNat default) 1)).Len,(F78 (F77 ((ofL lines w8_).getD i40.toNat default) 2))⟩:TernVia)])++(out.drop k.toNat)))) (ai (by (try simp only [lens]); omega:(((([]:List TernVia)++(out.take k.toNat))++[(⟨(F76 (F77 ((ofL lines w8_).getD i40.toNat default) 1)).Addr,(F76 (F77 ((ofL lines w8_).getD i40.toNat default) 1)).Len,(F78 (F77 ((ofL lines w8_).getD i40.toNat default) 2))⟩:TernVia)])++(out.drop k.toNat)).length*24≤140737488355328) (ai (iok (i40+1) (by first | omega | (simp only [lens,ib] at*<;> omega))) (bk54_0 lines i0 m0 (((([]:List TernVia)++(out.take k.toNat))++[(⟨(F76 (F77 ((ofL lines w8_).getD i40.toNat default) 1)).Addr,(F76 (F77 ((ofL lines w8_).getD i40.toNat default) 1)).Len,(F78 (F77 ((ofL lines w8_).getD i40.toNat default) 2))⟩:TernVia)])++(out.drop k.toNat)) (i40+1) hl0 (Qe hI0 (condT h3 (finD hJ2_11 rfl))) (by refine ⟨?_,?_,?_⟩ <;> first | omega | (simp only [lens,ib] at*<;> omega) | (simp only [lens] at *; omega))))))))))))) j hj.1 hj.2)))))))) (fun h3 _=>have hD0_12:Qxo lines=Lp.done (out,i40):=Qj hI0 (condF h3 rfl); fi54 lines out (finD hD0_12 rfl))) (i0.1-1) i0.2.1 i0.2.2 (un54_0 lines i0 hi0))))) (by kernel_rfl)
theorem kc31 (lines:List ByteArray) {K_:Prop} (p0_:lines.length≤1048576) (p1_:∀ k:Nat,(lines.getD k default).size≤1048576) (k_:K_):(lines.length≤1048576∧(∀ k:Nat,(lines.getD k default).size≤1048576))∧(Imp (.l 1 eStr lines) (.l 1 eStr lines))∧K_:=⟨⟨p0_,p1_⟩,Imp.refl _,k_⟩
abbrev kh31 (lines:List ByteArray):Hint true Tryz.prog:=.call 31 (S31 lines) (ok31 lines) none
theorem kc54 (lines:List ByteArray) {K_:Prop} (p0_:lines.length≤16) (p1_:∀ k:Nat,(lines.getD k default).size≤1048576) (k_:K_):(lines.length≤16∧(∀ k:Nat,(lines.getD k default).size≤1048576))∧(Imp (.l 1 eStr lines) (.l 1 eStr lines))∧K_:=⟨⟨p0_,p1_⟩,Imp.refl _,k_⟩
abbrev kh54 (lines:List ByteArray):Hint true Tryz.prog:=.call 54 (S54 lines) (ok54 lines) none
def F21 (lines:List ByteArray):List TernVia :=
 bif ((F31 lines) != 0) then ([]:List TernVia) else (F54 lines)
theorem fi21 (lines:List ByteArray) (r:List TernVia) (hF:r=(F21 lines)):(Imp (.l 3 Qc r) (.l 3 Qc (F21 lines)))∧True:=by cases hF; exact ⟨Imp.refl _,trivial⟩
def S21 (lines:List ByteArray):Spec:=⟨[.r (.c (.l 1 eStr lines))],.ow (.l 3 Qc (F21 lines)),lines.length≤1048576∧(∀ k:Nat,(lines.getD k default).size≤1048576)⟩
theorem ok21 (lines:List ByteArray):(S21 lines).ok Tryz.prog 21 :=
 Qi mixed (fn:=Tryz.f21) (ct:=.seqk [(0,0)] .no (.seq (.seq (.reg [(1,kh31 lines)]) (.cond (.seq (.reg [(0,.dat (.l 3 Qc ([]:List TernVia)))]) .no) .no)) (.seq (.reg [(1,kh54 lines)]) .no))) Tryz.func21 (fun (hp:lines.length≤1048576∧(∀ k:Nat,(lines.getD k default).size≤1048576))=>have hpre0:=hp.1; have hpre1:=hp.2; kn lines fun _=>kc31 lines (by omega) (by first | assumption | exact hpre1 _ | exact fun k _=>hpre1 k | (intros; exact trivial) | (intros; exact Nat.zero_le _)) (ifn (F31 lines) 0 (fun h1 _=>ai (bokr 3 Qc ([]:List TernVia) fun _=>rfl) (fi21 lines ([]:List TernVia) (condT h1 rfl))) (fun h1 _=>kc54 lines (by first | assumption | exact Tp lines (by omega)) (by first | assumption | exact Tp lines (by omega)) (fi21 lines (F54 lines) (condF h1 rfl))))) (by kernel_rfl)
theorem Qzc (lines:List ByteArray):Rl lines=.done ((Uc lines (⟨#[114,111,117,116,101]⟩:ByteArray)).map viaT):=by
 unfold Rl
 have:=Ye (Uc lines (⟨#[114,111,117,116,101]⟩:ByteArray)) (fun (s:List TernVia) w=>s++[viaT w]) (fun s i=>(s,i)) (Xu lines) (fun i s hi=>by
  simp only [Xu,ltD hi,cond_true,nn,F42]; rfl) (fun s=>by simp only [Xu,geD,cond_false]) Lp.ret (fun (out1,v11)=>(.done out1:Lp (List TernVia) (List TernVia))) []
 refine this.trans ?_
 rw [Zp,List.nil_append]
theorem Qkh (lines:List ByteArray):F22 lines=Zv (fun (x0:TernVia) (x1:TernVia)=>F56 x0 x1) ((Uc lines (⟨#[114,111,117,116,101]⟩:ByteArray)).map viaT):=by
 unfold F22
 rw [Qzc]; rfl
def viaS (c:l52Cut):TernVia:=⟨(F115 (F77 c 1)).1.Addr,(F115 (F77 c 1)).1.Len,F78 (F77 c 2)⟩
theorem Uiq (w:List ByteArray):viaS ⟨w⟩=viaT w:=by
 unfold viaS viaT
 rw [at1,at2,Qmx,He]
theorem Uar (lines:List ByteArray):F54 lines=(ofL lines (⟨#[114,111,117,116,101]⟩:ByteArray)).foldl (fun out c=>insL F90 (viaS c) out) []:=by
 unfold F54
 have:=Ye (ofL lines (⟨#[114,111,117,116,101]⟩:ByteArray)) (fun (s:List TernVia) c=>insL F90 (viaS c) s) (fun s i=>(s,i)) (Bj lines) (fun i s hi=>by
  simp only [Bj,ltD hi,cond_true]
  have hj:To lines s (i:Int)=.done ((posL F90 (viaS ((ofL lines (⟨#[114,111,117,116,101]⟩:ByteArray)).getD i default)) s:Nat):Int):=by
   unfold To
   rw [Udc F90 (viaS ((ofL lines (⟨#[114,111,117,116,101]⟩:ByteArray)).getD i default)) s (Hw lines s (i:Int)) (fun k=>by
    simp only [Hw,nn,F76]; rfl)]
   rfl
  rw [hj]
  simp only [Lp.fin,nn,F76,List.nil_append]
  rw [← Qsb]; rfl) (fun s=>by simp only [Bj,geD,cond_false]) (fun r=>r) (fun (out,i40)=>out) []
 exact this
theorem Qnq (a b:TernVia) (ha:VB a) (hb:VB b):F90 a b=decide (F56 a b<0):=by
 have h:=Vl a b ha hb
 unfold F90
 by_cases h1:a.Addr=b.Addr
 ·rw [show (a.Addr != b.Addr)=false by simp [h1],cond_false]
  by_cases h2:a.Len=b.Len
  ·rw [show (a.Len != b.Len)=false by simp [h2],cond_false,decide_eq_decide]; omega
  ·rw [show (a.Len != b.Len)=true by simp [h2],cond_true,decide_eq_decide]; omega
 ·rw [show (a.Addr != b.Addr)=true by simp [h1],cond_true,decide_eq_decide]; omega
theorem Qfx (lines:List ByteArray):F22 lines=F21 lines:=by
 rw [Qkh]
 unfold F21 Uc
 rw [← Lb]
 cases h:(F119 lines==0) with
 | true =>
  have h0:=eq_of_beq h
  rw [h0,Uar,Ukz lines (Tv lines h0),List.foldl_map]
  have e:(fun (out:List TernVia) (w:List ByteArray)=>insL F90 (viaS ⟨w⟩) out)=fun out w=>insL F90 (viaT w) out:=by funext out w; rw [Uiq]
  have hb:∀ x∈(Qa lines (⟨#[114,111,117,116,101]⟩:ByteArray)).map viaT,VB x:=fun x hx=>by obtain ⟨w,_,rfl⟩:=List.mem_map.1 hx; exact Ubg w
  have:=Uce (Qlo (Qa lines (⟨#[114,111,117,116,101]⟩:ByteArray))) (less:=F90) (fun a ha b hbb=>Qnq a b (hb a ha) (hb b hbb))
  rw [List.foldl_map] at this
  show Zv _ _=List.foldl (fun (out:List TernVia) (w:List ByteArray)=>insL F90 (viaS ⟨w⟩) out) [] _
  rw [e]
  exact this.symm
 | false =>
  rw [show (F119 lines != 0)=true by simp only [bne,h,Bool.not_false]]
  show Zv _ ([]:List TernVia)=[]
  simp [Zv]
theorem Ubo (lines:List ByteArray):(F22 lines).length≤16:=by
 rw [Qkh,Kv,List.length_map]; exact Qfi _ _
theorem kc39 (k:Int) {K_:Prop} (p0_:k≤1000000000) (k_:K_):(k≤1000000000)∧(Imp (.v (vI k)) (.v (vI k)))∧K_:=⟨p0_,Imp.refl _,k_⟩
abbrev kh39 (k:Int):Hint true Tryz.prog:=.call 39 (S39 k) (ok39 k) none
def Kt (a:List ByteArray) (k:Int):(Int×Int×List ByteArray)→Lp (Int×Int×List ByteArray) (Int×List ByteArray):=fun (k400,i40,xs) =>
 bif (decide (i40<(xs.length:Int))) then (.next ((k400+1),(i40+1),(xs.set (i40).toNat (F39 k400)))) else (.done (k400,i40,xs))
def F13 (a:List ByteArray) (k:Int):Int×List ByteArray :=
 (runL (Kt a k) ((Int.toNat ((a.length:Int)-0))+1) (k,0,a)).fin (fun r=>r) (fun (k400,i40,xs)=>(k400,xs))
abbrev Qau (a:List ByteArray) (k:Int):Nat×(Int×Int×List ByteArray):=(((Int.toNat ((a.length:Int)-0))+1),(k,0,a))
abbrev Qmk (a:List ByteArray) (m39:Nat) (k400:Int) (i40:Int) (xs:List ByteArray):Prop:=Int.toNat ((xs.length:Int)-i40)<m39∧(0:Int)≤k400∧k400+((xs.length:Int)-i40)≤1000000000∧(0:Int)≤i40∧xs.length=a.length
abbrev Qxm (a:List ByteArray) (k:Int):Lp (Int×Int×List ByteArray) (Int×List ByteArray):=LpX (Kt a k) (Qau a k)
abbrev Qdi (a:List ByteArray) (k:Int) (i:Nat×(Int×Int×List ByteArray)):Prop:=LpJ (Kt a k) (Qau a k) i (Qmk a i.1 i.2.1 i.2.2.1 i.2.2.2)
abbrev Qxx (a:List ByteArray) (k:Int) (i:Nat×(Int×Int×List ByteArray)) (m39:Nat) (k400:Int) (i40:Int) (xs:List ByteArray):Prop:=LpH (Kt a k) (Qau a k) i m39 (k400,i40,xs) (Qmk a (m39+1) k400 i40 xs)
abbrev Ubm (k400:Int) (i40:Int) (xs:List ByteArray) (k400_:Int) (i40_:Int) (xs_:List ByteArray) (K39:Prop):Prop:=((.int .i64 k400:Value)=.int .i64 k400_)∧((.int .i64 i40:Value)=.int .i64 i40_)∧(Imp (.l 1 eStr xs) (.l 1 eStr xs_))∧K39
theorem un13_0 (a:List ByteArray) (k:Int) (i:Nat×(Int×Int×List ByteArray)) (h:Qdi a k i):Qxx a k i (i.1-1) i.2.1 i.2.2.1 i.2.2.2:=⟨hd1 h.1 h.2.1,hd3 h.2.1,hd2 h.2.1,h.2.2⟩
theorem bk13_0 (a:List ByteArray) (k:Int) (i:Nat×(Int×Int×List ByteArray)) (m39:Nat) (k400:Int) (i40:Int) (xs:List ByteArray) (hl:m39<i.1) (e:runL (Kt a k) m39 (k400,i40,xs)=Qxm a k) (h:Qmk a m39 k400 i40 xs):∃ j:Nat×(Int×Int×List ByteArray),Ubm k400 i40 xs j.2.1 j.2.2.1 j.2.2.2 (Qdi a k j∧j.1<i.1):=⟨(m39,(k400,i40,xs)),rfl,rfl,Imp.refl _,⟨e,h⟩,hl⟩
theorem en13_0 (a:List ByteArray) (k:Int) (h:(0:Int)≤k∧k+((a.length:Int)-0)≤1000000000∧(0:Int)≤0∧a.length=a.length):Ubm k 0 a k 0 a (Qdi a k (Qau a k)):=⟨rfl,rfl,Imp.refl _,rfl,Nat.lt_succ_self _,h⟩
theorem fi13 (a:List ByteArray) (k:Int) (r:Int×List ByteArray) (hF:r=(F13 a k)):((.int .i64 r.1:Value)=.int .i64 (F13 a k).1)∧(Imp (.l 1 eStr r.2) (.l 1 eStr (F13 a k).2))∧True:=by cases hF; exact ⟨rfl,Imp.refl _,trivial⟩
def S13 (a:List ByteArray) (k:Int):Spec:=⟨[.ow (.l 1 eStr a) (some (.l 1 eStr (F13 a k).2)),.r (.c (.v (vI k)))],.v (vI (F13 a k).1),0≤k∧k+(a.length:Int)≤1000000000⟩
theorem ok13 (a:List ByteArray) (k:Int):(S13 a k).ok Tryz.prog 13 :=
 Qi mixed (fn:=Tryz.f13) (ct:=.seqk [(0,0)] .no (.seq (.seqk [(0,0)] .no (.blk (.loop (ι:=Nat×(Int×Int×List ByteArray)) (fun i=>(fun (k400:Int) (i40:Int) (xs:List ByteArray)=>(⟨[(0,some (.h 0 0)),(1,some (.v (vI k400))),(5,some (.v (vI i40)))],[(0,some (.own 0 (.l 1 eStr xs)))],1⟩:St)) i.2.1 i.2.2.1 i.2.2.2) (Qdi a k) (fun i=>i.1) (Qau a k) (fun i=>(fun (k400:Int) (i40:Int) (xs:List ByteArray)=>(.seq (.seq .no (.cond .no .no)) (.seq (.blk (.seq (.reg [(3,kh39 k400),(5,.dat (.l 1 eStr (xs.set (i40).toNat (F39 k400))))]) (.reg [(1,.bnd)]))) (.reg [(1,.bnd)])))) i.2.1 i.2.2.1 i.2.2.2)))) (.seq .no .no))) Tryz.func13 (fun (hp:0≤k∧k+(a.length:Int)≤1000000000)=>have hpre0:=hp.1; have hpre1:=hp.2; kn a fun _=>kn a fun _=>ai (en13_0 a k (by refine ⟨?_,?_,?_,?_⟩ <;> first | omega | (simp only [lens,ib] at*<;> omega))) (fun (i0:Nat×(Int×Int×List ByteArray)) (hi0:Qdi a k i0)=>(fun (m0:Nat) (k400:Int) (i40:Int) (xs:List ByteArray) (hh0:Qxx a k i0 m0 k400 i40 xs)=>have hI0:=hh0.1; have hl0:=hh0.2.1; have _:=hh0.2.2.1; have _:=hh0.2.2.2; ifd (i40<(xs.length:Int)) (fun h2 _=>kc39 k400 (by first | omega | (simp only [lens,ib] at*<;> omega)) (ai (by first | omega | (simp only [lens,ib] at*<;> omega):ib i40 xs) (ai (setr 1 eStr xs (i40).toNat (F39 k400)) (ai (iok (k400+1) (by first | omega | (simp only [lens,ib] at*<;> omega))) (ai (iok (i40+1) (by first | omega | (simp only [lens,ib] at*<;> omega))) (bk13_0 a k i0 m0 (k400+1) (i40+1) (xs.set (i40).toNat (F39 k400)) hl0 (Qe hI0 (condT h2 rfl)) (by refine ⟨?_,?_,?_,?_,?_⟩ <;> first | omega | (simp only [lens,ib] at*<;> omega)))))))) (fun h2 _=>have hD0_3:Qxm a k=Lp.done (k400,i40,xs):=Qj hI0 (condF h2 rfl); fi13 a k (k400,xs) (finD hD0_3 rfl))) (i0.1-1) i0.2.1 i0.2.2.1 i0.2.2.2 (un13_0 a k i0 hi0))) (by kernel_rfl)
theorem g13_0 (a:List ByteArray) (k:Int):(F13 a k).2.length=a.length:=by
 have h:=Yi (step:=Kt a k) (fun i (s:Int×List ByteArray)=>(s.1,(i:Int),s.2)) a.length (fun _ s=>s.2.length=a.length) (fun _=>False) (fun i s hi hs=>.inl ⟨(s.1+1,s.2.set i (F39 s.1)),by simp only [Kt,hs,decide_eq_true (show (i:Int)<(a.length:Int) by omega),cond_true,Int.toNat_natCast]; rfl,by simpa using hs⟩) (fun s hs=>by simp only [Kt,hs,decide_eq_false (show ¬ (a.length:Int)<(a.length:Int) by omega),cond_false]) a.length 0 (k,a) (by omega) rfl (Int.toNat ((a.length:Int)-0)+1) (by omega)
 show ((runL (Kt a k) (Int.toNat ((a.length:Int)-0)+1) (k,0,a)).fin (fun r=>r) (fun (k400,i40,xs)=>(k400,xs))).2.length=a.length
 rcases h with ⟨s,e,hs⟩ | ⟨r,_,hr⟩
 ·rw [show (k,(0:Int),a)=((k,a).1,((0:Nat):Int),(k,a).2) from rfl,e]; exact hs
 ·exact hr.elim
theorem Qlw (a:List ByteArray) (k:Int):(F13 a k).1=k+(a.length:Int):=by
 have h:=Yi (step:=Kt a k) (fun i (s:Int×List ByteArray)=>(s.1,(i:Int),s.2)) a.length (fun i s=>s.2.length=a.length∧s.1=k+(i:Int)) (fun _=>False) (fun i s hi hs=>.inl ⟨(s.1+1,s.2.set i (F39 s.1)),by simp only [Kt,hs.1,decide_eq_true (show (i:Int)<(a.length:Int) by omega),cond_true,Int.toNat_natCast]; rfl,by
   refine ⟨by simpa using hs.1,?_⟩
   have:=hs.2
   show s.1+1=k+((i+1:Nat):Int)
   omega⟩) (fun s hs=>by simp only [Kt,hs.1,decide_eq_false (show ¬ (a.length:Int)<(a.length:Int) by omega),cond_false]) a.length 0 (k,a) (by omega) ⟨rfl,by simp⟩ (Int.toNat ((a.length:Int)-0)+1) (by omega)
 show ((runL (Kt a k) (Int.toNat ((a.length:Int)-0)+1) (k,0,a)).fin (fun r=>r) (fun (k400,i40,xs)=>(k400,xs))).1=k+(a.length:Int)
 rcases h with ⟨s,e,hs⟩ | ⟨r,_,hr⟩
 ·rw [show (k,(0:Int),a)=((k,a).1,((0:Nat):Int),(k,a).2) from rfl,e]; exact hs.2
 ·exact hr.elim
theorem Qkd {α:Type} (L:α→Nat) (c:Nat) (h:∀ x,L x=c):∀ xs:List α,sumL L xs=xs.length*c
 | []=>(Nat.zero_mul c).symm
 | x :: xs=>by rw [Vx,Qkd L c h xs,List.length_cons,Nat.add_one_mul,h x,Nat.add_comm]
def Qey (a:List ByteArray):(Int×List ByteArray)→Lp (Int×List ByteArray) (List ByteArray):=fun (i40,xs) =>
 bif (decide (i40<(a.length:Int))) then (.next ((i40+1),(xs.set (i40).toNat (a.getD i40.toNat default)))) else (.done (i40,xs))
def F9 (a:List ByteArray):List ByteArray :=
 (runL (Qey a) (((a.length:Int)-0).toNat+1) (0,(List.replicate (a.length:Int).toNat ((⟨#[]⟩:ByteArray):ByteArray)))).fin (fun r=>r) (fun (i40,xs)=>xs)
abbrev Qlf (a:List ByteArray):Nat×(Int×List ByteArray):=((((a.length:Int)-0).toNat+1),(0,(List.replicate (a.length:Int).toNat (w13_:ByteArray))))
abbrev Uav (a:List ByteArray) (m39:Nat) (i40:Int) (xs:List ByteArray):Prop:=Int.toNat ((a.length:Int)-i40)<m39∧(0:Int)≤i40∧xs.length=(List.replicate (a.length:Int).toNat (w13_:ByteArray)).length
abbrev lX9_0 (a:List ByteArray):Lp (Int×List ByteArray) (List ByteArray):=LpX (Qey a) (Qlf a)
abbrev Qln (a:List ByteArray) (i:Nat×(Int×List ByteArray)):Prop:=LpJ (Qey a) (Qlf a) i (Uav a i.1 i.2.1 i.2.2)
abbrev lH9_0 (a:List ByteArray) (i:Nat×(Int×List ByteArray)) (m39:Nat) (i40:Int) (xs:List ByteArray):Prop:=LpH (Qey a) (Qlf a) i m39 (i40,xs) (Uav a (m39+1) i40 xs)
abbrev lE9_0 (a:List ByteArray) (i40:Int) (xs:List ByteArray) (i40_:Int) (xs_:List ByteArray) (K39:Prop):Prop:=((.int .i64 i40:Value)=.int .i64 i40_)∧(Im (.l 1 eStr a))∧(Imp (.l 1 eStr xs) (.l 1 eStr xs_))∧K39
theorem un9_0 (a:List ByteArray) (i:Nat×(Int×List ByteArray)) (h:Qln a i):lH9_0 a i (i.1-1) i.2.1 i.2.2:=⟨hd1 h.1 h.2.1,hd3 h.2.1,hd2 h.2.1,h.2.2⟩
theorem bk9_0 (a:List ByteArray) (i:Nat×(Int×List ByteArray)) (m39:Nat) (i40:Int) (xs:List ByteArray) (hl:m39<i.1) (e:runL (Qey a) m39 (i40,xs)=lX9_0 a) (h:Uav a m39 i40 xs):∃ j:Nat×(Int×List ByteArray),lE9_0 a i40 xs j.2.1 j.2.2 (Qln a j∧j.1<i.1):=⟨(m39,(i40,xs)),rfl,Imp.refl _,Imp.refl _,⟨e,h⟩,hl⟩
theorem en9_0 (a:List ByteArray) (h:(0:Int)≤0∧(List.replicate (a.length:Int).toNat (w13_:ByteArray)).length=(List.replicate (a.length:Int).toNat (w13_:ByteArray)).length):lE9_0 a 0 (List.replicate (a.length:Int).toNat (w13_:ByteArray)) 0 (List.replicate (a.length:Int).toNat (w13_:ByteArray)) (Qln a (Qlf a)):=⟨rfl,Imp.refl _,Imp.refl _,rfl,Nat.lt_succ_self _,h⟩
theorem fi9 (a:List ByteArray) (r:List ByteArray) (hF:r=(F9 a)):(Imp (.l 1 eStr r) (.l 1 eStr (F9 a)))∧True:=by cases hF; exact ⟨Imp.refl _,trivial⟩
def S9 (R:List ByteArray) (a:List ByteArray):Spec:=⟨[.r (.c (.l 1 eStr a))],.ow (.l 1 eStr R),a.length≤1000000000∧(∀ k:Nat,(a.getD k default).size≤1000000000)⟩
theorem ok9 (a:List ByteArray):(S9 (F9 a) a).ok Tryz.prog 9 :=
 Qi mixed (fn:=Tryz.f9) (ct:=.seqk [(0,0)] .no (.seq (.reg [(2,.dat (.l 1 eStr (List.replicate (a.length:Int).toNat (w13_:ByteArray))))]) (.seq (.seqk [(0,0),(3,0)] .no (.blk (.loop (ι:=Nat×(Int×List ByteArray)) (fun i=>(fun (i40:Int) (xs:List ByteArray)=>(⟨[(0,some (.h 0 0)),(3,some (.h 1 0)),(4,some (.v (vI i40)))],[(0,some (.shr none (.l 1 eStr a))),(1,some (.own 1 (.l 1 eStr xs)))],2⟩:St)) i.2.1 i.2.2) (Qln a) (fun i=>i.1) (Qlf a) (fun i=>(fun (i40:Int) (xs:List ByteArray)=>(.seq (.seq .no (.cond .no .no)) (.seq (.blk (.reg [(7,.dat (.l 1 eStr (xs.set (i40).toNat (a.getD i40.toNat default))))])) (.reg [(1,.bnd)])))) i.2.1 i.2.2)))) (.seq .no .no)))) Tryz.func9 (fun (hp:a.length≤1000000000∧(∀ k:Nat,(a.getD k default).size≤1000000000))=>have hpre0:=hp.1; have hpre1:=hp.2; kn a fun _=>ai (by first | omega | (simp only [lens,ib] at*<;> omega):0≤(a.length:Int)∧(a.length:Int)≤(a.length:Int)∧(16:Int)*(a.length:Int)≤281474976710656) (ai (MakeOK.mk eStr (w13_:ByteArray) (by exact ai ir trivial):MakeOK 1 [.v (.string w13_)] (a.length:Int).toNat (.l 1 eStr (List.replicate (a.length:Int).toNat (w13_:ByteArray)))) (kn a fun _=>kn (List.replicate (a.length:Int).toNat (w13_:ByteArray)) fun _=>ai (en9_0 a (by refine ⟨?_,?_⟩ <;> first | omega | (simp only [lens,ib] at*<;> omega))) (fun (i0:Nat×(Int×List ByteArray)) (hi0:Qln a i0)=>(fun (m0:Nat) (i40:Int) (xs:List ByteArray) (hh0:lH9_0 a i0 m0 i40 xs)=>have hI0:=hh0.1; have hl0:=hh0.2.1; have _:=hh0.2.2.1; have _:=hh0.2.2.2; ifd (i40<(a.length:Int)) (fun h2 _=>ai (by first | omega | (simp only [lens,ib] at*<;> omega):ib i40 a) (ai (by first | omega | (simp only [lens,ib] at*<;> omega):ib i40 xs) (ai (setr 1 eStr xs (i40).toNat (a.getD i40.toNat default)) (ai (iok (i40+1) (by first | omega | (simp only [lens,ib] at*<;> omega))) (bk9_0 a i0 m0 (i40+1) (xs.set (i40).toNat (a.getD i40.toNat default)) hl0 (Qe hI0 (condT h2 rfl)) (by refine ⟨?_,?_,?_⟩ <;> first | omega | (simp only [lens,ib] at*<;> omega))))))) (fun h2 _=>have hD0_3:lX9_0 a=Lp.done (i40,xs):=Qj hI0 (condF h2 rfl); fi9 a xs (finD hD0_3 rfl))) (i0.1-1) i0.2.1 i0.2.2 (un9_0 a i0 hi0))))) (by kernel_rfl)
theorem as9 (a:List ByteArray):F9 a=(a):=by
 exact Uko (fun x=>x) (fun _=>rfl) a _ (by simp) (Qey a) (fun i xs=>rfl)
theorem oa9 (a:List ByteArray):(S9 (a) a).ok Tryz.prog 9:=by
 intro hp; have h:=ok9 a hp; rw [as9 a] at h; exact h
def F57 (a:TernVia) (b:TernVia):Bool :=
 bif (a.Addr != b.Addr) then false else (bif (a.Len != b.Len) then false else (bif (a.Next != b.Next) then false else true))
def S57 (R:Bool) (a:TernVia) (b:TernVia):Spec:=⟨[.r (.g (Qc a)),.r (.g (Qc b))],.v (.bool R),True⟩
theorem ok57 (a:TernVia) (b:TernVia):(S57 (F57 a b) a b).ok Tryz.prog 57 :=
 Qi mixed (fn:=Tryz.f57) (ct:=.seq .no (.seq (.seq .no (.cond (.seq .no .no) .no)) (.seq (.seq .no (.cond (.seq .no .no) .no)) (.seq (.seq .no (.cond (.seq .no .no) .no)) (.seq .no .no))))) Tryz.func57 (fun (_:True)=>ifn a.Addr b.Addr (fun h1 _=>fiB false (F57 a b) (condT h1 rfl)) (fun h1 _=>ifn a.Len b.Len (fun h2 _=>fiB false (F57 a b) (condF h1 (condT h2 rfl))) (fun h2 _=>ifn a.Next b.Next (fun h3 _=>fiB false (F57 a b) (condF h1 (condF h2 (condT h3 rfl)))) (fun h3 _=>fiB true (F57 a b) (condF h1 (condF h2 (condF h3 rfl))))))) (by kernel_rfl)
theorem as57 (a:TernVia) (b:TernVia):F57 a b=(decide (a=b)):=by
 cases a; cases b
 simp only [F57,TernVia.mk.injEq,neI,neB,neS,eqstep,Bool.decide_and,Bool.and_true]
theorem oa57 (a:TernVia) (b:TernVia):(S57 (decide (a=b)) a b).ok Tryz.prog 57:=by
 intro hp; have h:=ok57 a b hp; rw [as57 a b] at h; exact h
theorem kc57a (a:TernVia) (b:TernVia) {K_:Prop} (k_:K_):(True)∧(Imps (Qc a) (Qc a))∧(Imps (Qc b) (Qc b))∧K_:=⟨trivial,Imps.refl _,Imps.refl _,k_⟩
abbrev kh57a (a:TernVia) (b:TernVia):Hint true Tryz.prog:=.call 57 (S57 (decide (a=b)) a b) (oa57 a b) none
def Tg (a:List TernVia) (b:List TernVia):Int→Lp Int Bool:=fun i40 =>
 bif (decide (i40<(a.length:Int))) then (bif (!(decide ((a.getD i40.toNat default)=(b.getD i40.toNat default)))) then (.ret false) else (.next (i40+1))) else (.done i40)
def F23 (a:List TernVia) (b:List TernVia):Bool :=
 bif ((a.length:Int) != (b.length:Int)) then false else ((runL (Tg a b) (((a.length:Int)-0).toNat+1) 0).fin (fun r=>r) (fun i40=>true))
abbrev Qcx (a:List TernVia):Nat×Int:=((((a.length:Int)-0).toNat+1),0)
abbrev Qnm (a:List TernVia) (m39:Nat) (i40:Int):Prop:=Int.toNat ((a.length:Int)-i40)<m39∧(0:Int)≤i40
abbrev Udx (a:List TernVia) (b:List TernVia):Lp Int Bool:=LpX (Tg a b) (Qcx a)
abbrev Qav (a:List TernVia) (b:List TernVia) (i:Nat×Int):Prop:=LpJ (Tg a b) (Qcx a) i (Qnm a i.1 i.2)
abbrev Qyg (a:List TernVia) (b:List TernVia) (i:Nat×Int) (m39:Nat) (i40:Int):Prop:=LpH (Tg a b) (Qcx a) i m39 i40 (Qnm a (m39+1) i40)
abbrev Qzf (a:List TernVia) (b:List TernVia) (i40:Int) (i40_:Int) (K39:Prop):Prop:=((.int .i64 i40:Value)=.int .i64 i40_)∧(Im (.l 3 Qc a))∧(Im (.l 3 Qc b))∧K39
theorem un23_0 (a:List TernVia) (b:List TernVia) (i:Nat×Int) (h:Qav a b i):Qyg a b i (i.1-1) i.2:=⟨hd1 h.1 h.2.1,hd3 h.2.1,hd2 h.2.1,h.2.2⟩
theorem bk23_0 (a:List TernVia) (b:List TernVia) (i:Nat×Int) (m39:Nat) (i40:Int) (hl:m39<i.1) (e:runL (Tg a b) m39 i40=Udx a b) (h:Qnm a m39 i40):∃ j:Nat×Int,Qzf a b i40 j.2 (Qav a b j∧j.1<i.1):=⟨(m39,i40),rfl,Imp.refl _,Imp.refl _,⟨e,h⟩,hl⟩
theorem en23_0 (a:List TernVia) (b:List TernVia) (h:(0:Int)≤0):Qzf a b 0 0 (Qav a b (Qcx a)):=⟨rfl,Imp.refl _,Imp.refl _,rfl,Nat.lt_succ_self _,h⟩
def S23 (R:Bool) (a:List TernVia) (b:List TernVia):Spec:=⟨[.r (.c (.l 3 Qc a)),.r (.c (.l 3 Qc b))],.v (.bool R),True⟩
theorem ok23 (a:List TernVia) (b:List TernVia):(S23 (F23 a b) a b).ok Tryz.prog 23 :=
 Qi mixed (fn:=Tryz.f23) (ct:=.seqk [(0,0),(1,0)] .no (.seq (.seq .no (.cond (.seq .no .no) .no)) (.seq (.seqk [(0,0),(1,0)] .no (.blk (.loop (ι:=Nat×Int) (fun i=>(fun (i40:Int)=>(⟨[(0,some (.h 0 0)),(1,some (.h 1 0)),(5,some (.v (vI i40)))],[(0,some (.shr none (.l 3 Qc a))),(1,some (.shr none (.l 3 Qc b)))],2⟩:St)) i.2) (Qav a b) (fun i=>i.1) (Qcx a) (fun i=>(fun (i40:Int)=>(.seq (.seq .no (.cond .no .no)) (.seq (.blk (.seq (.reg [(8,kh57a (a.getD i40.toNat default) (b.getD i40.toNat default))]) (.cond (.seq .no .no) .no))) (.reg [(1,.bnd)])))) i.2)))) (.seq .no .no)))) Tryz.func23 (fun (_:True)=>kn a fun _=>kn b fun _=>ifn (a.length:Int) (b.length:Int) (fun h1 _=>fiB false (F23 a b) (condT h1 rfl)) (fun h1 _=>kn a fun _=>kn b fun _=>ai (en23_0 a b (by omega)) (fun (i0:Nat×Int) (hi0:Qav a b i0)=>(fun (m0:Nat) (i40:Int) (hh0:Qyg a b i0 m0 i40)=>have hI0:=hh0.1; have hl0:=hh0.2.1; have _:=hh0.2.2.1; have _:=hh0.2.2.2; ifd (i40<(a.length:Int)) (fun h3 _=>ai (by omega:ib i40 a) (ai (by omega:ib i40 b) (kc57a (a.getD i40.toNat default) (b.getD i40.toNat default) (ifb (!(decide ((a.getD i40.toNat default)=(b.getD i40.toNat default)))) (fun h4=>have _:=of_decide_eq_false (We h4); fiB false (F23 a b) (condF h1 (finR (Qr hI0 (condT h3 (condT h4 rfl))) rfl))) (fun h4=>have _:=of_decide_eq_true (Uu h4); ai (iok (i40+1) (by omega)) (bk23_0 a b i0 m0 (i40+1) hl0 (Qe hI0 (condT h3 (condF h4 rfl))) (by refine ⟨?_,?_⟩ <;> omega))))))) (fun h3 _=>have hD0_5:Udx a b=Lp.done i40:=Qj hI0 (condF h3 rfl); fiB true (F23 a b) (condF h1 (finD hD0_5 rfl)))) (i0.1-1) i0.2 (un23_0 a b i0 hi0)))) (by kernel_rfl)
theorem as23 (a:List TernVia) (b:List TernVia):F23 a b=(decide (a=b)):=by
 exact Qvn (fun x y=>decide (x=y)) (fun _ _=>rfl) a b (Tg a b) (fun i=>rfl)
theorem oa23 (a:List TernVia) (b:List TernVia):(S23 (decide (a=b)) a b).ok Tryz.prog 23:=by
 intro hp; have h:=ok23 a b hp; rw [as23 a b] at h; exact h
def La (a:List ByteArray) (b:List ByteArray):Int→Lp Int Bool:=fun i40 =>
 bif (decide (i40<(a.length:Int))) then (bif (!((a.getD i40.toNat default).toList==(b.getD i40.toNat default).toList)) then (.ret false) else (.next (i40+1))) else (.done i40)
def F12 (a:List ByteArray) (b:List ByteArray):Bool :=
 bif ((a.length:Int) != (b.length:Int)) then false else ((runL (La a b) (((a.length:Int)-0).toNat+1) 0).fin (fun r=>r) (fun i40=>true))
abbrev Qde (a:List ByteArray):Nat×Int:=((((a.length:Int)-0).toNat+1),0)
abbrev Qph (a:List ByteArray) (m39:Nat) (i40:Int):Prop:=Int.toNat ((a.length:Int)-i40)<m39∧(0:Int)≤i40
abbrev Ueb (a:List ByteArray) (b:List ByteArray):Lp Int Bool:=LpX (La a b) (Qde a)
abbrev Qct (a:List ByteArray) (b:List ByteArray) (i:Nat×Int):Prop:=LpJ (La a b) (Qde a) i (Qph a i.1 i.2)
abbrev Udy (a:List ByteArray) (b:List ByteArray) (i:Nat×Int) (m39:Nat) (i40:Int):Prop:=LpH (La a b) (Qde a) i m39 i40 (Qph a (m39+1) i40)
abbrev Qxq (a:List ByteArray) (b:List ByteArray) (i40:Int) (i40_:Int) (K39:Prop):Prop:=((.int .i64 i40:Value)=.int .i64 i40_)∧(Im (.l 1 eStr a))∧(Im (.l 1 eStr b))∧K39
theorem un12_0 (a:List ByteArray) (b:List ByteArray) (i:Nat×Int) (h:Qct a b i):Udy a b i (i.1-1) i.2:=⟨hd1 h.1 h.2.1,hd3 h.2.1,hd2 h.2.1,h.2.2⟩
theorem bk12_0 (a:List ByteArray) (b:List ByteArray) (i:Nat×Int) (m39:Nat) (i40:Int) (hl:m39<i.1) (e:runL (La a b) m39 i40=Ueb a b) (h:Qph a m39 i40):∃ j:Nat×Int,Qxq a b i40 j.2 (Qct a b j∧j.1<i.1):=⟨(m39,i40),rfl,Imp.refl _,Imp.refl _,⟨e,h⟩,hl⟩
theorem en12_0 (a:List ByteArray) (b:List ByteArray) (h:(0:Int)≤0):Qxq a b 0 0 (Qct a b (Qde a)):=⟨rfl,Imp.refl _,Imp.refl _,rfl,Nat.lt_succ_self _,h⟩
def S12 (R:Bool) (a:List ByteArray) (b:List ByteArray):Spec:=⟨[.r (.c (.l 1 eStr a)),.r (.c (.l 1 eStr b))],.v (.bool R),True⟩
theorem ok12 (a:List ByteArray) (b:List ByteArray):(S12 (F12 a b) a b).ok Tryz.prog 12 :=
 Qi mixed (fn:=Tryz.f12) (ct:=.seqk [(0,0),(1,0)] .no (.seq (.seq .no (.cond (.seq .no .no) .no)) (.seq (.seqk [(0,0),(1,0)] .no (.blk (.loop (ι:=Nat×Int) (fun i=>(fun (i40:Int)=>(⟨[(0,some (.h 0 0)),(1,some (.h 1 0)),(5,some (.v (vI i40)))],[(0,some (.shr none (.l 1 eStr a))),(1,some (.shr none (.l 1 eStr b)))],2⟩:St)) i.2) (Qct a b) (fun i=>i.1) (Qde a) (fun i=>(fun (i40:Int)=>(.seq (.seq .no (.cond .no .no)) (.seq (.blk (.seq .no (.cond (.seq .no .no) .no))) (.reg [(1,.bnd)])))) i.2)))) (.seq .no .no)))) Tryz.func12 (fun (_:True)=>kn a fun _=>kn b fun _=>ifn (a.length:Int) (b.length:Int) (fun h1 _=>fiB false (F12 a b) (condT h1 rfl)) (fun h1 _=>kn a fun _=>kn b fun _=>ai (en12_0 a b (by omega)) (fun (i0:Nat×Int) (hi0:Qct a b i0)=>(fun (m0:Nat) (i40:Int) (hh0:Udy a b i0 m0 i40)=>have hI0:=hh0.1; have hl0:=hh0.2.1; have _:=hh0.2.2.1; have _:=hh0.2.2.2; ifd (i40<(a.length:Int)) (fun h3 _=>ai (by omega:ib i40 a) (ai (by omega:ib i40 b) (ifb (!((a.getD i40.toNat default).toList==(b.getD i40.toNat default).toList)) (fun h4=>fiB false (F12 a b) (condF h1 (finR (Qr hI0 (condT h3 (condT h4 rfl))) rfl))) (fun h4=>ai (iok (i40+1) (by omega)) (bk12_0 a b i0 m0 (i40+1) hl0 (Qe hI0 (condT h3 (condF h4 rfl))) (by refine ⟨?_,?_⟩ <;> omega)))))) (fun h3 _=>have hD0_5:Ueb a b=Lp.done i40:=Qj hI0 (condF h3 rfl); fiB true (F12 a b) (condF h1 (finD hD0_5 rfl)))) (i0.1-1) i0.2 (un12_0 a b i0 hi0)))) (by kernel_rfl)
theorem as12 (a:List ByteArray) (b:List ByteArray):F12 a b=(decide (a=b)):=by
 exact Qvn (fun x y=>decide (x=y)) (fun _ _=>rfl) a b (La a b) (fun i=>by simp only [La,neI,neB,neS])
theorem oa12 (a:List ByteArray) (b:List ByteArray):(S12 (decide (a=b)) a b).ok Tryz.prog 12:=by
 intro hp; have h:=ok12 a b hp; rw [as12 a b] at h; exact h
def Te (a:List TernVia) (k:Int):(Int×Int×List TernVia)→Lp (Int×Int×List TernVia) (Int×List TernVia):=fun (k400,i40,xs) =>
 bif (decide (i40<(xs.length:Int))) then (.next ((IntKind.i64.wrap ((IntKind.i64.wrap ((IntKind.i64.wrap (k400+1))+1))+1)),(i40+1),(xs.set (i40).toNat (⟨k400,(IntKind.i64.wrap (k400+1)),(IntKind.i64.wrap ((IntKind.i64.wrap (k400+1))+1))⟩:TernVia)))) else (.done (k400,i40,xs))
def F24 (a:List TernVia) (k:Int):Int×List TernVia :=
 (runL (Te a k) (((a.length:Int)-0).toNat+1) (k,0,a)).fin (fun r=>r) (fun (k400,i40,xs)=>(k400,xs))
abbrev Qbq (a:List TernVia) (k:Int):Nat×(Int×Int×List TernVia):=((((a.length:Int)-0).toNat+1),(k,0,a))
abbrev Qmt (a:List TernVia) (m39:Nat) (k400:Int) (i40:Int) (xs:List TernVia):Prop:=Int.toNat ((xs.length:Int)-i40)<m39∧(0:Int)≤i40∧xs.length=a.length
abbrev Ucr (a:List TernVia) (k:Int):Lp (Int×Int×List TernVia) (Int×List TernVia):=LpX (Te a k) (Qbq a k)
abbrev Qbf (a:List TernVia) (k:Int) (i:Nat×(Int×Int×List TernVia)):Prop:=LpJ (Te a k) (Qbq a k) i (Qmt a i.1 i.2.1 i.2.2.1 i.2.2.2)
abbrev Uak (a:List TernVia) (k:Int) (i:Nat×(Int×Int×List TernVia)) (m39:Nat) (k400:Int) (i40:Int) (xs:List TernVia):Prop:=LpH (Te a k) (Qbq a k) i m39 (k400,i40,xs) (Qmt a (m39+1) k400 i40 xs)
abbrev Udu (k400:Int) (i40:Int) (xs:List TernVia) (k400_:Int) (i40_:Int) (xs_:List TernVia) (K39:Prop):Prop:=((.int .i64 k400:Value)=.int .i64 k400_)∧((.int .i64 i40:Value)=.int .i64 i40_)∧(Imp (.l 3 Qc xs) (.l 3 Qc xs_))∧K39
theorem un24_0 (a:List TernVia) (k:Int) (i:Nat×(Int×Int×List TernVia)) (h:Qbf a k i):Uak a k i (i.1-1) i.2.1 i.2.2.1 i.2.2.2:=⟨hd1 h.1 h.2.1,hd3 h.2.1,hd2 h.2.1,h.2.2⟩
theorem bk24_0 (a:List TernVia) (k:Int) (i:Nat×(Int×Int×List TernVia)) (m39:Nat) (k400:Int) (i40:Int) (xs:List TernVia) (hl:m39<i.1) (e:runL (Te a k) m39 (k400,i40,xs)=Ucr a k) (h:Qmt a m39 k400 i40 xs):∃ j:Nat×(Int×Int×List TernVia),Udu k400 i40 xs j.2.1 j.2.2.1 j.2.2.2 (Qbf a k j∧j.1<i.1):=⟨(m39,(k400,i40,xs)),rfl,rfl,Imp.refl _,⟨e,h⟩,hl⟩
theorem en24_0 (a:List TernVia) (k:Int) (h:(0:Int)≤0∧a.length=a.length):Udu k 0 a k 0 a (Qbf a k (Qbq a k)):=⟨rfl,rfl,Imp.refl _,rfl,Nat.lt_succ_self _,h⟩
theorem fi24 (a:List TernVia) (k:Int) (r:Int×List TernVia) (hF:r=(F24 a k)):((.int .i64 r.1:Value)=.int .i64 (F24 a k).1)∧(Imp (.l 3 Qc r.2) (.l 3 Qc (F24 a k).2))∧True:=by cases hF; exact ⟨rfl,Imp.refl _,trivial⟩
def S24 (a:List TernVia) (k:Int):Spec:=⟨[.ow (.l 3 Qc a) (some (.l 3 Qc (F24 a k).2)),.r (.c (.v (vI k)))],.v (vI (F24 a k).1),True⟩
abbrev Tr (k400:Int) (xs:List TernVia) (i40:Int):=(⟨k400,(xs.getD i40.toNat default).Len,(xs.getD i40.toNat default).Next⟩:TernVia)
theorem ok24 (a:List TernVia) (k:Int):(S24 a k).ok Tryz.prog 24 :=
 Qi mixed (fn:=Tryz.f24) (ct:=.seqk [(0,0)] .no (.seq (.seqk [(0,0)] .no (.blk (.loop (ι:=Nat×(Int×Int×List TernVia)) (fun i=>(fun (k400:Int) (i40:Int) (xs:List TernVia)=>(⟨[(0,some (.h 0 0)),(1,some (.v (vI k400))),(5,some (.v (vI i40)))],[(0,some (.own 0 (.l 3 Qc xs)))],1⟩:St)) i.2.1 i.2.2.1 i.2.2.2) (Qbf a k) (fun i=>i.1) (Qbq a k) (fun i=>(fun (k400:Int) (i40:Int) (xs:List TernVia)=>(.seq (.seq .no (.cond .no .no)) (.seq (.blk (.seq (.reg [(5,.dat (.l 3 Qc (xs.set (i40).toNat (Tr k400 xs i40))))]) (.seq .no (.seq (.reg [(3,.ix (Qc (Tr k400 xs i40))),(5,.dat (.l 3 Qc (xs.set (i40).toNat (⟨k400,(IntKind.i64.wrap (k400+1)),(xs.getD i40.toNat default).Next⟩:TernVia))))]) (.seq .no (.seq (.reg [(3,.ix (Qc (⟨k400,(IntKind.i64.wrap (k400+1)),(xs.getD i40.toNat default).Next⟩:TernVia))),(5,.dat (.l 3 Qc (xs.set (i40).toNat (⟨k400,(IntKind.i64.wrap (k400+1)),(IntKind.i64.wrap ((IntKind.i64.wrap (k400+1))+1))⟩:TernVia))))]) .no)))))) (.reg [(1,.bnd)])))) i.2.1 i.2.2.1 i.2.2.2)))) (.seq .no .no))) Tryz.func24 (fun (_:True)=>kn a fun _=>kn a fun _=>ai (en24_0 a k (by refine ⟨?_,?_⟩ <;> first | omega | (simp only [lens,ib] at*<;> omega))) (fun (i0:Nat×(Int×Int×List TernVia)) (hi0:Qbf a k i0)=>(fun (m0:Nat) (k400:Int) (i40:Int) (xs:List TernVia) (hh0:Uak a k i0 m0 k400 i40 xs)=>have hI0:=hh0.1; have hl0:=hh0.2.1; have _:=hh0.2.2.1; have _:=hh0.2.2.2; ifd (i40<(xs.length:Int)) (fun h2 _=>ai (by first | omega | (simp only [lens,ib] at*<;> omega):ib i40 xs) (ai (setr 3 Qc xs (i40).toNat (Tr k400 xs i40)) (ai (by first | omega | (simp only [lens,ib] at*<;> omega):0≤i40∧i40<((xs.set (i40).toNat (Tr k400 xs i40)).length:Int)) (ai (Imps.of_eq (congrArg Qc (Zc xs (i40).toNat (Tr k400 xs i40) (by first | omega | (simp only [lens,ib] at*<;> omega):(i40).toNat<xs.length)))) (ai (SetOK.mk2 Qc xs (Tr k400 xs i40) (⟨k400,(IntKind.i64.wrap (k400+1)),(xs.getD i40.toNat default).Next⟩:TernVia) (by first | omega | (simp only [lens,ib] at*<;> omega):(i40).toNat<xs.length) (by exact ai ir (ai ir (ai ir trivial))):SetOK (.l 3 Qc (xs.set (i40).toNat (Tr k400 xs i40))) (i40).toNat (Qc (Tr k400 xs i40)) [.v (vI k400),.v (vI (IntKind.i64.wrap (k400+1))),.v (vI (xs.getD i40.toNat default).Next)] (.l 3 Qc (xs.set (i40).toNat (⟨k400,(IntKind.i64.wrap (k400+1)),(xs.getD i40.toNat default).Next⟩:TernVia)))) (ai (by first | omega | (simp only [lens,ib] at*<;> omega):0≤i40∧i40<((xs.set (i40).toNat (⟨k400,(IntKind.i64.wrap (k400+1)),(xs.getD i40.toNat default).Next⟩:TernVia)).length:Int)) (ai (Imps.of_eq (congrArg Qc (Zc xs (i40).toNat (⟨k400,(IntKind.i64.wrap (k400+1)),(xs.getD i40.toNat default).Next⟩:TernVia) (by first | omega | (simp only [lens,ib] at*<;> omega):(i40).toNat<xs.length)))) (ai (SetOK.mk2 Qc xs (⟨k400,(IntKind.i64.wrap (k400+1)),(xs.getD i40.toNat default).Next⟩:TernVia) (⟨k400,(IntKind.i64.wrap (k400+1)),(IntKind.i64.wrap ((IntKind.i64.wrap (k400+1))+1))⟩:TernVia) (by first | omega | (simp only [lens,ib] at*<;> omega):(i40).toNat<xs.length) (by exact ai ir (ai ir (ai ir trivial))):SetOK (.l 3 Qc (xs.set (i40).toNat (⟨k400,(IntKind.i64.wrap (k400+1)),(xs.getD i40.toNat default).Next⟩:TernVia))) (i40).toNat (Qc (⟨k400,(IntKind.i64.wrap (k400+1)),(xs.getD i40.toNat default).Next⟩:TernVia)) [.v (vI k400),.v (vI (IntKind.i64.wrap (k400+1))),.v (vI (IntKind.i64.wrap ((IntKind.i64.wrap (k400+1))+1)))] (.l 3 Qc (xs.set (i40).toNat (⟨k400,(IntKind.i64.wrap (k400+1)),(IntKind.i64.wrap ((IntKind.i64.wrap (k400+1))+1))⟩:TernVia)))) (ai (iok (i40+1) (by first | omega | (simp only [lens,ib] at*<;> omega))) (bk24_0 a k i0 m0 (IntKind.i64.wrap ((IntKind.i64.wrap ((IntKind.i64.wrap (k400+1))+1))+1)) (i40+1) (xs.set (i40).toNat (⟨k400,(IntKind.i64.wrap (k400+1)),(IntKind.i64.wrap ((IntKind.i64.wrap (k400+1))+1))⟩:TernVia)) hl0 (Qe hI0 (condT h2 rfl)) (by refine ⟨?_,?_,?_⟩ <;> first | omega | (simp only [lens,ib] at*<;> omega)))))))))))) (fun h2 _=>have hD0_3:Ucr a k=Lp.done (k400,i40,xs):=Qj hI0 (condF h2 rfl); fi24 a k (k400,xs) (finD hD0_3 rfl))) (i0.1-1) i0.2.1 i0.2.2.1 i0.2.2.2 (un24_0 a k i0 hi0))) (by kernel_rfl)
def Gh (a:List TernVia) (k:Int):(Int×Int)→Lp (Int×Int) Int:=fun (k400,i40) =>
 bif (decide (i40<(a.length:Int))) then (bif ((a.getD i40.toNat default).Addr != k400) then (.ret (-1)) else (bif ((a.getD i40.toNat default).Len != (IntKind.i64.wrap (k400+1))) then (.ret (-1)) else (bif ((a.getD i40.toNat default).Next != (IntKind.i64.wrap ((IntKind.i64.wrap (k400+1))+1))) then (.ret (-1)) else (.next ((IntKind.i64.wrap ((IntKind.i64.wrap ((IntKind.i64.wrap (k400+1))+1))+1)),(i40+1)))))) else (.done (k400,i40))
def F25 (a:List TernVia) (k:Int):Int :=
 (runL (Gh a k) (((a.length:Int)-0).toNat+1) (k,0)).fin (fun r=>r) (fun (k400,i40)=>k400)
abbrev Qco (a:List TernVia) (k:Int):Nat×(Int×Int):=((((a.length:Int)-0).toNat+1),(k,0))
abbrev Qon (a:List TernVia) (m39:Nat) (k400:Int) (i40:Int):Prop:=Int.toNat ((a.length:Int)-i40)<m39∧(0:Int)≤i40
abbrev Qzi (a:List TernVia) (k:Int):Lp (Int×Int) Int:=LpX (Gh a k) (Qco a k)
abbrev Qcg (a:List TernVia) (k:Int) (i:Nat×(Int×Int)):Prop:=LpJ (Gh a k) (Qco a k) i (Qon a i.1 i.2.1 i.2.2)
abbrev Ubw (a:List TernVia) (k:Int) (i:Nat×(Int×Int)) (m39:Nat) (k400:Int) (i40:Int):Prop:=LpH (Gh a k) (Qco a k) i m39 (k400,i40) (Qon a (m39+1) k400 i40)
abbrev Qym (a:List TernVia) (k400:Int) (i40:Int) (k400_:Int) (i40_:Int) (K39:Prop):Prop:=((.int .i64 k400:Value)=.int .i64 k400_)∧((.int .i64 i40:Value)=.int .i64 i40_)∧(Im (.l 3 Qc a))∧K39
theorem un25_0 (a:List TernVia) (k:Int) (i:Nat×(Int×Int)) (h:Qcg a k i):Ubw a k i (i.1-1) i.2.1 i.2.2:=⟨hd1 h.1 h.2.1,hd3 h.2.1,hd2 h.2.1,h.2.2⟩
theorem bk25_0 (a:List TernVia) (k:Int) (i:Nat×(Int×Int)) (m39:Nat) (k400:Int) (i40:Int) (hl:m39<i.1) (e:runL (Gh a k) m39 (k400,i40)=Qzi a k) (h:Qon a m39 k400 i40):∃ j:Nat×(Int×Int),Qym a k400 i40 j.2.1 j.2.2 (Qcg a k j∧j.1<i.1):=⟨(m39,(k400,i40)),rfl,rfl,Imp.refl _,⟨e,h⟩,hl⟩
theorem en25_0 (a:List TernVia) (k:Int) (h:(0:Int)≤0):Qym a k 0 k 0 (Qcg a k (Qco a k)):=⟨rfl,rfl,Imp.refl _,rfl,Nat.lt_succ_self _,h⟩
def S25 (a:List TernVia) (k:Int):Spec:=⟨[.r (.c (.l 3 Qc a)),.r (.c (.v (vI k)))],.v (vI (F25 a k)),True⟩
theorem ok25 (a:List TernVia) (k:Int):(S25 a k).ok Tryz.prog 25 :=
 Qi mixed (fn:=Tryz.f25) (ct:=.seqk [(0,0)] .no (.seq (.seqk [(0,0)] .no (.blk (.loop (ι:=Nat×(Int×Int)) (fun i=>(fun (k400:Int) (i40:Int)=>(⟨[(0,some (.h 0 0)),(1,some (.v (vI k400))),(5,some (.v (vI i40)))],[(0,some (.shr none (.l 3 Qc a)))],1⟩:St)) i.2.1 i.2.2) (Qcg a k) (fun i=>i.1) (Qco a k) (fun i=>(fun (k400:Int) (i40:Int)=>(.seq (.seq .no (.cond .no .no)) (.seq (.blk (.seq (.seq .no (.cond (.seq .no .no) .no)) (.seq .no (.seq (.seq .no (.cond (.seq .no .no) .no)) (.seq .no (.seq (.seq .no (.cond (.seq .no .no) .no)) .no)))))) (.reg [(1,.bnd)])))) i.2.1 i.2.2)))) (.seq .no .no))) Tryz.func25 (fun (_:True)=>kn a fun _=>kn a fun _=>ai (en25_0 a k (by omega)) (fun (i0:Nat×(Int×Int)) (hi0:Qcg a k i0)=>(fun (m0:Nat) (k400:Int) (i40:Int) (hh0:Ubw a k i0 m0 k400 i40)=>have hI0:=hh0.1; have hl0:=hh0.2.1; have _:=hh0.2.2.1; have _:=hh0.2.2.2; ifd (i40<(a.length:Int)) (fun h2 _=>ai (by omega:ib i40 a) (ifn (a.getD i40.toNat default).Addr k400 (fun h3 _=>fiI (-1) (F25 a k) (finR (Qr hI0 (condT h2 (condT h3 rfl))) rfl)) (fun h3 _=>ai (by omega:ib i40 a) (ifn (a.getD i40.toNat default).Len (IntKind.i64.wrap (k400+1)) (fun h4 _=>fiI (-1) (F25 a k) (finR (Qr hI0 (condT h2 (condF h3 (condT h4 rfl)))) rfl)) (fun h4 _=>ai (by omega:ib i40 a) (ifn (a.getD i40.toNat default).Next (IntKind.i64.wrap ((IntKind.i64.wrap (k400+1))+1)) (fun h5 _=>fiI (-1) (F25 a k) (finR (Qr hI0 (condT h2 (condF h3 (condF h4 (condT h5 rfl))))) rfl)) (fun h5 _=>ai (iok (i40+1) (by omega)) (bk25_0 a k i0 m0 (IntKind.i64.wrap ((IntKind.i64.wrap ((IntKind.i64.wrap (k400+1))+1))+1)) (i40+1) hl0 (Qe hI0 (condT h2 (condF h3 (condF h4 (condF h5 rfl))))) (by refine ⟨?_,?_⟩ <;> omega))))))))) (fun h2 _=>have hD0_6:Qzi a k=Lp.done (k400,i40):=Qj hI0 (condF h2 rfl); fiI k400 (F25 a k) (finD hD0_6 rfl))) (i0.1-1) i0.2.1 i0.2.2 (un25_0 a k i0 hi0))) (by kernel_rfl)
theorem kc7 (a:List ByteArray) (left':Int) {K_:Prop} (p0_:0≤left') (p1_:left'≤1048576) (p2_:∀ k:Nat,(a.getD k default).size≤9223372036854775807) (k_:(0≤left'→left'≤1048576→0≤(F7 a left')→(F7 a left')≤left')→(0≤left'→left'≤1048576→0≤(F7 a left')→a.length≤1000000000)→(0≤left'→left'≤1048576→0≤(F7 a left')→∀ k:Nat,(a.getD k default).size≤1000000000)→K_):(0≤left'∧left'≤1048576∧(∀ k:Nat,(a.getD k default).size≤9223372036854775807))∧(Imp (.l 1 eStr a) (.l 1 eStr a))∧(Imp (.v (vI left')) (.v (vI left')))∧K_:=⟨⟨p0_,p1_,p2_⟩,Imp.refl _,Imp.refl _,k_ (g7_0 a left') (g7_1 a left') (g7_2 a left')⟩
theorem kc9a (a:List ByteArray) {K_:Prop} (p0_:a.length≤1000000000) (p1_:∀ k:Nat,(a.getD k default).size≤1000000000) (k_:K_):(a.length≤1000000000∧(∀ k:Nat,(a.getD k default).size≤1000000000))∧(Imp (.l 1 eStr a) (.l 1 eStr a))∧K_:=⟨⟨p0_,p1_⟩,Imp.refl _,k_⟩
theorem kc21 (lines:List ByteArray) {K_:Prop} (p0_:lines.length≤1048576) (p1_:∀ k:Nat,(lines.getD k default).size≤1048576) (k_:K_):(lines.length≤1048576∧(∀ k:Nat,(lines.getD k default).size≤1048576))∧(Imp (.l 1 eStr lines) (.l 1 eStr lines))∧K_:=⟨⟨p0_,p1_⟩,Imp.refl _,k_⟩
theorem kc22 (lines:List ByteArray) {K_:Prop} (p0_:lines.length≤1048576) (p1_:∀ k:Nat,(lines.getD k default).size≤1048576) (k_:K_):(lines.length≤1048576∧(∀ k:Nat,(lines.getD k default).size≤1048576))∧(Imp (.l 1 eStr lines) (.l 1 eStr lines))∧K_:=⟨⟨p0_,p1_⟩,Imp.refl _,k_⟩
abbrev kh7f (a:List ByteArray) (left':Int):Hint false Tryz.prog:=.call 7 (S7 a left') ((ok7 a left').to false) none
abbrev Qrb (a:List ByteArray):Hint false Tryz.prog:=.call 9 (S9 a a) ((oa9 a).to false) none
abbrev kh21f (lines:List ByteArray):Hint false Tryz.prog:=.call 21 (S21 lines) ((ok21 lines).to false) none
abbrev kh22 (lines:List ByteArray):Hint false Tryz.prog:=.call 22 (S22 lines) (ok22 lines) none
theorem kc23a (a:List TernVia) (b:List TernVia) {K_:Prop} (k_:K_):(True)∧(Imp (.l 3 Qc a) (.l 3 Qc a))∧(Imp (.l 3 Qc b) (.l 3 Qc b))∧K_:=⟨trivial,Imp.refl _,Imp.refl _,k_⟩
abbrev Qox (a:List TernVia) (b:List TernVia):Hint false Tryz.prog:=.call 23 (S23 (decide (a=b)) a b) ((oa23 a b).to false) none
theorem kc12a (a:List ByteArray) (b:List ByteArray) {K_:Prop} (k_:K_):(True)∧(Imp (.l 1 eStr a) (.l 1 eStr a))∧(Imp (.l 1 eStr b) (.l 1 eStr b))∧K_:=⟨trivial,Imp.refl _,Imp.refl _,k_⟩
abbrev kh12af (a:List ByteArray) (b:List ByteArray):Hint false Tryz.prog:=.call 12 (S12 (decide (a=b)) a b) ((oa12 a b).to false) none
theorem kc13 (a:List ByteArray) (k:Int) {K_:Prop} (p0_:0≤k) (p1_:k+(a.length:Int)≤1000000000) (k_:((F13 a k).1=k+(a.length:Int))→((F13 a k).2.length=a.length)→K_):(0≤k∧k+(a.length:Int)≤1000000000)∧(Imp (.l 1 eStr a) (.l 1 eStr a))∧(Imp (.v (vI k)) (.v (vI k)))∧K_:=⟨⟨p0_,p1_⟩,Imp.refl _,Imp.refl _,k_ (Qlw a k) (g13_0 a k)⟩
abbrev kh13f (a:List ByteArray) (k:Int):Hint false Tryz.prog:=.call 13 (S13 a k) ((ok13 a k).to false) none
theorem kg23a {K_:Prop} (c_ b_:Bool) (a:List TernVia) (b:List TernVia) (k_:K_):(c_=b_→True)∧(c_=b_→Imp (.l 3 Qc a) (.l 3 Qc a))∧(c_=b_→Imp (.l 3 Qc b) (.l 3 Qc b))∧K_:=⟨fun _=>trivial,fun _=>Imp.refl _,fun _=>Imp.refl _,k_⟩
theorem kc24 (a:List TernVia) (k:Int) {K_:Prop} (k_:K_):(True)∧(Imp (.l 3 Qc a) (.l 3 Qc a))∧(Imp (.v (vI k)) (.v (vI k)))∧K_:=⟨trivial,Imp.refl _,Imp.refl _,k_⟩
abbrev kh24f (a:List TernVia) (k:Int):Hint false Tryz.prog:=.call 24 (S24 a k) ((ok24 a k).to false) none
theorem kc25 (a:List TernVia) (k:Int) {K_:Prop} (k_:K_):(True)∧(Imp (.l 3 Qc a) (.l 3 Qc a))∧(Imp (.v (vI k)) (.v (vI k)))∧K_:=⟨trivial,Imp.refl _,Imp.refl _,k_⟩
abbrev kh25f (a:List TernVia) (k:Int):Hint false Tryz.prog:=.call 25 (S25 a k) ((ok25 a k).to false) none
def F5 (aLines:List ByteArray):Bool :=
 bif (decide ((F7 aLines 1048576)<0)) then true else (bif (!(decide ((F22 aLines)=(F21 aLines)))) then false else (bif (!(decide (aLines=aLines))) then false else (bif (bif decide ((F13 aLines 1).1<0) then true else (!(decide ((F22 aLines)=(F21 aLines))))) then false else (bif (decide ((F25 (F24 (F22 aLines) 1).2 1)<0)) then false else (bif ((F25 (F24 (F22 aLines) 1).2 1) != (F24 (F22 aLines) 1).1) then false else (bif (!(decide ((F22 aLines)=(F21 aLines)))) then false else (bif (decide ((F25 (F24 (F22 aLines) 1).2 1)<0)) then false else (bif ((F25 (F24 (F22 aLines) 1).2 1) != (F24 (F22 aLines) 1).1) then false else true))))))))
def S5 (aLines:List ByteArray):Spec:=⟨[.r (.c (.l 1 eStr aLines))],.v (.bool (F5 aLines)),(∀ k:Nat,(aLines.getD k default).size≤9223372036854775807)⟩
theorem ok5 (aLines:List ByteArray):(S5 aLines).ok Tryz.prog 5 false :=
 Qi mixed (fn:=Tryz.f5) (ct:=.seqk [(0,0)] .no (.seq .no (.seq (.reg [(2,kh7f aLines 1048576)]) (.seq (.seq .no (.cond (.seq .no .no) .no)) (.seq (.reg [(1,Qrb aLines),(2,kh21f aLines)]) (.seq (.reg [(1,Qrb aLines)]) (.seq (.reg [(1,kh22 aLines)]) (.seq (.seq (.reg [(2,Qox (F22 aLines) (F21 aLines))]) (.cond (.seq .no .no) .no)) (.seq (.seq (.reg [(2,Qrb aLines),(3,kh12af aLines aLines)]) (.cond (.seq .no .no) .no)) (.seq .no (.seq (.reg [(2,kh13f aLines 1)]) (.seq (.seq (.reg [(5,Qox (F22 aLines) (F21 aLines))]) (.cond (.seq .no .no) .no)) (.seq .no (.seq (.reg [(2,kh24f (F22 aLines) 1)]) (.seq .no (.seq (.reg [(2,kh25f (F24 (F22 aLines) 1).2 1)]) (.seq (.seq .no (.cond (.seq .no .no) .no)) (.seq (.seq .no (.cond (.seq .no .no) .no)) (.seq (.reg [(1,Qrb aLines),(2,kh22 aLines)]) (.seq (.seq (.reg [(2,Qox (F22 aLines) (F21 aLines))]) (.cond (.seq .no .no) .no)) (.seq .no (.seq (.reg [(2,kh25f (F24 (F22 aLines) 1).2 1)]) (.seq (.seq .no (.cond (.seq .no .no) .no)) (.seq (.seq .no (.cond (.seq .no .no) .no)) (.seq .no .no))))))))))))))))))))))))) Tryz.func5 (fun (hpre0:∀ k:Nat,(aLines.getD k default).size≤9223372036854775807)=>kn aLines fun _=>kc7 aLines 1048576 (by omega) (by omega) (by first | assumption | exact hpre0 _ | exact fun k _=>hpre0 k | (intros; exact trivial) | (intros; exact Nat.zero_le _)) (fun gv1 gv2 gv3=>ifd ((F7 aLines 1048576)<0) (fun h4 _=>fiB true (F5 aLines) (condT h4 rfl)) (fun h4 _=>kc9a aLines (by omega) (by first | assumption | exact hpre0 _ | exact fun k _=>hpre0 k | exact gv3 (by omega) (by omega) (by omega) | (intros; exact trivial) | (intros; exact Nat.zero_le _)) (kc21 aLines (by first | omega | exact Bc aLines (l:=1048576) (by omega) (by omega) | exact Gn aLines (l:=1048576) (by omega) (by omega)) (by first | omega | exact Bc aLines (l:=1048576) (by omega) (by omega) | exact Gn aLines (l:=1048576) (by omega) (by omega)) (kc9a aLines (by omega) (by first | assumption | exact hpre0 _ | exact fun k _=>hpre0 k | exact gv3 (by omega) (by omega) (by omega) | (intros; exact trivial) | (intros; exact Nat.zero_le _)) (kc22 aLines (by first | omega | exact Bc aLines (l:=1048576) (by omega) (by omega) | exact Gn aLines (l:=1048576) (by omega) (by omega)) (by first | omega | exact Bc aLines (l:=1048576) (by omega) (by omega) | exact Gn aLines (l:=1048576) (by omega) (by omega)) (kc23a (F22 aLines) (F21 aLines) (ifb (!(decide ((F22 aLines)=(F21 aLines)))) (fun h5=>have _:=of_decide_eq_false (We h5); fiB false (F5 aLines) (condF h4 (condT h5 rfl))) (fun h5=>have _:=of_decide_eq_true (Uu h5); kc9a aLines (by omega) (by first | assumption | exact hpre0 _ | exact fun k _=>hpre0 k | exact gv3 (by omega) (by omega) (by omega) | (intros; exact trivial) | (intros; exact Nat.zero_le _)) (kc12a aLines aLines (ifb (!(decide (aLines=aLines))) (fun h6=>have _:=of_decide_eq_false (We h6); fiB false (F5 aLines) (condF h4 (condF h5 (condT h6 rfl)))) (fun h6=>have _:=of_decide_eq_true (Uu h6); kc13 aLines 1 (by first | omega | (have ha:=Bc aLines (l:=1048576) (by omega) (by omega); omega)) (by first | omega | (have ha:=Bc aLines (l:=1048576) (by omega) (by omega); omega)) (fun gv7 gv8=>kg23a (decide ((F13 aLines 1).1<0)) false (F22 aLines) (F21 aLines) (ifb (bif decide ((F13 aLines 1).1<0) then true else (!(decide ((F22 aLines)=(F21 aLines))))) (fun h10=>fiB false (F5 aLines) (condF h4 (condF h5 (condF h6 (condT h10 rfl))))) (fun h10=>have _:=of_decide_eq_false (orF1 h10); have _:=of_decide_eq_true (Uu (orF2 h10)); kc24 (F22 aLines) 1 (kc25 (F24 (F22 aLines) 1).2 1 (ifd ((F25 (F24 (F22 aLines) 1).2 1)<0) (fun h11 _=>fiB false (F5 aLines) (condF h4 (condF h5 (condF h6 (condF h10 (condT h11 rfl)))))) (fun h11 _=>ifn (F25 (F24 (F22 aLines) 1).2 1) (F24 (F22 aLines) 1).1 (fun h12 _=>fiB false (F5 aLines) (condF h4 (condF h5 (condF h6 (condF h10 (condF h11 (condT h12 rfl))))))) (fun h12 _=>kc9a aLines (by omega) (by first | assumption | exact hpre0 _ | exact fun k _=>hpre0 k | exact gv3 (by omega) (by omega) (by omega) | (intros; exact trivial) | (intros; exact Nat.zero_le _)) (kc22 aLines (by first | omega | exact Bc aLines (l:=1048576) (by omega) (by omega) | exact Gn aLines (l:=1048576) (by omega) (by omega)) (by first | omega | exact Bc aLines (l:=1048576) (by omega) (by omega) | exact Gn aLines (l:=1048576) (by omega) (by omega)) (kc23a (F22 aLines) (F21 aLines) (ifb (!(decide ((F22 aLines)=(F21 aLines)))) (fun h13=>have _:=of_decide_eq_false (We h13); fiB false (F5 aLines) (condF h4 (condF h5 (condF h6 (condF h10 (condF h11 (condF h12 (condT h13 rfl)))))))) (fun h13=>have _:=of_decide_eq_true (Uu h13); kc25 (F24 (F22 aLines) 1).2 1 (ifd ((F25 (F24 (F22 aLines) 1).2 1)<0) (fun h14 _=>fiB false (F5 aLines) (condF h4 (condF h5 (condF h6 (condF h10 (condF h11 (condF h12 (condF h13 (condT h14 rfl))))))))) (fun h14 _=>ifn (F25 (F24 (F22 aLines) 1).2 1) (F24 (F22 aLines) 1).1 (fun h15 _=>fiB false (F5 aLines) (condF h4 (condF h5 (condF h6 (condF h10 (condF h11 (condF h12 (condF h13 (condF h14 (condT h15 rfl)))))))))) (fun h15 _=>fiB true (F5 aLines) (condF h4 (condF h5 (condF h6 (condF h10 (condF h11 (condF h12 (condF h13 (condF h14 (condF h15 rfl))))))))))))))))))))))))))))))))))) (by kernel_rfl)
def Zr (x:TernVia):Nat:=3
theorem mk24:Mk F24 F25 (sumL Zr) :=
 Qwe (fun (x:TernVia) (k:Int)=>((IntKind.i64.wrap ((IntKind.i64.wrap ((IntKind.i64.wrap (k+1))+1))+1)),(⟨k,(IntKind.i64.wrap (k+1)),(IntKind.i64.wrap ((IntKind.i64.wrap (k+1))+1))⟩:TernVia))) (fun (x:TernVia) (k:Int)=>(bif (x.Addr != k) then (-1) else (bif (x.Len != (IntKind.i64.wrap (k+1))) then (-1) else (bif (x.Next != (IntKind.i64.wrap ((IntKind.i64.wrap (k+1))+1))) then (-1) else (IntKind.i64.wrap ((IntKind.i64.wrap ((IntKind.i64.wrap (k+1))+1))+1)))))) Zr
  (fun x k h0 h1=>by
   simp only [Zr] at h1 ⊢
   simp (discharger:=omega) only [Yl,bne_self_eq_false,beq_self_eq_true,cond_false,cond_true,Bool.not_true,Bool.not_false,neg_lt,and_self] <;> omega)
  F24 F25 Te Gh (fun a k=>rfl) (fun a k0 k i xs=>rfl) (fun a k=>rfl)
  (fun a k0 k i hi h0 hh=>by
   obtain ⟨c0,hh⟩:=Qhb hh
   obtain ⟨c1,hh⟩:=Qhb hh
   obtain ⟨c2,hh⟩:=Qhb hh
   simp only [Gh,decide_eq_true hi,cond_true,c0,cond_false,c1,cond_false,c2,cond_false])
  (fun a k0 k=>by simp only [Gh,geD,cond_false])
theorem mk24a (x:List TernVia) (k:Int) (h0:0≤k) (h1:k+((sumL Zr) x:Int)<9223372036854775807):(F24 x k).1=k+(sumL Zr) x:=(mk24 x k h0 h1).1
theorem mk24b (x:List TernVia) (k:Int) (h0:0≤k) (h1:k+((sumL Zr) x:Int)<9223372036854775807):F25 (F24 x k).2 k=k+(sumL Zr) x:=(mk24 x k h0 h1).2
theorem Ufs (lines:List ByteArray):F5 lines=true:=by
 unfold F5
 cases h1:decide (F7 lines 1048576<0) with
 | true=>rfl
 | false =>
 have hl:=Ubo lines
 rw [Qfx] at hl
 rw [cond_false,Qfx]
 generalize F21 lines=w at hl
 have hs:=Qkd (fun x:TernVia=>Zr x) 3 (fun _=>rfl) w
 have m1:=mk24a w 1 (by omega) (by rw [hs]; omega)
 have m2:=mk24b w 1 (by omega) (by rw [hs]; omega)
 rw [hs] at m1 m2
 rw [m1,m2,Qlw,decide_eq_false (show ¬ 1+(lines.length:Int)<0 by omega),decide_eq_false (show ¬ 1+((w.length*3:Nat):Int)<0 by omega)]
 simp
end Go.Proofs.YtcgfkhokhiggkaaGreatDoor
namespace Go.Proofs.YtcgfkhokhiggkaaGreatDoor
open Go Go.RowKit Go.ChangeShapes Go.WideShapes Go.ChangeAt
set_option maxRecDepth 100000
set_option linter.unusedVariables false
theorem op_9:OpD Tryz.prog 9 eStr:=OpD.str Tryz.underlying9
theorem op_22:OpD Tryz.prog 22 (fun xs:List ByteArray=>[.l 1 eStr xs]):=OpD.slice 1 Tryz.underlying22 op_9 (fun _=>rfl) (by kernel_rfl) (by decide)
def Ubt (s:ByteArray):List Dat:=[.x (BX s 9223372036854775807)]
theorem Uhg:OpD Tryz.prog 9 Ubt:=fun H e W f cs y h=>by
 obtain ⟨s,rfl,_,hs⟩:=DataW.trod_string Tryz.underlying9 h
 exact ⟨s,_,_,rfl,⟨rfl,hs⟩,rfl⟩
theorem Uju {S:Nat→Prop} {W:World} {xs:List ByteArray} {v:Value} (h:RdV S W (.l 1 Ubt xs) v):RdV S W (.l 1 eStr xs) v∧∀ k:Nat,(xs.getD k default).size≤9223372036854775807:=by
 obtain ⟨a,c,e,h1,h2,h3⟩:=h
 refine ⟨⟨a,c,e,h1,h2,fun i x hx=>?_⟩,fun k=>?_⟩
 ·obtain ⟨k1,k2,cs,k3,k4,k5⟩:=h3 i x hx
  obtain ⟨u,us,rfl,⟨k6,k7⟩,k8⟩:=k5
  exact ⟨k1,k2,_,k3,k4,u,us,rfl,⟨k6,rfl⟩,k8⟩
 ·rw [List.getD_eq_getElem?_getD]
  cases hx:xs[k]? with
  | none=>exact Nat.zero_le _
  | some x =>
   obtain ⟨k1,k2,cs,k3,k4,k5⟩:=h3 k x hx
   obtain ⟨u,us,rfl,⟨k6,k7⟩,k8⟩:=k5
   exact k7
theorem op_M22:OpD Tryz.prog 22 (fun xs:List ByteArray=>[.l 1 Ubt xs]):=OpD.slice 1 Tryz.underlying22 Uhg (fun _=>rfl) (by kernel_rfl) (by decide)
theorem own:ownKnob Tryz.prog.godebug=none:=by kernel_rfl
theorem cfA:Tryz.prog.inPlace 5=Rows.fnExactTernViasRow.inPlace:=by kernel_rfl
theorem cfB:Tryz.prog.unfollowed 5=Rows.fnExactTernViasRow.unfollowed:=by kernel_rfl
theorem cfC:Tryz.prog.recurses 5=Rows.fnExactTernViasRow.recurses:=by kernel_rfl
theorem cfD:Tryz.prog.varsNamed 5=Rows.fnExactTernViasRow.named:=by kernel_rfl
set_option maxRecDepth 100000 in
def putC (cs:Array Value):Obj→Obj
 | .cells _ t fz=>.cells cs t fz
 | o=>o
noncomputable def Rn (os:Os):World :=
 let w:=World.holding Tryz.prog os ⟨#[.cells #[.string ⟨#[118,97,108,117,101,32,111,117,116,32,111,102,32,114,97,110,103,101]⟩] 234,.cells #[.string ⟨#[105,110,118,97,108,105,100,32,115,121,110,116,97,120]⟩] 234],#[],[]⟩
 { w with heap:=(((((((w.heap.modify ((Tryz.prog.globalNamed "math/bits.deBruijn32tab").getD 0) (putC #[(.int .u8 0),(.int .u8 1),(.int .u8 28),(.int .u8 2),(.int .u8 29),(.int .u8 14),(.int .u8 24),(.int .u8 3),(.int .u8 30),(.int .u8 22),(.int .u8 20),(.int .u8 15),(.int .u8 25),(.int .u8 17),(.int .u8 4),(.int .u8 8),(.int .u8 31),(.int .u8 27),(.int .u8 13),(.int .u8 23),(.int .u8 21),(.int .u8 19),(.int .u8 16),(.int .u8 7),(.int .u8 26),(.int .u8 12),(.int .u8 18),(.int .u8 6),(.int .u8 11),(.int .u8 5),(.int .u8 10),(.int .u8 9)])).modify ((Tryz.prog.globalNamed "math/bits.deBruijn64tab").getD 0) (putC #[(.int .u8 0),(.int .u8 1),(.int .u8 56),(.int .u8 2),(.int .u8 57),(.int .u8 49),(.int .u8 28),(.int .u8 3),(.int .u8 61),(.int .u8 58),(.int .u8 42),(.int .u8 50),(.int .u8 38),(.int .u8 29),(.int .u8 17),(.int .u8 4),(.int .u8 62),(.int .u8 47),(.int .u8 59),(.int .u8 36),(.int .u8 45),(.int .u8 43),(.int .u8 51),(.int .u8 22),(.int .u8 53),(.int .u8 39),(.int .u8 33),(.int .u8 30),(.int .u8 24),(.int .u8 18),(.int .u8 12),(.int .u8 5),(.int .u8 63),(.int .u8 55),(.int .u8 48),(.int .u8 27),(.int .u8 60),(.int .u8 41),(.int .u8 37),(.int .u8 16),(.int .u8 46),(.int .u8 35),(.int .u8 44),(.int .u8 21),(.int .u8 52),(.int .u8 32),(.int .u8 23),(.int .u8 11),(.int .u8 54),(.int .u8 26),(.int .u8 40),(.int .u8 15),(.int .u8 34),(.int .u8 20),(.int .u8 31),(.int .u8 10),(.int .u8 25),(.int .u8 14),(.int .u8 19),(.int .u8 9),(.int .u8 13),(.int .u8 8),(.int .u8 7),(.int .u8 6)])).modify ((Tryz.prog.globalNamed "internal/strconv.uint64pow10").getD 0) (putC #[(.int .u64 1),(.int .u64 10),(.int .u64 100),(.int .u64 1000),(.int .u64 10000),(.int .u64 100000),(.int .u64 1000000),(.int .u64 10000000),(.int .u64 100000000),(.int .u64 1000000000),(.int .u64 10000000000),(.int .u64 100000000000),(.int .u64 1000000000000),(.int .u64 10000000000000),(.int .u64 100000000000000),(.int .u64 1000000000000000),(.int .u64 10000000000000000),(.int .u64 100000000000000000),(.int .u64 1000000000000000000),(.int .u64 10000000000000000000)])).modify ((Tryz.prog.globalNamed "unicode/utf8.acceptRanges").getD 0) (putC #[(.int .u8 128),(.int .u8 191),(.int .u8 160),(.int .u8 191),(.int .u8 128),(.int .u8 159),(.int .u8 144),(.int .u8 191),(.int .u8 128),(.int .u8 143),(.int .u8 0),(.int .u8 0),(.int .u8 0),(.int .u8 0),(.int .u8 0),(.int .u8 0),(.int .u8 0),(.int .u8 0),(.int .u8 0),(.int .u8 0),(.int .u8 0),(.int .u8 0),(.int .u8 0),(.int .u8 0),(.int .u8 0),(.int .u8 0),(.int .u8 0),(.int .u8 0),(.int .u8 0),(.int .u8 0),(.int .u8 0),(.int .u8 0)])).modify ((Tryz.prog.globalNamed "strconv.ErrRange").getD 0) (putC #[.iface 232 (.pointer (some ⟨Tryz.prog.low+0,0,none⟩))])).modify ((Tryz.prog.globalNamed "strconv.ErrSyntax").getD 0) (putC #[.iface 232 (.pointer (some ⟨Tryz.prog.low+1,0,none⟩))])).modify ((Tryz.prog.globalNamed "unicode/utf8.first").getD 0) (putC ((Go.Pinned.utf8FirstZ.map fun n=>Value.int .u8 (n:Nat)).toArray))) }
theorem Ubd (os:Os):laidMet Tryz.prog Rows.fnExactTernViasRow.laid ((Rn os).forCall (fun _ _=>0) ⟨#[],#[.slice none 0 0],[]⟩).memory :=
 laidMet_of_run3 8 (by kernel_rfl) (by kernel_rfl) (by kernel_rfl)
theorem reads (os:Os) {H:Type} (enc:TypeId×Value→H):∃ Be,DataW.whole enc Tryz.prog ((Rn os).forCall (fun _ _=>0) ⟨#[],#[.slice none 0 0],[]⟩).memory Tryz.f5.params.toList Rows.fnExactTernViasSpec.vars false #[.slice none 0 0].toList 8=some ([.nil],[],Be) :=
 ⟨[],by kernel_rfl⟩
theorem Qlq {W:World} {l:List (String×DataW Unit)} (h:laidMet Tryz.prog l W) {n tn:String} {d:DataW Unit} (hm:(n,.iface tn d)∈l) {g:Nat} (hg:Tryz.prog.globalNamed n=some g) (ht:(Tryz.prog.globals[g]?).map (·.type)=some 140) :
  ∃ e,W.cell? ⟨g,0,none⟩=some e∧(e=.nilIface∨∃ te pe,e=.iface te pe):=by
 obtain ⟨g',t',cs,fuel,p,h1,h2,h3,h4⟩:=Lib.laidMet.reads h hm
 obtain rfl:=Option.some.inj (hg.symm.trans h1)
 obtain rfl:=Option.some.inj (ht.symm.trans h2)
 have hc:∀ i,W.cell? ⟨g,i,none⟩=cs[i]?:=fun i=>by
  unfold World.var? at h3
  rw [hg] at h3
  simp only [Option.bind_some] at h3
  split at h3
  ·rename_i c _ _ hh
   simp only [Option.some.injEq] at h3
   subst h3
   simp [World.cell?,hh]
  ·cases h3
 cases fuel with
 | zero=>simp [DataW.trod] at h4
 | succ fuel =>
  simp only [DataW.trod,Tryz.underlying140] at h4
  split at h4 <;> first
   | (cases h4; done)
   | (rename_i hcs; refine ⟨_,(hc 0).trans (by rw [← Array.getElem?_toList,hcs]; rfl),?_⟩; first | exact .inl rfl | exact .inr ⟨_,_,rfl⟩)
   | (simp at h4; done)
   | (exfalso; simp_all; done)
theorem lifted (os:Os) (started:os.Started) (H:Type) (enc:TypeId×Value→H) (F:Stop.Interp) :
  ReturnsInHanded {} Tryz.checked os 5 .any ((OpenSpec.ofChange Rows.fnExactTernViasSpec).preRow enc Tryz.prog Tryz.f5 Rows.fnExactTernViasRow.domain false Rows.fnExactTernViasRow.laid) (((OpenSpec.ofChange Rows.fnExactTernViasSpec).at F).post enc Tryz.prog Tryz.f5 false true false false):=by
 obtain ⟨Be,hx⟩:=reads os enc
 refine returnsInHanded_of_row (C:=Tryz.checked) (s:=OpenSpec.ofChange Rows.fnExactTernViasSpec) own started (by kernel_rfl) Tryz.func5
  (witness_row_at (enc:=enc) (C:=Tryz.checked) false (Rn os) #[.slice none 0 0] rfl (by kernel_rfl) (by kernel_rfl) (by kernel_rfl)
   (OpenSpec.preRow_of_cond 8 hx (by kernel_rfl) (fun k hk=>by cases hk) (by kernel_rfl) (Ubd os))) ?_
 intro W base args ds gs before hval0 hW hcnd _ _ hL hsh _
 have hL':laidMet Tryz.prog Rows.fnExactTernViasRow.laid W:=by
  have h0:=hL
  unfold laidMetH at h0
  rw [show (Rows.fnExactTernViasRow.laid.filter fun x=>x.2.handleName?.isSome)=[] from by kernel_rfl] at h0
  exact h0
 have hval:∀ (j:Nat) t v,Tryz.f5.params[j]?=some t→args[j]?=some v→Value.okWide Tryz.prog W .any base t v:=hval0
 have hW':=hW
 obtain ⟨p,q,hA0,hV,rfl,hfz,hnd⟩:=hW
 have hA:DataW.TrodAll enc Tryz.prog W 0 (fun _=>true) true Tryz.f5.params.toList args.toList ds p:=hA0
 rw [Tryz.params5] at hA hval
 obtain ⟨v0,vs0,d0,ds0,p0,q0,hargs,rfl,rfl,h0,r0⟩:=trodAll_cons hA
 obtain ⟨rfl,rfl,rfl⟩:=trodAll_nil r0
 obtain rfl:args=#[v0]:=by cases args; simp_all
 obtain ⟨rfl,rfl⟩:=trodVars_none hV
 obtain ⟨fu0,t0⟩:=h0
 obtain ⟨a0,n0,c0,rfl⟩:=okWide_slice Tryz.underlying22 (hval 0 22 v0 rfl rfl)
 obtain ⟨x0,u0,us0,e0,o0,-⟩:=op_M22 H enc W fu0 _ _ t0
 obtain ⟨o0,b0⟩:=Uju o0
 obtain rfl:u0=_:=(List.cons.inj e0).1.symm
 have hG:GP W:=⟨fun b hb=>by
  simp only [GBe,List.nil_append,List.cons_append,List.mem_cons,List.not_mem_nil,or_false] at hb
  rcases hb with rfl | rfl
  ·exact Qlq hL' (n:= "strconv.ErrSyntax") (by unfold Rows.fnExactTernViasRow; exact List.mem_cons_of_mem _ (List.mem_cons_of_mem _ (List.mem_cons_of_mem _ (List.mem_cons_of_mem _ (List.mem_cons_of_mem _ (List.mem_cons_self)))))) (show Tryz.prog.globalNamed "strconv.ErrSyntax"=some ((Tryz.prog.globalNamed "strconv.ErrSyntax").getD 0) from by kernel_rfl) (by kernel_rfl)
  ·exact Qlq hL' (n:= "strconv.ErrRange") (by unfold Rows.fnExactTernViasRow; exact List.mem_cons_of_mem _ (List.mem_cons_of_mem _ (List.mem_cons_of_mem _ (List.mem_cons_of_mem _ (List.mem_cons_self))))) (show Tryz.prog.globalNamed "strconv.ErrRange"=some ((Tryz.prog.globalNamed "strconv.ErrRange").getD 0) from by kernel_rfl) (by kernel_rfl),fun b hb=>by simp only [GBi,List.nil_append,List.mem_cons,List.not_mem_nil,or_false] at hb; subst hb; exact layCutM.s1_3 W hsh,fun q hq=>by
  simp only [GBt,List.nil_append,List.mem_cons,List.not_mem_nil,or_false] at hq
  subst hq
  obtain ⟨g',t',cs,fuel,p,h1,h2,h3,h4⟩:=Lib.laidMet.reads hL' (n:= "internal/strconv.uint64pow10") (by unfold Rows.fnExactTernViasRow; exact List.mem_cons_of_mem _ (List.mem_cons_of_mem _ (List.mem_cons_self)))
  obtain rfl:=Option.some.inj ((show Tryz.prog.globalNamed "internal/strconv.uint64pow10"=some ((Tryz.prog.globalNamed "internal/strconv.uint64pow10").getD 0) from by kernel_rfl).symm.trans h1)
  obtain rfl:=Option.some.inj ((show (Tryz.prog.globals[(Tryz.prog.globalNamed "internal/strconv.uint64pow10").getD 0]?).map (·.type)=some 236 from by kernel_rfl).symm.trans h2)
  have hc:=Lib.cells_of_tab (k:=.u64) (zs:=Lib.pow10Tab) Tryz.underlying236 Tryz.underlying134 (by kernel_rfl) (by kernel_rfl) h4
  unfold World.var? at h3
  rw [(show Tryz.prog.globalNamed "internal/strconv.uint64pow10"=some ((Tryz.prog.globalNamed "internal/strconv.uint64pow10").getD 0) from by kernel_rfl)] at h3
  simp only [Option.bind_some] at h3
  split at h3
  ·rename_i c T fz hh
   simp only [Option.some.injEq] at h3
   subst h3
   exact ⟨T,fz,hh.trans (by congr 1; congr 1; exact Array.ext' (by simpa using hc))⟩
  ·cases h3⟩
 have hc:=Qyy (W:=W) (vs:=[.slice a0 n0 c0]) (ok5 x0) (b0) (x:=.bool (F5 x0)) hG ⟨_,_,[],[],rfl,⟨o0,rfl⟩,⟨rfl,rfl⟩,rfl,List.nodup_nil⟩ rfl rfl
 rw [Ufs x0] at hc
 refine hc.mono fun e W' ⟨he,hb⟩=>?_
 subst he
 exact ⟨_,rfl,Qxp rfl hW' hb rfl Tryz.underlying4 rfl rfl rfl laid (by decide +kernel)⟩
theorem said_FnExactTernVias:Rows.FnExactTernViasSaid :=
 OpenClaim.holds_of_cond 5 Tryz.f5 rfl rfl rfl rfl rfl rfl rfl ⟨rfl,rfl,rfl,rfl,rfl⟩ rfl rfl rfl rfl rfl (by kernel_rfl) Tryz.func5 (by
   show joinedFacts Tryz.prog 5 Tryz.f5 (OpenSpec.ofChange Rows.fnExactTernViasSpec).bare Rows.fnExactTernViasRow=true
   simp only [joinedFacts,laid,cfMaps,cfKeys,Ufk,Ufv,Ujl,cfMake,cfA,cfB,cfC,cfD,Bool.and_true]
   kernel_rfl)
  (of_decide_eq_true (by kernel_rfl)) (by unfold Func.isWrapper; first | (rw [if_pos (by decide +kernel)]; kernel_rfl) | (rw [if_neg (by decide +kernel)]; exact ⟨rfl,rfl⟩))
  (fun os started H enc _ F=>by rw [OpenClaim.pre_eq_preRow]; exact lifted os started H enc F)
theorem Qvy (f:FuncId) (fn:Func) (hf:Tryz.pinned.checked.prog.funcNamed "loop.example/tern/laws.FnExactTernVias"=some f) (hfn:Tryz.pinned.checked.prog.funcs[f]?=some fn) :
  true=Tryz.pinned.checked.prog.looks []∧∀ (j:Nat) t,fn.params[j]?=some t→Tryz.pinned.checked.prog.wantsStandIn t=false:=by
 obtain rfl:f=5:=Option.some.inj ((show Tryz.prog.funcNamed "loop.example/tern/laws.FnExactTernVias"=some 5 by kernel_rfl).symm.trans hf) |>.symm
 obtain rfl:fn=Tryz.f5:=(Option.some.inj (Tryz.func5.symm.trans hfn)).symm
 refine ⟨by kernel_rfl,fun j t ht=>?_⟩
 rw [Tryz.params5] at ht
 have hm:=Array.mem_of_getElem? ht
 simp only [List.mem_toArray,List.mem_cons,List.not_mem_nil,or_false] at hm
 first | (obtain rfl:=hm; exact (show Tryz.prog.wantsStandIn 22=false by kernel_rfl))
theorem card_wf:Rows.fnExactTernViasRow.wfByText (OpenSpec.ofChange Rows.fnExactTernViasSpec)=true:=by kernel_rfl
theorem card_main:Tryz.prog.mainIs=some (Rows.fnExactTernViasCard.stood.harness.1,Rows.fnExactTernViasCard.stood.harness.2.toList):=by kernel_rfl
theorem card_goes:false=Rows.fnExactTernViasRow.goesBy Tryz.prog:=by kernel_rfl
theorem proved_FnExactTernVias:Rows.FnExactTernViasCardSaid :=
 Claim7.holds_tied_plain_at .later [] _ _ _ _ said_FnExactTernVias (fun _ h=>by cases h) card_wf (fun _ h=>by cases h) fnExactTernVias_row_tie rfl ⟨rfl,rfl⟩ card_main rfl Qvy card_goes
#print axioms proved_FnExactTernVias
end Go.Proofs.YtcgfkhokhiggkaaGreatDoor
