/- The card's statement of FnExactTernTells: for all arguments the law returns true, without further conditions. Texts put together: VTT0, PTT0, VTT, PTT, VMKQ, PMKQ, VTTL, PTTL, C07. -/
import Derived.Test.YtcgfkhokhiggkaaGreatDoorRows
import Derived.Test.YtcgfkhokhiggkaaGreatDoorCards
import Derived.Test.YtcgfkhokhiggkaaGreatDoorTie
import Derived.Deep.DeepHandedRow
import Derived.Deep.DeepLaidRun
import Derived.JoinedCond
import Derived.Lib.LaidU8
import Derived.Test.YtcgfkhokhiggkaaGreatDoorZC07E
namespace Go.Proofs.YtcgfkhokhiggkaaGreatDoor
open Go.RowKit
set_option maxRecDepth 100000
set_option linter.unusedVariables false
set_option linter.unusedSimpArgs false
structure Qa where
 Addr:Int
 Len:Int
 Cost:Int
 Label:Int
 deriving DecidableEq,Inhabited
def eHelloEntry (x:Qa):List Dat:=[.v (vI x.Addr),.v (vI x.Len),.v (vI x.Cost),.v (vI x.Label)]
def F103 (a:Qa) (b:Qa):Bool :=
 (bif decide (a.Addr<b.Addr) then true else (bif (a.Addr==b.Addr) then decide (a.Len<b.Len) else false))
def S103 (a:Qa) (b:Qa):Spec:=⟨[.r (.g (eHelloEntry a)),.r (.g (eHelloEntry b))],.v (.bool (F103 a b)),True⟩
theorem ok103 (a:Qa) (b:Qa):(S103 a b).ok Tryz.prog 103 :=
 fnG_ok mixed (fn:=Tryz.f103) (ct:=.seq .no (.seq .no .no)) Tryz.func103 (fun (_:True)=>fiB (bif decide (a.Addr<b.Addr) then true else (bif (a.Addr==b.Addr) then decide (a.Len<b.Len) else false)) (F103 a b) rfl) (by kernel_rfl)
def F104 (list:List Qa):List Qa :=
 (([]:List Qa)++list)
theorem fi104 (list:List Qa) (r:List Qa) (hF:r=(F104 list)):(Imp (.l 4 eHelloEntry r) (.l 4 eHelloEntry (F104 list)))∧True:=by cases hF; exact ⟨Imp.refl _,trivial⟩
def S104 (R:List Qa) (list:List Qa):Spec:=⟨[.r (.c (.l 4 eHelloEntry list))],.ow (.l 4 eHelloEntry R),list.length≤1000000000⟩
theorem ok104 (list:List Qa):(S104 (F104 list) list).ok Tryz.prog 104 :=
 fnG_ok mixed (fn:=Tryz.f104) (ct:=.seqk [(0,0)] .no (.seq (.reg [(0,.dat (.l 4 eHelloEntry ([]:List Qa))),(2,.dat (.l 4 eHelloEntry (([]:List Qa)++list)))]) .no)) Tryz.func104 (fun (hpre0:list.length≤1000000000)=>kn list fun _=>ai (bokr 4 eHelloEntry ([]:List Qa) fun _=>rfl) (ai (AppL.mk eHelloEntry ([]:List Qa) list (Imp.refl (.l 4 eHelloEntry ([]:List Qa))) ir (fun y=>⟨rfl,fun e he=>by simp only [eHelloEntry,List.mem_cons,List.not_mem_nil,or_false] at he; rcases he with rfl | rfl | rfl | rfl <;> exact ⟨_,rfl⟩⟩):AppL (.l 4 eHelloEntry ([]:List Qa)) (.l 4 eHelloEntry list) 4 (.l 4 eHelloEntry (([]:List Qa)++list))) (ai (by (try simp only [lens]); omega:(([]:List Qa)++list).length*32≤140737488355328) (fi104 list (([]:List Qa)++list) rfl)))) (by kernel_rfl)
theorem as104 (list:List Qa):F104 list=(list):=by
 rfl
theorem oa104 (list:List Qa):(S104 (list) list).ok Tryz.prog 104:=by
 intro hp; have h:=ok104 list hp; rw [as104 list] at h; exact h
theorem kg103 {K_:Prop} (c_ b_:Bool) (a:Qa) (b:Qa) (k_:K_):(c_=b_→True)∧(c_=b_→Imps (eHelloEntry a) (eHelloEntry a))∧(c_=b_→Imps (eHelloEntry b) (eHelloEntry b))∧K_:=⟨fun _=>trivial,fun _=>Imps.refl _,fun _=>Imps.refl _,k_⟩
abbrev kh103 (a:Qa) (b:Qa):Hint true Tryz.prog:=.call 103 (S103 a b) (ok103 a b) none
theorem kc104a (list:List Qa) {K_:Prop} (p0_:list.length≤1000000000) (k_:K_):(list.length≤1000000000)∧(Imp (.l 4 eHelloEntry list) (.l 4 eHelloEntry list))∧K_:=⟨p0_,Imp.refl _,k_⟩
abbrev kh104a (list:List Qa):Hint true Tryz.prog:=.call 104 (S104 list list) (oa104 list) none
def F72_s0 (table:List Qa) (e1:Qa):Int→Lp Int (List Qa):=fun k400 =>
 bif (bif decide (k400<(table.length:Int)) then (F103 (table.getD k400.toNat default) e1) else false) then (.next (k400+1)) else (.done k400)
def F72_j0 (table:List Qa) (e1:Qa):Lp Int (List Qa) :=
 (runL (F72_s0 table e1) (((table.length:Int)-0).toNat+1) 0).fin Lp.ret (fun k400=>.done k400)
def F72 (table:List Qa) (e1:Qa):List Qa :=
 (F72_j0 table e1).fin (fun r=>r) (fun k=>bif (bif (bif decide (k<(table.length:Int)) then ((table.getD k.toNat default).Addr==e1.Addr) else false) then ((table.getD k.toNat default).Len==e1.Len) else false) then (table.set (k).toNat e1) else (((table.take k.toNat)++[e1])++(table.drop k.toNat)))
abbrev lN72_0 (table:List Qa):Nat×Int:=((((table.length:Int)-0).toNat+1),0)
abbrev lI72_0 (table:List Qa) (m39:Nat) (k400:Int):Prop:=Int.toNat ((table.length:Int)-k400)<m39∧k400≤(table.length:Int)∧(0:Int)≤k400
abbrev lX72_0 (table:List Qa) (e1:Qa):Lp Int (List Qa):=LpX (F72_s0 table e1) (lN72_0 table)
abbrev lJ72_0 (table:List Qa) (e1:Qa) (i:Nat×Int):Prop:=LpJ (F72_s0 table e1) (lN72_0 table) i (lI72_0 table i.1 i.2)
abbrev lH72_0 (table:List Qa) (e1:Qa) (i:Nat×Int) (m39:Nat) (k400:Int):Prop:=LpH (F72_s0 table e1) (lN72_0 table) i m39 k400 (lI72_0 table (m39+1) k400)
abbrev lE72_0 (table:List Qa) (e1:Qa) (k400:Int) (k400_:Int) (K39:Prop):Prop:=((.int .i64 k400:Value)=.int .i64 k400_)∧(Im (.l 4 eHelloEntry table))∧(Rf (.int .i64 e1.Addr))∧(Rf (.int .i64 e1.Len))∧(Rf (.int .i64 e1.Cost))∧(Rf (.int .i64 e1.Label))∧K39
theorem un72_0 (table:List Qa) (e1:Qa) (i:Nat×Int) (h:lJ72_0 table e1 i):lH72_0 table e1 i (i.1-1) i.2:=⟨hd1 h.1 h.2.1,hd3 h.2.1,hd2 h.2.1,h.2.2⟩
theorem bk72_0 (table:List Qa) (e1:Qa) (i:Nat×Int) (m39:Nat) (k400:Int) (hl:m39<i.1) (e:runL (F72_s0 table e1) m39 k400=lX72_0 table e1) (h:lI72_0 table m39 k400):∃ j:Nat×Int,lE72_0 table e1 k400 j.2 (lJ72_0 table e1 j∧j.1<i.1):=⟨(m39,k400),rfl,Imp.refl _,rfl,rfl,rfl,rfl,⟨e,h⟩,hl⟩
theorem en72_0 (table:List Qa) (e1:Qa) (h:0≤(table.length:Int)∧(0:Int)≤0):lE72_0 table e1 0 0 (lJ72_0 table e1 (lN72_0 table)):=⟨rfl,Imp.refl _,rfl,rfl,rfl,rfl,rfl,Nat.lt_succ_self _,h⟩
abbrev jI72_0 (table:List Qa) (e1:Qa) (k:Int):Prop:=0≤k∧k≤(table.length:Int)
abbrev jJ72_0 (table:List Qa) (e1:Qa) (j:Int):Prop:=(F72_j0 table e1)=Lp.done j∧jI72_0 table e1 j
theorem jn72_0 (table:List Qa) (e1:Qa) (k:Int) (e:(F72_j0 table e1)=Lp.done k) (h:jI72_0 table e1 k):∃ j:Int,((.int .i64 k:Value)=.int .i64 j)∧(Imp (.l 4 eHelloEntry table) (.l 4 eHelloEntry table))∧((.int .i64 e1.Addr:Value)=.int .i64 e1.Addr)∧((.int .i64 e1.Len:Value)=.int .i64 e1.Len)∧((.int .i64 e1.Cost:Value)=.int .i64 e1.Cost)∧((.int .i64 e1.Label:Value)=.int .i64 e1.Label)∧jJ72_0 table e1 j:=⟨k,rfl,Imp.refl _,rfl,rfl,rfl,rfl,e,h⟩
theorem fi72 (table:List Qa) (e1:Qa) (r:List Qa) (hF:r=(F72 table e1)):(Imp (.l 4 eHelloEntry r) (.l 4 eHelloEntry (F72 table e1)))∧True:=by cases hF; exact ⟨Imp.refl _,trivial⟩
def S72 (table:List Qa) (e1:Qa):Spec:=⟨[.r (.c (.l 4 eHelloEntry table)),.r (.g (eHelloEntry e1))],.ow (.l 4 eHelloEntry (F72 table e1)),table.length≤1000000000⟩
theorem ok72 (table:List Qa) (e1:Qa):(S72 table e1).ok Tryz.prog 72 :=
 fnG_ok mixed (fn:=Tryz.f72) (ct:=.seqk [(0,0)] .no (.seqk [(0,0)] .no (.cut (ι:=Int) (fun j=>(fun (k:Int)=>(⟨[(0,some (.h 0 0)),(3,some (.p 1 0)),(5,some (.v (vI k)))],[(0,some (.shr none (.l 4 eHelloEntry table))),(1,some (.box 54 [.v (vI e1.Addr),.v (vI e1.Len),.v (vI e1.Cost),.v (vI e1.Label)]))],2⟩:St)) j) (jJ72_0 table e1) (.blk (.loop (ι:=Nat×Int) (fun i=>(fun (k400:Int)=>(⟨[(0,some (.h 0 0)),(3,some (.p 1 0)),(5,some (.v (vI k400)))],[(0,some (.shr none (.l 4 eHelloEntry table))),(1,some (.box 54 [.v (vI e1.Addr),.v (vI e1.Len),.v (vI e1.Cost),.v (vI e1.Label)]))],2⟩:St)) i.2) (lJ72_0 table e1) (fun i=>i.1) (lN72_0 table) (fun i=>(fun (k400:Int)=>(.seq (.seq (.reg [(10,kh103 (table.getD k400.toNat default) e1)]) (.cond .no .no)) (.blk (.reg [(1,.bnd)])))) i.2))) (fun j=>(fun (k:Int)=>(.seq (.seq .no (.cond (.seq (.reg [(1,kh104a table)]) (.seq (.reg [(4,.dat (.l 4 eHelloEntry (table.set (k).toNat e1)))]) (.seq .no .no))) .no)) (.seq (.reg [(3,kh104a (table.take k.toNat)),(6,.dat (.l 4 eHelloEntry ((table.take k.toNat)++[e1]))),(10,.dat (.l 4 eHelloEntry (((table.take k.toNat)++[e1])++(table.drop k.toNat))))]) .no))) j)))) Tryz.func72 (fun (hpre0:table.length≤1000000000)=>kn table fun _=>kn table fun _=>ai (ai (en72_0 table e1 (by refine ⟨?_,?_⟩ <;> first | omega | (simp only [lens,ib] at*<;> omega))) (fun (i0:Nat×Int) (hi0:lJ72_0 table e1 i0)=>(fun (m0:Nat) (k400:Int) (hh0:lH72_0 table e1 i0 m0 k400)=>have hI0:=hh0.1; have hl0:=hh0.2.1; have _:=hh0.2.2.1; have _:=hh0.2.2.2; ai (fun k2:(decide (k400<(table.length:Int)))=true=>have _:=of_decide_eq_true k2; (by first | omega | (simp only [lens,ib] at*<;> omega):ib k400 table)) (kg103 (decide (k400<(table.length:Int))) true (table.getD k400.toNat default) e1 (ifb (bif decide (k400<(table.length:Int)) then (F103 (table.getD k400.toNat default) e1) else false) (fun h4=>have _:=of_decide_eq_true (andT1 h4); ai (iok (k400+1) (by first | omega | (simp only [lens,ib] at*<;> omega))) (bk72_0 table e1 i0 m0 (k400+1) hl0 (runL_next hI0 (condT h4 rfl)) (by refine ⟨?_,?_,?_⟩ <;> first | omega | (simp only [lens,ib] at*<;> omega)))) (fun h4=>have hD0_5:lX72_0 table e1=Lp.done k400:=runL_done hI0 (condF h4 rfl); jn72_0 table e1 k400 (Eq.symm (finD hD0_5 rfl)) (by refine ⟨?_,?_⟩ <;> first | omega | (simp only [lens,ib] at*<;> omega)))))) (i0.1-1) i0.2 (un72_0 table e1 i0 hi0))) (fun (j:Int) (hj:jJ72_0 table e1 j)=>(fun (k:Int) (hJ0_6:(F72_j0 table e1)=Lp.done k) (hw:jI72_0 table e1 k)=>have _:=hw.1; have _:=hw.2; ai (fun k7:(decide (k<(table.length:Int)))=true=>have _:=of_decide_eq_true k7; (by first | omega | (simp only [lens,ib] at*<;> omega):ib k table)) (ai (fun k8:(bif decide (k<(table.length:Int)) then ((table.getD k.toNat default).Addr==e1.Addr) else false)=true=>have _:=of_decide_eq_true (andT1 k8); have _:=eq_of_beq (andT2 k8); (by first | omega | (simp only [lens,ib] at*<;> omega):ib k table)) (ifb (bif (bif decide (k<(table.length:Int)) then ((table.getD k.toNat default).Addr==e1.Addr) else false) then ((table.getD k.toNat default).Len==e1.Len) else false) (fun h9=>have _:=of_decide_eq_true (andT1 (andT1 h9)); have _:=eq_of_beq (andT2 (andT1 h9)); have _:=eq_of_beq (andT2 h9); kc104a table (by first | omega | (simp only [lens,ib] at*<;> omega)) (ai (by first | omega | (simp only [lens,ib] at*<;> omega):ib k table) (ai (setr 4 eHelloEntry table (k).toNat e1) (fi72 table e1 (table.set (k).toNat e1) (finD hJ0_6 (condT h9 rfl)))))) (fun h9=>ai (by first | omega | (simp only [lens,ib] at*<;> omega):0≤(0:Int)∧(0:Int)≤k∧k≤(table.length:Int)) (kc104a (table.take k.toNat) (by first | omega | (simp only [lens,ib] at*<;> omega)) (ai (appr 4 eHelloEntry (table.take k.toNat) [e1] fun _=>rfl) (ai (by (try simp only [lens]); omega:((table.take k.toNat)++[e1]).length*32≤140737488355328) (ai (by first | omega | (simp only [lens,ib] at*<;> omega):0≤k∧k≤(table.length:Int)∧(table.length:Int)≤(table.length:Int)) (ai (AppL.mk eHelloEntry ((table.take k.toNat)++[e1]) (table.drop k.toNat) (Imp.refl (.l 4 eHelloEntry ((table.take k.toNat)++[e1]))) ir (fun y=>⟨rfl,fun e he=>by simp only [eHelloEntry,List.mem_cons,List.not_mem_nil,or_false] at he; rcases he with rfl | rfl | rfl | rfl <;> exact ⟨_,rfl⟩⟩):AppL (.l 4 eHelloEntry ((table.take k.toNat)++[e1])) (.l 4 eHelloEntry (table.drop k.toNat)) 4 (.l 4 eHelloEntry (((table.take k.toNat)++[e1])++(table.drop k.toNat)))) (ai (by (try simp only [lens]); omega:(((table.take k.toNat)++[e1])++(table.drop k.toNat)).length*32≤140737488355328) (fi72 table e1 (((table.take k.toNat)++[e1])++(table.drop k.toNat)) (finD hJ0_6 (condF h9 rfl))))))))))))) j hj.1 hj.2)) (by kernel_rfl)
def F37 (e1:Qa):NetPrefix :=
 (⟨e1.Addr,e1.Len⟩:NetPrefix)
theorem fi37 (e1:Qa) (r:NetPrefix) (hF:r=(F37 e1)):((.int .i64 r.Addr:Value)=.int .i64 (F37 e1).Addr)∧((.int .i64 r.Len:Value)=.int .i64 (F37 e1).Len)∧True:=by cases hF; exact ⟨rfl,rfl,trivial⟩
def S37 (e1:Qa):Spec:=⟨[.r (.g (eHelloEntry e1))],.ag [.v (vI (F37 e1).Addr),.v (vI (F37 e1).Len)],True⟩
theorem ok37 (e1:Qa):(S37 e1).ok Tryz.prog 37 :=
 fnG_ok mixed (fn:=Tryz.f37) (ct:=.seq .no (.seq .no .no)) Tryz.func37 (fun (_:True)=>fi37 e1 (⟨e1.Addr,e1.Len⟩:NetPrefix) rfl) (by kernel_rfl)
def F36 (p:NetPrefix) (q:NetPrefix):Int :=
 bif (p.Addr != q.Addr) then (IntKind.i64.wrap (p.Addr-q.Addr)) else (IntKind.i64.wrap (p.Len-q.Len))
def S36 (p:NetPrefix) (q:NetPrefix):Spec:=⟨[.r (.g (eNetPrefix p)),.r (.g (eNetPrefix q))],.v (vI (F36 p q)),True⟩
theorem ok36 (p:NetPrefix) (q:NetPrefix):(S36 p q).ok Tryz.prog 36 :=
 fnG_ok mixed (fn:=Tryz.f36) (ct:=.seq .no (.seq (.seq .no (.cond (.seq .no .no) .no)) (.seq .no .no))) Tryz.func36 (fun (_:True)=>ifn p.Addr q.Addr (fun h1 _=>fiI (IntKind.i64.wrap (p.Addr-q.Addr)) (F36 p q) (condT h1 rfl)) (fun h1 _=>fiI (IntKind.i64.wrap (p.Len-q.Len)) (F36 p q) (condF h1 rfl))) (by kernel_rfl)
theorem kc37 (e1:Qa) {K_:Prop} (k_:K_):(True)∧(Imps (eHelloEntry e1) (eHelloEntry e1))∧K_:=⟨trivial,Imps.refl _,k_⟩
abbrev kh37 (e1:Qa):Hint true Tryz.prog:=.call 37 (S37 e1) (ok37 e1) none
theorem kc36 (p:NetPrefix) (q:NetPrefix) {K_:Prop} (k_:K_):(True)∧(Imps (eNetPrefix p) (eNetPrefix p))∧(Imps (eNetPrefix q) (eNetPrefix q))∧K_:=⟨trivial,Imps.refl _,Imps.refl _,k_⟩
abbrev kh36 (p:NetPrefix) (q:NetPrefix):Hint true Tryz.prog:=.call 36 (S36 p q) (ok36 p q) none
def F35 (a:Qa) (b:Qa):Int :=
 (F36 (F37 a) (F37 b))
def S35 (a:Qa) (b:Qa):Spec:=⟨[.r (.g (eHelloEntry a)),.r (.g (eHelloEntry b))],.v (vI (F35 a b)),True⟩
theorem ok35 (a:Qa) (b:Qa):(S35 a b).ok Tryz.prog 35 :=
 fnG_ok mixed (fn:=Tryz.f35) (ct:=.seq .no (.seq (.reg [(1,kh37 a),(3,kh37 b),(4,kh36 (F37 a) (F37 b))]) .no)) Tryz.func35 (fun (_:True)=>kc37 a (kc37 b (kc36 (F37 a) (F37 b) (fiI (F36 (F37 a) (F37 b)) (F35 a b) rfl)))) (by kernel_rfl)
theorem put43_k (t:List Qa) (e:Qa):F72_j0 t e=.done ((posL F103 e t:Nat):Int):=by
 unfold F72_j0
 rw [pos_loop F103 e t (F72_s0 t e) (fun k=>rfl)]; rfl
theorem put43_eq (t:List Qa) (e:Qa):F72 t e=bif (bif (bif decide (((posL F103 e t:Nat):Int)<(t.length:Int)) then ((t.getD (posL F103 e t) default).Addr==e.Addr) else false) then ((t.getD (posL F103 e t) default).Len==e.Len) else false) then t.set (posL F103 e t) e else insL F103 e t:=by
 unfold F72
 rw [put43_k]
 simp only [Lp.fin,nn]
 rw [← insL_eq F103 e t]
theorem put43_len (t:List Qa) (e:Qa):(F72 t e).length≤t.length+1:=by
 rw [put43_eq]
 have h:=(insL_perm F103 e t).length_eq
 rw [List.length_cons] at h
 cases (bif (bif decide (((posL F103 e t:Nat):Int)<(t.length:Int)) then ((t.getD (posL F103 e t) default).Addr==e.Addr) else false) then ((t.getD (posL F103 e t) default).Len==e.Len) else false) with
 | true=>rw [cond_true,List.length_set]; omega
 | false=>rw [cond_false]; omega
theorem put43_new (t:List Qa) (e:Qa) (h:∀ x∈t,¬ (x.Addr=e.Addr∧x.Len=e.Len)):F72 t e=insL F103 e t:=by
 rw [put43_eq]
 have hc:(bif (bif decide (((posL F103 e t:Nat):Int)<(t.length:Int)) then ((t.getD (posL F103 e t) default).Addr==e.Addr) else false) then ((t.getD (posL F103 e t) default).Len==e.Len) else false)=false:=by
  by_cases hl:posL F103 e t<t.length
  ·have hx:=h _ (getD_mem t hl)
   rw [ltD hl,cond_true]
   cases h1:((t.getD (posL F103 e t) default).Addr==e.Addr) with
   | false=>rfl
   | true =>
    rw [cond_true]
    cases h2:((t.getD (posL F103 e t) default).Len==e.Len) with
    | false=>rfl
    | true=>exact absurd ⟨eq_of_beq h1,eq_of_beq h2⟩ hx
  ·rw [decide_eq_false (by omega)]; rfl
 rw [hc]; rfl
def TB (e:Qa):Prop:=0≤e.Addr∧e.Addr≤65535∧0≤e.Len∧e.Len≤16∧e.Cost=1∧e.Label=0
def TellL (out:List Qa):Prop:=∀ e∈out,TB e
def tellT (p:TernPort):Qa:=⟨p.Addr,p.Len,1,0⟩
theorem tell_nil:TellL []:=fun e he=>by cases he
theorem tell_port (w:List ByteArray):TB (tellT (portT w)):=by
 have:=netParse_b (w.getD 2 default)
 exact ⟨this.2.2.1,this.2.2.2,this.1,this.2.1,rfl,rfl⟩
theorem tell_app {out:List Qa} (h:TellL out) (lines:List ByteArray) {k:Nat} (hk:k<(F33 lines).length):TellL (out++[tellT ((F33 lines).getD k default)]):=fun e he=>by
 rcases List.mem_append.1 he with he | he
 ·exact h e he
 ·rw [List.mem_singleton.1 he]
  have hm:=getD_mem _ hk
  rw [tports_eq] at hm ⊢
  obtain ⟨w,_,e⟩:=List.mem_map.1 hm
  rw [← e]
  exact tell_port w
theorem cfT_lt (a b:Qa) (ha:TB a) (hb:TB b):F35 a b<0↔a.Addr<b.Addr∨a.Addr=b.Addr∧a.Len<b.Len:=by
 unfold TB at ha hb
 unfold F35 F36 F37
 simp only
 by_cases h1:a.Addr=b.Addr
 ·rw [show (a.Addr != b.Addr)=false by simp [h1],cond_false,wrap_of (n:=a.Len-b.Len) (by omega) (by omega)]; omega
 ·rw [show (a.Addr != b.Addr)=true by simp [h1],cond_true,wrap_of (n:=a.Addr-b.Addr) (by omega) (by omega)]; omega
theorem tell_pre {out:List Qa} (hb:TellL out):SortPre (fun (x0:Qa) (x1:Qa)=>F35 x0 x1) out:=by
 refine ⟨fun x hx=>?_,fun x hx y hy z hz=>?_,fun x hx y hy z hz=>?_,fun x hx y hy=>?_⟩
 ·rw [cfT_lt x x (hb x hx) (hb x hx)]; omega
 ·rw [cfT_lt x y (hb x hx) (hb y hy),cfT_lt y z (hb y hy) (hb z hz),cfT_lt x z (hb x hx) (hb z hz)]; omega
 ·rw [cfT_lt x y (hb x hx) (hb y hy),cfT_lt y z (hb y hy) (hb z hz),cfT_lt x z (hb x hx) (hb z hz)]; omega
 ·rw [cfT_lt x y (hb x hx) (hb y hy),cfT_lt y x (hb y hy) (hb x hx)]
  intro h1 h2
  have bx:=hb x hx
  have bY:=hb y hy
  unfold TB at bx bY
  obtain ⟨a,b,c,d⟩:=x
  obtain ⟨e,f,g,h⟩:=y
  simp only at h1 h2 bx bY
  have:a=e∧b=f∧c=g∧d=h:=by omega
  obtain ⟨rfl,rfl,rfl,rfl⟩:=this
  rfl
def fs60 (p:Qa→Qa→Int):FnSpec:=⟨Qa×Qa,fun i=>[.g (eHelloEntry i.1),.g (eHelloEntry i.2)],fun i=>.int .i64 (p i.1 i.2)⟩
def F34 (x9:List Qa) (cmp:Qa→Qa→Int):List Qa :=
 sortL cmp x9
def S34 (x9:List Qa) (cmp:Qa→Qa→Int):Spec:=⟨[.ow (.l 4 eHelloEntry x9) (some (.l 4 eHelloEntry (F34 x9 cmp))),.fn (fs60 cmp) true],.tu [],SortPre cmp x9∧x9.length≤4000000000000000000⟩
theorem ok34 (x9:List Qa) (cmp:Qa→Qa→Int):(S34 x9 cmp).ok Tryz.prog 34 :=
 sort_ok lay34 lay34a lay34z eHelloEntry (fun x=>⟨rfl,fun d hd=>by simp only [eHelloEntry,List.mem_cons,List.not_mem_nil,or_false] at hd; rcases hd with rfl | rfl | rfl | rfl <;> exact ⟨_,rfl,rfl⟩⟩) cmp x9
theorem kc33l (lines:List ByteArray) {K_:Prop} (p0_:lines.length≤1048576) (p1_:∀ k:Nat,(lines.getD k default).size≤1048576) (k_:((F33 lines).length≤16)→(∀ k:Nat,0≤((F33 lines).getD k default).Len∧((F33 lines).getD k default).Len≤16)→K_):(lines.length≤1048576∧(∀ k:Nat,(lines.getD k default).size≤1048576))∧(Imp (.l 1 eStr lines) (.l 1 eStr lines))∧K_:=⟨⟨p0_,p1_⟩,Imp.refl _,k_ (tports_len lines) (tports_b lines)⟩
abbrev kh33l (lines:List ByteArray):Hint false Tryz.prog:=.call 33 (S33 lines) (ok33 lines) none
def F10_s0 (lines:List ByteArray):(List Qa×Int)→Lp (List Qa×Int) (List Qa):=fun (out1,v10) =>
 bif (decide (v10<((F33 lines).length:Int))) then (.next ((out1++[(⟨((F33 lines).getD v10.toNat default).Addr,((F33 lines).getD v10.toNat default).Len,1,0⟩:Qa)]),(v10+1))) else (.done (out1,v10))
def F10_j0 (lines:List ByteArray):Lp (List Qa) (List Qa) :=
 (runL (F10_s0 lines) ((((F33 lines).length:Int)-0).toNat+1) (([]:List Qa),0)).fin Lp.ret (fun (out1,v10)=>.done out1)
def F10 (lines:List ByteArray):List Qa :=
 (F10_j0 lines).fin (fun r=>r) (fun out=>(F34 out (fun (x0:Qa) (x1:Qa)=>F35 x0 x1)))
abbrev lN10_0 (lines:List ByteArray):Nat×(List Qa×Int):=(((((F33 lines).length:Int)-0).toNat+1),(([]:List Qa),0))
abbrev lI10_0 (lines:List ByteArray) (m39:Nat) (out1:List Qa) (v10:Int):Prop:=Int.toNat (((F33 lines).length:Int)-v10)<m39∧(out1.length:Int)≤v10∧v10≤((F33 lines).length:Int)∧TellL out1∧(0:Int)≤v10
abbrev lX10_0 (lines:List ByteArray):Lp (List Qa×Int) (List Qa):=LpX (F10_s0 lines) (lN10_0 lines)
abbrev lJ10_0 (lines:List ByteArray) (i:Nat×(List Qa×Int)):Prop:=LpJ (F10_s0 lines) (lN10_0 lines) i (lI10_0 lines i.1 i.2.1 i.2.2)
abbrev lH10_0 (lines:List ByteArray) (i:Nat×(List Qa×Int)) (m39:Nat) (out1:List Qa) (v10:Int):Prop:=LpH (F10_s0 lines) (lN10_0 lines) i m39 (out1,v10) (lI10_0 lines (m39+1) out1 v10)
abbrev lE10_0 (lines:List ByteArray) (out1:List Qa) (v10:Int) (out1_:List Qa) (v10_:Int) (K39:Prop):Prop:=(Rf (.int .i64 ((F33 lines).length:Int)))∧((.int .i64 v10:Value)=.int .i64 v10_)∧(Imp (.l 4 eHelloEntry out1) (.l 4 eHelloEntry out1_))∧(Im (.l 4 eTernPort (F33 lines)))∧K39
theorem un10_0 (lines:List ByteArray) (i:Nat×(List Qa×Int)) (h:lJ10_0 lines i):lH10_0 lines i (i.1-1) i.2.1 i.2.2:=⟨hd1 h.1 h.2.1,hd3 h.2.1,hd2 h.2.1,h.2.2⟩
theorem bk10_0 (lines:List ByteArray) (i:Nat×(List Qa×Int)) (m39:Nat) (out1:List Qa) (v10:Int) (hl:m39<i.1) (e:runL (F10_s0 lines) m39 (out1,v10)=lX10_0 lines) (h:lI10_0 lines m39 out1 v10):∃ j:Nat×(List Qa×Int),lE10_0 lines out1 v10 j.2.1 j.2.2 (lJ10_0 lines j∧j.1<i.1):=⟨(m39,(out1,v10)),rfl,rfl,Imp.refl _,Imp.refl _,⟨e,h⟩,hl⟩
theorem en10_0 (lines:List ByteArray) (h:(([]:List Qa).length:Int)≤0∧0≤((F33 lines).length:Int)∧TellL ([]:List Qa)∧(0:Int)≤0):lE10_0 lines ([]:List Qa) 0 ([]:List Qa) 0 (lJ10_0 lines (lN10_0 lines)):=⟨rfl,rfl,Imp.refl _,Imp.refl _,rfl,Nat.lt_succ_self _,h⟩
abbrev jI10_0 (lines:List ByteArray) (out:List Qa):Prop:=out.length≤16∧TellL out
abbrev jJ10_0 (lines:List ByteArray) (j:List Qa):Prop:=(F10_j0 lines)=Lp.done j∧jI10_0 lines j
theorem jn10_0 (lines:List ByteArray) (out:List Qa) (e:(F10_j0 lines)=Lp.done out) (h:jI10_0 lines out):∃ j:List Qa,(Imp (.l 4 eHelloEntry out) (.l 4 eHelloEntry j))∧jJ10_0 lines j:=⟨out,Imp.refl _,e,h⟩
theorem fi10 (lines:List ByteArray) (r:List Qa) (hF:r=(F10 lines)):(Imp (.l 4 eHelloEntry r) (.l 4 eHelloEntry (F10 lines)))∧True:=by cases hF; exact ⟨Imp.refl _,trivial⟩
def S10 (lines:List ByteArray):Spec:=⟨[.r (.c (.l 1 eStr lines))],.ow (.l 4 eHelloEntry (F10 lines)),lines.length≤1048576∧(∀ k:Nat,(lines.getD k default).size≤1048576)⟩
abbrev q10_1 (lines:List ByteArray) (v10:Int):=(⟨((F33 lines).getD v10.toNat default).Addr,((F33 lines).getD v10.toNat default).Len,1,0⟩:Qa)
theorem ok10 (lines:List ByteArray):(S10 lines).ok Tryz.prog 10 false :=
 fnG_ok mixed (fn:=Tryz.f10) (ct:=.seqk [(0,0)] .no (.seq (.reg [(0,.dat (.l 4 eHelloEntry ([]:List Qa)))]) (.cut (ι:=List Qa) (fun j=>(fun (out:List Qa)=>(⟨[(3,some (.h 0 0))],[(0,some (.own 0 (.l 4 eHelloEntry out)))],1⟩:St)) j) (jJ10_0 lines) (.seqk [(3,0),(8,0)] (.reg [(1,kh33l lines)]) (.blk (.loop (ι:=Nat×(List Qa×Int)) (fun i=>(fun (out1:List Qa) (v10:Int)=>(⟨[(3,some (.h 0 0)),(8,some (.h 1 0)),(9,some (.v (vI ((F33 lines).length:Int)))),(10,some (.v (vI v10)))],[(0,some (.own 0 (.l 4 eHelloEntry out1))),(1,some (.own 1 (.l 4 eTernPort (F33 lines))))],2⟩:St)) i.2.1 i.2.2) (lJ10_0 lines) (fun i=>i.1) (lN10_0 lines) (fun i=>(fun (out1:List Qa) (v10:Int)=>(.seq .no (.seq (.cond .no .no) (.seq (.blk (.seq .no (.reg [(7,.dat (.l 4 eHelloEntry (out1++[(q10_1 lines v10)])))]))) (.reg [(0,.bnd)]))))) i.2.1 i.2.2)))) (fun j=>(fun (out:List Qa)=>(.seq (.reg [(1,.call 34 (S34 out (fun (x0:Qa) (x1:Qa)=>F35 x0 x1)) ((ok34 out (fun (x0:Qa) (x1:Qa)=>F35 x0 x1)).to false) (some ⟨true,35,fs60 (fun (x0:Qa) (x1:Qa)=>F35 x0 x1),[],rfl,True,fun i=>(ok35 i.1 i.2)⟩))]) (.seq .no .no))) j)))) Tryz.func10 (fun (hp:lines.length≤1048576∧(∀ k:Nat,(lines.getD k default).size≤1048576))=>have hpre0:=hp.1; have hpre1:=hp.2; kn lines fun _=>ai (bokr 4 eHelloEntry ([]:List Qa) fun _=>rfl) (ai (kc33l lines (by first | omega | (simp only [lens,ib] at*<;> omega)) (by first | assumption | exact hpre1 _ | exact fun k _=>hpre1 k | exact gv2 | (intros; exact trivial) | (intros; exact Nat.zero_le _)) (fun gv1 gv2=>kn ([]:List Qa) fun _=>kn (F33 lines) fun _=>ai (en10_0 lines (by refine ⟨?_,?_,?_,?_⟩ <;> first | omega | (simp only [lens,ib] at*<;> omega) | exact tell_nil | exact tell_app (by assumption) lines (k:=Int.toNat v10) (by first | omega | (simp only [lens,ib] at*<;> omega)))) (fun (i0:Nat×(List Qa×Int)) (hi0:lJ10_0 lines i0)=>(fun (m0:Nat) (out1:List Qa) (v10:Int) (hh0:lH10_0 lines i0 m0 out1 v10)=>have hI0:=hh0.1; have hl0:=hh0.2.1; have _:=hh0.2.2.1; have _:=hh0.2.2.2.1; have _:=hh0.2.2.2.2.1; have _:=hh0.2.2.2.2.2.1; have _:=hh0.2.2.2.2.2.2; ifd (v10<((F33 lines).length:Int)) (fun h4 _=>ai (by first | omega | (simp only [lens,ib] at*<;> omega):ib v10 (F33 lines)) (ai (appr 4 eHelloEntry out1 [(q10_1 lines v10)] fun _=>rfl) (ai (by (try simp only [lens]); omega:(out1++[(q10_1 lines v10)]).length*32≤140737488355328) (ai (iok (v10+1) (by first | omega | (simp only [lens,ib] at*<;> omega))) (bk10_0 lines i0 m0 (out1++[(q10_1 lines v10)]) (v10+1) hl0 (runL_next hI0 (condT h4 rfl)) (by refine ⟨?_,?_,?_,?_,?_⟩ <;> first | omega | (simp only [lens,ib] at*<;> omega) | exact tell_nil | exact tell_app (by assumption) lines (k:=Int.toNat v10) (by first | omega | (simp only [lens,ib] at*<;> omega)))))))) (fun h4 _=>have hD0_5:lX10_0 lines=Lp.done (out1,v10):=runL_done hI0 (condF h4 rfl); jn10_0 lines out1 (Eq.symm (finD hD0_5 rfl)) (by refine ⟨?_,?_⟩ <;> first | omega | (simp only [lens,ib] at*<;> omega) | assumption))) (i0.1-1) i0.2.1 i0.2.2 (un10_0 lines i0 hi0)))) (fun (j:List Qa) (hj:jJ10_0 lines j)=>(fun (out:List Qa) (hJ0_6:(F10_j0 lines)=Lp.done out) (hw:jI10_0 lines out)=>have _:=hw.1; have _:=hw.2; ai (ai (by first | omega | exact tell_pre (by assumption):SortPre (fun (x0:Qa) (x1:Qa)=>F35 x0 x1) out) (by first | omega | exact tell_pre (by assumption):out.length≤4000000000000000000)) (ai (Imp.refl (.l 4 eHelloEntry out)) (ai (Eq.refl (fs60 (fun (x0:Qa) (x1:Qa)=>F35 x0 x1))) (ai trivial (fi10 lines (F34 out (fun (x0:Qa) (x1:Qa)=>F35 x0 x1)) (finD hJ0_6 rfl)))))) j hj.1 hj.2))) (by kernel_rfl)
theorem kc71l (lines:List ByteArray) {K_:Prop} (p0_:lines.length≤16) (p1_:∀ k:Nat,(lines.getD k default).size≤1048576) (q0_:lines.length≤16) (k_:((F71 lines).length≤16)→K_):(lines.length≤16∧(∀ k:Nat,(lines.getD k default).size≤1048576))∧(Imp (.l 1 eStr lines) (.l 1 eStr lines))∧K_:=⟨⟨p0_,p1_⟩,Imp.refl _,k_ (lports_len lines q0_)⟩
abbrev kh71l (lines:List ByteArray):Hint true Tryz.prog:=.call 71 (S71 lines) (ok71 lines) none
def F32_s0 (lines:List ByteArray):(List Qa×Int)→Lp (List Qa×Int) (List Qa):=fun (out,i40) =>
 bif (decide (i40<((F71 lines).length:Int))) then (.next ((F72 out ⟨((F71 lines).getD i40.toNat default).Addr,((F71 lines).getD i40.toNat default).Len,1,0⟩),(i40+1))) else (.done (out,i40))
def F32 (lines:List ByteArray):List Qa :=
 (runL (F32_s0 lines) ((((F71 lines).length:Int)-0).toNat+1) (([]:List Qa),0)).fin (fun r=>r) (fun (out,i40)=>out)
abbrev lN32_0 (lines:List ByteArray):Nat×(List Qa×Int):=(((((F71 lines).length:Int)-0).toNat+1),(([]:List Qa),0))
abbrev lI32_0 (lines:List ByteArray) (m39:Nat) (out:List Qa) (i40:Int):Prop:=Int.toNat (((F71 lines).length:Int)-i40)<m39∧(out.length:Int)≤i40∧(0:Int)≤i40
abbrev lX32_0 (lines:List ByteArray):Lp (List Qa×Int) (List Qa):=LpX (F32_s0 lines) (lN32_0 lines)
abbrev lJ32_0 (lines:List ByteArray) (i:Nat×(List Qa×Int)):Prop:=LpJ (F32_s0 lines) (lN32_0 lines) i (lI32_0 lines i.1 i.2.1 i.2.2)
abbrev lH32_0 (lines:List ByteArray) (i:Nat×(List Qa×Int)) (m39:Nat) (out:List Qa) (i40:Int):Prop:=LpH (F32_s0 lines) (lN32_0 lines) i m39 (out,i40) (lI32_0 lines (m39+1) out i40)
abbrev lE32_0 (lines:List ByteArray) (out:List Qa) (i40:Int) (out_:List Qa) (i40_:Int) (K39:Prop):Prop:=((.int .i64 i40:Value)=.int .i64 i40_)∧(Im (.l 4 eTernPort (F71 lines)))∧(Imp (.l 4 eHelloEntry out) (.l 4 eHelloEntry out_))∧K39
theorem un32_0 (lines:List ByteArray) (i:Nat×(List Qa×Int)) (h:lJ32_0 lines i):lH32_0 lines i (i.1-1) i.2.1 i.2.2:=⟨hd1 h.1 h.2.1,hd3 h.2.1,hd2 h.2.1,h.2.2⟩
theorem bk32_0 (lines:List ByteArray) (i:Nat×(List Qa×Int)) (m39:Nat) (out:List Qa) (i40:Int) (hl:m39<i.1) (e:runL (F32_s0 lines) m39 (out,i40)=lX32_0 lines) (h:lI32_0 lines m39 out i40):∃ j:Nat×(List Qa×Int),lE32_0 lines out i40 j.2.1 j.2.2 (lJ32_0 lines j∧j.1<i.1):=⟨(m39,(out,i40)),rfl,Imp.refl _,Imp.refl _,⟨e,h⟩,hl⟩
theorem en32_0 (lines:List ByteArray) (h:(([]:List Qa).length:Int)≤0∧(0:Int)≤0):lE32_0 lines ([]:List Qa) 0 ([]:List Qa) 0 (lJ32_0 lines (lN32_0 lines)):=⟨rfl,Imp.refl _,Imp.refl _,rfl,Nat.lt_succ_self _,h⟩
theorem fi32 (lines:List ByteArray) (r:List Qa) (hF:r=(F32 lines)):(Imp (.l 4 eHelloEntry r) (.l 4 eHelloEntry (F32 lines)))∧True:=by cases hF; exact ⟨Imp.refl _,trivial⟩
def S32 (lines:List ByteArray):Spec:=⟨[.r (.c (.l 1 eStr lines))],.ow (.l 4 eHelloEntry (F32 lines)),lines.length≤16∧(∀ k:Nat,(lines.getD k default).size≤1048576)⟩
abbrev q32_1 (lines:List ByteArray) (i40:Int):=(⟨((F71 lines).getD i40.toNat default).Addr,((F71 lines).getD i40.toNat default).Len,1,0⟩:Qa)
theorem ok32 (lines:List ByteArray):(S32 lines).ok Tryz.prog 32 :=
 fnG_ok mixed (fn:=Tryz.f32) (ct:=.seqk [(0,0)] .no (.seq (.reg [(1,kh71l lines)]) (.seq (.reg [(0,.dat (.l 4 eHelloEntry ([]:List Qa)))]) (.seq (.seqk [(3,0),(4,0)] .no (.blk (.loop (ι:=Nat×(List Qa×Int)) (fun i=>(fun (out:List Qa) (i40:Int)=>(⟨[(3,some (.h 0 0)),(4,some (.h 1 0)),(5,some (.v (vI i40)))],[(0,some (.own 0 (.l 4 eTernPort (F71 lines)))),(1,some (.own 1 (.l 4 eHelloEntry out)))],2⟩:St)) i.2.1 i.2.2) (lJ32_0 lines) (fun i=>i.1) (lN32_0 lines) (fun i=>(fun (out:List Qa) (i40:Int)=>(.seq (.seq .no (.cond .no .no)) (.seq (.blk (.reg [(12,.call 72 (S72 out (q32_1 lines i40)) (ok72 out (q32_1 lines i40)) none)])) (.reg [(1,.bnd)])))) i.2.1 i.2.2)))) (.seq .no .no))))) Tryz.func32 (fun (hp:lines.length≤16∧(∀ k:Nat,(lines.getD k default).size≤1048576))=>have hpre0:=hp.1; have hpre1:=hp.2; kn lines fun _=>kc71l lines (by omega) (by first | assumption | exact hpre1 _ | exact fun k _=>hpre1 k | (intros; exact trivial) | (intros; exact Nat.zero_le _)) (by omega) (fun gv1=>ai (bokr 4 eHelloEntry ([]:List Qa) fun _=>rfl) (kn (F71 lines) fun _=>kn ([]:List Qa) fun _=>ai (en32_0 lines (by refine ⟨?_,?_⟩ <;> first | omega | (simp only [lens,ib] at*<;> omega) | (simp only [List.length_nil] at *; omega))) (fun (i0:Nat×(List Qa×Int)) (hi0:lJ32_0 lines i0)=>(fun (m0:Nat) (out:List Qa) (i40:Int) (hh0:lH32_0 lines i0 m0 out i40)=>have hI0:=hh0.1; have hl0:=hh0.2.1; have _:=hh0.2.2.1; have _:=hh0.2.2.2; ifd (i40<((F71 lines).length:Int)) (fun h3 _=>ai (by omega:ib i40 (F71 lines)) (ai (by omega:ib i40 (F71 lines)) (ai (by omega:out.length≤1000000000) (ai (Imp.refl (.l 4 eHelloEntry out)) (ai (Imps.refl (eHelloEntry (q32_1 lines i40))) (have gv4:(F72 out (q32_1 lines i40)).length≤out.length+1:=put43_len out (q32_1 lines i40); ai (iok (i40+1) (by omega)) (bk32_0 lines i0 m0 (F72 out (q32_1 lines i40)) (i40+1) hl0 (runL_next hI0 (condT h3 rfl)) (by refine ⟨?_,?_,?_⟩ <;> first | omega | (simp only [lens,ib] at*<;> omega) | (simp only [List.length_nil] at *; omega))))))))) (fun h3 _=>have hD0_5:lX32_0 lines=Lp.done (out,i40):=runL_done hI0 (condF h3 rfl); fi32 lines out (finD hD0_5 rfl))) (i0.1-1) i0.2.1 i0.2.2 (un32_0 lines i0 hi0))))) (by kernel_rfl)
theorem kc31 (lines:List ByteArray) {K_:Prop} (p0_:lines.length≤1048576) (p1_:∀ k:Nat,(lines.getD k default).size≤1048576) (k_:K_):(lines.length≤1048576∧(∀ k:Nat,(lines.getD k default).size≤1048576))∧(Imp (.l 1 eStr lines) (.l 1 eStr lines))∧K_:=⟨⟨p0_,p1_⟩,Imp.refl _,k_⟩
abbrev kh31 (lines:List ByteArray):Hint true Tryz.prog:=.call 31 (S31 lines) (ok31 lines) none
theorem kc32 (lines:List ByteArray) {K_:Prop} (p0_:lines.length≤16) (p1_:∀ k:Nat,(lines.getD k default).size≤1048576) (k_:K_):(lines.length≤16∧(∀ k:Nat,(lines.getD k default).size≤1048576))∧(Imp (.l 1 eStr lines) (.l 1 eStr lines))∧K_:=⟨⟨p0_,p1_⟩,Imp.refl _,k_⟩
abbrev kh32 (lines:List ByteArray):Hint true Tryz.prog:=.call 32 (S32 lines) (ok32 lines) none
def F8 (lines:List ByteArray):List Qa :=
 bif ((F31 lines) != 0) then ([]:List Qa) else (F32 lines)
theorem fi8 (lines:List ByteArray) (r:List Qa) (hF:r=(F8 lines)):(Imp (.l 4 eHelloEntry r) (.l 4 eHelloEntry (F8 lines)))∧True:=by cases hF; exact ⟨Imp.refl _,trivial⟩
def S8 (lines:List ByteArray):Spec:=⟨[.r (.c (.l 1 eStr lines))],.ow (.l 4 eHelloEntry (F8 lines)),lines.length≤1048576∧(∀ k:Nat,(lines.getD k default).size≤1048576)⟩
theorem ok8 (lines:List ByteArray):(S8 lines).ok Tryz.prog 8 :=
 fnG_ok mixed (fn:=Tryz.f8) (ct:=.seqk [(0,0)] .no (.seq (.seq (.reg [(1,kh31 lines)]) (.cond (.seq (.reg [(0,.dat (.l 4 eHelloEntry ([]:List Qa)))]) .no) .no)) (.seq (.reg [(1,kh32 lines)]) .no))) Tryz.func8 (fun (hp:lines.length≤1048576∧(∀ k:Nat,(lines.getD k default).size≤1048576))=>have hpre0:=hp.1; have hpre1:=hp.2; kn lines fun _=>kc31 lines (by omega) (by first | assumption | exact hpre1 _ | exact fun k _=>hpre1 k | (intros; exact trivial) | (intros; exact Nat.zero_le _)) (ifn (F31 lines) 0 (fun h1 _=>ai (bokr 4 eHelloEntry ([]:List Qa) fun _=>rfl) (fi8 lines ([]:List Qa) (condT h1 rfl))) (fun h1 _=>kc32 lines (by first | assumption | exact check_len lines (by omega)) (by first | assumption | exact check_len lines (by omega)) (fi8 lines (F32 lines) (condF h1 rfl))))) (by kernel_rfl)
theorem check_over (lines:List ByteArray) (h:F119 lines=0):F164 lines=false:=by
 have hn0:=check_neatI lines h
 unfold F119 at h
 rw [neat_same,hn0] at h
 have s0:F119_s0 lines 0=bif F162 lines then .ret 5 else .next 1:=rfl
 have s1:F119_s0 lines 1=bif F163 lines then .ret 6 else .next 2:=rfl
 have s2:F119_s0 lines 2=bif F164 lines then .ret 7 else .next 3:=rfl
 have h:(runL (F119_s0 lines) 6 0).fin (fun r=>r) (fun _=>0)=0:=h
 cases b0:F162 lines with
 | true=>rw [b0,cond_true] at s0; rw [runL_r _ s0] at h; exact absurd h (by decide)
 | false =>
 rw [b0,cond_false] at s0; rw [runL_n _ s0] at h
 cases b1:F163 lines with
 | true=>rw [b1,cond_true] at s1; rw [runL_r _ s1] at h; exact absurd h (by decide)
 | false =>
 rw [b1,cond_false] at s1; rw [runL_n _ s1] at h
 cases b2:F164 lines with
 | true=>rw [b2,cond_true] at s2; rw [runL_r _ s2] at h; exact absurd h (by decide)
 | false=>rfl
theorem pairR_no {α:Type} {ov:α→α→Bool}:∀ {xs seen:List α},pairR ov seen xs=false→xs.Pairwise (fun x y=>ov y x=false)∧∀ x∈xs,∀ y∈seen,ov x y=false
 | [],seen,_=>⟨List.Pairwise.nil,fun x hx=>by cases hx⟩
 | a :: xs,seen,h=>by
  rw [pairR,Bool.or_eq_false_iff] at h
  obtain ⟨h1,h2⟩:=pairR_no h.2
  have h0:∀ y∈seen,ov a y=false:=fun y hy=>by
   cases e:ov a y with
   | false=>rfl
   | true=>rw [List.any_eq_true.2 ⟨y,hy,e⟩] at h; exact absurd h.1 (by decide)
  refine ⟨List.pairwise_cons.2 ⟨fun y hy=>h2 y hy a (List.mem_append_right _ (List.mem_singleton.2 rfl)),h1⟩,fun x hx y hy=>?_⟩
  rcases List.mem_cons.1 hx with rfl | hx
  ·exact h0 y hy
  ·exact h2 x hx y (List.mem_append_left _ hy)
theorem in_self (w:List ByteArray):F195 (F83 (w.getD 2 default)).1 (F83 (w.getD 2 default)).1=true:=by
 have hb:=netParse_b (w.getD 2 default)
 generalize (F83 (w.getD 2 default)).1=p at hb
 obtain ⟨a,L⟩:=p
 simp only at hb
 unfold F195
 rw [decide_eq_true (show L≤L from Int.le_refl _),cond_true,has_eq a L a ⟨hb.2.2.1,hb.2.2.2⟩ ⟨hb.1,hb.2.1⟩]
 have h9:=g151_0 L hb.1 hb.2.1
 exact decide_eq_true (by omega)
theorem tells_nodup (lines:List ByteArray) (h:F119 lines=0):((linesL lines (⟨#[112,111,114,116]⟩:ByteArray)).map fun w=>tellT (portT w)).Pairwise fun x y=>¬ (x.Addr=y.Addr∧x.Len=y.Len):=by
 have h1:=check_over lines h
 rw [overlap_eq] at h1
 have h2:=(pairR_no h1).1
 unfold portsL at h2
 rw [List.pairwise_map] at h2 ⊢
 refine h2.imp fun {v w} hvw hc=>?_
 have e:(F83 (w.getD 2 default)).1=(F83 (v.getD 2 default)).1:=by
  have c1:(F83 (v.getD 2 default)).1.Addr=(F83 (w.getD 2 default)).1.Addr:=hc.1
  have c2:(F83 (v.getD 2 default)).1.Len=(F83 (w.getD 2 default)).1.Len:=hc.2
  generalize (F83 (v.getD 2 default)).1=p at c1 c2
  generalize (F83 (w.getD 2 default)).1=q at c1 c2
  obtain ⟨_,_⟩:=p
  obtain ⟨_,_⟩:=q
  simp only at c1 c2
  rw [c1,c2]
 rw [e,in_self] at hvw
 exact absurd hvw (by decide)
theorem tellsJ_eq (lines:List ByteArray):F10_j0 lines=.done ((F33 lines).map tellT):=by
 unfold F10_j0
 have:=fold_loop0 (F33 lines) (fun (s:List Qa) w=>s++[tellT w]) (fun s i=>(s,i)) (F10_s0 lines) (fun i s hi=>by
  simp only [F10_s0,ltD hi,cond_true,nn]; rfl) (fun s=>by simp only [F10_s0,geD,cond_false]) Lp.ret (fun (out1,v11)=>(.done out1:Lp (List Qa) (List Qa))) []
 refine this.trans ?_
 rw [foldl_map',List.nil_append]
theorem tellsI_eq (lines:List ByteArray):F10 lines=sortL (fun (x0:Qa) (x1:Qa)=>F35 x0 x1) ((F33 lines).map tellT):=by
 unfold F10
 rw [tellsJ_eq]; rfl
theorem ltells_eq (lines:List ByteArray):F32 lines=(F71 lines).foldl (fun out p=>F72 out (tellT p)) []:=by
 unfold F32
 have:=fold_loop0 (F71 lines) (fun (s:List Qa) p=>F72 s (tellT p)) (fun s i=>(s,i)) (F32_s0 lines) (fun i s hi=>by
  simp only [F32_s0,ltD hi,cond_true,nn]; rfl) (fun s=>by simp only [F32_s0,geD,cond_false]) (fun r=>r) (fun (out,i40)=>out) []
 exact this
theorem put_ins:∀ (vs out:List Qa),(∀ v∈vs,∀ x∈out,¬ (x.Addr=v.Addr∧x.Len=v.Len))→(vs.Pairwise fun x y=>¬ (x.Addr=y.Addr∧x.Len=y.Len))→vs.foldl (fun out v=>F72 out v) out=vs.foldl (fun out v=>insL F103 v out) out
 | [],_,_,_=>rfl
 | v :: vs,out,h1,h2=>by
  obtain ⟨k1,k2⟩:=List.pairwise_cons.1 h2
  rw [List.foldl_cons,List.foldl_cons,put43_new out v (h1 v List.mem_cons_self)]
  refine put_ins vs _ (fun u hu x hx=>?_) k2
  rcases List.mem_cons.1 ((insL_perm F103 v out).subset hx) with rfl | hx
  ·exact k1 u hu
  ·exact h1 u (List.mem_cons_of_mem _ hu) x hx
theorem tells_same (lines:List ByteArray):F10 lines=F8 lines:=by
 rw [tellsI_eq,tports_eq]
 unfold F8 confL
 rw [← check_same]
 cases h:(F119 lines==0) with
 | true =>
  have h0:=eq_of_beq h
  rw [h0,ltells_eq,lports_same lines (check_neatI lines h0)]
  show sortL _ (((linesL lines (⟨#[112,111,114,116]⟩:ByteArray)).map portT).map tellT)=List.foldl _ [] ((linesL lines (⟨#[112,111,114,116]⟩:ByteArray)).map portT)
  have hb:TellL (((linesL lines (⟨#[112,111,114,116]⟩:ByteArray)).map portT).map tellT):=fun e he=>by
   rw [List.map_map] at he
   obtain ⟨w,_,rfl⟩:=List.mem_map.1 he
   exact tell_port w
  have hp:(((linesL lines (⟨#[112,111,114,116]⟩:ByteArray)).map portT).map tellT).Pairwise fun x y=>¬ (x.Addr=y.Addr∧x.Len=y.Len):=by
   rw [List.map_map]; exact tells_nodup lines h0
  rw [← fold_ins (tell_pre hb) (less:=F103) (fun a ha b hbb=>by
   have:=cfT_lt a b (hb a ha) (hb b hbb)
   unfold F103
   by_cases h1:a.Addr=b.Addr
   ·rw [show (a.Addr==b.Addr)=true by simp [h1],decide_eq_false (show ¬ a.Addr<b.Addr by omega),cond_false,cond_true]; exact decide_eq_decide.2 (by omega)
   ·rw [show (a.Addr==b.Addr)=false by simp [h1]]
    by_cases h2:a.Addr<b.Addr
    ·rw [decide_eq_true h2,cond_true]; exact (decide_eq_true (by omega)).symm
    ·rw [decide_eq_false h2,cond_false,cond_false]; exact (decide_eq_false (by omega)).symm),← put_ins _ [] (fun v hv x hx=>by cases hx) hp,List.foldl_map]
 | false =>
  rw [show (F119 lines != 0)=true by simp only [bne,h,Bool.not_false]]
  show sortL _ ([]:List Qa)=[]
  simp [sortL]
theorem tells_len (lines:List ByteArray):(F10 lines).length≤16:=by
 rw [tellsI_eq,sortL_len,List.length_map]; exact tports_len _
theorem kc39 (k:Int) {K_:Prop} (p0_:k≤1000000000) (k_:K_):(k≤1000000000)∧(Imp (.v (vI k)) (.v (vI k)))∧K_:=⟨p0_,Imp.refl _,k_⟩
abbrev kh39 (k:Int):Hint true Tryz.prog:=.call 39 (S39 k) (ok39 k) none
def F13_s0 (a:List ByteArray) (k:Int):(Int×Int×List ByteArray)→Lp (Int×Int×List ByteArray) (Int×List ByteArray):=fun (k400,i40,xs) =>
 bif (decide (i40<(xs.length:Int))) then (.next ((k400+1),(i40+1),(xs.set (i40).toNat (F39 k400)))) else (.done (k400,i40,xs))
def F13 (a:List ByteArray) (k:Int):Int×List ByteArray :=
 (runL (F13_s0 a k) ((Int.toNat ((a.length:Int)-0))+1) (k,0,a)).fin (fun r=>r) (fun (k400,i40,xs)=>(k400,xs))
abbrev lN13_0 (a:List ByteArray) (k:Int):Nat×(Int×Int×List ByteArray):=(((Int.toNat ((a.length:Int)-0))+1),(k,0,a))
abbrev lI13_0 (a:List ByteArray) (m39:Nat) (k400:Int) (i40:Int) (xs:List ByteArray):Prop:=Int.toNat ((xs.length:Int)-i40)<m39∧(0:Int)≤k400∧k400+((xs.length:Int)-i40)≤1000000000∧(0:Int)≤i40∧xs.length=a.length
abbrev lX13_0 (a:List ByteArray) (k:Int):Lp (Int×Int×List ByteArray) (Int×List ByteArray):=LpX (F13_s0 a k) (lN13_0 a k)
abbrev lJ13_0 (a:List ByteArray) (k:Int) (i:Nat×(Int×Int×List ByteArray)):Prop:=LpJ (F13_s0 a k) (lN13_0 a k) i (lI13_0 a i.1 i.2.1 i.2.2.1 i.2.2.2)
abbrev lH13_0 (a:List ByteArray) (k:Int) (i:Nat×(Int×Int×List ByteArray)) (m39:Nat) (k400:Int) (i40:Int) (xs:List ByteArray):Prop:=LpH (F13_s0 a k) (lN13_0 a k) i m39 (k400,i40,xs) (lI13_0 a (m39+1) k400 i40 xs)
abbrev lE13_0 (k400:Int) (i40:Int) (xs:List ByteArray) (k400_:Int) (i40_:Int) (xs_:List ByteArray) (K39:Prop):Prop:=((.int .i64 k400:Value)=.int .i64 k400_)∧((.int .i64 i40:Value)=.int .i64 i40_)∧(Imp (.l 1 eStr xs) (.l 1 eStr xs_))∧K39
theorem un13_0 (a:List ByteArray) (k:Int) (i:Nat×(Int×Int×List ByteArray)) (h:lJ13_0 a k i):lH13_0 a k i (i.1-1) i.2.1 i.2.2.1 i.2.2.2:=⟨hd1 h.1 h.2.1,hd3 h.2.1,hd2 h.2.1,h.2.2⟩
theorem bk13_0 (a:List ByteArray) (k:Int) (i:Nat×(Int×Int×List ByteArray)) (m39:Nat) (k400:Int) (i40:Int) (xs:List ByteArray) (hl:m39<i.1) (e:runL (F13_s0 a k) m39 (k400,i40,xs)=lX13_0 a k) (h:lI13_0 a m39 k400 i40 xs):∃ j:Nat×(Int×Int×List ByteArray),lE13_0 k400 i40 xs j.2.1 j.2.2.1 j.2.2.2 (lJ13_0 a k j∧j.1<i.1):=⟨(m39,(k400,i40,xs)),rfl,rfl,Imp.refl _,⟨e,h⟩,hl⟩
theorem en13_0 (a:List ByteArray) (k:Int) (h:(0:Int)≤k∧k+((a.length:Int)-0)≤1000000000∧(0:Int)≤0∧a.length=a.length):lE13_0 k 0 a k 0 a (lJ13_0 a k (lN13_0 a k)):=⟨rfl,rfl,Imp.refl _,rfl,Nat.lt_succ_self _,h⟩
theorem fi13 (a:List ByteArray) (k:Int) (r:Int×List ByteArray) (hF:r=(F13 a k)):((.int .i64 r.1:Value)=.int .i64 (F13 a k).1)∧(Imp (.l 1 eStr r.2) (.l 1 eStr (F13 a k).2))∧True:=by cases hF; exact ⟨rfl,Imp.refl _,trivial⟩
def S13 (a:List ByteArray) (k:Int):Spec:=⟨[.ow (.l 1 eStr a) (some (.l 1 eStr (F13 a k).2)),.r (.c (.v (vI k)))],.v (vI (F13 a k).1),0≤k∧k+(a.length:Int)≤1000000000⟩
theorem ok13 (a:List ByteArray) (k:Int):(S13 a k).ok Tryz.prog 13 :=
 fnG_ok mixed (fn:=Tryz.f13) (ct:=.seqk [(0,0)] .no (.seq (.seqk [(0,0)] .no (.blk (.loop (ι:=Nat×(Int×Int×List ByteArray)) (fun i=>(fun (k400:Int) (i40:Int) (xs:List ByteArray)=>(⟨[(0,some (.h 0 0)),(1,some (.v (vI k400))),(5,some (.v (vI i40)))],[(0,some (.own 0 (.l 1 eStr xs)))],1⟩:St)) i.2.1 i.2.2.1 i.2.2.2) (lJ13_0 a k) (fun i=>i.1) (lN13_0 a k) (fun i=>(fun (k400:Int) (i40:Int) (xs:List ByteArray)=>(.seq (.seq .no (.cond .no .no)) (.seq (.blk (.seq (.reg [(3,kh39 k400),(5,.dat (.l 1 eStr (xs.set (i40).toNat (F39 k400))))]) (.reg [(1,.bnd)]))) (.reg [(1,.bnd)])))) i.2.1 i.2.2.1 i.2.2.2)))) (.seq .no .no))) Tryz.func13 (fun (hp:0≤k∧k+(a.length:Int)≤1000000000)=>have hpre0:=hp.1; have hpre1:=hp.2; kn a fun _=>kn a fun _=>ai (en13_0 a k (by refine ⟨?_,?_,?_,?_⟩ <;> first | omega | (simp only [lens,ib] at*<;> omega))) (fun (i0:Nat×(Int×Int×List ByteArray)) (hi0:lJ13_0 a k i0)=>(fun (m0:Nat) (k400:Int) (i40:Int) (xs:List ByteArray) (hh0:lH13_0 a k i0 m0 k400 i40 xs)=>have hI0:=hh0.1; have hl0:=hh0.2.1; have _:=hh0.2.2.1; have _:=hh0.2.2.2; ifd (i40<(xs.length:Int)) (fun h2 _=>kc39 k400 (by first | omega | (simp only [lens,ib] at*<;> omega)) (ai (by first | omega | (simp only [lens,ib] at*<;> omega):ib i40 xs) (ai (setr 1 eStr xs (i40).toNat (F39 k400)) (ai (iok (k400+1) (by first | omega | (simp only [lens,ib] at*<;> omega))) (ai (iok (i40+1) (by first | omega | (simp only [lens,ib] at*<;> omega))) (bk13_0 a k i0 m0 (k400+1) (i40+1) (xs.set (i40).toNat (F39 k400)) hl0 (runL_next hI0 (condT h2 rfl)) (by refine ⟨?_,?_,?_,?_,?_⟩ <;> first | omega | (simp only [lens,ib] at*<;> omega)))))))) (fun h2 _=>have hD0_3:lX13_0 a k=Lp.done (k400,i40,xs):=runL_done hI0 (condF h2 rfl); fi13 a k (k400,xs) (finD hD0_3 rfl))) (i0.1-1) i0.2.1 i0.2.2.1 i0.2.2.2 (un13_0 a k i0 hi0))) (by kernel_rfl)
theorem g13_0 (a:List ByteArray) (k:Int):(F13 a k).2.length=a.length:=by
 have h:=runL_rule (step:=F13_s0 a k) (fun i (s:Int×List ByteArray)=>(s.1,(i:Int),s.2)) a.length (fun _ s=>s.2.length=a.length) (fun _=>False) (fun i s hi hs=>.inl ⟨(s.1+1,s.2.set i (F39 s.1)),by simp only [F13_s0,hs,decide_eq_true (show (i:Int)<(a.length:Int) by omega),cond_true,Int.toNat_natCast]; rfl,by simpa using hs⟩) (fun s hs=>by simp only [F13_s0,hs,decide_eq_false (show ¬ (a.length:Int)<(a.length:Int) by omega),cond_false]) a.length 0 (k,a) (by omega) rfl (Int.toNat ((a.length:Int)-0)+1) (by omega)
 show ((runL (F13_s0 a k) (Int.toNat ((a.length:Int)-0)+1) (k,0,a)).fin (fun r=>r) (fun (k400,i40,xs)=>(k400,xs))).2.length=a.length
 rcases h with ⟨s,e,hs⟩ | ⟨r,_,hr⟩
 ·rw [show (k,(0:Int),a)=((k,a).1,((0:Nat):Int),(k,a).2) from rfl,e]; exact hs
 ·exact hr.elim
theorem mark_fst (a:List ByteArray) (k:Int):(F13 a k).1=k+(a.length:Int):=by
 have h:=runL_rule (step:=F13_s0 a k) (fun i (s:Int×List ByteArray)=>(s.1,(i:Int),s.2)) a.length (fun i s=>s.2.length=a.length∧s.1=k+(i:Int)) (fun _=>False) (fun i s hi hs=>.inl ⟨(s.1+1,s.2.set i (F39 s.1)),by simp only [F13_s0,hs.1,decide_eq_true (show (i:Int)<(a.length:Int) by omega),cond_true,Int.toNat_natCast]; rfl,by
   refine ⟨by simpa using hs.1,?_⟩
   have:=hs.2
   show s.1+1=k+((i+1:Nat):Int)
   omega⟩) (fun s hs=>by simp only [F13_s0,hs.1,decide_eq_false (show ¬ (a.length:Int)<(a.length:Int) by omega),cond_false]) a.length 0 (k,a) (by omega) ⟨rfl,by simp⟩ (Int.toNat ((a.length:Int)-0)+1) (by omega)
 show ((runL (F13_s0 a k) (Int.toNat ((a.length:Int)-0)+1) (k,0,a)).fin (fun r=>r) (fun (k400,i40,xs)=>(k400,xs))).1=k+(a.length:Int)
 rcases h with ⟨s,e,hs⟩ | ⟨r,_,hr⟩
 ·rw [show (k,(0:Int),a)=((k,a).1,((0:Nat):Int),(k,a).2) from rfl,e]; exact hs.2
 ·exact hr.elim
theorem sumL_len {α:Type} (L:α→Nat) (c:Nat) (h:∀ x,L x=c):∀ xs:List α,sumL L xs=xs.length*c
 | []=>(Nat.zero_mul c).symm
 | x :: xs=>by rw [sumL_cons,sumL_len L c h xs,List.length_cons,Nat.add_one_mul,h x,Nat.add_comm]
def F9_s0 (a:List ByteArray):(Int×List ByteArray)→Lp (Int×List ByteArray) (List ByteArray):=fun (i40,xs) =>
 bif (decide (i40<(a.length:Int))) then (.next ((i40+1),(xs.set (i40).toNat (a.getD i40.toNat default)))) else (.done (i40,xs))
def F9 (a:List ByteArray):List ByteArray :=
 (runL (F9_s0 a) (((a.length:Int)-0).toNat+1) (0,(List.replicate (a.length:Int).toNat ((⟨#[]⟩:ByteArray):ByteArray)))).fin (fun r=>r) (fun (i40,xs)=>xs)
abbrev lN9_0 (a:List ByteArray):Nat×(Int×List ByteArray):=((((a.length:Int)-0).toNat+1),(0,(List.replicate (a.length:Int).toNat (w13_:ByteArray))))
abbrev lI9_0 (a:List ByteArray) (m39:Nat) (i40:Int) (xs:List ByteArray):Prop:=Int.toNat ((a.length:Int)-i40)<m39∧(0:Int)≤i40∧xs.length=(List.replicate (a.length:Int).toNat (w13_:ByteArray)).length
abbrev lX9_0 (a:List ByteArray):Lp (Int×List ByteArray) (List ByteArray):=LpX (F9_s0 a) (lN9_0 a)
abbrev lJ9_0 (a:List ByteArray) (i:Nat×(Int×List ByteArray)):Prop:=LpJ (F9_s0 a) (lN9_0 a) i (lI9_0 a i.1 i.2.1 i.2.2)
abbrev lH9_0 (a:List ByteArray) (i:Nat×(Int×List ByteArray)) (m39:Nat) (i40:Int) (xs:List ByteArray):Prop:=LpH (F9_s0 a) (lN9_0 a) i m39 (i40,xs) (lI9_0 a (m39+1) i40 xs)
abbrev lE9_0 (a:List ByteArray) (i40:Int) (xs:List ByteArray) (i40_:Int) (xs_:List ByteArray) (K39:Prop):Prop:=((.int .i64 i40:Value)=.int .i64 i40_)∧(Im (.l 1 eStr a))∧(Imp (.l 1 eStr xs) (.l 1 eStr xs_))∧K39
theorem un9_0 (a:List ByteArray) (i:Nat×(Int×List ByteArray)) (h:lJ9_0 a i):lH9_0 a i (i.1-1) i.2.1 i.2.2:=⟨hd1 h.1 h.2.1,hd3 h.2.1,hd2 h.2.1,h.2.2⟩
theorem bk9_0 (a:List ByteArray) (i:Nat×(Int×List ByteArray)) (m39:Nat) (i40:Int) (xs:List ByteArray) (hl:m39<i.1) (e:runL (F9_s0 a) m39 (i40,xs)=lX9_0 a) (h:lI9_0 a m39 i40 xs):∃ j:Nat×(Int×List ByteArray),lE9_0 a i40 xs j.2.1 j.2.2 (lJ9_0 a j∧j.1<i.1):=⟨(m39,(i40,xs)),rfl,Imp.refl _,Imp.refl _,⟨e,h⟩,hl⟩
theorem en9_0 (a:List ByteArray) (h:(0:Int)≤0∧(List.replicate (a.length:Int).toNat (w13_:ByteArray)).length=(List.replicate (a.length:Int).toNat (w13_:ByteArray)).length):lE9_0 a 0 (List.replicate (a.length:Int).toNat (w13_:ByteArray)) 0 (List.replicate (a.length:Int).toNat (w13_:ByteArray)) (lJ9_0 a (lN9_0 a)):=⟨rfl,Imp.refl _,Imp.refl _,rfl,Nat.lt_succ_self _,h⟩
theorem fi9 (a:List ByteArray) (r:List ByteArray) (hF:r=(F9 a)):(Imp (.l 1 eStr r) (.l 1 eStr (F9 a)))∧True:=by cases hF; exact ⟨Imp.refl _,trivial⟩
def S9 (R:List ByteArray) (a:List ByteArray):Spec:=⟨[.r (.c (.l 1 eStr a))],.ow (.l 1 eStr R),a.length≤1000000000∧(∀ k:Nat,(a.getD k default).size≤1000000000)⟩
theorem ok9 (a:List ByteArray):(S9 (F9 a) a).ok Tryz.prog 9 :=
 fnG_ok mixed (fn:=Tryz.f9) (ct:=.seqk [(0,0)] .no (.seq (.reg [(2,.dat (.l 1 eStr (List.replicate (a.length:Int).toNat (w13_:ByteArray))))]) (.seq (.seqk [(0,0),(3,0)] .no (.blk (.loop (ι:=Nat×(Int×List ByteArray)) (fun i=>(fun (i40:Int) (xs:List ByteArray)=>(⟨[(0,some (.h 0 0)),(3,some (.h 1 0)),(4,some (.v (vI i40)))],[(0,some (.shr none (.l 1 eStr a))),(1,some (.own 1 (.l 1 eStr xs)))],2⟩:St)) i.2.1 i.2.2) (lJ9_0 a) (fun i=>i.1) (lN9_0 a) (fun i=>(fun (i40:Int) (xs:List ByteArray)=>(.seq (.seq .no (.cond .no .no)) (.seq (.blk (.reg [(7,.dat (.l 1 eStr (xs.set (i40).toNat (a.getD i40.toNat default))))])) (.reg [(1,.bnd)])))) i.2.1 i.2.2)))) (.seq .no .no)))) Tryz.func9 (fun (hp:a.length≤1000000000∧(∀ k:Nat,(a.getD k default).size≤1000000000))=>have hpre0:=hp.1; have hpre1:=hp.2; kn a fun _=>ai (by first | omega | (simp only [lens,ib] at*<;> omega):0≤(a.length:Int)∧(a.length:Int)≤(a.length:Int)∧(16:Int)*(a.length:Int)≤281474976710656) (ai (MakeOK.mk eStr (w13_:ByteArray) (by exact ai ir trivial):MakeOK 1 [.v (.string w13_)] (a.length:Int).toNat (.l 1 eStr (List.replicate (a.length:Int).toNat (w13_:ByteArray)))) (kn a fun _=>kn (List.replicate (a.length:Int).toNat (w13_:ByteArray)) fun _=>ai (en9_0 a (by refine ⟨?_,?_⟩ <;> first | omega | (simp only [lens,ib] at*<;> omega))) (fun (i0:Nat×(Int×List ByteArray)) (hi0:lJ9_0 a i0)=>(fun (m0:Nat) (i40:Int) (xs:List ByteArray) (hh0:lH9_0 a i0 m0 i40 xs)=>have hI0:=hh0.1; have hl0:=hh0.2.1; have _:=hh0.2.2.1; have _:=hh0.2.2.2; ifd (i40<(a.length:Int)) (fun h2 _=>ai (by first | omega | (simp only [lens,ib] at*<;> omega):ib i40 a) (ai (by first | omega | (simp only [lens,ib] at*<;> omega):ib i40 xs) (ai (setr 1 eStr xs (i40).toNat (a.getD i40.toNat default)) (ai (iok (i40+1) (by first | omega | (simp only [lens,ib] at*<;> omega))) (bk9_0 a i0 m0 (i40+1) (xs.set (i40).toNat (a.getD i40.toNat default)) hl0 (runL_next hI0 (condT h2 rfl)) (by refine ⟨?_,?_,?_⟩ <;> first | omega | (simp only [lens,ib] at*<;> omega))))))) (fun h2 _=>have hD0_3:lX9_0 a=Lp.done (i40,xs):=runL_done hI0 (condF h2 rfl); fi9 a xs (finD hD0_3 rfl))) (i0.1-1) i0.2.1 i0.2.2 (un9_0 a i0 hi0))))) (by kernel_rfl)
theorem as9 (a:List ByteArray):F9 a=(a):=by
 exact to_loop (fun x=>x) (fun _=>rfl) a _ (by simp) (F9_s0 a) (fun i xs=>rfl)
theorem oa9 (a:List ByteArray):(S9 (a) a).ok Tryz.prog 9:=by
 intro hp; have h:=ok9 a hp; rw [as9 a] at h; exact h
def F38 (a:Qa) (b:Qa):Bool :=
 bif (a.Addr != b.Addr) then false else (bif (a.Len != b.Len) then false else (bif (a.Cost != b.Cost) then false else (bif (a.Label != b.Label) then false else true)))
def S38 (R:Bool) (a:Qa) (b:Qa):Spec:=⟨[.r (.g (eHelloEntry a)),.r (.g (eHelloEntry b))],.v (.bool R),True⟩
theorem ok38 (a:Qa) (b:Qa):(S38 (F38 a b) a b).ok Tryz.prog 38 :=
 fnG_ok mixed (fn:=Tryz.f38) (ct:=.seq .no (.seq (.seq .no (.cond (.seq .no .no) .no)) (.seq (.seq .no (.cond (.seq .no .no) .no)) (.seq (.seq .no (.cond (.seq .no .no) .no)) (.seq (.seq .no (.cond (.seq .no .no) .no)) (.seq .no .no)))))) Tryz.func38 (fun (_:True)=>ifn a.Addr b.Addr (fun h1 _=>fiB false (F38 a b) (condT h1 rfl)) (fun h1 _=>ifn a.Len b.Len (fun h2 _=>fiB false (F38 a b) (condF h1 (condT h2 rfl))) (fun h2 _=>ifn a.Cost b.Cost (fun h3 _=>fiB false (F38 a b) (condF h1 (condF h2 (condT h3 rfl)))) (fun h3 _=>ifn a.Label b.Label (fun h4 _=>fiB false (F38 a b) (condF h1 (condF h2 (condF h3 (condT h4 rfl))))) (fun h4 _=>fiB true (F38 a b) (condF h1 (condF h2 (condF h3 (condF h4 rfl))))))))) (by kernel_rfl)
theorem as38 (a:Qa) (b:Qa):F38 a b=(decide (a=b)):=by
 cases a; cases b
 simp only [F38,Qa.mk.injEq,neI,neB,neS,eqstep,Bool.decide_and,Bool.and_true]
theorem oa38 (a:Qa) (b:Qa):(S38 (decide (a=b)) a b).ok Tryz.prog 38:=by
 intro hp; have h:=ok38 a b hp; rw [as38 a b] at h; exact h
theorem kc38a (a:Qa) (b:Qa) {K_:Prop} (k_:K_):(True)∧(Imps (eHelloEntry a) (eHelloEntry a))∧(Imps (eHelloEntry b) (eHelloEntry b))∧K_:=⟨trivial,Imps.refl _,Imps.refl _,k_⟩
abbrev kh38a (a:Qa) (b:Qa):Hint true Tryz.prog:=.call 38 (S38 (decide (a=b)) a b) (oa38 a b) none
def F11_s0 (a:List Qa) (b:List Qa):Int→Lp Int Bool:=fun i40 =>
 bif (decide (i40<(a.length:Int))) then (bif (!(decide ((a.getD i40.toNat default)=(b.getD i40.toNat default)))) then (.ret false) else (.next (i40+1))) else (.done i40)
def F11 (a:List Qa) (b:List Qa):Bool :=
 bif ((a.length:Int) != (b.length:Int)) then false else ((runL (F11_s0 a b) (((a.length:Int)-0).toNat+1) 0).fin (fun r=>r) (fun i40=>true))
abbrev lN11_0 (a:List Qa):Nat×Int:=((((a.length:Int)-0).toNat+1),0)
abbrev lI11_0 (a:List Qa) (m39:Nat) (i40:Int):Prop:=Int.toNat ((a.length:Int)-i40)<m39∧(0:Int)≤i40
abbrev lX11_0 (a:List Qa) (b:List Qa):Lp Int Bool:=LpX (F11_s0 a b) (lN11_0 a)
abbrev lJ11_0 (a:List Qa) (b:List Qa) (i:Nat×Int):Prop:=LpJ (F11_s0 a b) (lN11_0 a) i (lI11_0 a i.1 i.2)
abbrev lH11_0 (a:List Qa) (b:List Qa) (i:Nat×Int) (m39:Nat) (i40:Int):Prop:=LpH (F11_s0 a b) (lN11_0 a) i m39 i40 (lI11_0 a (m39+1) i40)
abbrev lE11_0 (a:List Qa) (b:List Qa) (i40:Int) (i40_:Int) (K39:Prop):Prop:=((.int .i64 i40:Value)=.int .i64 i40_)∧(Im (.l 4 eHelloEntry a))∧(Im (.l 4 eHelloEntry b))∧K39
theorem un11_0 (a:List Qa) (b:List Qa) (i:Nat×Int) (h:lJ11_0 a b i):lH11_0 a b i (i.1-1) i.2:=⟨hd1 h.1 h.2.1,hd3 h.2.1,hd2 h.2.1,h.2.2⟩
theorem bk11_0 (a:List Qa) (b:List Qa) (i:Nat×Int) (m39:Nat) (i40:Int) (hl:m39<i.1) (e:runL (F11_s0 a b) m39 i40=lX11_0 a b) (h:lI11_0 a m39 i40):∃ j:Nat×Int,lE11_0 a b i40 j.2 (lJ11_0 a b j∧j.1<i.1):=⟨(m39,i40),rfl,Imp.refl _,Imp.refl _,⟨e,h⟩,hl⟩
theorem en11_0 (a:List Qa) (b:List Qa) (h:(0:Int)≤0):lE11_0 a b 0 0 (lJ11_0 a b (lN11_0 a)):=⟨rfl,Imp.refl _,Imp.refl _,rfl,Nat.lt_succ_self _,h⟩
def S11 (R:Bool) (a:List Qa) (b:List Qa):Spec:=⟨[.r (.c (.l 4 eHelloEntry a)),.r (.c (.l 4 eHelloEntry b))],.v (.bool R),True⟩
theorem ok11 (a:List Qa) (b:List Qa):(S11 (F11 a b) a b).ok Tryz.prog 11 :=
 fnG_ok mixed (fn:=Tryz.f11) (ct:=.seqk [(0,0),(1,0)] .no (.seq (.seq .no (.cond (.seq .no .no) .no)) (.seq (.seqk [(0,0),(1,0)] .no (.blk (.loop (ι:=Nat×Int) (fun i=>(fun (i40:Int)=>(⟨[(0,some (.h 0 0)),(1,some (.h 1 0)),(5,some (.v (vI i40)))],[(0,some (.shr none (.l 4 eHelloEntry a))),(1,some (.shr none (.l 4 eHelloEntry b)))],2⟩:St)) i.2) (lJ11_0 a b) (fun i=>i.1) (lN11_0 a) (fun i=>(fun (i40:Int)=>(.seq (.seq .no (.cond .no .no)) (.seq (.blk (.seq (.reg [(8,kh38a (a.getD i40.toNat default) (b.getD i40.toNat default))]) (.cond (.seq .no .no) .no))) (.reg [(1,.bnd)])))) i.2)))) (.seq .no .no)))) Tryz.func11 (fun (_:True)=>kn a fun _=>kn b fun _=>ifn (a.length:Int) (b.length:Int) (fun h1 _=>fiB false (F11 a b) (condT h1 rfl)) (fun h1 _=>kn a fun _=>kn b fun _=>ai (en11_0 a b (by omega)) (fun (i0:Nat×Int) (hi0:lJ11_0 a b i0)=>(fun (m0:Nat) (i40:Int) (hh0:lH11_0 a b i0 m0 i40)=>have hI0:=hh0.1; have hl0:=hh0.2.1; have _:=hh0.2.2.1; have _:=hh0.2.2.2; ifd (i40<(a.length:Int)) (fun h3 _=>ai (by omega:ib i40 a) (ai (by omega:ib i40 b) (kc38a (a.getD i40.toNat default) (b.getD i40.toNat default) (ifb (!(decide ((a.getD i40.toNat default)=(b.getD i40.toNat default)))) (fun h4=>have _:=of_decide_eq_false (notET h4); fiB false (F11 a b) (condF h1 (finR (runL_ret hI0 (condT h3 (condT h4 rfl))) rfl))) (fun h4=>have _:=of_decide_eq_true (notEF h4); ai (iok (i40+1) (by omega)) (bk11_0 a b i0 m0 (i40+1) hl0 (runL_next hI0 (condT h3 (condF h4 rfl))) (by refine ⟨?_,?_⟩ <;> omega))))))) (fun h3 _=>have hD0_5:lX11_0 a b=Lp.done i40:=runL_done hI0 (condF h3 rfl); fiB true (F11 a b) (condF h1 (finD hD0_5 rfl)))) (i0.1-1) i0.2 (un11_0 a b i0 hi0)))) (by kernel_rfl)
theorem as11 (a:List Qa) (b:List Qa):F11 a b=(decide (a=b)):=by
 exact eq_loop (fun x y=>decide (x=y)) (fun _ _=>rfl) a b (F11_s0 a b) (fun i=>rfl)
theorem oa11 (a:List Qa) (b:List Qa):(S11 (decide (a=b)) a b).ok Tryz.prog 11:=by
 intro hp; have h:=ok11 a b hp; rw [as11 a b] at h; exact h
def F12_s0 (a:List ByteArray) (b:List ByteArray):Int→Lp Int Bool:=fun i40 =>
 bif (decide (i40<(a.length:Int))) then (bif (!((a.getD i40.toNat default).toList==(b.getD i40.toNat default).toList)) then (.ret false) else (.next (i40+1))) else (.done i40)
def F12 (a:List ByteArray) (b:List ByteArray):Bool :=
 bif ((a.length:Int) != (b.length:Int)) then false else ((runL (F12_s0 a b) (((a.length:Int)-0).toNat+1) 0).fin (fun r=>r) (fun i40=>true))
abbrev lN12_0 (a:List ByteArray):Nat×Int:=((((a.length:Int)-0).toNat+1),0)
abbrev lI12_0 (a:List ByteArray) (m39:Nat) (i40:Int):Prop:=Int.toNat ((a.length:Int)-i40)<m39∧(0:Int)≤i40
abbrev lX12_0 (a:List ByteArray) (b:List ByteArray):Lp Int Bool:=LpX (F12_s0 a b) (lN12_0 a)
abbrev lJ12_0 (a:List ByteArray) (b:List ByteArray) (i:Nat×Int):Prop:=LpJ (F12_s0 a b) (lN12_0 a) i (lI12_0 a i.1 i.2)
abbrev lH12_0 (a:List ByteArray) (b:List ByteArray) (i:Nat×Int) (m39:Nat) (i40:Int):Prop:=LpH (F12_s0 a b) (lN12_0 a) i m39 i40 (lI12_0 a (m39+1) i40)
abbrev lE12_0 (a:List ByteArray) (b:List ByteArray) (i40:Int) (i40_:Int) (K39:Prop):Prop:=((.int .i64 i40:Value)=.int .i64 i40_)∧(Im (.l 1 eStr a))∧(Im (.l 1 eStr b))∧K39
theorem un12_0 (a:List ByteArray) (b:List ByteArray) (i:Nat×Int) (h:lJ12_0 a b i):lH12_0 a b i (i.1-1) i.2:=⟨hd1 h.1 h.2.1,hd3 h.2.1,hd2 h.2.1,h.2.2⟩
theorem bk12_0 (a:List ByteArray) (b:List ByteArray) (i:Nat×Int) (m39:Nat) (i40:Int) (hl:m39<i.1) (e:runL (F12_s0 a b) m39 i40=lX12_0 a b) (h:lI12_0 a m39 i40):∃ j:Nat×Int,lE12_0 a b i40 j.2 (lJ12_0 a b j∧j.1<i.1):=⟨(m39,i40),rfl,Imp.refl _,Imp.refl _,⟨e,h⟩,hl⟩
theorem en12_0 (a:List ByteArray) (b:List ByteArray) (h:(0:Int)≤0):lE12_0 a b 0 0 (lJ12_0 a b (lN12_0 a)):=⟨rfl,Imp.refl _,Imp.refl _,rfl,Nat.lt_succ_self _,h⟩
def S12 (R:Bool) (a:List ByteArray) (b:List ByteArray):Spec:=⟨[.r (.c (.l 1 eStr a)),.r (.c (.l 1 eStr b))],.v (.bool R),True⟩
theorem ok12 (a:List ByteArray) (b:List ByteArray):(S12 (F12 a b) a b).ok Tryz.prog 12 :=
 fnG_ok mixed (fn:=Tryz.f12) (ct:=.seqk [(0,0),(1,0)] .no (.seq (.seq .no (.cond (.seq .no .no) .no)) (.seq (.seqk [(0,0),(1,0)] .no (.blk (.loop (ι:=Nat×Int) (fun i=>(fun (i40:Int)=>(⟨[(0,some (.h 0 0)),(1,some (.h 1 0)),(5,some (.v (vI i40)))],[(0,some (.shr none (.l 1 eStr a))),(1,some (.shr none (.l 1 eStr b)))],2⟩:St)) i.2) (lJ12_0 a b) (fun i=>i.1) (lN12_0 a) (fun i=>(fun (i40:Int)=>(.seq (.seq .no (.cond .no .no)) (.seq (.blk (.seq .no (.cond (.seq .no .no) .no))) (.reg [(1,.bnd)])))) i.2)))) (.seq .no .no)))) Tryz.func12 (fun (_:True)=>kn a fun _=>kn b fun _=>ifn (a.length:Int) (b.length:Int) (fun h1 _=>fiB false (F12 a b) (condT h1 rfl)) (fun h1 _=>kn a fun _=>kn b fun _=>ai (en12_0 a b (by omega)) (fun (i0:Nat×Int) (hi0:lJ12_0 a b i0)=>(fun (m0:Nat) (i40:Int) (hh0:lH12_0 a b i0 m0 i40)=>have hI0:=hh0.1; have hl0:=hh0.2.1; have _:=hh0.2.2.1; have _:=hh0.2.2.2; ifd (i40<(a.length:Int)) (fun h3 _=>ai (by omega:ib i40 a) (ai (by omega:ib i40 b) (ifb (!((a.getD i40.toNat default).toList==(b.getD i40.toNat default).toList)) (fun h4=>fiB false (F12 a b) (condF h1 (finR (runL_ret hI0 (condT h3 (condT h4 rfl))) rfl))) (fun h4=>ai (iok (i40+1) (by omega)) (bk12_0 a b i0 m0 (i40+1) hl0 (runL_next hI0 (condT h3 (condF h4 rfl))) (by refine ⟨?_,?_⟩ <;> omega)))))) (fun h3 _=>have hD0_5:lX12_0 a b=Lp.done i40:=runL_done hI0 (condF h3 rfl); fiB true (F12 a b) (condF h1 (finD hD0_5 rfl)))) (i0.1-1) i0.2 (un12_0 a b i0 hi0)))) (by kernel_rfl)
theorem as12 (a:List ByteArray) (b:List ByteArray):F12 a b=(decide (a=b)):=by
 exact eq_loop (fun x y=>decide (x=y)) (fun _ _=>rfl) a b (F12_s0 a b) (fun i=>by simp only [F12_s0,neI,neB,neS])
theorem oa12 (a:List ByteArray) (b:List ByteArray):(S12 (decide (a=b)) a b).ok Tryz.prog 12:=by
 intro hp; have h:=ok12 a b hp; rw [as12 a b] at h; exact h
def F14_s0 (a:List Qa) (k:Int):(Int×Int×List Qa)→Lp (Int×Int×List Qa) (Int×List Qa):=fun (k400,i40,xs) =>
 bif (decide (i40<(xs.length:Int))) then (.next ((IntKind.i64.wrap ((IntKind.i64.wrap ((IntKind.i64.wrap ((IntKind.i64.wrap (k400+1))+1))+1))+1)),(i40+1),(xs.set (i40).toNat (⟨k400,(IntKind.i64.wrap (k400+1)),(IntKind.i64.wrap ((IntKind.i64.wrap (k400+1))+1)),(IntKind.i64.wrap ((IntKind.i64.wrap ((IntKind.i64.wrap (k400+1))+1))+1))⟩:Qa)))) else (.done (k400,i40,xs))
def F14 (a:List Qa) (k:Int):Int×List Qa :=
 (runL (F14_s0 a k) (((a.length:Int)-0).toNat+1) (k,0,a)).fin (fun r=>r) (fun (k400,i40,xs)=>(k400,xs))
abbrev lN14_0 (a:List Qa) (k:Int):Nat×(Int×Int×List Qa):=((((a.length:Int)-0).toNat+1),(k,0,a))
abbrev lI14_0 (a:List Qa) (m39:Nat) (k400:Int) (i40:Int) (xs:List Qa):Prop:=Int.toNat ((xs.length:Int)-i40)<m39∧(0:Int)≤i40∧xs.length=a.length
abbrev lX14_0 (a:List Qa) (k:Int):Lp (Int×Int×List Qa) (Int×List Qa):=LpX (F14_s0 a k) (lN14_0 a k)
abbrev lJ14_0 (a:List Qa) (k:Int) (i:Nat×(Int×Int×List Qa)):Prop:=LpJ (F14_s0 a k) (lN14_0 a k) i (lI14_0 a i.1 i.2.1 i.2.2.1 i.2.2.2)
abbrev lH14_0 (a:List Qa) (k:Int) (i:Nat×(Int×Int×List Qa)) (m39:Nat) (k400:Int) (i40:Int) (xs:List Qa):Prop:=LpH (F14_s0 a k) (lN14_0 a k) i m39 (k400,i40,xs) (lI14_0 a (m39+1) k400 i40 xs)
abbrev lE14_0 (k400:Int) (i40:Int) (xs:List Qa) (k400_:Int) (i40_:Int) (xs_:List Qa) (K39:Prop):Prop:=((.int .i64 k400:Value)=.int .i64 k400_)∧((.int .i64 i40:Value)=.int .i64 i40_)∧(Imp (.l 4 eHelloEntry xs) (.l 4 eHelloEntry xs_))∧K39
theorem un14_0 (a:List Qa) (k:Int) (i:Nat×(Int×Int×List Qa)) (h:lJ14_0 a k i):lH14_0 a k i (i.1-1) i.2.1 i.2.2.1 i.2.2.2:=⟨hd1 h.1 h.2.1,hd3 h.2.1,hd2 h.2.1,h.2.2⟩
theorem bk14_0 (a:List Qa) (k:Int) (i:Nat×(Int×Int×List Qa)) (m39:Nat) (k400:Int) (i40:Int) (xs:List Qa) (hl:m39<i.1) (e:runL (F14_s0 a k) m39 (k400,i40,xs)=lX14_0 a k) (h:lI14_0 a m39 k400 i40 xs):∃ j:Nat×(Int×Int×List Qa),lE14_0 k400 i40 xs j.2.1 j.2.2.1 j.2.2.2 (lJ14_0 a k j∧j.1<i.1):=⟨(m39,(k400,i40,xs)),rfl,rfl,Imp.refl _,⟨e,h⟩,hl⟩
theorem en14_0 (a:List Qa) (k:Int) (h:(0:Int)≤0∧a.length=a.length):lE14_0 k 0 a k 0 a (lJ14_0 a k (lN14_0 a k)):=⟨rfl,rfl,Imp.refl _,rfl,Nat.lt_succ_self _,h⟩
theorem fi14 (a:List Qa) (k:Int) (r:Int×List Qa) (hF:r=(F14 a k)):((.int .i64 r.1:Value)=.int .i64 (F14 a k).1)∧(Imp (.l 4 eHelloEntry r.2) (.l 4 eHelloEntry (F14 a k).2))∧True:=by cases hF; exact ⟨rfl,Imp.refl _,trivial⟩
def S14 (a:List Qa) (k:Int):Spec:=⟨[.ow (.l 4 eHelloEntry a) (some (.l 4 eHelloEntry (F14 a k).2)),.r (.c (.v (vI k)))],.v (vI (F14 a k).1),True⟩
abbrev q14_1 (k400:Int) (xs:List Qa) (i40:Int):=(⟨k400,(xs.getD i40.toNat default).Len,(xs.getD i40.toNat default).Cost,(xs.getD i40.toNat default).Label⟩:Qa)
abbrev q14_2 (xs:List Qa) (i40:Int):=(xs.getD i40.toNat default)
theorem ok14 (a:List Qa) (k:Int):(S14 a k).ok Tryz.prog 14 :=
 fnG_ok mixed (fn:=Tryz.f14) (ct:=.seqk [(0,0)] .no (.seq (.seqk [(0,0)] .no (.blk (.loop (ι:=Nat×(Int×Int×List Qa)) (fun i=>(fun (k400:Int) (i40:Int) (xs:List Qa)=>(⟨[(0,some (.h 0 0)),(1,some (.v (vI k400))),(5,some (.v (vI i40)))],[(0,some (.own 0 (.l 4 eHelloEntry xs)))],1⟩:St)) i.2.1 i.2.2.1 i.2.2.2) (lJ14_0 a k) (fun i=>i.1) (lN14_0 a k) (fun i=>(fun (k400:Int) (i40:Int) (xs:List Qa)=>(.seq (.seq .no (.cond .no .no)) (.seq (.blk (.seq (.reg [(5,.dat (.l 4 eHelloEntry (xs.set (i40).toNat (q14_1 k400 xs i40))))]) (.seq .no (.seq (.reg [(3,.ix (eHelloEntry (q14_1 k400 xs i40))),(5,.dat (.l 4 eHelloEntry (xs.set (i40).toNat (⟨k400,(IntKind.i64.wrap (k400+1)),(q14_2 xs i40).Cost,(q14_2 xs i40).Label⟩:Qa))))]) (.seq .no (.seq (.reg [(3,.ix (eHelloEntry (⟨k400,(IntKind.i64.wrap (k400+1)),(q14_2 xs i40).Cost,(q14_2 xs i40).Label⟩:Qa))),(5,.dat (.l 4 eHelloEntry (xs.set (i40).toNat (⟨k400,(IntKind.i64.wrap (k400+1)),(IntKind.i64.wrap ((IntKind.i64.wrap (k400+1))+1)),(q14_2 xs i40).Label⟩:Qa))))]) (.seq .no (.seq (.reg [(3,.ix (eHelloEntry (⟨k400,(IntKind.i64.wrap (k400+1)),(IntKind.i64.wrap ((IntKind.i64.wrap (k400+1))+1)),(q14_2 xs i40).Label⟩:Qa))),(5,.dat (.l 4 eHelloEntry (xs.set (i40).toNat (⟨k400,(IntKind.i64.wrap (k400+1)),(IntKind.i64.wrap ((IntKind.i64.wrap (k400+1))+1)),(IntKind.i64.wrap ((IntKind.i64.wrap ((IntKind.i64.wrap (k400+1))+1))+1))⟩:Qa))))]) .no)))))))) (.reg [(1,.bnd)])))) i.2.1 i.2.2.1 i.2.2.2)))) (.seq .no .no))) Tryz.func14 (fun (_:True)=>kn a fun _=>kn a fun _=>ai (en14_0 a k (by refine ⟨?_,?_⟩ <;> first | omega | (simp only [lens,ib] at*<;> omega))) (fun (i0:Nat×(Int×Int×List Qa)) (hi0:lJ14_0 a k i0)=>(fun (m0:Nat) (k400:Int) (i40:Int) (xs:List Qa) (hh0:lH14_0 a k i0 m0 k400 i40 xs)=>have hI0:=hh0.1; have hl0:=hh0.2.1; have _:=hh0.2.2.1; have _:=hh0.2.2.2; ifd (i40<(xs.length:Int)) (fun h2 _=>ai (by first | omega | (simp only [lens,ib] at*<;> omega):ib i40 xs) (ai (setr 4 eHelloEntry xs (i40).toNat (q14_1 k400 xs i40)) (ai (by first | omega | (simp only [lens,ib] at*<;> omega):0≤i40∧i40<((xs.set (i40).toNat (q14_1 k400 xs i40)).length:Int)) (ai (Imps.of_eq (congrArg eHelloEntry (getD_set_eq xs (i40).toNat (q14_1 k400 xs i40) (by first | omega | (simp only [lens,ib] at*<;> omega):(i40).toNat<xs.length)))) (ai (SetOK.mk2 eHelloEntry xs (q14_1 k400 xs i40) (⟨k400,(IntKind.i64.wrap (k400+1)),(q14_2 xs i40).Cost,(q14_2 xs i40).Label⟩:Qa) (by first | omega | (simp only [lens,ib] at*<;> omega):(i40).toNat<xs.length) (by exact ai ir (ai ir (ai ir (ai ir trivial)))):SetOK (.l 4 eHelloEntry (xs.set (i40).toNat (q14_1 k400 xs i40))) (i40).toNat (eHelloEntry (q14_1 k400 xs i40)) [.v (vI k400),.v (vI (IntKind.i64.wrap (k400+1))),.v (vI (q14_2 xs i40).Cost),.v (vI (q14_2 xs i40).Label)] (.l 4 eHelloEntry (xs.set (i40).toNat (⟨k400,(IntKind.i64.wrap (k400+1)),(q14_2 xs i40).Cost,(q14_2 xs i40).Label⟩:Qa)))) (ai (by first | omega | (simp only [lens,ib] at*<;> omega):0≤i40∧i40<((xs.set (i40).toNat (⟨k400,(IntKind.i64.wrap (k400+1)),(q14_2 xs i40).Cost,(q14_2 xs i40).Label⟩:Qa)).length:Int)) (ai (Imps.of_eq (congrArg eHelloEntry (getD_set_eq xs (i40).toNat (⟨k400,(IntKind.i64.wrap (k400+1)),(q14_2 xs i40).Cost,(q14_2 xs i40).Label⟩:Qa) (by first | omega | (simp only [lens,ib] at*<;> omega):(i40).toNat<xs.length)))) (ai (SetOK.mk2 eHelloEntry xs (⟨k400,(IntKind.i64.wrap (k400+1)),(q14_2 xs i40).Cost,(q14_2 xs i40).Label⟩:Qa) (⟨k400,(IntKind.i64.wrap (k400+1)),(IntKind.i64.wrap ((IntKind.i64.wrap (k400+1))+1)),(q14_2 xs i40).Label⟩:Qa) (by first | omega | (simp only [lens,ib] at*<;> omega):(i40).toNat<xs.length) (by exact ai ir (ai ir (ai ir (ai ir trivial)))):SetOK (.l 4 eHelloEntry (xs.set (i40).toNat (⟨k400,(IntKind.i64.wrap (k400+1)),(q14_2 xs i40).Cost,(q14_2 xs i40).Label⟩:Qa))) (i40).toNat (eHelloEntry (⟨k400,(IntKind.i64.wrap (k400+1)),(q14_2 xs i40).Cost,(q14_2 xs i40).Label⟩:Qa)) [.v (vI k400),.v (vI (IntKind.i64.wrap (k400+1))),.v (vI (IntKind.i64.wrap ((IntKind.i64.wrap (k400+1))+1))),.v (vI (q14_2 xs i40).Label)] (.l 4 eHelloEntry (xs.set (i40).toNat (⟨k400,(IntKind.i64.wrap (k400+1)),(IntKind.i64.wrap ((IntKind.i64.wrap (k400+1))+1)),(q14_2 xs i40).Label⟩:Qa)))) (ai (by first | omega | (simp only [lens,ib] at*<;> omega):0≤i40∧i40<((xs.set (i40).toNat (⟨k400,(IntKind.i64.wrap (k400+1)),(IntKind.i64.wrap ((IntKind.i64.wrap (k400+1))+1)),(q14_2 xs i40).Label⟩:Qa)).length:Int)) (ai (Imps.of_eq (congrArg eHelloEntry (getD_set_eq xs (i40).toNat (⟨k400,(IntKind.i64.wrap (k400+1)),(IntKind.i64.wrap ((IntKind.i64.wrap (k400+1))+1)),(q14_2 xs i40).Label⟩:Qa) (by first | omega | (simp only [lens,ib] at*<;> omega):(i40).toNat<xs.length)))) (ai (SetOK.mk2 eHelloEntry xs (⟨k400,(IntKind.i64.wrap (k400+1)),(IntKind.i64.wrap ((IntKind.i64.wrap (k400+1))+1)),(q14_2 xs i40).Label⟩:Qa) (⟨k400,(IntKind.i64.wrap (k400+1)),(IntKind.i64.wrap ((IntKind.i64.wrap (k400+1))+1)),(IntKind.i64.wrap ((IntKind.i64.wrap ((IntKind.i64.wrap (k400+1))+1))+1))⟩:Qa) (by first | omega | (simp only [lens,ib] at*<;> omega):(i40).toNat<xs.length) (by exact ai ir (ai ir (ai ir (ai ir trivial)))):SetOK (.l 4 eHelloEntry (xs.set (i40).toNat (⟨k400,(IntKind.i64.wrap (k400+1)),(IntKind.i64.wrap ((IntKind.i64.wrap (k400+1))+1)),(q14_2 xs i40).Label⟩:Qa))) (i40).toNat (eHelloEntry (⟨k400,(IntKind.i64.wrap (k400+1)),(IntKind.i64.wrap ((IntKind.i64.wrap (k400+1))+1)),(q14_2 xs i40).Label⟩:Qa)) [.v (vI k400),.v (vI (IntKind.i64.wrap (k400+1))),.v (vI (IntKind.i64.wrap ((IntKind.i64.wrap (k400+1))+1))),.v (vI (IntKind.i64.wrap ((IntKind.i64.wrap ((IntKind.i64.wrap (k400+1))+1))+1)))] (.l 4 eHelloEntry (xs.set (i40).toNat (⟨k400,(IntKind.i64.wrap (k400+1)),(IntKind.i64.wrap ((IntKind.i64.wrap (k400+1))+1)),(IntKind.i64.wrap ((IntKind.i64.wrap ((IntKind.i64.wrap (k400+1))+1))+1))⟩:Qa)))) (ai (iok (i40+1) (by first | omega | (simp only [lens,ib] at*<;> omega))) (bk14_0 a k i0 m0 (IntKind.i64.wrap ((IntKind.i64.wrap ((IntKind.i64.wrap ((IntKind.i64.wrap (k400+1))+1))+1))+1)) (i40+1) (xs.set (i40).toNat (⟨k400,(IntKind.i64.wrap (k400+1)),(IntKind.i64.wrap ((IntKind.i64.wrap (k400+1))+1)),(IntKind.i64.wrap ((IntKind.i64.wrap ((IntKind.i64.wrap (k400+1))+1))+1))⟩:Qa)) hl0 (runL_next hI0 (condT h2 rfl)) (by refine ⟨?_,?_,?_⟩ <;> first | omega | (simp only [lens,ib] at*<;> omega))))))))))))))) (fun h2 _=>have hD0_3:lX14_0 a k=Lp.done (k400,i40,xs):=runL_done hI0 (condF h2 rfl); fi14 a k (k400,xs) (finD hD0_3 rfl))) (i0.1-1) i0.2.1 i0.2.2.1 i0.2.2.2 (un14_0 a k i0 hi0))) (by kernel_rfl)
def F15_s0 (a:List Qa) (k:Int):(Int×Int)→Lp (Int×Int) Int:=fun (k400,i40) =>
 bif (decide (i40<(a.length:Int))) then (bif ((a.getD i40.toNat default).Addr != k400) then (.ret (-1)) else (bif ((a.getD i40.toNat default).Len != (IntKind.i64.wrap (k400+1))) then (.ret (-1)) else (bif ((a.getD i40.toNat default).Cost != (IntKind.i64.wrap ((IntKind.i64.wrap (k400+1))+1))) then (.ret (-1)) else (bif ((a.getD i40.toNat default).Label != (IntKind.i64.wrap ((IntKind.i64.wrap ((IntKind.i64.wrap (k400+1))+1))+1))) then (.ret (-1)) else (.next ((IntKind.i64.wrap ((IntKind.i64.wrap ((IntKind.i64.wrap ((IntKind.i64.wrap (k400+1))+1))+1))+1)),(i40+1))))))) else (.done (k400,i40))
def F15 (a:List Qa) (k:Int):Int :=
 (runL (F15_s0 a k) (((a.length:Int)-0).toNat+1) (k,0)).fin (fun r=>r) (fun (k400,i40)=>k400)
abbrev lN15_0 (a:List Qa) (k:Int):Nat×(Int×Int):=((((a.length:Int)-0).toNat+1),(k,0))
abbrev lI15_0 (a:List Qa) (m39:Nat) (k400:Int) (i40:Int):Prop:=Int.toNat ((a.length:Int)-i40)<m39∧(0:Int)≤i40
abbrev lX15_0 (a:List Qa) (k:Int):Lp (Int×Int) Int:=LpX (F15_s0 a k) (lN15_0 a k)
abbrev lJ15_0 (a:List Qa) (k:Int) (i:Nat×(Int×Int)):Prop:=LpJ (F15_s0 a k) (lN15_0 a k) i (lI15_0 a i.1 i.2.1 i.2.2)
abbrev lH15_0 (a:List Qa) (k:Int) (i:Nat×(Int×Int)) (m39:Nat) (k400:Int) (i40:Int):Prop:=LpH (F15_s0 a k) (lN15_0 a k) i m39 (k400,i40) (lI15_0 a (m39+1) k400 i40)
abbrev lE15_0 (a:List Qa) (k400:Int) (i40:Int) (k400_:Int) (i40_:Int) (K39:Prop):Prop:=((.int .i64 k400:Value)=.int .i64 k400_)∧((.int .i64 i40:Value)=.int .i64 i40_)∧(Im (.l 4 eHelloEntry a))∧K39
theorem un15_0 (a:List Qa) (k:Int) (i:Nat×(Int×Int)) (h:lJ15_0 a k i):lH15_0 a k i (i.1-1) i.2.1 i.2.2:=⟨hd1 h.1 h.2.1,hd3 h.2.1,hd2 h.2.1,h.2.2⟩
theorem bk15_0 (a:List Qa) (k:Int) (i:Nat×(Int×Int)) (m39:Nat) (k400:Int) (i40:Int) (hl:m39<i.1) (e:runL (F15_s0 a k) m39 (k400,i40)=lX15_0 a k) (h:lI15_0 a m39 k400 i40):∃ j:Nat×(Int×Int),lE15_0 a k400 i40 j.2.1 j.2.2 (lJ15_0 a k j∧j.1<i.1):=⟨(m39,(k400,i40)),rfl,rfl,Imp.refl _,⟨e,h⟩,hl⟩
theorem en15_0 (a:List Qa) (k:Int) (h:(0:Int)≤0):lE15_0 a k 0 k 0 (lJ15_0 a k (lN15_0 a k)):=⟨rfl,rfl,Imp.refl _,rfl,Nat.lt_succ_self _,h⟩
def S15 (a:List Qa) (k:Int):Spec:=⟨[.r (.c (.l 4 eHelloEntry a)),.r (.c (.v (vI k)))],.v (vI (F15 a k)),True⟩
theorem ok15 (a:List Qa) (k:Int):(S15 a k).ok Tryz.prog 15 :=
 fnG_ok mixed (fn:=Tryz.f15) (ct:=.seqk [(0,0)] .no (.seq (.seqk [(0,0)] .no (.blk (.loop (ι:=Nat×(Int×Int)) (fun i=>(fun (k400:Int) (i40:Int)=>(⟨[(0,some (.h 0 0)),(1,some (.v (vI k400))),(5,some (.v (vI i40)))],[(0,some (.shr none (.l 4 eHelloEntry a)))],1⟩:St)) i.2.1 i.2.2) (lJ15_0 a k) (fun i=>i.1) (lN15_0 a k) (fun i=>(fun (k400:Int) (i40:Int)=>(.seq (.seq .no (.cond .no .no)) (.seq (.blk (.seq (.seq .no (.cond (.seq .no .no) .no)) (.seq .no (.seq (.seq .no (.cond (.seq .no .no) .no)) (.seq .no (.seq (.seq .no (.cond (.seq .no .no) .no)) (.seq .no (.seq (.seq .no (.cond (.seq .no .no) .no)) .no)))))))) (.reg [(1,.bnd)])))) i.2.1 i.2.2)))) (.seq .no .no))) Tryz.func15 (fun (_:True)=>kn a fun _=>kn a fun _=>ai (en15_0 a k (by omega)) (fun (i0:Nat×(Int×Int)) (hi0:lJ15_0 a k i0)=>(fun (m0:Nat) (k400:Int) (i40:Int) (hh0:lH15_0 a k i0 m0 k400 i40)=>have hI0:=hh0.1; have hl0:=hh0.2.1; have _:=hh0.2.2.1; have _:=hh0.2.2.2; ifd (i40<(a.length:Int)) (fun h2 _=>ai (by omega:ib i40 a) (ifn (a.getD i40.toNat default).Addr k400 (fun h3 _=>fiI (-1) (F15 a k) (finR (runL_ret hI0 (condT h2 (condT h3 rfl))) rfl)) (fun h3 _=>ai (by omega:ib i40 a) (ifn (a.getD i40.toNat default).Len (IntKind.i64.wrap (k400+1)) (fun h4 _=>fiI (-1) (F15 a k) (finR (runL_ret hI0 (condT h2 (condF h3 (condT h4 rfl)))) rfl)) (fun h4 _=>ai (by omega:ib i40 a) (ifn (a.getD i40.toNat default).Cost (IntKind.i64.wrap ((IntKind.i64.wrap (k400+1))+1)) (fun h5 _=>fiI (-1) (F15 a k) (finR (runL_ret hI0 (condT h2 (condF h3 (condF h4 (condT h5 rfl))))) rfl)) (fun h5 _=>ai (by omega:ib i40 a) (ifn (a.getD i40.toNat default).Label (IntKind.i64.wrap ((IntKind.i64.wrap ((IntKind.i64.wrap (k400+1))+1))+1)) (fun h6 _=>fiI (-1) (F15 a k) (finR (runL_ret hI0 (condT h2 (condF h3 (condF h4 (condF h5 (condT h6 rfl)))))) rfl)) (fun h6 _=>ai (iok (i40+1) (by omega)) (bk15_0 a k i0 m0 (IntKind.i64.wrap ((IntKind.i64.wrap ((IntKind.i64.wrap ((IntKind.i64.wrap (k400+1))+1))+1))+1)) (i40+1) hl0 (runL_next hI0 (condT h2 (condF h3 (condF h4 (condF h5 (condF h6 rfl)))))) (by refine ⟨?_,?_⟩ <;> omega))))))))))) (fun h2 _=>have hD0_7:lX15_0 a k=Lp.done (k400,i40):=runL_done hI0 (condF h2 rfl); fiI k400 (F15 a k) (finD hD0_7 rfl))) (i0.1-1) i0.2.1 i0.2.2 (un15_0 a k i0 hi0))) (by kernel_rfl)
theorem kc7 (a:List ByteArray) (left':Int) {K_:Prop} (p0_:0≤left') (p1_:left'≤1048576) (p2_:∀ k:Nat,(a.getD k default).size≤9223372036854775807) (k_:(0≤left'→left'≤1048576→0≤(F7 a left')→(F7 a left')≤left')→(0≤left'→left'≤1048576→0≤(F7 a left')→a.length≤1000000000)→(0≤left'→left'≤1048576→0≤(F7 a left')→∀ k:Nat,(a.getD k default).size≤1000000000)→K_):(0≤left'∧left'≤1048576∧(∀ k:Nat,(a.getD k default).size≤9223372036854775807))∧(Imp (.l 1 eStr a) (.l 1 eStr a))∧(Imp (.v (vI left')) (.v (vI left')))∧K_:=⟨⟨p0_,p1_,p2_⟩,Imp.refl _,Imp.refl _,k_ (g7_0 a left') (g7_1 a left') (g7_2 a left')⟩
theorem kc9a (a:List ByteArray) {K_:Prop} (p0_:a.length≤1000000000) (p1_:∀ k:Nat,(a.getD k default).size≤1000000000) (k_:K_):(a.length≤1000000000∧(∀ k:Nat,(a.getD k default).size≤1000000000))∧(Imp (.l 1 eStr a) (.l 1 eStr a))∧K_:=⟨⟨p0_,p1_⟩,Imp.refl _,k_⟩
theorem kc8 (lines:List ByteArray) {K_:Prop} (p0_:lines.length≤1048576) (p1_:∀ k:Nat,(lines.getD k default).size≤1048576) (k_:K_):(lines.length≤1048576∧(∀ k:Nat,(lines.getD k default).size≤1048576))∧(Imp (.l 1 eStr lines) (.l 1 eStr lines))∧K_:=⟨⟨p0_,p1_⟩,Imp.refl _,k_⟩
theorem kc10 (lines:List ByteArray) {K_:Prop} (p0_:lines.length≤1048576) (p1_:∀ k:Nat,(lines.getD k default).size≤1048576) (k_:K_):(lines.length≤1048576∧(∀ k:Nat,(lines.getD k default).size≤1048576))∧(Imp (.l 1 eStr lines) (.l 1 eStr lines))∧K_:=⟨⟨p0_,p1_⟩,Imp.refl _,k_⟩
abbrev kh7f (a:List ByteArray) (left':Int):Hint false Tryz.prog:=.call 7 (S7 a left') ((ok7 a left').to false) none
abbrev kh9af (a:List ByteArray):Hint false Tryz.prog:=.call 9 (S9 a a) ((oa9 a).to false) none
abbrev kh8f (lines:List ByteArray):Hint false Tryz.prog:=.call 8 (S8 lines) ((ok8 lines).to false) none
abbrev kh10 (lines:List ByteArray):Hint false Tryz.prog:=.call 10 (S10 lines) (ok10 lines) none
theorem kc11a (a:List Qa) (b:List Qa) {K_:Prop} (k_:K_):(True)∧(Imp (.l 4 eHelloEntry a) (.l 4 eHelloEntry a))∧(Imp (.l 4 eHelloEntry b) (.l 4 eHelloEntry b))∧K_:=⟨trivial,Imp.refl _,Imp.refl _,k_⟩
abbrev kh11af (a:List Qa) (b:List Qa):Hint false Tryz.prog:=.call 11 (S11 (decide (a=b)) a b) ((oa11 a b).to false) none
theorem kc12a (a:List ByteArray) (b:List ByteArray) {K_:Prop} (k_:K_):(True)∧(Imp (.l 1 eStr a) (.l 1 eStr a))∧(Imp (.l 1 eStr b) (.l 1 eStr b))∧K_:=⟨trivial,Imp.refl _,Imp.refl _,k_⟩
abbrev kh12af (a:List ByteArray) (b:List ByteArray):Hint false Tryz.prog:=.call 12 (S12 (decide (a=b)) a b) ((oa12 a b).to false) none
theorem kc13 (a:List ByteArray) (k:Int) {K_:Prop} (p0_:0≤k) (p1_:k+(a.length:Int)≤1000000000) (k_:((F13 a k).1=k+(a.length:Int))→((F13 a k).2.length=a.length)→K_):(0≤k∧k+(a.length:Int)≤1000000000)∧(Imp (.l 1 eStr a) (.l 1 eStr a))∧(Imp (.v (vI k)) (.v (vI k)))∧K_:=⟨⟨p0_,p1_⟩,Imp.refl _,Imp.refl _,k_ (mark_fst a k) (g13_0 a k)⟩
abbrev kh13f (a:List ByteArray) (k:Int):Hint false Tryz.prog:=.call 13 (S13 a k) ((ok13 a k).to false) none
theorem kg11a {K_:Prop} (c_ b_:Bool) (a:List Qa) (b:List Qa) (k_:K_):(c_=b_→True)∧(c_=b_→Imp (.l 4 eHelloEntry a) (.l 4 eHelloEntry a))∧(c_=b_→Imp (.l 4 eHelloEntry b) (.l 4 eHelloEntry b))∧K_:=⟨fun _=>trivial,fun _=>Imp.refl _,fun _=>Imp.refl _,k_⟩
theorem kc14 (a:List Qa) (k:Int) {K_:Prop} (k_:K_):(True)∧(Imp (.l 4 eHelloEntry a) (.l 4 eHelloEntry a))∧(Imp (.v (vI k)) (.v (vI k)))∧K_:=⟨trivial,Imp.refl _,Imp.refl _,k_⟩
abbrev kh14f (a:List Qa) (k:Int):Hint false Tryz.prog:=.call 14 (S14 a k) ((ok14 a k).to false) none
theorem kc15 (a:List Qa) (k:Int) {K_:Prop} (k_:K_):(True)∧(Imp (.l 4 eHelloEntry a) (.l 4 eHelloEntry a))∧(Imp (.v (vI k)) (.v (vI k)))∧K_:=⟨trivial,Imp.refl _,Imp.refl _,k_⟩
abbrev kh15f (a:List Qa) (k:Int):Hint false Tryz.prog:=.call 15 (S15 a k) ((ok15 a k).to false) none
def F3 (aLines:List ByteArray):Bool :=
 bif (decide ((F7 aLines 1048576)<0)) then true else (bif (!(decide ((F10 aLines)=(F8 aLines)))) then false else (bif (!(decide (aLines=aLines))) then false else (bif (bif decide ((F13 aLines 1).1<0) then true else (!(decide ((F10 aLines)=(F8 aLines))))) then false else (bif (decide ((F15 (F14 (F10 aLines) 1).2 1)<0)) then false else (bif ((F15 (F14 (F10 aLines) 1).2 1) != (F14 (F10 aLines) 1).1) then false else (bif (!(decide ((F10 aLines)=(F8 aLines)))) then false else (bif (decide ((F15 (F14 (F10 aLines) 1).2 1)<0)) then false else (bif ((F15 (F14 (F10 aLines) 1).2 1) != (F14 (F10 aLines) 1).1) then false else true))))))))
def S3 (aLines:List ByteArray):Spec:=⟨[.r (.c (.l 1 eStr aLines))],.v (.bool (F3 aLines)),(∀ k:Nat,(aLines.getD k default).size≤9223372036854775807)⟩
theorem ok3 (aLines:List ByteArray):(S3 aLines).ok Tryz.prog 3 false :=
 fnG_ok mixed (fn:=Tryz.f3) (ct:=.seqk [(0,0)] .no (.seq .no (.seq (.reg [(2,kh7f aLines 1048576)]) (.seq (.seq .no (.cond (.seq .no .no) .no)) (.seq (.reg [(1,kh9af aLines),(2,kh8f aLines)]) (.seq (.reg [(1,kh9af aLines)]) (.seq (.reg [(1,kh10 aLines)]) (.seq (.seq (.reg [(2,kh11af (F10 aLines) (F8 aLines))]) (.cond (.seq .no .no) .no)) (.seq (.seq (.reg [(2,kh9af aLines),(3,kh12af aLines aLines)]) (.cond (.seq .no .no) .no)) (.seq .no (.seq (.reg [(2,kh13f aLines 1)]) (.seq (.seq (.reg [(5,kh11af (F10 aLines) (F8 aLines))]) (.cond (.seq .no .no) .no)) (.seq .no (.seq (.reg [(2,kh14f (F10 aLines) 1)]) (.seq .no (.seq (.reg [(2,kh15f (F14 (F10 aLines) 1).2 1)]) (.seq (.seq .no (.cond (.seq .no .no) .no)) (.seq (.seq .no (.cond (.seq .no .no) .no)) (.seq (.reg [(1,kh9af aLines),(2,kh10 aLines)]) (.seq (.seq (.reg [(2,kh11af (F10 aLines) (F8 aLines))]) (.cond (.seq .no .no) .no)) (.seq .no (.seq (.reg [(2,kh15f (F14 (F10 aLines) 1).2 1)]) (.seq (.seq .no (.cond (.seq .no .no) .no)) (.seq (.seq .no (.cond (.seq .no .no) .no)) (.seq .no .no))))))))))))))))))))))))) Tryz.func3 (fun (hpre0:∀ k:Nat,(aLines.getD k default).size≤9223372036854775807)=>kn aLines fun _=>kc7 aLines 1048576 (by omega) (by omega) (by first | assumption | exact hpre0 _ | exact fun k _=>hpre0 k | (intros; exact trivial) | (intros; exact Nat.zero_le _)) (fun gv1 gv2 gv3=>ifd ((F7 aLines 1048576)<0) (fun h4 _=>fiB true (F3 aLines) (condT h4 rfl)) (fun h4 _=>kc9a aLines (by omega) (by first | assumption | exact hpre0 _ | exact fun k _=>hpre0 k | exact gv3 (by omega) (by omega) (by omega) | (intros; exact trivial) | (intros; exact Nat.zero_le _)) (kc8 aLines (by first | omega | exact sz_len aLines (l:=1048576) (by omega) (by omega) | exact sz_size aLines (l:=1048576) (by omega) (by omega)) (by first | omega | exact sz_len aLines (l:=1048576) (by omega) (by omega) | exact sz_size aLines (l:=1048576) (by omega) (by omega)) (kc9a aLines (by omega) (by first | assumption | exact hpre0 _ | exact fun k _=>hpre0 k | exact gv3 (by omega) (by omega) (by omega) | (intros; exact trivial) | (intros; exact Nat.zero_le _)) (kc10 aLines (by first | omega | exact sz_len aLines (l:=1048576) (by omega) (by omega) | exact sz_size aLines (l:=1048576) (by omega) (by omega)) (by first | omega | exact sz_len aLines (l:=1048576) (by omega) (by omega) | exact sz_size aLines (l:=1048576) (by omega) (by omega)) (kc11a (F10 aLines) (F8 aLines) (ifb (!(decide ((F10 aLines)=(F8 aLines)))) (fun h5=>have _:=of_decide_eq_false (notET h5); fiB false (F3 aLines) (condF h4 (condT h5 rfl))) (fun h5=>have _:=of_decide_eq_true (notEF h5); kc9a aLines (by omega) (by first | assumption | exact hpre0 _ | exact fun k _=>hpre0 k | exact gv3 (by omega) (by omega) (by omega) | (intros; exact trivial) | (intros; exact Nat.zero_le _)) (kc12a aLines aLines (ifb (!(decide (aLines=aLines))) (fun h6=>have _:=of_decide_eq_false (notET h6); fiB false (F3 aLines) (condF h4 (condF h5 (condT h6 rfl)))) (fun h6=>have _:=of_decide_eq_true (notEF h6); kc13 aLines 1 (by first | omega | (have ha:=sz_len aLines (l:=1048576) (by omega) (by omega); omega)) (by first | omega | (have ha:=sz_len aLines (l:=1048576) (by omega) (by omega); omega)) (fun gv7 gv8=>kg11a (decide ((F13 aLines 1).1<0)) false (F10 aLines) (F8 aLines) (ifb (bif decide ((F13 aLines 1).1<0) then true else (!(decide ((F10 aLines)=(F8 aLines))))) (fun h10=>fiB false (F3 aLines) (condF h4 (condF h5 (condF h6 (condT h10 rfl))))) (fun h10=>have _:=of_decide_eq_false (orF1 h10); have _:=of_decide_eq_true (notEF (orF2 h10)); kc14 (F10 aLines) 1 (kc15 (F14 (F10 aLines) 1).2 1 (ifd ((F15 (F14 (F10 aLines) 1).2 1)<0) (fun h11 _=>fiB false (F3 aLines) (condF h4 (condF h5 (condF h6 (condF h10 (condT h11 rfl)))))) (fun h11 _=>ifn (F15 (F14 (F10 aLines) 1).2 1) (F14 (F10 aLines) 1).1 (fun h12 _=>fiB false (F3 aLines) (condF h4 (condF h5 (condF h6 (condF h10 (condF h11 (condT h12 rfl))))))) (fun h12 _=>kc9a aLines (by omega) (by first | assumption | exact hpre0 _ | exact fun k _=>hpre0 k | exact gv3 (by omega) (by omega) (by omega) | (intros; exact trivial) | (intros; exact Nat.zero_le _)) (kc10 aLines (by first | omega | exact sz_len aLines (l:=1048576) (by omega) (by omega) | exact sz_size aLines (l:=1048576) (by omega) (by omega)) (by first | omega | exact sz_len aLines (l:=1048576) (by omega) (by omega) | exact sz_size aLines (l:=1048576) (by omega) (by omega)) (kc11a (F10 aLines) (F8 aLines) (ifb (!(decide ((F10 aLines)=(F8 aLines)))) (fun h13=>have _:=of_decide_eq_false (notET h13); fiB false (F3 aLines) (condF h4 (condF h5 (condF h6 (condF h10 (condF h11 (condF h12 (condT h13 rfl)))))))) (fun h13=>have _:=of_decide_eq_true (notEF h13); kc15 (F14 (F10 aLines) 1).2 1 (ifd ((F15 (F14 (F10 aLines) 1).2 1)<0) (fun h14 _=>fiB false (F3 aLines) (condF h4 (condF h5 (condF h6 (condF h10 (condF h11 (condF h12 (condF h13 (condT h14 rfl))))))))) (fun h14 _=>ifn (F15 (F14 (F10 aLines) 1).2 1) (F14 (F10 aLines) 1).1 (fun h15 _=>fiB false (F3 aLines) (condF h4 (condF h5 (condF h6 (condF h10 (condF h11 (condF h12 (condF h13 (condF h14 (condT h15 rfl)))))))))) (fun h15 _=>fiB true (F3 aLines) (condF h4 (condF h5 (condF h6 (condF h10 (condF h11 (condF h12 (condF h13 (condF h14 (condF h15 rfl))))))))))))))))))))))))))))))))))) (by kernel_rfl)
def lvHelloEntry (x:Qa):Nat:=4
theorem mk14:Mk F14 F15 (sumL lvHelloEntry) :=
 mark_loop (fun (x:Qa) (k:Int)=>((IntKind.i64.wrap ((IntKind.i64.wrap ((IntKind.i64.wrap ((IntKind.i64.wrap (k+1))+1))+1))+1)),(⟨k,(IntKind.i64.wrap (k+1)),(IntKind.i64.wrap ((IntKind.i64.wrap (k+1))+1)),(IntKind.i64.wrap ((IntKind.i64.wrap ((IntKind.i64.wrap (k+1))+1))+1))⟩:Qa))) (fun (x:Qa) (k:Int)=>(bif (x.Addr != k) then (-1) else (bif (x.Len != (IntKind.i64.wrap (k+1))) then (-1) else (bif (x.Cost != (IntKind.i64.wrap ((IntKind.i64.wrap (k+1))+1))) then (-1) else (bif (x.Label != (IntKind.i64.wrap ((IntKind.i64.wrap ((IntKind.i64.wrap (k+1))+1))+1))) then (-1) else (IntKind.i64.wrap ((IntKind.i64.wrap ((IntKind.i64.wrap ((IntKind.i64.wrap (k+1))+1))+1))+1))))))) lvHelloEntry
  (fun x k h0 h1=>by
   simp only [lvHelloEntry] at h1 ⊢
   simp (discharger:=omega) only [wrap_of,bne_self_eq_false,beq_self_eq_true,cond_false,cond_true,Bool.not_true,Bool.not_false,neg_lt,and_self] <;> omega)
  F14 F15 F14_s0 F15_s0 (fun a k=>rfl) (fun a k0 k i xs=>rfl) (fun a k=>rfl)
  (fun a k0 k i hi h0 hh=>by
   obtain ⟨c0,hh⟩:=hs_step hh
   obtain ⟨c1,hh⟩:=hs_step hh
   obtain ⟨c2,hh⟩:=hs_step hh
   obtain ⟨c3,hh⟩:=hs_step hh
   simp only [F15_s0,decide_eq_true hi,cond_true,c0,cond_false,c1,cond_false,c2,cond_false,c3,cond_false])
  (fun a k0 k=>by simp only [F15_s0,geD,cond_false])
theorem mk14a (x:List Qa) (k:Int) (h0:0≤k) (h1:k+((sumL lvHelloEntry) x:Int)<9223372036854775807):(F14 x k).1=k+(sumL lvHelloEntry) x:=(mk14 x k h0 h1).1
theorem mk14b (x:List Qa) (k:Int) (h0:0≤k) (h1:k+((sumL lvHelloEntry) x:Int)<9223372036854775807):F15 (F14 x k).2 k=k+(sumL lvHelloEntry) x:=(mk14 x k h0 h1).2
theorem plain_3 (lines:List ByteArray):F3 lines=true:=by
 unfold F3
 cases h1:decide (F7 lines 1048576<0) with
 | true=>rfl
 | false =>
 have hl:=tells_len lines
 rw [tells_same] at hl
 rw [cond_false,tells_same]
 generalize F8 lines=w at hl
 have hs:=sumL_len (fun x:Qa=>lvHelloEntry x) 4 (fun _=>rfl) w
 have m1:=mk14a w 1 (by omega) (by rw [hs]; omega)
 have m2:=mk14b w 1 (by omega) (by rw [hs]; omega)
 rw [hs] at m1 m2
 rw [m1,m2,mark_fst,decide_eq_false (show ¬ 1+(lines.length:Int)<0 by omega),decide_eq_false (show ¬ 1+((w.length*4:Nat):Int)<0 by omega)]
 simp
end Go.Proofs.YtcgfkhokhiggkaaGreatDoor
namespace Go.Proofs.YtcgfkhokhiggkaaGreatDoor
open Go Go.RowKit Go.ChangeShapes Go.WideShapes Go.ChangeAt
set_option maxRecDepth 100000
set_option linter.unusedVariables false
theorem op_9:OpD Tryz.prog 9 eStr:=OpD.str Tryz.underlying9
theorem op_22:OpD Tryz.prog 22 (fun xs:List ByteArray=>[.l 1 eStr xs]):=OpD.slice 1 Tryz.underlying22 op_9 (fun _=>rfl) (by kernel_rfl) (by decide)
def eStrM (s:ByteArray):List Dat:=[.x (BX s 9223372036854775807)]
theorem op_strM:OpD Tryz.prog 9 eStrM:=fun H e W f cs y h=>by
 obtain ⟨s,rfl,_,hs⟩:=DataW.trod_string Tryz.underlying9 h
 exact ⟨s,_,_,rfl,⟨rfl,hs⟩,rfl⟩
theorem rd_strs {S:Nat→Prop} {W:World} {xs:List ByteArray} {v:Value} (h:RdV S W (.l 1 eStrM xs) v):RdV S W (.l 1 eStr xs) v∧∀ k:Nat,(xs.getD k default).size≤9223372036854775807:=by
 obtain ⟨a,c,e,h1,h2,h3⟩:=h
 refine ⟨⟨a,c,e,h1,h2,fun i x hx=>?_⟩,fun k=>?_⟩
 ·obtain ⟨k1,k2,cs,k3,k4,k5⟩:=h3 i x hx
  obtain ⟨u,us,rfl,⟨k6,k7⟩,k8⟩:=k5
  exact ⟨k1,k2,_,k3,k4,u,us,rfl,⟨k6,rfl⟩,k8⟩
 ·rw [List.getD_eq_getElem?_getD]
  cases hx:xs[k]? with
  | none=>exact Nat.zero_le _
  | some x =>
   obtain ⟨k1,k2,cs,k3,k4,k5⟩:=h3 k x hx
   obtain ⟨u,us,rfl,⟨k6,k7⟩,k8⟩:=k5
   exact k7
theorem op_M22:OpD Tryz.prog 22 (fun xs:List ByteArray=>[.l 1 eStrM xs]):=OpD.slice 1 Tryz.underlying22 op_strM (fun _=>rfl) (by kernel_rfl) (by decide)
theorem own:ownKnob Tryz.prog.godebug=none:=by kernel_rfl
theorem cfA:Tryz.prog.inPlace 3=Rows.fnExactTernTellsRow.inPlace:=by kernel_rfl
theorem cfB:Tryz.prog.unfollowed 3=Rows.fnExactTernTellsRow.unfollowed:=by kernel_rfl
theorem cfC:Tryz.prog.recurses 3=Rows.fnExactTernTellsRow.recurses:=by kernel_rfl
theorem cfD:Tryz.prog.varsNamed 3=Rows.fnExactTernTellsRow.named:=by kernel_rfl
set_option maxRecDepth 100000 in
def putC (cs:Array Value):Obj→Obj
 | .cells _ t fz=>.cells cs t fz
 | o=>o
noncomputable def laidWorld (os:Os):World :=
 let w:=World.holding Tryz.prog os ⟨#[.cells #[.string ⟨#[118,97,108,117,101,32,111,117,116,32,111,102,32,114,97,110,103,101]⟩] 234,.cells #[.string ⟨#[105,110,118,97,108,105,100,32,115,121,110,116,97,120]⟩] 234],#[],[]⟩
 { w with heap:=(((((((w.heap.modify ((Tryz.prog.globalNamed "math/bits.deBruijn32tab").getD 0) (putC #[(.int .u8 0),(.int .u8 1),(.int .u8 28),(.int .u8 2),(.int .u8 29),(.int .u8 14),(.int .u8 24),(.int .u8 3),(.int .u8 30),(.int .u8 22),(.int .u8 20),(.int .u8 15),(.int .u8 25),(.int .u8 17),(.int .u8 4),(.int .u8 8),(.int .u8 31),(.int .u8 27),(.int .u8 13),(.int .u8 23),(.int .u8 21),(.int .u8 19),(.int .u8 16),(.int .u8 7),(.int .u8 26),(.int .u8 12),(.int .u8 18),(.int .u8 6),(.int .u8 11),(.int .u8 5),(.int .u8 10),(.int .u8 9)])).modify ((Tryz.prog.globalNamed "math/bits.deBruijn64tab").getD 0) (putC #[(.int .u8 0),(.int .u8 1),(.int .u8 56),(.int .u8 2),(.int .u8 57),(.int .u8 49),(.int .u8 28),(.int .u8 3),(.int .u8 61),(.int .u8 58),(.int .u8 42),(.int .u8 50),(.int .u8 38),(.int .u8 29),(.int .u8 17),(.int .u8 4),(.int .u8 62),(.int .u8 47),(.int .u8 59),(.int .u8 36),(.int .u8 45),(.int .u8 43),(.int .u8 51),(.int .u8 22),(.int .u8 53),(.int .u8 39),(.int .u8 33),(.int .u8 30),(.int .u8 24),(.int .u8 18),(.int .u8 12),(.int .u8 5),(.int .u8 63),(.int .u8 55),(.int .u8 48),(.int .u8 27),(.int .u8 60),(.int .u8 41),(.int .u8 37),(.int .u8 16),(.int .u8 46),(.int .u8 35),(.int .u8 44),(.int .u8 21),(.int .u8 52),(.int .u8 32),(.int .u8 23),(.int .u8 11),(.int .u8 54),(.int .u8 26),(.int .u8 40),(.int .u8 15),(.int .u8 34),(.int .u8 20),(.int .u8 31),(.int .u8 10),(.int .u8 25),(.int .u8 14),(.int .u8 19),(.int .u8 9),(.int .u8 13),(.int .u8 8),(.int .u8 7),(.int .u8 6)])).modify ((Tryz.prog.globalNamed "internal/strconv.uint64pow10").getD 0) (putC #[(.int .u64 1),(.int .u64 10),(.int .u64 100),(.int .u64 1000),(.int .u64 10000),(.int .u64 100000),(.int .u64 1000000),(.int .u64 10000000),(.int .u64 100000000),(.int .u64 1000000000),(.int .u64 10000000000),(.int .u64 100000000000),(.int .u64 1000000000000),(.int .u64 10000000000000),(.int .u64 100000000000000),(.int .u64 1000000000000000),(.int .u64 10000000000000000),(.int .u64 100000000000000000),(.int .u64 1000000000000000000),(.int .u64 10000000000000000000)])).modify ((Tryz.prog.globalNamed "unicode/utf8.acceptRanges").getD 0) (putC #[(.int .u8 128),(.int .u8 191),(.int .u8 160),(.int .u8 191),(.int .u8 128),(.int .u8 159),(.int .u8 144),(.int .u8 191),(.int .u8 128),(.int .u8 143),(.int .u8 0),(.int .u8 0),(.int .u8 0),(.int .u8 0),(.int .u8 0),(.int .u8 0),(.int .u8 0),(.int .u8 0),(.int .u8 0),(.int .u8 0),(.int .u8 0),(.int .u8 0),(.int .u8 0),(.int .u8 0),(.int .u8 0),(.int .u8 0),(.int .u8 0),(.int .u8 0),(.int .u8 0),(.int .u8 0),(.int .u8 0),(.int .u8 0)])).modify ((Tryz.prog.globalNamed "strconv.ErrRange").getD 0) (putC #[.iface 232 (.pointer (some ⟨Tryz.prog.low+0,0,none⟩))])).modify ((Tryz.prog.globalNamed "strconv.ErrSyntax").getD 0) (putC #[.iface 232 (.pointer (some ⟨Tryz.prog.low+1,0,none⟩))])).modify ((Tryz.prog.globalNamed "unicode/utf8.first").getD 0) (putC ((Go.Pinned.utf8FirstZ.map fun n=>Value.int .u8 (n:Nat)).toArray))) }
theorem laid_met (os:Os):laidMet Tryz.prog Rows.fnExactTernTellsRow.laid ((laidWorld os).forCall (fun _ _=>0) ⟨#[],#[.slice none 0 0],[]⟩).memory :=
 laidMet_of_run3 8 (by kernel_rfl) (by kernel_rfl) (by kernel_rfl)
theorem reads (os:Os) {H:Type} (enc:TypeId×Value→H):∃ places,DataW.whole enc Tryz.prog ((laidWorld os).forCall (fun _ _=>0) ⟨#[],#[.slice none 0 0],[]⟩).memory Tryz.f3.params.toList Rows.fnExactTernTellsSpec.vars false #[.slice none 0 0].toList 8=some ([.nil],[],places) :=
 ⟨[],by kernel_rfl⟩
theorem err_laid {W:World} {l:List (String×DataW Unit)} (h:laidMet Tryz.prog l W) {n tn:String} {d:DataW Unit} (hm:(n,.iface tn d)∈l) {g:Nat} (hg:Tryz.prog.globalNamed n=some g) (ht:(Tryz.prog.globals[g]?).map (·.type)=some 140) :
  ∃ e,W.cell? ⟨g,0,none⟩=some e∧(e=.nilIface∨∃ te pe,e=.iface te pe):=by
 obtain ⟨g',t',cs,fuel,p,h1,h2,h3,h4⟩:=Lib.laidMet.reads h hm
 obtain rfl:=Option.some.inj (hg.symm.trans h1)
 obtain rfl:=Option.some.inj (ht.symm.trans h2)
 have hc:∀ i,W.cell? ⟨g,i,none⟩=cs[i]?:=fun i=>by
  unfold World.var? at h3
  rw [hg] at h3
  simp only [Option.bind_some] at h3
  split at h3
  ·rename_i c _ _ hh
   simp only [Option.some.injEq] at h3
   subst h3
   simp [World.cell?,hh]
  ·cases h3
 cases fuel with
 | zero=>simp [DataW.trod] at h4
 | succ fuel =>
  simp only [DataW.trod,Tryz.underlying140] at h4
  split at h4 <;> first
   | (cases h4; done)
   | (rename_i hcs; refine ⟨_,(hc 0).trans (by rw [← Array.getElem?_toList,hcs]; rfl),?_⟩; first | exact .inl rfl | exact .inr ⟨_,_,rfl⟩)
   | (simp at h4; done)
   | (exfalso; simp_all; done)
theorem lifted (os:Os) (started:os.Started) (H:Type) (enc:TypeId×Value→H) (F:Stop.Interp) :
  ReturnsInHanded {} Tryz.checked os 3 .any ((OpenSpec.ofChange Rows.fnExactTernTellsSpec).preRow enc Tryz.prog Tryz.f3 Rows.fnExactTernTellsRow.domain false Rows.fnExactTernTellsRow.laid) (((OpenSpec.ofChange Rows.fnExactTernTellsSpec).at F).post enc Tryz.prog Tryz.f3 false true false false):=by
 obtain ⟨places,hx⟩:=reads os enc
 refine returnsInHanded_of_row (C:=Tryz.checked) (s:=OpenSpec.ofChange Rows.fnExactTernTellsSpec) own started (by kernel_rfl) Tryz.func3
  (witness_row_at (enc:=enc) (C:=Tryz.checked) false (laidWorld os) #[.slice none 0 0] rfl (by kernel_rfl) (by kernel_rfl) (by kernel_rfl)
   (OpenSpec.preRow_of_cond 8 hx (by kernel_rfl) (fun k hk=>by cases hk) (by kernel_rfl) (laid_met os))) ?_
 intro W base args ds gs before hval0 hW hcnd _ _ hL hsh _
 have hL':laidMet Tryz.prog Rows.fnExactTernTellsRow.laid W:=by
  have h0:=hL
  unfold laidMetH at h0
  rw [show (Rows.fnExactTernTellsRow.laid.filter fun x=>x.2.handleName?.isSome)=[] from by kernel_rfl] at h0
  exact h0
 have hval:∀ (j:Nat) t v,Tryz.f3.params[j]?=some t→args[j]?=some v→Value.okWide Tryz.prog W .any base t v:=hval0
 have hW':=hW
 obtain ⟨p,q,hA0,hV,rfl,hfz,hnd⟩:=hW
 have hA:DataW.TrodAll enc Tryz.prog W 0 (fun _=>true) true Tryz.f3.params.toList args.toList ds p:=hA0
 rw [Tryz.params3] at hA hval
 obtain ⟨v0,vs0,d0,ds0,p0,q0,hargs,rfl,rfl,h0,r0⟩:=trodAll_cons hA
 obtain ⟨rfl,rfl,rfl⟩:=trodAll_nil r0
 obtain rfl:args=#[v0]:=by cases args; simp_all
 obtain ⟨rfl,rfl⟩:=trodVars_none hV
 obtain ⟨fu0,t0⟩:=h0
 obtain ⟨a0,n0,c0,rfl⟩:=okWide_slice Tryz.underlying22 (hval 0 22 v0 rfl rfl)
 obtain ⟨x0,u0,us0,e0,o0,-⟩:=op_M22 H enc W fu0 _ _ t0
 obtain ⟨o0,b0⟩:=rd_strs o0
 obtain rfl:u0=_:=(List.cons.inj e0).1.symm
 have hG:GP W:=⟨fun b hb=>by
  simp only [GBe,List.nil_append,List.cons_append,List.mem_cons,List.not_mem_nil,or_false] at hb
  rcases hb with rfl | rfl
  ·exact err_laid hL' (n:= "strconv.ErrSyntax") (by unfold Rows.fnExactTernTellsRow; exact List.mem_cons_of_mem _ (List.mem_cons_of_mem _ (List.mem_cons_of_mem _ (List.mem_cons_of_mem _ (List.mem_cons_of_mem _ (List.mem_cons_self)))))) (show Tryz.prog.globalNamed "strconv.ErrSyntax"=some ((Tryz.prog.globalNamed "strconv.ErrSyntax").getD 0) from by kernel_rfl) (by kernel_rfl)
  ·exact err_laid hL' (n:= "strconv.ErrRange") (by unfold Rows.fnExactTernTellsRow; exact List.mem_cons_of_mem _ (List.mem_cons_of_mem _ (List.mem_cons_of_mem _ (List.mem_cons_of_mem _ (List.mem_cons_self))))) (show Tryz.prog.globalNamed "strconv.ErrRange"=some ((Tryz.prog.globalNamed "strconv.ErrRange").getD 0) from by kernel_rfl) (by kernel_rfl),fun b hb=>by simp only [GBi,List.nil_append,List.mem_cons,List.not_mem_nil,or_false] at hb; subst hb; exact layCutM.s1_3 W hsh,fun q hq=>by
  simp only [GBt,List.nil_append,List.mem_cons,List.not_mem_nil,or_false] at hq
  subst hq
  obtain ⟨g',t',cs,fuel,p,h1,h2,h3,h4⟩:=Lib.laidMet.reads hL' (n:= "internal/strconv.uint64pow10") (by unfold Rows.fnExactTernTellsRow; exact List.mem_cons_of_mem _ (List.mem_cons_of_mem _ (List.mem_cons_self)))
  obtain rfl:=Option.some.inj ((show Tryz.prog.globalNamed "internal/strconv.uint64pow10"=some ((Tryz.prog.globalNamed "internal/strconv.uint64pow10").getD 0) from by kernel_rfl).symm.trans h1)
  obtain rfl:=Option.some.inj ((show (Tryz.prog.globals[(Tryz.prog.globalNamed "internal/strconv.uint64pow10").getD 0]?).map (·.type)=some 236 from by kernel_rfl).symm.trans h2)
  have hc:=Lib.cells_of_tab (k:=.u64) (zs:=Lib.pow10Tab) Tryz.underlying236 Tryz.underlying134 (by kernel_rfl) (by kernel_rfl) h4
  unfold World.var? at h3
  rw [(show Tryz.prog.globalNamed "internal/strconv.uint64pow10"=some ((Tryz.prog.globalNamed "internal/strconv.uint64pow10").getD 0) from by kernel_rfl)] at h3
  simp only [Option.bind_some] at h3
  split at h3
  ·rename_i c T fz hh
   simp only [Option.some.injEq] at h3
   subst h3
   exact ⟨T,fz,hh.trans (by congr 1; congr 1; exact Array.ext' (by simpa using hc))⟩
  ·cases h3⟩
 have hc:=law_call (W:=W) (vs:=[.slice a0 n0 c0]) (ok3 x0) (b0) (x:=.bool (F3 x0)) hG ⟨_,_,[],[],rfl,⟨o0,rfl⟩,⟨rfl,rfl⟩,rfl,List.nodup_nil⟩ rfl rfl
 rw [plain_3 x0] at hc
 refine hc.mono fun e W' ⟨he,hb⟩=>?_
 subst he
 exact ⟨_,rfl,law_post rfl hW' hb rfl Tryz.underlying4 rfl rfl rfl laid (by decide +kernel)⟩
theorem said_FnExactTernTells:Rows.FnExactTernTellsSaid :=
 OpenClaim.holds_of_cond 3 Tryz.f3 rfl rfl rfl rfl rfl rfl rfl ⟨rfl,rfl,rfl,rfl,rfl⟩ rfl rfl rfl rfl rfl (by kernel_rfl) Tryz.func3 (by
   show joinedFacts Tryz.prog 3 Tryz.f3 (OpenSpec.ofChange Rows.fnExactTernTellsSpec).bare Rows.fnExactTernTellsRow=true
   simp only [joinedFacts,laid,cfMaps,cfKeys,cfLifts,cfHeard,cfEnter,cfMake,cfA,cfB,cfC,cfD,Bool.and_true]
   kernel_rfl)
  (of_decide_eq_true (by kernel_rfl)) (by unfold Func.isWrapper; first | (rw [if_pos (by decide +kernel)]; kernel_rfl) | (rw [if_neg (by decide +kernel)]; exact ⟨rfl,rfl⟩))
  (fun os started H enc _ F=>by rw [OpenClaim.pre_eq_preRow]; exact lifted os started H enc F)
theorem plainArgs (f:FuncId) (fn:Func) (hf:Tryz.pinned.checked.prog.funcNamed "loop.example/tern/laws.FnExactTernTells"=some f) (hfn:Tryz.pinned.checked.prog.funcs[f]?=some fn) :
  true=Tryz.pinned.checked.prog.looks []∧∀ (j:Nat) t,fn.params[j]?=some t→Tryz.pinned.checked.prog.wantsStandIn t=false:=by
 obtain rfl:f=3:=Option.some.inj ((show Tryz.prog.funcNamed "loop.example/tern/laws.FnExactTernTells"=some 3 by kernel_rfl).symm.trans hf) |>.symm
 obtain rfl:fn=Tryz.f3:=(Option.some.inj (Tryz.func3.symm.trans hfn)).symm
 refine ⟨by kernel_rfl,fun j t ht=>?_⟩
 rw [Tryz.params3] at ht
 have hm:=Array.mem_of_getElem? ht
 simp only [List.mem_toArray,List.mem_cons,List.not_mem_nil,or_false] at hm
 first | (obtain rfl:=hm; exact (show Tryz.prog.wantsStandIn 22=false by kernel_rfl))
theorem card_wf:Rows.fnExactTernTellsRow.wfByText (OpenSpec.ofChange Rows.fnExactTernTellsSpec)=true:=by kernel_rfl
theorem card_main:Tryz.prog.mainIs=some (Rows.fnExactTernTellsCard.stood.harness.1,Rows.fnExactTernTellsCard.stood.harness.2.toList):=by kernel_rfl
theorem card_goes:false=Rows.fnExactTernTellsRow.goesBy Tryz.prog:=by kernel_rfl
theorem proved_FnExactTernTells:Rows.FnExactTernTellsCardSaid :=
 Claim7.holds_tied_plain_at .later [] _ _ _ _ said_FnExactTernTells (fun _ h=>by cases h) card_wf (fun _ h=>by cases h) fnExactTernTells_row_tie rfl ⟨rfl,rfl⟩ card_main rfl plainArgs card_goes
#print axioms proved_FnExactTernTells
end Go.Proofs.YtcgfkhokhiggkaaGreatDoor
