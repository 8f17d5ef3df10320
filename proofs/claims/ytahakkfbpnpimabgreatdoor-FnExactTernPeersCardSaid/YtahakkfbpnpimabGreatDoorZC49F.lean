/- The card's statement of FnExactTernPeers: for all arguments the law returns true, without further conditions. Texts put together: VTPL, PTPL, C49. -/
import Derived.Test.YtahakkfbpnpimabGreatDoorRows
import Derived.Test.YtahakkfbpnpimabGreatDoorCards
import Derived.Test.YtahakkfbpnpimabGreatDoorTie
import Derived.Deep.DeepHandedRow
import Derived.Deep.DeepLaidRun
import Derived.JoinedCond
import Derived.Lib.LaidU8
import Derived.Test.YtahakkfbpnpimabGreatDoorZC49E
namespace Go.Proofs.YtahakkfbpnpimabGreatDoor
open Go.RowKit
set_option maxRecDepth 100000
set_option linter.unusedVariables false
set_option linter.unusedSimpArgs false
def Qee (a:List ByteArray):(Int×List ByteArray)→Lp (Int×List ByteArray) (List ByteArray):=fun (i40,xs) =>
 bif (decide (i40<(a.length:Int))) then (.next ((i40+1),(xs.set (i40).toNat (a.getD i40.toNat default)))) else (.done (i40,xs))
def F6 (a:List ByteArray):List ByteArray :=
 (runL (Qee a) (((a.length:Int)-0).toNat+1) (0,(List.replicate (a.length:Int).toNat ((⟨#[]⟩:ByteArray):ByteArray)))).fin (fun r=>r) (fun (i40,xs)=>xs)
abbrev Qjp (a:List ByteArray):Nat×(Int×List ByteArray):=((((a.length:Int)-0).toNat+1),(0,(List.replicate (a.length:Int).toNat (w13_:ByteArray))))
abbrev Qzo (a:List ByteArray) (m39:Nat) (i40:Int) (xs:List ByteArray):Prop:=Int.toNat ((a.length:Int)-i40)<m39∧(0:Int)≤i40∧xs.length=(List.replicate (a.length:Int).toNat (w13_:ByteArray)).length
abbrev lX6_0 (a:List ByteArray):Lp (Int×List ByteArray) (List ByteArray):=LpX (Qee a) (Qjp a)
abbrev Qki (a:List ByteArray) (i:Nat×(Int×List ByteArray)):Prop:=LpJ (Qee a) (Qjp a) i (Qzo a i.1 i.2.1 i.2.2)
abbrev lH6_0 (a:List ByteArray) (i:Nat×(Int×List ByteArray)) (m39:Nat) (i40:Int) (xs:List ByteArray):Prop:=LpH (Qee a) (Qjp a) i m39 (i40,xs) (Qzo a (m39+1) i40 xs)
abbrev lE6_0 (a:List ByteArray) (i40:Int) (xs:List ByteArray) (i40_:Int) (xs_:List ByteArray) (K39:Prop):Prop:=((.int .i64 i40:Value)=.int .i64 i40_)∧(Im (.l 1 eStr a))∧(Imp (.l 1 eStr xs) (.l 1 eStr xs_))∧K39
theorem un6_0 (a:List ByteArray) (i:Nat×(Int×List ByteArray)) (h:Qki a i):lH6_0 a i (i.1-1) i.2.1 i.2.2:=⟨hd1 h.1 h.2.1,hd3 h.2.1,hd2 h.2.1,h.2.2⟩
theorem bk6_0 (a:List ByteArray) (i:Nat×(Int×List ByteArray)) (m39:Nat) (i40:Int) (xs:List ByteArray) (hl:m39<i.1) (e:runL (Qee a) m39 (i40,xs)=lX6_0 a) (h:Qzo a m39 i40 xs):∃ j:Nat×(Int×List ByteArray),lE6_0 a i40 xs j.2.1 j.2.2 (Qki a j∧j.1<i.1):=⟨(m39,(i40,xs)),rfl,Imp.refl _,Imp.refl _,⟨e,h⟩,hl⟩
theorem en6_0 (a:List ByteArray) (h:(0:Int)≤0∧(List.replicate (a.length:Int).toNat (w13_:ByteArray)).length=(List.replicate (a.length:Int).toNat (w13_:ByteArray)).length):lE6_0 a 0 (List.replicate (a.length:Int).toNat (w13_:ByteArray)) 0 (List.replicate (a.length:Int).toNat (w13_:ByteArray)) (Qki a (Qjp a)):=⟨rfl,Imp.refl _,Imp.refl _,rfl,Nat.lt_succ_self _,h⟩
theorem fi6 (a:List ByteArray) (r:List ByteArray) (hF:r=(F6 a)):(Imp (.l 1 eStr r) (.l 1 eStr (F6 a)))∧True:=by cases hF; exact ⟨Imp.refl _,trivial⟩
def S6 (R:List ByteArray) (a:List ByteArray):Spec:=⟨[.r (.c (.l 1 eStr a))],.ow (.l 1 eStr R),a.length≤1000000000∧(∀ k:Nat,(a.getD k default).size≤1000000000)⟩
theorem ok6 (a:List ByteArray):(S6 (F6 a) a).ok Tryz.prog 6 :=
 Qn mixed (fn:=Tryz.f6) (ct:=.seqk [(0,0)] .no (.seq (.reg [(2,.dat (.l 1 eStr (List.replicate (a.length:Int).toNat (w13_:ByteArray))))]) (.seq (.seqk [(0,0),(3,0)] .no (.blk (.loop (ι:=Nat×(Int×List ByteArray)) (fun i=>(fun (i40:Int) (xs:List ByteArray)=>(⟨[(0,some (.h 0 0)),(3,some (.h 1 0)),(4,some (.v (vI i40)))],[(0,some (.shr none (.l 1 eStr a))),(1,some (.own 1 (.l 1 eStr xs)))],2⟩:St)) i.2.1 i.2.2) (Qki a) (fun i=>i.1) (Qjp a) (fun i=>(fun (i40:Int) (xs:List ByteArray)=>(.seq (.seq .no (.cond .no .no)) (.seq (.blk (.reg [(7,.dat (.l 1 eStr (xs.set (i40).toNat (a.getD i40.toNat default))))])) (.reg [(1,.bnd)])))) i.2.1 i.2.2)))) (.seq .no .no)))) Tryz.func6 (fun (hp:a.length≤1000000000∧(∀ k:Nat,(a.getD k default).size≤1000000000))=>have hpre0:=hp.1; have hpre1:=hp.2; kn a fun _=>ai (by first | omega | (simp only [lens,ib] at*<;> omega):0≤(a.length:Int)∧(a.length:Int)≤(a.length:Int)∧(16:Int)*(a.length:Int)≤281474976710656) (ai (MakeOK.mk eStr (w13_:ByteArray) (by exact ai ir trivial):MakeOK 1 [.v (.string w13_)] (a.length:Int).toNat (.l 1 eStr (List.replicate (a.length:Int).toNat (w13_:ByteArray)))) (kn a fun _=>kn (List.replicate (a.length:Int).toNat (w13_:ByteArray)) fun _=>ai (en6_0 a (by refine ⟨?_,?_⟩ <;> first | omega | (simp only [lens,ib] at*<;> omega))) (fun (i0:Nat×(Int×List ByteArray)) (hi0:Qki a i0)=>(fun (m0:Nat) (i40:Int) (xs:List ByteArray) (hh0:lH6_0 a i0 m0 i40 xs)=>have hI0:=hh0.1; have hl0:=hh0.2.1; have _:=hh0.2.2.1; have _:=hh0.2.2.2; ifd (i40<(a.length:Int)) (fun h2 _=>ai (by first | omega | (simp only [lens,ib] at*<;> omega):ib i40 a) (ai (by first | omega | (simp only [lens,ib] at*<;> omega):ib i40 xs) (ai (setr 1 eStr xs (i40).toNat (a.getD i40.toNat default)) (ai (iok (i40+1) (by first | omega | (simp only [lens,ib] at*<;> omega))) (bk6_0 a i0 m0 (i40+1) (xs.set (i40).toNat (a.getD i40.toNat default)) hl0 (Qe hI0 (condT h2 rfl)) (by refine ⟨?_,?_,?_⟩ <;> first | omega | (simp only [lens,ib] at*<;> omega))))))) (fun h2 _=>have hD0_3:lX6_0 a=Lp.done (i40,xs):=Qk hI0 (condF h2 rfl); fi6 a xs (finD hD0_3 rfl))) (i0.1-1) i0.2.1 i0.2.2 (un6_0 a i0 hi0))))) (by kernel_rfl)
theorem as6 (a:List ByteArray):F6 a=(a):=by
 exact Ugj (fun x=>x) (fun _=>rfl) a _ (by simp) (Qee a) (fun i xs=>rfl)
theorem oa6 (a:List ByteArray):(S6 (a) a).ok Tryz.prog 6:=by
 intro hp; have h:=ok6 a hp; rw [as6 a] at h; exact h
def F20 (a:TernPeer) (b:TernPeer):Bool :=
 bif (a.Addr != b.Addr) then false else (bif (a.Key != b.Key) then false else (bif (a.Secret != b.Secret) then false else true))
def S20 (R:Bool) (a:TernPeer) (b:TernPeer):Spec:=⟨[.r (.g (Qc a)),.r (.g (Qc b))],.v (.bool R),True⟩
theorem ok20 (a:TernPeer) (b:TernPeer):(S20 (F20 a b) a b).ok Tryz.prog 20 :=
 Qn mixed (fn:=Tryz.f20) (ct:=.seq .no (.seq (.seq .no (.cond (.seq .no .no) .no)) (.seq (.seq .no (.cond (.seq .no .no) .no)) (.seq (.seq .no (.cond (.seq .no .no) .no)) (.seq .no .no))))) Tryz.func20 (fun (_:True)=>ifn a.Addr b.Addr (fun h1 _=>fiB false (F20 a b) (condT h1 rfl)) (fun h1 _=>ifn a.Key b.Key (fun h2 _=>fiB false (F20 a b) (condF h1 (condT h2 rfl))) (fun h2 _=>ifn a.Secret b.Secret (fun h3 _=>fiB false (F20 a b) (condF h1 (condF h2 (condT h3 rfl)))) (fun h3 _=>fiB true (F20 a b) (condF h1 (condF h2 (condF h3 rfl))))))) (by kernel_rfl)
theorem as20 (a:TernPeer) (b:TernPeer):F20 a b=(decide (a=b)):=by
 cases a; cases b
 simp only [F20,TernPeer.mk.injEq,neI,neB,neS,eqstep,Bool.decide_and,Bool.and_true]
theorem oa20 (a:TernPeer) (b:TernPeer):(S20 (decide (a=b)) a b).ok Tryz.prog 20:=by
 intro hp; have h:=ok20 a b hp; rw [as20 a b] at h; exact h
theorem kc20a (a:TernPeer) (b:TernPeer) {K_:Prop} (k_:K_):(True)∧(Imps (Qc a) (Qc a))∧(Imps (Qc b) (Qc b))∧K_:=⟨trivial,Imps.refl _,Imps.refl _,k_⟩
abbrev kh20a (a:TernPeer) (b:TernPeer):Hint true Tryz.prog:=.call 20 (S20 (decide (a=b)) a b) (oa20 a b) none
def Qei (a:List TernPeer) (b:List TernPeer):Int→Lp Int Bool:=fun i40 =>
 bif (decide (i40<(a.length:Int))) then (bif (!(decide ((a.getD i40.toNat default)=(b.getD i40.toNat default)))) then (.ret false) else (.next (i40+1))) else (.done i40)
def F8 (a:List TernPeer) (b:List TernPeer):Bool :=
 bif ((a.length:Int) != (b.length:Int)) then false else ((runL (Qei a b) (((a.length:Int)-0).toNat+1) 0).fin (fun r=>r) (fun i40=>true))
abbrev Qjt (a:List TernPeer):Nat×Int:=((((a.length:Int)-0).toNat+1),0)
abbrev Qvc (a:List TernPeer) (m39:Nat) (i40:Int):Prop:=Int.toNat ((a.length:Int)-i40)<m39∧(0:Int)≤i40
abbrev lX8_0 (a:List TernPeer) (b:List TernPeer):Lp Int Bool:=LpX (Qei a b) (Qjt a)
abbrev Qko (a:List TernPeer) (b:List TernPeer) (i:Nat×Int):Prop:=LpJ (Qei a b) (Qjt a) i (Qvc a i.1 i.2)
abbrev lH8_0 (a:List TernPeer) (b:List TernPeer) (i:Nat×Int) (m39:Nat) (i40:Int):Prop:=LpH (Qei a b) (Qjt a) i m39 i40 (Qvc a (m39+1) i40)
abbrev lE8_0 (a:List TernPeer) (b:List TernPeer) (i40:Int) (i40_:Int) (K39:Prop):Prop:=((.int .i64 i40:Value)=.int .i64 i40_)∧(Im (.l 3 Qc a))∧(Im (.l 3 Qc b))∧K39
theorem un8_0 (a:List TernPeer) (b:List TernPeer) (i:Nat×Int) (h:Qko a b i):lH8_0 a b i (i.1-1) i.2:=⟨hd1 h.1 h.2.1,hd3 h.2.1,hd2 h.2.1,h.2.2⟩
theorem bk8_0 (a:List TernPeer) (b:List TernPeer) (i:Nat×Int) (m39:Nat) (i40:Int) (hl:m39<i.1) (e:runL (Qei a b) m39 i40=lX8_0 a b) (h:Qvc a m39 i40):∃ j:Nat×Int,lE8_0 a b i40 j.2 (Qko a b j∧j.1<i.1):=⟨(m39,i40),rfl,Imp.refl _,Imp.refl _,⟨e,h⟩,hl⟩
theorem en8_0 (a:List TernPeer) (b:List TernPeer) (h:(0:Int)≤0):lE8_0 a b 0 0 (Qko a b (Qjt a)):=⟨rfl,Imp.refl _,Imp.refl _,rfl,Nat.lt_succ_self _,h⟩
def S8 (R:Bool) (a:List TernPeer) (b:List TernPeer):Spec:=⟨[.r (.c (.l 3 Qc a)),.r (.c (.l 3 Qc b))],.v (.bool R),True⟩
theorem ok8 (a:List TernPeer) (b:List TernPeer):(S8 (F8 a b) a b).ok Tryz.prog 8 :=
 Qn mixed (fn:=Tryz.f8) (ct:=.seqk [(0,0),(1,0)] .no (.seq (.seq .no (.cond (.seq .no .no) .no)) (.seq (.seqk [(0,0),(1,0)] .no (.blk (.loop (ι:=Nat×Int) (fun i=>(fun (i40:Int)=>(⟨[(0,some (.h 0 0)),(1,some (.h 1 0)),(5,some (.v (vI i40)))],[(0,some (.shr none (.l 3 Qc a))),(1,some (.shr none (.l 3 Qc b)))],2⟩:St)) i.2) (Qko a b) (fun i=>i.1) (Qjt a) (fun i=>(fun (i40:Int)=>(.seq (.seq .no (.cond .no .no)) (.seq (.blk (.seq (.reg [(8,kh20a (a.getD i40.toNat default) (b.getD i40.toNat default))]) (.cond (.seq .no .no) .no))) (.reg [(1,.bnd)])))) i.2)))) (.seq .no .no)))) Tryz.func8 (fun (_:True)=>kn a fun _=>kn b fun _=>ifn (a.length:Int) (b.length:Int) (fun h1 _=>fiB false (F8 a b) (condT h1 rfl)) (fun h1 _=>kn a fun _=>kn b fun _=>ai (en8_0 a b (by omega)) (fun (i0:Nat×Int) (hi0:Qko a b i0)=>(fun (m0:Nat) (i40:Int) (hh0:lH8_0 a b i0 m0 i40)=>have hI0:=hh0.1; have hl0:=hh0.2.1; have _:=hh0.2.2.1; have _:=hh0.2.2.2; ifd (i40<(a.length:Int)) (fun h3 _=>ai (by omega:ib i40 a) (ai (by omega:ib i40 b) (kc20a (a.getD i40.toNat default) (b.getD i40.toNat default) (ifb (!(decide ((a.getD i40.toNat default)=(b.getD i40.toNat default)))) (fun h4=>have _:=of_decide_eq_false (Wb h4); fiB false (F8 a b) (condF h1 (finR (Qr hI0 (condT h3 (condT h4 rfl))) rfl))) (fun h4=>have _:=of_decide_eq_true (Yl h4); ai (iok (i40+1) (by omega)) (bk8_0 a b i0 m0 (i40+1) hl0 (Qe hI0 (condT h3 (condF h4 rfl))) (by refine ⟨?_,?_⟩ <;> omega))))))) (fun h3 _=>have hD0_5:lX8_0 a b=Lp.done i40:=Qk hI0 (condF h3 rfl); fiB true (F8 a b) (condF h1 (finD hD0_5 rfl)))) (i0.1-1) i0.2 (un8_0 a b i0 hi0)))) (by kernel_rfl)
theorem as8 (a:List TernPeer) (b:List TernPeer):F8 a b=(decide (a=b)):=by
 exact Qry (fun x y=>decide (x=y)) (fun _ _=>rfl) a b (Qei a b) (fun i=>rfl)
theorem oa8 (a:List TernPeer) (b:List TernPeer):(S8 (decide (a=b)) a b).ok Tryz.prog 8:=by
 intro hp; have h:=ok8 a b hp; rw [as8 a b] at h; exact h
def Qby (a:List ByteArray) (b:List ByteArray):Int→Lp Int Bool:=fun i40 =>
 bif (decide (i40<(a.length:Int))) then (bif (!((a.getD i40.toNat default).toList==(b.getD i40.toNat default).toList)) then (.ret false) else (.next (i40+1))) else (.done i40)
def F9 (a:List ByteArray) (b:List ByteArray):Bool :=
 bif ((a.length:Int) != (b.length:Int)) then false else ((runL (Qby a b) (((a.length:Int)-0).toNat+1) 0).fin (fun r=>r) (fun i40=>true))
abbrev Qio (a:List ByteArray):Nat×Int:=((((a.length:Int)-0).toNat+1),0)
abbrev Quf (a:List ByteArray) (m39:Nat) (i40:Int):Prop:=Int.toNat ((a.length:Int)-i40)<m39∧(0:Int)≤i40
abbrev lX9_0 (a:List ByteArray) (b:List ByteArray):Lp Int Bool:=LpX (Qby a b) (Qio a)
abbrev Qij (a:List ByteArray) (b:List ByteArray) (i:Nat×Int):Prop:=LpJ (Qby a b) (Qio a) i (Quf a i.1 i.2)
abbrev lH9_0 (a:List ByteArray) (b:List ByteArray) (i:Nat×Int) (m39:Nat) (i40:Int):Prop:=LpH (Qby a b) (Qio a) i m39 i40 (Quf a (m39+1) i40)
abbrev lE9_0 (a:List ByteArray) (b:List ByteArray) (i40:Int) (i40_:Int) (K39:Prop):Prop:=((.int .i64 i40:Value)=.int .i64 i40_)∧(Im (.l 1 eStr a))∧(Im (.l 1 eStr b))∧K39
theorem un9_0 (a:List ByteArray) (b:List ByteArray) (i:Nat×Int) (h:Qij a b i):lH9_0 a b i (i.1-1) i.2:=⟨hd1 h.1 h.2.1,hd3 h.2.1,hd2 h.2.1,h.2.2⟩
theorem bk9_0 (a:List ByteArray) (b:List ByteArray) (i:Nat×Int) (m39:Nat) (i40:Int) (hl:m39<i.1) (e:runL (Qby a b) m39 i40=lX9_0 a b) (h:Quf a m39 i40):∃ j:Nat×Int,lE9_0 a b i40 j.2 (Qij a b j∧j.1<i.1):=⟨(m39,i40),rfl,Imp.refl _,Imp.refl _,⟨e,h⟩,hl⟩
theorem en9_0 (a:List ByteArray) (b:List ByteArray) (h:(0:Int)≤0):lE9_0 a b 0 0 (Qij a b (Qio a)):=⟨rfl,Imp.refl _,Imp.refl _,rfl,Nat.lt_succ_self _,h⟩
def S9 (R:Bool) (a:List ByteArray) (b:List ByteArray):Spec:=⟨[.r (.c (.l 1 eStr a)),.r (.c (.l 1 eStr b))],.v (.bool R),True⟩
theorem ok9 (a:List ByteArray) (b:List ByteArray):(S9 (F9 a b) a b).ok Tryz.prog 9 :=
 Qn mixed (fn:=Tryz.f9) (ct:=.seqk [(0,0),(1,0)] .no (.seq (.seq .no (.cond (.seq .no .no) .no)) (.seq (.seqk [(0,0),(1,0)] .no (.blk (.loop (ι:=Nat×Int) (fun i=>(fun (i40:Int)=>(⟨[(0,some (.h 0 0)),(1,some (.h 1 0)),(5,some (.v (vI i40)))],[(0,some (.shr none (.l 1 eStr a))),(1,some (.shr none (.l 1 eStr b)))],2⟩:St)) i.2) (Qij a b) (fun i=>i.1) (Qio a) (fun i=>(fun (i40:Int)=>(.seq (.seq .no (.cond .no .no)) (.seq (.blk (.seq .no (.cond (.seq .no .no) .no))) (.reg [(1,.bnd)])))) i.2)))) (.seq .no .no)))) Tryz.func9 (fun (_:True)=>kn a fun _=>kn b fun _=>ifn (a.length:Int) (b.length:Int) (fun h1 _=>fiB false (F9 a b) (condT h1 rfl)) (fun h1 _=>kn a fun _=>kn b fun _=>ai (en9_0 a b (by omega)) (fun (i0:Nat×Int) (hi0:Qij a b i0)=>(fun (m0:Nat) (i40:Int) (hh0:lH9_0 a b i0 m0 i40)=>have hI0:=hh0.1; have hl0:=hh0.2.1; have _:=hh0.2.2.1; have _:=hh0.2.2.2; ifd (i40<(a.length:Int)) (fun h3 _=>ai (by omega:ib i40 a) (ai (by omega:ib i40 b) (ifb (!((a.getD i40.toNat default).toList==(b.getD i40.toNat default).toList)) (fun h4=>fiB false (F9 a b) (condF h1 (finR (Qr hI0 (condT h3 (condT h4 rfl))) rfl))) (fun h4=>ai (iok (i40+1) (by omega)) (bk9_0 a b i0 m0 (i40+1) hl0 (Qe hI0 (condT h3 (condF h4 rfl))) (by refine ⟨?_,?_⟩ <;> omega)))))) (fun h3 _=>have hD0_5:lX9_0 a b=Lp.done i40:=Qk hI0 (condF h3 rfl); fiB true (F9 a b) (condF h1 (finD hD0_5 rfl)))) (i0.1-1) i0.2 (un9_0 a b i0 hi0)))) (by kernel_rfl)
theorem as9 (a:List ByteArray) (b:List ByteArray):F9 a b=(decide (a=b)):=by
 exact Qry (fun x y=>decide (x=y)) (fun _ _=>rfl) a b (Qby a b) (fun i=>by simp only [Qby,neI,neB,neS])
theorem oa9 (a:List ByteArray) (b:List ByteArray):(S9 (decide (a=b)) a b).ok Tryz.prog 9:=by
 intro hp; have h:=ok9 a b hp; rw [as9 a b] at h; exact h
def Pp (a:List TernPeer) (k:Int):(Int×Int×List TernPeer)→Lp (Int×Int×List TernPeer) (Int×List TernPeer):=fun (k400,i40,xs) =>
 bif (decide (i40<(xs.length:Int))) then (.next ((IntKind.i64.wrap ((IntKind.i64.wrap ((IntKind.i64.wrap (k400+1))+1))+1)),(i40+1),(xs.set (i40).toNat (⟨k400,(IntKind.i64.wrap (k400+1)),(IntKind.i64.wrap ((IntKind.i64.wrap (k400+1))+1))⟩:TernPeer)))) else (.done (k400,i40,xs))
def F11 (a:List TernPeer) (k:Int):Int×List TernPeer :=
 (runL (Pp a k) (((a.length:Int)-0).toNat+1) (k,0,a)).fin (fun r=>r) (fun (k400,i40,xs)=>(k400,xs))
abbrev Qbp (a:List TernPeer) (k:Int):Nat×(Int×Int×List TernPeer):=((((a.length:Int)-0).toNat+1),(k,0,a))
abbrev Qlu (a:List TernPeer) (m39:Nat) (k400:Int) (i40:Int) (xs:List TernPeer):Prop:=Int.toNat ((xs.length:Int)-i40)<m39∧(0:Int)≤i40∧xs.length=a.length
abbrev Qxb (a:List TernPeer) (k:Int):Lp (Int×Int×List TernPeer) (Int×List TernPeer):=LpX (Pp a k) (Qbp a k)
abbrev Qbi (a:List TernPeer) (k:Int) (i:Nat×(Int×Int×List TernPeer)):Prop:=LpJ (Pp a k) (Qbp a k) i (Qlu a i.1 i.2.1 i.2.2.1 i.2.2.2)
abbrev Qwt (a:List TernPeer) (k:Int) (i:Nat×(Int×Int×List TernPeer)) (m39:Nat) (k400:Int) (i40:Int) (xs:List TernPeer):Prop:=LpH (Pp a k) (Qbp a k) i m39 (k400,i40,xs) (Qlu a (m39+1) k400 i40 xs)
abbrev Qyu (k400:Int) (i40:Int) (xs:List TernPeer) (k400_:Int) (i40_:Int) (xs_:List TernPeer) (K39:Prop):Prop:=((.int .i64 k400:Value)=.int .i64 k400_)∧((.int .i64 i40:Value)=.int .i64 i40_)∧(Imp (.l 3 Qc xs) (.l 3 Qc xs_))∧K39
theorem un11_0 (a:List TernPeer) (k:Int) (i:Nat×(Int×Int×List TernPeer)) (h:Qbi a k i):Qwt a k i (i.1-1) i.2.1 i.2.2.1 i.2.2.2:=⟨hd1 h.1 h.2.1,hd3 h.2.1,hd2 h.2.1,h.2.2⟩
theorem bk11_0 (a:List TernPeer) (k:Int) (i:Nat×(Int×Int×List TernPeer)) (m39:Nat) (k400:Int) (i40:Int) (xs:List TernPeer) (hl:m39<i.1) (e:runL (Pp a k) m39 (k400,i40,xs)=Qxb a k) (h:Qlu a m39 k400 i40 xs):∃ j:Nat×(Int×Int×List TernPeer),Qyu k400 i40 xs j.2.1 j.2.2.1 j.2.2.2 (Qbi a k j∧j.1<i.1):=⟨(m39,(k400,i40,xs)),rfl,rfl,Imp.refl _,⟨e,h⟩,hl⟩
theorem en11_0 (a:List TernPeer) (k:Int) (h:(0:Int)≤0∧a.length=a.length):Qyu k 0 a k 0 a (Qbi a k (Qbp a k)):=⟨rfl,rfl,Imp.refl _,rfl,Nat.lt_succ_self _,h⟩
theorem fi11 (a:List TernPeer) (k:Int) (r:Int×List TernPeer) (hF:r=(F11 a k)):((.int .i64 r.1:Value)=.int .i64 (F11 a k).1)∧(Imp (.l 3 Qc r.2) (.l 3 Qc (F11 a k).2))∧True:=by cases hF; exact ⟨rfl,Imp.refl _,trivial⟩
def S11 (a:List TernPeer) (k:Int):Spec:=⟨[.ow (.l 3 Qc a) (some (.l 3 Qc (F11 a k).2)),.r (.c (.v (vI k)))],.v (vI (F11 a k).1),True⟩
abbrev Py (k400:Int) (xs:List TernPeer) (i40:Int):=(⟨k400,(xs.getD i40.toNat default).Key,(xs.getD i40.toNat default).Secret⟩:TernPeer)
theorem ok11 (a:List TernPeer) (k:Int):(S11 a k).ok Tryz.prog 11 :=
 Qn mixed (fn:=Tryz.f11) (ct:=.seqk [(0,0)] .no (.seq (.seqk [(0,0)] .no (.blk (.loop (ι:=Nat×(Int×Int×List TernPeer)) (fun i=>(fun (k400:Int) (i40:Int) (xs:List TernPeer)=>(⟨[(0,some (.h 0 0)),(1,some (.v (vI k400))),(5,some (.v (vI i40)))],[(0,some (.own 0 (.l 3 Qc xs)))],1⟩:St)) i.2.1 i.2.2.1 i.2.2.2) (Qbi a k) (fun i=>i.1) (Qbp a k) (fun i=>(fun (k400:Int) (i40:Int) (xs:List TernPeer)=>(.seq (.seq .no (.cond .no .no)) (.seq (.blk (.seq (.reg [(5,.dat (.l 3 Qc (xs.set (i40).toNat (Py k400 xs i40))))]) (.seq .no (.seq (.reg [(3,.ix (Qc (Py k400 xs i40))),(5,.dat (.l 3 Qc (xs.set (i40).toNat (⟨k400,(IntKind.i64.wrap (k400+1)),(xs.getD i40.toNat default).Secret⟩:TernPeer))))]) (.seq .no (.seq (.reg [(3,.ix (Qc (⟨k400,(IntKind.i64.wrap (k400+1)),(xs.getD i40.toNat default).Secret⟩:TernPeer))),(5,.dat (.l 3 Qc (xs.set (i40).toNat (⟨k400,(IntKind.i64.wrap (k400+1)),(IntKind.i64.wrap ((IntKind.i64.wrap (k400+1))+1))⟩:TernPeer))))]) .no)))))) (.reg [(1,.bnd)])))) i.2.1 i.2.2.1 i.2.2.2)))) (.seq .no .no))) Tryz.func11 (fun (_:True)=>kn a fun _=>kn a fun _=>ai (en11_0 a k (by refine ⟨?_,?_⟩ <;> first | omega | (simp only [lens,ib] at*<;> omega))) (fun (i0:Nat×(Int×Int×List TernPeer)) (hi0:Qbi a k i0)=>(fun (m0:Nat) (k400:Int) (i40:Int) (xs:List TernPeer) (hh0:Qwt a k i0 m0 k400 i40 xs)=>have hI0:=hh0.1; have hl0:=hh0.2.1; have _:=hh0.2.2.1; have _:=hh0.2.2.2; ifd (i40<(xs.length:Int)) (fun h2 _=>ai (by first | omega | (simp only [lens,ib] at*<;> omega):ib i40 xs) (ai (setr 3 Qc xs (i40).toNat (Py k400 xs i40)) (ai (by first | omega | (simp only [lens,ib] at*<;> omega):0≤i40∧i40<((xs.set (i40).toNat (Py k400 xs i40)).length:Int)) (ai (Imps.of_eq (congrArg Qc (Zn xs (i40).toNat (Py k400 xs i40) (by first | omega | (simp only [lens,ib] at*<;> omega):(i40).toNat<xs.length)))) (ai (SetOK.mk2 Qc xs (Py k400 xs i40) (⟨k400,(IntKind.i64.wrap (k400+1)),(xs.getD i40.toNat default).Secret⟩:TernPeer) (by first | omega | (simp only [lens,ib] at*<;> omega):(i40).toNat<xs.length) (by exact ai ir (ai ir (ai ir trivial))):SetOK (.l 3 Qc (xs.set (i40).toNat (Py k400 xs i40))) (i40).toNat (Qc (Py k400 xs i40)) [.v (vI k400),.v (vI (IntKind.i64.wrap (k400+1))),.v (vI (xs.getD i40.toNat default).Secret)] (.l 3 Qc (xs.set (i40).toNat (⟨k400,(IntKind.i64.wrap (k400+1)),(xs.getD i40.toNat default).Secret⟩:TernPeer)))) (ai (by first | omega | (simp only [lens,ib] at*<;> omega):0≤i40∧i40<((xs.set (i40).toNat (⟨k400,(IntKind.i64.wrap (k400+1)),(xs.getD i40.toNat default).Secret⟩:TernPeer)).length:Int)) (ai (Imps.of_eq (congrArg Qc (Zn xs (i40).toNat (⟨k400,(IntKind.i64.wrap (k400+1)),(xs.getD i40.toNat default).Secret⟩:TernPeer) (by first | omega | (simp only [lens,ib] at*<;> omega):(i40).toNat<xs.length)))) (ai (SetOK.mk2 Qc xs (⟨k400,(IntKind.i64.wrap (k400+1)),(xs.getD i40.toNat default).Secret⟩:TernPeer) (⟨k400,(IntKind.i64.wrap (k400+1)),(IntKind.i64.wrap ((IntKind.i64.wrap (k400+1))+1))⟩:TernPeer) (by first | omega | (simp only [lens,ib] at*<;> omega):(i40).toNat<xs.length) (by exact ai ir (ai ir (ai ir trivial))):SetOK (.l 3 Qc (xs.set (i40).toNat (⟨k400,(IntKind.i64.wrap (k400+1)),(xs.getD i40.toNat default).Secret⟩:TernPeer))) (i40).toNat (Qc (⟨k400,(IntKind.i64.wrap (k400+1)),(xs.getD i40.toNat default).Secret⟩:TernPeer)) [.v (vI k400),.v (vI (IntKind.i64.wrap (k400+1))),.v (vI (IntKind.i64.wrap ((IntKind.i64.wrap (k400+1))+1)))] (.l 3 Qc (xs.set (i40).toNat (⟨k400,(IntKind.i64.wrap (k400+1)),(IntKind.i64.wrap ((IntKind.i64.wrap (k400+1))+1))⟩:TernPeer)))) (ai (iok (i40+1) (by first | omega | (simp only [lens,ib] at*<;> omega))) (bk11_0 a k i0 m0 (IntKind.i64.wrap ((IntKind.i64.wrap ((IntKind.i64.wrap (k400+1))+1))+1)) (i40+1) (xs.set (i40).toNat (⟨k400,(IntKind.i64.wrap (k400+1)),(IntKind.i64.wrap ((IntKind.i64.wrap (k400+1))+1))⟩:TernPeer)) hl0 (Qe hI0 (condT h2 rfl)) (by refine ⟨?_,?_,?_⟩ <;> first | omega | (simp only [lens,ib] at*<;> omega)))))))))))) (fun h2 _=>have hD0_3:Qxb a k=Lp.done (k400,i40,xs):=Qk hI0 (condF h2 rfl); fi11 a k (k400,xs) (finD hD0_3 rfl))) (i0.1-1) i0.2.1 i0.2.2.1 i0.2.2.2 (un11_0 a k i0 hi0))) (by kernel_rfl)
def Be (a:List TernPeer) (k:Int):(Int×Int)→Lp (Int×Int) Int:=fun (k400,i40) =>
 bif (decide (i40<(a.length:Int))) then (bif ((a.getD i40.toNat default).Addr != k400) then (.ret (-1)) else (bif ((a.getD i40.toNat default).Key != (IntKind.i64.wrap (k400+1))) then (.ret (-1)) else (bif ((a.getD i40.toNat default).Secret != (IntKind.i64.wrap ((IntKind.i64.wrap (k400+1))+1))) then (.ret (-1)) else (.next ((IntKind.i64.wrap ((IntKind.i64.wrap ((IntKind.i64.wrap (k400+1))+1))+1)),(i40+1)))))) else (.done (k400,i40))
def F12 (a:List TernPeer) (k:Int):Int :=
 (runL (Be a k) (((a.length:Int)-0).toNat+1) (k,0)).fin (fun r=>r) (fun (k400,i40)=>k400)
abbrev Qcp (a:List TernPeer) (k:Int):Nat×(Int×Int):=((((a.length:Int)-0).toNat+1),(k,0))
abbrev Qkx (a:List TernPeer) (m39:Nat) (k400:Int) (i40:Int):Prop:=Int.toNat ((a.length:Int)-i40)<m39∧(0:Int)≤i40
abbrev Uar (a:List TernPeer) (k:Int):Lp (Int×Int) Int:=LpX (Be a k) (Qcp a k)
abbrev Qae (a:List TernPeer) (k:Int) (i:Nat×(Int×Int)):Prop:=LpJ (Be a k) (Qcp a k) i (Qkx a i.1 i.2.1 i.2.2)
abbrev Ucd (a:List TernPeer) (k:Int) (i:Nat×(Int×Int)) (m39:Nat) (k400:Int) (i40:Int):Prop:=LpH (Be a k) (Qcp a k) i m39 (k400,i40) (Qkx a (m39+1) k400 i40)
abbrev Ubh (a:List TernPeer) (k400:Int) (i40:Int) (k400_:Int) (i40_:Int) (K39:Prop):Prop:=((.int .i64 k400:Value)=.int .i64 k400_)∧((.int .i64 i40:Value)=.int .i64 i40_)∧(Im (.l 3 Qc a))∧K39
theorem un12_0 (a:List TernPeer) (k:Int) (i:Nat×(Int×Int)) (h:Qae a k i):Ucd a k i (i.1-1) i.2.1 i.2.2:=⟨hd1 h.1 h.2.1,hd3 h.2.1,hd2 h.2.1,h.2.2⟩
theorem bk12_0 (a:List TernPeer) (k:Int) (i:Nat×(Int×Int)) (m39:Nat) (k400:Int) (i40:Int) (hl:m39<i.1) (e:runL (Be a k) m39 (k400,i40)=Uar a k) (h:Qkx a m39 k400 i40):∃ j:Nat×(Int×Int),Ubh a k400 i40 j.2.1 j.2.2 (Qae a k j∧j.1<i.1):=⟨(m39,(k400,i40)),rfl,rfl,Imp.refl _,⟨e,h⟩,hl⟩
theorem en12_0 (a:List TernPeer) (k:Int) (h:(0:Int)≤0):Ubh a k 0 k 0 (Qae a k (Qcp a k)):=⟨rfl,rfl,Imp.refl _,rfl,Nat.lt_succ_self _,h⟩
def S12 (a:List TernPeer) (k:Int):Spec:=⟨[.r (.c (.l 3 Qc a)),.r (.c (.v (vI k)))],.v (vI (F12 a k)),True⟩
theorem ok12 (a:List TernPeer) (k:Int):(S12 a k).ok Tryz.prog 12 :=
 Qn mixed (fn:=Tryz.f12) (ct:=.seqk [(0,0)] .no (.seq (.seqk [(0,0)] .no (.blk (.loop (ι:=Nat×(Int×Int)) (fun i=>(fun (k400:Int) (i40:Int)=>(⟨[(0,some (.h 0 0)),(1,some (.v (vI k400))),(5,some (.v (vI i40)))],[(0,some (.shr none (.l 3 Qc a)))],1⟩:St)) i.2.1 i.2.2) (Qae a k) (fun i=>i.1) (Qcp a k) (fun i=>(fun (k400:Int) (i40:Int)=>(.seq (.seq .no (.cond .no .no)) (.seq (.blk (.seq (.seq .no (.cond (.seq .no .no) .no)) (.seq .no (.seq (.seq .no (.cond (.seq .no .no) .no)) (.seq .no (.seq (.seq .no (.cond (.seq .no .no) .no)) .no)))))) (.reg [(1,.bnd)])))) i.2.1 i.2.2)))) (.seq .no .no))) Tryz.func12 (fun (_:True)=>kn a fun _=>kn a fun _=>ai (en12_0 a k (by omega)) (fun (i0:Nat×(Int×Int)) (hi0:Qae a k i0)=>(fun (m0:Nat) (k400:Int) (i40:Int) (hh0:Ucd a k i0 m0 k400 i40)=>have hI0:=hh0.1; have hl0:=hh0.2.1; have _:=hh0.2.2.1; have _:=hh0.2.2.2; ifd (i40<(a.length:Int)) (fun h2 _=>ai (by omega:ib i40 a) (ifn (a.getD i40.toNat default).Addr k400 (fun h3 _=>fiI (-1) (F12 a k) (finR (Qr hI0 (condT h2 (condT h3 rfl))) rfl)) (fun h3 _=>ai (by omega:ib i40 a) (ifn (a.getD i40.toNat default).Key (IntKind.i64.wrap (k400+1)) (fun h4 _=>fiI (-1) (F12 a k) (finR (Qr hI0 (condT h2 (condF h3 (condT h4 rfl)))) rfl)) (fun h4 _=>ai (by omega:ib i40 a) (ifn (a.getD i40.toNat default).Secret (IntKind.i64.wrap ((IntKind.i64.wrap (k400+1))+1)) (fun h5 _=>fiI (-1) (F12 a k) (finR (Qr hI0 (condT h2 (condF h3 (condF h4 (condT h5 rfl))))) rfl)) (fun h5 _=>ai (iok (i40+1) (by omega)) (bk12_0 a k i0 m0 (IntKind.i64.wrap ((IntKind.i64.wrap ((IntKind.i64.wrap (k400+1))+1))+1)) (i40+1) hl0 (Qe hI0 (condT h2 (condF h3 (condF h4 (condF h5 rfl))))) (by refine ⟨?_,?_⟩ <;> omega))))))))) (fun h2 _=>have hD0_6:Uar a k=Lp.done (k400,i40):=Qk hI0 (condF h2 rfl); fiI k400 (F12 a k) (finD hD0_6 rfl))) (i0.1-1) i0.2.1 i0.2.2 (un12_0 a k i0 hi0))) (by kernel_rfl)
theorem kc4 (a:List ByteArray) (left':Int) {K_:Prop} (p0_:0≤left') (p1_:left'≤1048576) (p2_:∀ k:Nat,(a.getD k default).size≤9223372036854775807) (k_:(0≤left'→left'≤1048576→0≤(F4 a left')→(F4 a left')≤left')→(0≤left'→left'≤1048576→0≤(F4 a left')→a.length≤1000000000)→(0≤left'→left'≤1048576→0≤(F4 a left')→∀ k:Nat,(a.getD k default).size≤1000000000)→K_):(0≤left'∧left'≤1048576∧(∀ k:Nat,(a.getD k default).size≤9223372036854775807))∧(Imp (.l 1 eStr a) (.l 1 eStr a))∧(Imp (.v (vI left')) (.v (vI left')))∧K_:=⟨⟨p0_,p1_,p2_⟩,Imp.refl _,Imp.refl _,k_ (g4_0 a left') (g4_1 a left') (g4_2 a left')⟩
theorem kc6a (a:List ByteArray) {K_:Prop} (p0_:a.length≤1000000000) (p1_:∀ k:Nat,(a.getD k default).size≤1000000000) (k_:K_):(a.length≤1000000000∧(∀ k:Nat,(a.getD k default).size≤1000000000))∧(Imp (.l 1 eStr a) (.l 1 eStr a))∧K_:=⟨⟨p0_,p1_⟩,Imp.refl _,k_⟩
theorem kc5 (lines:List ByteArray) {K_:Prop} (p0_:lines.length≤1048576) (p1_:∀ k:Nat,(lines.getD k default).size≤1048576) (k_:K_):(lines.length≤1048576∧(∀ k:Nat,(lines.getD k default).size≤1048576))∧(Imp (.l 1 eStr lines) (.l 1 eStr lines))∧K_:=⟨⟨p0_,p1_⟩,Imp.refl _,k_⟩
theorem kc7 (lines:List ByteArray) {K_:Prop} (p0_:lines.length≤1048576) (p1_:∀ k:Nat,(lines.getD k default).size≤1048576) (k_:K_):(lines.length≤1048576∧(∀ k:Nat,(lines.getD k default).size≤1048576))∧(Imp (.l 1 eStr lines) (.l 1 eStr lines))∧K_:=⟨⟨p0_,p1_⟩,Imp.refl _,k_⟩
abbrev kh4f (a:List ByteArray) (left':Int):Hint false Tryz.prog:=.call 4 (S4 a left') ((ok4 a left').to false) none
abbrev Qqi (a:List ByteArray):Hint false Tryz.prog:=.call 6 (S6 a a) ((oa6 a).to false) none
abbrev kh5f (lines:List ByteArray):Hint false Tryz.prog:=.call 5 (S5 lines) ((ok5 lines).to false) none
abbrev kh7 (lines:List ByteArray):Hint false Tryz.prog:=.call 7 (S7 lines) (ok7 lines) none
theorem kc8a (a:List TernPeer) (b:List TernPeer) {K_:Prop} (k_:K_):(True)∧(Imp (.l 3 Qc a) (.l 3 Qc a))∧(Imp (.l 3 Qc b) (.l 3 Qc b))∧K_:=⟨trivial,Imp.refl _,Imp.refl _,k_⟩
abbrev Uao (a:List TernPeer) (b:List TernPeer):Hint false Tryz.prog:=.call 8 (S8 (decide (a=b)) a b) ((oa8 a b).to false) none
theorem kc9a (a:List ByteArray) (b:List ByteArray) {K_:Prop} (k_:K_):(True)∧(Imp (.l 1 eStr a) (.l 1 eStr a))∧(Imp (.l 1 eStr b) (.l 1 eStr b))∧K_:=⟨trivial,Imp.refl _,Imp.refl _,k_⟩
abbrev kh9af (a:List ByteArray) (b:List ByteArray):Hint false Tryz.prog:=.call 9 (S9 (decide (a=b)) a b) ((oa9 a b).to false) none
theorem kc10 (a:List ByteArray) (k:Int) {K_:Prop} (p0_:0≤k) (p1_:k+(a.length:Int)≤1000000000) (k_:((F10 a k).1=k+(a.length:Int))→((F10 a k).2.length=a.length)→K_):(0≤k∧k+(a.length:Int)≤1000000000)∧(Imp (.l 1 eStr a) (.l 1 eStr a))∧(Imp (.v (vI k)) (.v (vI k)))∧K_:=⟨⟨p0_,p1_⟩,Imp.refl _,Imp.refl _,k_ (Qjf a k) (g10_0 a k)⟩
abbrev kh10f (a:List ByteArray) (k:Int):Hint false Tryz.prog:=.call 10 (S10 a k) ((ok10 a k).to false) none
theorem kg8a {K_:Prop} (c_ b_:Bool) (a:List TernPeer) (b:List TernPeer) (k_:K_):(c_=b_→True)∧(c_=b_→Imp (.l 3 Qc a) (.l 3 Qc a))∧(c_=b_→Imp (.l 3 Qc b) (.l 3 Qc b))∧K_:=⟨fun _=>trivial,fun _=>Imp.refl _,fun _=>Imp.refl _,k_⟩
theorem kc11 (a:List TernPeer) (k:Int) {K_:Prop} (k_:K_):(True)∧(Imp (.l 3 Qc a) (.l 3 Qc a))∧(Imp (.v (vI k)) (.v (vI k)))∧K_:=⟨trivial,Imp.refl _,Imp.refl _,k_⟩
abbrev kh11f (a:List TernPeer) (k:Int):Hint false Tryz.prog:=.call 11 (S11 a k) ((ok11 a k).to false) none
theorem kc12 (a:List TernPeer) (k:Int) {K_:Prop} (k_:K_):(True)∧(Imp (.l 3 Qc a) (.l 3 Qc a))∧(Imp (.v (vI k)) (.v (vI k)))∧K_:=⟨trivial,Imp.refl _,Imp.refl _,k_⟩
abbrev kh12f (a:List TernPeer) (k:Int):Hint false Tryz.prog:=.call 12 (S12 a k) ((ok12 a k).to false) none
def F3 (aLines:List ByteArray):Bool :=
 bif (decide ((F4 aLines 1048576)<0)) then true else (bif (!(decide ((F7 aLines)=(F5 aLines)))) then false else (bif (!(decide (aLines=aLines))) then false else (bif (bif decide ((F10 aLines 1).1<0) then true else (!(decide ((F7 aLines)=(F5 aLines))))) then false else (bif (decide ((F12 (F11 (F7 aLines) 1).2 1)<0)) then false else (bif ((F12 (F11 (F7 aLines) 1).2 1) != (F11 (F7 aLines) 1).1) then false else (bif (!(decide ((F7 aLines)=(F5 aLines)))) then false else (bif (decide ((F12 (F11 (F7 aLines) 1).2 1)<0)) then false else (bif ((F12 (F11 (F7 aLines) 1).2 1) != (F11 (F7 aLines) 1).1) then false else true))))))))
def S3 (aLines:List ByteArray):Spec:=⟨[.r (.c (.l 1 eStr aLines))],.v (.bool (F3 aLines)),(∀ k:Nat,(aLines.getD k default).size≤9223372036854775807)⟩
theorem ok3 (aLines:List ByteArray):(S3 aLines).ok Tryz.prog 3 false :=
 Qn mixed (fn:=Tryz.f3) (ct:=.seqk [(0,0)] .no (.seq .no (.seq (.reg [(2,kh4f aLines 1048576)]) (.seq (.seq .no (.cond (.seq .no .no) .no)) (.seq (.reg [(1,Qqi aLines),(2,kh5f aLines)]) (.seq (.reg [(1,Qqi aLines)]) (.seq (.reg [(1,kh7 aLines)]) (.seq (.seq (.reg [(2,Uao (F7 aLines) (F5 aLines))]) (.cond (.seq .no .no) .no)) (.seq (.seq (.reg [(2,Qqi aLines),(3,kh9af aLines aLines)]) (.cond (.seq .no .no) .no)) (.seq .no (.seq (.reg [(2,kh10f aLines 1)]) (.seq (.seq (.reg [(5,Uao (F7 aLines) (F5 aLines))]) (.cond (.seq .no .no) .no)) (.seq .no (.seq (.reg [(2,kh11f (F7 aLines) 1)]) (.seq .no (.seq (.reg [(2,kh12f (F11 (F7 aLines) 1).2 1)]) (.seq (.seq .no (.cond (.seq .no .no) .no)) (.seq (.seq .no (.cond (.seq .no .no) .no)) (.seq (.reg [(1,Qqi aLines),(2,kh7 aLines)]) (.seq (.seq (.reg [(2,Uao (F7 aLines) (F5 aLines))]) (.cond (.seq .no .no) .no)) (.seq .no (.seq (.reg [(2,kh12f (F11 (F7 aLines) 1).2 1)]) (.seq (.seq .no (.cond (.seq .no .no) .no)) (.seq (.seq .no (.cond (.seq .no .no) .no)) (.seq .no .no))))))))))))))))))))))))) Tryz.func3 (fun (hpre0:∀ k:Nat,(aLines.getD k default).size≤9223372036854775807)=>kn aLines fun _=>kc4 aLines 1048576 (by omega) (by omega) (by first | assumption | exact hpre0 _ | exact fun k _=>hpre0 k | (intros; exact trivial) | (intros; exact Nat.zero_le _)) (fun gv1 gv2 gv3=>ifd ((F4 aLines 1048576)<0) (fun h4 _=>fiB true (F3 aLines) (condT h4 rfl)) (fun h4 _=>kc6a aLines (by omega) (by first | assumption | exact hpre0 _ | exact fun k _=>hpre0 k | exact gv3 (by omega) (by omega) (by omega) | (intros; exact trivial) | (intros; exact Nat.zero_le _)) (kc5 aLines (by first | omega | exact Xy aLines (l:=1048576) (by omega) (by omega) | exact Gy aLines (l:=1048576) (by omega) (by omega)) (by first | omega | exact Xy aLines (l:=1048576) (by omega) (by omega) | exact Gy aLines (l:=1048576) (by omega) (by omega)) (kc6a aLines (by omega) (by first | assumption | exact hpre0 _ | exact fun k _=>hpre0 k | exact gv3 (by omega) (by omega) (by omega) | (intros; exact trivial) | (intros; exact Nat.zero_le _)) (kc7 aLines (by first | omega | exact Xy aLines (l:=1048576) (by omega) (by omega) | exact Gy aLines (l:=1048576) (by omega) (by omega)) (by first | omega | exact Xy aLines (l:=1048576) (by omega) (by omega) | exact Gy aLines (l:=1048576) (by omega) (by omega)) (kc8a (F7 aLines) (F5 aLines) (ifb (!(decide ((F7 aLines)=(F5 aLines)))) (fun h5=>have _:=of_decide_eq_false (Wb h5); fiB false (F3 aLines) (condF h4 (condT h5 rfl))) (fun h5=>have _:=of_decide_eq_true (Yl h5); kc6a aLines (by omega) (by first | assumption | exact hpre0 _ | exact fun k _=>hpre0 k | exact gv3 (by omega) (by omega) (by omega) | (intros; exact trivial) | (intros; exact Nat.zero_le _)) (kc9a aLines aLines (ifb (!(decide (aLines=aLines))) (fun h6=>have _:=of_decide_eq_false (Wb h6); fiB false (F3 aLines) (condF h4 (condF h5 (condT h6 rfl)))) (fun h6=>have _:=of_decide_eq_true (Yl h6); kc10 aLines 1 (by first | omega | (have ha:=Xy aLines (l:=1048576) (by omega) (by omega); omega)) (by first | omega | (have ha:=Xy aLines (l:=1048576) (by omega) (by omega); omega)) (fun gv7 gv8=>kg8a (decide ((F10 aLines 1).1<0)) false (F7 aLines) (F5 aLines) (ifb (bif decide ((F10 aLines 1).1<0) then true else (!(decide ((F7 aLines)=(F5 aLines))))) (fun h10=>fiB false (F3 aLines) (condF h4 (condF h5 (condF h6 (condT h10 rfl))))) (fun h10=>have _:=of_decide_eq_false (orF1 h10); have _:=of_decide_eq_true (Yl (orF2 h10)); kc11 (F7 aLines) 1 (kc12 (F11 (F7 aLines) 1).2 1 (ifd ((F12 (F11 (F7 aLines) 1).2 1)<0) (fun h11 _=>fiB false (F3 aLines) (condF h4 (condF h5 (condF h6 (condF h10 (condT h11 rfl)))))) (fun h11 _=>ifn (F12 (F11 (F7 aLines) 1).2 1) (F11 (F7 aLines) 1).1 (fun h12 _=>fiB false (F3 aLines) (condF h4 (condF h5 (condF h6 (condF h10 (condF h11 (condT h12 rfl))))))) (fun h12 _=>kc6a aLines (by omega) (by first | assumption | exact hpre0 _ | exact fun k _=>hpre0 k | exact gv3 (by omega) (by omega) (by omega) | (intros; exact trivial) | (intros; exact Nat.zero_le _)) (kc7 aLines (by first | omega | exact Xy aLines (l:=1048576) (by omega) (by omega) | exact Gy aLines (l:=1048576) (by omega) (by omega)) (by first | omega | exact Xy aLines (l:=1048576) (by omega) (by omega) | exact Gy aLines (l:=1048576) (by omega) (by omega)) (kc8a (F7 aLines) (F5 aLines) (ifb (!(decide ((F7 aLines)=(F5 aLines)))) (fun h13=>have _:=of_decide_eq_false (Wb h13); fiB false (F3 aLines) (condF h4 (condF h5 (condF h6 (condF h10 (condF h11 (condF h12 (condT h13 rfl)))))))) (fun h13=>have _:=of_decide_eq_true (Yl h13); kc12 (F11 (F7 aLines) 1).2 1 (ifd ((F12 (F11 (F7 aLines) 1).2 1)<0) (fun h14 _=>fiB false (F3 aLines) (condF h4 (condF h5 (condF h6 (condF h10 (condF h11 (condF h12 (condF h13 (condT h14 rfl))))))))) (fun h14 _=>ifn (F12 (F11 (F7 aLines) 1).2 1) (F11 (F7 aLines) 1).1 (fun h15 _=>fiB false (F3 aLines) (condF h4 (condF h5 (condF h6 (condF h10 (condF h11 (condF h12 (condF h13 (condF h14 (condT h15 rfl)))))))))) (fun h15 _=>fiB true (F3 aLines) (condF h4 (condF h5 (condF h6 (condF h10 (condF h11 (condF h12 (condF h13 (condF h14 (condF h15 rfl))))))))))))))))))))))))))))))))))) (by kernel_rfl)
def Zi (x:TernPeer):Nat:=3
theorem mk11:Mk F11 F12 (sumL Zi) :=
 Qss (fun (x:TernPeer) (k:Int)=>((IntKind.i64.wrap ((IntKind.i64.wrap ((IntKind.i64.wrap (k+1))+1))+1)),(⟨k,(IntKind.i64.wrap (k+1)),(IntKind.i64.wrap ((IntKind.i64.wrap (k+1))+1))⟩:TernPeer))) (fun (x:TernPeer) (k:Int)=>(bif (x.Addr != k) then (-1) else (bif (x.Key != (IntKind.i64.wrap (k+1))) then (-1) else (bif (x.Secret != (IntKind.i64.wrap ((IntKind.i64.wrap (k+1))+1))) then (-1) else (IntKind.i64.wrap ((IntKind.i64.wrap ((IntKind.i64.wrap (k+1))+1))+1)))))) Zi
  (fun x k h0 h1=>by
   simp only [Zi] at h1 ⊢
   simp (discharger:=omega) only [Yw,bne_self_eq_false,beq_self_eq_true,cond_false,cond_true,Bool.not_true,Bool.not_false,neg_lt,and_self] <;> omega)
  F11 F12 Pp Be (fun a k=>rfl) (fun a k0 k i xs=>rfl) (fun a k=>rfl)
  (fun a k0 k i hi h0 hh=>by
   obtain ⟨c0,hh⟩:=Qha hh
   obtain ⟨c1,hh⟩:=Qha hh
   obtain ⟨c2,hh⟩:=Qha hh
   simp only [Be,decide_eq_true hi,cond_true,c0,cond_false,c1,cond_false,c2,cond_false])
  (fun a k0 k=>by simp only [Be,geD,cond_false])
theorem mk11a (x:List TernPeer) (k:Int) (h0:0≤k) (h1:k+((sumL Zi) x:Int)<9223372036854775807):(F11 x k).1=k+(sumL Zi) x:=(mk11 x k h0 h1).1
theorem mk11b (x:List TernPeer) (k:Int) (h0:0≤k) (h1:k+((sumL Zi) x:Int)<9223372036854775807):F12 (F11 x k).2 k=k+(sumL Zi) x:=(mk11 x k h0 h1).2
theorem Udl (lines:List ByteArray):F3 lines=true:=by
 unfold F3
 cases h1:decide (F4 lines 1048576<0) with
 | true=>rfl
 | false =>
 have hl:=Qub lines
 rw [Qbm] at hl
 rw [cond_false,Qbm]
 generalize F5 lines=w at hl
 have hs:=Qjb (fun x:TernPeer=>Zi x) 3 (fun _=>rfl) w
 have m1:=mk11a w 1 (by omega) (by rw [hs]; omega)
 have m2:=mk11b w 1 (by omega) (by rw [hs]; omega)
 rw [hs] at m1 m2
 rw [m1,m2,Qjf,decide_eq_false (show ¬ 1+(lines.length:Int)<0 by omega),decide_eq_false (show ¬ 1+((w.length*3:Nat):Int)<0 by omega)]
 simp
end Go.Proofs.YtahakkfbpnpimabGreatDoor
namespace Go.Proofs.YtahakkfbpnpimabGreatDoor
open Go Go.RowKit Go.ChangeShapes Go.WideShapes Go.ChangeAt
set_option maxRecDepth 100000
set_option linter.unusedVariables false
theorem op_9:OpD Tryz.prog 9 eStr:=OpD.str Tryz.underlying9
theorem op_22:OpD Tryz.prog 22 (fun xs:List ByteArray=>[.l 1 eStr xs]):=OpD.slice 1 Tryz.underlying22 op_9 (fun _=>rfl) (by kernel_rfl) (by decide)
def Qwa (s:ByteArray):List Dat:=[.x (BX s 9223372036854775807)]
theorem Ugi:OpD Tryz.prog 9 Qwa:=fun H e W f cs y h=>by
 obtain ⟨s,rfl,_,hs⟩:=DataW.trod_string Tryz.underlying9 h
 exact ⟨s,_,_,rfl,⟨rfl,hs⟩,rfl⟩
theorem Ufy {S:Nat→Prop} {W:World} {xs:List ByteArray} {v:Value} (h:RdV S W (.l 1 Qwa xs) v):RdV S W (.l 1 eStr xs) v∧∀ k:Nat,(xs.getD k default).size≤9223372036854775807:=by
 obtain ⟨a,c,e,h1,h2,h3⟩:=h
 refine ⟨⟨a,c,e,h1,h2,fun i x hx=>?_⟩,fun k=>?_⟩
 ·obtain ⟨k1,k2,cs,k3,k4,k5⟩:=h3 i x hx
  obtain ⟨u,us,rfl,⟨k6,k7⟩,k8⟩:=k5
  exact ⟨k1,k2,_,k3,k4,u,us,rfl,⟨k6,rfl⟩,k8⟩
 ·rw [List.getD_eq_getElem?_getD]
  cases hx:xs[k]? with
  | none=>exact Nat.zero_le _
  | some x =>
   obtain ⟨k1,k2,cs,k3,k4,k5⟩:=h3 k x hx
   obtain ⟨u,us,rfl,⟨k6,k7⟩,k8⟩:=k5
   exact k7
theorem op_M22:OpD Tryz.prog 22 (fun xs:List ByteArray=>[.l 1 Qwa xs]):=OpD.slice 1 Tryz.underlying22 Ugi (fun _=>rfl) (by kernel_rfl) (by decide)
theorem own:ownKnob Tryz.prog.godebug=none:=by kernel_rfl
theorem cfA:Tryz.prog.inPlace 3=Rows.fnExactTernPeersRow.inPlace:=by kernel_rfl
theorem cfB:Tryz.prog.unfollowed 3=Rows.fnExactTernPeersRow.unfollowed:=by kernel_rfl
theorem cfC:Tryz.prog.recurses 3=Rows.fnExactTernPeersRow.recurses:=by kernel_rfl
theorem cfD:Tryz.prog.varsNamed 3=Rows.fnExactTernPeersRow.named:=by kernel_rfl
set_option maxRecDepth 100000 in
def putC (cs:Array Value):Obj→Obj
 | .cells _ t fz=>.cells cs t fz
 | o=>o
noncomputable def Pm (os:Os):World :=
 let w:=World.holding Tryz.prog os ⟨#[.cells #[.string ⟨#[118,97,108,117,101,32,111,117,116,32,111,102,32,114,97,110,103,101]⟩] 155,.cells #[.string ⟨#[105,110,118,97,108,105,100,32,115,121,110,116,97,120]⟩] 155],#[],[]⟩
 { w with heap:=(((((((w.heap.modify ((Tryz.prog.globalNamed "math/bits.deBruijn32tab").getD 0) (putC #[(.int .u8 0),(.int .u8 1),(.int .u8 28),(.int .u8 2),(.int .u8 29),(.int .u8 14),(.int .u8 24),(.int .u8 3),(.int .u8 30),(.int .u8 22),(.int .u8 20),(.int .u8 15),(.int .u8 25),(.int .u8 17),(.int .u8 4),(.int .u8 8),(.int .u8 31),(.int .u8 27),(.int .u8 13),(.int .u8 23),(.int .u8 21),(.int .u8 19),(.int .u8 16),(.int .u8 7),(.int .u8 26),(.int .u8 12),(.int .u8 18),(.int .u8 6),(.int .u8 11),(.int .u8 5),(.int .u8 10),(.int .u8 9)])).modify ((Tryz.prog.globalNamed "math/bits.deBruijn64tab").getD 0) (putC #[(.int .u8 0),(.int .u8 1),(.int .u8 56),(.int .u8 2),(.int .u8 57),(.int .u8 49),(.int .u8 28),(.int .u8 3),(.int .u8 61),(.int .u8 58),(.int .u8 42),(.int .u8 50),(.int .u8 38),(.int .u8 29),(.int .u8 17),(.int .u8 4),(.int .u8 62),(.int .u8 47),(.int .u8 59),(.int .u8 36),(.int .u8 45),(.int .u8 43),(.int .u8 51),(.int .u8 22),(.int .u8 53),(.int .u8 39),(.int .u8 33),(.int .u8 30),(.int .u8 24),(.int .u8 18),(.int .u8 12),(.int .u8 5),(.int .u8 63),(.int .u8 55),(.int .u8 48),(.int .u8 27),(.int .u8 60),(.int .u8 41),(.int .u8 37),(.int .u8 16),(.int .u8 46),(.int .u8 35),(.int .u8 44),(.int .u8 21),(.int .u8 52),(.int .u8 32),(.int .u8 23),(.int .u8 11),(.int .u8 54),(.int .u8 26),(.int .u8 40),(.int .u8 15),(.int .u8 34),(.int .u8 20),(.int .u8 31),(.int .u8 10),(.int .u8 25),(.int .u8 14),(.int .u8 19),(.int .u8 9),(.int .u8 13),(.int .u8 8),(.int .u8 7),(.int .u8 6)])).modify ((Tryz.prog.globalNamed "internal/strconv.uint64pow10").getD 0) (putC #[(.int .u64 1),(.int .u64 10),(.int .u64 100),(.int .u64 1000),(.int .u64 10000),(.int .u64 100000),(.int .u64 1000000),(.int .u64 10000000),(.int .u64 100000000),(.int .u64 1000000000),(.int .u64 10000000000),(.int .u64 100000000000),(.int .u64 1000000000000),(.int .u64 10000000000000),(.int .u64 100000000000000),(.int .u64 1000000000000000),(.int .u64 10000000000000000),(.int .u64 100000000000000000),(.int .u64 1000000000000000000),(.int .u64 10000000000000000000)])).modify ((Tryz.prog.globalNamed "unicode/utf8.acceptRanges").getD 0) (putC #[(.int .u8 128),(.int .u8 191),(.int .u8 160),(.int .u8 191),(.int .u8 128),(.int .u8 159),(.int .u8 144),(.int .u8 191),(.int .u8 128),(.int .u8 143),(.int .u8 0),(.int .u8 0),(.int .u8 0),(.int .u8 0),(.int .u8 0),(.int .u8 0),(.int .u8 0),(.int .u8 0),(.int .u8 0),(.int .u8 0),(.int .u8 0),(.int .u8 0),(.int .u8 0),(.int .u8 0),(.int .u8 0),(.int .u8 0),(.int .u8 0),(.int .u8 0),(.int .u8 0),(.int .u8 0),(.int .u8 0),(.int .u8 0)])).modify ((Tryz.prog.globalNamed "strconv.ErrRange").getD 0) (putC #[.iface 153 (.pointer (some ⟨Tryz.prog.low+0,0,none⟩))])).modify ((Tryz.prog.globalNamed "strconv.ErrSyntax").getD 0) (putC #[.iface 153 (.pointer (some ⟨Tryz.prog.low+1,0,none⟩))])).modify ((Tryz.prog.globalNamed "unicode/utf8.first").getD 0) (putC ((Go.Pinned.utf8FirstZ.map fun n=>Value.int .u8 (n:Nat)).toArray))) }
theorem Qvt (os:Os):laidMet Tryz.prog Rows.fnExactTernPeersRow.laid ((Pm os).forCall (fun _ _=>0) ⟨#[],#[.slice none 0 0],[]⟩).memory :=
 laidMet_of_run3 8 (by kernel_rfl) (by kernel_rfl) (by kernel_rfl)
theorem reads (os:Os) {H:Type} (enc:TypeId×Value→H):∃ Gi,DataW.whole enc Tryz.prog ((Pm os).forCall (fun _ _=>0) ⟨#[],#[.slice none 0 0],[]⟩).memory Tryz.f3.params.toList Rows.fnExactTernPeersSpec.vars false #[.slice none 0 0].toList 8=some ([.nil],[],Gi) :=
 ⟨[],by kernel_rfl⟩
theorem Qju {W:World} {l:List (String×DataW Unit)} (h:laidMet Tryz.prog l W) {n tn:String} {d:DataW Unit} (hm:(n,.iface tn d)∈l) {g:Nat} (hg:Tryz.prog.globalNamed n=some g) (ht:(Tryz.prog.globals[g]?).map (·.type)=some 67) :
  ∃ e,W.cell? ⟨g,0,none⟩=some e∧(e=.nilIface∨∃ te pe,e=.iface te pe):=by
 obtain ⟨g',t',cs,fuel,p,h1,h2,h3,h4⟩:=Lib.laidMet.reads h hm
 obtain rfl:=Option.some.inj (hg.symm.trans h1)
 obtain rfl:=Option.some.inj (ht.symm.trans h2)
 have hc:∀ i,W.cell? ⟨g,i,none⟩=cs[i]?:=fun i=>by
  unfold World.var? at h3
  rw [hg] at h3
  simp only [Option.bind_some] at h3
  split at h3
  ·rename_i c _ _ hh
   simp only [Option.some.injEq] at h3
   subst h3
   simp [World.cell?,hh]
  ·cases h3
 cases fuel with
 | zero=>simp [DataW.trod] at h4
 | succ fuel =>
  simp only [DataW.trod,Tryz.underlying67] at h4
  split at h4 <;> first
   | (cases h4; done)
   | (rename_i hcs; refine ⟨_,(hc 0).trans (by rw [← Array.getElem?_toList,hcs]; rfl),?_⟩; first | exact .inl rfl | exact .inr ⟨_,_,rfl⟩)
   | (simp at h4; done)
   | (exfalso; simp_all; done)
theorem lifted (os:Os) (started:os.Started) (H:Type) (enc:TypeId×Value→H) (F:Stop.Interp) :
  ReturnsInHanded {} Tryz.checked os 3 .any ((OpenSpec.ofChange Rows.fnExactTernPeersSpec).preRow enc Tryz.prog Tryz.f3 Rows.fnExactTernPeersRow.domain false Rows.fnExactTernPeersRow.laid) (((OpenSpec.ofChange Rows.fnExactTernPeersSpec).at F).post enc Tryz.prog Tryz.f3 false true false false):=by
 obtain ⟨Gi,hx⟩:=reads os enc
 refine returnsInHanded_of_row (C:=Tryz.checked) (s:=OpenSpec.ofChange Rows.fnExactTernPeersSpec) own started (by kernel_rfl) Tryz.func3
  (witness_row_at (enc:=enc) (C:=Tryz.checked) false (Pm os) #[.slice none 0 0] rfl (by kernel_rfl) (by kernel_rfl) (by kernel_rfl)
   (OpenSpec.preRow_of_cond 8 hx (by kernel_rfl) (fun k hk=>by cases hk) (by kernel_rfl) (Qvt os))) ?_
 intro W base args ds gs before hval0 hW hcnd _ _ hL hsh _
 have hL':laidMet Tryz.prog Rows.fnExactTernPeersRow.laid W:=by
  have h0:=hL
  unfold laidMetH at h0
  rw [show (Rows.fnExactTernPeersRow.laid.filter fun x=>x.2.handleName?.isSome)=[] from by kernel_rfl] at h0
  exact h0
 have hval:∀ (j:Nat) t v,Tryz.f3.params[j]?=some t→args[j]?=some v→Value.okWide Tryz.prog W .any base t v:=hval0
 have hW':=hW
 obtain ⟨p,q,hA0,hV,rfl,hfz,hnd⟩:=hW
 have hA:DataW.TrodAll enc Tryz.prog W 0 (fun _=>true) true Tryz.f3.params.toList args.toList ds p:=hA0
 rw [Tryz.params3] at hA hval
 obtain ⟨v0,vs0,d0,ds0,p0,q0,hargs,rfl,rfl,h0,r0⟩:=trodAll_cons hA
 obtain ⟨rfl,rfl,rfl⟩:=trodAll_nil r0
 obtain rfl:args=#[v0]:=by cases args; simp_all
 obtain ⟨rfl,rfl⟩:=trodVars_none hV
 obtain ⟨fu0,t0⟩:=h0
 obtain ⟨a0,n0,c0,rfl⟩:=okWide_slice Tryz.underlying22 (hval 0 22 v0 rfl rfl)
 obtain ⟨x0,u0,us0,e0,o0,-⟩:=op_M22 H enc W fu0 _ _ t0
 obtain ⟨o0,b0⟩:=Ufy o0
 obtain rfl:u0=_:=(List.cons.inj e0).1.symm
 have hG:GP W:=⟨fun b hb=>by
  simp only [GBe,List.nil_append,List.cons_append,List.mem_cons,List.not_mem_nil,or_false] at hb
  rcases hb with rfl | rfl
  ·exact Qju hL' (n:= "strconv.ErrSyntax") (by unfold Rows.fnExactTernPeersRow; exact List.mem_cons_of_mem _ (List.mem_cons_of_mem _ (List.mem_cons_of_mem _ (List.mem_cons_of_mem _ (List.mem_cons_of_mem _ (List.mem_cons_self)))))) (show Tryz.prog.globalNamed "strconv.ErrSyntax"=some ((Tryz.prog.globalNamed "strconv.ErrSyntax").getD 0) from by kernel_rfl) (by kernel_rfl)
  ·exact Qju hL' (n:= "strconv.ErrRange") (by unfold Rows.fnExactTernPeersRow; exact List.mem_cons_of_mem _ (List.mem_cons_of_mem _ (List.mem_cons_of_mem _ (List.mem_cons_of_mem _ (List.mem_cons_self))))) (show Tryz.prog.globalNamed "strconv.ErrRange"=some ((Tryz.prog.globalNamed "strconv.ErrRange").getD 0) from by kernel_rfl) (by kernel_rfl),fun b hb=>by simp only [GBi,List.nil_append,List.mem_cons,List.not_mem_nil,or_false] at hb; subst hb; exact layCutM.s1_3 W hsh,fun q hq=>by
  simp only [GBt,List.nil_append,List.mem_cons,List.not_mem_nil,or_false] at hq
  subst hq
  obtain ⟨g',t',cs,fuel,p,h1,h2,h3,h4⟩:=Lib.laidMet.reads hL' (n:= "internal/strconv.uint64pow10") (by unfold Rows.fnExactTernPeersRow; exact List.mem_cons_of_mem _ (List.mem_cons_of_mem _ (List.mem_cons_self)))
  obtain rfl:=Option.some.inj ((show Tryz.prog.globalNamed "internal/strconv.uint64pow10"=some ((Tryz.prog.globalNamed "internal/strconv.uint64pow10").getD 0) from by kernel_rfl).symm.trans h1)
  obtain rfl:=Option.some.inj ((show (Tryz.prog.globals[(Tryz.prog.globalNamed "internal/strconv.uint64pow10").getD 0]?).map (·.type)=some 157 from by kernel_rfl).symm.trans h2)
  have hc:=Lib.cells_of_tab (k:=.u64) (zs:=Lib.pow10Tab) Tryz.underlying157 Tryz.underlying81 (by kernel_rfl) (by kernel_rfl) h4
  unfold World.var? at h3
  rw [(show Tryz.prog.globalNamed "internal/strconv.uint64pow10"=some ((Tryz.prog.globalNamed "internal/strconv.uint64pow10").getD 0) from by kernel_rfl)] at h3
  simp only [Option.bind_some] at h3
  split at h3
  ·rename_i c T fz hh
   simp only [Option.some.injEq] at h3
   subst h3
   exact ⟨T,fz,hh.trans (by congr 1; congr 1; exact Array.ext' (by simpa using hc))⟩
  ·cases h3⟩
 have hc:=Qxx (W:=W) (vs:=[.slice a0 n0 c0]) (ok3 x0) (b0) (x:=.bool (F3 x0)) hG ⟨_,_,[],[],rfl,⟨o0,rfl⟩,⟨rfl,rfl⟩,rfl,List.nodup_nil⟩ rfl rfl
 rw [Udl x0] at hc
 refine hc.mono fun e W' ⟨he,hb⟩=>?_
 subst he
 exact ⟨_,rfl,Uau rfl hW' hb rfl Tryz.underlying4 rfl rfl rfl laid (by decide +kernel)⟩
theorem said_FnExactTernPeers:Rows.FnExactTernPeersSaid :=
 OpenClaim.holds_of_cond 3 Tryz.f3 rfl rfl rfl rfl rfl rfl rfl ⟨rfl,rfl,rfl,rfl,rfl⟩ rfl rfl rfl rfl rfl (by kernel_rfl) Tryz.func3 (by
   show joinedFacts Tryz.prog 3 Tryz.f3 (OpenSpec.ofChange Rows.fnExactTernPeersSpec).bare Rows.fnExactTernPeersRow=true
   simp only [joinedFacts,laid,cfMaps,cfKeys,Uge,Udv,Ugm,cfMake,cfA,cfB,cfC,cfD,Bool.and_true]
   kernel_rfl)
  (of_decide_eq_true (by kernel_rfl)) (by unfold Func.isWrapper; first | (rw [if_pos (by decide +kernel)]; kernel_rfl) | (rw [if_neg (by decide +kernel)]; exact ⟨rfl,rfl⟩))
  (fun os started H enc _ F=>by rw [OpenClaim.pre_eq_preRow]; exact lifted os started H enc F)
theorem Qts (f:FuncId) (fn:Func) (hf:Tryz.pinned.checked.prog.funcNamed "loop.example/tern/laws.FnExactTernPeers"=some f) (hfn:Tryz.pinned.checked.prog.funcs[f]?=some fn) :
  true=Tryz.pinned.checked.prog.looks []∧∀ (j:Nat) t,fn.params[j]?=some t→Tryz.pinned.checked.prog.wantsStandIn t=false:=by
 obtain rfl:f=3:=Option.some.inj ((show Tryz.prog.funcNamed "loop.example/tern/laws.FnExactTernPeers"=some 3 by kernel_rfl).symm.trans hf) |>.symm
 obtain rfl:fn=Tryz.f3:=(Option.some.inj (Tryz.func3.symm.trans hfn)).symm
 refine ⟨by kernel_rfl,fun j t ht=>?_⟩
 rw [Tryz.params3] at ht
 have hm:=Array.mem_of_getElem? ht
 simp only [List.mem_toArray,List.mem_cons,List.not_mem_nil,or_false] at hm
 first | (obtain rfl:=hm; exact (show Tryz.prog.wantsStandIn 22=false by kernel_rfl))
theorem card_wf:Rows.fnExactTernPeersRow.wfByText (OpenSpec.ofChange Rows.fnExactTernPeersSpec)=true:=by kernel_rfl
theorem card_main:Tryz.prog.mainIs=some (Rows.fnExactTernPeersCard.stood.harness.1,Rows.fnExactTernPeersCard.stood.harness.2.toList):=by kernel_rfl
theorem card_goes:false=Rows.fnExactTernPeersRow.goesBy Tryz.prog:=by kernel_rfl
theorem proved_FnExactTernPeers:Rows.FnExactTernPeersCardSaid :=
 Claim7.holds_tied_plain_at .later [] _ _ _ _ said_FnExactTernPeers (fun _ h=>by cases h) card_wf (fun _ h=>by cases h) fnExactTernPeers_row_tie rfl ⟨rfl,rfl⟩ card_main rfl Qts card_goes
#print axioms proved_FnExactTernPeers
end Go.Proofs.YtahakkfbpnpimabGreatDoor
