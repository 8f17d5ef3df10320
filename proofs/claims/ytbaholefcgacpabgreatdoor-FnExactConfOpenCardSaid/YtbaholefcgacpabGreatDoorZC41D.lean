/- A part of the proof of FnExactConfOpen. Texts put together: VFF, PFF, PCL0, VCL, PCL, PK0, VK, PK1, VK2, PK2, PLP, VN0, PN0, VN, PN1N, PCK0, VCKA, PCKB. -/
import Derived.Test.YtbaholefcgacpabGreatDoorRows
import Derived.Test.YtbaholefcgacpabGreatDoorZC41C
namespace Go.Proofs.YtbaholefcgacpabGreatDoor
open Go.RowKit
set_option maxRecDepth 100000
set_option linter.unusedVariables false
set_option linter.unusedSimpArgs false
theorem kc74 (word:ByteArray) {K_:Prop} (p0_:word.size≤1048576) (k_:K_):(word.size≤1048576)∧(Imp (.v (.string word)) (.v (.string word)))∧K_:=⟨p0_,Imp.refl _,k_⟩
abbrev kh74 (word:ByteArray):Hint false Tryz.prog:=.call 74 (S74 word) (ok74 word) none
def F132 (word:ByteArray) (p1:Int) (p2:Int):Bool :=
 (decide (p1≤(F74 word)∧(F74 word)≤p2))
def S132 (word:ByteArray) (p1:Int) (p2:Int):Spec:=⟨[.r (.c (.v (.string word))),.rp ([.v (vI p1)]),.rp ([.v (vI p2)])],.v (.bool (F132 word p1 p2)),word.size≤1048576⟩
theorem ok132 (word:ByteArray) (p1:Int) (p2:Int):(S132 word p1 p2).ok Tryz.prog 132 false :=
 Qi mixed (fn:=Tryz.f132) (ct:=.seq .no (.seq (.reg [(1,kh74 word),(4,Qcf (F74 word) p1 p2)]) .no)) Tryz.func132 (fun (hpre0:word.size≤1048576)=>kc74 word (by omega) (Qic (F74 word) p1 p2 (fiB (decide (p1≤(F74 word)∧(F74 word)≤p2)) (F132 word p1 p2) rfl))) (by kernel_rfl)
def F113 (low:Int) (high:Int):Unit :=
 ()
def S113 (low:Int) (high:Int):Spec:=⟨[.r (.c (.v (vI low))),.r (.c (.v (vI high)))],.cl 132 [.pt 3 [.v (vI low)],.pt 3 [.v (vI high)]],True⟩
theorem ok113 (low:Int) (high:Int):(S113 low high).ok Tryz.prog 113 :=
 Qi mixed (fn:=Tryz.f113) (ct:=.seq .no (.seq .no .no)) Tryz.func113 (fun (_:True)=>(fun hF:(():Unit)=(F113 low high)=>ai (Imps.refl [.v (vI low)]) (ai (Imps.refl [.v (vI high)]) trivial)) rfl) (by kernel_rfl)
def F134 (word:ByteArray) (p1:List ByteArray):Bool :=
 (F135 p1 word)
def S134 (word:ByteArray) (p1:List ByteArray):Spec:=⟨[.r (.c (.v (.string word))),.rp ([.l 1 eStr p1])],.v (.bool (F134 word p1)),word.size≤1048576⟩
theorem ok134 (word:ByteArray) (p1:List ByteArray):(S134 word p1).ok Tryz.prog 134 :=
 Qi mixed (fn:=Tryz.f134) (ct:=.seq .no (.seq (.reg [(2,kh135 p1 word)]) .no)) Tryz.func134 (fun (hpre0:word.size≤1048576)=>kc135 p1 word (fiB (F135 p1 word) (F134 word p1) rfl)) (by kernel_rfl)
def F117 (words:List ByteArray):Unit :=
 ()
def S117 (words:List ByteArray):Spec:=⟨[.ow (.l 1 eStr words) none],.cl 134 [.pt 22 [.l 1 eStr words]],True⟩
theorem ok117 (words:List ByteArray):(S117 words).ok Tryz.prog 117 :=
 Qi mixed (fn:=Tryz.f117) (ct:=.seq .no (.seq .no .no)) Tryz.func117 (fun (_:True)=>(fun hF:(():Unit)=(F117 words)=>ai (Imps.refl [.l 1 eStr words]) trivial) rfl) (by kernel_rfl)
structure Qs where
 word:ByteArray
 key:Int
 checks:SV
 deriving Inhabited
def Uc (x:Qs):List Dat:=[.v (.string x.word),.v (vI x.key),.v (sv x.checks)]
def F120 (f:Qs) (p1:ByteArray):Bool :=
 (!(f.word.toList==p1.toList))
def S120 (f:Qs) (p1:ByteArray):Spec:=⟨[.r (.g (Uc f)),.rp ([.v (.string p1)])],.v (.bool (F120 f p1)),True⟩
theorem ok120 (f:Qs) (p1:ByteArray):(S120 f p1).ok Tryz.prog 120 :=
 Qi mixed (fn:=Tryz.f120) (ct:=.seq .no (.seq .no .no)) Tryz.func120 (fun (_:True)=>(fun hF:((!(f.word.toList==p1.toList)):Bool)=(F120 f p1)=>ai (congrArg (fun r:Bool=>(.bool r:Value)) hF) trivial) rfl) (by kernel_rfl)
def Yo (Q:Qs→Prop) (p:Qs→Bool):Yk:=⟨Qs,fun i=>[.g (pxH (Uc i) (Q i))],fun i=>.bool (p i)⟩
def Yw (s:List Qs) (f:Qs→Bool):Int→Lp Int Int:=fun v8 =>
 bif (decide (v8<(s.length:Int))) then (bif (f (s.getD v8.toNat default)) then (.ret v8) else (.next (v8+1))) else (.done v8)
def F136 (s:List Qs) (f:Qs→Bool):Int :=
 (runL (Yw s f) (((s.length:Int)-0).toNat+1) 0).fin (fun r=>r) (fun v8=>(-1))
def S136 (R:Int) (s:List Qs) (f:Qs→Bool) (Qf:Qs→Prop):Spec:=⟨[.r (.c (.l 3 Uc s)),.fn (Yo Qf f)],.v (vI R),(∀ k:Nat,k<s.length→Qf (s.getD k default))⟩
theorem ok136 (s:List Qs) (f:Qs→Bool) (Qf:Qs→Prop):(S136 (F136 s f) s f Qf).ok Tryz.prog 136 false :=
 Qi mixed (fn:=Tryz.f136) (ct:=.seqk [(0,0)] .no (.seq (.seqk [(0,0)] .no (.blk (.loop (ι:=Nat×Int) (fun i=>(fun (v8:Int)=>(⟨[(0,some (.h 0 0)),(1,some (.h 1 0)),(7,some (.v (vI (s.length:Int)))),(8,some (.v (vI v8)))],[(0,some (.shr none (.l 3 Uc s))),(1,some (.fn (Yo Qf f)))],2⟩:St)) i.2) (fun i=>runL (Yw s f) i.1 i.2=(runL (Yw s f) (((s.length:Int)-0).toNat+1) 0)∧(fun (v8:Int)=>(Int.toNat ((s.length:Int)-v8)<i.1∧(0:Int)≤v8)) i.2) (fun i=>i.1) ((((s.length:Int)-0).toNat+1),0) (fun i=>(fun (v8:Int)=>(.seq .no (.seq (.cond .no .no) (.seq (.blk (.seq .no (.seq (.reg [(5,.fnv (Yo Qf f) (s.getD v8.toNat default))]) (.cond (.seq .no .no) .no)))) (.reg [(0,.bnd)]))))) i.2)))) (.seq .no .no))) Tryz.func136 (fun (hpre0:∀ k:Nat,k<s.length→Qf (s.getD k default))=>kn s fun _=>kn s fun _=>ai (ai rfl (ai rfl (ai ir (ai rfl (ai (rfl:runL (Yw s f) (((s.length:Int)-0).toNat+1) 0=(runL (Yw s f) (((s.length:Int)-0).toNat+1) 0)) (ai (Nat.lt_succ_self _:Int.toNat ((s.length:Int)-0)<(((s.length:Int)-0).toNat+1)) (by omega:(0:Int)≤0)))))):((.int .i64 (s.length:Int):Value)=.int .i64 (s.length:Int))∧((.int .i64 0:Value)=.int .i64 0)∧(Imp (.l 3 Uc s) (.l 3 Uc s))∧(Yo Qf f=Yo Qf f)∧(runL (Yw s f) (((s.length:Int)-0).toNat+1) 0=(runL (Yw s f) (((s.length:Int)-0).toNat+1) 0)∧Int.toNat ((s.length:Int)-0)<(((s.length:Int)-0).toNat+1)∧(0:Int)≤0)) (fun (i0:Nat×Int) (hi0:runL (Yw s f) i0.1 i0.2=(runL (Yw s f) (((s.length:Int)-0).toNat+1) 0)∧(fun (v8:Int)=>(Int.toNat ((s.length:Int)-v8)<i0.1∧(0:Int)≤v8)) i0.2)=>(fun (m0:Nat) (v8:Int) (hI0:runL (Yw s f) (m0+1) v8=(runL (Yw s f) (((s.length:Int)-0).toNat+1) 0)) (_:Int.toNat ((s.length:Int)-v8)<m0+1) (hl0:m0<i0.1) (_:(0:Int)≤v8)=>ifd (v8<(s.length:Int)) (fun h2 _=>ai (by omega:ib v8 s) (ai (Eq.refl (Yo Qf f)) (ai (Imps.pxH (ds:=Uc (s.getD v8.toNat default)) (hpre0 v8.toNat (by omega))) (ifb (f (s.getD v8.toNat default)) (fun h3=>(fun hF:(v8:Int)=(F136 s f)=>ai (congrArg (fun r:Int=>(.int .i64 r:Value)) hF) trivial) (finR (Qp hI0 (condT h2 (condT h3 rfl))) rfl)) (fun h3=>ai (iok (v8+1) (by omega)) (Exists.intro (p:=fun j:Nat×Int=>(fun (v8_:Int)=>(((.int .i64 (s.length:Int):Value)=.int .i64 (s.length:Int))∧((.int .i64 (v8+1):Value)=.int .i64 v8_)∧(Imp (.l 3 Uc s) (.l 3 Uc s))∧(Yo Qf f=Yo Qf f)∧((runL (Yw s f) j.1 j.2=(runL (Yw s f) (((s.length:Int)-0).toNat+1) 0)∧Int.toNat ((s.length:Int)-v8_)<j.1∧(0:Int)≤v8_)∧j.1<i0.1))) j.2) (m0,(v8+1)) (ai rfl (ai rfl (ai ir (ai rfl (ai (ai (Qg hI0 (condT h2 (condF h3 rfl))) (ai (by omega:Int.toNat ((s.length:Int)-(v8+1))<m0) (by omega:(0:Int)≤(v8+1)))) hl0))))))))))) (fun h2 _=>(fun hD0_4:(runL (Yw s f) (((s.length:Int)-0).toNat+1) 0)=Lp.done v8=>(fun hF:((-1):Int)=(F136 s f)=>ai (congrArg (fun r:Int=>(.int .i64 r:Value)) hF) trivial) (finD hD0_4 rfl)) (Qj hI0 (condF h2 rfl)))) (i0.1-1) i0.2 (hd1 hi0.1 hi0.2.1) (hd2 hi0.2.1) (hd3 hi0.2.1) hi0.2.2)) (by kernel_rfl)
theorem as136 (s:List Qs) (f:Qs→Bool):F136 s f=(idxI f s):=by
 exact Vf f s (Yw s f) (fun i=>rfl)
theorem oa136 (s:List Qs) (f:Qs→Bool) (Qf:Qs→Prop):(S136 (idxI f s) s f Qf).ok Tryz.prog 136 false:=by
 intro hp; have h:=ok136 s f Qf hp; rw [as136 s f] at h; exact h
theorem g136_0 (s:List Qs) (f:Qs→Bool):(idxI f s)<(s.length:Int):=by
 exact Mb f s
theorem g136_1 (s:List Qs) (f:Qs→Bool):-1≤(idxI f s):=by
 (show -1≤idxI f s; unfold idxI; cases first (fun k=>f (s.getD k default)) s.length <;> simp only [oix] <;> omega)
def Yn (s:List Qs) (del:Qs→Bool):(Int×Int×List Qs)→Lp (Int×Int×List Qs) (List Qs):=fun (i41,j1,xs) =>
 bif (decide (j1<(xs.length:Int))) then (bif (!(del (xs.getD j1.toNat default))) then (.next ((i41+1),(j1+1),(xs.set (i41).toNat (xs.getD j1.toNat default)))) else (.next (i41,(j1+1),xs))) else (.done (i41,j1,xs))
def Lg (s:List Qs) (del:Qs→Bool):Lp (List Qs×Int) (List Qs) :=
 (runL (Yn s del) (((s.length:Int)-((idxI del s)+1)).toNat+1) ((idxI del s),((idxI del s)+1),s)).fin Lp.ret (fun (i41,j1,xs)=>.done (xs,i41))
def F119 (s:List Qs) (del:Qs→Bool):List Qs :=
 bif ((idxI del s)==(-1)) then s else ((Lg s del).fin (fun r=>r) (fun (s1,i40)=>((s1.take i40.toNat++List.replicate (s1.drop i40.toNat).length ((⟨(⟨#[]⟩:ByteArray),0,(⟨none,0,0⟩:SV)⟩:Qs):Qs)++s1.drop (i40.toNat+(s1.drop i40.toNat).length)).take i40.toNat)))
def S119 (R:List Qs) (s:List Qs) (del:Qs→Bool) (Qdel:Qs→Prop):Spec:=⟨[.ow (.l 3 Uc s) none,.fn (Yo Qdel del)],.ow (.l 3 Uc R),s.length≤1000000000∧(∀ k:Nat,k<s.length→Qdel (s.getD k default))⟩
abbrev Vq (xs:List Qs) (i41:Int) (j1:Int):=(xs.set (i41).toNat (xs.getD j1.toNat default))
theorem ok119 (s:List Qs) (del:Qs→Bool) (Qdel:Qs→Prop):(S119 (F119 s del) s del Qdel).ok Tryz.prog 119 false :=
 Qi mixed (fn:=Tryz.f119) (ct:=.seqk [(0,0)] .no (.seq (.reg [(2,.call 136 (S136 (idxI del s) s del Qdel) (oa136 s del Qdel) none)]) (.seq (.seq .no (.cond (.seq .no .no) .no)) (.cut (ι:=List Qs×Int) (fun j=>(fun (s1:List Qs) (i40:Int)=>(⟨[(0,some (.h 0 0)),(5,some (.v (vI i40)))],[(0,some (.own 0 (.l 3 Uc s1)))],1⟩:St)) j.1 j.2) (fun j=>(fun (s1:List Qs) (i40:Int)=>((Lg s del)=Lp.done j∧(0≤i40∧i40≤(s1.length:Int)))) j.1 j.2) (.seqk [(0,0)] (.reg [(1,.bnd)]) (.blk (.loop (ι:=Nat×(Int×Int×List Qs)) (fun i=>(fun (i41:Int) (j1:Int) (xs:List Qs)=>(⟨[(0,some (.h 0 0)),(1,some (.h 1 0)),(5,some (.v (vI i41))),(6,some (.v (vI j1)))],[(0,some (.own 0 (.l 3 Uc xs))),(1,some (.fn (Yo Qdel del)))],2⟩:St)) i.2.1 i.2.2.1 i.2.2.2) (fun i=>runL (Yn s del) i.1 i.2=(runL (Yn s del) (((s.length:Int)-((idxI del s)+1)).toNat+1) ((idxI del s),((idxI del s)+1),s))∧(fun (i41:Int) (j1:Int) (xs:List Qs)=>(Int.toNat ((xs.length:Int)-j1)<i.1∧(0≤i41∧i41<j1)∧j1≤(xs.length:Int)∧xs.length≤1000000000∧(∀ k:Nat,j1≤(k:Int)→k<xs.length→Qdel (xs.getD k default))∧xs.length=s.length)) i.2.1 i.2.2.1 i.2.2.2) (fun i=>i.1) ((((s.length:Int)-((idxI del s)+1)).toNat+1),((idxI del s),((idxI del s)+1),s)) (fun i=>(fun (i41:Int) (j1:Int) (xs:List Qs)=>(.seq (.seq .no (.cond .no .no)) (.seq (.blk (.seq .no (.seq (.reg [(2,.fnv (Yo Qdel del) (xs.getD j1.toNat default))]) (.cond (.seq (.reg [(4,.dat (.l 3 Uc (Vq xs i41 j1)))]) (.reg [(1,.bnd)])) .no)))) (.reg [(1,.bnd)])))) i.2.1 i.2.2.1 i.2.2.2)))) (fun j=>(fun (s1:List Qs) (i40:Int)=>(.seq (.reg [(2,.part),(3,.dat (.l 3 Uc (s1.take i40.toNat++List.replicate (s1.drop i40.toNat).length ((⟨w13_,0,(⟨none,0,0⟩:SV)⟩:Qs):Qs)++s1.drop (i40.toNat+(s1.drop i40.toNat).length))))]) (.seq (.reg [(2,.own)]) .no))) j.1 j.2))))) Tryz.func119 (fun (hp:s.length≤1000000000∧(∀ k:Nat,k<s.length→Qdel (s.getD k default)))=>have hpre0:=hp.1; have hpre1:=hp.2; kn s fun _=>ai (by assumption:∀ k:Nat,k<s.length→Qdel (s.getD k default)) (ai (Imp.refl (.l 3 Uc s)) (ai (Eq.refl (Yo Qdel del)) (have gv1:(idxI del s)<(s.length:Int):=g136_0 s del; have gv2:-1≤(idxI del s):=g136_1 s del; ife (idxI del s) (-1) (fun h3 _=>(fun hF:(s:List Qs)=(F119 s del)=>ai (Imp.of_eq (congrArg (fun r:List Qs=>Dat.l 3 Uc r) hF)) trivial) (condT h3 rfl)) (fun h3 _=>ai (ai (iok ((idxI del s)+1) (by omega)) (kn s fun _=>ai (ai rfl (ai rfl (ai ir (ai rfl (ai (rfl:runL (Yn s del) (((s.length:Int)-((idxI del s)+1)).toNat+1) ((idxI del s),((idxI del s)+1),s)=(runL (Yn s del) (((s.length:Int)-((idxI del s)+1)).toNat+1) ((idxI del s),((idxI del s)+1),s))) (ai (Nat.lt_succ_self _:Int.toNat ((s.length:Int)-((idxI del s)+1))<(((s.length:Int)-((idxI del s)+1)).toNat+1)) (ai (by omega:0≤(idxI del s)∧(idxI del s)<((idxI del s)+1)) (ai (by omega:((idxI del s)+1)≤(s.length:Int)) (ai (by omega:s.length≤1000000000) (ai (by (intro k hk hk2; exact (by assumption:∀ k:Nat,k<s.length→Qdel (s.getD k default)) k hk2):∀ k:Nat,((idxI del s)+1)≤(k:Int)→k<s.length→Qdel (s.getD k default)) (by omega:s.length=s.length)))))))))):((.int .i64 (idxI del s):Value)=.int .i64 (idxI del s))∧((.int .i64 ((idxI del s)+1):Value)=.int .i64 ((idxI del s)+1))∧(Imp (.l 3 Uc s) (.l 3 Uc s))∧(Yo Qdel del=Yo Qdel del)∧(runL (Yn s del) (((s.length:Int)-((idxI del s)+1)).toNat+1) ((idxI del s),((idxI del s)+1),s)=(runL (Yn s del) (((s.length:Int)-((idxI del s)+1)).toNat+1) ((idxI del s),((idxI del s)+1),s))∧Int.toNat ((s.length:Int)-((idxI del s)+1))<(((s.length:Int)-((idxI del s)+1)).toNat+1)∧(0≤(idxI del s)∧(idxI del s)<((idxI del s)+1))∧((idxI del s)+1)≤(s.length:Int)∧s.length≤1000000000∧(∀ k:Nat,((idxI del s)+1)≤(k:Int)→k<s.length→Qdel (s.getD k default))∧s.length=s.length)) (fun (i0:Nat×(Int×Int×List Qs)) (hi0:runL (Yn s del) i0.1 i0.2=(runL (Yn s del) (((s.length:Int)-((idxI del s)+1)).toNat+1) ((idxI del s),((idxI del s)+1),s))∧(fun (i41:Int) (j1:Int) (xs:List Qs)=>(Int.toNat ((xs.length:Int)-j1)<i0.1∧(0≤i41∧i41<j1)∧j1≤(xs.length:Int)∧xs.length≤1000000000∧(∀ k:Nat,j1≤(k:Int)→k<xs.length→Qdel (xs.getD k default))∧xs.length=s.length)) i0.2.1 i0.2.2.1 i0.2.2.2)=>(fun (m0:Nat) (i41:Int) (j1:Int) (xs:List Qs) (hI0:runL (Yn s del) (m0+1) (i41,j1,xs)=(runL (Yn s del) (((s.length:Int)-((idxI del s)+1)).toNat+1) ((idxI del s),((idxI del s)+1),s))) (_:Int.toNat ((xs.length:Int)-j1)<m0+1) (hl0:m0<i0.1) (_:0≤i41∧i41<j1) (_:j1≤(xs.length:Int)) (_:xs.length≤1000000000) (_:∀ k:Nat,j1≤(k:Int)→k<xs.length→Qdel (xs.getD k default)) (_:xs.length=s.length)=>ifd (j1<(xs.length:Int)) (fun h5 _=>ai (by omega:ib j1 xs) (ai (Eq.refl (Yo Qdel del)) (ai (Imps.pxH (ds:=Uc (xs.getD j1.toNat default)) ((by assumption:∀ k:Nat,j1≤(k:Int)→k<xs.length→Qdel (xs.getD k default)) j1.toNat (by omega) (by omega))) (ifb (!(del (xs.getD j1.toNat default))) (fun h6=>have _:=(Yv h6); ai (by omega:ib i41 xs) (ai (setr 3 Uc xs (i41).toNat (xs.getD j1.toNat default)) (ai (iok (i41+1) (by omega)) (ai (iok (j1+1) (by omega)) (Exists.intro (p:=fun j:Nat×(Int×Int×List Qs)=>(fun (i41_:Int) (j1_:Int) (xs_:List Qs)=>(((.int .i64 (i41+1):Value)=.int .i64 i41_)∧((.int .i64 (j1+1):Value)=.int .i64 j1_)∧(Imp (.l 3 Uc (Vq xs i41 j1)) (.l 3 Uc xs_))∧(Yo Qdel del=Yo Qdel del)∧((runL (Yn s del) j.1 j.2=(runL (Yn s del) (((s.length:Int)-((idxI del s)+1)).toNat+1) ((idxI del s),((idxI del s)+1),s))∧Int.toNat ((xs_.length:Int)-j1_)<j.1∧(0≤i41_∧i41_<j1_)∧j1_≤(xs_.length:Int)∧xs_.length≤1000000000∧(∀ k:Nat,j1_≤(k:Int)→k<xs_.length→Qdel (xs_.getD k default))∧xs_.length=s.length)∧j.1<i0.1))) j.2.1 j.2.2.1 j.2.2.2) (m0,((i41+1),(j1+1),(Vq xs i41 j1))) (ai rfl (ai rfl (ai ir (ai rfl (ai (ai (Qg hI0 (condT h5 (condT h6 rfl))) (ai (by (simp only [lens,ib] at*<;> omega):Int.toNat (((Vq xs i41 j1).length:Int)-(j1+1))<m0) (ai (by omega:0≤(i41+1)∧(i41+1)<(j1+1)) (ai (by (simp only [lens,ib] at*<;> omega):(j1+1)≤((Vq xs i41 j1).length:Int)) (ai (by (simp only [lens,ib] at*<;> omega):(Vq xs i41 j1).length≤1000000000) (ai (by (intro k hk hk2; (rw [Ux _ _ _ _ (by omega)]; exact (by assumption:∀ k:Nat,j1≤(k:Int)→k<xs.length→Qdel (xs.getD k default)) k (by omega) (by simpa using hk2))):∀ k:Nat,(j1+1)≤(k:Int)→k<(Vq xs i41 j1).length→Qdel ((Vq xs i41 j1).getD k default)) (by (simp only [lens,ib] at*<;> omega):(Vq xs i41 j1).length=s.length))))))) hl0)))))))))) (fun h6=>have _:=(Ul h6); ai (iok (j1+1) (by omega)) (Exists.intro (p:=fun j:Nat×(Int×Int×List Qs)=>(fun (i41_:Int) (j1_:Int) (xs_:List Qs)=>(((.int .i64 i41:Value)=.int .i64 i41_)∧((.int .i64 (j1+1):Value)=.int .i64 j1_)∧(Imp (.l 3 Uc xs) (.l 3 Uc xs_))∧(Yo Qdel del=Yo Qdel del)∧((runL (Yn s del) j.1 j.2=(runL (Yn s del) (((s.length:Int)-((idxI del s)+1)).toNat+1) ((idxI del s),((idxI del s)+1),s))∧Int.toNat ((xs_.length:Int)-j1_)<j.1∧(0≤i41_∧i41_<j1_)∧j1_≤(xs_.length:Int)∧xs_.length≤1000000000∧(∀ k:Nat,j1_≤(k:Int)→k<xs_.length→Qdel (xs_.getD k default))∧xs_.length=s.length)∧j.1<i0.1))) j.2.1 j.2.2.1 j.2.2.2) (m0,(i41,(j1+1),xs)) (ai rfl (ai rfl (ai ir (ai rfl (ai (ai (Qg hI0 (condT h5 (condF h6 rfl))) (ai (by omega:Int.toNat ((xs.length:Int)-(j1+1))<m0) (ai (by omega:0≤i41∧i41<(j1+1)) (ai (by omega:(j1+1)≤(xs.length:Int)) (ai (by omega:xs.length≤1000000000) (ai (by (intro k hk hk2; exact (by assumption:∀ k:Nat,j1≤(k:Int)→k<xs.length→Qdel (xs.getD k default)) k (by omega) hk2):∀ k:Nat,(j1+1)≤(k:Int)→k<xs.length→Qdel (xs.getD k default)) (by omega:xs.length=s.length))))))) hl0))))))))))) (fun h5 _=>(fun hD0_7:(runL (Yn s del) (((s.length:Int)-((idxI del s)+1)).toNat+1) ((idxI del s),((idxI del s)+1),s))=Lp.done (i41,j1,xs)=>Exists.intro (p:=fun j:List Qs×Int=>(fun (s1_:List Qs) (i40_:Int)=>(((.int .i64 i41:Value)=.int .i64 i40_)∧(Imp (.l 3 Uc xs) (.l 3 Uc s1_))∧(Lg s del)=Lp.done j∧(0≤i40_∧i40_≤(s1_.length:Int)))) j.1 j.2) (xs,i41) (ai rfl (ai ir (ai (Eq.symm (finD hD0_7 rfl)) (by omega:0≤i41∧i41≤(xs.length:Int)))))) (Qj hI0 (condF h5 rfl)))) (i0.1-1) i0.2.1 i0.2.2.1 i0.2.2.2 (hd1 hi0.1 hi0.2.1) (hd2 hi0.2.1) (hd3 hi0.2.1) hi0.2.2.1 hi0.2.2.2.1 hi0.2.2.2.2.1 hi0.2.2.2.2.2.1 hi0.2.2.2.2.2.2))) (fun (j:List Qs×Int) (hj:(fun (s1:List Qs) (i40:Int)=>((Lg s del)=Lp.done j∧(0≤i40∧i40≤(s1.length:Int)))) j.1 j.2)=>(fun (s1:List Qs) (i40:Int) (hJ0_8:(Lg s del)=Lp.done (s1,i40)) (_:0≤i40∧i40≤(s1.length:Int))=>ai (by omega:0≤i40∧i40≤(s1.length:Int)∧(s1.length:Int)≤(s1.length:Int)) (ai (ClearOK.mk Uc s1 ((⟨w13_,0,(⟨none,0,0⟩:SV)⟩:Qs):Qs) rfl (fun y e he=>by simp only [Uc,List.mem_cons,List.not_mem_nil,or_false] at he; rcases he with rfl | rfl | rfl <;> exact ⟨_,rfl⟩):ClearOK (.l 3 Uc s1) i40.toNat (s1.drop i40.toNat).length 3 [.string w13_,.int .i64 0,.slice none 0 0] (.l 3 Uc (s1.take i40.toNat++List.replicate (s1.drop i40.toNat).length ((⟨w13_,0,(⟨none,0,0⟩:SV)⟩:Qs):Qs)++s1.drop (i40.toNat+(s1.drop i40.toNat).length)))) (ai (by (simp only [lens,ib] at*<;> omega):0≤(0:Int)∧(0:Int)≤i40∧i40≤((s1.take i40.toNat++List.replicate (s1.drop i40.toNat).length ((⟨w13_,0,(⟨none,0,0⟩:SV)⟩:Qs):Qs)++s1.drop (i40.toNat+(s1.drop i40.toNat).length)).length:Int)) ((fun hF:(((s1.take i40.toNat++List.replicate (s1.drop i40.toNat).length ((⟨w13_,0,(⟨none,0,0⟩:SV)⟩:Qs):Qs)++s1.drop (i40.toNat+(s1.drop i40.toNat).length)).take i40.toNat):List Qs)=(F119 s del)=>ai (Imp.of_eq (congrArg (fun r:List Qs=>Dat.l 3 Uc r) hF)) trivial) (condF h3 (finD hJ0_8 rfl)))))) j.1 j.2 hj.1 hj.2)))))) (by kernel_rfl)
theorem as119 (s:List Qs) (del:Qs→Bool):F119 s del=(s.filter (fun x=>!(del x))):=by
 exact Qie del s _ (Yn s del) (fun i j xs=>rfl)
theorem oa119 (s:List Qs) (del:Qs→Bool) (Qdel:Qs→Prop):(S119 (s.filter (fun x=>!(del x))) s del Qdel).ok Tryz.prog 119 false:=by
 intro hp; have h:=ok119 s del Qdel hp; rw [as119 s del] at h; exact h
def Kt (p:ByteArray→Bool):Yk:=⟨ByteArray,fun i=>[.c (.x (BX i 1048576))],fun i=>.bool (p i)⟩
def Vz (p:ByteArray→Bool):List Dat:=[.x (FnX Tryz.prog (Kt p))]
structure form where
 word:ByteArray
 key:Int
 checks:List (ByteArray→Bool)
 deriving Inhabited
def Gx (x:form):List Dat:=[.v (.string x.word),.v (vI x.key),.l 1 Vz x.checks]
theorem Nx (low:Int) (high:Int) {K_:Prop} (k_:K_):(True)∧(Imp (.v (vI low)) (.v (vI low)))∧(Imp (.v (vI high)) (.v (vI high)))∧K_:=⟨trivial,Imp.refl _,Imp.refl _,k_⟩
theorem kc117 (words:List ByteArray) {K_:Prop} (k_:K_):(True)∧(Imp (.l 1 eStr words) (.l 1 eStr words))∧K_:=⟨trivial,Imp.refl _,k_⟩
abbrev By (low:Int) (high:Int):Hint false Tryz.prog:=.call 113 (S113 low high) ((ok113 low high).to false) none
abbrev Qtd (words:List ByteArray):Hint false Tryz.prog:=.call 117 (S117 words) ((ok117 words).to false) none
def Jt (x:Nat→SV):List Qs:=[⟨(⟨#[104,111,115,116]⟩:ByteArray),1,x 0⟩,⟨(⟨#[117,115,101,114]⟩:ByteArray),2,x 1⟩,⟨(⟨#[112,111,114,116]⟩:ByteArray),2,x 2⟩,⟨(⟨#[112,111,114,116]⟩:ByteArray),2,x 3⟩,⟨(⟨#[114,117,108,101]⟩:ByteArray),3,x 4⟩,⟨(⟨#[114,111,117,116,101]⟩:ByteArray),3,x 5⟩,⟨(⟨#[112,101,101,114]⟩:ByteArray),2,x 6⟩,⟨(⟨#[110,97,116]⟩:ByteArray),1,x 7⟩,⟨(⟨#[100,111,111,114]⟩:ByteArray),3,x 8⟩]
def all97:List form:=[⟨(⟨#[104,111,115,116]⟩:ByteArray),1,[(fun x0=>F114 x0)]⟩,⟨(⟨#[117,115,101,114]⟩:ByteArray),2,[(fun x0=>F114 x0),(fun x0=>F115 x0)]⟩,⟨(⟨#[112,111,114,116]⟩:ByteArray),2,[(fun x0=>F132 x0 0 7),(fun x0=>F116 x0)]⟩,⟨(⟨#[112,111,114,116]⟩:ByteArray),2,[(fun x0=>F132 x0 0 7),(fun x0=>F116 x0),(fun x0=>F134 x0 ([(⟨#[105,110]⟩:ByteArray)]:List ByteArray)),(fun x0=>F114 x0)]⟩,⟨(⟨#[114,117,108,101]⟩:ByteArray),3,[(fun x0=>F114 x0),(fun x0=>F132 x0 0 99),(fun x0=>F134 x0 ([(⟨#[112,101,114,109,105,116]⟩:ByteArray),(⟨#[100,101,110,121]⟩:ByteArray)]:List ByteArray)),(fun x0=>F116 x0),(fun x0=>F116 x0),(fun x0=>F132 x0 0 7)]⟩,⟨(⟨#[114,111,117,116,101]⟩:ByteArray),3,[(fun x0=>F116 x0),(fun x0=>F118 x0)]⟩,⟨(⟨#[112,101,101,114]⟩:ByteArray),2,[(fun x0=>F118 x0),(fun x0=>F132 x0 1 9),(fun x0=>F132 x0 1 999999)]⟩,⟨(⟨#[110,97,116]⟩:ByteArray),1,[(fun x0=>F116 x0),(fun x0=>F118 x0),(fun x0=>F132 x0 1 65535),(fun x0=>F132 x0 1 65535)]⟩,⟨(⟨#[100,111,111,114]⟩:ByteArray),3,[(fun x0=>F132 x0 1 7),(fun x0=>F132 x0 1 65535),(fun x0=>F118 x0),(fun x0=>F132 x0 1 65535)]⟩]
def Hv (x:Nat→SV):List (Value×Dat):=[(sv (x 0),.l 1 Vz [(fun x0=>F114 x0)]),(sv (x 1),.l 1 Vz [(fun x0=>F114 x0),(fun x0=>F115 x0)]),(sv (x 2),.l 1 Vz [(fun x0=>F132 x0 0 7),(fun x0=>F116 x0)]),(sv (x 3),.l 1 Vz [(fun x0=>F132 x0 0 7),(fun x0=>F116 x0),(fun x0=>F134 x0 ([(⟨#[105,110]⟩:ByteArray)]:List ByteArray)),(fun x0=>F114 x0)]),(sv (x 4),.l 1 Vz [(fun x0=>F114 x0),(fun x0=>F132 x0 0 99),(fun x0=>F134 x0 ([(⟨#[112,101,114,109,105,116]⟩:ByteArray),(⟨#[100,101,110,121]⟩:ByteArray)]:List ByteArray)),(fun x0=>F116 x0),(fun x0=>F116 x0),(fun x0=>F132 x0 0 7)]),(sv (x 5),.l 1 Vz [(fun x0=>F116 x0),(fun x0=>F118 x0)]),(sv (x 6),.l 1 Vz [(fun x0=>F118 x0),(fun x0=>F132 x0 1 9),(fun x0=>F132 x0 1 999999)]),(sv (x 7),.l 1 Vz [(fun x0=>F116 x0),(fun x0=>F118 x0),(fun x0=>F132 x0 1 65535),(fun x0=>F132 x0 1 65535)]),(sv (x 8),.l 1 Vz [(fun x0=>F132 x0 1 7),(fun x0=>F132 x0 1 65535),(fun x0=>F118 x0),(fun x0=>F132 x0 1 65535)])]
def Qpm:FnH Tryz.prog:=⟨true,114,Kt (fun x0=>F114 x0),[],rfl,True,fun i=>Qeh (ok114 i)⟩
theorem Qpq:Ub Tryz.prog 114=true:=by kernel_rfl
def fh115:FnH Tryz.prog:=⟨true,115,Kt (fun x0=>F115 x0),[],rfl,True,fun i=>Qeh (ok115 i)⟩
theorem ca115:Ub Tryz.prog 115=true:=by kernel_rfl
def Qdz:FnH Tryz.prog:=⟨false,116,Kt (fun x0=>F116 x0),[],rfl,True,fun i=>Qeh (ok116 i)⟩
theorem Qez:Ub Tryz.prog 116=true:=by kernel_rfl
def Qqa:FnH Tryz.prog:=⟨false,118,Kt (fun x0=>F118 x0),[],rfl,True,fun i=>Qeh (ok118 i)⟩
theorem Qoq:Ub Tryz.prog 118=true:=by kernel_rfl
def Xr (a b:Int):FnH Tryz.prog:=⟨false,132,Kt (fun x0=>F132 x0 a b),[.rp [.v (vI a)],.rp [.v (vI b)]],rfl,True,fun i=>Qeh (ok132 i a b)⟩
theorem Xv:Ub Tryz.prog 132=true:=by kernel_rfl
def fh134 (l:List ByteArray):FnH Tryz.prog:=⟨true,134,Kt (fun x0=>F134 x0 l),[.rp [.l 1 eStr l]],rfl,True,fun i=>Qeh (ok134 i l)⟩
theorem ca134:Ub Tryz.prog 134=true:=by kernel_rfl
theorem hk97_0 (word:ByteArray):Qnp Tryz.prog 45 (fun _:Unit=>(⟨[(1,some (.p 0 0)),(5,some (.h 1 0)),(8,some (.h 2 0))],[(0,some (.box 9 [.v (.string word)])),(1,some (.arr 9 [.v (.string (⟨#[104,111,115,116]⟩:ByteArray)),.v (vI 1),.h 2 0,.v (.string (⟨#[117,115,101,114]⟩:ByteArray)),.v (vI 2),.h 3 0,.v (.string (⟨#[112,111,114,116]⟩:ByteArray)),.v (vI 2),.h 4 0,.v (.string (⟨#[112,111,114,116]⟩:ByteArray)),.v (vI 2),.h 7 0,.v (.string (⟨#[114,117,108,101]⟩:ByteArray)),.v (vI 3),.h 12 0,.v (.string (⟨#[114,111,117,116,101]⟩:ByteArray)),.v (vI 3),.h 19 0,.v (.string (⟨#[112,101,101,114]⟩:ByteArray)),.v (vI 2),.h 20 0,.v (.string (⟨#[110,97,116]⟩:ByteArray)),.v (vI 1),.h 25 0,.v (.string (⟨#[100,111,111,114]⟩:ByteArray)),.v (vI 3),.h 28 0])),(2,some (.arr 1 [.cl 114 []])),(3,some (.arr 2 [.cl 114 [],.cl 115 []])),(4,some (.arr 2 [.cl 132 [.p 5 0,.p 6 0],.cl 116 []])),(5,some (.box 3 [.v (vI 0)])),(6,some (.box 3 [.v (vI 7)])),(7,some (.arr 4 [.cl 132 [.p 8 0,.p 9 0],.cl 116 [],.cl 134 [.p 10 0],.cl 114 []])),(8,some (.box 3 [.v (vI 0)])),(9,some (.box 3 [.v (vI 7)])),(10,some (.box 22 [.h 11 0])),(11,some (.own 11 (.l 1 eStr ([(⟨#[105,110]⟩:ByteArray)]:List ByteArray)))),(12,some (.arr 6 [.cl 114 [],.cl 132 [.p 13 0,.p 14 0],.cl 134 [.p 15 0],.cl 116 [],.cl 116 [],.cl 132 [.p 17 0,.p 18 0]])),(13,some (.box 3 [.v (vI 0)])),(14,some (.box 3 [.v (vI 99)])),(15,some (.box 22 [.h 16 0])),(16,some (.own 16 (.l 1 eStr ([(⟨#[112,101,114,109,105,116]⟩:ByteArray),(⟨#[100,101,110,121]⟩:ByteArray)]:List ByteArray)))),(17,some (.box 3 [.v (vI 0)])),(18,some (.box 3 [.v (vI 7)])),(19,some (.arr 2 [.cl 116 [],.cl 118 []])),(20,some (.arr 3 [.cl 118 [],.cl 132 [.p 21 0,.p 22 0],.cl 132 [.p 23 0,.p 24 0]])),(21,some (.box 3 [.v (vI 1)])),(22,some (.box 3 [.v (vI 9)])),(23,some (.box 3 [.v (vI 1)])),(24,some (.box 3 [.v (vI 999999)])),(25,some (.arr 4 [.cl 116 [],.cl 118 [],.cl 132 [.p 26 0,.p 27 0],.cl 132 [.p 26 0,.p 27 0]])),(26,some (.box 3 [.v (vI 1)])),(27,some (.box 3 [.v (vI 65535)])),(28,some (.arr 4 [.cl 132 [.p 29 0,.p 30 0],.cl 132 [.p 26 0,.p 27 0],.cl 118 [],.cl 132 [.p 26 0,.p 27 0]])),(29,some (.box 3 [.v (vI 1)])),(30,some (.box 3 [.v (vI 7)]))],31⟩:St)) (fun _=>True) (fun x:Nat→SV=>(⟨[(1,some (.p 0 0)),(5,some (.h 1 0)),(8,some (.h 2 0))],[(0,some (.box 9 [.v (.string word)])),(1,some (.own 1 (.l 3 Uc (Jt x)))),(2,some (.own 2 (.x (LX (Hv x)))))],31⟩:St)) (fun _=>True):=by
 intro ψ IN w0 w a i _ H
 obtain ⟨β,φ,dom,V⟩:=H
 have R:=V.rel
 have hall:Qny (fsG (⟨[(1,some (.p 0 0)),(5,some (.h 1 0)),(8,some (.h 2 0))],[(0,some (.box 9 [.v (.string word)])),(1,some (.arr 9 [.v (.string (⟨#[104,111,115,116]⟩:ByteArray)),.v (vI 1),.h 2 0,.v (.string (⟨#[117,115,101,114]⟩:ByteArray)),.v (vI 2),.h 3 0,.v (.string (⟨#[112,111,114,116]⟩:ByteArray)),.v (vI 2),.h 4 0,.v (.string (⟨#[112,111,114,116]⟩:ByteArray)),.v (vI 2),.h 7 0,.v (.string (⟨#[114,117,108,101]⟩:ByteArray)),.v (vI 3),.h 12 0,.v (.string (⟨#[114,111,117,116,101]⟩:ByteArray)),.v (vI 3),.h 19 0,.v (.string (⟨#[112,101,101,114]⟩:ByteArray)),.v (vI 2),.h 20 0,.v (.string (⟨#[110,97,116]⟩:ByteArray)),.v (vI 1),.h 25 0,.v (.string (⟨#[100,111,111,114]⟩:ByteArray)),.v (vI 3),.h 28 0])),(2,some (.arr 1 [.cl 114 []])),(3,some (.arr 2 [.cl 114 [],.cl 115 []])),(4,some (.arr 2 [.cl 132 [.p 5 0,.p 6 0],.cl 116 []])),(5,some (.box 3 [.v (vI 0)])),(6,some (.box 3 [.v (vI 7)])),(7,some (.arr 4 [.cl 132 [.p 8 0,.p 9 0],.cl 116 [],.cl 134 [.p 10 0],.cl 114 []])),(8,some (.box 3 [.v (vI 0)])),(9,some (.box 3 [.v (vI 7)])),(10,some (.box 22 [.h 11 0])),(11,some (.own 11 (.l 1 eStr ([(⟨#[105,110]⟩:ByteArray)]:List ByteArray)))),(12,some (.arr 6 [.cl 114 [],.cl 132 [.p 13 0,.p 14 0],.cl 134 [.p 15 0],.cl 116 [],.cl 116 [],.cl 132 [.p 17 0,.p 18 0]])),(13,some (.box 3 [.v (vI 0)])),(14,some (.box 3 [.v (vI 99)])),(15,some (.box 22 [.h 16 0])),(16,some (.own 16 (.l 1 eStr ([(⟨#[112,101,114,109,105,116]⟩:ByteArray),(⟨#[100,101,110,121]⟩:ByteArray)]:List ByteArray)))),(17,some (.box 3 [.v (vI 0)])),(18,some (.box 3 [.v (vI 7)])),(19,some (.arr 2 [.cl 116 [],.cl 118 []])),(20,some (.arr 3 [.cl 118 [],.cl 132 [.p 21 0,.p 22 0],.cl 132 [.p 23 0,.p 24 0]])),(21,some (.box 3 [.v (vI 1)])),(22,some (.box 3 [.v (vI 9)])),(23,some (.box 3 [.v (vI 1)])),(24,some (.box 3 [.v (vI 999999)])),(25,some (.arr 4 [.cl 116 [],.cl 118 [],.cl 132 [.p 26 0,.p 27 0],.cl 132 [.p 26 0,.p 27 0]])),(26,some (.box 3 [.v (vI 1)])),(27,some (.box 3 [.v (vI 65535)])),(28,some (.arr 4 [.cl 132 [.p 29 0,.p 30 0],.cl 132 [.p 26 0,.p 27 0],.cl 118 [],.cl 132 [.p 26 0,.p 27 0]])),(29,some (.box 3 [.v (vI 1)])),(30,some (.box 3 [.v (vI 7)]))],31⟩:St).fs) [2,3,4,5,6,7,8,9,10,11,12,13,14,15,16,17,18,19,20,21,22,23,24,25,26,27,28,29,30]=true:=rfl
 have hS:∀ id∈[2,3,4,5,6,7,8,9,10,11,12,13,14,15,16,17,18,19,20,21,22,23,24,25,26,27,28,29,30],∀ b∈φ id,b∈[2,3,4,5,6,7,8,9,10,11,12,13,14,15,16,17,18,19,20,21,22,23,24,25,26,27,28,29,30].flatMap φ:=fun id hid b hb=>List.mem_flatMap.2 ⟨id,hid,hb⟩
 have hlt:=R.flat_lt (Qfu hall)
 have e2:=Vs R (show fsG _ 2=_ from rfl)
 have e3:=Vs R (show fsG _ 3=_ from rfl)
 have e4:=Vs R (show fsG _ 4=_ from rfl)
 have e7:=Vs R (show fsG _ 7=_ from rfl)
 have e12:=Vs R (show fsG _ 12=_ from rfl)
 have e19:=Vs R (show fsG _ 19=_ from rfl)
 have e20:=Vs R (show fsG _ 20=_ from rfl)
 have e25:=Vs R (show fsG _ 25=_ from rfl)
 have e28:=Vs R (show fsG _ 28=_ from rfl)
 have he:([.v (.string (⟨#[104,111,115,116]⟩:ByteArray)),.v (vI 1),.v (sv (toSV (β 2 0))),.v (.string (⟨#[117,115,101,114]⟩:ByteArray)),.v (vI 2),.v (sv (toSV (β 3 0))),.v (.string (⟨#[112,111,114,116]⟩:ByteArray)),.v (vI 2),.v (sv (toSV (β 4 0))),.v (.string (⟨#[112,111,114,116]⟩:ByteArray)),.v (vI 2),.v (sv (toSV (β 7 0))),.v (.string (⟨#[114,117,108,101]⟩:ByteArray)),.v (vI 3),.v (sv (toSV (β 12 0))),.v (.string (⟨#[114,111,117,116,101]⟩:ByteArray)),.v (vI 3),.v (sv (toSV (β 19 0))),.v (.string (⟨#[112,101,101,114]⟩:ByteArray)),.v (vI 2),.v (sv (toSV (β 20 0))),.v (.string (⟨#[110,97,116]⟩:ByteArray)),.v (vI 1),.v (sv (toSV (β 25 0))),.v (.string (⟨#[100,111,111,114]⟩:ByteArray)),.v (vI 3),.v (sv (toSV (β 28 0)))]:List Dat)=[.v (.string (⟨#[104,111,115,116]⟩:ByteArray)),.v (vI 1),.v (β 2 0),.v (.string (⟨#[117,115,101,114]⟩:ByteArray)),.v (vI 2),.v (β 3 0),.v (.string (⟨#[112,111,114,116]⟩:ByteArray)),.v (vI 2),.v (β 4 0),.v (.string (⟨#[112,111,114,116]⟩:ByteArray)),.v (vI 2),.v (β 7 0),.v (.string (⟨#[114,117,108,101]⟩:ByteArray)),.v (vI 3),.v (β 12 0),.v (.string (⟨#[114,111,117,116,101]⟩:ByteArray)),.v (vI 3),.v (β 19 0),.v (.string (⟨#[112,101,101,114]⟩:ByteArray)),.v (vI 2),.v (β 20 0),.v (.string (⟨#[110,97,116]⟩:ByteArray)),.v (vI 1),.v (β 25 0),.v (.string (⟨#[100,111,111,114]⟩:ByteArray)),.v (vI 3),.v (β 28 0)]:=by rw [← e2,← e3,← e4,← e7,← e12,← e19,← e20,← e25,← e28]
 refine ⟨fun k=>toSV (β (([2,3,4,7,12,19,20,25,28]:List Nat).getD k 0) 0),trivial,pack3 (bx:=[.string word]) (rest:=[2,3,4,5,6,7,8,9,10,11,12,13,14,15,16,17,18,19,20,21,22,23,24,25,26,27,28,29,30]) V rfl ⟨_,rfl,rfl⟩ hall (by decide) (R.ok 2 _ rfl).1 (Uer R (show fsG _ 1=_ from rfl) rfl (by decide) (fun _=>rfl) he) (fun hnd _=>⟨⟨R.all1 2 0,?_⟩,hnd,hlt⟩)⟩
 exact ⟨RdV.at_sv e2 (Wt R (F:=Kt) (show fsG _ 2=_ from rfl) rfl (by decide) (fun _=>rfl) (hS 2 (by decide)) ⟨_,_,rfl,Zb Qpm rfl trivial hlt Qpq rfl,rfl⟩),
  RdV.at_sv e3 (Wt R (F:=Kt) (show fsG _ 3=_ from rfl) rfl (by decide) (fun _=>rfl) (hS 3 (by decide)) ⟨_,_,rfl,Zb Qpm rfl trivial hlt Qpq rfl,⟨_,_,rfl,Zb fh115 rfl trivial hlt ca115 rfl,rfl⟩⟩),
  RdV.at_sv e4 (Wt R (F:=Kt) (show fsG _ 4=_ from rfl) rfl (by decide) (fun _=>rfl) (hS 4 (by decide)) ⟨_,_,rfl,Jb R (Xr 0 7) (show fsG _ 5=_ from rfl) (show fsG _ 6=_ from rfl) rfl trivial (hS 5 (by decide)) (hS 6 (by decide)) hlt Xv rfl rfl rfl,⟨_,_,rfl,Zb Qdz rfl trivial hlt Qez rfl,rfl⟩⟩),
  RdV.at_sv e7 (Wt R (F:=Kt) (show fsG _ 7=_ from rfl) rfl (by decide) (fun _=>rfl) (hS 7 (by decide)) ⟨_,_,rfl,Jb R (Xr 0 7) (show fsG _ 8=_ from rfl) (show fsG _ 9=_ from rfl) rfl trivial (hS 8 (by decide)) (hS 9 (by decide)) hlt Xv rfl rfl rfl,⟨_,_,rfl,Zb Qdz rfl trivial hlt Qez rfl,⟨_,_,rfl,Ubl R (fh134 ([(⟨#[105,110]⟩:ByteArray)]:List ByteArray)) (show fsG _ 10=_ from rfl) (show fsG _ 11=_ from rfl) rfl trivial (hS 10 (by decide)) (hS 11 (by decide)) hlt ca134 rfl,⟨_,_,rfl,Zb Qpm rfl trivial hlt Qpq rfl,rfl⟩⟩⟩⟩),
  RdV.at_sv e12 (Wt R (F:=Kt) (show fsG _ 12=_ from rfl) rfl (by decide) (fun _=>rfl) (hS 12 (by decide)) ⟨_,_,rfl,Zb Qpm rfl trivial hlt Qpq rfl,⟨_,_,rfl,Jb R (Xr 0 99) (show fsG _ 13=_ from rfl) (show fsG _ 14=_ from rfl) rfl trivial (hS 13 (by decide)) (hS 14 (by decide)) hlt Xv rfl rfl rfl,⟨_,_,rfl,Ubl R (fh134 ([(⟨#[112,101,114,109,105,116]⟩:ByteArray),(⟨#[100,101,110,121]⟩:ByteArray)]:List ByteArray)) (show fsG _ 15=_ from rfl) (show fsG _ 16=_ from rfl) rfl trivial (hS 15 (by decide)) (hS 16 (by decide)) hlt ca134 rfl,⟨_,_,rfl,Zb Qdz rfl trivial hlt Qez rfl,⟨_,_,rfl,Zb Qdz rfl trivial hlt Qez rfl,⟨_,_,rfl,Jb R (Xr 0 7) (show fsG _ 17=_ from rfl) (show fsG _ 18=_ from rfl) rfl trivial (hS 17 (by decide)) (hS 18 (by decide)) hlt Xv rfl rfl rfl,rfl⟩⟩⟩⟩⟩⟩),
  RdV.at_sv e19 (Wt R (F:=Kt) (show fsG _ 19=_ from rfl) rfl (by decide) (fun _=>rfl) (hS 19 (by decide)) ⟨_,_,rfl,Zb Qdz rfl trivial hlt Qez rfl,⟨_,_,rfl,Zb Qqa rfl trivial hlt Qoq rfl,rfl⟩⟩),
  RdV.at_sv e20 (Wt R (F:=Kt) (show fsG _ 20=_ from rfl) rfl (by decide) (fun _=>rfl) (hS 20 (by decide)) ⟨_,_,rfl,Zb Qqa rfl trivial hlt Qoq rfl,⟨_,_,rfl,Jb R (Xr 1 9) (show fsG _ 21=_ from rfl) (show fsG _ 22=_ from rfl) rfl trivial (hS 21 (by decide)) (hS 22 (by decide)) hlt Xv rfl rfl rfl,⟨_,_,rfl,Jb R (Xr 1 999999) (show fsG _ 23=_ from rfl) (show fsG _ 24=_ from rfl) rfl trivial (hS 23 (by decide)) (hS 24 (by decide)) hlt Xv rfl rfl rfl,rfl⟩⟩⟩),
  RdV.at_sv e25 (Wt R (F:=Kt) (show fsG _ 25=_ from rfl) rfl (by decide) (fun _=>rfl) (hS 25 (by decide)) ⟨_,_,rfl,Zb Qdz rfl trivial hlt Qez rfl,⟨_,_,rfl,Zb Qqa rfl trivial hlt Qoq rfl,⟨_,_,rfl,Jb R (Xr 1 65535) (show fsG _ 26=_ from rfl) (show fsG _ 27=_ from rfl) rfl trivial (hS 26 (by decide)) (hS 27 (by decide)) hlt Xv rfl rfl rfl,⟨_,_,rfl,Jb R (Xr 1 65535) (show fsG _ 26=_ from rfl) (show fsG _ 27=_ from rfl) rfl trivial (hS 26 (by decide)) (hS 27 (by decide)) hlt Xv rfl rfl rfl,rfl⟩⟩⟩⟩),
  RdV.at_sv e28 (Wt R (F:=Kt) (show fsG _ 28=_ from rfl) rfl (by decide) (fun _=>rfl) (hS 28 (by decide)) ⟨_,_,rfl,Jb R (Xr 1 7) (show fsG _ 29=_ from rfl) (show fsG _ 30=_ from rfl) rfl trivial (hS 29 (by decide)) (hS 30 (by decide)) hlt Xv rfl rfl rfl,⟨_,_,rfl,Jb R (Xr 1 65535) (show fsG _ 26=_ from rfl) (show fsG _ 27=_ from rfl) rfl trivial (hS 26 (by decide)) (hS 27 (by decide)) hlt Xv rfl rfl rfl,⟨_,_,rfl,Zb Qqa rfl trivial hlt Qoq rfl,⟨_,_,rfl,Jb R (Xr 1 65535) (show fsG _ 26=_ from rfl) (show fsG _ 27=_ from rfl) rfl trivial (hS 26 (by decide)) (hS 27 (by decide)) hlt Xv rfl rfl rfl,rfl⟩⟩⟩⟩),trivial⟩
theorem hk97_1 (word:ByteArray) (x:Nat→SV):Qnp Tryz.prog 45 (fun _:Unit=>(⟨[(2,some (.h 0 0)),(8,some (.h 1 0))],[(0,some (.own 0 (.l 3 Uc ((Jt x).filter (fun x=>!((fun (x0:Qs)=>F120 x0 word) x)))))),(1,some (.own 1 (.x (LX (Hv x)))))],2⟩:St)) (fun _=>True) (fun _:Unit=>(⟨[(2,some (.h 0 0))],[(0,some (.own 0 (.b (.l 3 Gx (all97.filter (fun z=>z.word.toList==word.toList))))))],2⟩:St)) (fun _=>True):=by
 intro ψ IN w0 w a i _ H
 refine ⟨(),trivial,pack1 rfl rfl rfl (fun v y f g h1 h2=>?_) H⟩
 have hx:RdAll (fun b=>b∈f++g) w (Hv x):=h2.1.2.mono fun b hb=>⟨List.mem_append_right _ hb,rfl⟩
 have hall:Rel2 (fun (y:Qs) (z:form)=>y.word=z.word∧∀ cs,RdVs (fun b=>b∈f++g) w (Uc y) cs→RdVs (fun b=>b∈f++g) w (Gx z) cs) (Jt x) all97:=⟨⟨rfl,row3 hx.1⟩,⟨rfl,row3 hx.2.1⟩,⟨rfl,row3 hx.2.2.1⟩,⟨rfl,row3 hx.2.2.2.1⟩,⟨rfl,row3 hx.2.2.2.2.1⟩,⟨rfl,row3 hx.2.2.2.2.2.1⟩,⟨rfl,row3 hx.2.2.2.2.2.2.1⟩,⟨rfl,row3 hx.2.2.2.2.2.2.2.1⟩,⟨rfl,row3 hx.2.2.2.2.2.2.2.2.1⟩,trivial⟩
 refine Qst h1 (fun b hb=>List.mem_append_left _ hb) (Rel2.mono (fun a c h=>h.2) (Rel2.filter (fun y z h=>?_) hall))
 simp only [F120,h.1,Bool.not_not]
def F97 (word:ByteArray):List form :=
 (all97.filter (fun z=>z.word.toList==word.toList))
def S97 (word:ByteArray):Spec:=⟨[.r (.c (.v (.string word)))],.ow (.b (.l 3 Gx (F97 word))),True⟩
theorem ok97 (word:ByteArray):(S97 word).ok Tryz.prog 97 false :=
 Qi mixed (fn:=Tryz.f97) (ct:=.seq .no (.seq (.reg [(0,By 1 65535),(1,By 1 7)]) (.hnd (ι:=Unit) (κ:=(Nat→SV)) (fun _=>(⟨[(1,some (.p 0 0)),(5,some (.h 1 0)),(8,some (.h 2 0))],[(0,some (.box 9 [.v (.string word)])),(1,some (.arr 9 [.v (.string w4_),.v (vI 1),.h 2 0,.v (.string w10_),.v (vI 2),.h 3 0,.v (.string w7_),.v (vI 2),.h 4 0,.v (.string w7_),.v (vI 2),.h 7 0,.v (.string w9_),.v (vI 3),.h 12 0,.v (.string w8_),.v (vI 3),.h 19 0,.v (.string w6_),.v (vI 2),.h 20 0,.v (.string w5_),.v (vI 1),.h 25 0,.v (.string w3_),.v (vI 3),.h 28 0])),(2,some (.arr 1 [.cl 114 []])),(3,some (.arr 2 [.cl 114 [],.cl 115 []])),(4,some (.arr 2 [.cl 132 [.p 5 0,.p 6 0],.cl 116 []])),(5,some (.box 3 [.v (vI 0)])),(6,some (.box 3 [.v (vI 7)])),(7,some (.arr 4 [.cl 132 [.p 8 0,.p 9 0],.cl 116 [],.cl 134 [.p 10 0],.cl 114 []])),(8,some (.box 3 [.v (vI 0)])),(9,some (.box 3 [.v (vI 7)])),(10,some (.box 22 [.h 11 0])),(11,some (.own 11 (.l 1 eStr ([w18_]:List ByteArray)))),(12,some (.arr 6 [.cl 114 [],.cl 132 [.p 13 0,.p 14 0],.cl 134 [.p 15 0],.cl 116 [],.cl 116 [],.cl 132 [.p 17 0,.p 18 0]])),(13,some (.box 3 [.v (vI 0)])),(14,some (.box 3 [.v (vI 99)])),(15,some (.box 22 [.h 16 0])),(16,some (.own 16 (.l 1 eStr ([w19_,w20_]:List ByteArray)))),(17,some (.box 3 [.v (vI 0)])),(18,some (.box 3 [.v (vI 7)])),(19,some (.arr 2 [.cl 116 [],.cl 118 []])),(20,some (.arr 3 [.cl 118 [],.cl 132 [.p 21 0,.p 22 0],.cl 132 [.p 23 0,.p 24 0]])),(21,some (.box 3 [.v (vI 1)])),(22,some (.box 3 [.v (vI 9)])),(23,some (.box 3 [.v (vI 1)])),(24,some (.box 3 [.v (vI 999999)])),(25,some (.arr 4 [.cl 116 [],.cl 118 [],.cl 132 [.p 26 0,.p 27 0],.cl 132 [.p 26 0,.p 27 0]])),(26,some (.box 3 [.v (vI 1)])),(27,some (.box 3 [.v (vI 65535)])),(28,some (.arr 4 [.cl 132 [.p 29 0,.p 30 0],.cl 132 [.p 26 0,.p 27 0],.cl 118 [],.cl 132 [.p 26 0,.p 27 0]])),(29,some (.box 3 [.v (vI 1)])),(30,some (.box 3 [.v (vI 7)]))],31⟩:St)) (fun _=>True) (fun (x:Nat→SV)=>(⟨[(1,some (.p 0 0)),(5,some (.h 1 0)),(8,some (.h 2 0))],[(0,some (.box 9 [.v (.string word)])),(1,some (.own 1 (.l 3 Uc (Jt x)))),(2,some (.own 2 (.x (LX (Hv x)))))],31⟩:St)) (fun _=>True) (.reg [(4,By 0 7),(7,By 0 7),(8,.dat (.l 1 eStr ([w18_]:List ByteArray))),(9,Qtd ([w18_]:List ByteArray)),(12,By 0 99),(13,.dat (.l 1 eStr ([w19_,w20_]:List ByteArray))),(14,Qtd ([w19_,w20_]:List ByteArray)),(15,By 0 7),(20,By 1 9),(21,By 1 999999)]) (fun (x:Nat→SV)=>.hnd (ι:=Unit) (κ:=Unit) (fun _=>(⟨[(2,some (.h 0 0)),(8,some (.h 1 0))],[(0,some (.own 0 (.l 3 Uc ((Jt x).filter (fun x=>!((fun (x0:Qs)=>F120 x0 word) x)))))),(1,some (.own 1 (.x (LX (Hv x)))))],2⟩:St)) (fun _=>True) (fun (_:Unit)=>(⟨[(2,some (.h 0 0))],[(0,some (.own 0 (.b (.l 3 Gx (all97.filter (fun z=>z.word.toList==word.toList))))))],2⟩:St)) (fun _=>True) (.reg [(2,.call 119 (S119 ((Jt x).filter (fun x=>!((fun (x0:Qs)=>F120 x0 word) x))) (Jt x) (fun (x0:Qs)=>F120 x0 word) (fun (x0:Qs)=>True)) (oa119 (Jt x) (fun (x0:Qs)=>F120 x0 word) (fun (x0:Qs)=>True)) (some ⟨true,120,Yo (fun (x0:Qs)=>True) (fun (x0:Qs)=>F120 x0 word),[.rp ([.v (.string word)])],rfl,True,fun i=>Ubk (ok120 i word)⟩))]) (fun (_:Unit)=>.no))))) Tryz.func97 (fun (_:True)=>Nx 1 65535 (Nx 1 7 (ai (Nx 0 7 (Nx 0 7 (ai (bokr 1 eStr ([w18_]:List ByteArray) fun _=>rfl) (kc117 ([w18_]:List ByteArray) (Nx 0 99 (ai (bokr 1 eStr ([w19_,w20_]:List ByteArray) fun _=>rfl) (kc117 ([w19_,w20_]:List ByteArray) (Nx 0 7 (Nx 1 9 (Nx 1 999999 (Exists.intro (p:=fun (_:Unit)=>((.string word:Value)=.string word)∧((.string w4_:Value)=.string w4_)∧((.int .i64 1:Value)=.int .i64 1)∧((.string w10_:Value)=.string w10_)∧((.int .i64 2:Value)=.int .i64 2)∧((.string w7_:Value)=.string w7_)∧((.int .i64 2:Value)=.int .i64 2)∧((.string w7_:Value)=.string w7_)∧((.int .i64 2:Value)=.int .i64 2)∧((.string w9_:Value)=.string w9_)∧((.int .i64 3:Value)=.int .i64 3)∧((.string w8_:Value)=.string w8_)∧((.int .i64 3:Value)=.int .i64 3)∧((.string w6_:Value)=.string w6_)∧((.int .i64 2:Value)=.int .i64 2)∧((.string w5_:Value)=.string w5_)∧((.int .i64 1:Value)=.int .i64 1)∧((.string w3_:Value)=.string w3_)∧((.int .i64 3:Value)=.int .i64 3)∧((.int .i64 0:Value)=.int .i64 0)∧((.int .i64 7:Value)=.int .i64 7)∧((.int .i64 0:Value)=.int .i64 0)∧((.int .i64 7:Value)=.int .i64 7)∧(Imp (.l 1 eStr ([w18_]:List ByteArray)) (.l 1 eStr ([w18_]:List ByteArray)))∧((.int .i64 0:Value)=.int .i64 0)∧((.int .i64 99:Value)=.int .i64 99)∧(Imp (.l 1 eStr ([w19_,w20_]:List ByteArray)) (.l 1 eStr ([w19_,w20_]:List ByteArray)))∧((.int .i64 0:Value)=.int .i64 0)∧((.int .i64 7:Value)=.int .i64 7)∧((.int .i64 1:Value)=.int .i64 1)∧((.int .i64 9:Value)=.int .i64 9)∧((.int .i64 1:Value)=.int .i64 1)∧((.int .i64 999999:Value)=.int .i64 999999)∧((.int .i64 1:Value)=.int .i64 1)∧((.int .i64 65535:Value)=.int .i64 65535)∧((.int .i64 1:Value)=.int .i64 1)∧((.int .i64 7:Value)=.int .i64 7)∧True) () (ai rfl (ai rfl (ai rfl (ai rfl (ai rfl (ai rfl (ai rfl (ai rfl (ai rfl (ai rfl (ai rfl (ai rfl (ai rfl (ai rfl (ai rfl (ai rfl (ai rfl (ai rfl (ai rfl (ai rfl (ai rfl (ai rfl (ai rfl (ai ir (ai rfl (ai rfl (ai ir (ai rfl (ai rfl (ai rfl (ai rfl (ai rfl (ai rfl (ai rfl (ai rfl (ai rfl (ai rfl trivial)))))))))))))))))))))))))))))))))))))))))))))))) (ai (hk97_0 word) (fun (x:Nat→SV) (_:True)=>ai (ai (ai (by exact (by decide:(9:Nat)≤1000000000):(Jt x).length≤1000000000) (by (intros; exact trivial):∀ k:Nat,k<(Jt x).length→(fun (x0:Qs)=>True) ((Jt x).getD k default))) (ai (Imp.refl (.l 3 Uc (Jt x))) (ai (Eq.refl (Yo (fun (x0:Qs)=>True) (fun (x0:Qs)=>F120 x0 word))) (ai trivial (ai (Imps.refl [.v (.string word)]) (Exists.intro (p:=fun (_:Unit)=>(Imp (.l 3 Uc ((Jt x).filter (fun x=>!((fun (x0:Qs)=>F120 x0 word) x)))) (.l 3 Uc ((Jt x).filter (fun x=>!((fun (x0:Qs)=>F120 x0 word) x)))))∧(Imp (.x (LX (Hv x))) (.x (LX (Hv x))))∧True) () (ai ir (ai ir trivial)))))))) (ai (hk97_1 word x) (fun (_:Unit) (_:True)=>(fun hF:((all97.filter (fun z=>z.word.toList==word.toList)):List form)=(F97 word)=>ai (Imp.of_eq (congrArg (fun r:List form=>Dat.b (Dat.l 3 Gx r)) hF)) trivial) rfl))))))) (by kernel_rfl)
theorem g97_0 (word:ByteArray):∀ k:Nat,((F97 word).getD k default).checks.length≤6:=by
 have hall:∀ z∈all97,z.checks.length≤6:=by
  intro z hz
  simp only [all97,List.mem_cons,List.not_mem_nil,or_false] at hz
  rcases hz with rfl | rfl | rfl | rfl | rfl | rfl | rfl | rfl | rfl <;> decide
 intro k
 rw [List.getD_eq_getElem?_getD]
 cases h:(F97 word)[k]? with
 | none=>exact Nat.zero_le 6
 | some z=>exact hall z (List.mem_filter.1 (List.mem_of_getElem? h)).1
def Bj (f:form) (words:List ByteArray):Int→Lp Int Bool:=fun v17 =>
 bif (decide (v17<(f.checks.length:Int))) then (bif (!((f.checks.getD v17.toNat default) (words.getD (v17+1).toNat default))) then (.ret false) else (.next (v17+1))) else (.done v17)
def F98 (f:form) (words:List ByteArray):Bool :=
 bif ((words.length:Int) != ((f.checks.length:Int)+1)) then false else ((runL (Bj f words) (((f.checks.length:Int)-0).toNat+1) 0).fin (fun r=>r) (fun v17=>true))
abbrev Qca (f:form):Nat×Int:=((((f.checks.length:Int)-0).toNat+1),0)
abbrev Qni (f:form) (m39:Nat) (v17:Int):Prop:=Int.toNat ((f.checks.length:Int)-v17)<m39∧(0:Int)≤v17
abbrev Qvw (f:form) (words:List ByteArray):Lp Int Bool:=LpX (Bj f words) (Qca f)
abbrev Qbm (f:form) (words:List ByteArray) (i:Nat×Int):Prop:=LpJ (Bj f words) (Qca f) i (Qni f i.1 i.2)
abbrev Qwh (f:form) (words:List ByteArray) (i:Nat×Int) (m39:Nat) (v17:Int):Prop:=LpH (Bj f words) (Qca f) i m39 v17 (Qni f (m39+1) v17)
abbrev Qwc (f:form) (words:List ByteArray) (v17:Int) (v17_:Int) (K39:Prop):Prop:=(Rf (.int .i64 (f.checks.length:Int)))∧((.int .i64 v17:Value)=.int .i64 v17_)∧(Im (.l 1 eStr words))∧(Im (.l 1 Vz f.checks))∧K39
theorem un98_0 (f:form) (words:List ByteArray) (i:Nat×Int) (h:Qbm f words i):Qwh f words i (i.1-1) i.2:=⟨hd1 h.1 h.2.1,hd3 h.2.1,hd2 h.2.1,h.2.2⟩
theorem bk98_0 (f:form) (words:List ByteArray) (i:Nat×Int) (m39:Nat) (v17:Int) (hl:m39<i.1) (e:runL (Bj f words) m39 v17=Qvw f words) (h:Qni f m39 v17):∃ j:Nat×Int,Qwc f words v17 j.2 (Qbm f words j∧j.1<i.1):=⟨(m39,v17),rfl,rfl,Imp.refl _,Imp.refl _,⟨e,h⟩,hl⟩
theorem en98_0 (f:form) (words:List ByteArray) (h:(0:Int)≤0):Qwc f words 0 0 (Qbm f words (Qca f)):=⟨rfl,rfl,Imp.refl _,Imp.refl _,rfl,Nat.lt_succ_self _,h⟩
def S98 (f:form) (words:List ByteArray):Spec:=⟨[.r (.g (Gx f)),.r (.c (.l 1 eStr words))],.v (.bool (F98 f words)),f.checks.length≤6∧(∀ k:Nat,(words.getD k default).size≤1048576)⟩
theorem ok98 (f:form) (words:List ByteArray):(S98 f words).ok Tryz.prog 98 false :=
 Qi mixed (fn:=Tryz.f98) (ct:=.seqk [(1,0)] .no (.seq (.seq (.reg [(5,.bnd)]) (.cond (.seq .no .no) .no)) (.seq (.seqk [(1,0),(15,0)] .no (.blk (.loop (ι:=Nat×Int) (fun i=>(fun (v17:Int)=>(⟨[(1,some (.h 0 0)),(15,some (.h 1 0)),(16,some (.v (vI (f.checks.length:Int)))),(17,some (.v (vI v17)))],[(0,some (.shr none (.l 1 eStr words))),(1,some (.shr none (.l 1 Vz f.checks)))],2⟩:St)) i.2) (Qbm f words) (fun i=>i.1) (Qca f) (fun i=>(fun (v17:Int)=>(.seq .no (.seq (.cond .no .no) (.seq (.blk (.seq .no (.seq (.reg [(3,.bnd),(6,.fnv (Kt (f.checks.getD v17.toNat default)) (words.getD (v17+1).toNat default))]) (.cond (.seq .no .no) .no)))) (.reg [(0,.bnd)]))))) i.2)))) (.seq .no .no)))) Tryz.func98 (fun (hp:f.checks.length≤6∧(∀ k:Nat,(words.getD k default).size≤1048576))=>have hpre0:=hp.1; have hpre1:=hp.2; kn words fun _=>ai (iok ((f.checks.length:Int)+1) (by omega)) (ifn (words.length:Int) ((f.checks.length:Int)+1) (fun h1 _=>fiB false (F98 f words) (condT h1 rfl)) (fun h1 _=>kn words fun _=>kn f.checks fun _=>ai (en98_0 f words (by omega)) (fun (i0:Nat×Int) (hi0:Qbm f words i0)=>(fun (m0:Nat) (v17:Int) (hh0:Qwh f words i0 m0 v17)=>have hI0:=hh0.1; have hl0:=hh0.2.1; have _:=hh0.2.2.1; have _:=hh0.2.2.2; ifd (v17<(f.checks.length:Int)) (fun h3 _=>ai (by omega:ib v17 f.checks) (ai (iok (v17+1) (by omega)) (ai (by omega:ib (v17+1) words) (ai (Eq.refl (FnX Tryz.prog (Kt (f.checks.getD v17.toNat default)))) (ai (Imp.bx (by exact hpre1 _:(words.getD (v17+1).toNat default).size≤1048576)) (ifb (!((f.checks.getD v17.toNat default) (words.getD (v17+1).toNat default))) (fun h4=>have _:=(Yv h4); fiB false (F98 f words) (condF h1 (finR (Qp hI0 (condT h3 (condT h4 rfl))) rfl))) (fun h4=>have _:=(Ul h4); ai (iok (v17+1) (by omega)) (bk98_0 f words i0 m0 (v17+1) hl0 (Qg hI0 (condT h3 (condF h4 rfl))) (by refine ⟨?_,?_⟩ <;> omega))))))))) (fun h3 _=>have hD0_5:Qvw f words=Lp.done v17:=Qj hI0 (condF h3 rfl); fiB true (F98 f words) (condF h1 (finD hD0_5 rfl)))) (i0.1-1) i0.2 (un98_0 f words i0 hi0))))) (by kernel_rfl)
theorem kc97 (word:ByteArray) {K_:Prop} (k_:(∀ k:Nat,((F97 word).getD k default).checks.length≤6)→K_):(True)∧(Imp (.v (.string word)) (.v (.string word)))∧K_:=⟨trivial,Imp.refl _,k_ (g97_0 word)⟩
abbrev kh97 (word:ByteArray):Hint false Tryz.prog:=.call 97 (S97 word) (ok97 word) none
theorem kc98 (f:form) (words:List ByteArray) {K_:Prop} (p0_:f.checks.length≤6) (p1_:∀ k:Nat,(words.getD k default).size≤1048576) (k_:K_):(f.checks.length≤6∧(∀ k:Nat,(words.getD k default).size≤1048576))∧(Imps (Gx f) (Gx f))∧(Imp (.l 1 eStr words) (.l 1 eStr words))∧K_:=⟨⟨p0_,p1_⟩,Imps.refl _,Imp.refl _,k_⟩
abbrev kh98 (f:form) (words:List ByteArray):Hint false Tryz.prog:=.call 98 (S98 f words) (ok98 f words) none
def Xu (words:List ByteArray):Int→Lp Int (form×Bool):=fun v15 =>
 bif (decide (v15<((F97 (words.getD (Int.toNat 0) default)).length:Int))) then (bif (F98 ((F97 (words.getD (Int.toNat 0) default)).getD v15.toNat default) words) then (.ret (((F97 (words.getD (Int.toNat 0) default)).getD v15.toNat default),true)) else (.next (v15+1))) else (.done v15)
def F86 (words:List ByteArray):form×Bool :=
 bif ((words.length:Int)==0) then ((⟨(⟨#[]⟩:ByteArray),0,[]⟩:form),false) else ((runL (Xu words) ((((F97 (words.getD (Int.toNat 0) default)).length:Int)-0).toNat+1) 0).fin (fun r=>r) (fun v15=>((⟨(⟨#[]⟩:ByteArray),0,[]⟩:form),false)))
abbrev Qcc (words:List ByteArray):Nat×Int:=(((((F97 (words.getD (Int.toNat 0) default)).length:Int)-0).toNat+1),0)
abbrev Qmx (words:List ByteArray) (m39:Nat) (v15:Int):Prop:=Int.toNat (((F97 (words.getD (Int.toNat 0) default)).length:Int)-v15)<m39∧(0:Int)≤v15
abbrev Qte (words:List ByteArray):Lp Int (form×Bool):=LpX (Xu words) (Qcc words)
abbrev Qck (words:List ByteArray) (i:Nat×Int):Prop:=LpJ (Xu words) (Qcc words) i (Qmx words i.1 i.2)
abbrev Qzu (words:List ByteArray) (i:Nat×Int) (m39:Nat) (v15:Int):Prop:=LpH (Xu words) (Qcc words) i m39 v15 (Qmx words (m39+1) v15)
abbrev Ubi (words:List ByteArray) (v15:Int) (v15_:Int) (K39:Prop):Prop:=(Rf (.int .i64 ((F97 (words.getD (Int.toNat 0) default)).length:Int)))∧((.int .i64 v15:Value)=.int .i64 v15_)∧(Im (.l 1 eStr words))∧(Rf (.string w13_))∧(Rf (.int .i64 0))∧(Rf (.slice none 0 0))∧(Im (.b (.l 3 Gx (F97 (words.getD (Int.toNat 0) default)))))∧K39
theorem un86_0 (words:List ByteArray) (i:Nat×Int) (h:Qck words i):Qzu words i (i.1-1) i.2:=⟨hd1 h.1 h.2.1,hd3 h.2.1,hd2 h.2.1,h.2.2⟩
theorem bk86_0 (words:List ByteArray) (i:Nat×Int) (m39:Nat) (v15:Int) (hl:m39<i.1) (e:runL (Xu words) m39 v15=Qte words) (h:Qmx words m39 v15):∃ j:Nat×Int,Ubi words v15 j.2 (Qck words j∧j.1<i.1):=⟨(m39,v15),rfl,rfl,Imp.refl _,rfl,rfl,rfl,Imp.refl _,⟨e,h⟩,hl⟩
theorem en86_0 (words:List ByteArray) (h:(0:Int)≤0):Ubi words 0 0 (Qck words (Qcc words)):=⟨rfl,rfl,Imp.refl _,rfl,rfl,rfl,Imp.refl _,rfl,Nat.lt_succ_self _,h⟩
def S86 (words:List ByteArray):Spec:=⟨[.r (.c (.l 1 eStr words))],.tu [.ag [.v (.string (F86 words).1.word),.v (vI (F86 words).1.key),.ow .any],.v (.bool (F86 words).2)],(∀ k:Nat,(words.getD k default).size≤1048576)⟩
theorem ok86 (words:List ByteArray):(S86 words).ok Tryz.prog 86 false :=
 Qi mixed (fn:=Tryz.f86) (ct:=.seqk [(0,0)] .no (.seq (.seq .no (.cond (.seq .no .no) .no)) (.seq (.seqk [(0,0),(13,0)] (.reg [(3,kh97 (words.getD (Int.toNat 0) default))]) (.blk (.loop (ι:=Nat×Int) (fun i=>(fun (v15:Int)=>(⟨[(0,some (.h 0 0)),(2,some (.p 1 0)),(13,some (.h 2 0)),(14,some (.v (vI ((F97 (words.getD (Int.toNat 0) default)).length:Int)))),(15,some (.v (vI v15)))],[(0,some (.shr none (.l 1 eStr words))),(1,some (.box 100 [.v (.string w13_),.v (vI 0),.v (.slice none 0 0)])),(2,some (.own 2 (.b (.l 3 Gx (F97 (words.getD (Int.toNat 0) default))))))],3⟩:St)) i.2) (Qck words) (fun i=>i.1) (Qcc words) (fun i=>(fun (v15:Int)=>(.seq .no (.seq (.cond .no .no) (.seq (.blk (.seq .no (.seq (.reg [(2,kh98 ((F97 (words.getD (Int.toNat 0) default)).getD v15.toNat default) words)]) (.cond (.seq .no .no) .no)))) (.reg [(0,.bnd)]))))) i.2)))) (.seq .no .no)))) Tryz.func86 (fun (hpre0:∀ k:Nat,(words.getD k default).size≤1048576)=>kn words fun _=>ife (words.length:Int) 0 (fun h1 _=>(fun hF:((⟨w13_,0,[]⟩:form),false)=(F86 words)=>ai (congrArg (fun r:form×Bool=>(.string r.1.word:Value)) hF) (ai (congrArg (fun r:form×Bool=>(.int .i64 r.1.key:Value)) hF) (ai (congrArg (fun r:form×Bool=>(.bool r.2:Value)) hF) trivial))) (condT h1 rfl)) (fun h1 _=>ai (by omega:ib 0 words) (kc97 (words.getD (Int.toNat 0) default) (fun gv2=>kn words fun _=>kn (F97 (words.getD (Int.toNat 0) default)) fun _=>ai (en86_0 words (by omega)) (fun (i0:Nat×Int) (hi0:Qck words i0)=>(fun (m0:Nat) (v15:Int) (hh0:Qzu words i0 m0 v15)=>have hI0:=hh0.1; have hl0:=hh0.2.1; have _:=hh0.2.2.1; have _:=hh0.2.2.2; ifd (v15<((F97 (words.getD (Int.toNat 0) default)).length:Int)) (fun h4 _=>ai (by omega:ib v15 (F97 (words.getD (Int.toNat 0) default))) (kc98 ((F97 (words.getD (Int.toNat 0) default)).getD v15.toNat default) words (by exact gv2 _) (by assumption) (ifb (F98 ((F97 (words.getD (Int.toNat 0) default)).getD v15.toNat default) words) (fun h5=>(fun hF:(((F97 (words.getD (Int.toNat 0) default)).getD v15.toNat default),true)=(F86 words)=>ai (congrArg (fun r:form×Bool=>(.string r.1.word:Value)) hF) (ai (congrArg (fun r:form×Bool=>(.int .i64 r.1.key:Value)) hF) (ai (congrArg (fun r:form×Bool=>(.bool r.2:Value)) hF) trivial))) (condF h1 (finR (Qp hI0 (condT h4 (condT h5 rfl))) rfl))) (fun h5=>ai (iok (v15+1) (by omega)) (bk86_0 words i0 m0 (v15+1) hl0 (Qg hI0 (condT h4 (condF h5 rfl))) (by refine ⟨?_,?_⟩ <;> omega)))))) (fun h4 _=>have hD0_6:Qte words=Lp.done v15:=Qj hI0 (condF h4 rfl); (fun hF:((⟨w13_,0,[]⟩:form),false)=(F86 words)=>ai (congrArg (fun r:form×Bool=>(.string r.1.word:Value)) hF) (ai (congrArg (fun r:form×Bool=>(.int .i64 r.1.key:Value)) hF) (ai (congrArg (fun r:form×Bool=>(.bool r.2:Value)) hF) trivial))) (condF h1 (finD hD0_6 rfl)))) (i0.1-1) i0.2 (un86_0 words i0 hi0)))))) (by kernel_rfl)
theorem Qff {α ρ τ:Type} [Inhabited α] (xs:List α) (p:α→Bool) (g:α→ρ) (st:Int→Lp Int ρ) (f:ρ→τ) (k:Int→τ) (y:τ) (hk:∀ i,k i=y)
  (h1:∀ i:Nat,i<xs.length→st (i:Int)=bif p (xs.getD i default) then .ret (g (xs.getD i default)) else .next ((i+1:Nat):Int)) (h2:st (xs.length:Int)=.done (xs.length:Int)) :
  ∀ (m i:Nat),i+m=xs.length→∀ fuel,m<fuel→(runL st fuel (i:Int)).fin f k=match (xs.drop i).find? p with | some a=>f (g a) | none=>y
 | m,i,_,0,hf=>absurd hf (Nat.not_lt_zero _)
 | 0,i,h,fuel+1,hf=>by
  have e:i=xs.length:=by omega
  subst e
  rw [Ky _ h2,List.drop_of_length_le (Nat.le_refl _)]
  exact hk _
 | m+1,i,h,fuel+1,hf=>by
  have hst:=h1 i (by omega)
  have hd:xs.drop i=xs.getD i default :: xs.drop (i+1):=by
   rw [List.drop_eq_getElem_cons (show i<xs.length by omega),List.getD_eq_getElem?_getD,List.getElem?_eq_getElem (show i<xs.length by omega)]; rfl
  rw [hd,List.find?_cons]
  cases hp:p (xs.getD i default) with
  | true=>rw [hp,cond_true] at hst; rw [Zz _ hst]; rfl
  | false =>
   rw [hp,cond_false] at hst
   rw [Yh _ hst,Qff xs p g st f k y hk h1 h2 m (i+1) (by omega) fuel (by omega)]
def chk:List (ByteArray→Bool)→Nat→List ByteArray→Bool
 | [],_,_=>true
 | c :: cs,i,w=>c (w.getD i default)&&chk cs (i+1) w
theorem Qka (cs:List (ByteArray→Bool)) (w:List ByteArray):∀ (m i:Nat),i+m=cs.length→anyF (fun k=>!(cs.getD k default) (w.getD (k+1) default)) i m=!chk (cs.drop i) (i+1) w
 | 0,i,h=>by rw [List.drop_of_length_le (by omega)]; rfl
 | m+1,i,h=>by
  have hd:cs.drop i=cs.getD i default :: cs.drop (i+1):=by
   rw [List.drop_eq_getElem_cons (show i<cs.length by omega),List.getD_eq_getElem?_getD,List.getElem?_eq_getElem (show i<cs.length by omega)]; rfl
  rw [hd]
  simp only [anyF,chk,Bool.not_and]
  rw [Qka cs w m (i+1) (by omega)]
theorem Wv (f:form) (w:List ByteArray):F98 f w=(decide (w.length=f.checks.length+1)&&chk f.checks 1 w):=by
 unfold F98
 by_cases h:w.length=f.checks.length+1
 ·have h1:((w.length:Int) != ((f.checks.length:Int)+1))=false:=by
   rw [bne_eq_false_iff_eq]; omega
  rw [h1,cond_false,decide_eq_true h,Bool.true_and]
  have:=Zd (Bj f w) f.checks.length (fun k=>!(f.checks.getD k default) (w.getD (k+1) default)) false (fun r=>r) true (fun i hi=>by
   simp only [Bj,decide_eq_true (show (i:Int)<(f.checks.length:Int) by omega),cond_true,Int.toNat_natCast]
   rw [show ((i:Int)+1).toNat=i+1 by omega]
   cases (!(f.checks.getD i default) (w.getD (i+1) default)) <;> rfl) (by
   simp only [Bj,decide_eq_false (show ¬ (f.checks.length:Int)<(f.checks.length:Int) by omega),cond_false])
  have h2:=this f.checks.length 0 (by omega) (Int.toNat ((f.checks.length:Int)-0)+1) (by omega)
  rw [Qka f.checks w f.checks.length 0 (by omega),List.drop_zero] at h2
  refine h2.trans ?_
  cases chk f.checks (0+1) w <;> rfl
 ·have h1:((w.length:Int) != ((f.checks.length:Int)+1))=true:=by
   rw [bne_iff_ne]; omega
  rw [h1,cond_true,decide_eq_false h,Bool.false_and]
theorem Ng (w:List ByteArray) (hw:w.length≠0):F86 w=match (F97 (w.getD 0 default)).find? (fun f=>F98 f w) with | some f=>(f,true) | none=>((⟨(⟨#[]⟩:ByteArray),0,[]⟩:form),false):=by
 unfold F86
 have h1:((w.length:Int)==0)=false:=by rw [beq_eq_false_iff_ne]; omega
 rw [h1,cond_false]
 have h0:w.getD (Int.toNat 0) default=w.getD 0 default:=rfl
 simp only [h0]
 generalize hx:F97 (w.getD 0 default)=xs
 have:=Qff xs (fun f=>F98 f w) (fun f=>(f,true)) (Xu w) (fun r=>r) (fun _=>((⟨(⟨#[]⟩:ByteArray),0,[]⟩:form),false)) _ (fun _=>rfl) (fun i hi=>by
  simp only [Xu,h0,hx,decide_eq_true (show (i:Int)<(xs.length:Int) by omega),cond_true,Int.toNat_natCast]
  cases F98 (xs.getD i default) w <;> rfl) (by
  simp only [Xu,h0,hx,decide_eq_false (show ¬ (xs.length:Int)<(xs.length:Int) by omega),cond_false]) xs.length 0 (by omega) (Int.toNat ((xs.length:Int)-0)+1) (by omega)
 rw [List.drop_zero] at this
 refine Eq.trans this ?_
 cases xs.find? (fun f=>F98 f w) <;> rfl
theorem Km (l:List UInt8) (x:ByteArray) (h:x.data.toList=l):F97 x=all97.filter (fun z=>z.word.data.toList==l):=by
 unfold F97
 congr 1
 funext z
 rw [Ud,Ud,h]
def keyN (l:List UInt8):Int :=
 if l=[104,111,115,116] then 1 else if l=[117,115,101,114] then 2 else if l=[112,111,114,116] then 2 else if l=[114,117,108,101] then 3 else if l=[114,111,117,116,101] then 3 else if l=[112,101,101,114] then 2 else if l=[110,97,116] then 1 else 3
theorem Wg (x a:ByteArray):F134 x [a]=(x.toList==a.toList):=by
 unfold F134
 rw [Hl,List.any_cons,List.any_nil,Bool.or_false]
theorem Kf (x a b:ByteArray):F134 x [a,b]=bif (x.toList==a.toList) then true else (x.toList==b.toList):=by
 unfold F134
 rw [Hl,List.any_cons,List.any_cons,List.any_nil,Bool.or_false]
 cases (x.toList==a.toList) <;> rfl
theorem We (x:ByteArray) (lo hi:Int):F132 x lo hi=decide (lo≤F56 x∧F56 x≤hi):=by
 unfold F132
 rw [Pi]
theorem Wd (w:List ByteArray) (n:Nat):((w.length:Int)==(n:Int))=decide (w.length=n):=by
 by_cases h:w.length=n
 ·rw [decide_eq_true h,beq_iff_eq]; omega
 ·rw [decide_eq_false h,beq_eq_false_iff_ne]; omega
theorem Je (w:List ByteArray) (f:form) (hw:w.length≠0) (h:F97 (w.getD 0 default)=[f]):(F86 w).2=F98 f w∧((F86 w).2=true→(F86 w).1.key=f.key):=by
 rw [Ng w hw,h,List.find?_cons,List.find?_nil]
 cases F98 f w <;> exact ⟨rfl,fun h=>by first | rfl | cases h⟩
theorem Qve (w:List ByteArray) (f g:form) (hw:w.length≠0) (h:F97 (w.getD 0 default)=[f,g]) (hk:f.key=g.key):(F86 w).2=(F98 f w || F98 g w)∧((F86 w).2=true→(F86 w).1.key=f.key):=by
 rw [Ng w hw,h,List.find?_cons,List.find?_cons,List.find?_nil]
 cases F98 f w <;> cases F98 g w <;> exact ⟨rfl,fun h=>by first | rfl | exact hk.symm | cases h⟩
theorem Qsk (w:List ByteArray) (hw:w.length≠0) (h:F97 (w.getD 0 default)=[]):(F86 w).2=false:=by
 rw [Ng w hw,h]; rfl
theorem blit (x:ByteArray) (a:Array UInt8):(x.toList==(⟨a⟩:ByteArray).toList)=(x.data.toList==a.toList):=by rw [Ud,Ud]
theorem hd00:(([104,111,115,116]:List UInt8)==([104,111,115,116]:List UInt8))=true:=by decide
theorem hd10:(([117,115,101,114]:List UInt8)==([104,111,115,116]:List UInt8))=false:=by decide
theorem hd11:(([117,115,101,114]:List UInt8)==([117,115,101,114]:List UInt8))=true:=by decide
theorem hd20:(([112,111,114,116]:List UInt8)==([104,111,115,116]:List UInt8))=false:=by decide
theorem hd21:(([112,111,114,116]:List UInt8)==([117,115,101,114]:List UInt8))=false:=by decide
theorem hd22:(([112,111,114,116]:List UInt8)==([112,111,114,116]:List UInt8))=true:=by decide
theorem hd30:(([114,117,108,101]:List UInt8)==([104,111,115,116]:List UInt8))=false:=by decide
theorem hd31:(([114,117,108,101]:List UInt8)==([117,115,101,114]:List UInt8))=false:=by decide
theorem hd32:(([114,117,108,101]:List UInt8)==([112,111,114,116]:List UInt8))=false:=by decide
theorem hd33:(([114,117,108,101]:List UInt8)==([114,117,108,101]:List UInt8))=true:=by decide
theorem hd40:(([114,111,117,116,101]:List UInt8)==([104,111,115,116]:List UInt8))=false:=by decide
theorem hd41:(([114,111,117,116,101]:List UInt8)==([117,115,101,114]:List UInt8))=false:=by decide
theorem hd42:(([114,111,117,116,101]:List UInt8)==([112,111,114,116]:List UInt8))=false:=by decide
theorem hd43:(([114,111,117,116,101]:List UInt8)==([114,117,108,101]:List UInt8))=false:=by decide
theorem hd44:(([114,111,117,116,101]:List UInt8)==([114,111,117,116,101]:List UInt8))=true:=by decide
theorem hd50:(([112,101,101,114]:List UInt8)==([104,111,115,116]:List UInt8))=false:=by decide
theorem hd51:(([112,101,101,114]:List UInt8)==([117,115,101,114]:List UInt8))=false:=by decide
theorem hd52:(([112,101,101,114]:List UInt8)==([112,111,114,116]:List UInt8))=false:=by decide
theorem hd53:(([112,101,101,114]:List UInt8)==([114,117,108,101]:List UInt8))=false:=by decide
theorem hd54:(([112,101,101,114]:List UInt8)==([114,111,117,116,101]:List UInt8))=false:=by decide
theorem hd55:(([112,101,101,114]:List UInt8)==([112,101,101,114]:List UInt8))=true:=by decide
theorem hd60:(([110,97,116]:List UInt8)==([104,111,115,116]:List UInt8))=false:=by decide
theorem hd61:(([110,97,116]:List UInt8)==([117,115,101,114]:List UInt8))=false:=by decide
theorem hd62:(([110,97,116]:List UInt8)==([112,111,114,116]:List UInt8))=false:=by decide
theorem hd63:(([110,97,116]:List UInt8)==([114,117,108,101]:List UInt8))=false:=by decide
theorem hd64:(([110,97,116]:List UInt8)==([114,111,117,116,101]:List UInt8))=false:=by decide
theorem hd65:(([110,97,116]:List UInt8)==([112,101,101,114]:List UInt8))=false:=by decide
theorem hd66:(([110,97,116]:List UInt8)==([110,97,116]:List UInt8))=true:=by decide
theorem hd70:(([100,111,111,114]:List UInt8)==([104,111,115,116]:List UInt8))=false:=by decide
theorem hd71:(([100,111,111,114]:List UInt8)==([117,115,101,114]:List UInt8))=false:=by decide
theorem hd72:(([100,111,111,114]:List UInt8)==([112,111,114,116]:List UInt8))=false:=by decide
theorem hd73:(([100,111,111,114]:List UInt8)==([114,117,108,101]:List UInt8))=false:=by decide
theorem hd74:(([100,111,111,114]:List UInt8)==([114,111,117,116,101]:List UInt8))=false:=by decide
theorem hd75:(([100,111,111,114]:List UInt8)==([112,101,101,114]:List UInt8))=false:=by decide
theorem hd76:(([100,111,111,114]:List UInt8)==([110,97,116]:List UInt8))=false:=by decide
theorem hd77:(([100,111,111,114]:List UInt8)==([100,111,111,114]:List UInt8))=true:=by decide
theorem cb1 (a b:Bool):(bif a then b else false)=(a&&b):=by cases a <;> rfl
theorem cb2 (a b:Bool):(bif a then true else b)=(a || b):=by cases a <;> rfl
theorem Qfk (w:List ByteArray):(F86 w).2=F127 w∧((F86 w).2=true→(F86 w).1.key=keyN (w.getD 0 default).data.toList):=by
 by_cases hw:w.length=0
 ·obtain rfl:=List.eq_nil_of_length_eq_zero hw
  exact ⟨rfl,fun h=>by cases h⟩
 have h0:((w.length:Int)==0)=false:=by rw [beq_eq_false_iff_ne]; omega
 have t0:∀ k:Nat,w.getD (k:Int).toNat default=w.getD k default:=fun _=>rfl
 have e0:w.getD (Int.toNat 0) default=w.getD 0 default:=rfl
 have e1:w.getD (Int.toNat 1) default=w.getD 1 default:=rfl
 have e2:w.getD (Int.toNat 2) default=w.getD 2 default:=rfl
 have e3:w.getD (Int.toNat 3) default=w.getD 3 default:=rfl
 have e4:w.getD (Int.toNat 4) default=w.getD 4 default:=rfl
 have e5:w.getD (Int.toNat 5) default=w.getD 5 default:=rfl
 have e6:w.getD (Int.toNat 6) default=w.getD 6 default:=rfl
 have n2:=Wd w 2
 have n3:=Wd w 3
 have n4:=Wd w 4
 have n5:=Wd w 5
 have n7:=Wd w 7
 simp only [Int.cast_ofNat_Int] at n2 n3 n4 n5 n7
 have hb:∀ l:List UInt8,(w.getD 0 default).data.toList=l→(w.getD 0 default).toList=l:=fun l h=>by rw [Ud,h]
 have hlit:∀ l:List UInt8,(⟨l.toArray⟩:ByteArray).toList=l:=fun l=>by rw [Ud]
 unfold F127
 simp only [h0,cond_false,e0,e1,e2,e3,e4,e5,e6,n2,n3,n4,n5,n7]
 rcases Classical.em ((w.getD 0 default).data.toList=[104,111,115,116]) with h | hn0
 ·have hF:=(Km _ _ h).trans (show _=[all97.getD 0 default] from rfl)
  have f0:F98 (all97.getD 0 default) w=(decide (w.length=2)&&(F114 (w.getD 1 default)&&true)):=Wv _ _
  obtain ⟨k1,k2⟩:=Je w _ hw hF
  refine ⟨?_,fun hh=>(k2 hh).trans (by rw [h]; rfl)⟩
  rw [k1,f0]
  simp only [blit,h,hd00,cond_true,cond_false,Kh,Yc,Ye,Yu,We,Wg,Kf,cb1,cb2,Bool.and_true,Bool.and_assoc]
 rcases Classical.em ((w.getD 0 default).data.toList=[117,115,101,114]) with h | hn1
 ·have hF:=(Km _ _ h).trans (show _=[all97.getD 1 default] from rfl)
  have f0:F98 (all97.getD 1 default) w=(decide (w.length=3)&&(F114 (w.getD 1 default)&&(F115 (w.getD 2 default)&&true))):=Wv _ _
  obtain ⟨k1,k2⟩:=Je w _ hw hF
  refine ⟨?_,fun hh=>(k2 hh).trans (by rw [h]; rfl)⟩
  rw [k1,f0]
  simp only [blit,h,hd10,hd11,cond_true,cond_false,Kh,Yc,Ye,Yu,We,Wg,Kf,cb1,cb2,Bool.and_true,Bool.and_assoc]
 rcases Classical.em ((w.getD 0 default).data.toList=[112,111,114,116]) with h | hn2
 ·have hF:=(Km _ _ h).trans (show _=[all97.getD 2 default,all97.getD 3 default] from rfl)
  have f0:F98 (all97.getD 2 default) w=(decide (w.length=3)&&(F132 (w.getD 1 default) 0 7&&(F116 (w.getD 2 default)&&true))):=Wv _ _
  have f1:F98 (all97.getD 3 default) w=(decide (w.length=5)&&(F132 (w.getD 1 default) 0 7&&(F116 (w.getD 2 default)&&(F134 (w.getD 3 default) [(⟨#[105,110]⟩:ByteArray)]&&(F114 (w.getD 4 default)&&true))))):=Wv _ _
  obtain ⟨k1,k2⟩:=Qve w _ _ hw hF rfl
  refine ⟨?_,fun hh=>(k2 hh).trans (by rw [h]; rfl)⟩
  rw [k1,f0,f1]
  simp only [blit,h,hd20,hd21,hd22,cond_true,cond_false,Kh,Yc,Ye,Yu,We,Wg,Kf,cb1,cb2,Bool.and_true,Bool.and_assoc]
  generalize decide (w.length=3)=a,decide (w.length=5)=b,decide (0≤F56 (w.getD 1 default)∧F56 (w.getD 1 default)≤7)=c,F151 (w.getD 2 default)=d,((w.getD 3 default).data.toList==[105,110])=e,F149 (w.getD 4 default)=g
  cases a <;> cases b <;> cases c <;> cases d <;> cases e <;> cases g <;> rfl
 rcases Classical.em ((w.getD 0 default).data.toList=[114,117,108,101]) with h | hn3
 ·have hF:=(Km _ _ h).trans (show _=[all97.getD 4 default] from rfl)
  have f0:F98 (all97.getD 4 default) w=(decide (w.length=7)&&(F114 (w.getD 1 default)&&(F132 (w.getD 2 default) 0 99&&(F134 (w.getD 3 default) [(⟨#[112,101,114,109,105,116]⟩:ByteArray),(⟨#[100,101,110,121]⟩:ByteArray)]&&(F116 (w.getD 4 default)&&(F116 (w.getD 5 default)&&(F132 (w.getD 6 default) 0 7&&true))))))):=Wv _ _
  obtain ⟨k1,k2⟩:=Je w _ hw hF
  refine ⟨?_,fun hh=>(k2 hh).trans (by rw [h]; rfl)⟩
  rw [k1,f0]
  simp only [blit,h,hd30,hd31,hd32,hd33,cond_true,cond_false,Kh,Yc,Ye,Yu,We,Wg,Kf,cb1,cb2,Bool.and_true,Bool.and_assoc]
 rcases Classical.em ((w.getD 0 default).data.toList=[114,111,117,116,101]) with h | hn4
 ·have hF:=(Km _ _ h).trans (show _=[all97.getD 5 default] from rfl)
  have f0:F98 (all97.getD 5 default) w=(decide (w.length=3)&&(F116 (w.getD 1 default)&&(F118 (w.getD 2 default)&&true))):=Wv _ _
  obtain ⟨k1,k2⟩:=Je w _ hw hF
  refine ⟨?_,fun hh=>(k2 hh).trans (by rw [h]; rfl)⟩
  rw [k1,f0]
  simp only [blit,h,hd40,hd41,hd42,hd43,hd44,cond_true,cond_false,Kh,Yc,Ye,Yu,We,Wg,Kf,cb1,cb2,Bool.and_true,Bool.and_assoc]
 rcases Classical.em ((w.getD 0 default).data.toList=[112,101,101,114]) with h | hn5
 ·have hF:=(Km _ _ h).trans (show _=[all97.getD 6 default] from rfl)
  have f0:F98 (all97.getD 6 default) w=(decide (w.length=4)&&(F118 (w.getD 1 default)&&(F132 (w.getD 2 default) 1 9&&(F132 (w.getD 3 default) 1 999999&&true)))):=Wv _ _
  obtain ⟨k1,k2⟩:=Je w _ hw hF
  refine ⟨?_,fun hh=>(k2 hh).trans (by rw [h]; rfl)⟩
  rw [k1,f0]
  simp only [blit,h,hd50,hd51,hd52,hd53,hd54,hd55,cond_true,cond_false,Kh,Yc,Ye,Yu,We,Wg,Kf,cb1,cb2,Bool.and_true,Bool.and_assoc]
 rcases Classical.em ((w.getD 0 default).data.toList=[110,97,116]) with h | hn6
 ·have hF:=(Km _ _ h).trans (show _=[all97.getD 7 default] from rfl)
  have f0:F98 (all97.getD 7 default) w=(decide (w.length=5)&&(F116 (w.getD 1 default)&&(F118 (w.getD 2 default)&&(F132 (w.getD 3 default) 1 65535&&(F132 (w.getD 4 default) 1 65535&&true))))):=Wv _ _
  obtain ⟨k1,k2⟩:=Je w _ hw hF
  refine ⟨?_,fun hh=>(k2 hh).trans (by rw [h]; rfl)⟩
  rw [k1,f0]
  simp only [blit,h,hd60,hd61,hd62,hd63,hd64,hd65,hd66,cond_true,cond_false,Kh,Yc,Ye,Yu,We,Wg,Kf,cb1,cb2,Bool.and_true,Bool.and_assoc]
 rcases Classical.em ((w.getD 0 default).data.toList=[100,111,111,114]) with h | hn7
 ·have hF:=(Km _ _ h).trans (show _=[all97.getD 8 default] from rfl)
  have f0:F98 (all97.getD 8 default) w=(decide (w.length=5)&&(F132 (w.getD 1 default) 1 7&&(F132 (w.getD 2 default) 1 65535&&(F118 (w.getD 3 default)&&(F132 (w.getD 4 default) 1 65535&&true))))):=Wv _ _
  obtain ⟨k1,k2⟩:=Je w _ hw hF
  refine ⟨?_,fun hh=>(k2 hh).trans (by rw [h]; rfl)⟩
  rw [k1,f0]
  simp only [blit,h,hd70,hd71,hd72,hd73,hd74,hd75,hd76,hd77,cond_true,cond_false,Kh,Yc,Ye,Yu,We,Wg,Kf,cb1,cb2,Bool.and_true,Bool.and_assoc]
 have hF:F97 (w.getD 0 default)=[]:=by
  rw [Km _ _ rfl,List.filter_eq_nil_iff]
  intro z hz
  simp only [all97,List.mem_cons,List.not_mem_nil,or_false] at hz
  rcases hz with rfl | rfl | rfl | rfl | rfl | rfl | rfl | rfl | rfl
  ·exact fun e=>hn0 (eq_of_beq e).symm
  ·exact fun e=>hn1 (eq_of_beq e).symm
  ·exact fun e=>hn2 (eq_of_beq e).symm
  ·exact fun e=>hn2 (eq_of_beq e).symm
  ·exact fun e=>hn3 (eq_of_beq e).symm
  ·exact fun e=>hn4 (eq_of_beq e).symm
  ·exact fun e=>hn5 (eq_of_beq e).symm
  ·exact fun e=>hn6 (eq_of_beq e).symm
  ·exact fun e=>hn7 (eq_of_beq e).symm
 rw [Qsk w hw hF]
 refine ⟨?_,fun h=>by cases h⟩
 simp only [blit,beq_eq_false_iff_ne.2 hn0,beq_eq_false_iff_ne.2 hn1,beq_eq_false_iff_ne.2 hn2,beq_eq_false_iff_ne.2 hn3,beq_eq_false_iff_ne.2 hn4,beq_eq_false_iff_ne.2 hn5,beq_eq_false_iff_ne.2 hn6,beq_eq_false_iff_ne.2 hn7,cond_false]
theorem Qkd (l:List UInt8) (k:Nat):((Jp l).1.getD k default).size≤24:=by
 unfold Jp fitW
 rw [List.getD_eq_getElem?_getD]
 cases h:((l.all okB)&&(decide ((Uh l).length≤8)&&(Uh l).all fun w=>decide (w.length≤24))) with
 | false=>rw [cond_false]; exact Nat.zero_le _
 | true =>
  rw [cond_true]
  simp only [Bool.and_eq_true] at h
  have h2:=List.all_eq_true.1 h.2.2
  show ((((Uh l).map mkB)[k]?).getD default).size≤24
  rw [List.getElem?_map]
  cases hk:(Uh l)[k]? with
  | none=>exact Nat.zero_le _
  | some w=>exact of_decide_eq_true (h2 w (List.mem_of_getElem? hk))
theorem Qkx (line:ByteArray) (k:Nat):((F95 line).1.getD k default).size≤24:=by
 rw [Hs]; exact Qkd _ k
theorem Qjd (line:ByteArray):∀ k:Nat,((F95 line).1.getD k default).size≤1048576:=fun k=>Nat.le_trans (Qkx line k) (by decide)
theorem Gw (line:ByteArray):(F48 line).1.length≤8:=by rw [← Hf]; exact Qfc line
theorem Qd (line:ByteArray):∀ k:Nat,((F48 line).1.getD k default).size≤1048576:=by rw [← Hf]; exact Qjd line
theorem Lh (sep:List UInt8) (m:Nat):∀ xs:List (List UInt8),(∀ x∈xs,x.length≤m)→(Lib.joinTail sep xs).length≤xs.length*(m+sep.length)
 | [],_=>by simp [Lib.joinTail]
 | x :: xs,h=>by
  have h1:=Lh sep m xs fun y hy=>h y (List.mem_cons_of_mem _ hy)
  have h2:=h x List.mem_cons_self
  have e:Lib.joinTail sep (x :: xs)=(sep++x)++Lib.joinTail sep xs:=rfl
  rw [e]
  simp only [List.length_append,List.length_cons,Nat.succ_mul]
  omega
theorem Udz (ws:List ByteArray) (sep:ByteArray) (m:Nat) (h:∀ k:Nat,(ws.getD k default).size≤m):(Zc ws sep).size≤ws.length*(m+sep.size):=by
 have hx:∀ x∈ws.map (·.data.toList),x.length≤m:=by
  intro x hx
  obtain ⟨w,hw,rfl⟩:=List.mem_map.1 hx
  obtain ⟨k,hk⟩:=List.mem_iff_getElem?.1 hw
  have:=h k
  rw [List.getD_eq_getElem?_getD,hk] at this
  exact this
 have e:(Zc ws sep).size=(Lib.join (ws.map (·.data.toList)) sep.data.toList).length:=by simp [Zc,ByteArray.size]
 have es:sep.data.toList.length=sep.size:=rfl
 rw [e]
 cases ws with
 | nil=>simp [Lib.join]
 | cons a t =>
  rw [List.map_cons,Lib.join_cons,List.length_append,List.length_cons,Nat.succ_mul]
  have h1:=Lh sep.data.toList m (t.map (·.data.toList)) fun y hy=>hx y (by rw [List.map_cons]; exact List.mem_cons_of_mem _ hy)
  have h2:=hx a.data.toList (by rw [List.map_cons]; exact List.mem_cons_self)
  rw [List.length_map,es] at h1
  omega
theorem Hp (ws:List ByteArray) (sep:ByteArray) (h:∀ k:Nat,(ws.getD k default).size≤1048576) (hl:ws.length≤8) (hs:sep.size≤1):(Zc ws sep).size≤140737488355328:=by
 have h1:=Udz ws sep 1048576 h
 have h2:=Nat.mul_le_mul hl (show 1048576+sep.size≤1048577 by omega)
 omega
def F87 (elems:List ByteArray) (sep:ByteArray):ByteArray :=
 Zc elems sep
def S87 (elems:List ByteArray) (sep:ByteArray):Spec:=⟨[.r (.c (.l 1 eStr elems)),.r (.c (.v (.string sep)))],.v (.string (F87 elems sep)),elems.length≤140737488355328∧(Zc elems sep).size≤140737488355328⟩
theorem ok87 (elems:List ByteArray) (sep:ByteArray):(S87 elems sep).ok Tryz.prog 87 false :=
 Udy Udk Qvo elems sep
theorem kc95 (line:ByteArray) {K_:Prop} (p0_:line.size≤1048576) (k_:((F95 line).1.length≤8)→(∀ k:Nat,((F95 line).1.getD k default).size≤1048576)→K_):(line.size≤1048576)∧(Imp (.v (.string line)) (.v (.string line)))∧K_:=⟨p0_,Imp.refl _,k_ (Qfc line) (Qjd line)⟩
abbrev kh95 (line:ByteArray):Hint false Tryz.prog:=.call 95 (S95 line) (ok95 line) none
theorem kc86 (words:List ByteArray) {K_:Prop} (p0_:∀ k:Nat,(words.getD k default).size≤1048576) (k_:K_):(∀ k:Nat,(words.getD k default).size≤1048576)∧(Imp (.l 1 eStr words) (.l 1 eStr words))∧K_:=⟨p0_,Imp.refl _,k_⟩
abbrev kh86 (words:List ByteArray):Hint false Tryz.prog:=.call 86 (S86 words) (ok86 words) none
theorem kc87 (elems:List ByteArray) (sep:ByteArray) {K_:Prop} (p0_:elems.length≤140737488355328) (p1_:(Zc elems sep).size≤140737488355328) (k_:K_):(elems.length≤140737488355328∧(Zc elems sep).size≤140737488355328)∧(Imp (.l 1 eStr elems) (.l 1 eStr elems))∧(Imp (.v (.string sep)) (.v (.string sep)))∧K_:=⟨⟨p0_,p1_⟩,Imp.refl _,Imp.refl _,k_⟩
abbrev kh87 (elems:List ByteArray) (sep:ByteArray):Hint false Tryz.prog:=.call 87 (S87 elems sep) (ok87 elems sep) none
def F84 (line:ByteArray):ByteArray×Bool :=
 bif (!(F95 line).2) then ((⟨#[]⟩:ByteArray),false) else (bif (!(F86 (F95 line).1).2) then ((⟨#[]⟩:ByteArray),false) else ((F87 (F95 line).1 ⟨#[32]⟩),true))
theorem fi84 (line:ByteArray) (r:ByteArray×Bool) (hF:r=(F84 line)):((.string r.1:Value)=.string (F84 line).1)∧((.bool r.2:Value)=.bool (F84 line).2)∧True:=by cases hF; exact ⟨rfl,rfl,trivial⟩
def S84 (line:ByteArray):Spec:=⟨[.r (.c (.v (.string line)))],.tu [.v (.string (F84 line).1),.v (.bool (F84 line).2)],line.size≤1048576⟩
theorem ok84 (line:ByteArray):(S84 line).ok Tryz.prog 84 false :=
 Qi mixed (fn:=Tryz.f84) (ct:=.seq .no (.seq (.reg [(1,kh95 line)]) (.seq (.seq .no (.cond (.seq .no .no) .no)) (.seq (.seq (.reg [(1,kh86 (F95 line).1)]) (.seq .no (.cond (.seq .no .no) .no))) (.seq (.reg [(1,kh87 (F95 line).1 w15_)]) .no))))) Tryz.func84 (fun (hpre0:line.size≤1048576)=>kc95 line (by omega) (fun gv1 gv2=>ifb (!(F95 line).2) (fun h3=>have _:=(Yv h3); fi84 line (w13_,false) (condT h3 rfl)) (fun h3=>have _:=(Ul h3); kc86 (F95 line).1 (by first | assumption | exact gv2 | (intros; exact trivial) | (intros; exact Nat.zero_le _)) (ifb (!(F86 (F95 line).1).2) (fun h4=>have _:=(Yv h4); fi84 line (w13_,false) (condF h3 (condT h4 rfl))) (fun h4=>have _:=(Ul h4); kc87 (F95 line).1 w15_ (by first | omega | exact Hp _ _ (by assumption) (by omega) (by decide)) (by first | omega | exact Hp _ _ (by assumption) (by omega) (by decide)) (fi84 line ((F87 (F95 line).1 w15_),true) (condF h3 (condF h4 rfl)))))))) (by kernel_rfl)
theorem kc48 (line:ByteArray) {K_:Prop} (p0_:line.size≤1048576) (k_:((F48 line).1.length≤8)→(∀ k:Nat,((F48 line).1.getD k default).size≤1048576)→K_):(line.size≤1048576)∧(Imp (.v (.string line)) (.v (.string line)))∧K_:=⟨p0_,Imp.refl _,k_ (Gw line) (Qd line)⟩
abbrev kh48 (line:ByteArray):Hint true Tryz.prog:=.call 48 (S48 line) (ok48 line) none
theorem kg127 {K_:Prop} (c_ b_:Bool) (w1:List ByteArray) (p_:c_=b_→(∀ k:Nat,(w1.getD k default).size≤1048576)) (k_:K_):(c_=b_→(∀ k:Nat,(w1.getD k default).size≤1048576))∧(c_=b_→Imp (.l 1 eStr w1) (.l 1 eStr w1))∧K_:=⟨p_,fun _=>Imp.refl _,k_⟩
abbrev kh127 (w1:List ByteArray):Hint true Tryz.prog:=.call 127 (S127 w1) (ok127 w1) none
theorem kc128 (list:List ByteArray) (with':ByteArray) {K_:Prop} (p0_:list.length≤8) (p1_:∀ k:Nat,(list.getD k default).size≤1048576) (p2_:with'.size≤1) (k_:K_):(list.length≤8∧(∀ k:Nat,(list.getD k default).size≤1048576)∧with'.size≤1)∧(Imp (.l 1 eStr list) (.l 1 eStr list))∧(Imp (.v (.string with')) (.v (.string with')))∧K_:=⟨⟨p0_,p1_,p2_⟩,Imp.refl _,Imp.refl _,k_⟩
abbrev kh128 (list:List ByteArray) (with':ByteArray):Hint true Tryz.prog:=.call 128 (S128 list with') (ok128 list with') none
def F106 (line:ByteArray):ByteArray×Bool :=
 bif (bif (!(F48 line).2) then true else (!(F127 (F48 line).1))) then ((⟨#[]⟩:ByteArray),false) else ((F128 (F48 line).1 ⟨#[32]⟩),true)
theorem fi106 (line:ByteArray) (r:ByteArray×Bool) (hF:r=(F106 line)):((.string r.1:Value)=.string (F106 line).1)∧((.bool r.2:Value)=.bool (F106 line).2)∧True:=by cases hF; exact ⟨rfl,rfl,trivial⟩
def S106 (line:ByteArray):Spec:=⟨[.r (.c (.v (.string line)))],.tu [.v (.string (F106 line).1),.v (.bool (F106 line).2)],line.size≤1048576⟩
theorem ok106 (line:ByteArray):(S106 line).ok Tryz.prog 106 :=
 Qi mixed (fn:=Tryz.f106) (ct:=.seq .no (.seq (.reg [(1,kh48 line)]) (.seq (.seq (.reg [(4,kh127 (F48 line).1)]) (.cond (.seq .no .no) .no)) (.seq (.reg [(1,kh128 (F48 line).1 w15_)]) .no)))) Tryz.func106 (fun (hpre0:line.size≤1048576)=>kc48 line (by omega) (fun gv1 gv2=>kg127 (!(F48 line).2) false (F48 line).1 (fun k3=>have _:=(Ul k3); (by first | assumption | exact gv2 | (intros; exact trivial) | (intros; exact Nat.zero_le _))) (ifb (bif (!(F48 line).2) then true else (!(F127 (F48 line).1))) (fun h4=>fi106 line (w13_,false) (condT h4 rfl)) (fun h4=>have _:=(Ul (orF1 h4)); kc128 (F48 line).1 w15_ (by first | assumption | omega | decide) (by first | assumption | omega | decide) (by first | assumption | omega | decide) (fi106 line ((F128 (F48 line).1 w15_),true) (condF h4 rfl)))))) (by kernel_rfl)
theorem Qrv (line:ByteArray):F84 line=F106 line:=by
 unfold F84 F106
 rw [Hf,(Qfk _).1,Ny]
 cases (F48 line).2 <;> cases F127 (F48 line).1 <;> rfl
def Qdt (w:List ByteArray):Prop:=(w.getD 0 default).data.toList=[104,111,115,116]∧w.length=2∧F149 (w.getD 1 default)=true
def Wr (w:List ByteArray):Prop:=(w.getD 0 default).data.toList=[117,115,101,114]∧w.length=3∧F149 (w.getD 1 default)=true∧F150 (w.getD 2 default)=true
def Jd (w:List ByteArray):Prop:=(w.getD 0 default).data.toList=[112,111,114,116]∧(w.length=3∨w.length=5∧(w.getD 3 default).data.toList=[105,110]∧F149 (w.getD 4 default)=true)∧0≤F56 (w.getD 1 default)∧F56 (w.getD 1 default)≤7∧F151 (w.getD 2 default)=true
def Wf (w:List ByteArray):Prop:=(w.getD 0 default).data.toList=[114,117,108,101]∧w.length=7∧F149 (w.getD 1 default)=true∧0≤F56 (w.getD 2 default)∧F56 (w.getD 2 default)≤99∧((w.getD 3 default).data.toList=[112,101,114,109,105,116]∨(w.getD 3 default).data.toList=[100,101,110,121])∧F151 (w.getD 4 default)=true∧F151 (w.getD 5 default)=true∧0≤F56 (w.getD 6 default)∧F56 (w.getD 6 default)≤7
def Jz (w:List ByteArray):Prop:=(w.getD 0 default).data.toList=[114,111,117,116,101]∧w.length=3∧F151 (w.getD 1 default)=true∧F53 (w.getD 2 default)≥0
def Ly (w:List ByteArray):Prop:=(w.getD 0 default).data.toList=[112,101,101,114]∧w.length=4∧F53 (w.getD 1 default)≥0∧1≤F56 (w.getD 2 default)∧F56 (w.getD 2 default)≤9∧1≤F56 (w.getD 3 default)∧F56 (w.getD 3 default)≤999999
def natP (w:List ByteArray):Prop:=(w.getD 0 default).data.toList=[110,97,116]∧w.length=5∧F151 (w.getD 1 default)=true∧F53 (w.getD 2 default)≥0∧1≤F56 (w.getD 3 default)∧F56 (w.getD 3 default)≤65535∧1≤F56 (w.getD 4 default)∧F56 (w.getD 4 default)≤65535
def Ui (w:List ByteArray):Prop:=(w.getD 0 default).data.toList=[100,111,111,114]∧w.length=5∧1≤F56 (w.getD 1 default)∧F56 (w.getD 1 default)≤7∧1≤F56 (w.getD 2 default)∧F56 (w.getD 2 default)≤65535∧F53 (w.getD 3 default)≥0∧1≤F56 (w.getD 4 default)∧F56 (w.getD 4 default)≤65535
def Ws (w:List ByteArray):Prop:=Qdt w∨Wr w∨Jd w∨Wf w∨Jz w∨Ly w∨natP w∨Ui w
theorem Qls (w:List ByteArray) (hF:F127 w=true):Ws w:=by
 have hw:w.length≠0:=fun h=>by
  obtain rfl:=List.eq_nil_of_length_eq_zero h
  exact Bool.false_ne_true hF
 have h0:((w.length:Int)==0)=false:=by rw [beq_eq_false_iff_ne]; omega
 have e0:w.getD (Int.toNat 0) default=w.getD 0 default:=rfl
 have e1:w.getD (Int.toNat 1) default=w.getD 1 default:=rfl
 have e2:w.getD (Int.toNat 2) default=w.getD 2 default:=rfl
 have e3:w.getD (Int.toNat 3) default=w.getD 3 default:=rfl
 have e4:w.getD (Int.toNat 4) default=w.getD 4 default:=rfl
 have e5:w.getD (Int.toNat 5) default=w.getD 5 default:=rfl
 have e6:w.getD (Int.toNat 6) default=w.getD 6 default:=rfl
 have n2:=Wd w 2
 have n3:=Wd w 3
 have n4:=Wd w 4
 have n5:=Wd w 5
 have n7:=Wd w 7
 simp only [Int.cast_ofNat_Int] at n2 n3 n4 n5 n7
 unfold F127 at hF
 simp only [h0,cond_false,e0,e1,e2,e3,e4,e5,e6,n2,n3,n4,n5,n7] at hF
 rcases Classical.em ((w.getD 0 default).data.toList=[104,111,115,116]) with h | hn0
 ·simp only [blit,h,hd00,cond_true,cond_false,cb1,cb2,Bool.and_eq_true,Bool.or_eq_true,decide_eq_true_eq,beq_iff_eq,and_assoc] at hF
  exact Or.inl ⟨h,hF⟩
 rcases Classical.em ((w.getD 0 default).data.toList=[117,115,101,114]) with h | hn1
 ·simp only [blit,h,hd10,hd11,cond_true,cond_false,cb1,cb2,Bool.and_eq_true,Bool.or_eq_true,decide_eq_true_eq,beq_iff_eq,and_assoc] at hF
  exact Or.inr (Or.inl ⟨h,hF⟩)
 rcases Classical.em ((w.getD 0 default).data.toList=[112,111,114,116]) with h | hn2
 ·simp only [blit,h,hd20,hd21,hd22,cond_true,cond_false,cb1,cb2,Bool.and_eq_true,Bool.or_eq_true,decide_eq_true_eq,beq_iff_eq,and_assoc] at hF
  exact Or.inr (Or.inr (Or.inl ⟨h,hF⟩))
 rcases Classical.em ((w.getD 0 default).data.toList=[114,117,108,101]) with h | hn3
 ·simp only [blit,h,hd30,hd31,hd32,hd33,cond_true,cond_false,cb1,cb2,Bool.and_eq_true,Bool.or_eq_true,decide_eq_true_eq,beq_iff_eq,and_assoc] at hF
  exact Or.inr (Or.inr (Or.inr (Or.inl ⟨h,hF⟩)))
 rcases Classical.em ((w.getD 0 default).data.toList=[114,111,117,116,101]) with h | hn4
 ·simp only [blit,h,hd40,hd41,hd42,hd43,hd44,cond_true,cond_false,cb1,cb2,Bool.and_eq_true,Bool.or_eq_true,decide_eq_true_eq,beq_iff_eq,and_assoc] at hF
  exact Or.inr (Or.inr (Or.inr (Or.inr (Or.inl ⟨h,hF⟩))))
 rcases Classical.em ((w.getD 0 default).data.toList=[112,101,101,114]) with h | hn5
 ·simp only [blit,h,hd50,hd51,hd52,hd53,hd54,hd55,cond_true,cond_false,cb1,cb2,Bool.and_eq_true,Bool.or_eq_true,decide_eq_true_eq,beq_iff_eq,and_assoc] at hF
  exact Or.inr (Or.inr (Or.inr (Or.inr (Or.inr (Or.inl ⟨h,hF⟩)))))
 rcases Classical.em ((w.getD 0 default).data.toList=[110,97,116]) with h | hn6
 ·simp only [blit,h,hd60,hd61,hd62,hd63,hd64,hd65,hd66,cond_true,cond_false,cb1,cb2,Bool.and_eq_true,Bool.or_eq_true,decide_eq_true_eq,beq_iff_eq,and_assoc] at hF
  exact Or.inr (Or.inr (Or.inr (Or.inr (Or.inr (Or.inr (Or.inl ⟨h,hF⟩))))))
 rcases Classical.em ((w.getD 0 default).data.toList=[100,111,111,114]) with h | hn7
 ·simp only [blit,h,hd70,hd71,hd72,hd73,hd74,hd75,hd76,hd77,cond_true,cond_false,cb1,cb2,Bool.and_eq_true,Bool.or_eq_true,decide_eq_true_eq,beq_iff_eq,and_assoc] at hF
  exact Or.inr (Or.inr (Or.inr (Or.inr (Or.inr (Or.inr (Or.inr (⟨h,hF⟩)))))))
 exfalso
 simp only [blit,beq_eq_false_iff_ne.2 hn0,beq_eq_false_iff_ne.2 hn1,beq_eq_false_iff_ne.2 hn2,beq_eq_false_iff_ne.2 hn3,beq_eq_false_iff_ne.2 hn4,beq_eq_false_iff_ne.2 hn5,beq_eq_false_iff_ne.2 hn6,beq_eq_false_iff_ne.2 hn7,cond_false] at hF
 exact Bool.false_ne_true hF
theorem Bq (w:List ByteArray) (h:Ws w):2≤w.length∧w.length≤7:=by
 unfold Ws Qdt Wr Jd Wf Jz Ly natP Ui at h
 omega
theorem Pd (w:List ByteArray) (h:Ws w):1≤keyN (w.getD 0 default).data.toList∧keyN (w.getD 0 default).data.toList≤3∧keyN (w.getD 0 default).data.toList≤(w.length:Int):=by
 rcases h with h | h | h | h | h | h | h | h
 ·have hk:keyN (w.getD 0 default).data.toList=1:=by rw [h.1]; decide
  unfold Qdt at h
  omega
 ·have hk:keyN (w.getD 0 default).data.toList=2:=by rw [h.1]; decide
  unfold Wr at h
  omega
 ·have hk:keyN (w.getD 0 default).data.toList=2:=by rw [h.1]; decide
  unfold Jd at h
  omega
 ·have hk:keyN (w.getD 0 default).data.toList=3:=by rw [h.1]; decide
  unfold Wf at h
  omega
 ·have hk:keyN (w.getD 0 default).data.toList=3:=by rw [h.1]; decide
  unfold Jz at h
  omega
 ·have hk:keyN (w.getD 0 default).data.toList=2:=by rw [h.1]; decide
  unfold Ly at h
  omega
 ·have hk:keyN (w.getD 0 default).data.toList=1:=by rw [h.1]; decide
  unfold natP at h
  omega
 ·have hk:keyN (w.getD 0 default).data.toList=3:=by rw [h.1]; decide
  unfold Ui at h
  omega
theorem Qdx (c:UInt8):∀ (l:List UInt8),∀ w∈Ua c l,c ∉ w
 | [],w,h=>by rw [Ua,List.mem_singleton] at h; rw [h]; exact List.not_mem_nil
 | b :: l,w,h=>by
  have ih:=Qdx c l
  rw [Ua] at h
  by_cases hb:b=c
  ·rw [if_pos hb] at h
   rcases List.mem_cons.1 h with rfl | h
   ·exact List.not_mem_nil
   ·exact ih w h
  ·rw [if_neg hb] at h
   have hbc:¬ c=b:=fun e=>hb e.symm
   cases hs:Ua c l with
   | nil =>
    rw [hs] at h
    rw [List.mem_singleton] at h; rw [h]
    intro hm; rcases List.mem_cons.1 hm with e | e
    ·exact hbc e
    ·cases e
   | cons p ps =>
    rw [hs] at h ih
    rcases List.mem_cons.1 h with rfl | h
    ·intro hm; rcases List.mem_cons.1 hm with e | e
     ·exact hbc e
     ·exact ih p List.mem_cons_self e
    ·exact ih w (List.mem_cons_of_mem _ h)
theorem Qbs (c:UInt8):∀ (ws:List (List UInt8)),ws≠[]→(∀ w∈ws,c ∉ w)→Ua c (Lib.join ws [c])=ws
 | [],h,_=>absurd rfl h
 | [x],_,h=>by rw [Lib.join_one,Yb (h x List.mem_cons_self)]
 | x :: y :: r,_,h=>by
  have ih:=Qbs c (y :: r) (by simp) fun w hw=>h w (List.mem_cons_of_mem _ hw)
  rw [Lib.join_cons]
  have e:Lib.joinTail [c] (y :: r)=c :: Lib.join (y :: r) [c]:=by rw [Lib.join_cons]; rfl
  rw [e,Yp _ (h x List.mem_cons_self),ih]
theorem Qov (line:ByteArray):∀ w∈(F48 line).1,(32:UInt8) ∉ w.data.toList∧w.data.toList≠[]∧w.size≤24:=by
 rw [Rg]
 unfold Jp fitW
 cases h:(((cut3 line (⟨#[35]⟩:ByteArray)).1.data.toList.all okB)&&(decide ((Uh (cut3 line (⟨#[35]⟩:ByteArray)).1.data.toList).length≤8)&&(Uh (cut3 line (⟨#[35]⟩:ByteArray)).1.data.toList).all fun w=>decide (w.length≤24))) with
 | false=>intro w hw; rw [cond_false] at hw; cases hw
 | true =>
  rw [cond_true]
  simp only [Bool.and_eq_true] at h
  intro w hw
  obtain ⟨l,hl,rfl⟩:=List.mem_map.1 hw
  have h1:=of_decide_eq_true (List.all_eq_true.1 h.2.2 l hl)
  have h2:=List.mem_filter.1 hl
  refine ⟨Qdx 32 _ l h2.1,?_,h1⟩
  intro e
  have e':l=[]:=e
  rw [e'] at h2
  exact Bool.false_ne_true h2.2
structure Qyk (line:ByteArray) (w:List ByteArray):Prop where
 words:F48 line=(w,true)
 form:Ws w
 joins:Zc w (⟨#[32]⟩:ByteArray)=line
 splits:Qy line (⟨#[32]⟩:ByteArray)=w
 no:∀ x∈w,(32:UInt8) ∉ x.data.toList∧x.data.toList≠[]∧x.size≤24
theorem Qkn (w:List ByteArray) (h0:w≠[]) (h:∀ x∈w,(32:UInt8) ∉ x.data.toList):Qy (Zc w (⟨#[32]⟩:ByteArray)) (⟨#[32]⟩:ByteArray)=w:=by
 rw [Nf]
 have e:(Zc w (⟨#[32]⟩:ByteArray)).data.toList=Lib.join (w.map (·.data.toList)) [32]:=rfl
 rw [e,Qbs 32 _ (by simpa using h0) (fun x hx=>by obtain ⟨y,hy,rfl⟩:=List.mem_map.1 hx; exact h y hy),List.map_map]
 exact (List.map_congr_left fun x _=>Qah x).trans (List.map_id _)
theorem Pn (line:ByteArray):F106 line=bif (F48 line).2&&F127 (F48 line).1 then (Zc (F48 line).1 (⟨#[32]⟩:ByteArray),true) else ((⟨#[]⟩:ByteArray),false):=by
 unfold F106
 rw [Ny]
 cases (F48 line).2 <;> cases F127 (F48 line).1 <;> rfl
theorem Qgd (a b:ByteArray):(a.toList==b.toList)=decide (a=b):=by
 rw [Ud,Ud]
 by_cases h:a=b
 ·rw [h,decide_eq_true rfl]; simp
 ·rw [decide_eq_false h,beq_eq_false_iff_ne]; exact fun e=>h (Vt e)
theorem Udm (line:ByteArray) (h:(F106 line).2=true∧(F106 line).1=line):Qyk line (F48 line).1:=by
 rw [Pn] at h
 cases hc:((F48 line).2&&F127 (F48 line).1) with
 | false=>rw [hc,cond_false] at h; exact absurd h.1 Bool.false_ne_true
 | true =>
  rw [hc,cond_true] at h
  simp only [Bool.and_eq_true] at hc
  have hf:=Qls _ hc.2
  have hn:=Qov line
  refine ⟨Prod.ext rfl hc.1,hf,h.2,?_,hn⟩
  have hne:(F48 line).1≠[]:=fun e=>by have:=(Bq _ hf).1; rw [e] at this; simp at this
  have:=Qkn _ hne fun x hx=>(hn x hx).1
  have e:Zc (F48 line).1 (⟨#[32]⟩:ByteArray)=line:=h.2
  rwa [e] at this
theorem kc84 (line:ByteArray) {K_:Prop} (p0_:line.size≤1048576) (k_:K_):(line.size≤1048576)∧(Imp (.v (.string line)) (.v (.string line)))∧K_:=⟨p0_,Imp.refl _,k_⟩
abbrev kh84 (line:ByteArray):Hint false Tryz.prog:=.call 84 (S84 line) (ok84 line) none
def F59 (line:ByteArray):Bool :=
 (bif (F84 line).2 then ((F84 line).1.toList==line.toList) else false)
def S59 (line:ByteArray):Spec:=⟨[.r (.c (.v (.string line)))],.v (.bool (F59 line)),line.size≤1048576⟩
theorem ok59 (line:ByteArray):(S59 line).ok Tryz.prog 59 false :=
 Qi mixed (fn:=Tryz.f59) (ct:=.seq .no (.seq (.reg [(1,kh84 line)]) (.seq .no .no))) Tryz.func59 (fun (hpre0:line.size≤1048576)=>kc84 line (by omega) (fiB (bif (F84 line).2 then ((F84 line).1.toList==line.toList) else false) (F59 line) rfl)) (by kernel_rfl)
theorem kc106 (line:ByteArray) {K_:Prop} (p0_:line.size≤1048576) (k_:K_):(line.size≤1048576)∧(Imp (.v (.string line)) (.v (.string line)))∧K_:=⟨p0_,Imp.refl _,k_⟩
abbrev kh106 (line:ByteArray):Hint true Tryz.prog:=.call 106 (S106 line) (ok106 line) none
def F94 (line:ByteArray):Bool :=
 (bif (F106 line).2 then ((F106 line).1.toList==line.toList) else false)
def S94 (line:ByteArray):Spec:=⟨[.r (.c (.v (.string line)))],.v (.bool (F94 line)),line.size≤1048576⟩
theorem ok94 (line:ByteArray):(S94 line).ok Tryz.prog 94 :=
 Qi mixed (fn:=Tryz.f94) (ct:=.seq .no (.seq (.reg [(1,kh106 line)]) (.seq .no .no))) Tryz.func94 (fun (hpre0:line.size≤1048576)=>kc106 line (by omega) (fiB (bif (F106 line).2 then ((F106 line).1.toList==line.toList) else false) (F94 line) rfl)) (by kernel_rfl)
theorem Vg (line:ByteArray):F59 line=F94 line:=by
 unfold F59 F94
 rw [Qrv]
theorem Qjb (line:ByteArray):F94 line=true↔(F106 line).2=true∧(F106 line).1=line:=by
 unfold F94
 rw [cb1,Qgd,Bool.and_eq_true,decide_eq_true_eq]
theorem Gy (line:ByteArray) (h:F94 line=true):Qyk line (F48 line).1:=Udm line ((Qjb line).1 h)
theorem not_false {b:Bool} (h:(!b)=false):b=true:=by cases b; exact h.symm; rfl
theorem kix_n (line:ByteArray) (hk:(!F94 line)=false):(2:Int)≤((F48 line).1.length:Int):=by
 have:=(Bq _ (Gy line (not_false hk)).form).1; omega
theorem kix0 (line:ByteArray) (hk:(!F94 line)=false):(0:Int)≤0∧(0:Int)<((F48 line).1.length:Int):=by have:=kix_n line hk; omega
theorem kix1 (line:ByteArray) (hk:(!F94 line)=false):(0:Int)≤1∧(1:Int)<((F48 line).1.length:Int):=by have:=kix_n line hk; omega
theorem Vi (line:ByteArray) (hk:(!F94 line)=false) (h:(((F48 line).1.getD (Int.toNat 0) default).toList==(⟨#[114,117,108,101]⟩:ByteArray).toList)=true):(0:Int)≤2∧(2:Int)<((F48 line).1.length:Int):=by
 have hf:=(Gy line (not_false hk)).form
 rw [blit,beq_iff_eq] at h
 have h:((F48 line).1.getD 0 default).data.toList=[114,117,108,101]:=h
 unfold Ws Qdt Wr Jd Wf Jz Ly natP Ui at hf
 simp only [h] at hf
 simp at hf
 omega
theorem Vk (line:ByteArray) (hk:(!F94 line)=false) (h:(((F48 line).1.getD (Int.toNat 0) default).toList==(⟨#[100,111,111,114]⟩:ByteArray).toList)=true):(0:Int)≤2∧(2:Int)<((F48 line).1.length:Int):=by
 have hf:=(Gy line (not_false hk)).form
 rw [blit,beq_iff_eq] at h
 have h:((F48 line).1.getD 0 default).data.toList=[100,111,111,114]:=h
 unfold Ws Qdt Wr Jd Wf Jz Ly natP Ui at hf
 simp only [h] at hf
 simp at hf
 omega
theorem Qrm (line:ByteArray) (h:F94 line=true):F127 (F48 line).1=true:=by
 have:=((Qjb line).1 h).1
 rw [Pn] at this
 cases hc:F127 (F48 line).1 with
 | true=>rfl
 | false=>rw [hc,Bool.and_false,cond_false] at this; exact this
theorem Nr (line:ByteArray) (h:F94 line=true):(F86 (F85 line (⟨#[32]⟩:ByteArray))).1.key=keyN (((F48 line).1.getD 0 default).data.toList)∧F85 line (⟨#[32]⟩:ByteArray)=(F48 line).1:=by
 have hk:=Gy line h
 have e:F85 line (⟨#[32]⟩:ByteArray)=(F48 line).1:=hk.splits
 rw [e]
 obtain ⟨f1,f2⟩:=Qfk (F48 line).1
 exact ⟨f2 (f1.trans (Qrm line h)),rfl⟩
theorem Ubx (line:ByteArray) (h:F59 line=true):0≤((F86 (F85 line (⟨#[32]⟩:ByteArray))).1).key∧((F86 (F85 line (⟨#[32]⟩:ByteArray))).1).key≤((F85 line (⟨#[32]⟩:ByteArray)).length:Int):=by
 rw [Vg] at h
 obtain ⟨k1,k2⟩:=Nr line h
 have:=Pd _ (Gy line h).form
 rw [k1,k2]
 omega
theorem Qwi (line:ByteArray) (h:line.size≤1048576):∀ k:Nat,((F85 line (⟨#[32]⟩:ByteArray)).getD k default).size≤1048576:=fun k=>by
 show ((Qy line (⟨#[32]⟩:ByteArray)).getD k default).size≤1048576
 rw [Nf]
 refine Rz _ _ (fun w hw=>?_) k
 have:=Nt 32 _ w hw
 have hl:line.data.toList.length=line.size:=Array.length_toList
 omega
theorem Qsi (ws:List ByteArray) (n m:Nat) (h:∀ k:Nat,(ws.getD k default).size≤m) (k:Nat):((ws.take n).getD k default).size≤m:=by
 rw [List.getD_eq_getElem?_getD,List.getElem?_take]
 by_cases hk:k<n
 ·rw [if_pos hk,← List.getD_eq_getElem?_getD]; exact h k
 ·rw [if_neg hk]; exact Nat.zero_le _
theorem Qdy (line:ByteArray) (hk:(!F59 line)=false) :
  ((F85 line (⟨#[32]⟩:ByteArray)).take (Int.toNat (((F86 (F85 line (⟨#[32]⟩:ByteArray))).1).key))).length≤140737488355328 ∧
  (Zc ((F85 line (⟨#[32]⟩:ByteArray)).take (Int.toNat (((F86 (F85 line (⟨#[32]⟩:ByteArray))).1).key))) (⟨#[32]⟩:ByteArray)).size≤140737488355328:=by
 have h:=not_false hk
 rw [Vg] at h
 obtain ⟨k1,k2⟩:=Nr line h
 rw [k2]
 have hl:(((F48 line).1).take (Int.toNat (((F86 ((F48 line).1)).1).key))).length≤8:=by
  rw [List.length_take]
  have:=Gw line
  omega
 exact ⟨Nat.le_trans hl (by decide),Hp _ _ (Qsi _ _ _ (Qd line)) hl (by decide)⟩
theorem kc59 (line:ByteArray) {K_:Prop} (p0_:line.size≤1048576) (k_:K_):(line.size≤1048576)∧(Imp (.v (.string line)) (.v (.string line)))∧K_:=⟨p0_,Imp.refl _,k_⟩
abbrev kh59 (line:ByteArray):Hint false Tryz.prog:=.call 59 (S59 line) (ok59 line) none
def F60 (line:ByteArray):ByteArray :=
 bif (!(F59 line)) then (⟨#[]⟩:ByteArray) else (F87 ((F85 line ⟨#[32]⟩).take (Int.toNat (F86 (F85 line ⟨#[32]⟩)).1.key)) ⟨#[32]⟩)
def S60 (line:ByteArray):Spec:=⟨[.r (.c (.v (.string line)))],.v (.string (F60 line)),line.size≤1048576⟩
theorem ok60 (line:ByteArray):(S60 line).ok Tryz.prog 60 false :=
 Qi mixed (fn:=Tryz.f60) (ct:=.seq .no (.seq (.seq (.reg [(1,kh59 line)]) (.cond (.seq .no .no) .no)) (.seq (.reg [(1,kh85f line w15_)]) (.seq (.reg [(1,kh86 (F85 line w15_))]) (.seq (.reg [(4,kh87 ((F85 line w15_).take (Int.toNat (F86 (F85 line w15_)).1.key)) w15_)]) .no))))) Tryz.func60 (fun (hpre0:line.size≤1048576)=>kc59 line (by omega) (ifb (!(F59 line)) (fun h1=>fiS w13_ (F60 line) (condT h1 rfl)) (fun h1=>have _:0≤(F86 (F85 line w15_)).1.key∧(F86 (F85 line w15_)).1.key≤((F85 line w15_).length:Int):=Ubx line (Ul h1); kc85 line w15_ (by omega) (by decide) (by decide) (by decide) (fun gv2 gv3=>kc86 (F85 line w15_) (by exact Qwi line (by omega)) (ai (by omega:0≤(0:Int)∧(0:Int)≤(F86 (F85 line w15_)).1.key∧(F86 (F85 line w15_)).1.key≤((F85 line w15_).length:Int)) (kc87 ((F85 line w15_).take (Int.toNat (F86 (F85 line w15_)).1.key)) w15_ (by exact (Qdy _ (by assumption)).1) (by exact (Qdy _ (by assumption)).2) (fiS (F87 ((F85 line w15_).take (Int.toNat (F86 (F85 line w15_)).1.key)) w15_) (F60 line) (condF h1 rfl)))))))) (by kernel_rfl)
theorem kc94 (line:ByteArray) {K_:Prop} (p0_:line.size≤1048576) (k_:K_):(line.size≤1048576)∧(Imp (.v (.string line)) (.v (.string line)))∧K_:=⟨p0_,Imp.refl _,k_⟩
abbrev kh94 (line:ByteArray):Hint true Tryz.prog:=.call 94 (S94 line) (ok94 line) none
def F77 (line:ByteArray):ByteArray :=
 bif (!(F94 line)) then (⟨#[]⟩:ByteArray) else (bif (((F48 line).1.getD (Int.toNat 0) default).toList==(⟨#[104,111,115,116]⟩:ByteArray).toList) then (bif (((F48 line).1.getD (Int.toNat 0) default).toList==(⟨#[104,111,115,116]⟩:ByteArray).toList) then ((F48 line).1.getD (Int.toNat 0) default) else (bif (((F48 line).1.getD (Int.toNat 0) default).toList==(⟨#[117,115,101,114]⟩:ByteArray).toList) then (bif (((F48 line).1.getD (Int.toNat 0) default).toList==(⟨#[117,115,101,114]⟩:ByteArray).toList) then ((((F48 line).1.getD (Int.toNat 0) default)++(⟨#[32]⟩:ByteArray))++((F48 line).1.getD (Int.toNat 1) default)) else (bif (((F48 line).1.getD (Int.toNat 0) default).toList==(⟨#[114,117,108,101]⟩:ByteArray).toList) then (bif (((F48 line).1.getD (Int.toNat 0) default).toList==(⟨#[114,117,108,101]⟩:ByteArray).toList) then ((((((F48 line).1.getD (Int.toNat 0) default)++(⟨#[32]⟩:ByteArray))++((F48 line).1.getD (Int.toNat 1) default))++(⟨#[32]⟩:ByteArray))++((F48 line).1.getD (Int.toNat 2) default)) else line) else (bif (((F48 line).1.getD (Int.toNat 0) default).toList==(⟨#[100,111,111,114]⟩:ByteArray).toList) then ((((((F48 line).1.getD (Int.toNat 0) default)++(⟨#[32]⟩:ByteArray))++((F48 line).1.getD (Int.toNat 1) default))++(⟨#[32]⟩:ByteArray))++((F48 line).1.getD (Int.toNat 2) default)) else line))) else (bif (((F48 line).1.getD (Int.toNat 0) default).toList==(⟨#[112,111,114,116]⟩:ByteArray).toList) then (bif (((F48 line).1.getD (Int.toNat 0) default).toList==(⟨#[112,111,114,116]⟩:ByteArray).toList) then ((((F48 line).1.getD (Int.toNat 0) default)++(⟨#[32]⟩:ByteArray))++((F48 line).1.getD (Int.toNat 1) default)) else (bif (((F48 line).1.getD (Int.toNat 0) default).toList==(⟨#[114,117,108,101]⟩:ByteArray).toList) then (bif (((F48 line).1.getD (Int.toNat 0) default).toList==(⟨#[114,117,108,101]⟩:ByteArray).toList) then ((((((F48 line).1.getD (Int.toNat 0) default)++(⟨#[32]⟩:ByteArray))++((F48 line).1.getD (Int.toNat 1) default))++(⟨#[32]⟩:ByteArray))++((F48 line).1.getD (Int.toNat 2) default)) else line) else (bif (((F48 line).1.getD (Int.toNat 0) default).toList==(⟨#[100,111,111,114]⟩:ByteArray).toList) then ((((((F48 line).1.getD (Int.toNat 0) default)++(⟨#[32]⟩:ByteArray))++((F48 line).1.getD (Int.toNat 1) default))++(⟨#[32]⟩:ByteArray))++((F48 line).1.getD (Int.toNat 2) default)) else line))) else (bif (((F48 line).1.getD (Int.toNat 0) default).toList==(⟨#[112,101,101,114]⟩:ByteArray).toList) then ((((F48 line).1.getD (Int.toNat 0) default)++(⟨#[32]⟩:ByteArray))++((F48 line).1.getD (Int.toNat 1) default)) else (bif (((F48 line).1.getD (Int.toNat 0) default).toList==(⟨#[114,117,108,101]⟩:ByteArray).toList) then (bif (((F48 line).1.getD (Int.toNat 0) default).toList==(⟨#[114,117,108,101]⟩:ByteArray).toList) then ((((((F48 line).1.getD (Int.toNat 0) default)++(⟨#[32]⟩:ByteArray))++((F48 line).1.getD (Int.toNat 1) default))++(⟨#[32]⟩:ByteArray))++((F48 line).1.getD (Int.toNat 2) default)) else line) else (bif (((F48 line).1.getD (Int.toNat 0) default).toList==(⟨#[100,111,111,114]⟩:ByteArray).toList) then ((((((F48 line).1.getD (Int.toNat 0) default)++(⟨#[32]⟩:ByteArray))++((F48 line).1.getD (Int.toNat 1) default))++(⟨#[32]⟩:ByteArray))++((F48 line).1.getD (Int.toNat 2) default)) else line)))))) else (bif (((F48 line).1.getD (Int.toNat 0) default).toList==(⟨#[110,97,116]⟩:ByteArray).toList) then ((F48 line).1.getD (Int.toNat 0) default) else (bif (((F48 line).1.getD (Int.toNat 0) default).toList==(⟨#[117,115,101,114]⟩:ByteArray).toList) then (bif (((F48 line).1.getD (Int.toNat 0) default).toList==(⟨#[117,115,101,114]⟩:ByteArray).toList) then ((((F48 line).1.getD (Int.toNat 0) default)++(⟨#[32]⟩:ByteArray))++((F48 line).1.getD (Int.toNat 1) default)) else (bif (((F48 line).1.getD (Int.toNat 0) default).toList==(⟨#[114,117,108,101]⟩:ByteArray).toList) then (bif (((F48 line).1.getD (Int.toNat 0) default).toList==(⟨#[114,117,108,101]⟩:ByteArray).toList) then ((((((F48 line).1.getD (Int.toNat 0) default)++(⟨#[32]⟩:ByteArray))++((F48 line).1.getD (Int.toNat 1) default))++(⟨#[32]⟩:ByteArray))++((F48 line).1.getD (Int.toNat 2) default)) else line) else (bif (((F48 line).1.getD (Int.toNat 0) default).toList==(⟨#[100,111,111,114]⟩:ByteArray).toList) then ((((((F48 line).1.getD (Int.toNat 0) default)++(⟨#[32]⟩:ByteArray))++((F48 line).1.getD (Int.toNat 1) default))++(⟨#[32]⟩:ByteArray))++((F48 line).1.getD (Int.toNat 2) default)) else line))) else (bif (((F48 line).1.getD (Int.toNat 0) default).toList==(⟨#[112,111,114,116]⟩:ByteArray).toList) then (bif (((F48 line).1.getD (Int.toNat 0) default).toList==(⟨#[112,111,114,116]⟩:ByteArray).toList) then ((((F48 line).1.getD (Int.toNat 0) default)++(⟨#[32]⟩:ByteArray))++((F48 line).1.getD (Int.toNat 1) default)) else (bif (((F48 line).1.getD (Int.toNat 0) default).toList==(⟨#[114,117,108,101]⟩:ByteArray).toList) then (bif (((F48 line).1.getD (Int.toNat 0) default).toList==(⟨#[114,117,108,101]⟩:ByteArray).toList) then ((((((F48 line).1.getD (Int.toNat 0) default)++(⟨#[32]⟩:ByteArray))++((F48 line).1.getD (Int.toNat 1) default))++(⟨#[32]⟩:ByteArray))++((F48 line).1.getD (Int.toNat 2) default)) else line) else (bif (((F48 line).1.getD (Int.toNat 0) default).toList==(⟨#[100,111,111,114]⟩:ByteArray).toList) then ((((((F48 line).1.getD (Int.toNat 0) default)++(⟨#[32]⟩:ByteArray))++((F48 line).1.getD (Int.toNat 1) default))++(⟨#[32]⟩:ByteArray))++((F48 line).1.getD (Int.toNat 2) default)) else line))) else (bif (((F48 line).1.getD (Int.toNat 0) default).toList==(⟨#[112,101,101,114]⟩:ByteArray).toList) then ((((F48 line).1.getD (Int.toNat 0) default)++(⟨#[32]⟩:ByteArray))++((F48 line).1.getD (Int.toNat 1) default)) else (bif (((F48 line).1.getD (Int.toNat 0) default).toList==(⟨#[114,117,108,101]⟩:ByteArray).toList) then (bif (((F48 line).1.getD (Int.toNat 0) default).toList==(⟨#[114,117,108,101]⟩:ByteArray).toList) then ((((((F48 line).1.getD (Int.toNat 0) default)++(⟨#[32]⟩:ByteArray))++((F48 line).1.getD (Int.toNat 1) default))++(⟨#[32]⟩:ByteArray))++((F48 line).1.getD (Int.toNat 2) default)) else line) else (bif (((F48 line).1.getD (Int.toNat 0) default).toList==(⟨#[100,111,111,114]⟩:ByteArray).toList) then ((((((F48 line).1.getD (Int.toNat 0) default)++(⟨#[32]⟩:ByteArray))++((F48 line).1.getD (Int.toNat 1) default))++(⟨#[32]⟩:ByteArray))++((F48 line).1.getD (Int.toNat 2) default)) else line)))))))
def S77 (line:ByteArray):Spec:=⟨[.r (.c (.v (.string line)))],.v (.string (F77 line)),line.size≤1048576⟩
theorem ok77 (line:ByteArray):(S77 line).ok Tryz.prog 77 :=
 Qi mixed (fn:=Tryz.f77) (ct:=.seq .no (.seq (.seq (.reg [(1,kh94 line)]) (.cond (.seq .no .no) .no)) (.seq (.reg [(1,kh48 line)]) (.seq (.seq .no (.blk (.seq (.seq .no (.cond .no .no)) (.cond (.seq .no .no) (.seq (.seq .no (.cond .no (.seq .no (.cond .no .no)))) (.cond (.seq .no .no) (.seq (.seq .no (.cond .no .no)) (.cond (.seq .no .no) .no)))))))) (.seq .no .no))))) Tryz.func77 (fun (hpre0:line.size≤1048576)=>kc94 line (by omega) (ifb (!(F94 line)) (fun h1=>fiS w13_ (F77 line) (condT h1 rfl)) (fun h1=>kc48 line (by omega) (fun gv2 gv3=>ai (by (exact kix0 _ (by assumption)):0≤(0:Int)∧(0:Int)<((F48 line).1.length:Int)) (ifb (((F48 line).1.getD (Int.toNat 0) default).toList==w4_.toList) (fun h4=>ifb (((F48 line).1.getD (Int.toNat 0) default).toList==w4_.toList) (fun h5=>ai (by (exact kix0 _ (by assumption)):0≤(0:Int)∧(0:Int)<((F48 line).1.length:Int)) (fiS ((F48 line).1.getD (Int.toNat 0) default) (F77 line) (condF h1 (condT h4 (condT h5 rfl))))) (fun h5=>ifb (((F48 line).1.getD (Int.toNat 0) default).toList==w10_.toList) (fun h6=>ifb (((F48 line).1.getD (Int.toNat 0) default).toList==w10_.toList) (fun h7=>ai (by (exact kix0 _ (by assumption)):0≤(0:Int)∧(0:Int)<((F48 line).1.length:Int)) (ai (by (have hz:=Qd line; have hz0:=hz (Int.toNat 0); have hz1:=hz (Int.toNat 1); have hz2:=hz (Int.toNat 2); have hs:w15_.size=1:=rfl; (try simp only [Ql] at *); omega):((((F48 line).1.getD (Int.toNat 0) default).size+w15_.size:Nat):Int)≤9223372036854775807) (ai (by (exact kix1 _ (by assumption)):0≤(1:Int)∧(1:Int)<((F48 line).1.length:Int)) (ai (by (have hz:=Qd line; have hz0:=hz (Int.toNat 0); have hz1:=hz (Int.toNat 1); have hz2:=hz (Int.toNat 2); have hs:w15_.size=1:=rfl; (try simp only [Ql] at *); omega):(((((F48 line).1.getD (Int.toNat 0) default)++w15_).size+((F48 line).1.getD (Int.toNat 1) default).size:Nat):Int)≤9223372036854775807) (fiS ((((F48 line).1.getD (Int.toNat 0) default)++w15_)++((F48 line).1.getD (Int.toNat 1) default)) (F77 line) (condF h1 (condT h4 (condF h5 (condT h6 (condT h7 rfl)))))))))) (fun h7=>ifb (((F48 line).1.getD (Int.toNat 0) default).toList==w9_.toList) (fun h8=>ifb (((F48 line).1.getD (Int.toNat 0) default).toList==w9_.toList) (fun h9=>ai (by (exact kix0 _ (by assumption)):0≤(0:Int)∧(0:Int)<((F48 line).1.length:Int)) (ai (by (have hz:=Qd line; have hz0:=hz (Int.toNat 0); have hz1:=hz (Int.toNat 1); have hz2:=hz (Int.toNat 2); have hs:w15_.size=1:=rfl; (try simp only [Ql] at *); omega):((((F48 line).1.getD (Int.toNat 0) default).size+w15_.size:Nat):Int)≤9223372036854775807) (ai (by (exact kix1 _ (by assumption)):0≤(1:Int)∧(1:Int)<((F48 line).1.length:Int)) (ai (by (have hz:=Qd line; have hz0:=hz (Int.toNat 0); have hz1:=hz (Int.toNat 1); have hz2:=hz (Int.toNat 2); have hs:w15_.size=1:=rfl; (try simp only [Ql] at *); omega):(((((F48 line).1.getD (Int.toNat 0) default)++w15_).size+((F48 line).1.getD (Int.toNat 1) default).size:Nat):Int)≤9223372036854775807) (ai (by (have hz:=Qd line; have hz0:=hz (Int.toNat 0); have hz1:=hz (Int.toNat 1); have hz2:=hz (Int.toNat 2); have hs:w15_.size=1:=rfl; (try simp only [Ql] at *); omega):((((((F48 line).1.getD (Int.toNat 0) default)++w15_)++((F48 line).1.getD (Int.toNat 1) default)).size+w15_.size:Nat):Int)≤9223372036854775807) (ai (by (exact Vi _ (by assumption) (by assumption)):0≤(2:Int)∧(2:Int)<((F48 line).1.length:Int)) (ai (by (have hz:=Qd line; have hz0:=hz (Int.toNat 0); have hz1:=hz (Int.toNat 1); have hz2:=hz (Int.toNat 2); have hs:w15_.size=1:=rfl; (try simp only [Ql] at *); omega):(((((((F48 line).1.getD (Int.toNat 0) default)++w15_)++((F48 line).1.getD (Int.toNat 1) default))++w15_).size+((F48 line).1.getD (Int.toNat 2) default).size:Nat):Int)≤9223372036854775807) (fiS ((((((F48 line).1.getD (Int.toNat 0) default)++w15_)++((F48 line).1.getD (Int.toNat 1) default))++w15_)++((F48 line).1.getD (Int.toNat 2) default)) (F77 line) (condF h1 (condT h4 (condF h5 (condT h6 (condF h7 (condT h8 (condT h9 rfl))))))))))))))) (fun h9=>fiS line (F77 line) (condF h1 (condT h4 (condF h5 (condT h6 (condF h7 (condT h8 (condF h9 rfl))))))))) (fun h8=>ifb (((F48 line).1.getD (Int.toNat 0) default).toList==w3_.toList) (fun h10=>ai (by (exact kix0 _ (by assumption)):0≤(0:Int)∧(0:Int)<((F48 line).1.length:Int)) (ai (by (have hz:=Qd line; have hz0:=hz (Int.toNat 0); have hz1:=hz (Int.toNat 1); have hz2:=hz (Int.toNat 2); have hs:w15_.size=1:=rfl; (try simp only [Ql] at *); omega):((((F48 line).1.getD (Int.toNat 0) default).size+w15_.size:Nat):Int)≤9223372036854775807) (ai (by (exact kix1 _ (by assumption)):0≤(1:Int)∧(1:Int)<((F48 line).1.length:Int)) (ai (by (have hz:=Qd line; have hz0:=hz (Int.toNat 0); have hz1:=hz (Int.toNat 1); have hz2:=hz (Int.toNat 2); have hs:w15_.size=1:=rfl; (try simp only [Ql] at *); omega):(((((F48 line).1.getD (Int.toNat 0) default)++w15_).size+((F48 line).1.getD (Int.toNat 1) default).size:Nat):Int)≤9223372036854775807) (ai (by (have hz:=Qd line; have hz0:=hz (Int.toNat 0); have hz1:=hz (Int.toNat 1); have hz2:=hz (Int.toNat 2); have hs:w15_.size=1:=rfl; (try simp only [Ql] at *); omega):((((((F48 line).1.getD (Int.toNat 0) default)++w15_)++((F48 line).1.getD (Int.toNat 1) default)).size+w15_.size:Nat):Int)≤9223372036854775807) (ai (by (exact Vk _ (by assumption) (by assumption)):0≤(2:Int)∧(2:Int)<((F48 line).1.length:Int)) (ai (by (have hz:=Qd line; have hz0:=hz (Int.toNat 0); have hz1:=hz (Int.toNat 1); have hz2:=hz (Int.toNat 2); have hs:w15_.size=1:=rfl; (try simp only [Ql] at *); omega):(((((((F48 line).1.getD (Int.toNat 0) default)++w15_)++((F48 line).1.getD (Int.toNat 1) default))++w15_).size+((F48 line).1.getD (Int.toNat 2) default).size:Nat):Int)≤9223372036854775807) (fiS ((((((F48 line).1.getD (Int.toNat 0) default)++w15_)++((F48 line).1.getD (Int.toNat 1) default))++w15_)++((F48 line).1.getD (Int.toNat 2) default)) (F77 line) (condF h1 (condT h4 (condF h5 (condT h6 (condF h7 (condF h8 (condT h10 rfl))))))))))))))) (fun h10=>fiS line (F77 line) (condF h1 (condT h4 (condF h5 (condT h6 (condF h7 (condF h8 (condF h10 rfl))))))))))) (fun h6=>ifb (((F48 line).1.getD (Int.toNat 0) default).toList==w7_.toList) (fun h11=>ifb (((F48 line).1.getD (Int.toNat 0) default).toList==w7_.toList) (fun h12=>ai (by (exact kix0 _ (by assumption)):0≤(0:Int)∧(0:Int)<((F48 line).1.length:Int)) (ai (by (have hz:=Qd line; have hz0:=hz (Int.toNat 0); have hz1:=hz (Int.toNat 1); have hz2:=hz (Int.toNat 2); have hs:w15_.size=1:=rfl; (try simp only [Ql] at *); omega):((((F48 line).1.getD (Int.toNat 0) default).size+w15_.size:Nat):Int)≤9223372036854775807) (ai (by (exact kix1 _ (by assumption)):0≤(1:Int)∧(1:Int)<((F48 line).1.length:Int)) (ai (by (have hz:=Qd line; have hz0:=hz (Int.toNat 0); have hz1:=hz (Int.toNat 1); have hz2:=hz (Int.toNat 2); have hs:w15_.size=1:=rfl; (try simp only [Ql] at *); omega):(((((F48 line).1.getD (Int.toNat 0) default)++w15_).size+((F48 line).1.getD (Int.toNat 1) default).size:Nat):Int)≤9223372036854775807) (fiS ((((F48 line).1.getD (Int.toNat 0) default)++w15_)++((F48 line).1.getD (Int.toNat 1) default)) (F77 line) (condF h1 (condT h4 (condF h5 (condF h6 (condT h11 (condT h12 rfl))))))))))) (fun h12=>ifb (((F48 line).1.getD (Int.toNat 0) default).toList==w9_.toList) (fun h13=>ifb (((F48 line).1.getD (Int.toNat 0) default).toList==w9_.toList) (fun h14=>ai (by (exact kix0 _ (by assumption)):0≤(0:Int)∧(0:Int)<((F48 line).1.length:Int)) (ai (by (have hz:=Qd line; have hz0:=hz (Int.toNat 0); have hz1:=hz (Int.toNat 1); have hz2:=hz (Int.toNat 2); have hs:w15_.size=1:=rfl; (try simp only [Ql] at *); omega):((((F48 line).1.getD (Int.toNat 0) default).size+w15_.size:Nat):Int)≤9223372036854775807) (ai (by (exact kix1 _ (by assumption)):0≤(1:Int)∧(1:Int)<((F48 line).1.length:Int)) (ai (by (have hz:=Qd line; have hz0:=hz (Int.toNat 0); have hz1:=hz (Int.toNat 1); have hz2:=hz (Int.toNat 2); have hs:w15_.size=1:=rfl; (try simp only [Ql] at *); omega):(((((F48 line).1.getD (Int.toNat 0) default)++w15_).size+((F48 line).1.getD (Int.toNat 1) default).size:Nat):Int)≤9223372036854775807) (ai (by (have hz:=Qd line; have hz0:=hz (Int.toNat 0); have hz1:=hz (Int.toNat 1); have hz2:=hz (Int.toNat 2); have hs:w15_.size=1:=rfl; (try simp only [Ql] at *); omega):((((((F48 line).1.getD (Int.toNat 0) default)++w15_)++((F48 line).1.getD (Int.toNat 1) default)).size+w15_.size:Nat):Int)≤9223372036854775807) (ai (by (exact Vi _ (by assumption) (by assumption)):0≤(2:Int)∧(2:Int)<((F48 line).1.length:Int)) (ai (by (have hz:=Qd line; have hz0:=hz (Int.toNat 0); have hz1:=hz (Int.toNat 1); have hz2:=hz (Int.toNat 2); have hs:w15_.size=1:=rfl; (try simp only [Ql] at *); omega):(((((((F48 line).1.getD (Int.toNat 0) default)++w15_)++((F48 line).1.getD (Int.toNat 1) default))++w15_).size+((F48 line).1.getD (Int.toNat 2) default).size:Nat):Int)≤9223372036854775807) (fiS ((((((F48 line).1.getD (Int.toNat 0) default)++w15_)++((F48 line).1.getD (Int.toNat 1) default))++w15_)++((F48 line).1.getD (Int.toNat 2) default)) (F77 line) (condF h1 (condT h4 (condF h5 (condF h6 (condT h11 (condF h12 (condT h13 (condT h14 rfl)))))))))))))))) (fun h14=>fiS line (F77 line) (condF h1 (condT h4 (condF h5 (condF h6 (condT h11 (condF h12 (condT h13 (condF h14 rfl)))))))))) (fun h13=>ifb (((F48 line).1.getD (Int.toNat 0) default).toList==w3_.toList) (fun h15=>ai (by (exact kix0 _ (by assumption)):0≤(0:Int)∧(0:Int)<((F48 line).1.length:Int)) (ai (by (have hz:=Qd line; have hz0:=hz (Int.toNat 0); have hz1:=hz (Int.toNat 1); have hz2:=hz (Int.toNat 2); have hs:w15_.size=1:=rfl; (try simp only [Ql] at *); omega):((((F48 line).1.getD (Int.toNat 0) default).size+w15_.size:Nat):Int)≤9223372036854775807) (ai (by (exact kix1 _ (by assumption)):0≤(1:Int)∧(1:Int)<((F48 line).1.length:Int)) (ai (by (have hz:=Qd line; have hz0:=hz (Int.toNat 0); have hz1:=hz (Int.toNat 1); have hz2:=hz (Int.toNat 2); have hs:w15_.size=1:=rfl; (try simp only [Ql] at *); omega):(((((F48 line).1.getD (Int.toNat 0) default)++w15_).size+((F48 line).1.getD (Int.toNat 1) default).size:Nat):Int)≤9223372036854775807) (ai (by (have hz:=Qd line; have hz0:=hz (Int.toNat 0); have hz1:=hz (Int.toNat 1); have hz2:=hz (Int.toNat 2); have hs:w15_.size=1:=rfl; (try simp only [Ql] at *); omega):((((((F48 line).1.getD (Int.toNat 0) default)++w15_)++((F48 line).1.getD (Int.toNat 1) default)).size+w15_.size:Nat):Int)≤9223372036854775807) (ai (by (exact Vk _ (by assumption) (by assumption)):0≤(2:Int)∧(2:Int)<((F48 line).1.length:Int)) (ai (by (have hz:=Qd line; have hz0:=hz (Int.toNat 0); have hz1:=hz (Int.toNat 1); have hz2:=hz (Int.toNat 2); have hs:w15_.size=1:=rfl; (try simp only [Ql] at *); omega):(((((((F48 line).1.getD (Int.toNat 0) default)++w15_)++((F48 line).1.getD (Int.toNat 1) default))++w15_).size+((F48 line).1.getD (Int.toNat 2) default).size:Nat):Int)≤9223372036854775807) (fiS ((((((F48 line).1.getD (Int.toNat 0) default)++w15_)++((F48 line).1.getD (Int.toNat 1) default))++w15_)++((F48 line).1.getD (Int.toNat 2) default)) (F77 line) (condF h1 (condT h4 (condF h5 (condF h6 (condT h11 (condF h12 (condF h13 (condT h15 rfl)))))))))))))))) (fun h15=>fiS line (F77 line) (condF h1 (condT h4 (condF h5 (condF h6 (condT h11 (condF h12 (condF h13 (condF h15 rfl)))))))))))) (fun h11=>ifb (((F48 line).1.getD (Int.toNat 0) default).toList==w6_.toList) (fun h16=>ai (by (exact kix0 _ (by assumption)):0≤(0:Int)∧(0:Int)<((F48 line).1.length:Int)) (ai (by (have hz:=Qd line; have hz0:=hz (Int.toNat 0); have hz1:=hz (Int.toNat 1); have hz2:=hz (Int.toNat 2); have hs:w15_.size=1:=rfl; (try simp only [Ql] at *); omega):((((F48 line).1.getD (Int.toNat 0) default).size+w15_.size:Nat):Int)≤9223372036854775807) (ai (by (exact kix1 _ (by assumption)):0≤(1:Int)∧(1:Int)<((F48 line).1.length:Int)) (ai (by (have hz:=Qd line; have hz0:=hz (Int.toNat 0); have hz1:=hz (Int.toNat 1); have hz2:=hz (Int.toNat 2); have hs:w15_.size=1:=rfl; (try simp only [Ql] at *); omega):(((((F48 line).1.getD (Int.toNat 0) default)++w15_).size+((F48 line).1.getD (Int.toNat 1) default).size:Nat):Int)≤9223372036854775807) (fiS ((((F48 line).1.getD (Int.toNat 0) default)++w15_)++((F48 line).1.getD (Int.toNat 1) default)) (F77 line) (condF h1 (condT h4 (condF h5 (condF h6 (condF h11 (condT h16 rfl))))))))))) (fun h16=>ifb (((F48 line).1.getD (Int.toNat 0) default).toList==w9_.toList) (fun h17=>ifb (((F48 line).1.getD (Int.toNat 0) default).toList==w9_.toList) (fun h18=>ai (by (exact kix0 _ (by assumption)):0≤(0:Int)∧(0:Int)<((F48 line).1.length:Int)) (ai (by (have hz:=Qd line; have hz0:=hz (Int.toNat 0); have hz1:=hz (Int.toNat 1); have hz2:=hz (Int.toNat 2); have hs:w15_.size=1:=rfl; (try simp only [Ql] at *); omega):((((F48 line).1.getD (Int.toNat 0) default).size+w15_.size:Nat):Int)≤9223372036854775807) (ai (by (exact kix1 _ (by assumption)):0≤(1:Int)∧(1:Int)<((F48 line).1.length:Int)) (ai (by (have hz:=Qd line; have hz0:=hz (Int.toNat 0); have hz1:=hz (Int.toNat 1); have hz2:=hz (Int.toNat 2); have hs:w15_.size=1:=rfl; (try simp only [Ql] at *); omega):(((((F48 line).1.getD (Int.toNat 0) default)++w15_).size+((F48 line).1.getD (Int.toNat 1) default).size:Nat):Int)≤9223372036854775807) (ai (by (have hz:=Qd line; have hz0:=hz (Int.toNat 0); have hz1:=hz (Int.toNat 1); have hz2:=hz (Int.toNat 2); have hs:w15_.size=1:=rfl; (try simp only [Ql] at *); omega):((((((F48 line).1.getD (Int.toNat 0) default)++w15_)++((F48 line).1.getD (Int.toNat 1) default)).size+w15_.size:Nat):Int)≤9223372036854775807) (ai (by (exact Vi _ (by assumption) (by assumption)):0≤(2:Int)∧(2:Int)<((F48 line).1.length:Int)) (ai (by (have hz:=Qd line; have hz0:=hz (Int.toNat 0); have hz1:=hz (Int.toNat 1); have hz2:=hz (Int.toNat 2); have hs:w15_.size=1:=rfl; (try simp only [Ql] at *); omega):(((((((F48 line).1.getD (Int.toNat 0) default)++w15_)++((F48 line).1.getD (Int.toNat 1) default))++w15_).size+((F48 line).1.getD (Int.toNat 2) default).size:Nat):Int)≤9223372036854775807) (fiS ((((((F48 line).1.getD (Int.toNat 0) default)++w15_)++((F48 line).1.getD (Int.toNat 1) default))++w15_)++((F48 line).1.getD (Int.toNat 2) default)) (F77 line) (condF h1 (condT h4 (condF h5 (condF h6 (condF h11 (condF h16 (condT h17 (condT h18 rfl)))))))))))))))) (fun h18=>fiS line (F77 line) (condF h1 (condT h4 (condF h5 (condF h6 (condF h11 (condF h16 (condT h17 (condF h18 rfl)))))))))) (fun h17=>ifb (((F48 line).1.getD (Int.toNat 0) default).toList==w3_.toList) (fun h19=>ai (by (exact kix0 _ (by assumption)):0≤(0:Int)∧(0:Int)<((F48 line).1.length:Int)) (ai (by (have hz:=Qd line; have hz0:=hz (Int.toNat 0); have hz1:=hz (Int.toNat 1); have hz2:=hz (Int.toNat 2); have hs:w15_.size=1:=rfl; (try simp only [Ql] at *); omega):((((F48 line).1.getD (Int.toNat 0) default).size+w15_.size:Nat):Int)≤9223372036854775807) (ai (by (exact kix1 _ (by assumption)):0≤(1:Int)∧(1:Int)<((F48 line).1.length:Int)) (ai (by (have hz:=Qd line; have hz0:=hz (Int.toNat 0); have hz1:=hz (Int.toNat 1); have hz2:=hz (Int.toNat 2); have hs:w15_.size=1:=rfl; (try simp only [Ql] at *); omega):(((((F48 line).1.getD (Int.toNat 0) default)++w15_).size+((F48 line).1.getD (Int.toNat 1) default).size:Nat):Int)≤9223372036854775807) (ai (by (have hz:=Qd line; have hz0:=hz (Int.toNat 0); have hz1:=hz (Int.toNat 1); have hz2:=hz (Int.toNat 2); have hs:w15_.size=1:=rfl; (try simp only [Ql] at *); omega):((((((F48 line).1.getD (Int.toNat 0) default)++w15_)++((F48 line).1.getD (Int.toNat 1) default)).size+w15_.size:Nat):Int)≤9223372036854775807) (ai (by (exact Vk _ (by assumption) (by assumption)):0≤(2:Int)∧(2:Int)<((F48 line).1.length:Int)) (ai (by (have hz:=Qd line; have hz0:=hz (Int.toNat 0); have hz1:=hz (Int.toNat 1); have hz2:=hz (Int.toNat 2); have hs:w15_.size=1:=rfl; (try simp only [Ql] at *); omega):(((((((F48 line).1.getD (Int.toNat 0) default)++w15_)++((F48 line).1.getD (Int.toNat 1) default))++w15_).size+((F48 line).1.getD (Int.toNat 2) default).size:Nat):Int)≤9223372036854775807) (fiS ((((((F48 line).1.getD (Int.toNat 0) default)++w15_)++((F48 line).1.getD (Int.toNat 1) default))++w15_)++((F48 line).1.getD (Int.toNat 2) default)) (F77 line) (condF h1 (condT h4 (condF h5 (condF h6 (condF h11 (condF h16 (condF h17 (condT h19 rfl)))))))))))))))) (fun h19=>fiS line (F77 line) (condF h1 (condT h4 (condF h5 (condF h6 (condF h11 (condF h16 (condF h17 (condF h19 rfl))))))))))))))) (fun h4=>ifb (((F48 line).1.getD (Int.toNat 0) default).toList==w5_.toList) (fun h20=>ai (by (exact kix0 _ (by assumption)):0≤(0:Int)∧(0:Int)<((F48 line).1.length:Int)) (fiS ((F48 line).1.getD (Int.toNat 0) default) (F77 line) (condF h1 (condF h4 (condT h20 rfl))))) (fun h20=>ifb (((F48 line).1.getD (Int.toNat 0) default).toList==w10_.toList) (fun h21=>ifb (((F48 line).1.getD (Int.toNat 0) default).toList==w10_.toList) (fun h22=>ai (by (exact kix0 _ (by assumption)):0≤(0:Int)∧(0:Int)<((F48 line).1.length:Int)) (ai (by (have hz:=Qd line; have hz0:=hz (Int.toNat 0); have hz1:=hz (Int.toNat 1); have hz2:=hz (Int.toNat 2); have hs:w15_.size=1:=rfl; (try simp only [Ql] at *); omega):((((F48 line).1.getD (Int.toNat 0) default).size+w15_.size:Nat):Int)≤9223372036854775807) (ai (by (exact kix1 _ (by assumption)):0≤(1:Int)∧(1:Int)<((F48 line).1.length:Int)) (ai (by (have hz:=Qd line; have hz0:=hz (Int.toNat 0); have hz1:=hz (Int.toNat 1); have hz2:=hz (Int.toNat 2); have hs:w15_.size=1:=rfl; (try simp only [Ql] at *); omega):(((((F48 line).1.getD (Int.toNat 0) default)++w15_).size+((F48 line).1.getD (Int.toNat 1) default).size:Nat):Int)≤9223372036854775807) (fiS ((((F48 line).1.getD (Int.toNat 0) default)++w15_)++((F48 line).1.getD (Int.toNat 1) default)) (F77 line) (condF h1 (condF h4 (condF h20 (condT h21 (condT h22 rfl)))))))))) (fun h22=>ifb (((F48 line).1.getD (Int.toNat 0) default).toList==w9_.toList) (fun h23=>ifb (((F48 line).1.getD (Int.toNat 0) default).toList==w9_.toList) (fun h24=>ai (by (exact kix0 _ (by assumption)):0≤(0:Int)∧(0:Int)<((F48 line).1.length:Int)) (ai (by (have hz:=Qd line; have hz0:=hz (Int.toNat 0); have hz1:=hz (Int.toNat 1); have hz2:=hz (Int.toNat 2); have hs:w15_.size=1:=rfl; (try simp only [Ql] at *); omega):((((F48 line).1.getD (Int.toNat 0) default).size+w15_.size:Nat):Int)≤9223372036854775807) (ai (by (exact kix1 _ (by assumption)):0≤(1:Int)∧(1:Int)<((F48 line).1.length:Int)) (ai (by (have hz:=Qd line; have hz0:=hz (Int.toNat 0); have hz1:=hz (Int.toNat 1); have hz2:=hz (Int.toNat 2); have hs:w15_.size=1:=rfl; (try simp only [Ql] at *); omega):(((((F48 line).1.getD (Int.toNat 0) default)++w15_).size+((F48 line).1.getD (Int.toNat 1) default).size:Nat):Int)≤9223372036854775807) (ai (by (have hz:=Qd line; have hz0:=hz (Int.toNat 0); have hz1:=hz (Int.toNat 1); have hz2:=hz (Int.toNat 2); have hs:w15_.size=1:=rfl; (try simp only [Ql] at *); omega):((((((F48 line).1.getD (Int.toNat 0) default)++w15_)++((F48 line).1.getD (Int.toNat 1) default)).size+w15_.size:Nat):Int)≤9223372036854775807) (ai (by (exact Vi _ (by assumption) (by assumption)):0≤(2:Int)∧(2:Int)<((F48 line).1.length:Int)) (ai (by (have hz:=Qd line; have hz0:=hz (Int.toNat 0); have hz1:=hz (Int.toNat 1); have hz2:=hz (Int.toNat 2); have hs:w15_.size=1:=rfl; (try simp only [Ql] at *); omega):(((((((F48 line).1.getD (Int.toNat 0) default)++w15_)++((F48 line).1.getD (Int.toNat 1) default))++w15_).size+((F48 line).1.getD (Int.toNat 2) default).size:Nat):Int)≤9223372036854775807) (fiS ((((((F48 line).1.getD (Int.toNat 0) default)++w15_)++((F48 line).1.getD (Int.toNat 1) default))++w15_)++((F48 line).1.getD (Int.toNat 2) default)) (F77 line) (condF h1 (condF h4 (condF h20 (condT h21 (condF h22 (condT h23 (condT h24 rfl))))))))))))))) (fun h24=>fiS line (F77 line) (condF h1 (condF h4 (condF h20 (condT h21 (condF h22 (condT h23 (condF h24 rfl))))))))) (fun h23=>ifb (((F48 line).1.getD (Int.toNat 0) default).toList==w3_.toList) (fun h25=>ai (by (exact kix0 _ (by assumption)):0≤(0:Int)∧(0:Int)<((F48 line).1.length:Int)) (ai (by (have hz:=Qd line; have hz0:=hz (Int.toNat 0); have hz1:=hz (Int.toNat 1); have hz2:=hz (Int.toNat 2); have hs:w15_.size=1:=rfl; (try simp only [Ql] at *); omega):((((F48 line).1.getD (Int.toNat 0) default).size+w15_.size:Nat):Int)≤9223372036854775807) (ai (by (exact kix1 _ (by assumption)):0≤(1:Int)∧(1:Int)<((F48 line).1.length:Int)) (ai (by (have hz:=Qd line; have hz0:=hz (Int.toNat 0); have hz1:=hz (Int.toNat 1); have hz2:=hz (Int.toNat 2); have hs:w15_.size=1:=rfl; (try simp only [Ql] at *); omega):(((((F48 line).1.getD (Int.toNat 0) default)++w15_).size+((F48 line).1.getD (Int.toNat 1) default).size:Nat):Int)≤9223372036854775807) (ai (by (have hz:=Qd line; have hz0:=hz (Int.toNat 0); have hz1:=hz (Int.toNat 1); have hz2:=hz (Int.toNat 2); have hs:w15_.size=1:=rfl; (try simp only [Ql] at *); omega):((((((F48 line).1.getD (Int.toNat 0) default)++w15_)++((F48 line).1.getD (Int.toNat 1) default)).size+w15_.size:Nat):Int)≤9223372036854775807) (ai (by (exact Vk _ (by assumption) (by assumption)):0≤(2:Int)∧(2:Int)<((F48 line).1.length:Int)) (ai (by (have hz:=Qd line; have hz0:=hz (Int.toNat 0); have hz1:=hz (Int.toNat 1); have hz2:=hz (Int.toNat 2); have hs:w15_.size=1:=rfl; (try simp only [Ql] at *); omega):(((((((F48 line).1.getD (Int.toNat 0) default)++w15_)++((F48 line).1.getD (Int.toNat 1) default))++w15_).size+((F48 line).1.getD (Int.toNat 2) default).size:Nat):Int)≤9223372036854775807) (fiS ((((((F48 line).1.getD (Int.toNat 0) default)++w15_)++((F48 line).1.getD (Int.toNat 1) default))++w15_)++((F48 line).1.getD (Int.toNat 2) default)) (F77 line) (condF h1 (condF h4 (condF h20 (condT h21 (condF h22 (condF h23 (condT h25 rfl))))))))))))))) (fun h25=>fiS line (F77 line) (condF h1 (condF h4 (condF h20 (condT h21 (condF h22 (condF h23 (condF h25 rfl))))))))))) (fun h21=>ifb (((F48 line).1.getD (Int.toNat 0) default).toList==w7_.toList) (fun h26=>ifb (((F48 line).1.getD (Int.toNat 0) default).toList==w7_.toList) (fun h27=>ai (by (exact kix0 _ (by assumption)):0≤(0:Int)∧(0:Int)<((F48 line).1.length:Int)) (ai (by (have hz:=Qd line; have hz0:=hz (Int.toNat 0); have hz1:=hz (Int.toNat 1); have hz2:=hz (Int.toNat 2); have hs:w15_.size=1:=rfl; (try simp only [Ql] at *); omega):((((F48 line).1.getD (Int.toNat 0) default).size+w15_.size:Nat):Int)≤9223372036854775807) (ai (by (exact kix1 _ (by assumption)):0≤(1:Int)∧(1:Int)<((F48 line).1.length:Int)) (ai (by (have hz:=Qd line; have hz0:=hz (Int.toNat 0); have hz1:=hz (Int.toNat 1); have hz2:=hz (Int.toNat 2); have hs:w15_.size=1:=rfl; (try simp only [Ql] at *); omega):(((((F48 line).1.getD (Int.toNat 0) default)++w15_).size+((F48 line).1.getD (Int.toNat 1) default).size:Nat):Int)≤9223372036854775807) (fiS ((((F48 line).1.getD (Int.toNat 0) default)++w15_)++((F48 line).1.getD (Int.toNat 1) default)) (F77 line) (condF h1 (condF h4 (condF h20 (condF h21 (condT h26 (condT h27 rfl))))))))))) (fun h27=>ifb (((F48 line).1.getD (Int.toNat 0) default).toList==w9_.toList) (fun h28=>ifb (((F48 line).1.getD (Int.toNat 0) default).toList==w9_.toList) (fun h29=>ai (by (exact kix0 _ (by assumption)):0≤(0:Int)∧(0:Int)<((F48 line).1.length:Int)) (ai (by (have hz:=Qd line; have hz0:=hz (Int.toNat 0); have hz1:=hz (Int.toNat 1); have hz2:=hz (Int.toNat 2); have hs:w15_.size=1:=rfl; (try simp only [Ql] at *); omega):((((F48 line).1.getD (Int.toNat 0) default).size+w15_.size:Nat):Int)≤9223372036854775807) (ai (by (exact kix1 _ (by assumption)):0≤(1:Int)∧(1:Int)<((F48 line).1.length:Int)) (ai (by (have hz:=Qd line; have hz0:=hz (Int.toNat 0); have hz1:=hz (Int.toNat 1); have hz2:=hz (Int.toNat 2); have hs:w15_.size=1:=rfl; (try simp only [Ql] at *); omega):(((((F48 line).1.getD (Int.toNat 0) default)++w15_).size+((F48 line).1.getD (Int.toNat 1) default).size:Nat):Int)≤9223372036854775807) (ai (by (have hz:=Qd line; have hz0:=hz (Int.toNat 0); have hz1:=hz (Int.toNat 1); have hz2:=hz (Int.toNat 2); have hs:w15_.size=1:=rfl; (try simp only [Ql] at *); omega):((((((F48 line).1.getD (Int.toNat 0) default)++w15_)++((F48 line).1.getD (Int.toNat 1) default)).size+w15_.size:Nat):Int)≤9223372036854775807) (ai (by (exact Vi _ (by assumption) (by assumption)):0≤(2:Int)∧(2:Int)<((F48 line).1.length:Int)) (ai (by (have hz:=Qd line; have hz0:=hz (Int.toNat 0); have hz1:=hz (Int.toNat 1); have hz2:=hz (Int.toNat 2); have hs:w15_.size=1:=rfl; (try simp only [Ql] at *); omega):(((((((F48 line).1.getD (Int.toNat 0) default)++w15_)++((F48 line).1.getD (Int.toNat 1) default))++w15_).size+((F48 line).1.getD (Int.toNat 2) default).size:Nat):Int)≤9223372036854775807) (fiS ((((((F48 line).1.getD (Int.toNat 0) default)++w15_)++((F48 line).1.getD (Int.toNat 1) default))++w15_)++((F48 line).1.getD (Int.toNat 2) default)) (F77 line) (condF h1 (condF h4 (condF h20 (condF h21 (condT h26 (condF h27 (condT h28 (condT h29 rfl)))))))))))))))) (fun h29=>fiS line (F77 line) (condF h1 (condF h4 (condF h20 (condF h21 (condT h26 (condF h27 (condT h28 (condF h29 rfl)))))))))) (fun h28=>ifb (((F48 line).1.getD (Int.toNat 0) default).toList==w3_.toList) (fun h30=>ai (by (exact kix0 _ (by assumption)):0≤(0:Int)∧(0:Int)<((F48 line).1.length:Int)) (ai (by (have hz:=Qd line; have hz0:=hz (Int.toNat 0); have hz1:=hz (Int.toNat 1); have hz2:=hz (Int.toNat 2); have hs:w15_.size=1:=rfl; (try simp only [Ql] at *); omega):((((F48 line).1.getD (Int.toNat 0) default).size+w15_.size:Nat):Int)≤9223372036854775807) (ai (by (exact kix1 _ (by assumption)):0≤(1:Int)∧(1:Int)<((F48 line).1.length:Int)) (ai (by (have hz:=Qd line; have hz0:=hz (Int.toNat 0); have hz1:=hz (Int.toNat 1); have hz2:=hz (Int.toNat 2); have hs:w15_.size=1:=rfl; (try simp only [Ql] at *); omega):(((((F48 line).1.getD (Int.toNat 0) default)++w15_).size+((F48 line).1.getD (Int.toNat 1) default).size:Nat):Int)≤9223372036854775807) (ai (by (have hz:=Qd line; have hz0:=hz (Int.toNat 0); have hz1:=hz (Int.toNat 1); have hz2:=hz (Int.toNat 2); have hs:w15_.size=1:=rfl; (try simp only [Ql] at *); omega):((((((F48 line).1.getD (Int.toNat 0) default)++w15_)++((F48 line).1.getD (Int.toNat 1) default)).size+w15_.size:Nat):Int)≤9223372036854775807) (ai (by (exact Vk _ (by assumption) (by assumption)):0≤(2:Int)∧(2:Int)<((F48 line).1.length:Int)) (ai (by (have hz:=Qd line; have hz0:=hz (Int.toNat 0); have hz1:=hz (Int.toNat 1); have hz2:=hz (Int.toNat 2); have hs:w15_.size=1:=rfl; (try simp only [Ql] at *); omega):(((((((F48 line).1.getD (Int.toNat 0) default)++w15_)++((F48 line).1.getD (Int.toNat 1) default))++w15_).size+((F48 line).1.getD (Int.toNat 2) default).size:Nat):Int)≤9223372036854775807) (fiS ((((((F48 line).1.getD (Int.toNat 0) default)++w15_)++((F48 line).1.getD (Int.toNat 1) default))++w15_)++((F48 line).1.getD (Int.toNat 2) default)) (F77 line) (condF h1 (condF h4 (condF h20 (condF h21 (condT h26 (condF h27 (condF h28 (condT h30 rfl)))))))))))))))) (fun h30=>fiS line (F77 line) (condF h1 (condF h4 (condF h20 (condF h21 (condT h26 (condF h27 (condF h28 (condF h30 rfl)))))))))))) (fun h26=>ifb (((F48 line).1.getD (Int.toNat 0) default).toList==w6_.toList) (fun h31=>ai (by (exact kix0 _ (by assumption)):0≤(0:Int)∧(0:Int)<((F48 line).1.length:Int)) (ai (by (have hz:=Qd line; have hz0:=hz (Int.toNat 0); have hz1:=hz (Int.toNat 1); have hz2:=hz (Int.toNat 2); have hs:w15_.size=1:=rfl; (try simp only [Ql] at *); omega):((((F48 line).1.getD (Int.toNat 0) default).size+w15_.size:Nat):Int)≤9223372036854775807) (ai (by (exact kix1 _ (by assumption)):0≤(1:Int)∧(1:Int)<((F48 line).1.length:Int)) (ai (by (have hz:=Qd line; have hz0:=hz (Int.toNat 0); have hz1:=hz (Int.toNat 1); have hz2:=hz (Int.toNat 2); have hs:w15_.size=1:=rfl; (try simp only [Ql] at *); omega):(((((F48 line).1.getD (Int.toNat 0) default)++w15_).size+((F48 line).1.getD (Int.toNat 1) default).size:Nat):Int)≤9223372036854775807) (fiS ((((F48 line).1.getD (Int.toNat 0) default)++w15_)++((F48 line).1.getD (Int.toNat 1) default)) (F77 line) (condF h1 (condF h4 (condF h20 (condF h21 (condF h26 (condT h31 rfl))))))))))) (fun h31=>ifb (((F48 line).1.getD (Int.toNat 0) default).toList==w9_.toList) (fun h32=>ifb (((F48 line).1.getD (Int.toNat 0) default).toList==w9_.toList) (fun h33=>ai (by (exact kix0 _ (by assumption)):0≤(0:Int)∧(0:Int)<((F48 line).1.length:Int)) (ai (by (have hz:=Qd line; have hz0:=hz (Int.toNat 0); have hz1:=hz (Int.toNat 1); have hz2:=hz (Int.toNat 2); have hs:w15_.size=1:=rfl; (try simp only [Ql] at *); omega):((((F48 line).1.getD (Int.toNat 0) default).size+w15_.size:Nat):Int)≤9223372036854775807) (ai (by (exact kix1 _ (by assumption)):0≤(1:Int)∧(1:Int)<((F48 line).1.length:Int)) (ai (by (have hz:=Qd line; have hz0:=hz (Int.toNat 0); have hz1:=hz (Int.toNat 1); have hz2:=hz (Int.toNat 2); have hs:w15_.size=1:=rfl; (try simp only [Ql] at *); omega):(((((F48 line).1.getD (Int.toNat 0) default)++w15_).size+((F48 line).1.getD (Int.toNat 1) default).size:Nat):Int)≤9223372036854775807) (ai (by (have hz:=Qd line; have hz0:=hz (Int.toNat 0); have hz1:=hz (Int.toNat 1); have hz2:=hz (Int.toNat 2); have hs:w15_.size=1:=rfl; (try simp only [Ql] at *); omega):((((((F48 line).1.getD (Int.toNat 0) default)++w15_)++((F48 line).1.getD (Int.toNat 1) default)).size+w15_.size:Nat):Int)≤9223372036854775807) (ai (by (exact Vi _ (by assumption) (by assumption)):0≤(2:Int)∧(2:Int)<((F48 line).1.length:Int)) (ai (by (have hz:=Qd line; have hz0:=hz (Int.toNat 0); have hz1:=hz (Int.toNat 1); have hz2:=hz (Int.toNat 2); have hs:w15_.size=1:=rfl; (try simp only [Ql] at *); omega):(((((((F48 line).1.getD (Int.toNat 0) default)++w15_)++((F48 line).1.getD (Int.toNat 1) default))++w15_).size+((F48 line).1.getD (Int.toNat 2) default).size:Nat):Int)≤9223372036854775807) (fiS ((((((F48 line).1.getD (Int.toNat 0) default)++w15_)++((F48 line).1.getD (Int.toNat 1) default))++w15_)++((F48 line).1.getD (Int.toNat 2) default)) (F77 line) (condF h1 (condF h4 (condF h20 (condF h21 (condF h26 (condF h31 (condT h32 (condT h33 rfl)))))))))))))))) (fun h33=>fiS line (F77 line) (condF h1 (condF h4 (condF h20 (condF h21 (condF h26 (condF h31 (condT h32 (condF h33 rfl)))))))))) (fun h32=>ifb (((F48 line).1.getD (Int.toNat 0) default).toList==w3_.toList) (fun h34=>ai (by (exact kix0 _ (by assumption)):0≤(0:Int)∧(0:Int)<((F48 line).1.length:Int)) (ai (by (have hz:=Qd line; have hz0:=hz (Int.toNat 0); have hz1:=hz (Int.toNat 1); have hz2:=hz (Int.toNat 2); have hs:w15_.size=1:=rfl; (try simp only [Ql] at *); omega):((((F48 line).1.getD (Int.toNat 0) default).size+w15_.size:Nat):Int)≤9223372036854775807) (ai (by (exact kix1 _ (by assumption)):0≤(1:Int)∧(1:Int)<((F48 line).1.length:Int)) (ai (by (have hz:=Qd line; have hz0:=hz (Int.toNat 0); have hz1:=hz (Int.toNat 1); have hz2:=hz (Int.toNat 2); have hs:w15_.size=1:=rfl; (try simp only [Ql] at *); omega):(((((F48 line).1.getD (Int.toNat 0) default)++w15_).size+((F48 line).1.getD (Int.toNat 1) default).size:Nat):Int)≤9223372036854775807) (ai (by (have hz:=Qd line; have hz0:=hz (Int.toNat 0); have hz1:=hz (Int.toNat 1); have hz2:=hz (Int.toNat 2); have hs:w15_.size=1:=rfl; (try simp only [Ql] at *); omega):((((((F48 line).1.getD (Int.toNat 0) default)++w15_)++((F48 line).1.getD (Int.toNat 1) default)).size+w15_.size:Nat):Int)≤9223372036854775807) (ai (by (exact Vk _ (by assumption) (by assumption)):0≤(2:Int)∧(2:Int)<((F48 line).1.length:Int)) (ai (by (have hz:=Qd line; have hz0:=hz (Int.toNat 0); have hz1:=hz (Int.toNat 1); have hz2:=hz (Int.toNat 2); have hs:w15_.size=1:=rfl; (try simp only [Ql] at *); omega):(((((((F48 line).1.getD (Int.toNat 0) default)++w15_)++((F48 line).1.getD (Int.toNat 1) default))++w15_).size+((F48 line).1.getD (Int.toNat 2) default).size:Nat):Int)≤9223372036854775807) (fiS ((((((F48 line).1.getD (Int.toNat 0) default)++w15_)++((F48 line).1.getD (Int.toNat 1) default))++w15_)++((F48 line).1.getD (Int.toNat 2) default)) (F77 line) (condF h1 (condF h4 (condF h20 (condF h21 (condF h26 (condF h31 (condF h32 (condT h34 rfl)))))))))))))))) (fun h34=>fiS line (F77 line) (condF h1 (condF h4 (condF h20 (condF h21 (condF h26 (condF h31 (condF h32 (condF h34 rfl)))))))))))))))))))) (by kernel_rfl)
theorem join1 (a sp:ByteArray):Zc [a] sp=a:=Vt (by show Lib.join _ _=_; exact Lib.join_one _ _)
theorem Ht (ws:List ByteArray) (sp:ByteArray):(Zc ws sp).data.toList=Lib.join (ws.map (·.data.toList)) sp.data.toList:=rfl
theorem Qwd (a b sp:ByteArray):Zc [a,b] sp=(a++sp)++b:=Vt (by
 rw [Ht,List.map_cons,Lib.join_cons]
 simp [Lib.joinTail,ByteArray.data_append,Array.toList_append,List.append_assoc])
theorem join3 (a b c sp:ByteArray):Zc [a,b,c] sp=(((a++sp)++b)++sp)++c:=Vt (by
 rw [Ht,List.map_cons,Lib.join_cons]
 simp [Lib.joinTail,ByteArray.data_append,Array.toList_append,List.append_assoc])
theorem Qiq (w:List ByteArray) (h:1≤w.length):w.take 1=[w.getD 0 default]:=by
 match w,h with
 | a :: _,_=>rfl
theorem Tg (w:List ByteArray) (h:2≤w.length):w.take 2=[w.getD 0 default,w.getD 1 default]:=by
 match w,h with
 | a :: b :: _,_=>rfl
theorem Ef (w:List ByteArray) (h:3≤w.length):w.take 3=[w.getD 0 default,w.getD 1 default,w.getD 2 default]:=by
 match w,h with
 | a :: b :: c :: _,_=>rfl
theorem Qvi (line:ByteArray) (h:F94 line=true):F77 line=Zc ((F48 line).1.take (keyN (((F48 line).1.getD 0 default).data.toList)).toNat) (⟨#[32]⟩:ByteArray):=by
 have hk:=Gy line h
 have hj:=hk.joins
 unfold F77
 have e0:(F48 line).1.getD (Int.toNat 0) default=(F48 line).1.getD 0 default:=rfl
 have e1:(F48 line).1.getD (Int.toNat 1) default=(F48 line).1.getD 1 default:=rfl
 have e2:(F48 line).1.getD (Int.toNat 2) default=(F48 line).1.getD 2 default:=rfl
 simp only [h,Bool.not_true,cond_false,e0,e1,e2,blit]
 have hf:=hk.form
 generalize (F48 line).1=w at hf hj
 rcases hf with hf | hf | hf | hf | hf | hf | hf | hf
 ·have h0:=hf.1
  have hn:keyN (w.getD 0 default).data.toList=1:=by rw [h0]; decide
  have hl:2≤w.length:=by unfold Qdt at hf; omega
  rw [hn,show ((1:Int).toNat)=1 from rfl]
  simp only [h0,show (([104,111,115,116]:List UInt8)==([104,111,115,116]:List UInt8))=true from by decide ,show (([104,111,115,116]:List UInt8)==([117,115,101,114]:List UInt8))=false from by decide ,show (([104,111,115,116]:List UInt8)==([112,111,114,116]:List UInt8))=false from by decide ,show (([104,111,115,116]:List UInt8)==([114,117,108,101]:List UInt8))=false from by decide ,show (([104,111,115,116]:List UInt8)==([114,111,117,116,101]:List UInt8))=false from by decide ,show (([104,111,115,116]:List UInt8)==([112,101,101,114]:List UInt8))=false from by decide ,show (([104,111,115,116]:List UInt8)==([110,97,116]:List UInt8))=false from by decide ,show (([104,111,115,116]:List UInt8)==([100,111,111,114]:List UInt8))=false from by decide,cond_true,cond_false]
  rw [Qiq w (by omega),join1]
 ·have h0:=hf.1
  have hn:keyN (w.getD 0 default).data.toList=2:=by rw [h0]; decide
  have hl:2≤w.length:=by unfold Wr at hf; omega
  rw [hn,show ((2:Int).toNat)=2 from rfl]
  simp only [h0,show (([117,115,101,114]:List UInt8)==([104,111,115,116]:List UInt8))=false from by decide ,show (([117,115,101,114]:List UInt8)==([117,115,101,114]:List UInt8))=true from by decide ,show (([117,115,101,114]:List UInt8)==([112,111,114,116]:List UInt8))=false from by decide ,show (([117,115,101,114]:List UInt8)==([114,117,108,101]:List UInt8))=false from by decide ,show (([117,115,101,114]:List UInt8)==([114,111,117,116,101]:List UInt8))=false from by decide ,show (([117,115,101,114]:List UInt8)==([112,101,101,114]:List UInt8))=false from by decide ,show (([117,115,101,114]:List UInt8)==([110,97,116]:List UInt8))=false from by decide ,show (([117,115,101,114]:List UInt8)==([100,111,111,114]:List UInt8))=false from by decide,cond_true,cond_false]
  rw [Tg w (by omega),Qwd]
 ·have h0:=hf.1
  have hn:keyN (w.getD 0 default).data.toList=2:=by rw [h0]; decide
  have hl:2≤w.length:=by unfold Jd at hf; omega
  rw [hn,show ((2:Int).toNat)=2 from rfl]
  simp only [h0,show (([112,111,114,116]:List UInt8)==([104,111,115,116]:List UInt8))=false from by decide ,show (([112,111,114,116]:List UInt8)==([117,115,101,114]:List UInt8))=false from by decide ,show (([112,111,114,116]:List UInt8)==([112,111,114,116]:List UInt8))=true from by decide ,show (([112,111,114,116]:List UInt8)==([114,117,108,101]:List UInt8))=false from by decide ,show (([112,111,114,116]:List UInt8)==([114,111,117,116,101]:List UInt8))=false from by decide ,show (([112,111,114,116]:List UInt8)==([112,101,101,114]:List UInt8))=false from by decide ,show (([112,111,114,116]:List UInt8)==([110,97,116]:List UInt8))=false from by decide ,show (([112,111,114,116]:List UInt8)==([100,111,111,114]:List UInt8))=false from by decide,cond_true,cond_false]
  rw [Tg w (by omega),Qwd]
 ·have h0:=hf.1
  have hn:keyN (w.getD 0 default).data.toList=3:=by rw [h0]; decide
  have hl:3≤w.length:=by unfold Wf at hf; omega
  rw [hn,show ((3:Int).toNat)=3 from rfl]
  simp only [h0,show (([114,117,108,101]:List UInt8)==([104,111,115,116]:List UInt8))=false from by decide ,show (([114,117,108,101]:List UInt8)==([117,115,101,114]:List UInt8))=false from by decide ,show (([114,117,108,101]:List UInt8)==([112,111,114,116]:List UInt8))=false from by decide ,show (([114,117,108,101]:List UInt8)==([114,117,108,101]:List UInt8))=true from by decide ,show (([114,117,108,101]:List UInt8)==([114,111,117,116,101]:List UInt8))=false from by decide ,show (([114,117,108,101]:List UInt8)==([112,101,101,114]:List UInt8))=false from by decide ,show (([114,117,108,101]:List UInt8)==([110,97,116]:List UInt8))=false from by decide ,show (([114,117,108,101]:List UInt8)==([100,111,111,114]:List UInt8))=false from by decide,cond_true,cond_false]
  rw [Ef w (by omega),join3]
 ·have h0:=hf.1
  have hn:keyN (w.getD 0 default).data.toList=3:=by rw [h0]; decide
  have hl:3≤w.length:=by unfold Jz at hf; omega
  rw [hn,show ((3:Int).toNat)=3 from rfl]
  simp only [h0,show (([114,111,117,116,101]:List UInt8)==([104,111,115,116]:List UInt8))=false from by decide ,show (([114,111,117,116,101]:List UInt8)==([117,115,101,114]:List UInt8))=false from by decide ,show (([114,111,117,116,101]:List UInt8)==([112,111,114,116]:List UInt8))=false from by decide ,show (([114,111,117,116,101]:List UInt8)==([114,117,108,101]:List UInt8))=false from by decide ,show (([114,111,117,116,101]:List UInt8)==([114,111,117,116,101]:List UInt8))=true from by decide ,show (([114,111,117,116,101]:List UInt8)==([112,101,101,114]:List UInt8))=false from by decide ,show (([114,111,117,116,101]:List UInt8)==([110,97,116]:List UInt8))=false from by decide ,show (([114,111,117,116,101]:List UInt8)==([100,111,111,114]:List UInt8))=false from by decide,cond_true,cond_false]
  rw [List.take_of_length_le (by unfold Jz at hf; omega)]
  exact hj.symm
 ·have h0:=hf.1
  have hn:keyN (w.getD 0 default).data.toList=2:=by rw [h0]; decide
  have hl:2≤w.length:=by unfold Ly at hf; omega
  rw [hn,show ((2:Int).toNat)=2 from rfl]
  simp only [h0,show (([112,101,101,114]:List UInt8)==([104,111,115,116]:List UInt8))=false from by decide ,show (([112,101,101,114]:List UInt8)==([117,115,101,114]:List UInt8))=false from by decide ,show (([112,101,101,114]:List UInt8)==([112,111,114,116]:List UInt8))=false from by decide ,show (([112,101,101,114]:List UInt8)==([114,117,108,101]:List UInt8))=false from by decide ,show (([112,101,101,114]:List UInt8)==([114,111,117,116,101]:List UInt8))=false from by decide ,show (([112,101,101,114]:List UInt8)==([112,101,101,114]:List UInt8))=true from by decide ,show (([112,101,101,114]:List UInt8)==([110,97,116]:List UInt8))=false from by decide ,show (([112,101,101,114]:List UInt8)==([100,111,111,114]:List UInt8))=false from by decide,cond_true,cond_false]
  rw [Tg w (by omega),Qwd]
 ·have h0:=hf.1
  have hn:keyN (w.getD 0 default).data.toList=1:=by rw [h0]; decide
  have hl:2≤w.length:=by unfold natP at hf; omega
  rw [hn,show ((1:Int).toNat)=1 from rfl]
  simp only [h0,show (([110,97,116]:List UInt8)==([104,111,115,116]:List UInt8))=false from by decide ,show (([110,97,116]:List UInt8)==([117,115,101,114]:List UInt8))=false from by decide ,show (([110,97,116]:List UInt8)==([112,111,114,116]:List UInt8))=false from by decide ,show (([110,97,116]:List UInt8)==([114,117,108,101]:List UInt8))=false from by decide ,show (([110,97,116]:List UInt8)==([114,111,117,116,101]:List UInt8))=false from by decide ,show (([110,97,116]:List UInt8)==([112,101,101,114]:List UInt8))=false from by decide ,show (([110,97,116]:List UInt8)==([110,97,116]:List UInt8))=true from by decide ,show (([110,97,116]:List UInt8)==([100,111,111,114]:List UInt8))=false from by decide,cond_true,cond_false]
  rw [Qiq w (by omega),join1]
 ·have h0:=hf.1
  have hn:keyN (w.getD 0 default).data.toList=3:=by rw [h0]; decide
  have hl:3≤w.length:=by unfold Ui at hf; omega
  rw [hn,show ((3:Int).toNat)=3 from rfl]
  simp only [h0,show (([100,111,111,114]:List UInt8)==([104,111,115,116]:List UInt8))=false from by decide ,show (([100,111,111,114]:List UInt8)==([117,115,101,114]:List UInt8))=false from by decide ,show (([100,111,111,114]:List UInt8)==([112,111,114,116]:List UInt8))=false from by decide ,show (([100,111,111,114]:List UInt8)==([114,117,108,101]:List UInt8))=false from by decide ,show (([100,111,111,114]:List UInt8)==([114,111,117,116,101]:List UInt8))=false from by decide ,show (([100,111,111,114]:List UInt8)==([112,101,101,114]:List UInt8))=false from by decide ,show (([100,111,111,114]:List UInt8)==([110,97,116]:List UInt8))=false from by decide ,show (([100,111,111,114]:List UInt8)==([100,111,111,114]:List UInt8))=true from by decide,cond_true,cond_false]
  rw [Ef w (by omega),join3]
theorem Qvu (line:ByteArray):F60 line=F77 line:=by
 cases h:F94 line with
 | false =>
  unfold F60 F77
  rw [Vg,h]; rfl
 | true =>
  rw [Qvi line h]
  obtain ⟨k1,k2⟩:=Nr line h
  unfold F60
  rw [Vg,h,k1,k2]; rfl
theorem Qeg {α σ ρ τ ω:Type} [Inhabited α] (xs:List α) (upd:σ→α→σ) (emb:σ→Int→ω) (step:ω→Lp ω ρ)
  (h1:∀ (i:Nat) (s:σ),i<xs.length→step (emb s (i:Int))=.next (emb (upd s (xs.getD i default)) ((i+1:Nat):Int))) (h2:∀ s:σ,step (emb s (xs.length:Int))=.done (emb s (xs.length:Int)))
  (f:ρ→τ) (g:ω→τ):∀ (m i:Nat) (s:σ),i+m=xs.length→∀ fuel,m<fuel→(runL step fuel (emb s (i:Int))).fin f g=g (emb ((xs.drop i).foldl upd s) (xs.length:Int))
 | m,i,_,_,0,hf=>absurd hf (Nat.not_lt_zero _)
 | 0,i,s,h,fuel+1,hf=>by
  obtain rfl:i=xs.length:=by omega
  rw [Ky _ (h2 s),List.drop_of_length_le (Nat.le_refl _)]; rfl
 | m+1,i,s,h,fuel+1,hf=>by
  have hd:xs.drop i=xs.getD i default :: xs.drop (i+1):=by
   rw [List.drop_eq_getElem_cons (show i<xs.length by omega),List.getD_eq_getElem?_getD,List.getElem?_eq_getElem (show i<xs.length by omega)]; rfl
  rw [Yh _ (h1 i s (by omega)),Qeg xs upd emb step h1 h2 f g m (i+1) _ (by omega) fuel (by omega),hd,List.foldl_cons]
theorem Yg {α σ ρ τ ω:Type} [Inhabited α] (xs:List α) (upd:σ→α→σ) (emb:σ→Int→ω) (step:ω→Lp ω ρ)
  (h1:∀ (i:Nat) (s:σ),i<xs.length→step (emb s (i:Int))=.next (emb (upd s (xs.getD i default)) ((i+1:Nat):Int))) (h2:∀ s:σ,step (emb s (xs.length:Int))=.done (emb s (xs.length:Int)))
  (f:ρ→τ) (g:ω→τ) (s:σ):(runL step (((xs.length:Int)-0).toNat+1) (emb s 0)).fin f g=g (emb (xs.foldl upd s) (xs.length:Int)):=by
 have:=Qeg xs upd emb step h1 h2 f g xs.length 0 s (by omega) (Int.toNat ((xs.length:Int)-0)+1) (by omega)
 rw [List.drop_zero] at this
 exact this
theorem Kv {α:Type} [Inhabited α] (ws:List α) (p:α→Bool):∀ (m i:Nat),i+m=ws.length→anyF (fun k=>p (ws.getD k default)) i m=(ws.drop i).any p
 | 0,i,h=>by rw [List.drop_of_length_le (by omega)]; rfl
 | m+1,i,h=>by
  have hd:ws.drop i=ws.getD i default :: ws.drop (i+1):=by
   rw [List.drop_eq_getElem_cons (show i<ws.length by omega),List.getD_eq_getElem?_getD,List.getElem?_eq_getElem (show i<ws.length by omega)]; rfl
  rw [hd,List.any_cons,anyF,Kv ws p m (i+1) (by omega)]
theorem anyL {α ρ τ:Type} [Inhabited α] (xs:List α) (p:α→Bool) (bad:ρ) (step:Int→Lp Int ρ)
  (h1:∀ i:Nat,i<xs.length→step (i:Int)=bif p (xs.getD i default) then .ret bad else .next ((i+1:Nat):Int)) (h2:step (xs.length:Int)=.done (xs.length:Int))
  (f:ρ→τ) (g:Int→τ) (y:τ) (hg:∀ i,g i=y):(runL step (((xs.length:Int)-0).toNat+1) 0).fin f g=bif xs.any p then f bad else y:=by
 have h:=Zd step xs.length (fun k=>p (xs.getD k default)) bad f y h1 h2 xs.length 0 (by omega) (Int.toNat ((xs.length:Int)-0)+1) (by omega)
 rw [Kv xs p xs.length 0 (by omega),List.drop_zero] at h
 rw [show g=fun _=>y from funext hg]
 exact h
theorem Lq {α β:Type} (p:α→Bool) (f:α→β):∀ (xs:List α) (s:List β),xs.foldl (fun s x=>bif p x then s++[f x] else s) s=s++(xs.filter p).map f
 | [],s=>by simp
 | x :: xs,s=>by
  rw [List.foldl_cons,Lq p f xs]
  cases h:p x with
  | true=>rw [cond_true,List.filter_cons_of_pos h,List.map_cons,List.append_assoc]; rfl
  | false=>rw [cond_false,List.filter_cons_of_neg (by simp [h])]
theorem Zo {α β:Type} (f:α→β):∀ (xs:List α) (s:List β),xs.foldl (fun s x=>s++[f x]) s=s++xs.map f
 | [],s=>by simp
 | x :: xs,s=>by
  rw [List.foldl_cons,Zo f xs,List.map_cons,List.append_assoc]; rfl
theorem Xe {α:Type} (p:α→Bool):∀ (xs:List α) (n:Int),xs.foldl (fun n x=>bif p x then n+1 else n) n=n+(xs.filter p).length
 | [],n=>by simp
 | x :: xs,n=>by
  rw [List.foldl_cons,Xe p xs]
  cases h:p x with
  | true=>rw [cond_true,List.filter_cons_of_pos h,List.length_cons]; omega
  | false=>rw [cond_false,List.filter_cons_of_neg (by simp [h])]
theorem kc77 (line:ByteArray) {K_:Prop} (p0_:line.size≤1048576) (k_:K_):(line.size≤1048576)∧(Imp (.v (.string line)) (.v (.string line)))∧K_:=⟨p0_,Imp.refl _,k_⟩
abbrev kh77 (line:ByteArray):Hint true Tryz.prog:=.call 77 (S77 line) (ok77 line) none
def Bp (lines:List ByteArray):(List ByteArray×Int)→Lp (List ByteArray×Int) (List ByteArray):=fun (out,i40) =>
 bif (decide (i40<(lines.length:Int))) then (.next ((out++[(F77 (lines.getD i40.toNat default))]),(i40+1))) else (.done (out,i40))
def F46 (lines:List ByteArray):List ByteArray :=
 (runL (Bp lines) (((lines.length:Int)-0).toNat+1) (([]:List ByteArray),0)).fin (fun r=>r) (fun (out,i40)=>out)
abbrev Rx (lines:List ByteArray):Nat×(List ByteArray×Int):=((((lines.length:Int)-0).toNat+1),(([]:List ByteArray),0))
abbrev Qnv (lines:List ByteArray) (m39:Nat) (out:List ByteArray) (i40:Int):Prop:=Int.toNat ((lines.length:Int)-i40)<m39∧(out.length:Int)≤i40∧(0:Int)≤i40
abbrev Ubm (lines:List ByteArray):Lp (List ByteArray×Int) (List ByteArray):=LpX (Bp lines) (Rx lines)
abbrev Tr (lines:List ByteArray) (i:Nat×(List ByteArray×Int)):Prop:=LpJ (Bp lines) (Rx lines) i (Qnv lines i.1 i.2.1 i.2.2)
abbrev Qtl (lines:List ByteArray) (i:Nat×(List ByteArray×Int)) (m39:Nat) (out:List ByteArray) (i40:Int):Prop:=LpH (Bp lines) (Rx lines) i m39 (out,i40) (Qnv lines (m39+1) out i40)
abbrev Qwx (lines:List ByteArray) (out:List ByteArray) (i40:Int) (out_:List ByteArray) (i40_:Int) (K39:Prop):Prop:=((.int .i64 i40:Value)=.int .i64 i40_)∧(Im (.l 1 eStr lines))∧(Imp (.l 1 eStr out) (.l 1 eStr out_))∧K39
theorem un46_0 (lines:List ByteArray) (i:Nat×(List ByteArray×Int)) (h:Tr lines i):Qtl lines i (i.1-1) i.2.1 i.2.2:=⟨hd1 h.1 h.2.1,hd3 h.2.1,hd2 h.2.1,h.2.2⟩
theorem bk46_0 (lines:List ByteArray) (i:Nat×(List ByteArray×Int)) (m39:Nat) (out:List ByteArray) (i40:Int) (hl:m39<i.1) (e:runL (Bp lines) m39 (out,i40)=Ubm lines) (h:Qnv lines m39 out i40):∃ j:Nat×(List ByteArray×Int),Qwx lines out i40 j.2.1 j.2.2 (Tr lines j∧j.1<i.1):=⟨(m39,(out,i40)),rfl,Imp.refl _,Imp.refl _,⟨e,h⟩,hl⟩
theorem en46_0 (lines:List ByteArray) (h:(([]:List ByteArray).length:Int)≤0∧(0:Int)≤0):Qwx lines ([]:List ByteArray) 0 ([]:List ByteArray) 0 (Tr lines (Rx lines)):=⟨rfl,Imp.refl _,Imp.refl _,rfl,Nat.lt_succ_self _,h⟩
theorem fi46 (lines:List ByteArray) (r:List ByteArray) (hF:r=(F46 lines)):(Imp (.l 1 eStr r) (.l 1 eStr (F46 lines)))∧True:=by cases hF; exact ⟨Imp.refl _,trivial⟩
def S46 (R:List ByteArray) (lines:List ByteArray):Spec:=⟨[.r (.c (.l 1 eStr lines))],.ow (.l 1 eStr R),lines.length≤1048576∧(∀ k:Nat,(lines.getD k default).size≤1048576)⟩
theorem ok46 (lines:List ByteArray):(S46 (F46 lines) lines).ok Tryz.prog 46 :=
 Qi mixed (fn:=Tryz.f46) (ct:=.seqk [(0,0)] .no (.seq (.reg [(0,.dat (.l 1 eStr ([]:List ByteArray)))]) (.seq (.seqk [(0,0),(3,0)] .no (.blk (.loop (ι:=Nat×(List ByteArray×Int)) (fun i=>(fun (out:List ByteArray) (i40:Int)=>(⟨[(0,some (.h 0 0)),(3,some (.h 1 0)),(4,some (.v (vI i40)))],[(0,some (.shr none (.l 1 eStr lines))),(1,some (.own 1 (.l 1 eStr out)))],2⟩:St)) i.2.1 i.2.2) (Tr lines) (fun i=>i.1) (Rx lines) (fun i=>(fun (out:List ByteArray) (i40:Int)=>(.seq (.seq .no (.cond .no .no)) (.seq (.blk (.reg [(5,kh77 (lines.getD i40.toNat default)),(7,.dat (.l 1 eStr (out++[(F77 (lines.getD i40.toNat default))])))])) (.reg [(1,.bnd)])))) i.2.1 i.2.2)))) (.seq .no .no)))) Tryz.func46 (fun (hp:lines.length≤1048576∧(∀ k:Nat,(lines.getD k default).size≤1048576))=>have hpre0:=hp.1; have hpre1:=hp.2; kn lines fun _=>ai (bokr 1 eStr ([]:List ByteArray) fun _=>rfl) (kn lines fun _=>kn ([]:List ByteArray) fun _=>ai (en46_0 lines (by refine ⟨?_,?_⟩ <;> first | omega | (simp only [lens,ib] at*<;> omega))) (fun (i0:Nat×(List ByteArray×Int)) (hi0:Tr lines i0)=>(fun (m0:Nat) (out:List ByteArray) (i40:Int) (hh0:Qtl lines i0 m0 out i40)=>have hI0:=hh0.1; have hl0:=hh0.2.1; have _:=hh0.2.2.1; have _:=hh0.2.2.2; ifd (i40<(lines.length:Int)) (fun h2 _=>ai (by first | omega | (simp only [lens,ib] at*<;> omega):ib i40 lines) (kc77 (lines.getD i40.toNat default) (by first | omega | exact hpre1 _ | (intros; exact trivial) | (intros; exact Nat.zero_le _)) (ai (appr 1 eStr out [(F77 (lines.getD i40.toNat default))] fun _=>rfl) (ai (by (try simp only [lens]); omega:(out++[(F77 (lines.getD i40.toNat default))]).length*16≤140737488355328) (ai (iok (i40+1) (by first | omega | (simp only [lens,ib] at*<;> omega))) (bk46_0 lines i0 m0 (out++[(F77 (lines.getD i40.toNat default))]) (i40+1) hl0 (Qg hI0 (condT h2 rfl)) (by refine ⟨?_,?_,?_⟩ <;> first | omega | (simp only [lens,ib] at*<;> omega)))))))) (fun h2 _=>have hD0_3:Ubm lines=Lp.done (out,i40):=Qj hI0 (condF h2 rfl); fi46 lines out (finD hD0_3 rfl))) (i0.1-1) i0.2.1 i0.2.2 (un46_0 lines i0 hi0)))) (by kernel_rfl)
def Xk (lines:List ByteArray) (word:ByteArray):(List (List ByteArray)×Int)→Lp (List (List ByteArray)×Int) (List (List ByteArray)):=fun (out,v12) =>
 bif (decide (v12<(lines.length:Int))) then (bif (((F85 (lines.getD v12.toNat default) ⟨#[32]⟩).getD (Int.toNat 0) default).toList==word.toList) then (.next ((out++[(F85 (lines.getD v12.toNat default) ⟨#[32]⟩)]),(v12+1))) else (.next (out,(v12+1)))) else (.done (out,v12))
def F62 (lines:List ByteArray) (word:ByteArray):List (List ByteArray) :=
 (runL (Xk lines word) (((lines.length:Int)-0).toNat+1) (([]:List (List ByteArray)),0)).fin (fun r=>r) (fun (out,v12)=>out)
abbrev Qbu (lines:List ByteArray):Nat×(List (List ByteArray)×Int):=((((lines.length:Int)-0).toNat+1),(([]:List (List ByteArray)),0))
abbrev Qnq (lines:List ByteArray) (m39:Nat) (out:List (List ByteArray)) (v12:Int):Prop:=Int.toNat ((lines.length:Int)-v12)<m39∧(out.length:Int)≤v12∧(0:Int)≤v12
abbrev Qtf (lines:List ByteArray) (word:ByteArray):Lp (List (List ByteArray)×Int) (List (List ByteArray)):=LpX (Xk lines word) (Qbu lines)
abbrev Qbb (lines:List ByteArray) (word:ByteArray) (i:Nat×(List (List ByteArray)×Int)):Prop:=LpJ (Xk lines word) (Qbu lines) i (Qnq lines i.1 i.2.1 i.2.2)
abbrev Qtt (lines:List ByteArray) (word:ByteArray) (i:Nat×(List (List ByteArray)×Int)) (m39:Nat) (out:List (List ByteArray)) (v12:Int):Prop:=LpH (Xk lines word) (Qbu lines) i m39 (out,v12) (Qnq lines (m39+1) out v12)
abbrev Qzg (lines:List ByteArray) (word:ByteArray) (out:List (List ByteArray)) (v12:Int) (out_:List (List ByteArray)) (v12_:Int) (K39:Prop):Prop:=(Rf (.string word))∧(Rf (.int .i64 (lines.length:Int)))∧((.int .i64 v12:Value)=.int .i64 v12_)∧(Imp (.l 1 (eL 1 eStr) out) (.l 1 (eL 1 eStr) out_))∧(Im (.l 1 eStr lines))∧K39
theorem un62_0 (lines:List ByteArray) (word:ByteArray) (i:Nat×(List (List ByteArray)×Int)) (h:Qbb lines word i):Qtt lines word i (i.1-1) i.2.1 i.2.2:=⟨hd1 h.1 h.2.1,hd3 h.2.1,hd2 h.2.1,h.2.2⟩
theorem Uaz (lines:List ByteArray) (word:ByteArray) (i:Nat×(List (List ByteArray)×Int)) (m39:Nat) (out:List (List ByteArray)) (v12:Int) (hl:m39<i.1) (e:runL (Xk lines word) m39 (out,v12)=Qtf lines word) (h:Qnq lines m39 out v12):∃ j:Nat×(List (List ByteArray)×Int),Qzg lines word out v12 j.2.1 j.2.2 (Qbb lines word j∧j.1<i.1):=⟨(m39,(out,v12)),rfl,rfl,rfl,Imp.refl _,Imp.refl _,⟨e,h⟩,hl⟩
theorem en62_0 (lines:List ByteArray) (word:ByteArray) (h:(([]:List (List ByteArray)).length:Int)≤0∧(0:Int)≤0):Qzg lines word ([]:List (List ByteArray)) 0 ([]:List (List ByteArray)) 0 (Qbb lines word (Qbu lines)):=⟨rfl,rfl,rfl,Imp.refl _,Imp.refl _,rfl,Nat.lt_succ_self _,h⟩
theorem fi62 (lines:List ByteArray) (word:ByteArray) (r:List (List ByteArray)) (hF:r=(F62 lines word)):(Imp (.l 1 (eL 1 eStr) r) (.l 1 (eL 1 eStr) (F62 lines word)))∧True:=by cases hF; exact ⟨Imp.refl _,trivial⟩
def S62 (R:List (List ByteArray)) (lines:List ByteArray) (word:ByteArray):Spec:=⟨[.r (.c (.l 1 eStr lines)),.r (.c (.v (.string word)))],.ow (.l 1 (eL 1 eStr) R),lines.length≤1048576∧(∀ k:Nat,(lines.getD k default).size≤1048576)⟩
theorem ok62 (lines:List ByteArray) (word:ByteArray):(S62 (F62 lines word) lines word).ok Tryz.prog 62 :=
 Qi mixed (fn:=Tryz.f62) (ct:=.seqk [(0,0)] .no (.seq (.reg [(0,.dat (.l 1 (eL 1 eStr) ([]:List (List ByteArray))))]) (.seq (.seqk [(5,0),(10,0)] .no (.blk (.loop (ι:=Nat×(List (List ByteArray)×Int)) (fun i=>(fun (out:List (List ByteArray)) (v12:Int)=>(⟨[(1,some (.v (.string word))),(5,some (.h 0 0)),(10,some (.h 1 0)),(11,some (.v (vI (lines.length:Int)))),(12,some (.v (vI v12)))],[(0,some (.own 0 (.l 1 (eL 1 eStr) out))),(1,some (.shr none (.l 1 eStr lines)))],2⟩:St)) i.2.1 i.2.2) (Qbb lines word) (fun i=>i.1) (Qbu lines) (fun i=>(fun (out:List (List ByteArray)) (v12:Int)=>(.seq .no (.seq (.cond .no .no) (.seq (.blk (.seq .no (.seq (.reg [(1,kh85 (lines.getD v12.toNat default) w15_)]) (.seq .no (.cond (.reg [(3,.dat (.l 1 (eL 1 eStr) (out++[(F85 (lines.getD v12.toNat default) w15_)])))]) .no))))) (.reg [(0,.bnd)]))))) i.2.1 i.2.2)))) (.seq .no .no)))) Tryz.func62 (fun (hp:lines.length≤1048576∧(∀ k:Nat,(lines.getD k default).size≤1048576))=>have hpre0:=hp.1; have hpre1:=hp.2; kn lines fun _=>ai (bokr 1 (eL 1 eStr) ([]:List (List ByteArray)) fun _=>rfl) (kn ([]:List (List ByteArray)) fun _=>kn lines fun _=>ai (en62_0 lines word (by refine ⟨?_,?_⟩ <;> first | omega | (simp only [lens,ib] at*<;> omega))) (fun (i0:Nat×(List (List ByteArray)×Int)) (hi0:Qbb lines word i0)=>(fun (m0:Nat) (out:List (List ByteArray)) (v12:Int) (hh0:Qtt lines word i0 m0 out v12)=>have hI0:=hh0.1; have hl0:=hh0.2.1; have _:=hh0.2.2.1; have _:=hh0.2.2.2; ifd (v12<(lines.length:Int)) (fun h2 _=>ai (by first | omega | (simp only [lens,ib] at*<;> omega):ib v12 lines) (kc85 (lines.getD v12.toNat default) w15_ (by first | decide | (have hz:=hpre1 v12.toNat; omega)) (by first | decide | (have hz:=hpre1 v12.toNat; omega)) (by first | decide | (have hz:=hpre1 v12.toNat; omega)) (by first | decide | (have hz:=hpre1 v12.toNat; omega)) (fun gv3 gv4=>ai (by first | omega | (simp only [lens,ib] at*<;> omega):ib 0 (F85 (lines.getD v12.toNat default) w15_)) (ifb (((F85 (lines.getD v12.toNat default) w15_).getD (Int.toNat 0) default).toList==word.toList) (fun h5=>ai (appr 1 (eL 1 eStr) out [(F85 (lines.getD v12.toNat default) w15_)] fun _=>rfl) (ai (by (try simp only [lens]); omega:(out++[(F85 (lines.getD v12.toNat default) w15_)]).length*24≤140737488355328) (ai (iok (v12+1) (by first | omega | (simp only [lens,ib] at*<;> omega))) (Uaz lines word i0 m0 (out++[(F85 (lines.getD v12.toNat default) w15_)]) (v12+1) hl0 (Qg hI0 (condT h2 (condT h5 rfl))) (by refine ⟨?_,?_,?_⟩ <;> first | omega | (simp only [lens,ib] at*<;> omega)))))) (fun h5=>ai (iok (v12+1) (by first | omega | (simp only [lens,ib] at*<;> omega))) (Uaz lines word i0 m0 out (v12+1) hl0 (Qg hI0 (condT h2 (condF h5 rfl))) (by refine ⟨?_,?_,?_⟩ <;> first | omega | (simp only [lens,ib] at*<;> omega)))))))) (fun h2 _=>have hD0_6:Qtf lines word=Lp.done (out,v12):=Qj hI0 (condF h2 rfl); fi62 lines word out (finD hD0_6 rfl))) (i0.1-1) i0.2.1 i0.2.2 (un62_0 lines word i0 hi0)))) (by kernel_rfl)
theorem as46 (lines:List ByteArray):F46 lines=(lines.map F77):=by
 unfold F46
 have:=Yg lines (fun (s:List ByteArray) x=>s++[F77 x]) (fun s i=>(s,i)) (Bp lines) (fun i s hi=>by
  simp only [Bp,ltD hi,cond_true,nn]; rfl) (fun s=>by simp only [Bp,geD,cond_false]) (fun r=>r) (fun (out,i40)=>out) []
 refine this.trans ?_
 rw [Zo,List.nil_append]
def Qa (lines:List ByteArray) (word:ByteArray):List (List ByteArray):=(lines.map fun l=>Qy l (⟨#[32]⟩:ByteArray)).filter fun w=>(w.getD 0 default).data.toList==word.data.toList
theorem as62 (lines:List ByteArray) (word:ByteArray):F62 lines word=(Qa lines word):=by
 unfold F62
 have:=Yg lines (fun (s:List (List ByteArray)) x=>bif ((Qy x (⟨#[32]⟩:ByteArray)).getD 0 default).data.toList==word.data.toList then s++[Qy x (⟨#[32]⟩:ByteArray)] else s) (fun s i=>(s,i)) (Xk lines word) (fun i s hi=>by
  simp only [Xk,ltD hi,cond_true,nn,Ud,F85]
  show (bif ((Qy (lines.getD i default) (⟨#[32]⟩:ByteArray)).getD 0 default).data.toList==word.data.toList then _ else _)=_
  cases (((Qy (lines.getD i default) (⟨#[32]⟩:ByteArray)).getD 0 default).data.toList==word.data.toList) <;> rfl) (fun s=>by simp only [Xk,geD,cond_false]) (fun r=>r) (fun (out,v12)=>out) []
 refine this.trans ?_
 have h:=Lq (fun x=>((Qy x (⟨#[32]⟩:ByteArray)).getD 0 default).data.toList==word.data.toList) (fun x=>Qy x (⟨#[32]⟩:ByteArray)) lines []
 rw [List.nil_append] at h
 refine h.trans ?_
 unfold Qa
 rw [List.filter_map]
 rfl
def T46 (R:List ByteArray) (lines:List ByteArray):Spec:=⟨(S46 R lines).args,(S46 R lines).res,lines.length≤1048576∧(∀ k:Nat,(lines.getD k default).size≤1048576)⟩
theorem oa46 (lines:List ByteArray):(T46 (lines.map F77) lines).ok Tryz.prog 46:=by
 intro hp; have h:=ok46 lines hp; rw [as46 lines] at h; exact h
def T62 (R:List (List ByteArray)) (lines:List ByteArray) (word:ByteArray):Spec:=⟨(S62 R lines word).args,(S62 R lines word).res,lines.length≤1048576∧(∀ k:Nat,(lines.getD k default).size≤1048576)⟩
theorem oa62 (lines:List ByteArray) (word:ByteArray):(T62 (Qa lines word) lines word).ok Tryz.prog 62:=by
 intro hp; have h:=ok62 lines word hp; rw [as62 lines word] at h; exact h
def F58 (l:ByteArray):Bool :=
 (!(F59 l))
def S58 (l:ByteArray):Spec:=⟨[.r (.c (.v (.string l)))],.v (.bool (F58 l)),l.size≤1048576⟩
theorem ok58 (l:ByteArray):(S58 l).ok Tryz.prog 58 false :=
 Qi mixed (fn:=Tryz.f58) (ct:=.seq .no (.seq (.reg [(1,kh59 l)]) .no)) Tryz.func58 (fun (hpre0:l.size≤1048576)=>kc59 l (by omega) (fiB (!(F59 l)) (F58 l) rfl)) (by kernel_rfl)
theorem kc60 (line:ByteArray) {K_:Prop} (p0_:line.size≤1048576) (k_:K_):(line.size≤1048576)∧(Imp (.v (.string line)) (.v (.string line)))∧K_:=⟨p0_,Imp.refl _,k_⟩
abbrev kh60 (line:ByteArray):Hint false Tryz.prog:=.call 60 (S60 line) (ok60 line) none
def Xt (lines:List ByteArray):(Int×ML Bool)→Lp (Int×ML Bool) Int:=fun (v31,ms) =>
 bif (decide (v31<(lines.length:Int))) then (.next ((v31+1),(putM ms (F60 (lines.getD v31.toNat default)) true))) else (.done (v31,ms))
def Qcr (lines:List ByteArray):Lp (ML Bool) Int :=
 (runL (Xt lines) (((lines.length:Int)-0).toNat+1) (0,([]:ML Bool))).fin Lp.ret (fun (v31,ms)=>.done ms)
def Nn (lines:List ByteArray):Int→Lp Int Int:=fun i40 =>
 bif (decide (i40<(lines.length:Int))) then (bif (!(Op.bytesLess (lines.getD (i40-1).toNat default).toList (lines.getD i40.toNat default).toList)) then (.ret 3) else (.next (i40+1))) else (.done i40)
def F35 (lines:List ByteArray):Int :=
 bif (decide ((lines.length:Int)>16)) then 1 else (bif (lines.any (fun (x0:ByteArray)=>F58 x0)) then 2 else ((runL (Nn lines) (((lines.length:Int)-1).toNat+1) 1).fin (fun r=>r) (fun i40=>(Qcr lines).fin (fun r=>r) (fun keys=>bif (decide ((keys.length:Int)<(lines.length:Int))) then 4 else 0))))
abbrev Eg (lines:List ByteArray):Nat×(Int×ML Bool):=((((lines.length:Int)-0).toNat+1),(0,([]:ML Bool)))
abbrev Qmi (lines:List ByteArray) (m39:Nat) (v31:Int) (ms:ML Bool):Prop:=Int.toNat ((lines.length:Int)-v31)<m39∧(0:Int)≤v31
abbrev Qyx (lines:List ByteArray):Lp (Int×ML Bool) Int:=LpX (Xt lines) (Eg lines)
abbrev Em (lines:List ByteArray) (i:Nat×(Int×ML Bool)):Prop:=LpJ (Xt lines) (Eg lines) i (Qmi lines i.1 i.2.1 i.2.2)
abbrev Qxo (lines:List ByteArray) (i:Nat×(Int×ML Bool)) (m39:Nat) (v31:Int) (ms:ML Bool):Prop:=LpH (Xt lines) (Eg lines) i m39 (v31,ms) (Qmi lines (m39+1) v31 ms)
abbrev Uao (lines:List ByteArray) (v31:Int) (ms:ML Bool) (v31_:Int) (ms_:ML Bool) (K39:Prop):Prop:=(Rf (.int .i64 (lines.length:Int)))∧((.int .i64 v31:Value)=.int .i64 v31_)∧(Im (.l 1 eStr lines))∧(Imp (.x (MX Value.bool ms)) (.x (MX Value.bool ms_)))∧K39
theorem un35_1 (lines:List ByteArray) (i:Nat×(Int×ML Bool)) (h:Em lines i):Qxo lines i (i.1-1) i.2.1 i.2.2:=⟨hd1 h.1 h.2.1,hd3 h.2.1,hd2 h.2.1,h.2.2⟩
theorem bk35_1 (lines:List ByteArray) (i:Nat×(Int×ML Bool)) (m39:Nat) (v31:Int) (ms:ML Bool) (hl:m39<i.1) (e:runL (Xt lines) m39 (v31,ms)=Qyx lines) (h:Qmi lines m39 v31 ms):∃ j:Nat×(Int×ML Bool),Uao lines v31 ms j.2.1 j.2.2 (Em lines j∧j.1<i.1):=⟨(m39,(v31,ms)),rfl,rfl,Imp.refl _,Imp.refl _,⟨e,h⟩,hl⟩
theorem en35_1 (lines:List ByteArray) (h:(0:Int)≤0):Uao lines 0 ([]:ML Bool) 0 ([]:ML Bool) (Em lines (Eg lines)):=⟨rfl,rfl,Imp.refl _,Imp.refl _,rfl,Nat.lt_succ_self _,h⟩
abbrev Qky (lines:List ByteArray) (j:ML Bool):Prop:=(Qcr lines)=Lp.done j
theorem jn35_0 (lines:List ByteArray) (keys:ML Bool) (e:(Qcr lines)=Lp.done keys):∃ j:ML Bool,(Imp (.l 1 eStr lines) (.l 1 eStr lines))∧(Imp (.x (MX Value.bool keys)) (.x (MX Value.bool j)))∧Qky lines j:=⟨keys,Imp.refl _,Imp.refl _,e⟩
abbrev Ez (lines:List ByteArray):Nat×Int:=((((lines.length:Int)-1).toNat+1),1)
abbrev Qnk (lines:List ByteArray) (m39:Nat) (i40:Int):Prop:=Int.toNat ((lines.length:Int)-i40)<m39∧(1:Int)≤i40∧(0:Int)≤i40
abbrev Qys (lines:List ByteArray):Lp Int Int:=LpX (Nn lines) (Ez lines)
abbrev Th (lines:List ByteArray) (i:Nat×Int):Prop:=LpJ (Nn lines) (Ez lines) i (Qnk lines i.1 i.2)
abbrev Qyu (lines:List ByteArray) (i:Nat×Int) (m39:Nat) (i40:Int):Prop:=LpH (Nn lines) (Ez lines) i m39 i40 (Qnk lines (m39+1) i40)
abbrev Qtn (lines:List ByteArray) (i40:Int) (i40_:Int) (K39:Prop):Prop:=((.int .i64 i40:Value)=.int .i64 i40_)∧(Im (.l 1 eStr lines))∧K39
theorem un35_0 (lines:List ByteArray) (i:Nat×Int) (h:Th lines i):Qyu lines i (i.1-1) i.2:=⟨hd1 h.1 h.2.1,hd3 h.2.1,hd2 h.2.1,h.2.2⟩
theorem bk35_0 (lines:List ByteArray) (i:Nat×Int) (m39:Nat) (i40:Int) (hl:m39<i.1) (e:runL (Nn lines) m39 i40=Qys lines) (h:Qnk lines m39 i40):∃ j:Nat×Int,Qtn lines i40 j.2 (Th lines j∧j.1<i.1):=⟨(m39,i40),rfl,Imp.refl _,⟨e,h⟩,hl⟩
theorem en35_0 (lines:List ByteArray) (h:(1:Int)≤1∧(0:Int)≤1):Qtn lines 1 1 (Th lines (Ez lines)):=⟨rfl,Imp.refl _,rfl,Nat.lt_succ_self _,h⟩
def S35 (lines:List ByteArray):Spec:=⟨[.r (.c (.l 1 eStr lines))],.v (vI (F35 lines)),(∀ k:Nat,(lines.getD k default).size≤1048576)⟩
theorem ok35 (lines:List ByteArray):(S35 lines).ok Tryz.prog 35 false :=
 Qi mixed (fn:=Tryz.f35) (ct:=.seqk [(0,0)] .no (.seq (.seq .no (.cond (.seq .no .no) .no)) (.seq (.seq (.reg [(1,.call 57 (S57 (lines.any (fun (x0:ByteArray)=>F58 x0)) lines (fun (x0:ByteArray)=>F58 x0) (fun (x0:ByteArray)=>x0.size≤1048576)) (oa57 lines (fun (x0:ByteArray)=>F58 x0) (fun (x0:ByteArray)=>x0.size≤1048576)) (some ⟨false,58,Zv (fun (x0:ByteArray)=>x0.size≤1048576) (fun (x0:ByteArray)=>F58 x0),[],rfl,True,fun i=>Xo (ok58 i)⟩))]) (.cond (.seq .no .no) .no)) (.seq (.seqk [(0,0)] .no (.blk (.loop (ι:=Nat×Int) (fun i=>(fun (i40:Int)=>(⟨[(0,some (.h 0 0)),(3,some (.v (vI i40)))],[(0,some (.shr none (.l 1 eStr lines)))],1⟩:St)) i.2) (Th lines) (fun i=>i.1) (Ez lines) (fun i=>(fun (i40:Int)=>(.seq (.seq .no (.cond .no .no)) (.seq (.blk (.seq (.reg [(2,.bnd)]) (.cond (.seq .no .no) .no))) (.reg [(1,.bnd)])))) i.2)))) (.seq (.reg [(0,.mpm Value.bool)]) (.cut (ι:=ML Bool) (fun j=>(fun (keys:ML Bool)=>(⟨[(0,some (.h 0 0)),(4,some (.h 1 0))],[(0,some (.shr none (.l 1 eStr lines))),(1,some (.own 1 (.x (MX Value.bool keys))))],2⟩:St)) j) (Qky lines) (.seqk [(29,0)] .no (.blk (.loop (ι:=Nat×(Int×ML Bool)) (fun i=>(fun (v31:Int) (ms:ML Bool)=>(⟨[(0,some (.h 0 0)),(4,some (.h 1 0)),(29,some (.h 0 0)),(30,some (.v (vI (lines.length:Int)))),(31,some (.v (vI v31)))],[(0,some (.shr none (.l 1 eStr lines))),(1,some (.own 1 (.x (MX Value.bool ms))))],2⟩:St)) i.2.1 i.2.2) (Em lines) (fun i=>i.1) (Eg lines) (fun i=>(fun (v31:Int) (ms:ML Bool)=>(.seq .no (.seq (.cond .no .no) (.seq (.blk (.seq .no (.reg [(2,kh60 (lines.getD v31.toNat default)),(3,.mpu Value.bool ms true)]))) (.reg [(0,.bnd)]))))) i.2.1 i.2.2)))) (fun j=>(fun (keys:ML Bool)=>(.seq (.seq (.reg [(1,.mpn Value.bool keys)]) (.cond (.seq .no .no) .no)) (.seq .no .no))) j))))))) Tryz.func35 (fun (hpre0:∀ k:Nat,(lines.getD k default).size≤1048576)=>kn lines fun _=>ifd ((lines.length:Int)>16) (fun h1 _=>fiI 1 (F35 lines) (condT h1 rfl)) (fun h1 _=>ai (by first | assumption | exact hpre0 _ | exact fun k _=>hpre0 k | (intros; exact trivial) | (intros; exact Nat.zero_le _):∀ k:Nat,k<lines.length→(fun (x0:ByteArray)=>x0.size≤1048576) (lines.getD k default)) (ai (Imp.refl (.l 1 eStr lines)) (ai (Eq.refl (Zv (fun (x0:ByteArray)=>x0.size≤1048576) (fun (x0:ByteArray)=>F58 x0))) (ai trivial (ifb (lines.any (fun (x0:ByteArray)=>F58 x0)) (fun h2=>fiI 2 (F35 lines) (condF h1 (condT h2 rfl))) (fun h2=>kn lines fun _=>ai (en35_0 lines (by refine ⟨?_,?_⟩ <;> omega)) (fun (i0:Nat×Int) (hi0:Th lines i0)=>(fun (m0:Nat) (i40:Int) (hh0:Qyu lines i0 m0 i40)=>have hI0:=hh0.1; have hl0:=hh0.2.1; have _:=hh0.2.2.1; have _:=hh0.2.2.2; ifd (i40<(lines.length:Int)) (fun h4 _=>ai (iok (i40-1) (by omega)) (ai (by omega:ib (i40-1) lines) (ai (by omega:ib i40 lines) (ifb (!(Op.bytesLess (lines.getD (i40-1).toNat default).toList (lines.getD i40.toNat default).toList)) (fun h5=>fiI 3 (F35 lines) (condF h1 (condF h2 (finR (Qp hI0 (condT h4 (condT h5 rfl))) rfl)))) (fun h5=>ai (iok (i40+1) (by omega)) (bk35_0 lines i0 m0 (i40+1) hl0 (Qg hI0 (condT h4 (condF h5 rfl))) (by refine ⟨?_,?_,?_⟩ <;> omega))))))) (fun h4 _=>have hD0_6:Qys lines=Lp.done i40:=Qj hI0 (condF h4 rfl); ai (kn lines fun _=>ai (en35_1 lines (by omega)) (fun (i1:Nat×(Int×ML Bool)) (hi1:Em lines i1)=>(fun (m1:Nat) (v31:Int) (ms:ML Bool) (hh1:Qxo lines i1 m1 v31 ms)=>have hI1:=hh1.1; have hl1:=hh1.2.1; have _:=hh1.2.2.1; have _:=hh1.2.2.2; ifd (v31<(lines.length:Int)) (fun h8 _=>ai (by omega:ib v31 lines) (kc60 (lines.getD v31.toNat default) (by first | omega | exact hpre0 _ | (intros; exact trivial) | (intros; exact Nat.zero_le _)) (ai (Eq.refl (MX Value.bool ms)) (ai (Eq.refl (Value.bool true)) (ai (iok (v31+1) (by omega)) (bk35_1 lines i1 m1 (v31+1) (putM ms (F60 (lines.getD v31.toNat default)) true) hl1 (Qg hI1 (condT h8 rfl)) (by refine ⟨?_,?_⟩ <;> omega))))))) (fun h8 _=>have hD1_9:Qyx lines=Lp.done (v31,ms):=Qj hI1 (condF h8 rfl); jn35_0 lines ms (Eq.symm (finD hD1_9 rfl)) )) (i1.1-1) i1.2.1 i1.2.2 (un35_1 lines i1 hi1))) (fun (j:ML Bool) (hj:Qky lines j)=>(fun (keys:ML Bool) (hJ0_10:(Qcr lines)=Lp.done keys)=>ai (Eq.refl (MX Value.bool keys)) (ifd ((keys.length:Int)<(lines.length:Int)) (fun h11 _=>fiI 4 (F35 lines) (condF h1 (condF h2 (finD hD0_6 (finD hJ0_10 (condT h11 rfl)))))) (fun h11 _=>fiI 0 (F35 lines) (condF h1 (condF h2 (finD hD0_6 (finD hJ0_10 (condF h11 rfl)))))))) j hj))) (i0.1-1) i0.2 (un35_0 lines i0 hi0))))))))) (by kernel_rfl)
theorem kc46a (lines:List ByteArray) {K_:Prop} (p0_:lines.length≤1048576) (p1_:∀ k:Nat,(lines.getD k default).size≤1048576) (k_:K_):(lines.length≤1048576∧(∀ k:Nat,(lines.getD k default).size≤1048576))∧(Imp (.l 1 eStr lines) (.l 1 eStr lines))∧K_:=⟨⟨p0_,p1_⟩,Imp.refl _,k_⟩
abbrev kh46a (lines:List ByteArray):Hint true Tryz.prog:=.call 46 (T46 (lines.map F77) lines) (oa46 lines) none
def Vc (lines:List ByteArray):Int→Lp Int Int:=fun i42 =>
 bif (decide (i42<(lines.length:Int))) then (bif (F47 ((lines.map F77).take i42.toNat) ((lines.map F77).getD i42.toNat default)) then (.ret 4) else (.next (i42+1))) else (.done i42)
def Xq (lines:List ByteArray):Int→Lp Int Int:=fun i41 =>
 bif (decide (i41<(lines.length:Int))) then (bif (!(Op.bytesLess (lines.getD (i41-1).toNat default).toList (lines.getD i41.toNat default).toList)) then (.ret 3) else (.next (i41+1))) else (.done i41)
def Jf (lines:List ByteArray):Int→Lp Int Int:=fun i40 =>
 bif (decide (i40<(lines.length:Int))) then (bif (((lines.map F77).getD i40.toNat default).toList==(⟨#[]⟩:ByteArray).toList) then (.ret 2) else (.next (i40+1))) else (.done i40)
def F27 (lines:List ByteArray):Int :=
 bif (decide ((lines.length:Int)>16)) then 1 else ((runL (Jf lines) (((lines.length:Int)-0).toNat+1) 0).fin (fun r=>r) (fun i40=>(runL (Xq lines) (((lines.length:Int)-1).toNat+1) 1).fin (fun r=>r) (fun i41=>(runL (Vc lines) (((lines.length:Int)-0).toNat+1) 0).fin (fun r=>r) (fun i42=>0))))
abbrev Tn (lines:List ByteArray):Nat×Int:=((((lines.length:Int)-0).toNat+1),0)
abbrev Qlm (lines:List ByteArray) (m39:Nat) (i42:Int):Prop:=Int.toNat ((lines.length:Int)-i42)<m39∧(0:Int)≤i42
abbrev Qsw (lines:List ByteArray):Lp Int Int:=LpX (Vc lines) (Tn lines)
abbrev Ty (lines:List ByteArray) (i:Nat×Int):Prop:=LpJ (Vc lines) (Tn lines) i (Qlm lines i.1 i.2)
abbrev Ubg (lines:List ByteArray) (i:Nat×Int) (m39:Nat) (i42:Int):Prop:=LpH (Vc lines) (Tn lines) i m39 i42 (Qlm lines (m39+1) i42)
abbrev Qty (lines:List ByteArray) (i42:Int) (i42_:Int) (K39:Prop):Prop:=((.int .i64 i42:Value)=.int .i64 i42_)∧(Im (.l 1 eStr lines))∧(Im (.l 1 eStr (lines.map F77)))∧K39
theorem un27_2 (lines:List ByteArray) (i:Nat×Int) (h:Ty lines i):Ubg lines i (i.1-1) i.2:=⟨hd1 h.1 h.2.1,hd3 h.2.1,hd2 h.2.1,h.2.2⟩
theorem bk27_2 (lines:List ByteArray) (i:Nat×Int) (m39:Nat) (i42:Int) (hl:m39<i.1) (e:runL (Vc lines) m39 i42=Qsw lines) (h:Qlm lines m39 i42):∃ j:Nat×Int,Qty lines i42 j.2 (Ty lines j∧j.1<i.1):=⟨(m39,i42),rfl,Imp.refl _,Imp.refl _,⟨e,h⟩,hl⟩
theorem en27_2 (lines:List ByteArray) (h:(0:Int)≤0):Qty lines 0 0 (Ty lines (Tn lines)):=⟨rfl,Imp.refl _,Imp.refl _,rfl,Nat.lt_succ_self _,h⟩
abbrev Qak (lines:List ByteArray):Nat×Int:=((((lines.length:Int)-1).toNat+1),1)
abbrev Qmk (lines:List ByteArray) (m39:Nat) (i41:Int):Prop:=Int.toNat ((lines.length:Int)-i41)<m39∧(1:Int)≤i41∧(0:Int)≤i41
abbrev Qxj (lines:List ByteArray):Lp Int Int:=LpX (Xq lines) (Qak lines)
abbrev Qas (lines:List ByteArray) (i:Nat×Int):Prop:=LpJ (Xq lines) (Qak lines) i (Qmk lines i.1 i.2)
abbrev Qww (lines:List ByteArray) (i:Nat×Int) (m39:Nat) (i41:Int):Prop:=LpH (Xq lines) (Qak lines) i m39 i41 (Qmk lines (m39+1) i41)
abbrev Qxh (lines:List ByteArray) (i41:Int) (i41_:Int) (K39:Prop):Prop:=((.int .i64 i41:Value)=.int .i64 i41_)∧(Im (.l 1 eStr lines))∧(Im (.l 1 eStr (lines.map F77)))∧K39
theorem un27_1 (lines:List ByteArray) (i:Nat×Int) (h:Qas lines i):Qww lines i (i.1-1) i.2:=⟨hd1 h.1 h.2.1,hd3 h.2.1,hd2 h.2.1,h.2.2⟩
theorem bk27_1 (lines:List ByteArray) (i:Nat×Int) (m39:Nat) (i41:Int) (hl:m39<i.1) (e:runL (Xq lines) m39 i41=Qxj lines) (h:Qmk lines m39 i41):∃ j:Nat×Int,Qxh lines i41 j.2 (Qas lines j∧j.1<i.1):=⟨(m39,i41),rfl,Imp.refl _,Imp.refl _,⟨e,h⟩,hl⟩
theorem en27_1 (lines:List ByteArray) (h:(1:Int)≤1∧(0:Int)≤1):Qxh lines 1 1 (Qas lines (Qak lines)):=⟨rfl,Imp.refl _,Imp.refl _,rfl,Nat.lt_succ_self _,h⟩
abbrev Ts (lines:List ByteArray):Nat×Int:=((((lines.length:Int)-0).toNat+1),0)
abbrev Qlh (lines:List ByteArray) (m39:Nat) (i40:Int):Prop:=Int.toNat ((lines.length:Int)-i40)<m39∧(0:Int)≤i40
abbrev Uaw (lines:List ByteArray):Lp Int Int:=LpX (Jf lines) (Ts lines)
abbrev Qcm (lines:List ByteArray) (i:Nat×Int):Prop:=LpJ (Jf lines) (Ts lines) i (Qlh lines i.1 i.2)
abbrev Qwj (lines:List ByteArray) (i:Nat×Int) (m39:Nat) (i40:Int):Prop:=LpH (Jf lines) (Ts lines) i m39 i40 (Qlh lines (m39+1) i40)
abbrev Qxd (lines:List ByteArray) (i40:Int) (i40_:Int) (K39:Prop):Prop:=((.int .i64 i40:Value)=.int .i64 i40_)∧(Im (.l 1 eStr lines))∧(Im (.l 1 eStr (lines.map F77)))∧K39
theorem un27_0 (lines:List ByteArray) (i:Nat×Int) (h:Qcm lines i):Qwj lines i (i.1-1) i.2:=⟨hd1 h.1 h.2.1,hd3 h.2.1,hd2 h.2.1,h.2.2⟩
theorem bk27_0 (lines:List ByteArray) (i:Nat×Int) (m39:Nat) (i40:Int) (hl:m39<i.1) (e:runL (Jf lines) m39 i40=Uaw lines) (h:Qlh lines m39 i40):∃ j:Nat×Int,Qxd lines i40 j.2 (Qcm lines j∧j.1<i.1):=⟨(m39,i40),rfl,Imp.refl _,Imp.refl _,⟨e,h⟩,hl⟩
theorem en27_0 (lines:List ByteArray) (h:(0:Int)≤0):Qxd lines 0 0 (Qcm lines (Ts lines)):=⟨rfl,Imp.refl _,Imp.refl _,rfl,Nat.lt_succ_self _,h⟩
def S27 (lines:List ByteArray):Spec:=⟨[.r (.c (.l 1 eStr lines))],.v (vI (F27 lines)),(∀ k:Nat,(lines.getD k default).size≤1048576)⟩
theorem ok27 (lines:List ByteArray):(S27 lines).ok Tryz.prog 27 :=
 Qi mixed (fn:=Tryz.f27) (ct:=.seqk [(0,0)] .no (.seq (.seq .no (.cond (.seq .no .no) .no)) (.seq (.reg [(1,kh46a lines)]) (.seq (.seqk [(0,0),(3,0)] .no (.blk (.loop (ι:=Nat×Int) (fun i=>(fun (i40:Int)=>(⟨[(0,some (.h 0 0)),(3,some (.h 1 0)),(4,some (.v (vI i40)))],[(0,some (.shr none (.l 1 eStr lines))),(1,some (.own 1 (.l 1 eStr (lines.map F77))))],2⟩:St)) i.2) (Qcm lines) (fun i=>i.1) (Ts lines) (fun i=>(fun (i40:Int)=>(.seq (.seq .no (.cond .no .no)) (.seq (.blk (.seq .no (.cond (.seq .no .no) .no))) (.reg [(1,.bnd)])))) i.2)))) (.seq (.seqk [(0,0)] .no (.blk (.loop (ι:=Nat×Int) (fun i=>(fun (i41:Int)=>(⟨[(0,some (.h 0 0)),(3,some (.h 1 0)),(5,some (.v (vI i41)))],[(0,some (.shr none (.l 1 eStr lines))),(1,some (.own 1 (.l 1 eStr (lines.map F77))))],2⟩:St)) i.2) (Qas lines) (fun i=>i.1) (Qak lines) (fun i=>(fun (i41:Int)=>(.seq (.seq .no (.cond .no .no)) (.seq (.blk (.seq (.reg [(2,.bnd)]) (.cond (.seq .no .no) .no))) (.reg [(1,.bnd)])))) i.2)))) (.seq (.seqk [(0,0),(3,0)] .no (.blk (.loop (ι:=Nat×Int) (fun i=>(fun (i42:Int)=>(⟨[(0,some (.h 0 0)),(3,some (.h 1 0)),(6,some (.v (vI i42)))],[(0,some (.shr none (.l 1 eStr lines))),(1,some (.own 1 (.l 1 eStr (lines.map F77))))],2⟩:St)) i.2) (Ty lines) (fun i=>i.1) (Tn lines) (fun i=>(fun (i42:Int)=>(.seq (.seq .no (.cond .no .no)) (.seq (.blk (.seq (.reg [(7,kh47 ((lines.map F77).take i42.toNat) ((lines.map F77).getD i42.toNat default))]) (.cond (.seq .no .no) .no))) (.reg [(1,.bnd)])))) i.2)))) (.seq .no .no))))))) Tryz.func27 (fun (hpre0:∀ k:Nat,(lines.getD k default).size≤1048576)=>kn lines fun _=>ifd ((lines.length:Int)>16) (fun h1 _=>fiI 1 (F27 lines) (condT h1 rfl)) (fun h1 _=>kc46a lines (by first | omega | (simp only [lens,ib] at*<;> omega)) (by first | assumption | exact hpre0 _ | exact fun k _=>hpre0 k | (intros; exact trivial) | (intros; exact Nat.zero_le _)) (kn lines fun _=>kn (lines.map F77) fun _=>ai (en27_0 lines (by first | omega | (simp only [lens,ib] at*<;> omega))) (fun (i0:Nat×Int) (hi0:Qcm lines i0)=>(fun (m0:Nat) (i40:Int) (hh0:Qwj lines i0 m0 i40)=>have hI0:=hh0.1; have hl0:=hh0.2.1; have _:=hh0.2.2.1; have _:=hh0.2.2.2; ifd (i40<(lines.length:Int)) (fun h3 _=>ai (by first | omega | (simp only [lens,ib] at*<;> omega):ib i40 (lines.map F77)) (ifb (((lines.map F77).getD i40.toNat default).toList==w13_.toList) (fun h4=>fiI 2 (F27 lines) (condF h1 (finR (Qp hI0 (condT h3 (condT h4 rfl))) rfl))) (fun h4=>ai (iok (i40+1) (by first | omega | (simp only [lens,ib] at*<;> omega))) (bk27_0 lines i0 m0 (i40+1) hl0 (Qg hI0 (condT h3 (condF h4 rfl))) (by refine ⟨?_,?_⟩ <;> first | omega | (simp only [lens,ib] at*<;> omega)))))) (fun h3 _=>have hD0_5:Uaw lines=Lp.done i40:=Qj hI0 (condF h3 rfl); kn lines fun _=>ai (en27_1 lines (by refine ⟨?_,?_⟩ <;> first | omega | (simp only [lens,ib] at*<;> omega))) (fun (i1:Nat×Int) (hi1:Qas lines i1)=>(fun (m1:Nat) (i41:Int) (hh1:Qww lines i1 m1 i41)=>have hI1:=hh1.1; have hl1:=hh1.2.1; have _:=hh1.2.2.1; have _:=hh1.2.2.2; ifd (i41<(lines.length:Int)) (fun h7 _=>ai (iok (i41-1) (by first | omega | (simp only [lens,ib] at*<;> omega))) (ai (by first | omega | (simp only [lens,ib] at*<;> omega):ib (i41-1) lines) (ai (by first | omega | (simp only [lens,ib] at*<;> omega):ib i41 lines) (ifb (!(Op.bytesLess (lines.getD (i41-1).toNat default).toList (lines.getD i41.toNat default).toList)) (fun h8=>fiI 3 (F27 lines) (condF h1 (finD hD0_5 (finR (Qp hI1 (condT h7 (condT h8 rfl))) rfl)))) (fun h8=>ai (iok (i41+1) (by first | omega | (simp only [lens,ib] at*<;> omega))) (bk27_1 lines i1 m1 (i41+1) hl1 (Qg hI1 (condT h7 (condF h8 rfl))) (by refine ⟨?_,?_,?_⟩ <;> first | omega | (simp only [lens,ib] at*<;> omega)))))))) (fun h7 _=>have hD1_9:Qxj lines=Lp.done i41:=Qj hI1 (condF h7 rfl); kn lines fun _=>kn (lines.map F77) fun _=>ai (en27_2 lines (by first | omega | (simp only [lens,ib] at*<;> omega))) (fun (i2:Nat×Int) (hi2:Ty lines i2)=>(fun (m2:Nat) (i42:Int) (hh2:Ubg lines i2 m2 i42)=>have hI2:=hh2.1; have hl2:=hh2.2.1; have _:=hh2.2.2.1; have _:=hh2.2.2.2; ifd (i42<(lines.length:Int)) (fun h11 _=>ai (by first | omega | (simp only [lens,ib] at*<;> omega):0≤(0:Int)∧(0:Int)≤i42∧i42≤((lines.map F77).length:Int)) (ai (by first | omega | (simp only [lens,ib] at*<;> omega):ib i42 (lines.map F77)) (kc47 ((lines.map F77).take i42.toNat) ((lines.map F77).getD i42.toNat default) (ifb (F47 ((lines.map F77).take i42.toNat) ((lines.map F77).getD i42.toNat default)) (fun h12=>fiI 4 (F27 lines) (condF h1 (finD hD0_5 (finD hD1_9 (finR (Qp hI2 (condT h11 (condT h12 rfl))) rfl))))) (fun h12=>ai (iok (i42+1) (by first | omega | (simp only [lens,ib] at*<;> omega))) (bk27_2 lines i2 m2 (i42+1) hl2 (Qg hI2 (condT h11 (condF h12 rfl))) (by refine ⟨?_,?_⟩ <;> first | omega | (simp only [lens,ib] at*<;> omega)))))))) (fun h11 _=>have hD2_13:Qsw lines=Lp.done i42:=Qj hI2 (condF h11 rfl); fiI 0 (F27 lines) (condF h1 (finD hD0_5 (finD hD1_9 (finD hD2_13 rfl)))))) (i2.1-1) i2.2 (un27_2 lines i2 hi2)))) (i1.1-1) i1.2 (un27_1 lines i1 hi1)))) (i0.1-1) i0.2 (un27_0 lines i0 hi0))))) (by kernel_rfl)
instance baLawful:LawfulBEq ByteArray where
 eq_of_beq h:=(Go.MapKept.bytes_beq _ _).1 h
 rfl:=(Go.MapKept.bytes_beq _ _).2 rfl
theorem Ubs (l:ByteArray) (h:F94 l=false):F77 l=(⟨#[]⟩:ByteArray):=by
 unfold F77
 rw [h]; rfl
theorem Qdo (l:ByteArray):((F77 l).toList==(⟨#[]⟩:ByteArray).toList)=!F94 l:=by
 cases h:F94 l with
 | false=>rw [Ubs l h]; rw [Qgd]; rfl
 | true =>
  rw [Ud,Ud,Qvi l h,Bool.not_true,beq_eq_false_iff_ne]
  have hk:=Gy l h
  have hl:=Bq _ hk.form
  have hn:=Pd _ hk.form
  have hno:=hk.no
  generalize (F48 l).1=w at hl hn hno
  match w,hl with
  | a :: r,_ =>
   have e:((keyN (((a :: r).getD 0 default).data.toList)).toNat)=(keyN (((a :: r).getD 0 default).data.toList)).toNat-1+1:=by omega
   rw [e,List.take_succ_cons,Ht,List.map_cons,Lib.join_cons]
   intro h0
   exact (hno a List.mem_cons_self).2.1 (List.append_eq_nil_iff.1 h0).1
def dupK:List ByteArray→List ByteArray→Bool
 | _,[]=>false
 | seen,s :: r=>decide (s∈seen) || dupK (seen++[s]) r
def insK (ks:List ByteArray) (s:ByteArray):List ByteArray:=if s∈ks then ks else ks++[s]
theorem Qqm:∀ (keys ks:List ByteArray),(keys.foldl insK ks).length≤ks.length+keys.length
 | [],ks=>by simp
 | s :: r,ks=>by
  rw [List.foldl_cons]
  have h:=Qqm r (insK ks s)
  have h2:(insK ks s).length≤ks.length+1:=by unfold insK; split <;> simp
  simp only [List.length_cons]; omega
theorem Qir:∀ (keys ks seen:List ByteArray),(∀ s,s∈ks↔s∈seen)→decide ((keys.foldl insK ks).length<ks.length+keys.length)=dupK seen keys
 | [],ks,seen,_=>by simp [dupK]
 | s :: r,ks,seen,h=>by
  rw [List.foldl_cons,dupK]
  by_cases hs:s∈ks
  ·have e:insK ks s=ks:=by unfold insK; rw [if_pos hs]
   rw [e,decide_eq_true ((h s).1 hs),Bool.true_or]
   have:=Qqm r ks
   exact decide_eq_true (by simp only [List.length_cons]; omega)
  ·have e:insK ks s=ks++[s]:=by unfold insK; rw [if_neg hs]
   rw [e,decide_eq_false (fun x=>hs ((h s).2 x)),Bool.false_or,← Qir r (ks++[s]) (seen++[s]) (fun t=>by simp [h t])]
   congr 1
   simp only [List.length_append,List.length_cons,List.length_nil]
   exact propext ⟨fun x=>by omega,fun x=>by omega⟩
theorem Qee {α:Type}:∀ (m:ML α) (s:ByteArray) (x:α),(putM m s x).map (·.1)=insK (m.map (·.1)) s
 | [],s,x=>by simp [putM,insK]
 | p :: m,s,x=>by
  rw [putM]
  by_cases h:p.1=s
  ·rw [if_pos h]; subst h; simp [insK]
  ·rw [if_neg h,List.map_cons,Qee m s x]
   unfold insK
   have h':¬ s=p.1:=fun e=>h e.symm
   by_cases hm:s∈m.map (·.1)
   ·rw [if_pos hm,List.map_cons,if_pos (List.mem_cons_of_mem _ hm)]
   ·rw [if_neg hm,List.map_cons,if_neg (by simp only [List.mem_cons,not_or]; exact ⟨h',hm⟩)]; rfl
theorem Tc {α:Type} (f:ByteArray→ByteArray) (v:ByteArray→α):∀ (ls:List ByteArray) (m:ML α),(ls.foldl (fun m l=>putM m (f l) (v l)) m).map (·.1)=(ls.map f).foldl insK (m.map (·.1))
 | [],m=>rfl
 | l :: ls,m=>by
  rw [List.foldl_cons,Tc f v ls,Qee,List.map_cons,List.foldl_cons]
theorem Qhu (ws:List ByteArray) (x:ByteArray):F47 ws x=decide (x∈ws):=by
 rw [Tq,Bool.eq_iff_iff,List.any_eq_true,decide_eq_true_eq]
 constructor
 ·rintro ⟨e,he,h⟩
  rw [Qgd,decide_eq_true_eq] at h
  exact h ▸ he
 ·exact fun h=>⟨x,h,by rw [Qgd]; exact decide_eq_true rfl⟩
theorem Qin (keys:List ByteArray):∀ (m i:Nat),i+m=keys.length→anyF (fun k=>decide (keys.getD k default∈keys.take k)) i m=dupK (keys.take i) (keys.drop i)
 | 0,i,h=>by rw [List.drop_of_length_le (by omega)]; rfl
 | m+1,i,h=>by
  have hd:keys.drop i=keys.getD i default :: keys.drop (i+1):=by
   rw [List.drop_eq_getElem_cons (show i<keys.length by omega),List.getD_eq_getElem?_getD,List.getElem?_eq_getElem (show i<keys.length by omega)]; rfl
  rw [hd,dupK,anyF,Qin keys m (i+1) (by omega),Nv (show i<keys.length by omega)]
theorem Qid (f:ByteArray→ByteArray) (ls:List ByteArray) (i:Nat) (h:i<ls.length):(ls.map f).getD i default=f (ls.getD i default):=by
 rw [Wb _ (by simpa using h),Wb _ h,List.getElem_map]
theorem Qml {α:Type} {p q:α→Bool} {xs:List α} (h:∀ x,p x=q x):xs.any p=xs.any q:=by rw [show p=q from funext h]
theorem Qft (lines:List ByteArray):F35 lines=F27 lines:=by
 unfold F35 F27
 have hkept:∀ x:ByteArray,F58 x=!F94 x:=fun x=>by unfold F58; rw [Vg]
 cases h16:decide ((lines.length:Int)>16) with
 | true=>rfl
 | false =>
 rw [cond_false,cond_false]
 have h0:=anyL lines (fun l=>!F94 l) (2:Int) (Jf lines) (fun i hi=>by
  simp only [Jf,ltD hi,cond_true,nn,Qid _ _ _ hi,Qdo]
  rfl) (by simp only [Jf,geD,cond_false]) (fun r=>r) (fun _=>(runL (Xq lines) ((Int.toNat ((lines.length:Int)-1))+1) 1).fin (fun r=>r) (fun i41=>(runL (Vc lines) ((Int.toNat ((lines.length:Int)-0))+1) 0).fin (fun r=>r) (fun i42=>0))) _ (fun _=>rfl)
 rw [h0]
 have e1:(lines.any fun x0=>F58 x0)=lines.any fun l=>!F94 l:=Qml hkept
 rw [e1]
 cases (lines.any fun l=>!F94 l) with
 | true=>rfl
 | false =>
 rw [cond_false,cond_false]
 have e2:Nn lines=Xq lines:=rfl
 rw [e2]
 congr 1
 funext i
 have h2:=Zd (Vc lines) lines.length (fun k=>decide ((lines.map F77).getD k default∈(lines.map F77).take k)) (4:Int) (fun r=>r) (0:Int) (fun i hi=>by
  simp only [Vc,ltD hi,cond_true,nn,Qhu]; rfl) (by simp only [Vc,geD,cond_false]) lines.length 0 (by omega) (Int.toNat ((lines.length:Int)-0)+1) (by omega)
 rw [Qin (lines.map F77) lines.length 0 (by simp),List.take_zero,List.drop_zero] at h2
 refine Eq.trans ?_ h2.symm
 have h3:=Yg lines (fun (m:ML Bool) l=>putM m (F77 l) true) (fun m i=>(i,m)) (Xt lines) (fun i s hi=>by
  simp only [Xt,ltD hi,cond_true,nn,Qvu]; rfl) (fun s=>by simp only [Xt,geD,cond_false]) Lp.ret (fun (v31,ms)=>Lp.done ms) ([]:ML Bool)
 have h4:Qcr lines=Lp.done (lines.foldl (fun (m:ML Bool) l=>putM m (F77 l) true) []):=h3
 rw [h4]
 show (bif decide (((lines.foldl (fun (m:ML Bool) l=>putM m (F77 l) true) []).length:Int)<(lines.length:Int)) then (4:Int) else 0)=_
 have h5:=Qir (lines.map F77) [] [] (fun s=>Iff.rfl)
 have h6:(lines.foldl (fun (m:ML Bool) l=>putM m (F77 l) true) []).length=((lines.map F77).foldl insK []).length:=by
  have:=congrArg List.length (Tc F77 (fun _=>true) lines [])
  rw [List.length_map] at this
  exact this
 rw [← h5,h6]
 congr 1
 simp only [List.length_nil,Nat.zero_add,List.length_map]
 exact decide_eq_decide.2 (by omega)
theorem Md (lines:List ByteArray) (h:F27 lines=0):lines.length≤16∧∀ l∈lines,F94 l=true:=by
 unfold F27 at h
 cases h16:decide ((lines.length:Int)>16) with
 | true=>rw [h16,cond_true] at h; exact absurd h (by decide)
 | false =>
 rw [h16,cond_false] at h
 have h0:=anyL lines (fun l=>!F94 l) (2:Int) (Jf lines) (fun i hi=>by
  simp only [Jf,ltD hi,cond_true,nn,Qid _ _ _ hi,Qdo]
  rfl) (by simp only [Jf,geD,cond_false]) (fun r=>r) (fun _=>(runL (Xq lines) ((Int.toNat ((lines.length:Int)-1))+1) 1).fin (fun r=>r) (fun i41=>(runL (Vc lines) ((Int.toNat ((lines.length:Int)-0))+1) 0).fin (fun r=>r) (fun i42=>0))) _ (fun _=>rfl)
 rw [h0] at h
 cases ha:(lines.any fun l=>!F94 l) with
 | true=>rw [ha,cond_true] at h; exact absurd h (by decide)
 | false =>
  have h1:=of_decide_eq_false h16
  refine ⟨by omega,fun l hl=>?_⟩
  have:=List.any_eq_false.1 ha l hl
  cases hk:F94 l with
  | true=>rfl
  | false=>rw [hk] at this; exact absurd rfl this
theorem La (lines:List ByteArray) (h:F27 lines=0):lines.length≤16:=(Md lines h).1
theorem Qnz (lines:List ByteArray) (word:ByteArray) (h:lines.length≤16):(Qa lines word).length≤16:=by
 unfold Qa
 have:=List.length_filter_le (fun w:List ByteArray=>(w.getD 0 default).data.toList==word.data.toList) (lines.map fun l=>Qy l (⟨#[32]⟩:ByteArray))
 rw [List.length_map] at this
 omega
theorem Eo (l:ByteArray) (h:F94 l=true):Qy l (⟨#[32]⟩:ByteArray)=(F48 l).1:=(Gy l h).splits
theorem Qcu {lines:List ByteArray} {word:ByteArray} {w:List ByteArray} (h:F27 lines=0) (hw:w∈Qa lines word):∃ l∈lines,Qyk l w∧(w.getD 0 default).data.toList=word.data.toList:=by
 obtain ⟨h1,h2⟩:=List.mem_filter.1 hw
 obtain ⟨l,hl,rfl⟩:=List.mem_map.1 h1
 have hk:=(Md lines h).2 l hl
 refine ⟨l,hl,?_,eq_of_beq h2⟩
 rw [Eo l hk]
 exact Gy l hk
theorem Uz {lines:List ByteArray} {word:ByteArray} (h:F27 lines=0) {k:Nat} (hk:k<(Qa lines word).length):Ws ((Qa lines word).getD k default)∧(((Qa lines word).getD k default).getD 0 default).data.toList=word.data.toList:=by
 obtain ⟨l,hl,h1,h2⟩:=Qcu h (Jg _ hk)
 exact ⟨h1.form,h2⟩
theorem Qjm (lines:List ByteArray) (word:ByteArray) (h:F27 lines=0) (k j:Nat):(((Qa lines word).getD k default).getD j default).size≤24:=by
 by_cases hk:k<(Qa lines word).length
 ·obtain ⟨l,hl,h1,h2⟩:=Qcu h (Jg _ hk)
  by_cases hj:j<((Qa lines word).getD k default).length
  ·exact (h1.no _ (Jg _ hj)).2.2
  ·rw [Jr _ (show ((Qa lines word).getD k default).length≤j by omega)]; exact Nat.zero_le _
 ·rw [Jr _ (show (Qa lines word).length≤k by omega)]; exact Nat.zero_le _
theorem Zj (lines:List ByteArray) (word:ByteArray) (h:F27 lines=0) (k j:Nat):(((Qa lines word).getD k default).getD j default).size≤1048576:=Nat.le_trans (Qjm lines word h k j) (by decide)
theorem Uen {w:List ByteArray} (h:Ws w) (h0:(w.getD 0 default).data.toList=[117,115,101,114]):Wr w:=by
 rcases h with h | h | h | h | h | h | h | h
 ·exact absurd (h0.symm.trans h.1) (by decide)
 ·exact h
 ·exact absurd (h0.symm.trans h.1) (by decide)
 ·exact absurd (h0.symm.trans h.1) (by decide)
 ·exact absurd (h0.symm.trans h.1) (by decide)
 ·exact absurd (h0.symm.trans h.1) (by decide)
 ·exact absurd (h0.symm.trans h.1) (by decide)
 ·exact absurd (h0.symm.trans h.1) (by decide)
theorem Uff (lines:List ByteArray) (h:F27 lines=0):∀ k:Nat,k<(Qa lines (⟨#[117,115,101,114]⟩:ByteArray)).length→Wr ((Qa lines (⟨#[117,115,101,114]⟩:ByteArray)).getD k default):=fun k hk=>Uen (Uz h hk).1 (Uz h hk).2
theorem Re {w:List ByteArray} (h:Ws w) (h0:(w.getD 0 default).data.toList=[112,111,114,116]):Jd w:=by
 rcases h with h | h | h | h | h | h | h | h
 ·exact absurd (h0.symm.trans h.1) (by decide)
 ·exact absurd (h0.symm.trans h.1) (by decide)
 ·exact h
 ·exact absurd (h0.symm.trans h.1) (by decide)
 ·exact absurd (h0.symm.trans h.1) (by decide)
 ·exact absurd (h0.symm.trans h.1) (by decide)
 ·exact absurd (h0.symm.trans h.1) (by decide)
 ·exact absurd (h0.symm.trans h.1) (by decide)
theorem Qra (lines:List ByteArray) (h:F27 lines=0):∀ k:Nat,k<(Qa lines (⟨#[112,111,114,116]⟩:ByteArray)).length→Jd ((Qa lines (⟨#[112,111,114,116]⟩:ByteArray)).getD k default):=fun k hk=>Re (Uz h hk).1 (Uz h hk).2
theorem Ucw {w:List ByteArray} (h:Ws w) (h0:(w.getD 0 default).data.toList=[114,117,108,101]):Wf w:=by
 rcases h with h | h | h | h | h | h | h | h
 ·exact absurd (h0.symm.trans h.1) (by decide)
 ·exact absurd (h0.symm.trans h.1) (by decide)
 ·exact absurd (h0.symm.trans h.1) (by decide)
 ·exact h
 ·exact absurd (h0.symm.trans h.1) (by decide)
 ·exact absurd (h0.symm.trans h.1) (by decide)
 ·exact absurd (h0.symm.trans h.1) (by decide)
 ·exact absurd (h0.symm.trans h.1) (by decide)
theorem Qol (lines:List ByteArray) (h:F27 lines=0):∀ k:Nat,k<(Qa lines (⟨#[114,117,108,101]⟩:ByteArray)).length→Wf ((Qa lines (⟨#[114,117,108,101]⟩:ByteArray)).getD k default):=fun k hk=>Ucw (Uz h hk).1 (Uz h hk).2
theorem Qxl {w:List ByteArray} (h:Ws w) (h0:(w.getD 0 default).data.toList=[114,111,117,116,101]):Jz w:=by
 rcases h with h | h | h | h | h | h | h | h
 ·exact absurd (h0.symm.trans h.1) (by decide)
 ·exact absurd (h0.symm.trans h.1) (by decide)
 ·exact absurd (h0.symm.trans h.1) (by decide)
 ·exact absurd (h0.symm.trans h.1) (by decide)
 ·exact h
 ·exact absurd (h0.symm.trans h.1) (by decide)
 ·exact absurd (h0.symm.trans h.1) (by decide)
 ·exact absurd (h0.symm.trans h.1) (by decide)
theorem Qzx (lines:List ByteArray) (h:F27 lines=0):∀ k:Nat,k<(Qa lines (⟨#[114,111,117,116,101]⟩:ByteArray)).length→Jz ((Qa lines (⟨#[114,111,117,116,101]⟩:ByteArray)).getD k default):=fun k hk=>Qxl (Uz h hk).1 (Uz h hk).2
theorem Ucy {w:List ByteArray} (h:Ws w) (h0:(w.getD 0 default).data.toList=[112,101,101,114]):Ly w:=by
 rcases h with h | h | h | h | h | h | h | h
 ·exact absurd (h0.symm.trans h.1) (by decide)
 ·exact absurd (h0.symm.trans h.1) (by decide)
 ·exact absurd (h0.symm.trans h.1) (by decide)
 ·exact absurd (h0.symm.trans h.1) (by decide)
 ·exact absurd (h0.symm.trans h.1) (by decide)
 ·exact h
 ·exact absurd (h0.symm.trans h.1) (by decide)
 ·exact absurd (h0.symm.trans h.1) (by decide)
theorem Ufc (lines:List ByteArray) (h:F27 lines=0):∀ k:Nat,k<(Qa lines (⟨#[112,101,101,114]⟩:ByteArray)).length→Ly ((Qa lines (⟨#[112,101,101,114]⟩:ByteArray)).getD k default):=fun k hk=>Ucy (Uz h hk).1 (Uz h hk).2
theorem Ucg {w:List ByteArray} (h:Ws w) (h0:(w.getD 0 default).data.toList=[110,97,116]):natP w:=by
 rcases h with h | h | h | h | h | h | h | h
 ·exact absurd (h0.symm.trans h.1) (by decide)
 ·exact absurd (h0.symm.trans h.1) (by decide)
 ·exact absurd (h0.symm.trans h.1) (by decide)
 ·exact absurd (h0.symm.trans h.1) (by decide)
 ·exact absurd (h0.symm.trans h.1) (by decide)
 ·exact absurd (h0.symm.trans h.1) (by decide)
 ·exact h
 ·exact absurd (h0.symm.trans h.1) (by decide)
theorem Zk (lines:List ByteArray) (h:F27 lines=0):∀ k:Nat,k<(Qa lines (⟨#[110,97,116]⟩:ByteArray)).length→natP ((Qa lines (⟨#[110,97,116]⟩:ByteArray)).getD k default):=fun k hk=>Ucg (Uz h hk).1 (Uz h hk).2
theorem Udj {w:List ByteArray} (h:Ws w) (h0:(w.getD 0 default).data.toList=[100,111,111,114]):Ui w:=by
 rcases h with h | h | h | h | h | h | h | h
 ·exact absurd (h0.symm.trans h.1) (by decide)
 ·exact absurd (h0.symm.trans h.1) (by decide)
 ·exact absurd (h0.symm.trans h.1) (by decide)
 ·exact absurd (h0.symm.trans h.1) (by decide)
 ·exact absurd (h0.symm.trans h.1) (by decide)
 ·exact absurd (h0.symm.trans h.1) (by decide)
 ·exact absurd (h0.symm.trans h.1) (by decide)
 ·exact h
theorem Ya (lines:List ByteArray) (h:F27 lines=0):∀ k:Nat,k<(Qa lines (⟨#[100,111,111,114]⟩:ByteArray)).length→Ui ((Qa lines (⟨#[100,111,111,114]⟩:ByteArray)).getD k default):=fun k hk=>Udj (Uz h hk).1 (Uz h hk).2
theorem Lv (lines:List ByteArray) (word:ByteArray) {K_:Prop} (p0_:lines.length≤1048576) (p1_:∀ k:Nat,(lines.getD k default).size≤1048576) (q0_:lines.length≤16) (k_:((Qa lines word).length≤16)→K_):(lines.length≤1048576∧(∀ k:Nat,(lines.getD k default).size≤1048576))∧(Imp (.l 1 eStr lines) (.l 1 eStr lines))∧(Imp (.v (.string word)) (.v (.string word)))∧K_:=⟨⟨p0_,p1_⟩,Imp.refl _,Imp.refl _,k_ (Qnz lines word q0_)⟩
abbrev kh62a (lines:List ByteArray) (word:ByteArray):Hint true Tryz.prog:=.call 62 (T62 (Qa lines word) lines word) (oa62 lines word) none
abbrev Bc (lines:List ByteArray) (word:ByteArray):Hint false Tryz.prog:=.call 62 (T62 (Qa lines word) lines word) ((oa62 lines word).to false) none
def Bs (lines:List ByteArray):(List Qb×Int)→Lp (List Qb×Int) (List Qb):=fun (out,v12) =>
 bif (decide (v12<((Qa lines (⟨#[112,111,114,116]⟩:ByteArray)).length:Int))) then (.next ((out++[(F73 (((Qa lines (⟨#[112,111,114,116]⟩:ByteArray)).getD (Int.toNat v12) default).getD (Int.toNat 2) default)).1]),(v12+1))) else (.done (out,v12))
def F66 (lines:List ByteArray):List Qb :=
 (runL (Bs lines) ((Int.toNat (((Qa lines (⟨#[112,111,114,116]⟩:ByteArray)).length:Int)-0))+1) (([]:List Qb),0)).fin (fun r=>r) (fun (out,v12)=>out)
abbrev Qav (lines:List ByteArray):Nat×(List Qb×Int):=(((Int.toNat (((Qa lines (⟨#[112,111,114,116]⟩:ByteArray)).length:Int)-0))+1),(([]:List Qb),0))
abbrev Qns (lines:List ByteArray) (m39:Nat) (out:List Qb) (v12:Int):Prop:=Int.toNat (((Qa lines (⟨#[112,111,114,116]⟩:ByteArray)).length:Int)-v12)<m39∧(out.length:Int)≤v12∧(0:Int)≤v12
abbrev Qvx (lines:List ByteArray):Lp (List Qb×Int) (List Qb):=LpX (Bs lines) (Qav lines)
abbrev Qci (lines:List ByteArray) (i:Nat×(List Qb×Int)):Prop:=LpJ (Bs lines) (Qav lines) i (Qns lines i.1 i.2.1 i.2.2)
abbrev Qzd (lines:List ByteArray) (i:Nat×(List Qb×Int)) (m39:Nat) (out:List Qb) (v12:Int):Prop:=LpH (Bs lines) (Qav lines) i m39 (out,v12) (Qns lines (m39+1) out v12)
abbrev Qxv (lines:List ByteArray) (out:List Qb) (v12:Int) (out_:List Qb) (v12_:Int) (K39:Prop):Prop:=(Rf (.int .i64 ((Qa lines (⟨#[112,111,114,116]⟩:ByteArray)).length:Int)))∧((.int .i64 v12:Value)=.int .i64 v12_)∧(Imp (.l 2 Qk out) (.l 2 Qk out_))∧(Im (.l 1 (eL 1 eStr) (Qa lines (⟨#[112,111,114,116]⟩:ByteArray))))∧K39
theorem un66_0 (lines:List ByteArray) (i:Nat×(List Qb×Int)) (h:Qci lines i):Qzd lines i (i.1-1) i.2.1 i.2.2:=⟨hd1 h.1 h.2.1,hd3 h.2.1,hd2 h.2.1,h.2.2⟩
theorem bk66_0 (lines:List ByteArray) (i:Nat×(List Qb×Int)) (m39:Nat) (out:List Qb) (v12:Int) (hl:m39<i.1) (e:runL (Bs lines) m39 (out,v12)=Qvx lines) (h:Qns lines m39 out v12):∃ j:Nat×(List Qb×Int),Qxv lines out v12 j.2.1 j.2.2 (Qci lines j∧j.1<i.1):=⟨(m39,(out,v12)),rfl,rfl,Imp.refl _,Imp.refl _,⟨e,h⟩,hl⟩
theorem en66_0 (lines:List ByteArray) (h:(([]:List Qb).length:Int)≤0∧(0:Int)≤0):Qxv lines ([]:List Qb) 0 ([]:List Qb) 0 (Qci lines (Qav lines)):=⟨rfl,rfl,Imp.refl _,Imp.refl _,rfl,Nat.lt_succ_self _,h⟩
theorem fi66 (lines:List ByteArray) (r:List Qb) (hF:r=(F66 lines)):(Imp (.l 2 Qk r) (.l 2 Qk (F66 lines)))∧True:=by cases hF; exact ⟨Imp.refl _,trivial⟩
def S66 (R:List Qb) (lines:List ByteArray):Spec:=⟨[.r (.c (.l 1 eStr lines))],.ow (.l 2 Qk R),F27 lines=0∧lines.length≤16∧(∀ k:Nat,(lines.getD k default).size≤1048576)⟩
theorem ok66 (lines:List ByteArray):(S66 (F66 lines) lines).ok Tryz.prog 66 false :=
 Qi mixed (fn:=Tryz.f66) (ct:=.seqk [(0,0)] .no (.seq (.reg [(0,.dat (.l 2 Qk ([]:List Qb)))]) (.seq (.seqk [(3,0),(10,0)] (.reg [(1,Bc lines (⟨#[112,111,114,116]⟩:ByteArray))]) (.blk (.loop (ι:=Nat×(List Qb×Int)) (fun i=>(fun (out:List Qb) (v12:Int)=>(⟨[(3,some (.h 0 0)),(10,some (.h 1 0)),(11,some (.v (vI ((Qa lines (⟨#[112,111,114,116]⟩:ByteArray)).length:Int)))),(12,some (.v (vI v12)))],[(0,some (.own 0 (.l 2 Qk out))),(1,some (.own 1 (.l 1 (eL 1 eStr) (Qa lines (⟨#[112,111,114,116]⟩:ByteArray)))))],2⟩:St)) i.2.1 i.2.2) (Qci lines) (fun i=>i.1) (Qav lines) (fun i=>(fun (out:List Qb) (v12:Int)=>(.seq .no (.seq (.cond .no .no) (.seq (.blk (.seq .no (.seq (.reg [(3,kh73 (((Qa lines (⟨#[112,111,114,116]⟩:ByteArray)).getD (Int.toNat v12) default).getD (Int.toNat 2) default))]) (.reg [(3,.dat (.l 2 Qk (out++[(F73 (((Qa lines (⟨#[112,111,114,116]⟩:ByteArray)).getD (Int.toNat v12) default).getD (Int.toNat 2) default)).1])))])))) (.reg [(0,.bnd)]))))) i.2.1 i.2.2)))) (.seq .no .no)))) Tryz.func66 (fun (hp:F27 lines=0∧lines.length≤16∧(∀ k:Nat,(lines.getD k default).size≤1048576))=>have hpre0:=hp.1; have hpre1:=hp.2.1; have hpre2:=hp.2.2; kn lines fun _=>ai (bokr 2 Qk ([]:List Qb) fun _=>rfl) (Lv lines (⟨#[112,111,114,116]⟩:ByteArray) (by first | omega | (simp only [lens,ib] at*<;> omega)) (by first | assumption | exact hpre2 _ | exact fun k _=>hpre2 k | (intros; exact trivial) | (intros; exact Nat.zero_le _)) (by first | omega | (simp only [lens,ib] at*<;> omega)) (fun gv1=>kn ([]:List Qb) fun _=>kn (Qa lines (⟨#[112,111,114,116]⟩:ByteArray)) fun _=>ai (en66_0 lines (by refine ⟨?_,?_⟩ <;> first | omega | (simp only [lens,ib] at*<;> omega))) (fun (i0:Nat×(List Qb×Int)) (hi0:Qci lines i0)=>(fun (m0:Nat) (out:List Qb) (v12:Int) (hh0:Qzd lines i0 m0 out v12)=>have hI0:=hh0.1; have hl0:=hh0.2.1; have _:=hh0.2.2.1; have _:=hh0.2.2.2; ifd (v12<((Qa lines (⟨#[112,111,114,116]⟩:ByteArray)).length:Int)) (fun h3 _=>ai (by (first | omega | (have h9:=Qra lines (by first | omega | (simp only [lens,ib] at*<;> omega)) (Int.toNat v12) (by first | omega | (simp only [lens,ib] at*<;> omega)); unfold Jd at h9; omega)):0≤v12∧v12<((Qa lines (⟨#[112,111,114,116]⟩:ByteArray)).length:Int)) (ai (by (first | omega | (have h9:=Qra lines (by first | omega | (simp only [lens,ib] at*<;> omega)) (Int.toNat v12) (by first | omega | (simp only [lens,ib] at*<;> omega)); unfold Jd at h9; omega)):0≤(2:Int)∧(2:Int)<(((Qa lines (⟨#[112,111,114,116]⟩:ByteArray)).getD (Int.toNat v12) default).length:Int)) (kc73 (((Qa lines (⟨#[112,111,114,116]⟩:ByteArray)).getD (Int.toNat v12) default).getD (Int.toNat 2) default) (by exact Zj lines _ (by first | omega | (simp only [lens,ib] at*<;> omega)) _ _) (ai (appr 2 Qk out [(F73 (((Qa lines (⟨#[112,111,114,116]⟩:ByteArray)).getD (Int.toNat v12) default).getD (Int.toNat 2) default)).1] fun _=>rfl) (ai (by (try simp only [lens]); omega:(out++[(F73 (((Qa lines (⟨#[112,111,114,116]⟩:ByteArray)).getD (Int.toNat v12) default).getD (Int.toNat 2) default)).1]).length*16≤140737488355328) (ai (iok (v12+1) (by first | omega | (simp only [lens,ib] at*<;> omega))) (bk66_0 lines i0 m0 (out++[(F73 (((Qa lines (⟨#[112,111,114,116]⟩:ByteArray)).getD (Int.toNat v12) default).getD (Int.toNat 2) default)).1]) (v12+1) hl0 (Qg hI0 (condT h3 rfl)) (by refine ⟨?_,?_,?_⟩ <;> first | omega | (simp only [lens,ib] at*<;> omega))))))))) (fun h3 _=>have hD0_4:Qvx lines=Lp.done (out,v12):=Qj hI0 (condF h3 rfl); fi66 lines out (finD hD0_4 rfl))) (i0.1-1) i0.2.1 i0.2.2 (un66_0 lines i0 hi0))))) (by kernel_rfl)
def F63 (w1:List ByteArray):Bool :=
 ((w1.getD (Int.toNat 2) default).toList==(⟨#[97,108,108]⟩:ByteArray).toList)
def S63 (w1:List ByteArray):Spec:=⟨[.r (.c (.l 1 eStr w1))],.v (.bool (F63 w1)),Wr w1⟩
theorem ok63 (w1:List ByteArray):(S63 w1).ok Tryz.prog 63 :=
 Qi mixed (fn:=Tryz.f63) (ct:=.seqk [(0,0)] .no (.seq .no .no)) Tryz.func63 (fun (hpre0:Wr w1)=>kn w1 fun _=>ai (by (have h9:=hpre0; unfold Wr at h9; omega):0≤(2:Int)∧(2:Int)<(w1.length:Int)) (fiB ((w1.getD (Int.toNat 2) default).toList==(⟨#[97,108,108]⟩:ByteArray).toList) (F63 w1) rfl)) (by kernel_rfl)
def Ve (Q:(List ByteArray)→Prop) (p:(List ByteArray)→Bool):Yk:=⟨List ByteArray,fun i=>[.c (.x (PX (.l 1 eStr i) (Q i)))],fun i=>.bool (p i)⟩
def Nh (s:List (List ByteArray)) (f:(List ByteArray)→Bool):Int→Lp Int Int:=fun v8 =>
 bif (decide (v8<(s.length:Int))) then (bif (f (s.getD (Int.toNat v8) default)) then (.ret v8) else (.next (v8+1))) else (.done v8)
def F88 (s:List (List ByteArray)) (f:(List ByteArray)→Bool):Int :=
 (runL (Nh s f) ((Int.toNat ((s.length:Int)-0))+1) 0).fin (fun r=>r) (fun v8=>(-1))
abbrev Qcg (s:List (List ByteArray)):Nat×Int:=(((Int.toNat ((s.length:Int)-0))+1),0)
abbrev Qnb (s:List (List ByteArray)) (m39:Nat) (v8:Int):Prop:=Int.toNat ((s.length:Int)-v8)<m39∧(0:Int)≤v8
abbrev Qxb (s:List (List ByteArray)) (f:(List ByteArray)→Bool):Lp Int Int:=LpX (Nh s f) (Qcg s)
abbrev Qar (s:List (List ByteArray)) (f:(List ByteArray)→Bool) (i:Nat×Int):Prop:=LpJ (Nh s f) (Qcg s) i (Qnb s i.1 i.2)
abbrev Qup (s:List (List ByteArray)) (f:(List ByteArray)→Bool) (i:Nat×Int) (m39:Nat) (v8:Int):Prop:=LpH (Nh s f) (Qcg s) i m39 v8 (Qnb s (m39+1) v8)
abbrev Uar (Qf:(List ByteArray)→Prop) (s:List (List ByteArray)) (f:(List ByteArray)→Bool) (v8:Int) (v8_:Int) (K39:Prop):Prop:=(Rf (.int .i64 (s.length:Int)))∧((.int .i64 v8:Value)=.int .i64 v8_)∧(Im (.l 1 (eL 1 eStr) s))∧(Ve Qf f=Ve Qf f)∧K39
theorem un88_0 (s:List (List ByteArray)) (f:(List ByteArray)→Bool) (i:Nat×Int) (h:Qar s f i):Qup s f i (i.1-1) i.2:=⟨hd1 h.1 h.2.1,hd3 h.2.1,hd2 h.2.1,h.2.2⟩
theorem bk88_0 (Qf:(List ByteArray)→Prop) (s:List (List ByteArray)) (f:(List ByteArray)→Bool) (i:Nat×Int) (m39:Nat) (v8:Int) (hl:m39<i.1) (e:runL (Nh s f) m39 v8=Qxb s f) (h:Qnb s m39 v8):∃ j:Nat×Int,Uar Qf s f v8 j.2 (Qar s f j∧j.1<i.1):=⟨(m39,v8),rfl,rfl,Imp.refl _,rfl,⟨e,h⟩,hl⟩
theorem en88_0 (Qf:(List ByteArray)→Prop) (s:List (List ByteArray)) (f:(List ByteArray)→Bool) (h:(0:Int)≤0):Uar Qf s f 0 0 (Qar s f (Qcg s)):=⟨rfl,rfl,Imp.refl _,rfl,rfl,Nat.lt_succ_self _,h⟩
def S88 (R:Int) (s:List (List ByteArray)) (f:(List ByteArray)→Bool) (Qf:(List ByteArray)→Prop):Spec:=⟨[.r (.c (.l 1 (eL 1 eStr) s)),.fn (Ve Qf f)],.v (vI R),(∀ k:Nat,k<s.length→Qf (s.getD k default))⟩
theorem ok88 (s:List (List ByteArray)) (f:(List ByteArray)→Bool) (Qf:(List ByteArray)→Prop):(S88 (F88 s f) s f Qf).ok Tryz.prog 88 false :=
 Qi mixed (fn:=Tryz.f88) (ct:=.seqk [(0,0)] .no (.seq (.seqk [(0,0)] .no (.blk (.loop (ι:=Nat×Int) (fun i=>(fun (v8:Int)=>(⟨[(0,some (.h 0 0)),(1,some (.h 1 0)),(7,some (.v (vI (s.length:Int)))),(8,some (.v (vI v8)))],[(0,some (.shr none (.l 1 (eL 1 eStr) s))),(1,some (.fn (Ve Qf f)))],2⟩:St)) i.2) (Qar s f) (fun i=>i.1) (Qcg s) (fun i=>(fun (v8:Int)=>(.seq .no (.seq (.cond .no .no) (.seq (.blk (.seq .no (.seq (.reg [(5,.fnv (Ve Qf f) (s.getD (Int.toNat v8) default))]) (.cond (.seq .no .no) .no)))) (.reg [(0,.bnd)]))))) i.2)))) (.seq .no .no))) Tryz.func88 (fun (hpre0:∀ k:Nat,k<s.length→Qf (s.getD k default))=>kn s fun _=>kn s fun _=>ai (en88_0 Qf s f (by omega)) (fun (i0:Nat×Int) (hi0:Qar s f i0)=>(fun (m0:Nat) (v8:Int) (hh0:Qup s f i0 m0 v8)=>have hI0:=hh0.1; have hl0:=hh0.2.1; have _:=hh0.2.2.1; have _:=hh0.2.2.2; ifd (v8<(s.length:Int)) (fun h2 _=>ai (by omega:ib v8 s) (ai (Eq.refl (Ve Qf f)) (ai (Imp.px (d:=.l 1 eStr (s.getD (Int.toNat v8) default)) (hpre0 (Int.toNat v8) (by omega))) (ifb (f (s.getD (Int.toNat v8) default)) (fun h3=>fiI v8 (F88 s f) (finR (Qp hI0 (condT h2 (condT h3 rfl))) rfl)) (fun h3=>ai (iok (v8+1) (by omega)) (bk88_0 Qf s f i0 m0 (v8+1) hl0 (Qg hI0 (condT h2 (condF h3 rfl))) (by refine ⟨?_,?_⟩ <;> omega))))))) (fun h2 _=>have hD0_4:Qxb s f=Lp.done v8:=Qj hI0 (condF h2 rfl); fiI (-1) (F88 s f) (finD hD0_4 rfl))) (i0.1-1) i0.2 (un88_0 s f i0 hi0))) (by kernel_rfl)
theorem as88 (s:List (List ByteArray)) (f:(List ByteArray)→Bool):F88 s f=(idxI f s):=by
 exact Vf f s (Nh s f) (fun i=>rfl)
theorem oa88 (s:List (List ByteArray)) (f:(List ByteArray)→Bool) (Qf:(List ByteArray)→Prop):(S88 (idxI f s) s f Qf).ok Tryz.prog 88 false:=by
 intro hp; have h:=ok88 s f Qf hp; rw [as88 s f] at h; exact h
theorem g88_0 (s:List (List ByteArray)) (f:(List ByteArray)→Bool):(idxI f s)<(s.length:Int):=by
 exact Mb f s
theorem g88_1 (s:List (List ByteArray)) (f:(List ByteArray)→Bool):-1≤(idxI f s):=by
 (show -1≤idxI f s; unfold idxI; cases first (fun k=>f (s.getD k default)) s.length <;> simp only [oix] <;> omega)
theorem kc88a (s:List (List ByteArray)) (f:(List ByteArray)→Bool) (Qf:(List ByteArray)→Prop) {K_:Prop} (p0_:∀ k:Nat,k<s.length→Qf (s.getD k default)) (k_:((idxI f s)<(s.length:Int))→(-1≤(idxI f s))→K_):(∀ k:Nat,k<s.length→Qf (s.getD k default))∧(Imp (.l 1 (eL 1 eStr) s) (.l 1 (eL 1 eStr) s))∧(Ve Qf f=Ve Qf f)∧K_:=⟨p0_,Imp.refl _,rfl,k_ (g88_0 s f) (g88_1 s f)⟩
abbrev kh88a (s:List (List ByteArray)) (f:(List ByteArray)→Bool) (Qf:(List ByteArray)→Prop):Hint false Tryz.prog:=.call 88 (S88 (idxI f s) s f Qf) (oa88 s f Qf) none
def F61 (s:List (List ByteArray)) (f:(List ByteArray)→Bool):Bool :=
 decide ((idxI f s)≥0)
def S61 (R:Bool) (s:List (List ByteArray)) (f:(List ByteArray)→Bool) (Qf:(List ByteArray)→Prop):Spec:=⟨[.r (.c (.l 1 (eL 1 eStr) s)),.fn (Ve Qf f)],.v (.bool R),(∀ k:Nat,k<s.length→Qf (s.getD k default))⟩
theorem ok61 (s:List (List ByteArray)) (f:(List ByteArray)→Bool) (Qf:(List ByteArray)→Prop):(S61 (F61 s f) s f Qf).ok Tryz.prog 61 false :=
 Qi mixed (fn:=Tryz.f61) (ct:=.seqk [(0,0)] .no (.seq (.reg [(2,kh88a s f Qf)]) .no)) Tryz.func61 (fun (hpre0:∀ k:Nat,k<s.length→Qf (s.getD k default))=>kn s fun _=>kc88a s f Qf (by assumption) (fun gv1 gv2=>fiB (decide ((idxI f s)≥0)) (F61 s f) rfl)) (by kernel_rfl)
theorem as61 (s:List (List ByteArray)) (f:(List ByteArray)→Bool):F61 s f=(s.any f):=by
 exact Rb f s
theorem oa61 (s:List (List ByteArray)) (f:(List ByteArray)→Bool) (Qf:(List ByteArray)→Prop):(S61 (s.any f) s f Qf).ok Tryz.prog 61 false:=by
 intro hp; have h:=ok61 s f Qf hp; rw [as61 s f] at h; exact h
def F36 (lines:List ByteArray):Bool :=
 (!((Qa lines (⟨#[117,115,101,114]⟩:ByteArray)).any (fun (x0:List ByteArray)=>F63 x0)))
def S36 (lines:List ByteArray):Spec:=⟨[.r (.c (.l 1 eStr lines))],.v (.bool (F36 lines)),F27 lines=0∧lines.length≤16∧(∀ k:Nat,(lines.getD k default).size≤1048576)⟩
theorem ok36 (lines:List ByteArray):(S36 lines).ok Tryz.prog 36 false :=
 Qi mixed (fn:=Tryz.f36) (ct:=.seqk [(0,0)] .no (.seq (.reg [(1,Bc lines (⟨#[117,115,101,114]⟩:ByteArray)),(2,.call 61 (S61 ((Qa lines (⟨#[117,115,101,114]⟩:ByteArray)).any (fun (x0:List ByteArray)=>F63 x0)) (Qa lines (⟨#[117,115,101,114]⟩:ByteArray)) (fun (x0:List ByteArray)=>F63 x0) (fun (x0:List ByteArray)=>Wr x0)) (oa61 (Qa lines (⟨#[117,115,101,114]⟩:ByteArray)) (fun (x0:List ByteArray)=>F63 x0) (fun (x0:List ByteArray)=>Wr x0)) (some ⟨true,63,Ve (fun (x0:List ByteArray)=>Wr x0) (fun (x0:List ByteArray)=>F63 x0),[],rfl,True,fun i=>Xo (ok63 i)⟩))]) .no)) Tryz.func36 (fun (hp:F27 lines=0∧lines.length≤16∧(∀ k:Nat,(lines.getD k default).size≤1048576))=>have hpre0:=hp.1; have hpre1:=hp.2.1; have hpre2:=hp.2.2; kn lines fun _=>Lv lines (⟨#[117,115,101,114]⟩:ByteArray) (by omega) (by assumption) (by omega) (fun gv1=>ai (by exact Uff lines (by omega):∀ k:Nat,k<(Qa lines (⟨#[117,115,101,114]⟩:ByteArray)).length→(fun (x0:List ByteArray)=>Wr x0) ((Qa lines (⟨#[117,115,101,114]⟩:ByteArray)).getD k default)) (ai (Imp.refl (.l 1 (eL 1 eStr) (Qa lines (⟨#[117,115,101,114]⟩:ByteArray)))) (ai (Eq.refl (Ve (fun (x0:List ByteArray)=>Wr x0) (fun (x0:List ByteArray)=>F63 x0))) (ai trivial (fiB (!((Qa lines (⟨#[117,115,101,114]⟩:ByteArray)).any (fun (x0:List ByteArray)=>F63 x0))) (F36 lines) rfl)))))) (by kernel_rfl)
def Bd (lines:List ByteArray) (name:ByteArray):(Int×Int)→Lp (Int×Int) Int:=fun (n,v11) =>
 bif (decide (v11<((Qa lines (⟨#[114,117,108,101]⟩:ByteArray)).length:Int))) then (bif ((((Qa lines (⟨#[114,117,108,101]⟩:ByteArray)).getD (Int.toNat v11) default).getD (Int.toNat 1) default).toList==name.toList) then (.next ((n+1),(v11+1))) else (.next (n,(v11+1)))) else (.done (n,v11))
def F64 (lines:List ByteArray) (name:ByteArray):Int :=
 (runL (Bd lines name) ((Int.toNat (((Qa lines (⟨#[114,117,108,101]⟩:ByteArray)).length:Int)-0))+1) (0,0)).fin (fun r=>r) (fun (n,v11)=>n)
abbrev To (lines:List ByteArray):Nat×(Int×Int):=(((Int.toNat (((Qa lines (⟨#[114,117,108,101]⟩:ByteArray)).length:Int)-0))+1),(0,0))
abbrev Qko (lines:List ByteArray) (m39:Nat) (n:Int) (v11:Int):Prop:=Int.toNat (((Qa lines (⟨#[114,117,108,101]⟩:ByteArray)).length:Int)-v11)<m39∧(0:Int)≤n∧(n:Int)≤v11∧(0:Int)≤n∧(0:Int)≤v11
abbrev Qxs (lines:List ByteArray) (name:ByteArray):Lp (Int×Int) Int:=LpX (Bd lines name) (To lines)
abbrev Rv (lines:List ByteArray) (name:ByteArray) (i:Nat×(Int×Int)):Prop:=LpJ (Bd lines name) (To lines) i (Qko lines i.1 i.2.1 i.2.2)
abbrev Qtx (lines:List ByteArray) (name:ByteArray) (i:Nat×(Int×Int)) (m39:Nat) (n:Int) (v11:Int):Prop:=LpH (Bd lines name) (To lines) i m39 (n,v11) (Qko lines (m39+1) n v11)
abbrev Qtj (lines:List ByteArray) (name:ByteArray) (n:Int) (v11:Int) (n_:Int) (v11_:Int) (K39:Prop):Prop:=(Rf (.string name))∧((.int .i64 n:Value)=.int .i64 n_)∧(Rf (.int .i64 ((Qa lines (⟨#[114,117,108,101]⟩:ByteArray)).length:Int)))∧((.int .i64 v11:Value)=.int .i64 v11_)∧(Im (.l 1 (eL 1 eStr) (Qa lines (⟨#[114,117,108,101]⟩:ByteArray))))∧K39
theorem un64_0 (lines:List ByteArray) (name:ByteArray) (i:Nat×(Int×Int)) (h:Rv lines name i):Qtx lines name i (i.1-1) i.2.1 i.2.2:=⟨hd1 h.1 h.2.1,hd3 h.2.1,hd2 h.2.1,h.2.2⟩
theorem Qui (lines:List ByteArray) (name:ByteArray) (i:Nat×(Int×Int)) (m39:Nat) (n:Int) (v11:Int) (hl:m39<i.1) (e:runL (Bd lines name) m39 (n,v11)=Qxs lines name) (h:Qko lines m39 n v11):∃ j:Nat×(Int×Int),Qtj lines name n v11 j.2.1 j.2.2 (Rv lines name j∧j.1<i.1):=⟨(m39,(n,v11)),rfl,rfl,rfl,rfl,Imp.refl _,⟨e,h⟩,hl⟩
theorem en64_0 (lines:List ByteArray) (name:ByteArray) (h:(0:Int)≤0∧(0:Int)≤0∧(0:Int)≤0∧(0:Int)≤0):Qtj lines name 0 0 0 0 (Rv lines name (To lines)):=⟨rfl,rfl,rfl,rfl,Imp.refl _,rfl,Nat.lt_succ_self _,h⟩
def S64 (lines:List ByteArray) (name:ByteArray):Spec:=⟨[.r (.c (.l 1 eStr lines)),.r (.c (.v (.string name)))],.v (vI (F64 lines name)),F27 lines=0∧lines.length≤16∧(∀ k:Nat,(lines.getD k default).size≤1048576)⟩
theorem ok64 (lines:List ByteArray) (name:ByteArray):(S64 lines name).ok Tryz.prog 64 :=
 Qi mixed (fn:=Tryz.f64) (ct:=.seqk [(0,0)] .no (.seq .no (.seq (.seqk [(9,0)] (.reg [(1,kh62a lines (⟨#[114,117,108,101]⟩:ByteArray))]) (.blk (.loop (ι:=Nat×(Int×Int)) (fun i=>(fun (n:Int) (v11:Int)=>(⟨[(1,some (.v (.string name))),(5,some (.v (vI n))),(9,some (.h 0 0)),(10,some (.v (vI ((Qa lines (⟨#[114,117,108,101]⟩:ByteArray)).length:Int)))),(11,some (.v (vI v11)))],[(0,some (.own 0 (.l 1 (eL 1 eStr) (Qa lines (⟨#[114,117,108,101]⟩:ByteArray)))))],1⟩:St)) i.2.1 i.2.2) (Rv lines name) (fun i=>i.1) (To lines) (fun i=>(fun (n:Int) (v11:Int)=>(.seq .no (.seq (.cond .no .no) (.seq (.blk (.seq .no (.seq .no (.cond (.reg [(1,.bnd)]) .no)))) (.reg [(0,.bnd)]))))) i.2.1 i.2.2)))) (.seq .no .no)))) Tryz.func64 (fun (hp:F27 lines=0∧lines.length≤16∧(∀ k:Nat,(lines.getD k default).size≤1048576))=>have hpre0:=hp.1; have hpre1:=hp.2.1; have hpre2:=hp.2.2; kn lines fun _=>Lv lines (⟨#[114,117,108,101]⟩:ByteArray) (by omega) (by assumption) (by omega) (fun gv1=>kn (Qa lines (⟨#[114,117,108,101]⟩:ByteArray)) fun _=>ai (en64_0 lines name (by refine ⟨?_,?_,?_,?_⟩ <;> omega)) (fun (i0:Nat×(Int×Int)) (hi0:Rv lines name i0)=>(fun (m0:Nat) (n:Int) (v11:Int) (hh0:Qtx lines name i0 m0 n v11)=>have hI0:=hh0.1; have hl0:=hh0.2.1; have _:=hh0.2.2.1; have _:=hh0.2.2.2; ifd (v11<((Qa lines (⟨#[114,117,108,101]⟩:ByteArray)).length:Int)) (fun h3 _=>ai (by (omega):0≤v11∧v11<((Qa lines (⟨#[114,117,108,101]⟩:ByteArray)).length:Int)) (ai (by (have h9:=Qol lines (by omega) (Int.toNat v11) (by omega); unfold Wf at h9; omega):0≤(1:Int)∧(1:Int)<(((Qa lines (⟨#[114,117,108,101]⟩:ByteArray)).getD (Int.toNat v11) default).length:Int)) (ifb ((((Qa lines (⟨#[114,117,108,101]⟩:ByteArray)).getD (Int.toNat v11) default).getD (Int.toNat 1) default).toList==name.toList) (fun h4=>ai (iok (n+1) (by omega)) (ai (iok (v11+1) (by omega)) (Qui lines name i0 m0 (n+1) (v11+1) hl0 (Qg hI0 (condT h3 (condT h4 rfl))) (by refine ⟨?_,?_,?_,?_,?_⟩ <;> omega)))) (fun h4=>ai (iok (v11+1) (by omega)) (Qui lines name i0 m0 n (v11+1) hl0 (Qg hI0 (condT h3 (condF h4 rfl))) (by refine ⟨?_,?_,?_,?_,?_⟩ <;> omega)))))) (fun h3 _=>have hD0_5:Qxs lines name=Lp.done (n,v11):=Qj hI0 (condF h3 rfl); fiI n (F64 lines name) (finD hD0_5 rfl))) (i0.1-1) i0.2.1 i0.2.2 (un64_0 lines name i0 hi0)))) (by kernel_rfl)
theorem kc64 (lines:List ByteArray) (name:ByteArray) {K_:Prop} (p0_:F27 lines=0) (p1_:lines.length≤16) (p2_:∀ k:Nat,(lines.getD k default).size≤1048576) (k_:K_):(F27 lines=0∧lines.length≤16∧(∀ k:Nat,(lines.getD k default).size≤1048576))∧(Imp (.l 1 eStr lines) (.l 1 eStr lines))∧(Imp (.v (.string name)) (.v (.string name)))∧K_:=⟨⟨p0_,p1_,p2_⟩,Imp.refl _,Imp.refl _,k_⟩
abbrev kh64 (lines:List ByteArray) (name:ByteArray):Hint true Tryz.prog:=.call 64 (S64 lines name) (ok64 lines name) none
def F65 (w1:List ByteArray) (p1:List ByteArray):Bool :=
 decide ((F64 p1 (w1.getD (Int.toNat 1) default))>12)
def S65 (w1:List ByteArray) (p1:List ByteArray):Spec:=⟨[.r (.c (.l 1 eStr w1)),.rp ([.l 1 eStr p1])],.v (.bool (F65 w1 p1)),Wf w1∧F27 p1=0∧p1.length≤16∧(∀ k:Nat,(p1.getD k default).size≤1048576)⟩
theorem ok65 (w1:List ByteArray) (p1:List ByteArray):(S65 w1 p1).ok Tryz.prog 65 :=
 Qi mixed (fn:=Tryz.f65) (ct:=.seqk [(0,0)] .no (.seq (.reg [(4,kh64 p1 (w1.getD (Int.toNat 1) default))]) .no)) Tryz.func65 (fun (hp:Wf w1∧F27 p1=0∧p1.length≤16∧(∀ k:Nat,(p1.getD k default).size≤1048576))=>have hpre0:=hp.1; have hpre1:=hp.2.1; have hpre2:=hp.2.2.1; have hpre3:=hp.2.2.2; kn w1 fun _=>ai (by (have h9:=hpre0; unfold Wf at h9; omega):0≤(1:Int)∧(1:Int)<(w1.length:Int)) (kc64 p1 (w1.getD (Int.toNat 1) default) (by omega) (by omega) (by assumption) (fiB (decide ((F64 p1 (w1.getD (Int.toNat 1) default))>12)) (F65 w1 p1) rfl))) (by kernel_rfl)
theorem kg64 {K_:Prop} (c_ b_:Bool) (lines:List ByteArray) (name:ByteArray) (p_:c_=b_→F27 lines=0∧lines.length≤16∧(∀ k:Nat,(lines.getD k default).size≤1048576)) (k_:K_):(c_=b_→F27 lines=0∧lines.length≤16∧(∀ k:Nat,(lines.getD k default).size≤1048576))∧(c_=b_→Imp (.l 1 eStr lines) (.l 1 eStr lines))∧(c_=b_→Imp (.v (.string name)) (.v (.string name)))∧K_:=⟨p_,fun _=>Imp.refl _,fun _=>Imp.refl _,k_⟩
abbrev kh64f (lines:List ByteArray) (name:ByteArray):Hint false Tryz.prog:=.call 64 (S64 lines name) ((ok64 lines name).to false) none
def Bn (lines:List ByteArray):Int→Lp Int Bool:=fun v8 =>
 bif (decide (v8<((Qa lines (⟨#[112,111,114,116]⟩:ByteArray)).length:Int))) then (bif (bif decide ((((Qa lines (⟨#[112,111,114,116]⟩:ByteArray)).getD (Int.toNat v8) default).length:Int)>4) then ((F64 lines (((Qa lines (⟨#[112,111,114,116]⟩:ByteArray)).getD (Int.toNat v8) default).getD (Int.toNat 4) default))==0) else false) then (.ret true) else (.next (v8+1))) else (.done v8)
def F37 (lines:List ByteArray):Bool :=
 (runL (Bn lines) ((Int.toNat (((Qa lines (⟨#[112,111,114,116]⟩:ByteArray)).length:Int)-0))+1) 0).fin (fun r=>r) (fun v8=>((Qa lines (⟨#[114,117,108,101]⟩:ByteArray)).any (fun (x0:List ByteArray)=>F65 x0 lines)))
abbrev Tk (lines:List ByteArray):Nat×Int:=(((Int.toNat (((Qa lines (⟨#[112,111,114,116]⟩:ByteArray)).length:Int)-0))+1),0)
abbrev Qkj (lines:List ByteArray) (m39:Nat) (v8:Int):Prop:=Int.toNat (((Qa lines (⟨#[112,111,114,116]⟩:ByteArray)).length:Int)-v8)<m39∧(0:Int)≤v8
abbrev Qyi (lines:List ByteArray):Lp Int Bool:=LpX (Bn lines) (Tk lines)
abbrev Qaa (lines:List ByteArray) (i:Nat×Int):Prop:=LpJ (Bn lines) (Tk lines) i (Qkj lines i.1 i.2)
abbrev Qxz (lines:List ByteArray) (i:Nat×Int) (m39:Nat) (v8:Int):Prop:=LpH (Bn lines) (Tk lines) i m39 v8 (Qkj lines (m39+1) v8)
abbrev Qvs (lines:List ByteArray) (v8:Int) (v8_:Int) (K39:Prop):Prop:=(Rf (.int .i64 ((Qa lines (⟨#[112,111,114,116]⟩:ByteArray)).length:Int)))∧((.int .i64 v8:Value)=.int .i64 v8_)∧(Im (.l 1 eStr lines))∧(Im (.l 1 (eL 1 eStr) (Qa lines (⟨#[112,111,114,116]⟩:ByteArray))))∧K39
theorem un37_0 (lines:List ByteArray) (i:Nat×Int) (h:Qaa lines i):Qxz lines i (i.1-1) i.2:=⟨hd1 h.1 h.2.1,hd3 h.2.1,hd2 h.2.1,h.2.2⟩
theorem bk37_0 (lines:List ByteArray) (i:Nat×Int) (m39:Nat) (v8:Int) (hl:m39<i.1) (e:runL (Bn lines) m39 v8=Qyi lines) (h:Qkj lines m39 v8):∃ j:Nat×Int,Qvs lines v8 j.2 (Qaa lines j∧j.1<i.1):=⟨(m39,v8),rfl,rfl,Imp.refl _,Imp.refl _,⟨e,h⟩,hl⟩
theorem en37_0 (lines:List ByteArray) (h:(0:Int)≤0):Qvs lines 0 0 (Qaa lines (Tk lines)):=⟨rfl,rfl,Imp.refl _,Imp.refl _,rfl,Nat.lt_succ_self _,h⟩
def S37 (lines:List ByteArray):Spec:=⟨[.r (.c (.l 1 eStr lines))],.v (.bool (F37 lines)),F27 lines=0∧lines.length≤16∧(∀ k:Nat,(lines.getD k default).size≤1048576)⟩
theorem ok37 (lines:List ByteArray):(S37 lines).ok Tryz.prog 37 false :=
 Qi mixed (fn:=Tryz.f37) (ct:=.seq .no (.seq (.seqk [(1,0),(6,0)] (.reg [(1,Bc lines (⟨#[112,111,114,116]⟩:ByteArray))]) (.blk (.loop (ι:=Nat×Int) (fun i=>(fun (v8:Int)=>(⟨[(1,some (.p 0 0)),(6,some (.h 2 0)),(7,some (.v (vI ((Qa lines (⟨#[112,111,114,116]⟩:ByteArray)).length:Int)))),(8,some (.v (vI v8)))],[(0,some (.box 22 [.h 1 0])),(1,some (.shr none (.l 1 eStr lines))),(2,some (.own 2 (.l 1 (eL 1 eStr) (Qa lines (⟨#[112,111,114,116]⟩:ByteArray)))))],3⟩:St)) i.2) (Qaa lines) (fun i=>i.1) (Tk lines) (fun i=>(fun (v8:Int)=>(.seq .no (.seq (.cond .no .no) (.seq (.blk (.seq .no (.seq (.reg [(8,kh64f lines (((Qa lines (⟨#[112,111,114,116]⟩:ByteArray)).getD (Int.toNat v8) default).getD (Int.toNat 4) default))]) (.cond (.seq .no .no) .no)))) (.reg [(0,.bnd)]))))) i.2)))) (.seq (.reg [(1,Bc lines (⟨#[114,117,108,101]⟩:ByteArray)),(3,.call 61 (S61 ((Qa lines (⟨#[114,117,108,101]⟩:ByteArray)).any (fun (x0:List ByteArray)=>F65 x0 lines)) (Qa lines (⟨#[114,117,108,101]⟩:ByteArray)) (fun (x0:List ByteArray)=>F65 x0 lines) (fun (x0:List ByteArray)=>Wf x0∧F27 lines=0∧lines.length≤16∧(∀ k:Nat,(lines.getD k default).size≤1048576))) (oa61 (Qa lines (⟨#[114,117,108,101]⟩:ByteArray)) (fun (x0:List ByteArray)=>F65 x0 lines) (fun (x0:List ByteArray)=>Wf x0∧F27 lines=0∧lines.length≤16∧(∀ k:Nat,(lines.getD k default).size≤1048576))) (some ⟨true,65,Ve (fun (x0:List ByteArray)=>Wf x0∧F27 lines=0∧lines.length≤16∧(∀ k:Nat,(lines.getD k default).size≤1048576)) (fun (x0:List ByteArray)=>F65 x0 lines),[.rp ([.l 1 eStr lines])],rfl,True,fun i=>Xo (ok65 i lines)⟩))]) .no))) Tryz.func37 (fun (hp:F27 lines=0∧lines.length≤16∧(∀ k:Nat,(lines.getD k default).size≤1048576))=>have hpre0:=hp.1; have hpre1:=hp.2.1; have hpre2:=hp.2.2; Lv lines (⟨#[112,111,114,116]⟩:ByteArray) (by omega) (by assumption) (by omega) (fun gv1=>kn lines fun _=>kn (Qa lines (⟨#[112,111,114,116]⟩:ByteArray)) fun _=>ai (en37_0 lines (by omega)) (fun (i0:Nat×Int) (hi0:Qaa lines i0)=>(fun (m0:Nat) (v8:Int) (hh0:Qxz lines i0 m0 v8)=>have hI0:=hh0.1; have hl0:=hh0.2.1; have _:=hh0.2.2.1; have _:=hh0.2.2.2; ifd (v8<((Qa lines (⟨#[112,111,114,116]⟩:ByteArray)).length:Int)) (fun h3 _=>ai (by omega:ib v8 (Qa lines (⟨#[112,111,114,116]⟩:ByteArray))) (ai (fun k4:(decide ((((Qa lines (⟨#[112,111,114,116]⟩:ByteArray)).getD (Int.toNat v8) default).length:Int)>4))=true=>have _:(((Qa lines (⟨#[112,111,114,116]⟩:ByteArray)).getD (Int.toNat v8) default).length:Int)>4:=of_decide_eq_true k4; (by omega:ib 4 ((Qa lines (⟨#[112,111,114,116]⟩:ByteArray)).getD (Int.toNat v8) default))) (kg64 (decide ((((Qa lines (⟨#[112,111,114,116]⟩:ByteArray)).getD (Int.toNat v8) default).length:Int)>4)) true lines (((Qa lines (⟨#[112,111,114,116]⟩:ByteArray)).getD (Int.toNat v8) default).getD (Int.toNat 4) default) (fun k5=>have _:(((Qa lines (⟨#[112,111,114,116]⟩:ByteArray)).getD (Int.toNat v8) default).length:Int)>4:=of_decide_eq_true k5; ⟨(by omega),(by omega),(by assumption)⟩) (ifb (bif decide ((((Qa lines (⟨#[112,111,114,116]⟩:ByteArray)).getD (Int.toNat v8) default).length:Int)>4) then ((F64 lines (((Qa lines (⟨#[112,111,114,116]⟩:ByteArray)).getD (Int.toNat v8) default).getD (Int.toNat 4) default))==0) else false) (fun h6=>have _:(((Qa lines (⟨#[112,111,114,116]⟩:ByteArray)).getD (Int.toNat v8) default).length:Int)>4:=of_decide_eq_true (Qn h6); have _:(F64 lines (((Qa lines (⟨#[112,111,114,116]⟩:ByteArray)).getD (Int.toNat v8) default).getD (Int.toNat 4) default))=0:=eq_of_beq (Qx h6); fiB true (F37 lines) (finR (Qp hI0 (condT h3 (condT h6 rfl))) rfl)) (fun h6=>ai (iok (v8+1) (by omega)) (bk37_0 lines i0 m0 (v8+1) hl0 (Qg hI0 (condT h3 (condF h6 rfl))) (by refine ⟨?_,?_⟩ <;> omega))))))) (fun h3 _=>have hD0_7:Qyi lines=Lp.done v8:=Qj hI0 (condF h3 rfl); Lv lines (⟨#[114,117,108,101]⟩:ByteArray) (by omega) (by assumption) (by omega) (fun gv8=>ai (by exact fun k hk=>⟨Qol lines (by omega) k hk,by omega,by omega,by assumption⟩:∀ k:Nat,k<(Qa lines (⟨#[114,117,108,101]⟩:ByteArray)).length→(fun (x0:List ByteArray)=>Wf x0∧F27 lines=0∧lines.length≤16∧(∀ k:Nat,(lines.getD k default).size≤1048576)) ((Qa lines (⟨#[114,117,108,101]⟩:ByteArray)).getD k default)) (ai (Imp.refl (.l 1 (eL 1 eStr) (Qa lines (⟨#[114,117,108,101]⟩:ByteArray)))) (ai (Eq.refl (Ve (fun (x0:List ByteArray)=>Wf x0∧F27 lines=0∧lines.length≤16∧(∀ k:Nat,(lines.getD k default).size≤1048576)) (fun (x0:List ByteArray)=>F65 x0 lines))) (ai trivial (ai (Imps.refl [.l 1 eStr lines]) (fiB ((Qa lines (⟨#[114,117,108,101]⟩:ByteArray)).any (fun (x0:List ByteArray)=>F65 x0 lines)) (F37 lines) (finD hD0_7 rfl))))))))) (i0.1-1) i0.2 (un37_0 lines i0 hi0)))) (by kernel_rfl)
structure l52Cut where
 w:List ByteArray
 deriving DecidableEq,Inhabited
def Qr (x:l52Cut):List Dat:=[.l 1 eStr x.w]
def Bu (lines:List ByteArray):(List l52Cut×Int)→Lp (List l52Cut×Int) (List l52Cut):=fun (out,i40) =>
 bif (decide (i40<(lines.length:Int))) then (.next ((out++[(⟨(F48 (lines.getD (Int.toNat i40) default)).1⟩:l52Cut)]),(i40+1))) else (.done (out,i40))
def F28 (lines:List ByteArray):List l52Cut :=
 (runL (Bu lines) ((Int.toNat ((lines.length:Int)-0))+1) (([]:List l52Cut),0)).fin (fun r=>r) (fun (out,i40)=>out)
abbrev Ti (lines:List ByteArray):Nat×(List l52Cut×Int):=(((Int.toNat ((lines.length:Int)-0))+1),(([]:List l52Cut),0))
abbrev Qms (lines:List ByteArray) (m39:Nat) (out:List l52Cut) (i40:Int):Prop:=Int.toNat ((lines.length:Int)-i40)<m39∧(out.length:Int)≤i40∧(0:Int)≤i40
abbrev Qyp (lines:List ByteArray):Lp (List l52Cut×Int) (List l52Cut):=LpX (Bu lines) (Ti lines)
abbrev Qbt (lines:List ByteArray) (i:Nat×(List l52Cut×Int)):Prop:=LpJ (Bu lines) (Ti lines) i (Qms lines i.1 i.2.1 i.2.2)
abbrev Qzy (lines:List ByteArray) (i:Nat×(List l52Cut×Int)) (m39:Nat) (out:List l52Cut) (i40:Int):Prop:=LpH (Bu lines) (Ti lines) i m39 (out,i40) (Qms lines (m39+1) out i40)
abbrev Qtq (lines:List ByteArray) (out:List l52Cut) (i40:Int) (out_:List l52Cut) (i40_:Int) (K39:Prop):Prop:=((.int .i64 i40:Value)=.int .i64 i40_)∧(Im (.l 1 eStr lines))∧(Imp (.l 1 Qr out) (.l 1 Qr out_))∧K39
theorem un28_0 (lines:List ByteArray) (i:Nat×(List l52Cut×Int)) (h:Qbt lines i):Qzy lines i (i.1-1) i.2.1 i.2.2:=⟨hd1 h.1 h.2.1,hd3 h.2.1,hd2 h.2.1,h.2.2⟩
theorem bk28_0 (lines:List ByteArray) (i:Nat×(List l52Cut×Int)) (m39:Nat) (out:List l52Cut) (i40:Int) (hl:m39<i.1) (e:runL (Bu lines) m39 (out,i40)=Qyp lines) (h:Qms lines m39 out i40):∃ j:Nat×(List l52Cut×Int),Qtq lines out i40 j.2.1 j.2.2 (Qbt lines j∧j.1<i.1):=⟨(m39,(out,i40)),rfl,Imp.refl _,Imp.refl _,⟨e,h⟩,hl⟩
theorem en28_0 (lines:List ByteArray) (h:(([]:List l52Cut).length:Int)≤0∧(0:Int)≤0):Qtq lines ([]:List l52Cut) 0 ([]:List l52Cut) 0 (Qbt lines (Ti lines)):=⟨rfl,Imp.refl _,Imp.refl _,rfl,Nat.lt_succ_self _,h⟩
theorem fi28 (lines:List ByteArray) (r:List l52Cut) (hF:r=(F28 lines)):(Imp (.l 1 Qr r) (.l 1 Qr (F28 lines)))∧True:=by cases hF; exact ⟨Imp.refl _,trivial⟩
def S28 (R:List l52Cut) (lines:List ByteArray):Spec:=⟨[.r (.c (.l 1 eStr lines))],.ow (.l 1 Qr R),lines.length≤16∧(∀ k:Nat,(lines.getD k default).size≤1048576)⟩
theorem ok28 (lines:List ByteArray):(S28 (F28 lines) lines).ok Tryz.prog 28 :=
 Qi mixed (fn:=Tryz.f28) (ct:=.seqk [(0,0)] .no (.seq (.reg [(0,.dat (.l 1 Qr ([]:List l52Cut)))]) (.seq (.seqk [(0,0),(3,0)] .no (.blk (.loop (ι:=Nat×(List l52Cut×Int)) (fun i=>(fun (out:List l52Cut) (i40:Int)=>(⟨[(0,some (.h 0 0)),(3,some (.h 1 0)),(4,some (.v (vI i40)))],[(0,some (.shr none (.l 1 eStr lines))),(1,some (.own 1 (.l 1 Qr out)))],2⟩:St)) i.2.1 i.2.2) (Qbt lines) (fun i=>i.1) (Ti lines) (fun i=>(fun (out:List l52Cut) (i40:Int)=>(.seq (.seq .no (.cond .no .no)) (.seq (.blk (.seq (.reg [(4,kh48 (lines.getD (Int.toNat i40) default))]) (.reg [(4,.dat (.l 1 Qr (out++[(⟨(F48 (lines.getD (Int.toNat i40) default)).1⟩:l52Cut)])))]))) (.reg [(1,.bnd)])))) i.2.1 i.2.2)))) (.seq .no .no)))) Tryz.func28 (fun (hp:lines.length≤16∧(∀ k:Nat,(lines.getD k default).size≤1048576))=>have hpre0:=hp.1; have hpre1:=hp.2; kn lines fun _=>ai (bokr 1 Qr ([]:List l52Cut) fun _=>rfl) (kn lines fun _=>kn ([]:List l52Cut) fun _=>ai (en28_0 lines (by refine ⟨?_,?_⟩ <;> (simp only [lens,ib] at*<;> omega))) (fun (i0:Nat×(List l52Cut×Int)) (hi0:Qbt lines i0)=>(fun (m0:Nat) (out:List l52Cut) (i40:Int) (hh0:Qzy lines i0 m0 out i40)=>have hI0:=hh0.1; have hl0:=hh0.2.1; have _:=hh0.2.2.1; have _:=hh0.2.2.2; ifd (i40<(lines.length:Int)) (fun h2 _=>ai (by omega:ib i40 lines) (kc48 (lines.getD (Int.toNat i40) default) (by exact hpre1 _) (fun gv3 gv4=>ai (appr 1 Qr out [(⟨(F48 (lines.getD (Int.toNat i40) default)).1⟩:l52Cut)] fun _=>rfl) (ai (by (try simp only [lens]); omega:(out++[(⟨(F48 (lines.getD (Int.toNat i40) default)).1⟩:l52Cut)]).length*24≤140737488355328) (ai (iok (i40+1) (by omega)) (bk28_0 lines i0 m0 (out++[(⟨(F48 (lines.getD (Int.toNat i40) default)).1⟩:l52Cut)]) (i40+1) hl0 (Qg hI0 (condT h2 rfl)) (by refine ⟨?_,?_,?_⟩ <;> (simp only [lens,ib] at*<;> omega)))))))) (fun h2 _=>have hD0_5:Qyp lines=Lp.done (out,i40):=Qj hI0 (condF h2 rfl); fi28 lines out (finD hD0_5 rfl))) (i0.1-1) i0.2.1 i0.2.2 (un28_0 lines i0 hi0)))) (by kernel_rfl)
def F49 (c:l52Cut) (k:Int):ByteArray :=
 bif (decide (k<(c.w.length:Int))) then (c.w.getD (Int.toNat k) default) else (⟨#[]⟩:ByteArray)
def S49 (c:l52Cut) (k:Int):Spec:=⟨[.r (.g (Qr c)),.r (.c (.v (vI k)))],.v (.string (F49 c k)),0≤k⟩
theorem ok49 (c:l52Cut) (k:Int):(S49 c k).ok Tryz.prog 49 :=
 Qi mixed (fn:=Tryz.f49) (ct:=.seq .no (.seq (.seq .no (.cond (.seq .no .no) .no)) (.seq .no .no))) Tryz.func49 (fun (hpre0:0≤k)=>ifd (k<(c.w.length:Int)) (fun h1 _=>ai (by omega:ib k c.w) (fiS (c.w.getD (Int.toNat k) default) (F49 c k) (condT h1 rfl))) (fun h1 _=>fiS w13_ (F49 c k) (condF h1 rfl))) (by kernel_rfl)
theorem Yx (s:ByteArray):0≤(F73 s).1.Len∧(F73 s).1.Len≤16∧0≤(F73 s).1.Addr∧(F73 s).1.Addr≤65535:=by
 rw [Hn]
 cases h:pfxL s.data.toList with
 | none=>exact ⟨by decide,by decide,by decide,by decide⟩
 | some p =>
  obtain ⟨a,n⟩:=p
  have:=Qhe h
  show 0≤n∧n≤16∧0≤a∧a≤65535
  omega
def Qo (lines:List ByteArray):List Qb:=(Qa lines (⟨#[112,111,114,116]⟩:ByteArray)).map fun w=>(F73 (w.getD 2 default)).1
theorem as66 (lines:List ByteArray):F66 lines=(Qo lines):=by
 unfold F66
 have:=Yg (Qa lines (⟨#[112,111,114,116]⟩:ByteArray)) (fun (s:List Qb) w=>s++[(F73 (w.getD 2 default)).1]) (fun s i=>(s,i)) (Bs lines) (fun i s hi=>by
  simp only [Bs,ltD hi,cond_true,nn]; rfl) (fun s=>by simp only [Bs,geD,cond_false]) (fun r=>r) (fun (out,v12)=>out) []
 refine this.trans ?_
 rw [Zo,List.nil_append]; rfl
theorem Qiu (lines:List ByteArray):∀ p∈Qo lines,0≤p.Len∧p.Len≤16∧0≤p.Addr∧p.Addr≤65535:=fun p hp=>by
 obtain ⟨w,_,rfl⟩:=List.mem_map.1 hp
 exact Yx _
theorem Zw (lines:List ByteArray):∀ k:Nat,0≤((Qo lines).getD k default).Len∧((Qo lines).getD k default).Len≤16:=fun k=>by
 by_cases hk:k<(Qo lines).length
 ·have:=Qiu lines _ (Jg _ hk); omega
 ·rw [Jr _ (by omega)]; exact ⟨by decide,by decide⟩
theorem Zp (lines:List ByteArray) (n k:Nat):0≤(((Qo lines).take n).getD k default).Len∧(((Qo lines).take n).getD k default).Len≤16:=by
 by_cases hk:k<((Qo lines).take n).length
 ·have:=Qiu lines _ (List.mem_of_mem_take (Jg _ hk)); omega
 ·rw [Jr _ (by omega)]; exact ⟨by decide,by decide⟩
theorem Ubo:∀ k:Nat,(([]:List ByteArray).getD k default).size≤1048576:=fun k=>Nat.zero_le _
theorem Qnh {a:List ByteArray} {x:ByteArray} (h:∀ k:Nat,(a.getD k default).size≤1048576) (hx:x.size≤1048576):∀ k:Nat,((a++[x]).getD k default).size≤1048576:=fun k=>by
 rw [List.getD_eq_getElem?_getD,List.getElem?_append]
 split
 ·rw [← List.getD_eq_getElem?_getD]; exact h k
 ·cases hk:k-a.length with
  | zero=>exact hx
  | succ j=>exact Nat.zero_le _
theorem Us (lines:List ByteArray) (h:F27 lines=0) (n k:Nat) (hk:k<((Qa lines (⟨#[100,111,111,114]⟩:ByteArray)).take n).length):Ui (((Qa lines (⟨#[100,111,111,114]⟩:ByteArray)).take n).getD k default):=by
 rw [List.length_take] at hk
 have:=Ya lines h k (by omega)
 rw [List.getD_eq_getElem?_getD,List.getElem?_take,if_pos (by omega),← List.getD_eq_getElem?_getD]
 exact this
theorem as28 (lines:List ByteArray):F28 lines=(lines.map (fun l=>(⟨(F48 l).1⟩:l52Cut))):=by
 unfold F28
 have:=Yg lines (fun (s:List l52Cut) l=>s++[(⟨(F48 l).1⟩:l52Cut)]) (fun s i=>(s,i)) (Bu lines) (fun i s hi=>by
  simp only [Bu,ltD hi,cond_true,nn]; rfl) (fun s=>by simp only [Bu,geD,cond_false]) (fun r=>r) (fun (out,i40)=>out) []
 refine this.trans ?_
 rw [Zo,List.nil_append]
theorem Qgr {c:l52Cut} (h:∀ j:Nat,(c.w.getD j default).size≤1048576) (k:Int):(F49 c k).size≤1048576:=by
 unfold F49
 cases decide (k<(c.w.length:Int)) with
 | true=>exact h _
 | false=>exact Nat.zero_le _
theorem Xs (all:List l52Cut) (h:∀ k j:Nat,((all.getD k default).w.getD j default).size≤1048576) (i:Nat) (k:Int):(F49 (all.getD i default) k).size≤1048576:=Qgr (h i) k
end Go.Proofs.YtbaholefcgacpabGreatDoor
