/- A part of the proof of FnExactTernVias. Texts put together: VFF, PFF, PCL0, VCL, PCL, PK0, VK, PK1, VK2, PK2, PLP, VN0, PN0, VN, PN1N, PCK0, VCKA, PCKB. -/
import Derived.Test.YtcgfkhokhiggkaaGreatDoorRows
import Derived.Test.YtcgfkhokhiggkaaGreatDoorZC55C
namespace Go.Proofs.YtcgfkhokhiggkaaGreatDoor
open Go.RowKit
set_option maxRecDepth 100000
set_option linter.unusedVariables false
set_option linter.unusedSimpArgs false
theorem kc44 (word:ByteArray) {K_:Prop} (p0_:word.size≤1048576) (k_:K_):(word.size≤1048576)∧(Imp (.v (.string word)) (.v (.string word)))∧K_:=⟨p0_,Imp.refl _,k_⟩
abbrev kh44 (word:ByteArray):Hint false Tryz.prog:=.call 44 (S44 word) (ok44 word) none
def F269 (word:ByteArray) (p1:Int) (p2:Int):Bool :=
 (decide (p1≤(F44 word)∧(F44 word)≤p2))
def S269 (word:ByteArray) (p1:Int) (p2:Int):Spec:=⟨[.r (.c (.v (.string word))),.rp ([.v (vI p1)]),.rp ([.v (vI p2)])],.v (.bool (F269 word p1 p2)),word.size≤1048576⟩
theorem ok269 (word:ByteArray) (p1:Int) (p2:Int):(S269 word p1 p2).ok Tryz.prog 269 false :=
 Qi mixed (fn:=Tryz.f269) (ct:=.seq .no (.seq (.reg [(1,kh44 word),(4,Qag (F44 word) p1 p2)]) .no)) Tryz.func269 (fun (hpre0:word.size≤1048576)=>kc44 word (by omega) (Qlx (F44 word) p1 p2 (fiB (decide (p1≤(F44 word)∧(F44 word)≤p2)) (F269 word p1 p2) rfl))) (by kernel_rfl)
def F256 (low:Int) (high:Int):Unit :=
 ()
def S256 (low:Int) (high:Int):Spec:=⟨[.r (.c (.v (vI low))),.r (.c (.v (vI high)))],.cl 269 [.pt 3 [.v (vI low)],.pt 3 [.v (vI high)]],True⟩
theorem ok256 (low:Int) (high:Int):(S256 low high).ok Tryz.prog 256 :=
 Qi mixed (fn:=Tryz.f256) (ct:=.seq .no (.seq .no .no)) Tryz.func256 (fun (_:True)=>(fun hF:(():Unit)=(F256 low high)=>ai (Imps.refl [.v (vI low)]) (ai (Imps.refl [.v (vI high)]) trivial)) rfl) (by kernel_rfl)
def F271 (word:ByteArray) (p1:List ByteArray):Bool :=
 (F272 p1 word)
def S271 (word:ByteArray) (p1:List ByteArray):Spec:=⟨[.r (.c (.v (.string word))),.rp ([.l 1 eStr p1])],.v (.bool (F271 word p1)),word.size≤1048576⟩
theorem ok271 (word:ByteArray) (p1:List ByteArray):(S271 word p1).ok Tryz.prog 271 :=
 Qi mixed (fn:=Tryz.f271) (ct:=.seq .no (.seq (.reg [(2,kh272 p1 word)]) .no)) Tryz.func271 (fun (hpre0:word.size≤1048576)=>kc272 p1 word (fiB (F272 p1 word) (F271 word p1) rfl)) (by kernel_rfl)
def F260 (words:List ByteArray):Unit :=
 ()
def S260 (words:List ByteArray):Spec:=⟨[.ow (.l 1 eStr words) none],.cl 271 [.pt 22 [.l 1 eStr words]],True⟩
theorem ok260 (words:List ByteArray):(S260 words).ok Tryz.prog 260 :=
 Qi mixed (fn:=Tryz.f260) (ct:=.seq .no (.seq .no .no)) Tryz.func260 (fun (_:True)=>(fun hF:(():Unit)=(F260 words)=>ai (Imps.refl [.l 1 eStr words]) trivial) rfl) (by kernel_rfl)
structure Qq where
 word:ByteArray
 key:Int
 checks:SV
 deriving Inhabited
def Ub (x:Qq):List Dat:=[.v (.string x.word),.v (vI x.key),.v (sv x.checks)]
def F263 (f:Qq) (p1:ByteArray):Bool :=
 (!(f.word.toList==p1.toList))
def S263 (f:Qq) (p1:ByteArray):Spec:=⟨[.r (.g (Ub f)),.rp ([.v (.string p1)])],.v (.bool (F263 f p1)),True⟩
theorem ok263 (f:Qq) (p1:ByteArray):(S263 f p1).ok Tryz.prog 263 :=
 Qi mixed (fn:=Tryz.f263) (ct:=.seq .no (.seq .no .no)) Tryz.func263 (fun (_:True)=>(fun hF:((!(f.word.toList==p1.toList)):Bool)=(F263 f p1)=>ai (congrArg (fun r:Bool=>(.bool r:Value)) hF) trivial) rfl) (by kernel_rfl)
def Yn (Q:Qq→Prop) (p:Qq→Bool):Uw:=⟨Qq,fun i=>[.g (pxH (Ub i) (Q i))],fun i=>.bool (p i)⟩
def Ys (s:List Qq) (f:Qq→Bool):Int→Lp Int Int:=fun v8 =>
 bif (decide (v8<(s.length:Int))) then (bif (f (s.getD v8.toNat default)) then (.ret v8) else (.next (v8+1))) else (.done v8)
def F273 (s:List Qq) (f:Qq→Bool):Int :=
 (runL (Ys s f) (((s.length:Int)-0).toNat+1) 0).fin (fun r=>r) (fun v8=>(-1))
def S273 (R:Int) (s:List Qq) (f:Qq→Bool) (Qf:Qq→Prop):Spec:=⟨[.r (.c (.l 3 Ub s)),.fn (Yn Qf f)],.v (vI R),(∀ k:Nat,k<s.length→Qf (s.getD k default))⟩
theorem ok273 (s:List Qq) (f:Qq→Bool) (Qf:Qq→Prop):(S273 (F273 s f) s f Qf).ok Tryz.prog 273 false :=
 Qi mixed (fn:=Tryz.f273) (ct:=.seqk [(0,0)] .no (.seq (.seqk [(0,0)] .no (.blk (.loop (ι:=Nat×Int) (fun i=>(fun (v8:Int)=>(⟨[(0,some (.h 0 0)),(1,some (.h 1 0)),(7,some (.v (vI (s.length:Int)))),(8,some (.v (vI v8)))],[(0,some (.shr none (.l 3 Ub s))),(1,some (.fn (Yn Qf f)))],2⟩:St)) i.2) (fun i=>runL (Ys s f) i.1 i.2=(runL (Ys s f) (((s.length:Int)-0).toNat+1) 0)∧(fun (v8:Int)=>(Int.toNat ((s.length:Int)-v8)<i.1∧(0:Int)≤v8)) i.2) (fun i=>i.1) ((((s.length:Int)-0).toNat+1),0) (fun i=>(fun (v8:Int)=>(.seq .no (.seq (.cond .no .no) (.seq (.blk (.seq .no (.seq (.reg [(5,.fnv (Yn Qf f) (s.getD v8.toNat default))]) (.cond (.seq .no .no) .no)))) (.reg [(0,.bnd)]))))) i.2)))) (.seq .no .no))) Tryz.func273 (fun (hpre0:∀ k:Nat,k<s.length→Qf (s.getD k default))=>kn s fun _=>kn s fun _=>ai (ai rfl (ai rfl (ai ir (ai rfl (ai (rfl:runL (Ys s f) (((s.length:Int)-0).toNat+1) 0=(runL (Ys s f) (((s.length:Int)-0).toNat+1) 0)) (ai (Nat.lt_succ_self _:Int.toNat ((s.length:Int)-0)<(((s.length:Int)-0).toNat+1)) (by omega:(0:Int)≤0)))))):((.int .i64 (s.length:Int):Value)=.int .i64 (s.length:Int))∧((.int .i64 0:Value)=.int .i64 0)∧(Imp (.l 3 Ub s) (.l 3 Ub s))∧(Yn Qf f=Yn Qf f)∧(runL (Ys s f) (((s.length:Int)-0).toNat+1) 0=(runL (Ys s f) (((s.length:Int)-0).toNat+1) 0)∧Int.toNat ((s.length:Int)-0)<(((s.length:Int)-0).toNat+1)∧(0:Int)≤0)) (fun (i0:Nat×Int) (hi0:runL (Ys s f) i0.1 i0.2=(runL (Ys s f) (((s.length:Int)-0).toNat+1) 0)∧(fun (v8:Int)=>(Int.toNat ((s.length:Int)-v8)<i0.1∧(0:Int)≤v8)) i0.2)=>(fun (m0:Nat) (v8:Int) (hI0:runL (Ys s f) (m0+1) v8=(runL (Ys s f) (((s.length:Int)-0).toNat+1) 0)) (_:Int.toNat ((s.length:Int)-v8)<m0+1) (hl0:m0<i0.1) (_:(0:Int)≤v8)=>ifd (v8<(s.length:Int)) (fun h2 _=>ai (by omega:ib v8 s) (ai (Eq.refl (Yn Qf f)) (ai (Imps.pxH (ds:=Ub (s.getD v8.toNat default)) (hpre0 v8.toNat (by omega))) (ifb (f (s.getD v8.toNat default)) (fun h3=>(fun hF:(v8:Int)=(F273 s f)=>ai (congrArg (fun r:Int=>(.int .i64 r:Value)) hF) trivial) (finR (Qr hI0 (condT h2 (condT h3 rfl))) rfl)) (fun h3=>ai (iok (v8+1) (by omega)) (Exists.intro (p:=fun j:Nat×Int=>(fun (v8_:Int)=>(((.int .i64 (s.length:Int):Value)=.int .i64 (s.length:Int))∧((.int .i64 (v8+1):Value)=.int .i64 v8_)∧(Imp (.l 3 Ub s) (.l 3 Ub s))∧(Yn Qf f=Yn Qf f)∧((runL (Ys s f) j.1 j.2=(runL (Ys s f) (((s.length:Int)-0).toNat+1) 0)∧Int.toNat ((s.length:Int)-v8_)<j.1∧(0:Int)≤v8_)∧j.1<i0.1))) j.2) (m0,(v8+1)) (ai rfl (ai rfl (ai ir (ai rfl (ai (ai (Qe hI0 (condT h2 (condF h3 rfl))) (ai (by omega:Int.toNat ((s.length:Int)-(v8+1))<m0) (by omega:(0:Int)≤(v8+1)))) hl0))))))))))) (fun h2 _=>(fun hD0_4:(runL (Ys s f) (((s.length:Int)-0).toNat+1) 0)=Lp.done v8=>(fun hF:((-1):Int)=(F273 s f)=>ai (congrArg (fun r:Int=>(.int .i64 r:Value)) hF) trivial) (finD hD0_4 rfl)) (Qj hI0 (condF h2 rfl)))) (i0.1-1) i0.2 (hd1 hi0.1 hi0.2.1) (hd2 hi0.2.1) (hd3 hi0.2.1) hi0.2.2)) (by kernel_rfl)
theorem as273 (s:List Qq) (f:Qq→Bool):F273 s f=(idxI f s):=by
 exact Vs f s (Ys s f) (fun i=>rfl)
theorem oa273 (s:List Qq) (f:Qq→Bool) (Qf:Qq→Prop):(S273 (idxI f s) s f Qf).ok Tryz.prog 273 false:=by
 intro hp; have h:=ok273 s f Qf hp; rw [as273 s f] at h; exact h
theorem g273_0 (s:List Qq) (f:Qq→Bool):(idxI f s)<(s.length:Int):=by
 exact Mj f s
theorem g273_1 (s:List Qq) (f:Qq→Bool):-1≤(idxI f s):=by
 (show -1≤idxI f s; unfold idxI; cases first (fun k=>f (s.getD k default)) s.length <;> simp only [oix] <;> omega)
def Yk (s:List Qq) (del:Qq→Bool):(Int×Int×List Qq)→Lp (Int×Int×List Qq) (List Qq):=fun (i41,j1,xs) =>
 bif (decide (j1<(xs.length:Int))) then (bif (!(del (xs.getD j1.toNat default))) then (.next ((i41+1),(j1+1),(xs.set (i41).toNat (xs.getD j1.toNat default)))) else (.next (i41,(j1+1),xs))) else (.done (i41,j1,xs))
def Pg (s:List Qq) (del:Qq→Bool):Lp (List Qq×Int) (List Qq) :=
 (runL (Yk s del) (((s.length:Int)-((idxI del s)+1)).toNat+1) ((idxI del s),((idxI del s)+1),s)).fin Lp.ret (fun (i41,j1,xs)=>.done (xs,i41))
def F262 (s:List Qq) (del:Qq→Bool):List Qq :=
 bif ((idxI del s)==(-1)) then s else ((Pg s del).fin (fun r=>r) (fun (s1,i40)=>((s1.take i40.toNat++List.replicate (s1.drop i40.toNat).length ((⟨(⟨#[]⟩:ByteArray),0,(⟨none,0,0⟩:SV)⟩:Qq):Qq)++s1.drop (i40.toNat+(s1.drop i40.toNat).length)).take i40.toNat)))
def S262 (R:List Qq) (s:List Qq) (del:Qq→Bool) (Qdel:Qq→Prop):Spec:=⟨[.ow (.l 3 Ub s) none,.fn (Yn Qdel del)],.ow (.l 3 Ub R),s.length≤1000000000∧(∀ k:Nat,k<s.length→Qdel (s.getD k default))⟩
abbrev Xk (xs:List Qq) (i41:Int) (j1:Int):=(xs.set (i41).toNat (xs.getD j1.toNat default))
theorem ok262 (s:List Qq) (del:Qq→Bool) (Qdel:Qq→Prop):(S262 (F262 s del) s del Qdel).ok Tryz.prog 262 false :=
 Qi mixed (fn:=Tryz.f262) (ct:=.seqk [(0,0)] .no (.seq (.reg [(2,.call 273 (S273 (idxI del s) s del Qdel) (oa273 s del Qdel) none)]) (.seq (.seq .no (.cond (.seq .no .no) .no)) (.cut (ι:=List Qq×Int) (fun j=>(fun (s1:List Qq) (i40:Int)=>(⟨[(0,some (.h 0 0)),(5,some (.v (vI i40)))],[(0,some (.own 0 (.l 3 Ub s1)))],1⟩:St)) j.1 j.2) (fun j=>(fun (s1:List Qq) (i40:Int)=>((Pg s del)=Lp.done j∧(0≤i40∧i40≤(s1.length:Int)))) j.1 j.2) (.seqk [(0,0)] (.reg [(1,.bnd)]) (.blk (.loop (ι:=Nat×(Int×Int×List Qq)) (fun i=>(fun (i41:Int) (j1:Int) (xs:List Qq)=>(⟨[(0,some (.h 0 0)),(1,some (.h 1 0)),(5,some (.v (vI i41))),(6,some (.v (vI j1)))],[(0,some (.own 0 (.l 3 Ub xs))),(1,some (.fn (Yn Qdel del)))],2⟩:St)) i.2.1 i.2.2.1 i.2.2.2) (fun i=>runL (Yk s del) i.1 i.2=(runL (Yk s del) (((s.length:Int)-((idxI del s)+1)).toNat+1) ((idxI del s),((idxI del s)+1),s))∧(fun (i41:Int) (j1:Int) (xs:List Qq)=>(Int.toNat ((xs.length:Int)-j1)<i.1∧(0≤i41∧i41<j1)∧j1≤(xs.length:Int)∧xs.length≤1000000000∧(∀ k:Nat,j1≤(k:Int)→k<xs.length→Qdel (xs.getD k default))∧xs.length=s.length)) i.2.1 i.2.2.1 i.2.2.2) (fun i=>i.1) ((((s.length:Int)-((idxI del s)+1)).toNat+1),((idxI del s),((idxI del s)+1),s)) (fun i=>(fun (i41:Int) (j1:Int) (xs:List Qq)=>(.seq (.seq .no (.cond .no .no)) (.seq (.blk (.seq .no (.seq (.reg [(2,.fnv (Yn Qdel del) (xs.getD j1.toNat default))]) (.cond (.seq (.reg [(4,.dat (.l 3 Ub (Xk xs i41 j1)))]) (.reg [(1,.bnd)])) .no)))) (.reg [(1,.bnd)])))) i.2.1 i.2.2.1 i.2.2.2)))) (fun j=>(fun (s1:List Qq) (i40:Int)=>(.seq (.reg [(2,.part),(3,.dat (.l 3 Ub (s1.take i40.toNat++List.replicate (s1.drop i40.toNat).length ((⟨w13_,0,(⟨none,0,0⟩:SV)⟩:Qq):Qq)++s1.drop (i40.toNat+(s1.drop i40.toNat).length))))]) (.seq (.reg [(2,.own)]) .no))) j.1 j.2))))) Tryz.func262 (fun (hp:s.length≤1000000000∧(∀ k:Nat,k<s.length→Qdel (s.getD k default)))=>have hpre0:=hp.1; have hpre1:=hp.2; kn s fun _=>ai (by assumption:∀ k:Nat,k<s.length→Qdel (s.getD k default)) (ai (Imp.refl (.l 3 Ub s)) (ai (Eq.refl (Yn Qdel del)) (have gv1:(idxI del s)<(s.length:Int):=g273_0 s del; have gv2:-1≤(idxI del s):=g273_1 s del; ife (idxI del s) (-1) (fun h3 _=>(fun hF:(s:List Qq)=(F262 s del)=>ai (Imp.of_eq (congrArg (fun r:List Qq=>Dat.l 3 Ub r) hF)) trivial) (condT h3 rfl)) (fun h3 _=>ai (ai (iok ((idxI del s)+1) (by omega)) (kn s fun _=>ai (ai rfl (ai rfl (ai ir (ai rfl (ai (rfl:runL (Yk s del) (((s.length:Int)-((idxI del s)+1)).toNat+1) ((idxI del s),((idxI del s)+1),s)=(runL (Yk s del) (((s.length:Int)-((idxI del s)+1)).toNat+1) ((idxI del s),((idxI del s)+1),s))) (ai (Nat.lt_succ_self _:Int.toNat ((s.length:Int)-((idxI del s)+1))<(((s.length:Int)-((idxI del s)+1)).toNat+1)) (ai (by omega:0≤(idxI del s)∧(idxI del s)<((idxI del s)+1)) (ai (by omega:((idxI del s)+1)≤(s.length:Int)) (ai (by omega:s.length≤1000000000) (ai (by (intro k hk hk2; exact (by assumption:∀ k:Nat,k<s.length→Qdel (s.getD k default)) k hk2):∀ k:Nat,((idxI del s)+1)≤(k:Int)→k<s.length→Qdel (s.getD k default)) (by omega:s.length=s.length)))))))))):((.int .i64 (idxI del s):Value)=.int .i64 (idxI del s))∧((.int .i64 ((idxI del s)+1):Value)=.int .i64 ((idxI del s)+1))∧(Imp (.l 3 Ub s) (.l 3 Ub s))∧(Yn Qdel del=Yn Qdel del)∧(runL (Yk s del) (((s.length:Int)-((idxI del s)+1)).toNat+1) ((idxI del s),((idxI del s)+1),s)=(runL (Yk s del) (((s.length:Int)-((idxI del s)+1)).toNat+1) ((idxI del s),((idxI del s)+1),s))∧Int.toNat ((s.length:Int)-((idxI del s)+1))<(((s.length:Int)-((idxI del s)+1)).toNat+1)∧(0≤(idxI del s)∧(idxI del s)<((idxI del s)+1))∧((idxI del s)+1)≤(s.length:Int)∧s.length≤1000000000∧(∀ k:Nat,((idxI del s)+1)≤(k:Int)→k<s.length→Qdel (s.getD k default))∧s.length=s.length)) (fun (i0:Nat×(Int×Int×List Qq)) (hi0:runL (Yk s del) i0.1 i0.2=(runL (Yk s del) (((s.length:Int)-((idxI del s)+1)).toNat+1) ((idxI del s),((idxI del s)+1),s))∧(fun (i41:Int) (j1:Int) (xs:List Qq)=>(Int.toNat ((xs.length:Int)-j1)<i0.1∧(0≤i41∧i41<j1)∧j1≤(xs.length:Int)∧xs.length≤1000000000∧(∀ k:Nat,j1≤(k:Int)→k<xs.length→Qdel (xs.getD k default))∧xs.length=s.length)) i0.2.1 i0.2.2.1 i0.2.2.2)=>(fun (m0:Nat) (i41:Int) (j1:Int) (xs:List Qq) (hI0:runL (Yk s del) (m0+1) (i41,j1,xs)=(runL (Yk s del) (((s.length:Int)-((idxI del s)+1)).toNat+1) ((idxI del s),((idxI del s)+1),s))) (_:Int.toNat ((xs.length:Int)-j1)<m0+1) (hl0:m0<i0.1) (_:0≤i41∧i41<j1) (_:j1≤(xs.length:Int)) (_:xs.length≤1000000000) (_:∀ k:Nat,j1≤(k:Int)→k<xs.length→Qdel (xs.getD k default)) (_:xs.length=s.length)=>ifd (j1<(xs.length:Int)) (fun h5 _=>ai (by omega:ib j1 xs) (ai (Eq.refl (Yn Qdel del)) (ai (Imps.pxH (ds:=Ub (xs.getD j1.toNat default)) ((by assumption:∀ k:Nat,j1≤(k:Int)→k<xs.length→Qdel (xs.getD k default)) j1.toNat (by omega) (by omega))) (ifb (!(del (xs.getD j1.toNat default))) (fun h6=>have _:=(We h6); ai (by omega:ib i41 xs) (ai (setr 3 Ub xs (i41).toNat (xs.getD j1.toNat default)) (ai (iok (i41+1) (by omega)) (ai (iok (j1+1) (by omega)) (Exists.intro (p:=fun j:Nat×(Int×Int×List Qq)=>(fun (i41_:Int) (j1_:Int) (xs_:List Qq)=>(((.int .i64 (i41+1):Value)=.int .i64 i41_)∧((.int .i64 (j1+1):Value)=.int .i64 j1_)∧(Imp (.l 3 Ub (Xk xs i41 j1)) (.l 3 Ub xs_))∧(Yn Qdel del=Yn Qdel del)∧((runL (Yk s del) j.1 j.2=(runL (Yk s del) (((s.length:Int)-((idxI del s)+1)).toNat+1) ((idxI del s),((idxI del s)+1),s))∧Int.toNat ((xs_.length:Int)-j1_)<j.1∧(0≤i41_∧i41_<j1_)∧j1_≤(xs_.length:Int)∧xs_.length≤1000000000∧(∀ k:Nat,j1_≤(k:Int)→k<xs_.length→Qdel (xs_.getD k default))∧xs_.length=s.length)∧j.1<i0.1))) j.2.1 j.2.2.1 j.2.2.2) (m0,((i41+1),(j1+1),(Xk xs i41 j1))) (ai rfl (ai rfl (ai ir (ai rfl (ai (ai (Qe hI0 (condT h5 (condT h6 rfl))) (ai (by (simp only [lens,ib] at*<;> omega):Int.toNat (((Xk xs i41 j1).length:Int)-(j1+1))<m0) (ai (by omega:0≤(i41+1)∧(i41+1)<(j1+1)) (ai (by (simp only [lens,ib] at*<;> omega):(j1+1)≤((Xk xs i41 j1).length:Int)) (ai (by (simp only [lens,ib] at*<;> omega):(Xk xs i41 j1).length≤1000000000) (ai (by (intro k hk hk2; (rw [Un _ _ _ _ (by omega)]; exact (by assumption:∀ k:Nat,j1≤(k:Int)→k<xs.length→Qdel (xs.getD k default)) k (by omega) (by simpa using hk2))):∀ k:Nat,(j1+1)≤(k:Int)→k<(Xk xs i41 j1).length→Qdel ((Xk xs i41 j1).getD k default)) (by (simp only [lens,ib] at*<;> omega):(Xk xs i41 j1).length=s.length))))))) hl0)))))))))) (fun h6=>have _:=(Uu h6); ai (iok (j1+1) (by omega)) (Exists.intro (p:=fun j:Nat×(Int×Int×List Qq)=>(fun (i41_:Int) (j1_:Int) (xs_:List Qq)=>(((.int .i64 i41:Value)=.int .i64 i41_)∧((.int .i64 (j1+1):Value)=.int .i64 j1_)∧(Imp (.l 3 Ub xs) (.l 3 Ub xs_))∧(Yn Qdel del=Yn Qdel del)∧((runL (Yk s del) j.1 j.2=(runL (Yk s del) (((s.length:Int)-((idxI del s)+1)).toNat+1) ((idxI del s),((idxI del s)+1),s))∧Int.toNat ((xs_.length:Int)-j1_)<j.1∧(0≤i41_∧i41_<j1_)∧j1_≤(xs_.length:Int)∧xs_.length≤1000000000∧(∀ k:Nat,j1_≤(k:Int)→k<xs_.length→Qdel (xs_.getD k default))∧xs_.length=s.length)∧j.1<i0.1))) j.2.1 j.2.2.1 j.2.2.2) (m0,(i41,(j1+1),xs)) (ai rfl (ai rfl (ai ir (ai rfl (ai (ai (Qe hI0 (condT h5 (condF h6 rfl))) (ai (by omega:Int.toNat ((xs.length:Int)-(j1+1))<m0) (ai (by omega:0≤i41∧i41<(j1+1)) (ai (by omega:(j1+1)≤(xs.length:Int)) (ai (by omega:xs.length≤1000000000) (ai (by (intro k hk hk2; exact (by assumption:∀ k:Nat,j1≤(k:Int)→k<xs.length→Qdel (xs.getD k default)) k (by omega) hk2):∀ k:Nat,(j1+1)≤(k:Int)→k<xs.length→Qdel (xs.getD k default)) (by omega:xs.length=s.length))))))) hl0))))))))))) (fun h5 _=>(fun hD0_7:(runL (Yk s del) (((s.length:Int)-((idxI del s)+1)).toNat+1) ((idxI del s),((idxI del s)+1),s))=Lp.done (i41,j1,xs)=>Exists.intro (p:=fun j:List Qq×Int=>(fun (s1_:List Qq) (i40_:Int)=>(((.int .i64 i41:Value)=.int .i64 i40_)∧(Imp (.l 3 Ub xs) (.l 3 Ub s1_))∧(Pg s del)=Lp.done j∧(0≤i40_∧i40_≤(s1_.length:Int)))) j.1 j.2) (xs,i41) (ai rfl (ai ir (ai (Eq.symm (finD hD0_7 rfl)) (by omega:0≤i41∧i41≤(xs.length:Int)))))) (Qj hI0 (condF h5 rfl)))) (i0.1-1) i0.2.1 i0.2.2.1 i0.2.2.2 (hd1 hi0.1 hi0.2.1) (hd2 hi0.2.1) (hd3 hi0.2.1) hi0.2.2.1 hi0.2.2.2.1 hi0.2.2.2.2.1 hi0.2.2.2.2.2.1 hi0.2.2.2.2.2.2))) (fun (j:List Qq×Int) (hj:(fun (s1:List Qq) (i40:Int)=>((Pg s del)=Lp.done j∧(0≤i40∧i40≤(s1.length:Int)))) j.1 j.2)=>(fun (s1:List Qq) (i40:Int) (hJ0_8:(Pg s del)=Lp.done (s1,i40)) (_:0≤i40∧i40≤(s1.length:Int))=>ai (by omega:0≤i40∧i40≤(s1.length:Int)∧(s1.length:Int)≤(s1.length:Int)) (ai (ClearOK.mk Ub s1 ((⟨w13_,0,(⟨none,0,0⟩:SV)⟩:Qq):Qq) rfl (fun y e he=>by simp only [Ub,List.mem_cons,List.not_mem_nil,or_false] at he; rcases he with rfl | rfl | rfl <;> exact ⟨_,rfl⟩):ClearOK (.l 3 Ub s1) i40.toNat (s1.drop i40.toNat).length 3 [.string w13_,.int .i64 0,.slice none 0 0] (.l 3 Ub (s1.take i40.toNat++List.replicate (s1.drop i40.toNat).length ((⟨w13_,0,(⟨none,0,0⟩:SV)⟩:Qq):Qq)++s1.drop (i40.toNat+(s1.drop i40.toNat).length)))) (ai (by (simp only [lens,ib] at*<;> omega):0≤(0:Int)∧(0:Int)≤i40∧i40≤((s1.take i40.toNat++List.replicate (s1.drop i40.toNat).length ((⟨w13_,0,(⟨none,0,0⟩:SV)⟩:Qq):Qq)++s1.drop (i40.toNat+(s1.drop i40.toNat).length)).length:Int)) ((fun hF:(((s1.take i40.toNat++List.replicate (s1.drop i40.toNat).length ((⟨w13_,0,(⟨none,0,0⟩:SV)⟩:Qq):Qq)++s1.drop (i40.toNat+(s1.drop i40.toNat).length)).take i40.toNat):List Qq)=(F262 s del)=>ai (Imp.of_eq (congrArg (fun r:List Qq=>Dat.l 3 Ub r) hF)) trivial) (condF h3 (finD hJ0_8 rfl)))))) j.1 j.2 hj.1 hj.2)))))) (by kernel_rfl)
theorem as262 (s:List Qq) (del:Qq→Bool):F262 s del=(s.filter (fun x=>!(del x))):=by
 exact Qlt del s _ (Yk s del) (fun i j xs=>rfl)
theorem oa262 (s:List Qq) (del:Qq→Bool) (Qdel:Qq→Prop):(S262 (s.filter (fun x=>!(del x))) s del Qdel).ok Tryz.prog 262 false:=by
 intro hp; have h:=ok262 s del Qdel hp; rw [as262 s del] at h; exact h
def Za (p:ByteArray→Bool):Uw:=⟨ByteArray,fun i=>[.c (.x (BX i 1048576))],fun i=>.bool (p i)⟩
def Wj (p:ByteArray→Bool):List Dat:=[.x (FnX Tryz.prog (Za p))]
structure form where
 word:ByteArray
 key:Int
 checks:List (ByteArray→Bool)
 deriving Inhabited
def Hh (x:form):List Dat:=[.v (.string x.word),.v (vI x.key),.l 1 Wj x.checks]
theorem Ed (low:Int) (high:Int) {K_:Prop} (k_:K_):(True)∧(Imp (.v (vI low)) (.v (vI low)))∧(Imp (.v (vI high)) (.v (vI high)))∧K_:=⟨trivial,Imp.refl _,Imp.refl _,k_⟩
theorem kc260 (words:List ByteArray) {K_:Prop} (k_:K_):(True)∧(Imp (.l 1 eStr words) (.l 1 eStr words))∧K_:=⟨trivial,Imp.refl _,k_⟩
abbrev Ba (low:Int) (high:Int):Hint false Tryz.prog:=.call 256 (S256 low high) ((ok256 low high).to false) none
abbrev Uda (words:List ByteArray):Hint false Tryz.prog:=.call 260 (S260 words) ((ok260 words).to false) none
def Kb (x:Nat→SV):List Qq:=[⟨(⟨#[104,111,115,116]⟩:ByteArray),1,x 0⟩,⟨(⟨#[117,115,101,114]⟩:ByteArray),2,x 1⟩,⟨(⟨#[112,111,114,116]⟩:ByteArray),2,x 2⟩,⟨(⟨#[112,111,114,116]⟩:ByteArray),2,x 3⟩,⟨(⟨#[114,117,108,101]⟩:ByteArray),3,x 4⟩,⟨(⟨#[114,111,117,116,101]⟩:ByteArray),3,x 5⟩,⟨(⟨#[112,101,101,114]⟩:ByteArray),2,x 6⟩,⟨(⟨#[110,97,116]⟩:ByteArray),1,x 7⟩,⟨(⟨#[100,111,111,114]⟩:ByteArray),3,x 8⟩]
def all238:List form:=[⟨(⟨#[104,111,115,116]⟩:ByteArray),1,[(fun x0=>F257 x0)]⟩,⟨(⟨#[117,115,101,114]⟩:ByteArray),2,[(fun x0=>F257 x0),(fun x0=>F258 x0)]⟩,⟨(⟨#[112,111,114,116]⟩:ByteArray),2,[(fun x0=>F269 x0 0 7),(fun x0=>F259 x0)]⟩,⟨(⟨#[112,111,114,116]⟩:ByteArray),2,[(fun x0=>F269 x0 0 7),(fun x0=>F259 x0),(fun x0=>F271 x0 ([(⟨#[105,110]⟩:ByteArray)]:List ByteArray)),(fun x0=>F257 x0)]⟩,⟨(⟨#[114,117,108,101]⟩:ByteArray),3,[(fun x0=>F257 x0),(fun x0=>F269 x0 0 99),(fun x0=>F271 x0 ([(⟨#[112,101,114,109,105,116]⟩:ByteArray),(⟨#[100,101,110,121]⟩:ByteArray)]:List ByteArray)),(fun x0=>F259 x0),(fun x0=>F259 x0),(fun x0=>F269 x0 0 7)]⟩,⟨(⟨#[114,111,117,116,101]⟩:ByteArray),3,[(fun x0=>F259 x0),(fun x0=>F261 x0)]⟩,⟨(⟨#[112,101,101,114]⟩:ByteArray),2,[(fun x0=>F261 x0),(fun x0=>F269 x0 1 9),(fun x0=>F269 x0 1 999999)]⟩,⟨(⟨#[110,97,116]⟩:ByteArray),1,[(fun x0=>F259 x0),(fun x0=>F261 x0),(fun x0=>F269 x0 1 65535),(fun x0=>F269 x0 1 65535)]⟩,⟨(⟨#[100,111,111,114]⟩:ByteArray),3,[(fun x0=>F269 x0 1 7),(fun x0=>F269 x0 1 65535),(fun x0=>F261 x0),(fun x0=>F269 x0 1 65535)]⟩]
def Xh (x:Nat→SV):List (Value×Dat):=[(sv (x 0),.l 1 Wj [(fun x0=>F257 x0)]),(sv (x 1),.l 1 Wj [(fun x0=>F257 x0),(fun x0=>F258 x0)]),(sv (x 2),.l 1 Wj [(fun x0=>F269 x0 0 7),(fun x0=>F259 x0)]),(sv (x 3),.l 1 Wj [(fun x0=>F269 x0 0 7),(fun x0=>F259 x0),(fun x0=>F271 x0 ([(⟨#[105,110]⟩:ByteArray)]:List ByteArray)),(fun x0=>F257 x0)]),(sv (x 4),.l 1 Wj [(fun x0=>F257 x0),(fun x0=>F269 x0 0 99),(fun x0=>F271 x0 ([(⟨#[112,101,114,109,105,116]⟩:ByteArray),(⟨#[100,101,110,121]⟩:ByteArray)]:List ByteArray)),(fun x0=>F259 x0),(fun x0=>F259 x0),(fun x0=>F269 x0 0 7)]),(sv (x 5),.l 1 Wj [(fun x0=>F259 x0),(fun x0=>F261 x0)]),(sv (x 6),.l 1 Wj [(fun x0=>F261 x0),(fun x0=>F269 x0 1 9),(fun x0=>F269 x0 1 999999)]),(sv (x 7),.l 1 Wj [(fun x0=>F259 x0),(fun x0=>F261 x0),(fun x0=>F269 x0 1 65535),(fun x0=>F269 x0 1 65535)]),(sv (x 8),.l 1 Wj [(fun x0=>F269 x0 1 7),(fun x0=>F269 x0 1 65535),(fun x0=>F261 x0),(fun x0=>F269 x0 1 65535)])]
def Qvu:FnH Tryz.prog:=⟨true,257,Za (fun x0=>F257 x0),[],rfl,True,fun i=>Qgi (ok257 i)⟩
theorem Qpu:Ua Tryz.prog 257=true:=by kernel_rfl
def fh258:FnH Tryz.prog:=⟨true,258,Za (fun x0=>F258 x0),[],rfl,True,fun i=>Qgi (ok258 i)⟩
theorem ca258:Ua Tryz.prog 258=true:=by kernel_rfl
def Qgh:FnH Tryz.prog:=⟨false,259,Za (fun x0=>F259 x0),[],rfl,True,fun i=>Qgi (ok259 i)⟩
theorem Qff:Ua Tryz.prog 259=true:=by kernel_rfl
def Qsx:FnH Tryz.prog:=⟨false,261,Za (fun x0=>F261 x0),[],rfl,True,fun i=>Qgi (ok261 i)⟩
theorem Quk:Ua Tryz.prog 261=true:=by kernel_rfl
def Bf (a b:Int):FnH Tryz.prog:=⟨false,269,Za (fun x0=>F269 x0 a b),[.rp [.v (vI a)],.rp [.v (vI b)]],rfl,True,fun i=>Qgi (ok269 i a b)⟩
theorem Gb:Ua Tryz.prog 269=true:=by kernel_rfl
def fh271 (l:List ByteArray):FnH Tryz.prog:=⟨true,271,Za (fun x0=>F271 x0 l),[.rp [.l 1 eStr l]],rfl,True,fun i=>Qgi (ok271 i l)⟩
theorem ca271:Ua Tryz.prog 271=true:=by kernel_rfl
theorem Uio (word:ByteArray):Qnx Tryz.prog 45 (fun _:Unit=>(⟨[(1,some (.p 0 0)),(5,some (.h 1 0)),(8,some (.h 2 0))],[(0,some (.box 9 [.v (.string word)])),(1,some (.arr 9 [.v (.string (⟨#[104,111,115,116]⟩:ByteArray)),.v (vI 1),.h 2 0,.v (.string (⟨#[117,115,101,114]⟩:ByteArray)),.v (vI 2),.h 3 0,.v (.string (⟨#[112,111,114,116]⟩:ByteArray)),.v (vI 2),.h 4 0,.v (.string (⟨#[112,111,114,116]⟩:ByteArray)),.v (vI 2),.h 7 0,.v (.string (⟨#[114,117,108,101]⟩:ByteArray)),.v (vI 3),.h 12 0,.v (.string (⟨#[114,111,117,116,101]⟩:ByteArray)),.v (vI 3),.h 19 0,.v (.string (⟨#[112,101,101,114]⟩:ByteArray)),.v (vI 2),.h 20 0,.v (.string (⟨#[110,97,116]⟩:ByteArray)),.v (vI 1),.h 25 0,.v (.string (⟨#[100,111,111,114]⟩:ByteArray)),.v (vI 3),.h 28 0])),(2,some (.arr 1 [.cl 257 []])),(3,some (.arr 2 [.cl 257 [],.cl 258 []])),(4,some (.arr 2 [.cl 269 [.p 5 0,.p 6 0],.cl 259 []])),(5,some (.box 3 [.v (vI 0)])),(6,some (.box 3 [.v (vI 7)])),(7,some (.arr 4 [.cl 269 [.p 8 0,.p 9 0],.cl 259 [],.cl 271 [.p 10 0],.cl 257 []])),(8,some (.box 3 [.v (vI 0)])),(9,some (.box 3 [.v (vI 7)])),(10,some (.box 22 [.h 11 0])),(11,some (.own 11 (.l 1 eStr ([(⟨#[105,110]⟩:ByteArray)]:List ByteArray)))),(12,some (.arr 6 [.cl 257 [],.cl 269 [.p 13 0,.p 14 0],.cl 271 [.p 15 0],.cl 259 [],.cl 259 [],.cl 269 [.p 17 0,.p 18 0]])),(13,some (.box 3 [.v (vI 0)])),(14,some (.box 3 [.v (vI 99)])),(15,some (.box 22 [.h 16 0])),(16,some (.own 16 (.l 1 eStr ([(⟨#[112,101,114,109,105,116]⟩:ByteArray),(⟨#[100,101,110,121]⟩:ByteArray)]:List ByteArray)))),(17,some (.box 3 [.v (vI 0)])),(18,some (.box 3 [.v (vI 7)])),(19,some (.arr 2 [.cl 259 [],.cl 261 []])),(20,some (.arr 3 [.cl 261 [],.cl 269 [.p 21 0,.p 22 0],.cl 269 [.p 23 0,.p 24 0]])),(21,some (.box 3 [.v (vI 1)])),(22,some (.box 3 [.v (vI 9)])),(23,some (.box 3 [.v (vI 1)])),(24,some (.box 3 [.v (vI 999999)])),(25,some (.arr 4 [.cl 259 [],.cl 261 [],.cl 269 [.p 26 0,.p 27 0],.cl 269 [.p 26 0,.p 27 0]])),(26,some (.box 3 [.v (vI 1)])),(27,some (.box 3 [.v (vI 65535)])),(28,some (.arr 4 [.cl 269 [.p 29 0,.p 30 0],.cl 269 [.p 26 0,.p 27 0],.cl 261 [],.cl 269 [.p 26 0,.p 27 0]])),(29,some (.box 3 [.v (vI 1)])),(30,some (.box 3 [.v (vI 7)]))],31⟩:St)) (fun _=>True) (fun x:Nat→SV=>(⟨[(1,some (.p 0 0)),(5,some (.h 1 0)),(8,some (.h 2 0))],[(0,some (.box 9 [.v (.string word)])),(1,some (.own 1 (.l 3 Ub (Kb x)))),(2,some (.own 2 (.x (LX (Xh x)))))],31⟩:St)) (fun _=>True):=by
 intro ψ IN w0 w a i _ H
 obtain ⟨β,φ,dom,V⟩:=H
 have R:=V.rel
 have hall:Qpa (fsG (⟨[(1,some (.p 0 0)),(5,some (.h 1 0)),(8,some (.h 2 0))],[(0,some (.box 9 [.v (.string word)])),(1,some (.arr 9 [.v (.string (⟨#[104,111,115,116]⟩:ByteArray)),.v (vI 1),.h 2 0,.v (.string (⟨#[117,115,101,114]⟩:ByteArray)),.v (vI 2),.h 3 0,.v (.string (⟨#[112,111,114,116]⟩:ByteArray)),.v (vI 2),.h 4 0,.v (.string (⟨#[112,111,114,116]⟩:ByteArray)),.v (vI 2),.h 7 0,.v (.string (⟨#[114,117,108,101]⟩:ByteArray)),.v (vI 3),.h 12 0,.v (.string (⟨#[114,111,117,116,101]⟩:ByteArray)),.v (vI 3),.h 19 0,.v (.string (⟨#[112,101,101,114]⟩:ByteArray)),.v (vI 2),.h 20 0,.v (.string (⟨#[110,97,116]⟩:ByteArray)),.v (vI 1),.h 25 0,.v (.string (⟨#[100,111,111,114]⟩:ByteArray)),.v (vI 3),.h 28 0])),(2,some (.arr 1 [.cl 257 []])),(3,some (.arr 2 [.cl 257 [],.cl 258 []])),(4,some (.arr 2 [.cl 269 [.p 5 0,.p 6 0],.cl 259 []])),(5,some (.box 3 [.v (vI 0)])),(6,some (.box 3 [.v (vI 7)])),(7,some (.arr 4 [.cl 269 [.p 8 0,.p 9 0],.cl 259 [],.cl 271 [.p 10 0],.cl 257 []])),(8,some (.box 3 [.v (vI 0)])),(9,some (.box 3 [.v (vI 7)])),(10,some (.box 22 [.h 11 0])),(11,some (.own 11 (.l 1 eStr ([(⟨#[105,110]⟩:ByteArray)]:List ByteArray)))),(12,some (.arr 6 [.cl 257 [],.cl 269 [.p 13 0,.p 14 0],.cl 271 [.p 15 0],.cl 259 [],.cl 259 [],.cl 269 [.p 17 0,.p 18 0]])),(13,some (.box 3 [.v (vI 0)])),(14,some (.box 3 [.v (vI 99)])),(15,some (.box 22 [.h 16 0])),(16,some (.own 16 (.l 1 eStr ([(⟨#[112,101,114,109,105,116]⟩:ByteArray),(⟨#[100,101,110,121]⟩:ByteArray)]:List ByteArray)))),(17,some (.box 3 [.v (vI 0)])),(18,some (.box 3 [.v (vI 7)])),(19,some (.arr 2 [.cl 259 [],.cl 261 []])),(20,some (.arr 3 [.cl 261 [],.cl 269 [.p 21 0,.p 22 0],.cl 269 [.p 23 0,.p 24 0]])),(21,some (.box 3 [.v (vI 1)])),(22,some (.box 3 [.v (vI 9)])),(23,some (.box 3 [.v (vI 1)])),(24,some (.box 3 [.v (vI 999999)])),(25,some (.arr 4 [.cl 259 [],.cl 261 [],.cl 269 [.p 26 0,.p 27 0],.cl 269 [.p 26 0,.p 27 0]])),(26,some (.box 3 [.v (vI 1)])),(27,some (.box 3 [.v (vI 65535)])),(28,some (.arr 4 [.cl 269 [.p 29 0,.p 30 0],.cl 269 [.p 26 0,.p 27 0],.cl 261 [],.cl 269 [.p 26 0,.p 27 0]])),(29,some (.box 3 [.v (vI 1)])),(30,some (.box 3 [.v (vI 7)]))],31⟩:St).fs) [2,3,4,5,6,7,8,9,10,11,12,13,14,15,16,17,18,19,20,21,22,23,24,25,26,27,28,29,30]=true:=rfl
 have hS:∀ id∈[2,3,4,5,6,7,8,9,10,11,12,13,14,15,16,17,18,19,20,21,22,23,24,25,26,27,28,29,30],∀ b∈φ id,b∈[2,3,4,5,6,7,8,9,10,11,12,13,14,15,16,17,18,19,20,21,22,23,24,25,26,27,28,29,30].flatMap φ:=fun id hid b hb=>List.mem_flatMap.2 ⟨id,hid,hb⟩
 have hlt:=R.flat_lt (Qfu hall)
 have e2:=Xc R (show fsG _ 2=_ from rfl)
 have e3:=Xc R (show fsG _ 3=_ from rfl)
 have e4:=Xc R (show fsG _ 4=_ from rfl)
 have e7:=Xc R (show fsG _ 7=_ from rfl)
 have e12:=Xc R (show fsG _ 12=_ from rfl)
 have e19:=Xc R (show fsG _ 19=_ from rfl)
 have e20:=Xc R (show fsG _ 20=_ from rfl)
 have e25:=Xc R (show fsG _ 25=_ from rfl)
 have e28:=Xc R (show fsG _ 28=_ from rfl)
 have he:([.v (.string (⟨#[104,111,115,116]⟩:ByteArray)),.v (vI 1),.v (sv (toSV (β 2 0))),.v (.string (⟨#[117,115,101,114]⟩:ByteArray)),.v (vI 2),.v (sv (toSV (β 3 0))),.v (.string (⟨#[112,111,114,116]⟩:ByteArray)),.v (vI 2),.v (sv (toSV (β 4 0))),.v (.string (⟨#[112,111,114,116]⟩:ByteArray)),.v (vI 2),.v (sv (toSV (β 7 0))),.v (.string (⟨#[114,117,108,101]⟩:ByteArray)),.v (vI 3),.v (sv (toSV (β 12 0))),.v (.string (⟨#[114,111,117,116,101]⟩:ByteArray)),.v (vI 3),.v (sv (toSV (β 19 0))),.v (.string (⟨#[112,101,101,114]⟩:ByteArray)),.v (vI 2),.v (sv (toSV (β 20 0))),.v (.string (⟨#[110,97,116]⟩:ByteArray)),.v (vI 1),.v (sv (toSV (β 25 0))),.v (.string (⟨#[100,111,111,114]⟩:ByteArray)),.v (vI 3),.v (sv (toSV (β 28 0)))]:List Dat)=[.v (.string (⟨#[104,111,115,116]⟩:ByteArray)),.v (vI 1),.v (β 2 0),.v (.string (⟨#[117,115,101,114]⟩:ByteArray)),.v (vI 2),.v (β 3 0),.v (.string (⟨#[112,111,114,116]⟩:ByteArray)),.v (vI 2),.v (β 4 0),.v (.string (⟨#[112,111,114,116]⟩:ByteArray)),.v (vI 2),.v (β 7 0),.v (.string (⟨#[114,117,108,101]⟩:ByteArray)),.v (vI 3),.v (β 12 0),.v (.string (⟨#[114,111,117,116,101]⟩:ByteArray)),.v (vI 3),.v (β 19 0),.v (.string (⟨#[112,101,101,114]⟩:ByteArray)),.v (vI 2),.v (β 20 0),.v (.string (⟨#[110,97,116]⟩:ByteArray)),.v (vI 1),.v (β 25 0),.v (.string (⟨#[100,111,111,114]⟩:ByteArray)),.v (vI 3),.v (β 28 0)]:=by rw [← e2,← e3,← e4,← e7,← e12,← e19,← e20,← e25,← e28]
 refine ⟨fun k=>toSV (β (([2,3,4,7,12,19,20,25,28]:List Nat).getD k 0) 0),trivial,pack3 (bx:=[.string word]) (rest:=[2,3,4,5,6,7,8,9,10,11,12,13,14,15,16,17,18,19,20,21,22,23,24,25,26,27,28,29,30]) V rfl ⟨_,rfl,rfl⟩ hall (by decide) (R.ok 2 _ rfl).1 (Ugm R (show fsG _ 1=_ from rfl) rfl (by decide) (fun _=>rfl) he) (fun hnd _=>⟨⟨R.all1 2 0,?_⟩,hnd,hlt⟩)⟩
 exact ⟨RdV.at_sv e2 (Wt R (F:=Za) (show fsG _ 2=_ from rfl) rfl (by decide) (fun _=>rfl) (hS 2 (by decide)) ⟨_,_,rfl,Yt Qvu rfl trivial hlt Qpu rfl,rfl⟩),
  RdV.at_sv e3 (Wt R (F:=Za) (show fsG _ 3=_ from rfl) rfl (by decide) (fun _=>rfl) (hS 3 (by decide)) ⟨_,_,rfl,Yt Qvu rfl trivial hlt Qpu rfl,⟨_,_,rfl,Yt fh258 rfl trivial hlt ca258 rfl,rfl⟩⟩),
  RdV.at_sv e4 (Wt R (F:=Za) (show fsG _ 4=_ from rfl) rfl (by decide) (fun _=>rfl) (hS 4 (by decide)) ⟨_,_,rfl,Je R (Bf 0 7) (show fsG _ 5=_ from rfl) (show fsG _ 6=_ from rfl) rfl trivial (hS 5 (by decide)) (hS 6 (by decide)) hlt Gb rfl rfl rfl,⟨_,_,rfl,Yt Qgh rfl trivial hlt Qff rfl,rfl⟩⟩),
  RdV.at_sv e7 (Wt R (F:=Za) (show fsG _ 7=_ from rfl) rfl (by decide) (fun _=>rfl) (hS 7 (by decide)) ⟨_,_,rfl,Je R (Bf 0 7) (show fsG _ 8=_ from rfl) (show fsG _ 9=_ from rfl) rfl trivial (hS 8 (by decide)) (hS 9 (by decide)) hlt Gb rfl rfl rfl,⟨_,_,rfl,Yt Qgh rfl trivial hlt Qff rfl,⟨_,_,rfl,Udg R (fh271 ([(⟨#[105,110]⟩:ByteArray)]:List ByteArray)) (show fsG _ 10=_ from rfl) (show fsG _ 11=_ from rfl) rfl trivial (hS 10 (by decide)) (hS 11 (by decide)) hlt ca271 rfl,⟨_,_,rfl,Yt Qvu rfl trivial hlt Qpu rfl,rfl⟩⟩⟩⟩),
  RdV.at_sv e12 (Wt R (F:=Za) (show fsG _ 12=_ from rfl) rfl (by decide) (fun _=>rfl) (hS 12 (by decide)) ⟨_,_,rfl,Yt Qvu rfl trivial hlt Qpu rfl,⟨_,_,rfl,Je R (Bf 0 99) (show fsG _ 13=_ from rfl) (show fsG _ 14=_ from rfl) rfl trivial (hS 13 (by decide)) (hS 14 (by decide)) hlt Gb rfl rfl rfl,⟨_,_,rfl,Udg R (fh271 ([(⟨#[112,101,114,109,105,116]⟩:ByteArray),(⟨#[100,101,110,121]⟩:ByteArray)]:List ByteArray)) (show fsG _ 15=_ from rfl) (show fsG _ 16=_ from rfl) rfl trivial (hS 15 (by decide)) (hS 16 (by decide)) hlt ca271 rfl,⟨_,_,rfl,Yt Qgh rfl trivial hlt Qff rfl,⟨_,_,rfl,Yt Qgh rfl trivial hlt Qff rfl,⟨_,_,rfl,Je R (Bf 0 7) (show fsG _ 17=_ from rfl) (show fsG _ 18=_ from rfl) rfl trivial (hS 17 (by decide)) (hS 18 (by decide)) hlt Gb rfl rfl rfl,rfl⟩⟩⟩⟩⟩⟩),
  RdV.at_sv e19 (Wt R (F:=Za) (show fsG _ 19=_ from rfl) rfl (by decide) (fun _=>rfl) (hS 19 (by decide)) ⟨_,_,rfl,Yt Qgh rfl trivial hlt Qff rfl,⟨_,_,rfl,Yt Qsx rfl trivial hlt Quk rfl,rfl⟩⟩),
  RdV.at_sv e20 (Wt R (F:=Za) (show fsG _ 20=_ from rfl) rfl (by decide) (fun _=>rfl) (hS 20 (by decide)) ⟨_,_,rfl,Yt Qsx rfl trivial hlt Quk rfl,⟨_,_,rfl,Je R (Bf 1 9) (show fsG _ 21=_ from rfl) (show fsG _ 22=_ from rfl) rfl trivial (hS 21 (by decide)) (hS 22 (by decide)) hlt Gb rfl rfl rfl,⟨_,_,rfl,Je R (Bf 1 999999) (show fsG _ 23=_ from rfl) (show fsG _ 24=_ from rfl) rfl trivial (hS 23 (by decide)) (hS 24 (by decide)) hlt Gb rfl rfl rfl,rfl⟩⟩⟩),
  RdV.at_sv e25 (Wt R (F:=Za) (show fsG _ 25=_ from rfl) rfl (by decide) (fun _=>rfl) (hS 25 (by decide)) ⟨_,_,rfl,Yt Qgh rfl trivial hlt Qff rfl,⟨_,_,rfl,Yt Qsx rfl trivial hlt Quk rfl,⟨_,_,rfl,Je R (Bf 1 65535) (show fsG _ 26=_ from rfl) (show fsG _ 27=_ from rfl) rfl trivial (hS 26 (by decide)) (hS 27 (by decide)) hlt Gb rfl rfl rfl,⟨_,_,rfl,Je R (Bf 1 65535) (show fsG _ 26=_ from rfl) (show fsG _ 27=_ from rfl) rfl trivial (hS 26 (by decide)) (hS 27 (by decide)) hlt Gb rfl rfl rfl,rfl⟩⟩⟩⟩),
  RdV.at_sv e28 (Wt R (F:=Za) (show fsG _ 28=_ from rfl) rfl (by decide) (fun _=>rfl) (hS 28 (by decide)) ⟨_,_,rfl,Je R (Bf 1 7) (show fsG _ 29=_ from rfl) (show fsG _ 30=_ from rfl) rfl trivial (hS 29 (by decide)) (hS 30 (by decide)) hlt Gb rfl rfl rfl,⟨_,_,rfl,Je R (Bf 1 65535) (show fsG _ 26=_ from rfl) (show fsG _ 27=_ from rfl) rfl trivial (hS 26 (by decide)) (hS 27 (by decide)) hlt Gb rfl rfl rfl,⟨_,_,rfl,Yt Qsx rfl trivial hlt Quk rfl,⟨_,_,rfl,Je R (Bf 1 65535) (show fsG _ 26=_ from rfl) (show fsG _ 27=_ from rfl) rfl trivial (hS 26 (by decide)) (hS 27 (by decide)) hlt Gb rfl rfl rfl,rfl⟩⟩⟩⟩),trivial⟩
theorem Ukd (word:ByteArray) (x:Nat→SV):Qnx Tryz.prog 45 (fun _:Unit=>(⟨[(2,some (.h 0 0)),(8,some (.h 1 0))],[(0,some (.own 0 (.l 3 Ub ((Kb x).filter (fun x=>!((fun (x0:Qq)=>F263 x0 word) x)))))),(1,some (.own 1 (.x (LX (Xh x)))))],2⟩:St)) (fun _=>True) (fun _:Unit=>(⟨[(2,some (.h 0 0))],[(0,some (.own 0 (.b (.l 3 Hh (all238.filter (fun z=>z.word.toList==word.toList))))))],2⟩:St)) (fun _=>True):=by
 intro ψ IN w0 w a i _ H
 refine ⟨(),trivial,pack1 rfl rfl rfl (fun v y f g h1 h2=>?_) H⟩
 have hx:RdAll (fun b=>b∈f++g) w (Xh x):=h2.1.2.mono fun b hb=>⟨List.mem_append_right _ hb,rfl⟩
 have hall:Rel2 (fun (y:Qq) (z:form)=>y.word=z.word∧∀ cs,RdVs (fun b=>b∈f++g) w (Ub y) cs→RdVs (fun b=>b∈f++g) w (Hh z) cs) (Kb x) all238:=⟨⟨rfl,row3 hx.1⟩,⟨rfl,row3 hx.2.1⟩,⟨rfl,row3 hx.2.2.1⟩,⟨rfl,row3 hx.2.2.2.1⟩,⟨rfl,row3 hx.2.2.2.2.1⟩,⟨rfl,row3 hx.2.2.2.2.2.1⟩,⟨rfl,row3 hx.2.2.2.2.2.2.1⟩,⟨rfl,row3 hx.2.2.2.2.2.2.2.1⟩,⟨rfl,row3 hx.2.2.2.2.2.2.2.2.1⟩,trivial⟩
 refine Qwy h1 (fun b hb=>List.mem_append_left _ hb) (Rel2.mono (fun a c h=>h.2) (Rel2.filter (fun y z h=>?_) hall))
 simp only [F263,h.1,Bool.not_not]
def F238 (word:ByteArray):List form :=
 (all238.filter (fun z=>z.word.toList==word.toList))
def S238 (word:ByteArray):Spec:=⟨[.r (.c (.v (.string word)))],.ow (.b (.l 3 Hh (F238 word))),True⟩
theorem ok238 (word:ByteArray):(S238 word).ok Tryz.prog 238 false :=
 Qi mixed (fn:=Tryz.f238) (ct:=.seq .no (.seq (.reg [(0,Ba 1 65535),(1,Ba 1 7)]) (.hnd (ι:=Unit) (κ:=(Nat→SV)) (fun _=>(⟨[(1,some (.p 0 0)),(5,some (.h 1 0)),(8,some (.h 2 0))],[(0,some (.box 9 [.v (.string word)])),(1,some (.arr 9 [.v (.string w4_),.v (vI 1),.h 2 0,.v (.string w10_),.v (vI 2),.h 3 0,.v (.string w7_),.v (vI 2),.h 4 0,.v (.string w7_),.v (vI 2),.h 7 0,.v (.string w9_),.v (vI 3),.h 12 0,.v (.string w8_),.v (vI 3),.h 19 0,.v (.string w6_),.v (vI 2),.h 20 0,.v (.string w5_),.v (vI 1),.h 25 0,.v (.string w3_),.v (vI 3),.h 28 0])),(2,some (.arr 1 [.cl 257 []])),(3,some (.arr 2 [.cl 257 [],.cl 258 []])),(4,some (.arr 2 [.cl 269 [.p 5 0,.p 6 0],.cl 259 []])),(5,some (.box 3 [.v (vI 0)])),(6,some (.box 3 [.v (vI 7)])),(7,some (.arr 4 [.cl 269 [.p 8 0,.p 9 0],.cl 259 [],.cl 271 [.p 10 0],.cl 257 []])),(8,some (.box 3 [.v (vI 0)])),(9,some (.box 3 [.v (vI 7)])),(10,some (.box 22 [.h 11 0])),(11,some (.own 11 (.l 1 eStr ([w18_]:List ByteArray)))),(12,some (.arr 6 [.cl 257 [],.cl 269 [.p 13 0,.p 14 0],.cl 271 [.p 15 0],.cl 259 [],.cl 259 [],.cl 269 [.p 17 0,.p 18 0]])),(13,some (.box 3 [.v (vI 0)])),(14,some (.box 3 [.v (vI 99)])),(15,some (.box 22 [.h 16 0])),(16,some (.own 16 (.l 1 eStr ([w19_,w20_]:List ByteArray)))),(17,some (.box 3 [.v (vI 0)])),(18,some (.box 3 [.v (vI 7)])),(19,some (.arr 2 [.cl 259 [],.cl 261 []])),(20,some (.arr 3 [.cl 261 [],.cl 269 [.p 21 0,.p 22 0],.cl 269 [.p 23 0,.p 24 0]])),(21,some (.box 3 [.v (vI 1)])),(22,some (.box 3 [.v (vI 9)])),(23,some (.box 3 [.v (vI 1)])),(24,some (.box 3 [.v (vI 999999)])),(25,some (.arr 4 [.cl 259 [],.cl 261 [],.cl 269 [.p 26 0,.p 27 0],.cl 269 [.p 26 0,.p 27 0]])),(26,some (.box 3 [.v (vI 1)])),(27,some (.box 3 [.v (vI 65535)])),(28,some (.arr 4 [.cl 269 [.p 29 0,.p 30 0],.cl 269 [.p 26 0,.p 27 0],.cl 261 [],.cl 269 [.p 26 0,.p 27 0]])),(29,some (.box 3 [.v (vI 1)])),(30,some (.box 3 [.v (vI 7)]))],31⟩:St)) (fun _=>True) (fun (x:Nat→SV)=>(⟨[(1,some (.p 0 0)),(5,some (.h 1 0)),(8,some (.h 2 0))],[(0,some (.box 9 [.v (.string word)])),(1,some (.own 1 (.l 3 Ub (Kb x)))),(2,some (.own 2 (.x (LX (Xh x)))))],31⟩:St)) (fun _=>True) (.reg [(4,Ba 0 7),(7,Ba 0 7),(8,.dat (.l 1 eStr ([w18_]:List ByteArray))),(9,Uda ([w18_]:List ByteArray)),(12,Ba 0 99),(13,.dat (.l 1 eStr ([w19_,w20_]:List ByteArray))),(14,Uda ([w19_,w20_]:List ByteArray)),(15,Ba 0 7),(20,Ba 1 9),(21,Ba 1 999999)]) (fun (x:Nat→SV)=>.hnd (ι:=Unit) (κ:=Unit) (fun _=>(⟨[(2,some (.h 0 0)),(8,some (.h 1 0))],[(0,some (.own 0 (.l 3 Ub ((Kb x).filter (fun x=>!((fun (x0:Qq)=>F263 x0 word) x)))))),(1,some (.own 1 (.x (LX (Xh x)))))],2⟩:St)) (fun _=>True) (fun (_:Unit)=>(⟨[(2,some (.h 0 0))],[(0,some (.own 0 (.b (.l 3 Hh (all238.filter (fun z=>z.word.toList==word.toList))))))],2⟩:St)) (fun _=>True) (.reg [(2,.call 262 (S262 ((Kb x).filter (fun x=>!((fun (x0:Qq)=>F263 x0 word) x))) (Kb x) (fun (x0:Qq)=>F263 x0 word) (fun (x0:Qq)=>True)) (oa262 (Kb x) (fun (x0:Qq)=>F263 x0 word) (fun (x0:Qq)=>True)) (some ⟨true,263,Yn (fun (x0:Qq)=>True) (fun (x0:Qq)=>F263 x0 word),[.rp ([.v (.string word)])],rfl,True,fun i=>Qyr (ok263 i word)⟩))]) (fun (_:Unit)=>.no))))) Tryz.func238 (fun (_:True)=>Ed 1 65535 (Ed 1 7 (ai (Ed 0 7 (Ed 0 7 (ai (bokr 1 eStr ([w18_]:List ByteArray) fun _=>rfl) (kc260 ([w18_]:List ByteArray) (Ed 0 99 (ai (bokr 1 eStr ([w19_,w20_]:List ByteArray) fun _=>rfl) (kc260 ([w19_,w20_]:List ByteArray) (Ed 0 7 (Ed 1 9 (Ed 1 999999 (Exists.intro (p:=fun (_:Unit)=>((.string word:Value)=.string word)∧((.string w4_:Value)=.string w4_)∧((.int .i64 1:Value)=.int .i64 1)∧((.string w10_:Value)=.string w10_)∧((.int .i64 2:Value)=.int .i64 2)∧((.string w7_:Value)=.string w7_)∧((.int .i64 2:Value)=.int .i64 2)∧((.string w7_:Value)=.string w7_)∧((.int .i64 2:Value)=.int .i64 2)∧((.string w9_:Value)=.string w9_)∧((.int .i64 3:Value)=.int .i64 3)∧((.string w8_:Value)=.string w8_)∧((.int .i64 3:Value)=.int .i64 3)∧((.string w6_:Value)=.string w6_)∧((.int .i64 2:Value)=.int .i64 2)∧((.string w5_:Value)=.string w5_)∧((.int .i64 1:Value)=.int .i64 1)∧((.string w3_:Value)=.string w3_)∧((.int .i64 3:Value)=.int .i64 3)∧((.int .i64 0:Value)=.int .i64 0)∧((.int .i64 7:Value)=.int .i64 7)∧((.int .i64 0:Value)=.int .i64 0)∧((.int .i64 7:Value)=.int .i64 7)∧(Imp (.l 1 eStr ([w18_]:List ByteArray)) (.l 1 eStr ([w18_]:List ByteArray)))∧((.int .i64 0:Value)=.int .i64 0)∧((.int .i64 99:Value)=.int .i64 99)∧(Imp (.l 1 eStr ([w19_,w20_]:List ByteArray)) (.l 1 eStr ([w19_,w20_]:List ByteArray)))∧((.int .i64 0:Value)=.int .i64 0)∧((.int .i64 7:Value)=.int .i64 7)∧((.int .i64 1:Value)=.int .i64 1)∧((.int .i64 9:Value)=.int .i64 9)∧((.int .i64 1:Value)=.int .i64 1)∧((.int .i64 999999:Value)=.int .i64 999999)∧((.int .i64 1:Value)=.int .i64 1)∧((.int .i64 65535:Value)=.int .i64 65535)∧((.int .i64 1:Value)=.int .i64 1)∧((.int .i64 7:Value)=.int .i64 7)∧True) () (ai rfl (ai rfl (ai rfl (ai rfl (ai rfl (ai rfl (ai rfl (ai rfl (ai rfl (ai rfl (ai rfl (ai rfl (ai rfl (ai rfl (ai rfl (ai rfl (ai rfl (ai rfl (ai rfl (ai rfl (ai rfl (ai rfl (ai rfl (ai ir (ai rfl (ai rfl (ai ir (ai rfl (ai rfl (ai rfl (ai rfl (ai rfl (ai rfl (ai rfl (ai rfl (ai rfl (ai rfl trivial)))))))))))))))))))))))))))))))))))))))))))))))) (ai (Uio word) (fun (x:Nat→SV) (_:True)=>ai (ai (ai (by exact (by decide:(9:Nat)≤1000000000):(Kb x).length≤1000000000) (by (intros; exact trivial):∀ k:Nat,k<(Kb x).length→(fun (x0:Qq)=>True) ((Kb x).getD k default))) (ai (Imp.refl (.l 3 Ub (Kb x))) (ai (Eq.refl (Yn (fun (x0:Qq)=>True) (fun (x0:Qq)=>F263 x0 word))) (ai trivial (ai (Imps.refl [.v (.string word)]) (Exists.intro (p:=fun (_:Unit)=>(Imp (.l 3 Ub ((Kb x).filter (fun x=>!((fun (x0:Qq)=>F263 x0 word) x)))) (.l 3 Ub ((Kb x).filter (fun x=>!((fun (x0:Qq)=>F263 x0 word) x)))))∧(Imp (.x (LX (Xh x))) (.x (LX (Xh x))))∧True) () (ai ir (ai ir trivial)))))))) (ai (Ukd word x) (fun (_:Unit) (_:True)=>(fun hF:((all238.filter (fun z=>z.word.toList==word.toList)):List form)=(F238 word)=>ai (Imp.of_eq (congrArg (fun r:List form=>Dat.b (Dat.l 3 Hh r)) hF)) trivial) rfl))))))) (by kernel_rfl)
theorem g238_0 (word:ByteArray):∀ k:Nat,((F238 word).getD k default).checks.length≤6:=by
 have hall:∀ z∈all238,z.checks.length≤6:=by
  intro z hz
  simp only [all238,List.mem_cons,List.not_mem_nil,or_false] at hz
  rcases hz with rfl | rfl | rfl | rfl | rfl | rfl | rfl | rfl | rfl <;> decide
 intro k
 rw [List.getD_eq_getElem?_getD]
 cases h:(F238 word)[k]? with
 | none=>exact Nat.zero_le 6
 | some z=>exact hall z (List.mem_filter.1 (List.mem_of_getElem? h)).1
def Vd (f:form) (words:List ByteArray):Int→Lp Int Bool:=fun v17 =>
 bif (decide (v17<(f.checks.length:Int))) then (bif (!((f.checks.getD v17.toNat default) (words.getD (v17+1).toNat default))) then (.ret false) else (.next (v17+1))) else (.done v17)
def F239 (f:form) (words:List ByteArray):Bool :=
 bif ((words.length:Int) != ((f.checks.length:Int)+1)) then false else ((runL (Vd f words) (((f.checks.length:Int)-0).toNat+1) 0).fin (fun r=>r) (fun v17=>true))
abbrev Lm (f:form):Nat×Int:=((((f.checks.length:Int)-0).toNat+1),0)
abbrev Qgr (f:form) (m39:Nat) (v17:Int):Prop:=Int.toNat ((f.checks.length:Int)-v17)<m39∧(0:Int)≤v17
abbrev Quc (f:form) (words:List ByteArray):Lp Int Bool:=LpX (Vd f words) (Lm f)
abbrev Ny (f:form) (words:List ByteArray) (i:Nat×Int):Prop:=LpJ (Vd f words) (Lm f) i (Qgr f i.1 i.2)
abbrev Qvb (f:form) (words:List ByteArray) (i:Nat×Int) (m39:Nat) (v17:Int):Prop:=LpH (Vd f words) (Lm f) i m39 v17 (Qgr f (m39+1) v17)
abbrev Qpv (f:form) (words:List ByteArray) (v17:Int) (v17_:Int) (K39:Prop):Prop:=(Rf (.int .i64 (f.checks.length:Int)))∧((.int .i64 v17:Value)=.int .i64 v17_)∧(Im (.l 1 eStr words))∧(Im (.l 1 Wj f.checks))∧K39
theorem Uhz (f:form) (words:List ByteArray) (i:Nat×Int) (h:Ny f words i):Qvb f words i (i.1-1) i.2:=⟨hd1 h.1 h.2.1,hd3 h.2.1,hd2 h.2.1,h.2.2⟩
theorem Ugz (f:form) (words:List ByteArray) (i:Nat×Int) (m39:Nat) (v17:Int) (hl:m39<i.1) (e:runL (Vd f words) m39 v17=Quc f words) (h:Qgr f m39 v17):∃ j:Nat×Int,Qpv f words v17 j.2 (Ny f words j∧j.1<i.1):=⟨(m39,v17),rfl,rfl,Imp.refl _,Imp.refl _,⟨e,h⟩,hl⟩
theorem Ugt (f:form) (words:List ByteArray) (h:(0:Int)≤0):Qpv f words 0 0 (Ny f words (Lm f)):=⟨rfl,rfl,Imp.refl _,Imp.refl _,rfl,Nat.lt_succ_self _,h⟩
def S239 (f:form) (words:List ByteArray):Spec:=⟨[.r (.g (Hh f)),.r (.c (.l 1 eStr words))],.v (.bool (F239 f words)),f.checks.length≤6∧(∀ k:Nat,(words.getD k default).size≤1048576)⟩
theorem ok239 (f:form) (words:List ByteArray):(S239 f words).ok Tryz.prog 239 false :=
 Qi mixed (fn:=Tryz.f239) (ct:=.seqk [(1,0)] .no (.seq (.seq (.reg [(5,.bnd)]) (.cond (.seq .no .no) .no)) (.seq (.seqk [(1,0),(15,0)] .no (.blk (.loop (ι:=Nat×Int) (fun i=>(fun (v17:Int)=>(⟨[(1,some (.h 0 0)),(15,some (.h 1 0)),(16,some (.v (vI (f.checks.length:Int)))),(17,some (.v (vI v17)))],[(0,some (.shr none (.l 1 eStr words))),(1,some (.shr none (.l 1 Wj f.checks)))],2⟩:St)) i.2) (Ny f words) (fun i=>i.1) (Lm f) (fun i=>(fun (v17:Int)=>(.seq .no (.seq (.cond .no .no) (.seq (.blk (.seq .no (.seq (.reg [(3,.bnd),(6,.fnv (Za (f.checks.getD v17.toNat default)) (words.getD (v17+1).toNat default))]) (.cond (.seq .no .no) .no)))) (.reg [(0,.bnd)]))))) i.2)))) (.seq .no .no)))) Tryz.func239 (fun (hp:f.checks.length≤6∧(∀ k:Nat,(words.getD k default).size≤1048576))=>have hpre0:=hp.1; have hpre1:=hp.2; kn words fun _=>ai (iok ((f.checks.length:Int)+1) (by omega)) (ifn (words.length:Int) ((f.checks.length:Int)+1) (fun h1 _=>fiB false (F239 f words) (condT h1 rfl)) (fun h1 _=>kn words fun _=>kn f.checks fun _=>ai (Ugt f words (by omega)) (fun (i0:Nat×Int) (hi0:Ny f words i0)=>(fun (m0:Nat) (v17:Int) (hh0:Qvb f words i0 m0 v17)=>have hI0:=hh0.1; have hl0:=hh0.2.1; have _:=hh0.2.2.1; have _:=hh0.2.2.2; ifd (v17<(f.checks.length:Int)) (fun h3 _=>ai (by omega:ib v17 f.checks) (ai (iok (v17+1) (by omega)) (ai (by omega:ib (v17+1) words) (ai (Eq.refl (FnX Tryz.prog (Za (f.checks.getD v17.toNat default)))) (ai (Imp.bx (by exact hpre1 _:(words.getD (v17+1).toNat default).size≤1048576)) (ifb (!((f.checks.getD v17.toNat default) (words.getD (v17+1).toNat default))) (fun h4=>have _:=(We h4); fiB false (F239 f words) (condF h1 (finR (Qr hI0 (condT h3 (condT h4 rfl))) rfl))) (fun h4=>have _:=(Uu h4); ai (iok (v17+1) (by omega)) (Ugz f words i0 m0 (v17+1) hl0 (Qe hI0 (condT h3 (condF h4 rfl))) (by refine ⟨?_,?_⟩ <;> omega))))))))) (fun h3 _=>have hD0_5:Quc f words=Lp.done v17:=Qj hI0 (condF h3 rfl); fiB true (F239 f words) (condF h1 (finD hD0_5 rfl)))) (i0.1-1) i0.2 (Uhz f words i0 hi0))))) (by kernel_rfl)
theorem kc238 (word:ByteArray) {K_:Prop} (k_:(∀ k:Nat,((F238 word).getD k default).checks.length≤6)→K_):(True)∧(Imp (.v (.string word)) (.v (.string word)))∧K_:=⟨trivial,Imp.refl _,k_ (g238_0 word)⟩
abbrev kh238 (word:ByteArray):Hint false Tryz.prog:=.call 238 (S238 word) (ok238 word) none
theorem kc239 (f:form) (words:List ByteArray) {K_:Prop} (p0_:f.checks.length≤6) (p1_:∀ k:Nat,(words.getD k default).size≤1048576) (k_:K_):(f.checks.length≤6∧(∀ k:Nat,(words.getD k default).size≤1048576))∧(Imps (Hh f) (Hh f))∧(Imp (.l 1 eStr words) (.l 1 eStr words))∧K_:=⟨⟨p0_,p1_⟩,Imps.refl _,Imp.refl _,k_⟩
abbrev kh239 (f:form) (words:List ByteArray):Hint false Tryz.prog:=.call 239 (S239 f words) (ok239 f words) none
def Jp (words:List ByteArray):Int→Lp Int (form×Bool):=fun v15 =>
 bif (decide (v15<((F238 (words.getD (Int.toNat 0) default)).length:Int))) then (bif (F239 ((F238 (words.getD (Int.toNat 0) default)).getD v15.toNat default) words) then (.ret (((F238 (words.getD (Int.toNat 0) default)).getD v15.toNat default),true)) else (.next (v15+1))) else (.done v15)
def F219 (words:List ByteArray):form×Bool :=
 bif ((words.length:Int)==0) then ((⟨(⟨#[]⟩:ByteArray),0,[]⟩:form),false) else ((runL (Jp words) ((((F238 (words.getD (Int.toNat 0) default)).length:Int)-0).toNat+1) 0).fin (fun r=>r) (fun v15=>((⟨(⟨#[]⟩:ByteArray),0,[]⟩:form),false)))
abbrev Pi (words:List ByteArray):Nat×Int:=(((((F238 (words.getD (Int.toNat 0) default)).length:Int)-0).toNat+1),0)
abbrev Qgz (words:List ByteArray) (m39:Nat) (v15:Int):Prop:=Int.toNat (((F238 (words.getD (Int.toNat 0) default)).length:Int)-v15)<m39∧(0:Int)≤v15
abbrev Qtf (words:List ByteArray):Lp Int (form×Bool):=LpX (Jp words) (Pi words)
abbrev Pt (words:List ByteArray) (i:Nat×Int):Prop:=LpJ (Jp words) (Pi words) i (Qgz words i.1 i.2)
abbrev Qsc (words:List ByteArray) (i:Nat×Int) (m39:Nat) (v15:Int):Prop:=LpH (Jp words) (Pi words) i m39 v15 (Qgz words (m39+1) v15)
abbrev Qqu (words:List ByteArray) (v15:Int) (v15_:Int) (K39:Prop):Prop:=(Rf (.int .i64 ((F238 (words.getD (Int.toNat 0) default)).length:Int)))∧((.int .i64 v15:Value)=.int .i64 v15_)∧(Im (.l 1 eStr words))∧(Rf (.string w13_))∧(Rf (.int .i64 0))∧(Rf (.slice none 0 0))∧(Im (.b (.l 3 Hh (F238 (words.getD (Int.toNat 0) default)))))∧K39
theorem Uii (words:List ByteArray) (i:Nat×Int) (h:Pt words i):Qsc words i (i.1-1) i.2:=⟨hd1 h.1 h.2.1,hd3 h.2.1,hd2 h.2.1,h.2.2⟩
theorem Ufo (words:List ByteArray) (i:Nat×Int) (m39:Nat) (v15:Int) (hl:m39<i.1) (e:runL (Jp words) m39 v15=Qtf words) (h:Qgz words m39 v15):∃ j:Nat×Int,Qqu words v15 j.2 (Pt words j∧j.1<i.1):=⟨(m39,v15),rfl,rfl,Imp.refl _,rfl,rfl,rfl,Imp.refl _,⟨e,h⟩,hl⟩
theorem Uja (words:List ByteArray) (h:(0:Int)≤0):Qqu words 0 0 (Pt words (Pi words)):=⟨rfl,rfl,Imp.refl _,rfl,rfl,rfl,Imp.refl _,rfl,Nat.lt_succ_self _,h⟩
def S219 (words:List ByteArray):Spec:=⟨[.r (.c (.l 1 eStr words))],.tu [.ag [.v (.string (F219 words).1.word),.v (vI (F219 words).1.key),.ow .any],.v (.bool (F219 words).2)],(∀ k:Nat,(words.getD k default).size≤1048576)⟩
theorem ok219 (words:List ByteArray):(S219 words).ok Tryz.prog 219 false :=
 Qi mixed (fn:=Tryz.f219) (ct:=.seqk [(0,0)] .no (.seq (.seq .no (.cond (.seq .no .no) .no)) (.seq (.seqk [(0,0),(13,0)] (.reg [(3,kh238 (words.getD (Int.toNat 0) default))]) (.blk (.loop (ι:=Nat×Int) (fun i=>(fun (v15:Int)=>(⟨[(0,some (.h 0 0)),(2,some (.p 1 0)),(13,some (.h 2 0)),(14,some (.v (vI ((F238 (words.getD (Int.toNat 0) default)).length:Int)))),(15,some (.v (vI v15)))],[(0,some (.shr none (.l 1 eStr words))),(1,some (.box 205 [.v (.string w13_),.v (vI 0),.v (.slice none 0 0)])),(2,some (.own 2 (.b (.l 3 Hh (F238 (words.getD (Int.toNat 0) default))))))],3⟩:St)) i.2) (Pt words) (fun i=>i.1) (Pi words) (fun i=>(fun (v15:Int)=>(.seq .no (.seq (.cond .no .no) (.seq (.blk (.seq .no (.seq (.reg [(2,kh239 ((F238 (words.getD (Int.toNat 0) default)).getD v15.toNat default) words)]) (.cond (.seq .no .no) .no)))) (.reg [(0,.bnd)]))))) i.2)))) (.seq .no .no)))) Tryz.func219 (fun (hpre0:∀ k:Nat,(words.getD k default).size≤1048576)=>kn words fun _=>ife (words.length:Int) 0 (fun h1 _=>(fun hF:((⟨w13_,0,[]⟩:form),false)=(F219 words)=>ai (congrArg (fun r:form×Bool=>(.string r.1.word:Value)) hF) (ai (congrArg (fun r:form×Bool=>(.int .i64 r.1.key:Value)) hF) (ai (congrArg (fun r:form×Bool=>(.bool r.2:Value)) hF) trivial))) (condT h1 rfl)) (fun h1 _=>ai (by omega:ib 0 words) (kc238 (words.getD (Int.toNat 0) default) (fun gv2=>kn words fun _=>kn (F238 (words.getD (Int.toNat 0) default)) fun _=>ai (Uja words (by omega)) (fun (i0:Nat×Int) (hi0:Pt words i0)=>(fun (m0:Nat) (v15:Int) (hh0:Qsc words i0 m0 v15)=>have hI0:=hh0.1; have hl0:=hh0.2.1; have _:=hh0.2.2.1; have _:=hh0.2.2.2; ifd (v15<((F238 (words.getD (Int.toNat 0) default)).length:Int)) (fun h4 _=>ai (by omega:ib v15 (F238 (words.getD (Int.toNat 0) default))) (kc239 ((F238 (words.getD (Int.toNat 0) default)).getD v15.toNat default) words (by exact gv2 _) (by assumption) (ifb (F239 ((F238 (words.getD (Int.toNat 0) default)).getD v15.toNat default) words) (fun h5=>(fun hF:(((F238 (words.getD (Int.toNat 0) default)).getD v15.toNat default),true)=(F219 words)=>ai (congrArg (fun r:form×Bool=>(.string r.1.word:Value)) hF) (ai (congrArg (fun r:form×Bool=>(.int .i64 r.1.key:Value)) hF) (ai (congrArg (fun r:form×Bool=>(.bool r.2:Value)) hF) trivial))) (condF h1 (finR (Qr hI0 (condT h4 (condT h5 rfl))) rfl))) (fun h5=>ai (iok (v15+1) (by omega)) (Ufo words i0 m0 (v15+1) hl0 (Qe hI0 (condT h4 (condF h5 rfl))) (by refine ⟨?_,?_⟩ <;> omega)))))) (fun h4 _=>have hD0_6:Qtf words=Lp.done v15:=Qj hI0 (condF h4 rfl); (fun hF:((⟨w13_,0,[]⟩:form),false)=(F219 words)=>ai (congrArg (fun r:form×Bool=>(.string r.1.word:Value)) hF) (ai (congrArg (fun r:form×Bool=>(.int .i64 r.1.key:Value)) hF) (ai (congrArg (fun r:form×Bool=>(.bool r.2:Value)) hF) trivial))) (condF h1 (finD hD0_6 rfl)))) (i0.1-1) i0.2 (Uii words i0 hi0)))))) (by kernel_rfl)
theorem Qfv {α ρ τ:Type} [Inhabited α] (xs:List α) (p:α→Bool) (g:α→ρ) (st:Int→Lp Int ρ) (f:ρ→τ) (k:Int→τ) (y:τ) (hk:∀ i,k i=y)
  (h1:∀ i:Nat,i<xs.length→st (i:Int)=bif p (xs.getD i default) then .ret (g (xs.getD i default)) else .next ((i+1:Nat):Int)) (h2:st (xs.length:Int)=.done (xs.length:Int)) :
  ∀ (m i:Nat),i+m=xs.length→∀ fuel,m<fuel→(runL st fuel (i:Int)).fin f k=match (xs.drop i).find? p with | some a=>f (g a) | none=>y
 | m,i,_,0,hf=>absurd hf (Nat.not_lt_zero _)
 | 0,i,h,fuel+1,hf=>by
  have e:i=xs.length:=by omega
  subst e
  rw [Ko _ h2,List.drop_of_length_le (Nat.le_refl _)]
  exact hk _
 | m+1,i,h,fuel+1,hf=>by
  have hst:=h1 i (by omega)
  have hd:xs.drop i=xs.getD i default :: xs.drop (i+1):=by
   rw [List.drop_eq_getElem_cons (show i<xs.length by omega),List.getD_eq_getElem?_getD,List.getElem?_eq_getElem (show i<xs.length by omega)]; rfl
  rw [hd,List.find?_cons]
  cases hp:p (xs.getD i default) with
  | true=>rw [hp,cond_true] at hst; rw [Zl _ hst]; rfl
  | false =>
   rw [hp,cond_false] at hst
   rw [Yc _ hst,Qfv xs p g st f k y hk h1 h2 m (i+1) (by omega) fuel (by omega)]
def chk:List (ByteArray→Bool)→Nat→List ByteArray→Bool
 | [],_,_=>true
 | c :: cs,i,w=>c (w.getD i default)&&chk cs (i+1) w
theorem Qmg (cs:List (ByteArray→Bool)) (w:List ByteArray):∀ (m i:Nat),i+m=cs.length→anyF (fun k=>!(cs.getD k default) (w.getD (k+1) default)) i m=!chk (cs.drop i) (i+1) w
 | 0,i,h=>by rw [List.drop_of_length_le (by omega)]; rfl
 | m+1,i,h=>by
  have hd:cs.drop i=cs.getD i default :: cs.drop (i+1):=by
   rw [List.drop_eq_getElem_cons (show i<cs.length by omega),List.getD_eq_getElem?_getD,List.getElem?_eq_getElem (show i<cs.length by omega)]; rfl
  rw [hd]
  simp only [anyF,chk,Bool.not_and]
  rw [Qmg cs w m (i+1) (by omega)]
theorem Wr (f:form) (w:List ByteArray):F239 f w=(decide (w.length=f.checks.length+1)&&chk f.checks 1 w):=by
 unfold F239
 by_cases h:w.length=f.checks.length+1
 ·have h1:((w.length:Int) != ((f.checks.length:Int)+1))=false:=by
   rw [bne_eq_false_iff_eq]; omega
  rw [h1,cond_false,decide_eq_true h,Bool.true_and]
  have:=Yx (Vd f w) f.checks.length (fun k=>!(f.checks.getD k default) (w.getD (k+1) default)) false (fun r=>r) true (fun i hi=>by
   simp only [Vd,decide_eq_true (show (i:Int)<(f.checks.length:Int) by omega),cond_true,Int.toNat_natCast]
   rw [show ((i:Int)+1).toNat=i+1 by omega]
   cases (!(f.checks.getD i default) (w.getD (i+1) default)) <;> rfl) (by
   simp only [Vd,decide_eq_false (show ¬ (f.checks.length:Int)<(f.checks.length:Int) by omega),cond_false])
  have h2:=this f.checks.length 0 (by omega) (Int.toNat ((f.checks.length:Int)-0)+1) (by omega)
  rw [Qmg f.checks w f.checks.length 0 (by omega),List.drop_zero] at h2
  refine h2.trans ?_
  cases chk f.checks (0+1) w <;> rfl
 ·have h1:((w.length:Int) != ((f.checks.length:Int)+1))=true:=by
   rw [bne_iff_ne]; omega
  rw [h1,cond_true,decide_eq_false h,Bool.false_and]
theorem Tb (w:List ByteArray) (hw:w.length≠0):F219 w=match (F238 (w.getD 0 default)).find? (fun f=>F239 f w) with | some f=>(f,true) | none=>((⟨(⟨#[]⟩:ByteArray),0,[]⟩:form),false):=by
 unfold F219
 have h1:((w.length:Int)==0)=false:=by rw [beq_eq_false_iff_ne]; omega
 rw [h1,cond_false]
 have h0:w.getD (Int.toNat 0) default=w.getD 0 default:=rfl
 simp only [h0]
 generalize hx:F238 (w.getD 0 default)=xs
 have:=Qfv xs (fun f=>F239 f w) (fun f=>(f,true)) (Jp w) (fun r=>r) (fun _=>((⟨(⟨#[]⟩:ByteArray),0,[]⟩:form),false)) _ (fun _=>rfl) (fun i hi=>by
  simp only [Jp,h0,hx,decide_eq_true (show (i:Int)<(xs.length:Int) by omega),cond_true,Int.toNat_natCast]
  cases F239 (xs.getD i default) w <;> rfl) (by
  simp only [Jp,h0,hx,decide_eq_false (show ¬ (xs.length:Int)<(xs.length:Int) by omega),cond_false]) xs.length 0 (by omega) (Int.toNat ((xs.length:Int)-0)+1) (by omega)
 rw [List.drop_zero] at this
 refine Eq.trans this ?_
 cases xs.find? (fun f=>F239 f w) <;> rfl
theorem Zy (l:List UInt8) (x:ByteArray) (h:x.data.toList=l):F238 x=all238.filter (fun z=>z.word.data.toList==l):=by
 unfold F238
 congr 1
 funext z
 rw [Qz,Qz,h]
def keyN (l:List UInt8):Int :=
 if l=[104,111,115,116] then 1 else if l=[117,115,101,114] then 2 else if l=[112,111,114,116] then 2 else if l=[114,117,108,101] then 3 else if l=[114,111,117,116,101] then 3 else if l=[112,101,101,114] then 2 else if l=[110,97,116] then 1 else 3
theorem Wd (x a:ByteArray):F271 x [a]=(x.toList==a.toList):=by
 unfold F271
 rw [Hp,List.any_cons,List.any_nil,Bool.or_false]
theorem Zx (x a b:ByteArray):F271 x [a,b]=bif (x.toList==a.toList) then true else (x.toList==b.toList):=by
 unfold F271
 rw [Hp,List.any_cons,List.any_cons,List.any_nil,Bool.or_false]
 cases (x.toList==a.toList) <;> rfl
theorem Wh (x:ByteArray) (lo hi:Int):F269 x lo hi=decide (lo≤F79 x∧F79 x≤hi):=by
 unfold F269
 rw [Ec]
theorem Kz (w:List ByteArray) (n:Nat):((w.length:Int)==(n:Int))=decide (w.length=n):=by
 by_cases h:w.length=n
 ·rw [decide_eq_true h,beq_iff_eq]; omega
 ·rw [decide_eq_false h,beq_eq_false_iff_ne]; omega
theorem Wz (w:List ByteArray) (f:form) (hw:w.length≠0) (h:F238 (w.getD 0 default)=[f]):(F219 w).2=F239 f w∧((F219 w).2=true→(F219 w).1.key=f.key):=by
 rw [Tb w hw,h,List.find?_cons,List.find?_nil]
 cases F239 f w <;> exact ⟨rfl,fun h=>by first | rfl | cases h⟩
theorem Qzu (w:List ByteArray) (f g:form) (hw:w.length≠0) (h:F238 (w.getD 0 default)=[f,g]) (hk:f.key=g.key):(F219 w).2=(F239 f w || F239 g w)∧((F219 w).2=true→(F219 w).1.key=f.key):=by
 rw [Tb w hw,h,List.find?_cons,List.find?_cons,List.find?_nil]
 cases F239 f w <;> cases F239 g w <;> exact ⟨rfl,fun h=>by first | rfl | exact hk.symm | cases h⟩
theorem Qwi (w:List ByteArray) (hw:w.length≠0) (h:F238 (w.getD 0 default)=[]):(F219 w).2=false:=by
 rw [Tb w hw,h]; rfl
theorem blit (x:ByteArray) (a:Array UInt8):(x.toList==(⟨a⟩:ByteArray).toList)=(x.data.toList==a.toList):=by rw [Qz,Qz]
theorem hd00:(([104,111,115,116]:List UInt8)==([104,111,115,116]:List UInt8))=true:=by decide
theorem hd10:(([117,115,101,114]:List UInt8)==([104,111,115,116]:List UInt8))=false:=by decide
theorem hd11:(([117,115,101,114]:List UInt8)==([117,115,101,114]:List UInt8))=true:=by decide
theorem hd20:(([112,111,114,116]:List UInt8)==([104,111,115,116]:List UInt8))=false:=by decide
theorem hd21:(([112,111,114,116]:List UInt8)==([117,115,101,114]:List UInt8))=false:=by decide
theorem hd22:(([112,111,114,116]:List UInt8)==([112,111,114,116]:List UInt8))=true:=by decide
theorem hd30:(([114,117,108,101]:List UInt8)==([104,111,115,116]:List UInt8))=false:=by decide
theorem hd31:(([114,117,108,101]:List UInt8)==([117,115,101,114]:List UInt8))=false:=by decide
theorem hd32:(([114,117,108,101]:List UInt8)==([112,111,114,116]:List UInt8))=false:=by decide
theorem hd33:(([114,117,108,101]:List UInt8)==([114,117,108,101]:List UInt8))=true:=by decide
theorem hd40:(([114,111,117,116,101]:List UInt8)==([104,111,115,116]:List UInt8))=false:=by decide
theorem hd41:(([114,111,117,116,101]:List UInt8)==([117,115,101,114]:List UInt8))=false:=by decide
theorem hd42:(([114,111,117,116,101]:List UInt8)==([112,111,114,116]:List UInt8))=false:=by decide
theorem hd43:(([114,111,117,116,101]:List UInt8)==([114,117,108,101]:List UInt8))=false:=by decide
theorem hd44:(([114,111,117,116,101]:List UInt8)==([114,111,117,116,101]:List UInt8))=true:=by decide
theorem hd50:(([112,101,101,114]:List UInt8)==([104,111,115,116]:List UInt8))=false:=by decide
theorem hd51:(([112,101,101,114]:List UInt8)==([117,115,101,114]:List UInt8))=false:=by decide
theorem hd52:(([112,101,101,114]:List UInt8)==([112,111,114,116]:List UInt8))=false:=by decide
theorem hd53:(([112,101,101,114]:List UInt8)==([114,117,108,101]:List UInt8))=false:=by decide
theorem hd54:(([112,101,101,114]:List UInt8)==([114,111,117,116,101]:List UInt8))=false:=by decide
theorem hd55:(([112,101,101,114]:List UInt8)==([112,101,101,114]:List UInt8))=true:=by decide
theorem hd60:(([110,97,116]:List UInt8)==([104,111,115,116]:List UInt8))=false:=by decide
theorem hd61:(([110,97,116]:List UInt8)==([117,115,101,114]:List UInt8))=false:=by decide
theorem hd62:(([110,97,116]:List UInt8)==([112,111,114,116]:List UInt8))=false:=by decide
theorem hd63:(([110,97,116]:List UInt8)==([114,117,108,101]:List UInt8))=false:=by decide
theorem hd64:(([110,97,116]:List UInt8)==([114,111,117,116,101]:List UInt8))=false:=by decide
theorem hd65:(([110,97,116]:List UInt8)==([112,101,101,114]:List UInt8))=false:=by decide
theorem hd66:(([110,97,116]:List UInt8)==([110,97,116]:List UInt8))=true:=by decide
theorem hd70:(([100,111,111,114]:List UInt8)==([104,111,115,116]:List UInt8))=false:=by decide
theorem hd71:(([100,111,111,114]:List UInt8)==([117,115,101,114]:List UInt8))=false:=by decide
theorem hd72:(([100,111,111,114]:List UInt8)==([112,111,114,116]:List UInt8))=false:=by decide
theorem hd73:(([100,111,111,114]:List UInt8)==([114,117,108,101]:List UInt8))=false:=by decide
theorem hd74:(([100,111,111,114]:List UInt8)==([114,111,117,116,101]:List UInt8))=false:=by decide
theorem hd75:(([100,111,111,114]:List UInt8)==([112,101,101,114]:List UInt8))=false:=by decide
theorem hd76:(([100,111,111,114]:List UInt8)==([110,97,116]:List UInt8))=false:=by decide
theorem hd77:(([100,111,111,114]:List UInt8)==([100,111,111,114]:List UInt8))=true:=by decide
theorem cb1 (a b:Bool):(bif a then b else false)=(a&&b):=by cases a <;> rfl
theorem cb2 (a b:Bool):(bif a then true else b)=(a || b):=by cases a <;> rfl
theorem Qfm (w:List ByteArray):(F219 w).2=F235 w∧((F219 w).2=true→(F219 w).1.key=keyN (w.getD 0 default).data.toList):=by
 by_cases hw:w.length=0
 ·obtain rfl:=List.eq_nil_of_length_eq_zero hw
  exact ⟨rfl,fun h=>by cases h⟩
 have h0:((w.length:Int)==0)=false:=by rw [beq_eq_false_iff_ne]; omega
 have t0:∀ k:Nat,w.getD (k:Int).toNat default=w.getD k default:=fun _=>rfl
 have e0:w.getD (Int.toNat 0) default=w.getD 0 default:=rfl
 have e1:w.getD (Int.toNat 1) default=w.getD 1 default:=rfl
 have e2:w.getD (Int.toNat 2) default=w.getD 2 default:=rfl
 have e3:w.getD (Int.toNat 3) default=w.getD 3 default:=rfl
 have e4:w.getD (Int.toNat 4) default=w.getD 4 default:=rfl
 have e5:w.getD (Int.toNat 5) default=w.getD 5 default:=rfl
 have e6:w.getD (Int.toNat 6) default=w.getD 6 default:=rfl
 have n2:=Kz w 2
 have n3:=Kz w 3
 have n4:=Kz w 4
 have n5:=Kz w 5
 have n7:=Kz w 7
 simp only [Int.cast_ofNat_Int] at n2 n3 n4 n5 n7
 have hb:∀ l:List UInt8,(w.getD 0 default).data.toList=l→(w.getD 0 default).toList=l:=fun l h=>by rw [Qz,h]
 have hlit:∀ l:List UInt8,(⟨l.toArray⟩:ByteArray).toList=l:=fun l=>by rw [Qz]
 unfold F235
 simp only [h0,cond_false,e0,e1,e2,e3,e4,e5,e6,n2,n3,n4,n5,n7]
 rcases Classical.em ((w.getD 0 default).data.toList=[104,111,115,116]) with h | hn0
 ·have hF:=(Zy _ _ h).trans (show _=[all238.getD 0 default] from rfl)
  have f0:F239 (all238.getD 0 default) w=(decide (w.length=2)&&(F257 (w.getD 1 default)&&true)):=Wr _ _
  obtain ⟨k1,k2⟩:=Wz w _ hw hF
  refine ⟨?_,fun hh=>(k2 hh).trans (by rw [h]; rfl)⟩
  rw [k1,f0]
  simp only [blit,h,hd00,cond_true,cond_false,Zt,Ya,Uz,Yr,Wh,Wd,Zx,cb1,cb2,Bool.and_true,Bool.and_assoc]
 rcases Classical.em ((w.getD 0 default).data.toList=[117,115,101,114]) with h | hn1
 ·have hF:=(Zy _ _ h).trans (show _=[all238.getD 1 default] from rfl)
  have f0:F239 (all238.getD 1 default) w=(decide (w.length=3)&&(F257 (w.getD 1 default)&&(F258 (w.getD 2 default)&&true))):=Wr _ _
  obtain ⟨k1,k2⟩:=Wz w _ hw hF
  refine ⟨?_,fun hh=>(k2 hh).trans (by rw [h]; rfl)⟩
  rw [k1,f0]
  simp only [blit,h,hd10,hd11,cond_true,cond_false,Zt,Ya,Uz,Yr,Wh,Wd,Zx,cb1,cb2,Bool.and_true,Bool.and_assoc]
 rcases Classical.em ((w.getD 0 default).data.toList=[112,111,114,116]) with h | hn2
 ·have hF:=(Zy _ _ h).trans (show _=[all238.getD 2 default,all238.getD 3 default] from rfl)
  have f0:F239 (all238.getD 2 default) w=(decide (w.length=3)&&(F269 (w.getD 1 default) 0 7&&(F259 (w.getD 2 default)&&true))):=Wr _ _
  have f1:F239 (all238.getD 3 default) w=(decide (w.length=5)&&(F269 (w.getD 1 default) 0 7&&(F259 (w.getD 2 default)&&(F271 (w.getD 3 default) [(⟨#[105,110]⟩:ByteArray)]&&(F257 (w.getD 4 default)&&true))))):=Wr _ _
  obtain ⟨k1,k2⟩:=Qzu w _ _ hw hF rfl
  refine ⟨?_,fun hh=>(k2 hh).trans (by rw [h]; rfl)⟩
  rw [k1,f0,f1]
  simp only [blit,h,hd20,hd21,hd22,cond_true,cond_false,Zt,Ya,Uz,Yr,Wh,Wd,Zx,cb1,cb2,Bool.and_true,Bool.and_assoc]
  generalize decide (w.length=3)=a,decide (w.length=5)=b,decide (0≤F79 (w.getD 1 default)∧F79 (w.getD 1 default)≤7)=c,F252 (w.getD 2 default)=d,((w.getD 3 default).data.toList==[105,110])=e,F250 (w.getD 4 default)=g
  cases a <;> cases b <;> cases c <;> cases d <;> cases e <;> cases g <;> rfl
 rcases Classical.em ((w.getD 0 default).data.toList=[114,117,108,101]) with h | hn3
 ·have hF:=(Zy _ _ h).trans (show _=[all238.getD 4 default] from rfl)
  have f0:F239 (all238.getD 4 default) w=(decide (w.length=7)&&(F257 (w.getD 1 default)&&(F269 (w.getD 2 default) 0 99&&(F271 (w.getD 3 default) [(⟨#[112,101,114,109,105,116]⟩:ByteArray),(⟨#[100,101,110,121]⟩:ByteArray)]&&(F259 (w.getD 4 default)&&(F259 (w.getD 5 default)&&(F269 (w.getD 6 default) 0 7&&true))))))):=Wr _ _
  obtain ⟨k1,k2⟩:=Wz w _ hw hF
  refine ⟨?_,fun hh=>(k2 hh).trans (by rw [h]; rfl)⟩
  rw [k1,f0]
  simp only [blit,h,hd30,hd31,hd32,hd33,cond_true,cond_false,Zt,Ya,Uz,Yr,Wh,Wd,Zx,cb1,cb2,Bool.and_true,Bool.and_assoc]
 rcases Classical.em ((w.getD 0 default).data.toList=[114,111,117,116,101]) with h | hn4
 ·have hF:=(Zy _ _ h).trans (show _=[all238.getD 5 default] from rfl)
  have f0:F239 (all238.getD 5 default) w=(decide (w.length=3)&&(F259 (w.getD 1 default)&&(F261 (w.getD 2 default)&&true))):=Wr _ _
  obtain ⟨k1,k2⟩:=Wz w _ hw hF
  refine ⟨?_,fun hh=>(k2 hh).trans (by rw [h]; rfl)⟩
  rw [k1,f0]
  simp only [blit,h,hd40,hd41,hd42,hd43,hd44,cond_true,cond_false,Zt,Ya,Uz,Yr,Wh,Wd,Zx,cb1,cb2,Bool.and_true,Bool.and_assoc]
 rcases Classical.em ((w.getD 0 default).data.toList=[112,101,101,114]) with h | hn5
 ·have hF:=(Zy _ _ h).trans (show _=[all238.getD 6 default] from rfl)
  have f0:F239 (all238.getD 6 default) w=(decide (w.length=4)&&(F261 (w.getD 1 default)&&(F269 (w.getD 2 default) 1 9&&(F269 (w.getD 3 default) 1 999999&&true)))):=Wr _ _
  obtain ⟨k1,k2⟩:=Wz w _ hw hF
  refine ⟨?_,fun hh=>(k2 hh).trans (by rw [h]; rfl)⟩
  rw [k1,f0]
  simp only [blit,h,hd50,hd51,hd52,hd53,hd54,hd55,cond_true,cond_false,Zt,Ya,Uz,Yr,Wh,Wd,Zx,cb1,cb2,Bool.and_true,Bool.and_assoc]
 rcases Classical.em ((w.getD 0 default).data.toList=[110,97,116]) with h | hn6
 ·have hF:=(Zy _ _ h).trans (show _=[all238.getD 7 default] from rfl)
  have f0:F239 (all238.getD 7 default) w=(decide (w.length=5)&&(F259 (w.getD 1 default)&&(F261 (w.getD 2 default)&&(F269 (w.getD 3 default) 1 65535&&(F269 (w.getD 4 default) 1 65535&&true))))):=Wr _ _
  obtain ⟨k1,k2⟩:=Wz w _ hw hF
  refine ⟨?_,fun hh=>(k2 hh).trans (by rw [h]; rfl)⟩
  rw [k1,f0]
  simp only [blit,h,hd60,hd61,hd62,hd63,hd64,hd65,hd66,cond_true,cond_false,Zt,Ya,Uz,Yr,Wh,Wd,Zx,cb1,cb2,Bool.and_true,Bool.and_assoc]
 rcases Classical.em ((w.getD 0 default).data.toList=[100,111,111,114]) with h | hn7
 ·have hF:=(Zy _ _ h).trans (show _=[all238.getD 8 default] from rfl)
  have f0:F239 (all238.getD 8 default) w=(decide (w.length=5)&&(F269 (w.getD 1 default) 1 7&&(F269 (w.getD 2 default) 1 65535&&(F261 (w.getD 3 default)&&(F269 (w.getD 4 default) 1 65535&&true))))):=Wr _ _
  obtain ⟨k1,k2⟩:=Wz w _ hw hF
  refine ⟨?_,fun hh=>(k2 hh).trans (by rw [h]; rfl)⟩
  rw [k1,f0]
  simp only [blit,h,hd70,hd71,hd72,hd73,hd74,hd75,hd76,hd77,cond_true,cond_false,Zt,Ya,Uz,Yr,Wh,Wd,Zx,cb1,cb2,Bool.and_true,Bool.and_assoc]
 have hF:F238 (w.getD 0 default)=[]:=by
  rw [Zy _ _ rfl,List.filter_eq_nil_iff]
  intro z hz
  simp only [all238,List.mem_cons,List.not_mem_nil,or_false] at hz
  rcases hz with rfl | rfl | rfl | rfl | rfl | rfl | rfl | rfl | rfl
  ·exact fun e=>hn0 (eq_of_beq e).symm
  ·exact fun e=>hn1 (eq_of_beq e).symm
  ·exact fun e=>hn2 (eq_of_beq e).symm
  ·exact fun e=>hn2 (eq_of_beq e).symm
  ·exact fun e=>hn3 (eq_of_beq e).symm
  ·exact fun e=>hn4 (eq_of_beq e).symm
  ·exact fun e=>hn5 (eq_of_beq e).symm
  ·exact fun e=>hn6 (eq_of_beq e).symm
  ·exact fun e=>hn7 (eq_of_beq e).symm
 rw [Qwi w hw hF]
 refine ⟨?_,fun h=>by cases h⟩
 simp only [blit,beq_eq_false_iff_ne.2 hn0,beq_eq_false_iff_ne.2 hn1,beq_eq_false_iff_ne.2 hn2,beq_eq_false_iff_ne.2 hn3,beq_eq_false_iff_ne.2 hn4,beq_eq_false_iff_ne.2 hn5,beq_eq_false_iff_ne.2 hn6,beq_eq_false_iff_ne.2 hn7,cond_false]
theorem Qnz (l:List UInt8) (k:Nat):((Vg l).1.getD k default).size≤24:=by
 unfold Vg fitW
 rw [List.getD_eq_getElem?_getD]
 cases h:((l.all okB)&&(decide ((Ug l).length≤8)&&(Ug l).all fun w=>decide (w.length≤24))) with
 | false=>rw [cond_false]; exact Nat.zero_le _
 | true =>
  rw [cond_true]
  simp only [Bool.and_eq_true] at h
  have h2:=List.all_eq_true.1 h.2.2
  show ((((Ug l).map mkB)[k]?).getD default).size≤24
  rw [List.getElem?_map]
  cases hk:(Ug l)[k]? with
  | none=>exact Nat.zero_le _
  | some w=>exact of_decide_eq_true (h2 w (List.mem_of_getElem? hk))
theorem Qog (line:ByteArray) (k:Nat):((F237 line).1.getD k default).size≤24:=by
 rw [Hr]; exact Qnz _ k
theorem Qky (line:ByteArray):∀ k:Nat,((F237 line).1.getD k default).size≤1048576:=fun k=>Nat.le_trans (Qog line k) (by decide)
theorem Hk (line:ByteArray):(F97 line).1.length≤8:=by rw [← Hx]; exact Qfw line
theorem Qd (line:ByteArray):∀ k:Nat,((F97 line).1.getD k default).size≤1048576:=by rw [← Hx]; exact Qky line
theorem Mb (sep:List UInt8) (m:Nat):∀ xs:List (List UInt8),(∀ x∈xs,x.length≤m)→(Lib.joinTail sep xs).length≤xs.length*(m+sep.length)
 | [],_=>by simp [Lib.joinTail]
 | x :: xs,h=>by
  have h1:=Mb sep m xs fun y hy=>h y (List.mem_cons_of_mem _ hy)
  have h2:=h x List.mem_cons_self
  have e:Lib.joinTail sep (x :: xs)=(sep++x)++Lib.joinTail sep xs:=rfl
  rw [e]
  simp only [List.length_append,List.length_cons,Nat.succ_mul]
  omega
theorem Ufy (ws:List ByteArray) (sep:ByteArray) (m:Nat) (h:∀ k:Nat,(ws.getD k default).size≤m):(Yy ws sep).size≤ws.length*(m+sep.size):=by
 have hx:∀ x∈ws.map (·.data.toList),x.length≤m:=by
  intro x hx
  obtain ⟨w,hw,rfl⟩:=List.mem_map.1 hx
  obtain ⟨k,hk⟩:=List.mem_iff_getElem?.1 hw
  have:=h k
  rw [List.getD_eq_getElem?_getD,hk] at this
  exact this
 have e:(Yy ws sep).size=(Lib.join (ws.map (·.data.toList)) sep.data.toList).length:=by simp [Yy,ByteArray.size]
 have es:sep.data.toList.length=sep.size:=rfl
 rw [e]
 cases ws with
 | nil=>simp [Lib.join]
 | cons a t =>
  rw [List.map_cons,Lib.join_cons,List.length_append,List.length_cons,Nat.succ_mul]
  have h1:=Mb sep.data.toList m (t.map (·.data.toList)) fun y hy=>hx y (by rw [List.map_cons]; exact List.mem_cons_of_mem _ hy)
  have h2:=hx a.data.toList (by rw [List.map_cons]; exact List.mem_cons_self)
  rw [List.length_map,es] at h1
  omega
theorem Hy (ws:List ByteArray) (sep:ByteArray) (h:∀ k:Nat,(ws.getD k default).size≤1048576) (hl:ws.length≤8) (hs:sep.size≤1):(Yy ws sep).size≤140737488355328:=by
 have h1:=Ufy ws sep 1048576 h
 have h2:=Nat.mul_le_mul hl (show 1048576+sep.size≤1048577 by omega)
 omega
def F220 (elems:List ByteArray) (sep:ByteArray):ByteArray :=
 Yy elems sep
def S220 (elems:List ByteArray) (sep:ByteArray):Spec:=⟨[.r (.c (.l 1 eStr elems)),.r (.c (.v (.string sep)))],.v (.string (F220 elems sep)),elems.length≤140737488355328∧(Yy elems sep).size≤140737488355328⟩
theorem ok220 (elems:List ByteArray) (sep:ByteArray):(S220 elems sep).ok Tryz.prog 220 false :=
 Ukc Uhu Ueg elems sep
theorem kc237 (line:ByteArray) {K_:Prop} (p0_:line.size≤1048576) (k_:((F237 line).1.length≤8)→(∀ k:Nat,((F237 line).1.getD k default).size≤1048576)→K_):(line.size≤1048576)∧(Imp (.v (.string line)) (.v (.string line)))∧K_:=⟨p0_,Imp.refl _,k_ (Qfw line) (Qky line)⟩
abbrev kh237 (line:ByteArray):Hint false Tryz.prog:=.call 237 (S237 line) (ok237 line) none
theorem kc219 (words:List ByteArray) {K_:Prop} (p0_:∀ k:Nat,(words.getD k default).size≤1048576) (k_:K_):(∀ k:Nat,(words.getD k default).size≤1048576)∧(Imp (.l 1 eStr words) (.l 1 eStr words))∧K_:=⟨p0_,Imp.refl _,k_⟩
abbrev kh219 (words:List ByteArray):Hint false Tryz.prog:=.call 219 (S219 words) (ok219 words) none
theorem kc220 (elems:List ByteArray) (sep:ByteArray) {K_:Prop} (p0_:elems.length≤140737488355328) (p1_:(Yy elems sep).size≤140737488355328) (k_:K_):(elems.length≤140737488355328∧(Yy elems sep).size≤140737488355328)∧(Imp (.l 1 eStr elems) (.l 1 eStr elems))∧(Imp (.v (.string sep)) (.v (.string sep)))∧K_:=⟨⟨p0_,p1_⟩,Imp.refl _,Imp.refl _,k_⟩
abbrev kh220 (elems:List ByteArray) (sep:ByteArray):Hint false Tryz.prog:=.call 220 (S220 elems sep) (ok220 elems sep) none
def F218 (line:ByteArray):ByteArray×Bool :=
 bif (!(F237 line).2) then ((⟨#[]⟩:ByteArray),false) else (bif (!(F219 (F237 line).1).2) then ((⟨#[]⟩:ByteArray),false) else ((F220 (F237 line).1 ⟨#[32]⟩),true))
theorem Uez (line:ByteArray) (r:ByteArray×Bool) (hF:r=(F218 line)):((.string r.1:Value)=.string (F218 line).1)∧((.bool r.2:Value)=.bool (F218 line).2)∧True:=by cases hF; exact ⟨rfl,rfl,trivial⟩
def S218 (line:ByteArray):Spec:=⟨[.r (.c (.v (.string line)))],.tu [.v (.string (F218 line).1),.v (.bool (F218 line).2)],line.size≤1048576⟩
theorem ok218 (line:ByteArray):(S218 line).ok Tryz.prog 218 false :=
 Qi mixed (fn:=Tryz.f218) (ct:=.seq .no (.seq (.reg [(1,kh237 line)]) (.seq (.seq .no (.cond (.seq .no .no) .no)) (.seq (.seq (.reg [(1,kh219 (F237 line).1)]) (.seq .no (.cond (.seq .no .no) .no))) (.seq (.reg [(1,kh220 (F237 line).1 w15_)]) .no))))) Tryz.func218 (fun (hpre0:line.size≤1048576)=>kc237 line (by omega) (fun gv1 gv2=>ifb (!(F237 line).2) (fun h3=>have _:=(We h3); Uez line (w13_,false) (condT h3 rfl)) (fun h3=>have _:=(Uu h3); kc219 (F237 line).1 (by first | assumption | exact gv2 | (intros; exact trivial) | (intros; exact Nat.zero_le _)) (ifb (!(F219 (F237 line).1).2) (fun h4=>have _:=(We h4); Uez line (w13_,false) (condF h3 (condT h4 rfl))) (fun h4=>have _:=(Uu h4); kc220 (F237 line).1 w15_ (by first | omega | exact Hy _ _ (by assumption) (by omega) (by decide)) (by first | omega | exact Hy _ _ (by assumption) (by omega) (by decide)) (Uez line ((F220 (F237 line).1 w15_),true) (condF h3 (condF h4 rfl)))))))) (by kernel_rfl)
theorem kc97 (line:ByteArray) {K_:Prop} (p0_:line.size≤1048576) (k_:((F97 line).1.length≤8)→(∀ k:Nat,((F97 line).1.getD k default).size≤1048576)→K_):(line.size≤1048576)∧(Imp (.v (.string line)) (.v (.string line)))∧K_:=⟨p0_,Imp.refl _,k_ (Hk line) (Qd line)⟩
abbrev kh97 (line:ByteArray):Hint true Tryz.prog:=.call 97 (S97 line) (ok97 line) none
theorem kg235 {K_:Prop} (c_ b_:Bool) (w1:List ByteArray) (p_:c_=b_→(∀ k:Nat,(w1.getD k default).size≤1048576)) (k_:K_):(c_=b_→(∀ k:Nat,(w1.getD k default).size≤1048576))∧(c_=b_→Imp (.l 1 eStr w1) (.l 1 eStr w1))∧K_:=⟨p_,fun _=>Imp.refl _,k_⟩
abbrev kh235 (w1:List ByteArray):Hint true Tryz.prog:=.call 235 (S235 w1) (ok235 w1) none
theorem kc236 (list:List ByteArray) (with':ByteArray) {K_:Prop} (p0_:list.length≤8) (p1_:∀ k:Nat,(list.getD k default).size≤1048576) (p2_:with'.size≤1) (k_:K_):(list.length≤8∧(∀ k:Nat,(list.getD k default).size≤1048576)∧with'.size≤1)∧(Imp (.l 1 eStr list) (.l 1 eStr list))∧(Imp (.v (.string with')) (.v (.string with')))∧K_:=⟨⟨p0_,p1_,p2_⟩,Imp.refl _,Imp.refl _,k_⟩
abbrev kh236 (list:List ByteArray) (with':ByteArray):Hint true Tryz.prog:=.call 236 (S236 list with') (ok236 list with') none
def F216 (line:ByteArray):ByteArray×Bool :=
 bif (bif (!(F97 line).2) then true else (!(F235 (F97 line).1))) then ((⟨#[]⟩:ByteArray),false) else ((F236 (F97 line).1 ⟨#[32]⟩),true)
theorem fi216 (line:ByteArray) (r:ByteArray×Bool) (hF:r=(F216 line)):((.string r.1:Value)=.string (F216 line).1)∧((.bool r.2:Value)=.bool (F216 line).2)∧True:=by cases hF; exact ⟨rfl,rfl,trivial⟩
def S216 (line:ByteArray):Spec:=⟨[.r (.c (.v (.string line)))],.tu [.v (.string (F216 line).1),.v (.bool (F216 line).2)],line.size≤1048576⟩
theorem ok216 (line:ByteArray):(S216 line).ok Tryz.prog 216 :=
 Qi mixed (fn:=Tryz.f216) (ct:=.seq .no (.seq (.reg [(1,kh97 line)]) (.seq (.seq (.reg [(4,kh235 (F97 line).1)]) (.cond (.seq .no .no) .no)) (.seq (.reg [(1,kh236 (F97 line).1 w15_)]) .no)))) Tryz.func216 (fun (hpre0:line.size≤1048576)=>kc97 line (by omega) (fun gv1 gv2=>kg235 (!(F97 line).2) false (F97 line).1 (fun k3=>have _:=(Uu k3); (by first | assumption | exact gv2 | (intros; exact trivial) | (intros; exact Nat.zero_le _))) (ifb (bif (!(F97 line).2) then true else (!(F235 (F97 line).1))) (fun h4=>fi216 line (w13_,false) (condT h4 rfl)) (fun h4=>have _:=(Uu (orF1 h4)); kc236 (F97 line).1 w15_ (by first | assumption | omega | decide) (by first | assumption | omega | decide) (by first | assumption | omega | decide) (fi216 line ((F236 (F97 line).1 w15_),true) (condF h4 rfl)))))) (by kernel_rfl)
theorem Qwx (line:ByteArray):F218 line=F216 line:=by
 unfold F218 F216
 rw [Hx,(Qfm _).1,Ts]
 cases (F97 line).2 <;> cases F235 (F97 line).1 <;> rfl
def Qfb (w:List ByteArray):Prop:=(w.getD 0 default).data.toList=[104,111,115,116]∧w.length=2∧F250 (w.getD 1 default)=true
def Wq (w:List ByteArray):Prop:=(w.getD 0 default).data.toList=[117,115,101,114]∧w.length=3∧F250 (w.getD 1 default)=true∧F251 (w.getD 2 default)=true
def Jm (w:List ByteArray):Prop:=(w.getD 0 default).data.toList=[112,111,114,116]∧(w.length=3∨w.length=5∧(w.getD 3 default).data.toList=[105,110]∧F250 (w.getD 4 default)=true)∧0≤F79 (w.getD 1 default)∧F79 (w.getD 1 default)≤7∧F252 (w.getD 2 default)=true
def Wb (w:List ByteArray):Prop:=(w.getD 0 default).data.toList=[114,117,108,101]∧w.length=7∧F250 (w.getD 1 default)=true∧0≤F79 (w.getD 2 default)∧F79 (w.getD 2 default)≤99∧((w.getD 3 default).data.toList=[112,101,114,109,105,116]∨(w.getD 3 default).data.toList=[100,101,110,121])∧F252 (w.getD 4 default)=true∧F252 (w.getD 5 default)=true∧0≤F79 (w.getD 6 default)∧F79 (w.getD 6 default)≤7
def Kg (w:List ByteArray):Prop:=(w.getD 0 default).data.toList=[114,111,117,116,101]∧w.length=3∧F252 (w.getD 1 default)=true∧F78 (w.getD 2 default)≥0
def Nt (w:List ByteArray):Prop:=(w.getD 0 default).data.toList=[112,101,101,114]∧w.length=4∧F78 (w.getD 1 default)≥0∧1≤F79 (w.getD 2 default)∧F79 (w.getD 2 default)≤9∧1≤F79 (w.getD 3 default)∧F79 (w.getD 3 default)≤999999
def natP (w:List ByteArray):Prop:=(w.getD 0 default).data.toList=[110,97,116]∧w.length=5∧F252 (w.getD 1 default)=true∧F78 (w.getD 2 default)≥0∧1≤F79 (w.getD 3 default)∧F79 (w.getD 3 default)≤65535∧1≤F79 (w.getD 4 default)∧F79 (w.getD 4 default)≤65535
def Wi (w:List ByteArray):Prop:=(w.getD 0 default).data.toList=[100,111,111,114]∧w.length=5∧1≤F79 (w.getD 1 default)∧F79 (w.getD 1 default)≤7∧1≤F79 (w.getD 2 default)∧F79 (w.getD 2 default)≤65535∧F78 (w.getD 3 default)≥0∧1≤F79 (w.getD 4 default)∧F79 (w.getD 4 default)≤65535
def Wp (w:List ByteArray):Prop:=Qfb w∨Wq w∨Jm w∨Wb w∨Kg w∨Nt w∨natP w∨Wi w
theorem Qpm (w:List ByteArray) (hF:F235 w=true):Wp w:=by
 have hw:w.length≠0:=fun h=>by
  obtain rfl:=List.eq_nil_of_length_eq_zero h
  exact Bool.false_ne_true hF
 have h0:((w.length:Int)==0)=false:=by rw [beq_eq_false_iff_ne]; omega
 have e0:w.getD (Int.toNat 0) default=w.getD 0 default:=rfl
 have e1:w.getD (Int.toNat 1) default=w.getD 1 default:=rfl
 have e2:w.getD (Int.toNat 2) default=w.getD 2 default:=rfl
 have e3:w.getD (Int.toNat 3) default=w.getD 3 default:=rfl
 have e4:w.getD (Int.toNat 4) default=w.getD 4 default:=rfl
 have e5:w.getD (Int.toNat 5) default=w.getD 5 default:=rfl
 have e6:w.getD (Int.toNat 6) default=w.getD 6 default:=rfl
 have n2:=Kz w 2
 have n3:=Kz w 3
 have n4:=Kz w 4
 have n5:=Kz w 5
 have n7:=Kz w 7
 simp only [Int.cast_ofNat_Int] at n2 n3 n4 n5 n7
 unfold F235 at hF
 simp only [h0,cond_false,e0,e1,e2,e3,e4,e5,e6,n2,n3,n4,n5,n7] at hF
 rcases Classical.em ((w.getD 0 default).data.toList=[104,111,115,116]) with h | hn0
 ·simp only [blit,h,hd00,cond_true,cond_false,cb1,cb2,Bool.and_eq_true,Bool.or_eq_true,decide_eq_true_eq,beq_iff_eq,and_assoc] at hF
  exact Or.inl ⟨h,hF⟩
 rcases Classical.em ((w.getD 0 default).data.toList=[117,115,101,114]) with h | hn1
 ·simp only [blit,h,hd10,hd11,cond_true,cond_false,cb1,cb2,Bool.and_eq_true,Bool.or_eq_true,decide_eq_true_eq,beq_iff_eq,and_assoc] at hF
  exact Or.inr (Or.inl ⟨h,hF⟩)
 rcases Classical.em ((w.getD 0 default).data.toList=[112,111,114,116]) with h | hn2
 ·simp only [blit,h,hd20,hd21,hd22,cond_true,cond_false,cb1,cb2,Bool.and_eq_true,Bool.or_eq_true,decide_eq_true_eq,beq_iff_eq,and_assoc] at hF
  exact Or.inr (Or.inr (Or.inl ⟨h,hF⟩))
 rcases Classical.em ((w.getD 0 default).data.toList=[114,117,108,101]) with h | hn3
 ·simp only [blit,h,hd30,hd31,hd32,hd33,cond_true,cond_false,cb1,cb2,Bool.and_eq_true,Bool.or_eq_true,decide_eq_true_eq,beq_iff_eq,and_assoc] at hF
  exact Or.inr (Or.inr (Or.inr (Or.inl ⟨h,hF⟩)))
 rcases Classical.em ((w.getD 0 default).data.toList=[114,111,117,116,101]) with h | hn4
 ·simp only [blit,h,hd40,hd41,hd42,hd43,hd44,cond_true,cond_false,cb1,cb2,Bool.and_eq_true,Bool.or_eq_true,decide_eq_true_eq,beq_iff_eq,and_assoc] at hF
  exact Or.inr (Or.inr (Or.inr (Or.inr (Or.inl ⟨h,hF⟩))))
 rcases Classical.em ((w.getD 0 default).data.toList=[112,101,101,114]) with h | hn5
 ·simp only [blit,h,hd50,hd51,hd52,hd53,hd54,hd55,cond_true,cond_false,cb1,cb2,Bool.and_eq_true,Bool.or_eq_true,decide_eq_true_eq,beq_iff_eq,and_assoc] at hF
  exact Or.inr (Or.inr (Or.inr (Or.inr (Or.inr (Or.inl ⟨h,hF⟩)))))
 rcases Classical.em ((w.getD 0 default).data.toList=[110,97,116]) with h | hn6
 ·simp only [blit,h,hd60,hd61,hd62,hd63,hd64,hd65,hd66,cond_true,cond_false,cb1,cb2,Bool.and_eq_true,Bool.or_eq_true,decide_eq_true_eq,beq_iff_eq,and_assoc] at hF
  exact Or.inr (Or.inr (Or.inr (Or.inr (Or.inr (Or.inr (Or.inl ⟨h,hF⟩))))))
 rcases Classical.em ((w.getD 0 default).data.toList=[100,111,111,114]) with h | hn7
 ·simp only [blit,h,hd70,hd71,hd72,hd73,hd74,hd75,hd76,hd77,cond_true,cond_false,cb1,cb2,Bool.and_eq_true,Bool.or_eq_true,decide_eq_true_eq,beq_iff_eq,and_assoc] at hF
  exact Or.inr (Or.inr (Or.inr (Or.inr (Or.inr (Or.inr (Or.inr (⟨h,hF⟩)))))))
 exfalso
 simp only [blit,beq_eq_false_iff_ne.2 hn0,beq_eq_false_iff_ne.2 hn1,beq_eq_false_iff_ne.2 hn2,beq_eq_false_iff_ne.2 hn3,beq_eq_false_iff_ne.2 hn4,beq_eq_false_iff_ne.2 hn5,beq_eq_false_iff_ne.2 hn6,beq_eq_false_iff_ne.2 hn7,cond_false] at hF
 exact Bool.false_ne_true hF
theorem Bt (w:List ByteArray) (h:Wp w):2≤w.length∧w.length≤7:=by
 unfold Wp Qfb Wq Jm Wb Kg Nt natP Wi at h
 omega
theorem Tu (w:List ByteArray) (h:Wp w):1≤keyN (w.getD 0 default).data.toList∧keyN (w.getD 0 default).data.toList≤3∧keyN (w.getD 0 default).data.toList≤(w.length:Int):=by
 rcases h with h | h | h | h | h | h | h | h
 ·have hk:keyN (w.getD 0 default).data.toList=1:=by rw [h.1]; decide
  unfold Qfb at h
  omega
 ·have hk:keyN (w.getD 0 default).data.toList=2:=by rw [h.1]; decide
  unfold Wq at h
  omega
 ·have hk:keyN (w.getD 0 default).data.toList=2:=by rw [h.1]; decide
  unfold Jm at h
  omega
 ·have hk:keyN (w.getD 0 default).data.toList=3:=by rw [h.1]; decide
  unfold Wb at h
  omega
 ·have hk:keyN (w.getD 0 default).data.toList=3:=by rw [h.1]; decide
  unfold Kg at h
  omega
 ·have hk:keyN (w.getD 0 default).data.toList=2:=by rw [h.1]; decide
  unfold Nt at h
  omega
 ·have hk:keyN (w.getD 0 default).data.toList=1:=by rw [h.1]; decide
  unfold natP at h
  omega
 ·have hk:keyN (w.getD 0 default).data.toList=3:=by rw [h.1]; decide
  unfold Wi at h
  omega
theorem Qgg (c:UInt8):∀ (l:List UInt8),∀ w∈Qx c l,c ∉ w
 | [],w,h=>by rw [Qx,List.mem_singleton] at h; rw [h]; exact List.not_mem_nil
 | b :: l,w,h=>by
  have ih:=Qgg c l
  rw [Qx] at h
  by_cases hb:b=c
  ·rw [if_pos hb] at h
   rcases List.mem_cons.1 h with rfl | h
   ·exact List.not_mem_nil
   ·exact ih w h
  ·rw [if_neg hb] at h
   have hbc:¬ c=b:=fun e=>hb e.symm
   cases hs:Qx c l with
   | nil =>
    rw [hs] at h
    rw [List.mem_singleton] at h; rw [h]
    intro hm; rcases List.mem_cons.1 hm with e | e
    ·exact hbc e
    ·cases e
   | cons p ps =>
    rw [hs] at h ih
    rcases List.mem_cons.1 h with rfl | h
    ·intro hm; rcases List.mem_cons.1 hm with e | e
     ·exact hbc e
     ·exact ih p List.mem_cons_self e
    ·exact ih w (List.mem_cons_of_mem _ h)
theorem Qdp (c:UInt8):∀ (ws:List (List UInt8)),ws≠[]→(∀ w∈ws,c ∉ w)→Qx c (Lib.join ws [c])=ws
 | [],h,_=>absurd rfl h
 | [x],_,h=>by rw [Lib.join_one,Ux (h x List.mem_cons_self)]
 | x :: y :: r,_,h=>by
  have ih:=Qdp c (y :: r) (by simp) fun w hw=>h w (List.mem_cons_of_mem _ hw)
  rw [Lib.join_cons]
  have e:Lib.joinTail [c] (y :: r)=c :: Lib.join (y :: r) [c]:=by rw [Lib.join_cons]; rfl
  rw [e,Ym _ (h x List.mem_cons_self),ih]
theorem Qsu (line:ByteArray):∀ w∈(F97 line).1,(32:UInt8) ∉ w.data.toList∧w.data.toList≠[]∧w.size≤24:=by
 rw [Qcc]
 unfold Vg fitW
 cases h:(((cut3 line (⟨#[35]⟩:ByteArray)).1.data.toList.all okB)&&(decide ((Ug (cut3 line (⟨#[35]⟩:ByteArray)).1.data.toList).length≤8)&&(Ug (cut3 line (⟨#[35]⟩:ByteArray)).1.data.toList).all fun w=>decide (w.length≤24))) with
 | false=>intro w hw; rw [cond_false] at hw; cases hw
 | true =>
  rw [cond_true]
  simp only [Bool.and_eq_true] at h
  intro w hw
  obtain ⟨l,hl,rfl⟩:=List.mem_map.1 hw
  have h1:=of_decide_eq_true (List.all_eq_true.1 h.2.2 l hl)
  have h2:=List.mem_filter.1 hl
  refine ⟨Qgg 32 _ l h2.1,?_,h1⟩
  intro e
  have e':l=[]:=e
  rw [e'] at h2
  exact Bool.false_ne_true h2.2
structure Qzo (line:ByteArray) (w:List ByteArray):Prop where
 words:F97 line=(w,true)
 form:Wp w
 joins:Yy w (⟨#[32]⟩:ByteArray)=line
 splits:Qw line (⟨#[32]⟩:ByteArray)=w
 no:∀ x∈w,(32:UInt8) ∉ x.data.toList∧x.data.toList≠[]∧x.size≤24
theorem Qmw (w:List ByteArray) (h0:w≠[]) (h:∀ x∈w,(32:UInt8) ∉ x.data.toList):Qw (Yy w (⟨#[32]⟩:ByteArray)) (⟨#[32]⟩:ByteArray)=w:=by
 rw [Rv]
 have e:(Yy w (⟨#[32]⟩:ByteArray)).data.toList=Lib.join (w.map (·.data.toList)) [32]:=rfl
 rw [e,Qdp 32 _ (by simpa using h0) (fun x hx=>by obtain ⟨y,hy,rfl⟩:=List.mem_map.1 hx; exact h y hy),List.map_map]
 exact (List.map_congr_left fun x _=>Qbj x).trans (List.map_id _)
theorem Tw (line:ByteArray):F216 line=bif (F97 line).2&&F235 (F97 line).1 then (Yy (F97 line).1 (⟨#[32]⟩:ByteArray),true) else ((⟨#[]⟩:ByteArray),false):=by
 unfold F216
 rw [Ts]
 cases (F97 line).2 <;> cases F235 (F97 line).1 <;> rfl
theorem Qgx (a b:ByteArray):(a.toList==b.toList)=decide (a=b):=by
 rw [Qz,Qz]
 by_cases h:a=b
 ·rw [h,decide_eq_true rfl]; simp
 ·rw [decide_eq_false h,beq_eq_false_iff_ne]; exact fun e=>h (Xj e)
theorem Ugi (line:ByteArray) (h:(F216 line).2=true∧(F216 line).1=line):Qzo line (F97 line).1:=by
 rw [Tw] at h
 cases hc:((F97 line).2&&F235 (F97 line).1) with
 | false=>rw [hc,cond_false] at h; exact absurd h.1 Bool.false_ne_true
 | true =>
  rw [hc,cond_true] at h
  simp only [Bool.and_eq_true] at hc
  have hf:=Qpm _ hc.2
  have hn:=Qsu line
  refine ⟨Prod.ext rfl hc.1,hf,h.2,?_,hn⟩
  have hne:(F97 line).1≠[]:=fun e=>by have:=(Bt _ hf).1; rw [e] at this; simp at this
  have:=Qmw _ hne fun x hx=>(hn x hx).1
  have e:Yy (F97 line).1 (⟨#[32]⟩:ByteArray)=line:=h.2
  rwa [e] at this
theorem kc218 (line:ByteArray) {K_:Prop} (p0_:line.size≤1048576) (k_:K_):(line.size≤1048576)∧(Imp (.v (.string line)) (.v (.string line)))∧K_:=⟨p0_,Imp.refl _,k_⟩
abbrev kh218 (line:ByteArray):Hint false Tryz.prog:=.call 218 (S218 line) (ok218 line) none
def F188 (line:ByteArray):Bool :=
 (bif (F218 line).2 then ((F218 line).1.toList==line.toList) else false)
def S188 (line:ByteArray):Spec:=⟨[.r (.c (.v (.string line)))],.v (.bool (F188 line)),line.size≤1048576⟩
theorem ok188 (line:ByteArray):(S188 line).ok Tryz.prog 188 false :=
 Qi mixed (fn:=Tryz.f188) (ct:=.seq .no (.seq (.reg [(1,kh218 line)]) (.seq .no .no))) Tryz.func188 (fun (hpre0:line.size≤1048576)=>kc218 line (by omega) (fiB (bif (F218 line).2 then ((F218 line).1.toList==line.toList) else false) (F188 line) rfl)) (by kernel_rfl)
theorem kc216 (line:ByteArray) {K_:Prop} (p0_:line.size≤1048576) (k_:K_):(line.size≤1048576)∧(Imp (.v (.string line)) (.v (.string line)))∧K_:=⟨p0_,Imp.refl _,k_⟩
abbrev kh216 (line:ByteArray):Hint true Tryz.prog:=.call 216 (S216 line) (ok216 line) none
def F182 (line:ByteArray):Bool :=
 (bif (F216 line).2 then ((F216 line).1.toList==line.toList) else false)
def S182 (line:ByteArray):Spec:=⟨[.r (.c (.v (.string line)))],.v (.bool (F182 line)),line.size≤1048576⟩
theorem ok182 (line:ByteArray):(S182 line).ok Tryz.prog 182 :=
 Qi mixed (fn:=Tryz.f182) (ct:=.seq .no (.seq (.reg [(1,kh216 line)]) (.seq .no .no))) Tryz.func182 (fun (hpre0:line.size≤1048576)=>kc216 line (by omega) (fiB (bif (F216 line).2 then ((F216 line).1.toList==line.toList) else false) (F182 line) rfl)) (by kernel_rfl)
theorem Vu (line:ByteArray):F188 line=F182 line:=by
 unfold F188 F182
 rw [Qwx]
theorem Qmb (line:ByteArray):F182 line=true↔(F216 line).2=true∧(F216 line).1=line:=by
 unfold F182
 rw [cb1,Qgx,Bool.and_eq_true,decide_eq_true_eq]
theorem Hg (line:ByteArray) (h:F182 line=true):Qzo line (F97 line).1:=Ugi line ((Qmb line).1 h)
theorem not_false {b:Bool} (h:(!b)=false):b=true:=by cases b; exact h.symm; rfl
theorem kix_n (line:ByteArray) (hk:(!F182 line)=false):(2:Int)≤((F97 line).1.length:Int):=by
 have:=(Bt _ (Hg line (not_false hk)).form).1; omega
theorem kix0 (line:ByteArray) (hk:(!F182 line)=false):(0:Int)≤0∧(0:Int)<((F97 line).1.length:Int):=by have:=kix_n line hk; omega
theorem kix1 (line:ByteArray) (hk:(!F182 line)=false):(0:Int)≤1∧(1:Int)<((F97 line).1.length:Int):=by have:=kix_n line hk; omega
theorem Vm (line:ByteArray) (hk:(!F182 line)=false) (h:(((F97 line).1.getD (Int.toNat 0) default).toList==(⟨#[114,117,108,101]⟩:ByteArray).toList)=true):(0:Int)≤2∧(2:Int)<((F97 line).1.length:Int):=by
 have hf:=(Hg line (not_false hk)).form
 rw [blit,beq_iff_eq] at h
 have h:((F97 line).1.getD 0 default).data.toList=[114,117,108,101]:=h
 unfold Wp Qfb Wq Jm Wb Kg Nt natP Wi at hf
 simp only [h] at hf
 simp at hf
 omega
theorem Vp (line:ByteArray) (hk:(!F182 line)=false) (h:(((F97 line).1.getD (Int.toNat 0) default).toList==(⟨#[100,111,111,114]⟩:ByteArray).toList)=true):(0:Int)≤2∧(2:Int)<((F97 line).1.length:Int):=by
 have hf:=(Hg line (not_false hk)).form
 rw [blit,beq_iff_eq] at h
 have h:((F97 line).1.getD 0 default).data.toList=[100,111,111,114]:=h
 unfold Wp Qfb Wq Jm Wb Kg Nt natP Wi at hf
 simp only [h] at hf
 simp at hf
 omega
theorem Qwo (line:ByteArray) (h:F182 line=true):F235 (F97 line).1=true:=by
 have:=((Qmb line).1 h).1
 rw [Tw] at this
 cases hc:F235 (F97 line).1 with
 | true=>rfl
 | false=>rw [hc,Bool.and_false,cond_false] at this; exact this
theorem Tl (line:ByteArray) (h:F182 line=true):(F219 (F120 line (⟨#[32]⟩:ByteArray))).1.key=keyN (((F97 line).1.getD 0 default).data.toList)∧F120 line (⟨#[32]⟩:ByteArray)=(F97 line).1:=by
 have hk:=Hg line h
 have e:F120 line (⟨#[32]⟩:ByteArray)=(F97 line).1:=hk.splits
 rw [e]
 obtain ⟨f1,f2⟩:=Qfm (F97 line).1
 exact ⟨f2 (f1.trans (Qwo line h)),rfl⟩
theorem Qzd (line:ByteArray) (h:F188 line=true):0≤((F219 (F120 line (⟨#[32]⟩:ByteArray))).1).key∧((F219 (F120 line (⟨#[32]⟩:ByteArray))).1).key≤((F120 line (⟨#[32]⟩:ByteArray)).length:Int):=by
 rw [Vu] at h
 obtain ⟨k1,k2⟩:=Tl line h
 have:=Tu _ (Hg line h).form
 rw [k1,k2]
 omega
theorem Uah (line:ByteArray) (h:line.size≤1048576):∀ k:Nat,((F120 line (⟨#[32]⟩:ByteArray)).getD k default).size≤1048576:=fun k=>by
 show ((Qw line (⟨#[32]⟩:ByteArray)).getD k default).size≤1048576
 rw [Rv]
 refine Qat _ _ (fun w hw=>?_) k
 have:=Tq 32 _ w hw
 have hl:line.data.toList.length=line.size:=Array.length_toList
 omega
theorem Qwf (ws:List ByteArray) (n m:Nat) (h:∀ k:Nat,(ws.getD k default).size≤m) (k:Nat):((ws.take n).getD k default).size≤m:=by
 rw [List.getD_eq_getElem?_getD,List.getElem?_take]
 by_cases hk:k<n
 ·rw [if_pos hk,← List.getD_eq_getElem?_getD]; exact h k
 ·rw [if_neg hk]; exact Nat.zero_le _
theorem Qew (line:ByteArray) (hk:(!F188 line)=false) :
  ((F120 line (⟨#[32]⟩:ByteArray)).take (Int.toNat (((F219 (F120 line (⟨#[32]⟩:ByteArray))).1).key))).length≤140737488355328 ∧
  (Yy ((F120 line (⟨#[32]⟩:ByteArray)).take (Int.toNat (((F219 (F120 line (⟨#[32]⟩:ByteArray))).1).key))) (⟨#[32]⟩:ByteArray)).size≤140737488355328:=by
 have h:=not_false hk
 rw [Vu] at h
 obtain ⟨k1,k2⟩:=Tl line h
 rw [k2]
 have hl:(((F97 line).1).take (Int.toNat (((F219 ((F97 line).1)).1).key))).length≤8:=by
  rw [List.length_take]
  have:=Hk line
  omega
 exact ⟨Nat.le_trans hl (by decide),Hy _ _ (Qwf _ _ _ (Qd line)) hl (by decide)⟩
theorem kc188 (line:ByteArray) {K_:Prop} (p0_:line.size≤1048576) (k_:K_):(line.size≤1048576)∧(Imp (.v (.string line)) (.v (.string line)))∧K_:=⟨p0_,Imp.refl _,k_⟩
abbrev kh188 (line:ByteArray):Hint false Tryz.prog:=.call 188 (S188 line) (ok188 line) none
def F189 (line:ByteArray):ByteArray :=
 bif (!(F188 line)) then (⟨#[]⟩:ByteArray) else (F220 ((F120 line ⟨#[32]⟩).take (Int.toNat (F219 (F120 line ⟨#[32]⟩)).1.key)) ⟨#[32]⟩)
def S189 (line:ByteArray):Spec:=⟨[.r (.c (.v (.string line)))],.v (.string (F189 line)),line.size≤1048576⟩
theorem ok189 (line:ByteArray):(S189 line).ok Tryz.prog 189 false :=
 Qi mixed (fn:=Tryz.f189) (ct:=.seq .no (.seq (.seq (.reg [(1,kh188 line)]) (.cond (.seq .no .no) .no)) (.seq (.reg [(1,Udb line w15_)]) (.seq (.reg [(1,kh219 (F120 line w15_))]) (.seq (.reg [(4,kh220 ((F120 line w15_).take (Int.toNat (F219 (F120 line w15_)).1.key)) w15_)]) .no))))) Tryz.func189 (fun (hpre0:line.size≤1048576)=>kc188 line (by omega) (ifb (!(F188 line)) (fun h1=>fiS w13_ (F189 line) (condT h1 rfl)) (fun h1=>have _:0≤(F219 (F120 line w15_)).1.key∧(F219 (F120 line w15_)).1.key≤((F120 line w15_).length:Int):=Qzd line (Uu h1); Qrk line w15_ (by omega) (by decide) (by decide) (by decide) (fun gv2 gv3=>kc219 (F120 line w15_) (by exact Uah line (by omega)) (ai (by omega:0≤(0:Int)∧(0:Int)≤(F219 (F120 line w15_)).1.key∧(F219 (F120 line w15_)).1.key≤((F120 line w15_).length:Int)) (kc220 ((F120 line w15_).take (Int.toNat (F219 (F120 line w15_)).1.key)) w15_ (by exact (Qew _ (by assumption)).1) (by exact (Qew _ (by assumption)).2) (fiS (F220 ((F120 line w15_).take (Int.toNat (F219 (F120 line w15_)).1.key)) w15_) (F189 line) (condF h1 rfl)))))))) (by kernel_rfl)
theorem kc182 (line:ByteArray) {K_:Prop} (p0_:line.size≤1048576) (k_:K_):(line.size≤1048576)∧(Imp (.v (.string line)) (.v (.string line)))∧K_:=⟨p0_,Imp.refl _,k_⟩
abbrev kh182 (line:ByteArray):Hint true Tryz.prog:=.call 182 (S182 line) (ok182 line) none
def F149 (line:ByteArray):ByteArray :=
 bif (!(F182 line)) then (⟨#[]⟩:ByteArray) else (bif (((F97 line).1.getD (Int.toNat 0) default).toList==(⟨#[104,111,115,116]⟩:ByteArray).toList) then (bif (((F97 line).1.getD (Int.toNat 0) default).toList==(⟨#[104,111,115,116]⟩:ByteArray).toList) then ((F97 line).1.getD (Int.toNat 0) default) else (bif (((F97 line).1.getD (Int.toNat 0) default).toList==(⟨#[117,115,101,114]⟩:ByteArray).toList) then (bif (((F97 line).1.getD (Int.toNat 0) default).toList==(⟨#[117,115,101,114]⟩:ByteArray).toList) then ((((F97 line).1.getD (Int.toNat 0) default)++(⟨#[32]⟩:ByteArray))++((F97 line).1.getD (Int.toNat 1) default)) else (bif (((F97 line).1.getD (Int.toNat 0) default).toList==(⟨#[114,117,108,101]⟩:ByteArray).toList) then (bif (((F97 line).1.getD (Int.toNat 0) default).toList==(⟨#[114,117,108,101]⟩:ByteArray).toList) then ((((((F97 line).1.getD (Int.toNat 0) default)++(⟨#[32]⟩:ByteArray))++((F97 line).1.getD (Int.toNat 1) default))++(⟨#[32]⟩:ByteArray))++((F97 line).1.getD (Int.toNat 2) default)) else line) else (bif (((F97 line).1.getD (Int.toNat 0) default).toList==(⟨#[100,111,111,114]⟩:ByteArray).toList) then ((((((F97 line).1.getD (Int.toNat 0) default)++(⟨#[32]⟩:ByteArray))++((F97 line).1.getD (Int.toNat 1) default))++(⟨#[32]⟩:ByteArray))++((F97 line).1.getD (Int.toNat 2) default)) else line))) else (bif (((F97 line).1.getD (Int.toNat 0) default).toList==(⟨#[112,111,114,116]⟩:ByteArray).toList) then (bif (((F97 line).1.getD (Int.toNat 0) default).toList==(⟨#[112,111,114,116]⟩:ByteArray).toList) then ((((F97 line).1.getD (Int.toNat 0) default)++(⟨#[32]⟩:ByteArray))++((F97 line).1.getD (Int.toNat 1) default)) else (bif (((F97 line).1.getD (Int.toNat 0) default).toList==(⟨#[114,117,108,101]⟩:ByteArray).toList) then (bif (((F97 line).1.getD (Int.toNat 0) default).toList==(⟨#[114,117,108,101]⟩:ByteArray).toList) then ((((((F97 line).1.getD (Int.toNat 0) default)++(⟨#[32]⟩:ByteArray))++((F97 line).1.getD (Int.toNat 1) default))++(⟨#[32]⟩:ByteArray))++((F97 line).1.getD (Int.toNat 2) default)) else line) else (bif (((F97 line).1.getD (Int.toNat 0) default).toList==(⟨#[100,111,111,114]⟩:ByteArray).toList) then ((((((F97 line).1.getD (Int.toNat 0) default)++(⟨#[32]⟩:ByteArray))++((F97 line).1.getD (Int.toNat 1) default))++(⟨#[32]⟩:ByteArray))++((F97 line).1.getD (Int.toNat 2) default)) else line))) else (bif (((F97 line).1.getD (Int.toNat 0) default).toList==(⟨#[112,101,101,114]⟩:ByteArray).toList) then ((((F97 line).1.getD (Int.toNat 0) default)++(⟨#[32]⟩:ByteArray))++((F97 line).1.getD (Int.toNat 1) default)) else (bif (((F97 line).1.getD (Int.toNat 0) default).toList==(⟨#[114,117,108,101]⟩:ByteArray).toList) then (bif (((F97 line).1.getD (Int.toNat 0) default).toList==(⟨#[114,117,108,101]⟩:ByteArray).toList) then ((((((F97 line).1.getD (Int.toNat 0) default)++(⟨#[32]⟩:ByteArray))++((F97 line).1.getD (Int.toNat 1) default))++(⟨#[32]⟩:ByteArray))++((F97 line).1.getD (Int.toNat 2) default)) else line) else (bif (((F97 line).1.getD (Int.toNat 0) default).toList==(⟨#[100,111,111,114]⟩:ByteArray).toList) then ((((((F97 line).1.getD (Int.toNat 0) default)++(⟨#[32]⟩:ByteArray))++((F97 line).1.getD (Int.toNat 1) default))++(⟨#[32]⟩:ByteArray))++((F97 line).1.getD (Int.toNat 2) default)) else line)))))) else (bif (((F97 line).1.getD (Int.toNat 0) default).toList==(⟨#[110,97,116]⟩:ByteArray).toList) then ((F97 line).1.getD (Int.toNat 0) default) else (bif (((F97 line).1.getD (Int.toNat 0) default).toList==(⟨#[117,115,101,114]⟩:ByteArray).toList) then (bif (((F97 line).1.getD (Int.toNat 0) default).toList==(⟨#[117,115,101,114]⟩:ByteArray).toList) then ((((F97 line).1.getD (Int.toNat 0) default)++(⟨#[32]⟩:ByteArray))++((F97 line).1.getD (Int.toNat 1) default)) else (bif (((F97 line).1.getD (Int.toNat 0) default).toList==(⟨#[114,117,108,101]⟩:ByteArray).toList) then (bif (((F97 line).1.getD (Int.toNat 0) default).toList==(⟨#[114,117,108,101]⟩:ByteArray).toList) then ((((((F97 line).1.getD (Int.toNat 0) default)++(⟨#[32]⟩:ByteArray))++((F97 line).1.getD (Int.toNat 1) default))++(⟨#[32]⟩:ByteArray))++((F97 line).1.getD (Int.toNat 2) default)) else line) else (bif (((F97 line).1.getD (Int.toNat 0) default).toList==(⟨#[100,111,111,114]⟩:ByteArray).toList) then ((((((F97 line).1.getD (Int.toNat 0) default)++(⟨#[32]⟩:ByteArray))++((F97 line).1.getD (Int.toNat 1) default))++(⟨#[32]⟩:ByteArray))++((F97 line).1.getD (Int.toNat 2) default)) else line))) else (bif (((F97 line).1.getD (Int.toNat 0) default).toList==(⟨#[112,111,114,116]⟩:ByteArray).toList) then (bif (((F97 line).1.getD (Int.toNat 0) default).toList==(⟨#[112,111,114,116]⟩:ByteArray).toList) then ((((F97 line).1.getD (Int.toNat 0) default)++(⟨#[32]⟩:ByteArray))++((F97 line).1.getD (Int.toNat 1) default)) else (bif (((F97 line).1.getD (Int.toNat 0) default).toList==(⟨#[114,117,108,101]⟩:ByteArray).toList) then (bif (((F97 line).1.getD (Int.toNat 0) default).toList==(⟨#[114,117,108,101]⟩:ByteArray).toList) then ((((((F97 line).1.getD (Int.toNat 0) default)++(⟨#[32]⟩:ByteArray))++((F97 line).1.getD (Int.toNat 1) default))++(⟨#[32]⟩:ByteArray))++((F97 line).1.getD (Int.toNat 2) default)) else line) else (bif (((F97 line).1.getD (Int.toNat 0) default).toList==(⟨#[100,111,111,114]⟩:ByteArray).toList) then ((((((F97 line).1.getD (Int.toNat 0) default)++(⟨#[32]⟩:ByteArray))++((F97 line).1.getD (Int.toNat 1) default))++(⟨#[32]⟩:ByteArray))++((F97 line).1.getD (Int.toNat 2) default)) else line))) else (bif (((F97 line).1.getD (Int.toNat 0) default).toList==(⟨#[112,101,101,114]⟩:ByteArray).toList) then ((((F97 line).1.getD (Int.toNat 0) default)++(⟨#[32]⟩:ByteArray))++((F97 line).1.getD (Int.toNat 1) default)) else (bif (((F97 line).1.getD (Int.toNat 0) default).toList==(⟨#[114,117,108,101]⟩:ByteArray).toList) then (bif (((F97 line).1.getD (Int.toNat 0) default).toList==(⟨#[114,117,108,101]⟩:ByteArray).toList) then ((((((F97 line).1.getD (Int.toNat 0) default)++(⟨#[32]⟩:ByteArray))++((F97 line).1.getD (Int.toNat 1) default))++(⟨#[32]⟩:ByteArray))++((F97 line).1.getD (Int.toNat 2) default)) else line) else (bif (((F97 line).1.getD (Int.toNat 0) default).toList==(⟨#[100,111,111,114]⟩:ByteArray).toList) then ((((((F97 line).1.getD (Int.toNat 0) default)++(⟨#[32]⟩:ByteArray))++((F97 line).1.getD (Int.toNat 1) default))++(⟨#[32]⟩:ByteArray))++((F97 line).1.getD (Int.toNat 2) default)) else line)))))))
def S149 (line:ByteArray):Spec:=⟨[.r (.c (.v (.string line)))],.v (.string (F149 line)),line.size≤1048576⟩
theorem ok149 (line:ByteArray):(S149 line).ok Tryz.prog 149 :=
 Qi mixed (fn:=Tryz.f149) (ct:=.seq .no (.seq (.seq (.reg [(1,kh182 line)]) (.cond (.seq .no .no) .no)) (.seq (.reg [(1,kh97 line)]) (.seq (.seq .no (.blk (.seq (.seq .no (.cond .no .no)) (.cond (.seq .no .no) (.seq (.seq .no (.cond .no (.seq .no (.cond .no .no)))) (.cond (.seq .no .no) (.seq (.seq .no (.cond .no .no)) (.cond (.seq .no .no) .no)))))))) (.seq .no .no))))) Tryz.func149 (fun (hpre0:line.size≤1048576)=>kc182 line (by omega) (ifb (!(F182 line)) (fun h1=>fiS w13_ (F149 line) (condT h1 rfl)) (fun h1=>kc97 line (by omega) (fun gv2 gv3=>ai (by (exact kix0 _ (by assumption)):0≤(0:Int)∧(0:Int)<((F97 line).1.length:Int)) (ifb (((F97 line).1.getD (Int.toNat 0) default).toList==w4_.toList) (fun h4=>ifb (((F97 line).1.getD (Int.toNat 0) default).toList==w4_.toList) (fun h5=>ai (by (exact kix0 _ (by assumption)):0≤(0:Int)∧(0:Int)<((F97 line).1.length:Int)) (fiS ((F97 line).1.getD (Int.toNat 0) default) (F149 line) (condF h1 (condT h4 (condT h5 rfl))))) (fun h5=>ifb (((F97 line).1.getD (Int.toNat 0) default).toList==w10_.toList) (fun h6=>ifb (((F97 line).1.getD (Int.toNat 0) default).toList==w10_.toList) (fun h7=>ai (by (exact kix0 _ (by assumption)):0≤(0:Int)∧(0:Int)<((F97 line).1.length:Int)) (ai (by (have hz:=Qd line; have hz0:=hz (Int.toNat 0); have hz1:=hz (Int.toNat 1); have hz2:=hz (Int.toNat 2); have hs:w15_.size=1:=rfl; (try simp only [Ql] at *); omega):((((F97 line).1.getD (Int.toNat 0) default).size+w15_.size:Nat):Int)≤9223372036854775807) (ai (by (exact kix1 _ (by assumption)):0≤(1:Int)∧(1:Int)<((F97 line).1.length:Int)) (ai (by (have hz:=Qd line; have hz0:=hz (Int.toNat 0); have hz1:=hz (Int.toNat 1); have hz2:=hz (Int.toNat 2); have hs:w15_.size=1:=rfl; (try simp only [Ql] at *); omega):(((((F97 line).1.getD (Int.toNat 0) default)++w15_).size+((F97 line).1.getD (Int.toNat 1) default).size:Nat):Int)≤9223372036854775807) (fiS ((((F97 line).1.getD (Int.toNat 0) default)++w15_)++((F97 line).1.getD (Int.toNat 1) default)) (F149 line) (condF h1 (condT h4 (condF h5 (condT h6 (condT h7 rfl)))))))))) (fun h7=>ifb (((F97 line).1.getD (Int.toNat 0) default).toList==w9_.toList) (fun h8=>ifb (((F97 line).1.getD (Int.toNat 0) default).toList==w9_.toList) (fun h9=>ai (by (exact kix0 _ (by assumption)):0≤(0:Int)∧(0:Int)<((F97 line).1.length:Int)) (ai (by (have hz:=Qd line; have hz0:=hz (Int.toNat 0); have hz1:=hz (Int.toNat 1); have hz2:=hz (Int.toNat 2); have hs:w15_.size=1:=rfl; (try simp only [Ql] at *); omega):((((F97 line).1.getD (Int.toNat 0) default).size+w15_.size:Nat):Int)≤9223372036854775807) (ai (by (exact kix1 _ (by assumption)):0≤(1:Int)∧(1:Int)<((F97 line).1.length:Int)) (ai (by (have hz:=Qd line; have hz0:=hz (Int.toNat 0); have hz1:=hz (Int.toNat 1); have hz2:=hz (Int.toNat 2); have hs:w15_.size=1:=rfl; (try simp only [Ql] at *); omega):(((((F97 line).1.getD (Int.toNat 0) default)++w15_).size+((F97 line).1.getD (Int.toNat 1) default).size:Nat):Int)≤9223372036854775807) (ai (by (have hz:=Qd line; have hz0:=hz (Int.toNat 0); have hz1:=hz (Int.toNat 1); have hz2:=hz (Int.toNat 2); have hs:w15_.size=1:=rfl; (try simp only [Ql] at *); omega):((((((F97 line).1.getD (Int.toNat 0) default)++w15_)++((F97 line).1.getD (Int.toNat 1) default)).size+w15_.size:Nat):Int)≤9223372036854775807) (ai (by (exact Vm _ (by assumption) (by assumption)):0≤(2:Int)∧(2:Int)<((F97 line).1.length:Int)) (ai (by (have hz:=Qd line; have hz0:=hz (Int.toNat 0); have hz1:=hz (Int.toNat 1); have hz2:=hz (Int.toNat 2); have hs:w15_.size=1:=rfl; (try simp only [Ql] at *); omega):(((((((F97 line).1.getD (Int.toNat 0) default)++w15_)++((F97 line).1.getD (Int.toNat 1) default))++w15_).size+((F97 line).1.getD (Int.toNat 2) default).size:Nat):Int)≤9223372036854775807) (fiS ((((((F97 line).1.getD (Int.toNat 0) default)++w15_)++((F97 line).1.getD (Int.toNat 1) default))++w15_)++((F97 line).1.getD (Int.toNat 2) default)) (F149 line) (condF h1 (condT h4 (condF h5 (condT h6 (condF h7 (condT h8 (condT h9 rfl))))))))))))))) (fun h9=>fiS line (F149 line) (condF h1 (condT h4 (condF h5 (condT h6 (condF h7 (condT h8 (condF h9 rfl))))))))) (fun h8=>ifb (((F97 line).1.getD (Int.toNat 0) default).toList==w3_.toList) (fun h10=>ai (by (exact kix0 _ (by assumption)):0≤(0:Int)∧(0:Int)<((F97 line).1.length:Int)) (ai (by (have hz:=Qd line; have hz0:=hz (Int.toNat 0); have hz1:=hz (Int.toNat 1); have hz2:=hz (Int.toNat 2); have hs:w15_.size=1:=rfl; (try simp only [Ql] at *); omega):((((F97 line).1.getD (Int.toNat 0) default).size+w15_.size:Nat):Int)≤9223372036854775807) (ai (by (exact kix1 _ (by assumption)):0≤(1:Int)∧(1:Int)<((F97 line).1.length:Int)) (ai (by (have hz:=Qd line; have hz0:=hz (Int.toNat 0); have hz1:=hz (Int.toNat 1); have hz2:=hz (Int.toNat 2); have hs:w15_.size=1:=rfl; (try simp only [Ql] at *); omega):(((((F97 line).1.getD (Int.toNat 0) default)++w15_).size+((F97 line).1.getD (Int.toNat 1) default).size:Nat):Int)≤9223372036854775807) (ai (by (have hz:=Qd line; have hz0:=hz (Int.toNat 0); have hz1:=hz (Int.toNat 1); have hz2:=hz (Int.toNat 2); have hs:w15_.size=1:=rfl; (try simp only [Ql] at *); omega):((((((F97 line).1.getD (Int.toNat 0) default)++w15_)++((F97 line).1.getD (Int.toNat 1) default)).size+w15_.size:Nat):Int)≤9223372036854775807) (ai (by (exact Vp _ (by assumption) (by assumption)):0≤(2:Int)∧(2:Int)<((F97 line).1.length:Int)) (ai (by (have hz:=Qd line; have hz0:=hz (Int.toNat 0); have hz1:=hz (Int.toNat 1); have hz2:=hz (Int.toNat 2); have hs:w15_.size=1:=rfl; (try simp only [Ql] at *); omega):(((((((F97 line).1.getD (Int.toNat 0) default)++w15_)++((F97 line).1.getD (Int.toNat 1) default))++w15_).size+((F97 line).1.getD (Int.toNat 2) default).size:Nat):Int)≤9223372036854775807) (fiS ((((((F97 line).1.getD (Int.toNat 0) default)++w15_)++((F97 line).1.getD (Int.toNat 1) default))++w15_)++((F97 line).1.getD (Int.toNat 2) default)) (F149 line) (condF h1 (condT h4 (condF h5 (condT h6 (condF h7 (condF h8 (condT h10 rfl))))))))))))))) (fun h10=>fiS line (F149 line) (condF h1 (condT h4 (condF h5 (condT h6 (condF h7 (condF h8 (condF h10 rfl))))))))))) (fun h6=>ifb (((F97 line).1.getD (Int.toNat 0) default).toList==w7_.toList) (fun h11=>ifb (((F97 line).1.getD (Int.toNat 0) default).toList==w7_.toList) (fun h12=>ai (by (exact kix0 _ (by assumption)):0≤(0:Int)∧(0:Int)<((F97 line).1.length:Int)) (ai (by (have hz:=Qd line; have hz0:=hz (Int.toNat 0); have hz1:=hz (Int.toNat 1); have hz2:=hz (Int.toNat 2); have hs:w15_.size=1:=rfl; (try simp only [Ql] at *); omega):((((F97 line).1.getD (Int.toNat 0) default).size+w15_.size:Nat):Int)≤9223372036854775807) (ai (by (exact kix1 _ (by assumption)):0≤(1:Int)∧(1:Int)<((F97 line).1.length:Int)) (ai (by (have hz:=Qd line; have hz0:=hz (Int.toNat 0); have hz1:=hz (Int.toNat 1); have hz2:=hz (Int.toNat 2); have hs:w15_.size=1:=rfl; (try simp only [Ql] at *); omega):(((((F97 line).1.getD (Int.toNat 0) default)++w15_).size+((F97 line).1.getD (Int.toNat 1) default).size:Nat):Int)≤9223372036854775807) (fiS ((((F97 line).1.getD (Int.toNat 0) default)++w15_)++((F97 line).1.getD (Int.toNat 1) default)) (F149 line) (condF h1 (condT h4 (condF h5 (condF h6 (condT h11 (condT h12 rfl))))))))))) (fun h12=>ifb (((F97 line).1.getD (Int.toNat 0) default).toList==w9_.toList) (fun h13=>ifb (((F97 line).1.getD (Int.toNat 0) default).toList==w9_.toList) (fun h14=>ai (by (exact kix0 _ (by assumption)):0≤(0:Int)∧(0:Int)<((F97 line).1.length:Int)) (ai (by (have hz:=Qd line; have hz0:=hz (Int.toNat 0); have hz1:=hz (Int.toNat 1); have hz2:=hz (Int.toNat 2); have hs:w15_.size=1:=rfl; (try simp only [Ql] at *); omega):((((F97 line).1.getD (Int.toNat 0) default).size+w15_.size:Nat):Int)≤9223372036854775807) (ai (by (exact kix1 _ (by assumption)):0≤(1:Int)∧(1:Int)<((F97 line).1.length:Int)) (ai (by (have hz:=Qd line; have hz0:=hz (Int.toNat 0); have hz1:=hz (Int.toNat 1); have hz2:=hz (Int.toNat 2); have hs:w15_.size=1:=rfl; (try simp only [Ql] at *); omega):(((((F97 line).1.getD (Int.toNat 0) default)++w15_).size+((F97 line).1.getD (Int.toNat 1) default).size:Nat):Int)≤9223372036854775807) (ai (by (have hz:=Qd line; have hz0:=hz (Int.toNat 0); have hz1:=hz (Int.toNat 1); have hz2:=hz (Int.toNat 2); have hs:w15_.size=1:=rfl; (try simp only [Ql] at *); omega):((((((F97 line).1.getD (Int.toNat 0) default)++w15_)++((F97 line).1.getD (Int.toNat 1) default)).size+w15_.size:Nat):Int)≤9223372036854775807) (ai (by (exact Vm _ (by assumption) (by assumption)):0≤(2:Int)∧(2:Int)<((F97 line).1.length:Int)) (ai (by (have hz:=Qd line; have hz0:=hz (Int.toNat 0); have hz1:=hz (Int.toNat 1); have hz2:=hz (Int.toNat 2); have hs:w15_.size=1:=rfl; (try simp only [Ql] at *); omega):(((((((F97 line).1.getD (Int.toNat 0) default)++w15_)++((F97 line).1.getD (Int.toNat 1) default))++w15_).size+((F97 line).1.getD (Int.toNat 2) default).size:Nat):Int)≤9223372036854775807) (fiS ((((((F97 line).1.getD (Int.toNat 0) default)++w15_)++((F97 line).1.getD (Int.toNat 1) default))++w15_)++((F97 line).1.getD (Int.toNat 2) default)) (F149 line) (condF h1 (condT h4 (condF h5 (condF h6 (condT h11 (condF h12 (condT h13 (condT h14 rfl)))))))))))))))) (fun h14=>fiS line (F149 line) (condF h1 (condT h4 (condF h5 (condF h6 (condT h11 (condF h12 (condT h13 (condF h14 rfl)))))))))) (fun h13=>ifb (((F97 line).1.getD (Int.toNat 0) default).toList==w3_.toList) (fun h15=>ai (by (exact kix0 _ (by assumption)):0≤(0:Int)∧(0:Int)<((F97 line).1.length:Int)) (ai (by (have hz:=Qd line; have hz0:=hz (Int.toNat 0); have hz1:=hz (Int.toNat 1); have hz2:=hz (Int.toNat 2); have hs:w15_.size=1:=rfl; (try simp only [Ql] at *); omega):((((F97 line).1.getD (Int.toNat 0) default).size+w15_.size:Nat):Int)≤9223372036854775807) (ai (by (exact kix1 _ (by assumption)):0≤(1:Int)∧(1:Int)<((F97 line).1.length:Int)) (ai (by (have hz:=Qd line; have hz0:=hz (Int.toNat 0); have hz1:=hz (Int.toNat 1); have hz2:=hz (Int.toNat 2); have hs:w15_.size=1:=rfl; (try simp only [Ql] at *); omega):(((((F97 line).1.getD (Int.toNat 0) default)++w15_).size+((F97 line).1.getD (Int.toNat 1) default).size:Nat):Int)≤9223372036854775807) (ai (by (have hz:=Qd line; have hz0:=hz (Int.toNat 0); have hz1:=hz (Int.toNat 1); have hz2:=hz (Int.toNat 2); have hs:w15_.size=1:=rfl; (try simp only [Ql] at *); omega):((((((F97 line).1.getD (Int.toNat 0) default)++w15_)++((F97 line).1.getD (Int.toNat 1) default)).size+w15_.size:Nat):Int)≤9223372036854775807) (ai (by (exact Vp _ (by assumption) (by assumption)):0≤(2:Int)∧(2:Int)<((F97 line).1.length:Int)) (ai (by (have hz:=Qd line; have hz0:=hz (Int.toNat 0); have hz1:=hz (Int.toNat 1); have hz2:=hz (Int.toNat 2); have hs:w15_.size=1:=rfl; (try simp only [Ql] at *); omega):(((((((F97 line).1.getD (Int.toNat 0) default)++w15_)++((F97 line).1.getD (Int.toNat 1) default))++w15_).size+((F97 line).1.getD (Int.toNat 2) default).size:Nat):Int)≤9223372036854775807) (fiS ((((((F97 line).1.getD (Int.toNat 0) default)++w15_)++((F97 line).1.getD (Int.toNat 1) default))++w15_)++((F97 line).1.getD (Int.toNat 2) default)) (F149 line) (condF h1 (condT h4 (condF h5 (condF h6 (condT h11 (condF h12 (condF h13 (condT h15 rfl)))))))))))))))) (fun h15=>fiS line (F149 line) (condF h1 (condT h4 (condF h5 (condF h6 (condT h11 (condF h12 (condF h13 (condF h15 rfl)))))))))))) (fun h11=>ifb (((F97 line).1.getD (Int.toNat 0) default).toList==w6_.toList) (fun h16=>ai (by (exact kix0 _ (by assumption)):0≤(0:Int)∧(0:Int)<((F97 line).1.length:Int)) (ai (by (have hz:=Qd line; have hz0:=hz (Int.toNat 0); have hz1:=hz (Int.toNat 1); have hz2:=hz (Int.toNat 2); have hs:w15_.size=1:=rfl; (try simp only [Ql] at *); omega):((((F97 line).1.getD (Int.toNat 0) default).size+w15_.size:Nat):Int)≤9223372036854775807) (ai (by (exact kix1 _ (by assumption)):0≤(1:Int)∧(1:Int)<((F97 line).1.length:Int)) (ai (by (have hz:=Qd line; have hz0:=hz (Int.toNat 0); have hz1:=hz (Int.toNat 1); have hz2:=hz (Int.toNat 2); have hs:w15_.size=1:=rfl; (try simp only [Ql] at *); omega):(((((F97 line).1.getD (Int.toNat 0) default)++w15_).size+((F97 line).1.getD (Int.toNat 1) default).size:Nat):Int)≤9223372036854775807) (fiS ((((F97 line).1.getD (Int.toNat 0) default)++w15_)++((F97 line).1.getD (Int.toNat 1) default)) (F149 line) (condF h1 (condT h4 (condF h5 (condF h6 (condF h11 (condT h16 rfl))))))))))) (fun h16=>ifb (((F97 line).1.getD (Int.toNat 0) default).toList==w9_.toList) (fun h17=>ifb (((F97 line).1.getD (Int.toNat 0) default).toList==w9_.toList) (fun h18=>ai (by (exact kix0 _ (by assumption)):0≤(0:Int)∧(0:Int)<((F97 line).1.length:Int)) (ai (by (have hz:=Qd line; have hz0:=hz (Int.toNat 0); have hz1:=hz (Int.toNat 1); have hz2:=hz (Int.toNat 2); have hs:w15_.size=1:=rfl; (try simp only [Ql] at *); omega):((((F97 line).1.getD (Int.toNat 0) default).size+w15_.size:Nat):Int)≤9223372036854775807) (ai (by (exact kix1 _ (by assumption)):0≤(1:Int)∧(1:Int)<((F97 line).1.length:Int)) (ai (by (have hz:=Qd line; have hz0:=hz (Int.toNat 0); have hz1:=hz (Int.toNat 1); have hz2:=hz (Int.toNat 2); have hs:w15_.size=1:=rfl; (try simp only [Ql] at *); omega):(((((F97 line).1.getD (Int.toNat 0) default)++w15_).size+((F97 line).1.getD (Int.toNat 1) default).size:Nat):Int)≤9223372036854775807) (ai (by (have hz:=Qd line; have hz0:=hz (Int.toNat 0); have hz1:=hz (Int.toNat 1); have hz2:=hz (Int.toNat 2); have hs:w15_.size=1:=rfl; (try simp only [Ql] at *); omega):((((((F97 line).1.getD (Int.toNat 0) default)++w15_)++((F97 line).1.getD (Int.toNat 1) default)).size+w15_.size:Nat):Int)≤9223372036854775807) (ai (by (exact Vm _ (by assumption) (by assumption)):0≤(2:Int)∧(2:Int)<((F97 line).1.length:Int)) (ai (by (have hz:=Qd line; have hz0:=hz (Int.toNat 0); have hz1:=hz (Int.toNat 1); have hz2:=hz (Int.toNat 2); have hs:w15_.size=1:=rfl; (try simp only [Ql] at *); omega):(((((((F97 line).1.getD (Int.toNat 0) default)++w15_)++((F97 line).1.getD (Int.toNat 1) default))++w15_).size+((F97 line).1.getD (Int.toNat 2) default).size:Nat):Int)≤9223372036854775807) (fiS ((((((F97 line).1.getD (Int.toNat 0) default)++w15_)++((F97 line).1.getD (Int.toNat 1) default))++w15_)++((F97 line).1.getD (Int.toNat 2) default)) (F149 line) (condF h1 (condT h4 (condF h5 (condF h6 (condF h11 (condF h16 (condT h17 (condT h18 rfl)))))))))))))))) (fun h18=>fiS line (F149 line) (condF h1 (condT h4 (condF h5 (condF h6 (condF h11 (condF h16 (condT h17 (condF h18 rfl)))))))))) (fun h17=>ifb (((F97 line).1.getD (Int.toNat 0) default).toList==w3_.toList) (fun h19=>ai (by (exact kix0 _ (by assumption)):0≤(0:Int)∧(0:Int)<((F97 line).1.length:Int)) (ai (by (have hz:=Qd line; have hz0:=hz (Int.toNat 0); have hz1:=hz (Int.toNat 1); have hz2:=hz (Int.toNat 2); have hs:w15_.size=1:=rfl; (try simp only [Ql] at *); omega):((((F97 line).1.getD (Int.toNat 0) default).size+w15_.size:Nat):Int)≤9223372036854775807) (ai (by (exact kix1 _ (by assumption)):0≤(1:Int)∧(1:Int)<((F97 line).1.length:Int)) (ai (by (have hz:=Qd line; have hz0:=hz (Int.toNat 0); have hz1:=hz (Int.toNat 1); have hz2:=hz (Int.toNat 2); have hs:w15_.size=1:=rfl; (try simp only [Ql] at *); omega):(((((F97 line).1.getD (Int.toNat 0) default)++w15_).size+((F97 line).1.getD (Int.toNat 1) default).size:Nat):Int)≤9223372036854775807) (ai (by (have hz:=Qd line; have hz0:=hz (Int.toNat 0); have hz1:=hz (Int.toNat 1); have hz2:=hz (Int.toNat 2); have hs:w15_.size=1:=rfl; (try simp only [Ql] at *); omega):((((((F97 line).1.getD (Int.toNat 0) default)++w15_)++((F97 line).1.getD (Int.toNat 1) default)).size+w15_.size:Nat):Int)≤9223372036854775807) (ai (by (exact Vp _ (by assumption) (by assumption)):0≤(2:Int)∧(2:Int)<((F97 line).1.length:Int)) (ai (by (have hz:=Qd line; have hz0:=hz (Int.toNat 0); have hz1:=hz (Int.toNat 1); have hz2:=hz (Int.toNat 2); have hs:w15_.size=1:=rfl; (try simp only [Ql] at *); omega):(((((((F97 line).1.getD (Int.toNat 0) default)++w15_)++((F97 line).1.getD (Int.toNat 1) default))++w15_).size+((F97 line).1.getD (Int.toNat 2) default).size:Nat):Int)≤9223372036854775807) (fiS ((((((F97 line).1.getD (Int.toNat 0) default)++w15_)++((F97 line).1.getD (Int.toNat 1) default))++w15_)++((F97 line).1.getD (Int.toNat 2) default)) (F149 line) (condF h1 (condT h4 (condF h5 (condF h6 (condF h11 (condF h16 (condF h17 (condT h19 rfl)))))))))))))))) (fun h19=>fiS line (F149 line) (condF h1 (condT h4 (condF h5 (condF h6 (condF h11 (condF h16 (condF h17 (condF h19 rfl))))))))))))))) (fun h4=>ifb (((F97 line).1.getD (Int.toNat 0) default).toList==w5_.toList) (fun h20=>ai (by (exact kix0 _ (by assumption)):0≤(0:Int)∧(0:Int)<((F97 line).1.length:Int)) (fiS ((F97 line).1.getD (Int.toNat 0) default) (F149 line) (condF h1 (condF h4 (condT h20 rfl))))) (fun h20=>ifb (((F97 line).1.getD (Int.toNat 0) default).toList==w10_.toList) (fun h21=>ifb (((F97 line).1.getD (Int.toNat 0) default).toList==w10_.toList) (fun h22=>ai (by (exact kix0 _ (by assumption)):0≤(0:Int)∧(0:Int)<((F97 line).1.length:Int)) (ai (by (have hz:=Qd line; have hz0:=hz (Int.toNat 0); have hz1:=hz (Int.toNat 1); have hz2:=hz (Int.toNat 2); have hs:w15_.size=1:=rfl; (try simp only [Ql] at *); omega):((((F97 line).1.getD (Int.toNat 0) default).size+w15_.size:Nat):Int)≤9223372036854775807) (ai (by (exact kix1 _ (by assumption)):0≤(1:Int)∧(1:Int)<((F97 line).1.length:Int)) (ai (by (have hz:=Qd line; have hz0:=hz (Int.toNat 0); have hz1:=hz (Int.toNat 1); have hz2:=hz (Int.toNat 2); have hs:w15_.size=1:=rfl; (try simp only [Ql] at *); omega):(((((F97 line).1.getD (Int.toNat 0) default)++w15_).size+((F97 line).1.getD (Int.toNat 1) default).size:Nat):Int)≤9223372036854775807) (fiS ((((F97 line).1.getD (Int.toNat 0) default)++w15_)++((F97 line).1.getD (Int.toNat 1) default)) (F149 line) (condF h1 (condF h4 (condF h20 (condT h21 (condT h22 rfl)))))))))) (fun h22=>ifb (((F97 line).1.getD (Int.toNat 0) default).toList==w9_.toList) (fun h23=>ifb (((F97 line).1.getD (Int.toNat 0) default).toList==w9_.toList) (fun h24=>ai (by (exact kix0 _ (by assumption)):0≤(0:Int)∧(0:Int)<((F97 line).1.length:Int)) (ai (by (have hz:=Qd line; have hz0:=hz (Int.toNat 0); have hz1:=hz (Int.toNat 1); have hz2:=hz (Int.toNat 2); have hs:w15_.size=1:=rfl; (try simp only [Ql] at *); omega):((((F97 line).1.getD (Int.toNat 0) default).size+w15_.size:Nat):Int)≤9223372036854775807) (ai (by (exact kix1 _ (by assumption)):0≤(1:Int)∧(1:Int)<((F97 line).1.length:Int)) (ai (by (have hz:=Qd line; have hz0:=hz (Int.toNat 0); have hz1:=hz (Int.toNat 1); have hz2:=hz (Int.toNat 2); have hs:w15_.size=1:=rfl; (try simp only [Ql] at *); omega):(((((F97 line).1.getD (Int.toNat 0) default)++w15_).size+((F97 line).1.getD (Int.toNat 1) default).size:Nat):Int)≤9223372036854775807) (ai (by (have hz:=Qd line; have hz0:=hz (Int.toNat 0); have hz1:=hz (Int.toNat 1); have hz2:=hz (Int.toNat 2); have hs:w15_.size=1:=rfl; (try simp only [Ql] at *); omega):((((((F97 line).1.getD (Int.toNat 0) default)++w15_)++((F97 line).1.getD (Int.toNat 1) default)).size+w15_.size:Nat):Int)≤9223372036854775807) (ai (by (exact Vm _ (by assumption) (by assumption)):0≤(2:Int)∧(2:Int)<((F97 line).1.length:Int)) (ai (by (have hz:=Qd line; have hz0:=hz (Int.toNat 0); have hz1:=hz (Int.toNat 1); have hz2:=hz (Int.toNat 2); have hs:w15_.size=1:=rfl; (try simp only [Ql] at *); omega):(((((((F97 line).1.getD (Int.toNat 0) default)++w15_)++((F97 line).1.getD (Int.toNat 1) default))++w15_).size+((F97 line).1.getD (Int.toNat 2) default).size:Nat):Int)≤9223372036854775807) (fiS ((((((F97 line).1.getD (Int.toNat 0) default)++w15_)++((F97 line).1.getD (Int.toNat 1) default))++w15_)++((F97 line).1.getD (Int.toNat 2) default)) (F149 line) (condF h1 (condF h4 (condF h20 (condT h21 (condF h22 (condT h23 (condT h24 rfl))))))))))))))) (fun h24=>fiS line (F149 line) (condF h1 (condF h4 (condF h20 (condT h21 (condF h22 (condT h23 (condF h24 rfl))))))))) (fun h23=>ifb (((F97 line).1.getD (Int.toNat 0) default).toList==w3_.toList) (fun h25=>ai (by (exact kix0 _ (by assumption)):0≤(0:Int)∧(0:Int)<((F97 line).1.length:Int)) (ai (by (have hz:=Qd line; have hz0:=hz (Int.toNat 0); have hz1:=hz (Int.toNat 1); have hz2:=hz (Int.toNat 2); have hs:w15_.size=1:=rfl; (try simp only [Ql] at *); omega):((((F97 line).1.getD (Int.toNat 0) default).size+w15_.size:Nat):Int)≤9223372036854775807) (ai (by (exact kix1 _ (by assumption)):0≤(1:Int)∧(1:Int)<((F97 line).1.length:Int)) (ai (by (have hz:=Qd line; have hz0:=hz (Int.toNat 0); have hz1:=hz (Int.toNat 1); have hz2:=hz (Int.toNat 2); have hs:w15_.size=1:=rfl; (try simp only [Ql] at *); omega):(((((F97 line).1.getD (Int.toNat 0) default)++w15_).size+((F97 line).1.getD (Int.toNat 1) default).size:Nat):Int)≤9223372036854775807) (ai (by (have hz:=Qd line; have hz0:=hz (Int.toNat 0); have hz1:=hz (Int.toNat 1); have hz2:=hz (Int.toNat 2); have hs:w15_.size=1:=rfl; (try simp only [Ql] at *); omega):((((((F97 line).1.getD (Int.toNat 0) default)++w15_)++((F97 line).1.getD (Int.toNat 1) default)).size+w15_.size:Nat):Int)≤9223372036854775807) (ai (by (exact Vp _ (by assumption) (by assumption)):0≤(2:Int)∧(2:Int)<((F97 line).1.length:Int)) (ai (by (have hz:=Qd line; have hz0:=hz (Int.toNat 0); have hz1:=hz (Int.toNat 1); have hz2:=hz (Int.toNat 2); have hs:w15_.size=1:=rfl; (try simp only [Ql] at *); omega):(((((((F97 line).1.getD (Int.toNat 0) default)++w15_)++((F97 line).1.getD (Int.toNat 1) default))++w15_).size+((F97 line).1.getD (Int.toNat 2) default).size:Nat):Int)≤9223372036854775807) (fiS ((((((F97 line).1.getD (Int.toNat 0) default)++w15_)++((F97 line).1.getD (Int.toNat 1) default))++w15_)++((F97 line).1.getD (Int.toNat 2) default)) (F149 line) (condF h1 (condF h4 (condF h20 (condT h21 (condF h22 (condF h23 (condT h25 rfl))))))))))))))) (fun h25=>fiS line (F149 line) (condF h1 (condF h4 (condF h20 (condT h21 (condF h22 (condF h23 (condF h25 rfl))))))))))) (fun h21=>ifb (((F97 line).1.getD (Int.toNat 0) default).toList==w7_.toList) (fun h26=>ifb (((F97 line).1.getD (Int.toNat 0) default).toList==w7_.toList) (fun h27=>ai (by (exact kix0 _ (by assumption)):0≤(0:Int)∧(0:Int)<((F97 line).1.length:Int)) (ai (by (have hz:=Qd line; have hz0:=hz (Int.toNat 0); have hz1:=hz (Int.toNat 1); have hz2:=hz (Int.toNat 2); have hs:w15_.size=1:=rfl; (try simp only [Ql] at *); omega):((((F97 line).1.getD (Int.toNat 0) default).size+w15_.size:Nat):Int)≤9223372036854775807) (ai (by (exact kix1 _ (by assumption)):0≤(1:Int)∧(1:Int)<((F97 line).1.length:Int)) (ai (by (have hz:=Qd line; have hz0:=hz (Int.toNat 0); have hz1:=hz (Int.toNat 1); have hz2:=hz (Int.toNat 2); have hs:w15_.size=1:=rfl; (try simp only [Ql] at *); omega):(((((F97 line).1.getD (Int.toNat 0) default)++w15_).size+((F97 line).1.getD (Int.toNat 1) default).size:Nat):Int)≤9223372036854775807) (fiS ((((F97 line).1.getD (Int.toNat 0) default)++w15_)++((F97 line).1.getD (Int.toNat 1) default)) (F149 line) (condF h1 (condF h4 (condF h20 (condF h21 (condT h26 (condT h27 rfl))))))))))) (fun h27=>ifb (((F97 line).1.getD (Int.toNat 0) default).toList==w9_.toList) (fun h28=>ifb (((F97 line).1.getD (Int.toNat 0) default).toList==w9_.toList) (fun h29=>ai (by (exact kix0 _ (by assumption)):0≤(0:Int)∧(0:Int)<((F97 line).1.length:Int)) (ai (by (have hz:=Qd line; have hz0:=hz (Int.toNat 0); have hz1:=hz (Int.toNat 1); have hz2:=hz (Int.toNat 2); have hs:w15_.size=1:=rfl; (try simp only [Ql] at *); omega):((((F97 line).1.getD (Int.toNat 0) default).size+w15_.size:Nat):Int)≤9223372036854775807) (ai (by (exact kix1 _ (by assumption)):0≤(1:Int)∧(1:Int)<((F97 line).1.length:Int)) (ai (by (have hz:=Qd line; have hz0:=hz (Int.toNat 0); have hz1:=hz (Int.toNat 1); have hz2:=hz (Int.toNat 2); have hs:w15_.size=1:=rfl; (try simp only [Ql] at *); omega):(((((F97 line).1.getD (Int.toNat 0) default)++w15_).size+((F97 line).1.getD (Int.toNat 1) default).size:Nat):Int)≤9223372036854775807) (ai (by (have hz:=Qd line; have hz0:=hz (Int.toNat 0); have hz1:=hz (Int.toNat 1); have hz2:=hz (Int.toNat 2); have hs:w15_.size=1:=rfl; (try simp only [Ql] at *); omega):((((((F97 line).1.getD (Int.toNat 0) default)++w15_)++((F97 line).1.getD (Int.toNat 1) default)).size+w15_.size:Nat):Int)≤9223372036854775807) (ai (by (exact Vm _ (by assumption) (by assumption)):0≤(2:Int)∧(2:Int)<((F97 line).1.length:Int)) (ai (by (have hz:=Qd line; have hz0:=hz (Int.toNat 0); have hz1:=hz (Int.toNat 1); have hz2:=hz (Int.toNat 2); have hs:w15_.size=1:=rfl; (try simp only [Ql] at *); omega):(((((((F97 line).1.getD (Int.toNat 0) default)++w15_)++((F97 line).1.getD (Int.toNat 1) default))++w15_).size+((F97 line).1.getD (Int.toNat 2) default).size:Nat):Int)≤9223372036854775807) (fiS ((((((F97 line).1.getD (Int.toNat 0) default)++w15_)++((F97 line).1.getD (Int.toNat 1) default))++w15_)++((F97 line).1.getD (Int.toNat 2) default)) (F149 line) (condF h1 (condF h4 (condF h20 (condF h21 (condT h26 (condF h27 (condT h28 (condT h29 rfl)))))))))))))))) (fun h29=>fiS line (F149 line) (condF h1 (condF h4 (condF h20 (condF h21 (condT h26 (condF h27 (condT h28 (condF h29 rfl)))))))))) (fun h28=>ifb (((F97 line).1.getD (Int.toNat 0) default).toList==w3_.toList) (fun h30=>ai (by (exact kix0 _ (by assumption)):0≤(0:Int)∧(0:Int)<((F97 line).1.length:Int)) (ai (by (have hz:=Qd line; have hz0:=hz (Int.toNat 0); have hz1:=hz (Int.toNat 1); have hz2:=hz (Int.toNat 2); have hs:w15_.size=1:=rfl; (try simp only [Ql] at *); omega):((((F97 line).1.getD (Int.toNat 0) default).size+w15_.size:Nat):Int)≤9223372036854775807) (ai (by (exact kix1 _ (by assumption)):0≤(1:Int)∧(1:Int)<((F97 line).1.length:Int)) (ai (by (have hz:=Qd line; have hz0:=hz (Int.toNat 0); have hz1:=hz (Int.toNat 1); have hz2:=hz (Int.toNat 2); have hs:w15_.size=1:=rfl; (try simp only [Ql] at *); omega):(((((F97 line).1.getD (Int.toNat 0) default)++w15_).size+((F97 line).1.getD (Int.toNat 1) default).size:Nat):Int)≤9223372036854775807) (ai (by (have hz:=Qd line; have hz0:=hz (Int.toNat 0); have hz1:=hz (Int.toNat 1); have hz2:=hz (Int.toNat 2); have hs:w15_.size=1:=rfl; (try simp only [Ql] at *); omega):((((((F97 line).1.getD (Int.toNat 0) default)++w15_)++((F97 line).1.getD (Int.toNat 1) default)).size+w15_.size:Nat):Int)≤9223372036854775807) (ai (by (exact Vp _ (by assumption) (by assumption)):0≤(2:Int)∧(2:Int)<((F97 line).1.length:Int)) (ai (by (have hz:=Qd line; have hz0:=hz (Int.toNat 0); have hz1:=hz (Int.toNat 1); have hz2:=hz (Int.toNat 2); have hs:w15_.size=1:=rfl; (try simp only [Ql] at *); omega):(((((((F97 line).1.getD (Int.toNat 0) default)++w15_)++((F97 line).1.getD (Int.toNat 1) default))++w15_).size+((F97 line).1.getD (Int.toNat 2) default).size:Nat):Int)≤9223372036854775807) (fiS ((((((F97 line).1.getD (Int.toNat 0) default)++w15_)++((F97 line).1.getD (Int.toNat 1) default))++w15_)++((F97 line).1.getD (Int.toNat 2) default)) (F149 line) (condF h1 (condF h4 (condF h20 (condF h21 (condT h26 (condF h27 (condF h28 (condT h30 rfl)))))))))))))))) (fun h30=>fiS line (F149 line) (condF h1 (condF h4 (condF h20 (condF h21 (condT h26 (condF h27 (condF h28 (condF h30 rfl)))))))))))) (fun h26=>ifb (((F97 line).1.getD (Int.toNat 0) default).toList==w6_.toList) (fun h31=>ai (by (exact kix0 _ (by assumption)):0≤(0:Int)∧(0:Int)<((F97 line).1.length:Int)) (ai (by (have hz:=Qd line; have hz0:=hz (Int.toNat 0); have hz1:=hz (Int.toNat 1); have hz2:=hz (Int.toNat 2); have hs:w15_.size=1:=rfl; (try simp only [Ql] at *); omega):((((F97 line).1.getD (Int.toNat 0) default).size+w15_.size:Nat):Int)≤9223372036854775807) (ai (by (exact kix1 _ (by assumption)):0≤(1:Int)∧(1:Int)<((F97 line).1.length:Int)) (ai (by (have hz:=Qd line; have hz0:=hz (Int.toNat 0); have hz1:=hz (Int.toNat 1); have hz2:=hz (Int.toNat 2); have hs:w15_.size=1:=rfl; (try simp only [Ql] at *); omega):(((((F97 line).1.getD (Int.toNat 0) default)++w15_).size+((F97 line).1.getD (Int.toNat 1) default).size:Nat):Int)≤9223372036854775807) (fiS ((((F97 line).1.getD (Int.toNat 0) default)++w15_)++((F97 line).1.getD (Int.toNat 1) default)) (F149 line) (condF h1 (condF h4 (condF h20 (condF h21 (condF h26 (condT h31 rfl))))))))))) (fun h31=>ifb (((F97 line).1.getD (Int.toNat 0) default).toList==w9_.toList) (fun h32=>ifb (((F97 line).1.getD (Int.toNat 0) default).toList==w9_.toList) (fun h33=>ai (by (exact kix0 _ (by assumption)):0≤(0:Int)∧(0:Int)<((F97 line).1.length:Int)) (ai (by (have hz:=Qd line; have hz0:=hz (Int.toNat 0); have hz1:=hz (Int.toNat 1); have hz2:=hz (Int.toNat 2); have hs:w15_.size=1:=rfl; (try simp only [Ql] at *); omega):((((F97 line).1.getD (Int.toNat 0) default).size+w15_.size:Nat):Int)≤9223372036854775807) (ai (by (exact kix1 _ (by assumption)):0≤(1:Int)∧(1:Int)<((F97 line).1.length:Int)) (ai (by (have hz:=Qd line; have hz0:=hz (Int.toNat 0); have hz1:=hz (Int.toNat 1); have hz2:=hz (Int.toNat 2); have hs:w15_.size=1:=rfl; (try simp only [Ql] at *); omega):(((((F97 line).1.getD (Int.toNat 0) default)++w15_).size+((F97 line).1.getD (Int.toNat 1) default).size:Nat):Int)≤9223372036854775807) (ai (by (have hz:=Qd line; have hz0:=hz (Int.toNat 0); have hz1:=hz (Int.toNat 1); have hz2:=hz (Int.toNat 2); have hs:w15_.size=1:=rfl; (try simp only [Ql] at *); omega):((((((F97 line).1.getD (Int.toNat 0) default)++w15_)++((F97 line).1.getD (Int.toNat 1) default)).size+w15_.size:Nat):Int)≤9223372036854775807) (ai (by (exact Vm _ (by assumption) (by assumption)):0≤(2:Int)∧(2:Int)<((F97 line).1.length:Int)) (ai (by (have hz:=Qd line; have hz0:=hz (Int.toNat 0); have hz1:=hz (Int.toNat 1); have hz2:=hz (Int.toNat 2); have hs:w15_.size=1:=rfl; (try simp only [Ql] at *); omega):(((((((F97 line).1.getD (Int.toNat 0) default)++w15_)++((F97 line).1.getD (Int.toNat 1) default))++w15_).size+((F97 line).1.getD (Int.toNat 2) default).size:Nat):Int)≤9223372036854775807) (fiS ((((((F97 line).1.getD (Int.toNat 0) default)++w15_)++((F97 line).1.getD (Int.toNat 1) default))++w15_)++((F97 line).1.getD (Int.toNat 2) default)) (F149 line) (condF h1 (condF h4 (condF h20 (condF h21 (condF h26 (condF h31 (condT h32 (condT h33 rfl)))))))))))))))) (fun h33=>fiS line (F149 line) (condF h1 (condF h4 (condF h20 (condF h21 (condF h26 (condF h31 (condT h32 (condF h33 rfl)))))))))) (fun h32=>ifb (((F97 line).1.getD (Int.toNat 0) default).toList==w3_.toList) (fun h34=>ai (by (exact kix0 _ (by assumption)):0≤(0:Int)∧(0:Int)<((F97 line).1.length:Int)) (ai (by (have hz:=Qd line; have hz0:=hz (Int.toNat 0); have hz1:=hz (Int.toNat 1); have hz2:=hz (Int.toNat 2); have hs:w15_.size=1:=rfl; (try simp only [Ql] at *); omega):((((F97 line).1.getD (Int.toNat 0) default).size+w15_.size:Nat):Int)≤9223372036854775807) (ai (by (exact kix1 _ (by assumption)):0≤(1:Int)∧(1:Int)<((F97 line).1.length:Int)) (ai (by (have hz:=Qd line; have hz0:=hz (Int.toNat 0); have hz1:=hz (Int.toNat 1); have hz2:=hz (Int.toNat 2); have hs:w15_.size=1:=rfl; (try simp only [Ql] at *); omega):(((((F97 line).1.getD (Int.toNat 0) default)++w15_).size+((F97 line).1.getD (Int.toNat 1) default).size:Nat):Int)≤9223372036854775807) (ai (by (have hz:=Qd line; have hz0:=hz (Int.toNat 0); have hz1:=hz (Int.toNat 1); have hz2:=hz (Int.toNat 2); have hs:w15_.size=1:=rfl; (try simp only [Ql] at *); omega):((((((F97 line).1.getD (Int.toNat 0) default)++w15_)++((F97 line).1.getD (Int.toNat 1) default)).size+w15_.size:Nat):Int)≤9223372036854775807) (ai (by (exact Vp _ (by assumption) (by assumption)):0≤(2:Int)∧(2:Int)<((F97 line).1.length:Int)) (ai (by (have hz:=Qd line; have hz0:=hz (Int.toNat 0); have hz1:=hz (Int.toNat 1); have hz2:=hz (Int.toNat 2); have hs:w15_.size=1:=rfl; (try simp only [Ql] at *); omega):(((((((F97 line).1.getD (Int.toNat 0) default)++w15_)++((F97 line).1.getD (Int.toNat 1) default))++w15_).size+((F97 line).1.getD (Int.toNat 2) default).size:Nat):Int)≤9223372036854775807) (fiS ((((((F97 line).1.getD (Int.toNat 0) default)++w15_)++((F97 line).1.getD (Int.toNat 1) default))++w15_)++((F97 line).1.getD (Int.toNat 2) default)) (F149 line) (condF h1 (condF h4 (condF h20 (condF h21 (condF h26 (condF h31 (condF h32 (condT h34 rfl)))))))))))))))) (fun h34=>fiS line (F149 line) (condF h1 (condF h4 (condF h20 (condF h21 (condF h26 (condF h31 (condF h32 (condF h34 rfl)))))))))))))))))))) (by kernel_rfl)
theorem join1 (a sp:ByteArray):Yy [a] sp=a:=Xj (by show Lib.join _ _=_; exact Lib.join_one _ _)
theorem Lg (ws:List ByteArray) (sp:ByteArray):(Yy ws sp).data.toList=Lib.join (ws.map (·.data.toList)) sp.data.toList:=rfl
theorem Qzv (a b sp:ByteArray):Yy [a,b] sp=(a++sp)++b:=Xj (by
 rw [Lg,List.map_cons,Lib.join_cons]
 simp [Lib.joinTail,ByteArray.data_append,Array.toList_append,List.append_assoc])
theorem join3 (a b c sp:ByteArray):Yy [a,b,c] sp=(((a++sp)++b)++sp)++c:=Xj (by
 rw [Lg,List.map_cons,Lib.join_cons]
 simp [Lib.joinTail,ByteArray.data_append,Array.toList_append,List.append_assoc])
theorem Qkt (w:List ByteArray) (h:1≤w.length):w.take 1=[w.getD 0 default]:=by
 match w,h with
 | a :: _,_=>rfl
theorem Qbs (w:List ByteArray) (h:2≤w.length):w.take 2=[w.getD 0 default,w.getD 1 default]:=by
 match w,h with
 | a :: b :: _,_=>rfl
theorem Qci (w:List ByteArray) (h:3≤w.length):w.take 3=[w.getD 0 default,w.getD 1 default,w.getD 2 default]:=by
 match w,h with
 | a :: b :: c :: _,_=>rfl
theorem Uai (line:ByteArray) (h:F182 line=true):F149 line=Yy ((F97 line).1.take (keyN (((F97 line).1.getD 0 default).data.toList)).toNat) (⟨#[32]⟩:ByteArray):=by
 have hk:=Hg line h
 have hj:=hk.joins
 unfold F149
 have e0:(F97 line).1.getD (Int.toNat 0) default=(F97 line).1.getD 0 default:=rfl
 have e1:(F97 line).1.getD (Int.toNat 1) default=(F97 line).1.getD 1 default:=rfl
 have e2:(F97 line).1.getD (Int.toNat 2) default=(F97 line).1.getD 2 default:=rfl
 simp only [h,Bool.not_true,cond_false,e0,e1,e2,blit]
 have hf:=hk.form
 generalize (F97 line).1=w at hf hj
 rcases hf with hf | hf | hf | hf | hf | hf | hf | hf
 ·have h0:=hf.1
  have hn:keyN (w.getD 0 default).data.toList=1:=by rw [h0]; decide
  have hl:2≤w.length:=by unfold Qfb at hf; omega
  rw [hn,show ((1:Int).toNat)=1 from rfl]
  simp only [h0,show (([104,111,115,116]:List UInt8)==([104,111,115,116]:List UInt8))=true from by decide ,show (([104,111,115,116]:List UInt8)==([117,115,101,114]:List UInt8))=false from by decide ,show (([104,111,115,116]:List UInt8)==([112,111,114,116]:List UInt8))=false from by decide ,show (([104,111,115,116]:List UInt8)==([114,117,108,101]:List UInt8))=false from by decide ,show (([104,111,115,116]:List UInt8)==([114,111,117,116,101]:List UInt8))=false from by decide ,show (([104,111,115,116]:List UInt8)==([112,101,101,114]:List UInt8))=false from by decide ,show (([104,111,115,116]:List UInt8)==([110,97,116]:List UInt8))=false from by decide ,show (([104,111,115,116]:List UInt8)==([100,111,111,114]:List UInt8))=false from by decide,cond_true,cond_false]
  rw [Qkt w (by omega),join1]
 ·have h0:=hf.1
  have hn:keyN (w.getD 0 default).data.toList=2:=by rw [h0]; decide
  have hl:2≤w.length:=by unfold Wq at hf; omega
  rw [hn,show ((2:Int).toNat)=2 from rfl]
  simp only [h0,show (([117,115,101,114]:List UInt8)==([104,111,115,116]:List UInt8))=false from by decide ,show (([117,115,101,114]:List UInt8)==([117,115,101,114]:List UInt8))=true from by decide ,show (([117,115,101,114]:List UInt8)==([112,111,114,116]:List UInt8))=false from by decide ,show (([117,115,101,114]:List UInt8)==([114,117,108,101]:List UInt8))=false from by decide ,show (([117,115,101,114]:List UInt8)==([114,111,117,116,101]:List UInt8))=false from by decide ,show (([117,115,101,114]:List UInt8)==([112,101,101,114]:List UInt8))=false from by decide ,show (([117,115,101,114]:List UInt8)==([110,97,116]:List UInt8))=false from by decide ,show (([117,115,101,114]:List UInt8)==([100,111,111,114]:List UInt8))=false from by decide,cond_true,cond_false]
  rw [Qbs w (by omega),Qzv]
 ·have h0:=hf.1
  have hn:keyN (w.getD 0 default).data.toList=2:=by rw [h0]; decide
  have hl:2≤w.length:=by unfold Jm at hf; omega
  rw [hn,show ((2:Int).toNat)=2 from rfl]
  simp only [h0,show (([112,111,114,116]:List UInt8)==([104,111,115,116]:List UInt8))=false from by decide ,show (([112,111,114,116]:List UInt8)==([117,115,101,114]:List UInt8))=false from by decide ,show (([112,111,114,116]:List UInt8)==([112,111,114,116]:List UInt8))=true from by decide ,show (([112,111,114,116]:List UInt8)==([114,117,108,101]:List UInt8))=false from by decide ,show (([112,111,114,116]:List UInt8)==([114,111,117,116,101]:List UInt8))=false from by decide ,show (([112,111,114,116]:List UInt8)==([112,101,101,114]:List UInt8))=false from by decide ,show (([112,111,114,116]:List UInt8)==([110,97,116]:List UInt8))=false from by decide ,show (([112,111,114,116]:List UInt8)==([100,111,111,114]:List UInt8))=false from by decide,cond_true,cond_false]
  rw [Qbs w (by omega),Qzv]
 ·have h0:=hf.1
  have hn:keyN (w.getD 0 default).data.toList=3:=by rw [h0]; decide
  have hl:3≤w.length:=by unfold Wb at hf; omega
  rw [hn,show ((3:Int).toNat)=3 from rfl]
  simp only [h0,show (([114,117,108,101]:List UInt8)==([104,111,115,116]:List UInt8))=false from by decide ,show (([114,117,108,101]:List UInt8)==([117,115,101,114]:List UInt8))=false from by decide ,show (([114,117,108,101]:List UInt8)==([112,111,114,116]:List UInt8))=false from by decide ,show (([114,117,108,101]:List UInt8)==([114,117,108,101]:List UInt8))=true from by decide ,show (([114,117,108,101]:List UInt8)==([114,111,117,116,101]:List UInt8))=false from by decide ,show (([114,117,108,101]:List UInt8)==([112,101,101,114]:List UInt8))=false from by decide ,show (([114,117,108,101]:List UInt8)==([110,97,116]:List UInt8))=false from by decide ,show (([114,117,108,101]:List UInt8)==([100,111,111,114]:List UInt8))=false from by decide,cond_true,cond_false]
  rw [Qci w (by omega),join3]
 ·have h0:=hf.1
  have hn:keyN (w.getD 0 default).data.toList=3:=by rw [h0]; decide
  have hl:3≤w.length:=by unfold Kg at hf; omega
  rw [hn,show ((3:Int).toNat)=3 from rfl]
  simp only [h0,show (([114,111,117,116,101]:List UInt8)==([104,111,115,116]:List UInt8))=false from by decide ,show (([114,111,117,116,101]:List UInt8)==([117,115,101,114]:List UInt8))=false from by decide ,show (([114,111,117,116,101]:List UInt8)==([112,111,114,116]:List UInt8))=false from by decide ,show (([114,111,117,116,101]:List UInt8)==([114,117,108,101]:List UInt8))=false from by decide ,show (([114,111,117,116,101]:List UInt8)==([114,111,117,116,101]:List UInt8))=true from by decide ,show (([114,111,117,116,101]:List UInt8)==([112,101,101,114]:List UInt8))=false from by decide ,show (([114,111,117,116,101]:List UInt8)==([110,97,116]:List UInt8))=false from by decide ,show (([114,111,117,116,101]:List UInt8)==([100,111,111,114]:List UInt8))=false from by decide,cond_true,cond_false]
  rw [List.take_of_length_le (by unfold Kg at hf; omega)]
  exact hj.symm
 ·have h0:=hf.1
  have hn:keyN (w.getD 0 default).data.toList=2:=by rw [h0]; decide
  have hl:2≤w.length:=by unfold Nt at hf; omega
  rw [hn,show ((2:Int).toNat)=2 from rfl]
  simp only [h0,show (([112,101,101,114]:List UInt8)==([104,111,115,116]:List UInt8))=false from by decide ,show (([112,101,101,114]:List UInt8)==([117,115,101,114]:List UInt8))=false from by decide ,show (([112,101,101,114]:List UInt8)==([112,111,114,116]:List UInt8))=false from by decide ,show (([112,101,101,114]:List UInt8)==([114,117,108,101]:List UInt8))=false from by decide ,show (([112,101,101,114]:List UInt8)==([114,111,117,116,101]:List UInt8))=false from by decide ,show (([112,101,101,114]:List UInt8)==([112,101,101,114]:List UInt8))=true from by decide ,show (([112,101,101,114]:List UInt8)==([110,97,116]:List UInt8))=false from by decide ,show (([112,101,101,114]:List UInt8)==([100,111,111,114]:List UInt8))=false from by decide,cond_true,cond_false]
  rw [Qbs w (by omega),Qzv]
 ·have h0:=hf.1
  have hn:keyN (w.getD 0 default).data.toList=1:=by rw [h0]; decide
  have hl:2≤w.length:=by unfold natP at hf; omega
  rw [hn,show ((1:Int).toNat)=1 from rfl]
  simp only [h0,show (([110,97,116]:List UInt8)==([104,111,115,116]:List UInt8))=false from by decide ,show (([110,97,116]:List UInt8)==([117,115,101,114]:List UInt8))=false from by decide ,show (([110,97,116]:List UInt8)==([112,111,114,116]:List UInt8))=false from by decide ,show (([110,97,116]:List UInt8)==([114,117,108,101]:List UInt8))=false from by decide ,show (([110,97,116]:List UInt8)==([114,111,117,116,101]:List UInt8))=false from by decide ,show (([110,97,116]:List UInt8)==([112,101,101,114]:List UInt8))=false from by decide ,show (([110,97,116]:List UInt8)==([110,97,116]:List UInt8))=true from by decide ,show (([110,97,116]:List UInt8)==([100,111,111,114]:List UInt8))=false from by decide,cond_true,cond_false]
  rw [Qkt w (by omega),join1]
 ·have h0:=hf.1
  have hn:keyN (w.getD 0 default).data.toList=3:=by rw [h0]; decide
  have hl:3≤w.length:=by unfold Wi at hf; omega
  rw [hn,show ((3:Int).toNat)=3 from rfl]
  simp only [h0,show (([100,111,111,114]:List UInt8)==([104,111,115,116]:List UInt8))=false from by decide ,show (([100,111,111,114]:List UInt8)==([117,115,101,114]:List UInt8))=false from by decide ,show (([100,111,111,114]:List UInt8)==([112,111,114,116]:List UInt8))=false from by decide ,show (([100,111,111,114]:List UInt8)==([114,117,108,101]:List UInt8))=false from by decide ,show (([100,111,111,114]:List UInt8)==([114,111,117,116,101]:List UInt8))=false from by decide ,show (([100,111,111,114]:List UInt8)==([112,101,101,114]:List UInt8))=false from by decide ,show (([100,111,111,114]:List UInt8)==([110,97,116]:List UInt8))=false from by decide ,show (([100,111,111,114]:List UInt8)==([100,111,111,114]:List UInt8))=true from by decide,cond_true,cond_false]
  rw [Qci w (by omega),join3]
theorem Uco (line:ByteArray):F189 line=F149 line:=by
 cases h:F182 line with
 | false =>
  unfold F189 F149
  rw [Vu,h]; rfl
 | true =>
  rw [Uai line h]
  obtain ⟨k1,k2⟩:=Tl line h
  unfold F189
  rw [Vu,h,k1,k2]; rfl
theorem Qev {α σ ρ τ ω:Type} [Inhabited α] (xs:List α) (upd:σ→α→σ) (emb:σ→Int→ω) (step:ω→Lp ω ρ)
  (h1:∀ (i:Nat) (s:σ),i<xs.length→step (emb s (i:Int))=.next (emb (upd s (xs.getD i default)) ((i+1:Nat):Int))) (h2:∀ s:σ,step (emb s (xs.length:Int))=.done (emb s (xs.length:Int)))
  (f:ρ→τ) (g:ω→τ):∀ (m i:Nat) (s:σ),i+m=xs.length→∀ fuel,m<fuel→(runL step fuel (emb s (i:Int))).fin f g=g (emb ((xs.drop i).foldl upd s) (xs.length:Int))
 | m,i,_,_,0,hf=>absurd hf (Nat.not_lt_zero _)
 | 0,i,s,h,fuel+1,hf=>by
  obtain rfl:i=xs.length:=by omega
  rw [Ko _ (h2 s),List.drop_of_length_le (Nat.le_refl _)]; rfl
 | m+1,i,s,h,fuel+1,hf=>by
  have hd:xs.drop i=xs.getD i default :: xs.drop (i+1):=by
   rw [List.drop_eq_getElem_cons (show i<xs.length by omega),List.getD_eq_getElem?_getD,List.getElem?_eq_getElem (show i<xs.length by omega)]; rfl
  rw [Yc _ (h1 i s (by omega)),Qev xs upd emb step h1 h2 f g m (i+1) _ (by omega) fuel (by omega),hd,List.foldl_cons]
theorem Ye {α σ ρ τ ω:Type} [Inhabited α] (xs:List α) (upd:σ→α→σ) (emb:σ→Int→ω) (step:ω→Lp ω ρ)
  (h1:∀ (i:Nat) (s:σ),i<xs.length→step (emb s (i:Int))=.next (emb (upd s (xs.getD i default)) ((i+1:Nat):Int))) (h2:∀ s:σ,step (emb s (xs.length:Int))=.done (emb s (xs.length:Int)))
  (f:ρ→τ) (g:ω→τ) (s:σ):(runL step (((xs.length:Int)-0).toNat+1) (emb s 0)).fin f g=g (emb (xs.foldl upd s) (xs.length:Int)):=by
 have:=Qev xs upd emb step h1 h2 f g xs.length 0 s (by omega) (Int.toNat ((xs.length:Int)-0)+1) (by omega)
 rw [List.drop_zero] at this
 exact this
theorem Kw {α:Type} [Inhabited α] (ws:List α) (p:α→Bool):∀ (m i:Nat),i+m=ws.length→anyF (fun k=>p (ws.getD k default)) i m=(ws.drop i).any p
 | 0,i,h=>by rw [List.drop_of_length_le (by omega)]; rfl
 | m+1,i,h=>by
  have hd:ws.drop i=ws.getD i default :: ws.drop (i+1):=by
   rw [List.drop_eq_getElem_cons (show i<ws.length by omega),List.getD_eq_getElem?_getD,List.getElem?_eq_getElem (show i<ws.length by omega)]; rfl
  rw [hd,List.any_cons,anyF,Kw ws p m (i+1) (by omega)]
theorem anyL {α ρ τ:Type} [Inhabited α] (xs:List α) (p:α→Bool) (bad:ρ) (step:Int→Lp Int ρ)
  (h1:∀ i:Nat,i<xs.length→step (i:Int)=bif p (xs.getD i default) then .ret bad else .next ((i+1:Nat):Int)) (h2:step (xs.length:Int)=.done (xs.length:Int))
  (f:ρ→τ) (g:Int→τ) (y:τ) (hg:∀ i,g i=y):(runL step (((xs.length:Int)-0).toNat+1) 0).fin f g=bif xs.any p then f bad else y:=by
 have h:=Yx step xs.length (fun k=>p (xs.getD k default)) bad f y h1 h2 xs.length 0 (by omega) (Int.toNat ((xs.length:Int)-0)+1) (by omega)
 rw [Kw xs p xs.length 0 (by omega),List.drop_zero] at h
 rw [show g=fun _=>y from funext hg]
 exact h
theorem Lq {α β:Type} (p:α→Bool) (f:α→β):∀ (xs:List α) (s:List β),xs.foldl (fun s x=>bif p x then s++[f x] else s) s=s++(xs.filter p).map f
 | [],s=>by simp
 | x :: xs,s=>by
  rw [List.foldl_cons,Lq p f xs]
  cases h:p x with
  | true=>rw [cond_true,List.filter_cons_of_pos h,List.map_cons,List.append_assoc]; rfl
  | false=>rw [cond_false,List.filter_cons_of_neg (by simp [h])]
theorem Zp {α β:Type} (f:α→β):∀ (xs:List α) (s:List β),xs.foldl (fun s x=>s++[f x]) s=s++xs.map f
 | [],s=>by simp
 | x :: xs,s=>by
  rw [List.foldl_cons,Zp f xs,List.map_cons,List.append_assoc]; rfl
theorem Gf {α:Type} (p:α→Bool):∀ (xs:List α) (n:Int),xs.foldl (fun n x=>bif p x then n+1 else n) n=n+(xs.filter p).length
 | [],n=>by simp
 | x :: xs,n=>by
  rw [List.foldl_cons,Gf p xs]
  cases h:p x with
  | true=>rw [cond_true,List.filter_cons_of_pos h,List.length_cons]; omega
  | false=>rw [cond_false,List.filter_cons_of_neg (by simp [h])]
theorem kc149 (line:ByteArray) {K_:Prop} (p0_:line.size≤1048576) (k_:K_):(line.size≤1048576)∧(Imp (.v (.string line)) (.v (.string line)))∧K_:=⟨p0_,Imp.refl _,k_⟩
abbrev kh149 (line:ByteArray):Hint true Tryz.prog:=.call 149 (S149 line) (ok149 line) none
def Xw (lines:List ByteArray):(List ByteArray×Int)→Lp (List ByteArray×Int) (List ByteArray):=fun (out,i40) =>
 bif (decide (i40<(lines.length:Int))) then (.next ((out++[(F149 (lines.getD i40.toNat default))]),(i40+1))) else (.done (out,i40))
def F95 (lines:List ByteArray):List ByteArray :=
 (runL (Xw lines) (((lines.length:Int)-0).toNat+1) (([]:List ByteArray),0)).fin (fun r=>r) (fun (out,i40)=>out)
abbrev Qcu (lines:List ByteArray):Nat×(List ByteArray×Int):=((((lines.length:Int)-0).toNat+1),(([]:List ByteArray),0))
abbrev Qni (lines:List ByteArray) (m39:Nat) (out:List ByteArray) (i40:Int):Prop:=Int.toNat ((lines.length:Int)-i40)<m39∧(out.length:Int)≤i40∧(0:Int)≤i40
abbrev Uci (lines:List ByteArray):Lp (List ByteArray×Int) (List ByteArray):=LpX (Xw lines) (Qcu lines)
abbrev Qbp (lines:List ByteArray) (i:Nat×(List ByteArray×Int)):Prop:=LpJ (Xw lines) (Qcu lines) i (Qni lines i.1 i.2.1 i.2.2)
abbrev Ucl (lines:List ByteArray) (i:Nat×(List ByteArray×Int)) (m39:Nat) (out:List ByteArray) (i40:Int):Prop:=LpH (Xw lines) (Qcu lines) i m39 (out,i40) (Qni lines (m39+1) out i40)
abbrev Uan (lines:List ByteArray) (out:List ByteArray) (i40:Int) (out_:List ByteArray) (i40_:Int) (K39:Prop):Prop:=((.int .i64 i40:Value)=.int .i64 i40_)∧(Im (.l 1 eStr lines))∧(Imp (.l 1 eStr out) (.l 1 eStr out_))∧K39
theorem un95_0 (lines:List ByteArray) (i:Nat×(List ByteArray×Int)) (h:Qbp lines i):Ucl lines i (i.1-1) i.2.1 i.2.2:=⟨hd1 h.1 h.2.1,hd3 h.2.1,hd2 h.2.1,h.2.2⟩
theorem bk95_0 (lines:List ByteArray) (i:Nat×(List ByteArray×Int)) (m39:Nat) (out:List ByteArray) (i40:Int) (hl:m39<i.1) (e:runL (Xw lines) m39 (out,i40)=Uci lines) (h:Qni lines m39 out i40):∃ j:Nat×(List ByteArray×Int),Uan lines out i40 j.2.1 j.2.2 (Qbp lines j∧j.1<i.1):=⟨(m39,(out,i40)),rfl,Imp.refl _,Imp.refl _,⟨e,h⟩,hl⟩
theorem en95_0 (lines:List ByteArray) (h:(([]:List ByteArray).length:Int)≤0∧(0:Int)≤0):Uan lines ([]:List ByteArray) 0 ([]:List ByteArray) 0 (Qbp lines (Qcu lines)):=⟨rfl,Imp.refl _,Imp.refl _,rfl,Nat.lt_succ_self _,h⟩
theorem fi95 (lines:List ByteArray) (r:List ByteArray) (hF:r=(F95 lines)):(Imp (.l 1 eStr r) (.l 1 eStr (F95 lines)))∧True:=by cases hF; exact ⟨Imp.refl _,trivial⟩
def S95 (R:List ByteArray) (lines:List ByteArray):Spec:=⟨[.r (.c (.l 1 eStr lines))],.ow (.l 1 eStr R),lines.length≤1048576∧(∀ k:Nat,(lines.getD k default).size≤1048576)⟩
theorem ok95 (lines:List ByteArray):(S95 (F95 lines) lines).ok Tryz.prog 95 :=
 Qi mixed (fn:=Tryz.f95) (ct:=.seqk [(0,0)] .no (.seq (.reg [(0,.dat (.l 1 eStr ([]:List ByteArray)))]) (.seq (.seqk [(0,0),(3,0)] .no (.blk (.loop (ι:=Nat×(List ByteArray×Int)) (fun i=>(fun (out:List ByteArray) (i40:Int)=>(⟨[(0,some (.h 0 0)),(3,some (.h 1 0)),(4,some (.v (vI i40)))],[(0,some (.shr none (.l 1 eStr lines))),(1,some (.own 1 (.l 1 eStr out)))],2⟩:St)) i.2.1 i.2.2) (Qbp lines) (fun i=>i.1) (Qcu lines) (fun i=>(fun (out:List ByteArray) (i40:Int)=>(.seq (.seq .no (.cond .no .no)) (.seq (.blk (.reg [(5,kh149 (lines.getD i40.toNat default)),(7,.dat (.l 1 eStr (out++[(F149 (lines.getD i40.toNat default))])))])) (.reg [(1,.bnd)])))) i.2.1 i.2.2)))) (.seq .no .no)))) Tryz.func95 (fun (hp:lines.length≤1048576∧(∀ k:Nat,(lines.getD k default).size≤1048576))=>have hpre0:=hp.1; have hpre1:=hp.2; kn lines fun _=>ai (bokr 1 eStr ([]:List ByteArray) fun _=>rfl) (kn lines fun _=>kn ([]:List ByteArray) fun _=>ai (en95_0 lines (by refine ⟨?_,?_⟩ <;> first | omega | (simp only [lens,ib] at*<;> omega))) (fun (i0:Nat×(List ByteArray×Int)) (hi0:Qbp lines i0)=>(fun (m0:Nat) (out:List ByteArray) (i40:Int) (hh0:Ucl lines i0 m0 out i40)=>have hI0:=hh0.1; have hl0:=hh0.2.1; have _:=hh0.2.2.1; have _:=hh0.2.2.2; ifd (i40<(lines.length:Int)) (fun h2 _=>ai (by first | omega | (simp only [lens,ib] at*<;> omega):ib i40 lines) (kc149 (lines.getD i40.toNat default) (by first | omega | exact hpre1 _ | (intros; exact trivial) | (intros; exact Nat.zero_le _)) (ai (appr 1 eStr out [(F149 (lines.getD i40.toNat default))] fun _=>rfl) (ai (by (try simp only [lens]); omega:(out++[(F149 (lines.getD i40.toNat default))]).length*16≤140737488355328) (ai (iok (i40+1) (by first | omega | (simp only [lens,ib] at*<;> omega))) (bk95_0 lines i0 m0 (out++[(F149 (lines.getD i40.toNat default))]) (i40+1) hl0 (Qe hI0 (condT h2 rfl)) (by refine ⟨?_,?_,?_⟩ <;> first | omega | (simp only [lens,ib] at*<;> omega)))))))) (fun h2 _=>have hD0_3:Uci lines=Lp.done (out,i40):=Qj hI0 (condF h2 rfl); fi95 lines out (finD hD0_3 rfl))) (i0.1-1) i0.2.1 i0.2.2 (un95_0 lines i0 hi0)))) (by kernel_rfl)
def Bk (lines:List ByteArray) (word:ByteArray):(List (List ByteArray)×Int)→Lp (List (List ByteArray)×Int) (List (List ByteArray)):=fun (out,v12) =>
 bif (decide (v12<(lines.length:Int))) then (bif (((F120 (lines.getD v12.toNat default) ⟨#[32]⟩).getD (Int.toNat 0) default).toList==word.toList) then (.next ((out++[(F120 (lines.getD v12.toNat default) ⟨#[32]⟩)]),(v12+1))) else (.next (out,(v12+1)))) else (.done (out,v12))
def F82 (lines:List ByteArray) (word:ByteArray):List (List ByteArray) :=
 (runL (Bk lines word) (((lines.length:Int)-0).toNat+1) (([]:List (List ByteArray)),0)).fin (fun r=>r) (fun (out,v12)=>out)
abbrev Qcv (lines:List ByteArray):Nat×(List (List ByteArray)×Int):=((((lines.length:Int)-0).toNat+1),(([]:List (List ByteArray)),0))
abbrev Qmr (lines:List ByteArray) (m39:Nat) (out:List (List ByteArray)) (v12:Int):Prop:=Int.toNat ((lines.length:Int)-v12)<m39∧(out.length:Int)≤v12∧(0:Int)≤v12
abbrev Uau (lines:List ByteArray) (word:ByteArray):Lp (List (List ByteArray)×Int) (List (List ByteArray)):=LpX (Bk lines word) (Qcv lines)
abbrev Qcr (lines:List ByteArray) (word:ByteArray) (i:Nat×(List (List ByteArray)×Int)):Prop:=LpJ (Bk lines word) (Qcv lines) i (Qmr lines i.1 i.2.1 i.2.2)
abbrev Ubv (lines:List ByteArray) (word:ByteArray) (i:Nat×(List (List ByteArray)×Int)) (m39:Nat) (out:List (List ByteArray)) (v12:Int):Prop:=LpH (Bk lines word) (Qcv lines) i m39 (out,v12) (Qmr lines (m39+1) out v12)
abbrev Udd (lines:List ByteArray) (word:ByteArray) (out:List (List ByteArray)) (v12:Int) (out_:List (List ByteArray)) (v12_:Int) (K39:Prop):Prop:=(Rf (.string word))∧(Rf (.int .i64 (lines.length:Int)))∧((.int .i64 v12:Value)=.int .i64 v12_)∧(Imp (.l 1 (eL 1 eStr) out) (.l 1 (eL 1 eStr) out_))∧(Im (.l 1 eStr lines))∧K39
theorem un82_0 (lines:List ByteArray) (word:ByteArray) (i:Nat×(List (List ByteArray)×Int)) (h:Qcr lines word i):Ubv lines word i (i.1-1) i.2.1 i.2.2:=⟨hd1 h.1 h.2.1,hd3 h.2.1,hd2 h.2.1,h.2.2⟩
theorem Ubc (lines:List ByteArray) (word:ByteArray) (i:Nat×(List (List ByteArray)×Int)) (m39:Nat) (out:List (List ByteArray)) (v12:Int) (hl:m39<i.1) (e:runL (Bk lines word) m39 (out,v12)=Uau lines word) (h:Qmr lines m39 out v12):∃ j:Nat×(List (List ByteArray)×Int),Udd lines word out v12 j.2.1 j.2.2 (Qcr lines word j∧j.1<i.1):=⟨(m39,(out,v12)),rfl,rfl,rfl,Imp.refl _,Imp.refl _,⟨e,h⟩,hl⟩
theorem en82_0 (lines:List ByteArray) (word:ByteArray) (h:(([]:List (List ByteArray)).length:Int)≤0∧(0:Int)≤0):Udd lines word ([]:List (List ByteArray)) 0 ([]:List (List ByteArray)) 0 (Qcr lines word (Qcv lines)):=⟨rfl,rfl,rfl,Imp.refl _,Imp.refl _,rfl,Nat.lt_succ_self _,h⟩
theorem fi82 (lines:List ByteArray) (word:ByteArray) (r:List (List ByteArray)) (hF:r=(F82 lines word)):(Imp (.l 1 (eL 1 eStr) r) (.l 1 (eL 1 eStr) (F82 lines word)))∧True:=by cases hF; exact ⟨Imp.refl _,trivial⟩
def S82 (R:List (List ByteArray)) (lines:List ByteArray) (word:ByteArray):Spec:=⟨[.r (.c (.l 1 eStr lines)),.r (.c (.v (.string word)))],.ow (.l 1 (eL 1 eStr) R),lines.length≤1048576∧(∀ k:Nat,(lines.getD k default).size≤1048576)⟩
theorem ok82 (lines:List ByteArray) (word:ByteArray):(S82 (F82 lines word) lines word).ok Tryz.prog 82 :=
 Qi mixed (fn:=Tryz.f82) (ct:=.seqk [(0,0)] .no (.seq (.reg [(0,.dat (.l 1 (eL 1 eStr) ([]:List (List ByteArray))))]) (.seq (.seqk [(5,0),(10,0)] .no (.blk (.loop (ι:=Nat×(List (List ByteArray)×Int)) (fun i=>(fun (out:List (List ByteArray)) (v12:Int)=>(⟨[(1,some (.v (.string word))),(5,some (.h 0 0)),(10,some (.h 1 0)),(11,some (.v (vI (lines.length:Int)))),(12,some (.v (vI v12)))],[(0,some (.own 0 (.l 1 (eL 1 eStr) out))),(1,some (.shr none (.l 1 eStr lines)))],2⟩:St)) i.2.1 i.2.2) (Qcr lines word) (fun i=>i.1) (Qcv lines) (fun i=>(fun (out:List (List ByteArray)) (v12:Int)=>(.seq .no (.seq (.cond .no .no) (.seq (.blk (.seq .no (.seq (.reg [(1,kh120 (lines.getD v12.toNat default) w15_)]) (.seq .no (.cond (.reg [(3,.dat (.l 1 (eL 1 eStr) (out++[(F120 (lines.getD v12.toNat default) w15_)])))]) .no))))) (.reg [(0,.bnd)]))))) i.2.1 i.2.2)))) (.seq .no .no)))) Tryz.func82 (fun (hp:lines.length≤1048576∧(∀ k:Nat,(lines.getD k default).size≤1048576))=>have hpre0:=hp.1; have hpre1:=hp.2; kn lines fun _=>ai (bokr 1 (eL 1 eStr) ([]:List (List ByteArray)) fun _=>rfl) (kn ([]:List (List ByteArray)) fun _=>kn lines fun _=>ai (en82_0 lines word (by refine ⟨?_,?_⟩ <;> first | omega | (simp only [lens,ib] at*<;> omega))) (fun (i0:Nat×(List (List ByteArray)×Int)) (hi0:Qcr lines word i0)=>(fun (m0:Nat) (out:List (List ByteArray)) (v12:Int) (hh0:Ubv lines word i0 m0 out v12)=>have hI0:=hh0.1; have hl0:=hh0.2.1; have _:=hh0.2.2.1; have _:=hh0.2.2.2; ifd (v12<(lines.length:Int)) (fun h2 _=>ai (by first | omega | (simp only [lens,ib] at*<;> omega):ib v12 lines) (Qrk (lines.getD v12.toNat default) w15_ (by first | decide | (have hz:=hpre1 v12.toNat; omega)) (by first | decide | (have hz:=hpre1 v12.toNat; omega)) (by first | decide | (have hz:=hpre1 v12.toNat; omega)) (by first | decide | (have hz:=hpre1 v12.toNat; omega)) (fun gv3 gv4=>ai (by first | omega | (simp only [lens,ib] at*<;> omega):ib 0 (F120 (lines.getD v12.toNat default) w15_)) (ifb (((F120 (lines.getD v12.toNat default) w15_).getD (Int.toNat 0) default).toList==word.toList) (fun h5=>ai (appr 1 (eL 1 eStr) out [(F120 (lines.getD v12.toNat default) w15_)] fun _=>rfl) (ai (by (try simp only [lens]); omega:(out++[(F120 (lines.getD v12.toNat default) w15_)]).length*24≤140737488355328) (ai (iok (v12+1) (by first | omega | (simp only [lens,ib] at*<;> omega))) (Ubc lines word i0 m0 (out++[(F120 (lines.getD v12.toNat default) w15_)]) (v12+1) hl0 (Qe hI0 (condT h2 (condT h5 rfl))) (by refine ⟨?_,?_,?_⟩ <;> first | omega | (simp only [lens,ib] at*<;> omega)))))) (fun h5=>ai (iok (v12+1) (by first | omega | (simp only [lens,ib] at*<;> omega))) (Ubc lines word i0 m0 out (v12+1) hl0 (Qe hI0 (condT h2 (condF h5 rfl))) (by refine ⟨?_,?_,?_⟩ <;> first | omega | (simp only [lens,ib] at*<;> omega)))))))) (fun h2 _=>have hD0_6:Uau lines word=Lp.done (out,v12):=Qj hI0 (condF h2 rfl); fi82 lines word out (finD hD0_6 rfl))) (i0.1-1) i0.2.1 i0.2.2 (un82_0 lines word i0 hi0)))) (by kernel_rfl)
theorem as95 (lines:List ByteArray):F95 lines=(lines.map F149):=by
 unfold F95
 have:=Ye lines (fun (s:List ByteArray) x=>s++[F149 x]) (fun s i=>(s,i)) (Xw lines) (fun i s hi=>by
  simp only [Xw,ltD hi,cond_true,nn]; rfl) (fun s=>by simp only [Xw,geD,cond_false]) (fun r=>r) (fun (out,i40)=>out) []
 refine this.trans ?_
 rw [Zp,List.nil_append]
def Qa (lines:List ByteArray) (word:ByteArray):List (List ByteArray):=(lines.map fun l=>Qw l (⟨#[32]⟩:ByteArray)).filter fun w=>(w.getD 0 default).data.toList==word.data.toList
theorem as82 (lines:List ByteArray) (word:ByteArray):F82 lines word=(Qa lines word):=by
 unfold F82
 have:=Ye lines (fun (s:List (List ByteArray)) x=>bif ((Qw x (⟨#[32]⟩:ByteArray)).getD 0 default).data.toList==word.data.toList then s++[Qw x (⟨#[32]⟩:ByteArray)] else s) (fun s i=>(s,i)) (Bk lines word) (fun i s hi=>by
  simp only [Bk,ltD hi,cond_true,nn,Qz,F120]
  show (bif ((Qw (lines.getD i default) (⟨#[32]⟩:ByteArray)).getD 0 default).data.toList==word.data.toList then _ else _)=_
  cases (((Qw (lines.getD i default) (⟨#[32]⟩:ByteArray)).getD 0 default).data.toList==word.data.toList) <;> rfl) (fun s=>by simp only [Bk,geD,cond_false]) (fun r=>r) (fun (out,v12)=>out) []
 refine this.trans ?_
 have h:=Lq (fun x=>((Qw x (⟨#[32]⟩:ByteArray)).getD 0 default).data.toList==word.data.toList) (fun x=>Qw x (⟨#[32]⟩:ByteArray)) lines []
 rw [List.nil_append] at h
 refine h.trans ?_
 unfold Qa
 rw [List.filter_map]
 rfl
def T95 (R:List ByteArray) (lines:List ByteArray):Spec:=⟨(S95 R lines).args,(S95 R lines).res,lines.length≤1048576∧(∀ k:Nat,(lines.getD k default).size≤1048576)⟩
theorem oa95 (lines:List ByteArray):(T95 (lines.map F149) lines).ok Tryz.prog 95:=by
 intro hp; have h:=ok95 lines hp; rw [as95 lines] at h; exact h
def T82 (R:List (List ByteArray)) (lines:List ByteArray) (word:ByteArray):Spec:=⟨(S82 R lines word).args,(S82 R lines word).res,lines.length≤1048576∧(∀ k:Nat,(lines.getD k default).size≤1048576)⟩
theorem oa82 (lines:List ByteArray) (word:ByteArray):(T82 (Qa lines word) lines word).ok Tryz.prog 82:=by
 intro hp; have h:=ok82 lines word hp; rw [as82 lines word] at h; exact h
def F187 (l:ByteArray):Bool :=
 (!(F188 l))
def S187 (l:ByteArray):Spec:=⟨[.r (.c (.v (.string l)))],.v (.bool (F187 l)),l.size≤1048576⟩
theorem ok187 (l:ByteArray):(S187 l).ok Tryz.prog 187 false :=
 Qi mixed (fn:=Tryz.f187) (ct:=.seq .no (.seq (.reg [(1,kh188 l)]) .no)) Tryz.func187 (fun (hpre0:l.size≤1048576)=>kc188 l (by omega) (fiB (!(F188 l)) (F187 l) rfl)) (by kernel_rfl)
theorem kc189 (line:ByteArray) {K_:Prop} (p0_:line.size≤1048576) (k_:K_):(line.size≤1048576)∧(Imp (.v (.string line)) (.v (.string line)))∧K_:=⟨p0_,Imp.refl _,k_⟩
abbrev kh189 (line:ByteArray):Hint false Tryz.prog:=.call 189 (S189 line) (ok189 line) none
def Jx (lines:List ByteArray):(Int×ML Bool)→Lp (Int×ML Bool) Int:=fun (v31,ms) =>
 bif (decide (v31<(lines.length:Int))) then (.next ((v31+1),(putM ms (F189 (lines.getD v31.toNat default)) true))) else (.done (v31,ms))
def Rc (lines:List ByteArray):Lp (ML Bool) Int :=
 (runL (Jx lines) (((lines.length:Int)-0).toNat+1) (0,([]:ML Bool))).fin Lp.ret (fun (v31,ms)=>.done ms)
def Gl (lines:List ByteArray):Int→Lp Int Int:=fun i40 =>
 bif (decide (i40<(lines.length:Int))) then (bif (!(Op.bytesLess (lines.getD (i40-1).toNat default).toList (lines.getD i40.toNat default).toList)) then (.ret 3) else (.next (i40+1))) else (.done i40)
def F161 (lines:List ByteArray):Int :=
 bif (decide ((lines.length:Int)>16)) then 1 else (bif (lines.any (fun (x0:ByteArray)=>F187 x0)) then 2 else ((runL (Gl lines) (((lines.length:Int)-1).toNat+1) 1).fin (fun r=>r) (fun i40=>(Rc lines).fin (fun r=>r) (fun keys=>bif (decide ((keys.length:Int)<(lines.length:Int))) then 4 else 0))))
abbrev Nm (lines:List ByteArray):Nat×(Int×ML Bool):=((((lines.length:Int)-0).toNat+1),(0,([]:ML Bool)))
abbrev Qjm (lines:List ByteArray) (m39:Nat) (v31:Int) (ms:ML Bool):Prop:=Int.toNat ((lines.length:Int)-v31)<m39∧(0:Int)≤v31
abbrev Qsy (lines:List ByteArray):Lp (Int×ML Bool) Int:=LpX (Jx lines) (Nm lines)
abbrev Ri (lines:List ByteArray) (i:Nat×(Int×ML Bool)):Prop:=LpJ (Jx lines) (Nm lines) i (Qjm lines i.1 i.2.1 i.2.2)
abbrev Qrg (lines:List ByteArray) (i:Nat×(Int×ML Bool)) (m39:Nat) (v31:Int) (ms:ML Bool):Prop:=LpH (Jx lines) (Nm lines) i m39 (v31,ms) (Qjm lines (m39+1) v31 ms)
abbrev Qut (lines:List ByteArray) (v31:Int) (ms:ML Bool) (v31_:Int) (ms_:ML Bool) (K39:Prop):Prop:=(Rf (.int .i64 (lines.length:Int)))∧((.int .i64 v31:Value)=.int .i64 v31_)∧(Im (.l 1 eStr lines))∧(Imp (.x (MX Value.bool ms)) (.x (MX Value.bool ms_)))∧K39
theorem Uin (lines:List ByteArray) (i:Nat×(Int×ML Bool)) (h:Ri lines i):Qrg lines i (i.1-1) i.2.1 i.2.2:=⟨hd1 h.1 h.2.1,hd3 h.2.1,hd2 h.2.1,h.2.2⟩
theorem Uft (lines:List ByteArray) (i:Nat×(Int×ML Bool)) (m39:Nat) (v31:Int) (ms:ML Bool) (hl:m39<i.1) (e:runL (Jx lines) m39 (v31,ms)=Qsy lines) (h:Qjm lines m39 v31 ms):∃ j:Nat×(Int×ML Bool),Qut lines v31 ms j.2.1 j.2.2 (Ri lines j∧j.1<i.1):=⟨(m39,(v31,ms)),rfl,rfl,Imp.refl _,Imp.refl _,⟨e,h⟩,hl⟩
theorem Uhy (lines:List ByteArray) (h:(0:Int)≤0):Qut lines 0 ([]:ML Bool) 0 ([]:ML Bool) (Ri lines (Nm lines)):=⟨rfl,rfl,Imp.refl _,Imp.refl _,rfl,Nat.lt_succ_self _,h⟩
abbrev Qgy (lines:List ByteArray) (j:ML Bool):Prop:=(Rc lines)=Lp.done j
theorem Ukk (lines:List ByteArray) (keys:ML Bool) (e:(Rc lines)=Lp.done keys):∃ j:ML Bool,(Imp (.l 1 eStr lines) (.l 1 eStr lines))∧(Imp (.x (MX Value.bool keys)) (.x (MX Value.bool j)))∧Qgy lines j:=⟨keys,Imp.refl _,Imp.refl _,e⟩
abbrev Mr (lines:List ByteArray):Nat×Int:=((((lines.length:Int)-1).toNat+1),1)
abbrev Qjq (lines:List ByteArray) (m39:Nat) (i40:Int):Prop:=Int.toNat ((lines.length:Int)-i40)<m39∧(1:Int)≤i40∧(0:Int)≤i40
abbrev Qtp (lines:List ByteArray):Lp Int Int:=LpX (Gl lines) (Mr lines)
abbrev Nd (lines:List ByteArray) (i:Nat×Int):Prop:=LpJ (Gl lines) (Mr lines) i (Qjq lines i.1 i.2)
abbrev Qrq (lines:List ByteArray) (i:Nat×Int) (m39:Nat) (i40:Int):Prop:=LpH (Gl lines) (Mr lines) i m39 i40 (Qjq lines (m39+1) i40)
abbrev Qsn (lines:List ByteArray) (i40:Int) (i40_:Int) (K39:Prop):Prop:=((.int .i64 i40:Value)=.int .i64 i40_)∧(Im (.l 1 eStr lines))∧K39
theorem Uka (lines:List ByteArray) (i:Nat×Int) (h:Nd lines i):Qrq lines i (i.1-1) i.2:=⟨hd1 h.1 h.2.1,hd3 h.2.1,hd2 h.2.1,h.2.2⟩
theorem Ujt (lines:List ByteArray) (i:Nat×Int) (m39:Nat) (i40:Int) (hl:m39<i.1) (e:runL (Gl lines) m39 i40=Qtp lines) (h:Qjq lines m39 i40):∃ j:Nat×Int,Qsn lines i40 j.2 (Nd lines j∧j.1<i.1):=⟨(m39,i40),rfl,Imp.refl _,⟨e,h⟩,hl⟩
theorem Uhd (lines:List ByteArray) (h:(1:Int)≤1∧(0:Int)≤1):Qsn lines 1 1 (Nd lines (Mr lines)):=⟨rfl,Imp.refl _,rfl,Nat.lt_succ_self _,h⟩
def S161 (lines:List ByteArray):Spec:=⟨[.r (.c (.l 1 eStr lines))],.v (vI (F161 lines)),(∀ k:Nat,(lines.getD k default).size≤1048576)⟩
theorem ok161 (lines:List ByteArray):(S161 lines).ok Tryz.prog 161 false :=
 Qi mixed (fn:=Tryz.f161) (ct:=.seqk [(0,0)] .no (.seq (.seq .no (.cond (.seq .no .no) .no)) (.seq (.seq (.reg [(1,.call 186 (S186 (lines.any (fun (x0:ByteArray)=>F187 x0)) lines (fun (x0:ByteArray)=>F187 x0) (fun (x0:ByteArray)=>x0.size≤1048576)) (Uek lines (fun (x0:ByteArray)=>F187 x0) (fun (x0:ByteArray)=>x0.size≤1048576)) (some ⟨false,187,Yg (fun (x0:ByteArray)=>x0.size≤1048576) (fun (x0:ByteArray)=>F187 x0),[],rfl,True,fun i=>Bw (ok187 i)⟩))]) (.cond (.seq .no .no) .no)) (.seq (.seqk [(0,0)] .no (.blk (.loop (ι:=Nat×Int) (fun i=>(fun (i40:Int)=>(⟨[(0,some (.h 0 0)),(3,some (.v (vI i40)))],[(0,some (.shr none (.l 1 eStr lines)))],1⟩:St)) i.2) (Nd lines) (fun i=>i.1) (Mr lines) (fun i=>(fun (i40:Int)=>(.seq (.seq .no (.cond .no .no)) (.seq (.blk (.seq (.reg [(2,.bnd)]) (.cond (.seq .no .no) .no))) (.reg [(1,.bnd)])))) i.2)))) (.seq (.reg [(0,.mpm Value.bool)]) (.cut (ι:=ML Bool) (fun j=>(fun (keys:ML Bool)=>(⟨[(0,some (.h 0 0)),(4,some (.h 1 0))],[(0,some (.shr none (.l 1 eStr lines))),(1,some (.own 1 (.x (MX Value.bool keys))))],2⟩:St)) j) (Qgy lines) (.seqk [(29,0)] .no (.blk (.loop (ι:=Nat×(Int×ML Bool)) (fun i=>(fun (v31:Int) (ms:ML Bool)=>(⟨[(0,some (.h 0 0)),(4,some (.h 1 0)),(29,some (.h 0 0)),(30,some (.v (vI (lines.length:Int)))),(31,some (.v (vI v31)))],[(0,some (.shr none (.l 1 eStr lines))),(1,some (.own 1 (.x (MX Value.bool ms))))],2⟩:St)) i.2.1 i.2.2) (Ri lines) (fun i=>i.1) (Nm lines) (fun i=>(fun (v31:Int) (ms:ML Bool)=>(.seq .no (.seq (.cond .no .no) (.seq (.blk (.seq .no (.reg [(2,kh189 (lines.getD v31.toNat default)),(3,.mpu Value.bool ms true)]))) (.reg [(0,.bnd)]))))) i.2.1 i.2.2)))) (fun j=>(fun (keys:ML Bool)=>(.seq (.seq (.reg [(1,.mpn Value.bool keys)]) (.cond (.seq .no .no) .no)) (.seq .no .no))) j))))))) Tryz.func161 (fun (hpre0:∀ k:Nat,(lines.getD k default).size≤1048576)=>kn lines fun _=>ifd ((lines.length:Int)>16) (fun h1 _=>fiI 1 (F161 lines) (condT h1 rfl)) (fun h1 _=>ai (by first | assumption | exact hpre0 _ | exact fun k _=>hpre0 k | (intros; exact trivial) | (intros; exact Nat.zero_le _):∀ k:Nat,k<lines.length→(fun (x0:ByteArray)=>x0.size≤1048576) (lines.getD k default)) (ai (Imp.refl (.l 1 eStr lines)) (ai (Eq.refl (Yg (fun (x0:ByteArray)=>x0.size≤1048576) (fun (x0:ByteArray)=>F187 x0))) (ai trivial (ifb (lines.any (fun (x0:ByteArray)=>F187 x0)) (fun h2=>fiI 2 (F161 lines) (condF h1 (condT h2 rfl))) (fun h2=>kn lines fun _=>ai (Uhd lines (by refine ⟨?_,?_⟩ <;> omega)) (fun (i0:Nat×Int) (hi0:Nd lines i0)=>(fun (m0:Nat) (i40:Int) (hh0:Qrq lines i0 m0 i40)=>have hI0:=hh0.1; have hl0:=hh0.2.1; have _:=hh0.2.2.1; have _:=hh0.2.2.2; ifd (i40<(lines.length:Int)) (fun h4 _=>ai (iok (i40-1) (by omega)) (ai (by omega:ib (i40-1) lines) (ai (by omega:ib i40 lines) (ifb (!(Op.bytesLess (lines.getD (i40-1).toNat default).toList (lines.getD i40.toNat default).toList)) (fun h5=>fiI 3 (F161 lines) (condF h1 (condF h2 (finR (Qr hI0 (condT h4 (condT h5 rfl))) rfl)))) (fun h5=>ai (iok (i40+1) (by omega)) (Ujt lines i0 m0 (i40+1) hl0 (Qe hI0 (condT h4 (condF h5 rfl))) (by refine ⟨?_,?_,?_⟩ <;> omega))))))) (fun h4 _=>have hD0_6:Qtp lines=Lp.done i40:=Qj hI0 (condF h4 rfl); ai (kn lines fun _=>ai (Uhy lines (by omega)) (fun (i1:Nat×(Int×ML Bool)) (hi1:Ri lines i1)=>(fun (m1:Nat) (v31:Int) (ms:ML Bool) (hh1:Qrg lines i1 m1 v31 ms)=>have hI1:=hh1.1; have hl1:=hh1.2.1; have _:=hh1.2.2.1; have _:=hh1.2.2.2; ifd (v31<(lines.length:Int)) (fun h8 _=>ai (by omega:ib v31 lines) (kc189 (lines.getD v31.toNat default) (by first | omega | exact hpre0 _ | (intros; exact trivial) | (intros; exact Nat.zero_le _)) (ai (Eq.refl (MX Value.bool ms)) (ai (Eq.refl (Value.bool true)) (ai (iok (v31+1) (by omega)) (Uft lines i1 m1 (v31+1) (putM ms (F189 (lines.getD v31.toNat default)) true) hl1 (Qe hI1 (condT h8 rfl)) (by refine ⟨?_,?_⟩ <;> omega))))))) (fun h8 _=>have hD1_9:Qsy lines=Lp.done (v31,ms):=Qj hI1 (condF h8 rfl); Ukk lines ms (Eq.symm (finD hD1_9 rfl)) )) (i1.1-1) i1.2.1 i1.2.2 (Uin lines i1 hi1))) (fun (j:ML Bool) (hj:Qgy lines j)=>(fun (keys:ML Bool) (hJ0_10:(Rc lines)=Lp.done keys)=>ai (Eq.refl (MX Value.bool keys)) (ifd ((keys.length:Int)<(lines.length:Int)) (fun h11 _=>fiI 4 (F161 lines) (condF h1 (condF h2 (finD hD0_6 (finD hJ0_10 (condT h11 rfl)))))) (fun h11 _=>fiI 0 (F161 lines) (condF h1 (condF h2 (finD hD0_6 (finD hJ0_10 (condF h11 rfl)))))))) j hj))) (i0.1-1) i0.2 (Uka lines i0 hi0))))))))) (by kernel_rfl)
theorem kc95a (lines:List ByteArray) {K_:Prop} (p0_:lines.length≤1048576) (p1_:∀ k:Nat,(lines.getD k default).size≤1048576) (k_:K_):(lines.length≤1048576∧(∀ k:Nat,(lines.getD k default).size≤1048576))∧(Imp (.l 1 eStr lines) (.l 1 eStr lines))∧K_:=⟨⟨p0_,p1_⟩,Imp.refl _,k_⟩
abbrev kh95a (lines:List ByteArray):Hint true Tryz.prog:=.call 95 (T95 (lines.map F149) lines) (oa95 lines) none
def Vk (lines:List ByteArray):Int→Lp Int Int:=fun i42 =>
 bif (decide (i42<(lines.length:Int))) then (bif (F96 ((lines.map F149).take i42.toNat) ((lines.map F149).getD i42.toNat default)) then (.ret 4) else (.next (i42+1))) else (.done i42)
def Bh (lines:List ByteArray):Int→Lp Int Int:=fun i41 =>
 bif (decide (i41<(lines.length:Int))) then (bif (!(Op.bytesLess (lines.getD (i41-1).toNat default).toList (lines.getD i41.toNat default).toList)) then (.ret 3) else (.next (i41+1))) else (.done i41)
def Wy (lines:List ByteArray):Int→Lp Int Int:=fun i40 =>
 bif (decide (i40<(lines.length:Int))) then (bif (((lines.map F149).getD i40.toNat default).toList==(⟨#[]⟩:ByteArray).toList) then (.ret 2) else (.next (i40+1))) else (.done i40)
def F64 (lines:List ByteArray):Int :=
 bif (decide ((lines.length:Int)>16)) then 1 else ((runL (Wy lines) (((lines.length:Int)-0).toNat+1) 0).fin (fun r=>r) (fun i40=>(runL (Bh lines) (((lines.length:Int)-1).toNat+1) 1).fin (fun r=>r) (fun i41=>(runL (Vk lines) (((lines.length:Int)-0).toNat+1) 0).fin (fun r=>r) (fun i42=>0))))
abbrev Qbu (lines:List ByteArray):Nat×Int:=((((lines.length:Int)-0).toNat+1),0)
abbrev Qpl (lines:List ByteArray) (m39:Nat) (i42:Int):Prop:=Int.toNat ((lines.length:Int)-i42)<m39∧(0:Int)≤i42
abbrev Qyh (lines:List ByteArray):Lp Int Int:=LpX (Vk lines) (Qbu lines)
abbrev Qby (lines:List ByteArray) (i:Nat×Int):Prop:=LpJ (Vk lines) (Qbu lines) i (Qpl lines i.1 i.2)
abbrev Ubq (lines:List ByteArray) (i:Nat×Int) (m39:Nat) (i42:Int):Prop:=LpH (Vk lines) (Qbu lines) i m39 i42 (Qpl lines (m39+1) i42)
abbrev Qzr (lines:List ByteArray) (i42:Int) (i42_:Int) (K39:Prop):Prop:=((.int .i64 i42:Value)=.int .i64 i42_)∧(Im (.l 1 eStr lines))∧(Im (.l 1 eStr (lines.map F149)))∧K39
theorem un64_2 (lines:List ByteArray) (i:Nat×Int) (h:Qby lines i):Ubq lines i (i.1-1) i.2:=⟨hd1 h.1 h.2.1,hd3 h.2.1,hd2 h.2.1,h.2.2⟩
theorem bk64_2 (lines:List ByteArray) (i:Nat×Int) (m39:Nat) (i42:Int) (hl:m39<i.1) (e:runL (Vk lines) m39 i42=Qyh lines) (h:Qpl lines m39 i42):∃ j:Nat×Int,Qzr lines i42 j.2 (Qby lines j∧j.1<i.1):=⟨(m39,i42),rfl,Imp.refl _,Imp.refl _,⟨e,h⟩,hl⟩
theorem en64_2 (lines:List ByteArray) (h:(0:Int)≤0):Qzr lines 0 0 (Qby lines (Qbu lines)):=⟨rfl,Imp.refl _,Imp.refl _,rfl,Nat.lt_succ_self _,h⟩
abbrev Qaf (lines:List ByteArray):Nat×Int:=((((lines.length:Int)-1).toNat+1),1)
abbrev Qmy (lines:List ByteArray) (m39:Nat) (i41:Int):Prop:=Int.toNat ((lines.length:Int)-i41)<m39∧(1:Int)≤i41∧(0:Int)≤i41
abbrev Ubr (lines:List ByteArray):Lp Int Int:=LpX (Bh lines) (Qaf lines)
abbrev Qbg (lines:List ByteArray) (i:Nat×Int):Prop:=LpJ (Bh lines) (Qaf lines) i (Qmy lines i.1 i.2)
abbrev Udw (lines:List ByteArray) (i:Nat×Int) (m39:Nat) (i41:Int):Prop:=LpH (Bh lines) (Qaf lines) i m39 i41 (Qmy lines (m39+1) i41)
abbrev Ubl (lines:List ByteArray) (i41:Int) (i41_:Int) (K39:Prop):Prop:=((.int .i64 i41:Value)=.int .i64 i41_)∧(Im (.l 1 eStr lines))∧(Im (.l 1 eStr (lines.map F149)))∧K39
theorem un64_1 (lines:List ByteArray) (i:Nat×Int) (h:Qbg lines i):Udw lines i (i.1-1) i.2:=⟨hd1 h.1 h.2.1,hd3 h.2.1,hd2 h.2.1,h.2.2⟩
theorem bk64_1 (lines:List ByteArray) (i:Nat×Int) (m39:Nat) (i41:Int) (hl:m39<i.1) (e:runL (Bh lines) m39 i41=Ubr lines) (h:Qmy lines m39 i41):∃ j:Nat×Int,Ubl lines i41 j.2 (Qbg lines j∧j.1<i.1):=⟨(m39,i41),rfl,Imp.refl _,Imp.refl _,⟨e,h⟩,hl⟩
theorem en64_1 (lines:List ByteArray) (h:(1:Int)≤1∧(0:Int)≤1):Ubl lines 1 1 (Qbg lines (Qaf lines)):=⟨rfl,Imp.refl _,Imp.refl _,rfl,Nat.lt_succ_self _,h⟩
abbrev Qdl (lines:List ByteArray):Nat×Int:=((((lines.length:Int)-0).toNat+1),0)
abbrev Qpj (lines:List ByteArray) (m39:Nat) (i40:Int):Prop:=Int.toNat ((lines.length:Int)-i40)<m39∧(0:Int)≤i40
abbrev Uax (lines:List ByteArray):Lp Int Int:=LpX (Wy lines) (Qdl lines)
abbrev Qao (lines:List ByteArray) (i:Nat×Int):Prop:=LpJ (Wy lines) (Qdl lines) i (Qpj lines i.1 i.2)
abbrev Qxz (lines:List ByteArray) (i:Nat×Int) (m39:Nat) (i40:Int):Prop:=LpH (Wy lines) (Qdl lines) i m39 i40 (Qpj lines (m39+1) i40)
abbrev Qzz (lines:List ByteArray) (i40:Int) (i40_:Int) (K39:Prop):Prop:=((.int .i64 i40:Value)=.int .i64 i40_)∧(Im (.l 1 eStr lines))∧(Im (.l 1 eStr (lines.map F149)))∧K39
theorem un64_0 (lines:List ByteArray) (i:Nat×Int) (h:Qao lines i):Qxz lines i (i.1-1) i.2:=⟨hd1 h.1 h.2.1,hd3 h.2.1,hd2 h.2.1,h.2.2⟩
theorem bk64_0 (lines:List ByteArray) (i:Nat×Int) (m39:Nat) (i40:Int) (hl:m39<i.1) (e:runL (Wy lines) m39 i40=Uax lines) (h:Qpj lines m39 i40):∃ j:Nat×Int,Qzz lines i40 j.2 (Qao lines j∧j.1<i.1):=⟨(m39,i40),rfl,Imp.refl _,Imp.refl _,⟨e,h⟩,hl⟩
theorem en64_0 (lines:List ByteArray) (h:(0:Int)≤0):Qzz lines 0 0 (Qao lines (Qdl lines)):=⟨rfl,Imp.refl _,Imp.refl _,rfl,Nat.lt_succ_self _,h⟩
def S64 (lines:List ByteArray):Spec:=⟨[.r (.c (.l 1 eStr lines))],.v (vI (F64 lines)),(∀ k:Nat,(lines.getD k default).size≤1048576)⟩
theorem ok64 (lines:List ByteArray):(S64 lines).ok Tryz.prog 64 :=
 Qi mixed (fn:=Tryz.f64) (ct:=.seqk [(0,0)] .no (.seq (.seq .no (.cond (.seq .no .no) .no)) (.seq (.reg [(1,kh95a lines)]) (.seq (.seqk [(0,0),(3,0)] .no (.blk (.loop (ι:=Nat×Int) (fun i=>(fun (i40:Int)=>(⟨[(0,some (.h 0 0)),(3,some (.h 1 0)),(4,some (.v (vI i40)))],[(0,some (.shr none (.l 1 eStr lines))),(1,some (.own 1 (.l 1 eStr (lines.map F149))))],2⟩:St)) i.2) (Qao lines) (fun i=>i.1) (Qdl lines) (fun i=>(fun (i40:Int)=>(.seq (.seq .no (.cond .no .no)) (.seq (.blk (.seq .no (.cond (.seq .no .no) .no))) (.reg [(1,.bnd)])))) i.2)))) (.seq (.seqk [(0,0)] .no (.blk (.loop (ι:=Nat×Int) (fun i=>(fun (i41:Int)=>(⟨[(0,some (.h 0 0)),(3,some (.h 1 0)),(5,some (.v (vI i41)))],[(0,some (.shr none (.l 1 eStr lines))),(1,some (.own 1 (.l 1 eStr (lines.map F149))))],2⟩:St)) i.2) (Qbg lines) (fun i=>i.1) (Qaf lines) (fun i=>(fun (i41:Int)=>(.seq (.seq .no (.cond .no .no)) (.seq (.blk (.seq (.reg [(2,.bnd)]) (.cond (.seq .no .no) .no))) (.reg [(1,.bnd)])))) i.2)))) (.seq (.seqk [(0,0),(3,0)] .no (.blk (.loop (ι:=Nat×Int) (fun i=>(fun (i42:Int)=>(⟨[(0,some (.h 0 0)),(3,some (.h 1 0)),(6,some (.v (vI i42)))],[(0,some (.shr none (.l 1 eStr lines))),(1,some (.own 1 (.l 1 eStr (lines.map F149))))],2⟩:St)) i.2) (Qby lines) (fun i=>i.1) (Qbu lines) (fun i=>(fun (i42:Int)=>(.seq (.seq .no (.cond .no .no)) (.seq (.blk (.seq (.reg [(7,kh96 ((lines.map F149).take i42.toNat) ((lines.map F149).getD i42.toNat default))]) (.cond (.seq .no .no) .no))) (.reg [(1,.bnd)])))) i.2)))) (.seq .no .no))))))) Tryz.func64 (fun (hpre0:∀ k:Nat,(lines.getD k default).size≤1048576)=>kn lines fun _=>ifd ((lines.length:Int)>16) (fun h1 _=>fiI 1 (F64 lines) (condT h1 rfl)) (fun h1 _=>kc95a lines (by first | omega | (simp only [lens,ib] at*<;> omega)) (by first | assumption | exact hpre0 _ | exact fun k _=>hpre0 k | (intros; exact trivial) | (intros; exact Nat.zero_le _)) (kn lines fun _=>kn (lines.map F149) fun _=>ai (en64_0 lines (by first | omega | (simp only [lens,ib] at*<;> omega))) (fun (i0:Nat×Int) (hi0:Qao lines i0)=>(fun (m0:Nat) (i40:Int) (hh0:Qxz lines i0 m0 i40)=>have hI0:=hh0.1; have hl0:=hh0.2.1; have _:=hh0.2.2.1; have _:=hh0.2.2.2; ifd (i40<(lines.length:Int)) (fun h3 _=>ai (by first | omega | (simp only [lens,ib] at*<;> omega):ib i40 (lines.map F149)) (ifb (((lines.map F149).getD i40.toNat default).toList==w13_.toList) (fun h4=>fiI 2 (F64 lines) (condF h1 (finR (Qr hI0 (condT h3 (condT h4 rfl))) rfl))) (fun h4=>ai (iok (i40+1) (by first | omega | (simp only [lens,ib] at*<;> omega))) (bk64_0 lines i0 m0 (i40+1) hl0 (Qe hI0 (condT h3 (condF h4 rfl))) (by refine ⟨?_,?_⟩ <;> first | omega | (simp only [lens,ib] at*<;> omega)))))) (fun h3 _=>have hD0_5:Uax lines=Lp.done i40:=Qj hI0 (condF h3 rfl); kn lines fun _=>ai (en64_1 lines (by refine ⟨?_,?_⟩ <;> first | omega | (simp only [lens,ib] at*<;> omega))) (fun (i1:Nat×Int) (hi1:Qbg lines i1)=>(fun (m1:Nat) (i41:Int) (hh1:Udw lines i1 m1 i41)=>have hI1:=hh1.1; have hl1:=hh1.2.1; have _:=hh1.2.2.1; have _:=hh1.2.2.2; ifd (i41<(lines.length:Int)) (fun h7 _=>ai (iok (i41-1) (by first | omega | (simp only [lens,ib] at*<;> omega))) (ai (by first | omega | (simp only [lens,ib] at*<;> omega):ib (i41-1) lines) (ai (by first | omega | (simp only [lens,ib] at*<;> omega):ib i41 lines) (ifb (!(Op.bytesLess (lines.getD (i41-1).toNat default).toList (lines.getD i41.toNat default).toList)) (fun h8=>fiI 3 (F64 lines) (condF h1 (finD hD0_5 (finR (Qr hI1 (condT h7 (condT h8 rfl))) rfl)))) (fun h8=>ai (iok (i41+1) (by first | omega | (simp only [lens,ib] at*<;> omega))) (bk64_1 lines i1 m1 (i41+1) hl1 (Qe hI1 (condT h7 (condF h8 rfl))) (by refine ⟨?_,?_,?_⟩ <;> first | omega | (simp only [lens,ib] at*<;> omega)))))))) (fun h7 _=>have hD1_9:Ubr lines=Lp.done i41:=Qj hI1 (condF h7 rfl); kn lines fun _=>kn (lines.map F149) fun _=>ai (en64_2 lines (by first | omega | (simp only [lens,ib] at*<;> omega))) (fun (i2:Nat×Int) (hi2:Qby lines i2)=>(fun (m2:Nat) (i42:Int) (hh2:Ubq lines i2 m2 i42)=>have hI2:=hh2.1; have hl2:=hh2.2.1; have _:=hh2.2.2.1; have _:=hh2.2.2.2; ifd (i42<(lines.length:Int)) (fun h11 _=>ai (by first | omega | (simp only [lens,ib] at*<;> omega):0≤(0:Int)∧(0:Int)≤i42∧i42≤((lines.map F149).length:Int)) (ai (by first | omega | (simp only [lens,ib] at*<;> omega):ib i42 (lines.map F149)) (kc96 ((lines.map F149).take i42.toNat) ((lines.map F149).getD i42.toNat default) (ifb (F96 ((lines.map F149).take i42.toNat) ((lines.map F149).getD i42.toNat default)) (fun h12=>fiI 4 (F64 lines) (condF h1 (finD hD0_5 (finD hD1_9 (finR (Qr hI2 (condT h11 (condT h12 rfl))) rfl))))) (fun h12=>ai (iok (i42+1) (by first | omega | (simp only [lens,ib] at*<;> omega))) (bk64_2 lines i2 m2 (i42+1) hl2 (Qe hI2 (condT h11 (condF h12 rfl))) (by refine ⟨?_,?_⟩ <;> first | omega | (simp only [lens,ib] at*<;> omega)))))))) (fun h11 _=>have hD2_13:Qyh lines=Lp.done i42:=Qj hI2 (condF h11 rfl); fiI 0 (F64 lines) (condF h1 (finD hD0_5 (finD hD1_9 (finD hD2_13 rfl)))))) (i2.1-1) i2.2 (un64_2 lines i2 hi2)))) (i1.1-1) i1.2 (un64_1 lines i1 hi1)))) (i0.1-1) i0.2 (un64_0 lines i0 hi0))))) (by kernel_rfl)
instance baLawful:LawfulBEq ByteArray where
 eq_of_beq h:=(Go.MapKept.bytes_beq _ _).1 h
 rfl:=(Go.MapKept.bytes_beq _ _).2 rfl
theorem Ucx (l:ByteArray) (h:F182 l=false):F149 l=(⟨#[]⟩:ByteArray):=by
 unfold F149
 rw [h]; rfl
theorem Qek (l:ByteArray):((F149 l).toList==(⟨#[]⟩:ByteArray).toList)=!F182 l:=by
 cases h:F182 l with
 | false=>rw [Ucx l h]; rw [Qgx]; rfl
 | true =>
  rw [Qz,Qz,Uai l h,Bool.not_true,beq_eq_false_iff_ne]
  have hk:=Hg l h
  have hl:=Bt _ hk.form
  have hn:=Tu _ hk.form
  have hno:=hk.no
  generalize (F97 l).1=w at hl hn hno
  match w,hl with
  | a :: r,_ =>
   have e:((keyN (((a :: r).getD 0 default).data.toList)).toNat)=(keyN (((a :: r).getD 0 default).data.toList)).toNat-1+1:=by omega
   rw [e,List.take_succ_cons,Lg,List.map_cons,Lib.join_cons]
   intro h0
   exact (hno a List.mem_cons_self).2.1 (List.append_eq_nil_iff.1 h0).1
def dupK:List ByteArray→List ByteArray→Bool
 | _,[]=>false
 | seen,s :: r=>decide (s∈seen) || dupK (seen++[s]) r
def insK (ks:List ByteArray) (s:ByteArray):List ByteArray:=if s∈ks then ks else ks++[s]
theorem Quw:∀ (keys ks:List ByteArray),(keys.foldl insK ks).length≤ks.length+keys.length
 | [],ks=>by simp
 | s :: r,ks=>by
  rw [List.foldl_cons]
  have h:=Quw r (insK ks s)
  have h2:(insK ks s).length≤ks.length+1:=by unfold insK; split <;> simp
  simp only [List.length_cons]; omega
theorem Qjw:∀ (keys ks seen:List ByteArray),(∀ s,s∈ks↔s∈seen)→decide ((keys.foldl insK ks).length<ks.length+keys.length)=dupK seen keys
 | [],ks,seen,_=>by simp [dupK]
 | s :: r,ks,seen,h=>by
  rw [List.foldl_cons,dupK]
  by_cases hs:s∈ks
  ·have e:insK ks s=ks:=by unfold insK; rw [if_pos hs]
   rw [e,decide_eq_true ((h s).1 hs),Bool.true_or]
   have:=Quw r ks
   exact decide_eq_true (by simp only [List.length_cons]; omega)
  ·have e:insK ks s=ks++[s]:=by unfold insK; rw [if_neg hs]
   rw [e,decide_eq_false (fun x=>hs ((h s).2 x)),Bool.false_or,← Qjw r (ks++[s]) (seen++[s]) (fun t=>by simp [h t])]
   congr 1
   simp only [List.length_append,List.length_cons,List.length_nil]
   exact propext ⟨fun x=>by omega,fun x=>by omega⟩
theorem Qgo {α:Type}:∀ (m:ML α) (s:ByteArray) (x:α),(putM m s x).map (·.1)=insK (m.map (·.1)) s
 | [],s,x=>by simp [putM,insK]
 | p :: m,s,x=>by
  rw [putM]
  by_cases h:p.1=s
  ·rw [if_pos h]; subst h; simp [insK]
  ·rw [if_neg h,List.map_cons,Qgo m s x]
   unfold insK
   have h':¬ s=p.1:=fun e=>h e.symm
   by_cases hm:s∈m.map (·.1)
   ·rw [if_pos hm,List.map_cons,if_pos (List.mem_cons_of_mem _ hm)]
   ·rw [if_neg hm,List.map_cons,if_neg (by simp only [List.mem_cons,not_or]; exact ⟨h',hm⟩)]; rfl
theorem Qdo {α:Type} (f:ByteArray→ByteArray) (v:ByteArray→α):∀ (ls:List ByteArray) (m:ML α),(ls.foldl (fun m l=>putM m (f l) (v l)) m).map (·.1)=(ls.map f).foldl insK (m.map (·.1))
 | [],m=>rfl
 | l :: ls,m=>by
  rw [List.foldl_cons,Qdo f v ls,Qgo,List.map_cons,List.foldl_cons]
theorem Qlv (ws:List ByteArray) (x:ByteArray):F96 ws x=decide (x∈ws):=by
 rw [Qdu,Bool.eq_iff_iff,List.any_eq_true,decide_eq_true_eq]
 constructor
 ·rintro ⟨e,he,h⟩
  rw [Qgx,decide_eq_true_eq] at h
  exact h ▸ he
 ·exact fun h=>⟨x,h,by rw [Qgx]; exact decide_eq_true rfl⟩
theorem Qkj (keys:List ByteArray):∀ (m i:Nat),i+m=keys.length→anyF (fun k=>decide (keys.getD k default∈keys.take k)) i m=dupK (keys.take i) (keys.drop i)
 | 0,i,h=>by rw [List.drop_of_length_le (by omega)]; rfl
 | m+1,i,h=>by
  have hd:keys.drop i=keys.getD i default :: keys.drop (i+1):=by
   rw [List.drop_eq_getElem_cons (show i<keys.length by omega),List.getD_eq_getElem?_getD,List.getElem?_eq_getElem (show i<keys.length by omega)]; rfl
  rw [hd,dupK,anyF,Qkj keys m (i+1) (by omega),Rx (show i<keys.length by omega)]
theorem Qll (f:ByteArray→ByteArray) (ls:List ByteArray) (i:Nat) (h:i<ls.length):(ls.map f).getD i default=f (ls.getD i default):=by
 rw [Kx _ (by simpa using h),Kx _ h,List.getElem_map]
theorem Qpb {α:Type} {p q:α→Bool} {xs:List α} (h:∀ x,p x=q x):xs.any p=xs.any q:=by rw [show p=q from funext h]
theorem Qfg (lines:List ByteArray):F161 lines=F64 lines:=by
 unfold F161 F64
 have hkept:∀ x:ByteArray,F187 x=!F182 x:=fun x=>by unfold F187; rw [Vu]
 cases h16:decide ((lines.length:Int)>16) with
 | true=>rfl
 | false =>
 rw [cond_false,cond_false]
 have h0:=anyL lines (fun l=>!F182 l) (2:Int) (Wy lines) (fun i hi=>by
  simp only [Wy,ltD hi,cond_true,nn,Qll _ _ _ hi,Qek]
  rfl) (by simp only [Wy,geD,cond_false]) (fun r=>r) (fun _=>(runL (Bh lines) ((Int.toNat ((lines.length:Int)-1))+1) 1).fin (fun r=>r) (fun i41=>(runL (Vk lines) ((Int.toNat ((lines.length:Int)-0))+1) 0).fin (fun r=>r) (fun i42=>0))) _ (fun _=>rfl)
 rw [h0]
 have e1:(lines.any fun x0=>F187 x0)=lines.any fun l=>!F182 l:=Qpb hkept
 rw [e1]
 cases (lines.any fun l=>!F182 l) with
 | true=>rfl
 | false =>
 rw [cond_false,cond_false]
 have e2:Gl lines=Bh lines:=rfl
 rw [e2]
 congr 1
 funext i
 have h2:=Yx (Vk lines) lines.length (fun k=>decide ((lines.map F149).getD k default∈(lines.map F149).take k)) (4:Int) (fun r=>r) (0:Int) (fun i hi=>by
  simp only [Vk,ltD hi,cond_true,nn,Qlv]; rfl) (by simp only [Vk,geD,cond_false]) lines.length 0 (by omega) (Int.toNat ((lines.length:Int)-0)+1) (by omega)
 rw [Qkj (lines.map F149) lines.length 0 (by simp),List.take_zero,List.drop_zero] at h2
 refine Eq.trans ?_ h2.symm
 have h3:=Ye lines (fun (m:ML Bool) l=>putM m (F149 l) true) (fun m i=>(i,m)) (Jx lines) (fun i s hi=>by
  simp only [Jx,ltD hi,cond_true,nn,Uco]; rfl) (fun s=>by simp only [Jx,geD,cond_false]) Lp.ret (fun (v31,ms)=>Lp.done ms) ([]:ML Bool)
 have h4:Rc lines=Lp.done (lines.foldl (fun (m:ML Bool) l=>putM m (F149 l) true) []):=h3
 rw [h4]
 show (bif decide (((lines.foldl (fun (m:ML Bool) l=>putM m (F149 l) true) []).length:Int)<(lines.length:Int)) then (4:Int) else 0)=_
 have h5:=Qjw (lines.map F149) [] [] (fun s=>Iff.rfl)
 have h6:(lines.foldl (fun (m:ML Bool) l=>putM m (F149 l) true) []).length=((lines.map F149).foldl insK []).length:=by
  have:=congrArg List.length (Qdo F149 (fun _=>true) lines [])
  rw [List.length_map] at this
  exact this
 rw [← h5,h6]
 congr 1
 simp only [List.length_nil,Nat.zero_add,List.length_map]
 exact decide_eq_decide.2 (by omega)
theorem Nu (lines:List ByteArray) (h:F64 lines=0):lines.length≤16∧∀ l∈lines,F182 l=true:=by
 unfold F64 at h
 cases h16:decide ((lines.length:Int)>16) with
 | true=>rw [h16,cond_true] at h; exact absurd h (by decide)
 | false =>
 rw [h16,cond_false] at h
 have h0:=anyL lines (fun l=>!F182 l) (2:Int) (Wy lines) (fun i hi=>by
  simp only [Wy,ltD hi,cond_true,nn,Qll _ _ _ hi,Qek]
  rfl) (by simp only [Wy,geD,cond_false]) (fun r=>r) (fun _=>(runL (Bh lines) ((Int.toNat ((lines.length:Int)-1))+1) 1).fin (fun r=>r) (fun i41=>(runL (Vk lines) ((Int.toNat ((lines.length:Int)-0))+1) 0).fin (fun r=>r) (fun i42=>0))) _ (fun _=>rfl)
 rw [h0] at h
 cases ha:(lines.any fun l=>!F182 l) with
 | true=>rw [ha,cond_true] at h; exact absurd h (by decide)
 | false =>
  have h1:=of_decide_eq_false h16
  refine ⟨by omega,fun l hl=>?_⟩
  have:=List.any_eq_false.1 ha l hl
  cases hk:F182 l with
  | true=>rfl
  | false=>rw [hk] at this; exact absurd rfl this
theorem Bb (lines:List ByteArray) (h:F64 lines=0):lines.length≤16:=(Nu lines h).1
theorem Qbo (lines:List ByteArray) (word:ByteArray) (h:lines.length≤16):(Qa lines word).length≤16:=by
 unfold Qa
 have:=List.length_filter_le (fun w:List ByteArray=>(w.getD 0 default).data.toList==word.data.toList) (lines.map fun l=>Qw l (⟨#[32]⟩:ByteArray))
 rw [List.length_map] at this
 omega
theorem Qcd (l:ByteArray) (h:F182 l=true):Qw l (⟨#[32]⟩:ByteArray)=(F97 l).1:=(Hg l h).splits
theorem Qdn {lines:List ByteArray} {word:ByteArray} {w:List ByteArray} (h:F64 lines=0) (hw:w∈Qa lines word):∃ l∈lines,Qzo l w∧(w.getD 0 default).data.toList=word.data.toList:=by
 obtain ⟨h1,h2⟩:=List.mem_filter.1 hw
 obtain ⟨l,hl,rfl⟩:=List.mem_map.1 h1
 have hk:=(Nu lines h).2 l hl
 refine ⟨l,hl,?_,eq_of_beq h2⟩
 rw [Qcd l hk]
 exact Hg l hk
theorem Ut {lines:List ByteArray} {word:ByteArray} (h:F64 lines=0) {k:Nat} (hk:k<(Qa lines word).length):Wp ((Qa lines word).getD k default)∧(((Qa lines word).getD k default).getD 0 default).data.toList=word.data.toList:=by
 obtain ⟨l,hl,h1,h2⟩:=Qdn h (Wg _ hk)
 exact ⟨h1.form,h2⟩
theorem Qlm (lines:List ByteArray) (word:ByteArray) (h:F64 lines=0) (k j:Nat):(((Qa lines word).getD k default).getD j default).size≤24:=by
 by_cases hk:k<(Qa lines word).length
 ·obtain ⟨l,hl,h1,h2⟩:=Qdn h (Wg _ hk)
  by_cases hj:j<((Qa lines word).getD k default).length
  ·exact (h1.no _ (Wg _ hj)).2.2
  ·rw [Ws _ (show ((Qa lines word).getD k default).length≤j by omega)]; exact Nat.zero_le _
 ·rw [Ws _ (show (Qa lines word).length≤k by omega)]; exact Nat.zero_le _
theorem Yq (lines:List ByteArray) (word:ByteArray) (h:F64 lines=0) (k j:Nat):(((Qa lines word).getD k default).getD j default).size≤1048576:=Nat.le_trans (Qlm lines word h k j) (by decide)
theorem Ujc {w:List ByteArray} (h:Wp w) (h0:(w.getD 0 default).data.toList=[117,115,101,114]):Wq w:=by
 rcases h with h | h | h | h | h | h | h | h
 ·exact absurd (h0.symm.trans h.1) (by decide)
 ·exact h
 ·exact absurd (h0.symm.trans h.1) (by decide)
 ·exact absurd (h0.symm.trans h.1) (by decide)
 ·exact absurd (h0.symm.trans h.1) (by decide)
 ·exact absurd (h0.symm.trans h.1) (by decide)
 ·exact absurd (h0.symm.trans h.1) (by decide)
 ·exact absurd (h0.symm.trans h.1) (by decide)
theorem Uhm (lines:List ByteArray) (h:F64 lines=0):∀ k:Nat,k<(Qa lines (⟨#[117,115,101,114]⟩:ByteArray)).length→Wq ((Qa lines (⟨#[117,115,101,114]⟩:ByteArray)).getD k default):=fun k hk=>Ujc (Ut h hk).1 (Ut h hk).2
theorem Qab {w:List ByteArray} (h:Wp w) (h0:(w.getD 0 default).data.toList=[112,111,114,116]):Jm w:=by
 rcases h with h | h | h | h | h | h | h | h
 ·exact absurd (h0.symm.trans h.1) (by decide)
 ·exact absurd (h0.symm.trans h.1) (by decide)
 ·exact h
 ·exact absurd (h0.symm.trans h.1) (by decide)
 ·exact absurd (h0.symm.trans h.1) (by decide)
 ·exact absurd (h0.symm.trans h.1) (by decide)
 ·exact absurd (h0.symm.trans h.1) (by decide)
 ·exact absurd (h0.symm.trans h.1) (by decide)
theorem Ugn (lines:List ByteArray) (h:F64 lines=0):∀ k:Nat,k<(Qa lines (⟨#[112,111,114,116]⟩:ByteArray)).length→Jm ((Qa lines (⟨#[112,111,114,116]⟩:ByteArray)).getD k default):=fun k hk=>Qab (Ut h hk).1 (Ut h hk).2
theorem Ujw {w:List ByteArray} (h:Wp w) (h0:(w.getD 0 default).data.toList=[114,117,108,101]):Wb w:=by
 rcases h with h | h | h | h | h | h | h | h
 ·exact absurd (h0.symm.trans h.1) (by decide)
 ·exact absurd (h0.symm.trans h.1) (by decide)
 ·exact absurd (h0.symm.trans h.1) (by decide)
 ·exact h
 ·exact absurd (h0.symm.trans h.1) (by decide)
 ·exact absurd (h0.symm.trans h.1) (by decide)
 ·exact absurd (h0.symm.trans h.1) (by decide)
 ·exact absurd (h0.symm.trans h.1) (by decide)
theorem Qvl (lines:List ByteArray) (h:F64 lines=0):∀ k:Nat,k<(Qa lines (⟨#[114,117,108,101]⟩:ByteArray)).length→Wb ((Qa lines (⟨#[114,117,108,101]⟩:ByteArray)).getD k default):=fun k hk=>Ujw (Ut h hk).1 (Ut h hk).2
theorem Qzj {w:List ByteArray} (h:Wp w) (h0:(w.getD 0 default).data.toList=[114,111,117,116,101]):Kg w:=by
 rcases h with h | h | h | h | h | h | h | h
 ·exact absurd (h0.symm.trans h.1) (by decide)
 ·exact absurd (h0.symm.trans h.1) (by decide)
 ·exact absurd (h0.symm.trans h.1) (by decide)
 ·exact absurd (h0.symm.trans h.1) (by decide)
 ·exact h
 ·exact absurd (h0.symm.trans h.1) (by decide)
 ·exact absurd (h0.symm.trans h.1) (by decide)
 ·exact absurd (h0.symm.trans h.1) (by decide)
theorem Qkn (lines:List ByteArray) (h:F64 lines=0):∀ k:Nat,k<(Qa lines (⟨#[114,111,117,116,101]⟩:ByteArray)).length→Kg ((Qa lines (⟨#[114,111,117,116,101]⟩:ByteArray)).getD k default):=fun k hk=>Qzj (Ut h hk).1 (Ut h hk).2
theorem Uki {w:List ByteArray} (h:Wp w) (h0:(w.getD 0 default).data.toList=[112,101,101,114]):Nt w:=by
 rcases h with h | h | h | h | h | h | h | h
 ·exact absurd (h0.symm.trans h.1) (by decide)
 ·exact absurd (h0.symm.trans h.1) (by decide)
 ·exact absurd (h0.symm.trans h.1) (by decide)
 ·exact absurd (h0.symm.trans h.1) (by decide)
 ·exact absurd (h0.symm.trans h.1) (by decide)
 ·exact h
 ·exact absurd (h0.symm.trans h.1) (by decide)
 ·exact absurd (h0.symm.trans h.1) (by decide)
theorem Ugv (lines:List ByteArray) (h:F64 lines=0):∀ k:Nat,k<(Qa lines (⟨#[112,101,101,114]⟩:ByteArray)).length→Nt ((Qa lines (⟨#[112,101,101,114]⟩:ByteArray)).getD k default):=fun k hk=>Uki (Ut h hk).1 (Ut h hk).2
theorem Qzn {w:List ByteArray} (h:Wp w) (h0:(w.getD 0 default).data.toList=[110,97,116]):natP w:=by
 rcases h with h | h | h | h | h | h | h | h
 ·exact absurd (h0.symm.trans h.1) (by decide)
 ·exact absurd (h0.symm.trans h.1) (by decide)
 ·exact absurd (h0.symm.trans h.1) (by decide)
 ·exact absurd (h0.symm.trans h.1) (by decide)
 ·exact absurd (h0.symm.trans h.1) (by decide)
 ·exact absurd (h0.symm.trans h.1) (by decide)
 ·exact h
 ·exact absurd (h0.symm.trans h.1) (by decide)
theorem Qjv (lines:List ByteArray) (h:F64 lines=0):∀ k:Nat,k<(Qa lines (⟨#[110,97,116]⟩:ByteArray)).length→natP ((Qa lines (⟨#[110,97,116]⟩:ByteArray)).getD k default):=fun k hk=>Qzn (Ut h hk).1 (Ut h hk).2
theorem Ugl {w:List ByteArray} (h:Wp w) (h0:(w.getD 0 default).data.toList=[100,111,111,114]):Wi w:=by
 rcases h with h | h | h | h | h | h | h | h
 ·exact absurd (h0.symm.trans h.1) (by decide)
 ·exact absurd (h0.symm.trans h.1) (by decide)
 ·exact absurd (h0.symm.trans h.1) (by decide)
 ·exact absurd (h0.symm.trans h.1) (by decide)
 ·exact absurd (h0.symm.trans h.1) (by decide)
 ·exact absurd (h0.symm.trans h.1) (by decide)
 ·exact absurd (h0.symm.trans h.1) (by decide)
 ·exact h
theorem Gk (lines:List ByteArray) (h:F64 lines=0):∀ k:Nat,k<(Qa lines (⟨#[100,111,111,114]⟩:ByteArray)).length→Wi ((Qa lines (⟨#[100,111,111,114]⟩:ByteArray)).getD k default):=fun k hk=>Ugl (Ut h hk).1 (Ut h hk).2
theorem Hj (lines:List ByteArray) (word:ByteArray) {K_:Prop} (p0_:lines.length≤1048576) (p1_:∀ k:Nat,(lines.getD k default).size≤1048576) (q0_:lines.length≤16) (k_:((Qa lines word).length≤16)→K_):(lines.length≤1048576∧(∀ k:Nat,(lines.getD k default).size≤1048576))∧(Imp (.l 1 eStr lines) (.l 1 eStr lines))∧(Imp (.v (.string word)) (.v (.string word)))∧K_:=⟨⟨p0_,p1_⟩,Imp.refl _,Imp.refl _,k_ (Qbo lines word q0_)⟩
abbrev kh82a (lines:List ByteArray) (word:ByteArray):Hint true Tryz.prog:=.call 82 (T82 (Qa lines word) lines word) (oa82 lines word) none
abbrev Xb (lines:List ByteArray) (word:ByteArray):Hint false Tryz.prog:=.call 82 (T82 (Qa lines word) lines word) ((oa82 lines word).to false) none
def Vf (lines:List ByteArray):(List Qb×Int)→Lp (List Qb×Int) (List Qb):=fun (out,v12) =>
 bif (decide (v12<((Qa lines (⟨#[112,111,114,116]⟩:ByteArray)).length:Int))) then (.next ((out++[(⟨(F83 (((Qa lines (⟨#[112,111,114,116]⟩:ByteArray)).getD (Int.toNat v12) default).getD (Int.toNat 2) default)).1.Addr,(F83 (((Qa lines (⟨#[112,111,114,116]⟩:ByteArray)).getD (Int.toNat v12) default).getD (Int.toNat 2) default)).1.Len⟩:Qb)]),(v12+1))) else (.done (out,v12))
def F194 (lines:List ByteArray):List Qb :=
 (runL (Vf lines) ((Int.toNat (((Qa lines (⟨#[112,111,114,116]⟩:ByteArray)).length:Int)-0))+1) (([]:List Qb),0)).fin (fun r=>r) (fun (out,v12)=>out)
abbrev Mi (lines:List ByteArray):Nat×(List Qb×Int):=(((Int.toNat (((Qa lines (⟨#[112,111,114,116]⟩:ByteArray)).length:Int)-0))+1),(([]:List Qb),0))
abbrev Qic (lines:List ByteArray) (m39:Nat) (out:List Qb) (v12:Int):Prop:=Int.toNat (((Qa lines (⟨#[112,111,114,116]⟩:ByteArray)).length:Int)-v12)<m39∧(out.length:Int)≤v12∧(0:Int)≤v12
abbrev Qpw (lines:List ByteArray):Lp (List Qb×Int) (List Qb):=LpX (Vf lines) (Mi lines)
abbrev Nq (lines:List ByteArray) (i:Nat×(List Qb×Int)):Prop:=LpJ (Vf lines) (Mi lines) i (Qic lines i.1 i.2.1 i.2.2)
abbrev Qva (lines:List ByteArray) (i:Nat×(List Qb×Int)) (m39:Nat) (out:List Qb) (v12:Int):Prop:=LpH (Vf lines) (Mi lines) i m39 (out,v12) (Qic lines (m39+1) out v12)
abbrev Quf (lines:List ByteArray) (out:List Qb) (v12:Int) (out_:List Qb) (v12_:Int) (K39:Prop):Prop:=(Rf (.int .i64 ((Qa lines (⟨#[112,111,114,116]⟩:ByteArray)).length:Int)))∧((.int .i64 v12:Value)=.int .i64 v12_)∧(Imp (.l 2 Qk out) (.l 2 Qk out_))∧(Im (.l 1 (eL 1 eStr) (Qa lines (⟨#[112,111,114,116]⟩:ByteArray))))∧K39
theorem Ukq (lines:List ByteArray) (i:Nat×(List Qb×Int)) (h:Nq lines i):Qva lines i (i.1-1) i.2.1 i.2.2:=⟨hd1 h.1 h.2.1,hd3 h.2.1,hd2 h.2.1,h.2.2⟩
theorem Ugx (lines:List ByteArray) (i:Nat×(List Qb×Int)) (m39:Nat) (out:List Qb) (v12:Int) (hl:m39<i.1) (e:runL (Vf lines) m39 (out,v12)=Qpw lines) (h:Qic lines m39 out v12):∃ j:Nat×(List Qb×Int),Quf lines out v12 j.2.1 j.2.2 (Nq lines j∧j.1<i.1):=⟨(m39,(out,v12)),rfl,rfl,Imp.refl _,Imp.refl _,⟨e,h⟩,hl⟩
theorem Uhp (lines:List ByteArray) (h:(([]:List Qb).length:Int)≤0∧(0:Int)≤0):Quf lines ([]:List Qb) 0 ([]:List Qb) 0 (Nq lines (Mi lines)):=⟨rfl,rfl,Imp.refl _,Imp.refl _,rfl,Nat.lt_succ_self _,h⟩
theorem fi194 (lines:List ByteArray) (r:List Qb) (hF:r=(F194 lines)):(Imp (.l 2 Qk r) (.l 2 Qk (F194 lines)))∧True:=by cases hF; exact ⟨Imp.refl _,trivial⟩
def S194 (R:List Qb) (lines:List ByteArray):Spec:=⟨[.r (.c (.l 1 eStr lines))],.ow (.l 2 Qk R),F64 lines=0∧lines.length≤16∧(∀ k:Nat,(lines.getD k default).size≤1048576)⟩
theorem ok194 (lines:List ByteArray):(S194 (F194 lines) lines).ok Tryz.prog 194 false :=
 Qi mixed (fn:=Tryz.f194) (ct:=.seqk [(0,0)] .no (.seq (.reg [(0,.dat (.l 2 Qk ([]:List Qb)))]) (.seq (.seqk [(3,0),(10,0)] (.reg [(1,Xb lines (⟨#[112,111,114,116]⟩:ByteArray))]) (.blk (.loop (ι:=Nat×(List Qb×Int)) (fun i=>(fun (out:List Qb) (v12:Int)=>(⟨[(3,some (.h 0 0)),(10,some (.h 1 0)),(11,some (.v (vI ((Qa lines (⟨#[112,111,114,116]⟩:ByteArray)).length:Int)))),(12,some (.v (vI v12)))],[(0,some (.own 0 (.l 2 Qk out))),(1,some (.own 1 (.l 1 (eL 1 eStr) (Qa lines (⟨#[112,111,114,116]⟩:ByteArray)))))],2⟩:St)) i.2.1 i.2.2) (Nq lines) (fun i=>i.1) (Mi lines) (fun i=>(fun (out:List Qb) (v12:Int)=>(.seq .no (.seq (.cond .no .no) (.seq (.blk (.seq .no (.seq (.reg [(3,kh83 (((Qa lines (⟨#[112,111,114,116]⟩:ByteArray)).getD (Int.toNat v12) default).getD (Int.toNat 2) default))]) (.reg [(3,.dat (.l 2 Qk (out++[(⟨(F83 (((Qa lines (⟨#[112,111,114,116]⟩:ByteArray)).getD (Int.toNat v12) default).getD (Int.toNat 2) default)).1.Addr,(F83 (((Qa lines (⟨#[112,111,114,116]⟩:ByteArray)).getD (Int.toNat v12) default).getD (Int.toNat 2) default)).1.Len⟩:Qb)])))])))) (.reg [(0,.bnd)]))))) i.2.1 i.2.2)))) (.seq .no .no)))) Tryz.func194 (fun (hp:F64 lines=0∧lines.length≤16∧(∀ k:Nat,(lines.getD k default).size≤1048576))=>have hpre0:=hp.1; have hpre1:=hp.2.1; have hpre2:=hp.2.2; kn lines fun _=>ai (bokr 2 Qk ([]:List Qb) fun _=>rfl) (Hj lines (⟨#[112,111,114,116]⟩:ByteArray) (by omega) (by assumption) (by omega) (fun gv1=>kn ([]:List Qb) fun _=>kn (Qa lines (⟨#[112,111,114,116]⟩:ByteArray)) fun _=>ai (Uhp lines (by refine ⟨?_,?_⟩ <;> (simp only [lens,ib] at*<;> omega))) (fun (i0:Nat×(List Qb×Int)) (hi0:Nq lines i0)=>(fun (m0:Nat) (out:List Qb) (v12:Int) (hh0:Qva lines i0 m0 out v12)=>have hI0:=hh0.1; have hl0:=hh0.2.1; have _:=hh0.2.2.1; have _:=hh0.2.2.2; ifd (v12<((Qa lines (⟨#[112,111,114,116]⟩:ByteArray)).length:Int)) (fun h3 _=>ai (by (omega):0≤v12∧v12<((Qa lines (⟨#[112,111,114,116]⟩:ByteArray)).length:Int)) (ai (by (have h9:=Ugn lines (by omega) (Int.toNat v12) (by omega); unfold Jm at h9; omega):0≤(2:Int)∧(2:Int)<(((Qa lines (⟨#[112,111,114,116]⟩:ByteArray)).getD (Int.toNat v12) default).length:Int)) (kc83 (((Qa lines (⟨#[112,111,114,116]⟩:ByteArray)).getD (Int.toNat v12) default).getD (Int.toNat 2) default) (by exact Yq lines _ (by omega) _ _) (ai (appr 2 Qk out [(⟨(F83 (((Qa lines (⟨#[112,111,114,116]⟩:ByteArray)).getD (Int.toNat v12) default).getD (Int.toNat 2) default)).1.Addr,(F83 (((Qa lines (⟨#[112,111,114,116]⟩:ByteArray)).getD (Int.toNat v12) default).getD (Int.toNat 2) default)).1.Len⟩:Qb)] fun _=>rfl) (ai (by (try simp only [lens]); omega:(out++[(⟨(F83 (((Qa lines (⟨#[112,111,114,116]⟩:ByteArray)).getD (Int.toNat v12) default).getD (Int.toNat 2) default)).1.Addr,(F83 (((Qa lines (⟨#[112,111,114,116]⟩:ByteArray)).getD (Int.toNat v12) default).getD (Int.toNat 2) default)).1.Len⟩:Qb)]).length*16≤140737488355328) (ai (iok (v12+1) (by omega)) (Ugx lines i0 m0 (out++[(⟨(F83 (((Qa lines (⟨#[112,111,114,116]⟩:ByteArray)).getD (Int.toNat v12) default).getD (Int.toNat 2) default)).1.Addr,(F83 (((Qa lines (⟨#[112,111,114,116]⟩:ByteArray)).getD (Int.toNat v12) default).getD (Int.toNat 2) default)).1.Len⟩:Qb)]) (v12+1) hl0 (Qe hI0 (condT h3 rfl)) (by refine ⟨?_,?_,?_⟩ <;> (simp only [lens,ib] at*<;> omega))))))))) (fun h3 _=>have hD0_4:Qpw lines=Lp.done (out,v12):=Qj hI0 (condF h3 rfl); fi194 lines out (finD hD0_4 rfl))) (i0.1-1) i0.2.1 i0.2.2 (Ukq lines i0 hi0))))) (by kernel_rfl)
def F191 (w1:List ByteArray):Bool :=
 ((w1.getD (Int.toNat 2) default).toList==(⟨#[97,108,108]⟩:ByteArray).toList)
def S191 (w1:List ByteArray):Spec:=⟨[.r (.c (.l 1 eStr w1))],.v (.bool (F191 w1)),Wq w1⟩
theorem ok191 (w1:List ByteArray):(S191 w1).ok Tryz.prog 191 :=
 Qi mixed (fn:=Tryz.f191) (ct:=.seqk [(0,0)] .no (.seq .no .no)) Tryz.func191 (fun (hpre0:Wq w1)=>kn w1 fun _=>ai (by (have h9:=hpre0; unfold Wq at h9; omega):0≤(2:Int)∧(2:Int)<(w1.length:Int)) (fiB ((w1.getD (Int.toNat 2) default).toList==(⟨#[97,108,108]⟩:ByteArray).toList) (F191 w1) rfl)) (by kernel_rfl)
def Vv (Q:(List ByteArray)→Prop) (p:(List ByteArray)→Bool):Uw:=⟨List ByteArray,fun i=>[.c (.x (PX (.l 1 eStr i) (Q i)))],fun i=>.bool (p i)⟩
def Tk (s:List (List ByteArray)) (f:(List ByteArray)→Bool):Int→Lp Int Int:=fun v8 =>
 bif (decide (v8<(s.length:Int))) then (bif (f (s.getD (Int.toNat v8) default)) then (.ret v8) else (.next (v8+1))) else (.done v8)
def F92 (s:List (List ByteArray)) (f:(List ByteArray)→Bool):Int :=
 (runL (Tk s f) ((Int.toNat ((s.length:Int)-0))+1) 0).fin (fun r=>r) (fun v8=>(-1))
abbrev Qcp (s:List (List ByteArray)):Nat×Int:=(((Int.toNat ((s.length:Int)-0))+1),0)
abbrev Qnc (s:List (List ByteArray)) (m39:Nat) (v8:Int):Prop:=Int.toNat ((s.length:Int)-v8)<m39∧(0:Int)≤v8
abbrev Ufb (s:List (List ByteArray)) (f:(List ByteArray)→Bool):Lp Int Int:=LpX (Tk s f) (Qcp s)
abbrev Qbb (s:List (List ByteArray)) (f:(List ByteArray)→Bool) (i:Nat×Int):Prop:=LpJ (Tk s f) (Qcp s) i (Qnc s i.1 i.2)
abbrev Ubk (s:List (List ByteArray)) (f:(List ByteArray)→Bool) (i:Nat×Int) (m39:Nat) (v8:Int):Prop:=LpH (Tk s f) (Qcp s) i m39 v8 (Qnc s (m39+1) v8)
abbrev Ucq (Qf:(List ByteArray)→Prop) (s:List (List ByteArray)) (f:(List ByteArray)→Bool) (v8:Int) (v8_:Int) (K39:Prop):Prop:=(Rf (.int .i64 (s.length:Int)))∧((.int .i64 v8:Value)=.int .i64 v8_)∧(Im (.l 1 (eL 1 eStr) s))∧(Vv Qf f=Vv Qf f)∧K39
theorem un92_0 (s:List (List ByteArray)) (f:(List ByteArray)→Bool) (i:Nat×Int) (h:Qbb s f i):Ubk s f i (i.1-1) i.2:=⟨hd1 h.1 h.2.1,hd3 h.2.1,hd2 h.2.1,h.2.2⟩
theorem bk92_0 (Qf:(List ByteArray)→Prop) (s:List (List ByteArray)) (f:(List ByteArray)→Bool) (i:Nat×Int) (m39:Nat) (v8:Int) (hl:m39<i.1) (e:runL (Tk s f) m39 v8=Ufb s f) (h:Qnc s m39 v8):∃ j:Nat×Int,Ucq Qf s f v8 j.2 (Qbb s f j∧j.1<i.1):=⟨(m39,v8),rfl,rfl,Imp.refl _,rfl,⟨e,h⟩,hl⟩
theorem en92_0 (Qf:(List ByteArray)→Prop) (s:List (List ByteArray)) (f:(List ByteArray)→Bool) (h:(0:Int)≤0):Ucq Qf s f 0 0 (Qbb s f (Qcp s)):=⟨rfl,rfl,Imp.refl _,rfl,rfl,Nat.lt_succ_self _,h⟩
def S92 (R:Int) (s:List (List ByteArray)) (f:(List ByteArray)→Bool) (Qf:(List ByteArray)→Prop):Spec:=⟨[.r (.c (.l 1 (eL 1 eStr) s)),.fn (Vv Qf f)],.v (vI R),(∀ k:Nat,k<s.length→Qf (s.getD k default))⟩
theorem ok92 (s:List (List ByteArray)) (f:(List ByteArray)→Bool) (Qf:(List ByteArray)→Prop):(S92 (F92 s f) s f Qf).ok Tryz.prog 92 false :=
 Qi mixed (fn:=Tryz.f92) (ct:=.seqk [(0,0)] .no (.seq (.seqk [(0,0)] .no (.blk (.loop (ι:=Nat×Int) (fun i=>(fun (v8:Int)=>(⟨[(0,some (.h 0 0)),(1,some (.h 1 0)),(7,some (.v (vI (s.length:Int)))),(8,some (.v (vI v8)))],[(0,some (.shr none (.l 1 (eL 1 eStr) s))),(1,some (.fn (Vv Qf f)))],2⟩:St)) i.2) (Qbb s f) (fun i=>i.1) (Qcp s) (fun i=>(fun (v8:Int)=>(.seq .no (.seq (.cond .no .no) (.seq (.blk (.seq .no (.seq (.reg [(5,.fnv (Vv Qf f) (s.getD (Int.toNat v8) default))]) (.cond (.seq .no .no) .no)))) (.reg [(0,.bnd)]))))) i.2)))) (.seq .no .no))) Tryz.func92 (fun (hpre0:∀ k:Nat,k<s.length→Qf (s.getD k default))=>kn s fun _=>kn s fun _=>ai (en92_0 Qf s f (by omega)) (fun (i0:Nat×Int) (hi0:Qbb s f i0)=>(fun (m0:Nat) (v8:Int) (hh0:Ubk s f i0 m0 v8)=>have hI0:=hh0.1; have hl0:=hh0.2.1; have _:=hh0.2.2.1; have _:=hh0.2.2.2; ifd (v8<(s.length:Int)) (fun h2 _=>ai (by omega:ib v8 s) (ai (Eq.refl (Vv Qf f)) (ai (Imp.px (d:=.l 1 eStr (s.getD (Int.toNat v8) default)) (hpre0 (Int.toNat v8) (by omega))) (ifb (f (s.getD (Int.toNat v8) default)) (fun h3=>fiI v8 (F92 s f) (finR (Qr hI0 (condT h2 (condT h3 rfl))) rfl)) (fun h3=>ai (iok (v8+1) (by omega)) (bk92_0 Qf s f i0 m0 (v8+1) hl0 (Qe hI0 (condT h2 (condF h3 rfl))) (by refine ⟨?_,?_⟩ <;> omega))))))) (fun h2 _=>have hD0_4:Ufb s f=Lp.done v8:=Qj hI0 (condF h2 rfl); fiI (-1) (F92 s f) (finD hD0_4 rfl))) (i0.1-1) i0.2 (un92_0 s f i0 hi0))) (by kernel_rfl)
theorem as92 (s:List (List ByteArray)) (f:(List ByteArray)→Bool):F92 s f=(idxI f s):=by
 exact Vs f s (Tk s f) (fun i=>rfl)
theorem oa92 (s:List (List ByteArray)) (f:(List ByteArray)→Bool) (Qf:(List ByteArray)→Prop):(S92 (idxI f s) s f Qf).ok Tryz.prog 92 false:=by
 intro hp; have h:=ok92 s f Qf hp; rw [as92 s f] at h; exact h
theorem g92_0 (s:List (List ByteArray)) (f:(List ByteArray)→Bool):(idxI f s)<(s.length:Int):=by
 exact Mj f s
theorem g92_1 (s:List (List ByteArray)) (f:(List ByteArray)→Bool):-1≤(idxI f s):=by
 (show -1≤idxI f s; unfold idxI; cases first (fun k=>f (s.getD k default)) s.length <;> simp only [oix] <;> omega)
theorem kc92a (s:List (List ByteArray)) (f:(List ByteArray)→Bool) (Qf:(List ByteArray)→Prop) {K_:Prop} (p0_:∀ k:Nat,k<s.length→Qf (s.getD k default)) (k_:((idxI f s)<(s.length:Int))→(-1≤(idxI f s))→K_):(∀ k:Nat,k<s.length→Qf (s.getD k default))∧(Imp (.l 1 (eL 1 eStr) s) (.l 1 (eL 1 eStr) s))∧(Vv Qf f=Vv Qf f)∧K_:=⟨p0_,Imp.refl _,rfl,k_ (g92_0 s f) (g92_1 s f)⟩
abbrev kh92a (s:List (List ByteArray)) (f:(List ByteArray)→Bool) (Qf:(List ByteArray)→Prop):Hint false Tryz.prog:=.call 92 (S92 (idxI f s) s f Qf) (oa92 s f Qf) none
def F190 (s:List (List ByteArray)) (f:(List ByteArray)→Bool):Bool :=
 decide ((idxI f s)≥0)
def S190 (R:Bool) (s:List (List ByteArray)) (f:(List ByteArray)→Bool) (Qf:(List ByteArray)→Prop):Spec:=⟨[.r (.c (.l 1 (eL 1 eStr) s)),.fn (Vv Qf f)],.v (.bool R),(∀ k:Nat,k<s.length→Qf (s.getD k default))⟩
theorem ok190 (s:List (List ByteArray)) (f:(List ByteArray)→Bool) (Qf:(List ByteArray)→Prop):(S190 (F190 s f) s f Qf).ok Tryz.prog 190 false :=
 Qi mixed (fn:=Tryz.f190) (ct:=.seqk [(0,0)] .no (.seq (.reg [(2,kh92a s f Qf)]) .no)) Tryz.func190 (fun (hpre0:∀ k:Nat,k<s.length→Qf (s.getD k default))=>kn s fun _=>kc92a s f Qf (by assumption) (fun gv1 gv2=>fiB (decide ((idxI f s)≥0)) (F190 s f) rfl)) (by kernel_rfl)
theorem as190 (s:List (List ByteArray)) (f:(List ByteArray)→Bool):F190 s f=(s.any f):=by
 exact Es f s
theorem oa190 (s:List (List ByteArray)) (f:(List ByteArray)→Bool) (Qf:(List ByteArray)→Prop):(S190 (s.any f) s f Qf).ok Tryz.prog 190 false:=by
 intro hp; have h:=ok190 s f Qf hp; rw [as190 s f] at h; exact h
def F162 (lines:List ByteArray):Bool :=
 (!((Qa lines (⟨#[117,115,101,114]⟩:ByteArray)).any (fun (x0:List ByteArray)=>F191 x0)))
def S162 (lines:List ByteArray):Spec:=⟨[.r (.c (.l 1 eStr lines))],.v (.bool (F162 lines)),F64 lines=0∧lines.length≤16∧(∀ k:Nat,(lines.getD k default).size≤1048576)⟩
theorem ok162 (lines:List ByteArray):(S162 lines).ok Tryz.prog 162 false :=
 Qi mixed (fn:=Tryz.f162) (ct:=.seqk [(0,0)] .no (.seq (.reg [(1,Xb lines (⟨#[117,115,101,114]⟩:ByteArray)),(2,.call 190 (S190 ((Qa lines (⟨#[117,115,101,114]⟩:ByteArray)).any (fun (x0:List ByteArray)=>F191 x0)) (Qa lines (⟨#[117,115,101,114]⟩:ByteArray)) (fun (x0:List ByteArray)=>F191 x0) (fun (x0:List ByteArray)=>Wq x0)) (oa190 (Qa lines (⟨#[117,115,101,114]⟩:ByteArray)) (fun (x0:List ByteArray)=>F191 x0) (fun (x0:List ByteArray)=>Wq x0)) (some ⟨true,191,Vv (fun (x0:List ByteArray)=>Wq x0) (fun (x0:List ByteArray)=>F191 x0),[],rfl,True,fun i=>Bw (ok191 i)⟩))]) .no)) Tryz.func162 (fun (hp:F64 lines=0∧lines.length≤16∧(∀ k:Nat,(lines.getD k default).size≤1048576))=>have hpre0:=hp.1; have hpre1:=hp.2.1; have hpre2:=hp.2.2; kn lines fun _=>Hj lines (⟨#[117,115,101,114]⟩:ByteArray) (by omega) (by assumption) (by omega) (fun gv1=>ai (by exact Uhm lines (by omega):∀ k:Nat,k<(Qa lines (⟨#[117,115,101,114]⟩:ByteArray)).length→(fun (x0:List ByteArray)=>Wq x0) ((Qa lines (⟨#[117,115,101,114]⟩:ByteArray)).getD k default)) (ai (Imp.refl (.l 1 (eL 1 eStr) (Qa lines (⟨#[117,115,101,114]⟩:ByteArray)))) (ai (Eq.refl (Vv (fun (x0:List ByteArray)=>Wq x0) (fun (x0:List ByteArray)=>F191 x0))) (ai trivial (fiB (!((Qa lines (⟨#[117,115,101,114]⟩:ByteArray)).any (fun (x0:List ByteArray)=>F191 x0))) (F162 lines) rfl)))))) (by kernel_rfl)
def Vj (lines:List ByteArray) (name:ByteArray):(Int×Int)→Lp (Int×Int) Int:=fun (n,v11) =>
 bif (decide (v11<((Qa lines (⟨#[114,117,108,101]⟩:ByteArray)).length:Int))) then (bif ((((Qa lines (⟨#[114,117,108,101]⟩:ByteArray)).getD (Int.toNat v11) default).getD (Int.toNat 1) default).toList==name.toList) then (.next ((n+1),(v11+1))) else (.next (n,(v11+1)))) else (.done (n,v11))
def F192 (lines:List ByteArray) (name:ByteArray):Int :=
 (runL (Vj lines name) ((Int.toNat (((Qa lines (⟨#[114,117,108,101]⟩:ByteArray)).length:Int)-0))+1) (0,0)).fin (fun r=>r) (fun (n,v11)=>n)
abbrev My (lines:List ByteArray):Nat×(Int×Int):=(((Int.toNat (((Qa lines (⟨#[114,117,108,101]⟩:ByteArray)).length:Int)-0))+1),(0,0))
abbrev Qjt (lines:List ByteArray) (m39:Nat) (n:Int) (v11:Int):Prop:=Int.toNat (((Qa lines (⟨#[114,117,108,101]⟩:ByteArray)).length:Int)-v11)<m39∧(0:Int)≤n∧(n:Int)≤v11∧(0:Int)≤n∧(0:Int)≤v11
abbrev Qro (lines:List ByteArray) (name:ByteArray):Lp (Int×Int) Int:=LpX (Vj lines name) (My lines)
abbrev Nc (lines:List ByteArray) (name:ByteArray) (i:Nat×(Int×Int)):Prop:=LpJ (Vj lines name) (My lines) i (Qjt lines i.1 i.2.1 i.2.2)
abbrev Qtx (lines:List ByteArray) (name:ByteArray) (i:Nat×(Int×Int)) (m39:Nat) (n:Int) (v11:Int):Prop:=LpH (Vj lines name) (My lines) i m39 (n,v11) (Qjt lines (m39+1) n v11)
abbrev Qse (lines:List ByteArray) (name:ByteArray) (n:Int) (v11:Int) (n_:Int) (v11_:Int) (K39:Prop):Prop:=(Rf (.string name))∧((.int .i64 n:Value)=.int .i64 n_)∧(Rf (.int .i64 ((Qa lines (⟨#[114,117,108,101]⟩:ByteArray)).length:Int)))∧((.int .i64 v11:Value)=.int .i64 v11_)∧(Im (.l 1 (eL 1 eStr) (Qa lines (⟨#[114,117,108,101]⟩:ByteArray))))∧K39
theorem Uiw (lines:List ByteArray) (name:ByteArray) (i:Nat×(Int×Int)) (h:Nc lines name i):Qtx lines name i (i.1-1) i.2.1 i.2.2:=⟨hd1 h.1 h.2.1,hd3 h.2.1,hd2 h.2.1,h.2.2⟩
theorem Qtb (lines:List ByteArray) (name:ByteArray) (i:Nat×(Int×Int)) (m39:Nat) (n:Int) (v11:Int) (hl:m39<i.1) (e:runL (Vj lines name) m39 (n,v11)=Qro lines name) (h:Qjt lines m39 n v11):∃ j:Nat×(Int×Int),Qse lines name n v11 j.2.1 j.2.2 (Nc lines name j∧j.1<i.1):=⟨(m39,(n,v11)),rfl,rfl,rfl,rfl,Imp.refl _,⟨e,h⟩,hl⟩
theorem Uiv (lines:List ByteArray) (name:ByteArray) (h:(0:Int)≤0∧(0:Int)≤0∧(0:Int)≤0∧(0:Int)≤0):Qse lines name 0 0 0 0 (Nc lines name (My lines)):=⟨rfl,rfl,rfl,rfl,Imp.refl _,rfl,Nat.lt_succ_self _,h⟩
def S192 (lines:List ByteArray) (name:ByteArray):Spec:=⟨[.r (.c (.l 1 eStr lines)),.r (.c (.v (.string name)))],.v (vI (F192 lines name)),F64 lines=0∧lines.length≤16∧(∀ k:Nat,(lines.getD k default).size≤1048576)⟩
theorem ok192 (lines:List ByteArray) (name:ByteArray):(S192 lines name).ok Tryz.prog 192 :=
 Qi mixed (fn:=Tryz.f192) (ct:=.seqk [(0,0)] .no (.seq .no (.seq (.seqk [(9,0)] (.reg [(1,kh82a lines (⟨#[114,117,108,101]⟩:ByteArray))]) (.blk (.loop (ι:=Nat×(Int×Int)) (fun i=>(fun (n:Int) (v11:Int)=>(⟨[(1,some (.v (.string name))),(5,some (.v (vI n))),(9,some (.h 0 0)),(10,some (.v (vI ((Qa lines (⟨#[114,117,108,101]⟩:ByteArray)).length:Int)))),(11,some (.v (vI v11)))],[(0,some (.own 0 (.l 1 (eL 1 eStr) (Qa lines (⟨#[114,117,108,101]⟩:ByteArray)))))],1⟩:St)) i.2.1 i.2.2) (Nc lines name) (fun i=>i.1) (My lines) (fun i=>(fun (n:Int) (v11:Int)=>(.seq .no (.seq (.cond .no .no) (.seq (.blk (.seq .no (.seq .no (.cond (.reg [(1,.bnd)]) .no)))) (.reg [(0,.bnd)]))))) i.2.1 i.2.2)))) (.seq .no .no)))) Tryz.func192 (fun (hp:F64 lines=0∧lines.length≤16∧(∀ k:Nat,(lines.getD k default).size≤1048576))=>have hpre0:=hp.1; have hpre1:=hp.2.1; have hpre2:=hp.2.2; kn lines fun _=>Hj lines (⟨#[114,117,108,101]⟩:ByteArray) (by omega) (by assumption) (by omega) (fun gv1=>kn (Qa lines (⟨#[114,117,108,101]⟩:ByteArray)) fun _=>ai (Uiv lines name (by refine ⟨?_,?_,?_,?_⟩ <;> omega)) (fun (i0:Nat×(Int×Int)) (hi0:Nc lines name i0)=>(fun (m0:Nat) (n:Int) (v11:Int) (hh0:Qtx lines name i0 m0 n v11)=>have hI0:=hh0.1; have hl0:=hh0.2.1; have _:=hh0.2.2.1; have _:=hh0.2.2.2; ifd (v11<((Qa lines (⟨#[114,117,108,101]⟩:ByteArray)).length:Int)) (fun h3 _=>ai (by (omega):0≤v11∧v11<((Qa lines (⟨#[114,117,108,101]⟩:ByteArray)).length:Int)) (ai (by (have h9:=Qvl lines (by omega) (Int.toNat v11) (by omega); unfold Wb at h9; omega):0≤(1:Int)∧(1:Int)<(((Qa lines (⟨#[114,117,108,101]⟩:ByteArray)).getD (Int.toNat v11) default).length:Int)) (ifb ((((Qa lines (⟨#[114,117,108,101]⟩:ByteArray)).getD (Int.toNat v11) default).getD (Int.toNat 1) default).toList==name.toList) (fun h4=>ai (iok (n+1) (by omega)) (ai (iok (v11+1) (by omega)) (Qtb lines name i0 m0 (n+1) (v11+1) hl0 (Qe hI0 (condT h3 (condT h4 rfl))) (by refine ⟨?_,?_,?_,?_,?_⟩ <;> omega)))) (fun h4=>ai (iok (v11+1) (by omega)) (Qtb lines name i0 m0 n (v11+1) hl0 (Qe hI0 (condT h3 (condF h4 rfl))) (by refine ⟨?_,?_,?_,?_,?_⟩ <;> omega)))))) (fun h3 _=>have hD0_5:Qro lines name=Lp.done (n,v11):=Qj hI0 (condF h3 rfl); fiI n (F192 lines name) (finD hD0_5 rfl))) (i0.1-1) i0.2.1 i0.2.2 (Uiw lines name i0 hi0)))) (by kernel_rfl)
theorem kc192 (lines:List ByteArray) (name:ByteArray) {K_:Prop} (p0_:F64 lines=0) (p1_:lines.length≤16) (p2_:∀ k:Nat,(lines.getD k default).size≤1048576) (k_:K_):(F64 lines=0∧lines.length≤16∧(∀ k:Nat,(lines.getD k default).size≤1048576))∧(Imp (.l 1 eStr lines) (.l 1 eStr lines))∧(Imp (.v (.string name)) (.v (.string name)))∧K_:=⟨⟨p0_,p1_,p2_⟩,Imp.refl _,Imp.refl _,k_⟩
abbrev kh192 (lines:List ByteArray) (name:ByteArray):Hint true Tryz.prog:=.call 192 (S192 lines name) (ok192 lines name) none
def F193 (w1:List ByteArray) (p1:List ByteArray):Bool :=
 decide ((F192 p1 (w1.getD (Int.toNat 1) default))>12)
def S193 (w1:List ByteArray) (p1:List ByteArray):Spec:=⟨[.r (.c (.l 1 eStr w1)),.rp ([.l 1 eStr p1])],.v (.bool (F193 w1 p1)),Wb w1∧F64 p1=0∧p1.length≤16∧(∀ k:Nat,(p1.getD k default).size≤1048576)⟩
theorem ok193 (w1:List ByteArray) (p1:List ByteArray):(S193 w1 p1).ok Tryz.prog 193 :=
 Qi mixed (fn:=Tryz.f193) (ct:=.seqk [(0,0)] .no (.seq (.reg [(4,kh192 p1 (w1.getD (Int.toNat 1) default))]) .no)) Tryz.func193 (fun (hp:Wb w1∧F64 p1=0∧p1.length≤16∧(∀ k:Nat,(p1.getD k default).size≤1048576))=>have hpre0:=hp.1; have hpre1:=hp.2.1; have hpre2:=hp.2.2.1; have hpre3:=hp.2.2.2; kn w1 fun _=>ai (by (have h9:=hpre0; unfold Wb at h9; omega):0≤(1:Int)∧(1:Int)<(w1.length:Int)) (kc192 p1 (w1.getD (Int.toNat 1) default) (by omega) (by omega) (by assumption) (fiB (decide ((F192 p1 (w1.getD (Int.toNat 1) default))>12)) (F193 w1 p1) rfl))) (by kernel_rfl)
theorem kg192 {K_:Prop} (c_ b_:Bool) (lines:List ByteArray) (name:ByteArray) (p_:c_=b_→F64 lines=0∧lines.length≤16∧(∀ k:Nat,(lines.getD k default).size≤1048576)) (k_:K_):(c_=b_→F64 lines=0∧lines.length≤16∧(∀ k:Nat,(lines.getD k default).size≤1048576))∧(c_=b_→Imp (.l 1 eStr lines) (.l 1 eStr lines))∧(c_=b_→Imp (.v (.string name)) (.v (.string name)))∧K_:=⟨p_,fun _=>Imp.refl _,fun _=>Imp.refl _,k_⟩
abbrev kh192f (lines:List ByteArray) (name:ByteArray):Hint false Tryz.prog:=.call 192 (S192 lines name) ((ok192 lines name).to false) none
def Js (lines:List ByteArray):Int→Lp Int Bool:=fun v8 =>
 bif (decide (v8<((Qa lines (⟨#[112,111,114,116]⟩:ByteArray)).length:Int))) then (bif (bif decide ((((Qa lines (⟨#[112,111,114,116]⟩:ByteArray)).getD (Int.toNat v8) default).length:Int)>4) then ((F192 lines (((Qa lines (⟨#[112,111,114,116]⟩:ByteArray)).getD (Int.toNat v8) default).getD (Int.toNat 4) default))==0) else false) then (.ret true) else (.next (v8+1))) else (.done v8)
def F163 (lines:List ByteArray):Bool :=
 (runL (Js lines) ((Int.toNat (((Qa lines (⟨#[112,111,114,116]⟩:ByteArray)).length:Int)-0))+1) 0).fin (fun r=>r) (fun v8=>((Qa lines (⟨#[114,117,108,101]⟩:ByteArray)).any (fun (x0:List ByteArray)=>F193 x0 lines)))
abbrev Md (lines:List ByteArray):Nat×Int:=(((Int.toNat (((Qa lines (⟨#[112,111,114,116]⟩:ByteArray)).length:Int)-0))+1),0)
abbrev Qjn (lines:List ByteArray) (m39:Nat) (v8:Int):Prop:=Int.toNat (((Qa lines (⟨#[112,111,114,116]⟩:ByteArray)).length:Int)-v8)<m39∧(0:Int)≤v8
abbrev Qst (lines:List ByteArray):Lp Int Bool:=LpX (Js lines) (Md lines)
abbrev Lj (lines:List ByteArray) (i:Nat×Int):Prop:=LpJ (Js lines) (Md lines) i (Qjn lines i.1 i.2)
abbrev Qsg (lines:List ByteArray) (i:Nat×Int) (m39:Nat) (v8:Int):Prop:=LpH (Js lines) (Md lines) i m39 v8 (Qjn lines (m39+1) v8)
abbrev Qrl (lines:List ByteArray) (v8:Int) (v8_:Int) (K39:Prop):Prop:=(Rf (.int .i64 ((Qa lines (⟨#[112,111,114,116]⟩:ByteArray)).length:Int)))∧((.int .i64 v8:Value)=.int .i64 v8_)∧(Im (.l 1 eStr lines))∧(Im (.l 1 (eL 1 eStr) (Qa lines (⟨#[112,111,114,116]⟩:ByteArray))))∧K39
theorem Ujm (lines:List ByteArray) (i:Nat×Int) (h:Lj lines i):Qsg lines i (i.1-1) i.2:=⟨hd1 h.1 h.2.1,hd3 h.2.1,hd2 h.2.1,h.2.2⟩
theorem Uhe (lines:List ByteArray) (i:Nat×Int) (m39:Nat) (v8:Int) (hl:m39<i.1) (e:runL (Js lines) m39 v8=Qst lines) (h:Qjn lines m39 v8):∃ j:Nat×Int,Qrl lines v8 j.2 (Lj lines j∧j.1<i.1):=⟨(m39,v8),rfl,rfl,Imp.refl _,Imp.refl _,⟨e,h⟩,hl⟩
theorem Ugb (lines:List ByteArray) (h:(0:Int)≤0):Qrl lines 0 0 (Lj lines (Md lines)):=⟨rfl,rfl,Imp.refl _,Imp.refl _,rfl,Nat.lt_succ_self _,h⟩
def S163 (lines:List ByteArray):Spec:=⟨[.r (.c (.l 1 eStr lines))],.v (.bool (F163 lines)),F64 lines=0∧lines.length≤16∧(∀ k:Nat,(lines.getD k default).size≤1048576)⟩
theorem ok163 (lines:List ByteArray):(S163 lines).ok Tryz.prog 163 false :=
 Qi mixed (fn:=Tryz.f163) (ct:=.seq .no (.seq (.seqk [(1,0),(6,0)] (.reg [(1,Xb lines (⟨#[112,111,114,116]⟩:ByteArray))]) (.blk (.loop (ι:=Nat×Int) (fun i=>(fun (v8:Int)=>(⟨[(1,some (.p 0 0)),(6,some (.h 2 0)),(7,some (.v (vI ((Qa lines (⟨#[112,111,114,116]⟩:ByteArray)).length:Int)))),(8,some (.v (vI v8)))],[(0,some (.box 22 [.h 1 0])),(1,some (.shr none (.l 1 eStr lines))),(2,some (.own 2 (.l 1 (eL 1 eStr) (Qa lines (⟨#[112,111,114,116]⟩:ByteArray)))))],3⟩:St)) i.2) (Lj lines) (fun i=>i.1) (Md lines) (fun i=>(fun (v8:Int)=>(.seq .no (.seq (.cond .no .no) (.seq (.blk (.seq .no (.seq (.reg [(8,kh192f lines (((Qa lines (⟨#[112,111,114,116]⟩:ByteArray)).getD (Int.toNat v8) default).getD (Int.toNat 4) default))]) (.cond (.seq .no .no) .no)))) (.reg [(0,.bnd)]))))) i.2)))) (.seq (.reg [(1,Xb lines (⟨#[114,117,108,101]⟩:ByteArray)),(3,.call 190 (S190 ((Qa lines (⟨#[114,117,108,101]⟩:ByteArray)).any (fun (x0:List ByteArray)=>F193 x0 lines)) (Qa lines (⟨#[114,117,108,101]⟩:ByteArray)) (fun (x0:List ByteArray)=>F193 x0 lines) (fun (x0:List ByteArray)=>Wb x0∧F64 lines=0∧lines.length≤16∧(∀ k:Nat,(lines.getD k default).size≤1048576))) (oa190 (Qa lines (⟨#[114,117,108,101]⟩:ByteArray)) (fun (x0:List ByteArray)=>F193 x0 lines) (fun (x0:List ByteArray)=>Wb x0∧F64 lines=0∧lines.length≤16∧(∀ k:Nat,(lines.getD k default).size≤1048576))) (some ⟨true,193,Vv (fun (x0:List ByteArray)=>Wb x0∧F64 lines=0∧lines.length≤16∧(∀ k:Nat,(lines.getD k default).size≤1048576)) (fun (x0:List ByteArray)=>F193 x0 lines),[.rp ([.l 1 eStr lines])],rfl,True,fun i=>Bw (ok193 i lines)⟩))]) .no))) Tryz.func163 (fun (hp:F64 lines=0∧lines.length≤16∧(∀ k:Nat,(lines.getD k default).size≤1048576))=>have hpre0:=hp.1; have hpre1:=hp.2.1; have hpre2:=hp.2.2; Hj lines (⟨#[112,111,114,116]⟩:ByteArray) (by omega) (by assumption) (by omega) (fun gv1=>kn lines fun _=>kn (Qa lines (⟨#[112,111,114,116]⟩:ByteArray)) fun _=>ai (Ugb lines (by omega)) (fun (i0:Nat×Int) (hi0:Lj lines i0)=>(fun (m0:Nat) (v8:Int) (hh0:Qsg lines i0 m0 v8)=>have hI0:=hh0.1; have hl0:=hh0.2.1; have _:=hh0.2.2.1; have _:=hh0.2.2.2; ifd (v8<((Qa lines (⟨#[112,111,114,116]⟩:ByteArray)).length:Int)) (fun h3 _=>ai (by omega:ib v8 (Qa lines (⟨#[112,111,114,116]⟩:ByteArray))) (ai (fun k4:(decide ((((Qa lines (⟨#[112,111,114,116]⟩:ByteArray)).getD (Int.toNat v8) default).length:Int)>4))=true=>have _:(((Qa lines (⟨#[112,111,114,116]⟩:ByteArray)).getD (Int.toNat v8) default).length:Int)>4:=of_decide_eq_true k4; (by omega:ib 4 ((Qa lines (⟨#[112,111,114,116]⟩:ByteArray)).getD (Int.toNat v8) default))) (kg192 (decide ((((Qa lines (⟨#[112,111,114,116]⟩:ByteArray)).getD (Int.toNat v8) default).length:Int)>4)) true lines (((Qa lines (⟨#[112,111,114,116]⟩:ByteArray)).getD (Int.toNat v8) default).getD (Int.toNat 4) default) (fun k5=>have _:(((Qa lines (⟨#[112,111,114,116]⟩:ByteArray)).getD (Int.toNat v8) default).length:Int)>4:=of_decide_eq_true k5; ⟨(by omega),(by omega),(by assumption)⟩) (ifb (bif decide ((((Qa lines (⟨#[112,111,114,116]⟩:ByteArray)).getD (Int.toNat v8) default).length:Int)>4) then ((F192 lines (((Qa lines (⟨#[112,111,114,116]⟩:ByteArray)).getD (Int.toNat v8) default).getD (Int.toNat 4) default))==0) else false) (fun h6=>have _:(((Qa lines (⟨#[112,111,114,116]⟩:ByteArray)).getD (Int.toNat v8) default).length:Int)>4:=of_decide_eq_true (Qn h6); have _:(F192 lines (((Qa lines (⟨#[112,111,114,116]⟩:ByteArray)).getD (Int.toNat v8) default).getD (Int.toNat 4) default))=0:=eq_of_beq (Qv h6); fiB true (F163 lines) (finR (Qr hI0 (condT h3 (condT h6 rfl))) rfl)) (fun h6=>ai (iok (v8+1) (by omega)) (Uhe lines i0 m0 (v8+1) hl0 (Qe hI0 (condT h3 (condF h6 rfl))) (by refine ⟨?_,?_⟩ <;> omega))))))) (fun h3 _=>have hD0_7:Qst lines=Lp.done v8:=Qj hI0 (condF h3 rfl); Hj lines (⟨#[114,117,108,101]⟩:ByteArray) (by omega) (by assumption) (by omega) (fun gv8=>ai (by exact fun k hk=>⟨Qvl lines (by omega) k hk,by omega,by omega,by assumption⟩:∀ k:Nat,k<(Qa lines (⟨#[114,117,108,101]⟩:ByteArray)).length→(fun (x0:List ByteArray)=>Wb x0∧F64 lines=0∧lines.length≤16∧(∀ k:Nat,(lines.getD k default).size≤1048576)) ((Qa lines (⟨#[114,117,108,101]⟩:ByteArray)).getD k default)) (ai (Imp.refl (.l 1 (eL 1 eStr) (Qa lines (⟨#[114,117,108,101]⟩:ByteArray)))) (ai (Eq.refl (Vv (fun (x0:List ByteArray)=>Wb x0∧F64 lines=0∧lines.length≤16∧(∀ k:Nat,(lines.getD k default).size≤1048576)) (fun (x0:List ByteArray)=>F193 x0 lines))) (ai trivial (ai (Imps.refl [.l 1 eStr lines]) (fiB ((Qa lines (⟨#[114,117,108,101]⟩:ByteArray)).any (fun (x0:List ByteArray)=>F193 x0 lines)) (F163 lines) (finD hD0_7 rfl))))))))) (i0.1-1) i0.2 (Ujm lines i0 hi0)))) (by kernel_rfl)
structure l52Cut where
 w:List ByteArray
 deriving DecidableEq,Inhabited
def Qh (x:l52Cut):List Dat:=[.l 1 eStr x.w]
def Bq (lines:List ByteArray):(List l52Cut×Int)→Lp (List l52Cut×Int) (List l52Cut):=fun (out,i40) =>
 bif (decide (i40<(lines.length:Int))) then (.next ((out++[(⟨(F97 (lines.getD (Int.toNat i40) default)).1⟩:l52Cut)]),(i40+1))) else (.done (out,i40))
def F65 (lines:List ByteArray):List l52Cut :=
 (runL (Bq lines) ((Int.toNat ((lines.length:Int)-0))+1) (([]:List l52Cut),0)).fin (fun r=>r) (fun (out,i40)=>out)
abbrev Qbr (lines:List ByteArray):Nat×(List l52Cut×Int):=(((Int.toNat ((lines.length:Int)-0))+1),(([]:List l52Cut),0))
abbrev Qne (lines:List ByteArray) (m39:Nat) (out:List l52Cut) (i40:Int):Prop:=Int.toNat ((lines.length:Int)-i40)<m39∧(out.length:Int)≤i40∧(0:Int)≤i40
abbrev Qyp (lines:List ByteArray):Lp (List l52Cut×Int) (List l52Cut):=LpX (Bq lines) (Qbr lines)
abbrev Qck (lines:List ByteArray) (i:Nat×(List l52Cut×Int)):Prop:=LpJ (Bq lines) (Qbr lines) i (Qne lines i.1 i.2.1 i.2.2)
abbrev Qyo (lines:List ByteArray) (i:Nat×(List l52Cut×Int)) (m39:Nat) (out:List l52Cut) (i40:Int):Prop:=LpH (Bq lines) (Qbr lines) i m39 (out,i40) (Qne lines (m39+1) out i40)
abbrev Uew (lines:List ByteArray) (out:List l52Cut) (i40:Int) (out_:List l52Cut) (i40_:Int) (K39:Prop):Prop:=((.int .i64 i40:Value)=.int .i64 i40_)∧(Im (.l 1 eStr lines))∧(Imp (.l 1 Qh out) (.l 1 Qh out_))∧K39
theorem un65_0 (lines:List ByteArray) (i:Nat×(List l52Cut×Int)) (h:Qck lines i):Qyo lines i (i.1-1) i.2.1 i.2.2:=⟨hd1 h.1 h.2.1,hd3 h.2.1,hd2 h.2.1,h.2.2⟩
theorem bk65_0 (lines:List ByteArray) (i:Nat×(List l52Cut×Int)) (m39:Nat) (out:List l52Cut) (i40:Int) (hl:m39<i.1) (e:runL (Bq lines) m39 (out,i40)=Qyp lines) (h:Qne lines m39 out i40):∃ j:Nat×(List l52Cut×Int),Uew lines out i40 j.2.1 j.2.2 (Qck lines j∧j.1<i.1):=⟨(m39,(out,i40)),rfl,Imp.refl _,Imp.refl _,⟨e,h⟩,hl⟩
theorem en65_0 (lines:List ByteArray) (h:(([]:List l52Cut).length:Int)≤0∧(0:Int)≤0):Uew lines ([]:List l52Cut) 0 ([]:List l52Cut) 0 (Qck lines (Qbr lines)):=⟨rfl,Imp.refl _,Imp.refl _,rfl,Nat.lt_succ_self _,h⟩
theorem fi65 (lines:List ByteArray) (r:List l52Cut) (hF:r=(F65 lines)):(Imp (.l 1 Qh r) (.l 1 Qh (F65 lines)))∧True:=by cases hF; exact ⟨Imp.refl _,trivial⟩
def S65 (R:List l52Cut) (lines:List ByteArray):Spec:=⟨[.r (.c (.l 1 eStr lines))],.ow (.l 1 Qh R),lines.length≤16∧(∀ k:Nat,(lines.getD k default).size≤1048576)⟩
theorem ok65 (lines:List ByteArray):(S65 (F65 lines) lines).ok Tryz.prog 65 :=
 Qi mixed (fn:=Tryz.f65) (ct:=.seqk [(0,0)] .no (.seq (.reg [(0,.dat (.l 1 Qh ([]:List l52Cut)))]) (.seq (.seqk [(0,0),(3,0)] .no (.blk (.loop (ι:=Nat×(List l52Cut×Int)) (fun i=>(fun (out:List l52Cut) (i40:Int)=>(⟨[(0,some (.h 0 0)),(3,some (.h 1 0)),(4,some (.v (vI i40)))],[(0,some (.shr none (.l 1 eStr lines))),(1,some (.own 1 (.l 1 Qh out)))],2⟩:St)) i.2.1 i.2.2) (Qck lines) (fun i=>i.1) (Qbr lines) (fun i=>(fun (out:List l52Cut) (i40:Int)=>(.seq (.seq .no (.cond .no .no)) (.seq (.blk (.seq (.reg [(4,kh97 (lines.getD (Int.toNat i40) default))]) (.reg [(4,.dat (.l 1 Qh (out++[(⟨(F97 (lines.getD (Int.toNat i40) default)).1⟩:l52Cut)])))]))) (.reg [(1,.bnd)])))) i.2.1 i.2.2)))) (.seq .no .no)))) Tryz.func65 (fun (hp:lines.length≤16∧(∀ k:Nat,(lines.getD k default).size≤1048576))=>have hpre0:=hp.1; have hpre1:=hp.2; kn lines fun _=>ai (bokr 1 Qh ([]:List l52Cut) fun _=>rfl) (kn lines fun _=>kn ([]:List l52Cut) fun _=>ai (en65_0 lines (by refine ⟨?_,?_⟩ <;> (simp only [lens,ib] at*<;> omega))) (fun (i0:Nat×(List l52Cut×Int)) (hi0:Qck lines i0)=>(fun (m0:Nat) (out:List l52Cut) (i40:Int) (hh0:Qyo lines i0 m0 out i40)=>have hI0:=hh0.1; have hl0:=hh0.2.1; have _:=hh0.2.2.1; have _:=hh0.2.2.2; ifd (i40<(lines.length:Int)) (fun h2 _=>ai (by omega:ib i40 lines) (kc97 (lines.getD (Int.toNat i40) default) (by exact hpre1 _) (fun gv3 gv4=>ai (appr 1 Qh out [(⟨(F97 (lines.getD (Int.toNat i40) default)).1⟩:l52Cut)] fun _=>rfl) (ai (by (try simp only [lens]); omega:(out++[(⟨(F97 (lines.getD (Int.toNat i40) default)).1⟩:l52Cut)]).length*24≤140737488355328) (ai (iok (i40+1) (by omega)) (bk65_0 lines i0 m0 (out++[(⟨(F97 (lines.getD (Int.toNat i40) default)).1⟩:l52Cut)]) (i40+1) hl0 (Qe hI0 (condT h2 rfl)) (by refine ⟨?_,?_,?_⟩ <;> (simp only [lens,ib] at*<;> omega)))))))) (fun h2 _=>have hD0_5:Qyp lines=Lp.done (out,i40):=Qj hI0 (condF h2 rfl); fi65 lines out (finD hD0_5 rfl))) (i0.1-1) i0.2.1 i0.2.2 (un65_0 lines i0 hi0)))) (by kernel_rfl)
def F77 (c:l52Cut) (k:Int):ByteArray :=
 bif (decide (k<(c.w.length:Int))) then (c.w.getD (Int.toNat k) default) else (⟨#[]⟩:ByteArray)
def S77 (c:l52Cut) (k:Int):Spec:=⟨[.r (.g (Qh c)),.r (.c (.v (vI k)))],.v (.string (F77 c k)),0≤k⟩
theorem ok77 (c:l52Cut) (k:Int):(S77 c k).ok Tryz.prog 77 :=
 Qi mixed (fn:=Tryz.f77) (ct:=.seq .no (.seq (.seq .no (.cond (.seq .no .no) .no)) (.seq .no .no))) Tryz.func77 (fun (hpre0:0≤k)=>ifd (k<(c.w.length:Int)) (fun h1 _=>ai (by omega:ib k c.w) (fiS (c.w.getD (Int.toNat k) default) (F77 c k) (condT h1 rfl))) (fun h1 _=>fiS w13_ (F77 c k) (condF h1 rfl))) (by kernel_rfl)
theorem Km (s:ByteArray):0≤(F83 s).1.Len∧(F83 s).1.Len≤16∧0≤(F83 s).1.Addr∧(F83 s).1.Addr≤65535:=by
 rw [Xd]
 cases h:pfxL s.data.toList with
 | none=>exact ⟨by decide,by decide,by decide,by decide⟩
 | some p =>
  obtain ⟨a,n⟩:=p
  have:=Qio h
  show 0≤n∧n≤16∧0≤a∧a≤65535
  omega
def Qo (lines:List ByteArray):List Qb:=(Qa lines (⟨#[112,111,114,116]⟩:ByteArray)).map fun w=>(F83 (w.getD 2 default)).1
theorem as194 (lines:List ByteArray):F194 lines=(Qo lines):=by
 unfold F194
 have:=Ye (Qa lines (⟨#[112,111,114,116]⟩:ByteArray)) (fun (s:List Qb) w=>s++[(F83 (w.getD 2 default)).1]) (fun s i=>(s,i)) (Vf lines) (fun i s hi=>by
  simp only [Vf,ltD hi,cond_true,nn]; rfl) (fun s=>by simp only [Vf,geD,cond_false]) (fun r=>r) (fun (out,v12)=>out) []
 refine this.trans ?_
 rw [Zp,List.nil_append]; rfl
theorem Qko (lines:List ByteArray):∀ p∈Qo lines,0≤p.Len∧p.Len≤16∧0≤p.Addr∧p.Addr≤65535:=fun p hp=>by
 obtain ⟨w,_,rfl⟩:=List.mem_map.1 hp
 exact Km _
theorem Ry (lines:List ByteArray):∀ k:Nat,0≤((Qo lines).getD k default).Len∧((Qo lines).getD k default).Len≤16:=fun k=>by
 by_cases hk:k<(Qo lines).length
 ·have:=Qko lines _ (Wg _ hk); omega
 ·rw [Ws _ (by omega)]; exact ⟨by decide,by decide⟩
theorem Qbv (lines:List ByteArray) (n k:Nat):0≤(((Qo lines).take n).getD k default).Len∧(((Qo lines).take n).getD k default).Len≤16:=by
 by_cases hk:k<((Qo lines).take n).length
 ·have:=Qko lines _ (List.mem_of_mem_take (Wg _ hk)); omega
 ·rw [Ws _ (by omega)]; exact ⟨by decide,by decide⟩
theorem Uaj:∀ k:Nat,(([]:List ByteArray).getD k default).size≤1048576:=fun k=>Nat.zero_le _
theorem Qpr {a:List ByteArray} {x:ByteArray} (h:∀ k:Nat,(a.getD k default).size≤1048576) (hx:x.size≤1048576):∀ k:Nat,((a++[x]).getD k default).size≤1048576:=fun k=>by
 rw [List.getD_eq_getElem?_getD,List.getElem?_append]
 split
 ·rw [← List.getD_eq_getElem?_getD]; exact h k
 ·cases hk:k-a.length with
  | zero=>exact hx
  | succ j=>exact Nat.zero_le _
theorem Qbi (lines:List ByteArray) (h:F64 lines=0) (n k:Nat) (hk:k<((Qa lines (⟨#[100,111,111,114]⟩:ByteArray)).take n).length):Wi (((Qa lines (⟨#[100,111,111,114]⟩:ByteArray)).take n).getD k default):=by
 rw [List.length_take] at hk
 have:=Gk lines h k (by omega)
 rw [List.getD_eq_getElem?_getD,List.getElem?_take,if_pos (by omega),← List.getD_eq_getElem?_getD]
 exact this
theorem as65 (lines:List ByteArray):F65 lines=(lines.map (fun l=>(⟨(F97 l).1⟩:l52Cut))):=by
 unfold F65
 have:=Ye lines (fun (s:List l52Cut) l=>s++[(⟨(F97 l).1⟩:l52Cut)]) (fun s i=>(s,i)) (Bq lines) (fun i s hi=>by
  simp only [Bq,ltD hi,cond_true,nn]; rfl) (fun s=>by simp only [Bq,geD,cond_false]) (fun r=>r) (fun (out,i40)=>out) []
 refine this.trans ?_
 rw [Zp,List.nil_append]
theorem Qie {c:l52Cut} (h:∀ j:Nat,(c.w.getD j default).size≤1048576) (k:Int):(F77 c k).size≤1048576:=by
 unfold F77
 cases decide (k<(c.w.length:Int)) with
 | true=>exact h _
 | false=>exact Nat.zero_le _
theorem Vn (all:List l52Cut) (h:∀ k j:Nat,((all.getD k default).w.getD j default).size≤1048576) (i:Nat) (k:Int):(F77 (all.getD i default) k).size≤1048576:=Qie (h i) k
end Go.Proofs.YtcgfkhokhiggkaaGreatDoor
